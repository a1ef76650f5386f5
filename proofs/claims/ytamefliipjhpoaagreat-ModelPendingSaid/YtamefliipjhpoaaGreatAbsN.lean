/- More steps: slices made, min and max, calls with objects; contracts with objects. -/
import Derived.Test.YtamefliipjhpoaaGreatAbsM2
import Derived.Laws.MakeOwn
set_option autoImplicit false
namespace Go.Proofs.YtamefliipjhpoaaGreat.Ab
open Go

section
variable {P : Program} {N : Fr} {ops : Array Oper} {i k n : Nat} {s s1 : St} {o : Oper} {R : Exit → St → Prop}

theorem madeCells_eq (z : Array Value) (m : Nat) : madeCells z m = (Array.range m).map (z[· % z.size]!) := rfl

theorem SStep.makeSlice {t e : TypeId} {x y : Operand} {d : Tmp} {m : Nm} {sz by_ c : Nat} {z : List A} {zd : List D} {kx ky : IntKind} (ho : ops[i]? = some o) (hop : o.op = .makeSlice t x y) (hd : o.dst = some d) (hdN : d < N.n) (hw : wantA ops s o = some true)
    (hel : elT P t = some e) (hem : elemT P e = some (sz, by_)) (hz : zeroT P e = some z) (hzd : toDs s z = some zd) (hx : s.ev x = .d (.v (.int kx c))) (hy : s.ev y = .d (.v (.int ky c))) (hb : (by_ : Int) * c ≤ 281474976710656) (hc : c ≤ 9223372036854775807) (hn : nmFor s.u (d :: s.p) = some m) :
    SStep P N ops i s ⟨upd s.t d (.os m sz 0 c), upd s.o m (.arr sz (List.replicate c zd)), upd s.u m true, s.p⟩ := by
  refine sstep_value ho hw rfl (fun φ Pr ac w hI => .inl ?_)
  obtain ⟨it, zv, hi, hzi, hzs, h0, rfl, rfl⟩ := elemT_some hem
  obtain ⟨zv', hz1, hz2⟩ := zeroT_rep w φ Pr hz
  have : zv' = zv := by
    have : (P.info? e).bind (·.zero) = some zv := by rw [hi]; exact hzi
    rw [this] at hz1; simp at hz1; exact hz1.symm
  subst this
  have hX := hI.ev x; rw [hx] at hX; have hX := hX.dv_eq
  have hY := hI.ev y; rw [hy] at hY; have hY := hY.dv_eq
  have hzr := zeros_rel hz2 c
  rw [hzs] at hzr
  have hzl : zd.length = it.size := by rw [← (toDs_get hzd).1, ← hz2.1, hzs]
  have hrun2 : (Instr.makeSlice t (ac.eval x) (ac.eval y)).run P w = .ok (.slice (some ⟨w.heap.size, 0, none⟩) c c) (w.alloc (.cells (madeCells zv'.cells (c * it.size)) e)) := by
    rw [hX, hY]
    have := run_make (P := P) (w := w) t e it zv' (elT_some hel) hi hzi kx ky (c : Int) (c : Int) (by omega) (by omega) hb (by omega)
    simpa using this
  refine ⟨.slice (some ⟨w.heap.size, 0, none⟩) c c, w.alloc (.cells (madeCells zv'.cells (c * it.size)) e), upd φ m (some ⟨some ⟨w.heap.size, 0, none⟩, c⟩), Pr, ?_, ?_⟩
  · unfold execOp; rw [hop]
    simp only [Sem.run_bind, hrun2, Result.andThen_ok]; rfl
  rw [hd]
  refine hI.born rfl rfl rfl rfl (nmFor_new hn) _ ⟨some ⟨w.heap.size, 0, none⟩, c⟩ (.arr it.size (List.replicate c zd)) (fun x hx => .inl (upd_ne _ _ hx)) (upd_same _ _ _) (fun hL => ?_) (fun b hb => ?_) hdN ?_
  · refine ⟨_, upd_same _ _ _, by simp, fun j row hj => ?_, fun _ => ⟨w.heap.size, 0, _, e, rfl, heap_alloc_get _ _, by simp [madeCells_eq], fun p row j q hp hj => ?_, fun r x hp => absurd (hI.heap.cell r _ x hp) (by omega)⟩⟩
    · rw [List.getElem?_replicate] at hj
      split at hj
      · simp at hj; subst hj; exact hzl
      · simp at hj
    · rw [List.getElem?_replicate] at hp
      split at hp
      · rename_i hpc
        simp at hp; subst hp
        obtain ⟨a, ha, hta⟩ := (toDs_get hzd).2 j q hj
        have hjl : j < it.size := by rw [← hzl]; exact (List.getElem?_eq_some_iff.1 hj).1
        have hle : (p + 1) * it.size ≤ c * it.size := Nat.mul_le_mul_right _ (by omega)
        rw [Nat.add_mul, Nat.one_mul] at hle
        have hq : ((List.replicate c z).flatten)[p * it.size + j]? = some a := by
          rw [flatten_replicate_get, ← hz2.1, hzs, if_pos (by omega), Nat.mul_comm, Nat.mul_add_mod, Nat.mod_eq_of_lt hjl]; exact ha
        have := hzr.2 _ _ hq
        rw [madeCells_eq, ← hzs] at *
        rw [Nat.zero_add]
        exact (toD_rep hI this.2 hta).later hL
      · simp at hp
  · simp only [blockOf, upd_same, Option.bind_some] at hb
    split at hb
    · simp at hb
    · simp at hb; exact hb.symm
  · have := ARep.os (w := w.alloc (.cells (madeCells zv'.cells (c * it.size)) e)) (Pr := Pr) (n := m) (k := it.size) (lo := 0) (len := c) (φ := upd φ m (some ⟨some ⟨w.heap.size, 0, none⟩, c⟩)) (l := ⟨some ⟨w.heap.size, 0, none⟩, c⟩) (a := some ⟨w.heap.size, 0, none⟩) (upd_same _ _ _) (by simp) (fun _ => ⟨w.heap.size, 0, rfl, by simp⟩)
    exact this

/-- min and max of two integers. -/
theorem SStep.max {c : Call} {x y : Operand} {k : IntKind} {a b : Int} {k2 : IntKind} (ho : ops[i]? = some o) (hop : o.op = .call c) (hcal : c.callee = .builtin .max) (hargs : c.args = #[x, y]) (hd : dstOk N o.dst = true) (hw : wantA ops s o = some true)
    (hx : s.ev x = .d (.v (.int k a))) (hy : s.ev y = .d (.v (.int k2 b))) : SStep P N ops i s (s.app (slotD o.dst (.d (.v (.int k (if b > a then b else a)))))) := by
  refine sstep_value ho hw rfl (fun φ Pr ac w hI => .inl ⟨.int k (if b > a then b else a), w, φ, Pr, ?_, hI.slot (Later.refl _ _ _) hI.heap hd (.d (.v rfl)), Adv.refl hI.heap⟩)
  have hX := hI.ev x; rw [hx] at hX; have hX := hX.dv_eq
  have hY := hI.ev y; rw [hy] at hY; have hY := hY.dv_eq
  unfold execOp; rw [hop]
  simp [resolve, hcal, hargs, invoke, builtin, Builtin.max_, Builtin.max2, hX, hY, Sem.run_bind]
theorem SStep.min {c : Call} {x y : Operand} {k : IntKind} {a b : Int} {k2 : IntKind} (ho : ops[i]? = some o) (hop : o.op = .call c) (hcal : c.callee = .builtin .min) (hargs : c.args = #[x, y]) (hd : dstOk N o.dst = true) (hw : wantA ops s o = some true)
    (hx : s.ev x = .d (.v (.int k a))) (hy : s.ev y = .d (.v (.int k2 b))) : SStep P N ops i s (s.app (slotD o.dst (.d (.v (.int k (if b < a then b else a)))))) := by
  refine sstep_value ho hw rfl (fun φ Pr ac w hI => .inl ⟨.int k (if b < a then b else a), w, φ, Pr, ?_, hI.slot (Later.refl _ _ _) hI.heap hd (.d (.v rfl)), Adv.refl hI.heap⟩)
  have hX := hI.ev x; rw [hx] at hX; have hX := hX.dv_eq
  have hY := hI.ev y; rw [hy] at hY; have hY := hY.dv_eq
  unfold execOp; rw [hop]
  simp [resolve, hcal, hargs, invoke, builtin, Builtin.min_, Builtin.min2, hX, hY, Sem.run_bind]

/-- A call with objects, as a step. -/
theorem SStep.ocall {c : Call} {g : Operand} {f : FuncId} {caps args : List A} {r : A} {o' : Nm → Ob} {u' : Nm → Bool} (ho : ops[i]? = some o) (hop : o.op = .call c) (hcal : c.callee = .value g) (hg : s.ev g = .fn f caps) (hw : wantA ops s o = some true)
    (hdN : dstOk N o.dst = true) (hargs : (c.args.toList.map s.ev) ++ caps = args) (hs : OSpec P f args s.o s.u r o' u') : SStep P N ops i s ⟨match o.dst with | some d => upd s.t d r | none => s.t, o', u', s.p⟩ := ⟨rfl, fun φ Pr ac w Q K hI hK => by
  unfold wpOp
  rw [ho]
  simp only []
  rw [wantA_rep hI hw, if_pos rfl]
  left
  have hev := hI.ev g
  rw [hg] at hev
  have e1 : ∃ xs, ac.eval g = .func (.func f) #[] xs ∧ xs.size = caps.length ∧ ∀ (j : Nat) (a : A), caps[j]? = some a → ARep w φ Pr (xs.getD j undef) a := by
    generalize ac.eval g = z at hev
    cases hev with
    | fn hn h => exact ⟨_, rfl, hn, h⟩
  obtain ⟨xs, e1, e2, e3⟩ := e1
  have hrun : (execOp ac.eval o).run P w = .ok (.enter f (c.args.map ac.eval ++ xs)) w := by
    unfold execOp; rw [hop]
    simp only [resolve, hcal, e1, Deferred.ofValue, Sem.run_bind, Sem.run_pure, Result.andThen_ok, invoke]
    have := hs.enters (c.args.map ac.eval ++ xs) w
    simpa using this
  unfold Oper.wp
  rw [hrun]
  have har : ArgsRep w φ Pr (c.args.map ac.eval ++ xs) args := by
    subst hargs
    refine ⟨by simp [e2], fun j a hj => ?_⟩
    by_cases hlt : j < c.args.size
    · rw [List.getElem?_append_left (by simpa using hlt), List.getElem?_map] at hj
      cases hq : c.args.toList[j]? with
      | none => simp [hq] at hj
      | some x =>
        simp [hq] at hj; subst hj
        have hq' : c.args[j]? = some x := by rw [← Array.getElem?_toList]; exact hq
        have e : (c.args.map ac.eval ++ xs).getD j undef = ac.eval x := by
          rw [Array.getD_eq_getD_getElem?, Array.getElem?_append_left (by simpa using hlt)]
          simp [hq']
        rw [e]; exact hI.ev x
    · rw [List.getElem?_append_right (by simpa using hlt)] at hj
      have e : (c.args.map ac.eval ++ xs).getD j undef = xs.getD (j - c.args.size) undef := by
        rw [Array.getD_eq_getD_getElem?, Array.getElem?_append_right (by simpa using hlt), Array.getD_eq_getD_getElem?]
        simp
      rw [e]
      exact e3 _ a (by simpa using hj)
  refine (hs.calls w φ Pr _ hI.heap hI.used har).mono ?_
  rintro e w' ⟨v, φ', Pr', rfl, hH, hu2, hA, hv⟩
  have hL := hA.later hI.heap hA.map
  cases hd : o.dst with
  | some d =>
    rw [hd] at hdN hK
    exact hK φ' Pr' _ w' (hI.put hL hH hu2 (by simpa [dstOk] using hdN) hv) (hA.went _)
  | none =>
    rw [hd] at hK
    exact hK φ' Pr' _ w' (hI.later hL hH hu2) (hA.went _)⟩

/-! ### The same for rows of operations -/
theorem WX.semE {s2 : St} (h : SStep P N ops k s s2) (e : s2 = s1) (t : WX P N ops (k + 1) n s1 R) : WX P N ops k (n + 1) s R := by
  subst e; exact .sem h t
theorem WX.ocall {c : Call} {g : Operand} {f : FuncId} {caps args : List A} {r : A} {o' : Nm → Ob} {u' : Nm → Bool} (ho : ops[k]? = some o) (hop : o.op = .call c) (hcal : c.callee = .value g) (hg : s.ev g = .fn f caps) (hdN : dstOk N o.dst = true) (hw : wantA ops s o = some true)
    (hargs : (c.args.toList.map s.ev) ++ caps = args) (hs : OSpec P f args s.o s.u r o' u') (e : (⟨match o.dst with | some d => upd s.t d r | none => s.t, o', u', s.p⟩ : St) = s1) (t : WX P N ops (k + 1) n s1 R) : WX P N ops k (n + 1) s R := .semE (.ocall ho hop hcal hg hw hdN hargs hs) e t
theorem WX.look {t kt et : TypeId} {x y : Operand} {ck : Bool} {m : Nm} {es : List (A × A)} {r : Option (Nat × A)} {z : A} (ho : ops[k]? = some o) (hop : o.op = .lookup t x y ck) (hd : dstOk N o.dst = true)
    (hu : P.underlying t = some (.map kt et)) (hw : wantA ops s o = some true) (hz : zeroA P et = some z) (hx : s.ev x = .mp m) (hn : s.o m = .map es) (hk : keyOk P kt (s.ev y) = true) (hf : findA P kt (s.ev y) es 0 = some r) (e : s.app (slotD o.dst (lookA ck r z)) = s1) (t : WX P N ops (k + 1) n s1 R) : WX P N ops k (n + 1) s R :=
  .semE (.lookup ho hop hd hw hu hz hx hn hk hf) e t
theorem WX.mapUpd {t kt et : TypeId} {x y v : Operand} {m : Nm} {es es' : List (A × A)} {r : Option (Nat × A)} (ho : ops[k]? = some o) (hop : o.op = .mapUpdate t x y v) (hd : o.dst = none) (hu : P.underlying t = some (.map kt et))
    (hw : wantA ops s o = some true) (hx : s.ev x = .mp m) (hn : s.o m = .map es) (hk : keyOk P kt (s.ev y) = true) (hf : findA P kt (s.ev y) es 0 = some r)
    (hold : ∀ j a, r = some (j, a) → (es[j]?).map (·.1) = some (s.ev y)) (he : putA (s.ev y) (s.ev v) r es = es') (e : (⟨s.t, upd s.o m (.map es'), s.u, s.p⟩ : St) = s1) (t : WX P N ops (k + 1) n s1 R) : WX P N ops k (n + 1) s R :=
  .semE (.mapUpdate ho hop hd hw hu hx hn hk hf hold he) e t
theorem WX.mkMap {t : TypeId} {d : Tmp} {m : Nm} (ho : ops[k]? = some o) (hop : o.op = .makeMap t none) (hd : o.dst = some d) (hdN : d < N.n) (hw : wantA ops s o = some true) (hn : nmFor s.u (d :: s.p) = some m)
    (e : (⟨upd s.t d (.mp m), upd s.o m (.map []), upd s.u m true, s.p⟩ : St) = s1) (t : WX P N ops (k + 1) n s1 R) : WX P N ops k (n + 1) s R := .semE (.makeMap ho hop hd hdN hw hn) e t
theorem WX.mkSlice {t e : TypeId} {x y : Operand} {d : Tmp} {m : Nm} {sz by_ c : Nat} {z : List A} {zd : List D} {kx ky : IntKind} (ho : ops[k]? = some o) (hop : o.op = .makeSlice t x y) (hd : o.dst = some d) (hdN : d < N.n) (hw : wantA ops s o = some true)
    (hel : elT P t = some e) (hem : elemT P e = some (sz, by_)) (hz : zeroT P e = some z) (hzd : toDs s z = some zd) (hx : s.ev x = .d (.v (.int kx c))) (hy : s.ev y = .d (.v (.int ky c))) (hb : (by_ : Int) * c ≤ 281474976710656) (hc : c ≤ 9223372036854775807) (hn : nmFor s.u (d :: s.p) = some m)
    (e : (⟨upd s.t d (.os m sz 0 c), upd s.o m (.arr sz (List.replicate c zd)), upd s.u m true, s.p⟩ : St) = s1) (t : WX P N ops (k + 1) n s1 R) : WX P N ops k (n + 1) s R := .semE (.makeSlice ho hop hd hdN hw hel hem hz hzd hx hy hb hc hn) e t
theorem WX.max {c : Call} {x y : Operand} {q : IntKind} {a b : Int} {q2 : IntKind} (ho : ops[k]? = some o) (hop : o.op = .call c) (hcal : c.callee = .builtin .max) (hargs : c.args = #[x, y]) (hd : dstOk N o.dst = true) (hw : wantA ops s o = some true)
    (hx : s.ev x = .d (.v (.int q a))) (hy : s.ev y = .d (.v (.int q2 b))) (e : s.app (slotD o.dst (.d (.v (.int q (if b > a then b else a))))) = s1) (t : WX P N ops (k + 1) n s1 R) : WX P N ops k (n + 1) s R := .semE (.max ho hop hcal hargs hd hw hx hy) e t
theorem WX.min {c : Call} {x y : Operand} {q : IntKind} {a b : Int} {q2 : IntKind} (ho : ops[k]? = some o) (hop : o.op = .call c) (hcal : c.callee = .builtin .min) (hargs : c.args = #[x, y]) (hd : dstOk N o.dst = true) (hw : wantA ops s o = some true)
    (hx : s.ev x = .d (.v (.int q a))) (hy : s.ev y = .d (.v (.int q2 b))) (e : s.app (slotD o.dst (.d (.v (.int q (if b < a then b else a))))) = s1) (t : WX P N ops (k + 1) n s1 R) : WX P N ops k (n + 1) s R := .semE (.min ho hop hcal hargs hd hw hx hy) e t
end

/-! ### Contracts with objects, by bodies -/
theorem Fresh.freeAt {p : List Nat} {o : Nm → Ob} {u : Nm → Bool} (h : Fresh p o u) (d j : Nat) : u (.loc (d :: p) j) = false := h.free _ (by simp)

/-- How a body ends whose function leaves objects. -/
def PostO (P : Program) (N : Fr) (rs : Array ResultVar) (r : A) (o' : Nm → Ob) (u' : Nm → Bool) (e : Exit) (s : St) : Prop := (e = .normal ∨ e = .ret) ∧ ∃ s2 r', Weak N s s2 ∧ resultA P s2 rs = some r' ∧ SubR (viewR s2 r') r ∧ s2.o = o' ∧ s2.u = u'
theorem PostO.ret {P : Program} {N : Fr} {rs : Array ResultVar} {r r' : A} {o' : Nm → Ob} {u' : Nm → Bool} {s : St} (h : resultA P s rs = some r') (k : SubR (viewR s r') r) (ho : s.o = o') (hu : s.u = u') : PostO P N rs r o' u' .ret s := ⟨.inr rfl, s, r', .refl _, h, k, ho, hu⟩
theorem PostO.normal {P : Program} {N : Fr} {rs : Array ResultVar} {r r' : A} {o' : Nm → Ob} {u' : Nm → Bool} {s : St} (h : resultA P s rs = some r') (k : SubR (viewR s r') r) (ho : s.o = o') (hu : s.u = u') : PostO P N rs r o' u' .normal s := ⟨.inl rfl, s, r', .refl _, h, k, ho, hu⟩
theorem PostO.weak {P : Program} {N : Fr} {rs : Array ResultVar} {r : A} {o' : Nm → Ob} {u' : Nm → Bool} {e : Exit} {s s1 : St} (h : Weak N s s1) (k : PostO P N rs r o' u' e s1) : PostO P N rs r o' u' e s := by
  obtain ⟨h1, s2, r', h2, h3, h4, h5, h6⟩ := k
  exact ⟨h1, s2, r', h.trans h2, h3, h4, h5, h6⟩

theorem OSpec.by {P : Program} {f : FuncId} {fn : Func} {c : Code} (hf : P.funcs[f]? = some fn) (he : Enters P f) (hb : fn.body = some c) {args : List A} {r : A} {N : Nat} (hN : fn.ntmps = N) (hl : args.length ≤ N) {rs : Array ResultVar} (hrs : fn.results = rs)
    {o o' : Nm → Ob} {u u' : Nm → Bool} {p : List Nat} (hF : Fresh p o u) (h : W P ⟨N, []⟩ c ⟨T ((List.range args.length).map fun i => (i, (args[i]?).getD .und)), OL [] o, UL [] u, p⟩ (PostO P ⟨N, []⟩ rs r o' u')) : OSpec P f args o u r o' u' := by
  subst hN; subst hrs
  obtain ⟨e, s', h1, h2, s2, r', h3, h4, h5, ho, hu'⟩ := h
  subst ho; subst hu'
  have hB : Big P ⟨fn.ntmps, []⟩ c (entry args o u p) e s2 := (Big.weak (entry_T args _ _ _ _) h1).weaken h3
  refine ⟨he, fun w φ Pr vs hH hu ha => ?_⟩
  refine (calls_of_big hf hb hl hB h2 h4 hH hu ha).mono ?_
  rintro e w' ⟨v, φ', Pr', rfl, hH', hu2, hW, hv⟩
  refine ⟨v, φ', Pr', rfl, hH', hu2, ⟨hW.os, hW.tape, hW.output, hW.size, hW.keep, hW.pro, hW.old, hW.new, hW.live, fun n l hn => hW.map n l (fun ho => ?_) hn⟩, h5.rep (viewR_heap hH' hu2 hv)⟩
  have h1 := hu n (by rw [hn]; simp)
  rw [hF.free n ho] at h1; simp at h1

/-- A frame's names are free behind others of the caller's. -/
theorem Fresh.below {p : List Nat} {o : Nm → Ob} {u : Nm → Bool} (h : Fresh p o u) (d : Nat) : Fresh (d :: p) o u := by
  have hs : ∀ n, ownB (d :: p) n = true → ownB p n = true := by
    intro n hn
    cases n with
    | ext _ => simp [ownB] at hn
    | loc k j =>
      simp only [ownB, Bool.and_eq_true, Bool.not_eq_true', List.isSuffixOf_iff_suffix, beq_eq_false_iff_ne] at hn ⊢
      obtain ⟨t, ht⟩ := hn.1
      refine ⟨⟨t ++ [d], by simpa using ht⟩, ?_⟩
      intro e
      have := congrArg List.length ht
      rw [e] at this
      simp at this
      omega
  refine ⟨fun n hn => h.dead n (hs n hn), fun n hn => h.free n (hs n hn), fun n => ?_⟩
  have hc := h.clean n
  cases hX : o n with
  | cells cs => rw [hX] at hc; exact inDL_mono (fun m hm => by
      cases hq : ownB (d :: p) m with
      | false => rfl
      | true => rw [hs m hq] at hm; simp at hm) cs hc
  | map es =>
    rw [hX] at hc
    refine List.all_eq_true.2 (fun q hq => ?_)
    have hq := List.all_eq_true.1 hc q hq
    rw [Bool.and_eq_true] at hq ⊢
    have hm : ∀ m, (!ownB p m) = true → (!ownB (d :: p) m) = true := fun m hm => by
      cases hq : ownB (d :: p) m with
      | false => rfl
      | true => rw [hs m hq] at hm; simp at hm
    exact ⟨inD_mono hm _ hq.1, inD_mono hm _ hq.2⟩
  | _ => rfl
/-- .. where other objects stand there, under other names. -/
theorem Fresh.lists {p : List Nat} {o : Nm → Ob} {u : Nm → Bool} (h : Fresh p o u) {k : List (Nm × Ob)} {us : List Nm} (hk : ∀ q ∈ k, ownB p q.1 = false ∧ inDO (fun m => !ownB p m) q.2 = true) (hus : ∀ n ∈ us, ownB p n = false) : Fresh p (OL k o) (UL us u) := by
  refine ⟨fun n hn => ?_, fun n hn => ?_, fun n => ?_⟩
  · rcases OL_at (k := k) (o0 := o) (n := n) with ⟨q, hq, rfl, e⟩ | ⟨_, e⟩
    · rw [(hk q hq).1] at hn; simp at hn
    · rw [e]; exact h.dead n hn
  · cases hq : UL us u n with
    | false => rfl
    | true =>
      rcases UL_true.1 hq with h1 | h1
      · rw [hus n h1] at hn; simp at hn
      · rw [h.free n hn] at h1; simp at h1
  · rcases OL_at (k := k) (o0 := o) (n := n) with ⟨q, hq, rfl, e⟩ | ⟨_, e⟩
    · rw [e]; exact (hk q hq).2
    · rw [e]; exact h.clean n

/-- A contract, where the arguments are told with more. -/
theorem DSpec.sub {P : Program} {f : FuncId} {as bs : List A} {r : A} (h : DSpec P f bs r) (hs : SubRL as bs) : DSpec P f as r :=
  ⟨h.enters, h.plain, fun w Pr vs hPr ha => h.calls w Pr vs hPr ⟨by rw [ha.1]; exact hs.get.1, fun j c hj => by
    obtain ⟨a, h1, h2⟩ := hs.get.2 j c hj
    exact h2.rep (ha.2 j a h1)⟩⟩

/-- A slice that is nil is an object of no rows. -/
theorem Weak.nilL {N : Fr} {l : List (Nat × A)} {k : List (Nm × Ob)} {us : List Nm} {o0 : Nm → Ob} {u0 : Nm → Bool} {p : List Nat} (d : Nat) (n : Nm) (kk : Nat) {r q : Nat} (hn : UL us u0 n = false) (hd : T l d = .sx r q []) :
    Weak N ⟨T l, OL k o0, UL us u0, p⟩ ⟨T (put d (.os n kk 0 0) l), OL (putO n (.arr kk []) k) o0, UL (n :: us) u0, p⟩ := by
  refine ⟨rfl, fun φ Pr ac w hI => ?_⟩
  have hφ : φ n = none := by
    cases hq : φ n with
    | none => rfl
    | some y =>
      have := hI.used n (by simp [hq])
      have h2 : (St.mk (T l) (OL k o0) (UL us u0) p).u n = UL us u0 n := rfl
      rw [h2, hn] at this; simp at this
  have hmp := upd_map hφ (some ⟨none, 0⟩)
  have hb : ∀ b, blockOf (upd φ n (some ⟨none, 0⟩)) n ≠ some b := fun b h => by simp [blockOf, upd_same] at h
  have hL : Later w φ Pr w (upd φ n (some ⟨none, 0⟩)) Pr := ⟨fun _ _ _ _ => rfl, fun _ _ _ h => h, hmp⟩
  have hoth : ∀ x, x ≠ n → (OL (putO n (.arr kk []) k) o0 x = OL k o0 x ∨ OL (putO n (.arr kk []) k) o0 x = .dead) ∧ upd φ n (some ⟨none, 0⟩) x = φ x := fun x hx => ⟨.inl (by rw [OL_putO, upd_ne _ _ hx]), upd_ne _ _ hx⟩
  have hH : Heap w (upd φ n (some ⟨none, 0⟩)) Pr (OL (putO n (.arr kk []) k) o0) := Heap.step hI.heap hL (Nat.le_refl _) n (by
      rw [OL_putO, upd_same]
      exact ⟨⟨none, 0⟩, upd_same _ _ _, by simp, by simp, fun h => absurd rfl h⟩) hoth (fun b h => absurd h (hb b)) (fun _ _ _ _ _ => rfl) (fun x b _ _ _ _ => hb b)
  have hA : Adv w φ Pr (OL k o0) w (upd φ n (some ⟨none, 0⟩)) Pr (OL (putO n (.arr kk []) k) o0) := Adv.step hI.heap rfl rfl rfl (Nat.le_refl _) (fun _ _ _ => rfl) n hmp hoth (fun b _ h => absurd h (hb b))
  refine ⟨_, Pr, ⟨hH, fun m hm => ?_, hI.size, fun x => ?_, hI.defers⟩, hA.went _⟩
  · show UL (n :: us) u0 m = true
    rw [UL_cons]
    by_cases e : m = n
    · rw [if_pos e]
    · rw [if_neg e]
      rw [upd_ne _ _ e] at hm
      exact hI.used m hm
  · show ARep w _ Pr (ac.tmps.getD x undef) (T (put d (.os n kk 0 0) l) x)
    rw [T_put]
    by_cases e : x = d
    · subst e
      rw [upd_same]
      have hx := hI.tmps x
      rw [show (St.mk (T l) (OL k o0) (UL us u0) p).t x = T l x from rfl, hd] at hx
      generalize ac.tmps.getD x undef = y at hx
      cases hx with
      | sx h =>
        cases h with
        | sl val h1 h2 h3 h4 h5 =>
          simp at h1; subst h1
          exact ARep.os (l := ⟨none, 0⟩) (lo := 0) (upd_same _ _ _) (by simp) (by simp)
    · rw [upd_ne _ _ e]
      exact (hI.tmps x).later hL

theorem OL_append (k k2 : List (Nm × Ob)) (o : Nm → Ob) (n : Nm) : OL (k ++ k2) o n = OL k (OL k2 o) n := by
  induction k with
  | nil => rfl
  | cons q r ih => rw [List.cons_append, OL_cons, OL_cons, ih]
@[simp] theorem OL_OL (k k2 : List (Nm × Ob)) (o : Nm → Ob) : OL k (OL k2 o) = OL (k ++ k2) o := funext fun n => (OL_append k k2 o n).symm
theorem UL_append (k k2 : List Nm) (u : Nm → Bool) (n : Nm) : UL (k ++ k2) u n = UL k (UL k2 u) n := by
  induction k with
  | nil => rfl
  | cons q r ih => rw [List.cons_append, UL_cons, UL_cons, ih]
@[simp] theorem UL_UL (k k2 : List Nm) (u : Nm → Bool) : UL k (UL k2 u) = UL (k ++ k2) u := funext fun n => (UL_append k k2 u n).symm
@[simp] theorem constA_bool (b : Bool) : constA (.bool b) = .d (.v (.bool b)) := rfl
@[simp] theorem constA_int (k : IntKind) (n : Int) : constA (.int k n) = .d (.v (.int k n)) := rfl
@[simp] theorem constA_float (k : FloatKind) (n : Nat) : constA (.float k n) = .d (.v (.float k n)) := rfl
@[simp] theorem constA_string (b : ByteArray) : constA (.string b) = .d (.v (.string b)) := rfl
@[simp] theorem constA_nil : constA (.slice none 0 0) = .sx 0 0 [] := rfl
attribute [simp] SubRL keyOk keyPart keyEq findA putA

end Go.Proofs.YtamefliipjhpoaaGreat.Ab
