/- Calls that see and change objects; what the frame of a callee may use. -/
import Derived.Test.YtamefliipjhpoaaGreatAbsRen
set_option autoImplicit false
namespace Go.Proofs.YtamefliipjhpoaaGreat.Ab
open Go

/-- Nothing stands under a frame's own names. -/
structure Fresh (p : List Nat) (o : Nm → Ob) (u : Nm → Bool) : Prop where
  dead : ∀ n, ownB p n = true → o n = .dead
  free : ∀ n, ownB p n = true → u n = false
  clean : ∀ n, inDO (fun m => !ownB p m) (o n) = true

theorem Fresh.none (p : List Nat) : Fresh p (fun _ => .dead) (fun _ => false) := ⟨fun _ _ => rfl, fun _ _ => rfl, fun _ => rfl⟩

/-- What a call does: from the objects that are there to others. -/
structure OSpec (P : Program) (f : FuncId) (args : List A) (o : Nm → Ob) (u : Nm → Bool) (r : A) (o' : Nm → Ob) (u' : Nm → Bool) : Prop where
  enters : Enters P f
  calls : ∀ (w : World) (φ : Map) (Pr : Pro) (vs : Array Value), Heap w φ Pr o → (∀ n, φ n ≠ none → u n = true) → ArgsRep w φ Pr vs args →
    Calls P f vs w fun e w' => ∃ v φ' Pr', e = .returned v ∧ Heap w' φ' Pr' o' ∧ (∀ n, φ' n ≠ none → u' n = true) ∧ Adv w φ Pr o w' φ' Pr' o' ∧ ARep w' φ' Pr' v r

theorem OSpec.of {P : Program} {f : FuncId} {fn : Func} {c : Code} (hf : P.funcs[f]? = some fn) (he : Enters P f) (hb : fn.body = some c) {args : List A} {r : A} {N : Nat} (hN : fn.ntmps = N) (hl : args.length ≤ N) {rs : Array ResultVar} (hrs : fn.results = rs)
    {o o' : Nm → Ob} {u u' : Nm → Bool} (p : List Nat) (hF : Fresh p o u)
    (h : W P ⟨N, []⟩ c ⟨T ((List.range args.length).map fun i => (i, (args[i]?).getD .und)), o, u, p⟩ (fun e s' => (e = .normal ∨ e = .ret) ∧ ∃ s2, Weak ⟨N, []⟩ s' s2 ∧ s2.o = o' ∧ s2.u = u' ∧ resultA P s2 rs = some r)) : OSpec P f args o u r o' u' := by
  subst hN; subst hrs
  obtain ⟨e, s', h1, h2, s2, h3, ho, hu', h4⟩ := h
  subst ho; subst hu'
  have hB : Big P ⟨fn.ntmps, []⟩ c (entry args o u p) e s2 := (Big.weak (entry_T args _ _ _ _) h1).weaken h3
  refine ⟨he, fun w φ Pr vs hH hu ha => ?_⟩
  refine (calls_of_big hf hb hl hB h2 h4 hH hu ha).mono ?_
  rintro e w' ⟨v, φ', Pr', rfl, hH', hu2, hW, hv⟩
  refine ⟨v, φ', Pr', rfl, hH', hu2, ⟨hW.os, hW.tape, hW.output, hW.size, hW.keep, hW.pro, hW.old, hW.new, hW.live, fun n l hn => hW.map n l (fun ho => ?_) hn⟩, hv⟩
  have h1 := hu n (by rw [hn]; simp)
  rw [hF.free n ho] at h1; simp at h1

/-- A contract over data, among objects. -/
theorem DSpec.ospec {P : Program} {f : FuncId} {args : List A} {r : A} (h : DSpec P f args r) (ha : args.all plainA = true) (o : Nm → Ob) (u : Nm → Bool) : OSpec P f args o u r o u where
  enters := h.enters
  calls w φ Pr vs hH hu hv := by
    refine (h.calls w Pr vs hH.cell ⟨hv.1, fun j c hj => plainA_map (hv.2 j c hj) (List.all_eq_true.1 ha c (List.mem_of_getElem? hj))⟩).mono ?_
    rintro e w' ⟨v, Pr', rfl, hE, hr⟩
    obtain ⟨_, h2, h3⟩ := hE.heap hH
    exact ⟨v, φ, Pr', rfl, h2, hu, h3, plainA_map hr h.plain⟩

/-! ### Regions with such calls (their order is that of the text) -/
inductive ChainX (P : Program) (N : Fr) (ops : Array Oper) : List Nat → St → St → Prop
  | nil {s : St} : ChainX P N ops [] s s
  | cons {i : Nat} {r : List Nat} {s s' : St} {δ : Dl} (h : StepR P N ops s i δ) (t : ChainX P N ops r (s.app δ) s') : ChainX P N ops (i :: r) s s'
  | weak {r : List Nat} {s s1 s' : St} (h : Weak N s s1) (t : ChainX P N ops r s1 s') : ChainX P N ops r s s'
  | call {i : Nat} {l : List Nat} {s s' : St} {o : Oper} {c : Call} {g : Operand} {f : FuncId} {caps args : List A} {r : A} {o' : Nm → Ob} {u' : Nm → Bool} (ho : ops[i]? = some o) (hop : o.op = .call c) (hcal : c.callee = .value g) (hg : s.ev g = .fn f caps) (hw : wantA ops s o = some true)
      {d : Tmp} (hd : o.dst = some d) (hdN : d < N.n) (hargs : (c.args.toList.map s.ev) ++ caps = args) (hs : OSpec P f args s.o s.u r o' u') (t : ChainX P N ops l ⟨upd s.t d r, o', u', s.p⟩ s') : ChainX P N ops (i :: l) s s'

theorem ChainX.path {P : Program} {N : Fr} {ops : Array Oper} {r : List Nat} {s s' : St} (h : ChainX P N ops r s s') : s'.p = s.p := by
  induction h with
  | nil => rfl
  | cons _ _ ih => exact ih
  | weak h _ ih => exact ih.trans h.1
  | call _ _ _ _ _ _ _ _ _ _ ih => exact ih

theorem ChainX.rep {P : Program} {N : Fr} {ops : Array Oper} {Q : Exit → Act → World → Prop} {r : List Nat} {s s' : St} (h : ChainX P N ops r s s') : ∀ {φ : Map} {Pr : Pro} {ac : Act} {w : World}, Inv N s φ Pr ac w → Then N s.p w φ Pr s s' (Q .normal) → wpOps P ops Q r ac w := by
  induction h with
  | nil => intro φ Pr ac w hI hK; simpa [wpOps] using hK _ _ _ _ hI (Went.refl hI.heap _)
  | cons h t ih =>
    intro φ Pr ac w hI hK
    rw [wpOps_cons]
    refine wpOp_mono (fun ac' w' hs => ?_) (h.rep hI Q)
    obtain ⟨φ', Pr', hI', hA⟩ := hs
    exact ih hI' (fun φ2 Pr2 ac2 w2 hI2 hA2 => hK φ2 Pr2 ac2 w2 hI2 ((hA.went _).trans hA2))
  | weak h t ih =>
    intro φ Pr ac w hI hK
    obtain ⟨φ1, Pr1, h1, h2⟩ := h.2 φ Pr ac w hI
    exact ih h1 (fun φ2 Pr2 ac2 w2 hI2 hA2 => hK φ2 Pr2 ac2 w2 hI2 (h2.trans (h.1 ▸ hA2)))
  | @call i l s s' o c g f caps args r o' u' ho hop hcal hg hw d hd hdN hargs hs t ih =>
    intro φ Pr ac w hI hK
    rw [wpOps_cons]
    unfold wpOp
    rw [ho]
    simp only []
    rw [wantA_rep hI hw, if_pos rfl]
    left
    have hev := hI.ev g
    rw [hg] at hev
    have e1 : ∃ xs, ac.eval g = .func (.func f) #[] xs ∧ xs.size = caps.length ∧ ∀ (j : Nat) (a : A), caps[j]? = some a → ARep w φ Pr (xs.getD j undef) a := by
      generalize ac.eval g = z at hev
      cases hev with
      | fn hn h => exact ⟨_, rfl, hn, h⟩
    obtain ⟨xs, e1, e2, e3⟩ := e1
    have hrun : (execOp ac.eval o).run P w = .ok (.enter f (c.args.map ac.eval ++ xs)) w := by
      unfold execOp; rw [hop]
      simp only [resolve, hcal, e1, Deferred.ofValue, Sem.run_bind, Sem.run_pure, Result.andThen_ok, invoke]
      have := hs.enters (c.args.map ac.eval ++ xs) w
      simpa using this
    unfold Oper.wp
    rw [hrun]
    have har : ArgsRep w φ Pr (c.args.map ac.eval ++ xs) args := by
      subst hargs
      refine ⟨by simp [e2], fun j a hj => ?_⟩
      by_cases hlt : j < c.args.size
      · rw [List.getElem?_append_left (by simpa using hlt), List.getElem?_map] at hj
        cases hq : c.args.toList[j]? with
        | none => simp [hq] at hj
        | some x =>
          simp [hq] at hj; subst hj
          have hq' : c.args[j]? = some x := by rw [← Array.getElem?_toList]; exact hq
          have e : (c.args.map ac.eval ++ xs).getD j undef = ac.eval x := by
            rw [Array.getD_eq_getD_getElem?, Array.getElem?_append_left (by simpa using hlt)]
            simp [hq']
          rw [e]; exact hI.ev x
      · rw [List.getElem?_append_right (by simpa using hlt)] at hj
        have e : (c.args.map ac.eval ++ xs).getD j undef = xs.getD (j - c.args.size) undef := by
          rw [Array.getD_eq_getD_getElem?, Array.getElem?_append_right (by simpa using hlt), Array.getD_eq_getD_getElem?]
          simp
        rw [e]
        exact e3 _ a (by simpa using hj)
    refine (hs.calls w φ Pr _ hI.heap hI.used har).mono ?_
    rintro e w' ⟨v, φ', Pr', rfl, hH, hu2, hA, hv⟩
    have hL := hA.later hI.heap hA.map
    show wpOps P ops Q l (ac.put o.dst v) w'
    rw [hd]
    exact ih (hI.put hL hH hu2 hdN hv) (fun φ2 Pr2 ac2 w2 hI2 hA2 => hK φ2 Pr2 ac2 w2 hI2 ((hA.went _).trans hA2))

theorem Big.regionX {P : Program} {N : Fr} {id : Nat} {ops : Array Oper} {s s' : St} (h : ChainX P N ops (List.range ops.size) s s') : Big P N (.region id ops false) s .normal s' :=
  ⟨h.path, fun _ _ _ _ _ hI hK => wp_region (h.rep hI hK)⟩

/-! ### The same, operation by operation -/
def ChainXL (P : Program) (N : Fr) (ops : Array Oper) (k : Nat) (l : List Oper) (s s' : St) : Prop := (∀ (j : Nat) (o : Oper), l[j]? = some o → ops[k + j]? = some o) → ChainX P N ops (List.range' k l.length) s s'

section
variable {P : Program} {N : Fr} {k : Nat} {ops : Array Oper} {l : List Oper} {o : Oper} {s s1 s' : St}
theorem ChainXL.nil : ChainXL P N ops k [] s s := fun _ => .nil
theorem ChainXL.weak (h : Weak N s s1) (t : ChainXL P N ops k l s1 s') : ChainXL P N ops k l s s' := fun hl => .weak h (t hl)
theorem tail_ops (hl : ∀ (j : Nat) (o' : Oper), (o :: l)[j]? = some o' → ops[k + j]? = some o') : ∀ (j : Nat) (o' : Oper), l[j]? = some o' → ops[k + 1 + j]? = some o' := fun j o' hj => by
  have := hl (j + 1) o' (by simpa using hj)
  rw [show k + 1 + j = k + (j + 1) by omega]; exact this
theorem ChainXL.ex {δ : Dl} (h : stepD P N ops s o = some δ) (t : ChainXL P N ops (k + 1) l (s.app δ) s') : ChainXL P N ops k (o :: l) s s' := fun hl => by
  rw [List.length_cons, List.range'_succ]
  exact .cons (.ex (by have := hl 0 o rfl; simpa using this) h) (t (tail_ops hl))
theorem ChainXL.data {c : Call} {g : Operand} {f : FuncId} {args : List A} {r : A} (hop : o.op = .call c) (hcal : c.callee = .value g) (hg : s.ev g = .fn f []) (hw : wantA ops s o = some true) (hd : dstOk N o.dst = true)
    (hargs : (c.args.toList.map fun x => viewA s (s.ev x)) = args) (hpl : args.all plainA = true) (hs : DSpec P f args r) (t : ChainXL P N ops (k + 1) l (s.app (slotD o.dst r)) s') : ChainXL P N ops k (o :: l) s s' := fun hl => by
  rw [List.length_cons, List.range'_succ]
  exact .cons (.call (by have := hl 0 o rfl; simpa using this) hop hcal hg hw hd hargs hpl (.inl hs)) (t (tail_ops hl))
theorem ChainXL.call {c : Call} {g : Operand} {f : FuncId} {caps args : List A} {r : A} {o' : Nm → Ob} {u' : Nm → Bool} (hop : o.op = .call c) (hcal : c.callee = .value g) (hg : s.ev g = .fn f caps) (hw : wantA ops s o = some true)
    {d : Tmp} (hd : o.dst = some d) (hdN : d < N.n) (hargs : (c.args.toList.map s.ev) ++ caps = args) (hs : OSpec P f args s.o s.u r o' u') (t : ChainXL P N ops (k + 1) l ⟨upd s.t d r, o', u', s.p⟩ s') : ChainXL P N ops k (o :: l) s s' := fun hl => by
  rw [List.length_cons, List.range'_succ]
  exact .call (by have := hl 0 o rfl; simpa using this) hop hcal hg hw hd hdN hargs hs (t (tail_ops hl))
theorem ChainXL.run : ∀ (m : Nat) {k : Nat} {l : List Oper} {s : St}, exR P N ops (l.take m) s = some s1 → ChainXL P N ops (k + m) (l.drop m) s1 s' → ChainXL P N ops k l s s'
  | 0, k, l, s, h, t => by simp [exR] at h; subst h; simpa using t
  | m + 1, k, [], s, h, t => by
    simp [exR] at h; subst h
    intro _
    have := t (by simp)
    simpa using this
  | m + 1, k, o :: l, s, h, t => by
    simp only [List.take_succ_cons, exR] at h
    cases hd : stepD P N ops s o with
    | none => rw [hd] at h; simp at h
    | some δ =>
      rw [hd] at h; simp at h
      exact .ex hd (ChainXL.run m h (by simpa [Nat.add_assoc, Nat.add_comm 1 m] using t))
theorem W.regX {id : Nat} {R : Exit → St → Prop} (h : ChainXL P N ops 0 ops.toList s s1) (k : R .normal s1) : W P N (.region id ops false) s R := by
  refine ⟨_, s1, .regionX ?_, k⟩
  have := h (fun j o hj => by rw [Nat.zero_add, ← Array.getElem?_toList]; exact hj)
  rwa [Array.length_toList, ← List.range_eq_range'] at this
end

end Go.Proofs.YtamefliipjhpoaaGreat.Ab
