/- Functions: from a body's abstract run to a contract. -/
import Derived.Test.YtamefliipjhpoaaGreatAbsBig
set_option autoImplicit false
namespace Go.Proofs.YtamefliipjhpoaaGreat.Ab
open Go

/-! ### Results -/
def resV (tmps : Array Value) : ResultVar → Sem Value
  | .tmp t => pure (tmps.getD t undef)
  | .cell a t => do loadVar t (← asAddr (tmps.getD a undef))

theorem results_eq (fn : Func) (tmps : Array Value) : results fn tmps = (do
    let vs ← fn.results.mapM (resV tmps)
    pure (if h : vs.size = 1 then vs[0] else .tuple vs)) := by
  unfold results
  congr 1

theorem results0 {fn : Func} (h : fn.results = #[]) (tmps : Array Value) (P : Program) (w : World) : (results fn tmps).run P w = .ok (.tuple #[]) w := by
  simp [results, h]
theorem results1 {fn : Func} {x : ResultVar} (h : fn.results = #[x]) (tmps : Array Value) (P : Program) {w : World} {v : Value} (hv : (resV tmps x).run P w = .ok v w) : (results fn tmps).run P w = .ok v w := by
  rw [results_eq, h]
  simp [hv]
theorem results2 {fn : Func} {x y : ResultVar} (h : fn.results = #[x, y]) (tmps : Array Value) (P : Program) {w : World} {v u : Value} (hv : (resV tmps x).run P w = .ok v w) (hu : (resV tmps y).run P w = .ok u w) : (results fn tmps).run P w = .ok (.tuple #[v, u]) w := by
  rw [results_eq, h]
  simp [Sem.run_bind, hv, hu, Result.andThen]
theorem results3 {fn : Func} {x y z : ResultVar} (h : fn.results = #[x, y, z]) (tmps : Array Value) (P : Program) {w : World} {v u q : Value} (hv : (resV tmps x).run P w = .ok v w) (hu : (resV tmps y).run P w = .ok u w) (hq : (resV tmps z).run P w = .ok q w) : (results fn tmps).run P w = .ok (.tuple #[v, u, q]) w := by
  rw [results_eq, h]
  simp [Sem.run_bind, hv, hu, hq, Result.andThen]

def resT (P : Program) (s : St) : ResultVar → Option A
  | .tmp t => some (s.t t)
  | .cell a t => loadA P s t (s.t a)

def resultA (P : Program) (s : St) (rs : Array ResultVar) : Option A := match rs.toList with
  | [] => some (.tup [])
  | [x] => resT P s x
  | [x, y] => match resT P s x, resT P s y with
    | some a, some b => some (.tup [a, b])
    | _, _ => none
  | [x, y, z] => match resT P s x, resT P s y, resT P s z with
    | some a, some b, some c => some (.tup [a, b, c])
    | _, _, _ => none
  | _ => none

theorem resT_rep {P : Program} {N : Fr} {s : St} {φ : Map} {Pr : Pro} {ac : Act} {w : World} (hI : Inv N s φ Pr ac w) {x : ResultVar} {a : A} (h : resT P s x = some a) : ∃ v, (resV ac.tmps x).run P w = .ok v w ∧ ARep w φ Pr v a := by
  cases x with
  | tmp t => simp [resT] at h; subst h; exact ⟨_, rfl, hI.tmps t⟩
  | cell c t =>
    simp only [resT] at h
    have hx := hI.tmps c
    obtain ⟨v, h1, h2⟩ := run_loadA hI hx h
    refine ⟨v, ?_, h2⟩
    revert h1
    generalize hz : ac.tmps.getD c undef = z at hx
    intro h1
    simp only [resV, hz]
    have : ∃ ad, z = .pointer (some ad) := by
      generalize s.t c = q at hx h
      cases hx <;> first | exact ⟨_, rfl⟩ | simp [loadA] at h
    obtain ⟨ad, rfl⟩ := this
    simpa [Instr.loadAt, Instr.sureAddr, asAddr, Sem.run_bind] using h1

theorem resultA_rep {P : Program} {N : Fr} {s : St} {φ : Map} {Pr : Pro} {ac : Act} {w : World} (hI : Inv N s φ Pr ac w) {fn : Func} {r : A} (h : resultA P s fn.results = some r) : ∃ v, (results fn ac.tmps).run P w = .ok v w ∧ ARep w φ Pr v r := by
  unfold resultA at h
  split at h
  · rename_i hr
    simp at h; subst h
    exact ⟨_, results0 (by apply Array.ext'; simpa using hr) _ _ _, .tup (by simp) (by simp)⟩
  · rename_i x hr
    obtain ⟨v, h1, h2⟩ := resT_rep hI h
    exact ⟨v, results1 (by apply Array.ext'; simpa using hr) _ _ h1, h2⟩
  · rename_i x y hr
    split at h
    case h_2 => simp at h
    rename_i a b ha hb
    simp at h; subst h
    obtain ⟨v, h1, h2⟩ := resT_rep hI ha
    obtain ⟨u, k1, k2⟩ := resT_rep hI hb
    refine ⟨_, results2 (by apply Array.ext'; simpa using hr) _ _ h1 k1, .tup (by simp) (fun j c hj => ?_)⟩
    match j, hj with
    | 0, hj => simp at hj; subst hj; exact h2
    | 1, hj => simp at hj; subst hj; exact k2
  · rename_i x y z hr
    split at h
    case h_2 => simp at h
    rename_i a b c ha hb hc
    simp at h; subst h
    obtain ⟨v, h1, h2⟩ := resT_rep hI ha
    obtain ⟨u, k1, k2⟩ := resT_rep hI hb
    obtain ⟨q, l1, l2⟩ := resT_rep hI hc
    refine ⟨_, results3 (by apply Array.ext'; simpa using hr) _ _ h1 k1 l1, .tup (by simp) (fun j c hj => ?_)⟩
    match j, hj with
    | 0, hj => simp at hj; subst hj; exact h2
    | 1, hj => simp at hj; subst hj; exact k2
    | 2, hj => simp at hj; subst hj; exact l2
  · simp at h

/-! ### Entry -/
def entry (args : List A) (o : Nm → Ob) (u : Nm → Bool) (p : List Nat) : St := ⟨fun d => (args[d]?).getD (.tup []), o, u, p⟩

theorem entry_inv {N : Nat} {args : List A} {o : Nm → Ob} {u : Nm → Bool} {p : List Nat} {w : World} {φ : Map} {Pr : Pro} {vs : Array Value} (hh : Heap w φ Pr o) (hu : ∀ n, φ n ≠ none → u n = true) (ha : ArgsRep w φ Pr vs args) (hN : args.length ≤ N) :
    Inv ⟨N, []⟩ (entry args o u p) φ Pr { tmps := vs ++ Array.replicate (N - vs.size) undef, defers := [] } w := by
  refine ⟨hh, hu, ?_, fun x => ?_, rfl⟩
  · have := ha.1; simp; omega
  · show ARep w φ Pr _ ((args[x]?).getD (.tup []))
    cases hx : args[x]? with
    | some c =>
      have hlt : x < vs.size := by rw [ha.1]; exact (List.getElem?_eq_some_iff.1 hx).1
      have e : (vs ++ Array.replicate (N - vs.size) undef).getD x undef = vs.getD x undef := by
        simp [Array.getD_eq_getD_getElem?, Array.getElem?_append_left hlt]
      rw [e]; exact ha.2 x c hx
    | none =>
      have hge : vs.size ≤ x := by rw [ha.1]; exact List.getElem?_eq_none_iff.1 hx
      have e : (vs ++ Array.replicate (N - vs.size) undef).getD x undef = undef := by
        rw [Array.getD_eq_getD_getElem?, Array.getElem?_append_right hge]
        rw [Array.getElem?_replicate]
        split <;> rfl
      rw [e]; exact .tup (by simp) (by simp)

theorem calls_of_big {P : Program} {f : FuncId} {fn : Func} {c : Code} (hf : P.funcs[f]? = some fn) (hb : fn.body = some c) {args : List A} {o : Nm → Ob} {u : Nm → Bool} {p : List Nat} {s' : St} {e : Exit} {r : A} (hN : args.length ≤ fn.ntmps)
    (h : Big P ⟨fn.ntmps, []⟩ c (entry args o u p) e s') (he : e = .normal ∨ e = .ret) (hr : resultA P s' fn.results = some r) {w : World} {φ : Map} {Pr : Pro} {vs : Array Value} (hh : Heap w φ Pr o) (hu : ∀ n, φ n ≠ none → u n = true) (ha : ArgsRep w φ Pr vs args) :
    Calls P f vs w fun e w' => ∃ v φ' Pr', e = .returned v ∧ Heap w' φ' Pr' s'.o ∧ (∀ n, φ' n ≠ none → s'.u n = true) ∧ Went p w φ Pr o w' φ' Pr' s'.o ∧ ARep w' φ' Pr' v r := by
  refine calls_of_wp hf hb (h.2 φ Pr _ w _ (entry_inv hh hu ha hN) (fun φ' Pr' ac' w' hI' hW => ?_))
  obtain ⟨v, h1, h2⟩ := resultA_rep hI' hr
  have : bodyPost P fn (fun e w' => ∃ v φ' Pr', e = .returned v ∧ Heap w' φ' Pr' s'.o ∧ (∀ n, φ' n ≠ none → s'.u n = true) ∧ Went p w φ Pr o w' φ' Pr' s'.o ∧ ARep w' φ' Pr' v r) .ret ac' w' := ⟨hI'.defers, v, h1, v, φ', Pr', rfl, hI'.heap, hI'.used, hW, h2⟩
  rcases he with rfl | rfl
  · exact this
  · exact this

theorem Enters.mk {P : Program} {f : FuncId} {fn : Func} {c : Code} (hf : P.funcs[f]? = some fn) (hname : (fn.name == "runtime.NumGoroutine") = false) (hb : fn.body = some c) : Enters P f := fun args w => by
  have h1 : fn.name ≠ "runtime.NumGoroutine" := by simpa using hname
  simp [callFunc, hf, h1, hb]

theorem heap_none {w : World} {Pr : Pro} (hp : ∀ r b x, Pr r b x → b < w.heap.size) : Heap w (fun _ => none) Pr (fun _ => .dead) :=
  ⟨fun _ => trivial, fun _ _ _ h => by simp [live] at h, fun _ _ h => by simp [blockOf] at h, hp⟩

/-- A function over data: its body, run on the data. -/
theorem DSpec.mk' {P : Program} {f : FuncId} {fn : Func} {c : Code} (hf : P.funcs[f]? = some fn) (hname : (fn.name == "runtime.NumGoroutine") = false) (hb : fn.body = some c) {args : List A} {s' : St} {e : Exit} {r : A} (hN : args.length ≤ fn.ntmps)
    (h : Big P ⟨fn.ntmps, []⟩ c (entry args (fun _ => .dead) (fun _ => false) []) e s') (he : e = .normal ∨ e = .ret) (hr : resultA P s' fn.results = some r) (hp : plainA r = true) : DSpec P f args r where
  enters := Enters.mk hf hname hb
  plain := hp
  calls w Pr vs hPr ha := by
    refine (calls_of_big hf hb hN h he hr (heap_none hPr) (fun n hn => absurd rfl hn) ha).mono ?_
    rintro e w' ⟨v, φ', Pr', rfl, hH, _, hW, hv⟩
    refine ⟨v, Pr', rfl, ?_, plainA_map hv hp⟩
    have nl : ∀ b, ¬ Live (fun _ => none) (fun _ => .dead) b := by rintro b ⟨n, hn, _⟩; simp [live] at hn
    exact ⟨hW.os, hW.tape, hW.output, hW.size, fun b hb => hW.keep b hb (nl b), hW.pro, fun r b x hp hb => (hW.old r b x hp hb).resolve_right (fun ⟨_, hl⟩ => nl b hl), hW.new, hH.cell⟩

/-! ### Freezing -/
theorem Weak.freeze {N : Fr} {s : St} {n : Nm} {k : Nat} {rows : List (List D)} (hn : s.o n = .arr k rows) : Weak N s { s with o := upd s.o n (.froz k rows) } := by
  refine ⟨rfl, fun φ Pr ac w hI => ?_⟩
  have hr := hI.heap.rep n
  rw [hn] at hr
  obtain ⟨l, hl, hle, hk, hrest⟩ := hr
  by_cases hc : l.cap = 0
  · -- no rows at all
    have hrows : rows = [] := List.length_eq_zero_iff.1 (by omega)
    subst hrows
    have hnb : blockOf φ n = none := by simp [blockOf, hl, hc]
    refine ⟨φ, Pr, ⟨⟨fun m => ?_, fun x y b hx hy => ?_, hI.heap.lt, hI.heap.cell⟩, hI.used, hI.size, hI.tmps, hI.defers⟩, ⟨rfl, rfl, rfl, Nat.le_refl _, fun _ _ _ => rfl, fun _ _ _ h => h, fun _ _ _ h _ => .inl h, fun r b x hp hb => absurd (hI.heap.cell r b x hp) (by omega), fun b hb => ?_, fun _ _ _ h => h⟩⟩
    · by_cases e : m = n
      · subst e
        show obRep w φ Pr m (upd s.o m _ m)
        rw [upd_same]
        exact ⟨l, hl, by simp, .sl (fun _ _ => undef) rfl (by simp) (by simp) (by simp) (by simp)⟩
      · show obRep w φ Pr m (upd s.o n _ m)
        rw [upd_ne _ _ e]; exact hI.heap.rep m
    · have hx' : live (s.o x) = true := by
        by_cases e : x = n
        · subst e; rw [hn]; rfl
        · have : upd s.o n (.froz k []) x = s.o x := upd_ne _ _ e
          rw [← this]; exact hx
      have hy' : live (s.o y) = true := by
        by_cases e : y = n
        · subst e; rw [hn]; rfl
        · have : upd s.o n (.froz k []) y = s.o y := upd_ne _ _ e
          rw [← this]; exact hy
      exact hI.heap.apart x y b hx' hy'
    · left
      obtain ⟨x, hx, hbx⟩ := hb
      refine ⟨x, ?_, hbx⟩
      by_cases e : x = n
      · subst e; rw [hn]; rfl
      · have : upd s.o n (.froz k []) x = s.o x := upd_ne _ _ e
        rw [← this]; exact hx
  · obtain ⟨b, off, xs, t, ha, hb, hsz, hd, hno⟩ := hrest hc
    have hbn : blockOf φ n = some b := by simp [blockOf, hl, hc, ha]
    have hlive : live (s.o n) = true := by rw [hn]; rfl
    let Pr' : Pro := fun r b' x => Pr r b' x ∨ (r = 0 ∧ b' = b ∧ off ≤ x ∧ x < off + rows.length * k)
    have hL : Later w φ Pr w φ Pr' := ⟨fun _ _ _ _ => rfl, fun _ _ _ h => .inl h, fun _ _ h => h⟩
    have hblt := hI.heap.lt n b hbn
    have nd : ∀ x, live (upd s.o n (.froz k rows) x) = true → x ≠ n ∧ live (s.o x) = true := fun x hx => by
      by_cases e : x = n
      · subst e; rw [upd_same] at hx; simp [live] at hx
      · rw [upd_ne _ _ e] at hx; exact ⟨e, hx⟩
    refine ⟨φ, Pr', ⟨⟨fun m => ?_, fun x y c hx hy => hI.heap.apart x y c (nd x hx).2 (nd y hy).2, hI.heap.lt, fun r b' x hp => ?_⟩, hI.used, hI.size, fun y => (hI.tmps y).later hL, hI.defers⟩,
      ⟨rfl, rfl, rfl, Nat.le_refl _, fun _ _ _ => rfl, fun _ _ _ h => .inl h, fun r b' x hp _ => ?_, fun r b' x hp hge => ?_, fun c hc' => ?_, fun _ _ _ h => h⟩⟩
    · show obRep w φ Pr' m (upd s.o n _ m)
      by_cases e : m = n
      · subst e
        rw [upd_same]
        refine ⟨l, hl, hle, ?_⟩
        rw [ha]
        refine .sl (fun i j => xs.getD (off + i * k + j) undef) rfl hle hk (fun _ => ⟨b, off, rfl, fun i j hi hj => ⟨?_, ?_⟩⟩) (fun i row j c hi hj => (hd i row j c hi hj).later hL)
        · have hlt : off + i * k + j < xs.size := by
            have h1 : (i + 1) * k ≤ rows.length * k := Nat.mul_le_mul_right _ (by omega)
            have h2 : rows.length * k ≤ l.cap * k := Nat.mul_le_mul_right _ hle
            rw [Nat.add_mul] at h1
            omega
          simp only [World.cell?, hb]
          rw [Array.getD_eq_getD_getElem?]
          simp [hlt]
        · right
          have h1 : (i + 1) * k ≤ rows.length * k := Nat.mul_le_mul_right _ (by omega)
          rw [Nat.add_mul] at h1
          exact ⟨rfl, rfl, by omega, by omega⟩
      · rw [upd_ne _ _ e]
        refine obRep.later hL (fun _ _ _ => rfl) (fun hlv c r x hc' hp => ?_) (hI.heap.rep m)
        rcases hp with hp | ⟨_, rfl, _⟩
        · exact hp
        · exact absurd (hI.heap.apart m n _ hlv hlive hc' hbn) e
    · rcases hp with hp | ⟨_, rfl, _⟩
      · exact hI.heap.cell r b' x hp
      · exact hblt
    · rcases hp with hp | ⟨rfl, rfl, _⟩
      · exact .inl hp
      · exact .inr ⟨rfl, n, hlive, hbn⟩
    · rcases hp with hp | ⟨rfl, rfl, _⟩
      · exact absurd (hI.heap.cell r b' x hp) (by omega)
      · rfl
    · obtain ⟨x, hx, hbx⟩ := hc'
      exact .inl ⟨x, (nd x hx).2, hbx⟩

end Go.Proofs.YtamefliipjhpoaaGreat.Ab
