/- A region: its steps in the order of the text do; any order does what they do. -/
import Derived.Test.YtamefliipjhpoaaGreatAbsSwap2
set_option autoImplicit false
namespace Go.Proofs.YtamefliipjhpoaaGreat.Ab
open Go

theorem wpOp_exists {P : Program} {ops : Array Oper} {i : Nat} {K : Act → World → Prop} {ac : Act} {w : World} (h : wpOp P ops (fun _ _ _ => False) i K ac w) : ∃ ac' w', K ac' w' := by
  unfold wpOp at h
  split at h
  · exact ⟨_, _, h⟩
  · split at h
    · rcases h with h | ⟨_, _, _, h⟩
      · unfold Oper.wp at h
        generalize (execOp ac.eval _).run P w = r at h
        cases r with
        | ok n w' =>
          cases n <;> simp only [Oper.upon] at h <;> first | exact ⟨_, _, h⟩ | exact h.elim | skip
          · obtain ⟨e, w'', fr, hr, _⟩ := h []
            cases e with
            | returned v => exact ⟨_, _, hr⟩
            | panicked c => exact hr.elim
            | outgrown => obtain ⟨_, _, h⟩ := hr; exact h.elim
          · obtain ⟨v, w'', hr, _⟩ := h default []
            exact ⟨_, _, hr⟩
        | halt x w' => cases x <;> simp only [Oper.upon] at h
      · exact h.elim
    · exact ⟨_, _, h⟩

theorem Real.step {P : Program} {N : Fr} {ops : Array Oper} {s : St} {i : Nat} {δ : Dl} (hR : Real N s) (h : StepR P N ops s i δ) : Real N (s.app δ) := by
  obtain ⟨φ, Pr, ac, w, hI⟩ := hR
  obtain ⟨ac', w', φ', Pr', hI', _⟩ := wpOp_exists (h.rep hI (fun _ _ _ => False))
  exact ⟨φ', Pr', ac', w', hI'⟩

/-- Steps one behind the other. -/
inductive Chain (P : Program) (N : Fr) (ops : Array Oper) : List Nat → St → St → Prop
  | nil {s : St} : Chain P N ops [] s s
  | cons {i : Nat} {r : List Nat} {s s' : St} {δ : Dl} (h : StepR P N ops s i δ) (t : Chain P N ops r (s.app δ) s') : Chain P N ops (i :: r) s s'

theorem Chain.real {P : Program} {N : Fr} {ops : Array Oper} {r : List Nat} {s s' : St} (h : Chain P N ops r s s') : Real N s → Real N s' := by
  induction h with
  | nil => exact id
  | cons h _ ih => exact fun hR => ih (hR.step h)

/-- Behind a chain: a world that bears what it leaves. -/
def After (N : Fr) (w : World) (φ : Map) (Pr : Pro) (s s' : St) (K : Act → World → Prop) : Prop := ∀ φ' Pr' ac' w', Inv N s' φ' Pr' ac' w' → Adv w φ Pr s.o w' φ' Pr' s'.o → K ac' w'

theorem Chain.rep {P : Program} {N : Fr} {ops : Array Oper} {Q : Exit → Act → World → Prop} : ∀ {r : List Nat} {s s' : St} {φ : Map} {Pr : Pro} {ac : Act} {w : World}, Chain P N ops r s s' → Inv N s φ Pr ac w → After N w φ Pr s s' (Q .normal) → wpOps P ops Q r ac w
  | [], _, _, _, _, _, _, .nil, hI, hK => by simpa [wpOps] using hK _ _ _ _ hI (Adv.refl hI.heap)
  | i :: r, _, _, _, _, _, _, .cons h t, hI, hK => by
    rw [wpOps_cons]
    refine wpOp_mono (fun ac' w' hs => ?_) (h.rep hI Q)
    obtain ⟨φ', Pr', hI', hA⟩ := hs
    exact Chain.rep t hI' (fun φ2 Pr2 ac2 w2 hI2 hA2 => hK φ2 Pr2 ac2 w2 hI2 (hA.trans hA2))

/-! ### Which operations stand before which -/
def under (md : Region.Mode) (ops : Array Oper) : Nat → Nat → Nat → Bool
  | 0, _, _ => false
  | fuel + 1, i, k => match ops[i]? with
    | none => false
    | some o => o.after.toList.any (fun e => Region.binds md e && e.on == k) || o.after.toList.any fun e => Region.binds md e && under md ops fuel e.on k

def pairFree (ops : Array Oper) (k i : Nat) : Bool := match ops[k]?, ops[i]? with
  | some a, some b => a.apart ops b && b.apart ops a && pairOk (kdOf a) (kdOf b) && !(decide (kdOf a = .l) && decide (kdOf b = .a))
  | _, _ => false

def orderOk (md : Region.Mode) (ops : Array Oper) : Bool :=
  (List.range ops.size).all fun i => (List.range i).all fun k => pairFree ops k i || under md ops (i - k) i k

/-- What is listed lies below. -/
def Closed (md : Region.Mode) (ops : Array Oper) (listed : Array Bool) : Prop := ∀ (i : Nat) (o : Oper), ops[i]? = some o → listed.getD i false = true → ∀ e ∈ o.after, Region.binds md e = true → listed.getD e.on false = true

theorem under_listed {md : Region.Mode} {ops : Array Oper} {listed : Array Bool} (hc : Closed md ops listed) : ∀ (fuel i k : Nat) (o : Oper), ops[i]? = some o → (∀ e ∈ o.after, Region.binds md e = true → listed.getD e.on false = true) →
    under md ops fuel i k = true → listed.getD k false = true
  | 0, _, _, _, _, _, h => by simp [under] at h
  | fuel + 1, i, k, o, ho, hp, h => by
    unfold under at h
    rw [ho] at h
    simp only [Bool.or_eq_true, List.any_eq_true, Array.mem_toList_iff] at h
    rcases h with ⟨e, he, h⟩ | ⟨e, he, h⟩
    · simp only [Bool.and_eq_true, beq_iff_eq] at h
      rw [← h.2]; exact hp e he h.1
    · simp only [Bool.and_eq_true] at h
      have hl := hp e he h.1
      cases hj : ops[e.on]? with
      | none =>
        have := h.2
        cases fuel with
        | zero => simp [under] at this
        | succ n => simp [under, hj] at this
      | some o' => exact under_listed hc fuel e.on k o' hj (fun e' he' hb' => hc e.on o' hj hl e' he' hb') h.2

theorem front {P : Program} {N : Fr} {ops : Array Oper} {i : Nat} {oi : Oper} (hi : ops[i]? = some oi) : ∀ {pre post : List Nat} {s s' : St}, Real N s → (∀ k ∈ pre, pairFree ops k i = true) → Chain P N ops (pre ++ i :: post) s s' →
    ∃ δ, StepR P N ops s i δ ∧ Chain P N ops (pre ++ post) (s.app δ) s'
  | [], _, _, _, _, _, .cons h t => ⟨_, h, t⟩
  | k :: pre, post, s, s', hR, hp, h => by
    rw [List.cons_append] at h
    cases h with
    | @cons _ _ _ _ δk hk t =>
    obtain ⟨δi, h1, h2⟩ := front hi (hR.step hk) (fun k hk => hp k (List.mem_cons_of_mem _ hk)) t
    have hf := hp k List.mem_cons_self
    unfold pairFree at hf
    rw [hi] at hf
    cases hok : ops[k]? with
    | none => rw [hok] at hf; simp at hf
    | some ok =>
      rw [hok] at hf
      simp only [Bool.and_eq_true, Bool.not_eq_true', Bool.and_eq_false_iff, decide_eq_false_iff_not] at hf
      obtain ⟨⟨⟨a1, a2⟩, a3⟩, a4⟩ := hf
      obtain ⟨g1, g2, g3⟩ := swap hR hok hi a1 a2 a3 (fun e1 e2 => by rcases a4 with h | h <;> exact absurd ‹_› h) hk h1
      refine ⟨δi, g1, ?_⟩
      rw [List.cons_append]
      refine .cons g2 ?_
      rw [g3]; exact h2

def rem (ops : Array Oper) (listed : Array Bool) : List Nat := (List.range ops.size).filter fun j => !listed.getD j true

theorem rem_split {ops : Array Oper} {listed : Array Bool} (hs : listed.size = ops.size) {i : Nat} (hi : listed.getD i true = false) : ∃ pre post, rem ops listed = pre ++ i :: post ∧ rem ops (listed.setIfInBounds i true) = pre ++ post ∧ ∀ k ∈ pre, k < i ∧ listed.getD k true = false := by
  have hlt : i < ops.size := by
    rw [← hs]
    rcases Nat.lt_or_ge i listed.size with h | h
    · exact h
    · simp [Array.getD_eq_getD_getElem?, h] at hi
  have hr : List.range ops.size = List.range i ++ i :: List.range' (i + 1) (ops.size - (i + 1)) := by
    have e : ops.size = i + (1 + (ops.size - (i + 1))) := by omega
    conv => lhs; rw [e]
    rw [List.range_eq_range', List.range_eq_range', ← List.range'_append_1, Nat.add_comm 1, List.range'_succ]
    simp
  refine ⟨(List.range i).filter fun j => !listed.getD j true, (List.range' (i + 1) (ops.size - (i + 1))).filter fun j => !listed.getD j true, ?_, ?_, ?_⟩
  · unfold rem
    rw [hr, List.filter_append, List.filter_cons_of_pos (by rw [hi]; rfl)]
  · unfold rem
    rw [hr, List.filter_append, List.filter_cons_of_neg (by
      have : (listed.setIfInBounds i true).getD i true = true := by
        simp [Array.getD_eq_getD_getElem?, hs, hlt]
      rw [this]; decide)]
    congr 1
    · apply List.filter_congr
      intro j hj
      rw [getD_set_ne _ (by have := List.mem_range.1 hj; omega)]
    · apply List.filter_congr
      intro j hj
      rw [getD_set_ne _ (by have := (List.mem_range'_1.1 hj).1; omega)]
  · intro k hk
    obtain ⟨h1, h2⟩ := List.mem_filter.1 hk
    exact ⟨List.mem_range.1 h1, by simpa using h2⟩

theorem getD_tf {l : Array Bool} {j : Nat} (h : j < l.size) : l.getD j true = l.getD j false := by
  simp [Array.getD_eq_getD_getElem?, h]

theorem any_rep {P : Program} {N : Fr} {md : Region.Mode} {ops : Array Oper} {Q : Exit → Act → World → Prop} (hok : orderOk md ops = true) : ∀ (fuel : Nat) {listed : Array Bool} {s s' : St} {φ : Map} {Pr : Pro} {ac : Act} {w : World}, listed.size = ops.size → Closed md ops listed → (rem ops listed).length ≤ fuel →
    (∀ i o, ops[i]? = some o → ∀ e ∈ o.after, Region.binds md e = true → e.on < i) → Chain P N ops (rem ops listed) s s' → Inv N s φ Pr ac w → After N w φ Pr s s' (Q .normal) → wpAny P md ops Q fuel listed ac w := by
  intro fuel
  have hnil : ∀ {listed : Array Bool} {s s' : St} {φ : Map} {Pr : Pro} {ac : Act} {w : World}, listed.size = ops.size → (∀ i o, ops[i]? = some o → ∀ e ∈ o.after, Region.binds md e = true → e.on < i) → Region.ready md ops listed = [] → Chain P N ops (rem ops listed) s s' → Inv N s φ Pr ac w → After N w φ Pr s s' (Q .normal) → Q .normal ac w := by
    intro listed s s' φ Pr ac w hsz hbe hr ht hI hK
    have hn : rem ops listed = [] := by
      cases hq : rem ops listed with
      | nil => rfl
      | cons i r =>
        exfalso
        have hmem : i ∈ rem ops listed := by rw [hq]; exact List.mem_cons_self
        obtain ⟨h1, h2⟩ := List.mem_filter.1 hmem
        have hlt := List.mem_range.1 h1
        have hli : listed.getD i true = false := by simpa using h2
        obtain ⟨pre, post, e1, _, e3⟩ := rem_split hsz hli
        have : pre = [] := by
          cases pre with
          | nil => rfl
          | cons a b =>
            rw [hq] at e1; simp at e1
            have := (e3 a List.mem_cons_self).1
            omega
        subst this
        have hready : i ∈ Region.ready md ops listed := by
          refine mem_ready.2 ⟨hli, ops[i], by simp [hlt], fun e he hb => ?_⟩
          have hlt2 := hbe i ops[i] (by simp [hlt]) e he hb
          cases hz : listed.getD e.on false with
          | true => rfl
          | false =>
            exfalso
            have hz' : listed.getD e.on true = false := by rw [getD_tf (by omega)]; exact hz
            have hm2 : e.on ∈ rem ops listed := List.mem_filter.2 ⟨List.mem_range.2 (by omega), by rw [hz']; rfl⟩
            rw [e1, List.nil_append] at hm2
            have hsorted : (rem ops listed).Pairwise (· < ·) := List.Pairwise.filter _ List.pairwise_lt_range
            rw [e1, List.nil_append, List.pairwise_cons] at hsorted
            rcases List.mem_cons.1 hm2 with h | h
            · omega
            · have := hsorted.1 _ h; omega
        rw [hr] at hready; simp at hready
    rw [hn] at ht
    cases ht with
    | nil => exact hK _ _ _ _ hI (Adv.refl hI.heap)
  induction fuel with
  | zero =>
    intro listed s s' φ Pr ac w hsz hcl hf hbe ht hI hK
    have hn : rem ops listed = [] := List.length_eq_zero_iff.1 (by omega)
    have hr : Region.ready md ops listed = [] := by
      cases hq : Region.ready md ops listed with
      | nil => rfl
      | cons i r =>
        exfalso
        obtain ⟨h1, o, ho, _⟩ := mem_ready.1 (show i ∈ Region.ready md ops listed by rw [hq]; exact List.mem_cons_self)
        have hlt : i < ops.size := (Array.getElem?_eq_some_iff.1 ho).1
        have : i ∈ rem ops listed := List.mem_filter.2 ⟨List.mem_range.2 hlt, by rw [h1]; rfl⟩
        rw [hn] at this; simp at this
    exact ⟨hr, hnil hsz hbe hr ht hI hK⟩
  | succ fuel ih =>
    intro listed s s' φ Pr ac w hsz hcl hf hbe ht hI hK
    refine ⟨fun hr => hnil hsz hbe hr ht hI hK, fun i hi => ?_⟩
    obtain ⟨hli, o, ho, hpre⟩ := mem_ready.1 hi
    have hlt : i < ops.size := (Array.getElem?_eq_some_iff.1 ho).1
    obtain ⟨pre, post, e1, e2, e3⟩ := rem_split hsz hli
    rw [e1] at ht
    have hfree : ∀ k ∈ pre, pairFree ops k i = true := by
      intro k hk
      obtain ⟨hki, hlk⟩ := e3 k hk
      have := List.all_eq_true.1 (List.all_eq_true.1 hok i (List.mem_range.2 hlt)) k (List.mem_range.2 hki)
      rw [Bool.or_eq_true] at this
      rcases this with h | h
      · exact h
      · exfalso
        have := under_listed hcl _ i k o ho hpre h
        rw [getD_tf (by omega), this] at hlk; simp at hlk
    obtain ⟨δ, h1, h2⟩ := front ho ⟨φ, Pr, ac, w, hI⟩ hfree ht
    refine wpOp_mono (fun ac' w' hs => ?_) (h1.rep hI Q)
    obtain ⟨φ', Pr', hI', hA⟩ := hs
    refine ih (by simpa using hsz) (fun j oj hj hlj e he hb => ?_) ?_ hbe (by rw [e2]; exact h2) hI' (fun φ2 Pr2 ac2 w2 hI2 hA2 => hK φ2 Pr2 ac2 w2 hI2 (hA.trans hA2))
    · by_cases hji : j = i
      · subst hji
        rw [ho] at hj; simp at hj; subst hj
        have := hpre e he hb
        by_cases hei : e.on = j
        · rw [hei, getD_tf (by omega)] at *; simp_all
        · rw [getD_set_ne _ (Ne.symm hei)]; exact this
      · rw [getD_set_ne _ (Ne.symm hji)] at hlj
        have := hcl j oj hj hlj e he hb
        by_cases hei : e.on = i
        · rw [hei] at this; rw [getD_tf (by omega), this] at hli; simp at hli
        · rw [getD_set_ne _ (Ne.symm hei)]; exact this
    · rw [e2]; rw [e1] at hf; simp at hf ⊢; omega

/-- Edges lead back. -/
def backOk (md : Region.Mode) (ops : Array Oper) : Bool := (List.range ops.size).all fun i => match ops[i]? with
  | some o => o.after.toList.all fun e => !Region.binds md e || decide (e.on < i)
  | none => true

theorem backOk_spec {md : Region.Mode} {ops : Array Oper} (h : backOk md ops = true) : ∀ i o, ops[i]? = some o → ∀ e ∈ o.after, Region.binds md e = true → e.on < i := by
  intro i o ho e he hb
  have := List.all_eq_true.1 h i (List.mem_range.2 (Array.getElem?_eq_some_iff.1 ho).1)
  rw [ho] at this
  simp only [List.all_eq_true, Array.mem_toList_iff] at this
  have := this e he
  rw [hb] at this
  simpa using this

theorem Inv.drawn {N : Fr} {s : St} {φ : Map} {Pr : Pro} {ac : Act} {w : World} (h : Inv N s φ Pr ac w) (n : Nat) : Inv N s φ Pr ac { w with drawn := n } := by
  have hL : Later w φ Pr { w with drawn := n } φ Pr := ⟨fun _ _ _ _ => rfl, fun _ _ _ h => h, fun _ _ h => h⟩
  exact ⟨⟨fun m => obRep.later hL (fun _ _ _ => rfl) (fun _ _ _ _ _ h => h) (h.heap.rep m), h.heap.apart, h.heap.lt, h.heap.cell⟩, h.used, h.size, fun y => (h.tmps y).later hL, h.defers⟩

theorem region_rep {P : Program} {N : Fr} {id : Nat} {ops : Array Oper} {dr : Bool} {Q : Exit → Act → World → Prop} {s s' : St} {φ : Map} {Pr : Pro} {ac : Act} {w : World} (hm : dr = true → P.follows .mixedOrders = true ∧ orderOk .any ops = true ∧ backOk .any ops = true)
    (ht : Chain P N ops (List.range ops.size) s s') (hI : Inv N s φ Pr ac w) (hK : After N w φ Pr s s' (Q .normal)) : (Code.region id ops dr).wp P Q ac w := by
  cases dr with
  | false => exact wp_region (ht.rep hI hK)
  | true =>
    obtain ⟨h1, h2, h3⟩ := hm rfl
    refine wp_region_any h1 (any_rep (s' := s') h2 ops.size (by simp) ?_ ?_ (backOk_spec h3) ?_ (hI.drawn _) ?_)
    · intro i o _ h
      exfalso
      rw [Array.getD_eq_getD_getElem?, Array.getElem?_replicate] at h
      split at h <;> simp at h
    · exact Nat.le_trans (List.length_filter_le _ _) (by simp)
    · have : rem ops (Array.replicate ops.size false) = List.range ops.size := by
        unfold rem
        rw [List.filter_eq_self]
        intro j hj
        simp [Array.getD_eq_getD_getElem?, List.mem_range.1 hj]
      rw [this]; exact ht
    · intro φ' Pr' ac' w' hI' hA
      exact hK φ' Pr' ac' w' hI' ⟨hA.os, hA.tape, hA.output, hA.size, hA.keep, hA.pro, hA.old, hA.new, hA.live, hA.map⟩

end Go.Proofs.YtamefliipjhpoaaGreat.Ab
