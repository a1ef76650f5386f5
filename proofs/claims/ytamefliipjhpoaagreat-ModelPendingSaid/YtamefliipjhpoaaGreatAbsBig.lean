/- Code, abstractly: from a state to an exit and a state. -/
import Derived.Test.YtamefliipjhpoaaGreatAbsAny
set_option autoImplicit false
namespace Go.Proofs.YtamefliipjhpoaaGreat.Ab
open Go

/-- Names of objects that were born in a frame, or in the calls of it. -/
def ownB (p : List Nat) : Nm → Bool
  | .loc k _ => p.isSuffixOf k && !(k == p)
  | .ext _ => false
def own (p : List Nat) (n : Nm) : Prop := ownB p n = true

/-- What a piece of a frame's code does to the world; the frame's own names may have moved. -/
structure Went (p : List Nat) (w : World) (φ : Map) (Pr : Pro) (o : Nm → Ob) (w' : World) (φ' : Map) (Pr' : Pro) (o' : Nm → Ob) : Prop where
  os : w'.os = w.os
  tape : w'.tape = w.tape
  output : w'.output = w.output
  size : w.heap.size ≤ w'.heap.size
  keep : ∀ b, b < w.heap.size → ¬ Live φ o b → w'.heap[b]? = w.heap[b]?
  pro : ∀ r b x, Pr r b x → Pr' r b x
  old : ∀ r b x, Pr' r b x → b < w.heap.size → Pr r b x ∨ (r = 0 ∧ Live φ o b)
  new : ∀ r b x, Pr' r b x → w.heap.size ≤ b → r = 0
  live : ∀ b, Live φ' o' b → Live φ o b ∨ w.heap.size ≤ b
  map : ∀ n l, ¬ own p n → φ n = some l → φ' n = some l

theorem Adv.went {w w' : World} {φ φ' : Map} {Pr Pr' : Pro} {o o' : Nm → Ob} (h : Adv w φ Pr o w' φ' Pr' o') (p : List Nat) : Went p w φ Pr o w' φ' Pr' o' :=
  ⟨h.os, h.tape, h.output, h.size, h.keep, h.pro, h.old, h.new, h.live, fun n l _ hl => h.map n l hl⟩

theorem Went.refl {w : World} {φ : Map} {Pr : Pro} {o : Nm → Ob} (h : Heap w φ Pr o) (p : List Nat) : Went p w φ Pr o w φ Pr o := (Adv.refl h).went p

theorem Went.trans {p : List Nat} {w w1 w2 : World} {φ φ1 φ2 : Map} {Pr Pr1 Pr2 : Pro} {o o1 o2 : Nm → Ob} (h : Went p w φ Pr o w1 φ1 Pr1 o1) (k : Went p w1 φ1 Pr1 o1 w2 φ2 Pr2 o2) : Went p w φ Pr o w2 φ2 Pr2 o2 where
  os := k.os.trans h.os
  tape := k.tape.trans h.tape
  output := k.output.trans h.output
  size := Nat.le_trans h.size k.size
  keep b hb hn := by
    rw [k.keep b (Nat.lt_of_lt_of_le hb h.size) (fun hl => ?_), h.keep b hb hn]
    rcases h.live b hl with hl | hl
    · exact hn hl
    · omega
  pro r b x hp := k.pro r b x (h.pro r b x hp)
  old r b x hp hb := by
    rcases k.old r b x hp (Nat.lt_of_lt_of_le hb h.size) with h1 | ⟨h1, h2⟩
    · exact h.old r b x h1 hb
    · rcases h.live b h2 with h3 | h3
      · exact .inr ⟨h1, h3⟩
      · omega
  new r b x hp hb := by
    by_cases hlt : b < w1.heap.size
    · rcases k.old r b x hp hlt with h1 | ⟨h1, _⟩
      · exact h.new r b x h1 hb
      · exact h1
    · exact k.new r b x hp (by omega)
  live b hl := by
    rcases k.live b hl with h1 | h1
    · exact h.live b h1
    · exact .inr (Nat.le_trans h.size h1)
  map n l ho hl := k.map n l ho (h.map n l ho hl)

/-- What stands behind code that leaves by e. -/
def Then (N : Fr) (p : List Nat) (w : World) (φ : Map) (Pr : Pro) (s s' : St) (K : Act → World → Prop) : Prop := ∀ φ' Pr' ac' w', Inv N s' φ' Pr' ac' w' → Went p w φ Pr s.o w' φ' Pr' s'.o → K ac' w'

def Big (P : Program) (N : Fr) (c : Code) (s : St) (e : Exit) (s' : St) : Prop := s'.p = s.p ∧ ∀ (φ : Map) (Pr : Pro) (ac : Act) (w : World) (Q : Exit → Act → World → Prop), Inv N s φ Pr ac w → Then N s.p w φ Pr s s' (Q e) → c.wp P Q ac w

/-- The same state, told otherwise. -/
def Weak (N : Fr) (s s' : St) : Prop := s'.p = s.p ∧ ∀ (φ : Map) (Pr : Pro) (ac : Act) (w : World), Inv N s φ Pr ac w → ∃ φ' Pr', Inv N s' φ' Pr' ac w ∧ Went s.p w φ Pr s.o w φ' Pr' s'.o

theorem Weak.refl {N : Fr} (s : St) : Weak N s s := ⟨rfl, fun φ Pr _ _ hI => ⟨φ, Pr, hI, Went.refl hI.heap _⟩⟩
theorem Weak.trans {N : Fr} {s s1 s2 : St} (h : Weak N s s1) (k : Weak N s1 s2) : Weak N s s2 :=
  ⟨k.1.trans h.1, fun φ Pr ac w hI => by
    obtain ⟨φ1, Pr1, h1, h2⟩ := h.2 φ Pr ac w hI
    obtain ⟨φ2, Pr2, k1, k2⟩ := k.2 φ1 Pr1 ac w h1
    exact ⟨φ2, Pr2, k1, h2.trans (h.1 ▸ k2)⟩⟩

section rules
variable {P : Program} {N : Fr}

theorem Chain.path {ops : Array Oper} {r : List Nat} {s s' : St} (h : Chain P N ops r s s') : s'.p = s.p := by
  induction h with
  | nil => rfl
  | cons _ _ ih => exact ih

theorem Big.region {id : Nat} {ops : Array Oper} {s s' : St} (h : Chain P N ops (List.range ops.size) s s') : Big P N (.region id ops false) s .normal s' :=
  ⟨h.path, fun _ _ _ _ _ hI hK => region_rep (by simp) h hI (fun φ' Pr' ac' w' hI' hA => hK φ' Pr' ac' w' hI' (hA.went _))⟩
theorem Big.draw {id : Nat} {ops : Array Oper} {s s' : St} (hm : P.follows .mixedOrders = true) (h1 : orderOk .any ops = true) (h2 : backOk .any ops = true) (h : Chain P N ops (List.range ops.size) s s') : Big P N (.region id ops true) s .normal s' :=
  ⟨h.path, fun _ _ _ _ _ hI hK => region_rep (fun _ => ⟨hm, h1, h2⟩) h hI (fun φ' Pr' ac' w' hI' hA => hK φ' Pr' ac' w' hI' (hA.went _))⟩

theorem Big.skip {s : St} : Big P N .skip s .normal s := ⟨rfl, fun φ Pr ac w _ hI hK => wp_skip (hK φ Pr ac w hI (Went.refl hI.heap _))⟩
theorem Big.label {l : Nat} {s : St} : Big P N (.label l) s .normal s := ⟨rfl, fun φ Pr ac w _ hI hK => wp_label (hK φ Pr ac w hI (Went.refl hI.heap _))⟩
theorem Big.exit {id : Nat} {s : St} : Big P N (.exit id) s (.exit id) s := ⟨rfl, fun φ Pr ac w _ hI hK => wp_exit (hK φ Pr ac w hI (Went.refl hI.heap _))⟩
theorem Big.ret {s : St} : Big P N .ret s .ret s := ⟨rfl, fun φ Pr ac w _ hI hK => wp_ret (hK φ Pr ac w hI (Went.refl hI.heap _))⟩

theorem Big.seq {a b : Code} {s s1 s2 : St} {e : Exit} (h : Big P N a s .normal s1) (k : Big P N b s1 e s2) : Big P N (.seq a b) s e s2 :=
  ⟨k.1.trans h.1, fun φ Pr ac w Q hI hK => wp_seq (h.2 φ Pr ac w _ hI (fun φ1 Pr1 ac1 w1 hI1 hW1 => k.2 φ1 Pr1 ac1 w1 Q hI1 (fun φ2 Pr2 ac2 w2 hI2 hW2 => hK φ2 Pr2 ac2 w2 hI2 (hW1.trans (h.1 ▸ hW2)))))⟩
theorem then_of_ne {e : Exit} (he : e ≠ .normal) {K : Act → World → Prop} {Q : Exit → Act → World → Prop} {a : Act} {w : World} (h : Q e a w) : Exit.then K Q e a w := by
  cases e <;> first | exact absurd rfl he | exact h
theorem Big.seqX {a b : Code} {s s1 : St} {e : Exit} (he : e ≠ .normal) (h : Big P N a s e s1) : Big P N (.seq a b) s e s1 :=
  ⟨h.1, fun φ Pr ac w _ hI hK => wp_seq (h.2 φ Pr ac w _ hI (fun φ1 Pr1 ac1 w1 hI1 hW1 => then_of_ne he (hK φ1 Pr1 ac1 w1 hI1 hW1)))⟩
theorem Big.cond {c : Operand} {x y : Code} {t : Bool} {s s' : St} {e : Exit} (hc : s.ev c = dv (.bool t)) (h : Big P N (if t then x else y) s e s') : Big P N (.cond c x y) s e s' :=
  ⟨h.1, fun φ Pr ac w Q hI hK => wp_cond (t := t) (by
    have := hI.ev c
    rw [hc] at this
    exact this.dv_eq) (h.2 φ Pr ac w Q hI hK)⟩
theorem Big.block {id : Nat} {c : Code} {s s' : St} {e : Exit} (h : Big P N c s e s') : Big P N (.block id c) s (match e with | .exit i => if i = id then .normal else .exit i | e => e) s' :=
  ⟨h.1, fun φ Pr ac w _ hI hK => wp_block (h.2 φ Pr ac w _ hI (fun φ1 Pr1 ac1 w1 hI1 hW1 => by
    have := hK φ1 Pr1 ac1 w1 hI1 hW1
    cases e <;> first | exact this | skip
    rename_i i
    simp only [Exit.inBlock]
    simp only [] at this
    split <;> rename_i hi <;> simpa [hi] using this))⟩
theorem Big.weak {c : Code} {s s1 s2 : St} {e : Exit} (h : Weak N s s1) (k : Big P N c s1 e s2) : Big P N c s e s2 :=
  ⟨k.1.trans h.1, fun φ Pr ac w Q hI hK => by
    obtain ⟨φ1, Pr1, h1, h2⟩ := h.2 φ Pr ac w hI
    exact k.2 φ1 Pr1 ac w Q h1 (fun φ2 Pr2 ac2 w2 hI2 hW2 => hK φ2 Pr2 ac2 w2 hI2 (h2.trans (h.1 ▸ hW2)))⟩
theorem Big.weaken {c : Code} {s s1 s2 : St} {e : Exit} (k : Big P N c s e s1) (h : Weak N s1 s2) : Big P N c s e s2 :=
  ⟨h.1.trans k.1, fun φ Pr ac w Q hI hK => k.2 φ Pr ac w Q hI (fun φ1 Pr1 ac1 w1 hI1 hW1 => by
    obtain ⟨φ2, Pr2, h1, h2⟩ := h.2 φ1 Pr1 ac1 w1 hI1
    exact hK φ2 Pr2 ac1 w1 h1 (hW1.trans (k.1 ▸ h2)))⟩

/-! ### Loops: round by round -/
def LoopFrom (P : Program) (c : Code) (Q : Exit → Act → World → Prop) (a : Act) (w : World) : Prop := ∀ (b : Frame) (k : List Item) (cs : List Frame),
  ∃ e a' w', Q e a' w' ∧ Arrives P (lone (b.at a (.code c :: .inLoop c :: k)) cs w) b k cs e a' w'

theorem loop_from {c : Code} {Q : Exit → Act → World → Prop} {a : Act} {w : World} (h : LoopFrom P c Q a w) : (Code.loop c).wp P Q a w := by
  intro b k cs
  obtain ⟨e, a', w', hq, harr⟩ := h b k cs
  exact ⟨e, a', w', hq, .of_steps (.one step_loop) harr⟩

theorem loop_round {c : Code} {Q : Exit → Act → World → Prop} {a : Act} {w : World} (h : c.wp P (Exit.then (LoopFrom P c Q) Q) a w) : LoopFrom P c Q a w := by
  intro b k cs
  obtain ⟨e, a₁, w₁, hq, harr⟩ := h b (.inLoop c :: k) cs
  cases e with
  | normal =>
    obtain ⟨e₂, a₂, w₂, hq₂, harr₂⟩ := hq b k cs
    exact ⟨e₂, a₂, w₂, hq₂, .of_steps (Steps.trans harr (.one step_inLoop)) harr₂⟩
  | exit id => exact ⟨_, a₁, w₁, hq, .pass (x := .inLoop c) rfl (fun _ _ => .inl (by simp)) harr⟩
  | goto l => exact ⟨_, a₁, w₁, hq, .pass (x := .inLoop c) rfl (fun _ _ => .inl (by simp)) harr⟩
  | ret => exact ⟨_, a₁, w₁, hq, .pass (x := .inLoop c) rfl (fun _ _ => .inl (by simp)) harr⟩
  | panic ch => exact ⟨_, a₁, w₁, hq, .pass (x := .inLoop c) rfl (fun _ _ => .inl (by simp)) harr⟩
  | outgrown => exact ⟨_, a₁, w₁, hq, .pass (x := .inLoop c) rfl (fun _ _ => .inl (by simp)) harr⟩

def BigL (P : Program) (N : Fr) (c : Code) (s : St) (e : Exit) (s' : St) : Prop := s'.p = s.p ∧ ∀ (φ : Map) (Pr : Pro) (ac : Act) (w : World) (Q : Exit → Act → World → Prop), Inv N s φ Pr ac w → Then N s.p w φ Pr s s' (Q e) → LoopFrom P c Q ac w

theorem Big.loop {c : Code} {s s' : St} {e : Exit} (h : BigL P N c s e s') : Big P N (.loop c) s e s' := ⟨h.1, fun φ Pr ac w Q hI hK => loop_from (h.2 φ Pr ac w Q hI hK)⟩
theorem BigL.round {c : Code} {s s1 s2 : St} {e : Exit} (h : Big P N c s .normal s1) (k : BigL P N c s1 e s2) : BigL P N c s e s2 :=
  ⟨k.1.trans h.1, fun φ Pr ac w Q hI hK => loop_round (h.2 φ Pr ac w _ hI (fun φ1 Pr1 ac1 w1 hI1 hW1 => k.2 φ1 Pr1 ac1 w1 Q hI1 (fun φ2 Pr2 ac2 w2 hI2 hW2 => hK φ2 Pr2 ac2 w2 hI2 (hW1.trans (h.1 ▸ hW2)))))⟩
theorem BigL.out {c : Code} {s s1 : St} {e : Exit} (he : e ≠ .normal) (h : Big P N c s e s1) : BigL P N c s e s1 :=
  ⟨h.1, fun φ Pr ac w _ hI hK => loop_round (h.2 φ Pr ac w _ hI (fun φ1 Pr1 ac1 w1 hI1 hW1 => then_of_ne he (hK φ1 Pr1 ac1 w1 hI1 hW1)))⟩
theorem BigL.weak {c : Code} {s s1 s2 : St} {e : Exit} (h : Weak N s s1) (k : BigL P N c s1 e s2) : BigL P N c s e s2 :=
  ⟨k.1.trans h.1, fun φ Pr ac w Q hI hK => by
    obtain ⟨φ1, Pr1, h1, h2⟩ := h.2 φ Pr ac w hI
    exact k.2 φ1 Pr1 ac w Q h1 (fun φ2 Pr2 ac2 w2 hI2 hW2 => hK φ2 Pr2 ac2 w2 hI2 (h2.trans (h.1 ▸ hW2)))⟩

end rules
end Go.Proofs.YtamefliipjhpoaaGreat.Ab
