/- Steps of a region whose order is open: which may change places. -/
import Derived.Test.YtamefliipjhpoaaGreatAbsStep
set_option autoImplicit false
namespace Go.Proofs.YtamefliipjhpoaaGreat.Ab
open Go

/-! ### What a step looks up -/
def nmP : A → List Nm
  | .ptr n _ | .pel n _ _ _ => [n]
  | _ => []
def nmS : A → List Nm
  | .os n _ _ _ | .ox n _ _ _ => [n]
  | _ => []
def nmC : A → List Nm
  | .ag cs => cs.flatMap nmS
  | a => nmS a

theorem toD_congr {s s2 : St} {a : A} (h : ∀ n ∈ nmS a, s2.o n = s.o n) : toD s2 a = toD s a := by
  cases a <;> first | rfl | (simp only [toD]; rw [h _ (by simp [nmS])])

theorem toDs_congr {s s2 : St} : ∀ {as : List A}, (∀ a ∈ as, ∀ n ∈ nmS a, s2.o n = s.o n) → toDs s2 as = toDs s as
  | [], _ => rfl
  | a :: r, h => by
    simp only [toDs]
    rw [toD_congr (h a List.mem_cons_self), toDs_congr (fun b hb => h b (List.mem_cons_of_mem _ hb))]

theorem toRows_congr {s s2 : St} : ∀ {as : List (List A)}, (∀ l ∈ as, ∀ a ∈ l, ∀ n ∈ nmS a, s2.o n = s.o n) → toRows s2 as = toRows s as
  | [], _ => rfl
  | a :: r, h => by
    simp only [toRows]
    rw [toDs_congr (h a List.mem_cons_self), toRows_congr (fun b hb => h b (List.mem_cons_of_mem _ hb))]

theorem rowsA_congr {s s2 : St} {a : A} (h : ∀ n ∈ nmS a, s2.o n = s.o n) : rowsA s2 a = rowsA s a := by
  cases a with
  | d x => cases x <;> rfl
  | _ => first | rfl | (simp only [rowsA]; rw [h _ (by simp [nmS])])

theorem loadA_congr {P : Program} {s s2 : St} {t : TypeId} {a : A} (h : ∀ n ∈ nmP a, s2.o n = s.o n) : loadA P s2 t a = loadA P s t a := by
  cases a <;> first | rfl | (simp only [loadA]; rw [h _ (by simp [nmP])])

def lk (s : St) (o : Oper) : List Nm := match o.op with
  | .load _ x => nmP (s.ev x)
  | .store _ a x => nmP (s.ev a) ++ nmC (s.ev x)
  | .buildSlice _ _ parts => parts.toList.flatMap fun p => nmC (s.ev p.2)
  | .call c => match c.callee with
    | .value _ | .builtin .append => c.args.toList.flatMap fun x => nmC (s.ev x)
    | _ => []
  | _ => []

theorem nmS_nmC {a : A} {n : Nm} (h : n ∈ nmS a) : n ∈ nmC a := by
  cases a <;> first | exact h | simp [nmS] at h

theorem cellsA_nm {a b : A} {cs : List A} (h : cellsA a = some cs) (hb : b ∈ cs) {n : Nm} (hn : n ∈ nmS b) : n ∈ nmC a := by
  unfold cellsA at h
  split at h
  · simp at h; subst h; simp only [nmC, List.mem_flatMap]; exact ⟨b, hb, hn⟩
  · split at h
    · simp at h; subst h; simp at hb; subst hb; exact nmS_nmC hn
    · simp at h

theorem ev_const_nm (s : St) (v : Value) : nmC (s.ev (.const v)) = [] ∧ nmP (s.ev (.const v)) = [] := by
  simp only [St.ev, constA]
  split
  · exact ⟨rfl, rfl⟩
  · split <;> exact ⟨rfl, rfl⟩

/-- The operands' values are the same. -/
def SameEv (s s2 : St) (o : Oper) : Prop := ∀ x ∈ o.op.operands, s2.ev x = s.ev x

theorem fillA_mem {pl : List (Nat × Nat)} : ∀ {parts : List (Nat × A)} {cells out : List A}, fillA pl cells parts = some out → ∀ a ∈ out, a ∈ cells ∨ ∃ p ∈ parts, ∃ cs, cellsA p.2 = some cs ∧ a ∈ cs
  | [], cells, out, h, a, ha => by simp [fillA] at h; subst h; exact .inl ha
  | (i, b) :: r, cells, out, h, a, ha => by
    unfold fillA at h
    split at h
    · rename_i off sz cs hpl hca
      split at h
      · rcases fillA_mem h a ha with h1 | ⟨p, hp, cs', h1, h2⟩
        · simp only [List.mem_append] at h1
          rcases h1 with (h1 | h1) | h1
          · exact .inl (List.mem_of_mem_take h1)
          · exact .inr ⟨(i, b), List.mem_cons_self, cs, hca, h1⟩
          · exact .inl (List.mem_of_mem_drop h1)
        · exact .inr ⟨p, List.mem_cons_of_mem _ hp, cs', h1, h2⟩
      · simp at h
    · simp at h

theorem chunkA_mem {α : Type} {k : Nat} : ∀ {n : Nat} {l : List α} {c : List α}, c ∈ chunkA k n l → ∀ a ∈ c, a ∈ l
  | 0, _, _, h, _, _ => by simp [chunkA] at h
  | n + 1, l, c, h, a, ha => by
    simp only [chunkA, List.mem_cons] at h
    rcases h with rfl | h
    · exact List.mem_of_mem_take ha
    · exact List.mem_of_mem_drop (chunkA_mem h a ha)

theorem zeroT_nm {P : Program} {t : TypeId} {z : List A} (h : zeroT P t = some z) : ∀ a ∈ z, nmS a = [] := by
  unfold zeroT at h
  split at h
  · split at h
    · simp at h; subst h
      intro a ha
      obtain ⟨v, _, rfl⟩ := List.mem_map.1 ha
      unfold constA
      split
      · rfl
      · split <;> rfl
    · simp at h
  · simp at h

theorem resA_congr {P : Program} {s s2 : St} {o : Oper} (he : SameEv s s2 o) (hl : ∀ n ∈ lk s o, s2.o n = s.o n) : resA P s2 o = resA P s o := by
  unfold resA
  cases hop : o.op <;> try rfl
  case move x => simp only []; rw [he x (by simp [hop, Op.operands])]
  case assign x => simp only []; rw [he x (by simp [hop, Op.operands])]
  case pick c a b => simp only []; rw [he c (by simp [hop, Op.operands]), he a (by simp [hop, Op.operands]), he b (by simp [hop, Op.operands])]
  case load t x =>
    have e := he x (by simp [hop, Op.operands])
    simp only []
    rw [e]
    exact loadA_congr (fun n hn => hl n (by simp only [lk, hop]; exact hn))
  case fieldAddr t x f => simp only []; rw [he x (by simp [hop, Op.operands])]
  case indexAddr t x i => simp only []; rw [he x (by simp [hop, Op.operands]), he i (by simp [hop, Op.operands])]
  case slice t x lo hi mx =>
    simp only []
    rw [he x (by simp [hop, Op.operands])]
    have em : ∀ y : Option Operand, (∀ z, y = some z → z ∈ o.op.operands) → y.map s2.ev = y.map s.ev := by
      intro y hy
      cases y with
      | none => rfl
      | some z => simp [he z (hy z rfl)]
    rw [em lo (fun z hz => by simp [hop, Op.operands, hz]), em hi (fun z hz => by simp [hop, Op.operands, hz]), em mx (fun z hz => by simp [hop, Op.operands, hz])]
  case binOp op t x y ty => simp only []; rw [he x (by simp [hop, Op.operands]), he y (by simp [hop, Op.operands])]
  case unOp op t x => simp only []; rw [he x (by simp [hop, Op.operands])]
  case convert a b x => simp only []; rw [he x (by simp [hop, Op.operands])]
  case field t x f => simp only []; rw [he x (by simp [hop, Op.operands])]
  case extract x i => simp only []; rw [he x (by simp [hop, Op.operands])]
  case build t parts =>
    simp only []
    congr 1
    apply List.map_congr_left
    intro p hp
    rw [he p.2 (by
      simp only [hop, Op.operands, List.mem_toArray, List.mem_map]
      exact ⟨p, by simpa using hp, rfl⟩)]
  case makeFunc f first cap =>
    cases f <;> try rfl
    simp only []
    split
    · congr 2
      apply List.map_congr_left
      intro x hx
      exact he x (by simp only [hop, Op.operands, Array.mem_append]; right; simpa using hx)
    · rfl
  case nilCheck x => simp only []; rw [he x (by simp [hop, Op.operands])]
  case index t x i => simp only []; rw [he x (by simp [hop, Op.operands]), he i (by simp [hop, Op.operands])]
  case makeInterface t x => simp only []; rw [he x (by simp [hop, Op.operands])]
  case call c =>
    simp only []
    split
    · rename_i x t hc hargs ht
      rw [he x (by
        simp only [hop, Op.operands, Call.operands, Array.mem_append]; right
        have : x ∈ c.args.toList := by rw [hargs]; simp
        simpa using this)]
    · rfl

end Go.Proofs.YtamefliipjhpoaaGreat.Ab
