/- Maps as lists of keys and values. -/
import Derived.Test.YtamefliipjhpoaaGreatAbsN
set_option autoImplicit false
set_option linter.unusedSectionVars false
namespace Go.Proofs.YtamefliipjhpoaaGreat.Spec
/-- Where a key stands, and what stands there. -/
def findM {κ ν : Type} [DecidableEq κ] (k : κ) : List (κ × ν) → Nat → Option (Nat × ν)
  | [], _ => none
  | q :: r, i => if k = q.1 then some (i, q.2) else findM k r (i + 1)
def getM {κ ν : Type} [DecidableEq κ] (l : List (κ × ν)) (k : κ) : Option ν := (findM k l 0).map (·.2)
def putM {κ ν : Type} [DecidableEq κ] (l : List (κ × ν)) (k : κ) (v : ν) : List (κ × ν) := match findM k l 0 with
  | some (i, _) => l.set i (k, v)
  | none => l ++ [(k, v)]
section
variable {κ ν : Type} [DecidableEq κ]
theorem findM_shift (k : κ) : ∀ (l : List (κ × ν)) (i : Nat), findM k l (i + 1) = (findM k l i).map fun x => (x.1 + 1, x.2)
  | [], _ => rfl
  | q :: r, i => by
    unfold findM
    split
    · rfl
    · exact findM_shift k r (i + 1)
theorem findM_at (k : κ) : ∀ (l : List (κ × ν)) (i j : Nat) (v : ν), findM k l i = some (j, v) → i ≤ j ∧ l[j - i]? = some (k, v)
  | [], _, _, _, h => by simp [findM] at h
  | q :: r, i, j, v, h => by
    unfold findM at h
    split at h
    · rename_i hk
      simp at h
      obtain ⟨rfl, rfl⟩ := h
      exact ⟨Nat.le_refl _, by simp [hk]⟩
    · obtain ⟨h1, h2⟩ := findM_at k r (i + 1) j v h
      refine ⟨by omega, ?_⟩
      rw [show j - i = (j - (i + 1)) + 1 by omega]
      simpa using h2
theorem getM_cons (q : κ × ν) (r : List (κ × ν)) (k : κ) : getM (q :: r) k = if k = q.1 then some q.2 else getM r k := by
  unfold getM
  conv => lhs; unfold findM
  split
  · rfl
  · rw [findM_shift]; cases findM k r 0 <;> rfl
theorem getM_nil (k : κ) : getM ([] : List (κ × ν)) k = none := rfl
theorem getM_append (k : κ) (q : κ × ν) : ∀ l : List (κ × ν), getM (l ++ [q]) k = match getM l k with | some v => some v | none => if k = q.1 then some q.2 else none
  | [] => by simp [getM_cons, getM_nil]
  | x :: r => by
    simp only [List.cons_append, getM_cons, getM_append k q r]
    by_cases h : k = x.1
    · rw [if_pos h, if_pos h]
    · rw [if_neg h, if_neg h]
theorem getM_set (k k2 : κ) (v : ν) : ∀ (l : List (κ × ν)) (j : Nat) (x : ν), findM k l 0 = some (j, x) → getM (l.set j (k, v)) k2 = if k2 = k then some v else getM l k2
  | [], _, _, h => by simp [findM] at h
  | q :: r, j, x, h => by
    unfold findM at h
    split at h
    · rename_i hk
      simp at h
      obtain ⟨rfl, rfl⟩ := h
      subst hk
      simp only [List.set_cons_zero, getM_cons]
      by_cases h2 : k2 = q.1
      · simp [h2]
      · simp [h2]
    · rename_i hk
      rw [findM_shift] at h
      cases hf : findM k r 0 with
      | none => rw [hf] at h; simp at h
      | some y =>
        rw [hf] at h; simp at h
        obtain ⟨rfl, rfl⟩ := h
        simp only [List.set_cons_succ, getM_cons]
        rw [getM_set k k2 v r y.1 y.2 hf]
        by_cases h2 : k2 = q.1
        · by_cases h3 : k2 = k
          · rw [h3] at h2; exact absurd h2 hk
          · simp [h2, Ne.symm hk]
        · by_cases h3 : k2 = k
          · simp [h3, hk]
          · simp [h2, h3]
theorem getM_putM (l : List (κ × ν)) (k : κ) (v : ν) (k2 : κ) : getM (putM l k v) k2 = if k2 = k then some v else getM l k2 := by
  unfold putM
  split
  · rename_i i x hf
    exact getM_set k k2 v l i x hf
  · rename_i hf
    rw [getM_append]
    have hg : getM l k = none := by simp [getM, hf]
    by_cases h : k2 = k
    · subst h; simp [hg]
    · simp [h]
      cases getM l k2 <;> rfl
theorem putM_length (l : List (κ × ν)) (k : κ) (v : ν) : (putM l k v).length ≤ l.length + 1 := by
  unfold putM
  split <;> simp
end
end Go.Proofs.YtamefliipjhpoaaGreat.Spec
namespace Go.Proofs.YtamefliipjhpoaaGreat.Ab
open Go
section
variable {P : Program} {kt : TypeId} {κ ν : Type} [DecidableEq κ] {ek : κ → A} {ev : ν → A}
/-- What a map of the specification is as an object. -/
def encM (ek : κ → A) (ev : ν → A) (l : List (κ × ν)) : List (A × A) := l.map fun q => (ek q.1, ev q.2)
theorem findA_map (hk : ∀ a b : κ, keyEq P kt (ek a) (ek b) = some (decide (a = b))) (k : κ) : ∀ (l : List (κ × ν)) (i : Nat), findA P kt (ek k) (encM ek ev l) i = some ((Spec.findM k l i).map fun x => (x.1, ev x.2))
  | [], _ => rfl
  | q :: r, i => by
    show findA P kt (ek k) ((ek q.1, ev q.2) :: encM ek ev r) i = _
    unfold findA Spec.findM
    rw [hk]
    by_cases h : k = q.1
    · simp [h]
    · simp only [h, decide_false, if_false]
      exact findA_map hk k r (i + 1)
theorem lookA_map (ck : Bool) (k : κ) (l : List (κ × ν)) (z : A) : lookA ck ((Spec.findM k l 0).map fun x => (x.1, ev x.2)) z = if ck then .tup [((Spec.getM l k).map ev).getD z, .d (.v (.bool (Spec.getM l k).isSome))] else ((Spec.getM l k).map ev).getD z := by
  unfold lookA Spec.getM
  cases Spec.findM k l 0 <;> rfl
theorem putA_map (k : κ) (v : ν) (l : List (κ × ν)) : putA (ek k) (ev v) ((Spec.findM k l 0).map fun x => (x.1, ev x.2)) (encM ek ev l) = encM ek ev (Spec.putM l k v) := by
  unfold putA Spec.putM encM
  cases Spec.findM k l 0 with
  | none => simp
  | some x => simp [List.map_set]
theorem old_map (k : κ) (l : List (κ × ν)) (j : Nat) (a : A) (h : (Spec.findM k l 0).map (fun x => (x.1, ev x.2)) = some (j, a)) : ((encM ek ev l)[j]?).map (·.1) = some (ek k) := by
  cases hf : Spec.findM k l 0 with
  | none => rw [hf] at h; simp at h
  | some x =>
    rw [hf] at h; simp at h
    obtain ⟨h1, h2⟩ := Spec.findM_at k l 0 x.1 x.2 hf
    unfold encM
    rw [← h.1, List.getElem?_map]
    simp at h2
    rw [h2]; rfl
theorem encM_ren (h1 : ∀ k, inD (fun _ => false) (ek k) = true) (h2 : ∀ v, inD (fun _ => false) (ev v) = true) (ρ : Nm → Nm) (l : List (κ × ν)) : (encM ek ev l).map (fun q => (ren ρ q.1, ren ρ q.2)) = encM ek ev l := by
  unfold encM
  rw [List.map_map]
  refine List.map_congr_left (fun q _ => ?_)
  show (ren ρ (ek q.1), ren ρ (ev q.2)) = _
  rw [ren_id (fun n hn => by simp at hn) _ (h1 q.1), ren_id (fun n hn => by simp at hn) _ (h2 q.2)]
theorem encM_in (h1 : ∀ k, inD (fun _ => false) (ek k) = true) (h2 : ∀ v, inD (fun _ => false) (ev v) = true) (dm : Nm → Bool) (l : List (κ × ν)) : (encM ek ev l).all (fun q => inD dm q.1 && inD dm q.2) = true := by
  refine List.all_eq_true.2 (fun q hq => ?_)
  unfold encM at hq
  obtain ⟨x, _, rfl⟩ := List.mem_map.1 hq
  rw [Bool.and_eq_true]
  exact ⟨inD_mono (fun n hn => by simp at hn) _ (h1 x.1), inD_mono (fun n hn => by simp at hn) _ (h2 x.2)⟩
end
end Go.Proofs.YtamefliipjhpoaaGreat.Ab
