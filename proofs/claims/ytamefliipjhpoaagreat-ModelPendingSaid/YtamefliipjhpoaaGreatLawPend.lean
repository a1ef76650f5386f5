import Derived.Test.YtamefliipjhpoaaGreatModel0
set_option autoImplicit false
set_option linter.unusedSimpArgs false
set_option linter.unusedVariables false
namespace Go.Proofs.YtamefliipjhpoaaGreat.Ab
open Go Go.Proofs

theorem sameItem_refl (x : Spec.Item) : Spec.sameItem x x = true := by simp [Spec.sameItem, Spec.sameMut, Spec.sameF]
theorem allSame_refl {α : Type} {f : α → α → Bool} (h : ∀ x, f x x = true) : ∀ l, Spec.allSame f l l = true
  | [] => rfl
  | x :: r => by simp [Spec.allSame, h x, allSame_refl h r]
theorem few_len {l : List Spec.Item} (h : Spec.few l = true) : l.length ≤ 30 := by
  simp [Spec.few] at h; exact h.2

set_option maxRecDepth 10000 in
theorem spec_law27_ModelPending (own log : List Spec.Item) (ho : own.length < 4611686018427387904) (hl : log.length < 4611686018427387904) : DSpec Tryz.prog 3 [.d (itemsD own), .d (itemsD log)] (.d (.v (.bool true))) := by
  apply DSpec.by Tryz.func3 Tryz.call3 rfl Tryz.ntmps3 (by simp) Tryz.results3 rfl
  simp [List.range, List.range.loop]
  skip
  apply W.runs
  · simp; rfl
  apply W.seq
  apply W.seq
  apply W.regM rfl  -- region 1
  apply WX.call (ho := rfl) (hop := rfl) (hcal := rfl) (hg := rfl) (hd := rfl)  -- law27_awake
  · rfl
  · simp; rfl
  · rfl
  · exact spec_law27_awake ..
  · simp; rfl
  apply WX.ex rfl
  · simp; rfl
  · simp; rfl
  apply WX.nil
  simp only [andThen_normal]
  apply W.condF (by simp)  -- cond 0
  apply W.skip
  simp only [andThen_normal]
  apply W.seq
  apply W.seq
  apply W.regM rfl  -- region 3
  apply WX.ex rfl
  · simp; rfl
  · simp; rfl
  apply WX.call (ho := rfl) (hop := rfl) (hcal := rfl) (hg := rfl) (hd := rfl)  -- law14_Few
  · rfl
  · simp; rfl
  · rfl
  · exact spec_law14_Few own ho
  · simp; rfl
  iterate 2
    apply WX.ex rfl
    · simp; rfl
    · simp; rfl
  cases h1 : Spec.few own
  case false =>
    iterate 4
      apply WX.ex rfl
      · simp; rfl
      · simp; rfl
    apply WX.nil
    simp only [andThen_normal]
    apply W.condT (by simp)  -- cond 1
    apply W.runs
    · simp; rfl
    apply W.ret  -- ret 0
    simp only [andThen_ret]
    apply Post.ret
    · simp; rfl
    simp
  -- h1 is true
  apply WX.ex rfl
  · simp; rfl
  · simp; rfl
  apply WX.call (ho := rfl) (hop := rfl) (hcal := rfl) (hg := rfl) (hd := rfl)  -- law14_Few
  · simp
  · simp; rfl
  · rfl
  · exact spec_law14_Few log hl
  · simp; rfl
  iterate 2
    apply WX.ex rfl
    · simp; rfl
    · simp; rfl
  apply WX.nil
  simp only [andThen_normal]
  apply W.if  -- cond 2
  · simp
  · intro hb
    simp at hb
    apply W.runs
    · simp; rfl
    apply W.ret  -- ret 1
    simp only [andThen_ret]
    apply Post.ret
    · simp; rfl
    simp
  · intro hb
    simp at hb
    apply W.skip
    simp only [andThen_normal]
    apply W.seq
    apply W.regM rfl  -- region 5
    iterate 2
      apply WX.ex rfl
      · simp; rfl
      · simp; rfl
    apply WX.call (ho := rfl) (hop := rfl) (hcal := rfl) (hg := rfl) (hd := rfl)  -- model_Pending
    · rfl
    · simp; rfl
    · rfl
    · exact spec_model_Pending own log (by have := few_len h1; omega) hl
    · simp; rfl
    iterate 2
      apply WX.ex rfl
      · simp; rfl
      · simp; rfl
    apply WX.call (ho := rfl) (hop := rfl) (hcal := rfl) (hg := rfl) (hd := rfl)  -- ref25_Pending
    · rfl
    · simp; rfl
    · rfl
    · exact spec_ref25_Pending own log (by have := few_len h1; omega) hl
    · simp; rfl
    apply WX.call (ho := rfl) (hop := rfl) (hcal := rfl) (hg := rfl) (hd := rfl)  -- ref15_SameItems
    · rfl
    · simp; rfl
    · rfl
    · exact spec_ref15_SameItems _ _ (by have := pending_le own log; omega)
    · simp; rfl
    apply WX.ex rfl
    · simp; rfl
    · simp; rfl
    apply WX.nil
    simp only [andThen_normal]
    apply W.ret  -- ret 2
    apply Post.ret
    · simp; rfl
    simp [allSame_refl sameItem_refl]

end Go.Proofs.YtamefliipjhpoaaGreat.Ab
