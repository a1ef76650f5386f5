import Derived.Test.YtamefliipjhpoaaGreatPend
set_option autoImplicit false
set_option linter.unusedSimpArgs false
set_option linter.unusedVariables false
namespace Go.Proofs.YtamefliipjhpoaaGreat.Ab
open Go Go.Proofs

set_option maxRecDepth 10000 in
theorem spec_model_New {p : List Nat} {o : Nm → Ob} {u : Nm → Bool} (hF : Fresh p o u) : OSpec Tryz.prog 12 [.d (.v (.int .i64 0))] o u (.ptr (.loc (9 :: p) 0) 0) (OL [(.loc (7 :: p) 0, .arr 7 (List.replicate 2 [.sl 0 0 [], .v (.int .u64 0), .v (.int .u64 0), .v (.int .u64 0), .v (.int .i64 0), .v (.bool false), .v (.int .i64 0)])), (.loc (9 :: p) 0, .cells [.os (.loc (7 :: p) 0) 7 0 2])] o) (UL [.loc (9 :: p) 0, .loc (7 :: p) 0] u) := by
  apply OSpec.by Tryz.func12 Tryz.call12 rfl Tryz.ntmps12 (by simp) Tryz.results12 hF
  simp [List.range, List.range.loop]
  apply W.runs
  · simp; rfl
  apply W.seq
  apply W.regM rfl  -- region 1
  apply WX.ex rfl
  · simp [hF.freeAt]; rfl
  · simp; rfl
  -- 1
  apply WX.max (ho := rfl) (hop := rfl) (hcal := rfl) (hargs := rfl) (hd := rfl)
  · rfl
  · first | rfl | (simp [hF.freeAt]; rfl)
  · first | rfl | (simp [hF.freeAt]; rfl)
  · simp; rfl
  -- 2
  apply WX.min (ho := rfl) (hop := rfl) (hcal := rfl) (hargs := rfl) (hd := rfl)
  · rfl
  · first | rfl | (simp [hF.freeAt]; rfl)
  · first | rfl | (simp [hF.freeAt]; rfl)
  · simp; rfl
  apply WX.ex rfl
  · simp [hF.freeAt]; rfl
  · simp; rfl
  -- 4
  apply WX.mkSlice (ho := rfl) (hop := rfl) (hd := rfl) (hdN := by simp)
  · rfl
  · first | (simp; rfl) | (simp; exact ⟨rfl, rfl⟩) | rfl
  · first | (simp; rfl) | (simp; exact ⟨rfl, rfl⟩) | rfl
  · first | (simp; rfl) | (simp; exact ⟨rfl, rfl⟩) | rfl
  · first | (simp; rfl) | (simp; exact ⟨rfl, rfl⟩) | rfl
  · first | rfl | (simp [hF.freeAt]; exact ⟨rfl, rfl⟩)
  · first | rfl | (simp [hF.freeAt]; exact ⟨rfl, rfl⟩)
  · first | (simp; done) | decide
  · first | (simp; done) | decide
  · simp [hF.freeAt]; rfl
  · simp [upd_T, upd_OL, upd_UL]; rfl
  iterate 3
    apply WX.ex rfl
    · simp [hF.freeAt]; rfl
    · simp; rfl
  apply WX.nil
  simp only [andThen_normal]
  apply W.ret  -- ret 0
  apply PostO.ret
  · simp; rfl
  · simp
  · rfl
  · rfl

def sAl (i : Nat) : St := ⟨T [(21, .d (.v (.int .i64 0))), (22, .d (.v (.int .i64 0)))], OL [] (fun _ => .dead), UL [] (fun _ => false), []⟩

set_option maxRecDepth 10000 in
theorem spec_model_Allowed  : DSpec Tryz.prog 9 [(.ag [.d (.v (.int .i64 0)), .d (.v (.int .i64 0)), .d (.sl 0 0 [])]), .d (.sl 0 0 []), .d (.sl 0 0 [])] (.d (.v (.bool true))) := by
  apply DSpec.by Tryz.func9 Tryz.call9 rfl Tryz.ntmps9 (by simp) Tryz.results9 rfl
  simp [List.range, List.range.loop]
  apply W.runs
  · simp; rfl
  apply W.seq
  apply W.runs
  · simp; rfl
  apply W.if  -- cond 0
  · simp
  · intro hb
    simp at hb
  · intro hb
    simp at hb
    apply W.skip
    simp only [andThen_normal]
    apply W.seq
    apply W.regM rfl  -- region 3
    iterate 2
      apply WX.ex rfl
      · simp; rfl
      · simp; rfl
    apply WX.ocall (ho := rfl) (hop := rfl) (hcal := rfl) (hg := rfl) (hdN := rfl)  -- model_New
    · rfl
    · simp; rfl
    · exact spec_model_New (p := [18]) ((Fresh.none [18]).lists (by simp <;> decide) (by simp <;> decide))
    · simp [upd_T, upd_OL, upd_UL]; rfl
    apply WX.ex rfl
    · simp; rfl
    · simp; rfl
    apply WX.nil
    simp only [andThen_normal]
    apply W.seq
    apply W.runs
    · simp; rfl
    apply W.block
    -- loop 1: slots [1, 2, 6, 7, 20, 21, 22]
    apply W.loop
    apply WL.iter (fun i => True) (sAl) (0)
    · apply Weak.objs [] (Fresh.none _) <;> simp
    · simp
    · intro i hi hI
      have hw := wrap64 (n := (i : Int) + 1) (by omega) (by omega)
      exact absurd hi (Nat.not_lt_zero _)
    · intro hI
      unfold sAl
      skip
      apply W.runs
      · simp; rfl
      apply W.seq
      apply W.condF (by simp)
      apply W.exit
      simp only [andThen_exit, inB_same, andThen_normal]
      apply W.runs
      · simp; rfl
      apply W.ret  -- ret 0
      apply Post.ret
      · simp; rfl
      simp

def item11 : Spec.Item := ⟨1, 1, ⟨0, 0, 0, ⟨#[]⟩, 0, false⟩⟩

theorem pend1 : Spec.pending [item11] [item11] = [] := by decide
theorem pend2 : Spec.pending [item11] [] = [item11] := rfl

set_option maxRecDepth 10000 in
theorem spec_law27_awake  : DSpec Tryz.prog 4 [] (.d (.v (.bool true))) := by
  apply DSpec.by Tryz.func4 Tryz.call4 rfl Tryz.ntmps4 (by simp) Tryz.results4 rfl
  simp [List.range, List.range.loop]
  apply W.runs
  · simp; rfl
  apply W.runs
  · simp; rfl
  apply W.seq
  apply W.regM rfl  -- region 2
  apply WX.weak (Weak.freezeL (.loc [3] 0) rfl)
  simp
  apply WX.ex rfl
  · simp; rfl
  · simp; rfl
  apply WX.ex rfl
  · simp; rfl
  · simp; rfl
  apply WX.call (ho := rfl) (hop := rfl) (hcal := rfl) (hg := rfl) (hd := rfl)  -- model_Pending
  · rfl
  · simp; rfl
  · rfl
  · have h := spec_model_Pending [item11] [item11] (by simp) (by simp)
    rw [pend1] at h
    exact h
  · simp; rfl
  iterate 4
    apply WX.ex rfl
    · simp; rfl
    · simp; rfl
  apply WX.call (ho := rfl) (hop := rfl) (hcal := rfl) (hg := rfl) (hd := rfl)  -- model_Pending
  · simp
  · simp; rfl
  · rfl
  · have h := spec_model_Pending [item11] [] (by simp) (by simp)
    rw [pend2] at h
    exact h.sub ⟨.inl rfl, .inr (.inl ⟨rfl, rfl⟩), trivial⟩
  · simp; rfl
  iterate 5
    apply WX.ex rfl
    · simp; rfl
    · simp; rfl
  apply WX.call (ho := rfl) (hop := rfl) (hcal := rfl) (hg := rfl) (hd := rfl)  -- model_Allowed
  · simp
  · simp; rfl
  · rfl
  · exact spec_model_Allowed ..
  · simp; rfl
  iterate 2
    apply WX.ex rfl
    · simp; rfl
    · simp; rfl
  apply WX.nil
  simp only [andThen_normal]
  apply W.ret  -- ret 0
  apply Post.ret
  · simp; rfl
  simp

end Go.Proofs.YtamefliipjhpoaaGreat.Ab
