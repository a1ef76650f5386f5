import Derived.Test.YtamefliipjhpoaaGreatEnc
import Derived.Laws.Bits64
set_option autoImplicit false
set_option linter.unusedSimpArgs false
set_option linter.unusedVariables false
namespace Go.Proofs.YtamefliipjhpoaaGreat.Ab
open Go Go.Proofs

theorem spec_math_Float64bits (f : Nat) : PSpec Tryz.prog 65 [.d (.v (.float .f64 f))] (.d (.v (.int .u64 f))) := by
  refine ⟨rfl, fun w Pr vs ha => ⟨_, ?_, .d (.v rfl)⟩⟩
  have h0 := (ha.2 0 _ rfl).dv_eq
  have e : vs = #[.float .f64 f] := by
    apply Array.ext
    · rw [ha.1]; rfl
    · intro i h1 h2
      have : i = 0 := by rw [ha.1] at h1; simp at h1; omega
      subst this
      simpa [Array.getD_eq_getD_getElem?, h1] using h0
  rw [e]
  rw [run_callFunc_extern Tryz.func65 rfl rfl rfl (e := Extern.MathFloatBits.float64bits) rfl]
  rfl

theorem spec_math_Float64frombits (f : Nat) : PSpec Tryz.prog 66 [.d (.v (.int .u64 (f : Int)))] (.d (.v (.float .f64 f))) := by
  refine ⟨rfl, fun w Pr vs ha => ⟨_, ?_, .d (.v rfl)⟩⟩
  have h0 := (ha.2 0 _ rfl).dv_eq
  have e : vs = #[.int .u64 (f : Int)] := by
    apply Array.ext
    · rw [ha.1]; rfl
    · intro i h1 h2
      have : i = 0 := by rw [ha.1] at h1; simp at h1; omega
      subst this
      simpa [Array.getD_eq_getD_getElem?, h1] using h0
  rw [e]
  rw [run_callFunc_extern Tryz.func66 rfl rfl rfl (e := Extern.MathFloatBits.float64frombits) rfl]
  rfl

set_option maxRecDepth 10000 in
theorem spec_math_NaN  : DSpec Tryz.prog 83 [] (.d (.v (.float .f64 9221120237041090561))) := by
  apply DSpec.by Tryz.func83 Tryz.call83 rfl Tryz.ntmps83 (by simp) Tryz.results83 rfl
  simp [List.range, List.range.loop]
  apply W.runs
  · simp; rfl
  apply W.seq
  apply W.regM rfl  -- region 1
  apply WX.prim (ho := rfl) (hop := rfl) (hcal := rfl) (hg := rfl) (hd := rfl)  -- math_Float64frombits
  · rfl
  · simp; rfl
  · rfl
  · exact spec_math_Float64frombits 9221120237041090561
  · simp; rfl
  apply WX.ex rfl
  · simp; rfl
  · simp; rfl
  apply WX.nil
  simp only [andThen_normal]
  apply W.ret  -- ret 0
  apply Post.ret
  · simp; rfl
  simp

set_option maxRecDepth 10000 in
theorem spec_ref01_Bits (f : Nat) : DSpec Tryz.prog 49 [.d (.v (.float .f64 f))] (.d (.v (.int .u64 f))) := by
  apply DSpec.by Tryz.func49 Tryz.call49 rfl Tryz.ntmps49 (by simp) Tryz.results49 rfl
  simp [List.range, List.range.loop]
  apply W.runs
  · simp; rfl
  apply W.seq
  apply W.regM rfl  -- region 1
  apply WX.ex rfl
  · simp; rfl
  · simp; rfl
  apply WX.prim (ho := rfl) (hop := rfl) (hcal := rfl) (hg := rfl) (hd := rfl)  -- math_Float64bits
  · rfl
  · simp; rfl
  · rfl
  · exact spec_math_Float64bits ..
  · simp; rfl
  apply WX.ex rfl
  · simp; rfl
  · simp; rfl
  apply WX.nil
  simp only [andThen_normal]
  apply W.ret  -- ret 0
  apply Post.ret
  · simp; rfl
  simp

set_option maxRecDepth 10000 in
theorem spec_flt_Bits (f : Nat) : DSpec Tryz.prog 116 [.d (.v (.float .f64 f))] (.d (.v (.int .u64 f))) := by
  apply DSpec.by Tryz.func116 Tryz.call116 rfl Tryz.ntmps116 (by simp) Tryz.results116 rfl
  simp [List.range, List.range.loop]
  apply W.runs
  · simp; rfl
  apply W.seq
  apply W.regM rfl  -- region 1
  apply WX.ex rfl
  · simp; rfl
  · simp; rfl
  apply WX.prim (ho := rfl) (hop := rfl) (hcal := rfl) (hg := rfl) (hd := rfl)  -- math_Float64bits
  · rfl
  · simp; rfl
  · rfl
  · exact spec_math_Float64bits ..
  · simp; rfl
  apply WX.ex rfl
  · simp; rfl
  · simp; rfl
  apply WX.nil
  simp only [andThen_normal]
  apply W.ret  -- ret 0
  apply Post.ret
  · simp; rfl
  simp

set_option maxRecDepth 10000 in
theorem spec_ref01_Canon (f : Nat) : DSpec Tryz.prog 50 [.d (.v (.float .f64 f))] (.d (.v (.float .f64 (Spec.canonF f)))) := by
  apply DSpec.by Tryz.func50 Tryz.call50 rfl Tryz.ntmps50 (by simp) Tryz.results50 rfl
  simp [List.range, List.range.loop]
  apply W.runs
  · simp; rfl
  apply W.seq
  apply W.runs
  · simp; rfl
  apply W.if  -- cond 0
  · simp
  · intro hb
    simp at hb
    apply W.seq
    apply W.regM rfl  -- region 2
    apply WX.prim (ho := rfl) (hop := rfl) (hcal := rfl) (hg := rfl) (hd := rfl)  -- math_Float64frombits
    · rfl
    · simp; rfl
    · rfl
    · exact spec_math_Float64frombits 9221120237041090561
    · simp; rfl
    apply WX.ex rfl
    · simp; rfl
    · simp; rfl
    apply WX.nil
    simp only [andThen_normal]
    apply W.ret  -- ret 0
    simp only [andThen_ret]
    apply Post.ret
    · simp; rfl
    have e : Spec.canonF f = 9221120237041090561 := by simp [Spec.canonF, Spec.isNaN, Spec.feq, Spec.ford, hb, Spec.nanBits]
    rw [e]; exact .inl rfl
  · intro hb
    simp at hb
    apply W.skip
    simp only [andThen_normal]
    apply W.seq
    apply W.runs
    · simp; rfl
    apply W.if  -- cond 1
    · simp
    · intro hb
      simp at hb
      apply W.runs
      · simp; rfl
      apply W.ret  -- ret 1
      simp only [andThen_ret]
      apply Post.ret
      · simp; rfl
      have e : Spec.canonF f = 0 := by simp [Spec.canonF, Spec.isNaN, Spec.feq, Spec.ford, *]
      rw [e]; exact .inl rfl
    · intro hb
      simp at hb
      apply W.skip
      simp only [andThen_normal]
      apply W.runs
      · simp; rfl
      apply W.ret  -- ret 2
      apply Post.ret
      · simp; rfl
      have e : Spec.canonF f = f := by simp [Spec.canonF, Spec.isNaN, Spec.feq, Spec.ford, *]
      rw [e]; exact .inl rfl

theorem canonF_lt {f : Nat} (hf : f < 18446744073709551616) : Spec.canonF f < 18446744073709551616 := by
  unfold Spec.canonF
  split
  · decide
  · split <;> omega
theorem shr63 (n : Nat) : ((n : Int).fdiv (2 ^ min 63 IntKind.u64.bits) = 0) ↔ n < 9223372036854775808 := by
  have : (2 ^ min 63 IntKind.u64.bits : Int) = 9223372036854775808 := rfl
  rw [this, Int.fdiv_eq_ediv_of_nonneg _ (by omega)]
  omega

set_option maxRecDepth 10000 in
theorem spec_ref01_Key (f : Nat) : DSpec Tryz.prog 31 [.d (.v (.float .f64 f))] (.d (.v (.int .u64 (Spec.keyF f)))) := by
  apply DSpec.by Tryz.func31 Tryz.call31 rfl Tryz.ntmps31 (by simp) Tryz.results31 rfl
  simp [List.range, List.range.loop]
  apply W.runs
  · simp; rfl
  apply W.seq
  apply W.runs
  · simp; rfl
  apply W.if  -- cond 0
  · simp
  · intro hb
    simp at hb
    apply W.runs
    · simp; rfl
    apply W.ret  -- ret 0
    simp only [andThen_ret]
    apply Post.ret
    · simp; rfl
    have e : Spec.keyF f = 0 := by simp [Spec.keyF, Spec.isNaN, Spec.feq, Spec.ford, hb]
    rw [e]; exact .inl rfl
  · intro hb
    simp at hb
    apply W.skip
    simp only [andThen_normal]
    apply W.seq
    apply W.regM rfl  -- region 3
    apply WX.ex rfl
    · simp; rfl
    · simp; rfl
    apply WX.call (ho := rfl) (hop := rfl) (hcal := rfl) (hg := rfl) (hd := rfl)  -- ref01_Canon
    · rfl
    · simp; rfl
    · rfl
    · exact spec_ref01_Canon ..
    · simp; rfl
    apply WX.call (ho := rfl) (hop := rfl) (hcal := rfl) (hg := rfl) (hd := rfl)  -- ref01_Bits
    · rfl
    · simp; rfl
    · rfl
    · exact spec_ref01_Bits ..
    · simp; rfl
    apply WX.ex rfl
    · simp; rfl
    · simp; rfl
    apply WX.nil
    simp only [andThen_normal]
    apply W.seq
    apply W.runs
    · simp; rfl
    apply W.if  -- cond 1
    · simp
    · intro hb
      simp at hb
      apply W.runs
      · simp; rfl
      apply W.ret  -- ret 1
      simp only [andThen_ret]
      apply Post.ret
      · simp; rfl
      rename_i hn
      rw [shr63] at hb
      have e : IntKind.u64.wrap ((Spec.canonF f : Int) + 9223372036854775808) = (Spec.keyF f : Int) := by
        rw [IntKind.wrap_u64]
        simp only [Spec.keyF, Spec.isNaN, Spec.feq, Spec.ford, hn]
        simp [hb]; omega
      simp [e]
    · intro hb
      simp at hb
      apply W.skip
      simp only [andThen_normal]
      apply W.runs
      · simp; rfl
      apply W.ret  -- ret 2
      apply Post.ret
      · simp; rfl
      rename_i hn
      rw [shr63] at hb
      have e : IntKind.u64.wrap (18446744073709551615 - (Spec.canonF f : Int)) = (Spec.keyF f : Int) := by
        rw [IntKind.wrap_u64]
        simp only [Spec.keyF, Spec.isNaN, Spec.feq, Spec.ford, hn]
        simp [hb]; omega
      simp [e]

set_option maxRecDepth 10000 in
theorem spec_ref01_Same (a b : Nat) : DSpec Tryz.prog 19 [.d (.v (.float .f64 a)), .d (.v (.float .f64 b))] (.d (.v (.bool (Spec.sameF a b)))) := by
  apply DSpec.by Tryz.func19 Tryz.call19 rfl Tryz.ntmps19 (by simp) Tryz.results19 rfl
  simp [List.range, List.range.loop]
  apply W.runs
  · simp; rfl
  apply W.seq
  apply W.regM rfl  -- region 1
  apply WX.ex rfl
  · simp; rfl
  · simp; rfl
  apply WX.call (ho := rfl) (hop := rfl) (hcal := rfl) (hg := rfl) (hd := rfl)  -- ref01_Key
  · rfl
  · simp; rfl
  · rfl
  · exact spec_ref01_Key ..
  · simp; rfl
  apply WX.ex rfl
  · simp; rfl
  · simp; rfl
  apply WX.call (ho := rfl) (hop := rfl) (hcal := rfl) (hg := rfl) (hd := rfl)  -- ref01_Key
  · rfl
  · simp; rfl
  · rfl
  · exact spec_ref01_Key ..
  · simp; rfl
  iterate 2
    apply WX.ex rfl
    · simp; rfl
    · simp; rfl
  apply WX.nil
  simp only [andThen_normal]
  apply W.ret  -- ret 0
  apply Post.ret
  · simp; rfl
  have e : ((Spec.keyF a : Int) == (Spec.keyF b : Int)) = Spec.sameF a b := by rw [Spec.sameF, Bool.eq_iff_iff]; simp; omega
  simp [e]

end Go.Proofs.YtamefliipjhpoaaGreat.Ab
