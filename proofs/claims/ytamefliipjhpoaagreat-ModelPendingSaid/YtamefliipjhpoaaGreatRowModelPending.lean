/- What is pending is one's own without what was committed, in its order: for every input the law returns true, and each argument reads behind the call as it read before. -/
import Derived.Test.YtamefliipjhpoaaGreatRows
import Derived.Test.YtamefliipjhpoaaGreatLawPend
import Derived.Test.YtamefliipjhpoaaGreatShapes
import Derived.WalkKit
import Derived.ProofKit
import Derived.OpenShut
import Derived.ShutString
import Derived.ChangeOld
import Derived.Below
import Derived.SizedLaws
import Derived.Carry
set_option autoImplicit false
set_option linter.unusedVariables false
set_option linter.unusedSimpArgs false
namespace Go.Proofs.YtamefliipjhpoaaGreat.modelPending
open Go Go.ChangeShapes Go.WideShapes Go.ChangeAt Go.RowKit
theorem own : ownKnob Tryz.prog.godebug = none := by kernel_rfl
theorem laidOut : laidOutB Tryz.prog = true := by kernel_rfl
set_option maxRecDepth 100000 in
theorem lifted (os : Os) (started : os.Started) (H : Type) (enc : TypeId × Value → H) :
    ReturnsInHanded {} Tryz.checked os 3 .any (Rows.modelPendingSpec.pre6 enc Tryz.prog Tryz.f3 Rows.modelPendingRow.domain false) (Rows.modelPendingSpec.post enc Tryz.prog Tryz.f3 false true false false) := by
  refine returnsInHanded_of_change_sized (C := Tryz.checked) own started (by kernel_rfl) Tryz.func3
    (ChangeSpec.witness6 (enc := enc) (C := Tryz.checked) false ⟨#[], #[.slice none 0 0, .slice none 0 0], []⟩ 8 (by kernel_rfl) (by kernel_rfl) (by kernel_rfl) (by kernel_rfl)) ?_
  intro W base args ds gs before hval0 hW hcnd hsz0 _
  have hsz : (DataW.weightsEach Tryz.prog (Tryz.f3.params.toList ++ Rows.modelPendingSpec.plain.varTypes Tryz.prog) (ds ++ gs)).all (· ≤ reachBytes) = true := hsz0
  have hval : ∀ (j : Nat) t v, Tryz.f3.params[j]? = some t → args[j]? = some v → Value.okWide Tryz.prog W .any base t v := hval0
  have hW' := hW
  obtain ⟨p, q, hA0, hV, rfl, hfz, hnd⟩ := hW
  have hA : DataW.TrodAll enc Tryz.prog W 0 (fun _ => true) true Tryz.f3.params.toList args.toList ds p := hA0
  rw [Tryz.params3] at hA hval hsz
  obtain ⟨v0, vs0, d0, ds0, p0, q0, hargs, rfl, rfl, h0, r0⟩ := trodAll_cons hA
  obtain ⟨v1, vs1, d1, ds1, p1, q1, rfl, rfl, rfl, h1, r1⟩ := trodAll_cons r0
  obtain ⟨rfl, rfl, rfl⟩ := trodAll_nil r1
  obtain rfl : args = #[v0, v1] := by cases args; simp_all
  obtain ⟨rfl, rfl⟩ := trodVars_none hV
  have k0 := h0
  have lt0 : ∀ x ∈ p0, x.block < W.heap.size := by obtain ⟨m, hm⟩ := k0; exact DataW.trod_lt m _ _ _ hm
  obtain ⟨fuel0, hf0⟩ := h0
  obtain ⟨e0, rr0, s0⟩ := Ab.trod_shp 8 22 fuel0 _ _ (by decide +kernel) hf0 (Ab.weightsEach_at hsz 0 22 d0 rfl rfl)
  obtain ⟨a0, len0, cap0, rfl⟩ := okWide_slice Tryz.underlying22 (hval 0 22 v0 rfl rfl)
  obtain ⟨l0, rfl, hl0, _⟩ := Ab.shp_items s0
  have k1 := h1
  have lt1 : ∀ x ∈ p1, x.block < W.heap.size := by obtain ⟨m, hm⟩ := k1; exact DataW.trod_lt m _ _ _ hm
  obtain ⟨fuel1, hf1⟩ := h1
  obtain ⟨e1, rr1, s1⟩ := Ab.trod_shp 8 22 fuel1 _ _ (by decide +kernel) hf1 (Ab.weightsEach_at hsz 1 22 d1 rfl rfl)
  obtain ⟨a1, len1, cap1, rfl⟩ := okWide_slice Tryz.underlying22 (hval 1 22 v1 rfl rfl)
  obtain ⟨l1, rfl, hl1, _⟩ := Ab.shp_items s1
  clear hA0 hval0 hsz0 hsz
  have har : Ab.ArgsRep W (fun _ => none) (Ab.allPro W) #[.slice a0 len0 cap0, .slice a1 len1 cap1] [.d (Ab.itemsD l0), .d (Ab.itemsD l1)] := by
    refine ⟨rfl, fun j c hj => ?_⟩
    match j, hj with
    | 0, hj => cases hj; exact Ab.arg_rep rr0 rfl rfl
    | 1, hj => cases hj; exact Ab.arg_rep rr1 rfl rfl
  refine ((Ab.spec_law27_ModelPending l0 l1 (by have := Ab.reach_lt; omega) (by have := Ab.reach_lt; omega)).calls W (Ab.allPro W) _ (fun _ _ _ h => h.2) har).mono ?_
  rintro e W' ⟨v, Pr', rfl, hE, hv⟩
  have hve := hv.dv_eq
  subst hve
  have bel := hE.below
  exact ⟨_, rfl, _, _, _, [], _, [], hW', trodAll_mk1 (shut_bool Tryz.underlying4 _), (trodAll_cons_mk (Below.trod laidOut (by kernel_rfl) (of_decide_eq_true (by kernel_rfl)) k0 bel lt0) (trodAll_cons_mk (Below.trod laidOut (by kernel_rfl) (of_decide_eq_true (by kernel_rfl)) k1 bel lt1) trodAll_mk0)), rfl, bel.frame _, fun h => by cases h⟩
theorem over : Rows.modelPendingRow.holds Tryz.pinned (OpenSpec.ofChange Rows.modelPendingSpec) :=
  OpenClaim.holds_of_wide 3 Tryz.f3 rfl rfl rfl rfl rfl rfl rfl ⟨rfl, rfl, rfl, rfl, rfl⟩ rfl rfl rfl rfl rfl (by kernel_rfl) Tryz.func3 (by kernel_rfl)
    (of_decide_eq_true (by kernel_rfl)) (by unfold Func.isWrapper; first | (rw [if_pos (by decide +kernel)]; kernel_rfl) | (rw [if_neg (by decide +kernel)]; exact ⟨rfl, rfl⟩))
    (fun os started H enc _ => lifted os started H enc)
end Go.Proofs.YtamefliipjhpoaaGreat.modelPending
namespace Go.Proofs.YtamefliipjhpoaaGreat
/-- The row, under a short name, for the claim. -/
theorem modelPending_holds : Rows.ModelPendingSaid := modelPending.over
#print axioms modelPending_holds
end Go.Proofs.YtamefliipjhpoaaGreat
