/- A region, one operation at a time. -/
import Derived.Test.YtamefliipjhpoaaGreatAbsS
set_option autoImplicit false
namespace Go.Proofs.YtamefliipjhpoaaGreat.Ab
open Go

/-- n operations from place k on, and then K. -/
def WI (P : Program) (N : Fr) (ops : Array Oper) (k n : Nat) (s : St) (K : St → Prop) : Prop := ∃ s', Chain P N ops (List.range' k n) s s' ∧ K s'

section
variable {P : Program} {N : Fr} {k n : Nat} {ops : Array Oper} {o : Oper} {s s1 : St} {K : St → Prop}
theorem WI.nil (h : K s) : WI P N ops k 0 s K := ⟨s, .nil, h⟩
theorem WI.step {δ : Dl} (h : StepR P N ops s k δ) (e : s.app δ = s1) (t : WI P N ops (k + 1) n s1 K) : WI P N ops k (n + 1) s K := by
  subst e
  obtain ⟨s', h1, h2⟩ := t
  exact ⟨s', by rw [List.range'_succ]; exact .cons h h1, h2⟩
theorem WI.ex {δ : Dl} (ho : ops[k]? = some o) (h : stepD P N ops s o = some δ) (e : s.app δ = s1) (t : WI P N ops (k + 1) n s1 K) : WI P N ops k (n + 1) s K := .step (.ex ho h) e t
theorem WI.call {c : Call} {g : Operand} {f : FuncId} {args : List A} {r : A} (ho : ops[k]? = some o) (hop : o.op = .call c) (hcal : c.callee = .value g) (hg : s.ev g = .fn f []) (hd : dstOk N o.dst = true) (hw : wantA ops s o = some true)
    (hargs : (c.args.toList.map fun x => viewA s (s.ev x)) = args) (hpl : args.all plainA = true) (hs : DSpec P f args r) (e : s.app (slotD o.dst r) = s1) (t : WI P N ops (k + 1) n s1 K) : WI P N ops k (n + 1) s K := .step (.call ho hop hcal hg hw hd hargs hpl (.inl hs)) e t
theorem WI.prim {c : Call} {g : Operand} {f : FuncId} {args : List A} {r : A} (ho : ops[k]? = some o) (hop : o.op = .call c) (hcal : c.callee = .value g) (hg : s.ev g = .fn f []) (hd : dstOk N o.dst = true) (hw : wantA ops s o = some true)
    (hargs : (c.args.toList.map fun x => viewA s (s.ev x)) = args) (hpl : args.all plainA = true) (hs : PSpec P f args r) (e : s.app (slotD o.dst r) = s1) (t : WI P N ops (k + 1) n s1 K) : WI P N ops k (n + 1) s K := .step (.call ho hop hcal hg hw hd hargs hpl (.inr hs)) e t
theorem W.regI {id : Nat} {R : Exit → St → Prop} (hn : ops.size = n) (h : WI P N ops 0 n s (R .normal)) : W P N (.region id ops false) s R := by
  subst hn
  obtain ⟨s1, h, k⟩ := h
  refine ⟨_, s1, .region ?_, k⟩
  rwa [← List.range_eq_range'] at h
theorem W.regID {id : Nat} {R : Exit → St → Prop} (hm : P.follows .mixedOrders = true) (h1 : orderOk .any ops = true) (h2 : backOk .any ops = true) (hn : ops.size = n) (h : WI P N ops 0 n s (R .normal)) : W P N (.region id ops true) s R := by
  subst hn
  obtain ⟨s1, h, k⟩ := h
  refine ⟨_, s1, .draw hm h1 h2 ?_, k⟩
  rwa [← List.range_eq_range'] at h
end

end Go.Proofs.YtamefliipjhpoaaGreat.Ab
