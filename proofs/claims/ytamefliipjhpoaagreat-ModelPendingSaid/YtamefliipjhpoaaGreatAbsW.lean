/- Weakest preconditions over abstract states. -/
import Derived.Test.YtamefliipjhpoaaGreatAbsX
set_option autoImplicit false
namespace Go.Proofs.YtamefliipjhpoaaGreat.Ab
open Go

/-- The code ends, somehow, and as R says. -/
def W (P : Program) (N : Fr) (c : Code) (s : St) (R : Exit → St → Prop) : Prop := ∃ e s', Big P N c s e s' ∧ R e s'
/-- The same for the rounds of a loop. -/
def WL (P : Program) (N : Fr) (c : Code) (s : St) (R : Exit → St → Prop) : Prop := ∃ e s', BigL P N c s e s' ∧ R e s'

def andThen (K : St → Prop) (R : Exit → St → Prop) : Exit → St → Prop
  | .normal, s => K s
  | e, s => R e s
def inB (id : Nat) (R : Exit → St → Prop) : Exit → St → Prop
  | .exit i, s => if i = id then R .normal s else R (.exit i) s
  | e, s => R e s

section
variable {P : Program} {N : Fr} {s : St} {R : Exit → St → Prop}

theorem andThen_normal {K : St → Prop} : andThen K R .normal s = K s := rfl
theorem andThen_exit {K : St → Prop} {i : Nat} : andThen K R (.exit i) s = R (.exit i) s := rfl
theorem andThen_ret {K : St → Prop} : andThen K R .ret s = R .ret s := rfl
theorem inB_normal {id : Nat} : inB id R .normal s = R .normal s := rfl
theorem inB_ret {id : Nat} : inB id R .ret s = R .ret s := rfl
theorem inB_exit {id i : Nat} : inB id R (.exit i) s = if i = id then R .normal s else R (.exit i) s := rfl

theorem inB_same {id : Nat} : inB id R (.exit id) s = R .normal s := by rw [inB_exit, if_pos rfl]
theorem inB_other {id i : Nat} (h : i ≠ id) : inB id R (.exit i) s = R (.exit i) s := by rw [inB_exit, if_neg h]

theorem W.seq {a b : Code} (h : W P N a s (andThen (fun s1 => W P N b s1 R) R)) : W P N (.seq a b) s R := by
  obtain ⟨e, s1, h1, h2⟩ := h
  cases e with
  | normal => obtain ⟨e2, s2, k1, k2⟩ := h2; exact ⟨e2, s2, h1.seq k1, k2⟩
  | _ => exact ⟨_, s1, h1.seqX (by simp), h2⟩
theorem W.skip (h : R .normal s) : W P N .skip s R := ⟨_, _, .skip, h⟩
theorem W.label {l : Nat} (h : R .normal s) : W P N (.label l) s R := ⟨_, _, .label, h⟩
theorem W.exit {id : Nat} (h : R (.exit id) s) : W P N (.exit id) s R := ⟨_, _, .exit, h⟩
theorem W.ret (h : R .ret s) : W P N .ret s R := ⟨_, _, .ret, h⟩
theorem W.cond {c : Operand} {x y : Code} (b : Bool) (hc : s.ev c = .d (.v (.bool b))) (ht : b = true → W P N x s R) (hf : b = false → W P N y s R) : W P N (.cond c x y) s R := by
  cases b with
  | true => obtain ⟨e, s', h1, h2⟩ := ht rfl; exact ⟨e, s', .cond (t := true) hc h1, h2⟩
  | false => obtain ⟨e, s', h1, h2⟩ := hf rfl; exact ⟨e, s', .cond (t := false) hc h1, h2⟩
def isB : A → Bool
  | .d (.v (.bool _)) => true
  | _ => false
def boolOf : A → Bool
  | .d (.v (.bool b)) => b
  | _ => false
theorem W.if {c : Operand} {x y : Code} (hc : isB (s.ev c) = true) (ht : boolOf (s.ev c) = true → W P N x s R) (hf : boolOf (s.ev c) = false → W P N y s R) : W P N (.cond c x y) s R := by
  have : s.ev c = .d (.v (.bool (boolOf (s.ev c)))) := by
    generalize s.ev c = z at hc
    cases z with
    | d d =>
      cases d with
      | v v => cases v <;> first | rfl | simp [isB] at hc
      | sl _ _ _ => simp [isB] at hc
    | _ => simp [isB] at hc
  exact .cond _ this ht hf
theorem W.condT {c : Operand} {x y : Code} (hc : s.ev c = .d (.v (.bool true))) (h : W P N x s R) : W P N (.cond c x y) s R := .cond true hc (fun _ => h) (by simp)
theorem W.condF {c : Operand} {x y : Code} (hc : s.ev c = .d (.v (.bool false))) (h : W P N y s R) : W P N (.cond c x y) s R := .cond false hc (by simp) (fun _ => h)
theorem W.block {id : Nat} {c : Code} (h : W P N c s (inB id R)) : W P N (.block id c) s R := by
  obtain ⟨e, s1, h1, h2⟩ := h
  refine ⟨_, s1, h1.block, ?_⟩
  cases e <;> first | exact h2 | skip
  rename_i i
  simp only [inB] at h2
  simp only []
  by_cases hi : i = id
  · rw [if_pos hi] at h2 ⊢; exact h2
  · rw [if_neg hi] at h2 ⊢; exact h2
theorem W.loop {c : Code} (h : WL P N c s R) : W P N (.loop c) s R := by
  obtain ⟨e, s', h1, h2⟩ := h
  exact ⟨e, s', .loop h1, h2⟩
theorem WL.round {c : Code} (h : W P N c s (andThen (fun s1 => WL P N c s1 R) R)) : WL P N c s R := by
  obtain ⟨e, s1, h1, h2⟩ := h
  cases e with
  | normal => obtain ⟨e2, s2, k1, k2⟩ := h2; exact ⟨e2, s2, .round h1 k1, k2⟩
  | _ => exact ⟨_, s1, .out (by simp) h1, h2⟩
theorem W.mono {c : Code} {R' : Exit → St → Prop} (h : W P N c s R) (hr : ∀ e s, R e s → R' e s) : W P N c s R' := by
  obtain ⟨e, s', h1, h2⟩ := h
  exact ⟨e, s', h1, hr _ _ h2⟩
theorem W.weak {c : Code} {s1 : St} (h : Weak N s s1) (k : W P N c s1 R) : W P N c s R := by
  obtain ⟨e, s', h1, h2⟩ := k
  exact ⟨e, s', .weak h h1, h2⟩
theorem WL.weak {c : Code} {s1 : St} (h : Weak N s s1) (k : WL P N c s1 R) : WL P N c s R := by
  obtain ⟨e, s', h1, h2⟩ := k
  exact ⟨e, s', .weak h h1, h2⟩
theorem W.reg {id : Nat} {ops : Array Oper} {s1 : St} (h : ChainL P N ops 0 ops.toList s s1) (k : R .normal s1) : W P N (.region id ops false) s R := ⟨_, s1, .reg h, k⟩
theorem W.regD {id : Nat} {ops : Array Oper} {s1 : St} (hm : P.follows .mixedOrders = true) (h1 : orderOk .any ops = true) (h2 : backOk .any ops = true) (h : ChainL P N ops 0 ops.toList s s1) (k : R .normal s1) : W P N (.region id ops true) s R := ⟨_, s1, .regD hm h1 h2 h, k⟩
theorem W.run {id : Nat} {ops : Array Oper} {s1 : St} (h : exR P N ops ops.toList s = some s1) (k : R .normal s1) : W P N (.region id ops false) s R := .reg (.rest h) k
/-- A region, then other code. -/
theorem W.runs {id : Nat} {ops : Array Oper} {b : Code} {s1 : St} (h : exR P N ops ops.toList s = some s1) (k : W P N b s1 R) : W P N (.seq (.region id ops false) b) s R := .seq (.run h k)
end

/-- Rounds that are counted. -/
theorem WL.iter {P : Program} {N : Fr} {s : St} {R : Exit → St → Prop} {c : Code} (I : Nat → Prop) (S : Nat → St) (n : Nat) (h0 : Weak N s (S 0)) (hi : I 0)
    (step : ∀ i, i < n → I i → W P N c (S i) (andThen (fun s1 => Weak N s1 (S (i + 1)) ∧ I (i + 1)) R)) (last : I n → W P N c (S n) (andThen (fun _ => False) R)) : WL P N c s R := by
  have key : ∀ m i, i + m = n → I i → WL P N c (S i) R := by
    intro m
    induction m with
    | zero =>
      intro i e hI
      have e : i = n := by omega
      subst e
      exact .round (last hI |>.mono (fun e s h => by cases e <;> first | exact h.elim | exact h))
    | succ m ih =>
      intro i e hI
      refine .round ((step i (by omega) hI).mono (fun e s h => ?_))
      cases e <;> first | exact h | skip
      exact .weak h.1 (ih (i + 1) (by omega) h.2)
  exact .weak h0 (key n 0 (by omega) hi)

theorem wrap64 {n : Int} (h0 : -9223372036854775808 ≤ n) (h : n < 9223372036854775808) : IntKind.i64.wrap n = n := by
  have e : IntKind.i64.wrap n = if n % 18446744073709551616 ≥ 9223372036854775808 then n % 18446744073709551616 - 18446744073709551616 else n % 18446744073709551616 := by
    simp [IntKind.wrap, IntKind.bits, IntKind.signed]
  rw [e]
  split <;> omega

theorem Weak.tt {N : Fr} {l1 l2 : List (Nat × A)} {o : Nm → Ob} {u : Nm → Bool} {p : List Nat} (h : ∀ q ∈ l2, T l1 q.1 = q.2) : Weak N ⟨T l1, o, u, p⟩ ⟨T l2, o, u, p⟩ := Weak.slots (s := ⟨T l1, o, u, p⟩) l2 h

theorem entry_T (args : List A) (o : Nm → Ob) (u : Nm → Bool) (p : List Nat) (N : Fr) : Weak N (entry args o u p) ⟨T ((List.range args.length).map fun i => (i, (args[i]?).getD .und)), o, u, p⟩ := by
  refine Weak.slots (s := entry args o u p) _ (fun q hq => ?_)
  obtain ⟨i, hi, rfl⟩ := List.mem_map.1 hq
  have hlt := List.mem_range.1 hi
  show (args[i]?).getD (.tup []) = (args[i]?).getD .und
  simp [hlt]

/-- A function over data, by its body. -/
theorem DSpec.of {P : Program} {f : FuncId} {fn : Func} {c : Code} (hf : P.funcs[f]? = some fn) (he : Enters P f) (hb : fn.body = some c) {args : List A} {r : A} {N : Nat} (hN : fn.ntmps = N) (hl : args.length ≤ N) {rs : Array ResultVar} (hrs : fn.results = rs) (hp : plainA r = true)
    (h : W P ⟨N, []⟩ c ⟨T ((List.range args.length).map fun i => (i, (args[i]?).getD .und)), fun _ => .dead, fun _ => false, []⟩ (fun e s' => (e = .normal ∨ e = .ret) ∧ ∃ s2, Weak ⟨N, []⟩ s' s2 ∧ resultA P s2 rs = some r)) : DSpec P f args r := by
  subst hN; subst hrs
  obtain ⟨e, s', h1, h2, s2, h3, h4⟩ := h
  have hB : Big P ⟨fn.ntmps, []⟩ c (entry args (fun _ => .dead) (fun _ => false) []) e s2 := (Big.weak (entry_T args _ _ _ _) h1).weaken h3
  refine ⟨he, hp, fun w Pr vs hPr ha => ?_⟩
  refine (calls_of_big hf hb hl hB h2 h4 (heap_none hPr) (fun n hn => absurd rfl hn) ha).mono ?_
  rintro e w' ⟨v, φ', Pr', rfl, hH, _, hW, hv⟩
  refine ⟨v, Pr', rfl, ?_, plainA_map hv hp⟩
  have nl : ∀ b, ¬ Live (fun _ => none) (fun _ => .dead) b := by rintro b ⟨n, hn, _⟩; simp [live] at hn
  exact ⟨hW.os, hW.tape, hW.output, hW.size, fun b hb => hW.keep b hb (nl b), hW.pro, fun r b x hp hb => (hW.old r b x hp hb).resolve_right (fun ⟨_, hl⟩ => nl b hl), hW.new, hH.cell⟩

attribute [simp] exR_nil exR_cons bindS_some exK_app stepD wantA exD dstOk resA slotD app_sl app_none ev_tmp ev_int ev_bool ev_float ev_string ev_nil ev_ptr ev_nilFunc ev_func T_cons T_nil put_cons put_nil upd_at indexA loadA partA lenA binA abin aint astr dv
attribute [simp] isB boolOf
attribute [simp] andThen_normal andThen_exit andThen_ret inB_normal inB_ret inB_exit

end Go.Proofs.YtamefliipjhpoaaGreat.Ab
