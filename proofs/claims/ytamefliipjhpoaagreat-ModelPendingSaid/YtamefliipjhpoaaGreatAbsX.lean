/- Running a region on a state that is told slot by slot. -/
import Derived.Test.YtamefliipjhpoaaGreatAbsT
set_option autoImplicit false
namespace Go.Proofs.YtamefliipjhpoaaGreat.Ab
open Go

def put (d : Nat) (a : A) : List (Nat × A) → List (Nat × A)
  | [] => [(d, a)]
  | q :: l => if q.1 = d then (d, a) :: l else q :: put d a l

theorem T_put (d : Nat) (a : A) : ∀ (l : List (Nat × A)) (x : Nat), T (put d a l) x = upd (T l) d a x
  | [], x => by simp only [put, T, upd]
  | q :: l, x => by
    simp only [put]
    split
    · rename_i e
      simp only [T, upd]
      by_cases h : x = d
      · simp [h]
      · rw [if_neg h, if_neg h, if_neg (by rw [e]; exact h)]
    · rename_i e
      simp only [T, T_put d a l x, upd]
      by_cases h : x = q.1
      · rw [if_pos h, if_neg (by rw [h]; exact e), if_pos h]
      · rw [if_neg h, if_neg h]
theorem upd_T (d : Nat) (a : A) (l : List (Nat × A)) : upd (T l) d a = T (put d a l) := funext fun x => (T_put d a l x).symm

/-- Operations that are no calls of Go functions, one behind the other. -/
def exR (P : Program) (N : Fr) (ops : Array Oper) : List Oper → St → Option St
  | [], s => some s
  | o :: l, s => (stepD P N ops s o).bind fun δ => exR P N ops l (s.app δ)

/-- The same, so that simp runs one operation after the other. -/
def exK (P : Program) (N : Fr) (ops : Array Oper) (l : List Oper) (s : St) (δ : Dl) : Option St := exR P N ops l (s.app δ)
def bindS (x : Option Dl) (k : Dl → Option St) : Option St := x.bind k
theorem exR_nil (P : Program) (N : Fr) (ops : Array Oper) (s : St) : exR P N ops [] s = some s := rfl
theorem exR_cons (P : Program) (N : Fr) (ops : Array Oper) (o : Oper) (l : List Oper) (s : St) : exR P N ops (o :: l) s = bindS (stepD P N ops s o) (exK P N ops l s) := rfl
theorem bindS_some (δ : Dl) (k : Dl → Option St) : bindS (some δ) k = k δ := rfl
theorem exK_app (P : Program) (N : Fr) (ops : Array Oper) (l : List Oper) (s : St) (δ : Dl) : exK P N ops l s δ = exR P N ops l (s.app δ) := rfl

/-- The operations from place k on. -/
def ChainL (P : Program) (N : Fr) (ops : Array Oper) (k : Nat) (l : List Oper) (s s' : St) : Prop := (∀ (j : Nat) (o : Oper), l[j]? = some o → ops[k + j]? = some o) → Chain P N ops (List.range' k l.length) s s'

theorem ChainL.nil {P : Program} {N : Fr} {ops : Array Oper} {k : Nat} {s : St} : ChainL P N ops k [] s s := fun _ => .nil
theorem ChainL.step {P : Program} {N : Fr} {ops : Array Oper} {k : Nat} {o : Oper} {l : List Oper} {s s' : St} {δ : Dl} (h : ops[k]? = some o → StepR P N ops s k δ) (t : ChainL P N ops (k + 1) l (s.app δ) s') : ChainL P N ops k (o :: l) s s' := fun hl => by
  rw [List.length_cons, List.range'_succ]
  exact .cons (h (by have := hl 0 o rfl; simpa using this)) (t (fun j o' hj => by
    have := hl (j + 1) o' (by simpa using hj)
    rw [show k + 1 + j = k + (j + 1) by omega]; exact this))
theorem ChainL.ex {P : Program} {N : Fr} {ops : Array Oper} {k : Nat} {o : Oper} {l : List Oper} {s s' : St} {δ : Dl} (h : stepD P N ops s o = some δ) (t : ChainL P N ops (k + 1) l (s.app δ) s') : ChainL P N ops k (o :: l) s s' :=
  .step (fun ho => .ex ho h) t
theorem ChainL.rest {P : Program} {N : Fr} {ops : Array Oper} : ∀ {k : Nat} {l : List Oper} {s s' : St}, exR P N ops l s = some s' → ChainL P N ops k l s s'
  | _, [], s, s', h => by simp [exR] at h; subst h; exact .nil
  | k, o :: l, s, s', h => by
    unfold exR at h
    cases hd : stepD P N ops s o with
    | none => rw [hd] at h; simp at h
    | some δ => rw [hd] at h; simp at h; exact .ex hd (ChainL.rest h)
theorem ChainL.run {P : Program} {N : Fr} {ops : Array Oper} : ∀ (m : Nat) {k : Nat} {l : List Oper} {s s1 s' : St}, exR P N ops (l.take m) s = some s1 → ChainL P N ops (k + m) (l.drop m) s1 s' → ChainL P N ops k l s s'
  | 0, k, l, s, s1, s', h, t => by simp [exR] at h; subst h; simpa using t
  | m + 1, k, [], s, s1, s', h, t => by
    simp [exR] at h; subst h
    intro _
    have := t (by simp)
    simpa using this
  | m + 1, k, o :: l, s, s1, s', h, t => by
    simp only [List.take_succ_cons, exR] at h
    cases hd : stepD P N ops s o with
    | none => rw [hd] at h; simp at h
    | some δ =>
      rw [hd] at h; simp at h
      exact .ex hd (ChainL.run m h (by simpa [Nat.add_assoc, Nat.add_comm 1 m] using t))
theorem ChainL.call {P : Program} {N : Fr} {ops : Array Oper} {k : Nat} {o : Oper} {l : List Oper} {s s' : St} {c : Call} {g : Operand} {f : FuncId} {args : List A} {r : A} (hop : o.op = .call c) (hcal : c.callee = .value g) (hg : s.ev g = .fn f []) (hw : wantA ops s o = some true) (hd : dstOk N o.dst = true)
    (hargs : (c.args.toList.map fun x => viewA s (s.ev x)) = args) (hpl : args.all plainA = true) (hs : DSpec P f args r) (t : ChainL P N ops (k + 1) l (s.app (slotD o.dst r)) s') : ChainL P N ops k (o :: l) s s' :=
  .step (fun ho => .call ho hop hcal hg hw hd hargs hpl (.inl hs)) t
theorem ChainL.prim {P : Program} {N : Fr} {ops : Array Oper} {k : Nat} {o : Oper} {l : List Oper} {s s' : St} {c : Call} {g : Operand} {f : FuncId} {args : List A} {r : A} (hop : o.op = .call c) (hcal : c.callee = .value g) (hg : s.ev g = .fn f []) (hw : wantA ops s o = some true) (hd : dstOk N o.dst = true)
    (hargs : (c.args.toList.map fun x => viewA s (s.ev x)) = args) (hpl : args.all plainA = true) (hs : PSpec P f args r) (t : ChainL P N ops (k + 1) l (s.app (slotD o.dst r)) s') : ChainL P N ops k (o :: l) s s' :=
  .step (fun ho => .call ho hop hcal hg hw hd hargs hpl (.inr hs)) t

theorem Big.reg {P : Program} {N : Fr} {id : Nat} {ops : Array Oper} {s s' : St} (h : ChainL P N ops 0 ops.toList s s') : Big P N (.region id ops false) s .normal s' := by
  refine .region ?_
  have := h (fun j o hj => by rw [Nat.zero_add, ← Array.getElem?_toList]; exact hj)
  rwa [Array.length_toList, ← List.range_eq_range'] at this
theorem Big.regD {P : Program} {N : Fr} {id : Nat} {ops : Array Oper} {s s' : St} (hm : P.follows .mixedOrders = true) (h1 : orderOk .any ops = true) (h2 : backOk .any ops = true) (h : ChainL P N ops 0 ops.toList s s') : Big P N (.region id ops true) s .normal s' := by
  refine .draw hm h1 h2 ?_
  have := h (fun j o hj => by rw [Nat.zero_add, ← Array.getElem?_toList]; exact hj)
  rwa [Array.length_toList, ← List.range_eq_range'] at this

/-! ### Rows for simp -/
theorem app_sl (l : List (Nat × A)) (o : Nm → Ob) (u : Nm → Bool) (p : List Nat) (d : Nat) (a : A) : (St.mk (T l) o u p).app ⟨some (d, a), [], none⟩ = ⟨T (put d a l), o, u, p⟩ := by
  simp only [St.app, setOb, upd_T]
theorem app_none (l : List (Nat × A)) (o : Nm → Ob) (u : Nm → Bool) (p : List Nat) : (St.mk (T l) o u p).app ⟨none, [], none⟩ = ⟨T l, o, u, p⟩ := rfl
theorem app_born (l : List (Nat × A)) (o : Nm → Ob) (u : Nm → Bool) (p : List Nat) (d : Nat) (a : A) (n : Nm) (X : Ob) : (St.mk (T l) o u p).app ⟨some (d, a), [(n, X)], some n⟩ = ⟨T (put d a l), upd o n X, upd u n true, p⟩ := by
  simp only [St.app, setOb, upd_T]
theorem app_born2 (l : List (Nat × A)) (o : Nm → Ob) (u : Nm → Bool) (p : List Nat) (d : Nat) (a : A) (n m : Nm) (X Y : Ob) : (St.mk (T l) o u p).app ⟨some (d, a), [(m, Y), (n, X)], some n⟩ = ⟨T (put d a l), upd (upd o m Y) n X, upd u n true, p⟩ := by
  simp only [St.app, setOb, upd_T]
theorem app_ob (l : List (Nat × A)) (o : Nm → Ob) (u : Nm → Bool) (p : List Nat) (n : Nm) (X : Ob) : (St.mk (T l) o u p).app ⟨none, [(n, X)], none⟩ = ⟨T l, upd o n X, u, p⟩ := rfl
theorem ev_tmp (s : St) (t : Nat) : s.ev (.tmp t) = s.t t := rfl
theorem ev_int (s : St) (k : IntKind) (n : Int) : s.ev (.const (.int k n)) = .d (.v (.int k n)) := rfl
theorem ev_bool (s : St) (b : Bool) : s.ev (.const (.bool b)) = .d (.v (.bool b)) := rfl
theorem ev_float (s : St) (k : FloatKind) (n : Nat) : s.ev (.const (.float k n)) = .d (.v (.float k n)) := rfl
theorem ev_string (s : St) (b : ByteArray) : s.ev (.const (.string b)) = .d (.v (.string b)) := rfl
theorem ev_nil (s : St) : s.ev (.const (.slice none 0 0)) = .sx 0 0 [] := rfl
theorem ev_ptr (s : St) : s.ev (.const (.pointer none)) = .d (.v (.pointer none)) := rfl
theorem ev_nilFunc (s : St) : s.ev (.const .nilFunc) = .d (.v .nilFunc) := rfl
theorem ev_func (s : St) (f : FuncId) : s.ev (.func f) = .fn f [] := rfl

theorem T_cons (q : Nat × A) (l : List (Nat × A)) (d : Nat) : T (q :: l) d = if d = q.1 then q.2 else T l d := rfl
theorem T_nil (d : Nat) : T [] d = .und := rfl
theorem put_cons (d : Nat) (a : A) (q : Nat × A) (l : List (Nat × A)) : put d a (q :: l) = if q.1 = d then (d, a) :: l else q :: put d a l := rfl
theorem put_nil (d : Nat) (a : A) : put d a [] = [(d, a)] := rfl
theorem upd_at {α β : Type} [DecidableEq α] (f : α → β) (x y : α) (b : β) : upd f x b y = if y = x then b else f y := rfl

/-- An operation without a guard that yields a value. -/
theorem step_res {P : Program} {N : Fr} {ops : Array Oper} {s : St} {d : Tmp} {op : Op} {ty : TypeId} {ps : String} {af : Array Edge} : stepD P N ops s ⟨some d, op, ty, ps, af, none⟩ = exD P N s ⟨some d, op, ty, ps, af, none⟩ := rfl

end Go.Proofs.YtamefliipjhpoaaGreat.Ab
