/- Abstract operations that only compute: what each yields, and that the machine's operation yields a value that stands for it. -/
import Derived.Test.YtamefliipjhpoaaGreatAbs
import Derived.Laws.Cells
import Derived.Laws.Entries
import Derived.ChangeKeysEq
import Derived.Laws.Cover1
set_option autoImplicit false
namespace Go.Proofs.YtamefliipjhpoaaGreat.Ab
open Go

def upd {α β : Type} [DecidableEq α] (f : α → β) (x : α) (b : β) : α → β := fun y => if y = x then b else f y
theorem upd_same {α β : Type} [DecidableEq α] (f : α → β) (x : α) (b : β) : upd f x b x = b := by simp [upd]
theorem upd_ne {α β : Type} [DecidableEq α] (f : α → β) {x y : α} (b : β) (h : y ≠ x) : upd f x b y = f y := by simp [upd, h]

structure St where
  t : Nat → A
  o : Nm → Ob
  u : Nm → Bool
  /-- Which frame this is: names of its objects begin so. -/
  p : List Nat

abbrev dv (x : Value) : A := .d (.v x)

def constA : Value → A
  | .slice none 0 0 => .sx 0 0 []
  | v => if plainV v then .d (.v v) else .und

def St.ev (s : St) : Operand → A
  | .tmp t => s.t t
  | .const v => constA v
  | .func f => .fn f []
  | .global _ => .und

/-- What a step leaves: a slot, objects, a name that is born. -/
structure Dl where
  sl : Option (Tmp × A)
  ob : List (Nm × Ob)
  bo : Option Nm

def setOb : (Nm → Ob) → List (Nm × Ob) → Nm → Ob
  | o, [] => o
  | o, p :: r => setOb (upd o p.1 p.2) r

def St.app (s : St) (δ : Dl) : St :=
  ⟨match δ.sl with | some (d, a) => upd s.t d a | none => s.t, setOb s.o δ.ob, match δ.bo with | some n => upd s.u n true | none => s.u, s.p⟩

/-- What a frame is: how many slots, what is deferred. -/
structure Fr where
  n : Nat
  df : List Deferred

structure Inv (N : Fr) (s : St) (φ : Map) (Pr : Pro) (a : Act) (w : World) : Prop where
  heap : Heap w φ Pr s.o
  used : ∀ n, φ n ≠ none → s.u n = true
  size : a.tmps.size = N.n
  tmps : ∀ x, ARep w φ Pr (a.tmps.getD x undef) (s.t x)
  defers : a.defers = N.df

theorem constA_rep {w : World} {φ : Map} {Pr : Pro} (v : Value) : ARep w φ Pr v (constA v) := by
  unfold constA
  split
  · exact .sx (.sl (fun _ _ => undef) rfl (Nat.le_refl _) (by simp) (by simp) (by simp))
  · split
    · exact .d (.v ‹_›)
    · exact .und

theorem ARep.dv_eq {w : World} {φ : Map} {Pr : Pro} {v x : Value} (h : ARep w φ Pr v (dv x)) : v = x := by
  cases h with
  | d hd => cases hd with | v _ => rfl

theorem Inv.ev {N : Fr} {s : St} {φ : Map} {Pr : Pro} {a : Act} {w : World} (h : Inv N s φ Pr a w) (x : Operand) : ARep w φ Pr (a.eval x) (s.ev x) := by
  cases x with
  | tmp t => exact h.tmps t
  | const v => exact constA_rep v
  | global g => exact .und
  | func f => exact .fn rfl (by simp)

theorem Inv.put {N : Fr} {s : St} {φ φ' : Map} {Pr Pr' : Pro} {a : Act} {w w' : World} (h : Inv N s φ Pr a w) {o : Nm → Ob} {u : Nm → Bool} (hl : Later w φ Pr w' φ' Pr')
    (hh : Heap w' φ' Pr' o) (hu : ∀ n, φ' n ≠ none → u n = true) {d : Tmp} (hd : d < N.n) {v : Value} {x : A} (hv : ARep w' φ' Pr' v x) :
    Inv N ⟨upd s.t d x, o, u, s.p⟩ φ' Pr' (a.put (some d) v) w' := by
  refine ⟨hh, hu, by simp [Act.put, h.size], fun y => ?_, h.defers⟩
  show ARep w' φ' Pr' ((a.tmps.setIfInBounds d v).getD y undef) (upd s.t d x y)
  by_cases e : y = d
  · subst e
    rw [upd_same]
    have : (a.tmps.setIfInBounds y v).getD y undef = v := by
      have : y < a.tmps.size := by rw [h.size]; exact hd
      simp [Array.getD_eq_getD_getElem?, this]
    rw [this]; exact hv
  · rw [upd_ne _ _ e]
    have : (a.tmps.setIfInBounds d v).getD y undef = a.tmps.getD y undef := by
      simp [Array.getD_eq_getD_getElem?, Array.getElem?_setIfInBounds_ne (Ne.symm e)]
    rw [this]; exact (h.tmps y).later hl

theorem Inv.later {N : Fr} {s : St} {φ φ' : Map} {Pr Pr' : Pro} {a : Act} {w w' : World} (h : Inv N s φ Pr a w) {o : Nm → Ob} {u : Nm → Bool} (hl : Later w φ Pr w' φ' Pr')
    (hh : Heap w' φ' Pr' o) (hu : ∀ n, φ' n ≠ none → u n = true) : Inv N ⟨s.t, o, u, s.p⟩ φ' Pr' a w' :=
  ⟨hh, hu, h.size, fun y => (h.tmps y).later hl, h.defers⟩

/-! ### What the tables say -/
def aggB (P : Program) (t : TypeId) : Option Bool := match P.underlying t with
  | some (.struct _) | some (.array _ _) => some true
  | some _ => some false
  | none => none
def szT (P : Program) (t : TypeId) : Option Nat := (P.info? t).map (·.size)
def elT (P : Program) (t : TypeId) : Option TypeId := match P.underlying t with
  | some (.slice e) => some e
  | _ => none
/-- Field f of a struct type: its place, its type. -/
def fldT (P : Program) (t : TypeId) (f : Nat) : Option (Nat × TypeId) := match P.underlying t with
  | some (.struct fs) => (fs[f]?).map fun x => (x.offset, x.type)
  | _ => none

theorem run_isAgg {P : Program} {t : TypeId} {b : Bool} (h : aggB P t = some b) (w : World) : (isAgg t).run P w = .ok b w := by
  unfold aggB at h
  unfold isAgg
  rw [Sem.run_bind]
  split at h <;> simp at h <;> subst h
  all_goals (rw [run_underlying ‹_›]; simp only [Result.andThen_ok])
  · rfl
  · rfl
  · rename_i val _ _ _
    cases val <;> first | rfl | (exfalso; simp_all)

theorem run_sizeOf' {P : Program} {t : TypeId} {n : Nat} (h : szT P t = some n) (w : World) : (sizeOf t).run P w = .ok n w := by
  unfold szT at h
  cases hi : P.info? t with
  | none => simp [hi] at h
  | some i =>
    rw [hi] at h; simp at h; subst h
    rw [Go.run_sizeOf _ hi]; simp [Program.cellsOf, hi]

/-! ### Arithmetic and comparisons of plain values -/
def aint (op : BinOp) (k : IntKind) (a b : Int) : Option Value := match op with
  | .add => some (.int k (k.wrap (a + b)))
  | .sub => some (.int k (k.wrap (a - b)))
  | .mul => some (.int k (k.wrap (a * b)))
  | .eql => some (.bool (a == b))
  | .neq => some (.bool (a != b))
  | .lss => some (.bool (decide (a < b)))
  | .leq => some (.bool (decide (a ≤ b)))
  | .gtr => some (.bool (decide (a > b)))
  | .geq => some (.bool (decide (a ≥ b)))
  | _ => none
def aflt (op : BinOp) (k : FloatKind) (a b : Nat) : Option Value := match op with
  | .eql => some (.bool (k.format.order a b == some .eq))
  | .neq => some (.bool (k.format.order a b != some .eq))
  | .lss => some (.bool (k.format.order a b == some .lt))
  | .gtr => some (.bool (k.format.order a b == some .gt))
  | _ => none
def astr (op : BinOp) (a b : ByteArray) : Option Value := match op with
  | .eql => some (.bool (a.toList == b.toList))
  | .neq => some (.bool !(a.toList == b.toList))
  | .lss => some (.bool (Op.bytesLess a.toList b.toList))
  | .leq => some (.bool (Op.bytesLess a.toList b.toList || a.toList == b.toList))
  | .gtr => some (.bool !(Op.bytesLess a.toList b.toList || a.toList == b.toList))
  | .geq => some (.bool !(Op.bytesLess a.toList b.toList))
  | _ => none
def abin (P : Program) (op : BinOp) (t : TypeId) (x y : Value) : Option Value := match x, y with
  | .int k a, .int k' b => match op with
    | .shr => if 0 ≤ b then some (.int k (a.fdiv (2 ^ (min b.toNat k.bits)))) else none
    | op => if k = k' then aint op k a b else none
  | .float k a, .float k' b => if k = k' then aflt op k a b else none
  | .string a, .string b => astr op a b
  | .bool a, .bool b => match P.underlying t with
    | some .bool => match op with
      | .eql => some (.bool (a == b))
      | .neq => some (.bool !(a == b))
      | _ => none
    | _ => none
  | .pointer none, .pointer none => match P.underlying t with
    | some (.pointer _) => match op with
      | .eql => some (.bool true)
      | .neq => some (.bool false)
      | _ => none
    | _ => none
  | _, _ => none

theorem run_equalIn_bool {P : Program} {t : TypeId} (hu : P.underlying t = some .bool) (n : Nat) (a b : Bool) (w : World) : (Op.equalIn (n + 1) t (.bool a) (.bool b)).run P w = .ok (a == b) w := by
  simp [Op.equalIn, run_underlying hu]
theorem run_equalIn_nil {P : Program} {t e : TypeId} (hu : P.underlying t = some (.pointer e)) (n : Nat) (w : World) : (Op.equalIn (n + 1) t (.pointer none) (.pointer none)).run P w = .ok true w := by
  simp [Op.equalIn, run_underlying hu]
theorem run_abin {P : Program} {op : BinOp} {t : TypeId} {x y v : Value} (X Y : Operand) (h : abin P op t x y = some v) (w : World) :
    ((do eqGuard op t X Y x y; binOp op t x y : Sem Value)).run P w = .ok v w := by
  unfold abin at h
  split at h
  · rename_i k a k' b
    split at h
    · split at h
      · rename_i hb
        simp at h; subst h
        have hb' : ¬ b < 0 := by omega
        simp [eqGuard, binOp, Op.shift, hb']
      · simp at h
    · rename_i hop
      split at h
      · rename_i hk; subst hk
        cases op <;> simp [aint] at h <;> subst h <;> simp [eqGuard, binOp, Op.intArith, Op.intCmp]
      · simp at h
  · rename_i k a k' b
    split at h
    · rename_i hk; subst hk
      cases op <;> simp [aflt] at h <;> subst h <;> simp [eqGuard, binOp, Op.floatCmp]
    · simp at h
  · cases op <;> simp [astr] at h <;> subst h <;> simp [eqGuard, binOp, Op.stringOp]
  · split at h
    · rename_i hu
      cases op <;> simp at h <;> subst h <;> simp only [binOp] <;> simp [eqGuard, Op.equal, Op.maxDepth, run_equalIn_bool hu 9999]
    · simp at h
  · split at h
    · rename_i hu
      cases op <;> simp at h <;> subst h <;> simp only [binOp] <;> simp [eqGuard, Op.equal, Op.maxDepth, run_equalIn_nil hu 9999]
    · simp at h
  · simp at h

end Go.Proofs.YtamefliipjhpoaaGreat.Ab
