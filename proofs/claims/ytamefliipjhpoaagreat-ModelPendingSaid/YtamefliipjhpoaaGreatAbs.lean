/- Abstract values and states: what a value of the machine stands for, without blocks, capacities and orders; and when a world bears them. -/
import Derived.Orders
import Derived.RowKit3
import Derived.Below
set_option autoImplicit false
namespace Go.Proofs.YtamefliipjhpoaaGreat.Ab
open Go

/-! ### 1. Abstract values -/

/-- Data: a plain value, or a slice as its rows (each of k values), in memory of label r. -/
inductive D where
  | v (x : Value)
  | sl (r k : Nat) (rows : List (List D))
  deriving Inhabited

/-- Names of objects: those of the frame's own slots, those that came in. -/
inductive Nm where
  | loc (k : List Nat) (j : Nat)
  | ext (n : Nat)
  deriving DecidableEq, Inhabited

inductive A where
  | d (x : D)
  /-- a slice whose capacity is its length -/
  | sx (r k : Nat) (rows : List (List D))
  /-- rows [lo, lo + len) of an object of rows -/
  | os (n : Nm) (k lo len : Nat)
  /-- the same, its capacity its length -/
  | ox (n : Nm) (k lo len : Nat)
  /-- the address of cell o of an object -/
  | ptr (n : Nm) (o : Nat)
  /-- the address of cell o of row i of an object of rows -/
  | pel (n : Nm) (k i o : Nat)
  /-- the address of cells that stay as they are -/
  | im (r : Nat) (cells : List D)
  | ag (cs : List A)
  | fn (f : Nat) (caps : List A)
  /-- a map that is an object -/
  | mp (n : Nm)
  | ifc (t : Nat) (x : A)
  | tup (xs : List A)
  | und
  deriving Inhabited

inductive Ob where
  | dead
  | cells (cs : List A)
  | arr (k : Nat) (rows : List (List D))
  | froz (k : Nat) (rows : List (List D))
  | map (es : List (A × A))
  deriving Inhabited

/-- A value that bears no address. -/
def plainV : Value → Bool
  | .bool _ | .int _ _ | .float _ _ | .string _ | .nilFunc | .nilIface | .pointer none | .map none => true
  | _ => false

def oneV : Value → Bool
  | .agg _ | .tuple _ => false
  | _ => true

/-! ### 2. What they mean in a world -/

abbrev Pro := Nat → Nat → Nat → Prop      -- label, block, place: these cells stay as they are
/-- Where an object lies: its head, its capacity in rows. -/
structure Loc where
  a : Option Addr
  cap : Nat
abbrev Map := Nm → Option Loc

inductive DRep (w : World) (Pr : Pro) : Value → D → Prop
  | v {x : Value} (h : plainV x = true) : DRep w Pr x (.v x)
  | sl {a : Option Addr} {cap r k n : Nat} {rows : List (List D)} (val : Nat → Nat → Value) (hn : rows.length = n) (hc : n ≤ cap)
      (hk : ∀ (i : Nat) (row : List D), rows[i]? = some row → row.length = k)
      (ha : n ≠ 0 → ∃ b off, a = some ⟨b, off, none⟩ ∧ ∀ i j, i < n → j < k → w.cell? ⟨b, off + i * k + j, none⟩ = some (val i j) ∧ Pr r b (off + i * k + j))
      (hd : ∀ (i : Nat) (row : List D) (j : Nat) (c : D), rows[i]? = some row → row[j]? = some c → DRep w Pr (val i j) c) :
      DRep w Pr (.slice a n cap) (.sl r k rows)

inductive ARep (w : World) (φ : Map) (Pr : Pro) : Value → A → Prop
  | d {x : Value} {c : D} (h : DRep w Pr x c) : ARep w φ Pr x (.d c)
  | sx {a : Option Addr} {n r k : Nat} {rows : List (List D)} (h : DRep w Pr (.slice a n n) (.sl r k rows)) : ARep w φ Pr (.slice a n n) (.sx r k rows)
  | os {n : Nm} {k lo len : Nat} {l : Loc} {a : Option Addr} (hl : φ n = some l) (hle : lo + len ≤ l.cap)
      (ha : l.cap ≠ lo → ∃ b off, l.a = some ⟨b, off, none⟩ ∧ a = some ⟨b, off + lo * k, none⟩) : ARep w φ Pr (.slice a len (l.cap - lo)) (.os n k lo len)
  | ox {n : Nm} {k lo len : Nat} {l : Loc} {a : Option Addr} (hl : φ n = some l) (hle : lo + len ≤ l.cap)
      (ha : len ≠ 0 → ∃ b off, l.a = some ⟨b, off, none⟩ ∧ a = some ⟨b, off + lo * k, none⟩) : ARep w φ Pr (.slice a len len) (.ox n k lo len)
  | ptr {n : Nm} {o b off : Nat} {l : Loc} (hl : φ n = some l) (ha : l.a = some ⟨b, off, none⟩) : ARep w φ Pr (.pointer (some ⟨b, off + o, none⟩)) (.ptr n o)
  | pel {n : Nm} {k i o b off : Nat} {l : Loc} (hl : φ n = some l) (ha : l.a = some ⟨b, off, none⟩) : ARep w φ Pr (.pointer (some ⟨b, off + i * k + o, none⟩)) (.pel n k i o)
  | im {r b off : Nat} {cells : List D} (val : Nat → Value) (hc : ∀ j, j < cells.length → w.cell? ⟨b, off + j, none⟩ = some (val j) ∧ Pr r b (off + j))
      (hd : ∀ (j : Nat) (c : D), cells[j]? = some c → DRep w Pr (val j) c) : ARep w φ Pr (.pointer (some ⟨b, off, none⟩)) (.im r cells)
  | ag {xs : Array Value} {cs : List A} (hn : xs.size = cs.length) (h1 : ∀ j, j < xs.size → oneV (xs.getD j undef) = true)
      (h : ∀ (j : Nat) (c : A), cs[j]? = some c → ARep w φ Pr (xs.getD j undef) c) : ARep w φ Pr (.agg xs) (.ag cs)
  | fn {f : Nat} {xs : Array Value} {cs : List A} (hn : xs.size = cs.length) (h : ∀ (j : Nat) (c : A), cs[j]? = some c → ARep w φ Pr (xs.getD j undef) c) :
      ARep w φ Pr (.func (.func f) #[] xs) (.fn f cs)
  | mp {n : Nm} {b : Nat} {l : Loc} (hl : φ n = some l) (ha : l.a = some ⟨b, 0, none⟩) : ARep w φ Pr (.map (some b)) (.mp n)
  | ifc {t : Nat} {x : Value} {c : A} (h : ARep w φ Pr x c) : ARep w φ Pr (.iface t x) (.ifc t c)
  | tup {xs : Array Value} {cs : List A} (hn : xs.size = cs.length) (h : ∀ (j : Nat) (c : A), cs[j]? = some c → ARep w φ Pr (xs.getD j undef) c) : ARep w φ Pr (.tuple xs) (.tup cs)
  | und {x : Value} : ARep w φ Pr x .und

/-! ### 3. Later worlds -/

/-- Cells that are promised hold what they held; names lead where they led. -/
structure Later (w : World) (φ : Map) (Pr : Pro) (w' : World) (φ' : Map) (Pr' : Pro) : Prop where
  cell : ∀ r b o, Pr r b o → w'.cell? ⟨b, o, none⟩ = w.cell? ⟨b, o, none⟩
  pro : ∀ r b o, Pr r b o → Pr' r b o
  map : ∀ n l, φ n = some l → φ' n = some l

theorem Later.refl (w : World) (φ : Map) (Pr : Pro) : Later w φ Pr w φ Pr := ⟨fun _ _ _ _ => rfl, fun _ _ _ h => h, fun _ _ h => h⟩
theorem Later.trans {w w' w'' : World} {φ φ' φ'' : Map} {Pr Pr' Pr'' : Pro} (h : Later w φ Pr w' φ' Pr') (k : Later w' φ' Pr' w'' φ'' Pr'') : Later w φ Pr w'' φ'' Pr'' :=
  ⟨fun r b o hp => (k.cell r b o (h.pro r b o hp)).trans (h.cell r b o hp), fun r b o hp => k.pro r b o (h.pro r b o hp), fun n l hl => k.map n l (h.map n l hl)⟩

theorem DRep.later {w w' : World} {φ φ' : Map} {Pr Pr' : Pro} (hl : Later w φ Pr w' φ' Pr') {x : Value} {c : D} (h : DRep w Pr x c) : DRep w' Pr' x c := by
  induction h with
  | v h => exact .v h
  | sl val hn hc hk ha hd ih =>
    refine .sl val hn hc hk (fun h0 => ?_) ih
    obtain ⟨b, off, e, hcell⟩ := ha h0
    exact ⟨b, off, e, fun i j hi hj => ⟨(hl.cell _ _ _ (hcell i j hi hj).2).trans (hcell i j hi hj).1, hl.pro _ _ _ (hcell i j hi hj).2⟩⟩

theorem ARep.later {w w' : World} {φ φ' : Map} {Pr Pr' : Pro} (hl : Later w φ Pr w' φ' Pr') {x : Value} {c : A} (h : ARep w φ Pr x c) : ARep w' φ' Pr' x c := by
  induction h with
  | d h => exact .d (h.later hl)
  | sx h => exact .sx (h.later hl)
  | os h hle ha => exact .os (hl.map _ _ h) hle ha
  | ox h hle ha => exact .ox (hl.map _ _ h) hle ha
  | ptr h ha => exact .ptr (hl.map _ _ h) ha
  | pel h ha => exact .pel (hl.map _ _ h) ha
  | im val hc hd => exact .im val (fun j hj => ⟨(hl.cell _ _ _ (hc j hj).2).trans (hc j hj).1, hl.pro _ _ _ (hc j hj).2⟩) (fun j c hj => (hd j c hj).later hl)
  | ag hn h1 _ ih => exact .ag hn h1 ih
  | fn hn _ ih => exact .fn hn ih
  | mp h ha => exact .mp (hl.map _ _ h) ha
  | ifc _ ih => exact .ifc ih
  | tup hn _ ih => exact .tup hn ih
  | und => exact .und

/-- A cell of an object: no aggregate. -/
def cellA : A → Bool
  | .ag _ | .tup _ | .und => false
  | _ => true

theorem DRep.one {w : World} {Pr : Pro} {x : Value} {c : D} (h : DRep w Pr x c) : oneV x = true := by
  cases h with
  | v h => cases x <;> first | rfl | simp [plainV] at h
  | sl => rfl

theorem ARep.one {w : World} {φ : Map} {Pr : Pro} {x : Value} {c : A} (h : ARep w φ Pr x c) (hc : cellA c = true) : oneV x = true := by
  cases h <;> first | rfl | exact DRep.one ‹_› | simp [cellA] at hc

/-! ### 4. The heap -/

/-- The block of a name, if it has one. -/
def blockOf (φ : Map) (n : Nm) : Option Nat := (φ n).bind fun l => if l.cap = 0 then none else l.a.map (·.block)

/-- What an object is in a world. -/
def obRep (w : World) (φ : Map) (Pr : Pro) (n : Nm) : Ob → Prop
  | .dead => True
  | .cells cs => ∃ b off xs t, φ n = some ⟨some ⟨b, off, none⟩, 1⟩ ∧ w.heap[b]? = some (.cells xs t (0, 0)) ∧ off + cs.length ≤ xs.size ∧
      (∀ (j : Nat) (c : A), cs[j]? = some c → oneV (xs.getD (off + j) undef) = true ∧ ARep w φ Pr (xs.getD (off + j) undef) c) ∧ ∀ r o, ¬ Pr r b o
  | .arr k rows => ∃ l, φ n = some l ∧ rows.length ≤ l.cap ∧ (∀ (i : Nat) (row : List D), rows[i]? = some row → row.length = k) ∧
      (l.cap ≠ 0 → ∃ b off xs t, l.a = some ⟨b, off, none⟩ ∧ w.heap[b]? = some (.cells xs t (0, 0)) ∧ off + l.cap * k ≤ xs.size ∧
        (∀ (i : Nat) (row : List D) (j : Nat) (c : D), rows[i]? = some row → row[j]? = some c → DRep w Pr (xs.getD (off + i * k + j) undef) c) ∧ ∀ r o, ¬ Pr r b o)
  | .froz k rows => ∃ l, φ n = some l ∧ rows.length ≤ l.cap ∧ DRep w Pr (.slice l.a rows.length l.cap) (.sl 0 k rows)
  | .map es => ∃ b ents ck, φ n = some ⟨some ⟨b, 0, none⟩, 1⟩ ∧ w.heap[b]? = some (.map ents ck) ∧ ents.size = es.length ∧
      (∀ (j : Nat) (q : A × A), es[j]? = some q → ∃ e, ents[j]? = some e ∧ ARep w φ Pr e.key q.1 ∧ ARep w φ Pr e.val q.2) ∧ ∀ r o, ¬ Pr r b o

def live : Ob → Bool
  | .cells _ | .arr _ _ | .map _ => true
  | _ => false

structure Heap (w : World) (φ : Map) (Pr : Pro) (o : Nm → Ob) : Prop where
  rep : ∀ n, obRep w φ Pr n (o n)
  apart : ∀ n m b, live (o n) = true → live (o m) = true → blockOf φ n = some b → blockOf φ m = some b → n = m
  lt : ∀ n b, blockOf φ n = some b → b < w.heap.size
  cell : ∀ r b o, Pr r b o → b < w.heap.size

end Go.Proofs.YtamefliipjhpoaaGreat.Ab
