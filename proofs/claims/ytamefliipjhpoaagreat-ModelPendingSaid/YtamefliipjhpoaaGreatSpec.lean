/- What the program's data are, and what its lists of tasks come to, as plain Lean functions: no memory, no Go. -/
import GoSem.Op.String
import Ieee.Arith
set_option autoImplicit false
namespace Go.Proofs.YtamefliipjhpoaaGreat.Spec

/-- A list; a task; a state; a mutation; an item. Numbers are as Go's cells hold them; floats are their bits. -/
structure LRec where
  id : Int
  name : ByteArray

structure Task where
  id : Int
  list : Int
  title : ByteArray
  done : Bool
  rank : Nat
  est : Nat
  tags : List ByteArray

structure State where
  lists : List LRec
  tasks : List Task

structure Mut where
  kind : Int
  id : Int
  list : Int
  text : ByteArray
  f : Nat
  flag : Bool

structure Item where
  ident : Int
  id : Int
  m : Mut

def State.empty : State := ⟨[], []⟩

/-! ### floats, as bits -/
def ford (a b : Nat) : Option Ordering := Ieee.double.order a b
def feq (a b : Nat) : Bool := ford a b == some .eq
def flt (a b : Nat) : Bool := ford a b == some .lt
def isNaN (a : Nat) : Bool := !feq a a
def nanBits : Nat := 0x7ff8000000000001
def canonF (a : Nat) : Nat := if isNaN a then nanBits else if feq a 0 then 0 else a
def isCanon (a : Nat) : Bool := a == canonF a
def keyF (a : Nat) : Nat := if isNaN a then 0 else if canonF a < 9223372036854775808 then canonF a + 9223372036854775808 else ((18446744073709551615 - (canonF a : Int)) % 18446744073709551616).toNat
def sameF (a b : Nat) : Bool := keyF a == keyF b
def lessF (a b : Nat) : Bool := decide (keyF a < keyF b)

/-! ### texts -/
def bytes (s : ByteArray) : List UInt8 := s.data.toList
def sless (a b : ByteArray) : Bool := Op.bytesLess a.data.toList b.data.toList
def titleByte (c : UInt8) : Bool := decide (32 ≤ c.toNat) && decide (c.toNat ≤ 126)
def titleOk (s : ByteArray) : Bool := (bytes s).all titleByte && decide (1 ≤ s.size) && decide (s.size ≤ 60)
def tagByte (c : UInt8) : Bool := (decide (97 ≤ c.toNat) && decide (c.toNat ≤ 122)) || (decide (48 ≤ c.toNat) && decide (c.toNat ≤ 57)) || decide (c.toNat = 45)
def tagOk (s : ByteArray) : Bool := (bytes s).all tagByte && decide (1 ≤ s.size) && decide (s.size ≤ 16)

/-! ### finding -/
def list? (l : List LRec) (id : Int) : Option LRec := l.find? fun x => x.id == id
def task? (l : List Task) (id : Int) : Option Task := l.find? fun x => x.id == id

/-! ### what is wrong with a state: an error's number -/
def tagsFrom (prev : Option ByteArray) : List ByteArray → Nat
  | [] => 0
  | x :: r => if !tagOk x then 94 else if (match prev with | none => false | some p => !sless p x) then 94 else tagsFrom (some x) r
def tagsBad (l : List ByteArray) : Nat := if 4 < l.length then 95 else tagsFrom none l
def taskBad (ls : List LRec) (t : Task) : Nat :=
  if (list? ls t.list).isNone then 91
  else if !titleOk t.title then 94
  else if isNaN t.rank || !isCanon t.rank then 100
  else if !isCanon t.est then 90
  else tagsBad t.tags
def listsFrom (prev : Int) : List LRec → Nat
  | [] => 0
  | l :: r => if l.id ≤ prev then 91 else if !titleOk l.name then 94 else listsFrom l.id r
def tasksFrom (ls : List LRec) (prev : Int) : List Task → Nat
  | [] => 0
  | t :: r => if t.id ≤ prev then 93 else if taskBad ls t ≠ 0 then taskBad ls t else tasksFrom ls t.id r
def right (s : State) : Nat :=
  if 20 < s.lists.length then 95 else if 60 < s.tasks.length then 95
  else if listsFrom 0 s.lists ≠ 0 then listsFrom 0 s.lists else tasksFrom s.lists 0 s.tasks

/-! ### in order -/
def withText (l : List ByteArray) (x : ByteArray) : List ByteArray :=
  match l with
  | [] => [x]
  | y :: r => if sless y x then y :: withText r x else if y == x then y :: r else x :: y :: r
def texts (l : List ByteArray) : List ByteArray := l.foldl withText []
def withList (l : List LRec) (x : LRec) : List LRec :=
  match l with
  | [] => [x]
  | y :: r => if y.id < x.id then y :: withList r x else if y.id == x.id then y :: r else x :: y :: r
def withTask (l : List Task) (x : Task) : List Task :=
  match l with
  | [] => [x]
  | y :: r => if y.id < x.id then y :: withTask r x else if y.id == x.id then y :: r else x :: y :: r
def canonTask (t : Task) : Task := { t with rank := canonF t.rank, est := canonF t.est, tags := texts t.tags }
def canon (s : State) : State := ⟨s.lists.foldl withList [], (s.tasks.map canonTask).foldl withTask []⟩

/-! ### alike -/
def sameTask (a b : Task) : Bool := a.id == b.id && a.list == b.list && a.title == b.title && a.done == b.done && sameF a.rank b.rank && sameF a.est b.est && a.tags == b.tags
def allSame {α : Type} (f : α → α → Bool) : List α → List α → Bool
  | [], [] => true
  | a :: l, b :: r => f a b && allSame f l r
  | _, _ => false
def sameLRec (a b : LRec) : Bool := a.id == b.id && a.name == b.name
def same (a b : State) : Bool := allSame sameLRec a.lists b.lists && allSame sameTask a.tasks b.tasks

def sameMut (a b : Mut) : Bool := a.kind == b.kind && a.id == b.id && a.list == b.list && a.text == b.text && a.flag == b.flag && sameF a.f b.f
def sameItem (a b : Item) : Bool := a.ident == b.ident && a.id == b.id && sameMut a.m b.m

/-! ### mutations -/
def check (m : Mut) : Nat :=
  let id := m.kind = 1 ∨ m.kind = 2 ∨ m.kind = 3 ∨ m.kind = 4 ∨ m.kind = 5 ∨ m.kind = 6 ∨ m.kind = 7 ∨ m.kind = 8 ∨ m.kind = 9 ∨ m.kind = 10 ∨ m.kind = 11
  let list := m.kind = 3 ∨ m.kind = 6 ∨ m.kind = 12 ∨ m.kind = 13
  let text := m.kind = 1 ∨ m.kind = 3 ∨ m.kind = 4 ∨ m.kind = 9 ∨ m.kind = 10
  let f := m.kind = 3 ∨ m.kind = 6 ∨ m.kind = 7 ∨ m.kind = 8
  let flag := m.kind = 5
  if m.kind < 1 ∨ 13 < m.kind then 110
  else if !isCanon m.f ∨ (¬ id ∧ m.id ≠ 0) ∨ (¬ list ∧ m.list ≠ 0) ∨ (¬ text ∧ m.text.size ≠ 0) ∨ (¬ flag ∧ m.flag) ∨ (¬ f ∧ !feq m.f 0) then 110
  else if (list ∧ m.list = 0) ∨ ((m.kind = 1 ∨ m.kind = 2) ∧ m.id = 0) then 91
  else if id ∧ m.id = 0 then 93
  else if (m.kind = 9 ∨ m.kind = 10) ∧ !tagOk m.text then 94
  else if (¬ (m.kind = 9 ∨ m.kind = 10)) ∧ text ∧ !titleOk m.text then 94
  else if f ∧ isNaN m.f ∧ m.kind ≠ 8 then 100
  else 0

/-- A list's tasks by rank and number. -/
def ahead (a b : Task) : Bool := lessF a.rank b.rank || (sameF a.rank b.rank && decide (a.id < b.id))
def place (l : List Task) (id : Int) : Option Nat := l.findIdx? fun x => x.id == id
/-- One more from behind: it goes ahead of those that it stands ahead of. -/
def intoRev (x : Task) : List Task → List Task
  | [] => [x]
  | y :: r => if ahead x y then y :: intoRev x r else x :: y :: r
def orderRev (l : List Task) (list : Int) : List Task := l.foldl (fun acc t => if t.list == list then intoRev t acc else acc) []
def order (l : List Task) (list : Int) : List Task := (orderRev l list).reverse
def floatOf (n : Nat) : Nat := Ieee.double.nearest false n 0
def spread (s : State) (list : Int) : State :=
  let c := canon s
  ⟨c.lists, c.tasks.map fun t => match place (order c.tasks list) t.id with | some i => { t with rank := floatOf (i + 1) } | none => t⟩

def tagsWith (l : List ByteArray) (m : Mut) : List ByteArray × Nat :=
  let rest := l.filter fun x => !(x == m.text)
  if m.kind = 10 then if rest.length < l.length then (rest, 0) else (l, 3)
  else if rest.length < l.length then (l, 92) else if 4 ≤ l.length then (l, 95) else (texts (rest ++ [m.text]), 0)

/-- What a mutation that may be does to a state in order: the state, the error's number. -/
def applyTo (s : State) (m : Mut) : State × Nat :=
  if m.kind = 1 then
    if (list? s.lists m.id).isSome then (s, 92) else if 20 ≤ s.lists.length then (s, 95) else (⟨withList s.lists ⟨m.id, m.text⟩, s.tasks⟩, 0)
  else if m.kind = 2 then
    if (list? s.lists m.id).isNone then (s, 91) else (⟨s.lists.filter fun x => !(x.id == m.id), s.tasks.filter fun t => !(t.list == m.id)⟩, 0)
  else if m.kind = 12 then
    if (list? s.lists m.list).isNone then (s, 91) else (⟨s.lists, s.tasks.filter fun t => !(t.list == m.list && t.done)⟩, 0)
  else if m.kind = 13 then
    if (list? s.lists m.list).isNone then (s, 91) else (spread s m.list, 0)
  else if m.kind = 3 then
    if (task? s.tasks m.id).isSome then (s, 92) else if (list? s.lists m.list).isNone then (s, 91) else if 60 ≤ s.tasks.length then (s, 95)
    else (⟨s.lists, withTask s.tasks ⟨m.id, m.list, m.text, false, m.f, nanBits, []⟩⟩, 0)
  else match task? s.tasks m.id with
    | none => (s, 93)
    | some t =>
      let rest := s.tasks.filter fun x => !(x.id == m.id)
      let back (t : Task) : State := ⟨s.lists, withTask rest t⟩
      if m.kind = 11 then (⟨s.lists, rest⟩, 0)
      else if m.kind = 4 then (back { t with title := m.text }, 0)
      else if m.kind = 5 then (back { t with done := m.flag }, 0)
      else if m.kind = 6 then if (list? s.lists m.list).isNone then (back { t with list := m.list, rank := m.f }, 91) else (back { t with list := m.list, rank := m.f }, 0)
      else if m.kind = 7 then (back { t with rank := m.f }, 0)
      else if m.kind = 8 then (back { t with est := m.f }, 0)
      else (back { t with tags := (tagsWith t.tags m).1 }, (tagsWith t.tags m).2)

/-- A mutation of a state: the state behind it (the empty one, where it is refused), the error's number. -/
def apply (s : State) (m : Mut) : State × Nat :=
  if right s ≠ 0 then (.empty, right s)
  else if check m ≠ 0 then (.empty, check m)
  else if (applyTo (canon s) m).2 ≠ 0 then (.empty, (applyTo (canon s) m).2) else applyTo (canon s) m

def begin (s : State) : State := if right (canon s) ≠ 0 then .empty else canon s
def step (s : State) (m : Mut) : State := if (apply s m).2 = 0 then (apply s m).1 else s
def states (s : State) : List Item → State
  | [] => s
  | x :: r => states (step s x.m) r
def errs (s : State) : List Item → List Nat
  | [] => []
  | x :: r => (apply s x.m).2 :: errs (step s x.m) r

/-! ### undoing -/
def make (t : Task) : List Mut :=
  [⟨3, t.id, t.list, t.title, t.rank, false⟩] ++ (if t.done then [⟨5, t.id, 0, ⟨#[]⟩, 0, true⟩] else []) ++ (if isNaN t.est then [] else [⟨8, t.id, 0, ⟨#[]⟩, t.est, false⟩]) ++
    t.tags.map fun x => ⟨9, t.id, 0, x, 0, false⟩
def all (s : State) : List Mut → State × Bool
  | [] => (s, true)
  | m :: r => if (apply s m).2 = 0 then all (apply s m).1 r else (s, false)

end Go.Proofs.YtamefliipjhpoaaGreat.Spec
