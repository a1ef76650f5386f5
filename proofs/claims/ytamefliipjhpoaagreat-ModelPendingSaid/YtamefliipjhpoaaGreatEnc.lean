/- The data of the specification as abstract values. -/
import Derived.Test.YtamefliipjhpoaaGreatAbsTab
import Derived.Test.YtamefliipjhpoaaGreatSpec
import Derived.Laws.Externs
set_option autoImplicit false
namespace Go.Proofs.YtamefliipjhpoaaGreat.Ab
open Go

abbrev dInt (k : IntKind) (n : Int) : D := .v (.int k n)
abbrev dStr (b : ByteArray) : D := .v (.string b)
abbrev dFlt (n : Nat) : D := .v (.float .f64 n)
abbrev dBool (b : Bool) : D := .v (.bool b)

def tagC (b : ByteArray) : List D := [.v (.string b)]
def lrecC (x : Spec.LRec) : List D := [.v (.int .u64 x.id), .v (.string x.name)]
def taskC (t : Spec.Task) : List D := [.v (.int .u64 t.id), .v (.int .u64 t.list), .v (.string t.title), .v (.bool t.done), .v (.float .f64 t.rank), .v (.float .f64 t.est), .sl 0 1 (t.tags.map tagC)]
def mutC (m : Spec.Mut) : List D := [.v (.int .i64 m.kind), .v (.int .u64 m.id), .v (.int .u64 m.list), .v (.string m.text), .v (.float .f64 m.f), .v (.bool m.flag)]

def itemC (x : Spec.Item) : List D := [.v (.int .u64 x.ident), .v (.int .u64 x.id), .v (.int .i64 x.m.kind), .v (.int .u64 x.m.id), .v (.int .u64 x.m.list), .v (.string x.m.text), .v (.float .f64 x.m.f), .v (.bool x.m.flag)]
def agD (l : List D) : A := .ag (l.map .d)
abbrev tagsD (l : List ByteArray) : D := .sl 0 1 (l.map tagC)
abbrev lrecsD (l : List Spec.LRec) : D := .sl 0 2 (l.map lrecC)
abbrev tasksD (l : List Spec.Task) : D := .sl 0 7 (l.map taskC)
abbrev mutsD (l : List Spec.Mut) : D := .sl 0 6 (l.map mutC)
abbrev itemsD (l : List Spec.Item) : D := .sl 0 8 (l.map itemC)
abbrev itemA (x : Spec.Item) : A := .ag [.d (.v (.int .u64 x.ident)), .d (.v (.int .u64 x.id)), .d (.v (.int .i64 x.m.kind)), .d (.v (.int .u64 x.m.id)), .d (.v (.int .u64 x.m.list)), .d (.v (.string x.m.text)), .d (.v (.float .f64 x.m.f)), .d (.v (.bool x.m.flag))]
def stateC (s : Spec.State) : List D := [lrecsD s.lists, tasksD s.tasks]
abbrev stateA (s : Spec.State) : A := .ag [.d (lrecsD s.lists), .d (tasksD s.tasks)]
abbrev taskA (t : Spec.Task) : A := .ag [.d (.v (.int .u64 t.id)), .d (.v (.int .u64 t.list)), .d (.v (.string t.title)), .d (.v (.bool t.done)), .d (.v (.float .f64 t.rank)), .d (.v (.float .f64 t.est)), .d (.sl 0 1 (t.tags.map tagC))]
abbrev lrecA (x : Spec.LRec) : A := .ag [.d (.v (.int .u64 x.id)), .d (.v (.string x.name))]
abbrev mutA (m : Spec.Mut) : A := .ag [.d (.v (.int .i64 m.kind)), .d (.v (.int .u64 m.id)), .d (.v (.int .u64 m.list)), .d (.v (.string m.text)), .d (.v (.float .f64 m.f)), .d (.v (.bool m.flag))]

theorem beq_bytes (a b : ByteArray) : (a == b) = true ↔ a = b := by
  show (a.data == b.data) = true ↔ _
  rw [beq_iff_eq]
  exact ⟨fun h => ByteArray.ext h, fun h => by rw [h]⟩
instance : LawfulBEq ByteArray where
  eq_of_beq h := (beq_bytes _ _).1 h
  rfl := (beq_bytes _ _).2 rfl

@[simp] theorem str_eq (a b : ByteArray) : (a.toList == b.toList) = (a == b) := by
  rw [Bool.eq_iff_iff]
  simp only [beq_iff_eq, ByteArray.toList_eq]
  constructor
  · intro h
    exact ByteArray.ext (Array.ext' h)
  · rintro rfl; rfl
@[simp] theorem str_eq' (a b : ByteArray) : (a.toList = b.toList) ↔ a = b := by
  rw [ByteArray.toList_eq, ByteArray.toList_eq]
  exact ⟨fun h => ByteArray.ext (Array.ext' h), fun h => by rw [h]⟩
@[simp] theorem str_lt (a b : ByteArray) : Op.bytesLess a.toList b.toList = Spec.sless a b := by
  rw [ByteArray.toList_eq, ByteArray.toList_eq]; rfl
@[simp] theorem fmt64 : FloatKind.f64.format = Ieee.double := rfl
theorem find_take_none {α : Type} (f : α → Bool) (l : List α) (i : Nat) (hi : i < l.length) (h : (l.take i).find? f = none) (hx : f l[i] = false) : (l.take (i + 1)).find? f = none := by
  rw [List.take_succ_eq_append_getElem hi, List.find?_append, h]
  simp [List.find?, hx]
theorem find_take_some {α : Type} (f : α → Bool) (l : List α) (i : Nat) (hi : i < l.length) (h : (l.take i).find? f = none) (hx : f l[i] = true) : l.find? f = some l[i] := by
  conv => lhs; rw [← List.take_append_drop i l]
  rw [List.find?_append, h, List.drop_eq_getElem_cons hi]
  simp [List.find?, hx]
theorem take_eq_step {α : Type} {a b : List α} {i : Nat} (ha : i < a.length) (hb : i < b.length) (h : a.take i = b.take i) (e : a[i] = b[i]) : a.take (i + 1) = b.take (i + 1) := by
  rw [List.take_succ_eq_append_getElem ha, List.take_succ_eq_append_getElem hb, h, e]

@[simp] theorem take_len_map {α β : Type} (f : α → β) (l : List α) : (l.map f).take l.length = l.map f := List.take_of_length_le (by simp)
def zeroTask : Spec.Task := ⟨0, 0, ⟨#[]⟩, false, 0, 0, []⟩
def zeroLRec : Spec.LRec := ⟨0, ⟨#[]⟩⟩

end Go.Proofs.YtamefliipjhpoaaGreat.Ab
