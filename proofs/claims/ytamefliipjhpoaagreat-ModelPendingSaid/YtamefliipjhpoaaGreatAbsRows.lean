/- Slices as their rows; cuts; the values of structs. -/
import Derived.Test.YtamefliipjhpoaaGreatAbsLoad
import Derived.Laws.Slices
set_option autoImplicit false
namespace Go.Proofs.YtamefliipjhpoaaGreat.Ab
open Go

/-! ### The rows of a slice -/
def rowsA (s : St) : A → Option (Nat × List (List D))
  | .d (.sl _ k rows) | .sx _ k rows => some (k, rows)
  | .os n k lo len | .ox n k lo len => match s.o n with
    | .arr k' rows | .froz k' rows => if k = k' ∧ lo + len ≤ rows.length then some (k, (rows.drop lo).take len) else none
    | _ => none
  | _ => none

/-- A slice's value, and where its rows' cells lie. -/
def RowsAt (w : World) (φ : Map) (Pr : Pro) (x : Value) (k : Nat) (rows : List (List D)) : Prop :=
  ∃ ad cap, x = .slice ad rows.length cap ∧ rows.length ≤ cap ∧ (rows ≠ [] → ∃ b off, ad = some ⟨b, off, none⟩ ∧
    ∀ (i : Nat) (row : List D), rows[i]? = some row → row.length = k ∧ CellsAt w φ Pr b (off + i * k) (row.map .d))

theorem RowsAt.sl {w : World} {φ : Map} {Pr : Pro} {a : Option Addr} {n cap r k : Nat} {rows : List (List D)} (h : DRep w Pr (.slice a n cap) (.sl r k rows)) : RowsAt w φ Pr (.slice a n cap) k rows := by
  have h' := h
  cases h with
  | sl val hn hc hk hx hd =>
    subst hn
    refine ⟨a, cap, rfl, hc, fun h0 => ?_⟩
    obtain ⟨b, off, e, _⟩ := hx (by cases rows <;> simp_all)
    exact ⟨b, off, e, fun i row hi => ⟨hk i row hi, CellsAt.sl h' e hi⟩⟩

theorem getElem?_cut {α : Type} {xs : List α} {lo len i : Nat} {x : α} (h : ((xs.drop lo).take len)[i]? = some x) : i < len ∧ xs[lo + i]? = some x := by
  rw [List.getElem?_take] at h
  split at h
  · exact ⟨‹_›, by rwa [List.getElem?_drop] at h⟩
  · simp at h

theorem length_cut {α : Type} {xs : List α} {lo len : Nat} (h : lo + len ≤ xs.length) : ((xs.drop lo).take len).length = len := by
  simp; omega

theorem rowsA_rep {N : Fr} {s : St} {φ : Map} {Pr : Pro} {ac : Act} {w : World} (hI : Inv N s φ Pr ac w) {x : Value} {a : A} {k : Nat} {rows : List (List D)} (hx : ARep w φ Pr x a)
    (h : rowsA s a = some (k, rows)) : RowsAt w φ Pr x k rows := by
  have obj : ∀ (n : Nm) (k k' lo len : Nat) (all : List (List D)), (∀ (l : Loc) (b off i : Nat) (row : List D), φ n = some l → l.a = some ⟨b, off, none⟩ → all[i]? = some row → row.length = k' ∧ CellsAt w φ Pr b (off + i * k') (row.map .d)) →
      (if k = k' ∧ lo + len ≤ all.length then some (k, (all.drop lo).take len) else none) = some (k, rows) →
      (∃ (l : Loc) (ad : Option Addr) (cap : Nat), φ n = some l ∧ x = .slice ad len cap ∧ len ≤ cap ∧ (len ≠ 0 → ∃ b off, l.a = some ⟨b, off, none⟩ ∧ ad = some ⟨b, off + lo * k, none⟩)) → RowsAt w φ Pr x k rows := by
    intro n k k' lo len all hc hq hv
    split at hq
    · rename_i hk
      obtain ⟨rfl, hle⟩ := hk
      simp at hq; subst hq
      obtain ⟨l, ad, cap, hl, rfl, hcap, ha⟩ := hv
      have hlen := length_cut hle
      refine ⟨ad, cap, by rw [hlen], by rw [hlen]; exact hcap, fun h0 => ?_⟩
      obtain ⟨b, off, e1, rfl⟩ := ha (by intro e; apply h0; rw [← List.length_eq_zero_iff, hlen, e])
      refine ⟨b, _, rfl, fun i row hi => ?_⟩
      obtain ⟨_, hi'⟩ := getElem?_cut hi
      have := hc l b off (lo + i) row hl e1 hi'
      rw [Nat.add_mul, ← Nat.add_assoc] at this
      exact this
    · simp at hq
  have arr : ∀ (n : Nm) (k' : Nat) (all : List (List D)), s.o n = .arr k' all → ∀ (l : Loc) (b off i : Nat) (row : List D), φ n = some l → l.a = some ⟨b, off, none⟩ → all[i]? = some row → row.length = k' ∧ CellsAt w φ Pr b (off + i * k') (row.map .d) := by
    intro n k' all ho l b off i row hl ha hi
    have hr := hI.heap.rep n
    rw [ho] at hr
    refine ⟨?_, CellsAt.row hr hl ha hi⟩
    obtain ⟨_, _, _, hk, _⟩ := hr
    exact hk i row hi
  have frz : ∀ (n : Nm) (k' : Nat) (all : List (List D)), s.o n = .froz k' all → ∀ (l : Loc) (b off i : Nat) (row : List D), φ n = some l → l.a = some ⟨b, off, none⟩ → all[i]? = some row → row.length = k' ∧ CellsAt w φ Pr b (off + i * k') (row.map .d) := by
    intro n k' all ho l b off i row hl ha hi
    have hr := hI.heap.rep n
    rw [ho] at hr
    obtain ⟨l', hφ, _, hd⟩ := hr
    rw [hφ] at hl; simp at hl; subst hl
    refine ⟨?_, CellsAt.sl hd ha hi⟩
    cases hd with
    | sl val hn hc hk hx hd => exact hk i row hi
  unfold rowsA at h
  split at h
  · simp at h; obtain ⟨rfl, rfl⟩ := h
    cases hx with
    | d hd =>
      cases hd with
      | sl val hn hc hk ha hdd => exact RowsAt.sl (.sl val hn hc hk ha hdd)
  · simp at h; obtain ⟨rfl, rfl⟩ := h
    cases hx with
    | sx hd => exact RowsAt.sl hd
  · rename_i n k0 lo len
    have hv : ∃ (l : Loc) (ad : Option Addr) (cap : Nat), φ n = some l ∧ x = .slice ad len cap ∧ len ≤ cap ∧ (len ≠ 0 → ∃ b off, l.a = some ⟨b, off, none⟩ ∧ ad = some ⟨b, off + lo * k0, none⟩) := by
      cases hx with
      | os hl hle ha => exact ⟨_, _, _, hl, rfl, by omega, fun h0 => ha (by omega)⟩
    split at h
    · rename_i k' all ho
      have hk0 : k0 = k := by
        split at h
        · simp at h; exact h.1
        · simp at h
      subst hk0
      exact obj n k0 k' lo len all (arr n k' all ho) h hv
    · rename_i k' all ho
      have hk0 : k0 = k := by
        split at h
        · simp at h; exact h.1
        · simp at h
      subst hk0
      exact obj n k0 k' lo len all (frz n k' all ho) h hv
    · simp at h
  · rename_i n k0 lo len
    have hv : ∃ (l : Loc) (ad : Option Addr) (cap : Nat), φ n = some l ∧ x = .slice ad len cap ∧ len ≤ cap ∧ (len ≠ 0 → ∃ b off, l.a = some ⟨b, off, none⟩ ∧ ad = some ⟨b, off + lo * k0, none⟩) := by
      cases hx with
      | ox hl hle ha => exact ⟨_, _, _, hl, rfl, Nat.le_refl _, ha⟩
    split at h
    · rename_i k' all ho
      have hk0 : k0 = k := by
        split at h
        · simp at h; exact h.1
        · simp at h
      subst hk0
      exact obj n k0 k' lo len all (arr n k' all ho) h hv
    · rename_i k' all ho
      have hk0 : k0 = k := by
        split at h
        · simp at h; exact h.1
        · simp at h
      subst hk0
      exact obj n k0 k' lo len all (frz n k' all ho) h hv
    · simp at h
  · simp at h

/-! ### Cuts -/
def intA : A → Option Int
  | .d (.v (.int _ i)) => some i
  | _ => none
def natA (a : A) : Option Nat := (intA a).bind fun i => if 0 ≤ i then some i.toNat else none

/-- A bound that may be left out. -/
def optN (n : Nat) : Option A → Option Nat
  | none => some n
  | some a => natA a

/-- x[lo:hi], x[lo:hi:mx] -/
def cutA (P : Program) (t : TypeId) (a : A) (lo hi mx : Option A) : Option A :=
  match optN 0 lo with
  | none => none
  | some l => match P.underlying t with
    | some .string => match a, mx with
      | .d (.v (.string s)), none => match optN s.size hi with
        | some h => if l ≤ h ∧ h ≤ s.size then some (dv (.string (s.extract l h))) else none
        | none => none
      | _, _ => none
    | some (.slice e) => match szT P e with
      | none => none
      | some sz => match mx with
        | none => match a with
          | .d (.sl r k rows) => match optN rows.length hi with
            | some h => if l ≤ h ∧ h ≤ rows.length ∧ (k = sz ∨ rows = []) then some (.d (.sl r k ((rows.drop l).take (h - l)))) else none
            | none => none
          | .sx r k rows => match optN rows.length hi with
            | some h => if l ≤ h ∧ h ≤ rows.length ∧ (k = sz ∨ rows = []) then some (.d (.sl r k ((rows.drop l).take (h - l)))) else none
            | none => none
          | .os n k lo len => match optN len hi with
            | some h => if l ≤ h ∧ h ≤ len ∧ k = sz then some (.os n k (lo + l) (h - l)) else none
            | none => none
          | _ => none
        | some m => match hi, natA m with
          | some hh, some m => match natA hh with
            | some h => if h = m ∧ l ≤ h then match a with
                | .d (.sl r k rows) | .sx r k rows => if h ≤ rows.length ∧ (k = sz ∨ rows = []) then some (.sx r k ((rows.drop l).take (h - l))) else none
                | .os n k lo len => if h ≤ len ∧ k = sz then some (.ox n k (lo + l) (h - l)) else none
                | _ => none
              else none
            | none => none
          | _, _ => none
    | _ => none

end Go.Proofs.YtamefliipjhpoaaGreat.Ab
