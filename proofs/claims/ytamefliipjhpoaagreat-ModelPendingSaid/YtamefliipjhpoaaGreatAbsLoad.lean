/- Abstract reading: loads, addresses of fields and elements, cuts of slices, lengths. -/
import Derived.Test.YtamefliipjhpoaaGreatAbsOps
set_option autoImplicit false
namespace Go.Proofs.YtamefliipjhpoaaGreat.Ab
open Go

/-! ### Cells that are there -/
/-- At ⟨b, off⟩ and behind it lie cells that stand for cs. -/
def CellsAt (w : World) (φ : Map) (Pr : Pro) (b off : Nat) (cs : List A) : Prop :=
  ∀ (j : Nat) (c : A), cs[j]? = some c → ∃ x, w.cell? ⟨b, off + j, none⟩ = some x ∧ oneV x = true ∧ ARep w φ Pr x c

theorem CellsAt.drop {w : World} {φ : Map} {Pr : Pro} {b off : Nat} {cs : List A} (h : CellsAt w φ Pr b off cs) (n : Nat) : CellsAt w φ Pr b (off + n) (cs.drop n) := by
  intro j c hj
  rw [List.getElem?_drop] at hj
  obtain ⟨x, h1, h2⟩ := h (n + j) c hj
  exact ⟨x, by rw [show off + n + j = off + (n + j) by omega]; exact h1, h2⟩

/-- A value of a type out of the cells at a place. -/
def partA (P : Program) (t : TypeId) (cs : List A) : Option A := match aggB P t, szT P t with
  | some true, some n => if n ≤ cs.length then some (.ag (cs.take n)) else none
  | some false, some _ => cs.head?
  | _, _ => none

theorem run_partA {P : Program} {t : TypeId} {w : World} {φ : Map} {Pr : Pro} {b off : Nat} {cs : List A} (h : CellsAt w φ Pr b off cs) {a : A} (hp : partA P t cs = some a) :
    ∃ v, (loadVar t ⟨b, off, none⟩).run P w = .ok v w ∧ ARep w φ Pr v a := by
  unfold partA at hp
  split at hp
  · rename_i n ha hs
    split at hp
    · rename_i hn
      simp at hp; subst hp
      have hf : ∀ j, ∃ x, j < n → w.cell? ⟨b, off + j, none⟩ = some x ∧ oneV x = true ∧ ∀ c, cs[j]? = some c → ARep w φ Pr x c := by
        intro j
        by_cases hj : j < n
        · obtain ⟨x, h1, h2, h3⟩ := h j (cs[j]'(by omega)) (List.getElem?_eq_getElem (by omega))
          exact ⟨x, fun _ => ⟨h1, h2, fun c hc => by rw [List.getElem?_eq_getElem (show j < cs.length by omega)] at hc; simp at hc; exact hc ▸ h3⟩⟩
        · exact ⟨undef, fun h => absurd h hj⟩
      obtain ⟨f, hf⟩ := Classical.axiomOfChoice hf
      refine ⟨.agg ((List.range n).map f).toArray, ?_, ?_⟩
      · unfold loadVar
        simp only [Sem.run_bind, run_isAgg ha, Result.andThen_ok, if_true, run_sizeOf' hs]
        rw [run_loadCells w _ n f (fun j hj => by rw [Addr.add_lit]; exact (hf j hj).1)]
        rfl
      · have hg : ∀ j, j < n → (((List.range n).map f).toArray).getD j undef = f j := by
          intro j hj; simp [Array.getD_eq_getD_getElem?, hj]
        refine .ag (by simp; omega) (fun j hj => ?_) (fun j c hc => ?_)
        · have hj' : j < n := by simpa using hj
          rw [hg j hj']; exact (hf j hj').2.1
        · have hj' : j < n := by
            have := (List.getElem?_eq_some_iff.1 hc).1
            simp at this; omega
          rw [hg j hj']
          exact (hf j hj').2.2 c (by rw [List.getElem?_take] at hc; rwa [if_pos hj'] at hc)
    · simp at hp
  · rename_i ha hs
    obtain ⟨x, h1, h2, h3⟩ := h 0 a (by rw [← List.head?_eq_getElem?]; exact hp)
    refine ⟨x, ?_, h3⟩
    unfold loadVar
    simp only [Sem.run_bind, run_isAgg ha, Result.andThen_ok]
    simp only [Nat.add_zero] at h1
    simp [run_load, h1]
  · simp at hp

theorem CellsAt.cells {w : World} {φ : Map} {Pr : Pro} {n : Nm} {cs : List A} {l : Loc} {b off : Nat} (h : obRep w φ Pr n (.cells cs)) (hl : φ n = some l) (ha : l.a = some ⟨b, off, none⟩) : CellsAt w φ Pr b off cs := by
  obtain ⟨b', off', xs, t, hφ, hh, hsz, hr, _⟩ := h
  rw [hl] at hφ; simp at hφ; subst hφ
  simp at ha; obtain ⟨rfl, rfl⟩ := ha
  intro j c hj
  have hlt : off' + j < xs.size := by have := (List.getElem?_eq_some_iff.1 hj).1; omega
  refine ⟨xs.getD (off' + j) undef, ?_, hr j c hj⟩
  simp [World.cell?, hh, Array.getD_eq_getD_getElem?, hlt]

theorem CellsAt.im {w : World} {φ : Map} {Pr : Pro} {r b off : Nat} {cells : List D} (val : Nat → Value) (hc : ∀ j, j < cells.length → w.cell? ⟨b, off + j, none⟩ = some (val j) ∧ Pr r b (off + j))
    (hd : ∀ (j : Nat) (c : D), cells[j]? = some c → DRep w Pr (val j) c) : CellsAt w φ Pr b off (cells.map .d) := by
  intro j c hj
  rw [List.getElem?_map] at hj
  cases hq : cells[j]? with
  | none => simp [hq] at hj
  | some d =>
    simp [hq] at hj; subst hj
    have hlt := (List.getElem?_eq_some_iff.1 hq).1
    exact ⟨val j, (hc j hlt).1, (hd j d hq).one, .d (hd j d hq)⟩

theorem CellsAt.row {w : World} {φ : Map} {Pr : Pro} {n : Nm} {k : Nat} {rows : List (List D)} {l : Loc} {b off i : Nat} {row : List D} (h : obRep w φ Pr n (.arr k rows)) (hl : φ n = some l)
    (ha : l.a = some ⟨b, off, none⟩) (hi : rows[i]? = some row) : CellsAt w φ Pr b (off + i * k) (row.map .d) := by
  obtain ⟨l', hφ, hle, hk, hx⟩ := h
  rw [hl] at hφ; simp at hφ; subst hφ
  have hil := (List.getElem?_eq_some_iff.1 hi).1
  obtain ⟨b', off', xs, t, ha', hh, hsz, hr, _⟩ := hx (by omega)
  rw [ha] at ha'; simp at ha'; obtain ⟨rfl, rfl⟩ := ha'
  intro j c hj
  rw [List.getElem?_map] at hj
  cases hq : row[j]? with
  | none => simp [hq] at hj
  | some d =>
    simp [hq] at hj; subst hj
    have hjl := (List.getElem?_eq_some_iff.1 hq).1
    have hlt : off + i * k + j < xs.size := by
      have := hk i row hi
      have h1 : (i + 1) * k ≤ l.cap * k := Nat.mul_le_mul_right k (by omega)
      rw [Nat.add_mul] at h1
      omega
    have hd := hr i row j d hi hq
    refine ⟨xs.getD (off + i * k + j) undef, ?_, hd.one, .d hd⟩
    simp [World.cell?, hh, Array.getD_eq_getD_getElem?, hlt]

theorem CellsAt.sl {w : World} {φ : Map} {Pr : Pro} {a : Option Addr} {n cap r k i b off : Nat} {rows : List (List D)} {row : List D} (h : DRep w Pr (.slice a n cap) (.sl r k rows))
    (ha : a = some ⟨b, off, none⟩) (hi : rows[i]? = some row) : CellsAt w φ Pr b (off + i * k) (row.map .d) := by
  cases h with
  | sl val hn hc hk hx hd =>
    have hil := (List.getElem?_eq_some_iff.1 hi).1
    obtain ⟨b', off', ha', hcell⟩ := hx (by omega)
    rw [ha] at ha'; simp at ha'; obtain ⟨rfl, rfl⟩ := ha'
    have hkr := hk i row hi
    exact CellsAt.im (fun j => val i j) (fun j hj => hcell i j (by omega) (by omega)) (fun j c hj => hd i row j c hi hj)

/-! ### Loads -/
def loadA (P : Program) (s : St) (t : TypeId) : A → Option A
  | .ptr n o => match s.o n with
    | .cells cs => partA P t (cs.drop o)
    | _ => none
  | .pel n k i o => match s.o n with
    | .arr k' rows | .froz k' rows => if k = k' then (rows[i]?).bind fun row => partA P t ((row.drop o).map .d) else none
    | _ => none
  | .im _ cs => partA P t (cs.map .d)
  | _ => none

theorem run_loadA {P : Program} {N : Fr} {s : St} {φ : Map} {Pr : Pro} {ac : Act} {w : World} (hI : Inv N s φ Pr ac w) {t : TypeId} {x : Value} {ax a : A} (hx : ARep w φ Pr x ax)
    (h : loadA P s t ax = some a) : ∃ v, (Instr.loadAt t x).run P w = .ok v w ∧ ARep w φ Pr v a := by
  have go : ∀ (b off : Nat) (cs : List A), CellsAt w φ Pr b off cs → partA P t cs = some a → ∃ v, (Instr.loadAt t (.pointer (some ⟨b, off, none⟩))).run P w = .ok v w ∧ ARep w φ Pr v a := by
    intro b off cs hc hp
    obtain ⟨v, h1, h2⟩ := run_partA hc hp
    exact ⟨v, by simp [Instr.loadAt, Instr.sureAddr, h1], h2⟩
  unfold loadA at h
  split at h
  · rename_i n o
    split at h
    · rename_i cs ho
      cases hx with
      | ptr hl ha =>
        have hr := hI.heap.rep n
        rw [ho] at hr
        exact go _ _ _ ((CellsAt.cells hr hl ha).drop o) h
    · simp at h
  · rename_i n k i o
    have fin : ∀ (k' : Nat) (rows : List (List D)), (∀ (l : Loc) (b off : Nat) (row : List D), φ n = some l → l.a = some ⟨b, off, none⟩ → rows[i]? = some row → CellsAt w φ Pr b (off + i * k') (row.map .d)) →
        (if k = k' then (rows[i]?).bind fun row => partA P t ((row.drop o).map .d) else none) = some a → ∃ v, (Instr.loadAt t x).run P w = .ok v w ∧ ARep w φ Pr v a := by
      intro k' rows hc h
      split at h
      · rename_i hk; subst hk
        cases hr : rows[i]? with
        | none => simp [hr] at h
        | some row =>
          simp only [hr, Option.bind_some] at h
          cases hx with
          | pel hl ha =>
            have := (hc _ _ _ row hl ha hr).drop o
            rw [← List.map_drop] at this
            exact go _ _ _ this h
      · simp at h
    split at h
    · rename_i k' rows ho
      have hr := hI.heap.rep n
      rw [ho] at hr
      exact fin k' rows (fun l b off row hl ha hi => CellsAt.row hr hl ha hi) h
    · rename_i k' rows ho
      have hr := hI.heap.rep n
      rw [ho] at hr
      obtain ⟨l', hφ, _, hd⟩ := hr
      exact fin k' rows (fun l b off row hl ha hi => by rw [hφ] at hl; simp at hl; subst hl; exact CellsAt.sl hd ha hi) h
    · simp at h
  · rename_i r cs
    cases hx with
    | im val hc hd => exact go _ _ _ (CellsAt.im val hc hd) h
  · simp at h

/-! ### Addresses -/
def addA (o : Nat) : A → Option A
  | .ptr n p => some (.ptr n (p + o))
  | .pel n k i p => some (.pel n k i (p + o))
  | .im r cs => some (.im r (cs.drop o))
  | _ => none

theorem addA_rep {w : World} {φ : Map} {Pr : Pro} {o : Nat} {x : Value} {ax a : A} (hx : ARep w φ Pr x ax) (h : addA o ax = some a) : ∃ ad, x = .pointer (some ad) ∧ ARep w φ Pr (.pointer (some (ad.add o))) a := by
  unfold addA at h
  split at h <;> simp at h <;> subst h
  · cases hx with
    | ptr hl ha => exact ⟨_, rfl, by rw [Addr.add_lit, Nat.add_assoc]; exact .ptr hl ha⟩
  · cases hx with
    | pel hl ha => exact ⟨_, rfl, by rw [Addr.add_lit, Nat.add_assoc]; exact .pel hl ha⟩
  · rename_i r cs
    cases hx with
    | im val hc hd =>
      refine ⟨_, rfl, ?_⟩
      rw [Addr.add_lit]
      refine .im (fun j => val (o + j)) (fun j hj => ?_) (fun j c hj => ?_)
      · have := hc (o + j) (by simp at hj; omega)
        rw [← Nat.add_assoc] at this; exact this
      · rw [List.getElem?_drop] at hj; exact hd _ c hj

/-- A field's place: its type takes at least one cell. -/
def fieldA (P : Program) (t : TypeId) (f : Nat) (a : A) : Option A := match fldT P t f with
  | some (o, ft) => match szT P ft with
    | some (_ + 1) => addA o a
    | _ => none
  | none => none

theorem run_fieldA {P : Program} {w : World} {φ : Map} {Pr : Pro} {t : TypeId} {f : Nat} {x : Value} {ax a : A} (hx : ARep w φ Pr x ax) (h : fieldA P t f ax = some a) :
    ∃ v, (Instr.fieldAt t x f).run P w = .ok v w ∧ ARep w φ Pr v a := by
  unfold fieldA at h
  split at h
  · rename_i o ft hf
    split at h
    · rename_i n hs
      obtain ⟨ad, rfl, hr⟩ := addA_rep hx h
      refine ⟨_, ?_, hr⟩
      unfold fldT at hf
      split at hf
      · rename_i fs hu
        cases hg : fs[f]? with
        | none => simp [hg] at hf
        | some fl =>
          simp [hg] at hf
          obtain ⟨rfl, rfl⟩ := hf
          simp [Instr.fieldAt, run_underlying hu, hg, Instr.sureAddr, fieldPlace, run_sizeOf' hs]
      · simp at hf
    · simp at h
  · simp at h

/-- An element's place. -/
def indexA (P : Program) (t : TypeId) (a : A) (i : Int) : Option A := match elT P t with
  | some e => match szT P e with
    | some sz => match a with
      | .d (.sl r k rows) | .sx r k rows => if k = sz then if 0 ≤ i ∧ i < (rows.length : Int) then (rows[i.toNat]?).map (.im r) else none else none
      | .os n k lo len => if k = sz then if 0 ≤ i ∧ i < (len : Int) then some (.pel n k (lo + i.toNat) 0) else none else none
      | _ => none
    | none => none
  | none => none

theorem run_indexA {P : Program} {w : World} {φ : Map} {Pr : Pro} {t : TypeId} {x : Value} {ax a : A} {ki : IntKind} {i : Int} (hx : ARep w φ Pr x ax) (h : indexA P t ax i = some a) :
    ∃ v, (Instr.indexAt t x (.int ki i)).run P w = .ok v w ∧ ARep w φ Pr v a := by
  unfold indexA at h
  split at h
  · rename_i e he
    split at h
    · rename_i sz hs
      have hu : P.underlying t = some (.slice e) := by
        unfold elT at he
        split at he
        · simp at he; subst he; assumption
        · simp at he
      have imm : ∀ (r k n cap : Nat) (ad : Option Addr) (rows : List (List D)), DRep w Pr (.slice ad n cap) (.sl r k rows) →
          (if k = sz then if 0 ≤ i ∧ i < (rows.length : Int) then (rows[i.toNat]?).map (A.im r) else none else none) = some a →
          ∃ v, (Instr.indexAt t (.slice ad n cap) (.int ki i)).run P w = .ok v w ∧ ARep w φ Pr v a := by
        intro r k n cap ad rows hd hq
        split at hq
        · rename_i hk; subst hk
          split at hq
          · rename_i hi
            cases hd with
            | sl val hn hc hkk ha hdd =>
              subst hn
              obtain ⟨row, hrow⟩ : ∃ row, rows[i.toNat]? = some row := ⟨_, List.getElem?_eq_getElem (by omega)⟩
              rw [hrow] at hq; simp at hq; subst hq
              obtain ⟨b, off, rfl, hcell⟩ := ha (by omega)
              refine ⟨.pointer (some ⟨b, off + i.toNat * k, none⟩), ?_, ?_⟩
              · simp [Instr.indexAt, asIntOf, run_underlying hu, hi, run_sizeOf' hs, Addr.add_lit]
              · have hkr := hkk _ row hrow
                exact .im (fun j => val i.toNat j) (fun j hj => hcell _ j (by omega) (by omega)) (fun j c hj => hdd _ row j c hrow hj)
          · simp at hq
        · simp at hq
      split at h
      · cases hx with
        | d hd =>
          cases hd with
          | sl val hn hc hkk ha hdd => exact imm _ _ _ _ _ _ (.sl val hn hc hkk ha hdd) h
      · cases hx with
        | sx hd => exact imm _ _ _ _ _ _ hd h
      · rename_i n k lo len
        split at h
        · rename_i hk; subst hk
          split at h
          · rename_i hi
            simp at h; subst h
            cases hx with
            | os hl hle ha =>
              obtain ⟨b, off, e1, rfl⟩ := ha (by omega)
              refine ⟨.pointer (some ⟨b, off + lo * k + i.toNat * k, none⟩), ?_, ?_⟩
              · simp [Instr.indexAt, asIntOf, run_underlying hu, hi, run_sizeOf' hs, Addr.add_lit]
              · have := ARep.pel (w := w) (Pr := Pr) (k := k) (i := lo + i.toNat) (o := 0) hl e1
                rw [Nat.add_mul, ← Nat.add_assoc] at this
                exact this
          · simp at h
        · simp at h
      · simp at h
    · simp at h
  · simp at h

/-! ### Lengths and cuts -/
def lenA (P : Program) (t : TypeId) : A → Option A
  | .d (.sl _ _ rows) | .sx _ _ rows => match P.underlying t with
    | some (.slice _) => some (dv (.int .i64 rows.length))
    | _ => none
  | .os _ _ _ len | .ox _ _ _ len => match P.underlying t with
    | some (.slice _) => some (dv (.int .i64 len))
    | _ => none
  | .d (.v (.string s)) => match P.underlying t with
    | some .string => some (dv (.int .i64 s.size))
    | _ => none
  | _ => none

theorem run_lenA {P : Program} {w : World} {φ : Map} {Pr : Pro} {t u : TypeId} {x : Value} {ax a : A} (hx : ARep w φ Pr x ax) (h : lenA P t ax = some a) :
    ∃ v, (Builtin.len_ #[t] u #[x]).run P w = .ok v w ∧ ARep w φ Pr v a := by
  unfold lenA at h
  split at h
  · split at h
    · rename_i hu
      simp at h; subst h
      cases hx with
      | d hd =>
        cases hd with
        | sl val hn hc hk ha hdd => subst hn; exact ⟨_, by simp [Builtin.len_, run_underlying hu]; rfl, .d (.v rfl)⟩
    · simp at h
  · split at h
    · rename_i hu
      simp at h; subst h
      cases hx with
      | sx hd =>
        cases hd with
        | sl val hn hc hk ha hdd => subst hn; exact ⟨_, by simp [Builtin.len_, run_underlying hu]; rfl, .d (.v rfl)⟩
    · simp at h
  · split at h
    · rename_i hu
      simp at h; subst h
      cases hx with
      | os => exact ⟨_, by simp [Builtin.len_, run_underlying hu]; rfl, .d (.v rfl)⟩
    · simp at h
  · split at h
    · rename_i hu
      simp at h; subst h
      cases hx with
      | ox => exact ⟨_, by simp [Builtin.len_, run_underlying hu]; rfl, .d (.v rfl)⟩
    · simp at h
  · split at h
    · rename_i hu
      simp at h; subst h
      cases hx with
      | d hd => cases hd with | v _ => exact ⟨_, by simp [Builtin.len_, run_underlying hu]; rfl, .d (.v rfl)⟩
    · simp at h
  · simp at h

end Go.Proofs.YtamefliipjhpoaaGreat.Ab
