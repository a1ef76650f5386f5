/- Structs made of parts; parts of structs. -/
import Derived.Test.YtamefliipjhpoaaGreatAbsCut
import Derived.Laws.Tables
set_option autoImplicit false
namespace Go.Proofs.YtamefliipjhpoaaGreat.Ab
open Go

/-- An array of values stands for a list of cells. -/
def CellsRel (w : World) (φ : Map) (Pr : Pro) (xs : Array Value) (cs : List A) : Prop :=
  xs.size = cs.length ∧ ∀ (j : Nat) (c : A), cs[j]? = some c → oneV (xs.getD j undef) = true ∧ ARep w φ Pr (xs.getD j undef) c

theorem CellsRel.ag {w : World} {φ : Map} {Pr : Pro} {xs : Array Value} {cs : List A} (h : CellsRel w φ Pr xs cs) : ARep w φ Pr (.agg xs) (.ag cs) := by
  refine .ag h.1 (fun j hj => ?_) (fun j c hj => (h.2 j c hj).2)
  obtain ⟨c, hc⟩ : ∃ c, cs[j]? = some c := ⟨_, List.getElem?_eq_getElem (by rw [← h.1]; exact hj)⟩
  exact (h.2 j c hc).1

theorem CellsRel.of_ag {w : World} {φ : Map} {Pr : Pro} {x : Value} {cs : List A} (h : ARep w φ Pr x (.ag cs)) : ∃ xs, x = .agg xs ∧ CellsRel w φ Pr xs cs := by
  cases h with
  | ag hn h1 h => exact ⟨_, rfl, hn, fun j c hj => ⟨h1 j (by rw [hn]; exact (List.getElem?_eq_some_iff.1 hj).1), h j c hj⟩⟩

/-- The cells of a value: of a struct, or the one. -/
def cellsA : A → Option (List A)
  | .ag cs => some cs
  | c => if cellA c then some [c] else none

theorem cellsA_rep {w : World} {φ : Map} {Pr : Pro} {x : Value} {a : A} {cs : List A} (hx : ARep w φ Pr x a) (h : cellsA a = some cs) : CellsRel w φ Pr x.cells cs := by
  unfold cellsA at h
  split at h
  · simp at h; subst h
    obtain ⟨xs, rfl, hr⟩ := CellsRel.of_ag hx
    exact hr
  · split at h
    · rename_i hc
      simp at h; subst h
      have h1 := hx.one hc
      have e : x.cells = #[x] := by cases x <;> first | rfl | simp [oneV] at h1
      rw [e]
      refine ⟨rfl, fun j c hj => ?_⟩
      cases j with
      | zero => simp at hj; subst hj; exact ⟨h1, hx⟩
      | succ j => simp at hj
    · simp at h

theorem foldl_set (off : Nat) : ∀ (l : List Value) (k : Nat) (cells : Array Value),
    ((l.zipIdx k).foldl (fun cs p => cs.setIfInBounds (off + p.2) p.1) cells).size = cells.size ∧
    ∀ j, ((l.zipIdx k).foldl (fun cs p => cs.setIfInBounds (off + p.2) p.1) cells).getD j undef = if off + k ≤ j ∧ j < off + k + l.length ∧ j < cells.size then l.getD (j - off - k) undef else cells.getD j undef
  | [], k, cells => ⟨rfl, fun j => by simp; omega⟩
  | x :: l, k, cells => by
    simp only [List.zipIdx_cons, List.foldl_cons]
    obtain ⟨h1, h2⟩ := foldl_set off l (k + 1) (cells.setIfInBounds (off + k) x)
    refine ⟨by rw [h1]; simp, fun j => ?_⟩
    rw [h2 j]
    simp only [Array.size_setIfInBounds, List.length_cons]
    by_cases e : j = off + k
    · subst e
      rw [if_neg (by omega)]
      by_cases hlt : off + k < cells.size
      · rw [if_pos (by omega)]; simp [Array.getD_eq_getD_getElem?, hlt]
      · rw [if_neg (by omega)]; simp [Array.getD_eq_getD_getElem?, hlt]
    · by_cases hc : off + (k + 1) ≤ j ∧ j < off + (k + 1) + l.length ∧ j < cells.size
      · rw [if_pos hc, if_pos (by omega)]
        rw [show j - off - k = (j - off - (k + 1)) + 1 by omega]
        rfl
      · rw [if_neg hc, if_neg (by omega)]
        simp [Array.getD_eq_getD_getElem?, Array.getElem?_setIfInBounds_ne (Ne.symm e)]

theorem CellsRel.set {w : World} {φ : Map} {Pr : Pro} {xs vs : Array Value} {cs us : List A} (h : CellsRel w φ Pr xs cs) (hv : CellsRel w φ Pr vs us) (off : Nat) (hle : off + us.length ≤ cs.length) :
    CellsRel w φ Pr (vs.zipIdx.foldl (fun cs p => cs.setIfInBounds (off + p.2) p.1) xs) (cs.take off ++ us ++ cs.drop (off + us.length)) := by
  have e : vs.zipIdx.foldl (fun cs p => cs.setIfInBounds (off + p.2) p.1) xs = (vs.toList.zipIdx 0).foldl (fun cs p => cs.setIfInBounds (off + p.2) p.1) xs := by
    rw [← Array.foldl_toList]; simp
  rw [e]
  obtain ⟨h1, h2⟩ := foldl_set off vs.toList 0 xs
  refine ⟨by rw [h1, h.1]; simp; omega, fun j c hj => ?_⟩
  rw [h2 j]
  have hlen : vs.toList.length = us.length := by simp [hv.1]
  rw [hlen]
  by_cases hlt : j < off
  · rw [if_neg (by omega)]
    rw [List.append_assoc, List.getElem?_append_left (by simp; omega), List.getElem?_take, if_pos hlt] at hj
    exact h.2 j c hj
  · by_cases hmid : j < off + us.length
    · rw [if_pos (by have := h.1; omega)]
      rw [List.append_assoc, List.getElem?_append_right (by simp; omega), List.getElem?_append_left (by simp; omega)] at hj
      have ej : j - (cs.take off).length = j - off - 0 := by simp; omega
      rw [ej] at hj
      have := hv.2 _ c hj
      have eg : vs.toList.getD (j - off - 0) undef = vs.getD (j - off - 0) undef := by simp [List.getD, Array.getD_eq_getD_getElem?]
      rw [eg]; exact this
    · rw [if_neg (by omega)]
      rw [List.getElem?_append_right (by simp; omega), List.getElem?_drop] at hj
      have ej : off + us.length + (j - (cs.take off ++ us).length) = j := by simp; omega
      rw [ej] at hj
      exact h.2 j c hj

/-! ### Building -/
def plcT (P : Program) (t : TypeId) : Option (List (Nat × Nat)) := match P.underlying t with
  | some (.struct fields) => fields.toList.mapM (fun f => (P.info? f.type).map fun i => (f.offset, i.size))
  | _ => none
def zeroT (P : Program) (t : TypeId) : Option (List A) := match (P.info? t).bind (·.zero) with
  | some z => if z.cells.toList.all oneV then some (z.cells.toList.map constA) else none
  | none => none

theorem zeroT_rep {P : Program} {t : TypeId} {cs : List A} (w : World) (φ : Map) (Pr : Pro) (h : zeroT P t = some cs) : ∃ z, (P.info? t).bind (·.zero) = some z ∧ CellsRel w φ Pr z.cells cs := by
  unfold zeroT at h
  split at h
  · rename_i z hz
    split at h
    · rename_i h1
      simp at h; subst h
      refine ⟨z, hz, by simp, fun j c hj => ?_⟩
      rw [List.getElem?_map] at hj
      cases hq : z.cells.toList[j]? with
      | none => simp [hq] at hj
      | some v =>
        simp [hq] at hj; subst hj
        have eg : z.cells.getD j undef = v := by
          have : z.cells[j]? = some v := by rw [← Array.getElem?_toList]; exact hq
          simp [Array.getD_eq_getD_getElem?, this]
        rw [eg]
        exact ⟨by rw [List.all_eq_true] at h1; exact h1 v (List.mem_of_getElem? hq), constA_rep v⟩
    · simp at h
  · simp at h

def fillA (pl : List (Nat × Nat)) (cells : List A) : List (Nat × A) → Option (List A)
  | [] => some cells
  | (i, a) :: r => match pl[i]?, cellsA a with
    | some (off, sz), some cs => if cs.length = sz ∧ off + sz ≤ cells.length then fillA pl (cells.take off ++ cs ++ cells.drop (off + cs.length)) r else none
    | _, _ => none

theorem fill_rep {w : World} {φ : Map} {Pr : Pro} {pl : List (Nat × Nat)} {place : Nat → Option (Nat × Nat)} (hp : ∀ i x, pl[i]? = some x → place i = some x) :
    ∀ (parts : List (Nat × A)) (vparts : List (Nat × Value)) (xs : Array Value) (cells out : List A), vparts.length = parts.length →
      (∀ (j : Nat) (i : Nat) (a : A), parts[j]? = some (i, a) → ∃ v, vparts[j]? = some (i, v) ∧ ARep w φ Pr v a) → CellsRel w φ Pr xs cells → fillA pl cells parts = some out →
      ∃ ys, Instr.fill place xs vparts = some ys ∧ CellsRel w φ Pr ys out
  | [], vparts, xs, cells, out, hl, _, hr, h => by
    simp [fillA] at h; subst h
    have : vparts = [] := List.eq_nil_of_length_eq_zero (by simpa using hl)
    subst this
    exact ⟨xs, rfl, hr⟩
  | (i, a) :: r, vparts, xs, cells, out, hl, hv, hr, h => by
    cases vparts with
    | nil => simp at hl
    | cons q vr =>
      obtain ⟨v, hq, hav⟩ := hv 0 i a rfl
      simp at hq; subst hq
      unfold fillA at h
      split at h
      · rename_i off sz cs hpl hca
        split at h
        · rename_i hle
          have hcr := cellsA_rep hav hca
          have hs : v.cells.size = sz := by rw [hcr.1]; exact hle.1
          unfold Instr.fill
          rw [hp i _ hpl]
          simp only []
          rw [if_neg (by have := hr.1; have := hcr.1; simp; omega)]
          exact fill_rep hp r vr _ _ out (by simpa using hl) (fun j i a hj => hv (j + 1) i a hj) (hr.set hcr off (by omega)) h
        · simp at h
      · simp at h

def buildA (P : Program) (t : TypeId) (parts : List (Nat × A)) : Option A := match plcT P t, zeroT P t with
  | some pl, some z => (fillA pl z parts).map .ag
  | _, _ => none

theorem run_buildA {P : Program} {w : World} {φ : Map} {Pr : Pro} {t : TypeId} {parts : List (Nat × A)} {vparts : Array (Nat × Value)} {a : A} (hl : vparts.size = parts.length)
    (hv : ∀ (j : Nat) (i : Nat) (a : A), parts[j]? = some (i, a) → ∃ v, vparts[j]? = some (i, v) ∧ ARep w φ Pr v a) (h : buildA P t parts = some a) :
    ∃ v, (Instr.build t vparts).run P w = .ok v w ∧ ARep w φ Pr v a := by
  unfold buildA at h
  split at h
  · rename_i pl z hpl hz
    cases hf : fillA pl z parts with
    | none => simp [hf] at h
    | some out =>
      simp [hf] at h; subst h
      obtain ⟨zv, hz1, hz2⟩ := zeroT_rep w φ Pr hz
      unfold plcT at hpl
      split at hpl
      · rename_i fields hu
        cases hi : P.info? t with
        | none => simp [hi] at hz1
        | some it =>
          simp [hi] at hz1
          obtain ⟨ys, h1, h2⟩ := fill_rep (place := fun i => (pl.toArray)[i]?) (pl := pl) (by simp) parts vparts.toList zv.cells z out (by simpa using hl) (by simpa using hv) hz2 hf
          refine ⟨_, run_build w t vparts ys ?_, h2.ag⟩
          unfold Program.built
          simp only [hi, hu, hz1, hpl]
          exact h1
      · simp at hpl
  · simp at h

/-! ### A part of a struct's value -/
def partV (P : Program) (t : TypeId) (f : Nat) (a : A) : Option A := match a, fldT P t f with
  | .ag cs, some (o, ft) => partA P ft (cs.drop o)
  | _, _ => none

theorem run_partV {P : Program} {w : World} {φ : Map} {Pr : Pro} {t : TypeId} {f : Nat} {x : Value} {ax a : A} (hx : ARep w φ Pr x ax) (h : partV P t f ax = some a) :
    ∃ v, (Instr.field t x f).run P w = .ok v w ∧ ARep w φ Pr v a := by
  unfold partV at h
  split at h
  · rename_i cs o ft hf
    obtain ⟨xs, rfl, hr⟩ := CellsRel.of_ag hx
    unfold fldT at hf
    split at hf
    · rename_i fs hu
      cases hg : fs[f]? with
      | none => simp [hg] at hf
      | some fl =>
        simp [hg] at hf
        obtain ⟨rfl, rfl⟩ := hf
        unfold partA at h
        split at h
        · rename_i n ha hs
          split at h
          · rename_i hn
            simp at h; subst h
            refine ⟨.agg (xs.extract fl.offset (fl.offset + n)), by simp [Instr.field, run_underlying hu, hg, asAgg, part, run_isAgg ha, run_sizeOf' hs], CellsRel.ag ⟨?_, ?_⟩⟩
            · simp at hn ⊢; have := hr.1; omega
            · intro j c hj
              rw [List.getElem?_take] at hj
              split at hj
              · rename_i hjn
                rw [List.getElem?_drop] at hj
                have := hr.2 _ c hj
                have hlt : fl.offset + j < xs.size := by rw [hr.1]; exact (List.getElem?_eq_some_iff.1 hj).1
                have e : (xs.extract fl.offset (fl.offset + n)).getD j undef = xs.getD (fl.offset + j) undef := by
                  simp only [Array.getD_eq_getD_getElem?, Array.getElem?_extract]
                  rw [if_pos (by omega)]
                rw [e]; exact this
              · simp at hj
          · simp at h
        · rename_i n ha hs
          have hq : cs[fl.offset]? = some a := by
            rw [List.head?_eq_getElem?, List.getElem?_drop] at h; simpa using h
          obtain ⟨_, h2⟩ := hr.2 _ a hq
          have hlt : fl.offset < xs.size := by rw [hr.1]; exact (List.getElem?_eq_some_iff.1 hq).1
          refine ⟨_, ?_, h2⟩
          simp [Instr.field, run_underlying hu, hg, asAgg, part, run_isAgg ha, Array.getD_eq_getD_getElem?, hlt]
        · simp at h
    · simp at hf
  · simp at h

end Go.Proofs.YtamefliipjhpoaaGreat.Ab
