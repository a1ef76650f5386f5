/- append; slices of given elements. -/
import Derived.Test.YtamefliipjhpoaaGreatAbsEff
set_option autoImplicit false
namespace Go.Proofs.YtamefliipjhpoaaGreat.Ab
open Go

/-! ### The cells of rows, one behind the other -/
theorem RowsAt.flat {w : World} {φ : Map} {Pr : Pro} {x : Value} {k : Nat} {rows : List (List D)} (h : RowsAt w φ Pr x k rows) (hk : rows = [] ∨ 0 < k) :
    ∃ news : List Value, news.length = rows.length * k ∧ (∀ u ∈ news, oneV u = true) ∧
      (∀ (i : Nat) (row : List D) (j : Nat) (c : D), rows[i]? = some row → row[j]? = some c → DRep w Pr (news.getD (i * k + j) undef) c) ∧
      ∃ ad cap, x = .slice ad rows.length cap ∧ rows.length ≤ cap ∧ (rows ≠ [] → ∃ a, ad = some a ∧ ∀ (q : Nat) (u : Value), news[q]? = some u → w.cell? (a.add q) = some u) := by
  obtain ⟨ad, cap, rfl, hcap, hc⟩ := h
  by_cases h0 : rows = []
  · subst h0
    exact ⟨[], by simp, by simp, by simp, ad, cap, rfl, hcap, by simp⟩
  · have hk := hk.resolve_left h0
    obtain ⟨b, off, rfl, hrow⟩ := hc h0
    have hf : ∀ q, ∃ u, q < rows.length * k → w.cell? ⟨b, off + q, none⟩ = some u ∧ oneV u = true ∧ ∀ (row : List D) (c : D), rows[q / k]? = some row → row[q % k]? = some c → DRep w Pr u c := by
      intro q
      by_cases hq : q < rows.length * k
      · have hi : q / k < rows.length := Nat.div_lt_of_lt_mul (by rw [Nat.mul_comm]; exact hq)
        have hr : rows[q / k]? = some rows[q / k] := List.getElem?_eq_getElem hi
        obtain ⟨hl, hcells⟩ := hrow _ _ hr
        have hj : q % k < (rows[q / k]).length := by rw [hl]; exact Nat.mod_lt _ hk
        have hcj : ((rows[q / k]).map A.d)[q % k]? = some (.d (rows[q / k])[q % k]) := by rw [List.getElem?_map, List.getElem?_eq_getElem hj]; rfl
        obtain ⟨u, h1, h2, h3⟩ := hcells _ _ hcj
        refine ⟨u, fun _ => ⟨?_, h2, fun row c hrw hcc => ?_⟩⟩
        · have e : off + q = off + q / k * k + q % k := by rw [Nat.add_assoc, Nat.div_add_mod']
          rw [e]; exact h1
        · rw [hr] at hrw; simp at hrw; subst hrw
          rw [List.getElem?_eq_getElem hj] at hcc; simp at hcc; subst hcc
          cases h3 with | d hd => exact hd
      · exact ⟨undef, fun h => absurd h hq⟩
    obtain ⟨f, hf⟩ := Classical.axiomOfChoice hf
    refine ⟨(List.range (rows.length * k)).map f, by simp, fun u hu => ?_, fun i row j c hi hj => ?_, _, cap, rfl, hcap, fun _ => ⟨⟨b, off, none⟩, rfl, fun q u hq => ?_⟩⟩
    · obtain ⟨q, hq, rfl⟩ := List.mem_map.1 hu
      exact (hf q (by simpa using hq)).2.1
    · have hil := (List.getElem?_eq_some_iff.1 hi).1
      have hjl := (List.getElem?_eq_some_iff.1 hj).1
      have hl := (hrow i row hi).1
      have hq : i * k + j < rows.length * k := by
        have : (i + 1) * k ≤ rows.length * k := Nat.mul_le_mul_right k hil
        rw [Nat.add_mul, Nat.one_mul] at this
        omega
      have e1 : (i * k + j) / k = i := by
        rw [Nat.mul_comm, Nat.mul_add_div hk, Nat.div_eq_of_lt (by omega)]; omega
      have e2 : (i * k + j) % k = j := by
        rw [Nat.mul_comm, Nat.mul_add_mod, Nat.mod_eq_of_lt (by omega)]
      have := (hf _ hq).2.2 row c (by rw [e1]; exact hi) (by rw [e2]; exact hj)
      simpa [List.getD, hq] using this
    · rw [List.getElem?_map] at hq
      by_cases hlt : q < rows.length * k
      · simp [hlt] at hq; subst hq
        rw [Addr.add_lit]; exact (hf q hlt).1
      · simp [List.getElem?_eq_none (show (List.range (rows.length * k)).length ≤ q by simp; omega)] at hq

theorem Src.mk' {P : Program} {w : World} {t e : TypeId} {k : Nat} {x : Value} {rows : List (List D)} {news : List Value} (hu : P.underlying t = some (.slice e)) (hl : news.length = rows.length * k) (h1 : ∀ u ∈ news, oneV u = true)
    {ad : Option Addr} {cap : Nat} (hx : x = .slice ad rows.length cap) (hc : rows ≠ [] → ∃ a, ad = some a ∧ ∀ (q : Nat) (u : Value), news[q]? = some u → w.cell? (a.add q) = some u) : Src P k t x rows.length news w := by
  subst hx
  by_cases h0 : rows = []
  · subst h0
    have : news = [] := List.eq_nil_of_length_eq_zero (by simpa using hl)
    subst this
    cases ad with
    | none => exact Src.ofNil w hu cap
    | some a => exact Src.ofSlice w hu a 0 cap [] (by simp) (by simp) (by simp)
  · obtain ⟨a, rfl, hcell⟩ := hc h0
    exact Src.ofSlice w hu a rows.length cap news hl hcell (fun u hu => oneV_cell (h1 u hu))

/-! ### append -/
/-- What the table says of an element type: its cells, its bytes. -/
def elemT (P : Program) (e : TypeId) : Option (Nat × Nat) := match P.info? e with
  | some i => match i.zero with
    | some z => if z.cells.size = i.size ∧ 0 < i.size then some (i.size, i.bytes) else none
    | none => none
  | none => none

def appendA (P : Program) (s : St) (d : Tmp) (t tx : TypeId) (a x : A) : Option Dl := match elT P t, elT P tx, nmFor s.u (d :: s.p) with
  | some e, some _, some m => match elemT P e, rowsA s x with
    | some (sz, by_), some (kx, xs) => match a with
      | .os n k 0 len => match s.o n with
        | .arr k' rows => if k = sz ∧ k' = sz ∧ len ≤ rows.length ∧ (kx = sz ∨ xs = []) ∧ (len + xs.length) * by_ ≤ 140737488355328 ∧ len + xs.length ≤ 4611686018427387904 then
            some ⟨some (d, .os m sz 0 (len + xs.length)), [(n, .dead), (m, .arr sz (rows.take len ++ xs))], some m⟩ else none
        | _ => none
      | .sx _ k rows => if (k = sz ∨ rows = []) ∧ (kx = sz ∨ xs = []) ∧ xs ≠ [] ∧ (rows.length + xs.length) * by_ ≤ 140737488355328 ∧ rows.length + xs.length ≤ 4611686018427387904 then
          some ⟨some (d, .os m sz 0 (rows.length + xs.length)), [(m, .arr sz (rows ++ xs))], some m⟩ else none
      | .ox n k lo len => match rowsA s (.ox n k lo len) with
        | some (_, rows) => if (k = sz ∨ rows = []) ∧ (kx = sz ∨ xs = []) ∧ xs ≠ [] ∧ (rows.length + xs.length) * by_ ≤ 140737488355328 ∧ rows.length + xs.length ≤ 4611686018427387904 then
            some ⟨some (d, .os m sz 0 (rows.length + xs.length)), [(m, .arr sz (rows ++ xs))], some m⟩ else none
        | none => none
      | _ => none
    | _, _ => none
  | _, _, _ => none

theorem elT_some {P : Program} {t e : TypeId} (h : elT P t = some e) : P.underlying t = some (.slice e) := by
  unfold elT at h
  split at h
  · simp at h; subst h; assumption
  · simp at h

theorem getD_append3 (olds news : List Value) (z : Array Value) (q : Nat) : ((olds ++ news).toArray ++ z).getD q undef = if q < olds.length then olds.getD q undef else if q < olds.length + news.length then news.getD (q - olds.length) undef else z.getD (q - (olds.length + news.length)) undef := by
  simp only [Array.getD_eq_getD_getElem?, List.getD, Array.getElem?_append, List.size_toArray, List.length_append, List.getElem?_toArray]
  by_cases h1 : q < olds.length
  · rw [if_pos (by omega), if_pos h1, List.getElem?_append_left h1]
  · rw [if_neg h1]
    by_cases h2 : q < olds.length + news.length
    · rw [if_pos h2, if_pos h2, List.getElem?_append_right (by omega)]
    · rw [if_neg h2, if_neg h2]

/-- Rows that lie one behind the other in a new array. -/
theorem rows_grown {w : World} {Pr : Pro} {sz : Nat} {rows xs : List (List D)} {olds news : List Value} {z : Array Value} (hr : ∀ (i : Nat) (row : List D), rows[i]? = some row → row.length = sz) (hx : ∀ (i : Nat) (row : List D), xs[i]? = some row → row.length = sz)
    (hol : olds.length = rows.length * sz) (hnl : news.length = xs.length * sz)
    (ho : ∀ (i : Nat) (row : List D) (j : Nat) (c : D), rows[i]? = some row → row[j]? = some c → DRep w Pr (olds.getD (i * sz + j) undef) c)
    (hn : ∀ (i : Nat) (row : List D) (j : Nat) (c : D), xs[i]? = some row → row[j]? = some c → DRep w Pr (news.getD (i * sz + j) undef) c) (i : Nat) (row : List D) (j : Nat) (c : D)
    (hi : (rows ++ xs)[i]? = some row) (hj : row[j]? = some c) : DRep w Pr (((olds ++ news).toArray ++ z).getD (i * sz + j) undef) c := by
  rw [getD_append3]
  have hjl := (List.getElem?_eq_some_iff.1 hj).1
  by_cases h1 : i < rows.length
  · rw [List.getElem?_append_left h1] at hi
    have hl := hr i row hi
    have : (i + 1) * sz ≤ rows.length * sz := Nat.mul_le_mul_right sz h1
    rw [Nat.add_mul, Nat.one_mul] at this
    rw [if_pos (by omega)]
    exact ho i row j c hi hj
  · rw [List.getElem?_append_right (by omega)] at hi
    have hl := hx _ row hi
    have hil := (List.getElem?_eq_some_iff.1 hi).1
    have e : i * sz = rows.length * sz + (i - rows.length) * sz := by rw [← Nat.add_mul]; congr 1; omega
    have : (i - rows.length + 1) * sz ≤ xs.length * sz := Nat.mul_le_mul_right sz hil
    rw [Nat.add_mul, Nat.one_mul] at this
    rw [if_neg (by omega), if_pos (by omega)]
    have e2 : i * sz + j - olds.length = (i - rows.length) * sz + j := by omega
    rw [e2]
    exact hn _ row j c hi hj

theorem RowsAt.len {w : World} {φ : Map} {Pr : Pro} {x : Value} {k : Nat} {rows : List (List D)} (h : RowsAt w φ Pr x k rows) : ∀ (i : Nat) (row : List D), rows[i]? = some row → row.length = k := by
  intro i row hi
  obtain ⟨_, _, _, _, hc⟩ := h
  obtain ⟨b, off, _, hr⟩ := hc (by rintro rfl; simp at hi)
  exact (hr i row hi).1

theorem run_append_room_row {P : Program} (w : World) (t tx ty e : TypeId) (i : TypeInfo) (ht : P.underlying t = some (.slice e)) (hi : P.info? e = some i) (g off sLen sCap : Nat) (x : Value) (n : Nat) (news : List Value) (hs : Src P i.size tx x n news w)
    (hroom : sLen + n ≤ sCap) (cur : Array Value) (te : TypeId) (hg : w.heap[g]? = some (.cells cur te (0, 0))) (hfit : off + sLen * i.size + news.length ≤ cur.size) :
    (Builtin.append_ #[t, tx] ty #[.slice (some ⟨g, off, none⟩) sLen sCap, x]).run P w =
      .ok (.slice (some ⟨g, off, none⟩) (sLen + n) sCap) (w.setRow g (cur.toList.take (off + sLen * i.size) ++ news ++ cur.toList.drop (off + sLen * i.size + news.length)).toArray) := by
  have hst := run_storeCells_at P g (off + sLen * i.size) te news 0 cur w hg (by simpa using hfit) hs.one
  simp only [Nat.add_zero] at hst
  rcases hs.kind with ⟨e', hk⟩ | hk <;> simp [Builtin.append_, run_underlying ht, run_underlying hk, sizeOf, typeInfo, hi, hs.len, hroom, hs.cells, Addr.add_lit, hst]

theorem run_firstCells_rows {P : Program} {w : World} {k n cap : Nat} {ad : Option Addr} {olds : List Value} (hl : olds.length = n * k) (hc : n ≠ 0 → ∃ a, ad = some a ∧ ∀ (q : Nat) (u : Value), olds[q]? = some u → w.cell? (a.add q) = some u) :
    (Builtin.firstCells k n (.slice ad n cap)).run P w.drew = .ok olds.toArray w.drew := by
  by_cases h0 : n = 0
  · subst h0
    have : olds = [] := List.eq_nil_of_length_eq_zero (by simpa using hl)
    subst this
    cases ad with
    | none => exact run_firstCells_none w.drew k 0 0 cap
    | some a => exact run_firstCells_some w.drew k 0 a 0 cap [] (by simp) (by simp)
  · obtain ⟨a, rfl, hcell⟩ := hc h0
    exact run_firstCells_some w.drew k n a n cap olds hl (by simpa using hcell)

/-- append that makes a new array. -/
theorem append_grown {P : Program} {N : Fr} {s : St} {φ : Map} {Pr : Pro} {ac : Act} {w : World} (hI : Inv N s φ Pr ac w) {d : Tmp} (hd : d < N.n) {m : Nm} (hm : s.u m = false) {t tx ty e ex : TypeId} (hu : P.underlying t = some (.slice e)) (hux : P.underlying tx = some (.slice ex))
    {sz by_ : Nat} (he : elemT P e = some (sz, by_)) {va vx : Value} {k kx : Nat} {rows xs : List (List D)} {ad : Option Addr} {cap : Nat} (ha : RowsAt w φ Pr va k rows) (hva : va = .slice ad rows.length cap) (hk : k = sz ∨ rows = []) (hx : RowsAt w φ Pr vx kx xs) (hkx : kx = sz ∨ xs = [])
    (hcap : cap < rows.length + xs.length) (hb : (rows.length + xs.length) * by_ ≤ 140737488355328) (h63 : rows.length + xs.length ≤ 4611686018427387904) {o' : Nm → Ob} (ho : ∀ y, y ≠ m → o' y = s.o y ∨ o' y = .dead) (hom : o' m = .arr sz (rows ++ xs)) :
    ∃ v w' φ', (Builtin.append_ #[t, tx] ty #[va, vx]).run P w = .ok v w' ∧ Inv N ⟨upd s.t d (.os m sz 0 (rows.length + xs.length)), o', upd s.u m true, s.p⟩ φ' Pr (ac.put (some d) v) w' ∧ Adv w φ Pr s.o w' φ' Pr o' := by
  unfold elemT at he
  split at he
  case h_2 => simp at he
  rename_i i hi
  split at he
  case h_2 => simp at he
  rename_i z hz
  split at he
  case isFalse => simp at he
  rename_i hzs
  simp only [Option.some.injEq, Prod.mk.injEq] at he
  obtain ⟨rfl, rfl⟩ := he
  have norm : ∀ {k : Nat} {rows : List (List D)} {v : Value}, RowsAt w φ Pr v k rows → (k = i.size ∨ rows = []) → RowsAt w φ Pr v i.size rows := by
    intro k rows v h hk
    rcases hk with rfl | rfl
    · exact h
    · obtain ⟨ad, cap, e, hc, _⟩ := h; exact ⟨ad, cap, e, hc, by simp⟩
  have ha' := norm ha hk
  have hx' := norm hx hkx
  obtain ⟨olds, hol, _, hod, ad1, cap1, e1, hcap1, hoc⟩ := ha'.flat (.inr hzs.2)
  obtain ⟨news, hnl, hn1, hnd, ad2, cap2, e2, hcap2, hnc⟩ := hx'.flat (.inr hzs.2)
  rw [hva] at e1; simp at e1; obtain ⟨rfl, rfl⟩ := e1
  have hsrc : Src P i.size tx vx xs.length news w := Src.mk' hux hnl hn1 e2 hnc
  have hfit : Builtin.nextslicecap (rows.length + xs.length) cap * i.bytes ≤ 281474976710656 := growslice_fits hcap hb
  have hold := run_firstCells_rows (P := P) (cap := cap) hol (fun h0 => hoc (by rintro rfl; simp at h0))
  have hrun := run_append_grow_src (P := P) w t tx ty e i z hu hi hz ad rows.length cap olds hold vx xs.length news hsrc hcap (by omega) hfit
  rw [hva]
  refine ⟨_, _, upd φ m (some ⟨some ⟨w.heap.size, 0, none⟩, grownCap w (rows.length + xs.length) cap e⟩), hrun, ?_⟩
  have hge := grownCap_ge w (rows.length + xs.length) cap e
  refine hI.born (w1 := w.drew) rfl rfl rfl rfl hm _ ⟨some ⟨w.heap.size, 0, none⟩, grownCap w (rows.length + xs.length) cap e⟩ (.arr i.size (rows ++ xs)) ho hom (fun hL => ?_) (fun b hb' => ?_) hd ?_
  · refine ⟨_, upd_same _ _ _, by simpa using hge, fun j row hj => ?_, fun _ => ⟨w.heap.size, 0, _, e, rfl, heap_alloc_get _ _, ?_, fun p row j c hp hj => ?_, fun r x hp => absurd (hI.heap.cell r _ x hp) (by omega)⟩⟩
    · by_cases h1 : j < rows.length
      · rw [List.getElem?_append_left h1] at hj; exact ha'.len j row hj
      · rw [List.getElem?_append_right (by omega)] at hj; exact hx'.len _ row hj
    · simp only [Array.size_append, List.size_toArray, List.length_append, size_zeroCells, hzs.1, hol, hnl, Nat.zero_add, ← Nat.add_mul]
      exact Nat.mul_le_mul_right _ (by omega)
    · rw [Nat.zero_add]
      exact (rows_grown (ha'.len) (hx'.len) hol hnl hod hnd p row j c hp hj).later hL
  · simp only [blockOf, upd_same, Option.bind_some] at hb'
    split at hb'
    · simp at hb'
    · simp at hb'; exact hb'.symm
  · have := ARep.os (w := w.drew.alloc (.cells ((olds ++ news).toArray ++ Builtin.zeroCells z.cells (grownCap w (rows.length + xs.length) cap e - (rows.length + xs.length))) e)) (Pr := Pr) (n := m) (k := i.size) (lo := 0) (len := rows.length + xs.length)
      (φ := upd φ m (some ⟨some ⟨w.heap.size, 0, none⟩, grownCap w (rows.length + xs.length) cap e⟩)) (l := ⟨some ⟨w.heap.size, 0, none⟩, grownCap w (rows.length + xs.length) cap e⟩) (a := some ⟨w.heap.size, 0, none⟩) (upd_same _ _ _) (by simpa using hge) (fun _ => ⟨w.heap.size, 0, rfl, by simp⟩)
    exact this

end Go.Proofs.YtamefliipjhpoaaGreat.Ab
