/- Slices of given elements; bytes of a string. -/
import Derived.Test.YtamefliipjhpoaaGreatAbsApp2
set_option autoImplicit false
namespace Go.Proofs.YtamefliipjhpoaaGreat.Ab
open Go

theorem flatten_replicate_get {α : Type} (l : List α) : ∀ (n j : Nat), (List.replicate n l).flatten[j]? = if j < n * l.length then l[j % l.length]? else none
  | 0, j => by simp
  | n + 1, j => by
    rw [List.replicate_succ, List.flatten_cons]
    by_cases h : j < l.length
    · rw [List.getElem?_append_left h, if_pos (by rw [Nat.add_mul, Nat.one_mul]; omega), Nat.mod_eq_of_lt h]
    · rw [List.getElem?_append_right (by omega), flatten_replicate_get l n]
      rw [Nat.add_mul, Nat.one_mul]
      by_cases h2 : j < n * l.length + l.length
      · rw [if_pos (by omega), if_pos h2]
        congr 1
        rw [← Nat.mod_eq_sub_mod (by omega)]
      · rw [if_neg (by omega), if_neg h2]

theorem zeros_rel {w : World} {φ : Map} {Pr : Pro} {z : Array Value} {zl : List A} (h : CellsRel w φ Pr z zl) (len : Nat) : CellsRel w φ Pr ((Array.range (len * z.size)).map (z[· % z.size]!)) ((List.replicate len zl).flatten) := by
  refine ⟨by simp [h.1], fun j c hj => ?_⟩
  rw [flatten_replicate_get, ← h.1] at hj
  split at hj
  · rename_i hlt
    have hz : 0 < z.size := by
      rcases Nat.eq_zero_or_pos z.size with h0 | h0
      · rw [h0] at hlt; simp at hlt
      · exact h0
    have hm : j % z.size < z.size := Nat.mod_lt _ hz
    have := h.2 _ c hj
    have e : ((Array.range (len * z.size)).map (z[· % z.size]!)).getD j undef = z.getD (j % z.size) undef := by
      simp [Array.getD_eq_getD_getElem?, hlt, hm]
    rw [e]; exact this
  · simp at hj

def chunkA {α : Type} (k : Nat) : Nat → List α → List (List α)
  | 0, _ => []
  | n + 1, l => l.take k :: chunkA k n (l.drop k)

theorem chunkA_get {α : Type} {k : Nat} : ∀ {n : Nat} {l : List α} {i : Nat} {row : List α}, (chunkA k n l)[i]? = some row → row = (l.drop (i * k)).take k
  | 0, _, _, _, h => by simp [chunkA] at h
  | n + 1, l, i, row, h => by
    cases i with
    | zero => simp [chunkA] at h; simp [h]
    | succ i =>
      simp only [chunkA, List.getElem?_cons_succ] at h
      have := chunkA_get h
      rw [List.drop_drop] at this
      rw [this]; congr 2; rw [Nat.add_mul, Nat.one_mul]; omega
theorem chunkA_len {α : Type} {k : Nat} : ∀ {n : Nat} {l : List α}, (chunkA k n l).length = n
  | 0, _ => rfl
  | n + 1, l => by simp [chunkA, chunkA_len]

def toRows (s : St) : List (List A) → Option (List (List D))
  | [] => some []
  | a :: r => match toDs s a, toRows s r with
    | some x, some xs => some (x :: xs)
    | _, _ => none

theorem toRows_get {s : St} : ∀ {as : List (List A)} {ds : List (List D)}, toRows s as = some ds → as.length = ds.length ∧ ∀ (j : Nat) (c : List D), ds[j]? = some c → ∃ a, as[j]? = some a ∧ toDs s a = some c
  | [], ds, h => by simp [toRows] at h; subst h; exact ⟨rfl, by simp⟩
  | a :: r, ds, h => by
    unfold toRows at h
    split at h
    · rename_i x xs h1 h2
      simp at h; subst h
      obtain ⟨hl, hg⟩ := toRows_get h2
      refine ⟨by simp [hl], fun j c hj => ?_⟩
      cases j with
      | zero => simp at hj; subst hj; exact ⟨a, rfl, h1⟩
      | succ j => simp at hj; exact hg j c hj
    · simp at h

def plsT (sz len : Nat) : List (Nat × Nat) := (List.range len).map fun i => (i * sz, sz)

def litA (P : Program) (s : St) (d : Tmp) (t : TypeId) (len : Nat) (parts : List (Nat × A)) : Option Dl := match elT P t, nmFor s.u (d :: s.p) with
  | some e, some m => match elemT P e, zeroT P e with
    | some (sz, _), some z => match fillA (plsT sz len) ((List.replicate len z).flatten) parts with
      | some out => match toRows s (chunkA sz len out) with
        | some rows => if len * sz ≤ 16777216 ∧ len * sz ≤ out.length ∧ len ≠ 0 then some ⟨some (d, .os m sz 0 len), [(m, .arr sz rows)], some m⟩ else none
        | none => none
      | none => none
    | _, _ => none
  | _, _ => none

theorem litA_rep {P : Program} {N : Fr} {s : St} {δ : Dl} {φ : Map} {Pr : Pro} {ac : Act} {w : World} (hI : Inv N s φ Pr ac w) {d : Tmp} (hd : d < N.n) {t : TypeId} {len : Nat} {parts : List (Nat × A)} {vparts : Array (Nat × Value)} (hl : vparts.size = parts.length)
    (hv : ∀ (j : Nat) (i : Nat) (a : A), parts[j]? = some (i, a) → ∃ v, vparts[j]? = some (i, v) ∧ ARep w φ Pr v a) (h : litA P s d t len parts = some δ) :
    ∃ v w' φ', (Instr.buildSlice t len vparts).run P w = .ok v w' ∧ Inv N (s.app δ) φ' Pr (ac.put (some d) v) w' ∧ Adv w φ Pr s.o w' φ' Pr (s.app δ).o := by
  unfold litA at h
  split at h
  case h_2 => simp at h
  rename_i e m hte hm
  have hu := elT_some hte
  have hnew := nmFor_new hm
  split at h
  case h_2 => simp at h
  rename_i sz by_ z he hz
  split at h
  case h_2 => simp at h
  rename_i out hf
  split at h
  case h_2 => simp at h
  rename_i rows hr
  split at h
  case isFalse => simp at h
  rename_i hc
  simp only [Option.some.injEq] at h; subst h
  obtain ⟨i, zv, hi, hzi, hzs, h0, rfl, _⟩ := elemT_some he
  obtain ⟨zv', hz1, hz2⟩ := zeroT_rep w φ Pr hz
  have : zv' = zv := by
    have : (P.info? e).bind (·.zero) = some zv := by rw [hi]; exact hzi
    rw [this] at hz1; simp at hz1; exact hz1.symm
  subst this
  have hzr := zeros_rel hz2 len
  rw [hzs] at hzr
  have hpl : ∀ (j : Nat) (x : Nat × Nat), (plsT i.size len)[j]? = some x → some (j * i.size, i.size) = some x := by
    intro j x hj
    unfold plsT at hj
    rw [List.getElem?_map] at hj
    by_cases hlt : j < len
    · simp [hlt] at hj; rw [hj]
    · rw [List.getElem?_eq_none (by simp; omega)] at hj; simp at hj
  obtain ⟨ys, hy1, hy2⟩ := fill_rep (place := fun j => some (j * i.size, i.size)) hpl parts vparts.toList _ _ out (by simpa using hl) (by simpa using hv) hzr hf
  have hne : ¬ (len * i.size = 0) := by
    intro e0
    rcases Nat.mul_eq_zero.1 e0 with h1 | h1
    · exact hc.2.2 h1
    · omega
  have hrun : (Instr.buildSlice t len vparts).run P w = .ok (.slice (some ⟨w.heap.size, 0, none⟩) len len) (w.alloc (.cells ys e)) := by
    have hfill : Instr.fill (fun j => some (j * i.size, i.size)) (Array.map (fun x => zv'.cells[x % zv'.cells.size]!) (Array.range (len * i.size))) vparts.toList = some ys := by
      rw [hzs]; exact hy1
    have hle : ¬ (16777216 < len * i.size) := by omega
    simp [Instr.buildSlice, run_underlying hu, sizeOf, zeroValue, typeInfo, hi, hzi, hle, hne, hfill, newRow]
  refine ⟨_, _, upd φ m (some ⟨some ⟨w.heap.size, 0, none⟩, len⟩), hrun, ?_⟩
  obtain ⟨hrl, hrg⟩ := toRows_get hr
  rw [chunkA_len] at hrl
  have hys : ys.size = out.length := hy2.1
  refine hI.born rfl rfl rfl rfl hnew _ ⟨some ⟨w.heap.size, 0, none⟩, len⟩ (.arr i.size rows) (fun x hx => .inl (upd_ne _ _ hx)) (upd_same _ _ _) (fun hL => ?_) (fun b hb => ?_) hd ?_
  · refine ⟨_, upd_same _ _ _, by show rows.length ≤ len; omega, fun j row hj => ?_, fun _ => ⟨w.heap.size, 0, ys, e, rfl, heap_alloc_get _ _, by show 0 + len * i.size ≤ ys.size; omega, fun p row j c hp hj => ?_, fun r x hp => absurd (hI.heap.cell r _ x hp) (by omega)⟩⟩
    · obtain ⟨as, ha, hta⟩ := hrg j row hj
      have hjl := (List.getElem?_eq_some_iff.1 hj).1
      rw [← (toDs_get hta).1, chunkA_get ha]
      have : (j + 1) * i.size ≤ len * i.size := Nat.mul_le_mul_right _ (by omega)
      rw [Nat.add_mul, Nat.one_mul] at this
      simp; omega
    · obtain ⟨as, ha, hta⟩ := hrg p row hp
      obtain ⟨a, haj, htd⟩ := (toDs_get hta).2 j c hj
      rw [chunkA_get ha, List.getElem?_take] at haj
      split at haj
      · rw [List.getElem?_drop] at haj
        rw [Nat.zero_add]
        exact (toD_rep hI (hy2.2 _ a haj).2 htd).later hL
      · simp at haj
  · simp only [blockOf, upd_same, Option.bind_some] at hb
    rw [if_neg hc.2.2] at hb
    simp at hb; exact hb.symm
  · have := ARep.os (w := w.alloc (.cells ys e)) (Pr := Pr) (n := m) (k := i.size) (lo := 0) (len := len) (φ := upd φ m (some ⟨some ⟨w.heap.size, 0, none⟩, len⟩)) (l := ⟨some ⟨w.heap.size, 0, none⟩, len⟩) (a := some ⟨w.heap.size, 0, none⟩) (upd_same _ _ _) (by simp) (fun _ => ⟨w.heap.size, 0, rfl, by simp⟩)
    exact this

end Go.Proofs.YtamefliipjhpoaaGreat.Ab
