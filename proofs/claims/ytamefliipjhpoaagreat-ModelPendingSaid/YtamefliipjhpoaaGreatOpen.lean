/- What comes in, as data: a reading of cells gives data of the type's shape. -/
import Derived.Test.YtamefliipjhpoaaGreatAbsN
import Derived.Deep.Slices
import Derived.ChangeArms
import Derived.SizedLaws
import Derived.Laws.Cover2
set_option autoImplicit false
namespace Go.Proofs.YtamefliipjhpoaaGreat.Ab
open Go

/-- Cells of several types, one behind the other. -/
def ShpF (S : TypeId → List D → Prop) : List TypeId → List D → Prop
  | [], ds => ds = []
  | t :: r, ds => ∃ a b, ds = a ++ b ∧ S t a ∧ ShpF S r b
/-- Data are of a type. -/
def Shp (P : Program) : Nat → TypeId → List D → Prop
  | 0, _, _ => False
  | n + 1, t, ds => match P.underlying t with
    | some .bool => ∃ b, ds = [.v (.bool b)]
    | some (.int k) => ∃ i, ds = [.v (.int k i)] ∧ (Lit.int k i).wf = true
    | some (.float k) => ∃ b, ds = [.v (.float k b)] ∧ (Lit.float k b).wf = true
    | some .string => ∃ s : ByteArray, ds = [.v (.string s)] ∧ s.size ≤ reachBytes
    | some (.slice e) => ∃ rows, ds = [.sl 0 (P.cellsOf e) rows] ∧ rows.length ≤ reachBytes ∧ ∀ row ∈ rows, Shp P n e row
    | some (.struct fs) => ShpF (Shp P n) (fs.toList.map (·.type)) ds
    | _ => False

def laidF (P : Program) : Nat → List Field → Option Nat
  | off, [] => some off
  | off, f :: r => if f.offset = off then laidF P (off + P.cellsOf f.type) r else none
/-- A type of plain data, so deep. -/
def okT (P : Program) : Nat → TypeId → Bool
  | 0, _ => false
  | n + 1, t => match P.underlying t with
    | some .bool | some (.int _) | some (.float _) | some .string => decide (P.cellsOf t = 1)
    | some (.slice e) => decide (P.cellsOf t = 1) && decide (0 < P.cellsOf e) && decide (0 < P.bytesOf e) && okT P n e
    | some (.struct fs) => decide (laidF P 0 fs.toList = some (P.cellsOf t)) && fs.toList.all fun f => okT P n f.type
    | _ => false

/-- All cells that are there stay. -/
def allPro (w : World) : Pro := fun r b _ => r = 0 ∧ b < w.heap.size

def DsRel (w : World) (cs : List Value) (ds : List D) : Prop := ds.length = cs.length ∧ ∀ (j : Nat) (c : D) (x : Value), ds[j]? = some c → cs[j]? = some x → DRep w (allPro w) x c

theorem DsRel.one {w : World} {x : Value} {c : D} (h : DRep w (allPro w) x c) : DsRel w [x] [c] := by
  refine ⟨rfl, fun j d y hd hy => ?_⟩
  match j, hd, hy with
  | 0, hd, hy => simp at hd hy; subst hd; subst hy; exact h
theorem DsRel.append {w : World} {a b : List Value} {x y : List D} (h : DsRel w a x) (k : DsRel w b y) : DsRel w (a ++ b) (x ++ y) := by
  refine ⟨by simp [h.1, k.1], fun j c v hc hv => ?_⟩
  by_cases hj : j < x.length
  · rw [List.getElem?_append_left hj] at hc
    rw [List.getElem?_append_left (by rw [← h.1]; exact hj)] at hv
    exact h.2 j c v hc hv
  · rw [List.getElem?_append_right (by omega)] at hc
    rw [List.getElem?_append_right (by rw [← h.1]; omega), ← h.1] at hv
    exact k.2 _ c v hc hv

section
variable {H : Type} {enc : TypeId × Value → H} {P : Program} {w : World} {base : Nat} {spare : Nat → Bool} {held : Bool}

theorem addr_add (b o n : Nat) : (⟨b, o, none⟩ : Addr).add n = ⟨b, o + n, none⟩ := by
  unfold Addr.add
  split <;> simp_all
theorem mapM_len' {α β : Type} {f : α → Option β} : ∀ {l : List α} {r : List β}, l.mapM f = some r → r.length = l.length
  | [], r, h => by simp at h; subst h; rfl
  | x :: l, r, h => by
    rw [List.mapM_cons] at h
    cases hx : f x with
    | none => simp [hx] at h
    | some v =>
      simp only [hx, Option.pure_def, Option.bind_eq_bind, Option.bind_some] at h
      cases hm : l.mapM f with
      | none => simp [hm] at h
      | some rs => simp [hm] at h; subst h; simp [mapM_len' hm]
theorem cells?_get {a : Addr} {n : Nat} {cs : List Value} (h : w.cells? base a n = some cs) : cs.length = n ∧ ∀ j, j < n → w.cell? (a.add j) = cs[j]? := by
  unfold World.cells? at h
  split at h
  · have hl := mapM_len' h
    rw [List.length_range] at hl
    refine ⟨hl, fun j hj => ?_⟩
    have : ∀ (l : List Nat) (r : List Value), (l.mapM fun i => w.cell? (a.add i)) = some r → ∀ j (hj : j < l.length), w.cell? (a.add l[j]) = r[j]? := by
      intro l
      induction l with
      | nil => intro r _ j hj; simp at hj
      | cons x l ih =>
        intro r hr j hj
        rw [List.mapM_cons] at hr
        cases hx : w.cell? (a.add x) with
        | none => simp [hx] at hr
        | some v =>
          simp only [hx, Option.pure_def, Option.bind_eq_bind, Option.bind_some] at hr
          cases hm : (l.mapM fun i => w.cell? (a.add i)) with
          | none => simp [hm] at hr
          | some rs =>
            simp [hm] at hr; subst hr
            cases j with
            | zero => simpa using hx
            | succ j => simpa using ih rs hm j (by simpa using hj)
    have := this _ _ h j (by simpa using hj)
    simpa using this
  · simp at h

theorem weightsAll_mem {t : TypeId} {p : Nat → Bool} : ∀ {l : List (DataW H)}, (DataW.weightsAll P t l).all p = true → ∀ d ∈ l, (d.weights P t).all p = true
  | [], _, d, hd => by simp at hd
  | x :: r, h, d, hd => by
    simp only [DataW.weightsAll, List.all_append, Bool.and_eq_true] at h
    rcases List.mem_cons.1 hd with rfl | hd
    · exact h.1
    · exact weightsAll_mem h.2 d hd

theorem trod_cells {m : Nat} {t : TypeId} (hok : okT P m t = true) {fuel : Nat} {cs : List Value} {x : DataW H × List MemPlace} (h : DataW.trod enc P w base spare held fuel t cs = some x) : cs.length = P.cellsOf t := by
  cases m with
  | zero => simp [okT] at hok
  | succ m =>
  cases fuel with
  | zero => simp [DataW.trod] at h
  | succ n =>
  unfold okT at hok
  unfold DataW.trod at h
  split at hok <;> rename_i hu <;> (try simp only [hu] at h)
  case h_7 => simp at hok
  case h_6 =>
    rename_i fs
    split at h
    · assumption
    · simp at h
  all_goals (simp only [Bool.and_eq_true, decide_eq_true_eq] at hok)
  all_goals (split at h <;> first | simp_all | (simp at h))


/-- The fields of a struct. -/
theorem fields_shp {m n : Nat} (IH : ∀ (t : TypeId) (cs : List Value) (x : DataW H × List MemPlace), okT P m t = true → DataW.trod enc P w base spare held n t cs = some x → (x.1.weights P t).all (· ≤ reachBytes) = true →
      ∃ ds, DsRel w cs ds ∧ Shp P m t ds) (cs : List Value) : ∀ (fs : List Field) (xs : List (DataW H × List MemPlace)) (off : Nat), xs.length = fs.length → laidF P off fs = some cs.length →
      (∀ f ∈ fs, okT P m f.type = true) → (∀ (i : Nat) (f : Field), fs[i]? = some f → DataW.trod enc P w base spare held n f.type ((cs.drop f.offset).take (P.cellsOf f.type)) = xs[i]?) →
      (DataW.weightsEach P (fs.map (·.type)) (xs.map (·.1))).all (· ≤ reachBytes) = true → ∃ ds, DsRel w (cs.drop off) ds ∧ ShpF (Shp P m) (fs.map (·.type)) ds
  | [], xs, off, hl, hlay, _, _, _ => by
    simp [laidF] at hlay; subst hlay
    exact ⟨[], ⟨by simp, by simp⟩, rfl⟩
  | f :: fs, [], off, hl, _, _, _, _ => by simp at hl
  | f :: fs, x :: xs, off, hl, hlay, hok, hf, hw => by
    unfold laidF at hlay
    split at hlay
    case isFalse => simp at hlay
    rename_i ho
    simp only [List.map_cons, DataW.weightsEach, List.all_append, Bool.and_eq_true] at hw
    have h0 := hf 0 f rfl
    simp at h0
    obtain ⟨d1, r1, s1⟩ := IH f.type _ x (hok f List.mem_cons_self) h0 hw.1
    obtain ⟨d2, r2, s2⟩ := fields_shp IH cs fs xs _ (by simpa using hl) hlay (fun g hg => hok g (List.mem_cons_of_mem _ hg)) (fun i g hg => by simpa using hf (i + 1) g (by simpa using hg)) hw.2
    refine ⟨d1 ++ d2, ?_, d1, d2, rfl, s1, s2⟩
    have := r1.append r2
    rw [ho] at this
    rwa [← List.drop_drop, List.take_append_drop] at this

theorem trod_shp : ∀ (m : Nat) (t : TypeId) (fuel : Nat) (cs : List Value) (x : DataW H × List MemPlace), okT P m t = true → DataW.trod enc P w base spare held fuel t cs = some x → (x.1.weights P t).all (· ≤ reachBytes) = true →
    ∃ ds, DsRel w cs ds ∧ Shp P m t ds
  | 0, _, _, _, _, hok, _, _ => by simp [okT] at hok
  | m + 1, t, fuel, cs, x, hok, h, hw => by
    have hok0 := hok
    unfold okT at hok
    split at hok <;> rename_i hu
    · obtain ⟨b, rfl, rfl⟩ := DataW.trod_bool hu h
      exact ⟨[.v (.bool b)], .one (.v rfl), by simp only [Shp, hu]; exact ⟨b, rfl⟩⟩
    · obtain ⟨n, rfl, rfl, hwf⟩ := DataW.trod_int hu h
      exact ⟨[.v _], .one (.v rfl), by simp only [Shp, hu]; exact ⟨n, rfl, hwf⟩⟩
    · rename_i k
      cases fuel with
      | zero => simp [DataW.trod] at h
      | succ n =>
        have : ∃ b, cs = [.float k b] ∧ (Lit.float k b).wf = true := by
          unfold DataW.trod at h
          simp only [hu] at h
          split at h <;> first | (simp at h; done) | skip
          all_goals simp_all
        obtain ⟨b, rfl, hwf⟩ := this
        exact ⟨[.v (.float k b)], .one (.v rfl), by simp only [Shp, hu]; exact ⟨b, rfl, hwf⟩⟩
    · obtain ⟨s, rfl, rfl, _⟩ := DataW.trod_string hu h
      simp [DataW.weights] at hw
      exact ⟨[.v (.string s)], .one (.v rfl), by simp only [Shp, hu]; exact ⟨s, rfl, hw⟩⟩
    · rename_i e
      simp only [Bool.and_eq_true, decide_eq_true_eq] at hok
      rcases Deep.open_slice hu h with ⟨rfl, rfl⟩ | ⟨a, len, cap, mm, n, Dd, Pl, rfl, hb, hl, hm, hmm, rfl, hel⟩
      · refine ⟨[.sl 0 (P.cellsOf e) []], .one (.sl (fun _ _ => undef) rfl (Nat.le_refl _) (by simp) (by simp) (by simp)), ?_⟩
        simp only [Shp, hu]
        exact ⟨[], rfl, by simp, by simp⟩
      · have hlm : len ≤ mm := by rw [hmm]; split <;> omega
        simp only [DataW.weights, hu, List.all_cons, List.all_append, Bool.and_eq_true, decide_eq_true_eq] at hw
        have hlen : len ≤ reachBytes := by
          have h1 := hw.1
          simp only [List.length_map, List.length_range] at h1
          have h2 : len * 1 ≤ (len + (mm - len)) * P.bytesOf e := Nat.mul_le_mul (by omega) hok.1.2
          omega
        have each : ∀ i, i < len → ∃ cs' ds, w.cells? base (a.add (i * P.cellsOf e)) (P.cellsOf e) = some cs' ∧ DsRel w cs' ds ∧ Shp P m e ds ∧ ds.length = P.cellsOf e := by
          intro i hi
          obtain ⟨cs', h1, h2⟩ := hel i (by omega)
          obtain ⟨ds, r, s⟩ := trod_shp m e n cs' _ hok.2 h2 (weightsAll_mem hw.2.1 (Dd i) (List.mem_map.2 ⟨i, List.mem_range.2 hi, rfl⟩))
          exact ⟨cs', ds, h1, r, s, by rw [r.1]; exact (cells?_get h1).1⟩
        obtain ⟨rowsF, hrows⟩ : ∃ f : Nat → List D, ∀ i, i < len → ∃ cs', w.cells? base (a.add (i * P.cellsOf e)) (P.cellsOf e) = some cs' ∧ DsRel w cs' (f i) ∧ Shp P m e (f i) ∧ (f i).length = P.cellsOf e :=
          Deep.choose_lt (p := fun i ds => ∃ cs', w.cells? base (a.add (i * P.cellsOf e)) (P.cellsOf e) = some cs' ∧ DsRel w cs' ds ∧ Shp P m e ds ∧ ds.length = P.cellsOf e) (fun i hi => by
            obtain ⟨cs', ds, h⟩ := each i hi
            exact ⟨ds, cs', h⟩)
        have hget : ∀ (i : Nat) (row : List D), ((List.range len).map rowsF)[i]? = some row → i < len ∧ row = rowsF i := by
          intro i row hi
          rw [List.getElem?_map] at hi
          by_cases hlt : i < len
          · simp [hlt] at hi; exact ⟨hlt, hi.symm⟩
          · rw [List.getElem?_eq_none (by simp; omega)] at hi; simp at hi
        have hcell : ∀ i j, i < len → j < P.cellsOf e → ∃ v, w.cell? ((a.add (i * P.cellsOf e)).add j) = some v ∧ ∀ c, (rowsF i)[j]? = some c → DRep w (allPro w) v c := by
          intro i j hi hj
          obtain ⟨cs', h1, r, _, _⟩ := hrows i hi
          obtain ⟨g1, g2⟩ := cells?_get h1
          have hjl : j < cs'.length := by omega
          refine ⟨cs'[j], ?_, fun c hc => r.2 j c _ hc (List.getElem?_eq_getElem hjl)⟩
          rw [g2 j hj, List.getElem?_eq_getElem hjl]
        refine ⟨[.sl 0 (P.cellsOf e) ((List.range len).map rowsF)], .one ?_, ?_⟩
        · refine .sl (fun i j => (w.cell? ((a.add (i * P.cellsOf e)).add j)).getD undef) (by simp) hl (fun i row hi => ?_) (fun h0 => ?_) (fun i row j c hi hj => ?_)
          · obtain ⟨hlt, rfl⟩ := hget i row hi
            exact (hrows i hlt).choose_spec.2.2.2
          · obtain ⟨v, hv, _⟩ := hcell 0 0 (by omega) hok.1.1.2
            have hspot : a.spot = none := by
              unfold World.cell? at hv
              split at hv
              · split at hv
                · simp at hv
                · rename_i hs; simpa [Addr.add] using hs
              · simp at hv
            obtain ⟨ab, ao, asp⟩ := a
            simp only at hspot; subst hspot
            refine ⟨ab, ao, rfl, fun i j hi hj => ?_⟩
            obtain ⟨v, hv, _⟩ := hcell i j hi hj
            simp only [addr_add] at hv ⊢
            refine ⟨by rw [hv]; rfl, rfl, ?_⟩
            unfold World.cell? at hv
            split at hv
            · rename_i hq; exact (Array.getElem?_eq_some_iff.1 hq).1
            · simp at hv
          · obtain ⟨hlt, rfl⟩ := hget i row hi
            have hjk : j < P.cellsOf e := by rw [← (hrows i hlt).choose_spec.2.2.2]; exact (List.getElem?_eq_some_iff.1 hj).1
            obtain ⟨v, hv, hd⟩ := hcell i j hlt hjk
            rw [hv]; exact hd c hj
        · simp only [Shp, hu]
          refine ⟨_, rfl, by simpa using hlen, fun row hr => ?_⟩
          obtain ⟨i, hi, rfl⟩ := List.mem_map.1 hr
          exact (hrows i (List.mem_range.1 hi)).choose_spec.2.2.1
    · rename_i fs
      simp only [Bool.and_eq_true, decide_eq_true_eq] at hok
      obtain ⟨xs, n, rfl, rfl, hl, hlen, hf⟩ := DataW.trod_struct hu h
      simp only [DataW.weights, hu] at hw
      obtain ⟨ds, r, s⟩ := fields_shp (m := m) (n := n) (fun t cs x h1 h2 h3 => trod_shp m t n cs x h1 h2 h3) cs fs.toList xs 0 (by simpa using hlen) (by rw [hl]; exact hok.1) (fun f hf => List.all_eq_true.1 hok.2 f hf) (fun i f hi => hf i f (by simpa using hi)) hw
      exact ⟨ds, by simpa using r, by simp only [Shp, hu]; exact s⟩
    · simp at hok

end

section
variable {P : Program} {n : Nat} {t : TypeId} {ds : List D}
theorem shp_bool (hu : P.underlying t = some .bool) (h : Shp P (n + 1) t ds) : ∃ b, ds = [.v (.bool b)] := by simpa only [Shp, hu] using h
theorem shp_int {k : IntKind} (hu : P.underlying t = some (.int k)) (h : Shp P (n + 1) t ds) : ∃ i, ds = [.v (.int k i)] ∧ (Lit.int k i).wf = true := by simpa only [Shp, hu] using h
theorem shp_float {k : FloatKind} (hu : P.underlying t = some (.float k)) (h : Shp P (n + 1) t ds) : ∃ b, ds = [.v (.float k b)] ∧ (Lit.float k b).wf = true := by simpa only [Shp, hu] using h
theorem shp_string (hu : P.underlying t = some .string) (h : Shp P (n + 1) t ds) : ∃ s : ByteArray, ds = [.v (.string s)] ∧ s.size ≤ reachBytes := by simpa only [Shp, hu] using h
theorem shp_slice {e : TypeId} (hu : P.underlying t = some (.slice e)) (h : Shp P (n + 1) t ds) : ∃ rows, ds = [.sl 0 (P.cellsOf e) rows] ∧ rows.length ≤ reachBytes ∧ ∀ row ∈ rows, Shp P n e row := by simpa only [Shp, hu] using h
theorem shp_struct {fs : Array Field} (hu : P.underlying t = some (.struct fs)) (h : Shp P (n + 1) t ds) : ShpF (Shp P n) (fs.toList.map (·.type)) ds := by simpa only [Shp, hu] using h
theorem rows_map {α : Type} {enc : α → List D} {ok : α → Prop} : ∀ {rows : List (List D)}, (∀ row ∈ rows, ∃ x, row = enc x ∧ ok x) → ∃ l : List α, rows = l.map enc ∧ ∀ x ∈ l, ok x
  | [], _ => ⟨[], rfl, by simp⟩
  | row :: rows, h => by
    obtain ⟨x, rfl, hx⟩ := h _ List.mem_cons_self
    obtain ⟨l, rfl, hl⟩ := rows_map (fun r hr => h r (List.mem_cons_of_mem _ hr))
    exact ⟨x :: l, rfl, fun y hy => by
      rcases List.mem_cons.1 hy with rfl | hy
      · exact hx
      · exact hl y hy⟩
end

/-- What a call over data leaves, for the row. -/
theorem Evo.below {w w' : World} {Pr Pr' : Pro} (h : Evo w Pr w' Pr') : RowKit.Below w.heap.size w w' := ⟨h.os, h.tape, h.output, h.size, h.keep⟩

/-- An argument that is one cell. -/
theorem arg_rep {w : World} {v : Value} {ds : List D} (h : DsRel w v.cells.toList ds) {c : D} (hc : ds = [c]) (h1 : oneV v = true) : ARep w (fun _ => none) (allPro w) v (.d c) := by
  subst hc
  have : v.cells = #[v] := by cases v <;> first | rfl | simp [oneV] at h1
  rw [this] at h
  exact .d (h.2 0 c v rfl rfl)
/-- An argument that is a struct. -/
theorem arg_agg {w : World} {xs : Array Value} {ds : List D} (h : DsRel w (Value.agg xs).cells.toList ds) : ARep w (fun _ => none) (allPro w) (.agg xs) (.ag (ds.map .d)) := by
  have hc : (Value.agg xs).cells = xs := rfl
  rw [hc] at h
  have hat : ∀ (j : Nat) (d : D), ds[j]? = some d → DRep w (allPro w) (xs.getD j undef) d := fun j d hj => by
    have hlt : j < xs.size := by
      have := (List.getElem?_eq_some_iff.1 hj).1
      rw [h.1] at this; simpa using this
    have := h.2 j d xs[j] hj (by simp [hlt])
    simpa [Array.getD_eq_getD_getElem?, hlt] using this
  refine .ag (by simpa using h.1.symm) (fun j hj => ?_) (fun j c hj => ?_)
  · have hlt : j < ds.length := by rw [h.1]; simpa using hj
    exact (hat j ds[j] (List.getElem?_eq_getElem hlt)).one
  · rw [List.getElem?_map] at hj
    cases hd : ds[j]? with
    | none => simp [hd] at hj
    | some d => simp [hd] at hj; subst hj; exact .d (hat j d hd)

/-- The weights of each argument. -/
theorem weightsEach_at {H : Type} {P : Program} {p : Nat → Bool} : ∀ {ts : List TypeId} {ds : List (DataW H)}, (DataW.weightsEach P ts ds).all p = true → ∀ (j : Nat) (t : TypeId) (d : DataW H), ts[j]? = some t → ds[j]? = some d → (d.weights P t).all p = true
  | [], _, _, j, t, d, ht, _ => by simp at ht
  | _ :: _, [], _, j, t, d, _, hd => by simp at hd
  | t0 :: ts, d0 :: ds, h, j, t, d, ht, hd => by
    simp only [DataW.weightsEach, List.all_append, Bool.and_eq_true] at h
    cases j with
    | zero => simp at ht hd; subst ht; subst hd; exact h.1
    | succ j => exact weightsEach_at h.2 j t d (by simpa using ht) (by simpa using hd)

end Go.Proofs.YtamefliipjhpoaaGreat.Ab
