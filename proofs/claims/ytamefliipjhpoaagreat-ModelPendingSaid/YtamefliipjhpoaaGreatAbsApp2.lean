/- append in place; append as one operation; slices of given elements. -/
import Derived.Test.YtamefliipjhpoaaGreatAbsApp
import Derived.Deep.Upon
set_option autoImplicit false
namespace Go.Proofs.YtamefliipjhpoaaGreat.Ab
open Go

/-- A live object of rows goes on under a new name, its block maybe written. -/
theorem Inv.renamed {N : Fr} {s : St} {φ : Map} {Pr : Pro} {ac : Act} {w w' : World} (hI : Inv N s φ Pr ac w) {n m : Nm} (hm : s.u m = false) {k : Nat} {rows : List (List D)} (hn : s.o n = .arr k rows) {l : Loc} (hl : φ n = some l) {X : Ob}
    (hos : w'.os = w.os) (htape : w'.tape = w.tape) (hout : w'.output = w.output) (hsz : w'.heap.size = w.heap.size) (hkeep : ∀ b, blockOf φ n ≠ some b → w'.heap[b]? = w.heap[b]?)
    (hr : Later w φ Pr w' (upd φ m (some l)) Pr → obRep w' (upd φ m (some l)) Pr m X) {d : Tmp} (hd : d < N.n) {v : Value} {x : A} (hv : ARep w' (upd φ m (some l)) Pr v x) :
    Inv N ⟨upd s.t d x, upd (upd s.o n .dead) m X, upd s.u m true, s.p⟩ (upd φ m (some l)) Pr (ac.put (some d) v) w' ∧ Adv w φ Pr s.o w' (upd φ m (some l)) Pr (upd (upd s.o n .dead) m X) := by
  have hφ : φ m = none := by
    cases hq : φ m with
    | none => rfl
    | some l => exact absurd (hI.used m (by simp [hq])) (by rw [hm]; simp)
  have hne : n ≠ m := by rintro rfl; rw [hφ] at hl; simp at hl
  have hlive : live (s.o n) = true := by rw [hn]; rfl
  have hoth : ∀ y, y ≠ m → (upd (upd s.o n .dead) m X y = s.o y ∨ upd (upd s.o n .dead) m X y = .dead) ∧ upd φ m (some l) y = φ y := fun y hy => by
    refine ⟨?_, upd_ne _ _ hy⟩
    rw [upd_ne _ _ hy]
    by_cases e : y = n
    · subst e; right; exact upd_same _ _ _
    · left; exact upd_ne _ _ e
  have hbm : blockOf (upd φ m (some l)) m = blockOf φ n := by simp [blockOf, upd_same, hl]
  have hA : Adv w φ Pr s.o w' (upd φ m (some l)) Pr (upd (upd s.o n .dead) m X) :=
    Adv.step hI.heap hos htape hout (by omega) (fun b _ hnl => hkeep b (fun hb => hnl ⟨n, hlive, hb⟩)) m (upd_map hφ _) hoth (fun b _ hb => by rw [hbm] at hb; exact .inl ⟨n, hlive, hb⟩)
  have hL := hA.later hI.heap (upd_map hφ _)
  have nd : ∀ y, y ≠ m → live (upd (upd s.o n .dead) m X y) = true → y ≠ n ∧ live (s.o y) = true := fun y hy hly => by
    rw [upd_ne _ _ hy] at hly
    by_cases e : y = n
    · subst e; rw [upd_same] at hly; simp [live] at hly
    · rw [upd_ne _ _ e] at hly; exact ⟨e, hly⟩
  have hH : Heap w' (upd φ m (some l)) Pr (upd (upd s.o n .dead) m X) := by
    refine Heap.step hI.heap hL (by omega) m (by rw [upd_same]; exact hr hL) hoth (fun b hb => by rw [hbm] at hb; rw [hsz]; exact hI.heap.lt n b hb) (fun y b hy hly hby => ?_) (fun y b hy hly _ hby hb => ?_)
    · obtain ⟨hyn, hl'⟩ := nd y hy hly
      exact hkeep b (fun hb => hyn (hI.heap.apart y n b hl' hlive hby hb))
    · obtain ⟨hyn, hl'⟩ := nd y hy hly
      rw [hbm] at hb
      exact hyn (hI.heap.apart y n b hl' hlive hby hb)
  refine ⟨hI.put hL hH (fun y hy => ?_) hd hv, hA⟩
  by_cases e : y = m
  · subst e; exact upd_same _ _ _
  · rw [upd_ne _ _ e] at hy ⊢; exact hI.used y hy

theorem elemT_some {P : Program} {e : TypeId} {sz by_ : Nat} (he : elemT P e = some (sz, by_)) : ∃ i z, P.info? e = some i ∧ i.zero = some z ∧ z.cells.size = i.size ∧ 0 < i.size ∧ i.size = sz ∧ i.bytes = by_ := by
  unfold elemT at he
  split at he
  case h_2 => simp at he
  rename_i i hi
  split at he
  case h_2 => simp at he
  rename_i z hz
  split at he
  case isFalse => simp at he
  rename_i hzs
  simp only [Option.some.injEq, Prod.mk.injEq] at he
  exact ⟨i, z, hi, hz, hzs.1, hzs.2, he.1, he.2⟩

theorem rowsA_ox {s : St} {n : Nm} {k lo len k1 : Nat} {rows : List (List D)} (h : rowsA s (.ox n k lo len) = some (k1, rows)) : k1 = k := by
  simp only [rowsA] at h
  split at h
  · split at h
    · simp at h; exact h.1.symm
    · simp at h
  · split at h
    · simp at h; exact h.1.symm
    · simp at h
  · simp at h

theorem appendA_rep {P : Program} {N : Fr} {s : St} {δ : Dl} {φ : Map} {Pr : Pro} {ac : Act} {w : World} (hI : Inv N s φ Pr ac w) {d : Tmp} (hd : d < N.n) {t tx ty : TypeId} {va vx : Value} {a x : A} (ha : ARep w φ Pr va a) (hx : ARep w φ Pr vx x)
    (h : appendA P s d t tx a x = some δ) : ∃ v w' φ', (Builtin.append_ #[t, tx] ty #[va, vx]).run P w = .ok v w' ∧ Inv N (s.app δ) φ' Pr (ac.put (some d) v) w' ∧ Adv w φ Pr s.o w' φ' Pr (s.app δ).o := by
  unfold appendA at h
  split at h
  case h_2 => simp at h
  rename_i e ex m hte htx hm
  have hu := elT_some hte
  have hux := elT_some htx
  have hnew := nmFor_new hm
  split at h
  case h_2 => simp at h
  rename_i sz by_ kx xs he hxs
  have hxr := rowsA_rep hI hx hxs
  split at h
  · -- the frame's own rows
    rename_i n k len
    split at h
    case h_2 => simp at h
    rename_i k' rows ho
    split at h
    case isFalse => simp at h
    rename_i hc
    obtain ⟨rfl, rfl, hlen, hkx, hb, h63⟩ := hc
    simp only [Option.some.injEq] at h; subst h
    have har := rowsA_rep hI (k := k') (rows := rows.take len) ha (by simp [rowsA, ho, hlen])
    have htl : (rows.take len).length = len := by simp; omega
    cases ha with
    | @os _ _ _ _ l ad hl hle hadr =>
      simp only [Nat.sub_zero] at har ⊢
      by_cases hroom : len + xs.length ≤ l.cap
      · obtain ⟨i, z, hi, hz, hzs, h0, rfl, rfl⟩ := elemT_some he
        have hr := hI.heap.rep n
        rw [ho] at hr
        obtain ⟨l', hφ, hcap, hkk, hxx⟩ := hr
        rw [hl] at hφ; simp at hφ; subst hφ
        by_cases hx0 : xs = []
        · subst hx0
          obtain ⟨adx, capx, rfl, _, _⟩ := hxr
          refine ⟨.slice ad len l.cap, w, upd φ m (some l), ?_, ?_⟩
          · exact run_append_nothing w t tx ty e i hu hi ad len l.cap (by simpa using hroom) _ (by
              cases adx with
              | none => exact Src.ofNil w hux capx
              | some q => exact Src.ofSlice w hux q 0 capx [] (by simp) (by simp) (by simp))
          · refine hI.renamed hnew ho hl rfl rfl rfl rfl (fun _ _ => rfl) (fun hL => ?_) hd ?_
            · refine ⟨l, upd_same _ _ _, by simp; omega, fun j row hj => ?_, fun hc0 => ?_⟩
              · simp at hj; exact hkk j row (by rw [List.getElem?_take] at hj; split at hj <;> simp_all)
              · obtain ⟨b, off, cur, te, e1, hh, hs, hcc, hno⟩ := hxx hc0
                refine ⟨b, off, cur, te, e1, hh, hs, fun p row j c hp hj => ?_, hno⟩
                simp at hp
                exact (hcc p row j c (by rw [List.getElem?_take] at hp; split at hp <;> simp_all) hj).later hL
            · have := ARep.os (w := w) (Pr := Pr) (n := m) (k := i.size) (lo := 0) (len := len) (φ := upd φ m (some l)) (l := l) (a := ad) (upd_same _ _ _) (by omega) hadr
              simpa using this
        · have hxl : 0 < xs.length := List.length_pos_iff.2 hx0
          have hc0 : l.cap ≠ 0 := by omega
          obtain ⟨b, off, cur, te, e1, hh, hs, hcc, hno⟩ := hxx hc0
          obtain ⟨b', off', e2, e3⟩ := hadr (by omega)
          rw [e1] at e2; simp at e2; obtain ⟨rfl, rfl⟩ := e2
          rw [Nat.zero_mul, Nat.add_zero] at e3; subst e3
          have hkx' := hkx.resolve_right hx0
          subst hkx'
          obtain ⟨news, hnl, hn1, hnd, ad2, cap2, e4, _, hnc⟩ := hxr.flat (.inr h0)
          have hsrc : Src P i.size tx vx xs.length news w := Src.mk' hux hnl hn1 e4 hnc
          have hcapk : (len + xs.length) * i.size ≤ l.cap * i.size := Nat.mul_le_mul_right _ hroom
          rw [Nat.add_mul] at hcapk
          have hrun := run_append_room_row (P := P) w t tx ty e i hu hi b off len l.cap vx xs.length news hsrc hroom cur te hh (by omega)
          have hbn : blockOf φ n = some b := by simp [blockOf, hl, hc0, e1]
          refine ⟨_, _, upd φ m (some l), hrun, ?_⟩
          have hsp : off + len * i.size + news.length ≤ cur.size := by omega
          refine hI.renamed (w' := w.setRow b (cur.toList.take (off + len * i.size) ++ news ++ cur.toList.drop (off + len * i.size + news.length)).toArray) hnew ho hl rfl rfl rfl (setRow_size _ _ _) (fun b' hb' => setRow_other _ _ _ (fun e => hb' (by rw [e]; exact hbn))) (fun hL => ?_) hd ?_
          · refine ⟨l, upd_same _ _ _, by simp; omega, fun j row hj => ?_, fun _ => ⟨b, off, _, te, e1, setRow_heap w b cur _ te (0, 0) hh, by rw [size_splice _ _ _ hsp]; exact hs, fun p row j c hp hj => ?_, hno⟩⟩
            · by_cases h1 : j < len
              · rw [List.getElem?_append_left (by rw [htl]; exact h1), List.getElem?_take, if_pos h1] at hj; exact hkk j row hj
              · rw [List.getElem?_append_right (by rw [htl]; omega)] at hj; exact hxr.len _ row hj
            · rw [getD_splice _ _ _ hsp]
              have hjl := (List.getElem?_eq_some_iff.1 hj).1
              by_cases h1 : p < len
              · rw [List.getElem?_append_left (by rw [htl]; exact h1), List.getElem?_take, if_pos h1] at hp
                have hrl := hkk p row hp
                have : (p + 1) * i.size ≤ len * i.size := Nat.mul_le_mul_right _ h1
                rw [Nat.add_mul, Nat.one_mul] at this
                rw [if_neg (by omega)]
                exact (hcc p row j c hp hj).later hL
              · rw [List.getElem?_append_right (by rw [htl]; omega), htl] at hp
                have hrl := hxr.len _ row hp
                have hpl := (List.getElem?_eq_some_iff.1 hp).1
                have e5 : p * i.size = len * i.size + (p - len) * i.size := by rw [← Nat.add_mul]; congr 1; omega
                have : (p - len + 1) * i.size ≤ xs.length * i.size := Nat.mul_le_mul_right _ hpl
                rw [Nat.add_mul, Nat.one_mul] at this
                rw [if_pos (by omega)]
                have e6 : off + p * i.size + j - (off + len * i.size) = (p - len) * i.size + j := by omega
                rw [e6]
                exact (hnd _ row j c hp hj).later hL
          · have := ARep.os (w := w.setRow b (cur.toList.take (off + len * i.size) ++ news ++ cur.toList.drop (off + len * i.size + news.length)).toArray) (Pr := Pr) (n := m) (k := i.size) (lo := 0) (len := len + xs.length) (φ := upd φ m (some l)) (l := l)
              (a := some ⟨b, off, none⟩) (upd_same _ _ _) (by omega) (fun _ => ⟨b, off, e1, by simp⟩)
            simpa using this
      · have := append_grown (ty := ty) hI hd hnew hu hux he (rows := rows.take len) har (by rw [htl]) (.inl rfl) hxr hkx (by rw [htl]; omega) (by rw [htl]; exact hb) (by rw [htl]; exact h63)
          (o' := upd (upd s.o n .dead) m (.arr k' (rows.take len ++ xs))) (fun y hy => by
            rw [upd_ne _ _ hy]
            by_cases e : y = n
            · subst e; right; exact upd_same _ _ _
            · left; exact upd_ne _ _ e) (upd_same _ _ _)
        rw [htl] at this
        exact this
  · -- a slice without room
    rename_i r k rows
    split at h
    case isFalse => simp at h
    rename_i hc
    obtain ⟨hk, hkx, hx0, hb, h63⟩ := hc
    simp only [Option.some.injEq] at h; subst h
    have har := rowsA_rep hI (k := k) (rows := rows) ha (by simp [rowsA])
    have hxl : 0 < xs.length := List.length_pos_iff.2 hx0
    cases ha with
    | @sx a n _ _ _ hdr =>
      have hn : n = rows.length := by
        cases hdr with
        | sl val hn hc hkk hxx hdd => exact hn.symm
      subst hn
      exact append_grown hI hd hnew hu hux he har rfl hk hxr hkx (by omega) hb h63 (fun y hy => .inl (upd_ne _ _ hy)) (upd_same _ _ _)
  · rename_i n k lo len
    split at h
    case h_2 => simp at h
    rename_i k1 rows hrw
    split at h
    case isFalse => simp at h
    rename_i hc
    obtain ⟨hk, hkx, hx0, hb, h63⟩ := hc
    simp only [Option.some.injEq] at h; subst h
    have hk1 : k1 = k := rowsA_ox hrw
    subst hk1
    have har := rowsA_rep hI (k := k1) (rows := rows) ha hrw
    have hxl : 0 < xs.length := List.length_pos_iff.2 hx0
    cases ha with
    | ox hl hle hadr =>
      have hn : len = rows.length := by
        obtain ⟨_, _, e, _⟩ := har
        simp at e; exact e.2.1
      subst hn
      exact append_grown hI hd hnew hu hux he har rfl hk hxr hkx (by omega) hb h63 (fun y hy => .inl (upd_ne _ _ hy)) (upd_same _ _ _)
  · simp at h

end Go.Proofs.YtamefliipjhpoaaGreat.Ab
