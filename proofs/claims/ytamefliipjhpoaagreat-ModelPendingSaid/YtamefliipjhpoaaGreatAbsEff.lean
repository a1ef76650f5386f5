/- Operations that make or write memory: new variables, stores, slices of given elements. -/
import Derived.Test.YtamefliipjhpoaaGreatAbsHeap
set_option autoImplicit false
namespace Go.Proofs.YtamefliipjhpoaaGreat.Ab
open Go

def nmAt (u : Nm → Bool) (k : List Nat) : Nat → Nat → Option Nm
  | 0, _ => none
  | fuel + 1, j => if u (.loc k j) then nmAt u k fuel (j + 1) else some (.loc k j)
def nmFor (u : Nm → Bool) (k : List Nat) : Option Nm := nmAt u k 64 0
theorem nmAt_loc {u : Nm → Bool} {k : List Nat} {n : Nm} : ∀ {fuel j : Nat}, nmAt u k fuel j = some n → u n = false ∧ ∃ j, n = .loc k j
  | 0, _, h => by simp [nmAt] at h
  | fuel + 1, j, h => by
    unfold nmAt at h
    split at h
    · exact nmAt_loc h
    · rename_i hu
      simp at h; subst h; exact ⟨by simpa using hu, j, rfl⟩
theorem nmAt_congr {u u2 : Nm → Bool} {k : List Nat} (h : ∀ j, u2 (.loc k j) = u (.loc k j)) : ∀ (fuel j : Nat), nmAt u2 k fuel j = nmAt u k fuel j
  | 0, _ => rfl
  | fuel + 1, j => by simp only [nmAt, h, nmAt_congr h fuel]
theorem nmFor_new {u : Nm → Bool} {k : List Nat} {n : Nm} (h : nmFor u k = some n) : u n = false := (nmAt_loc h).1

theorem oneV_cell {v : Value} (h : oneV v = true) : v.oneCell' = true := by cases v <;> first | rfl | simp [oneV] at h

/-! ### New variables -/
def bornA (P : Program) (s : St) (o : Oper) : Option Dl := match o.dst with
  | none => none
  | some d => match nmFor s.u (d :: s.p) with
    | none => none
    | some n => match (match o.op with
        | .alloc t => zeroT P t
        | .box _ x => cellsA (s.ev x)
        | _ => none) with
      | some cs => some ⟨some (d, .ptr n 0), [(n, .cells cs)], some n⟩
      | none => none

theorem bornA_rep {P : Program} {N : Fr} {s : St} {δ : Dl} {φ : Map} {Pr : Pro} {ac : Act} {w : World} (hI : Inv N s φ Pr ac w) {o : Oper} (h : bornA P s o = some δ) (hd : ∀ d, o.dst = some d → d < N.n) :
    ∃ v w' φ', (execOp ac.eval o).run P w = .ok (.value v) w' ∧ Inv N (s.app δ) φ' Pr (ac.put o.dst v) w' ∧ Adv w φ Pr s.o w' φ' Pr (s.app δ).o := by
  unfold bornA at h
  split at h
  · simp at h
  rename_i d hdst
  split at h
  · simp at h
  rename_i n hn
  have hnew := nmFor_new hn
  split at h
  · rename_i cs hcs
    simp at h; subst h
    rw [hdst]
    have fin : ∀ (xs : Array Value) (t : TypeId), CellsRel w φ Pr xs cs → (execOp ac.eval o).run P w = .ok (.value (.pointer (some ⟨w.heap.size, 0, none⟩))) (w.alloc (.cells xs t)) →
        ∃ v w' φ', (execOp ac.eval o).run P w = .ok (.value v) w' ∧ Inv N ⟨upd s.t d (.ptr n 0), upd s.o n (.cells cs), upd s.u n true, s.p⟩ φ' Pr (ac.put (some d) v) w' ∧ Adv w φ Pr s.o w' φ' Pr (upd s.o n (.cells cs)) := by
      intro xs t hx hrun
      refine ⟨_, _, upd φ n (some ⟨some ⟨w.heap.size, 0, none⟩, 1⟩), hrun, ?_⟩
      refine hI.born rfl rfl rfl rfl hnew (.cells xs t) ⟨some ⟨w.heap.size, 0, none⟩, 1⟩ (.cells cs) (fun x hx => .inl (upd_ne _ _ hx)) (upd_same _ _ _) (fun hL => ?_) (fun b hb => ?_) (hd d hdst) ?_
      · exact ⟨w.heap.size, 0, xs, t, upd_same _ _ _, heap_alloc_get _ _, by rw [hx.1]; omega, fun j c hj => by rw [Nat.zero_add]; exact ⟨(hx.2 j c hj).1, (hx.2 j c hj).2.later hL⟩, fun r x hp => absurd (hI.heap.cell r _ x hp) (by omega)⟩
      · simp [blockOf, upd_same] at hb; exact hb.symm
      · exact ARep.ptr (o := 0) (upd_same _ _ _) rfl
    split at hcs
    · rename_i t hop
      obtain ⟨z, hz, hzr⟩ := zeroT_rep w φ Pr hcs
      refine fin z.cells t hzr ?_
      cases hi : P.info? t with
      | none => simp [hi] at hz
      | some it =>
        simp [hi] at hz
        unfold execOp; rw [hop]
        simp [Instr.alloc, zeroValue, typeInfo, hi, hz, newVar, newRow]
    · rename_i t x hop
      refine fin _ t (cellsA_rep (hI.ev x) hcs) ?_
      unfold execOp; rw [hop]
      simp [Instr.box, newVar, newRow]
    · simp at hcs
  · simp at h

/-! ### Data out of cells -/
def toD (s : St) : A → Option D
  | .d x => some x
  | .sx r k rows => some (.sl r k rows)
  | .os n k lo len | .ox n k lo len => match s.o n with
    | .froz k' rows => if k = k' ∧ lo + len ≤ rows.length then some (.sl 0 k ((rows.drop lo).take len)) else none
    | _ => none
  | _ => none

theorem frozD {w : World} {Pr : Pro} {l : Loc} {k lo len cap : Nat} {rows : List (List D)} {a : Option Addr} (hd : DRep w Pr (.slice l.a rows.length l.cap) (.sl 0 k rows)) (hle : lo + len ≤ rows.length) (hc : len ≤ cap)
    (ha : len ≠ 0 → ∃ b off, l.a = some ⟨b, off, none⟩ ∧ a = some ⟨b, off + lo * k, none⟩) : DRep w Pr (.slice a len cap) (.sl 0 k ((rows.drop lo).take len)) := by
  cases hd with
  | sl val hn hcc hkk hx hdd =>
    refine .sl (fun i j => val (lo + i) j) (length_cut hle) hc (fun i row hi => hkk _ row (getElem?_cut hi).2) (fun h0 => ?_) (fun i row j c hi hj => hdd _ row j c (getElem?_cut hi).2 hj)
    obtain ⟨b, off, e1, rfl⟩ := ha h0
    obtain ⟨b', off', e2, hcell⟩ := hx (by omega)
    rw [e1] at e2; simp at e2; obtain ⟨rfl, rfl⟩ := e2
    refine ⟨b, off + lo * k, rfl, fun i j hi hj => ?_⟩
    have := hcell (lo + i) j (by omega) hj
    rw [Nat.add_mul, ← Nat.add_assoc] at this
    exact this

theorem toD_rep {N : Fr} {s : St} {φ : Map} {Pr : Pro} {ac : Act} {w : World} (hI : Inv N s φ Pr ac w) {x : Value} {a : A} {c : D} (hx : ARep w φ Pr x a) (h : toD s a = some c) : DRep w Pr x c := by
  have obj : ∀ (n : Nm) (k k' lo len : Nat) (rows : List (List D)) (l : Loc) (ad : Option Addr) (cap : Nat), s.o n = .froz k' rows → φ n = some l → len ≤ cap →
      (len ≠ 0 → ∃ b off, l.a = some ⟨b, off, none⟩ ∧ ad = some ⟨b, off + lo * k, none⟩) → (if k = k' ∧ lo + len ≤ rows.length then some (D.sl 0 k ((rows.drop lo).take len)) else none) = some c → DRep w Pr (.slice ad len cap) c := by
    intro n k k' lo len rows l ad cap ho hl hc ha hq
    split at hq
    · rename_i hk
      obtain ⟨rfl, hle⟩ := hk
      simp at hq; subst hq
      have hr := hI.heap.rep n
      rw [ho] at hr
      obtain ⟨l', hφ, _, hd⟩ := hr
      rw [hl] at hφ; simp at hφ; subst hφ
      exact frozD hd hle hc ha
    · simp at hq
  unfold toD at h
  split at h
  · simp at h; subst h
    cases hx with | d hd => exact hd
  · simp at h; subst h
    cases hx with | sx hd => exact hd
  · rename_i n k lo len
    split at h
    · rename_i k' rows ho
      cases hx with
      | os hl hle ha => exact obj n k k' lo len rows _ _ _ ho hl (by omega) (fun h0 => ha (by omega)) h
    · simp at h
  · rename_i n k lo len
    split at h
    · rename_i k' rows ho
      cases hx with
      | ox hl hle ha => exact obj n k k' lo len rows _ _ _ ho hl (Nat.le_refl _) ha h
    · simp at h
  · simp at h

def toDs (s : St) : List A → Option (List D)
  | [] => some []
  | a :: r => match toD s a, toDs s r with
    | some x, some xs => some (x :: xs)
    | _, _ => none

theorem toDs_get {s : St} : ∀ {as : List A} {ds : List D}, toDs s as = some ds → as.length = ds.length ∧ ∀ (j : Nat) (c : D), ds[j]? = some c → ∃ a, as[j]? = some a ∧ toD s a = some c
  | [], ds, h => by simp [toDs] at h; subst h; exact ⟨rfl, by simp⟩
  | a :: r, ds, h => by
    unfold toDs at h
    split at h
    · rename_i x xs h1 h2
      simp at h; subst h
      obtain ⟨hl, hg⟩ := toDs_get h2
      refine ⟨by simp [hl], fun j c hj => ?_⟩
      cases j with
      | zero => simp at hj; subst hj; exact ⟨a, rfl, h1⟩
      | succ j => simp at hj; exact hg j c hj
    · simp at h

/-! ### Stores -/
theorem getD_splice (cur : Array Value) (p : Nat) (vs : List Value) (h : p + vs.length ≤ cur.size) (j : Nat) :
    ((cur.toList.take p ++ vs ++ cur.toList.drop (p + vs.length)).toArray).getD j undef = if p ≤ j ∧ j < p + vs.length then vs.getD (j - p) undef else cur.getD j undef := by
  simp only [Array.getD_eq_getD_getElem?, List.getElem?_toArray, List.getD]
  have hl : cur.toList.length = cur.size := by simp
  by_cases h1 : j < p
  · rw [if_neg (by omega), List.append_assoc, List.getElem?_append_left (by simp; omega), List.getElem?_take, if_pos h1]; simp
  · by_cases h2 : j < p + vs.length
    · rw [if_pos (by omega), List.append_assoc, List.getElem?_append_right (by simp; omega), List.getElem?_append_left (by simp; omega)]
      congr 2; simp; omega
    · rw [if_neg (by omega), List.getElem?_append_right (by simp; omega), List.getElem?_drop]
      have : p + vs.length + (j - (cur.toList.take p ++ vs).length) = j := by simp; omega
      rw [this]; simp

theorem size_splice (cur : Array Value) (p : Nat) (vs : List Value) (h : p + vs.length ≤ cur.size) : ((cur.toList.take p ++ vs ++ cur.toList.drop (p + vs.length)).toArray).size = cur.size := by
  simp; omega

theorem setRow_other (w : World) (g : Nat) (cs : Array Value) {b : Nat} (h : b ≠ g) : (w.setRow g cs).heap[b]? = w.heap[b]? := by
  simp only [World.setRow, Array.getElem?_modify]
  rw [if_neg (Ne.symm h)]
theorem setRow_size (w : World) (g : Nat) (cs : Array Value) : (w.setRow g cs).heap.size = w.heap.size := by simp [World.setRow]

theorem run_storeVar' {P : Program} {t : TypeId} {n : Nat} (hs : szT P t = some n) {w : World} {b off : Nat} {ty : TypeId} {v : Value} {cur : Array Value} (hg : w.heap[b]? = some (.cells cur ty (0, 0))) (hv : v.cells.size = n)
    (hle : off + n ≤ cur.size) (h1 : ∀ j, j < v.cells.size → oneV (v.cells.getD j undef) = true) :
    (storeVar t ⟨b, off, none⟩ v).run P w = .ok () (w.setRow b (cur.toList.take off ++ v.cells.toList ++ cur.toList.drop (off + v.cells.toList.length)).toArray) := by
  have hst := run_storeCells_at P b off ty v.cells.toList 0 cur w hg (by simp; omega) (fun u hu => by
    obtain ⟨j, hj, rfl⟩ := List.mem_iff_getElem.1 hu
    have := h1 j (by simpa using hj)
    simp at hj
    simp [Array.getD_eq_getD_getElem?, hj] at this
    exact oneV_cell (by simpa using this))
  simp only [Nat.add_zero] at hst
  unfold storeVar
  simp only [Sem.run_bind, run_sizeOf' hs, Result.andThen_ok, hv, ne_eq, not_true_eq_false, if_false, hst]

def storeA (P : Program) (s : St) (t : TypeId) (a x : A) : Option Dl := match szT P t, cellsA x with
  | some n, some us => if us.length = n then match a with
    | .ptr m o => match s.o m with
      | .cells cs => if o + n ≤ cs.length then some ⟨none, [(m, .cells (cs.take o ++ us ++ cs.drop (o + us.length)))], none⟩ else none
      | _ => none
    | .pel m k i o => match s.o m with
      | .arr k' rows => match rows[i]?, toDs s us with
        | some row, some ds => if k = k' ∧ o + n ≤ row.length then some ⟨none, [(m, .arr k (rows.set i (row.take o ++ ds ++ row.drop (o + ds.length))))], none⟩ else none
        | _, _ => none
      | _ => none
    | _ => none
    else none
  | _, _ => none

theorem storeA_rep {P : Program} {N : Fr} {s : St} {δ : Dl} {φ : Map} {Pr : Pro} {ac : Act} {w : World} (hI : Inv N s φ Pr ac w) {t : TypeId} {va vx : Value} {a x : A} (ha : ARep w φ Pr va a) (hx : ARep w φ Pr vx x)
    (h : storeA P s t a x = some δ) : ∃ w', (Instr.storeAt t va vx).run P w = .ok () w' ∧ Inv N (s.app δ) φ Pr ac w' ∧ Adv w φ Pr s.o w' φ Pr (s.app δ).o := by
  unfold storeA at h
  split at h
  case h_2 => simp at h
  rename_i n us hs hus
  split at h
  case isFalse => simp at h
  rename_i hn
  have hcr := cellsA_rep hx hus
  have hsz : vx.cells.size = n := by rw [hcr.1, hn]
  have hone : ∀ j, j < vx.cells.size → oneV (vx.cells.getD j undef) = true := fun j hj => by
    have : us[j]? = some (us[j]'(by rw [hcr.1] at hj; exact hj)) := List.getElem?_eq_getElem _
    exact (hcr.2 j _ this).1
  -- what stands at one place of a live object's block is written
  have fin : ∀ (m : Nm) (X X' : Ob) (b off : Nat) (cur : Array Value) (ty : TypeId), s.o m = X → live X = true → live X' = true → blockOf φ m = some b → va = .pointer (some ⟨b, off, none⟩) → w.heap[b]? = some (.cells cur ty (0, 0)) →
      off + n ≤ cur.size → (∀ w', w'.heap[b]? = some (.cells (cur.toList.take off ++ vx.cells.toList ++ cur.toList.drop (off + vx.cells.toList.length)).toArray ty (0, 0)) → Later w φ Pr w' φ Pr → obRep w' φ Pr m X') →
      ∃ w', (Instr.storeAt t va vx).run P w = .ok () w' ∧ Inv N ⟨s.t, upd s.o m X', s.u, s.p⟩ φ Pr ac w' ∧ Adv w φ Pr s.o w' φ Pr (upd s.o m X') := by
    intro m X X' b off cur ty hX hlX hlX' hb hva hg hle hrep
    have hlive : Live φ s.o b := ⟨m, by rw [hX]; exact hlX, hb⟩
    refine ⟨_, by rw [hva]; simp only [Instr.storeAt, Instr.sureAddr, Sem.run_bind, Sem.run_pure, Result.andThen_ok]; exact run_storeVar' hs hg hsz hle hone, ?_⟩
    have hoth : ∀ y, y ≠ m → (upd s.o m X' y = s.o y ∨ upd s.o m X' y = .dead) ∧ φ y = φ y := fun y hy => ⟨.inl (upd_ne _ _ hy), rfl⟩
    have hA : Adv w φ Pr s.o (w.setRow b (cur.toList.take off ++ vx.cells.toList ++ cur.toList.drop (off + vx.cells.toList.length)).toArray) φ Pr (upd s.o m X') :=
      Adv.step hI.heap rfl rfl rfl (by rw [setRow_size]; exact Nat.le_refl _) (fun b' _ hn' => setRow_other _ _ _ (fun e => hn' (e ▸ hlive))) m (fun _ _ h => h) hoth (fun b' _ hb' => by
        rw [hb] at hb'; simp at hb'; subst hb'; exact .inl hlive)
    have hL := hA.later hI.heap (fun _ _ h => h)
    have hH := Heap.step hI.heap hL (by rw [setRow_size]; exact Nat.le_refl _) m (o' := upd s.o m X') (by rw [upd_same]; exact hrep _ (setRow_heap w b cur _ ty (0, 0) hg) hL) hoth
      (fun b' hb' => by rw [setRow_size]; exact hI.heap.lt m b' hb')
      (fun y b' hy hly hby => setRow_other _ _ _ (fun e => hy (by
        subst e
        rw [upd_ne _ _ hy] at hly
        exact hI.heap.apart y m b' hly (by rw [hX]; exact hlX) hby hb)))
      (fun y b' hy hly _ hby hbm => hy (by
        rw [upd_ne _ _ hy] at hly
        exact hI.heap.apart y m b' hly (by rw [hX]; exact hlX) hby hbm))
    exact ⟨hI.later hL hH hI.used, hA⟩
  split at h
  · rename_i m o
    split at h
    · rename_i cs ho
      split at h
      · rename_i hle
        simp only [Option.some.injEq] at h; subst h
        cases ha with
        | @ptr _ _ b off l hl hla =>
          have hr := hI.heap.rep m
          rw [ho] at hr
          obtain ⟨b', off', xs, ty, hφ, hh, hszz, hcc, hno⟩ := hr
          rw [hl] at hφ; simp at hφ; subst hφ
          simp at hla; obtain ⟨rfl, rfl⟩ := hla
          have hb : blockOf φ m = some b' := by simp [blockOf, hl]
          refine fin m (.cells cs) (.cells (cs.take o ++ us ++ cs.drop (o + us.length))) b' (off' + o) xs ty ho rfl rfl hb rfl hh (by omega) (fun w' hg' hL => ?_)
          have hvl : vx.cells.toList.length = us.length := by simp [hcr.1]
          refine ⟨b', off', _, ty, hl, hg', by rw [size_splice _ _ _ (by rw [hvl]; omega)]; simp; omega, fun j c hj => ?_, hno⟩
          rw [getD_splice _ _ _ (by rw [hvl]; omega), hvl]
          by_cases h1 : j < o
          · rw [if_neg (by omega)]
            rw [List.append_assoc, List.getElem?_append_left (by simp; omega), List.getElem?_take, if_pos h1] at hj
            exact ⟨(hcc j c hj).1, (hcc j c hj).2.later hL⟩
          · by_cases h2 : j < o + us.length
            · rw [if_pos (by omega)]
              rw [List.append_assoc, List.getElem?_append_right (by simp; omega), List.getElem?_append_left (by simp; omega)] at hj
              have e1 : j - (cs.take o).length = off' + j - (off' + o) := by simp; omega
              rw [e1] at hj
              have := hcr.2 _ c hj
              have eg : vx.cells.toList.getD (off' + j - (off' + o)) undef = vx.cells.getD (off' + j - (off' + o)) undef := by simp [List.getD, Array.getD_eq_getD_getElem?]
              rw [eg]; exact ⟨this.1, this.2.later hL⟩
            · rw [if_neg (by omega)]
              rw [List.getElem?_append_right (by simp; omega), List.getElem?_drop] at hj
              have e1 : o + us.length + (j - (cs.take o ++ us).length) = j := by simp; omega
              rw [e1] at hj
              exact ⟨(hcc j c hj).1, (hcc j c hj).2.later hL⟩
      · simp at h
    · simp at h
  · rename_i m k i o
    split at h
    · rename_i k' rows ho
      split at h
      · rename_i row ds hrow hds
        split at h
        · rename_i hk
          obtain ⟨rfl, hle⟩ := hk
          simp only [Option.some.injEq] at h; subst h
          obtain ⟨hdl, hdg⟩ := toDs_get hds
          cases ha with
          | @pel _ _ _ _ b off l hl hla =>
            have hr := hI.heap.rep m
            rw [ho] at hr
            obtain ⟨l', hφ, hcap, hkk, hxx⟩ := hr
            rw [hl] at hφ; simp at hφ; subst hφ
            have hil := (List.getElem?_eq_some_iff.1 hrow).1
            have hc0 : l.cap ≠ 0 := by omega
            obtain ⟨b', off', xs, ty, ha', hh, hszz, hcc, hno⟩ := hxx hc0
            rw [hla] at ha'; simp at ha'; obtain ⟨rfl, rfl⟩ := ha'
            have hb : blockOf φ m = some b := by simp [blockOf, hl, hc0, hla]
            have hrl := hkk i row hrow
            have hik : (i + 1) * k ≤ l.cap * k := Nat.mul_le_mul_right k (by omega)
            rw [Nat.add_mul, Nat.one_mul] at hik
            have hvl : vx.cells.toList.length = ds.length := by simp [hcr.1, ← hdl]
            have hrow' : (row.take o ++ ds ++ row.drop (o + ds.length)).length = k := by simp; omega
            refine fin m (.arr k rows) (.arr k (rows.set i (row.take o ++ ds ++ row.drop (o + ds.length)))) b (off + i * k + o) xs ty ho rfl rfl hb rfl hh (by omega) (fun w' hg' hL => ?_)
            refine ⟨l, hl, by simpa using hcap, fun i' row' hi' => ?_, fun _ => ⟨b, off, _, ty, hla, hg', by rw [size_splice _ _ _ (by rw [hvl]; omega)]; exact hszz, fun i' row' j c hi' hj => ?_, hno⟩⟩
            · rw [List.getElem?_set] at hi'
              split at hi'
              · simp only [Option.some.injEq] at hi'; subst hi'; exact hrow'
              · exact hkk i' row' hi'
            · rw [getD_splice _ _ _ (by rw [hvl]; omega), hvl]
              rw [List.getElem?_set] at hi'
              split at hi'
              · rename_i e; subst e
                simp only [Option.some.injEq] at hi'; subst hi'
                have hjk : j < k := by rw [← hrow']; exact (List.getElem?_eq_some_iff.1 hj).1
                by_cases h1 : j < o
                · rw [if_neg (by omega)]
                  rw [List.append_assoc, List.getElem?_append_left (by simp; omega), List.getElem?_take, if_pos h1] at hj
                  exact (hcc i row j c hrow hj).later hL
                · by_cases h2 : j < o + ds.length
                  · rw [if_pos (by omega)]
                    rw [List.append_assoc, List.getElem?_append_right (by simp; omega), List.getElem?_append_left (by simp; omega)] at hj
                    have e1 : j - (row.take o).length = off + i * k + j - (off + i * k + o) := by simp; omega
                    rw [e1] at hj
                    obtain ⟨a', ha', hta⟩ := hdg _ c hj
                    have hrep := (hcr.2 _ a' ha').2
                    have eg : vx.cells.toList.getD (off + i * k + j - (off + i * k + o)) undef = vx.cells.getD (off + i * k + j - (off + i * k + o)) undef := by simp [List.getD, Array.getD_eq_getD_getElem?]
                    rw [eg]
                    exact (toD_rep hI hrep hta).later hL
                  · rw [if_neg (by omega)]
                    rw [List.getElem?_append_right (by simp; omega), List.getElem?_drop] at hj
                    have e1 : o + ds.length + (j - (row.take o ++ ds).length) = j := by simp; omega
                    rw [e1] at hj
                    exact (hcc i row j c hrow hj).later hL
              · rename_i hne
                have hjk : j < k := by rw [← hkk i' row' hi']; exact (List.getElem?_eq_some_iff.1 hj).1
                have hnot : ¬ (off + i * k + o ≤ off + i' * k + j ∧ off + i' * k + j < off + i * k + o + ds.length) := by
                  rintro ⟨h1, h2⟩
                  rcases Nat.lt_or_gt_of_ne hne with hlt | hgt
                  · have : (i + 1) * k ≤ i' * k := Nat.mul_le_mul_right k hlt
                    rw [Nat.add_mul, Nat.one_mul] at this
                    omega
                  · have : (i' + 1) * k ≤ i * k := Nat.mul_le_mul_right k hgt
                    rw [Nat.add_mul, Nat.one_mul] at this
                    omega
                rw [if_neg hnot]
                exact (hcc i' row' j c hi' hj).later hL
        · simp at h
      · simp at h
    · simp at h
  · simp at h

end Go.Proofs.YtamefliipjhpoaaGreat.Ab
