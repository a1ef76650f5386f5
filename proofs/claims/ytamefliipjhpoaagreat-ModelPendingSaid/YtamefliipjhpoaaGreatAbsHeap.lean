/- How a world goes on: what an operation may change, and that the heap's relation is kept. -/
import Derived.Test.YtamefliipjhpoaaGreatAbsRes
import Derived.Deep.AppendSrc
set_option autoImplicit false
namespace Go.Proofs.YtamefliipjhpoaaGreat.Ab
open Go

/-- Block b is some live object's. -/
def Live (φ : Map) (o : Nm → Ob) (b : Nat) : Prop := ∃ n, live (o n) = true ∧ blockOf φ n = some b

structure Adv (w : World) (φ : Map) (Pr : Pro) (o : Nm → Ob) (w' : World) (φ' : Map) (Pr' : Pro) (o' : Nm → Ob) : Prop where
  os : w'.os = w.os
  tape : w'.tape = w.tape
  output : w'.output = w.output
  size : w.heap.size ≤ w'.heap.size
  keep : ∀ b, b < w.heap.size → ¬ Live φ o b → w'.heap[b]? = w.heap[b]?
  pro : ∀ r b x, Pr r b x → Pr' r b x
  old : ∀ r b x, Pr' r b x → b < w.heap.size → Pr r b x ∨ (r = 0 ∧ Live φ o b)
  new : ∀ r b x, Pr' r b x → w.heap.size ≤ b → r = 0
  live : ∀ b, Live φ' o' b → Live φ o b ∨ w.heap.size ≤ b
  map : ∀ n l, φ n = some l → φ' n = some l

theorem Adv.refl {w : World} {φ : Map} {Pr : Pro} {o : Nm → Ob} (h : Heap w φ Pr o) : Adv w φ Pr o w φ Pr o :=
  ⟨rfl, rfl, rfl, Nat.le_refl _, fun _ _ _ => rfl, fun _ _ _ h => h, fun _ _ _ h _ => .inl h, fun r b x hp hb => absurd (h.cell r b x hp) (by omega), fun _ h => .inl h, fun _ _ h => h⟩

theorem Adv.trans {w w1 w2 : World} {φ φ1 φ2 : Map} {Pr Pr1 Pr2 : Pro} {o o1 o2 : Nm → Ob} (h : Adv w φ Pr o w1 φ1 Pr1 o1) (k : Adv w1 φ1 Pr1 o1 w2 φ2 Pr2 o2) : Adv w φ Pr o w2 φ2 Pr2 o2 where
  os := k.os.trans h.os
  tape := k.tape.trans h.tape
  output := k.output.trans h.output
  size := Nat.le_trans h.size k.size
  keep b hb hn := by
    rw [k.keep b (Nat.lt_of_lt_of_le hb h.size) (fun hl => ?_), h.keep b hb hn]
    rcases h.live b hl with hl | hl
    · exact hn hl
    · omega
  pro r b x hp := k.pro r b x (h.pro r b x hp)
  old r b x hp hb := by
    rcases k.old r b x hp (Nat.lt_of_lt_of_le hb h.size) with h1 | ⟨h1, h2⟩
    · exact h.old r b x h1 hb
    · rcases h.live b h2 with h3 | h3
      · exact .inr ⟨h1, h3⟩
      · omega
  new r b x hp hb := by
    by_cases hlt : b < w1.heap.size
    · rcases k.old r b x hp hlt with h1 | ⟨h1, _⟩
      · exact h.new r b x h1 hb
      · exact h1
    · exact k.new r b x hp (by omega)
  live b hl := by
    rcases k.live b hl with h1 | h1
    · exact h.live b h1
    · exact .inr (Nat.le_trans h.size h1)
  map n l hl := k.map n l (h.map n l hl)

theorem Heap.notLive {w : World} {φ : Map} {Pr : Pro} {o : Nm → Ob} (h : Heap w φ Pr o) {r b x : Nat} (hp : Pr r b x) : ¬ Live φ o b := by
  rintro ⟨n, hn, hb⟩
  have hr := h.rep n
  cases ho : o n with
  | dead => rw [ho] at hn; simp [live] at hn
  | froz k rows => rw [ho] at hn; simp [live] at hn
  | cells cs =>
    rw [ho] at hr
    obtain ⟨b', off, xs, t, hφ, _, _, _, hno⟩ := hr
    simp [blockOf, hφ] at hb
    subst hb
    exact hno r x hp
  | map es =>
    rw [ho] at hr
    obtain ⟨b', ents, ck, hφ, _, _, _, hno⟩ := hr
    simp [blockOf, hφ] at hb
    subst hb
    exact hno r x hp
  | arr k rows =>
    rw [ho] at hr
    obtain ⟨l, hφ, _, _, hx⟩ := hr
    unfold blockOf at hb
    rw [hφ] at hb
    simp only [Option.bind_some] at hb
    split at hb
    · simp at hb
    · rename_i hc
      obtain ⟨b', off, xs, t, ha, _, _, _, hno⟩ := hx hc
      rw [ha] at hb; simp at hb; subst hb
      exact hno r x hp

theorem Adv.later {w w' : World} {φ φ' : Map} {Pr Pr' : Pro} {o o' : Nm → Ob} (h : Heap w φ Pr o) (ha : Adv w φ Pr o w' φ' Pr' o') (hm : ∀ n l, φ n = some l → φ' n = some l) : Later w φ Pr w' φ' Pr' :=
  ⟨fun r b x hp => World.cell?_of_block (ha.keep b (h.cell r b x hp) (h.notLive hp)), ha.pro, hm⟩

theorem obRep.later {w w' : World} {φ φ' : Map} {Pr Pr' : Pro} {n : Nm} {X : Ob} (hl : Later w φ Pr w' φ' Pr') (hb : live X = true → ∀ b, blockOf φ n = some b → w'.heap[b]? = w.heap[b]?)
    (hp : live X = true → ∀ b r x, blockOf φ n = some b → Pr' r b x → Pr r b x) (h : obRep w φ Pr n X) : obRep w' φ' Pr' n X := by
  cases X with
  | dead => trivial
  | cells cs =>
    obtain ⟨b, off, xs, t, hφ, hh, hsz, hr, hno⟩ := h
    have hbk : blockOf φ n = some b := by simp [blockOf, hφ]
    exact ⟨b, off, xs, t, hl.map _ _ hφ, by rw [hb rfl b hbk]; exact hh, hsz, fun j c hj => ⟨(hr j c hj).1, (hr j c hj).2.later hl⟩, fun r x hpr => hno r x (hp rfl b r x hbk hpr)⟩
  | arr k rows =>
    obtain ⟨l, hφ, hle, hk, hx⟩ := h
    refine ⟨l, hl.map _ _ hφ, hle, hk, fun hc => ?_⟩
    obtain ⟨b, off, xs, t, ha, hh, hsz, hr, hno⟩ := hx hc
    have hbk : blockOf φ n = some b := by simp [blockOf, hφ, hc, ha]
    exact ⟨b, off, xs, t, ha, by rw [hb rfl b hbk]; exact hh, hsz, fun i row j c hi hj => (hr i row j c hi hj).later hl, fun r x hpr => hno r x (hp rfl b r x hbk hpr)⟩
  | froz k rows =>
    obtain ⟨l, hφ, hle, hd⟩ := h
    exact ⟨l, hl.map _ _ hφ, hle, hd.later hl⟩
  | map es =>
    obtain ⟨b, ents, ck, hφ, hh, hsz, hr, hno⟩ := h
    have hbk : blockOf φ n = some b := by simp [blockOf, hφ]
    refine ⟨b, ents, ck, hl.map _ _ hφ, by rw [hb rfl b hbk]; exact hh, hsz, fun j q hj => ?_, fun r x hpr => hno r x (hp rfl b r x hbk hpr)⟩
    obtain ⟨e, h1, h2, h3⟩ := hr j q hj
    exact ⟨e, h1, h2.later hl, h3.later hl⟩

/-- One name is born or changed, others stay or die; the promises stay. -/
theorem Heap.step {w w' : World} {φ φ' : Map} {Pr : Pro} {o o' : Nm → Ob} (h : Heap w φ Pr o) (hl : Later w φ Pr w' φ' Pr) (hs : w.heap.size ≤ w'.heap.size) (m : Nm) (hm : obRep w' φ' Pr m (o' m))
    (hoth : ∀ x, x ≠ m → (o' x = o x ∨ o' x = .dead) ∧ φ' x = φ x) (hblk : ∀ b, blockOf φ' m = some b → b < w'.heap.size)
    (hkeep : ∀ x b, x ≠ m → live (o' x) = true → blockOf φ x = some b → w'.heap[b]? = w.heap[b]?)
    (hap : ∀ x b, x ≠ m → live (o' x) = true → live (o' m) = true → blockOf φ x = some b → blockOf φ' m ≠ some b) : Heap w' φ' Pr o' where
  rep x := by
    by_cases e : x = m
    · subst e; exact hm
    · rcases (hoth x e).1 with h1 | h1
      · have := h.rep x
        rw [h1]
        exact obRep.later hl (fun hlv b hb => hkeep x b e (by rw [h1]; exact hlv) hb) (fun _ _ _ _ _ hp => hp) this
      · rw [h1]; trivial
  apart x y b hx hy hbx hby := by
    have bo : ∀ z, z ≠ m → blockOf φ' z = blockOf φ z := fun z hz => by unfold blockOf; rw [(hoth z hz).2]
    have lv : ∀ z, z ≠ m → live (o' z) = true → live (o z) = true := fun z hz hlz => by
      rcases (hoth z hz).1 with h1 | h1
      · rw [h1] at hlz; exact hlz
      · rw [h1] at hlz; simp [Ab.live] at hlz
    by_cases ex : x = m
    · by_cases ey : y = m
      · rw [ex, ey]
      · subst ex
        rw [bo y ey] at hby
        exact absurd hbx (hap y b ey hy hx hby)
    · by_cases ey : y = m
      · subst ey
        rw [bo x ex] at hbx
        exact absurd hby (hap x b ex hx hy hbx)
      · rw [bo x ex] at hbx; rw [bo y ey] at hby
        exact h.apart x y b (lv x ex hx) (lv y ey hy) hbx hby
  lt x b hb := by
    by_cases e : x = m
    · subst e; exact hblk b hb
    · have : blockOf φ' x = blockOf φ x := by unfold blockOf; rw [(hoth x e).2]
      rw [this] at hb
      exact Nat.lt_of_lt_of_le (h.lt x b hb) hs
  cell r b x hp := Nat.lt_of_lt_of_le (h.cell r b x hp) hs

theorem Adv.step {w w' : World} {φ φ' : Map} {Pr : Pro} {o o' : Nm → Ob} (h : Heap w φ Pr o) (hos : w'.os = w.os) (htape : w'.tape = w.tape) (hout : w'.output = w.output) (hs : w.heap.size ≤ w'.heap.size)
    (hkeep : ∀ b, b < w.heap.size → ¬ Live φ o b → w'.heap[b]? = w.heap[b]?) (m : Nm) (hmm : ∀ n l, φ n = some l → φ' n = some l)
    (hoth : ∀ x, x ≠ m → (o' x = o x ∨ o' x = .dead) ∧ φ' x = φ x) (hb : ∀ b, Ab.live (o' m) = true → blockOf φ' m = some b → Live φ o b ∨ w.heap.size ≤ b) : Adv w φ Pr o w' φ' Pr o' where
  os := hos
  tape := htape
  output := hout
  size := hs
  keep := hkeep
  pro _ _ _ hp := hp
  old _ _ _ hp _ := .inl hp
  new r b x hp hb := absurd (h.cell r b x hp) (by omega)
  live b := by
    rintro ⟨x, hx, hbx⟩
    by_cases e : x = m
    · subst e; exact hb b hx hbx
    · left
      refine ⟨x, ?_, ?_⟩
      · rcases (hoth x e).1 with h1 | h1
        · rw [h1] at hx; exact hx
        · rw [h1] at hx; simp [Ab.live] at hx
      · unfold blockOf at hbx ⊢; rw [(hoth x e).2] at hbx; exact hbx
  map n l hl := hmm n l hl

theorem upd_map {φ : Map} {n : Nm} (hn : φ n = none) (l : Option Loc) : ∀ m k, φ m = some k → upd φ n l m = some k := by
  intro m k hm
  rw [upd_ne]
  · exact hm
  · rintro rfl; rw [hn] at hm; simp at hm

theorem heap_alloc_get (w : World) (ob : Obj) : (w.alloc ob).heap[w.heap.size]? = some ob := by
  show (w.heap.push ob)[w.heap.size]? = _; simp
theorem heap_alloc_lt (w : World) (ob : Obj) {b : Nat} (h : b < w.heap.size) : (w.alloc ob).heap[b]? = w.heap[b]? := by
  show (w.heap.push ob)[b]? = _; rw [Array.getElem?_push, if_neg (by omega)]
theorem heap_alloc_size (w : World) (ob : Obj) : (w.alloc ob).heap.size = w.heap.size + 1 := by
  show (w.heap.push ob).size = _; simp

/-- A new block (behind k draws), a new name. -/
theorem Inv.born {N : Fr} {s : St} {φ : Map} {Pr : Pro} {ac : Act} {w w1 : World} (hI : Inv N s φ Pr ac w) (h1h : w1.heap = w.heap) (h1o : w1.os = w.os) (h1t : w1.tape = w.tape) (h1p : w1.output = w.output)
    {n : Nm} (hn : s.u n = false) (ob : Obj) (l : Loc) (X : Ob) {o' : Nm → Ob} (ho : ∀ x, x ≠ n → o' x = s.o x ∨ o' x = .dead) (hX : o' n = X)
    (hr : Later w φ Pr (w1.alloc ob) (upd φ n (some l)) Pr → obRep (w1.alloc ob) (upd φ n (some l)) Pr n X) (hb : ∀ b, blockOf (upd φ n (some l)) n = some b → b = w.heap.size)
    {d : Tmp} (hd : d < N.n) {v : Value} {x : A} (hv : ARep (w1.alloc ob) (upd φ n (some l)) Pr v x) :
    Inv N ⟨upd s.t d x, o', upd s.u n true, s.p⟩ (upd φ n (some l)) Pr (ac.put (some d) v) (w1.alloc ob) ∧ Adv w φ Pr s.o (w1.alloc ob) (upd φ n (some l)) Pr o' := by
  have hφ : φ n = none := by
    cases hq : φ n with
    | none => rfl
    | some l => exact absurd (hI.used n (by simp [hq])) (by rw [hn]; simp)
  have hsz : (w1.alloc ob).heap.size = w.heap.size + 1 := by rw [heap_alloc_size, h1h]
  have hold : ∀ b, b < w.heap.size → (w1.alloc ob).heap[b]? = w.heap[b]? := fun b hb => by rw [heap_alloc_lt _ _ (by rw [h1h]; exact hb), h1h]
  have hoth : ∀ x, x ≠ n → (o' x = s.o x ∨ o' x = .dead) ∧ upd φ n (some l) x = φ x := fun x hx => ⟨ho x hx, upd_ne _ _ hx⟩
  have hA : Adv w φ Pr s.o (w1.alloc ob) (upd φ n (some l)) Pr o' :=
    Adv.step hI.heap h1o h1t h1p (by omega) (fun b hb _ => hold b hb) n (upd_map hφ _) hoth (fun b _ hbn => .inr (by rw [hb b hbn]; exact Nat.le_refl _))
  have hL := hA.later hI.heap (upd_map hφ _)
  have hH : Heap (w1.alloc ob) (upd φ n (some l)) Pr o' := by
    refine Heap.step hI.heap hL (by omega) n (by rw [hX]; exact hr hL) hoth (fun b hbn => by rw [hb b hbn]; omega) (fun x b _ _ hbx => hold b (hI.heap.lt x b hbx)) (fun x b _ _ _ hbx hbn => ?_)
    have h1 := hI.heap.lt x b hbx
    have h2 := hb b hbn
    omega
  refine ⟨hI.put hL hH (fun m hm => ?_) hd hv, hA⟩
  by_cases e : m = n
  · subst e; exact upd_same _ _ _
  · rw [upd_ne _ _ e] at hm ⊢; exact hI.used m hm

end Go.Proofs.YtamefliipjhpoaaGreat.Ab
