/- Forgetting and renaming objects: the same state with fewer names, and others. -/
import Derived.Test.YtamefliipjhpoaaGreatAbsW
set_option autoImplicit false
namespace Go.Proofs.YtamefliipjhpoaaGreat.Ab
open Go

mutual
/-- A value with its names changed. -/
def ren (ρ : Nm → Nm) : A → A
  | .os n k lo len => .os (ρ n) k lo len
  | .ox n k lo len => .ox (ρ n) k lo len
  | .ptr n o => .ptr (ρ n) o
  | .pel n k i o => .pel (ρ n) k i o
  | .ag cs => .ag (renL ρ cs)
  | .fn f cs => .fn f (renL ρ cs)
  | .mp n => .mp (ρ n)
  | .ifc t x => .ifc t (ren ρ x)
  | .tup cs => .tup (renL ρ cs)
  | .d x => .d x
  | .sx r k rows => .sx r k rows
  | .im r cells => .im r cells
  | .und => .und
def renL (ρ : Nm → Nm) : List A → List A
  | [] => []
  | a :: l => ren ρ a :: renL ρ l
end
def renO (ρ : Nm → Nm) : Ob → Ob
  | .cells cs => .cells (renL ρ cs)
  | .map es => .map (es.map fun q => (ren ρ q.1, ren ρ q.2))
  | X => X

mutual
/-- All names of a value are among these. -/
def inD (dm : Nm → Bool) : A → Bool
  | .os n _ _ _ | .ox n _ _ _ | .ptr n _ | .pel n _ _ _ | .mp n => dm n
  | .ag cs | .fn _ cs | .tup cs => inDL dm cs
  | .ifc _ x => inD dm x
  | .d _ | .sx _ _ _ | .im _ _ | .und => true
def inDL (dm : Nm → Bool) : List A → Bool
  | [] => true
  | a :: l => inD dm a && inDL dm l
end
def inDO (dm : Nm → Bool) : Ob → Bool
  | .cells cs => inDL dm cs
  | .map es => es.all fun q => inD dm q.1 && inD dm q.2
  | _ => true

theorem renL_get (ρ : Nm → Nm) : ∀ (l : List A) (j : Nat), (renL ρ l)[j]? = (l[j]?).map (ren ρ)
  | [], j => by simp [renL]
  | a :: l, 0 => by simp [renL]
  | a :: l, j + 1 => by simp [renL, renL_get ρ l j]
theorem renL_length (ρ : Nm → Nm) : ∀ (l : List A), (renL ρ l).length = l.length
  | [] => rfl
  | a :: l => by simp [renL, renL_length ρ l]
theorem inDL_get {dm : Nm → Bool} : ∀ {l : List A} {j : Nat} {c : A}, inDL dm l = true → l[j]? = some c → inD dm c = true
  | a :: l, 0, c, h, e => by simp at e; subst e; simp [inDL] at h; exact h.1
  | a :: l, j + 1, c, h, e => by simp [inDL] at h; exact inDL_get h.2 (by simpa using e)

def mapR (φ : Map) (ρ : Nm → Nm) (dm : Nm → Bool) : Map := fun n => if dm n then φ (ρ n) else none
theorem mapR_in {φ : Map} {ρ : Nm → Nm} {dm : Nm → Bool} {n : Nm} (h : dm n = true) : mapR φ ρ dm n = φ (ρ n) := by simp [mapR, h]

theorem ARep.ren {w : World} {φ : Map} {Pr : Pro} {ρ : Nm → Nm} {dm : Nm → Bool} {x : Value} {b : A} (h : ARep w φ Pr x b) : ∀ {a : A}, b = Ab.ren ρ a → inD dm a = true → ARep w (mapR φ ρ dm) Pr x a := by
  induction h with
  | d h => intro a e hd; cases a <;> simp [Ab.ren] at e; subst e; exact .d h
  | sx h => intro a e hd; cases a <;> simp [Ab.ren] at e; obtain ⟨rfl, rfl, rfl⟩ := e; exact .sx h
  | os hl hle ha => intro a e hd; cases a <;> simp [Ab.ren] at e; obtain ⟨rfl, rfl, rfl, rfl⟩ := e; exact .os (by rw [mapR_in hd]; exact hl) hle ha
  | ox hl hle ha => intro a e hd; cases a <;> simp [Ab.ren] at e; obtain ⟨rfl, rfl, rfl, rfl⟩ := e; exact .ox (by rw [mapR_in hd]; exact hl) hle ha
  | ptr hl ha => intro a e hd; cases a <;> simp [Ab.ren] at e; obtain ⟨rfl, rfl⟩ := e; exact .ptr (by rw [mapR_in hd]; exact hl) ha
  | pel hl ha => intro a e hd; cases a <;> simp [Ab.ren] at e; obtain ⟨rfl, rfl, rfl, rfl⟩ := e; exact .pel (by rw [mapR_in hd]; exact hl) ha
  | im val hc hd' => intro a e hd; cases a <;> simp [Ab.ren] at e; obtain ⟨rfl, rfl⟩ := e; exact .im val hc hd'
  | ag hn h1 _ ih =>
    intro a e hd; cases a <;> simp [Ab.ren] at e
    rename_i cs'
    subst e
    refine .ag (by rw [hn, renL_length]) h1 (fun j c hj => ih j _ (by rw [renL_get, hj]; rfl) rfl (inDL_get (by simpa [inD] using hd) hj))
  | fn hn _ ih =>
    intro a e hd; cases a <;> simp [Ab.ren] at e
    rename_i cs'
    obtain ⟨rfl, rfl⟩ := e
    refine .fn (by rw [hn, renL_length]) (fun j c hj => ih j _ (by rw [renL_get, hj]; rfl) rfl (inDL_get (by simpa [inD] using hd) hj))
  | mp hl ha => intro a e hd; cases a <;> simp [Ab.ren] at e; subst e; exact .mp (by rw [mapR_in hd]; exact hl) ha
  | ifc _ ih =>
    intro a e hd; cases a <;> simp [Ab.ren] at e
    obtain ⟨rfl, rfl⟩ := e
    exact .ifc (ih rfl (by simpa [inD] using hd))
  | tup hn _ ih =>
    intro a e hd; cases a <;> simp [Ab.ren] at e
    rename_i cs'
    subst e
    refine .tup (by rw [hn, renL_length]) (fun j c hj => ih j _ (by rw [renL_get, hj]; rfl) rfl (inDL_get (by simpa [inD] using hd) hj))
  | und => intro a e hd; cases a <;> simp [Ab.ren] at e; exact .und

/-! ### Told with less: empty slices are alike; that a slice is full may be forgotten -/
def emptyA : A → Bool
  | .d (.sl _ _ []) | .sx _ _ [] => true
  | _ => false
def emptyD : A → Bool
  | .d (.sl _ _ []) => true
  | _ => false
def SubC (a b : A) : Prop := a = b ∨ (emptyA a = true ∧ emptyD b = true) ∨ ∃ r k rows, a = .sx r k rows ∧ b = .d (.sl r k rows)
def SubL : List A → List A → Prop
  | [], [] => True
  | a :: l, b :: m => SubC a b ∧ SubL l m
  | _, _ => False
def Sub : A → A → Prop
  | .ag cs, .ag ds => SubL cs ds
  | a, b => SubC a b
def SubO : Ob → Ob → Prop
  | .cells cs, .cells ds => SubL cs ds
  | X, Y => X = Y

theorem SubC.refl (a : A) : SubC a a := .inl rfl
theorem SubL.refl : ∀ (l : List A), SubL l l
  | [] => trivial
  | a :: l => ⟨.refl a, SubL.refl l⟩
theorem Sub.refl (a : A) : Sub a a := by
  cases a with
  | ag cs => exact SubL.refl cs
  | _ => exact .inl rfl
theorem SubO.refl (X : Ob) : SubO X X := by
  cases X with
  | cells cs => exact SubL.refl cs
  | _ => rfl
theorem SubC.empty (r k r' k' : Nat) : SubC (.d (.sl r k [])) (.d (.sl r' k' [])) := .inr (.inl ⟨rfl, rfl⟩)
theorem SubC.nil (r k r' k' : Nat) : SubC (.sx r k []) (.d (.sl r' k' [])) := .inr (.inl ⟨rfl, rfl⟩)
theorem SubC.full (r k : Nat) (rows : List (List D)) : SubC (.sx r k rows) (.d (.sl r k rows)) := .inr (.inr ⟨r, k, rows, rfl, rfl⟩)
theorem Sub.of {a b : A} (h : SubC a b) : Sub a b := by
  cases a with
  | ag cs =>
    rcases h with rfl | ⟨h, _⟩ | ⟨_, _, _, h, _⟩
    · exact SubL.refl cs
    · simp [emptyA] at h
    · simp at h
  | _ => exact h

theorem SubC.rep {w : World} {φ : Map} {Pr : Pro} {x : Value} {a b : A} (h : SubC a b) (hx : ARep w φ Pr x a) : ARep w φ Pr x b := by
  rcases h with rfl | ⟨h1, h2⟩ | ⟨r, k, rows, rfl, rfl⟩
  · exact hx
  · have hv : ∃ ad cap, x = .slice ad 0 cap := by
      cases hx with
      | d hd =>
        cases hd with
        | v hp => simp [emptyA] at h1
        | @sl ad cap r k n rows val hn hc hk ha hdd =>
          cases rows with
          | nil => simp at hn; subst hn; exact ⟨_, _, rfl⟩
          | cons _ _ => simp [emptyA] at h1
      | @sx ad n r k rows hd =>
        cases hd with
        | sl val hn hc hk ha hdd =>
          cases rows with
          | nil => simp at hn; subst hn; exact ⟨_, _, rfl⟩
          | cons _ _ => simp [emptyA] at h1
      | _ => simp [emptyA] at h1
    obtain ⟨ad, cap, rfl⟩ := hv
    cases b with
    | d c =>
      cases c with
      | v _ => simp [emptyD] at h2
      | sl r k rows =>
        cases rows with
        | nil => exact .d (.sl (fun _ _ => undef) rfl (Nat.zero_le _) (by simp) (by simp) (by simp))
        | cons _ _ => simp [emptyD] at h2
    | _ => simp [emptyD] at h2
  · cases hx with
    | sx h => exact .d h

theorem SubL.get : ∀ {l m : List A}, SubL l m → l.length = m.length ∧ ∀ (j : Nat) (b : A), m[j]? = some b → ∃ a, l[j]? = some a ∧ SubC a b
  | [], [], _ => ⟨rfl, by simp⟩
  | a :: l, b :: m, h => by
    obtain ⟨h1, h2⟩ := SubL.get h.2
    refine ⟨by simp [h1], fun j c hj => ?_⟩
    cases j with
    | zero => simp at hj; subst hj; exact ⟨a, rfl, h.1⟩
    | succ j => simpa using h2 j c (by simpa using hj)
  | [], _ :: _, h => h.elim
  | _ :: _, [], h => h.elim

theorem Sub.rep {w : World} {φ : Map} {Pr : Pro} {x : Value} {a b : A} (h : Sub a b) (hx : ARep w φ Pr x a) : ARep w φ Pr x b := by
  unfold Sub at h
  split at h
  · obtain ⟨h1, h2⟩ := h.get
    cases hx with
    | ag hn h3 h4 => exact .ag (by rw [hn, h1]) h3 (fun j c hj => by
        obtain ⟨a, ha, hs⟩ := h2 j c hj
        exact hs.rep (h4 j a ha))
  · exact SubC.rep h hx

theorem SubO.rep {w : World} {φ : Map} {Pr : Pro} {n : Nm} {X Y : Ob} (h : SubO X Y) (hx : obRep w φ Pr n X) : obRep w φ Pr n Y := by
  unfold SubO at h
  split at h
  · obtain ⟨h1, h2⟩ := h.get
    obtain ⟨b, off, xs, t, k1, k2, k3, k4, k5⟩ := hx
    exact ⟨b, off, xs, t, k1, k2, by rw [← h1]; exact k3, fun j c hj => by
      obtain ⟨a, ha, hs⟩ := h2 j c hj
      exact ⟨(k4 j a ha).1, hs.rep (k4 j a ha).2⟩, k5⟩
  · subst h; exact hx
theorem SubO.live {X Y : Ob} (h : SubO X Y) : live X = live Y := by
  unfold SubO at h
  split at h
  · rfl
  · rw [h]

theorem blockOf_mapR {φ : Map} {ρ : Nm → Nm} {dm : Nm → Bool} {n : Nm} {b : Nat} (h : blockOf (mapR φ ρ dm) n = some b) : dm n = true ∧ blockOf φ (ρ n) = some b := by
  unfold blockOf mapR at h
  by_cases hd : dm n = true
  · rw [if_pos hd] at h; exact ⟨hd, h⟩
  · rw [if_neg hd] at h; simp at h

/-- Fewer names, others. -/
theorem Weak.ren {N : Fr} {s s' : St} (ρ : Nm → Nm) (dm : Nm → Bool) (l : List (Nat × A)) (hp : s'.p = s.p) (ht : s'.t = T l) (hl : ∀ q ∈ l, Sub (s.t q.1) (Ab.ren ρ q.2) ∧ inD dm q.2 = true)
    (ho : ∀ n, s'.o n = .dead ∨ (dm n = true ∧ SubO (s.o (ρ n)) (renO ρ (s'.o n)) ∧ inDO dm (s'.o n) = true)) (hinj : ∀ n m, dm n = true → dm m = true → ρ n = ρ m → n = m)
    (hown : ∀ n, ¬ own s.p n → dm n = true ∧ ρ n = n) (hu : ∀ n, dm n = true → s.u (ρ n) = true → s'.u n = true) : Weak N s s' := by
  refine ⟨hp, fun φ Pr ac w hI => ⟨mapR φ ρ dm, Pr, ⟨⟨fun n => ?_, fun n m b hn hm hbn hbm => ?_, fun n b hb => ?_, hI.heap.cell⟩, fun n hn => ?_, hI.size, fun x => ?_, hI.defers⟩, ?_⟩⟩
  · rcases ho n with h | ⟨hd, he, hin⟩
    · rw [h]; trivial
    · have hr := he.rep (hI.heap.rep (ρ n))
      cases hX : s'.o n with
      | dead => trivial
      | cells cs =>
        rw [hX] at hr hin
        obtain ⟨b, off, xs, t, h1, h2, h3, h4, h5⟩ := hr
        refine ⟨b, off, xs, t, by rw [mapR_in hd]; exact h1, h2, by rw [renL_length] at h3; exact h3, fun j c hj => ?_, h5⟩
        obtain ⟨k1, k2⟩ := h4 j (Ab.ren ρ c) (by rw [renL_get, hj]; rfl)
        exact ⟨k1, k2.ren rfl (inDL_get hin hj)⟩
      | arr k rows =>
        rw [hX] at hr
        obtain ⟨l', h1, h2⟩ := hr
        exact ⟨l', by rw [mapR_in hd]; exact h1, h2⟩
      | froz k rows =>
        rw [hX] at hr
        obtain ⟨l', h1, h2⟩ := hr
        exact ⟨l', by rw [mapR_in hd]; exact h1, h2⟩
      | map es =>
        rw [hX] at hr hin
        obtain ⟨b, ents, ck, h1, h2, h3, h4, h5⟩ := hr
        refine ⟨b, ents, ck, by rw [mapR_in hd]; exact h1, h2, by rw [List.length_map] at h3; exact h3, fun j q hj => ?_, h5⟩
        obtain ⟨e, k1, k2, k3⟩ := h4 j (Ab.ren ρ q.1, Ab.ren ρ q.2) (by rw [List.getElem?_map, hj]; rfl)
        have hq := List.all_eq_true.1 hin q (List.mem_of_getElem? hj)
        rw [Bool.and_eq_true] at hq
        exact ⟨e, k1, k2.ren rfl hq.1, k3.ren rfl hq.2⟩
  · obtain ⟨d1, b1⟩ := blockOf_mapR hbn
    obtain ⟨d2, b2⟩ := blockOf_mapR hbm
    have lv : ∀ n, live (s'.o n) = true → live (s.o (ρ n)) = true := fun n h => by
      rcases ho n with h' | ⟨_, he, _⟩
      · rw [h'] at h; simp [live] at h
      · rw [he.live]; cases hX : s'.o n <;> rw [hX] at h <;> first | rfl | simp [live] at h
    exact hinj n m d1 d2 (hI.heap.apart _ _ b (lv n hn) (lv m hm) b1 b2)
  · exact hI.heap.lt _ b (blockOf_mapR hb).2
  · by_cases hd : dm n = true
    · exact hu n hd (hI.used _ (by rw [mapR_in hd] at hn; exact hn))
    · exact absurd (by simp [mapR, hd]) hn
  · rw [ht]
    refine T_rep (f := fun d => ac.tmps.getD d undef) (fun q hq => ?_) x
    exact ((hl q hq).1.rep (hI.tmps q.1)).ren rfl (hl q hq).2
  · refine ⟨rfl, rfl, rfl, Nat.le_refl _, fun _ _ _ => rfl, fun _ _ _ h => h, fun _ _ _ h _ => .inl h, fun r b x hpr hb => absurd (hI.heap.cell r b x hpr) (by omega), fun b hb => ?_, fun n l' hno hl' => ?_⟩
    · obtain ⟨n, hn, hbn⟩ := hb
      left
      refine ⟨ρ n, ?_, (blockOf_mapR hbn).2⟩
      rcases ho n with h' | ⟨_, he, _⟩
      · rw [h'] at hn; simp [live] at hn
      · rw [he.live]; cases hX : s'.o n <;> rw [hX] at hn <;> first | rfl | simp [live] at hn
    · obtain ⟨h1, h2⟩ := hown n hno
      rw [mapR_in h1, h2]; exact hl'

end Go.Proofs.YtamefliipjhpoaaGreat.Ab
