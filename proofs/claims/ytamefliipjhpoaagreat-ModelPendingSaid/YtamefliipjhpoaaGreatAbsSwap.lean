/- Which steps change places: by what each is. -/
import Derived.Test.YtamefliipjhpoaaGreatAbsOrd2
set_option autoImplicit false
namespace Go.Proofs.YtamefliipjhpoaaGreat.Ab
open Go

inductive Kd where
  | v | l | b | a | s | c
  deriving DecidableEq

def kdOf (o : Oper) : Kd := match o.op with
  | .load _ _ => .l
  | .alloc _ | .box _ _ | .buildSlice _ _ _ => .b
  | .store _ _ _ => .s
  | .call c => match c.callee with
    | .builtin .append => .a
    | .builtin _ => .v
    | _ => .c
  | _ => .v

def pairOk (k i : Kd) : Bool := match k, i with
  | .v, _ | _, .v => true
  | .l, .l | .l, .b | .b, .l | .b, .b | .l, .c | .c, .l | .b, .c | .c, .b => true
  | .a, .l | .a, .b | .b, .a | .l, .a => true
  | _, _ => false

/-- A load that goes through no element of an object of rows. -/
def isPel : A → Bool
  | .pel _ _ _ _ => true
  | _ => false
def ptrLoad (s : St) (o : Oper) : Bool := match o.op with
  | .load _ x => !isPel (s.ev x)
  | _ => true

def Real (N : Fr) (s : St) : Prop := ∃ φ Pr ac w, Inv N s φ Pr ac w

/-- The shape of what a step leaves. -/
def Shape (s : St) (o : Oper) (δ : Dl) : Prop := (∃ a, δ.sl = o.dst.map (·, a)) ∧ (kdOf o = .s → δ.bo = none) ∧
  (kdOf o ≠ .s → (δ.ob = [] ∧ δ.bo = none) ∨ ∃ d j X, o.dst = some d ∧ s.u (.loc (d :: s.p) j) = false ∧ δ.bo = some (.loc (d :: s.p) j) ∧ (kdOf o = .b ∨ kdOf o = .a) ∧
    (δ.ob = [(.loc (d :: s.p) j, X)] ∨ ∃ n k rows, kdOf o = .a ∧ n ∈ lk s o ∧ s.o n = .arr k rows ∧ δ.ob = [(n, .dead), (.loc (d :: s.p) j, X)]))

theorem nmFor_loc {u : Nm → Bool} {k : List Nat} {n : Nm} (h : nmFor u k = some n) : ∃ j, n = .loc k j := (nmAt_loc h).2

theorem shape_slot {s : St} {o : Oper} {d : Option Tmp} {a : A} (h : o.dst = d) : Shape s o (slotD d a) := ⟨⟨a, by rw [h]; rfl⟩, fun _ => rfl, fun _ => .inl ⟨rfl, rfl⟩⟩

theorem exD_shape {P : Program} {N : Fr} {s : St} {o : Oper} {δ : Dl} (h : exD P N s o = some δ) : Shape s o δ := by
  unfold exD at h
  split at h
  case isFalse => simp at h
  have res : (resA P s o).map (slotD o.dst) = some δ → Shape s o δ := by
    intro h
    cases hr : resA P s o with
    | none => simp [hr] at h
    | some a => simp [hr] at h; subst h; exact shape_slot rfl
  have born : bornA P s o = some δ → (kdOf o = .b) → Shape s o δ := by
    intro h hk
    unfold bornA at h
    split at h
    · simp at h
    rename_i d hd
    split at h
    · simp at h
    rename_i n hn
    obtain ⟨j, rfl⟩ := nmFor_loc hn
    split at h
    · simp at h; subst h
      exact ⟨⟨_, by rw [hd]; rfl⟩, fun e => absurd e (by rw [hk]; decide), fun _ => .inr ⟨d, j, _, hd, nmFor_new hn, rfl, .inl hk, .inl rfl⟩⟩
    · simp at h
  split at h
  · rename_i hop; exact born h (by simp [kdOf, hop])
  · rename_i hop; exact born h (by simp [kdOf, hop])
  · rename_i t a x hop
    split at h
    case h_2 => simp at h
    rename_i hd
    have hsl : δ.sl = none ∧ δ.bo = none := by
      unfold storeA at h
      split at h
      case h_2 => simp at h
      split at h
      case isFalse => simp at h
      split at h
      · split at h
        · split at h
          · simp only [Option.some.injEq] at h; subst h; exact ⟨rfl, rfl⟩
          · simp at h
        · simp at h
      · split at h
        · split at h
          · split at h
            · simp only [Option.some.injEq] at h; subst h; exact ⟨rfl, rfl⟩
            · simp at h
          · simp at h
        · simp at h
      · simp at h
    exact ⟨⟨.und, by rw [hsl.1, hd]; rfl⟩, fun _ => hsl.2, fun hne => absurd (by simp [kdOf, hop]) hne⟩
  · rename_i t len parts hop
    split at h
    case h_2 => simp at h
    rename_i d hd
    unfold litA at h
    split at h
    case h_2 => simp at h
    rename_i e m _ hm
    obtain ⟨j, rfl⟩ := nmFor_loc hm
    split at h
    case h_2 => simp at h
    split at h
    case h_2 => simp at h
    split at h
    case h_2 => simp at h
    split at h
    case isFalse => simp at h
    simp only [Option.some.injEq] at h; subst h
    have hk : kdOf o = .b := by simp [kdOf, hop]
    exact ⟨⟨_, by rw [hd]; rfl⟩, fun e => absurd e (by rw [hk]; decide), fun _ => .inr ⟨d, j, _, hd, nmFor_new hm, rfl, .inl hk, .inl rfl⟩⟩
  · rename_i c hop
    split at h
    · rename_i hcal
      split at h
      · rename_i d a x t tx hd hargs htys
        have hk : kdOf o = .a := by simp [kdOf, hop, hcal]
        unfold appendA at h
        split at h
        case h_2 => simp at h
        rename_i e ex m _ _ hm
        obtain ⟨j, rfl⟩ := nmFor_loc hm
        split at h
        case h_2 => simp at h
        split at h
        · split at h
          case h_2 => simp at h
          rename_i k' rows ho
          split at h
          case isFalse => simp at h
          simp only [Option.some.injEq] at h; subst h
          refine ⟨⟨_, by rw [hd]; rfl⟩, fun e => absurd e (by rw [hk]; decide), fun _ => .inr ⟨d, j, _, hd, nmFor_new hm, rfl, .inr hk, .inr ⟨_, _, _, hk, ?_, ho, rfl⟩⟩⟩
          have hev := ‹s.ev a = A.os _ _ _ _›
          simp only [lk, hop, hcal, hargs, List.flatMap_cons]
          rw [hev]
          exact List.mem_append_left _ List.mem_cons_self
        · split at h
          case isFalse => simp at h
          simp only [Option.some.injEq] at h; subst h
          exact ⟨⟨_, by rw [hd]; rfl⟩, fun e => absurd e (by rw [hk]; decide), fun _ => .inr ⟨d, j, _, hd, nmFor_new hm, rfl, .inr hk, .inl rfl⟩⟩
        · split at h
          case h_2 => simp at h
          split at h
          case isFalse => simp at h
          simp only [Option.some.injEq] at h; subst h
          exact ⟨⟨_, by rw [hd]; rfl⟩, fun e => absurd e (by rw [hk]; decide), fun _ => .inr ⟨d, j, _, hd, nmFor_new hm, rfl, .inr hk, .inl rfl⟩⟩
        · simp at h
      · simp at h
    · exact res h
  · split at h
    · simp only [Option.some.injEq] at h; subst h; exact shape_slot rfl
    · exact res h
  · exact res h

theorem StepR.shape {P : Program} {N : Fr} {ops : Array Oper} {s : St} {i : Nat} {o : Oper} (ho : ops[i]? = some o) {δ : Dl} (h : StepR P N ops s i δ) : Shape s o δ := by
  cases h with
  | @ex o' δ ho' h =>
    rw [ho] at ho'; simp at ho'; subst ho'
    unfold stepD at h
    split at h
    · exact exD_shape h
    · split at h
      · simp at h; subst h; exact shape_slot rfl
      · simp at h
    · simp at h
  | @call o' c g f args r ho' hop hcal hg hw hd hargs hpl hs =>
    rw [ho] at ho'; simp at ho'; subst ho'
    exact shape_slot rfl

/-! ### What stands behind a name that a step looks up -/
theorem Real.nmP {N : Fr} {s : St} (h : Real N s) {x : Operand} {n : Nm} (hn : n ∈ Ab.nmP (s.ev x)) : s.u n = true := by
  obtain ⟨φ, Pr, ac, w, hI⟩ := h
  have hx := hI.ev x
  generalize s.ev x = a at hx hn
  generalize ac.eval x = z at hx
  cases hx <;> simp [Ab.nmP] at hn
  · subst hn; rename_i hl ha; exact hI.used n (by rw [ha]; simp)
  · subst hn; rename_i hl ha; exact hI.used n (by rw [ha]; simp)

theorem Inv.nmS {N : Fr} {s : St} {φ : Map} {Pr : Pro} {ac : Act} {w : World} (hI : Inv N s φ Pr ac w) {x : Value} {a : A} (hx : ARep w φ Pr x a) {n : Nm} (hn : n ∈ Ab.nmS a) : s.u n = true := by
  cases hx with
  | os hl hle ha => simp [Ab.nmS] at hn; subst hn; exact hI.used _ (by rw [hl]; simp)
  | ox hl hle ha => simp [Ab.nmS] at hn; subst hn; exact hI.used _ (by rw [hl]; simp)
  | _ => simp [Ab.nmS] at hn

theorem Real.nmC {N : Fr} {s : St} (h : Real N s) {x : Operand} {n : Nm} (hn : n ∈ Ab.nmC (s.ev x)) : s.u n = true := by
  obtain ⟨φ, Pr, ac, w, hI⟩ := h
  have hx := hI.ev x
  generalize s.ev x = a at hx hn
  generalize ac.eval x = z at hx
  cases a with
  | ag cs =>
    simp only [Ab.nmC, List.mem_flatMap] at hn
    obtain ⟨c, hc, hn⟩ := hn
    obtain ⟨j, hj⟩ := List.getElem?_of_mem hc
    cases hx with
    | ag hl h1 hr => exact hI.nmS (hr j c hj) hn
  | _ => exact hI.nmS hx hn

theorem Real.lk {N : Fr} {s : St} (h : Real N s) {o : Oper} {n : Nm} (hn : n ∈ Ab.lk s o) : s.u n = true := by
  unfold Ab.lk at hn
  split at hn
  · exact h.nmP hn
  · rcases List.mem_append.1 hn with h1 | h1
    · exact h.nmP h1
    · exact h.nmC h1
  · obtain ⟨p, _, hp⟩ := List.mem_flatMap.1 hn; exact h.nmC hp
  · split at hn
    · obtain ⟨p, _, hp⟩ := List.mem_flatMap.1 hn; exact h.nmC hp
    · obtain ⟨p, _, hp⟩ := List.mem_flatMap.1 hn; exact h.nmC hp
    · simp at hn
  · simp at hn

theorem Real.live {N : Fr} {s : St} (h : Real N s) {n : Nm} (hn : live (s.o n) = true) : s.u n = true := by
  obtain ⟨φ, Pr, ac, w, hI⟩ := h
  have hr := hI.heap.rep n
  apply hI.used n
  cases ho : s.o n with
  | dead => rw [ho] at hn; simp [Ab.live] at hn
  | froz k rows => rw [ho] at hn; simp [Ab.live] at hn
  | cells cs => rw [ho] at hr; obtain ⟨_, _, _, _, hφ, _⟩ := hr; rw [hφ]; simp
  | arr k rows => rw [ho] at hr; obtain ⟨_, hφ, _⟩ := hr; rw [hφ]; simp
  | map es => rw [ho] at hr; obtain ⟨_, _, _, hφ, _⟩ := hr; rw [hφ]; simp

def isFroz : Ob → Bool
  | .froz _ _ => true
  | _ => false

/-- A step that looks at this object sees what it is. -/
def reads (s : St) (o : Oper) (n : Nm) : Prop := match kdOf o with
  | .b | .c => isFroz (s.o n) = true
  | .l => match s.o n with
    | .dead => False
    | .arr _ _ => ptrLoad s o = false
    | _ => True
  | _ => True

theorem toD_mono {s s2 : St} {a : A} {c : D} (h : toD s a = some c) (hl : ∀ n ∈ nmS a, isFroz (s.o n) = true → s2.o n = s.o n) : toD s2 a = some c := by
  cases a <;> first | exact h | simp [toD] at h
  all_goals
    rename_i n k lo len
    simp only [toD] at h ⊢
    split at h
    · rename_i k' rows ho
      rw [hl n (by simp [nmS]) (by rw [ho]; rfl), ho]; exact h
    · simp at h

theorem toDs_mono {s s2 : St} : ∀ {as : List A} {ds : List D}, toDs s as = some ds → (∀ a ∈ as, ∀ n ∈ nmS a, isFroz (s.o n) = true → s2.o n = s.o n) → toDs s2 as = some ds
  | [], _, h, _ => h
  | b :: r, ds, h, hl => by
    unfold toDs at h ⊢
    split at h
    · rename_i x xs h1 h2
      rw [toD_mono h1 (hl b List.mem_cons_self), toDs_mono h2 (fun a ha => hl a (List.mem_cons_of_mem _ ha))]; exact h
    · simp at h

theorem toRows_mono {s s2 : St} : ∀ {as : List (List A)} {ds : List (List D)}, toRows s as = some ds → (∀ l ∈ as, ∀ a ∈ l, ∀ n ∈ nmS a, isFroz (s.o n) = true → s2.o n = s.o n) → toRows s2 as = some ds
  | [], _, h, _ => h
  | b :: r, ds, h, hl => by
    unfold toRows at h ⊢
    split at h
    · rename_i x xs h1 h2
      rw [toDs_mono h1 (hl b List.mem_cons_self), toRows_mono h2 (fun a ha => hl a (List.mem_cons_of_mem _ ha))]; exact h
    · simp at h

theorem litA_mono {P : Program} {s s2 : St} {d : Tmp} {t : TypeId} {len : Nat} {parts : List (Nat × A)} {δ : Dl} (h : litA P s d t len parts = some δ) (hl : ∀ p ∈ parts, ∀ n ∈ nmC p.2, isFroz (s.o n) = true → s2.o n = s.o n) (hp : s2.p = s.p) (hu : ∀ j, s2.u (.loc (d :: s.p) j) = s.u (.loc (d :: s.p) j)) : litA P s2 d t len parts = some δ := by
  unfold litA at h ⊢
  rw [hp, nmFor_congr hu]
  split at h
  case h_2 => simp at h
  split at h
  case h_2 => simp at h
  rename_i sz by_ z he hz
  split at h
  case h_2 => simp at h
  rename_i out hf
  split at h
  case h_2 => simp at h
  rename_i rows hr
  rw [toRows_mono hr (fun l hl' a ha n hn => ?_)]
  · exact h
  · rcases fillA_mem hf a (chunkA_mem hl' a ha) with h1 | ⟨p, hp, cs, h1, h2⟩
    · rw [List.mem_flatten] at h1
      obtain ⟨l', hl', ha'⟩ := h1
      rw [List.mem_replicate] at hl'
      rw [hl'.2] at ha'
      rw [zeroT_nm hz a ha'] at hn; simp at hn
    · exact hl p hp n (cellsA_nm h1 h2 hn)

theorem viewC_mono {s s2 : St} {a : A} (hp : plainC (viewC s a) = true) (hl : ∀ n ∈ nmS a, isFroz (s.o n) = true → s2.o n = s.o n) : viewC s2 a = viewC s a := by
  unfold viewC at hp ⊢
  cases h : toD s a with
  | some x => rw [toD_mono h hl]
  | none =>
    rw [h] at hp
    cases a <;> first | (simp [toD] at h; done) | simp [plainC] at hp

theorem viewA_mono {s s2 : St} {a : A} (hp : plainA (viewA s a) = true) (hl : ∀ n ∈ nmC a, isFroz (s.o n) = true → s2.o n = s.o n) : viewA s2 a = viewA s a := by
  cases a with
  | ag cs =>
    simp only [viewA, plainA, List.all_map] at hp ⊢
    congr 1
    apply List.map_congr_left
    intro b hb
    exact viewC_mono (List.all_eq_true.1 hp b hb) (fun n hn => hl n (by simp only [nmC, List.mem_flatMap]; exact ⟨b, hb, hn⟩))
  | tup xs => rfl
  | d x => rfl
  | os n k lo len =>
    refine viewC_mono ?_ (fun m hm => hl m (nmS_nmC hm))
    simp only [viewA] at hp
    unfold viewC at hp ⊢
    split
    · rfl
    · rename_i hn; simp only [hn] at hp; exact hp
  | ox n k lo len =>
    refine viewC_mono ?_ (fun m hm => hl m (nmS_nmC hm))
    simp only [viewA] at hp
    unfold viewC at hp ⊢
    split
    · rfl
    · rename_i hn; simp only [hn] at hp; exact hp
  | _ => rfl

theorem loadA_mono {P : Program} {s s2 : St} {t : TypeId} {a b : A} (h : loadA P s t a = some b) (hl : ∀ n ∈ nmP a, (match s.o n with
    | .dead => False
    | .arr _ _ => isPel a = true
    | _ => True) → s2.o n = s.o n) : loadA P s2 t a = some b := by
  cases a <;> first | exact h | (simp [loadA] at h; done) | skip
  case ptr n o =>
    simp only [loadA] at h ⊢
    split at h
    · rename_i cs ho
      rw [hl n (by simp [nmP]) (by rw [ho]; trivial), ho]; exact h
    · simp at h
  case pel n k i o =>
    simp only [loadA] at h ⊢
    split at h
    · rename_i k' rows ho
      rw [hl n (by simp [nmP]) (by rw [ho]; rfl), ho]; exact h
    · rename_i k' rows ho
      rw [hl n (by simp [nmP]) (by rw [ho]; trivial), ho]; exact h
    · simp at h

/-- A step that leaves something leaves it in any state that looks the same. -/
theorem StepR.mono {P : Program} {N : Fr} {ops : Array Oper} {s s2 : St} {i : Nat} {o : Oper} (ho : ops[i]? = some o) (hk : SameLook ops s s2 o) (hl : ∀ n ∈ lk s o, reads s o n → s2.o n = s.o n)
    (hp : s2.p = s.p) (hu : ∀ d, o.dst = some d → ∀ j, s2.u (.loc (d :: s.p) j) = s.u (.loc (d :: s.p) j)) {δ : Dl} (h : StepR P N ops s i δ) : StepR P N ops s2 i δ := by
  have he := hk.ev
  have other : (∀ n ∈ lk s o, reads s o n) → StepR P N ops s2 i δ := fun hr => h.congr ho hk (fun _ n hn => hl n hn (hr n hn)) hp hu
  cases h with
  | @call o' c g f args r ho' hop hcal hg hw hd hargs hpl hs =>
    rw [ho] at ho'; simp at ho'; subst ho'
    have hkd : kdOf o = .c := by simp [kdOf, hop, hcal]
    have hg' : s2.ev g = .fn f [] := by rw [he g (by simp [hop, Op.operands, Call.operands, hcal])]; exact hg
    refine .call ho hop hcal hg' (by rw [hk.want]; exact hw) hd ?_ hpl hs
    rw [← hargs]
    apply List.map_congr_left
    intro x hx
    rw [he x (by simp only [hop, Op.operands, Call.operands, Array.mem_append]; right; simpa using hx)]
    refine viewA_mono ?_ (fun n hn hf => hl n (by simp only [lk, hop, hcal, List.mem_flatMap]; exact ⟨x, hx, hn⟩) (by unfold reads; rw [hkd]; exact hf))
    rw [← hargs] at hpl
    exact List.all_eq_true.1 hpl _ (List.mem_map_of_mem hx)
  | @ex o' δ ho' h =>
    rw [ho] at ho'; simp at ho'; subst ho'
    unfold stepD at h
    split at h
    case h_3 => simp at h
    case h_2 hw => exact .ex ho (by unfold stepD; rw [hk.want, hw]; exact h)
    rename_i hw
    have mk : exD P N s2 o = some δ → StepR P N ops s2 i δ := fun h2 => .ex ho (by unfold stepD; rw [hk.want, hw]; exact h2)
    cases hop : o.op with
    | load t x =>
      have hkd : kdOf o = .l := by simp [kdOf, hop]
      apply mk
      unfold exD at h ⊢
      split at h
      case isFalse => simp at h
      rename_i hdst
      rw [if_pos hdst]
      simp only [hop] at h ⊢
      cases hr : resA P s o with
      | none => simp [hr] at h
      | some a =>
        have : resA P s2 o = some a := by
          unfold resA at hr ⊢
          simp only [hop] at hr ⊢
          rw [he x (by simp [hop, Op.operands])]
          refine loadA_mono hr (fun n hn hb => hl n (by simp only [lk, hop]; exact hn) ?_)
          unfold reads ptrLoad
          rw [hkd]
          simp only [hop]
          revert hb
          cases s.o n <;> intro hb <;> first | exact hb | (rw [hb]; rfl)
        rw [this]; rw [hr] at h; exact h
    | buildSlice t len parts =>
      have hkd : kdOf o = .b := by simp [kdOf, hop]
      apply mk
      unfold exD at h ⊢
      split at h
      case isFalse => simp at h
      rename_i hdst
      rw [if_pos hdst]
      simp only [hop] at h ⊢
      split at h
      case h_2 => simp at h
      rename_i d hd
      have ep : (parts.toList.map fun p => (p.1, s2.ev p.2)) = parts.toList.map fun p => (p.1, s.ev p.2) := by
        apply List.map_congr_left
        intro p hp
        rw [he p.2 (by simp only [hop, Op.operands, List.mem_toArray, List.mem_map]; exact ⟨p, by simpa using hp, rfl⟩)]
      rw [ep]
      refine litA_mono h (fun q hq n hn hf => ?_) hp (hu d hd)
      obtain ⟨p, hp, rfl⟩ := List.mem_map.1 hq
      exact hl n (by simp only [lk, hop, List.mem_flatMap]; exact ⟨p, hp, hn⟩) (by unfold reads; rw [hkd]; exact hf)
    | call c =>
      cases hcal : c.callee with
      | value g =>
        exfalso
        unfold exD at h
        split at h
        case isFalse => simp at h
        simp only [hop] at h
        have : resA P s o = none := by
          unfold resA
          simp only [hop, hcal]
        simp [hcal, this] at h
      | builtin b =>
        apply other
        intro n hn
        simp only [lk, hop, hcal] at hn
        unfold reads kdOf
        simp only [hop, hcal]
        cases b <;> first | trivial | simp at hn
      | _ => apply other; intro n hn; simp [lk, hop, hcal] at hn
    | store t a x => apply other; intro n hn; simp [reads, kdOf, hop]
    | _ => apply other; intro n hn; simp [lk, hop] at hn

end Go.Proofs.YtamefliipjhpoaaGreat.Ab
