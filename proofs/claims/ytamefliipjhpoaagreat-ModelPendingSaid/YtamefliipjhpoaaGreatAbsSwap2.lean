/- Two steps that change places: the exchange itself. -/
import Derived.Test.YtamefliipjhpoaaGreatAbsSwap
set_option autoImplicit false
namespace Go.Proofs.YtamefliipjhpoaaGreat.Ab
open Go

def obN (δ : Dl) : List Nm := δ.ob.map (·.1)

theorem setOb_ne : ∀ {l : List (Nm × Ob)} {o : Nm → Ob} {n : Nm}, n ∉ l.map (·.1) → setOb o l n = o n
  | [], _, _, _ => rfl
  | p :: r, o, n, h => by
    simp only [List.map_cons, List.mem_cons, not_or] at h
    simp only [setOb]
    rw [setOb_ne h.2, upd_ne _ _ h.1]

theorem setOb_at : ∀ {l : List (Nm × Ob)} {o o2 : Nm → Ob} {n : Nm}, n ∈ l.map (·.1) → setOb o l n = setOb o2 l n
  | p :: r, o, o2, n, h => by
    simp only [setOb]
    by_cases hr : n ∈ r.map (·.1)
    · exact setOb_at hr
    · rw [setOb_ne hr, setOb_ne hr]
      simp only [List.map_cons, List.mem_cons] at h
      rcases h with h | h
      · subst h; rw [upd_same, upd_same]
      · exact absurd h hr

theorem setOb_comm {l1 l2 : List (Nm × Ob)} {o : Nm → Ob} (h : ∀ n, n ∈ l1.map (·.1) → n ∉ l2.map (·.1)) : setOb (setOb o l1) l2 = setOb (setOb o l2) l1 := by
  funext n
  by_cases h1 : n ∈ l1.map (·.1)
  · rw [setOb_ne (h n h1)]; exact setOb_at h1
  · rw [setOb_ne (o := setOb o l2) h1]
    by_cases h2 : n ∈ l2.map (·.1)
    · exact setOb_at h2
    · rw [setOb_ne h2, setOb_ne h1, setOb_ne h2]

theorem Shape.nm {s : St} {o : Oper} {δ : Dl} (h : Shape s o δ) (hk : kdOf o ≠ .s) {n : Nm} (hn : n ∈ obN δ) :
    (s.u n = false ∧ ∃ d j, o.dst = some d ∧ n = .loc (d :: s.p) j) ∨ (kdOf o = .a ∧ n ∈ lk s o ∧ ∃ k rows, s.o n = .arr k rows) := by
  rcases h.2.2 hk with ⟨e, _⟩ | ⟨d, j, X, hd, hu, _, _, e | ⟨m, k, rows, ha, hm, ho, e⟩⟩
  · simp [obN, e] at hn
  · simp [obN, e] at hn; subst hn; exact .inl ⟨hu, d, j, hd, rfl⟩
  · simp [obN, e] at hn
    rcases hn with rfl | rfl
    · exact .inr ⟨ha, hm, k, rows, ho⟩
    · exact .inl ⟨hu, d, j, hd, rfl⟩

theorem Shape.bo {s : St} {o : Oper} {δ : Dl} (h : Shape s o δ) {n : Nm} (hn : δ.bo = some n) : ∃ d j, o.dst = some d ∧ n = .loc (d :: s.p) j := by
  by_cases hk : kdOf o = .s
  · rw [h.2.1 hk] at hn; simp at hn
  · rcases h.2.2 hk with ⟨_, e⟩ | ⟨d, j, X, hd, hu, e, _⟩
    · rw [e] at hn; simp at hn
    · rw [e] at hn; simp at hn; exact ⟨d, j, hd, hn.symm⟩

theorem Shape.quiet {s : St} {o : Oper} {δ : Dl} (h : Shape s o δ) (hk : kdOf o = .v) : δ.ob = [] ∧ δ.bo = none := by
  rcases h.2.2 (by rw [hk]; decide) with e | ⟨d, j, X, hd, hu, e, ha | ha, _⟩
  · exact e
  · rw [hk] at ha; simp at ha
  · rw [hk] at ha; simp at ha

/-- What was an object of rows and is killed is dead behind. -/
theorem Shape.dead {s : St} {o : Oper} {δ : Dl} (h : Shape s o δ) (hk : kdOf o ≠ .s) {n : Nm} (hn : n ∈ obN δ) (hu : s.u n = true) : (s.app δ).o n = .dead := by
  rcases h.2.2 hk with ⟨e, _⟩ | ⟨d, j, X, hd, hu', _, _, e | ⟨m, k, rows, ha, hm, ho, e⟩⟩
  · simp [obN, e] at hn
  · simp [obN, e] at hn; subst hn; rw [hu] at hu'; simp at hu'
  · simp [obN, e] at hn
    rcases hn with rfl | rfl
    · have : n ≠ .loc (d :: s.p) j := fun e => by subst e; rw [hu] at hu'; simp at hu'
      show setOb s.o δ.ob n = _
      rw [e]
      simp only [setOb]
      rw [upd_ne _ _ this, upd_same]
    · rw [hu] at hu'; simp at hu'

theorem app_t {s : St} {δ : Dl} {d : Tmp} (h : ∀ a, δ.sl ≠ some (d, a)) : (s.app δ).t d = s.t d := by
  simp only [St.app]
  cases e : δ.sl with
  | none => rfl
  | some p => exact upd_ne _ _ (fun e2 => h p.2 (by rw [e, e2]))
theorem app_o {s : St} {δ : Dl} {n : Nm} (h : n ∉ obN δ) : (s.app δ).o n = s.o n := setOb_ne h
theorem app_u {s : St} {δ : Dl} {n : Nm} (h : δ.bo ≠ some n) : (s.app δ).u n = s.u n := by
  simp only [St.app]
  cases e : δ.bo with
  | none => rfl
  | some p => exact upd_ne _ _ (fun e2 => h (by rw [e, e2]))
theorem app_u_true {s : St} {δ : Dl} {n : Nm} (h : s.u n = true) : (s.app δ).u n = true := by
  by_cases e : δ.bo = some n
  · show (match δ.bo with | some n => upd s.u n true | none => s.u) n = true
    rw [e]; exact upd_same _ _ _
  · rw [app_u e]; exact h

theorem app_comm {s : St} {δ1 δ2 : Dl} (ht : ∀ d1 a1 d2 a2, δ1.sl = some (d1, a1) → δ2.sl = some (d2, a2) → d1 ≠ d2) (ho : ∀ n, n ∈ obN δ1 → n ∉ obN δ2) : (s.app δ1).app δ2 = (s.app δ2).app δ1 := by
  have h1 : ((s.app δ1).app δ2).t = ((s.app δ2).app δ1).t := by
    funext x
    simp only [St.app]
    cases e1 : δ1.sl with
    | none => cases e2 : δ2.sl <;> rfl
    | some p1 =>
      cases e2 : δ2.sl with
      | none => rfl
      | some p2 =>
        obtain ⟨d1, a1⟩ := p1
        obtain ⟨d2, a2⟩ := p2
        have hne := ht d1 a1 d2 a2 e1 e2
        simp only [upd]
        by_cases x1 : x = d1
        · subst x1; simp [hne]
        · simp [x1]
  have h2 : ((s.app δ1).app δ2).o = ((s.app δ2).app δ1).o := setOb_comm ho
  have h3 : ((s.app δ1).app δ2).u = ((s.app δ2).app δ1).u := by
    funext x
    simp only [St.app]
    cases e1 : δ1.bo with
    | none => cases e2 : δ2.bo <;> rfl
    | some n1 =>
      cases e2 : δ2.bo with
      | none => rfl
      | some n2 =>
        simp only [upd]
        by_cases x1 : x = n1 <;> by_cases x2 : x = n2 <;> simp [x1, x2]
  have h4 : ((s.app δ1).app δ2).p = ((s.app δ2).app δ1).p := rfl
  cases hA : (s.app δ1).app δ2
  cases hB : (s.app δ2).app δ1
  rw [hA, hB] at h1 h2 h3 h4
  simp only at h1 h2 h3 h4
  rw [h1, h2, h3, h4]

theorem pairOk_s {k i : Kd} (h : pairOk k i = true) : (k = .s → i = .v) ∧ (i = .s → k = .v) ∧ (k = .a → i = .v ∨ i = .l ∨ i = .b) ∧ (i = .a → k = .v ∨ k = .l ∨ k = .b) := by
  cases k <;> cases i <;> simp [pairOk] at h ⊢

theorem flat_congr {α β : Type} {f g : α → List β} : ∀ {l : List α}, (∀ a ∈ l, f a = g a) → l.flatMap f = l.flatMap g
  | [], _ => rfl
  | a :: r, h => by rw [List.flatMap_cons, List.flatMap_cons, h a List.mem_cons_self, flat_congr (fun b hb => h b (List.mem_cons_of_mem _ hb))]

theorem lk_quiet {s : St} {o : Oper} (h : kdOf o = .v) : lk s o = [] := by
  unfold kdOf at h
  unfold lk
  split at h <;> first | (simp at h; done) | skip
  · rename_i c hop
    rw [hop]; simp only []
    split at h <;> first | (simp at h; done) | skip
    rename_i b hb hcal
    rw [hcal]
    cases b <;> first | rfl | exact absurd rfl hb
  · rename_i n1 n2 n3 n4 n5 n6
    split
    · rename_i t x hop; exact absurd hop (by first | exact n1 _ _ | exact n2 _ _ | exact n3 _ _ | exact n4 _ _)
    · rename_i t a x hop; exact absurd hop (n5 _ _ _)
    · rename_i t a x hop; exact absurd hop (n4 _ _ _)
    · rename_i c hop; exact absurd hop (n6 _)
    · rfl

/-- Two steps that may stand in either order. -/
theorem swap {P : Program} {N : Fr} {ops : Array Oper} {s : St} (hR : Real N s) {k i : Nat} {ok oi : Oper} (hk : ops[k]? = some ok) (hi : ops[i]? = some oi) (hap : ok.apart ops oi = true) (hap' : oi.apart ops ok = true)
    (hp : pairOk (kdOf ok) (kdOf oi) = true) (hla : kdOf ok = .l → kdOf oi = .a → ptrLoad s ok = true) {δk δi : Dl} (Hk : StepR P N ops s k δk) (Hi : StepR P N ops (s.app δk) i δi) :
    StepR P N ops s i δi ∧ StepR P N ops (s.app δi) k δk ∧ (s.app δi).app δk = (s.app δk).app δi := by
  have Sk := Hk.shape hk
  have Si := Hi.shape hi
  obtain ⟨x1, x2, x3⟩ := Oper.apart_spec hap
  obtain ⟨y1, y2, y3⟩ := Oper.apart_spec hap'
  obtain ⟨p1, p2, p3, p4⟩ := pairOk_s hp
  obtain ⟨ak, ek⟩ := Sk.1
  obtain ⟨ai, ei⟩ := Si.1
  have lookI : SameLook ops (s.app δk) s oi := fun d hd => (app_t (fun a e => by
    rw [ek] at e
    cases hz : ok.dst with
    | none => rw [hz] at e; simp at e
    | some z => rw [hz] at e; simp at e; exact x1 z hz (e.1 ▸ hd))).symm
  have lookK : SameLook ops s (s.app δi) ok := fun d hd => app_t (fun a e => by
    rw [ei] at e
    cases hz : oi.dst with
    | none => rw [hz] at e; simp at e
    | some z => rw [hz] at e; simp at e; exact y1 z hz (e.1 ▸ hd))
  have lkI : lk (s.app δk) oi = lk s oi := by
    have he := lookI.ev
    unfold lk
    cases hop : oi.op <;> try rfl
    case load t x => simp only []; rw [he x (by simp [hop, Op.operands])]
    case store t a x => simp only []; rw [he x (by simp [hop, Op.operands]), he a (by simp [hop, Op.operands])]
    case buildSlice t len parts =>
      simp only []
      apply flat_congr
      intro p hp
      rw [he p.2 (by simp only [hop, Op.operands, List.mem_toArray, List.mem_map]; exact ⟨p, by simpa using hp, rfl⟩)]
    case call c =>
      have : ∀ x ∈ c.args.toList, nmC ((s.app δk).ev x) = nmC (s.ev x) := fun x hx => by
        rw [he x (by simp only [hop, Op.operands, Call.operands, Array.mem_append]; right; simpa using hx)]
      simp only []
      split
      · exact flat_congr this
      · exact flat_congr this
      · rfl
  have uI : ∀ d, oi.dst = some d → ∀ j, s.u (.loc (d :: s.p) j) = (s.app δk).u (.loc (d :: s.p) j) := fun d hd j => (app_u (fun e => by
    obtain ⟨d', j', hd', e'⟩ := Sk.bo e
    simp at e'
    exact x2 d' hd' (by rw [hd, e'.1]))).symm
  have uK : ∀ d, ok.dst = some d → ∀ j, (s.app δi).u (.loc (d :: s.p) j) = s.u (.loc (d :: s.p) j) := fun d hd j => app_u (fun e => by
    obtain ⟨d', j', hd', e'⟩ := Si.bo e
    simp at e'
    exact y2 d' hd' (by rw [hd, e'.1.1]))
  have Hi' : StepR P N ops s i δi := by
    refine Hi.mono hi lookI (fun n hn hr => (app_o (fun hob => ?_)).symm) rfl uI
    rw [lkI] at hn
    by_cases hs : kdOf ok = .s
    · rw [lk_quiet (p1 hs)] at hn; simp at hn
    · have hu := hR.lk hn
      have hd := Sk.dead hs hob hu
      rcases Sk.nm hs hob with ⟨hf, _⟩ | ⟨ha, _, _⟩
      · rw [hu] at hf; simp at hf
      · unfold reads at hr
        rcases p3 ha with h | h | h
        · rw [lk_quiet h] at hn; simp at hn
        · rw [h] at hr; simp only [] at hr; rw [hd] at hr; exact hr
        · rw [h] at hr; simp only [] at hr; rw [hd] at hr; simp [isFroz] at hr
  have disj : ∀ n, n ∈ obN δi → n ∉ obN δk := by
    intro n h1 h2
    by_cases hs : kdOf ok = .s
    · rw [obN, (Si.quiet (p1 hs)).1] at h1; simp at h1
    by_cases hs2 : kdOf oi = .s
    · rw [obN, (Sk.quiet (p2 hs2)).1] at h2; simp at h2
    rcases Sk.nm hs h2 with ⟨f1, d1, j1, e1, rfl⟩ | ⟨a1, l1, k1, rows1, o1⟩
    · rcases Si.nm hs2 h1 with ⟨f2, d2, j2, e2, h⟩ | ⟨a2, l2, k2, rows2, o2⟩
      · simp at h; exact x2 d1 e1 (by rw [e2, h.1.1])
      · rw [lkI] at l2
        have := hR.lk l2; rw [f1] at this; simp at this
    · rcases Si.nm hs2 h1 with ⟨f2, d2, j2, e2, h⟩ | ⟨a2, l2, k2, rows2, o2⟩
      · have := app_u_true (δ := δk) (hR.lk l1); rw [f2] at this; simp at this
      · rcases p3 a1 with h | h | h <;> (rw [h] at a2; simp at a2)
  refine ⟨Hi', ?_, app_comm (fun d1 a1 d2 a2 e1 e2 he => ?_) disj⟩
  · refine Hk.mono hk lookK (fun n hn hr => app_o (fun hob => ?_)) rfl uK
    have hu := hR.lk hn
    by_cases hs2 : kdOf oi = .s
    · rw [lk_quiet (p2 hs2)] at hn; simp at hn
    rcases Si.nm hs2 hob with ⟨hf, _⟩ | ⟨ha, hl, k', rows, ho⟩
    · have := app_u_true (δ := δk) hu; rw [hf] at this; simp at this
    · have ho' : s.o n = .arr k' rows := by
        rw [← ho]; refine (app_o (fun h2 => disj n hob h2)).symm
      unfold reads at hr
      rcases p4 ha with h | h | h
      · rw [lk_quiet h] at hn; simp at hn
      · rw [h] at hr; simp only [] at hr; rw [ho'] at hr; simp only [] at hr; rw [hla h ha] at hr; simp at hr
      · rw [h] at hr; simp only [] at hr; rw [ho'] at hr; simp [isFroz] at hr
  · rw [ei] at e1
    rw [ek] at e2
    cases hz : oi.dst with
    | none => rw [hz] at e1; simp at e1
    | some z =>
      cases hy : ok.dst with
      | none => rw [hy] at e2; simp at e2
      | some y =>
        rw [hz] at e1; rw [hy] at e2
        simp at e1 e2
        exact x2 y hy (by rw [hz, e1.1, he, e2.1])

end Go.Proofs.YtamefliipjhpoaaGreat.Ab
