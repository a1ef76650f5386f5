/- Two steps that change places; any order of a region. -/
import Derived.Test.YtamefliipjhpoaaGreatAbsOrd
set_option autoImplicit false
namespace Go.Proofs.YtamefliipjhpoaaGreat.Ab
open Go

theorem nmFor_congr {u u2 : Nm → Bool} {k : List Nat} (h : ∀ j, u2 (.loc k j) = u (.loc k j)) : nmFor u2 k = nmFor u k := nmAt_congr h _ _

theorem bornA_congr {P : Program} {s s2 : St} {o : Oper} (he : SameEv s s2 o) (hp : s2.p = s.p) (hu : ∀ d, o.dst = some d → ∀ j, s2.u (.loc (d :: s.p) j) = s.u (.loc (d :: s.p) j)) : bornA P s2 o = bornA P s o := by
  unfold bornA
  cases hd : o.dst with
  | none => rfl
  | some d =>
    simp only []
    rw [hp, nmFor_congr (hu d hd)]
    cases nmFor s.u (d :: s.p) with
    | none => rfl
    | some n =>
      simp only []
      cases hop : o.op <;> try rfl
      case box t x => simp only []; rw [he x (by simp [hop, Op.operands])]

theorem storeA_congr {P : Program} {s s2 : St} {t : TypeId} {a x : A} (h : ∀ n ∈ nmP a ++ nmC x, s2.o n = s.o n) : storeA P s2 t a x = storeA P s t a x := by
  unfold storeA
  split
  · rename_i n us hs hus
    split
    · split
      · rename_i m o; rw [h m (by simp [nmP])]
      · rename_i m k i o
        rw [h m (by simp [nmP]), toDs_congr (fun b hb m' hm' => h m' (by simp only [List.mem_append]; right; exact cellsA_nm hus hb hm'))]
      · rfl
    · rfl
  · rfl

theorem litA_congr {P : Program} {s s2 : St} {d : Tmp} {t : TypeId} {len : Nat} {parts : List (Nat × A)} (h : ∀ p ∈ parts, ∀ n ∈ nmC p.2, s2.o n = s.o n) (hp : s2.p = s.p) (hu : ∀ j, s2.u (.loc (d :: s.p) j) = s.u (.loc (d :: s.p) j)) : litA P s2 d t len parts = litA P s d t len parts := by
  unfold litA
  rw [hp, nmFor_congr hu]
  split
  · split
    · rename_i sz by_ z he hz
      cases hf : fillA (plsT sz len) ((List.replicate len z).flatten) parts with
      | none => rfl
      | some out =>
        simp only []
        rw [toRows_congr (fun l hl a ha n hn => ?_)]
        rcases fillA_mem hf a (chunkA_mem hl a ha) with h1 | ⟨p, hp, cs, h1, h2⟩
        · rw [List.mem_flatten] at h1
          obtain ⟨l', hl', ha'⟩ := h1
          rw [List.mem_replicate] at hl'
          rw [hl'.2] at ha'
          rw [zeroT_nm hz a ha'] at hn; simp at hn
        · exact h p hp n (cellsA_nm h1 h2 hn)
    · rfl
  · rfl

theorem appendA_congr {P : Program} {s s2 : St} {d : Tmp} {t tx : TypeId} {a x : A} (h : ∀ n ∈ nmS a ++ nmS x, s2.o n = s.o n) (hp : s2.p = s.p) (hu : ∀ j, s2.u (.loc (d :: s.p) j) = s.u (.loc (d :: s.p) j)) : appendA P s2 d t tx a x = appendA P s d t tx a x := by
  unfold appendA
  rw [hp, nmFor_congr hu, rowsA_congr (a := x) (fun n hn => h n (by simp [hn]))]
  split
  · split
    · split
      · rename_i n k len; rw [h n (by simp [nmS])]
      · rfl
      · rename_i n k lo len
        rw [rowsA_congr (a := .ox n k lo len) (fun m hm => h m (by simp only [List.mem_append]; exact .inl hm))]
      · rfl
    · rfl
  · rfl

theorem exD_congr {P : Program} {N : Fr} {s s2 : St} {o : Oper} (he : SameEv s s2 o) (hl : ∀ n ∈ lk s o, s2.o n = s.o n) (hp : s2.p = s.p) (hu : ∀ d, o.dst = some d → ∀ j, s2.u (.loc (d :: s.p) j) = s.u (.loc (d :: s.p) j)) : exD P N s2 o = exD P N s o := by
  unfold exD
  split
  case isFalse => rfl
  have hres := resA_congr (P := P) he hl
  split
  · exact bornA_congr he hp hu
  · exact bornA_congr he hp hu
  · rename_i t a x hop
    split
    · rw [he a (by simp [hop, Op.operands]), he x (by simp [hop, Op.operands])]
      exact storeA_congr (fun n hn => hl n (by simp only [lk, hop]; exact hn))
    · rfl
  · rename_i t len parts hop
    split
    · rename_i d hd
      have ep : (parts.toList.map fun p => (p.1, s2.ev p.2)) = parts.toList.map fun p => (p.1, s.ev p.2) := by
        apply List.map_congr_left
        intro p hp
        rw [he p.2 (by simp only [hop, Op.operands, List.mem_toArray, List.mem_map]; exact ⟨p, by simpa using hp, rfl⟩)]
      rw [ep]
      refine litA_congr (fun q hq n hn => ?_) hp (hu d hd)
      obtain ⟨p, hp, rfl⟩ := List.mem_map.1 hq
      exact hl n (by simp only [lk, hop, List.mem_flatMap]; exact ⟨p, hp, hn⟩)
    · rfl
  · rename_i c hop
    split
    · rename_i hcal
      split
      · rename_i d a x t tx hd hargs htys
        have ha : a ∈ c.args.toList := by rw [hargs]; simp
        have hx : x ∈ c.args.toList := by rw [hargs]; simp
        have op : ∀ y ∈ c.args.toList, y ∈ o.op.operands := fun y hy => by
          simp only [hop, Op.operands, Call.operands, Array.mem_append]; right; simpa using hy
        rw [he a (op a ha), he x (op x hx)]
        refine appendA_congr (fun n hn => hl n ?_) hp (hu d hd)
        simp only [lk, hop, hcal, List.mem_flatMap]
        rcases List.mem_append.1 hn with h1 | h1
        · exact ⟨a, ha, nmS_nmC h1⟩
        · exact ⟨x, hx, nmS_nmC h1⟩
      · rfl
    · rw [hres]
  · rename_i src dst x hop
    rw [he x (by simp [hop, Op.operands]), hres]
  · rw [hres]

theorem viewA_congr {s s2 : St} {a : A} (h : ∀ n ∈ nmC a, s2.o n = s.o n) : viewA s2 a = viewA s a := by
  have vc : ∀ b : A, (∀ n ∈ nmS b, s2.o n = s.o n) → viewC s2 b = viewC s b := fun b hb => by unfold viewC; rw [toD_congr hb]
  cases a with
  | ag cs =>
    simp only [viewA]
    congr 1
    apply List.map_congr_left
    intro b hb
    exact vc b (fun n hn => h n (by simp only [nmC, List.mem_flatMap]; exact ⟨b, hb, hn⟩))
  | _ => exact vc _ (fun n hn => h n (nmS_nmC hn))

/-- What an operation looks at in the frame is the same. -/
def SameLook (ops : Array Oper) (s s2 : St) (o : Oper) : Prop := ∀ d ∈ o.looksAt ops, s2.t d = s.t d

theorem SameLook.ev {ops : Array Oper} {s s2 : St} {o : Oper} (h : SameLook ops s s2 o) : SameEv s s2 o := by
  intro x hx
  cases x with
  | tmp t =>
    exact h t (by
      unfold Oper.looksAt
      rw [List.mem_append]; left
      rw [List.mem_filterMap]
      exact ⟨.tmp t, by simpa using hx, rfl⟩)
  | _ => rfl

theorem SameLook.want {ops : Array Oper} {s s2 : St} {o : Oper} (h : SameLook ops s s2 o) : wantA ops s2 o = wantA ops s o := by
  unfold wantA
  split
  · rfl
  · rename_i j want hg
    cases hd : (ops[j]?).bind (·.dst) with
    | none => rfl
    | some d =>
      simp only []
      rw [h d (by unfold Oper.looksAt; rw [List.mem_append]; right; rw [hg]; simp [hd])]

theorem StepR.congr {P : Program} {N : Fr} {ops : Array Oper} {s s2 : St} {i : Nat} {o : Oper} (ho : ops[i]? = some o) (hk : SameLook ops s s2 o) (hl : wantA ops s o = some true → ∀ n ∈ lk s o, s2.o n = s.o n)
    (hp : s2.p = s.p) (hu : ∀ d, o.dst = some d → ∀ j, s2.u (.loc (d :: s.p) j) = s.u (.loc (d :: s.p) j)) {δ : Dl} (h : StepR P N ops s i δ) : StepR P N ops s2 i δ := by
  cases h with
  | @ex o' δ ho' h =>
    rw [ho] at ho'; simp at ho'; subst ho'
    refine .ex ho ?_
    unfold stepD at h ⊢
    rw [hk.want]
    split at h
    · rename_i hw
      rw [exD_congr hk.ev (hl hw) hp hu]; exact h
    · exact h
    · simp at h
  | @call o' c g f args r ho' hop hcal hg hw hd hargs hpl hs =>
    rw [ho] at ho'; simp at ho'; subst ho'
    have he := hk.ev
    have hg' : s2.ev g = .fn f [] := by rw [he g (by simp [hop, Op.operands, Call.operands, hcal])]; exact hg
    refine .call ho hop hcal hg' (by rw [hk.want]; exact hw) hd ?_ hpl hs
    rw [← hargs]
    apply List.map_congr_left
    intro x hx
    rw [he x (by simp only [hop, Op.operands, Call.operands, Array.mem_append]; right; simpa using hx)]
    exact viewA_congr (fun n hn => hl hw n (by simp only [lk, hop, hcal, List.mem_flatMap]; exact ⟨x, hx, hn⟩))

end Go.Proofs.YtamefliipjhpoaaGreat.Ab
