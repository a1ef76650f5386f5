import Derived.Test.YtamefliipjhpoaaGreatFlt
set_option autoImplicit false
set_option linter.unusedSimpArgs false
set_option linter.unusedVariables false
namespace Go.Proofs.YtamefliipjhpoaaGreat.Ab
open Go Go.Proofs

theorem allSame_step {α : Type} {f : α → α → Bool} {a b : List α} {i : Nat} (ha : i < a.length) (hb : i < b.length) : Spec.allSame f (a.drop i) (b.drop i) = (f a[i] b[i] && Spec.allSame f (a.drop (i + 1)) (b.drop (i + 1))) := by
  rw [List.drop_eq_getElem_cons ha, List.drop_eq_getElem_cons hb]; rfl
theorem allSame_len {α : Type} {f : α → α → Bool} : ∀ {a b : List α}, a.length ≠ b.length → Spec.allSame f a b = false
  | [], [], h => absurd rfl h
  | [], _ :: _, _ => rfl
  | _ :: _, [], _ => rfl
  | a :: l, b :: r, h => by
    simp only [Spec.allSame]
    rw [allSame_len (a := l) (b := r) (by simpa using h)]; simp

set_option maxRecDepth 10000 in
theorem spec_law11_Light (m : Spec.Mut) : DSpec Tryz.prog 10 [mutA m] (.d (.v (.bool (decide (m.text.size ≤ 200))))) := by
  apply DSpec.by Tryz.func10 Tryz.call10 rfl Tryz.ntmps10 (by simp) Tryz.results10 rfl
  simp [List.range, List.range.loop]
  apply W.runs
  · simp; rfl
  apply W.runs
  · simp; rfl
  apply W.ret  -- ret 0
  apply Post.ret
  · simp; rfl
  have e : decide ((m.text.size : Int) ≤ 200) = decide (m.text.size ≤ 200) := by rw [Bool.eq_iff_iff]; simp; omega
  simp [e]

set_option maxRecDepth 10000 in
theorem spec_ref09_SameMut (a b : Spec.Mut) : DSpec Tryz.prog 14 [mutA a, mutA b] (.d (.v (.bool (Spec.sameMut a b)))) := by
  apply DSpec.by Tryz.func14 Tryz.call14 rfl Tryz.ntmps14 (by simp) Tryz.results14 rfl
  simp [List.range, List.range.loop]
  apply W.runs
  · simp; rfl
  apply W.seq
  apply W.regM rfl  -- region 1
  iterate 6
    apply WX.ex rfl
    · simp; rfl
    · simp; rfl
  cases h1 : (a.kind == b.kind)
  case false =>
    iterate 35
      apply WX.ex rfl
      · simp; rfl
      · simp; rfl
    apply WX.nil
    simp only [andThen_normal]
    apply W.ret  -- ret 0
    apply Post.ret
    · simp; rfl
    simp [Spec.sameMut, *]
  -- h1 is true
  iterate 7
    apply WX.ex rfl
    · simp; rfl
    · simp; rfl
  cases h2 : (a.id == b.id)
  case false =>
    iterate 28
      apply WX.ex rfl
      · simp; rfl
      · simp; rfl
    apply WX.nil
    simp only [andThen_normal]
    apply W.ret  -- ret 1
    apply Post.ret
    · simp; rfl
    simp [Spec.sameMut, *]
  -- h2 is true
  iterate 7
    apply WX.ex rfl
    · simp; rfl
    · simp; rfl
  cases h3 : (a.list == b.list)
  case false =>
    iterate 21
      apply WX.ex rfl
      · simp; rfl
      · simp; rfl
    apply WX.nil
    simp only [andThen_normal]
    apply W.ret  -- ret 2
    apply Post.ret
    · simp; rfl
    simp [Spec.sameMut, *]
  -- h3 is true
  iterate 7
    apply WX.ex rfl
    · simp; rfl
    · simp; rfl
  cases h4 : (a.text == b.text)
  case false =>
    iterate 14
      apply WX.ex rfl
      · simp; rfl
      · simp; rfl
    apply WX.nil
    simp only [andThen_normal]
    apply W.ret  -- ret 3
    apply Post.ret
    · simp; rfl
    simp [Spec.sameMut, *]
  -- h4 is true
  iterate 7
    apply WX.ex rfl
    · simp; rfl
    · simp; rfl
  cases h5 : (a.flag == b.flag)
  case false =>
    iterate 7
      apply WX.ex rfl
      · simp; rfl
      · simp; rfl
    apply WX.nil
    simp only [andThen_normal]
    apply W.ret  -- ret 4
    apply Post.ret
    · simp; rfl
    simp [Spec.sameMut, *]
  -- h5 is true
  iterate 4
    apply WX.ex rfl
    · simp; rfl
    · simp; rfl
  apply WX.call (ho := rfl) (hop := rfl) (hcal := rfl) (hg := rfl) (hd := rfl)  -- ref01_Same
  · simp
  · simp; rfl
  · rfl
  · exact spec_ref01_Same ..
  · simp; rfl
  iterate 2
    apply WX.ex rfl
    · simp; rfl
    · simp; rfl
  apply WX.nil
  simp only [andThen_normal]
  apply W.ret  -- ret 5
  apply Post.ret
  · simp; rfl
  simp [Spec.sameMut, *]

set_option maxRecDepth 10000 in
theorem spec_ref15_SameItem (a b : Spec.Item) : DSpec Tryz.prog 11 [itemA a, itemA b] (.d (.v (.bool (Spec.sameItem a b)))) := by
  apply DSpec.by Tryz.func11 Tryz.call11 rfl Tryz.ntmps11 (by simp) Tryz.results11 rfl
  simp [List.range, List.range.loop]
  apply W.runs
  · simp; rfl
  apply W.seq
  apply W.regM rfl  -- region 1
  iterate 6
    apply WX.ex rfl
    · simp; rfl
    · simp; rfl
  cases h1 : (a.ident == b.ident)
  case false =>
    iterate 14
      apply WX.ex rfl
      · simp; rfl
      · simp; rfl
    apply WX.nil
    simp only [andThen_normal]
    apply W.ret  -- ret 0
    apply Post.ret
    · simp; rfl
    simp [Spec.sameItem, *]
  -- h1 is true
  iterate 7
    apply WX.ex rfl
    · simp; rfl
    · simp; rfl
  cases h2 : (a.id == b.id)
  case false =>
    iterate 7
      apply WX.ex rfl
      · simp; rfl
      · simp; rfl
    apply WX.nil
    simp only [andThen_normal]
    apply W.ret  -- ret 1
    apply Post.ret
    · simp; rfl
    simp [Spec.sameItem, *]
  -- h2 is true
  iterate 4
    apply WX.ex rfl
    · simp; rfl
    · simp; rfl
  apply WX.call (ho := rfl) (hop := rfl) (hcal := rfl) (hg := rfl) (hd := rfl)  -- ref09_SameMut
  · simp
  · simp; rfl
  · rfl
  · exact spec_ref09_SameMut a.m b.m
  · simp; rfl
  iterate 2
    apply WX.ex rfl
    · simp; rfl
    · simp; rfl
  apply WX.nil
  simp only [andThen_normal]
  apply W.ret  -- ret 2
  apply Post.ret
  · simp; rfl
  simp [Spec.sameItem, *]

def sFew (l : List Spec.Item) (i : Nat) : St :=
  ⟨T [(0, .d (itemsD l)), (2, .d (.v (.bool false))), (5, .d (itemsD l)), (6, .d (.v (.int .i64 l.length))), (7, .d (.v (.int .i64 i)))], OL [] (fun _ => .dead), UL [] (fun _ => false), []⟩
def Spec.few (l : List Spec.Item) : Bool := l.all (fun x => decide (x.m.text.size ≤ 200)) && decide (l.length ≤ 30)

set_option maxRecDepth 10000 in
theorem spec_law14_Few (l : List Spec.Item) (hl : l.length < 4611686018427387904) : DSpec Tryz.prog 5 [.d (itemsD l)] (.d (.v (.bool (Spec.few l)))) := by
  apply DSpec.by Tryz.func5 Tryz.call5 rfl Tryz.ntmps5 (by simp) Tryz.results5 rfl
  simp [List.range, List.range.loop]
  apply W.runs
  · simp; rfl
  apply W.seq
  apply W.runs
  · simp; rfl
  apply W.block
  -- loop 1: slots [2, 5, 6, 7]
  apply W.loop
  apply WL.iter (fun i => ∀ x ∈ l.take i, x.m.text.size ≤ 200) (sFew l) (l.length)
  · apply Weak.objs [] (Fresh.none _) <;> simp
  · simp
  · intro i hi hI
    have hw := wrap64 (n := (i : Int) + 1) (by omega) (by omega)
    unfold sFew
    skip
    apply W.runs
    · simp; rfl
    apply W.seq
    apply W.condT (by simp; try omega)
    apply W.skip
    simp only [andThen_normal]
    apply W.seq
    apply W.block
    apply W.runs
    · simp [hi, itemC]; rfl
    apply W.seq
    apply W.regM rfl  -- region 4
    iterate 2
      apply WX.ex rfl
      · simp; rfl
      · simp; rfl
    apply WX.call (ho := rfl) (hop := rfl) (hcal := rfl) (hg := rfl) (hd := rfl)  -- law11_Light
    · rfl
    · simp; rfl
    · rfl
    · exact spec_law11_Light l[i].m
    · simp; rfl
    apply WX.ex rfl
    · simp; rfl
    · simp; rfl
    apply WX.nil
    simp only [andThen_normal]
    apply W.if  -- cond 0
    · simp
    · intro hb
      simp at hb
      apply W.runs
      · simp; rfl
      apply W.ret  -- ret 0
      simp only [inB_ret, andThen_ret]
      apply Post.ret
      · simp; rfl
      have e : Spec.few l = false := by
        have : l.all (fun x => decide (x.m.text.size ≤ 200)) = false := by
          rw [List.all_eq_false]; exact ⟨l[i], List.getElem_mem hi, by simpa using hb⟩
        simp [Spec.few, this]
      simp [e]
    · intro hb
      simp at hb
      apply W.skip
      simp only [inB_normal, andThen_normal]
      apply W.run
      · simp; rfl
      simp only [andThen_normal]
      refine ⟨?_, ?_⟩  -- next 0 of loop 1
      · apply Weak.objs [] (Fresh.none _) <;> simp [hw]
      · intro x hx
        rw [List.take_succ_eq_append_getElem hi, List.mem_append] at hx
        rcases hx with h | h
        · exact hI x h
        · simp at h; subst h; simpa using hb
  · intro hI
    unfold sFew
    rw [List.take_length] at hI
    apply W.runs
    · simp; rfl
    apply W.seq
    apply W.condF (by simp)
    apply W.exit
    simp only [andThen_exit, inB_same, andThen_normal]
    apply W.runs
    · simp; rfl
    apply W.ret  -- ret 1
    apply Post.ret
    · simp; rfl
    have e : l.all (fun x => decide (x.m.text.size ≤ 200)) = true := by simpa using hI
    have e2 : decide ((l.length : Int) ≤ 30) = decide (l.length ≤ 30) := by rw [Bool.eq_iff_iff]; simp; omega
    simp [Spec.few, e, e2]

def sItems (a b : List Spec.Item) (i : Nat) : St :=
  ⟨T [(0, .d (itemsD a)), (1, .d (itemsD b)), (4, .d (.v (.bool false))), (12, .d (.v (.int .i64 a.length))), (13, .d (.v (.int .i64 i)))], OL [] (fun _ => .dead), UL [] (fun _ => false), []⟩

set_option maxRecDepth 10000 in
theorem spec_ref15_SameItems (a b : List Spec.Item) (hl : a.length < 4611686018427387904) : DSpec Tryz.prog 6 [.d (itemsD a), .d (itemsD b)] (.d (.v (.bool (Spec.allSame Spec.sameItem a b)))) := by
  apply DSpec.by Tryz.func6 Tryz.call6 rfl Tryz.ntmps6 (by simp) Tryz.results6 rfl
  simp [List.range, List.range.loop]
  apply W.runs
  · simp; rfl
  apply W.seq
  apply W.runs
  · simp; rfl
  apply W.if  -- cond 0
  · simp
  · intro hb
    simp at hb
    apply W.runs
    · simp; rfl
    apply W.ret  -- ret 0
    simp only [andThen_ret]
    apply Post.ret
    · simp; rfl
    rw [allSame_len (fun e => hb (by rw [e]))]; simp
  · intro hb
    simp at hb
    apply W.skip
    simp only [andThen_normal]
    apply W.seq
    apply W.runs
    · simp; rfl
    apply W.block
    -- loop 1: slots [0, 1, 4, 12, 13]
    apply W.loop
    apply WL.iter (fun i => Spec.allSame Spec.sameItem a b = Spec.allSame Spec.sameItem (a.drop i) (b.drop i)) (sItems a b) (a.length)
    · apply Weak.objs [] (Fresh.none _) <;> simp
    · simp
    · intro i hi hI
      have hw := wrap64 (n := (i : Int) + 1) (by omega) (by omega)
      unfold sItems
      have hib : i < b.length := by omega
      have hst := allSame_step (f := Spec.sameItem) hi hib
      apply W.runs
      · simp; rfl
      apply W.seq
      apply W.condT (by simp; try omega)
      apply W.skip
      simp only [andThen_normal]
      apply W.seq
      apply W.block
      apply W.runs
      · simp; rfl
      apply W.seq
      apply W.regID rfl (by decide +kernel) (by decide +kernel) rfl  -- region 6
      iterate 8
        apply WI.ex rfl
        · simp [hi, hib, itemC]; rfl
        · simp; rfl
      apply WI.call (ho := rfl) (hop := rfl) (hcal := rfl) (hg := rfl) (hd := rfl)  -- ref15_SameItem
      · rfl
      · simp; rfl
      · rfl
      · exact spec_ref15_SameItem a[i] b[i]
      · simp; rfl
      apply WI.ex rfl
      · simp [hi, hib, itemC]; rfl
      · simp; rfl
      apply WI.nil
      simp only [andThen_normal]
      apply W.if  -- cond 1
      · simp
      · intro hb
        simp at hb
        apply W.runs
        · simp; rfl
        apply W.ret  -- ret 1
        simp only [inB_ret, andThen_ret]
        apply Post.ret
        · simp; rfl
        rw [hI, hst, hb]; simp
      · intro hb
        simp at hb
        apply W.skip
        simp only [inB_normal, andThen_normal]
        apply W.run
        · simp; rfl
        simp only [andThen_normal]
        refine ⟨?_, ?_⟩  -- next 0 of loop 1
        · apply Weak.objs [] (Fresh.none _) <;> simp [hw]
        · rw [hI, hst, hb]; simp
    · intro hI
      unfold sItems
      rw [List.drop_length, List.drop_of_length_le (by omega)] at hI
      apply W.runs
      · simp; rfl
      apply W.seq
      apply W.condF (by simp)
      apply W.exit
      simp only [andThen_exit, inB_same, andThen_normal]
      apply W.runs
      · simp; rfl
      apply W.ret  -- ret 2
      apply Post.ret
      · simp; rfl
      rw [hI]; simp [Spec.allSame]

end Go.Proofs.YtamefliipjhpoaaGreat.Ab
