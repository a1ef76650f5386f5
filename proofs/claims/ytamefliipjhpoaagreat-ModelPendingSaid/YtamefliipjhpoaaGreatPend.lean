import Derived.Test.YtamefliipjhpoaaGreatItems
import Derived.Test.YtamefliipjhpoaaGreatMaps
set_option autoImplicit false
set_option linter.unusedSimpArgs false
set_option linter.unusedVariables false
namespace Go.Proofs.YtamefliipjhpoaaGreat.Ab
open Go Go.Proofs

def Spec.thereP (log : List Spec.Item) (x : Spec.Item) : Bool := log.any fun y => x.ident == y.ident && x.id == y.id
def Spec.pending (own log : List Spec.Item) : List Spec.Item := own.filter fun x => !Spec.thereP log x
theorem pending_take (own log : List Spec.Item) (i : Nat) (hi : i < own.length) : Spec.pending (own.take (i + 1)) log = Spec.pending (own.take i) log ++ if Spec.thereP log own[i] then [] else [own[i]] := by
  rw [List.take_succ_eq_append_getElem hi]
  simp only [Spec.pending, List.filter_append]
  cases h : Spec.thereP log own[i] <;> simp [h]
theorem pending_le (own log : List Spec.Item) : (Spec.pending own log).length ≤ own.length := List.length_filter_le _ _
theorem thereP_take (log : List Spec.Item) (x : Spec.Item) (j : Nat) (hj : j < log.length) : Spec.thereP (log.take (j + 1)) x = (Spec.thereP (log.take j) x || (x.ident == log[j].ident && x.id == log[j].id)) := by
  rw [List.take_succ_eq_append_getElem hj]
  simp only [Spec.thereP, List.any_append, List.any_cons, List.any_nil, Bool.or_false]
def sPend (own log : List Spec.Item) (i : Nat) : St :=
  ⟨T [(0, .d (itemsD own)), (1, .d (itemsD log)), (5, .os (.loc [5] 0) 8 0 (Spec.pending (own.take i) log).length), (11, .d (itemsD own)), (12, .d (.v (.int .i64 own.length))), (13, .d (.v (.int .i64 i)))],
   OL [(.loc [5] 0, .arr 8 ((Spec.pending (own.take i) log).map itemC))] (fun _ => .dead), UL [.loc [5] 0] (fun _ => false), []⟩
def sPend2 (own log : List Spec.Item) (i : Nat) (x : Spec.Item) (j : Nat) : St :=
  ⟨T [(0, .d (itemsD own)), (1, .d (itemsD log)), (5, .os (.loc [5] 0) 8 0 (Spec.pending (own.take i) log).length), (7, .ptr (.loc [7] 0) 0), (8, .d (.v (.bool (Spec.thereP (log.take j) x)))), (11, .d (itemsD own)), (12, .d (.v (.int .i64 own.length))), (13, .d (.v (.int .i64 i))), (17, .d (itemsD log)), (18, .d (.v (.int .i64 log.length))), (19, .d (.v (.int .i64 j)))],
   OL [(.loc [5] 0, .arr 8 ((Spec.pending (own.take i) log).map itemC)), (.loc [7] 0, .cells ((itemC x).map .d))] (fun _ => .dead), UL [.loc [5] 0, .loc [7] 0] (fun _ => false), []⟩

set_option maxRecDepth 10000 in
theorem spec_ref25_Pending (own log : List Spec.Item) (ho : own.length ≤ 1000000) (hl : log.length < 4611686018427387904) : DSpec Tryz.prog 8 [.d (itemsD own), .d (itemsD log)] (.d (itemsD (Spec.pending own log))) := by
  apply DSpec.by Tryz.func8 Tryz.call8 rfl Tryz.ntmps8 (by simp) Tryz.results8 rfl
  simp [List.range, List.range.loop]
  apply W.runs
  · simp; rfl
  apply W.runs
  · simp; rfl
  apply W.seq
  apply W.runs
  · simp; rfl
  apply W.block
  apply W.weak (Weak.nilL 5 (.loc [5] 0) 8 (by simp) rfl)
  simp
  apply W.loop
  apply WL.iter (fun i => True) (sPend own log) (own.length)
  · apply Weak.objs [] (Fresh.none _) <;> simp [Spec.pending]
  · simp
  · intro i hi hI
    have hw := wrap64 (n := (i : Int) + 1) (by omega) (by omega)
    unfold sPend
    have hp := pending_le (own.take i) log
    rw [List.length_take] at hp
    have hpt := pending_take own log i hi
    apply W.runs
    · simp; rfl
    apply W.seq
    apply W.condT (by simp; try omega)
    apply W.skip
    simp only [andThen_normal]
    apply W.seq
    apply W.block
    apply W.runs
    · simp [hi, itemC]; rfl
    apply W.runs
    · simp; rfl
    apply W.seq
    apply W.runs
    · simp; rfl
    apply W.block
    -- loop 2: slots [4, 7, 8, 17, 18, 19, 25, 26, 27, 28, 29, 30, 31, 32, 33, 34, 35, 36]
    apply W.loop
    apply WL.iter (fun j => True) (sPend2 own log i own[i]) (log.length)
    · apply Weak.objs [] (Fresh.none _) <;> simp [Spec.thereP, itemC]
    · simp
    · intro j hj Hj
      have hwj := wrap64 (n := (j : Int) + 1) (by omega) (by omega)
      unfold sPend2
      skip
      apply W.runs
      · simp; rfl
      apply W.seq
      apply W.condT (by simp; try omega)
      apply W.skip
      simp only [andThen_normal]
      apply W.seq
      apply W.block
      apply W.runs
      · simp [hj, itemC]; rfl
      apply W.regM rfl  -- region 9
      iterate 2
        apply WX.ex rfl
        · simp; rfl
        · simp; rfl
      cases h1 : Spec.thereP (log.take j) own[i]
      case false =>
        iterate 6
          apply WX.ex rfl
          · simp; rfl
          · simp; rfl
        cases h2 : (own[i].ident == log[j].ident)
        case false =>
          iterate 8
            apply WX.ex rfl
            · simp; rfl
            · simp; rfl
          apply WX.nil
          simp only [inB_normal, andThen_normal]
          apply W.run
          · simp; rfl
          simp only [andThen_normal]
          refine ⟨?_, ?_⟩  -- next 0 of loop 2
          · apply Weak.objs [] (Fresh.none _) <;> simp [hwj, thereP_take _ _ _ hj, itemC, *]
          · trivial
        -- h2 is true
        iterate 8
          apply WX.ex rfl
          · simp; rfl
          · simp; rfl
        apply WX.nil
        simp only [inB_normal, andThen_normal]
        apply W.run
        · simp; rfl
        simp only [andThen_normal]
        refine ⟨?_, ?_⟩  -- next 1 of loop 2
        · apply Weak.objs [] (Fresh.none _) <;> simp [hwj, thereP_take _ _ _ hj, itemC, *]
        · trivial
      -- h1 is true
      iterate 14
        apply WX.ex rfl
        · simp; rfl
        · simp; rfl
      apply WX.nil
      simp only [inB_normal, andThen_normal]
      apply W.run
      · simp; rfl
      simp only [andThen_normal]
      refine ⟨?_, ?_⟩  -- next 2 of loop 2
      · apply Weak.objs [] (Fresh.none _) <;> simp [hwj, thereP_take _ _ _ hj, itemC, *]
      · trivial
    · intro Hj
      unfold sPend2
      skip
      apply W.runs
      · simp; rfl
      apply W.seq
      apply W.condF (by simp)
      apply W.exit
      simp only [andThen_exit, inB_same, andThen_normal]
      apply W.runs
      · simp; rfl
      apply W.if  -- cond 0
      · simp
      · intro hb
        simp at hb
        apply W.regM rfl  -- region 12
        iterate 3
          apply WX.ex rfl
          · simp [itemC]; rfl
          · simp; rfl
        apply WX.ex rfl
        · simp [itemC, itemC]; exact ⟨⟨by omega, by omega⟩, rfl⟩
        · simp; rfl
        apply WX.ex rfl
        · simp [itemC]; rfl
        · simp; rfl
        apply WX.nil
        simp only [inB_normal, andThen_normal]
        apply W.run
        · simp; rfl
        simp only [andThen_normal]
        refine ⟨?_, ?_⟩  -- next 0 of loop 1
        · apply Weak.objs [(.loc [5] 0, .loc [44] 0)] (Fresh.none _) <;> simp [hw, hpt, hb, itemC]
        · trivial
      · intro hb
        simp at hb
        apply W.skip
        simp only [inB_normal, andThen_normal]
        apply W.run
        · simp; rfl
        simp only [andThen_normal]
        refine ⟨?_, ?_⟩  -- next 1 of loop 1
        · apply Weak.objs [] (Fresh.none _) <;> simp [hw, hpt, hb, itemC]
        · trivial
  · intro hI
    unfold sPend
    skip
    apply W.runs
    · simp; rfl
    apply W.seq
    apply W.condF (by simp)
    apply W.exit
    simp only [andThen_exit, inB_same, andThen_normal]
    apply W.runs
    · simp; rfl
    apply W.ret  -- ret 0
    apply Post.weak (Weak.freezeL (.loc [5] 0) rfl)
    simp
    apply Post.ret
    · simp; rfl
    simp

def kN (q : Int × Int) : A := .ag [.d (.v (.int .u64 q.1)), .d (.v (.int .u64 q.2))]
def vB (b : Bool) : A := .d (.v (.bool b))
def Spec.names (l : List Spec.Item) : List ((Int × Int) × Bool) := l.foldl (fun m x => Spec.putM m (x.ident, x.id) true) []
theorem getM_names (l : List Spec.Item) : ∀ (m : List ((Int × Int) × Bool)) (a b : Int), Spec.getM (l.foldl (fun m x => Spec.putM m (x.ident, x.id) true) m) (a, b) = if l.any (fun y => a == y.ident && b == y.id) then some true else Spec.getM m (a, b) := by
  induction l with
  | nil => intro m a b; simp
  | cons y r ih =>
    intro m a b
    rw [List.foldl_cons, ih, Spec.getM_putM]
    simp only [List.any_cons]
    by_cases h : (a, b) = (y.ident, y.id)
    · simp only [Prod.mk.injEq] at h
      simp [h.1, h.2]
    · have h2 : (a == y.ident && b == y.id) = false := by
        rw [Prod.mk.injEq] at h
        simpa using h
      simp only [if_neg h, h2, Bool.false_or]
theorem look_names (log : List Spec.Item) (x : Spec.Item) : ((Spec.getM (Spec.names log) (x.ident, x.id)).map vB).getD (.d (.v (.bool false))) = .d (.v (.bool (Spec.thereP log x))) := by
  unfold Spec.names
  rw [getM_names]
  unfold Spec.thereP
  cases log.any (fun y => x.ident == y.ident && x.id == y.id) <;> simp [Spec.getM_nil, vB]
theorem names_take (l : List Spec.Item) (i : Nat) (hi : i < l.length) : Spec.names (l.take (i + 1)) = Spec.putM (Spec.names (l.take i)) (l[i].ident, l[i].id) true := by
  rw [List.take_succ_eq_append_getElem hi]
  simp only [Spec.names, List.foldl_append, List.foldl_cons, List.foldl_nil]
theorem keyN (a b : Int × Int) : keyEq Tryz.prog 41 (kN a) (kN b) = some (decide (a = b)) := by
  simp [kN]
  rw [Bool.eq_iff_iff]; simp [Prod.ext_iff]
@[simp] theorem encN_ren (ρ : Nm → Nm) (l : List ((Int × Int) × Bool)) : (encM kN vB l).map (fun q => (ren ρ q.1, ren ρ q.2)) = encM kN vB l := encM_ren (fun k => by simp [kN]) (fun v => by simp [vB]) ρ l
@[simp] theorem encN_in (dm : Nm → Bool) (l : List ((Int × Int) × Bool)) : (encM kN vB l).all (fun q => inD dm q.1 && inD dm q.2) = true := encM_in (fun k => by simp [kN]) (fun v => by simp [vB]) dm l
def sMP1 (own log : List Spec.Item) (i : Nat) : St :=
  ⟨T [(0, .d (itemsD own)), (5, .mp (.loc [11] 0)), (12, .d (itemsD log)), (13, .d (.v (.int .i64 log.length))), (14, .d (.v (.int .i64 i)))],
   OL [(.loc [11] 0, .map (encM kN vB (Spec.names (log.take i))))] (fun _ => .dead), UL [.loc [11] 0] (fun _ => false), []⟩
def sMP2 (own log : List Spec.Item) (i : Nat) : St :=
  ⟨T [(5, .mp (.loc [11] 0)), (8, .os (.loc [8] 0) 8 0 (Spec.pending (own.take i) log).length), (25, .d (itemsD own)), (26, .d (.v (.int .i64 own.length))), (27, .d (.v (.int .i64 i)))],
   OL [(.loc [11] 0, .map (encM kN vB (Spec.names log))), (.loc [8] 0, .arr 8 ((Spec.pending (own.take i) log).map itemC))] (fun _ => .dead), UL [.loc [11] 0, .loc [8] 0] (fun _ => false), []⟩

set_option maxRecDepth 10000 in
theorem spec_model_Pending (own log : List Spec.Item) (ho : own.length ≤ 1000000) (hl : log.length < 4611686018427387904) : DSpec Tryz.prog 7 [.d (itemsD own), .d (itemsD log)] (.d (itemsD (Spec.pending own log))) := by
  apply DSpec.by Tryz.func7 Tryz.call7 rfl Tryz.ntmps7 (by simp) Tryz.results7 rfl
  simp [List.range, List.range.loop]
  apply W.runs
  · simp; rfl
  apply W.seq
  apply W.regM rfl  -- region 1
  -- 0
  apply WX.mkMap (ho := rfl) (hop := rfl) (hd := rfl) (hdN := by simp)
  · rfl
  · simp; rfl
  · simp [upd_T, upd_OL, upd_UL]; rfl
  apply WX.ex rfl
  · simp; rfl
  · simp; rfl
  apply WX.nil
  simp only [andThen_normal]
  apply W.seq
  apply W.runs
  · simp; rfl
  apply W.block
  -- loop 1: slots [4, 5, 12, 13, 14]
  apply W.loop
  apply WL.iter (fun i => True) (sMP1 own log) (log.length)
  · apply Weak.objs [] (Fresh.none _) <;> simp [Spec.names, encM]
  · simp
  · intro i hi hI
    have hw := wrap64 (n := (i : Int) + 1) (by omega) (by omega)
    unfold sMP1
    have hnt := names_take log i hi
    apply W.runs
    · simp; rfl
    apply W.seq
    apply W.condT (by simp; try omega)
    apply W.skip
    simp only [andThen_normal]
    apply W.seq
    apply W.block
    apply W.runs
    · simp [hi, itemC]; rfl
    apply W.regM rfl  -- region 5
    iterate 6
      apply WX.ex rfl
      · simp; rfl
      · simp; rfl
    -- 6
    apply WX.mapUpd (ho := rfl) (hop := rfl) (hd := rfl) (hu := u39)
    · rfl
    · simp; rfl
    · simp; rfl
    · simp
    · exact findA_map keyN (log[i].ident, log[i].id) _ 0
    · exact old_map (ek := kN) (log[i].ident, log[i].id) _
    · exact putA_map (ek := kN) (ev := vB) (log[i].ident, log[i].id) true _
    · simp [upd_T, upd_OL, upd_UL]; rfl
    apply WX.nil
    simp only [inB_normal, andThen_normal]
    apply W.run
    · simp; rfl
    simp only [andThen_normal]
    refine ⟨?_, ?_⟩  -- next 0 of loop 1
    · apply Weak.objs [] (Fresh.none _) <;> simp [hw, hnt]
    · trivial
  · intro hI
    unfold sMP1
    skip
    apply W.runs
    · simp; rfl
    apply W.seq
    apply W.condF (by simp)
    apply W.exit
    simp only [andThen_exit, inB_same, andThen_normal]
    apply W.runs
    · simp; rfl
    apply W.seq
    apply W.runs
    · simp; rfl
    apply W.block
    apply W.weak (Weak.nilL 8 (.loc [8] 0) 8 (by simp) rfl)
    simp
    apply W.loop
    apply WL.iter (fun i => True) (sMP2 own log) (own.length)
    · apply Weak.objs [] (Fresh.none _) <;> simp [Spec.pending]
    · simp
    · intro i hi hI
      have hw := wrap64 (n := (i : Int) + 1) (by omega) (by omega)
      unfold sMP2
      have hp := pending_le (own.take i) log
      rw [List.length_take] at hp
      have hpt := pending_take own log i hi
      apply W.runs
      · simp; rfl
      apply W.seq
      apply W.condT (by simp; try omega)
      apply W.skip
      simp only [andThen_normal]
      apply W.seq
      apply W.block
      apply W.runs
      · simp [hi, itemC]; rfl
      apply W.seq
      apply W.regM rfl  -- region 11
      iterate 6
        apply WX.ex rfl
        · simp; rfl
        · simp; rfl
      -- 6
      apply WX.look (ho := rfl) (hop := rfl) (hd := rfl) (hu := u39)
      · rfl
      · rfl
      · simp; rfl
      · simp; rfl
      · simp
      · exact findA_map keyN (own[i].ident, own[i].id) _ 0
      · simp [lookA_map, look_names]; rfl
      apply WX.ex rfl
      · simp; rfl
      · simp; rfl
      apply WX.nil
      simp only [andThen_normal]
      apply W.if  -- cond 0
      · simp
      · intro hb
        simp at hb
        apply W.regM rfl  -- region 12
        iterate 3
          apply WX.ex rfl
          · simp [itemC]; rfl
          · simp; rfl
        apply WX.ex rfl
        · simp [itemC]; exact ⟨⟨by omega, by omega⟩, rfl⟩
        · simp; rfl
        apply WX.ex rfl
        · simp [itemC]; rfl
        · simp; rfl
        apply WX.nil
        simp only [inB_normal, andThen_normal]
        apply W.run
        · simp; rfl
        simp only [andThen_normal]
        refine ⟨?_, ?_⟩  -- next 0 of loop 2
        · apply Weak.objs [(.loc [8] 0, .loc [42] 0)] (Fresh.none _) <;> simp [hw, hpt, hb, itemC]
        · trivial
      · intro hb
        simp at hb
        apply W.skip
        simp only [inB_normal, andThen_normal]
        apply W.run
        · simp; rfl
        simp only [andThen_normal]
        refine ⟨?_, ?_⟩  -- next 1 of loop 2
        · apply Weak.objs [] (Fresh.none _) <;> simp [hw, hpt, hb, itemC]
        · trivial
    · intro hI
      unfold sMP2
      skip
      apply W.runs
      · simp; rfl
      apply W.seq
      apply W.condF (by simp)
      apply W.exit
      simp only [andThen_exit, inB_same, andThen_normal]
      apply W.runs
      · simp; rfl
      apply W.ret  -- ret 0
      apply Post.weak (Weak.freezeL (.loc [8] 0) rfl)
      simp
      apply Post.ret
      · simp; rfl
      simp

end Go.Proofs.YtamefliipjhpoaaGreat.Ab
