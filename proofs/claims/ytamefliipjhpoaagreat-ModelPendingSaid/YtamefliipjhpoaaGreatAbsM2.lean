/- Maps: made, written, counted, struck; calls with objects; panics. -/
import Derived.Test.YtamefliipjhpoaaGreatAbsM
import Derived.ChangeMaps4
import Derived.Maps.Own
set_option autoImplicit false
namespace Go.Proofs.YtamefliipjhpoaaGreat.Ab
open Go

section
variable {P : Program} {N : Fr} {ops : Array Oper} {i : Nat} {s : St} {o : Oper}

theorem SStep.makeMap {t : TypeId} {d : Tmp} {n : Nm} (ho : ops[i]? = some o) (hop : o.op = .makeMap t none) (hd : o.dst = some d) (hdN : d < N.n) (hw : wantA ops s o = some true) (hn : nmFor s.u (d :: s.p) = some n) :
    SStep P N ops i s ⟨upd s.t d (.mp n), upd s.o n (.map []), upd s.u n true, s.p⟩ := by
  refine sstep_value ho hw rfl (fun φ Pr ac w hI => .inl ?_)
  refine ⟨.map (some w.heap.size), w.alloc (.map #[] 0), upd φ n (some ⟨some ⟨w.heap.size, 0, none⟩, 1⟩), Pr, ?_, ?_⟩
  · unfold execOp; rw [hop]
    simp [Instr.makeMap]
  rw [hd]
  exact hI.born rfl rfl rfl rfl (nmFor_new hn) (.map #[] 0) ⟨some ⟨w.heap.size, 0, none⟩, 1⟩ (.map []) (fun x hx => .inl (upd_ne _ _ hx)) (upd_same _ _ _)
    (fun hL => ⟨w.heap.size, #[], 0, upd_same _ _ _, heap_alloc_get _ _, rfl, by simp, fun r x hp => absurd (hI.heap.cell r _ x hp) (by omega)⟩)
    (fun b hb => by simp [blockOf] at hb; exact hb.symm) hdN (.mp (upd_same _ _ _) rfl)

/-- A block's object is another one, behind draws. -/
def setB (w : World) (b : Nat) (ob : Obj) (m : Nat) : World := { w with heap := w.heap.setIfInBounds b ob, drawn := m }
theorem setB_same {w : World} {b : Nat} {x ob : Obj} {m : Nat} (hb : w.heap[b]? = some x) : (setB w b ob m).heap[b]? = some ob := by
  have := (Array.getElem?_eq_some_iff.1 hb).1
  simp [setB, this]
theorem setB_other {w : World} {b c : Nat} {ob : Obj} {m : Nat} (h : c ≠ b) : (setB w b ob m).heap[c]? = w.heap[c]? := by
  simp [setB, Array.getElem?_setIfInBounds_ne (Ne.symm h)]

/-- A map is written. -/
def putA (k v : A) (r : Option (Nat × A)) (es : List (A × A)) : List (A × A) := match r with
  | some (i, _) => es.set i (k, v)
  | none => es ++ [(k, v)]

theorem map_set {φ : Map} {Pr : Pro} {ac : Act} {w : World} {n : Nm} {es es' : List (A × A)} {b : Nat} {l : Loc} (hI : Inv N s φ Pr ac w) (hn : s.o n = .map es) (hl : φ n = some l) (ha : l.a = some ⟨b, 0, none⟩) {ents ents' : Array MapEntry} {ck ck' : Nat} (hb : w.heap[b]? = some (.map ents ck))
    (he : EntsRel w φ Pr ents'.toList es') (m : Nat) : Inv N ⟨s.t, upd s.o n (.map es'), s.u, s.p⟩ φ Pr ac (setB w b (.map ents' ck') m) ∧ Adv w φ Pr s.o (setB w b (.map ents' ck') m) φ Pr (upd s.o n (.map es')) := by
  have hr := hI.heap.rep n
  rw [hn] at hr
  obtain ⟨hφ, _, _, _, _, hno⟩ := obRep_ents hr hl ha
  have hbk : blockOf φ n = some b := by simp [blockOf, hφ]
  have hlive : Live φ s.o b := ⟨n, by rw [hn]; rfl, hbk⟩
  have hsz : (setB w b (.map ents' ck') m).heap.size = w.heap.size := by simp [setB]
  have hsame : (setB w b (.map ents' ck') m).heap[b]? = some (.map ents' ck') := setB_same hb
  have hold : ∀ c, c ≠ b → (setB w b (.map ents' ck') m).heap[c]? = w.heap[c]? := fun c hc => setB_other hc
  have hoth : ∀ y, y ≠ n → (upd s.o n (.map es') y = s.o y ∨ upd s.o n (.map es') y = .dead) ∧ φ y = φ y := fun y hy => ⟨.inl (upd_ne _ _ hy), rfl⟩
  have hA : Adv w φ Pr s.o (setB w b (.map ents' ck') m) φ Pr (upd s.o n (.map es')) :=
    Adv.step hI.heap rfl rfl rfl (by rw [hsz]; exact Nat.le_refl _) (fun c _ hn' => hold c (fun e => hn' (e ▸ hlive))) n (fun _ _ h => h) hoth (fun c _ hb' => by
      rw [hbk] at hb'; simp at hb'; subst hb'; exact .inl hlive)
  have hL := hA.later hI.heap (fun _ _ h => h)
  have hH := Heap.step hI.heap hL (by rw [hsz]; exact Nat.le_refl _) n (o' := upd s.o n (.map es')) (by
      rw [upd_same]
      refine ⟨b, ents', ck', hφ, hsame, by simpa using he.1, fun j q hj => ?_, hno⟩
      obtain ⟨e, h1, h2, h3⟩ := he.2 j q hj
      exact ⟨e, by simpa using h1, h2.later hL, h3.later hL⟩) hoth
    (fun c hc => by rw [hsz]; exact hI.heap.lt n c hc)
    (fun y c hy hly hby => hold c (fun e => hy (by
      subst e
      rw [upd_ne _ _ hy] at hly
      exact hI.heap.apart y n c hly (by rw [hn]; rfl) hby hbk)))
    (fun y c hy hly _ hby hbm => hy (by
      rw [upd_ne _ _ hy] at hly
      exact hI.heap.apart y n c hly (by rw [hn]; rfl) hby hbm))
  exact ⟨hI.later hL hH hI.used, hA⟩

theorem run_keyThatStays2 (P : Program) (a b : Value) (w : World) : ∃ k m, (Instr.keyThatStays a b).run P w = .ok k { w with drawn := m } ∧ (k = a ∨ k = b) := by
  unfold Instr.keyThatStays
  by_cases h : Instr.sameBits 10000 a b = true
  · exact ⟨b, w.drawn, by simp [h], .inr rfl⟩
  · have h' : Instr.sameBits 10000 a b = false := by simpa using h
    simp only [h', Bool.false_eq_true, if_false, choose, Sem.run_bind]
    simp only [Sem.run, Question.forced, Question.cut, Result.andThen]
    by_cases hz : w.tape w.drawn (.extern "map.whichKeyStays" 2) % 2 = 0
    · exact ⟨b, w.drawn + 1, by simp [hz], .inr rfl⟩
    · exact ⟨a, w.drawn + 1, by simp [hz], .inl rfl⟩

theorem SStep.mapUpdate {t kt et : TypeId} {x k v : Operand} {n : Nm} {es es' : List (A × A)} {r : Option (Nat × A)} (ho : ops[i]? = some o) (hop : o.op = .mapUpdate t x k v) (hd : o.dst = none)
    (hw : wantA ops s o = some true) (hu : P.underlying t = some (.map kt et)) (hx : s.ev x = .mp n) (hn : s.o n = .map es) (hk : keyOk P kt (s.ev k) = true) (hf : findA P kt (s.ev k) es 0 = some r)
    (hold : ∀ j a, r = some (j, a) → (es[j]?).map (·.1) = some (s.ev k)) (he : putA (s.ev k) (s.ev v) r es = es') : SStep P N ops i s ⟨s.t, upd s.o n (.map es'), s.u, s.p⟩ := by
  refine sstep_value ho hw rfl (fun φ Pr ac w hI => .inr ?_)
  have hev := hI.ev x
  rw [hx] at hev
  generalize hxv : ac.eval x = xv at hev
  cases hev with
  | @mp _ b l hl ha =>
    have hr := hI.heap.rep n
    rw [hn] at hr
    obtain ⟨hφ, ents, c, hb, hee, _⟩ := obRep_ents hr hl ha
    obtain ⟨r', f1, f2⟩ := run_findKeyA (hI.ev k) hk hee hf
    have hck := run_checkKeyA (hI.ev k) hk false 9998
    simp only [show 9998 + 2 = 10000 from rfl] at hck
    have hv : ∃ ents' ck' m, (Instr.mapUpdate t (.map (some b)) (ac.eval k) (ac.eval v)).run P w = .ok () (setB w b (.map ents' ck') m) ∧ EntsRel w φ Pr ents'.toList es' := by
      subst he
      cases r with
      | none =>
        cases r' with
        | some _ => exact f2.elim
        | none =>
          refine ⟨ents.push ⟨ac.eval k, ac.eval v, c⟩, c + 1, w.drawn, ?_, ?_⟩
          · simp [Instr.mapUpdate, Sem.run_bind, run_underlying hu, getObj, setObj, Sem.run, hb, hck, f1, setB, Result.andThen]
          · refine ⟨by simp [putA, hee.1], fun j q hj => ?_⟩
            simp only [putA] at hj
            simp only [Array.toList_push]
            by_cases hlt : j < es.length
            · rw [List.getElem?_append_left hlt] at hj
              rw [List.getElem?_append_left (by rw [hee.1]; exact hlt)]
              exact hee.2 j q hj
            · rw [List.getElem?_append_right (by omega)] at hj
              rw [List.getElem?_append_right (by rw [hee.1]; omega), hee.1]
              have h0 : j - es.length = 0 := by
                have := (List.getElem?_eq_some_iff.1 hj).1
                simp at this; omega
              rw [h0] at hj ⊢
              simp at hj; subst hj
              exact ⟨_, rfl, hI.ev k, hI.ev v⟩
      | some y =>
        obtain ⟨j, a⟩ := y
        cases r' with
        | none => exact f2.elim
        | some z =>
          obtain ⟨j', vv⟩ := z
          obtain ⟨rfl, _⟩ := f2
          have hkj := hold j' a rfl
          cases hq : es[j']? with
          | none => rw [hq] at hkj; simp at hkj
          | some q =>
            rw [hq] at hkj; simp at hkj
            obtain ⟨e0, g1, g2, g3⟩ := hee.2 j' q hq
            have g1' : ents[j']? = some e0 := by simpa using g1
            obtain ⟨kk, m, k1, k2⟩ := run_keyThatStays2 P e0.key (ac.eval k) w
            have hlt : j' < ents.size := (Array.getElem?_eq_some_iff.1 g1').1
            refine ⟨ents.modify j' fun e => { e with key := kk, val := ac.eval v }, c, m, ?_, ?_⟩
            · simp [Instr.mapUpdate, Sem.run_bind, run_underlying hu, getObj, setObj, Sem.run, hb, hck, f1, g1', k1, setB, Result.andThen]
            · refine ⟨by simp [putA, hee.1], fun i2 q2 hj => ?_⟩
              simp only [putA, List.getElem?_set] at hj
              rw [Array.getElem?_toList, Array.getElem?_modify]
              by_cases hi : j' = i2
              · subst hi
                rw [if_pos rfl] at hj ⊢
                have hle : j' < es.length := (List.getElem?_eq_some_iff.1 hq).1
                rw [if_pos hle] at hj
                simp at hj; subst hj
                refine ⟨_, by rw [g1']; rfl, ?_, hI.ev v⟩
                rcases k2 with rfl | rfl
                · rw [← hkj]; exact g2
                · exact hI.ev k
              · rw [if_neg hi] at hj ⊢
                obtain ⟨e2, m1, m2⟩ := hee.2 i2 q2 hj
                exact ⟨e2, by simpa using m1, m2⟩
    obtain ⟨ents', ck', m, v1, v2⟩ := hv
    obtain ⟨h1, h2⟩ := map_set hI hn hl ha hb v2 (ck' := ck') m
    refine ⟨_, φ, Pr, ?_, by rw [hd]; exact h1, h2⟩
    unfold execOp; rw [hop]
    simp only [hxv, Sem.run_bind, v1, Result.andThen_ok]; rfl
end

end Go.Proofs.YtamefliipjhpoaaGreat.Ab
