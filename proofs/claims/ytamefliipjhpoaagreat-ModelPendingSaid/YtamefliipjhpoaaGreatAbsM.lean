/- Steps by what they do; maps; ends by panics. -/
import Derived.Test.YtamefliipjhpoaaGreatAbsI
import Derived.WideKeyRuns
set_option autoImplicit false
namespace Go.Proofs.YtamefliipjhpoaaGreat.Ab
open Go

/-! ### Steps by what they do -/
/-- Operation i leads from s to s1. -/
def SStep (P : Program) (N : Fr) (ops : Array Oper) (i : Nat) (s s1 : St) : Prop := s1.p = s.p ∧ ∀ (φ : Map) (Pr : Pro) (ac : Act) (w : World) (Q : Exit → Act → World → Prop) (K : Act → World → Prop),
  Inv N s φ Pr ac w → Then N s.p w φ Pr s s1 K → wpOp P ops Q i K ac w
/-- Operation i, at s, ends by a panic. -/
def PStep (P : Program) (N : Fr) (ops : Array Oper) (i : Nat) (s : St) (ch : List PanicEntry) (s1 : St) : Prop := s1.p = s.p ∧ ∀ (φ : Map) (Pr : Pro) (ac : Act) (w : World) (Q : Exit → Act → World → Prop) (K : Act → World → Prop),
  Inv N s φ Pr ac w → Then N s.p w φ Pr s s1 (Q (.panic ch)) → wpOp P ops Q i K ac w

/-- Operations, one behind the other: from s to an exit and a state. -/
def RegX (P : Program) (N : Fr) (ops : Array Oper) (l : List Nat) (s : St) (e : Exit) (s1 : St) : Prop := s1.p = s.p ∧ ∀ (φ : Map) (Pr : Pro) (ac : Act) (w : World) (Q : Exit → Act → World → Prop),
  Inv N s φ Pr ac w → Then N s.p w φ Pr s s1 (Q e) → wpOps P ops Q l ac w

section
variable {P : Program} {N : Fr} {ops : Array Oper} {i : Nat} {l : List Nat} {s s1 s2 : St} {e : Exit}
theorem RegX.nil : RegX P N ops [] s .normal s := ⟨rfl, fun φ Pr ac w Q hI hK => by
  simp only [wpOps]
  exact hK φ Pr ac w hI (Went.refl hI.heap _)⟩
theorem RegX.cons (h : SStep P N ops i s s1) (t : RegX P N ops l s1 e s2) : RegX P N ops (i :: l) s e s2 := ⟨t.1.trans h.1, fun φ Pr ac w Q hI hK => by
  rw [wpOps_cons]
  exact h.2 φ Pr ac w Q _ hI (fun φ1 Pr1 ac1 w1 hI1 hW1 => t.2 φ1 Pr1 ac1 w1 Q hI1 (fun φ2 Pr2 ac2 w2 hI2 hW2 => hK φ2 Pr2 ac2 w2 hI2 (hW1.trans (h.1 ▸ hW2))))⟩
theorem RegX.panic {ch : List PanicEntry} (h : PStep P N ops i s ch s1) : RegX P N ops (i :: l) s (.panic ch) s1 := ⟨h.1, fun φ Pr ac w Q hI hK => by
  rw [wpOps_cons]
  exact h.2 φ Pr ac w Q _ hI hK⟩
theorem RegX.weak (h : Weak N s s1) (t : RegX P N ops l s1 e s2) : RegX P N ops l s e s2 := ⟨t.1.trans h.1, fun φ Pr ac w Q hI hK => by
  obtain ⟨φ1, Pr1, h1, h2⟩ := h.2 φ Pr ac w hI
  exact t.2 φ1 Pr1 ac w Q h1 (fun φ2 Pr2 ac2 w2 hI2 hW2 => hK φ2 Pr2 ac2 w2 hI2 (h2.trans (h.1 ▸ hW2)))⟩
theorem Big.regionS {id : Nat} (h : RegX P N ops (List.range ops.size) s e s1) : Big P N (.region id ops false) s e s1 :=
  ⟨h.1, fun φ Pr ac w Q hI hK => wp_region (h.2 φ Pr ac w Q hI hK)⟩
theorem StepR.sstep {δ : Dl} (h : StepR P N ops s i δ) : SStep P N ops i s (s.app δ) := ⟨rfl, fun φ Pr ac w Q K hI hK =>
  wpOp_mono (fun ac' w' hs => by
    obtain ⟨φ', Pr', hI', hA⟩ := hs
    exact hK φ' Pr' ac' w' hI' (hA.went _)) (h.rep hI Q)⟩

/-- n operations from place k on, and then R. -/
def WX (P : Program) (N : Fr) (ops : Array Oper) (k n : Nat) (s : St) (R : Exit → St → Prop) : Prop := ∃ e s', RegX P N ops (List.range' k n) s e s' ∧ R e s'
variable {k n : Nat} {R : Exit → St → Prop} {o : Oper}
theorem WX.nil (h : R .normal s) : WX P N ops k 0 s R := ⟨_, s, .nil, h⟩
theorem WX.sem (h : SStep P N ops k s s1) (t : WX P N ops (k + 1) n s1 R) : WX P N ops k (n + 1) s R := by
  obtain ⟨e, s', h1, h2⟩ := t
  exact ⟨e, s', by rw [List.range'_succ]; exact .cons h h1, h2⟩
theorem WX.panic {ch : List PanicEntry} (h : PStep P N ops k s ch s1) (t : R (.panic ch) s1) : WX P N ops k (n + 1) s R :=
  ⟨_, s1, by rw [List.range'_succ]; exact .panic h, t⟩
theorem WX.weak (h : Weak N s s1) (t : WX P N ops k n s1 R) : WX P N ops k n s R := by
  obtain ⟨e, s', h1, h2⟩ := t
  exact ⟨e, s', .weak h h1, h2⟩
theorem WX.step {δ : Dl} (h : StepR P N ops s k δ) (e : s.app δ = s1) (t : WX P N ops (k + 1) n s1 R) : WX P N ops k (n + 1) s R := by
  subst e; exact .sem h.sstep t
theorem WX.ex {δ : Dl} (ho : ops[k]? = some o) (h : stepD P N ops s o = some δ) (e : s.app δ = s1) (t : WX P N ops (k + 1) n s1 R) : WX P N ops k (n + 1) s R := .step (.ex ho h) e t
theorem WX.call {c : Call} {g : Operand} {f : FuncId} {args : List A} {r : A} (ho : ops[k]? = some o) (hop : o.op = .call c) (hcal : c.callee = .value g) (hg : s.ev g = .fn f []) (hd : dstOk N o.dst = true) (hw : wantA ops s o = some true)
    (hargs : (c.args.toList.map fun x => viewA s (s.ev x)) = args) (hpl : args.all plainA = true) (hs : DSpec P f args r) (e : s.app (slotD o.dst r) = s1) (t : WX P N ops (k + 1) n s1 R) : WX P N ops k (n + 1) s R := .step (.call ho hop hcal hg hw hd hargs hpl (.inl hs)) e t
theorem WX.prim {c : Call} {g : Operand} {f : FuncId} {args : List A} {r : A} (ho : ops[k]? = some o) (hop : o.op = .call c) (hcal : c.callee = .value g) (hg : s.ev g = .fn f []) (hd : dstOk N o.dst = true) (hw : wantA ops s o = some true)
    (hargs : (c.args.toList.map fun x => viewA s (s.ev x)) = args) (hpl : args.all plainA = true) (hs : PSpec P f args r) (e : s.app (slotD o.dst r) = s1) (t : WX P N ops (k + 1) n s1 R) : WX P N ops k (n + 1) s R := .step (.call ho hop hcal hg hw hd hargs hpl (.inr hs)) e t
theorem W.regM {id : Nat} (hn : ops.size = n) (h : WX P N ops 0 n s R) : W P N (.region id ops false) s R := by
  subst hn
  obtain ⟨e, s1, h, k⟩ := h
  refine ⟨_, s1, .regionS ?_, k⟩
  rwa [← List.range_eq_range'] at h
end

/-! ### An operation that yields a value, by hand -/
theorem sstep_value {P : Program} {N : Fr} {ops : Array Oper} {i : Nat} {s s1 : St} {o : Oper} (ho : ops[i]? = some o) (hw : wantA ops s o = some true) (hp : s1.p = s.p)
    (h : ∀ (φ : Map) (Pr : Pro) (ac : Act) (w : World), Inv N s φ Pr ac w → (∃ v w' φ' Pr', (execOp ac.eval o).run P w = .ok (.value v) w' ∧ Inv N s1 φ' Pr' (ac.put o.dst v) w' ∧ Adv w φ Pr s.o w' φ' Pr' s1.o) ∨
      (∃ w' φ' Pr', (execOp ac.eval o).run P w = .ok .skip w' ∧ Inv N s1 φ' Pr' (ac.put o.dst undef) w' ∧ Adv w φ Pr s.o w' φ' Pr' s1.o)) : SStep P N ops i s s1 := ⟨hp, fun φ Pr ac w Q K hI hK => by
  unfold wpOp
  rw [ho]
  simp only []
  rw [wantA_rep hI hw, if_pos rfl]
  left
  unfold Oper.wp
  rcases h φ Pr ac w hI with ⟨v, w', φ', Pr', h1, h2, h3⟩ | ⟨w', φ', Pr', h1, h2, h3⟩
  · rw [h1]; exact hK φ' Pr' _ w' h2 (h3.went _)
  · rw [h1]; exact hK φ' Pr' _ w' h2 (h3.went _)⟩

/-! ### Keys -/
def keyPart (P : Program) (t : TypeId) (x : Value) : Bool := match P.underlying t, x with
  | some (.int _), .int _ _ => true
  | some .bool, .bool _ => true
  | some .string, .string _ => true
  | _, _ => false
def keyOk (P : Program) (kt : TypeId) : A → Bool
  | .d (.v x) => keyPart P kt x
  | .ag xs => match P.underlying kt with
    | some (.struct fs) => !P.stoodInHeld kt && fs.toList.all fun f => match xs[f.offset]? with
      | some (.d (.v x)) => keyPart P f.type x
      | _ => false
    | _ => false
  | _ => false
def keyEq (P : Program) (kt : TypeId) : A → A → Option Bool
  | .d (.v a), .d (.v b) => fieldEq P kt a b
  | .ag xs, .ag ys => match P.underlying kt with
    | some (.struct fs) => if P.stoodInHeld kt then none else eqFields P fs.toList xs ys
    | _ => none
  | _, _ => none
def findA (P : Program) (kt : TypeId) (k : A) : List (A × A) → Nat → Option (Option (Nat × A))
  | [], _ => some none
  | q :: r, i => match keyEq P kt k q.1 with
    | some true => some (some (i, q.2))
    | some false => findA P kt k r (i + 1)
    | none => none

theorem keyPart_agg {P : Program} {t : TypeId} {x : Value} (h : keyPart P t x = true) : aggB P t = some false := by
  unfold keyPart at h
  unfold aggB
  split at h <;> first | (rename_i hu; rw [hu]) | simp at h

theorem run_checkKey_part {P : Program} {t : TypeId} {x : Value} (h : keyPart P t x = true) (em : Bool) (n : Nat) (w : World) : (Instr.checkKey em (n + 1) t x).run P w = .ok () w := by
  unfold keyPart at h
  split at h
  · rename_i hu; simp [Instr.checkKey, run_underlying hu]
  · rename_i hu; simp [Instr.checkKey, run_underlying hu]
  · rename_i hu; simp [Instr.checkKey, run_underlying hu]
  · simp at h

theorem run_checkKeyA {P : Program} {w : World} {φ : Map} {Pr : Pro} {kt : TypeId} {x : Value} {k : A} (hx : ARep w φ Pr x k) (h : keyOk P kt k = true) (em : Bool) (n : Nat) : (Instr.checkKey em (n + 2) kt x).run P w = .ok () w := by
  unfold keyOk at h
  split at h
  · have e := hx.dv_eq
    subst e
    exact run_checkKey_part h em (n + 1) w
  · rename_i xs
    split at h
    case h_2 => simp at h
    rename_i fs hu
    simp only [Bool.and_eq_true] at h
    obtain ⟨cs, rfl, hr⟩ := CellsRel.of_ag hx
    rw [Instr.checkKey]
    simp only [Sem.run_bind, run_underlying hu, Result.andThen_ok]
    rw [← Array.forIn_toList]
    have hall := List.all_eq_true.1 h.2
    clear h
    generalize fs.toList = L at hall
    induction L with
    | nil => simp
    | cons f L ih =>
      have hf := hall f List.mem_cons_self
      split at hf
      · rename_i y hy
        have hlt : f.offset < cs.size := by rw [hr.1]; exact (List.getElem?_eq_some_iff.1 hy).1
        have e : cs[f.offset]? = some y := by
          have e := ((hr.2 _ _ hy).2).dv_eq
          rw [← e]; simp [Array.getD_eq_getD_getElem?, hlt]
        have hp := run_part_one (keyPart_agg hf) e w
        have hc := run_checkKey_part hf em n w
        simp only [List.forIn_cons, Sem.run_bind]
        by_cases hn : f.name = "_"
        · simp only [hn, ne_eq, not_true_eq_false, if_false, Sem.run_pure, Result.andThen_ok]
          exact ih (fun g hg => hall g (List.mem_cons_of_mem _ hg))
        · simp only [hn, ne_eq, not_false_eq_true, if_true, Sem.run_bind, hp, hc, Result.andThen_ok, Sem.run_pure]
          exact ih (fun g hg => hall g (List.mem_cons_of_mem _ hg))
      · simp at hf
  · simp at h

theorem run_keyEq {P : Program} {w : World} {φ : Map} {Pr : Pro} {kt : TypeId} {x y : Value} {a b : A} {r : Bool} (hx : ARep w φ Pr x a) (hy : ARep w φ Pr y b) (h : keyEq P kt a b = some r) : (Op.equal kt x y).run P w = .ok r w := by
  unfold keyEq at h
  split at h
  · have e1 := hx.dv_eq
    have e2 := hy.dv_eq
    subst e1; subst e2
    exact run_fieldEq h 9999 w
  · split at h
    case h_2 => simp at h
    rename_i fs hu
    split at h
    · simp at h
    rename_i hs
    obtain ⟨xs, rfl, hxs⟩ := CellsRel.of_ag hx
    obtain ⟨ys, rfl, hys⟩ := CellsRel.of_ag hy
    have hfo : P.fieldsOf kt = fs := by simp [Program.fieldsOf, hu]
    have hs' : P.stoodInHeld kt = false := by simpa using hs
    show (Op.equalIn 10000 kt (.agg xs) (.agg ys)).run P w = _
    rw [show (10000 : Nat) = 9999 + 1 from rfl, run_equalIn_struct w 9999 kt xs ys (by rw [hfo]; exact hu) hs', hfo]
    exact run_eqFields hxs hys 9998 fs.toList r h
  · simp at h

/-- What a search yields stands for what the abstract one yields. -/
def FindRel (w : World) (φ : Map) (Pr : Pro) : Option (Nat × Value) → Option (Nat × A) → Prop
  | none, none => True
  | some (i, v), some (j, a) => i = j ∧ ARep w φ Pr v a
  | _, _ => False
def EntsRel (w : World) (φ : Map) (Pr : Pro) (ents : List MapEntry) (es : List (A × A)) : Prop := ents.length = es.length ∧
  ∀ (j : Nat) (q : A × A), es[j]? = some q → ∃ e, ents[j]? = some e ∧ ARep w φ Pr e.key q.1 ∧ ARep w φ Pr e.val q.2
theorem EntsRel.tail {w : World} {φ : Map} {Pr : Pro} {e : MapEntry} {ents : List MapEntry} {q : A × A} {es : List (A × A)} (h : EntsRel w φ Pr (e :: ents) (q :: es)) : ARep w φ Pr e.key q.1 ∧ ARep w φ Pr e.val q.2 ∧ EntsRel w φ Pr ents es := by
  obtain ⟨h1, h2⟩ := h
  obtain ⟨e', k1, k2, k3⟩ := h2 0 q rfl
  simp at k1; subst k1
  exact ⟨k2, k3, by simpa using h1, fun j q' hj => by simpa using h2 (j + 1) q' (by simpa using hj)⟩

theorem run_findAsking {P : Program} {w : World} {φ : Map} {Pr : Pro} {kt : TypeId} {x : Value} {k : A} (hx : ARep w φ Pr x k) : ∀ (es : List (A × A)) (ents : List MapEntry) (i : Nat) (r : Option (Nat × A)), EntsRel w φ Pr ents es → findA P kt k es i = some r →
    ∃ r', (Instr.findAsking kt x ents i).run P w = .ok r' w ∧ FindRel w φ Pr r' r
  | [], [], i, r, _, h => by simp [findA] at h; subst h; exact ⟨none, by simp [Instr.findAsking], trivial⟩
  | [], _ :: _, _, _, he, _ => by simp [EntsRel] at he
  | _ :: _, [], _, _, he, _ => by simp [EntsRel] at he
  | q :: es, e :: ents, i, r, he, h => by
    obtain ⟨h1, h2, h3⟩ := he.tail
    unfold findA at h
    split at h
    · rename_i hk
      simp at h; subst h
      exact ⟨some (i, e.val), by simp [Instr.findAsking, Sem.run_bind, run_keyEq hx h1 hk], rfl, h2⟩
    · rename_i hk
      obtain ⟨r', k1, k2⟩ := run_findAsking hx es ents (i + 1) r h3 h
      exact ⟨r', by simp [Instr.findAsking, Sem.run_bind, run_keyEq hx h1 hk, k1], k2⟩
    · simp at h

theorem bytes_beq (a b : ByteArray) : (a == b) = (a.toList == b.toList) := by
  have h : (a == b) = (a.data == b.data) := rfl
  rw [h, Bool.eq_iff_iff, beq_iff_eq, beq_iff_eq, ByteArray.toList_eq, ByteArray.toList_eq]
  exact ⟨fun e => by rw [e], fun e => Array.ext' e⟩

theorem sameNow_eq {P : Program} {kt : TypeId} {d : TypeDesc} (hu : P.underlying kt = some d) {a b : Value} {r : Bool} (h : fieldEq P kt a b = some r) : Instr.sameNow d a b = some r := by
  unfold fieldEq at h
  rw [hu] at h
  split at h
  · injection ‹some d = _› with e; subst e; simpa [Instr.sameNow] using h
  · injection ‹some d = _› with e; subst e; simpa [Instr.sameNow] using h
  · injection ‹some d = _› with e; subst e; simpa [Instr.sameNow, bytes_beq] using h
  · simp at h

theorem findNow_eq {P : Program} {w : World} {φ : Map} {Pr : Pro} {kt : TypeId} {d : TypeDesc} (hu : P.underlying kt = some d) {y : Value} : ∀ (es : List (A × A)) (ents : List MapEntry) (i : Nat) (r : Option (Nat × A)), EntsRel w φ Pr ents es → findA P kt (.d (.v y)) es i = some r →
    ∃ r', Instr.findNow d y ents i = some r' ∧ FindRel w φ Pr r' r
  | [], [], i, r, _, h => by simp [findA] at h; subst h; exact ⟨none, rfl, trivial⟩
  | [], _ :: _, _, _, he, _ => by simp [EntsRel] at he
  | _ :: _, [], _, _, he, _ => by simp [EntsRel] at he
  | q :: es, e :: ents, i, r, he, h => by
    obtain ⟨h1, h2, h3⟩ := he.tail
    have key : ∀ b, keyEq P kt (.d (.v y)) q.1 = some b → Instr.sameNow d y e.key = some b := by
      intro b hk
      unfold keyEq at hk
      split at hk
      · rename_i x z hxy hz
        simp at hxy; subst hxy
        rw [hz] at h1
        have e1 := h1.dv_eq
        rw [e1]
        exact sameNow_eq hu hk
      · rename_i hxy _; simp at hxy
      · simp at hk
    unfold findA at h
    split at h
    · rename_i hk
      simp at h; subst h
      exact ⟨some (i, e.val), by simp [Instr.findNow, key _ hk], rfl, h2⟩
    · rename_i hk
      obtain ⟨r', k1, k2⟩ := findNow_eq hu es ents (i + 1) r h3 h
      exact ⟨r', by simp [Instr.findNow, key _ hk, k1], k2⟩
    · simp at h

theorem run_findKeyA {P : Program} {w : World} {φ : Map} {Pr : Pro} {kt : TypeId} {x : Value} {k : A} (hx : ARep w φ Pr x k) (hk : keyOk P kt k = true) {es : List (A × A)} {ents : List MapEntry} {r : Option (Nat × A)} (he : EntsRel w φ Pr ents es) (h : findA P kt k es 0 = some r) :
    ∃ r', (Instr.findKey kt x ents).run P w = .ok r' w ∧ FindRel w φ Pr r' r := by
  unfold keyOk at hk
  split at hk
  · have e := hx.dv_eq
    subst e
    have hu : ∃ d, P.underlying kt = some d := by
      unfold keyPart at hk
      split at hk <;> first | exact ⟨_, ‹_›⟩ | simp at hk
    obtain ⟨d, hu⟩ := hu
    obtain ⟨r', h1, h2⟩ := findNow_eq hu es ents 0 r he h
    exact ⟨r', by simp [Instr.findKey, run_underlying hu, h1], h2⟩
  · split at hk
    case h_2 => simp at hk
    rename_i fs hu
    obtain ⟨r', h1, h2⟩ := run_findAsking hx es ents 0 r he h
    exact ⟨r', by rw [run_findKey_eq w (by rw [hu])]; exact h1, h2⟩
  · simp at hk

/-- A type's zero. -/
def zeroA (P : Program) (t : TypeId) : Option A := match (P.info? t).bind (·.zero) with
  | some (.agg xs) => if xs.toList.all oneV then some (.ag (xs.toList.map constA)) else none
  | some z => if oneV z then some (constA z) else none
  | none => none
theorem run_zeroA {P : Program} {w : World} {φ : Map} {Pr : Pro} {t : TypeId} {a : A} (h : zeroA P t = some a) : ∃ z, (zeroValue t).run P w = .ok z w ∧ ARep w φ Pr z a := by
  have hz : ∀ z, (P.info? t).bind (·.zero) = some z → (zeroValue t).run P w = .ok z w := by
    intro z hz
    cases hi : P.info? t with
    | none => simp [hi] at hz
    | some it =>
      simp [hi] at hz
      simp [zeroValue, typeInfo, hi, hz]
  unfold zeroA at h
  split at h
  · rename_i xs hxs
    split at h
    · rename_i hall
      simp at h; subst h
      refine ⟨_, hz _ hxs, .ag (by simp) (fun j hj => ?_) (fun j c hj => ?_)⟩
      · have := List.all_eq_true.1 hall xs[j] (by simp)
        simpa [Array.getD_eq_getD_getElem?, hj] using this
      · rw [List.getElem?_map] at hj
        cases hq : xs.toList[j]? with
        | none => simp [hq] at hj
        | some y =>
          simp [hq] at hj; subst hj
          have hq' : xs[j]? = some y := by rw [← Array.getElem?_toList]; exact hq
          rw [Array.getD_eq_getD_getElem?, hq']
          exact constA_rep y
    · simp at h
  · rename_i z _ hzz
    split at h
    · simp at h; subst h
      exact ⟨_, hz _ hzz, constA_rep _⟩
    · simp at h
  · simp at h

theorem obRep_ents {w : World} {φ : Map} {Pr : Pro} {n : Nm} {es : List (A × A)} {b : Nat} {l : Loc} (h : obRep w φ Pr n (.map es)) (hl : φ n = some l) (ha : l.a = some ⟨b, 0, none⟩) :
    φ n = some ⟨some ⟨b, 0, none⟩, 1⟩ ∧ ∃ ents ck, w.heap[b]? = some (.map ents ck) ∧ EntsRel w φ Pr ents.toList es ∧ ∀ r o, ¬ Pr r b o := by
  obtain ⟨b', ents, ck, hφ, hh, hsz, hr, hno⟩ := h
  rw [hl] at hφ; simp at hφ; subst hφ
  simp at ha; subst ha
  exact ⟨hl, ents, ck, hh, ⟨by simpa using hsz, fun j q hj => by simpa using hr j q hj⟩, hno⟩

/-- A search in a map. -/
def lookA (ck : Bool) (r : Option (Nat × A)) (z : A) : A := if ck then .tup [(r.map (·.2)).getD z, .d (.v (.bool r.isSome))] else (r.map (·.2)).getD z

theorem FindRel.look {w : World} {φ : Map} {Pr : Pro} {r' : Option (Nat × Value)} {r : Option (Nat × A)} (h : FindRel w φ Pr r' r) {z : Value} {za : A} (hz : ARep w φ Pr z za) : ARep w φ Pr ((r'.map (·.2)).getD z) ((r.map (·.2)).getD za) ∧ r'.isSome = r.isSome := by
  cases r' with
  | none =>
    cases r with
    | none => exact ⟨hz, rfl⟩
    | some _ => exact h.elim
  | some x =>
    cases r with
    | none => exact h.elim
    | some y => exact ⟨h.2, rfl⟩

theorem SStep.lookup {P : Program} {N : Fr} {ops : Array Oper} {i : Nat} {s : St} {o : Oper} {t kt et : TypeId} {x k : Operand} {ck : Bool} {n : Nm} {es : List (A × A)} {r : Option (Nat × A)} {z : A} (ho : ops[i]? = some o) (hop : o.op = .lookup t x k ck) (hd : dstOk N o.dst = true)
    (hw : wantA ops s o = some true) (hu : P.underlying t = some (.map kt et)) (hz : zeroA P et = some z) (hx : s.ev x = .mp n) (hn : s.o n = .map es) (hk : keyOk P kt (s.ev k) = true) (hf : findA P kt (s.ev k) es 0 = some r) : SStep P N ops i s (s.app (slotD o.dst (lookA ck r z))) := by
  refine sstep_value ho hw rfl (fun φ Pr ac w hI => .inl ?_)
  have hev := hI.ev x
  rw [hx] at hev
  generalize hxv : ac.eval x = xv at hev
  cases hev with
  | @mp _ b l hl ha =>
    have hr := hI.heap.rep n
    rw [hn] at hr
    obtain ⟨_, ents, c, hb, he, _⟩ := obRep_ents hr hl ha
    obtain ⟨zv, z1, z2⟩ := run_zeroA (w := w) (φ := φ) (Pr := Pr) hz
    obtain ⟨r', f1, f2⟩ := run_findKeyA (hI.ev k) hk he hf
    obtain ⟨l1, l2⟩ := f2.look z2
    have hck := fun em => run_checkKeyA (hI.ev k) hk em 9998
    simp only [show 9998 + 2 = 10000 from rfl] at hck
    have hv : ∃ v, (Instr.lookup t (.map (some b)) (ac.eval k) ck).run P w = .ok v w ∧ ARep w φ Pr v (lookA ck r z) := by
      unfold lookA
      cases ck with
      | true =>
        refine ⟨.tuple #[(r'.map (·.2)).getD zv, .bool r'.isSome], ?_, .tup rfl (fun j c hj => ?_)⟩
        · cases r' <;> simp [Instr.lookup, Sem.run_bind, run_underlying hu, getObj, Sem.run, hb, hck, f1, z1]
        · match j, hj with
          | 0, hj => simp at hj; subst hj; exact l1
          | 1, hj => simp at hj; subst hj; show ARep w φ Pr (.bool r'.isSome) _; rw [l2]; exact .d (.v rfl)
      | false =>
        refine ⟨(r'.map (·.2)).getD zv, ?_, l1⟩
        cases r' <;> simp [Instr.lookup, Sem.run_bind, run_underlying hu, getObj, Sem.run, hb, hck, f1, z1]
    obtain ⟨v, v1, v2⟩ := hv
    refine ⟨v, w, φ, Pr, ?_, hI.slot (Later.refl _ _ _) hI.heap hd v2, Adv.refl hI.heap⟩
    unfold execOp; rw [hop]
    simp only [hxv, Sem.run_bind, v1, Result.andThen_ok]; rfl

end Go.Proofs.YtamefliipjhpoaaGreat.Ab
