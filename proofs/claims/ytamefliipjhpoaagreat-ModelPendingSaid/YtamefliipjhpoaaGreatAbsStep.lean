/- One operation of a region, abstractly: what it leaves; calls of functions over data; that the machine's operation does so. -/
import Derived.Test.YtamefliipjhpoaaGreatAbsLit
import Derived.Lib.ConvBytes
set_option autoImplicit false
namespace Go.Proofs.YtamefliipjhpoaaGreat.Ab
open Go

/-! ### Operations that are no calls of Go functions -/
def dstOk (N : Fr) : Option Tmp → Bool
  | some d => decide (d < N.n)
  | none => true

def slotD (d : Option Tmp) (a : A) : Dl := ⟨d.map (·, a), [], none⟩

/-- What a call over data does to the world: nothing that was there; new memory of label 0. -/
structure Evo (w : World) (Pr : Pro) (w' : World) (Pr' : Pro) : Prop where
  os : w'.os = w.os
  tape : w'.tape = w.tape
  output : w'.output = w.output
  size : w.heap.size ≤ w'.heap.size
  keep : ∀ b, b < w.heap.size → w'.heap[b]? = w.heap[b]?
  pro : ∀ r b x, Pr r b x → Pr' r b x
  old : ∀ r b x, Pr' r b x → b < w.heap.size → Pr r b x
  new : ∀ r b x, Pr' r b x → w.heap.size ≤ b → r = 0
  lt : ∀ r b x, Pr' r b x → b < w'.heap.size

theorem Evo.heap {w w' : World} {φ : Map} {Pr Pr' : Pro} {o : Nm → Ob} (h : Heap w φ Pr o) (he : Evo w Pr w' Pr') : Later w φ Pr w' φ Pr' ∧ Heap w' φ Pr' o ∧ Adv w φ Pr o w' φ Pr' o := by
  have hL : Later w φ Pr w' φ Pr' := ⟨fun r b x hp => World.cell?_of_block (he.keep b (h.cell r b x hp)), he.pro, fun _ _ h => h⟩
  refine ⟨hL, ⟨fun n => ?_, h.apart, fun n b hb => Nat.lt_of_lt_of_le (h.lt n b hb) he.size, he.lt⟩, ⟨he.os, he.tape, he.output, he.size, fun b hb _ => he.keep b hb, he.pro, fun r b x hp hb => .inl (he.old r b x hp hb), he.new, fun b hb => .inl hb, fun _ _ h => h⟩⟩
  exact obRep.later hL (fun _ b hb => he.keep b (h.lt n b hb)) (fun _ b r x hb hp => he.old r b x hp (h.lt n b hb)) (h.rep n)

/-- The bytes of a string. -/
def byteD (x : UInt8) : List D := [.v (.int .u8 x.toNat)]
def bytesA (P : Program) (src dst : TypeId) : A → Option A
  | .d (.v (.string b)) => match P.underlying src, P.underlying dst with
    | some _, some (.slice e) => match P.underlying e with
      | some (.int .u8) => some (.d (.sl 0 1 (b.data.toList.map byteD)))
      | _ => none
    | _, _ => none
  | _ => none

def exD (P : Program) (N : Fr) (s : St) (o : Oper) : Option Dl := if dstOk N o.dst then (match o.op with
  | .alloc _ => bornA P s o
  | .box _ _ => bornA P s o
  | .store t a x => match o.dst with
    | none => storeA P s t (s.ev a) (s.ev x)
    | some _ => none
  | .buildSlice t len parts => match o.dst with
    | some d => litA P s d t len (parts.toList.map fun p => (p.1, s.ev p.2))
    | none => none
  | .call c => match c.callee with
    | .builtin .append => match o.dst, c.args.toList, c.argTypes.toList with
      | some d, [a, x], [t, tx] => appendA P s d t tx (s.ev a) (s.ev x)
      | _, _, _ => none
    | _ => (resA P s o).map (slotD o.dst)
  | .convert src dst x => match bytesA P src dst (s.ev x) with
    | some a => some (slotD o.dst a)
    | none => (resA P s o).map (slotD o.dst)
  | _ => (resA P s o).map (slotD o.dst)) else none

theorem Inv.slot {N : Fr} {s : St} {φ : Map} {Pr Pr' : Pro} {ac : Act} {w w' : World} (hI : Inv N s φ Pr ac w) (hl : Later w φ Pr w' φ Pr') (hh : Heap w' φ Pr' s.o) {dst : Option Tmp} (hd : dstOk N dst = true) {v : Value} {a : A} (hv : ARep w' φ Pr' v a) :
    Inv N (s.app (slotD dst a)) φ Pr' (ac.put dst v) w' := by
  cases dst with
  | none => exact hI.later hl hh hI.used
  | some d => exact hI.put hl hh hI.used (by simpa [dstOk] using hd) hv

/-- What holds behind a step. -/
def Stepped (N : Fr) (w : World) (φ : Map) (Pr : Pro) (s s' : St) (ac' : Act) (w' : World) : Prop := ∃ φ' Pr', Inv N s' φ' Pr' ac' w' ∧ Adv w φ Pr s.o w' φ' Pr' s'.o

theorem bytes_evo {w : World} {Pr : Pro} {e : TypeId} {b : ByteArray} (hlt : ∀ r b o, Pr r b o → b < w.heap.size) : ∃ Pr', Evo w Pr (Lib.bytesWorld w e b) Pr' ∧ DRep (Lib.bytesWorld w e b) Pr' (.slice (some ⟨w.heap.size, 0, none⟩) b.size (grownCap w b.size 0 e)) (.sl 0 1 (b.data.toList.map byteD)) := by
  refine ⟨fun r c x => Pr r c x ∨ (r = 0 ∧ c = w.heap.size ∧ x < b.size), ⟨rfl, rfl, rfl, by rw [Lib.bytesWorld_size]; omega, fun c hc => Lib.bytesWorld_at_old w e b c hc, fun _ _ _ h => .inl h, fun r c x hp hc => ?_, fun r c x hp hc => ?_, fun r c x hp => ?_⟩, ?_⟩
  · rcases hp with hp | ⟨_, rfl, _⟩
    · exact hp
    · omega
  · rcases hp with hp | ⟨rfl, _, _⟩
    · have := hlt _ _ _ hp; omega
    · rfl
  · rw [Lib.bytesWorld_size]
    rcases hp with hp | ⟨_, rfl, _⟩
    · have := hlt _ _ _ hp; omega
    · omega
  · refine .sl (fun i _ => .int .u8 (b.data.toList.getD i 0).toNat) (by rw [List.length_map, Array.length_toList]; rfl) (grownCap_ge _ _ _ _) (fun i row hi => ?_) (fun _ => ⟨w.heap.size, 0, rfl, fun i j hi hj => ?_⟩) (fun i row j c hi hj => ?_)
    · rw [List.getElem?_map] at hi
      cases hq : b.data.toList[i]? with
      | none => simp [hq] at hi
      | some y => simp [hq] at hi; subst hi; rfl
    · have hj0 : j = 0 := by omega
      subst hj0
      have := Lib.bytesWorld_cell w e b i hi
      simp only [Nat.zero_add, Nat.mul_one, Nat.add_zero]
      exact ⟨this, by right; exact ⟨trivial, trivial, hi⟩⟩
    · rw [List.getElem?_map] at hi
      cases hq : b.data.toList[i]? with
      | none => simp [hq] at hi
      | some y =>
        simp [hq] at hi; subst hi
        match j, hj with
        | 0, hj =>
          simp [byteD] at hj; subst hj
          rw [List.getD_eq_getElem?_getD, hq]
          exact .v rfl

theorem exD_rep {P : Program} {N : Fr} {s : St} {φ : Map} {Pr : Pro} {ac : Act} {w : World} (hI : Inv N s φ Pr ac w) {o : Oper} {δ : Dl} (h : exD P N s o = some δ) :
    (∃ v w', (execOp ac.eval o).run P w = .ok (.value v) w' ∧ Stepped N w φ Pr s (s.app δ) (ac.put o.dst v) w') ∨ (∃ w', (execOp ac.eval o).run P w = .ok .skip w' ∧ Stepped N w φ Pr s (s.app δ) (ac.put o.dst undef) w') := by
  have mkV : ∀ {v : Value} {w' : World} {φ' : Map}, (execOp ac.eval o).run P w = .ok (.value v) w' → Inv N (s.app δ) φ' Pr (ac.put o.dst v) w' → Adv w φ Pr s.o w' φ' Pr (s.app δ).o →
      (∃ v w', (execOp ac.eval o).run P w = .ok (.value v) w' ∧ Stepped N w φ Pr s (s.app δ) (ac.put o.dst v) w') ∨ (∃ w', (execOp ac.eval o).run P w = .ok .skip w' ∧ Stepped N w φ Pr s (s.app δ) (ac.put o.dst undef) w') :=
    fun h1 h2 h3 => .inl ⟨_, _, h1, _, _, h2, h3⟩
  unfold exD at h
  split at h
  case isFalse => simp at h
  rename_i hok
  have res : (resA P s o).map (slotD o.dst) = some δ → (∃ v w', (execOp ac.eval o).run P w = .ok (.value v) w' ∧ Stepped N w φ Pr s (s.app δ) (ac.put o.dst v) w') ∨ (∃ w', (execOp ac.eval o).run P w = .ok .skip w' ∧ Stepped N w φ Pr s (s.app δ) (ac.put o.dst undef) w') := by
    intro h
    cases hr : resA P s o with
    | none => simp [hr] at h
    | some a =>
      simp [hr] at h; subst h
      obtain ⟨v, h1, h2⟩ := resA_rep hI hr
      exact mkV h1 (hI.slot (Later.refl _ _ _) hI.heap hok h2) (Adv.refl hI.heap)
  have dlt : ∀ d, o.dst = some d → d < N.n := fun d hd => by rw [hd] at hok; simpa [dstOk] using hok
  split at h
  · obtain ⟨v, w', φ', h1, h2, h3⟩ := bornA_rep hI h dlt
    exact mkV h1 h2 h3
  · obtain ⟨v, w', φ', h1, h2, h3⟩ := bornA_rep hI h dlt
    exact mkV h1 h2 h3
  · rename_i t a x hop
    split at h
    case h_2 => simp at h
    rename_i hdst
    obtain ⟨w', h1, h2, h3⟩ := storeA_rep hI (hI.ev a) (hI.ev x) h
    refine .inr ⟨w', ?_, φ, Pr, by rw [hdst]; exact h2, h3⟩
    unfold execOp; rw [hop]
    simp only [Sem.run_bind, h1, Result.andThen_ok]; rfl
  · rename_i t len parts hop
    split at h
    case h_2 => simp at h
    rename_i d hdst
    obtain ⟨v, w', φ', h1, h2, h3⟩ := litA_rep hI (dlt d hdst) (vparts := parts.map fun p => (p.1, ac.eval p.2)) (by simp) (fun j i b hj => by
      rw [List.getElem?_map] at hj
      cases hq : parts.toList[j]? with
      | none => simp [hq] at hj
      | some p =>
        simp [hq] at hj
        obtain ⟨rfl, rfl⟩ := hj
        have hq' : parts[j]? = some p := by rw [← Array.getElem?_toList]; exact hq
        exact ⟨ac.eval p.2, by simp [hq'], hI.ev p.2⟩) h
    refine mkV (v := v) (w' := w') (φ' := φ') ?_ (by rw [hdst]; exact h2) h3
    unfold execOp; rw [hop]
    simp only [Sem.run_bind]
    rw [show (parts.map fun x => match x with | (i, x) => (i, ac.eval x)) = parts.map fun p => (p.1, ac.eval p.2) from rfl, h1]
    rfl
  · rename_i c hop
    split at h
    · rename_i hcal
      split at h
      · rename_i d a x t tx hdst hargs htys
        have ea : c.args = #[a, x] := by apply Array.ext'; simpa using hargs
        have et : c.argTypes = #[t, tx] := by apply Array.ext'; simpa using htys
        obtain ⟨v, w', φ', h1, h2, h3⟩ := appendA_rep (ty := o.type) hI (dlt d hdst) (hI.ev a) (hI.ev x) h
        refine mkV (v := v) (w' := w') (φ' := φ') ?_ (by rw [hdst]; exact h2) h3
        unfold execOp; rw [hop]
        simp only [resolve, hcal, ea, et, Sem.run_bind, Sem.run_pure, Result.andThen_ok, invoke, builtin]
        simp only [List.map_toArray, List.map_cons, List.map_nil, h1, Result.andThen_ok]
      · simp at h
    · exact res h
  · rename_i src dst x hop
    split at h
    · rename_i a ha
      simp only [Option.some.injEq] at h; subst h
      unfold bytesA at ha
      split at ha
      case h_2 => simp at ha
      rename_i b hev
      split at ha
      case h_2 => simp at ha
      rename_i u e hu hd
      split at ha
      case h_2 => simp at ha
      rename_i he
      simp only [Option.some.injEq] at ha; subst ha
      have hx := hI.ev x
      rw [hev] at hx
      have hx' : ac.eval x = .string b := hx.dv_eq
      obtain ⟨Pr', hE, hD⟩ := bytes_evo (e := e) (b := b) hI.heap.cell
      obtain ⟨hL, hH, hA⟩ := hE.heap hI.heap
      refine .inl ⟨_, _, ?_, φ, Pr', hI.slot hL hH hok (.d hD), hA⟩
      unfold execOp; rw [hop]
      simp only [hx', Sem.run_bind, Lib.run_convert_string_bytes w src dst e b hu hd he, Result.andThen_ok]
      rfl
    · exact res h
  · exact res h

/-! ### Guards -/
def wantA (ops : Array Oper) (s : St) (o : Oper) : Option Bool := match o.guard with
  | none => some true
  | some (j, want) => match (ops[j]?).bind (·.dst) with
    | some d => match s.t d with
      | .d (.v (.bool b)) => some (b == want)
      | .tup [] => some false
      | _ => none
    | none => none

theorem wantA_rep {N : Fr} {ops : Array Oper} {s : St} {φ : Map} {Pr : Pro} {ac : Act} {w : World} (hI : Inv N s φ Pr ac w) {o : Oper} {b : Bool} (h : wantA ops s o = some b) : Region.wanted o (yielded ops ac.tmps) = b := by
  unfold wantA at h
  unfold Region.wanted
  split at h
  · rename_i hg; rw [hg]; simpa using h
  · rename_i j want hg
    rw [hg]
    simp only []
    split at h
    case h_2 => simp at h
    rename_i d hd
    have ht := hI.tmps d
    unfold yielded
    rw [hd]
    simp only [Option.bind_some]
    split at h
    · rename_i q hq
      rw [hq] at ht
      have e := ht.dv_eq
      have e2 : ac.tmps[d]? = some (.bool q) := by
        rw [Array.getD_eq_getD_getElem?] at e
        cases hz : ac.tmps[d]? with
        | none => rw [hz] at e; simp [undef] at e
        | some z => rw [hz] at e; simp at e; rw [e]
      rw [e2]
      simp at h; subst h
      cases q <;> cases want <;> rfl
    · rename_i hq
      rw [hq] at ht
      simp at h; subst h
      have e2 : ∀ z, ac.tmps[d]? = some z → ∀ q, z ≠ .bool q := by
        intro z hz q hzq
        subst hzq
        rw [Array.getD_eq_getD_getElem?, hz] at ht
        simp only [Option.getD_some] at ht
        cases ht
      cases hz : ac.tmps[d]? with
      | none => rfl
      | some z =>
        cases z <;> first | rfl | exact absurd rfl (e2 _ hz _)
    · simp at h

def stepD (P : Program) (N : Fr) (ops : Array Oper) (s : St) (o : Oper) : Option Dl := match wantA ops s o with
  | some true => exD P N s o
  | some false => if dstOk N o.dst then some (slotD o.dst (.tup [])) else none
  | none => none

/-! ### Contracts over data -/
/-- An argument as a callee over data sees it. -/
def viewC (s : St) (a : A) : A := match toD s a with
  | some x => .d x
  | none => a
def viewA (s : St) : A → A
  | .ag cs => .ag (cs.map (viewC s))
  | a => viewC s a

theorem viewC_rep {N : Fr} {s : St} {φ : Map} {Pr : Pro} {ac : Act} {w : World} (hI : Inv N s φ Pr ac w) {x : Value} {a : A} (hx : ARep w φ Pr x a) : ARep w φ Pr x (viewC s a) := by
  unfold viewC
  split
  · rename_i c hc; exact .d (toD_rep hI hx hc)
  · exact hx

theorem viewA_rep {N : Fr} {s : St} {φ : Map} {Pr : Pro} {ac : Act} {w : World} (hI : Inv N s φ Pr ac w) {x : Value} {a : A} (hx : ARep w φ Pr x a) : ARep w φ Pr x (viewA s a) := by
  unfold viewA
  split
  · cases hx with
    | ag hn h1 h =>
      refine .ag (by simpa using hn) h1 (fun j c hj => ?_)
      rw [List.getElem?_map] at hj
      rename_i cs xs
      cases hq : cs[j]? with
      | none => simp [hq] at hj
      | some c0 => simp [hq] at hj; subst hj; exact viewC_rep hI (h j c0 hq)
  · exact viewC_rep hI hx

/-- No names in a value (of a struct's cells at the most). -/
def plainC : A → Bool
  | .d _ => true
  | _ => false
def plainA : A → Bool
  | .ag cs => cs.all plainC
  | .tup xs => xs.all fun a => match a with
    | .ag cs => cs.all plainC
    | a => plainC a
  | a => plainC a

theorem plainC_map {w : World} {φ φ' : Map} {Pr : Pro} {x : Value} {a : A} (h : ARep w φ Pr x a) (hp : plainC a = true) : ARep w φ' Pr x a := by
  cases h with
  | d h => exact .d h
  | _ => simp [plainC] at hp
theorem plainAg_map {w : World} {φ φ' : Map} {Pr : Pro} {x : Value} {cs : List A} (h : ARep w φ Pr x (.ag cs)) (hp : cs.all plainC = true) : ARep w φ' Pr x (.ag cs) := by
  cases h with
  | ag hn h1 h => exact .ag hn h1 (fun j c hj => plainC_map (h j c hj) (List.all_eq_true.1 hp c (List.mem_of_getElem? hj)))
theorem plainA_map {w : World} {φ φ' : Map} {Pr : Pro} {x : Value} {a : A} (h : ARep w φ Pr x a) (hp : plainA a = true) : ARep w φ' Pr x a := by
  unfold plainA at hp
  split at hp
  · exact plainAg_map h hp
  · cases h with
    | tup hn h =>
      refine .tup hn (fun j c hj => ?_)
      have := List.all_eq_true.1 hp c (List.mem_of_getElem? hj)
      split at this
      · exact plainAg_map (h j _ hj) this
      · exact plainC_map (h j c hj) this
  · exact plainC_map h hp

def Enters (P : Program) (f : FuncId) : Prop := ∀ (args : Array Value) (w : World), (callFunc f args).run P w = .ok (.enter f args) w

def ArgsRep (w : World) (φ : Map) (Pr : Pro) (vs : Array Value) (args : List A) : Prop := vs.size = args.length ∧ ∀ (j : Nat) (c : A), args[j]? = some c → ARep w φ Pr (vs.getD j undef) c

structure DSpec (P : Program) (f : FuncId) (args : List A) (r : A) : Prop where
  enters : Enters P f
  plain : plainA r = true
  calls : ∀ (w : World) (Pr : Pro) (vs : Array Value), (∀ r b o, Pr r b o → b < w.heap.size) → ArgsRep w (fun _ => none) Pr vs args →
    Calls P f vs w fun e w' => ∃ v Pr', e = .returned v ∧ Evo w Pr w' Pr' ∧ ARep w' (fun _ => none) Pr' v r

/-- A function that is a primitive of the model: it yields a value and changes nothing. -/
structure PSpec (P : Program) (f : FuncId) (args : List A) (r : A) : Prop where
  plain : plainA r = true
  runs : ∀ (w : World) (Pr : Pro) (vs : Array Value), ArgsRep w (fun _ => none) Pr vs args → ∃ v, (callFunc f vs).run P w = .ok (.value v) w ∧ ARep w (fun _ => none) Pr v r

/-! ### A step of a region -/
inductive StepR (P : Program) (N : Fr) (ops : Array Oper) (s : St) (i : Nat) : Dl → Prop
  | ex {o : Oper} {δ : Dl} (ho : ops[i]? = some o) (h : stepD P N ops s o = some δ) : StepR P N ops s i δ
  | call {o : Oper} {c : Call} {g : Operand} {f : FuncId} {args : List A} {r : A} (ho : ops[i]? = some o) (hop : o.op = .call c) (hcal : c.callee = .value g) (hg : s.ev g = .fn f []) (hw : wantA ops s o = some true) (hd : dstOk N o.dst = true)
      (hargs : (c.args.toList.map fun x => viewA s (s.ev x)) = args) (hpl : args.all plainA = true) (hs : DSpec P f args r ∨ PSpec P f args r) : StepR P N ops s i (slotD o.dst r)

theorem StepR.rep {P : Program} {N : Fr} {ops : Array Oper} {s : St} {i : Nat} {δ : Dl} (h : StepR P N ops s i δ) {φ : Map} {Pr : Pro} {ac : Act} {w : World} (hI : Inv N s φ Pr ac w) (Q : Exit → Act → World → Prop) :
    wpOp P ops Q i (Stepped N w φ Pr s (s.app δ)) ac w := by
  unfold wpOp
  cases h with
  | @ex o δ ho h =>
    rw [ho]
    unfold stepD at h
    split at h
    · rename_i hw
      simp only []
      rw [wantA_rep hI hw, if_pos rfl]
      left
      unfold Oper.wp
      rcases exD_rep hI h with ⟨v, w', h1, h2⟩ | ⟨w', h1, h2⟩
      · rw [h1]; exact h2
      · rw [h1]; exact h2
    · rename_i hw
      simp only []
      rw [wantA_rep hI hw]
      split at h
      · rename_i hd
        simp at h; subst h
        exact ⟨φ, Pr, hI.slot (Later.refl _ _ _) hI.heap hd (.tup (by simp) (by simp)), Adv.refl hI.heap⟩
      · simp at h
    · simp at h
  | @call o c g f args r ho hop hcal hg hw hd hargs hpl hs =>
    rw [ho]
    simp only []
    rw [wantA_rep hI hw, if_pos rfl]
    left
    have hev := hI.ev g
    rw [hg] at hev
    have e1 : ac.eval g = .func (.func f) #[] #[] := by
      generalize ac.eval g = z at hev
      cases hev with
      | fn hn h =>
        have := Array.eq_empty_of_size_eq_zero (by simpa using hn)
        rw [this]
    have har : ArgsRep w (fun _ => none) Pr (c.args.map ac.eval) args := by
      subst hargs
      refine ⟨by simp, fun j a hj => ?_⟩
      have hp := List.all_eq_true.1 hpl a (List.mem_of_getElem? hj)
      rw [List.getElem?_map] at hj
      cases hq : c.args.toList[j]? with
      | none => simp [hq] at hj
      | some x =>
        simp [hq] at hj; subst hj
        have hq' : c.args[j]? = some x := by rw [← Array.getElem?_toList]; exact hq
        have e : (c.args.map ac.eval).getD j undef = ac.eval x := by simp [Array.getD_eq_getD_getElem?, hq']
        rw [e]
        exact plainA_map (viewA_rep hI (hI.ev x)) hp
    rcases hs with hs | hs
    · have hrun : (execOp ac.eval o).run P w = .ok (.enter f (c.args.map ac.eval)) w := by
        unfold execOp; rw [hop]
        simp only [resolve, hcal, e1, Deferred.ofValue, Sem.run_bind, Sem.run_pure, Result.andThen_ok, invoke]
        have := hs.enters (c.args.map ac.eval) w
        simpa using this
      unfold Oper.wp
      rw [hrun]
      refine (hs.calls w Pr _ hI.heap.cell har).mono ?_
      rintro e w' ⟨v, Pr', rfl, hevo, hv⟩
      obtain ⟨hL, hH, hA⟩ := hevo.heap hI.heap
      exact ⟨φ, Pr', hI.slot hL hH hd (plainA_map hv hs.plain), hA⟩
    · obtain ⟨v, hv, hr⟩ := hs.runs w Pr _ har
      have hrun : (execOp ac.eval o).run P w = .ok (.value v) w := by
        unfold execOp; rw [hop]
        simp only [resolve, hcal, e1, Deferred.ofValue, Sem.run_bind, Sem.run_pure, Result.andThen_ok, invoke]
        simpa using hv
      unfold Oper.wp
      rw [hrun]
      exact ⟨φ, Pr, hI.slot (Later.refl _ _ _) hI.heap hd (plainA_map hr hs.plain), Adv.refl hI.heap⟩

end Go.Proofs.YtamefliipjhpoaaGreat.Ab
