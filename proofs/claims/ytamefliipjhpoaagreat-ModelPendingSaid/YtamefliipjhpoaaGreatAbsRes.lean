/- Operations that only compute: what each yields, in one function. -/
import Derived.Test.YtamefliipjhpoaaGreatAbsBuild
import Derived.Laws.Build
import Derived.Laws.StructEq
set_option autoImplicit false
namespace Go.Proofs.YtamefliipjhpoaaGreat.Ab
open Go

/-! ### Comparing -/
def isAddr : A → Bool
  | .ptr _ _ | .pel _ _ _ _ | .im _ _ => true
  | _ => false
theorem isAddr_rep {w : World} {φ : Map} {Pr : Pro} {x : Value} {a : A} (hx : ARep w φ Pr x a) (h : isAddr a = true) : ∃ ad, x = .pointer (some ad) := by
  cases hx <;> first | exact ⟨_, rfl⟩ | simp [isAddr] at h

def nilEq (P : Program) (op : BinOp) (t : TypeId) : Option A := match P.underlying t with
  | some (.pointer _) => match op with
    | .eql => some (dv (.bool false))
    | .neq => some (dv (.bool true))
    | _ => none
  | _ => none

/-- '==' of structs whose fields are plain and of one cell. -/
def fieldEq (P : Program) (t : TypeId) (x y : Value) : Option Bool := match P.underlying t, x, y with
  | some (.int _), .int k a, .int k' b => if k = k' then some (a == b) else none
  | some .bool, .bool a, .bool b => some (a == b)
  | some .string, .string a, .string b => some (a.toList == b.toList)
  | _, _, _ => none
def eqFields (P : Program) (fs : List Field) (xs ys : List A) : Option Bool := match fs with
  | [] => some true
  | f :: r => match xs[f.offset]?, ys[f.offset]? with
    | some (.d (.v x)), some (.d (.v y)) => match f.name != "_", aggB P f.type, fieldEq P f.type x y, eqFields P r xs ys with
      | true, some false, some b, some c => some (b && c)
      | _, _, _, _ => none
    | _, _ => none
def eqStruct (P : Program) (op : BinOp) (t : TypeId) (xs ys : List A) : Option A := match P.underlying t with
  | some (.struct fs) => match P.stoodInHeld t, P.eqGuardType P.depth t with
    | false, false => match op with
      | .eql => (eqFields P fs.toList xs ys).map fun b => dv (.bool b)
      | .neq => (eqFields P fs.toList xs ys).map fun b => dv (.bool !b)
      | _ => none
    | _, _ => none
  | _ => none

def binA (P : Program) (op : BinOp) (t : TypeId) (x y : A) : Option A := match x, y with
  | .d (.v a), .d (.v b) => (abin P op t a b).map dv
  | .ag xs, .ag ys => eqStruct P op t xs ys
  | a, .d (.v (.pointer none)) => if isAddr a then nilEq P op t else none
  | _, _ => none

theorem run_nilEq {P : Program} {op : BinOp} {t : TypeId} {a : A} (ad : Addr) (X Y : Operand) (h : nilEq P op t = some a) (w : World) (φ : Map) (Pr : Pro) :
    ∃ v, ((do eqGuard op t X Y (.pointer (some ad)) (.pointer none); binOp op t (.pointer (some ad)) (.pointer none) : Sem Value)).run P w = .ok v w ∧ ARep w φ Pr v a := by
  unfold nilEq at h
  split at h
  · rename_i e hu
    have he : ∀ n, (Op.equalIn (n + 1) t (.pointer (some ad)) (.pointer none)).run P w = .ok false w := fun n => by simp [Op.equalIn, run_underlying hu]
    split at h <;> simp at h <;> subst h
    · exact ⟨.bool false, by simp only [binOp]; simp [eqGuard, Op.equal, Op.maxDepth, he 9999], .d (.v rfl)⟩
    · exact ⟨.bool true, by simp only [binOp]; simp [eqGuard, Op.equal, Op.maxDepth, he 9999], .d (.v rfl)⟩
  · simp at h

theorem run_fieldEq {P : Program} {t : TypeId} {x y : Value} {b : Bool} (h : fieldEq P t x y = some b) (n : Nat) (w : World) : (Op.equalIn (n + 1) t x y).run P w = .ok b w := by
  unfold fieldEq at h
  split at h
  · rename_i hu
    split at h
    · rename_i hk; subst hk; simp at h; subst h; exact run_equalIn_int w n _ _ _ _ _ hu
    · simp at h
  · rename_i hu; simp at h; subst h; exact run_equalIn_bool hu n _ _ w
  · rename_i hu; simp at h; subst h; exact run_equalIn_string w n _ _ _ hu
  · simp at h

theorem run_part_one {P : Program} {t : TypeId} {xs : Array Value} {off : Nat} {x : Value} (ha : aggB P t = some false) (hx : xs[off]? = some x) (w : World) : (part t xs off).run P w = .ok x w := by
  simp [part, run_isAgg ha, hx]

theorem run_eqFields {P : Program} {w : World} {φ : Map} {Pr : Pro} {xs ys : Array Value} {as bs : List A} (hx : CellsRel w φ Pr xs as) (hy : CellsRel w φ Pr ys bs) (n : Nat) :
    ∀ (fs : List Field) (b : Bool), eqFields P fs as bs = some b → (Op.eqFields (n + 1) xs ys fs).run P w = .ok b w
  | [], b, h => by simp [eqFields] at h; subst h; simp [Op.eqFields]
  | f :: r, b, h => by
    unfold eqFields at h
    split at h
    · rename_i x y h1 h2
      split at h
      · rename_i b1 c1 hn ha hf hr
        simp at h; subst h
        have e1 : xs[f.offset]? = some x := by
          have := (hx.2 _ _ h1).2
          have hlt : f.offset < xs.size := by rw [hx.1]; exact (List.getElem?_eq_some_iff.1 h1).1
          have e := this.dv_eq
          rw [← e]; simp [Array.getD_eq_getD_getElem?, hlt]
        have e2 : ys[f.offset]? = some y := by
          have := (hy.2 _ _ h2).2
          have hlt : f.offset < ys.size := by rw [hy.1]; exact (List.getElem?_eq_some_iff.1 h2).1
          have e := this.dv_eq
          rw [← e]; simp [Array.getD_eq_getD_getElem?, hlt]
        have hne : f.name ≠ "_" := by simpa using hn
        unfold Op.eqFields
        rw [if_pos hne]
        simp only [Sem.run_bind, run_part_one ha e1, run_part_one ha e2, Result.andThen_ok, run_fieldEq hf n]
        cases b1
        · simp
        · simp [run_eqFields hx hy n r c1 hr]
      · simp at h
    · simp at h

theorem run_eqStruct {P : Program} {w : World} {φ : Map} {Pr : Pro} {op : BinOp} {t : TypeId} {x y : Value} {as bs : List A} {a : A} (X Y : Operand) (hx : ARep w φ Pr x (.ag as)) (hy : ARep w φ Pr y (.ag bs)) (h : eqStruct P op t as bs = some a) :
    ∃ v, ((do eqGuard op t X Y x y; binOp op t x y : Sem Value)).run P w = .ok v w ∧ ARep w φ Pr v a := by
  obtain ⟨xs, rfl, hxs⟩ := CellsRel.of_ag hx
  obtain ⟨ys, rfl, hys⟩ := CellsRel.of_ag hy
  unfold eqStruct at h
  split at h
  · rename_i fs hu
    split at h
    · rename_i hs hg
      have hfo : P.fieldsOf t = fs := by simp [Program.fieldsOf, hu]
      have heq : ∀ b, eqFields P fs.toList as bs = some b → (Op.equalIn 10000 t (.agg xs) (.agg ys)).run P w = .ok b w := fun b hb => by
        rw [show (10000 : Nat) = 9999 + 1 from rfl, run_equalIn_struct w 9999 t xs ys (by rw [hfo]; exact hu) hs, hfo]
        exact run_eqFields hxs hys 9998 fs.toList b hb
      have hgd : ∀ op, (eqGuard op t X Y (.agg xs) (.agg ys)).run P w = .ok () w := fun op => by
        unfold eqGuard
        cases op <;> simp [hg]
      split at h
      · cases hq : eqFields P fs.toList as bs with
        | none => simp [hq] at h
        | some b =>
          simp [hq] at h; subst h
          exact ⟨.bool b, by simp only [binOp, Sem.run_bind, hgd, Result.andThen_ok, Op.equal, Op.maxDepth, heq b hq]; rfl, .d (.v rfl)⟩
      · cases hq : eqFields P fs.toList as bs with
        | none => simp [hq] at h
        | some b =>
          simp [hq] at h; subst h
          exact ⟨.bool !b, by simp only [binOp, Sem.run_bind, hgd, Result.andThen_ok, Op.equal, Op.maxDepth, heq b hq]; rfl, .d (.v rfl)⟩
      · simp at h
    · simp at h
  · simp at h

theorem abin_plain {P : Program} {op : BinOp} {t : TypeId} {x y v : Value} (h : abin P op t x y = some v) : plainV v = true := by
  unfold abin at h
  split at h
  · split at h
    · split at h
      · simp at h; subst h; rfl
      · simp at h
    · split at h
      · cases op <;> simp [aint] at h <;> subst h <;> rfl
      · simp at h
  · split at h
    · cases op <;> simp [aflt] at h <;> subst h <;> rfl
    · simp at h
  · cases op <;> simp [astr] at h <;> subst h <;> rfl
  · split at h
    · cases op <;> simp at h <;> subst h <;> rfl
    · simp at h
  · split at h
    · cases op <;> simp at h <;> subst h <;> rfl
    · simp at h
  · simp at h

theorem run_binA {P : Program} {w : World} {φ : Map} {Pr : Pro} {op : BinOp} {t : TypeId} {x y : Value} {ax ay a : A} (X Y : Operand) (hx : ARep w φ Pr x ax) (hy : ARep w φ Pr y ay) (h : binA P op t ax ay = some a) :
    ∃ v, ((do eqGuard op t X Y x y; binOp op t x y : Sem Value)).run P w = .ok v w ∧ ARep w φ Pr v a := by
  unfold binA at h
  split at h
  · rename_i p q
    cases hb : abin P op t p q with
    | none => simp [hb] at h
    | some v =>
      simp [hb] at h; subst h
      cases hx with
      | d hd => cases hd with
        | v _ => cases hy with
          | d hd => cases hd with
            | v _ => exact ⟨v, run_abin X Y hb w, .d (.v (abin_plain hb))⟩
  · exact run_eqStruct X Y hx hy h
  · split at h
    · rename_i hia
      obtain ⟨ad, rfl⟩ := isAddr_rep hx hia
      cases hy with
      | d hd => cases hd with | v _ => exact run_nilEq ad X Y h w φ Pr
    · simp at h
  · simp at h

/-! ### Other plain operations -/
def unA (op : UnOp) : A → Option A
  | .d (.v (.bool b)) => match op with
    | .not => some (dv (.bool !b))
    | _ => none
  | .d (.v (.int k n)) => match op with
    | .neg => some (dv (.int k (k.wrap (0 - n))))
    | _ => none
  | _ => none
theorem run_unA {P : Program} {w : World} {φ : Map} {Pr : Pro} {op : UnOp} {x : Value} {ax a : A} (hx : ARep w φ Pr x ax) (h : unA op ax = some a) : ∃ v, (Op.unary op x).run P w = .ok v w ∧ ARep w φ Pr v a := by
  unfold unA at h
  split at h
  · cases hx with
    | d hd => cases hd with | v _ => split at h <;> simp at h; subst h; exact ⟨_, by simp only [Op.unary]; rfl, .d (.v rfl)⟩
  · cases hx with
    | d hd => cases hd with
      | v _ =>
        split at h
        · injection h with h; subst h; exact ⟨_, by simp only [Op.unary, Op.intArith]; rfl, .d (.v rfl)⟩
        · simp at h
  · simp at h

def convA (P : Program) (src dst : TypeId) : A → Option A
  | .d (.v (.int _ n)) => match P.underlying src, P.underlying dst with
    | some _, some (.int k) => some (dv (.int k (k.wrap n)))
    | some _, some (.float k) => some (dv (.float k (k.nearest n)))
    | _, _ => none
  | _ => none
theorem run_convA {P : Program} {w : World} {φ : Map} {Pr : Pro} {src dst : TypeId} {x : Value} {ax a : A} (hx : ARep w φ Pr x ax) (h : convA P src dst ax = some a) : ∃ v, (convert src dst x).run P w = .ok v w ∧ ARep w φ Pr v a := by
  unfold convA at h
  split at h
  · cases hx with
    | d hd => cases hd with
      | v _ =>
        split at h
        · rename_i h1 h2; simp at h; subst h; exact ⟨_, by simp only [convert, Sem.run_bind, run_underlying h1, run_underlying h2, Result.andThen_ok, Conv.intToInt]; rfl, .d (.v rfl)⟩
        · rename_i h1 h2; simp at h; subst h; exact ⟨_, by simp only [convert, Sem.run_bind, run_underlying h1, run_underlying h2, Result.andThen_ok, Conv.intToFloat]; rfl, .d (.v rfl)⟩
        · simp at h
  · simp at h

/-- A byte of a string. -/
def byteA (P : Program) (t : TypeId) (x i : A) : Option A := match P.underlying t, x, i with
  | some .string, .d (.v (.string s)), .d (.v (.int _ n)) => if 0 ≤ n then (s[n.toNat]?).map fun b => dv (.int .u8 b.toNat) else none
  | _, _, _ => none
theorem run_byteA {P : Program} {w : World} {φ : Map} {Pr : Pro} {t : TypeId} {x i : Value} {ax ai a : A} (hx : ARep w φ Pr x ax) (hi : ARep w φ Pr i ai) (h : byteA P t ax ai = some a) : ∃ v, (Instr.index t x i).run P w = .ok v w ∧ ARep w φ Pr v a := by
  unfold byteA at h
  split at h
  · rename_i s k n hu
    cases hx with
    | d hd => cases hd with
      | v _ => cases hi with
        | d hd => cases hd with
          | v _ =>
            split at h
            · rename_i h0
              cases hq : s[n.toNat]? with
              | none => simp [hq] at h
              | some b => simp [hq] at h; subst h; exact ⟨.int .u8 b.toNat, by simp [Instr.index, asIntOf, run_underlying hu, h0, hq], .d (.v rfl)⟩
            · simp at h
  · simp at h

/-! ### All of them -/
def addrOk : A → Bool
  | .ptr _ _ | .pel _ _ _ _ | .im _ _ | .fn _ _ => true
  | _ => false

def resA (P : Program) (s : St) (o : Oper) : Option A := match o.op with
  | .move x | .assign x => some (s.ev x)
  | .pick c a b => match s.ev c with
    | .d (.v (.bool q)) => some (if q then s.ev a else s.ev b)
    | _ => none
  | .load t x => loadA P s t (s.ev x)
  | .fieldAddr t x f => fieldA P t f (s.ev x)
  | .indexAddr t x i => match s.ev i with
    | .d (.v (.int _ n)) => indexA P t (s.ev x) n
    | _ => none
  | .slice t x lo hi mx => cutA P t (s.ev x) (lo.map s.ev) (hi.map s.ev) (mx.map s.ev)
  | .binOp op t x y _ => binA P op t (s.ev x) (s.ev y)
  | .unOp op _ x => unA op (s.ev x)
  | .convert src dst x => convA P src dst (s.ev x)
  | .field t x f => partV P t f (s.ev x)
  | .extract x i => match s.ev x with
    | .tup xs => xs[i]?
    | _ => none
  | .build t parts => buildA P t (parts.toList.map fun p => (p.1, s.ev p.2))
  | .makeFunc (.func f) first cap => if first.isEmpty then some (.fn f (cap.toList.map s.ev)) else none
  | .nilCheck x => if addrOk (s.ev x) then some (s.ev x) else none
  | .index t x i => byteA P t (s.ev x) (s.ev i)
  | .makeInterface t x => if P.concrete t then some (.ifc t (s.ev x)) else none
  | .call c => match c.callee, c.args.toList, c.argTypes.toList with
    | .builtin .len, [x], [t] => lenA P t (s.ev x)
    | _, _, _ => none
  | _ => none

theorem resA_rep {P : Program} {N : Fr} {s : St} {φ : Map} {Pr : Pro} {ac : Act} {w : World} (hI : Inv N s φ Pr ac w) {o : Oper} {a : A} (h : resA P s o = some a) :
    ∃ v, (execOp ac.eval o).run P w = .ok (.value v) w ∧ ARep w φ Pr v a := by
  have vv : ∀ (m : Sem Value), (∃ v, m.run P w = .ok v w ∧ ARep w φ Pr v a) → ∃ v, ((do pure (Next.value (← m)) : Sem Next)).run P w = .ok (.value v) w ∧ ARep w φ Pr v a := by
    rintro m ⟨v, h1, h2⟩
    exact ⟨v, by simp [h1], h2⟩
  unfold resA at h
  unfold execOp
  split at h
  · rename_i x hop; rw [hop]; simp at h; subst h; exact ⟨_, rfl, hI.ev x⟩
  · rename_i x hop; rw [hop]; simp at h; subst h; exact ⟨_, rfl, hI.ev x⟩
  · rename_i c x y hop; rw [hop]
    split at h
    · rename_i q hq
      simp at h; subst h
      have hc := hI.ev c
      rw [hq] at hc
      have e : ac.eval c = .bool q := by
        generalize ac.eval c = z at hc
        cases hc with | d hd => cases hd with | v _ => rfl
      refine ⟨if q then ac.eval x else ac.eval y, by simp [e, asBool], ?_⟩
      cases q
      · exact hI.ev y
      · exact hI.ev x
    · simp at h
  · rename_i t x hop; rw [hop]; exact vv _ (run_loadA hI (hI.ev x) h)
  · rename_i t x f hop; rw [hop]; exact vv _ (run_fieldA (hI.ev x) h)
  · rename_i t x i hop; rw [hop]
    split at h
    · rename_i k n hq
      have hc := hI.ev i
      rw [hq] at hc
      have e : ac.eval i = .int k n := by
        generalize ac.eval i = z at hc
        cases hc with | d hd => cases hd with | v _ => rfl
      simp only [e]
      exact vv _ (run_indexA (hI.ev x) h)
    · simp at h
  · rename_i t x lo hi mx hop; rw [hop]
    have mp : ∀ (y : Option Operand) (a : A), y.map s.ev = some a → ∃ v, y.map ac.eval = some v ∧ ARep w φ Pr v a := by
      intro y a hy
      cases y with
      | none => simp at hy
      | some y => simp at hy; subst hy; exact ⟨_, rfl, hI.ev y⟩
    have mn : ∀ (y : Option Operand), y.map s.ev = none → y.map ac.eval = none := by
      intro y hy; cases y with
      | none => rfl
      | some y => simp at hy
    exact vv _ (run_cutA (hI.ev x) (mp lo) (mn lo) (mp hi) (mn hi) (mp mx) (mn mx) h)
  · rename_i op t x y ty hop; rw [hop]; exact vv _ (run_binA x y (hI.ev x) (hI.ev y) h)
  · rename_i op t x hop; rw [hop]; exact vv _ (run_unA (hI.ev x) h)
  · rename_i src dst x hop; rw [hop]; exact vv _ (run_convA (hI.ev x) h)
  · rename_i t x f hop; rw [hop]; exact vv _ (run_partV (hI.ev x) h)
  · rename_i x i hop; rw [hop]
    split at h
    · rename_i xs hq
      have hc := hI.ev x
      rw [hq] at hc
      generalize hz : ac.eval x = z at hc
      cases hc with
      | @tup vs _ hn hr =>
        refine vv _ ⟨vs.getD i undef, ?_, hr i a h⟩
        have hlt : i < vs.size := by rw [hn]; exact (List.getElem?_eq_some_iff.1 h).1
        simp [hz, Instr.extract, Array.getD_eq_getD_getElem?, hlt]
    · simp at h
  · rename_i t parts hop; rw [hop]
    refine vv _ (run_buildA (by simp) (fun j i b hj => ?_) h)
    rw [List.getElem?_map] at hj
    cases hq : parts.toList[j]? with
    | none => simp [hq] at hj
    | some p =>
      simp [hq] at hj
      obtain ⟨rfl, rfl⟩ := hj
      have hq' : parts[j]? = some p := by rw [← Array.getElem?_toList]; exact hq
      exact ⟨ac.eval p.2, by simp [hq'], hI.ev p.2⟩
  · rename_i f first cap hop; rw [hop]
    split at h
    · rename_i hf
      simp at h; subst h
      have hfirst : first = #[] := by simpa using hf
      subst hfirst
      refine vv _ ⟨.func (.func f) #[] (cap.map ac.eval), by simp [Instr.makeFunc], .fn (by simp) (fun j c hj => ?_)⟩
      rw [List.getElem?_map] at hj
      cases hq : cap.toList[j]? with
      | none => simp [hq] at hj
      | some p =>
        simp [hq] at hj; subst hj
        have hq' : cap[j]? = some p := by rw [← Array.getElem?_toList]; exact hq
        have e : (cap.map ac.eval).getD j undef = ac.eval p := by simp [Array.getD_eq_getD_getElem?, hq']
        rw [e]; exact hI.ev p
    · simp at h
  · rename_i x hop; rw [hop]
    split at h
    · rename_i hok
      simp at h; subst h
      have hc := hI.ev x
      generalize hz : ac.eval x = z at hc
      refine ⟨z, ?_, hc⟩
      simp only [hz]
      generalize s.ev x = y at hc hok
      cases hc <;> first | rfl | simp [addrOk] at hok
    · simp at h
  · rename_i t x i hop; rw [hop]; exact vv _ (run_byteA (hI.ev x) (hI.ev i) h)
  · rename_i t x hop; rw [hop]
    split at h
    · rename_i hc
      simp at h; subst h
      exact vv _ ⟨_, run_makeInterface w t _ hc, .ifc (hI.ev x)⟩
    · simp at h
  · rename_i c hop; rw [hop]
    split at h
    · rename_i x t hcal hargs htys
      obtain ⟨v, h1, h2⟩ := run_lenA (u := o.type) (hI.ev x) h
      refine ⟨v, ?_, h2⟩
      have ea : c.args = #[x] := by apply Array.ext'; simpa using hargs
      have et : c.argTypes = #[t] := by apply Array.ext'; simpa using htys
      simp only [resolve, hcal, ea, et, Sem.run_bind, Sem.run_pure, Result.andThen_ok, invoke, builtin]
      simp only [List.map_toArray, List.map_cons, List.map_nil, h1, Result.andThen_ok]
    · simp at h
  · simp at h

end Go.Proofs.YtamefliipjhpoaaGreat.Ab
