/- States by lists: slots, objects, names in use. -/
import Derived.Test.YtamefliipjhpoaaGreatAbsO
set_option autoImplicit false
namespace Go.Proofs.YtamefliipjhpoaaGreat.Ab
open Go

def OL : List (Nm × Ob) → (Nm → Ob) → Nm → Ob
  | [], o0, n => o0 n
  | q :: r, o0, n => if n = q.1 then q.2 else OL r o0 n
def putO (n : Nm) (X : Ob) : List (Nm × Ob) → List (Nm × Ob)
  | [] => [(n, X)]
  | q :: r => if q.1 = n then (n, X) :: r else q :: putO n X r
def UL : List Nm → (Nm → Bool) → Nm → Bool
  | [], u0, n => u0 n
  | m :: r, u0, n => if n = m then true else UL r u0 n
def rho : List (Nm × Nm) → Nm → Nm
  | [], n => n
  | q :: r, n => if n = q.1 then q.2 else rho r n

theorem OL_nil (o0 : Nm → Ob) (n : Nm) : OL [] o0 n = o0 n := rfl
theorem OL_cons (q : Nm × Ob) (r : List (Nm × Ob)) (o0 : Nm → Ob) (n : Nm) : OL (q :: r) o0 n = if n = q.1 then q.2 else OL r o0 n := rfl
theorem putO_nil (n : Nm) (X : Ob) : putO n X [] = [(n, X)] := rfl
theorem putO_cons (n : Nm) (X : Ob) (q : Nm × Ob) (r : List (Nm × Ob)) : putO n X (q :: r) = if q.1 = n then (n, X) :: r else q :: putO n X r := rfl
theorem UL_nil (u0 : Nm → Bool) (n : Nm) : UL [] u0 n = u0 n := rfl
theorem UL_cons (m : Nm) (r : List Nm) (u0 : Nm → Bool) (n : Nm) : UL (m :: r) u0 n = if n = m then true else UL r u0 n := rfl
theorem rho_nil (n : Nm) : rho [] n = n := rfl
theorem rho_cons (q : Nm × Nm) (r : List (Nm × Nm)) (n : Nm) : rho (q :: r) n = if n = q.1 then q.2 else rho r n := rfl

theorem OL_putO (n : Nm) (X : Ob) (o0 : Nm → Ob) : ∀ (k : List (Nm × Ob)) (m : Nm), OL (putO n X k) o0 m = upd (OL k o0) n X m
  | [], m => by simp only [putO, OL, upd]
  | q :: k, m => by
    simp only [putO]
    split
    · rename_i e
      simp only [OL, upd]
      by_cases h : m = n
      · simp [h]
      · rw [if_neg h, if_neg h, if_neg (by rw [e]; exact h)]
    · rename_i e
      simp only [OL, OL_putO n X o0 k m, upd]
      by_cases h : m = q.1
      · rw [if_pos h, if_neg (by rw [h]; exact e), if_pos h]
      · rw [if_neg h, if_neg h]
theorem upd_OL (n : Nm) (X : Ob) (o0 : Nm → Ob) (k : List (Nm × Ob)) : upd (OL k o0) n X = OL (putO n X k) o0 := funext fun m => (OL_putO n X o0 k m).symm
theorem upd_UL (n : Nm) (u0 : Nm → Bool) (us : List Nm) : upd (UL us u0) n true = UL (n :: us) u0 := rfl

theorem app_bornL (l : List (Nat × A)) (k : List (Nm × Ob)) (o0 : Nm → Ob) (us : List Nm) (u0 : Nm → Bool) (p : List Nat) (d : Nat) (a : A) (n : Nm) (X : Ob) :
    (St.mk (T l) (OL k o0) (UL us u0) p).app ⟨some (d, a), [(n, X)], some n⟩ = ⟨T (put d a l), OL (putO n X k) o0, UL (n :: us) u0, p⟩ := by
  simp only [St.app, setOb, upd_T, upd_OL, upd_UL]
theorem app_born2L (l : List (Nat × A)) (k : List (Nm × Ob)) (o0 : Nm → Ob) (us : List Nm) (u0 : Nm → Bool) (p : List Nat) (d : Nat) (a : A) (n m : Nm) (X Y : Ob) :
    (St.mk (T l) (OL k o0) (UL us u0) p).app ⟨some (d, a), [(m, Y), (n, X)], some n⟩ = ⟨T (put d a l), OL (putO n X (putO m Y k)) o0, UL (n :: us) u0, p⟩ := by
  simp only [St.app, setOb, upd_T, upd_OL, upd_UL]
theorem app_obL (l : List (Nat × A)) (k : List (Nm × Ob)) (o0 : Nm → Ob) (u : Nm → Bool) (p : List Nat) (n : Nm) (X : Ob) :
    (St.mk (T l) (OL k o0) u p).app ⟨none, [(n, X)], none⟩ = ⟨T l, OL (putO n X k) o0, u, p⟩ := by
  simp only [St.app, setOb, upd_OL]

theorem nmFor_free {u : Nm → Bool} {k : List Nat} : nmFor u k = if u (.loc k 0) then (if u (.loc k 1) then (if u (.loc k 2) then nmAt u k 61 3 else some (.loc k 2)) else some (.loc k 1)) else some (.loc k 0) := rfl

/-! ### Forgetting and renaming -/
mutual
theorem ren_id {ρ : Nm → Nm} {dm : Nm → Bool} (h : ∀ n, dm n = true → ρ n = n) : ∀ (a : A), inD dm a = true → ren ρ a = a
  | .os n _ _ _, e => by simp only [ren]; rw [h n e]
  | .ox n _ _ _, e => by simp only [ren]; rw [h n e]
  | .ptr n _, e => by simp only [ren]; rw [h n e]
  | .pel n _ _ _, e => by simp only [ren]; rw [h n e]
  | .ag cs, e => by simp only [ren]; rw [renL_id h cs e]
  | .fn _ cs, e => by simp only [ren]; rw [renL_id h cs e]
  | .mp n, e => by simp only [ren]; rw [h n e]
  | .ifc _ x, e => by simp only [ren]; rw [ren_id h x e]
  | .tup cs, e => by simp only [ren]; rw [renL_id h cs e]
  | .d _, _ => rfl
  | .sx _ _ _, _ => rfl
  | .im _ _, _ => rfl
  | .und, _ => rfl
theorem renL_id {ρ : Nm → Nm} {dm : Nm → Bool} (h : ∀ n, dm n = true → ρ n = n) : ∀ (l : List A), inDL dm l = true → renL ρ l = l
  | [], _ => rfl
  | a :: l, e => by
    simp only [inDL, Bool.and_eq_true] at e
    simp only [renL]; rw [ren_id h a e.1, renL_id h l e.2]
end
theorem renO_id {ρ : Nm → Nm} {dm : Nm → Bool} (h : ∀ n, dm n = true → ρ n = n) (X : Ob) (e : inDO dm X = true) : renO ρ X = X := by
  cases X with
  | cells cs => simp only [renO]; rw [renL_id h cs e]
  | map es =>
    simp only [renO]
    congr 1
    refine (List.map_congr_left (fun q hq => ?_)).trans (List.map_id _)
    have hq := List.all_eq_true.1 e q hq
    rw [Bool.and_eq_true] at hq
    show (ren ρ q.1, ren ρ q.2) = q
    rw [ren_id h _ hq.1, ren_id h _ hq.2]
  | _ => rfl

mutual
theorem inD_mono {dm dm' : Nm → Bool} (h : ∀ n, dm n = true → dm' n = true) : ∀ (a : A), inD dm a = true → inD dm' a = true
  | .os n _ _ _, e => h n e
  | .ox n _ _ _, e => h n e
  | .ptr n _, e => h n e
  | .pel n _ _ _, e => h n e
  | .ag cs, e => inDL_mono h cs e
  | .fn _ cs, e => inDL_mono h cs e
  | .mp n, e => h n e
  | .ifc _ x, e => inD_mono h x e
  | .tup cs, e => inDL_mono h cs e
  | .d _, _ => rfl
  | .sx _ _ _, _ => rfl
  | .im _ _, _ => rfl
  | .und, _ => rfl
theorem inDL_mono {dm dm' : Nm → Bool} (h : ∀ n, dm n = true → dm' n = true) : ∀ (l : List A), inDL dm l = true → inDL dm' l = true
  | [], _ => rfl
  | a :: l, e => by
    simp only [inDL, Bool.and_eq_true] at e ⊢
    exact ⟨inD_mono h a e.1, inDL_mono h l e.2⟩
end

theorem rho_out {rr : List (Nm × Nm)} {p : List Nat} (h : ∀ q ∈ rr, ownB p q.1 = true) {n : Nm} (hn : ownB p n = false) : rho rr n = n := by
  induction rr with
  | nil => rfl
  | cons q r ih =>
    rw [rho_cons, if_neg, ih (fun q hq => h q (List.mem_cons_of_mem _ hq))]
    rintro rfl
    rw [h q List.mem_cons_self] at hn; simp at hn

theorem OL_at {k : List (Nm × Ob)} {o0 : Nm → Ob} {n : Nm} : (∃ q ∈ k, q.1 = n ∧ OL k o0 n = q.2) ∨ ((∀ q ∈ k, q.1 ≠ n) ∧ OL k o0 n = o0 n) := by
  induction k with
  | nil => exact .inr ⟨by simp, rfl⟩
  | cons q r ih =>
    rw [OL_cons]
    by_cases h : n = q.1
    · exact .inl ⟨q, List.mem_cons_self, h.symm, by rw [if_pos h]⟩
    · rw [if_neg h]
      rcases ih with ⟨q', h1, h2, h3⟩ | ⟨h1, h2⟩
      · exact .inl ⟨q', List.mem_cons_of_mem _ h1, h2, h3⟩
      · exact .inr ⟨fun q' hq' => by
          rcases List.mem_cons.1 hq' with rfl | h'
          · exact fun e => h e.symm
          · exact h1 q' h', h2⟩

theorem UL_true {us : List Nm} {u0 : Nm → Bool} {n : Nm} : UL us u0 n = true ↔ n ∈ us ∨ u0 n = true := by
  induction us with
  | nil => simp [UL]
  | cons m r ih =>
    rw [UL_cons]
    by_cases h : n = m
    · simp [h]
    · simp [h, ih]

/-- What a frame may still speak of. -/
def dmOf (us : List Nm) (p : List Nat) : Nm → Bool := UL us (fun n => !ownB p n)

theorem Weak.objs {N : Fr} {l1 l2 : List (Nat × A)} {k1 k2 : List (Nm × Ob)} {us1 us2 : List Nm} {o0 : Nm → Ob} {u0 : Nm → Bool} {p : List Nat} (rr : List (Nm × Nm)) (hF : Fresh p o0 u0)
    (hl : ∀ q ∈ l2, Sub (T l1 q.1) (Ab.ren (rho rr) q.2) ∧ inD (dmOf us2 p) q.2 = true)
    (hk : ∀ q ∈ k2, dmOf us2 p q.1 = true ∧ SubO (OL k1 o0 (rho rr q.1)) (renO (rho rr) q.2) ∧ inDO (dmOf us2 p) q.2 = true)
    (hk1 : ∀ q ∈ k1, ownB p q.1 = true ∨ ∃ x ∈ k2, x.1 = q.1) (hrr : ∀ q ∈ rr, ownB p q.1 = true)
    (hus : ∀ n ∈ us2, ownB p (rho rr n) = true ∧ ∀ m ∈ us2, rho rr n = rho rr m → n = m) (hus1 : ∀ n ∈ us1, ownB p n = true) :
    Weak N ⟨T l1, OL k1 o0, UL us1 u0, p⟩ ⟨T l2, OL k2 o0, UL us2 u0, p⟩ := by
  have dmT : ∀ n, dmOf us2 p n = true ↔ n ∈ us2 ∨ ownB p n = false := fun n => by unfold dmOf; rw [UL_true]; simp
  refine Weak.ren (rho rr) (dmOf us2 p) l2 rfl rfl hl (fun n => ?_) (fun n m hn hm e => ?_) (fun n hn => ?_) (fun n hn h => ?_)
  · show OL k2 o0 n = .dead ∨ _
    rcases OL_at (k := k2) (o0 := o0) (n := n) with ⟨q, hq, rfl, e⟩ | ⟨hno, e⟩
    · right
      obtain ⟨h1, h2, h3⟩ := hk q hq
      exact ⟨h1, by rw [show (St.mk (T l2) (OL k2 o0) (UL us2 u0) p).o q.1 = q.2 from e]; exact h2, by rw [show (St.mk (T l2) (OL k2 o0) (UL us2 u0) p).o q.1 = q.2 from e]; exact h3⟩
    · cases ho : ownB p n with
      | true => left; rw [e]; exact hF.dead n ho
      | false =>
        right
        have hc := hF.clean n
        refine ⟨(dmT n).2 (.inr ho), ?_, ?_⟩
        · show SubO (OL k1 o0 (rho rr n)) (renO (rho rr) (OL k2 o0 n))
          rw [e, rho_out hrr ho, renO_id (dm := fun m => !ownB p m) (fun m hm => rho_out hrr (by simpa using hm)) _ hc]
          rcases OL_at (k := k1) (o0 := o0) (n := n) with ⟨q, hq, rfl, _⟩ | ⟨_, e1⟩
          · rcases hk1 q hq with h | ⟨x, hx, hxe⟩
            · rw [h] at ho; simp at ho
            · exact absurd hxe (hno x hx)
          · rw [e1]; exact SubO.refl _
        · show inDO (dmOf us2 p) (OL k2 o0 n) = true
          rw [e]
          cases hX : o0 n with
          | cells cs =>
            rw [hX] at hc
            exact inDL_mono (fun m hm => (dmT m).2 (.inr (by simpa using hm))) cs hc
          | map es =>
            rw [hX] at hc
            refine List.all_eq_true.2 (fun q hq => ?_)
            have hq := List.all_eq_true.1 hc q hq
            rw [Bool.and_eq_true] at hq ⊢
            exact ⟨inD_mono (fun m hm => (dmT m).2 (.inr (by simpa using hm))) _ hq.1, inD_mono (fun m hm => (dmT m).2 (.inr (by simpa using hm))) _ hq.2⟩
          | _ => rfl
  · rcases (dmT n).1 hn with h1 | h1
    · rcases (dmT m).1 hm with h2 | h2
      · exact (hus n h1).2 m h2 e
      · have := (hus n h1).1
        rw [e, rho_out hrr h2, h2] at this; simp at this
    · rcases (dmT m).1 hm with h2 | h2
      · have := (hus m h2).1
        rw [← e, rho_out hrr h1, h1] at this; simp at this
      · rw [rho_out hrr h1, rho_out hrr h2] at e; exact e
  · have hn' : ownB p n = false := by
      cases h : ownB p n with
      | true => exact absurd h hn
      | false => rfl
    exact ⟨(dmT n).2 (.inr hn'), rho_out hrr hn'⟩
  · show UL us2 u0 n = true
    rw [UL_true]
    rcases (dmT n).1 hn with h1 | h1
    · exact .inl h1
    · have h : UL us1 u0 (rho rr n) = true := h
      rw [rho_out hrr h1, UL_true] at h
      rcases h with h | h
      · rw [hus1 n h] at h1; simp at h1
      · exact .inr h

/-! ### Results -/
def viewR (s : St) : A → A
  | .tup xs => .tup (xs.map (viewA s))
  | a => viewA s a
def SubRL : List A → List A → Prop
  | [], [] => True
  | a :: l, b :: m => Sub a b ∧ SubRL l m
  | _, _ => False
def SubR : A → A → Prop
  | .tup xs, .tup ys => SubRL xs ys
  | a, b => Sub a b
theorem SubRL.get : ∀ {l m : List A}, SubRL l m → l.length = m.length ∧ ∀ (j : Nat) (b : A), m[j]? = some b → ∃ a, l[j]? = some a ∧ Sub a b
  | [], [], _ => ⟨rfl, by simp⟩
  | a :: l, b :: m, h => by
    obtain ⟨h1, h2⟩ := SubRL.get h.2
    refine ⟨by simp [h1], fun j c hj => ?_⟩
    cases j with
    | zero => simp at hj; subst hj; exact ⟨a, rfl, h.1⟩
    | succ j => simpa using h2 j c (by simpa using hj)
  | [], _ :: _, h => h.elim
  | _ :: _, [], h => h.elim
theorem SubR.rep {w : World} {φ : Map} {Pr : Pro} {x : Value} {a b : A} (h : SubR a b) (hx : ARep w φ Pr x a) : ARep w φ Pr x b := by
  unfold SubR at h
  split at h
  · obtain ⟨h1, h2⟩ := h.get
    cases hx with
    | tup hn h4 => exact .tup (by rw [hn, h1]) (fun j c hj => by
        obtain ⟨a, ha, hs⟩ := h2 j c hj
        exact hs.rep (h4 j a ha))
  · exact Sub.rep h hx
theorem viewR_rep {N : Fr} {s : St} {φ : Map} {Pr : Pro} {ac : Act} {w : World} (hI : Inv N s φ Pr ac w) {x : Value} {a : A} (hx : ARep w φ Pr x a) : ARep w φ Pr x (viewR s a) := by
  unfold viewR
  split
  · cases hx with
    | tup hn h =>
      refine .tup (by simpa using hn) (fun j c hj => ?_)
      rw [List.getElem?_map] at hj
      rename_i cs xs
      cases hq : cs[j]? with
      | none => simp [hq] at hj
      | some c0 => simp [hq] at hj; subst hj; exact viewA_rep hI (h j c0 hq)
  · exact viewA_rep hI hx

theorem viewR_heap {s : St} {φ : Map} {Pr : Pro} {w : World} (hH : Heap w φ Pr s.o) (hu : ∀ n, φ n ≠ none → s.u n = true) {x : Value} {a : A} (hx : ARep w φ Pr x a) : ARep w φ Pr x (viewR s a) := by
  have hI : Inv ⟨0, []⟩ ⟨fun _ => .und, s.o, s.u, s.p⟩ φ Pr { tmps := #[], defers := [] } w := ⟨hH, hu, rfl, fun _ => .und, rfl⟩
  have := viewR_rep hI hx
  have e : viewR ⟨fun _ => .und, s.o, s.u, s.p⟩ a = viewR s a := by
    cases a with
    | tup xs =>
      simp only [viewR]
      congr 1
    | _ => rfl
  rw [e] at this; exact this

/-- How a body ends whose function yields r. -/
def Post (P : Program) (N : Fr) (rs : Array ResultVar) (r : A) (e : Exit) (s : St) : Prop := (e = .normal ∨ e = .ret) ∧ ∃ s2 r', Weak N s s2 ∧ resultA P s2 rs = some r' ∧ SubR (viewR s2 r') r
theorem Post.ret {P : Program} {N : Fr} {rs : Array ResultVar} {r r' : A} {s : St} (h : resultA P s rs = some r') (k : SubR (viewR s r') r) : Post P N rs r .ret s := ⟨.inr rfl, s, r', .refl _, h, k⟩
theorem Post.normal {P : Program} {N : Fr} {rs : Array ResultVar} {r r' : A} {s : St} (h : resultA P s rs = some r') (k : SubR (viewR s r') r) : Post P N rs r .normal s := ⟨.inl rfl, s, r', .refl _, h, k⟩
theorem Post.weak {P : Program} {N : Fr} {rs : Array ResultVar} {r : A} {e : Exit} {s s1 : St} (h : Weak N s s1) (k : Post P N rs r e s1) : Post P N rs r e s := by
  obtain ⟨h1, s2, r', h2, h3, h4⟩ := k
  exact ⟨h1, s2, r', h.trans h2, h3, h4⟩

/-- A function over data, by its body. -/
theorem DSpec.by {P : Program} {f : FuncId} {fn : Func} {c : Code} (hf : P.funcs[f]? = some fn) (he : Enters P f) (hb : fn.body = some c) {args : List A} {r : A} {N : Nat} (hN : fn.ntmps = N) (hl : args.length ≤ N) {rs : Array ResultVar} (hrs : fn.results = rs) (hp : plainA r = true)
    (h : W P ⟨N, []⟩ c ⟨T ((List.range args.length).map fun i => (i, (args[i]?).getD .und)), OL [] (fun _ => .dead), UL [] (fun _ => false), []⟩ (Post P ⟨N, []⟩ rs r)) : DSpec P f args r := by
  subst hN; subst hrs
  obtain ⟨e, s', h1, h2, s2, r', h3, h4, h5⟩ := h
  have hB : Big P ⟨fn.ntmps, []⟩ c (entry args (fun _ => .dead) (fun _ => false) []) e s2 := (Big.weak (entry_T args _ _ _ _) h1).weaken h3
  refine ⟨he, hp, fun w Pr vs hPr ha => ?_⟩
  refine (calls_of_big hf hb hl hB h2 h4 (heap_none hPr) (fun n hn => absurd rfl hn) ha).mono ?_
  rintro e w' ⟨v, φ', Pr', rfl, hH, hu, hW, hv⟩
  refine ⟨v, Pr', rfl, ?_, plainA_map (h5.rep (viewR_heap hH hu hv)) hp⟩
  have nl : ∀ b, ¬ Live (fun _ => none) (fun _ => .dead) b := by rintro b ⟨n, hn, _⟩; simp [live] at hn
  exact ⟨hW.os, hW.tape, hW.output, hW.size, fun b hb => hW.keep b hb (nl b), hW.pro, fun r b x hp hb => (hW.old r b x hp hb).resolve_right (fun ⟨_, hl⟩ => nl b hl), hW.new, hH.cell⟩

theorem Weak.freezeL {N : Fr} {l : List (Nat × A)} {k : List (Nm × Ob)} {o0 : Nm → Ob} {u : Nm → Bool} {p : List Nat} (n : Nm) {m : Nat} {rows : List (List D)} (h : OL k o0 n = .arr m rows) : Weak N ⟨T l, OL k o0, u, p⟩ ⟨T l, OL (putO n (.froz m rows) k) o0, u, p⟩ := by
  have := Weak.freeze (N := N) (s := ⟨T l, OL k o0, u, p⟩) h
  rwa [show (St.mk (T l) (OL k o0) u p).o = OL k o0 from rfl, upd_OL] at this

attribute [simp] buildA fillA partV convA unA cutA optN natA intA litA chunkA toRows toDs plsT appendA rowsA nilEq isAddr addrOk byteA eqStruct eqFields fieldEq aflt
attribute [simp] ren renL renO inD inDO inDL dmOf ownB
attribute [simp] viewR viewA viewC toD SubR SubRL Sub SubL resultA resT
attribute [simp] Sub.refl SubC.refl SubO.refl SubC.empty SubC.nil SubC.full OL_nil OL_cons putO_nil putO_cons UL_nil UL_cons rho_nil rho_cons app_bornL app_born2L app_obL nmFor_free bornA cellsA cellA storeA fieldA addA

end Go.Proofs.YtamefliipjhpoaaGreat.Ab
