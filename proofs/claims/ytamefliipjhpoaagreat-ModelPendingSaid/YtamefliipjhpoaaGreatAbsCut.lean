/- Cuts of slices and strings: the machine's operation yields what the abstract one says. -/
import Derived.Test.YtamefliipjhpoaaGreatAbsRows
set_option autoImplicit false
namespace Go.Proofs.YtamefliipjhpoaaGreat.Ab
open Go

theorem natA_rep {w : World} {φ : Map} {Pr : Pro} {v : Value} {a : A} {n : Nat} (hv : ARep w φ Pr v a) (h : natA a = some n) : ∃ k, v = .int k (n : Int) := by
  unfold natA at h
  cases hi : intA a with
  | none => simp [hi] at h
  | some i =>
    simp [hi] at h
    obtain ⟨h0, rfl⟩ := h
    unfold intA at hi
    split at hi
    · simp at hi; subst hi
      cases hv with
      | d hd => cases hd with | v _ => exact ⟨_, by rw [Int.toNat_of_nonneg h0]⟩
    · simp at hi

theorem run_sliceBound {P : Program} (k : IntKind) (n y : Nat) (c : BoundsCode) (h : n ≤ y) (w : World) : (Instr.sliceBound (.int k (n : Int)) y c).run P w = .ok n w := by
  simp [Instr.sliceBound, asIntOf, h]

/-- How an operand that may be left out stands for a number. -/
inductive OptN (w : World) (φ : Map) (Pr : Pro) (dflt : Nat) : Option Value → Option A → Nat → Prop
  | no : OptN w φ Pr dflt none none dflt
  | yes {v : Value} {a : A} {n : Nat} (hv : ARep w φ Pr v a) (h : natA a = some n) : OptN w φ Pr dflt (some v) (some a) n

theorem OptN.mk {w : World} {φ : Map} {Pr : Pro} {dflt n : Nat} {x : Option Value} {y : Option A} (hr : ∀ a, y = some a → ∃ v, x = some v ∧ ARep w φ Pr v a) (hx : y = none → x = none)
    (h : optN dflt y = some n) : OptN w φ Pr dflt x y n := by
  cases y with
  | none => rw [hx rfl]; simp [optN] at h; subst h; exact .no
  | some a => obtain ⟨v, rfl, hv⟩ := hr a rfl; exact .yes hv h

theorem run_sliceBounds {P : Program} {w w0 : World} {φ : Map} {Pr : Pro} (b : Bool) {len cap l h m : Nat} {lo hi mx : Option Value} {alo ahi amx : Option A}
    (hl : OptN w0 φ Pr 0 lo alo l) (hh : OptN w0 φ Pr len hi ahi h) (hm : OptN w0 φ Pr cap mx amx m) (hmh : mx ≠ none → hi ≠ none) (h1 : l ≤ h) (h2 : h ≤ m) (h3 : m ≤ cap) :
    (Instr.sliceBounds b len cap lo hi mx).run P w = .ok (l, h, m) w := by
  cases hm with
  | no =>
    cases hh with
    | no =>
      cases hl with
      | no => simp [Instr.sliceBounds]
      | yes hv hn => obtain ⟨k, rfl⟩ := natA_rep hv hn; simp [Instr.sliceBounds, run_sliceBound _ _ _ _ h1]
    | yes hv hn =>
      obtain ⟨k, rfl⟩ := natA_rep hv hn
      cases hl with
      | no => simp [Instr.sliceBounds, run_sliceBound _ _ _ _ h2]
      | yes hv hn => obtain ⟨k, rfl⟩ := natA_rep hv hn; simp [Instr.sliceBounds, run_sliceBound _ _ _ _ h2, run_sliceBound _ _ _ _ h1]
  | yes hv hn =>
    obtain ⟨k, rfl⟩ := natA_rep hv hn
    cases hh with
    | no => exact absurd rfl (hmh (by simp))
    | yes hv hn =>
      obtain ⟨k, rfl⟩ := natA_rep hv hn
      cases hl with
      | no => simp [Instr.sliceBounds, run_sliceBound _ _ _ _ h3, run_sliceBound _ _ _ _ h2]
      | yes hv hn => obtain ⟨k, rfl⟩ := natA_rep hv hn; simp [Instr.sliceBounds, run_sliceBound _ _ _ _ h3, run_sliceBound _ _ _ _ h2, run_sliceBound _ _ _ _ h1]

theorem run_slice_of {P : Program} {t e : TypeId} {sz : Nat} (hu : P.underlying t = some (.slice e)) (hs : szT P e = some sz) {a : Option Addr} {len cap l h m : Nat} {lo hi mx : Option Value} {w : World}
    (hb : (Instr.sliceBounds true len cap lo hi mx).run P w = .ok (l, h, m) w) :
    (Instr.sliceAt t (.slice a len cap) lo hi mx).run P w = .ok (.slice (if m = l then a else a.map (·.add (l * sz))) (h - l) (m - l)) w := by
  simp [Instr.sliceAt, run_underlying hu, Instr.slice, hb, run_sizeOf' hs]

theorem run_slice_str {P : Program} {t : TypeId} (hu : P.underlying t = some .string) {s : ByteArray} {l h m : Nat} {lo hi : Option Value} {w : World}
    (hb : (Instr.sliceBounds false s.size s.size lo hi none).run P w = .ok (l, h, m) w) : (Instr.sliceAt t (.string s) lo hi none).run P w = .ok (.string (s.extract l h)) w := by
  simp [Instr.sliceAt, run_underlying hu, Instr.slice, hb]

/-- Data cut. -/
theorem DRep.cut {w : World} {Pr : Pro} {a : Option Addr} {n cap r k sz l h m : Nat} {rows : List (List D)} (hd : DRep w Pr (.slice a n cap) (.sl r k rows)) (hlh : l ≤ h) (hh : h ≤ rows.length) (_hm : m ≤ cap) (hhm : h ≤ m)
    (hk : k = sz ∨ rows = []) : DRep w Pr (.slice (if m = l then a else a.map (·.add (l * sz))) (h - l) (m - l)) (.sl r k ((rows.drop l).take (h - l))) := by
  cases hd with
  | sl val hn hc hkk ha hdd =>
    subst hn
    refine .sl (fun i j => val (l + i) j) (by simp; omega) (by omega) (fun i row hi => hkk _ row (getElem?_cut hi).2) (fun h0 => ?_) (fun i row j c hi hj => hdd _ row j c (getElem?_cut hi).2 hj)
    obtain ⟨b, off, rfl, hcell⟩ := ha (by omega)
    have hk' : k = sz := by
      rcases hk with hk | hk
      · exact hk
      · subst hk; simp at hh; omega
    subst hk'
    refine ⟨b, off + l * k, by rw [if_neg (by omega)]; simp [Addr.add_lit], fun i j hi hj => ?_⟩
    have := hcell (l + i) j (by omega) hj
    rw [Nat.add_mul, ← Nat.add_assoc] at this
    exact this

theorem run_cutA {P : Program} {w : World} {φ : Map} {Pr : Pro} {t : TypeId} {x : Value} {ax a : A} {lo hi mx : Option Value} {alo ahi amx : Option A} (hx : ARep w φ Pr x ax)
    (hlo : ∀ a, alo = some a → ∃ v, lo = some v ∧ ARep w φ Pr v a) (hlo0 : alo = none → lo = none) (hhi : ∀ a, ahi = some a → ∃ v, hi = some v ∧ ARep w φ Pr v a) (hhi0 : ahi = none → hi = none)
    (hmx : ∀ a, amx = some a → ∃ v, mx = some v ∧ ARep w φ Pr v a) (hmx0 : amx = none → mx = none) (h : cutA P t ax alo ahi amx = some a) :
    ∃ v, (Instr.sliceAt t x lo hi mx).run P w = .ok v w ∧ ARep w φ Pr v a := by
  unfold cutA at h
  split at h
  · simp at h
  rename_i l hl
  have hL : OptN w φ Pr 0 lo alo l := OptN.mk hlo hlo0 hl
  split at h
  · -- a string
    rename_i hu
    split at h
    · rename_i s
      split at h
      · rename_i hh hhe
        split at h
        · rename_i hle
          simp at h; subst h
          rw [hmx0 rfl]
          have hH : OptN w φ Pr s.size hi ahi hh := OptN.mk hhi hhi0 hhe
          cases hx with
          | d hd => cases hd with
            | v _ => exact ⟨_, run_slice_str hu (run_sliceBounds false hL hH .no (by simp) hle.1 hle.2 (Nat.le_refl _)), .d (.v rfl)⟩
        · simp at h
      · simp at h
    · simp at h
  · -- a slice
    rename_i e hu
    split at h
    · simp at h
    rename_i sz hs
    split at h
    · -- without a greatest
      have hM : ∀ c, OptN w φ Pr c mx none c := fun c => by rw [hmx0 rfl]; exact .no
      have hmh : mx ≠ none → hi ≠ none := fun h => absurd (hmx0 rfl) h
      split at h
      · rename_i r k rows
        split at h
        · rename_i hh hhe
          split at h
          · rename_i hle
            simp at h; subst h
            cases hx with
            | d hd => cases hd with
              | sl val hn hc hkk ha hdd =>
                have hH := OptN.mk hhi hhi0 hhe
                subst hn
                exact ⟨_, run_slice_of hu hs (run_sliceBounds true hL hH (hM _) hmh hle.1 (by omega) (Nat.le_refl _)), .d (DRep.cut (.sl val rfl hc hkk ha hdd) hle.1 hle.2.1 (Nat.le_refl _) (by omega) hle.2.2)⟩
          · simp at h
        · simp at h
      · rename_i r k rows
        split at h
        · rename_i hh hhe
          split at h
          · rename_i hle
            simp at h; subst h
            cases hx with
            | sx hd =>
              have hd' := hd
              cases hd with
              | sl val hn hc hkk ha hdd =>
                have hH := OptN.mk hhi hhi0 hhe
                subst hn
                exact ⟨_, run_slice_of hu hs (run_sliceBounds true hL hH (hM _) hmh hle.1 (by omega) (Nat.le_refl _)), .d (DRep.cut hd' hle.1 hle.2.1 (Nat.le_refl _) (by omega) hle.2.2)⟩
          · simp at h
        · simp at h
      · rename_i n k lo' len
        split at h
        · rename_i hh hhe
          split at h
          · rename_i hle
            obtain ⟨h1, h2, rfl⟩ := hle
            simp at h; subst h
            cases hx with
            | @os _ _ _ _ lc ad hl' hle' ha =>
              have hH := OptN.mk hhi hhi0 hhe
              refine ⟨_, run_slice_of hu hs (run_sliceBounds true hL hH (hM _) hmh h1 (by omega) (Nat.le_refl _)), ?_⟩
              rw [show lc.cap - lo' - l = lc.cap - (lo' + l) by omega]
              refine .os hl' (by omega) (fun hne => ?_)
              obtain ⟨b, off, e1, rfl⟩ := ha (by omega)
              refine ⟨b, off, e1, ?_⟩
              rw [if_neg (by omega)]
              simp [Addr.add_lit, Nat.add_mul, Nat.add_assoc]
          · simp at h
        · simp at h
      · simp at h
    · -- with one
      rename_i am
      split at h
      · rename_i ah m hm
        split at h
        · rename_i hh hhe
          split at h
          · rename_i hc
            obtain ⟨rfl, hlh⟩ := hc
            obtain ⟨vm, rfl, hvm⟩ := hmx am rfl
            obtain ⟨vh, rfl, hvh⟩ := hhi ah rfl
            have hH : ∀ c, OptN w φ Pr c (some vh) (some ah) hh := fun c => .yes hvh hhe
            have hM : ∀ c, OptN w φ Pr c (some vm) (some am) hh := fun c => .yes hvm hm
            split at h
            · rename_i r k rows
              split at h
              · rename_i hle
                simp at h; subst h
                cases hx with
                | d hd => cases hd with
                  | sl val hn hc hkk ha hdd =>
                    subst hn
                    exact ⟨_, run_slice_of hu hs (run_sliceBounds true hL (hH _) (hM _) (by simp) hlh (Nat.le_refl _) (by omega)), .sx (DRep.cut (.sl val rfl hc hkk ha hdd) hlh hle.1 (by omega) (Nat.le_refl _) hle.2)⟩
              · simp at h
            · rename_i r k rows
              split at h
              · rename_i hle
                simp at h; subst h
                cases hx with
                | sx hd =>
                  have hd' := hd
                  cases hd with
                  | sl val hn hc hkk ha hdd =>
                    subst hn
                    exact ⟨_, run_slice_of hu hs (run_sliceBounds true hL (hH _) (hM _) (by simp) hlh (Nat.le_refl _) (by omega)), .sx (DRep.cut hd' hlh hle.1 (by omega) (Nat.le_refl _) hle.2)⟩
              · simp at h
            · rename_i n k lo' len
              split at h
              · rename_i hle
                obtain ⟨h2, rfl⟩ := hle
                simp at h; subst h
                cases hx with
                | @os _ _ _ _ lc ad hl' hle' ha =>
                  refine ⟨_, run_slice_of hu hs (run_sliceBounds true hL (hH _) (hM _) (by simp) hlh (Nat.le_refl _) (by omega)), ?_⟩
                  refine .ox hl' (by omega) (fun hne => ?_)
                  obtain ⟨b, off, e1, rfl⟩ := ha (by omega)
                  refine ⟨b, off, e1, ?_⟩
                  rw [if_neg (by omega)]
                  simp [Addr.add_lit, Nat.add_mul, Nat.add_assoc]
              · simp at h
            · simp at h
          · simp at h
        · simp at h
      · simp at h
  · simp at h

end Go.Proofs.YtamefliipjhpoaaGreat.Ab
