/- States by lists of slots; forgetting slots; forgetting and renaming objects. -/
import Derived.Test.YtamefliipjhpoaaGreatAbsFun
set_option autoImplicit false
namespace Go.Proofs.YtamefliipjhpoaaGreat.Ab
open Go

/-- Slots by a list; what isn't there is unknown. -/
def T : List (Nat × A) → Nat → A
  | [], _ => .und
  | q :: l, d => if d = q.1 then q.2 else T l d

theorem T_rep {w : World} {φ : Map} {Pr : Pro} {f : Nat → Value} : ∀ {l : List (Nat × A)}, (∀ q ∈ l, ARep w φ Pr (f q.1) q.2) → ∀ d, ARep w φ Pr (f d) (T l d)
  | [], _, _ => .und
  | q :: l, h, d => by
    unfold T
    split
    · rename_i e; rw [e]; exact h q List.mem_cons_self
    · exact T_rep (fun q hq => h q (List.mem_cons_of_mem _ hq)) d

theorem Weak.slots {N : Fr} {s : St} (l : List (Nat × A)) (h : ∀ q ∈ l, s.t q.1 = q.2) : Weak N s ⟨T l, s.o, s.u, s.p⟩ :=
  ⟨rfl, fun φ Pr ac w hI => ⟨φ, Pr, ⟨hI.heap, hI.used, hI.size, T_rep (f := fun d => ac.tmps.getD d undef) (fun q hq => by
    have := hI.tmps q.1
    rw [h q hq] at this; exact this), hI.defers⟩, Went.refl hI.heap _⟩⟩

theorem Weak.slots' {N : Fr} {s s' : St} (l : List (Nat × A)) (ht : s'.t = T l) (ho : s'.o = s.o) (hu : s'.u = s.u) (hp : s'.p = s.p) (h : ∀ q ∈ l, s.t q.1 = q.2) : Weak N s s' := by
  have := Weak.slots (N := N) (s := s) l h
  cases s'
  simp only at ht ho hu hp
  subst ht; subst ho; subst hu; subst hp
  exact this

end Go.Proofs.YtamefliipjhpoaaGreat.Ab
