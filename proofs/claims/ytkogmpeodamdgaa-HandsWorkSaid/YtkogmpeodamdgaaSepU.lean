/-
  SEP: a place where ways meet, in the middle of the code. Plain theorems; own text.
-/
import Derived.Test.YtkogmpeodamdgaaSepN
namespace Go.Proofs.Ytkogmpeodamdgaa
open Go Go.RowKit
section
variable {P : Program} {n : Nat} {e : Ext} {R : Exit → Act → World → Prop} {k : List It} {L : Slots} {A : List SP}
def Met {α : Type} (n : Nat) (e : Ext) (inv : α → Prop) (LI : α → Slots) (AI : α → List SP) (a : Act) (w : World) : Prop := ∃ x, inv x ∧ Fr n a (LI x) ∧ Sat e w (AI x)
theorem go_cut {α : Type} (inv : α → Prop) (LI : α → Slots) (AI : α → List SP) {c : Code} (g1 : Run P n e R (.code c :: .mark (Met n e inv LI AI) :: k) L A) (g2 : ∀ x, inv x → Run P n e R k (LI x) (AI x)) : Run P n e R (.code c :: k) L A := .mk fun a w f s => by
  refine wp_mono (g1.run a w f s) fun x a w q => ?_
  cases x with
  | normal => obtain ⟨y, h2, h3, h4⟩ := q; exact (g2 y h2).run a w h3 h4
  | exit id => exact q
  | goto l => exact q
  | ret => exact q
  | panic => exact q
  | outgrown => exact q
theorem go_met {α : Type} {inv : α → Prop} {LI : α → Slots} {AI : α → List SP} (y : α) (h2 : inv y) (hL : Subs (LI y) L) (hA : Ent A (AI y)) : Run P n e R (.mark (Met n e inv LI AI) :: k) L A :=
  .mk fun _ _ f s => ⟨y, h2, f.sub hL, s.ent hA⟩
end
end Go.Proofs.Ytkogmpeodamdgaa
