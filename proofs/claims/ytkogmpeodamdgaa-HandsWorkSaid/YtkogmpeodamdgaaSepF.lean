/-
  SEP, small laws for the walk's side goals. Plain theorems; own text.
-/
import Derived.Test.YtkogmpeodamdgaaTab
import Derived.IntWalk
namespace Go.Proofs.Ytkogmpeodamdgaa
open Go Go.RowKit
theorem i64_wrap {x : Int} (h : -9223372036854775808 ≤ x ∧ x ≤ 9223372036854775807) : IntKind.i64.wrap x = x := IntWalk.i64_in _ h
/-- what stands in front is let go. -/
theorem entd {A B : List SP} {X : SP} (h : Ent A B) : Ent (X :: A) B := Ent.drop.trans h
theorem ent0 {A : List SP} : Ent A ([] ++ A) := Ent.refl _
theorem ent1 {A B : List SP} {X : SP} (h : Pick A X B) : Ent A ([X] ++ B) := h.ent
theorem ent2 {A B C : List SP} {X Y : SP} (h : Pick A X B) (k : Pick B Y C) : Ent A ([X, Y] ++ C) := Ent.pick h (ent1 k)
theorem ent3 {A B C D : List SP} {X Y Z : SP} (h : Pick A X B) (k : Pick B Y C) (i : Pick C Z D) : Ent A ([X, Y, Z] ++ D) := Ent.pick h (ent2 k i)
theorem ent4 {A B C D E : List SP} {X Y Z W : SP} (h : Pick A X B) (k : Pick B Y C) (i : Pick C Z D) (j : Pick D W E) : Ent A ([X, Y, Z, W] ++ E) := Ent.pick h (ent3 k i j)
theorem entx {A B : List SP} (h : Ent A B) {F : List SP} (k : Ent B F) : Ent A F := h.trans k
theorem entr1 {A B : List SP} {X : SP} (h : Pick A X B) {F : List SP} (z : Ent B F := by repeat' first | exact Ent.refl _ | apply entd) : Ent A (X :: F) := Ent.pick h z
theorem entr2 {A B C : List SP} {X Y : SP} (h : Pick A X B) (k : Pick B Y C) {F : List SP} (z : Ent C F := by repeat' first | exact Ent.refl _ | apply entd) : Ent A (X :: Y :: F) := Ent.pick h (Ent.pick k z)
theorem entr3 {A B C D : List SP} {X Y Z : SP} (h : Pick A X B) (k : Pick B Y C) (i : Pick C Z D) {F : List SP} (z : Ent D F := by repeat' first | exact Ent.refl _ | apply entd) : Ent A (X :: Y :: Z :: F) := Ent.pick h (Ent.pick k (Ent.pick i z))
theorem ent5 {A B C D E G : List SP} {X Y Z W V : SP} (h : Pick A X B) (k : Pick B Y C) (i : Pick C Z D) (j : Pick D W E) (l : Pick E V G) {F : List SP} (z : Ent G F := by repeat' first | exact Ent.refl _ | apply entd) : Ent A ([X, Y, Z, W, V] ++ F) := Ent.pick h (Ent.pick k (Ent.pick i (Ent.pick j (Ent.pick l z))))
theorem evp_nil {L : Slots} : evp L [] [] := trivial
theorem evp_cons {L : Slots} {i : Nat} {x : Operand} {v : Value} {xs : List (Nat × Operand)} {vs : List (Nat × Value)} (h : ev L x = some v) (k : evp L xs vs) : evp L ((i, x) :: xs) ((i, v) :: vs) := ⟨rfl, h, k⟩
theorem evs_nil {L : Slots} : evs L [] [] := trivial
theorem evs_cons {L : Slots} {x : Operand} {v : Value} {xs : List Operand} {vs : List Value} (h : ev L x = some v) (k : evs L xs vs) : evs L (x :: xs) (v :: vs) := ⟨h, k⟩
end Go.Proofs.Ytkogmpeodamdgaa
