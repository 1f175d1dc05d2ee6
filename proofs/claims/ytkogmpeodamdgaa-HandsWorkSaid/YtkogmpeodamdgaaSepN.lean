/-
  SEP: division. Plain theorems; own text.
-/
import Derived.Test.YtkogmpeodamdgaaSepL
namespace Go.Proofs.Ytkogmpeodamdgaa
open Go Go.RowKit
theorem go_read0d {P : Program} {n : Nat} {e : Ext} {R : Exit → Act → World → Prop} {k : List It} {L : Slots} {A : List SP} {all : Array Oper} {l : List Oper} {op : Op} {ty : TypeId} {pos : String} {after : Array Edge} {v : Value} (h : Yields P e op ty L A v) (_ : true = true) (g : Run P n e R (.ops all l :: k) L A) :
    Run P n e R (.ops all (⟨none, op, ty, pos, after, none⟩ :: l) :: k) L A := go_read0 h g
section
variable {P : Program} {e : Ext} {L : Slots} {A : List SP} {x y : Operand} {xt yt ty : TypeId} {kd : IntKind} {p q : Int}
theorem y_rem (h : ev L x = some (.int kd p)) (hy : ev L y = some (.int kd q)) (hq : (q == 0) = false) (_hw : kd.wrap (p.tmod q) = p.tmod q) : Yields P e (.binOp .rem xt x y yt) ty L A (.int kd (p.tmod q)) := .mk fun n a w d pos after guard f _ => by
  have : q ≠ 0 := by simpa using hq
  simp [execOp, f.ev h, f.ev hy, eqGuard_at_int, binOp_rem, Op.intDiv, this]
theorem y_quo (h : ev L x = some (.int kd p)) (hy : ev L y = some (.int kd q)) (hq : (q == 0) = false) (hw : kd.wrap (p.tdiv q) = p.tdiv q) : Yields P e (.binOp .quo xt x y yt) ty L A (.int kd (p.tdiv q)) := .mk fun n a w d pos after guard f _ => by
  have : q ≠ 0 := by simpa using hq
  simp [execOp, f.ev h, f.ev hy, eqGuard_at_int, binOp_quo, Op.intDiv, hw, this]
end
end Go.Proofs.Ytkogmpeodamdgaa
