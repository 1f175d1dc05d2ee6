/-
  SEP: empty literals, append of nothing; rows of known form. Plain theorems; own text.
-/
import Derived.Test.YtkogmpeodamdgaaSepK
namespace Go.Proofs.Ytkogmpeodamdgaa
open Go Go.RowKit
set_option maxRecDepth 100000
section
variable {P : Program} {n : Nat} {e : Ext} {R : Exit → Act → World → Prop} {k : List It} {L : Slots} {A A' : List SP} {all : Array Oper} {l : List Oper} {d : Nat} {ty : TypeId} {pos : String} {after : Array Edge} {x y : Operand} {t s m c : Nat} {v : Value} {xs : List Value}
theorem o_lit0 [HasTab P] {i j : TyI} {el : TypeId} (ht : HasTab.tab P t = some i) (hd : i.desc = .slice el) (hj : HasTab.tab P el = some j) :
    OpR P e (.buildSlice t 0 #[]) ty L A (fun u post => ∃ b, u = .slice (some ⟨b, 0, none⟩) 0 0 ∧ post = row (.slice (some ⟨b, 0, none⟩) 0 0) el j.size 0 [] :: A) := .mk fun n a w F d pos after guard K X f sat hK => by
  have hr : (Instr.buildSlice t 0 #[]).run P w = .ok (.slice (some ⟨w.heap.size, 0, none⟩) 0 0) (w.alloc (.cells #[] el)) := by
    simp only [Instr.buildSlice, Sem.run_bind, run_und ht, hd, Result.andThen_ok, run_size hj]
    rw [if_neg (by simp), if_pos (by simp)]
    simp [Instr.fill, run_newRow, Array.range_zero']
  unfold Oper.wp
  simp only [execOp, List.map_toArray, List.map_nil, Sem.run_bind, hr, Result.andThen_ok, Sem.run_pure]
  refine hK _ _ _ ⟨w.heap.size, rfl, rfl⟩ ?_
  exact (sat.alloc (.cells #[] el)).ent (row_of_pts (r := []) (by simp) (by unfold maxLen; omega))
theorem go_lit0 [HasTab P] {i j : TyI} {el : TypeId} (ht : HasTab.tab P t = some i) (hde : i.desc = .slice el) (hj : HasTab.tab P el = some j) (hd : Nat.blt d n = true) (g : ∀ b, Run P n e R (.ops all l :: k) ((d, .slice (some ⟨b, 0, none⟩) 0 0) :: L) (row (.slice (some ⟨b, 0, none⟩) 0 0) el j.size 0 [] :: A)) :
    Run P n e R (.ops all (⟨some d, .buildSlice t 0 #[], ty, pos, after, none⟩ :: l) :: k) L A :=
  go_op (F := []) (o_lit0 (A := A) ht hde hj) (by rw [List.append_nil]; exact Ent.refl _) hd (by rintro v post ⟨b, rfl, rfl⟩; rw [List.append_nil]; exact g b)
/-- append of nothing. -/
theorem o_append0 [HasTab P] {i j : TyI} {el : TypeId} {c' : Nat} {B : Option Addr} (h : ev L x = some v) (hy : ev L y = some (.slice B 0 c')) (ht : HasTab.tab P t = some i) (hd : i.desc = .slice el) (hj : HasTab.tab P el = some j) :
    OpR P e (.call { callee := .builtin .append, args := #[x, y], argTypes := #[t, t] }) ty L (row v el s m xs :: A) (fun u post => u = v ∧ post = row v el s m xs :: A) := .mk fun n a w F d pos after guard K X' f sat hK => by
  obtain ⟨hu, _⟩ := HasTab.ok _ _ ht
  rw [hd] at hu
  have hr : (Builtin.append_ #[t, t] ty #[v, .slice B 0 c']).run P w = .ok v w := by
    rcases (row_own sat).2 with ⟨rfl, rfl⟩ | ⟨g, off, cap, cur, rfl, _, hmc, _⟩
    · cases B <;> simp [Builtin.append_, run_underlying hu, run_size hj, Builtin.lenOf, Builtin.firstCells, loadCells, loadCellsFrom]
    · cases B <;> simp [Builtin.append_, run_underlying hu, run_size hj, Builtin.lenOf, Builtin.firstCells, loadCells, loadCellsFrom, hmc, storeCells]
  unfold Oper.wp
  simp only [execOp, resolve, invoke, builtin, Sem.run_bind, Sem.run_pure, Result.andThen_ok, List.map_toArray, List.map_cons, List.map_nil, f.ev h, f.ev hy, hr]
  exact hK _ _ _ ⟨rfl, rfl⟩ sat
theorem go_append0 [HasTab P] {i j : TyI} {el : TypeId} {c' : Nat} {B : Option Addr} (h : ev L x = some v) (hy : ev L y = some (.slice B 0 c')) (ht : HasTab.tab P t = some i) (hde : i.desc = .slice el) (hj : HasTab.tab P el = some j) (hr : Pick A (row v el s m xs) A') (hd : Nat.blt d n = true)
    (g : Run P n e R (.ops all l :: k) ((d, v) :: L) (row v el s m xs :: A')) :
    Run P n e R (.ops all (⟨some d, .call { callee := .builtin .append, args := #[x, y], argTypes := #[t, t] }, ty, pos, after, none⟩ :: l) :: k) L A :=
  go_op (F := []) (o_append0 (A := A') h hy ht hde hj) (by rw [List.append_nil]; exact hr.ent) hd (by rintro v post ⟨rfl, rfl⟩; rw [List.append_nil]; exact g)
theorem row_nilB {B : Option Addr} {q : Nat} {h : PH} (hr : row (.slice B q c) t s q xs h) (_hs : 0 < s) : B = none → q = 0 := by
  rintro rfl
  rcases hr.2 with ⟨_, h0⟩ | ⟨g, off, cap, cur, hv, _⟩
  · exact h0
  · injection hv with h1; cases h1
theorem fill1_set {u : Value} : ∀ {l : List Value} {o : Nat}, o < l.length → Fill1 l o [u] (l.set o u)
  | [], _, h => absurd h (by simp)
  | x :: l, 0, _ => .over (.cons .nil)
  | x :: l, o + 1, h => .skip (fill1_set (l := l) (by simpa using h))
theorem RowF.set {off c s m : Nat} {cur xs : List Value} (h : RowF off c cur s m xs) {j : Nat} (_hj : j < m * s) (u : Value) : RowF off c (cur.set (off + j) u) s m (xs.set j u) := by
  obtain ⟨h1, h2, h3, h4, h5⟩ := h
  refine ⟨h1, h2, by simpa using h3, ?_, by simpa using h5⟩
  rw [List.drop_set, if_neg (by omega), show off + j - off = j by omega, List.take_set, h4]
theorem RowF.lt {off c s m : Nat} {cur xs : List Value} (h : RowF off c cur s m xs) {j : Nat} (hj : j < m * s) : off + j < cur.length := by
  have h1 := h.fit
  have h2 := Nat.mul_le_mul_right s h.le
  omega
theorem RowF.seg {off c s m : Nat} {cur xs vs : List Value} {o q : Nat} (h : RowF off c cur s m xs) (hs : Seg xs o q vs) : Seg cur (off + o) q vs := ⟨hs.1, fun j hj => by
  have h1 := hs.2 j hj
  have hlt : j < vs.length := by rw [hs.1]; exact hj
  have : vs[j]? = some vs[j] := List.getElem?_eq_getElem hlt
  rw [this] at h1
  rw [Nat.add_assoc, h.get h1, this]⟩
theorem row_tail {gg off c t s m : Nat} {cur xs : List Value} (h : RowF off c cur s m xs) (hm : 0 < m) : Ent (pts gg t cur :: A) (row (.slice (if c = 1 then some ⟨gg, off, none⟩ else some ⟨gg, off + s, none⟩) (m - 1) (c - 1)) t s (m - 1) (xs.drop s) :: A) := by
  obtain ⟨h1, h2, h3, h4, h5⟩ := h
  have e1 : (c - 1) * s + s = c * s := by rw [← Nat.succ_mul]; congr 1; omega
  have e2 : (m - 1) * s + s = m * s := by rw [← Nat.succ_mul]; congr 1; omega
  have hl : (xs.drop s).length = (m - 1) * s := by rw [List.length_drop, h5]; omega
  by_cases hc : c = 1
  · subst hc
    have hm1 : m = 1 := by omega
    subst hm1
    rw [if_pos rfl]
    refine row_shut ⟨by omega, by omega, by omega, ?_, hl⟩
    simp only [Nat.sub_self, Nat.zero_mul, List.take_zero]
    exact (List.eq_nil_of_length_eq_zero (by rw [hl]; simp)).symm
  · rw [if_neg hc]
    refine row_shut ⟨by omega, by omega, by omega, ?_, hl⟩
    rw [← h4, List.drop_take, List.drop_drop]
    congr 1
    omega
end
end Go.Proofs.Ytkogmpeodamdgaa
