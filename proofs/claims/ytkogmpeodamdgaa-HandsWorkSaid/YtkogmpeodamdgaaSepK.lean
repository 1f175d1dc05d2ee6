/-
  SEP: structs compared; lists of parts, one of them taken out. Plain theorems; own text.
-/
import Derived.Test.YtkogmpeodamdgaaSepM
namespace Go.Proofs.Ytkogmpeodamdgaa
open Go Go.RowKit
set_option maxRecDepth 100000
section
variable {P : Program} {n : Nat} {e : Ext} {R : Exit → Act → World → Prop} {k : List It} {L : Slots} {A A' : List SP} {x y : Operand} {ty xt yt : TypeId}
theorem y_eqst {xs ys : List Value} {b : Bool} (h : ev L x = some (.agg xs.toArray)) (hy : ev L y = some (.agg ys.toArray)) (hm : P.eqGuardType P.depth xt = false) (he : ∀ w, (Op.equalIn 10000 xt (.agg xs.toArray) (.agg ys.toArray)).run P w = .ok b w) :
    Yields P e (.binOp .eql xt x y yt) ty L A (.bool b) := .mk fun n a w d pos after guard f _ => by
  simp only [execOp, f.ev h, f.ev hy, Sem.run_bind, run_eqGuard_agg w _ _ _ _ _ _ hm, Result.andThen_ok, run_eql_struct, he w, Sem.run_pure]
theorem y_nest {xs ys : List Value} {b : Bool} (h : ev L x = some (.agg xs.toArray)) (hy : ev L y = some (.agg ys.toArray)) (hm : P.eqGuardType P.depth xt = false) (he : ∀ w, (Op.equalIn 10000 xt (.agg xs.toArray) (.agg ys.toArray)).run P w = .ok b w) :
    Yields P e (.binOp .neq xt x y yt) ty L A (.bool (!b)) := .mk fun n a w d pos after guard f _ => by
  simp only [execOp, f.ev h, f.ev hy, Sem.run_bind, run_eqGuard_agg w _ _ _ _ _ _ hm, Result.andThen_ok, run_neq_struct, he w, Sem.run_pure]
/-- a slice against nil. -/
theorem run_eqnil [HasTab P] {i : TyI} {el : TypeId} {B : Option Addr} {m c : Nat} {w : World} (ht : HasTab.tab P xt = some i) (hd : i.desc = .slice el) : (Op.equal xt (.slice B m c) (.slice none 0 0)).run P w = .ok B.isNone w := by
  have h : ∀ d : Nat, (Op.equalIn (d + 1) xt (.slice B m c) (.slice none 0 0)).run P w = .ok B.isNone w := fun d => by
    unfold Op.equalIn
    cases B <;> simp only [Sem.run_bind, run_und ht, hd, Result.andThen_ok, Sem.run_pure] <;> rfl
  exact h 9999
theorem y_isnil [HasTab P] {i : TyI} {el : TypeId} {B : Option Addr} {m c : Nat} (h : ev L x = some (.slice B m c)) (hy : ev L y = some (.slice none 0 0)) (ht : HasTab.tab P xt = some i) (hd : i.desc = .slice el) : Yields P e (.binOp .eql xt x y yt) ty L A (.bool B.isNone) := .mk fun n a w d pos after guard f _ => by
  simp only [execOp, f.ev h, f.ev hy, eqGuard_at_slice, binOp, Sem.run_bind, Sem.run_pure, Result.andThen_ok, run_eqnil ht hd]
theorem run_eqpnil [HasTab P] {i : TyI} {el : TypeId} {B : Option Addr} {w : World} (ht : HasTab.tab P xt = some i) (hd : i.desc = .pointer el) : (Op.equal xt (.pointer B) (.pointer none)).run P w = .ok B.isNone w := by
  have h : ∀ d : Nat, (Op.equalIn (d + 1) xt (.pointer B) (.pointer none)).run P w = .ok B.isNone w := fun d => by
    unfold Op.equalIn
    cases B <;> simp only [Sem.run_bind, run_und ht, hd, Result.andThen_ok, Sem.run_pure] <;> rfl
  exact h 9999
theorem y_ispnil [HasTab P] {i : TyI} {el : TypeId} {B : Option Addr} (h : ev L x = some (.pointer B)) (hy : ev L y = some (.pointer none)) (ht : HasTab.tab P xt = some i) (hd : i.desc = .pointer el) : Yields P e (.binOp .eql xt x y yt) ty L A (.bool B.isNone) := .mk fun n a w d pos after guard f _ => by
  simp only [execOp, f.ev h, f.ev hy, eqGuard_at_pointer, binOp, Sem.run_bind, Sem.run_pure, Result.andThen_ok, run_eqpnil ht hd]
theorem go_row_form {v : Value} {t s m : Nat} {xs : List Value} (g : ∀ B c, v = .slice B m c → Run P n e R k L (row v t s m xs :: A)) : Run P n e R k L (row v t s m xs :: A) := by
  refine go_head (∃ B c, v = .slice B m c) (fun h q => ?_) fun ⟨B, c, h⟩ => g B c h
  rcases q.2 with ⟨rfl, h0⟩ | ⟨g, off, cap, cur, rfl, _⟩
  · exact ⟨none, 0, by rw [h0]⟩
  · exact ⟨_, _, rfl⟩
theorem Pick.back {l m : List SP} {B : SP} (h : Pick l B m) : Ent (B :: m) l := by
  induction h with
  | here => exact Ent.refl _
  | there _ ih => exact Ent.swap.trans (Ent.cons ih)
/-- one of a list of parts taken out. -/
theorem flat_out {α : Type} {f : α → List SP} : ∀ {l : List α} {i : Nat} (h : i < l.length), (l.flatMap f).Perm (f l[i] ++ (l.eraseIdx i).flatMap f)
  | [], _, h => absurd h (by simp)
  | x :: l, 0, _ => by simp
  | x :: l, i + 1, h => by
    rw [List.flatMap_cons]
    simp only [List.getElem_cons_succ, List.eraseIdx_cons_succ, List.flatMap_cons]
    refine (List.Perm.append_left _ (flat_out (l := l) (i := i) (by simpa using h))).trans ?_
    rw [← List.append_assoc, ← List.append_assoc]
    exact List.Perm.append_right _ List.perm_append_comm
theorem flat_in {α : Type} {f : α → List SP} {l : List α} {i : Nat} (h : i < l.length) (x : α) : (f x ++ (l.eraseIdx i).flatMap f).Perm ((l.set i x).flatMap f) := by
  have h1 := flat_out (f := f) (l := l.set i x) (i := i) (by simpa using h)
  rw [List.getElem_set_self] at h1
  have : (l.set i x).eraseIdx i = l.eraseIdx i := by
    apply List.ext_getElem?
    intro j
    simp only [List.getElem?_eraseIdx, List.getElem?_set]
    split
    · rw [if_neg (by omega)]
    · rw [if_neg (by omega)]
  rw [this] at h1
  exact h1.symm
/-- parts folded in one. -/
def fl {α : Type} (f : α → List SP) (l : List α) : SP := sl (l.flatMap f)
theorem fl_out {α : Type} {f : α → List SP} {l : List α} {i : Nat} (h : i < l.length) : Ent (fl f l :: A) (f l[i] ++ (fl f (l.eraseIdx i) :: A)) := by
  refine (Ent.unfold _).trans ((Ent.perm (List.Perm.append_right A (flat_out h))).trans ?_)
  rw [List.append_assoc]
  exact Ent.trans (Ent.perm List.perm_append_comm) ((Ent.app ((Ent.fold ((l.eraseIdx i).flatMap f) (l := A)))).trans (Ent.perm List.perm_append_comm))
theorem fl_in {α : Type} {f : α → List SP} {l : List α} {i : Nat} (h : i < l.length) (x : α) : Ent (f x ++ (fl f (l.eraseIdx i) :: A)) (fl f (l.set i x) :: A) := by
  refine Ent.trans ?_ (Ent.fold _)
  refine Ent.trans ?_ (Ent.perm (List.Perm.append_right A (flat_in h x)))
  rw [List.append_assoc]
  exact Ent.trans (Ent.perm List.perm_append_comm) ((Ent.app (Ent.unfold _ (l := A))).trans (Ent.perm List.perm_append_comm))
theorem fl_back {α : Type} {f : α → List SP} {l : List α} {i : Nat} (h : i < l.length) : Ent (f l[i] ++ (fl f (l.eraseIdx i) :: A)) (fl f l :: A) := by
  have := fl_in (A := A) (f := f) h l[i]
  rwa [List.set_getElem_self] at this
theorem fl_nil {α : Type} {f : α → List SP} : Ent A (fl f [] :: A) := Ent.fold []
theorem fl_snoc {α : Type} {f : α → List SP} {l : List α} (x : α) : Ent (fl f l :: (f x ++ A)) (fl f (l ++ [x]) :: A) := by
  refine (Ent.unfold _).trans (Ent.trans ?_ (Ent.fold _))
  rw [List.flatMap_append, ← List.append_assoc]
  simp only [List.flatMap_cons, List.flatMap_nil, List.append_nil]
  exact Ent.refl _
end
end Go.Proofs.Ytkogmpeodamdgaa
