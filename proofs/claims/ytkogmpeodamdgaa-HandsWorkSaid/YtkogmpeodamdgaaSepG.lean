/-
  SEP, the walk's rules for operations that change the memory, as the walk wants them. Plain theorems; own text.
-/
import Derived.Test.YtkogmpeodamdgaaSepF
namespace Go.Proofs.Ytkogmpeodamdgaa
open Go Go.RowKit
set_option maxRecDepth 100000
section
variable {P : Program} {n : Nat} {e : Ext} {R : Exit → Act → World → Prop} {k : List It} {L : Slots} {A A' : List SP} {all : Array Oper} {l : List Oper} {d : Nat} {ty : TypeId} {pos : String} {after : Array Edge}
variable {x y z : Operand} {t : Nat} {v : Value} {cs vs xs : List Value} {b o g off m c s : Nat}
theorem go_box (h : ev L x = some v) (hc : CellsOf v cs) (hd : Nat.blt d n = true) (g : ∀ b, Run P n e R (.ops all l :: k) ((d, .pointer (some ⟨b, 0, none⟩)) :: L) (pts b t cs :: A)) :
    Run P n e R (.ops all (⟨some d, .box t x, ty, pos, after, none⟩ :: l) :: k) L A :=
  go_op (F := []) (o_box (A := A) h hc) (by rw [List.append_nil]; exact Ent.refl _) hd (by rintro v post ⟨b, rfl, rfl⟩; rw [List.append_nil]; exact g b)
theorem go_alloc [HasTab P] {i : TyI} (ht : HasTab.tab P t = some i) (hc : CellsOf i.zero cs) (hd : Nat.blt d n = true) (g : ∀ b, Run P n e R (.ops all l :: k) ((d, .pointer (some ⟨b, 0, none⟩)) :: L) (pts b t cs :: A)) :
    Run P n e R (.ops all (⟨some d, .alloc t, ty, pos, after, none⟩ :: l) :: k) L A :=
  go_op (F := []) (o_alloc (A := A) ht hc) (by rw [List.append_nil]; exact Ent.refl _) hd (by rintro v post ⟨b, rfl, rfl⟩; rw [List.append_nil]; exact g b)
theorem go_makeMap (hd : Nat.blt d n = true) (g : ∀ b, Run P n e R (.ops all l :: k) ((d, .map (some b)) :: L) (own b (.map #[] 0) :: A)) :
    Run P n e R (.ops all (⟨some d, .makeMap t none, ty, pos, after, none⟩ :: l) :: k) L A :=
  go_op (F := []) (o_makeMap (A := A)) (by rw [List.append_nil]; exact Ent.refl _) hd (by rintro v post ⟨b, rfl, rfl⟩; rw [List.append_nil]; exact g b)
theorem go_lit [HasTab P] {i j : TyI} {el : TypeId} {q : Nat} {zs r : List Value} {ps : List (Nat × Operand)} {pv : List (Nat × Value)} (hv : evp L ps pv) (ht : HasTab.tab P t = some i) (hde : i.desc = .slice el) (hj : HasTab.tab P el = some j) (hz : CellsOf j.zero zs) (hs : Nat.beq zs.length j.size = true) (hpos : Nat.blt 0 (q * j.size) = true) (hq : Nat.ble (q * j.size) 16777216 = true) (hf : FillS j.size pv (zeros q zs) r)
    (hd : Nat.blt d n = true) (g : ∀ b, Run P n e R (.ops all l :: k) ((d, .slice (some ⟨b, 0, none⟩) q q) :: L) (pts b el r :: A)) :
    Run P n e R (.ops all (⟨some d, .buildSlice t q ps.toArray, ty, pos, after, none⟩ :: l) :: k) L A :=
  go_op (F := []) (o_buildSlice (A := A) hv ht hde hj hz hs hpos hq hf) (by rw [List.append_nil]; exact Ent.refl _) hd (by rintro v post ⟨b, rfl, rfl⟩; rw [List.append_nil]; exact g b)
theorem go_store [HasTab P] {i : TyI} {t' : TypeId} {cs' : List Value} (h : ev L x = some (.pointer (some ⟨b, o, none⟩))) (hy : ev L y = some v) (hc : CellsOf v vs) (ht : HasTab.tab P t = some i) (hs : Nat.beq vs.length i.size = true) (h1 : allOne vs = true) (hp : Pick A (pts b t' cs) A') (hf : Fill1 cs o vs cs')
    (g : Run P n e R (.ops all l :: k) L (pts b t' cs' :: A')) : Run P n e R (.ops all (⟨none, .store t x y, ty, pos, after, none⟩ :: l) :: k) L A :=
  go_op0 (F := []) (o_store (A := A') (t' := t') h hy hc ht hs h1 hf) (by rw [List.append_nil]; exact hp.ent) (by rintro v post ⟨rfl, rfl⟩; rw [List.append_nil]; exact g)
/-- append onto an owned row of something that reads. -/
theorem go_append [HasTab P] {i j : TyI} {el : TypeId} {q c' : Nat} {B : Option Addr} {news : List Value} {X : SP} {A'' : List SP} (h : ev L x = some v) (hy : ev L y = some (.slice B q c')) (ht : HasTab.tab P t = some i) (hde : i.desc = .slice el) (hj : HasTab.tab P el = some j) (hz : Nat.beq j.zero.cells.size j.size = true) (hpos : Nat.blt 0 j.size = true)
    (hs : j.size = s) (hr : Pick A (row v el s m xs) A') (hX : Pick A' X A'') (hXr : Reads X B s q news) (h1 : ∀ u ∈ news, u.oneCell' = true) (h63 : m + q ≤ maxLen) (hb : (m + q) * j.bytes ≤ 140737488355328) (hq : 0 < q) (hd : Nat.blt d n = true)
    (g : ∀ D cap, Run P n e R (.ops all l :: k) ((d, .slice D (m + q) cap) :: L) (row (.slice D (m + q) cap) el s (m + q) (xs ++ news) :: X :: A'')) :
    Run P n e R (.ops all (⟨some d, .call { callee := .builtin .append, args := #[x, y], argTypes := #[t, t] }, ty, pos, after, none⟩ :: l) :: k) L A :=
  go_op (F := []) (o_append (A := A'') (xs := xs) h hy ht hde hj hz hpos hs hXr h1 h63 hb hq) (by rw [List.append_nil]; exact hr.ent.trans (Ent.cons hX.ent)) hd (by rintro v post ⟨D, cap, rfl, rfl⟩; rw [List.append_nil]; exact g D cap)
theorem go_tri {f : Nat} {xs : List Operand} {vs cap : List Value} {ts : Array TypeId} {pre F : List SP} {Q : Value → List SP → Prop}
    (T : Tri P f (vs ++ cap) pre Q) (he : Enters P f) (hx : ev L x = some (.func (.func f) #[] cap.toArray)) (hv : evs L xs vs) (hA : Ent A (pre ++ F)) (hd : Nat.blt d n = true) (g : ∀ v post, Q v post → Run P n e R (.ops all l :: k) ((d, v) :: L) (post ++ F)) :
    Run P n e R (.ops all (⟨some d, .call { callee := .value x, args := xs.toArray, argTypes := ts }, ty, pos, after, none⟩ :: l) :: k) L A := go_call T he hx hv hA hd g
theorem go_fn {f : Nat} {xs : List Operand} {vs : List Value} {ts : Array TypeId} {pre F : List SP} {Q : Value → List SP → Prop}
    (T : Tri P f vs pre Q) (he : Enters P f) (hx : ev L x = some (.func (.func f) #[] #[])) (hv : evs L xs vs) (hA : Ent A (pre ++ F)) (hd : Nat.blt d n = true) (g : ∀ v post, Q v post → Run P n e R (.ops all l :: k) ((d, v) :: L) (post ++ F)) :
    Run P n e R (.ops all (⟨some d, .call { callee := .value x, args := xs.toArray, argTypes := ts }, ty, pos, after, none⟩ :: l) :: k) L A := go_call (cap := []) (by rw [List.append_nil]; exact T) he hx hv hA hd g
theorem o_fn {f : Nat} {xs : List Operand} {vs : List Value} {ts : Array TypeId} {ty : TypeId} {pre F : List SP} {Q : Value → List SP → Prop} (T : Tri P f vs pre Q) (he : Enters P f) (hx : ev L x = some (.func (.func f) #[] #[])) (hv : evs L xs vs) (hA : Ent A (pre ++ F)) :
    OpR P e (.call { callee := .value x, args := xs.toArray, argTypes := ts }) ty L A (fun v post => ∃ p, Q v p ∧ post = p ++ F) := o_call (cap := []) (by rw [List.append_nil]; exact T) he hx hv hA
theorem q_fn {K : Slots → Prop} {f : Nat} {xs : List Operand} {vs : List Value} {ts : Array TypeId} {pre F : List SP} {v : Value} (T : Tri P f vs pre (fun u post => u = v ∧ post = pre)) (he : Enters P f) (hx : ev L x = some (.func (.func f) #[] #[])) (hv : evs L xs vs) (hA : Ent A (pre ++ F)) (hA' : Ent (pre ++ F) A) (hd : Nat.blt d n = true) (g : Quiet P n e all A K l ((d, v) :: L)) :
    Quiet P n e all A K (⟨some d, .call { callee := .value x, args := xs.toArray, argTypes := ts }, ty, pos, after, none⟩ :: l) L := q_call (cap := []) (by rw [List.append_nil]; exact T) he hx hv hA hA' hd g
theorem app0 {F : List SP} (g : Run P n e R k L F) : Run P n e R k L ([] ++ F) := g
theorem app1 {X : SP} {F : List SP} (g : Run P n e R k L (X :: F)) : Run P n e R k L ([X] ++ F) := g
theorem app2 {X Y : SP} {F : List SP} (g : Run P n e R k L (X :: Y :: F)) : Run P n e R k L ([X, Y] ++ F) := g
theorem app3 {X Y Z : SP} {F : List SP} (g : Run P n e R k L (X :: Y :: Z :: F)) : Run P n e R k L ([X, Y, Z] ++ F) := g
theorem app4 {X Y Z W : SP} {F : List SP} (g : Run P n e R k L (X :: Y :: Z :: W :: F)) : Run P n e R k L ([X, Y, Z, W] ++ F) := g
end
theorem enters_ {P : Program} {f : FuncId} {fn : Func} {c : Code} (hf : P.funcs[f]? = some fn) (hname : (fn.name == "runtime.NumGoroutine") = false) (hb : fn.body = some c) : Enters P f := enters_of' hf hname hb
end Go.Proofs.Ytkogmpeodamdgaa
