/-
  SEP: maps. Plain theorems; own text.
-/
import Derived.Test.YtkogmpeodamdgaaSepJ
namespace Go.Proofs.Ytkogmpeodamdgaa
open Go Go.RowKit
set_option maxRecDepth 100000
/-- block b, owned, is a map of just these pairs. -/
def mapP (b : Nat) (l : List (Value × Value)) : SP := fun h => ∃ es clock, h b = some (true, .map es clock) ∧ es.toList.map (fun e => (e.key, e.val)) = l ∧ (es.toList.map (·.born)).Nodup ∧ ∀ e ∈ es.toList, e.born < clock
section
variable {P : Program} {n : Nat} {e : Ext} {R : Exit → Act → World → Prop} {k : List It} {L : Slots} {A A' : List SP} {all : Array Oper} {lo : List Oper} {d : Nat} {ty : TypeId} {pos : String} {after : Array Edge}
variable {α : Type} {enc : α → Value} {eqv : α → α → Bool} {kt et mt b : Nat} {l : List (α × Value)} {w w' : World} {m x y : Operand}
theorem mapP_is {l : List (Value × Value)} (h : Sat e w (mapP b l :: A)) : MapIs w b l := by
  obtain ⟨_, h, hw, x, y, c, ha, hb, ⟨es, clock, h1, h2⟩, _⟩ := h
  exact ⟨es, clock, hw b _ (ha _ _ h1), h2⟩
theorem Sat.map_upd {l l' : List (Value × Value)} (h : Sat e w (mapP b l :: A)) (hm : MapIs w' b l') (hu : Upd (fun k => k = b) w w') : Sat e w' (mapP b l' :: A) := by
  obtain ⟨es', clock', h3, h4⟩ := hm
  obtain ⟨h1, h, hw, x, y, c, ha, hb, ⟨es, clock, q, _⟩, r⟩ := h
  have hs : Sat e w (own b (.map es clock) :: A) := ⟨h1, h, hw, x, y, c, ha, hb, q, r⟩
  exact (hs.own_upd ⟨hu.os, hu.tape, hu.output⟩ (fun k hk hne => hu.block k hk hne) h3).ent (Ent.one fun z q => ⟨es', clock', q, h4⟩)
theorem mapP_new : Ent (own b (.map #[] 0) :: A) (mapP b [] :: A) := Ent.one fun z q => ⟨#[], 0, q, rfl, by simp, by simp⟩
theorem y_lookup [HasTab P] {i j : TyI} {c : α} (K : KeyEq P kt enc eqv) (h : ev L m = some (.map (some b))) (hx : ev L x = some (enc c)) (ht : HasTab.tab P mt = some i) (hd : i.desc = .map kt et) (hj : HasTab.tab P et = some j) (hp : Pick A (mapP b (pairs enc l)) A') :
    Yields P e (.lookup mt m x false) ty L A ((atKey eqv l c).getD j.zero) := .mk fun n a w d pos after guard f s => by
  have hm := mapP_is (s.ent hp.ent)
  obtain ⟨hu, _⟩ := HasTab.ok _ _ ht
  rw [hd] at hu
  have := run_lookup K hu hm (run_zero hj) c false
  simp [execOp, f.ev h, f.ev hx, this]
theorem y_lookup2 [HasTab P] {i j : TyI} {c : α} (K : KeyEq P kt enc eqv) (h : ev L m = some (.map (some b))) (hx : ev L x = some (enc c)) (ht : HasTab.tab P mt = some i) (hd : i.desc = .map kt et) (hj : HasTab.tab P et = some j) (hp : Pick A (mapP b (pairs enc l)) A') :
    Yields P e (.lookup mt m x true) ty L A (.tuple #[(atKey eqv l c).getD j.zero, .bool (atKey eqv l c).isSome]) := .mk fun n a w d pos after guard f s => by
  have hm := mapP_is (s.ent hp.ent)
  obtain ⟨hu, _⟩ := HasTab.ok _ _ ht
  rw [hd] at hu
  have := run_lookup K hu hm (run_zero hj) c true
  simp [execOp, f.ev h, f.ev hx, this]
theorem y_len_map [HasTab P] {i : TyI} {kt et : Nat} {l : List (Value × Value)} {ts : TypeId} (h : ev L x = some (.map (some b))) (ht : HasTab.tab P ts = some i) (hd : i.desc = .map kt et) (hp : Pick A (mapP b l) A') :
    Yields P e (.call { callee := .builtin .len, args := #[x], argTypes := #[ts] }) ty L A (.int .i64 l.length) := .mk fun n a w d pos after guard f s => by
  obtain ⟨es, clock, h1, h2, _⟩ := mapP_is (s.ent hp.ent)
  have hl : es.size = l.length := by rw [← h2]; simp
  simp [execOp, resolve, invoke, builtin, f.ev h, Builtin.len_, run_und ht, hd, run_getObj_m h1, goInt, hl]
theorem o_update [HasTab P] {i : TyI} {c : α} {v : Value} (K : KeyEq P kt enc eqv) (h : ev L m = some (.map (some b))) (hx : ev L x = some (enc c)) (hy : ev L y = some v) (ht : HasTab.tab P mt = some i) (hd : i.desc = .map kt et) :
    OpR P e (.mapUpdate mt m x y) ty L (mapP b (pairs enc l) :: A) (fun u post => u = undef ∧ post = mapP b (pairs enc (upsert eqv l c v)) :: A) := .mk fun n a w F d pos after guard K' X f sat hK => by
  obtain ⟨hu, _⟩ := HasTab.ok _ _ ht
  rw [hd] at hu
  obtain ⟨w', hr, h1, h2⟩ := run_update K hu (mapP_is sat) c v
  unfold Oper.wp
  simp only [execOp, f.ev h, f.ev hx, f.ev hy, Sem.run_bind, hr, Result.andThen_ok, Sem.run_pure]
  exact hK undef _ _ ⟨rfl, rfl⟩ (sat.map_upd h1 h2)
theorem o_delete [HasTab P] {i : TyI} {kt' : TypeId} {c : α} (K : KeyEq P kt enc eqv) (h : ev L m = some (.map (some b))) (hx : ev L x = some (enc c)) (ht : HasTab.tab P mt = some i) (hd : i.desc = .map kt et) :
    OpR P e (.call { callee := .builtin .delete, args := #[m, x], argTypes := #[mt, kt'] }) ty L (mapP b (pairs enc l) :: A) (fun u post => u = .tuple #[] ∧ post = mapP b (pairs enc (strike eqv l c)) :: A) := .mk fun n a w F d pos after guard K' X f sat hK => by
  obtain ⟨hu, _⟩ := HasTab.ok _ _ ht
  rw [hd] at hu
  obtain ⟨w', hr, h1, h2⟩ := run_delete K hu (mapP_is sat) c kt' ty
  unfold Oper.wp
  simp only [execOp, resolve, invoke, builtin, Sem.run_bind, Sem.run_pure, Result.andThen_ok, List.map_toArray, List.map_cons, List.map_nil, f.ev h, f.ev hx, hr]
  exact hK _ _ _ ⟨rfl, rfl⟩ (sat.map_upd h1 h2)
theorem go_update [HasTab P] {i : TyI} {c : α} {v : Value} (K : KeyEq P kt enc eqv) (h : ev L m = some (.map (some b))) (hx : ev L x = some (enc c)) (hy : ev L y = some v) (ht : HasTab.tab P mt = some i) (hd : i.desc = .map kt et) (hp : Pick A (mapP b (pairs enc l)) A')
    (g : Run P n e R (.ops all lo :: k) L (mapP b (pairs enc (upsert eqv l c v)) :: A')) : Run P n e R (.ops all (⟨none, .mapUpdate mt m x y, ty, pos, after, none⟩ :: lo) :: k) L A :=
  go_op0 (F := []) (o_update (A := A') K h hx hy ht hd) (by rw [List.append_nil]; exact hp.ent) (by rintro v post ⟨rfl, rfl⟩; rw [List.append_nil]; exact g)
theorem go_delete [HasTab P] {i : TyI} {kt' : TypeId} {c : α} (K : KeyEq P kt enc eqv) (h : ev L m = some (.map (some b))) (hx : ev L x = some (enc c)) (ht : HasTab.tab P mt = some i) (hd : i.desc = .map kt et) (hp : Pick A (mapP b (pairs enc l)) A')
    (g : Run P n e R (.ops all lo :: k) L (mapP b (pairs enc (strike eqv l c)) :: A')) : Run P n e R (.ops all (⟨none, .call { callee := .builtin .delete, args := #[m, x], argTypes := #[mt, kt'] }, ty, pos, after, none⟩ :: lo) :: k) L A :=
  go_op0 (F := []) (o_delete (A := A') K h hx ht hd) (by rw [List.append_nil]; exact hp.ent) (by rintro v post ⟨rfl, rfl⟩; rw [List.append_nil]; exact g)
end
end Go.Proofs.Ytkogmpeodamdgaa
