/-
  SEP, the operations: what each yields, and what it does to the memory. Plain theorems; own text.
-/
import Derived.Test.YtkogmpeodamdgaaSepB
import Derived.WalkKit
import Derived.Laws.StructEq
namespace Go.Proofs.Ytkogmpeodamdgaa
open Go Go.RowKit
set_option maxRecDepth 100000

/-! ### types -/
structure TyI where
  desc : TypeDesc
  size : Nat
  bytes : Nat
  zero : Value
  /-- a struct's fields: place, type. -/
  flds : List (Nat × Nat)
  /-- .. place, cells. -/
  pls : List (Nat × Nat)
def structFlds : TypeDesc → List (Nat × Nat)
  | .struct fs => fs.toList.map fun f => (f.offset, f.type)
  | _ => []
def structPls (P : Program) : TypeDesc → Option (List (Nat × Nat))
  | .struct fs => fs.toList.mapM fun f => (P.info? f.type).map fun i => (f.offset, i.size)
  | _ => some []
def TyOk (P : Program) (t : TypeId) (i : TyI) : Prop := P.underlying t = some i.desc ∧ (∃ f, P.info? t = some f ∧ f.size = i.size ∧ f.bytes = i.bytes ∧ f.zero = some i.zero) ∧ structFlds i.desc = i.flds ∧ structPls P i.desc = some i.pls
/-- what is known of a program's types. -/
class HasTab (P : Program) where
  tab : Nat → Option TyI
  ok : ∀ t i, tab t = some i → TyOk P t i
def scalarD : TypeDesc → Bool
  | .struct _ | .array _ _ => false
  | _ => true
section
variable {P : Program} [HT : HasTab P] {t : Nat} {i : TyI} {w : World}
theorem run_und (h : HasTab.tab P t = some i) : (underlying t).run P w = .ok i.desc w := run_underlying (HasTab.ok t i h).1 w
theorem run_info (h : HasTab.tab P t = some i) : ∃ f, (typeInfo t).run P w = .ok f w ∧ f.size = i.size ∧ f.bytes = i.bytes ∧ f.zero = some i.zero := by
  obtain ⟨_, ⟨f, h1, h2⟩, _⟩ := HasTab.ok t i h
  exact ⟨f, by simp [typeInfo, h1], h2⟩
theorem run_size (h : HasTab.tab P t = some i) : (sizeOf t).run P w = .ok i.size w := by
  obtain ⟨f, h1, h2, _⟩ := run_info (w := w) h
  simp [sizeOf, h1, h2]
theorem run_zero (h : HasTab.tab P t = some i) : (zeroValue t).run P w = .ok i.zero w := by
  obtain ⟨f, h1, _, _, h4⟩ := run_info (w := w) h
  simp [zeroValue, h1, h4]
theorem run_agg_no (h : HasTab.tab P t = some i) (hs : scalarD i.desc = true) : (isAgg t).run P w = .ok false w := by
  simp only [isAgg, Sem.run_bind, run_und h, Result.andThen_ok]
  revert hs
  cases i.desc <;> simp [scalarD]
theorem run_agg_yes (h : HasTab.tab P t = some i) (hs : scalarD i.desc = false) : (isAgg t).run P w = .ok true w := by
  simp only [isAgg, Sem.run_bind, run_und h, Result.andThen_ok]
  revert hs
  cases i.desc <;> simp [scalarD]
end

/-! ### cells -/
abbrev pts (b : Nat) (t : TypeId) (cs : List Value) : SP := own b (.cells cs.toArray t (0, 0))
abbrev rpts (b : Nat) (t : TypeId) (cs : List Value) : SP := shr b (.cells cs.toArray t (0, 0))
/-- the list's cells from o on, n of them. -/
inductive TakeL : Nat → List Value → List Value → Prop
  | zero {l : List Value} : TakeL 0 l []
  | succ {n : Nat} {x : Value} {l r : List Value} : TakeL n l r → TakeL (n + 1) (x :: l) (x :: r)
inductive SegL : List Value → Nat → Nat → List Value → Prop
  | zero {n : Nat} {l r : List Value} : TakeL n l r → SegL l 0 n r
  | succ {o n : Nat} {x : Value} {l r : List Value} : SegL l o n r → SegL (x :: l) (o + 1) n r
def Seg (l : List Value) (o n : Nat) (r : List Value) : Prop := r.length = n ∧ ∀ j, j < n → l[o + j]? = r[j]?
theorem Seg.take {n : Nat} {l r : List Value} (h : TakeL n l r) : r.length = n ∧ ∀ j, j < n → l[j]? = r[j]? := by
  induction h with
  | zero => exact ⟨rfl, fun j hj => absurd hj (Nat.not_lt_zero _)⟩
  | succ _ ih => refine ⟨by simp [ih.1], fun j hj => ?_⟩; cases j with
    | zero => rfl
    | succ j => simpa using ih.2 j (by omega)
theorem Seg.lit {l r : List Value} {o n : Nat} (h : SegL l o n r) : Seg l o n r := by
  induction h with
  | zero h => have := Seg.take h; exact ⟨this.1, fun j hj => by rw [Nat.zero_add]; exact this.2 j hj⟩
  | succ _ ih => exact ⟨ih.1, fun j hj => by rw [show ∀ o : Nat, o + 1 + j = (o + j) + 1 from fun o => by omega]; simpa using ih.2 j hj⟩
/-- the memory's cells at ad. -/
structure CellAt (e : Ext) (A : List SP) (ad : Addr) (v : Value) : Prop where
  run : ∀ w, Sat e w A → w.cell? ad = some v
structure CellsAt (e : Ext) (A : List SP) (ad : Addr) (q : Nat) (vs : List Value) : Prop where
  len : vs.length = q
  run : ∀ w, Sat e w A → ∀ j v, vs[j]? = some v → w.cell? (ad.add j) = some v
section
variable {P : Program} {n : Nat} {e : Ext} {R : Exit → Act → World → Prop} {k : List It} {L : Slots} {A : List SP} {X : SP} {b o : Nat} {t : TypeId} {cs vs : List Value} {v : Value} {ad : Addr} {fz : Nat × Nat}
theorem cell_own (h : cs[o]? = some v) : CellAt e (own b (.cells cs.toArray t fz) :: A) ⟨b, o, none⟩ v := .mk fun w s => by
  have := s.own_get
  simp [World.cell?, this, h]
theorem cell_shr (h : cs[o]? = some v) : CellAt e (shr b (.cells cs.toArray t fz) :: A) ⟨b, o, none⟩ v := .mk fun w s => by
  have := s.shr_get
  simp [World.cell?, this, h]
theorem cell_there (h : CellAt e A ad v) : CellAt e (X :: A) ad v := .mk fun w s => h.run w (s.ent Ent.drop)
theorem cells_own {q : Nat} (h : Seg cs o q vs) : CellsAt e (own b (.cells cs.toArray t fz) :: A) ⟨b, o, none⟩ q vs := .mk h.1 fun w s j v hj => by
  have h1 := s.own_get
  have h2 := h.2 j (by rw [← h.1]; exact (List.getElem?_eq_some_iff.1 hj).1)
  rw [hj] at h2
  simp [World.cell?, h1, Addr.add_lit, h2]
theorem cells_shr {q : Nat} (h : Seg cs o q vs) : CellsAt e (shr b (.cells cs.toArray t fz) :: A) ⟨b, o, none⟩ q vs := .mk h.1 fun w s j v hj => by
  have h1 := s.shr_get
  have h2 := h.2 j (by rw [← h.1]; exact (List.getElem?_eq_some_iff.1 hj).1)
  rw [hj] at h2
  simp [World.cell?, h1, Addr.add_lit, h2]
theorem cells_there {q : Nat} (h : CellsAt e A ad q vs) : CellsAt e (X :: A) ad q vs := .mk h.len fun w s => h.run w (s.ent Ent.drop)
/-- a variable's value. -/
structure VarAt (P : Program) (e : Ext) (A : List SP) (t : TypeId) (ad : Addr) (v : Value) : Prop where
  run : ∀ w, Sat e w A → (loadVar t ad).run P w = .ok v w
theorem var_s [HasTab P] {i : TyI} (ht : HasTab.tab P t = some i) (hs : scalarD i.desc = true) (h : CellAt e A ad v) : VarAt P e A t ad v := .mk fun w s => by
  simp [loadVar, run_agg_no ht hs, load, Sem.run, h.run w s]
theorem var_a [HasTab P] {i : TyI} (ht : HasTab.tab P t = some i) (hs : scalarD i.desc = false) (h : CellsAt e A ad i.size vs) : VarAt P e A t ad (.agg vs.toArray) := .mk fun w s => by
  have hl := h.len.symm
  simp only [loadVar, Sem.run_bind, run_agg_yes ht hs, Result.andThen_ok, if_true, run_size ht, hl, run_loadCells_list w ad vs (h.run w s), Sem.run_pure]

/-! ### what operations yield -/
variable {x y z : Operand} {ty : TypeId}
theorem y_move (h : ev L x = some v) : Yields P e (.move x) ty L A v := .mk fun n a w d pos after guard f s => by simp [execOp, f.ev h]
theorem y_assign (h : ev L x = some v) : Yields P e (.assign x) ty L A v := .mk fun n a w d pos after guard f s => by simp [execOp, f.ev h]
theorem y_load (h : ev L x = some (.pointer (some ad))) (hv : VarAt P e A t ad v) : Yields P e (.load t x) ty L A v := .mk fun n a w d pos after guard f s => by
  simp [execOp, f.ev h, Instr.loadAt, Instr.sureAddr, hv.run w s]
def notNil : Value → Bool
  | .pointer none | .nilIface | .nilFunc | .func (.method _) _ _ => false
  | _ => true
theorem y_nilCheck (h : ev L x = some v) (hv : notNil v = true) : Yields P e (.nilCheck x) ty L A v := .mk fun n a w d pos after guard f s => by
  have h1 := f.ev h
  unfold execOp
  simp only [h1]
  cases v <;> first | rfl | (simp [notNil] at hv; done) | skip
  · rename_i a; cases a <;> first | rfl | (simp [notNil] at hv; done)
  · rename_i fn _ _; cases fn <;> first | rfl | (simp [notNil] at hv; done)
theorem fld_of [HasTab P] {i : TyI} {s : TypeId} {fi off ft : Nat} (ht : HasTab.tab P s = some i) (hf : i.flds[fi]? = some (off, ft)) : ∃ fs fd, i.desc = .struct fs ∧ fs[fi]? = some fd ∧ fd.offset = off ∧ fd.type = ft := by
  obtain ⟨_, _, h, _⟩ := HasTab.ok s i ht
  rw [← h] at hf
  cases hd : i.desc with
  | struct fs =>
    rw [hd] at hf
    simp only [structFlds, List.getElem?_map] at hf
    cases hg : fs.toList[fi]? with
    | none => rw [hg] at hf; cases hf
    | some fd =>
      rw [hg] at hf
      simp only [Option.map_some, Option.some.injEq, Prod.mk.injEq] at hf
      exact ⟨fs, fd, rfl, by simpa using hg, hf.1, hf.2⟩
  | _ => rw [hd] at hf; cases hf
theorem y_fieldAddr [HasTab P] {i j : TyI} {s : TypeId} {fi off ft : Nat} (h : ev L x = some (.pointer (some ⟨b, o, none⟩))) (ht : HasTab.tab P s = some i) (hf : i.flds[fi]? = some (off, ft)) (hj : HasTab.tab P ft = some j) (hz : Nat.beq j.size 0 = false) :
    Yields P e (.fieldAddr s x fi) ty L A (.pointer (some ⟨b, o + off, none⟩)) := .mk fun n a w d pos after guard f _ => by
  obtain ⟨fs, fd, h1, h2, rfl, rfl⟩ := fld_of ht hf
  have hz' : j.size ≠ 0 := fun e1 => by rw [e1] at hz; cases hz
  simp [execOp, f.ev h, Instr.fieldAt, run_und ht, h1, h2, Instr.sureAddr, fieldPlace, run_size hj, hz', Addr.add_lit]
theorem y_fieldAddr0 [HasTab P] {i j : TyI} {s : TypeId} {fi off ft : Nat} (h : ev L x = some (.pointer (some ⟨b, 0, none⟩))) (ht : HasTab.tab P s = some i) (hf : i.flds[fi]? = some (off, ft)) (hj : HasTab.tab P ft = some j) (hz : Nat.beq j.size 0 = false) :
    Yields P e (.fieldAddr s x fi) ty L A (.pointer (some ⟨b, off, none⟩)) := by
  have := y_fieldAddr (e := e) (A := A) (ty := ty) h ht hf hj hz
  rwa [Nat.zero_add] at this
theorem y_field_s [HasTab P] {i j : TyI} {s : TypeId} {fi off ft : Nat} (h : ev L x = some (.agg cs.toArray)) (ht : HasTab.tab P s = some i) (hf : i.flds[fi]? = some (off, ft)) (hj : HasTab.tab P ft = some j) (hs : scalarD j.desc = true) (hv : cs[off]? = some v) :
    Yields P e (.field s x fi) ty L A v := .mk fun n a w d pos after guard f _ => by
  obtain ⟨fs, fd, h1, h2, rfl, rfl⟩ := fld_of ht hf
  simp [execOp, f.ev h, Instr.field, run_und ht, h1, h2, asAgg, part, run_agg_no hj hs, hv]
theorem y_field_a [HasTab P] {i j : TyI} {s : TypeId} {fi off ft : Nat} (h : ev L x = some (.agg cs.toArray)) (ht : HasTab.tab P s = some i) (hf : i.flds[fi]? = some (off, ft)) (hj : HasTab.tab P ft = some j) (hs : scalarD j.desc = false) (hv : Seg cs off j.size vs) :
    Yields P e (.field s x fi) ty L A (.agg vs.toArray) := .mk fun n a w d pos after guard f _ => by
  obtain ⟨fs, fd, h3, h4, rfl, rfl⟩ := fld_of ht hf
  have h2 : ((cs.drop fd.offset).take j.size) = vs := by
    apply List.ext_getElem?
    intro m
    rw [List.getElem?_take]
    split
    · rename_i hm
      rw [List.getElem?_drop, hv.2 m (by omega)]
    · have := hv.1; rw [List.getElem?_eq_none (by omega)]
  simp [execOp, f.ev h, Instr.field, run_und ht, h3, h4, asAgg, part, run_agg_yes hj hs, run_size hj]
  exact h2
theorem y_indexAddr [HasTab P] {i j : TyI} {m c : Nat} {q : Int} {kd : IntKind} {el : TypeId} (h : ev L x = some (.slice (some ⟨b, o, none⟩) m c)) (hy : ev L y = some (.int kd q)) (ht : HasTab.tab P t = some i) (hd : i.desc = .slice el) (hj : HasTab.tab P el = some j) (h0 : 0 ≤ q ∧ q < m) :
    Yields P e (.indexAddr t x y) ty L A (.pointer (some ⟨b, o + q.toNat * j.size, none⟩)) := .mk fun n a w d pos after guard f _ => by
  simp [execOp, f.ev h, f.ev hy, Instr.indexAt, asIntOf, run_und ht, hd, run_size hj, h0, Addr.add_lit]
theorem y_extract {tv : Array Value} {q : Nat} (h : ev L x = some (.tuple tv)) (hv : tv[q]? = some v) : Yields P e (.extract x q) ty L A v := .mk fun n a w d pos after guard f _ => by
  simp [execOp, f.ev h, Instr.extract, hv]
theorem y_len_slice [HasTab P] {i : TyI} {el : TypeId} {a' : Option Addr} {m c : Nat} {ts : TypeId} (h : ev L x = some (.slice a' m c)) (ht : HasTab.tab P ts = some i) (hd : i.desc = .slice el) :
    Yields P e (.call { callee := .builtin .len, args := #[x], argTypes := #[ts] }) ty L A (.int .i64 m) := .mk fun n a w d pos after guard f _ => by
  simp [execOp, resolve, invoke, builtin, f.ev h, Builtin.len_, run_und ht, hd, goInt]
theorem y_len_string [HasTab P] {i : TyI} {m : ByteArray} {ts : TypeId} (h : ev L x = some (.string m)) (ht : HasTab.tab P ts = some i) (hd : i.desc = .string) :
    Yields P e (.call { callee := .builtin .len, args := #[x], argTypes := #[ts] }) ty L A (.int .i64 m.size) := .mk fun n a w d pos after guard f _ => by
  simp [execOp, resolve, invoke, builtin, f.ev h, Builtin.len_, run_und ht, hd, goInt]
theorem y_cap_slice [HasTab P] {i : TyI} {el : TypeId} {a' : Option Addr} {m c : Nat} {ts : TypeId} (h : ev L x = some (.slice a' m c)) (ht : HasTab.tab P ts = some i) (hd : i.desc = .slice el) :
    Yields P e (.call { callee := .builtin .cap, args := #[x], argTypes := #[ts] }) ty L A (.int .i64 c) := .mk fun n a w d pos after guard f _ => by
  simp [execOp, resolve, invoke, builtin, f.ev h, Builtin.cap_, run_und ht, hd, goInt]
def okI (k : IntKind) (x : Int) : Prop := k.min ≤ x ∧ x ≤ k.max
theorem wrap_ok {k : IntKind} {x : Int} (h : k.wrap x = x) : k.wrap x = x := h
variable {xt yt : TypeId} {p q : Int} {kd : IntKind}
theorem y_add (h : ev L x = some (.int kd p)) (hy : ev L y = some (.int kd q)) (hw : kd.wrap (p + q) = p + q) : Yields P e (.binOp .add xt x y yt) ty L A (.int kd (p + q)) := .mk fun n a w d pos after guard f _ => by
  simp [execOp, f.ev h, f.ev hy, eqGuard_at_int, binOp_add, Op.intArith, hw]
theorem y_sub (h : ev L x = some (.int kd p)) (hy : ev L y = some (.int kd q)) (hw : kd.wrap (p - q) = p - q) : Yields P e (.binOp .sub xt x y yt) ty L A (.int kd (p - q)) := .mk fun n a w d pos after guard f _ => by
  simp [execOp, f.ev h, f.ev hy, eqGuard_at_int, binOp_sub, Op.intArith, hw]
theorem y_mul (h : ev L x = some (.int kd p)) (hy : ev L y = some (.int kd q)) (hw : kd.wrap (p * q) = p * q) : Yields P e (.binOp .mul xt x y yt) ty L A (.int kd (p * q)) := .mk fun n a w d pos after guard f _ => by
  simp [execOp, f.ev h, f.ev hy, eqGuard_at_int, binOp_mul, Op.intArith, hw]
theorem y_eqi (h : ev L x = some (.int kd p)) (hy : ev L y = some (.int kd q)) : Yields P e (.binOp .eql xt x y yt) ty L A (.bool (decide (p = q))) := .mk fun n a w d pos after guard f _ => by
  have : (p == q) = decide (p = q) := by by_cases e1 : p = q <;> simp [e1]
  simp [execOp, f.ev h, f.ev hy, eqGuard_at_int, binOp_eql, this]
theorem y_nei (h : ev L x = some (.int kd p)) (hy : ev L y = some (.int kd q)) : Yields P e (.binOp .neq xt x y yt) ty L A (.bool (decide (p ≠ q))) := .mk fun n a w d pos after guard f _ => by
  have : (p != q) = decide (p ≠ q) := by by_cases e1 : p = q <;> simp [e1]
  simp [execOp, f.ev h, f.ev hy, eqGuard_at_int, binOp_neq, this]
theorem y_lt (h : ev L x = some (.int kd p)) (hy : ev L y = some (.int kd q)) : Yields P e (.binOp .lss xt x y yt) ty L A (.bool (decide (p < q))) := .mk fun n a w d pos after guard f _ => by
  simp [execOp, f.ev h, f.ev hy, eqGuard_at_int, binOp_lss]
theorem y_le (h : ev L x = some (.int kd p)) (hy : ev L y = some (.int kd q)) : Yields P e (.binOp .leq xt x y yt) ty L A (.bool (decide (p ≤ q))) := .mk fun n a w d pos after guard f _ => by
  simp [execOp, f.ev h, f.ev hy, eqGuard_at_int, binOp_leq]
theorem y_gt (h : ev L x = some (.int kd p)) (hy : ev L y = some (.int kd q)) : Yields P e (.binOp .gtr xt x y yt) ty L A (.bool (decide (q < p))) := .mk fun n a w d pos after guard f _ => by
  simp [execOp, f.ev h, f.ev hy, eqGuard_at_int, binOp_gtr]
theorem y_ge (h : ev L x = some (.int kd p)) (hy : ev L y = some (.int kd q)) : Yields P e (.binOp .geq xt x y yt) ty L A (.bool (decide (q ≤ p))) := .mk fun n a w d pos after guard f _ => by
  simp [execOp, f.ev h, f.ev hy, eqGuard_at_int, binOp_geq]
theorem bytes_beq_dec (a b : ByteArray) : (a.toList == b.toList) = decide (a = b) := by
  by_cases h : a = b
  · simp [h]
  · simp [h]
    intro e
    apply h
    rw [ByteArray.toList_eq, ByteArray.toList_eq] at e
    cases a; cases b; simp at e; rw [e]
variable {u u' : ByteArray} {c c' : Bool}
theorem y_eqs (h : ev L x = some (.string u)) (hy : ev L y = some (.string u')) : Yields P e (.binOp .eql xt x y yt) ty L A (.bool (decide (u = u'))) := .mk fun n a w d pos after guard f _ => by
  simp [execOp, f.ev h, f.ev hy, eqGuard_at_string, binOp, Op.stringOp, bytes_beq_dec]
theorem y_nes (h : ev L x = some (.string u)) (hy : ev L y = some (.string u')) : Yields P e (.binOp .neq xt x y yt) ty L A (.bool (decide (u ≠ u'))) := .mk fun n a w d pos after guard f _ => by
  have h1 : (!decide (u = u')) = decide (u ≠ u') := by by_cases e1 : u = u' <;> simp [e1]
  simp only [execOp, f.ev h, f.ev hy, eqGuard_at_string, binOp, Op.stringOp, bytes_beq_dec, h1]
  simp
theorem y_cats (h : ev L x = some (.string u)) (hy : ev L y = some (.string u')) (hl : u.size + u'.size ≤ 9223372036854775807) : Yields P e (.binOp .add xt x y yt) ty L A (.string (u ++ u')) := .mk fun n a w d pos after guard f _ => by
  have : ¬ (((u.size + u'.size : Nat) : Int) > IntKind.i64.max) := by simp [IntKind.max, IntKind.signed, IntKind.bits]; omega
  simp only [execOp, f.ev h, f.ev hy, eqGuard_at_string, binOp, Op.stringOp, if_neg this]
  simp
theorem y_lts (h : ev L x = some (.string u)) (hy : ev L y = some (.string u')) : Yields P e (.binOp .lss xt x y yt) ty L A (.bool (Op.bytesLess u.toList u'.toList)) := .mk fun n a w d pos after guard f _ => by
  simp [execOp, f.ev h, f.ev hy, eqGuard_at_string, binOp, Op.stringOp]
theorem run_eqb [HasTab P] {i : TyI} {w : World} (ht : HasTab.tab P xt = some i) (hd : i.desc = .bool) : (Op.equal xt (.bool c) (.bool c')).run P w = .ok (c == c') w := by
  have h : ∀ d : Nat, (Op.equalIn (d + 1) xt (.bool c) (.bool c')).run P w = .ok (c == c') w := fun d => by
    unfold Op.equalIn
    simp only [Sem.run_bind, run_und ht, hd, Result.andThen_ok, Sem.run_pure]
  exact h 9999
theorem y_eqb [HasTab P] {i : TyI} (h : ev L x = some (.bool c)) (hy : ev L y = some (.bool c')) (ht : HasTab.tab P xt = some i) (hd : i.desc = .bool) : Yields P e (.binOp .eql xt x y yt) ty L A (.bool (c == c')) := .mk fun n a w d pos after guard f _ => by
  simp only [execOp, f.ev h, f.ev hy, eqGuard_at_bool, binOp, Sem.run_bind, Sem.run_pure, Result.andThen_ok, run_eqb ht hd]
theorem y_neb [HasTab P] {i : TyI} (h : ev L x = some (.bool c)) (hy : ev L y = some (.bool c')) (ht : HasTab.tab P xt = some i) (hd : i.desc = .bool) : Yields P e (.binOp .neq xt x y yt) ty L A (.bool (!(c == c'))) := .mk fun n a w d pos after guard f _ => by
  simp only [execOp, f.ev h, f.ev hy, eqGuard_at_bool, binOp, Sem.run_bind, Sem.run_pure, Result.andThen_ok, run_eqb ht hd]
theorem y_not (h : ev L x = some (.bool c)) : Yields P e (.unOp .not xt x) ty L A (.bool (!c)) := .mk fun n a w d pos after guard f _ => by
  simp [execOp, f.ev h, Op.unary]
theorem y_notp {p : Prop} [Decidable p] (h : ev L x = some (.bool (decide p))) : Yields P e (.unOp .not xt x) ty L A (.bool (decide (¬ p))) := .mk fun n a w d pos after guard f _ => by
  simp [execOp, f.ev h, Op.unary]
theorem y_neg (h : ev L x = some (.int kd p)) (hw : kd.wrap (0 - p) = 0 - p) : Yields P e (.unOp .neg xt x) ty L A (.int kd (0 - p)) := .mk fun n a w d pos after guard f _ => by
  simp only [execOp, f.ev h, Op.unary, Op.intArith, hw]
  simp
theorem y_pick_t (h : ev L x = some (.bool true)) (hy : ev L y = some v) : Yields P e (.pick x y z) ty L A v := .mk fun n a w d pos after guard f _ => by
  simp [execOp, f.ev h, f.ev hy, asBool]
theorem y_pick_f (h : ev L x = some (.bool false)) (hy : ev L z = some v) : Yields P e (.pick x y z) ty L A v := .mk fun n a w d pos after guard f _ => by
  simp [execOp, f.ev h, f.ev hy, asBool]
end
end Go.Proofs.Ytkogmpeodamdgaa
