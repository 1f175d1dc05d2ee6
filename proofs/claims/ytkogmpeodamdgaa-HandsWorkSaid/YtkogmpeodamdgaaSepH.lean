/-
  SEP: reslicing, append in place, clear, rows opened and shut; parts of a list of structures. Plain theorems; own text.
-/
import Derived.Test.YtkogmpeodamdgaaSepG
namespace Go.Proofs.Ytkogmpeodamdgaa
open Go Go.RowKit
set_option maxRecDepth 100000
section
variable {P : Program} {n : Nat} {e : Ext} {R : Exit → Act → World → Prop} {k : List It} {L : Slots} {A A' : List SP} {all : Array Oper} {l : List Oper} {d : Nat} {ty : TypeId} {pos : String} {after : Array Edge}
variable {x y z : Operand} {t : Nat} {v : Value} {cs vs xs : List Value} {b o g off m c s : Nat} {w : World}
/-! ### reslicing -/
theorem run_bound {kd : IntKind} {q : Int} {u : Nat} {code : BoundsCode} (h : 0 ≤ q ∧ q ≤ u) : (Instr.sliceBound (.int kd q) u code).run P w = .ok q.toNat w := by
  simp [Instr.sliceBound, asIntOf, h]
theorem run_slice [HasTab P] {i j : TyI} {el : TypeId} {B : Option Addr} {m c : Nat} {lo hi mx : Option Value} {l h q : Nat} (ht : HasTab.tab P t = some i) (hd : i.desc = .slice el) (hj : HasTab.tab P el = some j) (hb : (Instr.sliceBounds true m c lo hi mx).run P w = .ok (l, h, q) w) :
    (Instr.sliceAt t (.slice B m c) lo hi mx).run P w = .ok (.slice (if q = l then B else B.map (·.add (l * j.size))) (h - l) (q - l)) w := by
  have : (Instr.sliceAt t (.slice B m c) lo hi mx).run P w = (Instr.slice t (.slice B m c) lo hi mx).run P w := by
    simp only [Instr.sliceAt, Sem.run_bind, run_und ht, hd, Result.andThen_ok]
  rw [this]
  simp only [Instr.slice, Sem.run_bind, run_und ht, hd, Result.andThen_ok, hb, run_size hj, Sem.run_pure]
/-- x[lo:]. -/
theorem y_from [HasTab P] {i j : TyI} {el : TypeId} {B : Option Addr} {kd : IntKind} {lo : Int} (h : ev L x = some (.slice B m c)) (hy : ev L y = some (.int kd lo)) (ht : HasTab.tab P t = some i) (hd : i.desc = .slice el) (hj : HasTab.tab P el = some j) (hb : 0 ≤ lo ∧ lo ≤ m) (_hmc : m ≤ c) :
    Yields P e (.slice t x (some y) none none) ty L A (.slice (if c = lo.toNat then B else B.map (·.add (lo.toNat * j.size))) (m - lo.toNat) (c - lo.toNat)) := .mk fun n a w d pos after guard f _ => by
  have hbd : (Instr.sliceBounds true m c (some (.int kd lo)) none none).run P w = .ok (lo.toNat, m, c) w := by
    simp [Instr.sliceBounds, run_bound hb]
  simp only [execOp, f.ev h, f.ev hy, Option.map_some, Option.map_none, Sem.run_bind, run_slice ht hd hj hbd, Result.andThen_ok, Sem.run_pure]
/-- x[:hi]. -/
theorem y_to [HasTab P] {i j : TyI} {el : TypeId} {B : Option Addr} {kd : IntKind} {hi : Int} (h : ev L x = some (.slice B m c)) (hy : ev L y = some (.int kd hi)) (ht : HasTab.tab P t = some i) (hd : i.desc = .slice el) (hj : HasTab.tab P el = some j) (hb : 0 ≤ hi ∧ hi ≤ c) :
    Yields P e (.slice t x none (some y) none) ty L A (.slice B hi.toNat c) := .mk fun n a w d pos after guard f _ => by
  have hbd : (Instr.sliceBounds true m c none (some (.int kd hi)) none).run P w = .ok (0, hi.toNat, c) w := by
    simp [Instr.sliceBounds, run_bound hb]
  simp only [execOp, f.ev h, f.ev hy, Option.map_some, Option.map_none, Sem.run_bind, run_slice ht hd hj hbd, Result.andThen_ok, Sem.run_pure]
  have : (if c = 0 then B else B.map (·.add (0 * j.size))) = B := by
    split
    · rfl
    · cases B <;> simp [Addr.add_zero']
  rw [this, Nat.sub_zero, Nat.sub_zero]
/-- x[lo:hi]. -/
theorem y_cut [HasTab P] {i j : TyI} {el : TypeId} {B : Option Addr} {kd kd' : IntKind} {lo hi : Int} (h : ev L x = some (.slice B m c)) (hy : ev L y = some (.int kd lo)) (hz : ev L z = some (.int kd' hi)) (ht : HasTab.tab P t = some i) (hd : i.desc = .slice el) (hj : HasTab.tab P el = some j) (hb : 0 ≤ lo ∧ lo ≤ hi ∧ hi ≤ c) :
    Yields P e (.slice t x (some y) (some z) none) ty L A (.slice (if c = lo.toNat then B else B.map (·.add (lo.toNat * j.size))) (hi.toNat - lo.toNat) (c - lo.toNat)) := .mk fun n a w d pos after guard f _ => by
  have hbd : (Instr.sliceBounds true m c (some (.int kd lo)) (some (.int kd' hi)) none).run P w = .ok (lo.toNat, hi.toNat, c) w := by
    have h1 : (Instr.sliceBound (.int kd' hi) c .sliceAcap).run P w = .ok hi.toNat w := run_bound ⟨by omega, hb.2.2⟩
    have h2 : (Instr.sliceBound (.int kd lo) hi.toNat .sliceB).run P w = .ok lo.toNat w := run_bound ⟨hb.1, by omega⟩
    simp [Instr.sliceBounds, h1, h2]
  simp only [execOp, f.ev h, f.ev hy, f.ev hz, Option.map_some, Option.map_none, Sem.run_bind, run_slice ht hd hj hbd, Result.andThen_ok, Sem.run_pure]
/-- x[lo:hi:max]. -/
theorem y_cut3 [HasTab P] {i j : TyI} {el : TypeId} {B : Option Addr} {kd kd' kd'' : IntKind} {lo hi mx : Int} {u : Operand} (h : ev L x = some (.slice B m c)) (hy : ev L y = some (.int kd lo)) (hz : ev L z = some (.int kd' hi)) (hu : ev L u = some (.int kd'' mx)) (ht : HasTab.tab P t = some i) (hd : i.desc = .slice el) (hj : HasTab.tab P el = some j) (hb : 0 ≤ lo ∧ lo ≤ hi ∧ hi ≤ mx ∧ mx ≤ c) :
    Yields P e (.slice t x (some y) (some z) (some u)) ty L A (.slice (if mx.toNat = lo.toNat then B else B.map (·.add (lo.toNat * j.size))) (hi.toNat - lo.toNat) (mx.toNat - lo.toNat)) := .mk fun n a w d pos after guard f _ => by
  have hbd : (Instr.sliceBounds true m c (some (.int kd lo)) (some (.int kd' hi)) (some (.int kd'' mx))).run P w = .ok (lo.toNat, hi.toNat, mx.toNat) w := by
    have h1 : (Instr.sliceBound (.int kd'' mx) c .slice3Acap).run P w = .ok mx.toNat w := run_bound ⟨by omega, hb.2.2.2⟩
    have h2 : (Instr.sliceBound (.int kd' hi) mx.toNat .slice3B).run P w = .ok hi.toNat w := run_bound ⟨by omega, by omega⟩
    have h3 : (Instr.sliceBound (.int kd lo) hi.toNat .slice3C).run P w = .ok lo.toNat w := run_bound ⟨hb.1, by omega⟩
    simp [Instr.sliceBounds, h1, h2, h3]
  simp only [execOp, f.ev h, f.ev hy, f.ev hz, f.ev hu, Option.map_some, Sem.run_bind, run_slice ht hd hj hbd, Result.andThen_ok, Sem.run_pure]
/-- a string's piece. -/
theorem run_sliceS [HasTab P] {i : TyI} {u : ByteArray} {lo hi : Option Value} {l h q : Nat} (ht : HasTab.tab P t = some i) (hd : i.desc = .string) (hb : (Instr.sliceBounds false u.size u.size lo hi none).run P w = .ok (l, h, q) w) : (Instr.sliceAt t (.string u) lo hi none).run P w = .ok (.string (u.extract l h)) w := by
  have : (Instr.sliceAt t (.string u) lo hi none).run P w = (Instr.slice t (.string u) lo hi none).run P w := by
    simp only [Instr.sliceAt, Sem.run_bind, run_und ht, hd, Result.andThen_ok]
  rw [this]
  simp [Instr.slice, run_und ht, hd, hb]
theorem y_sfrom [HasTab P] {i : TyI} {u : ByteArray} {kd : IntKind} {lo : Int} (h : ev L x = some (.string u)) (hy : ev L y = some (.int kd lo)) (ht : HasTab.tab P t = some i) (hd : i.desc = .string) (hb : 0 ≤ lo ∧ lo ≤ u.size) : Yields P e (.slice t x (some y) none none) ty L A (.string (u.extract lo.toNat u.size)) := .mk fun n a w d pos after guard f _ => by
  have hbd : (Instr.sliceBounds false u.size u.size (some (.int kd lo)) none none).run P w = .ok (lo.toNat, u.size, u.size) w := by
    simp [Instr.sliceBounds, run_bound hb]
  simp only [execOp, f.ev h, f.ev hy, Option.map_some, Option.map_none, Sem.run_bind, run_sliceS ht hd hbd, Result.andThen_ok, Sem.run_pure]
theorem y_sto [HasTab P] {i : TyI} {u : ByteArray} {kd : IntKind} {hi : Int} (h : ev L x = some (.string u)) (hy : ev L y = some (.int kd hi)) (ht : HasTab.tab P t = some i) (hd : i.desc = .string) (hb : 0 ≤ hi ∧ hi ≤ u.size) : Yields P e (.slice t x none (some y) none) ty L A (.string (u.extract 0 hi.toNat)) := .mk fun n a w d pos after guard f _ => by
  have hbd : (Instr.sliceBounds false u.size u.size none (some (.int kd hi)) none).run P w = .ok (0, hi.toNat, u.size) w := by
    simp [Instr.sliceBounds, run_bound hb]
  simp only [execOp, f.ev h, f.ev hy, Option.map_some, Option.map_none, Sem.run_bind, run_sliceS ht hd hbd, Result.andThen_ok, Sem.run_pure]

/-! ### append in place -/
theorem own_setCells {t' : TypeId} {cur : Array Value} {B : List SP} (news : List Value) (h : Sat e w (own g (.cells cur t' (0, 0)) :: B)) (ho : o + news.length ≤ cur.size) : Sat e (w.setCells g o news) (own g (.cells (cur.toList.take o ++ news ++ cur.toList.drop (o + news.length)).toArray t' (0, 0)) :: B) := by
  have hb : Blk w g t' cur := h.own_get
  have hu := Upd.setCells_ g news o w
  exact h.own_upd ⟨hu.os, hu.tape, hu.output⟩ (fun k hk hne => hu.block k hk hne) (Blk.setCells_ hb ho)
/-- onto a slice of a block that is owned and known whole, with room for it. -/
theorem o_append_in [HasTab P] {i j : TyI} {el : TypeId} {q c' : Nat} {B : Option Addr} {news : List Value} (h : ev L x = some (.slice (some ⟨g, off, none⟩) m c)) (hy : ev L y = some (.slice B q c')) (ht : HasTab.tab P t = some i) (hd : i.desc = .slice el) (hj : HasTab.tab P el = some j)
    (hX : 0 < q → ∃ ad, B = some ad ∧ ∀ w, Sat e w (pts g el cs :: A) → ∀ jj u, news[jj]? = some u → w.cell? (ad.add jj) = some u) (hl : news.length = q * j.size) (h1 : ∀ u ∈ news, u.oneCell' = true) (hroom : m + q ≤ c) (hfit : off + m * j.size + news.length ≤ cs.length) :
    OpR P e (.call { callee := .builtin .append, args := #[x, y], argTypes := #[t, t] }) ty L (pts g el cs :: A) (fun u post => u = .slice (some ⟨g, off, none⟩) (m + q) c ∧ post = pts g el (cs.take (off + m * j.size) ++ news ++ cs.drop (off + m * j.size + news.length)) :: A) := .mk fun n a w F d pos after guard K X' f sat hK => by
  obtain ⟨hu, ⟨fi, hfi, hsz, hby, hze⟩, _⟩ := HasTab.ok _ _ ht
  obtain ⟨_, ⟨fj, hfj, hszj, hbyj, hzej⟩, _⟩ := HasTab.ok _ _ hj
  rw [hd] at hu
  have hb : Blk w g el cs.toArray := sat.own_get
  have hr : (Builtin.append_ #[t, t] ty #[.slice (some ⟨g, off, none⟩) m c, .slice B q c']).run P w = .ok (.slice (some ⟨g, off, none⟩) (m + q) c) (w.setCells g (off + m * j.size) news) := by
    rcases Nat.eq_zero_or_pos q with hq | hq
    · subst hq
      have hn : news = [] := List.eq_nil_of_length_eq_zero (by simpa using hl)
      subst hn
      have hr0 : m ≤ c := hroom
      cases B with
      | none => simp [Builtin.append_, run_underlying hu, run_size hj, Builtin.lenOf, Builtin.firstCells, hr0, storeCells, World.setCells]
      | some ad => simp [Builtin.append_, run_underlying hu, run_size hj, Builtin.lenOf, Builtin.firstCells, hr0, storeCells, World.setCells, loadCells, loadCellsFrom]
    · obtain ⟨ad, hB, hc⟩ := hX hq
      subst hB
      have hc' := hc w (sat.ent Ent.dropr)
      rw [← hszj] at hl hfit ⊢
      exact run_append_room_cells (P := P) w t ty el fj hu hfj g off m c ad q c' news hl hc' h1 hroom (fun jj hjj => by
        have : off + m * fj.size + jj < cs.toArray.size := by simp; omega
        rw [hb.cell, Array.getElem?_eq_getElem (by omega)]; rfl) (fun jj hjj => hb.frozen _)
  unfold Oper.wp
  simp only [execOp, resolve, invoke, builtin, Sem.run_bind, Sem.run_pure, Result.andThen_ok, List.map_toArray, List.map_cons, List.map_nil, f.ev h, f.ev hy, hr]
  refine hK _ _ _ ⟨rfl, rfl⟩ ?_
  exact own_setCells news sat (by simpa using hfit)
/-- clear. -/
theorem o_clear [HasTab P] {i j : TyI} {el : TypeId} {q c' : Nat} {B : Option Addr} (h : ev L x = some (.slice B q c')) (ht : HasTab.tab P t = some i) (hd : i.desc = .slice el) (hj : HasTab.tab P el = some j) (hz : ∀ u ∈ j.zero.cells.toList, u.oneCell' = true) (hzs : j.zero.cells.size = j.size) (hB : 0 < q → B = some ⟨g, off, none⟩) (hfit : off + q * j.size ≤ cs.length) :
    OpR P e (.call { callee := .builtin .clear, args := #[x], argTypes := #[t] }) ty L (pts g el cs :: A) (fun u post => u = .tuple #[] ∧ ∃ zs, zs.length = q * j.size ∧ post = pts g el (cs.take off ++ zs ++ cs.drop (off + q * j.size)) :: A) := .mk fun n a w F d pos after guard K X' f sat hK => by
  obtain ⟨hu, _⟩ := HasTab.ok _ _ ht
  rw [hd] at hu
  have hb : Blk w g el cs.toArray := sat.own_get
  unfold Oper.wp
  simp only [execOp, resolve, invoke, builtin, Sem.run_bind, Sem.run_pure, Result.andThen_ok, List.map_toArray, List.map_cons, List.map_nil, f.ev h]
  rcases Nat.eq_zero_or_pos q with hq | hq
  · subst hq
    have hr : (Builtin.clear_ #[t] ty #[.slice B 0 c']).run P w = .ok (.tuple #[]) w := by
      cases B <;> simp [Builtin.clear_, run_underlying hu]
    simp only [hr, Result.andThen_ok]
    refine hK _ _ _ ⟨rfl, [], by simp, rfl⟩ ?_
    simpa using sat
  · have hB' := hB hq
    subst hB'
    have hr := run_clear_many (P := P) w t el ty j.zero hu (run_zero hj) hz g off q c' cs.toArray hq hb (by rw [hzs]; simpa using hfit)
    simp only [hr, Result.andThen_ok]
    have hlen : (Builtin.zeroCells j.zero.cells q).toList.length = q * j.size := by rw [zeroCells_many, hzs]
    refine hK _ _ _ ⟨rfl, (Builtin.zeroCells j.zero.cells q).toList, hlen, rfl⟩ ?_
    rw [hzs]
    have hbs := Blk.setRow hb (cs.toArray.toList.take off ++ (Builtin.zeroCells j.zero.cells q).toList ++ cs.toArray.toList.drop (off + q * j.size)).toArray
    exact sat.own_upd ⟨rfl, rfl, rfl⟩ (fun k hk hne => setRow_other w g k _ hne) hbs
end
end Go.Proofs.Ytkogmpeodamdgaa
