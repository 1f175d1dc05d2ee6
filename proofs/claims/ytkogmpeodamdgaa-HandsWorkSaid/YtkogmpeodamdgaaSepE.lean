/-
  SEP, more operations: struct and slice literals, stores, append, reslicing, function values, results in memory. Plain theorems; own text.
-/
import Derived.Test.YtkogmpeodamdgaaSepD
namespace Go.Proofs.Ytkogmpeodamdgaa
open Go Go.RowKit
set_option maxRecDepth 100000
section
variable {P : Program} {n : Nat} {e : Ext} {R : Exit → Act → World → Prop} {k : List It} {L : Slots} {A l : List SP} {X : SP} {w w' : World}
variable {x y z : Operand} {ty : TypeId} {t : Nat} {v : Value} {cs vs xs : List Value} {b o g off m c s : Nat}

/-! ### struct literals -/
theorem run_places : ∀ {fs : List Field} {r : List (Nat × Nat)}, fs.mapM (fun f => (P.info? f.type).map fun i => (f.offset, i.size)) = some r → (fs.mapM fun f => do pure (f.offset, ← sizeOf f.type) : Sem (List (Nat × Nat))).run P w = .ok r w
  | [], r, h => by simp at h; subst h; simp
  | f :: fs, r, h => by
    rw [List.mapM_cons] at h
    cases hi : P.info? f.type with
    | none => rw [hi] at h; simp at h
    | some i =>
      rw [hi] at h
      cases hr : fs.mapM (fun f => (P.info? f.type).map fun i => (f.offset, i.size)) with
      | none => rw [hr] at h; simp at h
      | some r' =>
        rw [hr] at h
        simp at h
        subst h
        have h1 : (sizeOf f.type).run P w = .ok i.size w := by simp [sizeOf, typeInfo, hi]
        simp only [List.mapM_cons, Sem.run_bind, h1, Result.andThen_ok, Sem.run_pure, run_places hr]
/-- the parts, each in its place. -/
inductive FillP (pl : Nat → Option (Nat × Nat)) : List (Nat × Value) → List Value → List Value → Prop
  | nil {l : List Value} : FillP pl [] l l
  | cons {i : Nat} {v : Value} {ps : List (Nat × Value)} {l l' r cs : List Value} {o s : Nat} (hp : pl i = some (o, s)) (hc : CellsOf v cs) (hs : Nat.beq cs.length s = true) (hf : Fill1 l o cs l') (hr : FillP pl ps l' r) : FillP pl ((i, v) :: ps) l r
theorem FillP.eq {pl : Nat → Option (Nat × Nat)} {ps : List (Nat × Value)} {l r : List Value} (h : FillP pl ps l r) : Instr.fill pl l.toArray ps = some r.toArray := by
  induction h with
  | nil => rfl
  | cons hp hc hs hf _ ih =>
    unfold Instr.fill
    have h1 := hf.eq.1
    have hs' := Nat.eq_of_beq_eq_true hs
    simp only [hp, hc.eq]
    rw [if_neg (by simp; omega)]
    rw [← ih]
    congr 1
    rw [← hf.fold, ← Array.foldl_toList, Array.toList_zipIdx]
def evp (L : Slots) : List (Nat × Operand) → List (Nat × Value) → Prop
  | [], [] => True
  | (i, x) :: xs, (j, v) :: vs => i = j ∧ ev L x = some v ∧ evp L xs vs
  | _, _ => False
theorem evp_map {a : Act} (f : Fr n a L) : ∀ {ps : List (Nat × Operand)} {vs : List (Nat × Value)}, evp L ps vs → ps.map (fun p => (p.1, a.eval p.2)) = vs
  | [], [], _ => rfl
  | (i, x) :: ps, (j, v) :: vs, ⟨h1, h2, h3⟩ => by rw [List.map_cons, f.ev h2, evp_map f h3, h1]
  | [], _ :: _, h => h.elim
  | _ :: _, [], h => h.elim
theorem y_build [HasTab P] {i : TyI} {zs : List Value} {ps : List (Nat × Operand)} {pv : List (Nat × Value)} {r : List Value} (hv : evp L ps pv) (ht : HasTab.tab P t = some i) (hd : i.flds.isEmpty = false) (hz : CellsOf i.zero zs) (hf : FillP (fun j => i.pls[j]?) pv zs r) :
    Yields P e (.build t ps.toArray) ty L A (.agg r.toArray) := .mk fun n a w d pos after guard f _ => by
  have hm := evp_map f hv
  have hfill := hf.eq
  obtain ⟨_, _, h1, h2⟩ := HasTab.ok t i ht
  cases hde : i.desc with
  | struct fs =>
    rw [hde] at h2
    simp only [structPls] at h2
    have hpl : (fs.mapM fun f => do pure (f.offset, ← sizeOf f.type) : Sem (Array (Nat × Nat))).run P w = .ok i.pls.toArray w := by
      obtain ⟨fs⟩ := fs
      rw [List.mapM_toArray, ← bind_pure_comp]
      simp only [Sem.run_bind, run_places h2, Result.andThen_ok, Sem.run_pure]
    have hfill' : Instr.fill (fun j => i.pls.toArray[j]?) zs.toArray pv = some r.toArray := by
      rw [← hfill]; congr 1; funext j; simp
    simp only [execOp, List.map_toArray]
    rw [show (fun (x : Nat × Operand) => match x with | (i, x) => (i, a.eval x)) = fun p => (p.1, a.eval p.2) from rfl, hm]
    simp only [Instr.build, Sem.run_bind, run_zero ht, Result.andThen_ok, run_und ht, hde, hpl, hz.eq]
    rw [hfill']
    simp
  | _ => rw [hde] at h1; rw [← h1] at hd; simp [structFlds] at hd

/-! ### stores -/
theorem setL_eq {l vs r : List Value} {o : Nat} (h : Fill1 l o vs r) : r = l.take o ++ vs ++ l.drop (o + vs.length) := by
  obtain ⟨h1, h2, h3⟩ := h.eq
  apply List.ext_getElem?
  intro j
  rw [h3, List.append_assoc, List.getElem?_append, List.getElem?_append, List.length_take, Nat.min_eq_left (by omega), List.getElem?_take, List.getElem?_drop]
  by_cases h4 : j < o
  · rw [if_neg (by omega), if_pos h4, if_pos h4]
  · rw [if_neg h4]
    by_cases h5 : j - o < vs.length
    · rw [if_pos (by omega), if_pos h5]
    · rw [if_neg (by omega), if_neg h5]
      congr 1; omega
def allOne (vs : List Value) : Bool := vs.all fun v => v.oneCell'
theorem storeCells_own {t' : TypeId} : ∀ {vs : List Value} {i : Nat} {w : World} {cur : Array Value}, w.heap[b]? = some (.cells cur t' (0, 0)) → o + i + vs.length ≤ cur.size → (∀ u ∈ vs, u.oneCell' = true) →
    ∃ w', (storeCells ⟨b, o, none⟩ vs i).run P w = .ok () w' ∧ (w'.os = w.os ∧ w'.tape = w.tape ∧ w'.output = w.output) ∧ (∀ k, k < w.heap.size → k ≠ b → w'.heap[k]? = w.heap[k]?) ∧ w'.heap.size = w.heap.size ∧
      w'.heap[b]? = some (.cells (cur.toList.take (o + i) ++ vs ++ cur.toList.drop (o + i + vs.length)).toArray t' (0, 0))
  | [], i, w, cur, hb, hl, _ => ⟨w, rfl, ⟨rfl, rfl, rfl⟩, fun _ _ _ => rfl, rfl, by simpa using hb⟩
  | u :: vs, i, w, cur, hb, hl, h1 => by
    have hl' : o + i + (vs.length + 1) ≤ cur.size := by simpa using hl
    have hcell : w.cell? ⟨b, o + i, none⟩ = some cur[o + i] := by simp [World.cell?, hb]
    have hfr : w.frozen? ⟨b, o + i, none⟩ = false := by simp [World.frozen?, hb]
    have hu := h1 u (by simp)
    have hb' : (w.setCell ⟨b, o + i, none⟩ u).heap[b]? = some (.cells (cur.setIfInBounds (o + i) u) t' (0, 0)) := by
      simp [World.setCell, Array.getElem?_modify, hb]
    obtain ⟨w', h2, h3, h4, h5, h6⟩ := storeCells_own (vs := vs) (i := i + 1) (w := w.setCell ⟨b, o + i, none⟩ u) hb' (by simp; omega) (fun z hz => h1 z (by simp [hz]))
    refine ⟨w', ?_, ⟨h3.1, h3.2.1, h3.2.2⟩, ?_, ?_, ?_⟩
    · have hst : (store ⟨b, o + i, none⟩ u).run P w = .ok () (w.setCell ⟨b, o + i, none⟩ u) := by
        cases u <;> first | (simp [Value.oneCell'] at hu; done) | simp [store, Sem.run, hcell, hfr]
      unfold storeCells
      simp only [Sem.run_bind, Addr.add_lit, hst, Result.andThen_ok, h2]
    · intro k hk hne
      rw [h4 k (by simpa [World.setCell] using hk) hne]
      exact Below.heap_setCell w ⟨b, o + i, none⟩ u k hne
    · rw [h5]; simp [World.setCell]
    · rw [h6]
      congr 2
      have ho : o + i < cur.toList.length := by simp; omega
      have e1 : o + (i + 1) = o + i + 1 := by omega
      rw [Array.toList_setIfInBounds, e1, List.take_set, List.drop_set_of_lt (by omega), List.take_succ_eq_append_getElem ho, List.length_cons, show o + i + 1 + vs.length = o + i + (vs.length + 1) by omega]
      have hlen : (cur.toList.take (o + i)).length = o + i := by rw [List.length_take]; omega
      rw [List.set_append_right _ _ (by omega), hlen]
      simp
theorem o_store [HasTab P] {i : TyI} {t' : TypeId} {cs' : List Value} (h : ev L x = some (.pointer (some ⟨b, o, none⟩))) (hy : ev L y = some v) (hc : CellsOf v vs) (ht : HasTab.tab P t = some i) (hs : Nat.beq vs.length i.size = true) (h1 : allOne vs = true) (hf : Fill1 cs o vs cs') :
    OpR P e (.store t x y) ty L (pts b t' cs :: A) (fun u post => u = undef ∧ post = pts b t' cs' :: A) := .mk fun n a w F d pos after guard K X f sat hK => by
  have hb := sat.own_get
  have hl := hf.eq.1
  have hs' := Nat.eq_of_beq_eq_true hs
  obtain ⟨w', h2, h3, h4, h5, h6⟩ := storeCells_own (P := P) (vs := vs) (i := 0) (w := w) (o := o) hb (by simpa using hl) (fun u hu => List.all_eq_true.1 h1 u hu)
  have hr : (Instr.storeAt t (.pointer (some ⟨b, o, none⟩)) v).run P w = .ok () w' := by
    simp only [Instr.storeAt, Instr.sureAddr, Sem.run_bind, Sem.run_pure, Result.andThen_ok, storeVar, run_size ht, hc.eq]
    rw [if_neg (by simp [hs'])]
    simpa using h2
  unfold Oper.wp
  simp only [execOp, f.ev h, f.ev hy, Sem.run_bind, hr, Result.andThen_ok, Sem.run_pure]
  refine hK undef _ _ ⟨rfl, rfl⟩ ?_
  rw [setL_eq hf]
  exact sat.own_upd h3 h4 (by simpa using h6)

/-! ### slice literals -/
inductive FillS (s : Nat) : List (Nat × Value) → List Value → List Value → Prop
  | nil {l : List Value} : FillS s [] l l
  | cons {i : Nat} {v : Value} {ps : List (Nat × Value)} {l l' r cs : List Value} (hc : CellsOf v cs) (hs : Nat.beq cs.length s = true) (hf : Fill1 l (i * s) cs l') (hr : FillS s ps l' r) : FillS s ((i, v) :: ps) l r
theorem FillS.to {ps : List (Nat × Value)} {l r : List Value} (h : FillS s ps l r) : FillP (fun i => some (i * s, s)) ps l r := by
  induction h with
  | nil => exact .nil
  | cons hc hs hf _ ih => exact .cons rfl hc hs hf ih
/-- zeros of q elements. -/
def zeros : Nat → List Value → List Value
  | 0, _ => []
  | q + 1, zs => zs ++ zeros q zs
theorem zeros_len {zs : List Value} : ∀ q, (zeros q zs).length = q * zs.length
  | 0 => by simp [zeros]
  | q + 1 => by rw [zeros, List.length_append, zeros_len q, Nat.succ_mul]; omega
theorem zeros_get {zs : List Value} : ∀ (q j : Nat), j < q * zs.length → (zeros q zs)[j]? = zs[j % zs.length]?
  | 0, j, h => by simp at h
  | q + 1, j, h => by
    rw [Nat.succ_mul] at h
    rw [zeros, List.getElem?_append]
    split
    · rename_i h1; rw [Nat.mod_eq_of_lt h1]
    · rename_i h1
      rw [zeros_get q (j - zs.length) (by omega)]
      exact congrArg _ (Nat.mod_eq_sub_mod (by omega)).symm
theorem zeros_eq {zs : List Value} {q : Nat} (hs : zs.length = s) : (Array.range (q * s)).map (fun i => zs.toArray[i % zs.toArray.size]!) = (zeros q zs).toArray := by
  apply Array.ext_getElem?
  intro j
  by_cases hj : j < q * s
  · have hpos : 0 < zs.length := by
      rcases Nat.eq_zero_or_pos zs.length with e1 | e1
      · rw [hs] at e1; subst e1; simp at hj
      · exact e1
    have hm : j % zs.length < zs.length := Nat.mod_lt _ hpos
    have h1 : (zeros q zs).toArray[j]? = some zs[j % zs.length] := by
      rw [List.getElem?_toArray, zeros_get q j (by rw [hs]; exact hj), List.getElem?_eq_getElem hm]
    rw [h1]
    simp [hj, hm]
  · have h1 : (zeros q zs).toArray[j]? = none := by
      rw [List.getElem?_toArray]; exact List.getElem?_eq_none (by rw [zeros_len, hs]; omega)
    rw [h1]
    simp; omega
theorem o_buildSlice [HasTab P] {i j : TyI} {el : TypeId} {q : Nat} {zs r : List Value} {ps : List (Nat × Operand)} {pv : List (Nat × Value)} (hv : evp L ps pv) (ht : HasTab.tab P t = some i) (hd : i.desc = .slice el) (hj : HasTab.tab P el = some j) (hz : CellsOf j.zero zs) (hs : Nat.beq zs.length j.size = true) (hpos : Nat.blt 0 (q * j.size) = true) (hq : Nat.ble (q * j.size) 16777216 = true) (hf : FillS j.size pv (zeros q zs) r) :
    OpR P e (.buildSlice t q ps.toArray) ty L A (fun u post => ∃ b, u = .slice (some ⟨b, 0, none⟩) q q ∧ post = pts b el r :: A) := .mk fun n a w F d pos after guard K X f sat hK => by
  have hm := evp_map f hv
  have hs' := Nat.eq_of_beq_eq_true hs
  have hpos' : 0 < q * j.size := Nat.le_of_ble_eq_true hpos
  have hq' := Nat.le_of_ble_eq_true hq
  have hfill := hf.to.eq
  have hr : (Instr.buildSlice t q pv.toArray).run P w = .ok (.slice (some ⟨w.heap.size, 0, none⟩) q q) (w.alloc (.cells r.toArray el)) := by
    simp only [Instr.buildSlice, Sem.run_bind, run_und ht, hd, Result.andThen_ok, run_size hj]
    rw [if_neg (by omega), if_neg (by omega)]
    simp only [Sem.run_bind, Sem.run_pure, run_zero hj, Result.andThen_ok, hz.eq, zeros_eq hs', hfill, run_newRow]
  unfold Oper.wp
  simp only [execOp, List.map_toArray]
  rw [show (fun (x : Nat × Operand) => match x with | (i, x) => (i, a.eval x)) = fun p => (p.1, a.eval p.2) from rfl, hm]
  simp only [Sem.run_bind, hr, Result.andThen_ok, Sem.run_pure]
  exact hK _ _ _ ⟨w.heap.size, rfl, rfl⟩ (sat.alloc _)
/-- a new block is a row of its own. -/
theorem row_of_pts {el : TypeId} {q s : Nat} {r : List Value} (h : r.length = q * s) (hq : q ≤ maxLen) : Ent (pts b el r :: A) (row (.slice (some ⟨b, 0, none⟩) q q) el s q r :: A) :=
  Ent.one fun h' q' => ⟨h, .inr ⟨b, 0, q, r.toArray, rfl, Nat.le_refl _, hq, by simp [h], by simp [← h], q'⟩⟩
theorem row_nil {el : TypeId} {s : Nat} : Ent A (row (.slice none 0 0) el s 0 [] :: A) := fun h q => ⟨fun _ => none, h, Comp.none h, HLe.none h, HLe.refl _, ⟨by simp, .inl ⟨rfl, rfl⟩⟩, q⟩

/-! ### append -/
/-- what is appended: a part that reads. -/
theorem o_append [HasTab P] {i j : TyI} {el : TypeId} {q c' : Nat} {B : Option Addr} {news : List Value} (h : ev L x = some v) (hy : ev L y = some (.slice B q c')) (ht : HasTab.tab P t = some i) (hd : i.desc = .slice el) (hj : HasTab.tab P el = some j) (hz : Nat.beq j.zero.cells.size j.size = true) (hpos : Nat.blt 0 j.size = true)
    (hs : j.size = s) (hX : Reads X B s q news) (h1 : ∀ u ∈ news, u.oneCell' = true) (h63 : m + q ≤ maxLen) (hb : (m + q) * j.bytes ≤ 140737488355328) (hq : 0 < q) :
    OpR P e (.call { callee := .builtin .append, args := #[x, y], argTypes := #[t, t] }) ty L (row v el s m xs :: X :: A) (fun u post => ∃ D cap, u = .slice D (m + q) cap ∧ post = row (.slice D (m + q) cap) el s (m + q) (xs ++ news) :: X :: A) := .mk fun n a w F d pos after guard K X' f sat hK => by
  subst hs
  obtain ⟨hu, ⟨fi, hfi, hsz, hby, hze⟩, _⟩ := HasTab.ok _ _ ht
  obtain ⟨_, ⟨fj, hfj, hszj, hbyj, hzej⟩, _⟩ := HasTab.ok _ _ hj
  rw [hd] at hu
  have hown := row_own sat
  have sat2 := sat.ent (Ent.swap (A := row v el j.size m xs) (B := X) (l := A ++ F))
  obtain ⟨g, off, hB⟩ : ∃ g off, B = some ⟨g, off, none⟩ := sat2.head (reads_some hX hq)
  subst hB
  have hnews : ∀ jj u, news[jj]? = some u → w.cell? ((⟨g, off, none⟩ : Addr).add jj) = some u := fun jj u hu' => by
    rw [Addr.add_lit]; exact (reads_cell hX hu').run w sat2
  have hlen : news.length = q * j.size := sat2.head (reads_len hX)
  obtain ⟨D, cap, w', hr, h2, h3, h4⟩ := run_append_at (P := P) (w := w) t ty el fj j.zero j.size j.bytes hu hfj hzej hszj hbyj (Nat.eq_of_beq_eq_true hz) (Nat.le_of_ble_eq_true hpos) v m xs hown ⟨g, off, none⟩ q c' news hlen hnews h1 h63 hb
  unfold Oper.wp
  simp only [execOp, resolve, invoke, builtin, Sem.run_bind, Sem.run_pure, Result.andThen_ok, List.map_toArray, List.map_cons, List.map_nil, f.ev h, f.ev hy, hr]
  exact hK _ _ _ ⟨D, cap, rfl, rfl⟩ (sat.row_upd h2 h3 h4)
/-- one scalar's row. -/
theorem pts_reads {el : TypeId} {q s : Nat} {r : List Value} (hl : r.length = q * s) : Reads (pts b el r) (some ⟨b, 0, none⟩) s q r := fun h q' => ⟨hl, fun _ => ⟨b, 0, r.toArray, el, (0, 0), true, rfl, q', fun j u hu => by simpa using hu⟩⟩

/-! ### function values -/
def evl (L : Slots) : List Operand → List Value → Prop := evs L
theorem y_makeFunc {fn : Fn} {cap : List Operand} {cv : List Value} (h : evs L cap cv) : Yields P e (.makeFunc fn #[] cap.toArray) ty L A (.func fn #[] cv.toArray) := .mk fun n a w d pos after guard f _ => by
  have hm := evs_map f h
  simp [execOp, Instr.makeFunc, hm]

/-! ### results in memory -/
theorem res_cell {fn : Func} {t' : Tmp} {ad : Addr} (h : fn.results = #[.cell t' ty]) (ha : look L t' = some (.pointer (some ad))) (hv : VarAt P e A ty ad v) : Res P e fn L A v := .mk fun _ a w f s => by
  have h1 := f.ok t' _ ha
  simp only [results, h]
  simp [Array.getD_eq_getD_getElem?, h1, asAddr, hv.run w s]
theorem res_cell_tmp {fn : Func} {t' u' : Tmp} {ad : Addr} {v' : Value} (h : fn.results = #[.cell t' ty, .tmp u']) (ha : look L t' = some (.pointer (some ad))) (hv : VarAt P e A ty ad v) (hu : look L u' = some v') : Res P e fn L A (.tuple #[v, v']) := .mk fun _ a w f s => by
  have h1 := f.ok t' _ ha
  have h2 := f.ok u' _ hu
  rw [results_cell_tmp h]
  simp [Array.getD_eq_getD_getElem?, h1, h2, asAddr, hv.run w s, Result.andThen]
end
end Go.Proofs.Ytkogmpeodamdgaa
