/-
  SEP, operations that change the memory: new blocks, stores, rows (slices that are owned or only read), append, reslicing, structs, maps. Plain theorems; own text.
-/
import Derived.Test.YtkogmpeodamdgaaSepC
import Derived.Test.YtkogmpeodamdgaaSepP
import Derived.Test.YtkogmpeodamdgaaOff
import Derived.Test.YtkogmpeodamdgaaMaps
namespace Go.Proofs.Ytkogmpeodamdgaa
open Go Go.RowKit
set_option maxRecDepth 100000

/-! ### rows -/
/-- a part that reads as a slice of n elements, s cells each. -/
def Reads (X : SP) (A : Option Addr) (s n : Nat) (xs : List Value) : Prop := ∀ h, X h → xs.length = n * s ∧ (0 < n → ∃ g off c t fz b, A = some ⟨g, off, none⟩ ∧ h g = some (b, .cells c t fz) ∧ ∀ j u, xs[j]? = some u → c[off + j]? = some u)
/-- a slice that only is read. -/
def rdr (A : Option Addr) (s n : Nat) (xs : List Value) : SP := fun h => xs.length = n * s ∧ (0 < n → ∃ g off c t fz, A = some ⟨g, off, none⟩ ∧ h g = some (false, .cells c t fz) ∧ ∀ j u, xs[j]? = some u → c[off + j]? = some u)
/-- a slice that is owned. -/
def row (v : Value) (t : TypeId) (s n : Nat) (xs : List Value) : SP := fun h => xs.length = n * s ∧ ((v = .slice none 0 0 ∧ n = 0) ∨ ∃ g off cap cur, v = .slice (some ⟨g, off, none⟩) n cap ∧ n ≤ cap ∧ cap ≤ maxLen ∧ off + cap * s ≤ cur.size ∧ (cur.toList.drop off).take (n * s) = xs ∧ h g = some (true, .cells cur t (0, 0)))
theorem rdr_reads (A : Option Addr) (s n : Nat) (xs : List Value) : Reads (rdr A s n xs) A s n xs := fun h ⟨h1, h2⟩ => ⟨h1, fun hn => by
  obtain ⟨g, off, c, t, fz, a, b, c'⟩ := h2 hn
  exact ⟨g, off, c, t, fz, false, a, b, c'⟩⟩
theorem row_reads (A : Option Addr) (t : TypeId) (s n c : Nat) (xs : List Value) : Reads (row (.slice A n c) t s n xs) A s n xs := fun h ⟨h1, h2⟩ => ⟨h1, fun hn => by
  rcases h2 with ⟨_, h3⟩ | ⟨g, off, cap, cur, hv, h3, h4, h5, h6, h7⟩
  · omega
  · injection hv with hv1 _ _
    refine ⟨g, off, cur, t, (0, 0), true, hv1, h7, fun j u hu => ?_⟩
    rw [← Array.getElem?_toList]
    rw [← h6, List.getElem?_take] at hu
    split at hu
    · rwa [List.getElem?_drop] at hu
    · cases hu⟩
section
variable {P : Program} {n : Nat} {e : Ext} {R : Exit → Act → World → Prop} {k : List It} {L : Slots} {A l : List SP} {X : SP} {w w' : World}
theorem Sat.head {p : Prop} (h : Sat e w (X :: l)) (f : ∀ h, X h → p) : p := by
  obtain ⟨_, h, _, x, _, _, _, _, q, _⟩ := h
  exact f x q
theorem go_head (p : Prop) (f : ∀ h, X h → p) (g : p → Run P n e R k L (X :: A)) : Run P n e R k L (X :: A) := go_of p (fun _ s => s.head f) g
theorem reads_len {B : Option Addr} {s m : Nat} {xs : List Value} (hr : Reads X B s m xs) : ∀ h, X h → xs.length = m * s := fun h q => (hr h q).1
theorem reads_some {B : Option Addr} {s m : Nat} {xs : List Value} (hr : Reads X B s m xs) (hm : 0 < m) : ∀ h, X h → ∃ g off, B = some ⟨g, off, none⟩ := fun h q => by
  obtain ⟨g, off, _, _, _, _, h1, _⟩ := (hr h q).2 hm
  exact ⟨g, off, h1⟩
theorem reads_cell {g off s m j : Nat} {xs : List Value} {u : Value} (hr : Reads X (some ⟨g, off, none⟩) s m xs) (hu : xs[j]? = some u) : CellAt e (X :: A) ⟨g, off + j, none⟩ u := .mk fun w s => by
  obtain ⟨_, h, hw, x, y, c, a, b, q, _⟩ := s
  obtain ⟨h1, h2⟩ := hr x q
  have hm : 0 < m := by
    rcases Nat.eq_zero_or_pos m with e1 | e1
    · subst e1
      have : xs = [] := List.eq_nil_of_length_eq_zero (by omega)
      subst this; cases hu
    · exact e1
  obtain ⟨g', off', c', t, fz, bb, e1, h3, h4⟩ := h2 hm
  injection e1 with e1
  injection e1 with e2 e3
  subst e2; subst e3
  have := hw g _ (a _ _ h3)
  simp [World.cell?, this, h4 j u hu]
theorem reads_cells {g off s m o q : Nat} {xs vs : List Value} (hr : Reads X (some ⟨g, off, none⟩) s m xs) (hs : Seg xs o q vs) : CellsAt e (X :: A) ⟨g, off + o, none⟩ q vs := .mk hs.1 fun w sw j v hj => by
  have h2 := hs.2 j (by rw [← hs.1]; exact (List.getElem?_eq_some_iff.1 hj).1)
  rw [hj] at h2
  have := (reads_cell (A := A) (e := e) hr h2).run w sw
  rw [Addr.add_lit, Nat.add_assoc]; exact this
theorem row_own {v : Value} {t s m : Nat} {xs : List Value} (h : Sat e w (row v t s m xs :: l)) : OwnAt w t s v m xs := by
  obtain ⟨_, h, hw, x, y, c, a, b, ⟨q1, q2⟩, _⟩ := h
  refine ⟨q1, ?_⟩
  rcases q2 with h1 | ⟨g, off, cap, cur, h1, h2, h3, h4, h5, h6⟩
  · exact .inl h1
  · exact .inr ⟨g, off, cap, cur, h1, hw g _ (a _ _ h6), h2, h3, h4, h5⟩
theorem Sat.row_upd {v v' : Value} {t s m m' : Nat} {xs xs' : List Value} (h : Sat e w (row v t s m xs :: l)) (ho : OwnAt w' t s v' m' xs') (hg : w.grownBy w' v.ownBlock) (hb : v'.ownBlock = v.ownBlock ∨ v'.ownBlock = some w.heap.size) : Sat e w' (row v' t s m' xs' :: l) := by
  have hx : w'.os = w.os ∧ w'.tape = w.tape ∧ w'.output = w.output := ⟨hg.os, hg.tape, hg.output⟩
  rcases id ho.2 with ⟨h1, h2⟩ | ⟨g, off, cap, cur, h1, h2, h3, h4, h5, h6⟩
  · subst h1; subst h2
    have hxs : xs' = [] := List.eq_nil_of_length_eq_zero (by simpa using ho.1)
    subst hxs
    -- the old row is let go
    obtain ⟨e1, hh, hw, x, y, c, a, b, q, r⟩ := h
    refine ⟨⟨hx.1.trans e1.1, hx.2.1.trans e1.2.1, hx.2.2.trans e1.2.2⟩, y, ?_, fun _ => none, y, Comp.none y, HLe.none y, HLe.refl y, ⟨by simp, .inl ⟨rfl, rfl⟩⟩, r⟩
    intro k z hk
    have hk' := hw k z (b k z hk)
    have hlt : k < w.heap.size := hw.lt (b k z hk)
    rw [hg.block k hlt ?_]; exact hk'
    intro e2
    rcases q.2 with ⟨q1, _⟩ | ⟨g, off, cap, cur, q1, _, _, _, _, q2⟩
    · subst q1; simp [Value.ownBlock] at e2
    · subst q1
      have : k = g := by simpa [Value.ownBlock] using e2
      subst this
      have := (c _ _ _ q2 hk).2; cases this
  · subst h1
    have hown : ∀ {z : List SP}, Sat e w' (own g (.cells cur t (0, 0)) :: z) → Sat e w' (row (.slice (some ⟨g, off, none⟩) m' cap) t s m' xs' :: z) := fun hs =>
      hs.ent (Ent.one fun x q => ⟨ho.1, .inr ⟨g, off, cap, cur, rfl, h3, h4, h5, h6, q⟩⟩)
    apply hown
    rcases hb with hb | hb
    · -- in place
      have : v.ownBlock = some g := hb.symm
      obtain ⟨e1, hh, hw, x, y, c, a, b, ⟨q0, q⟩, r⟩ := h
      rcases q with ⟨q1, _⟩ | ⟨g', off', cap', cur', q1, q2, q3, q4, q5, q6⟩
      · subst q1; cases this
      · subst q1
        have : g' = g := by simpa [Value.ownBlock] using this
        subst this
        have hs : Sat e w (own g' (.cells cur' t (0, 0)) :: l) := ⟨e1, hh, hw, x, y, c, a, b, q6, r⟩
        exact hs.own_upd hx (fun k hk hne => hg.block k hk fun e2 => hne (by simpa [Value.ownBlock] using e2)) h2
    · -- a new block
      have hg' : g = w.heap.size := by simpa [Value.ownBlock] using hb
      have hl : Sat e w' l := by
        obtain ⟨e1, hh, hw, x, y, c, a, b, q, r⟩ := h
        refine ⟨⟨hx.1.trans e1.1, hx.2.1.trans e1.2.1, hx.2.2.trans e1.2.2⟩, y, ?_, r⟩
        intro k z hk
        have hk' := hw k z (b k z hk)
        have hlt : k < w.heap.size := hw.lt (b k z hk)
        rw [hg.block k hlt ?_]; exact hk'
        intro e2
        rcases q.2 with ⟨q1, _⟩ | ⟨g, off, cap, cur, q1, _, _, _, _, q2⟩
        · subst q1; simp [Value.ownBlock] at e2
        · subst q1
          have : k = g := by simpa [Value.ownBlock] using e2
          subst this
          have := (c _ _ _ q2 hk).2; cases this
      -- l holds of w' by blocks below w's size
      obtain ⟨e1, hh, hw, r⟩ := hl
      let z : PH := fun k => if k = g then some (true, .cells cur t (0, 0)) else none
      obtain ⟨e0, hh0, hw0, x0, y0, c0, a0, b0, q0, r0⟩ := h
      have hy : y0 g = none := by
        cases hyb : y0 g with
        | none => rfl
        | some u => have := hw0.lt (b0 _ _ hyb); omega
      refine ⟨e1, join z y0, Holds.join ?_ ?_, z, y0, ?_, HLe.joinl _ _, HLe.joinr ?_, by simp [own, z], r0⟩
      · intro k u hk
        simp only [z] at hk
        split at hk
        · rename_i e2; subst e2; injection hk with hk; subst hk; exact h2
        · cases hk
      · intro k u hk
        have hk' := hw0 k u (b0 k u hk)
        have hlt : k < w.heap.size := hw0.lt (b0 k u hk)
        rw [hg.block k hlt ?_]; exact hk'
        intro e2
        rcases q0.2 with ⟨q1, _⟩ | ⟨g2, off2, cap2, cur2, q1, _, _, _, _, q2⟩
        · subst q1; simp [Value.ownBlock] at e2
        · subst q1
          have : k = g2 := by simpa [Value.ownBlock] using e2
          subst this
          have := (c0 _ _ _ q2 hk).2; cases this
      all_goals
        intro k u v hk hv
        simp only [z] at hk
        split at hk
        · rename_i e2; subst e2; rw [hy] at hv; cases hv
        · cases hk

/-! ### new blocks -/
theorem Sat.alloc (h : Sat e w l) (o : Obj) : Sat e (w.alloc o) (own w.heap.size o :: l) :=
  h.new ⟨rfl, rfl, rfl⟩ (fun k hk => Below.heap_alloc w o k hk) (Nat.le_refl _) (heap_alloc_new w o)
theorem run_newRow (t : TypeId) (cs : Array Value) : (newRow t cs).run P w = .ok ⟨w.heap.size, 0, none⟩ (w.alloc (.cells cs t)) := rfl
theorem run_box (t : TypeId) (v : Value) : (Instr.box t v).run P w = .ok (.pointer (some ⟨w.heap.size, 0, none⟩)) (w.alloc (.cells v.cells t)) := by
  simp [Instr.box, newVar, run_newRow]
/-- a new pointer to a new block. -/
def NewPtr (t : TypeId) (cs : List Value) (A : List SP) (v : Value) (post : List SP) : Prop := ∃ b, v = .pointer (some ⟨b, 0, none⟩) ∧ post = pts b t cs :: A
inductive CellsOf : Value → List Value → Prop
  | agg {cs : List Value} : CellsOf (.agg cs.toArray) cs
  | one {v : Value} (h : v.cells = #[v]) : CellsOf v [v]
theorem CellsOf.eq {v : Value} {cs : List Value} (h : CellsOf v cs) : v.cells = cs.toArray := by
  cases h with
  | agg => rfl
  | one h => rw [h]
variable {x y z : Operand} {ty : TypeId} {t : Nat} {v : Value} {cs vs xs : List Value} {b o g off m c s : Nat}
theorem o_box (h : ev L x = some v) (hc : CellsOf v cs) : OpR P e (.box t x) ty L A (NewPtr t cs A) := .mk fun n a w F d pos after guard K X f sat hK => by
  unfold Oper.wp
  simp only [execOp, f.ev h, Sem.run_bind, run_box, Result.andThen_ok, Sem.run_pure]
  refine hK _ _ _ ⟨w.heap.size, rfl, rfl⟩ ?_
  have := sat.alloc (.cells v.cells t)
  rw [hc.eq] at this ⊢
  exact this
theorem o_alloc [HasTab P] {i : TyI} (ht : HasTab.tab P t = some i) (hc : CellsOf i.zero cs) : OpR P e (.alloc t) ty L A (NewPtr t cs A) := .mk fun n a w F d pos after guard K X f sat hK => by
  unfold Oper.wp
  have hr : (Instr.alloc t true (.tuple #[])).run P w = .ok (.pointer (some ⟨w.heap.size, 0, none⟩)) (w.alloc (.cells i.zero.cells t)) := by
    simp [Instr.alloc, run_zero ht, newVar, run_newRow]
  simp only [execOp, Sem.run_bind, hr, Result.andThen_ok, Sem.run_pure]
  refine hK _ _ _ ⟨w.heap.size, rfl, rfl⟩ ?_
  have := sat.alloc (.cells i.zero.cells t)
  rw [hc.eq] at this ⊢
  exact this
theorem o_makeMap : OpR P e (.makeMap t none) ty L A (fun v post => ∃ b, v = .map (some b) ∧ post = own b (.map #[] 0) :: A) := .mk fun n a w F d pos after guard K X f sat hK => by
  unfold Oper.wp
  have hr : (Instr.makeMap t none).run P w = .ok (.map (some w.heap.size)) (w.alloc (.map #[] 0)) := rfl
  simp only [execOp, Option.map_none, Sem.run_bind, hr, Result.andThen_ok, Sem.run_pure]
  exact hK _ _ _ ⟨w.heap.size, rfl, rfl⟩ (sat.alloc _)

/-! ### structs and literals -/
inductive Over : List Value → List Value → List Value → Prop
  | nil {l : List Value} : Over l [] l
  | cons {x v : Value} {l vs r : List Value} : Over l vs r → Over (x :: l) (v :: vs) (v :: r)
inductive Fill1 : List Value → Nat → List Value → List Value → Prop
  | skip {x : Value} {l vs r : List Value} {o : Nat} : Fill1 l o vs r → Fill1 (x :: l) (o + 1) vs (x :: r)
  | over {l vs r : List Value} : Over l vs r → Fill1 l 0 vs r
theorem Over.eq {l vs r : List Value} (h : Over l vs r) : vs.length ≤ l.length ∧ r.length = l.length ∧ ∀ j, r[j]? = if j < vs.length then vs[j]? else l[j]? := by
  induction h with
  | nil => exact ⟨by simp, rfl, fun j => by simp⟩
  | cons _ ih =>
    obtain ⟨h1, h2, h3⟩ := ih
    refine ⟨by simp; omega, by simp [h2], fun j => ?_⟩
    cases j with
    | zero => simp
    | succ j => simp [h3 j]
theorem Fill1.eq {l vs r : List Value} {o : Nat} (h : Fill1 l o vs r) : o + vs.length ≤ l.length ∧ r.length = l.length ∧ ∀ j, r[j]? = if o ≤ j ∧ j < o + vs.length then vs[j - o]? else l[j]? := by
  induction h with
  | over h =>
    obtain ⟨h1, h2, h3⟩ := h.eq
    exact ⟨by omega, h2, fun j => by rw [h3]; simp⟩
  | skip _ ih =>
    obtain ⟨h1, h2, h3⟩ := ih
    refine ⟨by simp; omega, by simp [h2], fun j => ?_⟩
    cases j with
    | zero => simp
    | succ j =>
      have e1 : ∀ o : Nat, j + 1 - (o + 1) = j - o := fun o => by omega
      simp only [List.getElem?_cons_succ, h3 j, e1]
      congr 1
      apply propext
      constructor <;> (rintro ⟨a, b⟩; constructor <;> omega)
/-- fold as the model writes: cells, one by one. -/
theorem foldl_set (off : Nat) : ∀ (vs : List Value) (k : Nat) (cs : Array Value), ((vs.zipIdx k).foldl (fun cs (p : Value × Nat) => cs.setIfInBounds (off + p.2) p.1) cs).size = cs.size ∧
    ∀ j, ((vs.zipIdx k).foldl (fun cs (p : Value × Nat) => cs.setIfInBounds (off + p.2) p.1) cs)[j]? = if off + k ≤ j ∧ j < off + k + vs.length ∧ j < cs.size then vs[j - (off + k)]? else cs[j]?
  | [], k, cs => ⟨rfl, fun j => by rw [if_neg (by simp; omega)]; rfl⟩
  | u :: vs, k, cs => by
    rw [List.zipIdx_cons, List.foldl_cons]
    obtain ⟨h1, h2⟩ := foldl_set off vs (k + 1) (cs.setIfInBounds (off + k) u)
    refine ⟨by rw [h1]; simp, fun j => ?_⟩
    rw [h2 j]
    simp only [Array.size_setIfInBounds, List.length_cons]
    by_cases e1 : j = off + k
    · subst e1
      rw [if_neg (by omega)]
      by_cases hs : off + k < cs.size
      · rw [if_pos ⟨by omega, by omega, hs⟩, Nat.sub_self]
        simp [hs]
      · rw [if_neg (by omega)]
        simp [hs]
    · rw [Array.getElem?_setIfInBounds_ne (fun e2 => e1 e2.symm)]
      by_cases hc : off + (k + 1) ≤ j ∧ j < off + (k + 1) + vs.length ∧ j < cs.size
      · rw [if_pos hc, if_pos ⟨by omega, by omega, hc.2.2⟩]
        have : j - (off + k) = (j - (off + (k + 1))) + 1 := by omega
        rw [this, List.getElem?_cons_succ]
      · rw [if_neg hc, if_neg (by omega)]
theorem Fill1.fold {l vs r : List Value} {o : Nat} (h : Fill1 l o vs r) : (vs.zipIdx 0).foldl (fun cs (p : Value × Nat) => cs.setIfInBounds (o + p.2) p.1) l.toArray = r.toArray := by
  obtain ⟨h1, h2, h3⟩ := h.eq
  obtain ⟨h4, h5⟩ := foldl_set o vs 0 l.toArray
  apply Array.ext_getElem?
  intro j
  rw [h5]
  simp only [Nat.add_zero, List.size_toArray, List.getElem?_toArray, h3]
  by_cases hc : o ≤ j ∧ j < o + vs.length
  · rw [if_pos ⟨hc.1, hc.2, by omega⟩, if_pos hc]
  · rw [if_neg (by omega), if_neg hc]
end
end Go.Proofs.Ytkogmpeodamdgaa
