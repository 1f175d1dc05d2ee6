/-
  A slice that a call owns and that may begin within its block: reading, its tail, one cell set, append. For any program. Own work.
-/
import Derived.Test.YtkogmpeodamdgaaSl
import Derived.ArgAppend
import Derived.Maps.AppendAt
import Derived.Deep.Upon
namespace Go.Proofs.Ytkogmpeodamdgaa
open Go.RowKit

/-- an owned row, anywhere within its block. -/
def OwnAt (w : World) (e : TypeId) (size : Nat) (v : Value) (n : Nat) (xs : List Value) : Prop :=
  xs.length = n * size ∧ ((v = .slice none 0 0 ∧ n = 0) ∨ ∃ g off cap cur, v = .slice (some ⟨g, off, none⟩) n cap ∧ Blk w g e cur ∧ n ≤ cap ∧ cap ≤ maxLen ∧ off + cap * size ≤ cur.size ∧ (cur.toList.drop off).take (n * size) = xs)

section
variable {w w' : World} {e size n : Nat} {v : Value} {xs : List Value}
theorem OwnAt.nil (w : World) (e size : Nat) : OwnAt w e size (.slice none 0 0) 0 [] := ⟨by simp, .inl ⟨rfl, rfl⟩⟩
theorem OwnAt.of_own {base : Nat} (h : w.ownsRow base e size v n xs) : OwnAt w e size v n xs := by
  refine ⟨h.1, ?_⟩
  rcases h.2 with hn | ⟨g, cap, cur, rfl, _, hh, h1, h2, h3, h4⟩
  · exact .inl hn
  · exact .inr ⟨g, 0, cap, cur, rfl, hh, h1, h2, by omega, by rw [List.drop_zero]; exact h4⟩
theorem OwnAt.form (h : OwnAt w e size v n xs) : ∃ A c, v = .slice A n c := by
  rcases h.2 with ⟨rfl, rfl⟩ | ⟨g, off, cap, cur, rfl, _⟩
  · exact ⟨_, _, rfl⟩
  · exact ⟨_, _, rfl⟩
theorem OwnAt.upd {S : Nat → Prop} (h : OwnAt w e size v n xs) (hu : Upd S w w') (hS : ∀ k, v.ownBlock = some k → ¬ S k) : OwnAt w' e size v n xs := by
  refine ⟨h.1, ?_⟩
  rcases h.2 with hn | ⟨g, off, cap, cur, rfl, hb, rest⟩
  · exact .inl hn
  · exact .inr ⟨g, off, cap, cur, rfl, hb.upd hu (hS g rfl), rest⟩
theorem OwnAt.grows (h : OwnAt w e size v n xs) (hg : Grows w w') : OwnAt w' e size v n xs := h.upd (S := fun _ => False) (Upd.of_grows hg) (fun _ _ h => h)
theorem OwnAt.blk_ne {t g : Nat} {cs : Array Value} (h : OwnAt w e size v n xs) (hg : Blk w g t cs) (hne : e ≠ t) : v.ownBlock ≠ some g := by
  rcases h.2 with ⟨rfl, _⟩ | ⟨g', off, cap, cur, rfl, hb, _⟩
  · simp [Value.ownBlock]
  · intro he
    have : g' = g := by simpa [Value.ownBlock] using he
    subst this
    exact Blk.ne_ hb hg hne rfl
theorem OwnAt.blk (h : OwnAt w e size v n xs) {k : Nat} (hk : v.ownBlock = some k) : ∃ cur, Blk w k e cur := by
  rcases h.2 with ⟨rfl, _⟩ | ⟨g', off, cap, cur, rfl, hb, _⟩
  · simp [Value.ownBlock] at hk
  · have : g' = k := by simpa [Value.ownBlock] using hk
    subst this
    exact ⟨cur, hb⟩
theorem OwnAt.lt (h : OwnAt w e size v n xs) {k : Nat} (hk : v.ownBlock = some k) : k < w.heap.size := by
  obtain ⟨cur, hb⟩ := h.blk hk
  exact hb.lt
theorem OwnAt.rd {A : Option Addr} {c : Nat} (h : OwnAt w e size (.slice A n c) n xs) : Rd w size A n xs := by
  refine ⟨h.1, fun hn => ?_⟩
  rcases h.2 with ⟨_, h0⟩ | ⟨g, off, cap, cur, hv, hb, h1, h2, h3, h4⟩
  · omega
  · injection hv with hv1 _ _
    subst hv1
    refine ⟨g, off, rfl, fun j u hu => ?_⟩
    rw [hb.cell, ← Array.getElem?_toList]
    rw [← h4, List.getElem?_take] at hu
    split at hu
    · rwa [List.getElem?_drop] at hu
    · cases hu

/-- s[1:]. -/
theorem OwnAt.tail {A : Option Addr} {c : Nat} (h : OwnAt w e size (.slice A n c) n xs) (hn : 0 < n) :
    ∃ b o, A = some ⟨b, o, none⟩ ∧ 1 ≤ c ∧ OwnAt w e size (.slice (if c = 1 then some ⟨b, o, none⟩ else some ⟨b, o + size, none⟩) (n - 1) (c - 1)) (n - 1) (xs.drop size) := by
  rcases h.2 with ⟨_, h0⟩ | ⟨g, off, cap, cur, hv, hb, h1, h2, h3, h4⟩
  · omega
  · injection hv with hv1 _ hv2
    subst hv1; subst hv2
    have hl : (xs.drop size).length = (n - 1) * size := by rw [List.length_drop, h.1, Nat.sub_mul, Nat.one_mul]
    have hcs : (c - 1) * size + size = c * size := by rw [← Nat.succ_mul]; congr 1; omega
    have hns : (n - 1) * size + size = n * size := by rw [← Nat.succ_mul]; congr 1; omega
    refine ⟨g, off, rfl, by omega, hl, .inr ?_⟩
    by_cases hc : c = 1
    · have hn1 : n = 1 := by omega
      subst hn1; subst hc
      exact ⟨g, off, 0, cur, rfl, hb, by omega, by omega, by omega, by
        rw [List.eq_nil_of_length_eq_zero (l := xs.drop size) (by rw [hl]; simp)]; simp⟩
    · rw [if_neg hc]
      refine ⟨g, off + size, c - 1, cur, rfl, hb, by omega, by omega, by omega, ?_⟩
      rw [← h4, List.drop_take, List.drop_drop]
      congr 1
      omega

theorem Blk.setCells_ {g t : Nat} : ∀ {vs : List Value} {o : Nat} {w : World} {cs : Array Value}, Blk w g t cs → o + vs.length ≤ cs.size → Blk (w.setCells g o vs) g t (cs.toList.take o ++ vs ++ cs.toList.drop (o + vs.length)).toArray
  | [], o, w, cs, h, _ => by
    show Blk w g t _
    simpa using h
  | u :: vs, o, w, cs, h, hl => by
    have hl' : o + (vs.length + 1) ≤ cs.size := by simpa using hl
    have h1 := h.set_ o u
    have h2 := Blk.setCells_ (vs := vs) (o := o + 1) h1 (by simp; omega)
    have ho : o < cs.toList.length := by simp; omega
    have e : ((cs.setIfInBounds o u).toList.take (o + 1) ++ vs ++ (cs.setIfInBounds o u).toList.drop (o + 1 + vs.length)) = (cs.toList.take o ++ u :: vs ++ cs.toList.drop (o + (u :: vs).length)) := by
      rw [Array.toList_setIfInBounds, List.take_set, List.drop_set_of_lt (by omega), List.take_succ_eq_append_getElem ho, List.length_cons, show o + 1 + vs.length = o + (vs.length + 1) by omega]
      have hlen : (cs.toList.take o).length = o := by rw [List.length_take]; omega
      rw [List.set_append_right _ _ (by omega), hlen]
      simp
    rw [e] at h2
    exact h2
theorem Upd.setCells_ (g : Nat) : ∀ (vs : List Value) (o : Nat) (w : World), Upd (fun k => k = g) w (w.setCells g o vs)
  | [], _, w => Upd.refl _ w
  | u :: vs, o, w => (Upd.setCell (S := fun k => k = g) w (p := ⟨g, o, none⟩) (fun _ => rfl) u).trans (Upd.setCells_ g vs (o + 1) _)

/-- one cell set. -/
theorem OwnAt.set_ {_A : Option Addr} {c g off : Nat} (h : OwnAt w e size (.slice (some ⟨g, off, none⟩) n c) n xs) (j : Nat) (_hj : j < n * size) (u : Value) :
    OwnAt (w.setCell ⟨g, off + j, none⟩ u) e size (.slice (some ⟨g, off, none⟩) n c) n (xs.set j u) := by
  refine ⟨by rw [List.length_set]; exact h.1, ?_⟩
  rcases h.2 with ⟨hx, _⟩ | ⟨g', off', cap, cur, hv, hb, h1, h2, h3, h4⟩
  · cases hx
  · injection hv with hv1 _ hv2
    injection hv1 with hv1
    injection hv1 with hv1 hv3
    subst hv1; subst hv2; subst hv3
    refine .inr ⟨g, off, c, _, rfl, hb.set_ (off + j) u, h1, h2, by simpa using h3, ?_⟩
    rw [Array.toList_setIfInBounds, List.drop_set, if_neg (by omega), show off + j - off = j by omega, List.take_set, h4]
end
section
variable {P : Program}
/-- append onto such a row. -/
theorem run_append_at {w : World} (t ty e : TypeId) (i : TypeInfo) (z : Value) (size bytes : Nat) (ht : P.underlying t = some (.slice e)) (hi : P.info? e = some i) (hz : i.zero = some z)
    (hsize : i.size = size) (hby : i.bytes = bytes) (hzs : z.cells.size = size) (hsz : 0 < size)
    (v : Value) (n : Nat) (xs : List Value) (hown : OwnAt w e size v n xs)
    (a : Addr) (m c : Nat) (news : List Value) (hl : news.length = m * size) (hnews : ∀ j u, news[j]? = some u → w.cell? (a.add j) = some u) (h1 : ∀ u ∈ news, u.oneCell' = true)
    (h63 : n + m ≤ maxLen) (hbytes : (n + m) * bytes ≤ 140737488355328) :
    ∃ A cap w', (Builtin.append_ #[t, t] ty #[v, .slice (some a) m c]).run P w = .ok (.slice A (n + m) cap) w' ∧ OwnAt w' e size (.slice A (n + m) cap) (n + m) (xs ++ news) ∧ w.grownBy w' v.ownBlock ∧
      ((Value.slice A (n + m) cap).ownBlock = v.ownBlock ∨ (Value.slice A (n + m) cap).ownBlock = some w.heap.size) := by
  rcases id hown.2 with ⟨rfl, rfl⟩ | ⟨g, off, cap, cur, rfl, hb, hnc, hcm, hcs, htk⟩
  · have hx : xs = [] := List.eq_nil_of_length_eq_zero (by simpa using hown.1)
    subst hx
    obtain ⟨v', w', hr, h2, h3, _, h5⟩ := run_append_own_at (P := P) w 0 t ty e i z size bytes ht hi hz hsize hby hzs hsz (.slice none 0 0) 0 [] (World.ownsRow_nil _ _ _ _) a m c news hl hnews h1 h63 hbytes (Nat.zero_le _)
    obtain ⟨A, cap, rfl⟩ := own_form h2
    exact ⟨A, cap, w', hr, OwnAt.of_own h2, h3, h5⟩
  · have hlen : (xs ++ news).length = (n + m) * size := by rw [List.length_append, hown.1, hl, Nat.add_mul]
    by_cases hroom : n + m ≤ cap
    · have hfit : off + n * size + news.length ≤ cur.size := by
        have := Nat.mul_le_mul_right size hroom
        rw [Nat.add_mul] at this
        rw [hl]; omega
      subst hsize
      have hr := run_append_room_cells (P := P) w t ty e i ht hi g off n cap a m c news hl hnews h1 hroom (fun j hj => by
        rw [hb.cell, Array.getElem?_eq_getElem (by omega)]; rfl) (fun j hj => hb.frozen _)
      refine ⟨_, _, _, hr, ⟨hlen, .inr ⟨g, off, cap, _, rfl, hb.setCells_ (vs := news) (o := off + n * i.size) hfit, hroom, hcm, ?_, ?_⟩⟩, ?_, .inl rfl⟩
      · simp only [List.size_toArray, List.length_append, List.length_take, List.length_drop, Array.length_toList]
        omega
      · have hd : off ≤ (cur.toList.take (off + n * i.size)).length := by rw [List.length_take, Array.length_toList]; omega
        have ht2 : (cur.toList.take (off + n * i.size)).drop off = xs := by
          rw [← htk, List.drop_take]; congr 1; omega
        simp only []
        rw [List.append_assoc, List.drop_append_of_le_length hd, ht2, ← List.append_assoc, ← hlen, List.take_left]
      · have hu := Upd.setCells_ g news (off + n * i.size) w
        exact ⟨hu.os, hu.tape, hu.output, hu.size, fun k hk hne => hu.block k hk (fun e => hne (by rw [e]; rfl))⟩
    · have holds : ∀ j u, xs[j]? = some u → w.cell? ((⟨g, off, none⟩ : Addr).add j) = some u := fun j u hu => by
        rw [Addr.add_lit, hb.cell, ← Array.getElem?_toList]
        rw [← htk, List.getElem?_take] at hu
        split at hu
        · rwa [List.getElem?_drop] at hu
        · cases hu
      subst hsize; subst hby
      have hsmall : n + m ≤ 9223372036854775807 := by simp only [maxLen] at h63; omega
      have hr := run_append_grow (P := P) w t ty e i z ht hi hz ⟨g, off, none⟩ n cap xs hown.1 holds a m c news hl hnews (by omega) (by omega) (growslice_fits (by omega) hbytes)
      have hge := grownCap_ge w (n + m) cap e
      have hcm' : grownCap w (n + m) cap e ≤ maxLen := grownCap_le_maxLen w (n + m) cap e h63
      refine ⟨_, _, _, hr, OwnAt.of_own (base := 0) ⟨hlen, .inr ⟨w.heap.size, _, _, rfl, Nat.zero_le _, heap_alloc_new w.drew _, hge, hcm', ?_, ?_⟩⟩, ⟨rfl, rfl, rfl, by simp, fun k hk _ => heap_alloc_old w.drew _ k hk⟩, .inr rfl⟩
      · simp only [Array.size_append, List.size_toArray, size_zeroCells, hzs, hown.1, hl, ← Nat.add_mul]
        congr 1
        omega
      · simp only [Array.toList_append, List.append_assoc]
        rw [← List.append_assoc, ← hlen]
        exact List.take_left

/-- at a step of a region that draws. -/
theorem step_append_at {ops : Array Oper} {o : Oper} {a : Act} {w : World} {K : Act → World → Prop} {Q : Exit → Act → World → Prop} {E : Prop}
    (hg : o.guard = none) (s x : Operand) (t : TypeId) (hop : o.op = Op.call { callee := Callee.builtin Builtin.append, args := #[s, x], argTypes := #[t, t] })
    (e : TypeId) (i : TypeInfo) (z : Value) (size bytes : Nat) (ht : P.underlying t = some (.slice e)) (hi : P.info? e = some i) (hz : i.zero = some z)
    (hsize : i.size = size) (hby : i.bytes = bytes) (hzs : z.cells.size = size) (hsz : 0 < size)
    (v : Value) (n : Nat) (xs : List Value) (hs : a.eval s = v) (hown : OwnAt w e size v n xs)
    (ad : Addr) (m c : Nat) (news : List Value) (hx : a.eval x = .slice (some ad) m c) (hl : news.length = m * size) (hnews : ∀ j u, news[j]? = some u → w.cell? (ad.add j) = some u) (h1 : ∀ u ∈ news, u.oneCell' = true)
    (h63 : n + m ≤ maxLen) (hbytes : (n + m) * bytes ≤ 140737488355328)
    (h : ∀ A cap w', OwnAt w' e size (.slice A (n + m) cap) (n + m) (xs ++ news) → w.grownBy w' v.ownBlock → ((Value.slice A (n + m) cap).ownBlock = v.ownBlock ∨ (Value.slice A (n + m) cap).ownBlock = some w.heap.size) → K (a.put o.dst (.slice A (n + m) cap)) w') :
    if Region.wanted o (yielded ops a.tmps) = true then Oper.wp P o a w K Q else E := by
  have hw : Region.wanted o (yielded ops a.tmps) = true := by simp [Region.wanted, hg]
  rw [if_pos hw]
  obtain ⟨A, cap, w', hr, h2, h3, h5⟩ := run_append_at (P := P) t o.type e i z size bytes ht hi hz hsize hby hzs hsz v n xs hown ad m c news hl hnews h1 h63 hbytes
  unfold Oper.wp execOp
  simp only [hop, resolve, invoke, builtin, Sem.run_bind, Sem.run_pure, Result.andThen_ok, List.map_toArray, List.map_cons, List.map_nil, hs, hx, hr]
  exact h A cap w' h2 h3 h5
/-- in a plain region's list. -/
theorem wpList_append_at {ops : Array Oper} {rest : List Oper} {o : Oper} {a : Act} {w : World} {Q : Exit → Act → World → Prop}
    (hg : o.guard = none) (s x : Operand) (t : TypeId) (hop : o.op = Op.call { callee := Callee.builtin Builtin.append, args := #[s, x], argTypes := #[t, t] })
    (e : TypeId) (i : TypeInfo) (z : Value) (size bytes : Nat) (ht : P.underlying t = some (.slice e)) (hi : P.info? e = some i) (hz : i.zero = some z)
    (hsize : i.size = size) (hby : i.bytes = bytes) (hzs : z.cells.size = size) (hsz : 0 < size)
    (v : Value) (n : Nat) (xs : List Value) (hs : a.eval s = v) (hown : OwnAt w e size v n xs)
    (ad : Addr) (m c : Nat) (news : List Value) (hx : a.eval x = .slice (some ad) m c) (hl : news.length = m * size) (hnews : ∀ j u, news[j]? = some u → w.cell? (ad.add j) = some u) (h1 : ∀ u ∈ news, u.oneCell' = true)
    (h63 : n + m ≤ maxLen) (hbytes : (n + m) * bytes ≤ 140737488355328)
    (h : ∀ A cap w', OwnAt w' e size (.slice A (n + m) cap) (n + m) (xs ++ news) → w.grownBy w' v.ownBlock → ((Value.slice A (n + m) cap).ownBlock = v.ownBlock ∨ (Value.slice A (n + m) cap).ownBlock = some w.heap.size) → wpList P ops Q rest (a.put o.dst (.slice A (n + m) cap)) w') :
    wpList P ops Q (o :: rest) a w := by
  refine wpList_plain hg fun K hK => ?_
  obtain ⟨A, cap, w', hr, h2, h3, h5⟩ := run_append_at (P := P) t o.type e i z size bytes ht hi hz hsize hby hzs hsz v n xs hown ad m c news hl hnews h1 h63 hbytes
  unfold Oper.wp execOp
  simp only [hop, resolve, invoke, builtin, Sem.run_bind, Sem.run_pure, Result.andThen_ok, List.map_toArray, List.map_cons, List.map_nil, hs, hx, hr]
  exact hK _ _ (h A cap w' h2 h3 h5)
end
end Go.Proofs.Ytkogmpeodamdgaa
