/-
  Slices: reading, a row that is owned, append in place, clear, one element deleted: plain laws over any program.
-/
import Derived.Test.YtkogmpeodamdgaaBase
import Derived.Laws.CopyRow
import Derived.Laws.IdiomCopy
import Derived.Laws.CopyOwn
import Derived.Tactics
namespace Go.Proofs.Ytkogmpeodamdgaa
open Go.RowKit

/-- a slice value of n elements, 'size' cells each, that reads as these cells. -/
def Rd (w : World) (size : Nat) (A : Option Addr) (n : Nat) (xs : List Value) : Prop :=
  xs.length = n * size ∧ (0 < n → ∃ b o, A = some ⟨b, o, none⟩ ∧ ∀ j u, xs[j]? = some u → w.cell? ⟨b, o + j, none⟩ = some u)
theorem Rd.grows {w w' : World} {size n : Nat} {A : Option Addr} {xs : List Value} (h : Rd w size A n xs) (hg : Grows w w') : Rd w' size A n xs :=
  ⟨h.1, fun hn => by obtain ⟨b, o, ha, hc⟩ := h.2 hn; exact ⟨b, o, ha, fun j u hu => hg.cell (hc j u hu)⟩⟩
theorem Rd.of_own {w : World} {base e c n size : Nat} {A : Option Addr} {xs : List Value} (h : w.ownsRow base e size (.slice A n c) n xs) : Rd w size A n xs := by
  refine ⟨h.1, fun hn => ?_⟩
  obtain ⟨g, cap, hv, _, hlt⟩ := h.form hn
  have hA : A = some ⟨g, 0, none⟩ := by injection hv
  subst hA
  refine ⟨g, 0, rfl, fun i u hi => ?_⟩
  have := h.cells (g := g) rfl i u hi
  rw [Nat.zero_add]
  simpa [Addr.add_lit] using this
theorem Rd.one {w : World} {n : Nat} {A : Option Addr} {xs : List Value} (h : Rd w 1 A n xs) : Rd1 w A n xs :=
  ⟨by have := h.1; omega, fun hn => by obtain ⟨b, o, ha, hc⟩ := h.2 hn; exact ⟨b, o, ha, fun i hi => hc i _ (List.getElem?_eq_getElem hi)⟩⟩
theorem Rd.none_len {w : World} {n size : Nat} {xs : List Value} (h : Rd w size none n xs) : n = 0 := by
  rcases Nat.eq_zero_or_pos n with e | e
  · exact e
  · obtain ⟨_, _, h, _⟩ := h.2 e; cases h
/-- its cells, as what is appended. -/
theorem Rd.news {w : World} {n size : Nat} {ad : Addr} {xs : List Value} (h : Rd w size (some ad) n xs) : ∀ j u, xs[j]? = some u → w.cell? (ad.add j) = some u := by
  intro j u hu
  have hn : 0 < n := by
    rcases Nat.eq_zero_or_pos n with e | e
    · subst e
      have h0 : xs = [] := List.eq_nil_of_length_eq_zero (by simpa using h.1)
      subst h0; simp at hu
    · exact e
  obtain ⟨b, o, ha, hc⟩ := h.2 hn
  injection ha with ha
  subst ha
  rw [Addr.add_lit]
  exact hc j u hu

section
variable {P : Program}

theorem Blk.setRow {w : World} {g t : Nat} {cs : Array Value} (h : Blk w g t cs) (cs' : Array Value) : Blk (w.setRow g cs') g t cs' := setRow_heap w g cs cs' t (0, 0) h
theorem Upd.setRow_ {S : Nat → Prop} {w w' : World} (h : Upd S w w') {g : Nat} (hg : S g) (cs : Array Value) : Upd S w (w'.setRow g cs) :=
  h.trans ⟨rfl, rfl, rfl, by simp, fun k _ hs => setRow_other w' g k cs fun e => by subst e; exact hs hg⟩

/-- append in place, at the head of a row that is known whole, as a step of a region that draws. -/
theorem step_append_row {ops : Array Oper} {o : Oper} {a : Act} {w : World} {K : Act → World → Prop} {Q : Exit → Act → World → Prop} {E : Prop}
    (hg : o.guard = none) (s x : Operand) (t : TypeId) (hop : o.op = Op.call { callee := Callee.builtin Builtin.append, args := #[s, x], argTypes := #[t, t] })
    (e : TypeId) (i : TypeInfo) (size : Nat) (ht : P.underlying t = some (.slice e)) (hi : P.info? e = some i) (hsz : i.size = size)
    (g n cap : Nat) (cur : Array Value) (hs : a.eval s = .slice (some ⟨g, 0, none⟩) n cap) (hb : Blk w g e cur)
    (ad : Addr) (m c : Nat) (news : List Value) (hx : a.eval x = .slice (some ad) m c) (hn : news.length = m * size) (hc : ∀ j u, news[j]? = some u → w.cell? (ad.add j) = some u) (h1c : ∀ u ∈ news, u.oneCell' = true)
    (hroom : n + m ≤ cap) (hfit : n * size + news.length ≤ cur.size)
    (hK : K (a.put o.dst (.slice (some ⟨g, 0, none⟩) (n + m) cap)) (w.setRow g (cur.toList.take (n * size) ++ news ++ cur.toList.drop (n * size + news.length)).toArray)) :
    if Region.wanted o (yielded ops a.tmps) = true then Oper.wp P o a w K Q else E := by
  have hw : Region.wanted o (yielded ops a.tmps) = true := by simp [Region.wanted, hg]
  rw [if_pos hw]
  subst hsz
  have hrun := run_append_room (P := P) w t o.type e i ht hi g n cap cur hb ad m c news hn hc h1c hroom hfit
  unfold Oper.wp
  simp only [execOp, hop, resolve, invoke, builtin, Sem.run_bind, Sem.run_pure, Result.andThen_ok, List.map_toArray, List.map_cons, List.map_nil, hs, hx, hrun]
  exact hK

theorem zeroCells_one {z : Value} : (Builtin.zeroCells z.cells 1).toList = z.cells.toList := by
  apply List.ext_getElem
  · simp [Builtin.zeroCells]
  · intro i h1 h2
    have hs : i < z.cells.size := by simpa using h2
    simp [Builtin.zeroCells, Nat.mod_eq_of_lt hs, hs]

/-- clear of one element in a row that is known whole. -/
theorem run_clear_one (w : World) (t e ty : TypeId) (z : Value) (ht : P.underlying t = some (.slice e)) (hv : (zeroValue e).run P w = .ok z w) (h1 : ∀ u ∈ z.cells.toList, u.oneCell' = true)
    (g off c : Nat) (cur : Array Value) (hb : Blk w g e cur) (hfit : off + z.cells.size ≤ cur.size) :
    (Builtin.clear_ #[t] ty #[.slice (some ⟨g, off, none⟩) 1 c]).run P w = .ok (.tuple #[]) (w.setRow g (cur.toList.take off ++ z.cells.toList ++ cur.toList.drop (off + z.cells.size)).toArray) := by
  have hst := run_storeCells_at P g off e (Builtin.zeroCells z.cells 1).toList 0 cur w hb (by rw [zeroCells_one]; simpa using hfit) (by rw [zeroCells_one]; exact h1)
  rw [zeroCells_one] at hst
  simp only [Nat.add_zero, Array.length_toList] at hst
  simp [Builtin.clear_, run_underlying ht, hv, zeroCells_one, hst]

/-- cells with one element of k cells out. -/
def cut1 {α : Type} (k i : Nat) (xs : List α) : List α := xs.take (i * k) ++ xs.drop ((i + 1) * k)

theorem cut1_length {α : Type} {k i n : Nat} {xs : List α} (h : xs.length = n * k) (hi : i < n) : (cut1 k i xs).length = (n - 1) * k := by
  unfold cut1
  have h1 : (i + 1) * k ≤ n * k := Nat.mul_le_mul_right _ (by omega)
  have h2 : (i + 1) * k = i * k + k := Nat.succ_mul i k
  have h3 : (n - 1) * k + k = n * k := by rw [← Nat.succ_mul]; congr 1; omega
  rw [List.length_append, List.length_take, List.length_drop, h]
  omega

/-- the row behind the append and the clear. -/
theorem own_deleted {w w' : World} {base e size n cap g i : Nat} {xs zs : List Value} {cur : Array Value} (hown : w.ownsRow base e size (.slice (some ⟨g, 0, none⟩) n cap) n xs) (hb : Blk w g e cur) (hi : i < n)
    (hz : zs.length = size)
    (hb' : Blk w' g e (let c1 := (cur.toList.take (i * size) ++ xs.drop ((i + 1) * size) ++ cur.toList.drop (i * size + (xs.drop ((i + 1) * size)).length)); (c1.take ((n - 1) * size) ++ zs ++ c1.drop ((n - 1) * size + size)).toArray)) :
    w'.ownsRow base e size (.slice (some ⟨g, 0, none⟩) (n - 1) cap) (n - 1) (cut1 size i xs) := by
  rcases hown.2 with ⟨hx, _⟩ | ⟨g', cap', cur', hv, hbase, hh, hncap, hcm, hcs, htk⟩
  · cases hx
  injection hv with hv1 _ hv2
  injection hv1 with hv1
  injection hv1 with hv1
  subst hv1; subst hv2
  obtain rfl : cur = cur' := (Blk.inj (t := e) (t' := e) hb hh).2
  have hlen := hown.1
  have hxl : xs.drop ((i + 1) * size) = (cur.toList.take (n * size)).drop ((i + 1) * size) := by rw [htk]
  have e1 : (i + 1) * size = i * size + size := Nat.succ_mul i size
  have e2 : (n - 1) * size + size = n * size := by rw [← Nat.succ_mul]; congr 1; omega
  have e3 : (i + 1) * size ≤ n * size := Nat.mul_le_mul_right _ (by omega)
  have e4 : n * size ≤ cap * size := Nat.mul_le_mul_right _ hncap
  have hxi : xs.take (i * size) = cur.toList.take (i * size) := by rw [← htk, List.take_take, Nat.min_eq_left (by omega)]
  have hc1 : cur.toList.length = cap * size := by simpa using hcs
  have hcl : (cut1 size i xs).length = (n - 1) * size := cut1_length hlen hi
  refine ⟨hcl, .inr ⟨g, cap, _, rfl, hbase, hb', by omega, hcm, ?_, ?_⟩⟩
  · simp only [List.size_toArray, List.length_append, List.length_take, List.length_drop, hc1, hlen, hz]
    omega
  · dsimp only
    have hpre : (cur.toList.take (i * size) ++ xs.drop ((i + 1) * size)) = cut1 size i xs := by unfold cut1; rw [hxi]
    rw [hpre, List.append_assoc, List.take_append_of_le_length (by rw [List.length_take, List.length_append, hcl]; omega), List.take_take, Nat.min_self, List.take_append_of_le_length (by omega), List.take_of_length_le (by omega)]

theorem zeroCells_many {z : Value} (n : Nat) : (Builtin.zeroCells z.cells n).toList.length = n * z.cells.size := by simp [Builtin.zeroCells]
theorem zeroCells_oneCell {z : Value} (n : Nat) (h1 : ∀ u ∈ z.cells.toList, u.oneCell' = true) : ∀ u ∈ (Builtin.zeroCells z.cells n).toList, u.oneCell' = true := by
  intro u hu
  simp only [Builtin.zeroCells, Array.toList_map, List.mem_map] at hu
  obtain ⟨i, hi, rfl⟩ := hu
  have hi' : i < n * z.cells.size := by simpa using hi
  have hpos : 0 < z.cells.size := by
    rcases Nat.eq_zero_or_pos z.cells.size with e | e
    · rw [e] at hi'; omega
    · exact e
  rw [getElem!_pos z.cells (i % z.cells.size) (Nat.mod_lt _ hpos)]
  exact h1 _ (by simp)

/-- clear of n elements in a row that is known whole. -/
theorem run_clear_many (w : World) (t e ty : TypeId) (z : Value) (ht : P.underlying t = some (.slice e)) (hv : (zeroValue e).run P w = .ok z w) (h1 : ∀ u ∈ z.cells.toList, u.oneCell' = true)
    (g off n c : Nat) (cur : Array Value) (hn : 0 < n) (hb : Blk w g e cur) (hfit : off + n * z.cells.size ≤ cur.size) :
    (Builtin.clear_ #[t] ty #[.slice (some ⟨g, off, none⟩) n c]).run P w = .ok (.tuple #[]) (w.setRow g (cur.toList.take off ++ (Builtin.zeroCells z.cells n).toList ++ cur.toList.drop (off + n * z.cells.size)).toArray) := by
  have hst := run_storeCells_at P g off e (Builtin.zeroCells z.cells n).toList 0 cur w hb (by rw [zeroCells_many]; simpa using hfit) (zeroCells_oneCell n h1)
  rw [zeroCells_many] at hst
  simp only [Nat.add_zero] at hst
  obtain ⟨m, rfl⟩ : ∃ m, n = m + 1 := ⟨n - 1, by omega⟩
  simp [Builtin.clear_, run_underlying ht, hv, hst]

/-- an owned row that is cut to its first m elements. -/
theorem own_cut {w : World} {base e size n cap m g : Nat} {zs : List Value} {cur : Array Value} (hb : Blk w g e cur) (hbase : base ≤ g) (hmn : m ≤ n) (hn : n ≤ cap) (hcm : cap ≤ maxLen) (hcs : cur.size = cap * size) (hz : cur.toList.take (m * size) = zs) :
    w.ownsRow base e size (.slice (some ⟨g, 0, none⟩) m cap) m zs := by
  have h1 : m * size ≤ cap * size := Nat.mul_le_mul_right _ (by omega)
  refine ⟨by rw [← hz, List.length_take, Array.length_toList, hcs, Nat.min_eq_left h1], .inr ⟨g, cap, cur, rfl, hbase, hb, by omega, hcm, hcs, hz⟩⟩
end
end Go.Proofs.Ytkogmpeodamdgaa
