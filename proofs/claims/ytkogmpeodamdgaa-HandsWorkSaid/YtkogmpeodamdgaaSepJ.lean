/-
  SEP: rows opened and shut; one element deleted, in cells. Plain theorems; own text.
-/
import Derived.Test.YtkogmpeodamdgaaSepI
namespace Go.Proofs.Ytkogmpeodamdgaa
open Go Go.RowKit
section
variable {P : Program} {n : Nat} {e : Ext} {R : Exit → Act → World → Prop} {k : List It} {L : Slots} {A A' : List SP}
/-- what is known of a row that lies open. -/
structure RowF (off c : Nat) (cur : List Value) (s m : Nat) (xs : List Value) : Prop where
  le : m ≤ c
  max : c ≤ maxLen
  fit : off + c * s ≤ cur.length
  cells : (cur.drop off).take (m * s) = xs
  len : xs.length = m * s
theorem go_row_open {v : Value} {t s m : Nat} {xs : List Value} (hm : 0 < m) (g : ∀ gg off c cur, v = .slice (some ⟨gg, off, none⟩) m c → RowF off c cur s m xs → Run P n e R k L (pts gg t cur :: A)) : Run P n e R k L (row v t s m xs :: A) := .mk fun a w f sat => by
  obtain ⟨h1, h, hw, x, y, c, ha, hb, ⟨q0, q⟩, r⟩ := sat
  rcases q with ⟨_, q1⟩ | ⟨gg, off, cap, cur, q1, q2, q3, q4, q5, q6⟩
  · omega
  · refine (g gg off cap cur.toList q1 ⟨q2, q3, by simpa using q4, q5, q0⟩).run a w f ⟨h1, h, hw, x, y, c, ha, hb, ?_, r⟩
    simpa [own] using q6
theorem row_shut {gg off c t s m : Nat} {cur xs : List Value} (h : RowF off c cur s m xs) : Ent (pts gg t cur :: A) (row (.slice (some ⟨gg, off, none⟩) m c) t s m xs :: A) :=
  Ent.one fun x q => ⟨h.len, .inr ⟨gg, off, c, cur.toArray, rfl, h.le, h.max, by simpa using h.fit, h.cells, q⟩⟩
theorem RowF.get {off c s m : Nat} {cur xs : List Value} (h : RowF off c cur s m xs) {j : Nat} {u : Value} (hu : xs[j]? = some u) : cur[off + j]? = some u := by
  rw [← h.cells, List.getElem?_take] at hu
  split at hu
  · rwa [List.getElem?_drop] at hu
  · cases hu
end
/-- one element out, the rest moved up, the last one cleared. -/
theorem RowF.del {off c s m i : Nat} {cur xs zs : List Value} (h : RowF off c cur s m xs) (hi : i < m) (hz : zs.length = 1 * s) :
    RowF off c (((cur.take (off + i * s) ++ xs.drop ((i + 1) * s) ++ cur.drop (off + i * s + (xs.drop ((i + 1) * s)).length))).take (off + (m - 1) * s) ++ zs ++ ((cur.take (off + i * s) ++ xs.drop ((i + 1) * s) ++ cur.drop (off + i * s + (xs.drop ((i + 1) * s)).length))).drop (off + (m - 1) * s + 1 * s)) s (m - 1) (cut1 s i xs) := by
  obtain ⟨h1, h2, h3, h4, h5⟩ := h
  have e1 : (i + 1) * s = i * s + s := Nat.succ_mul i s
  have e2 : (m - 1) * s + s = m * s := by rw [← Nat.succ_mul]; congr 1; omega
  have e3 : (i + 1) * s ≤ m * s := Nat.mul_le_mul_right _ (by omega)
  have e4 : m * s ≤ c * s := Nat.mul_le_mul_right _ h1
  have e5 : 1 * s = s := Nat.one_mul s
  generalize hc1 : cur.take (off + i * s) ++ xs.drop ((i + 1) * s) ++ cur.drop (off + i * s + (xs.drop ((i + 1) * s)).length) = c1
  have hl1 : c1.length = cur.length := by
    rw [← hc1]; simp only [List.length_append, List.length_take, List.length_drop, h5]; omega
  have hcl : (cut1 s i xs).length = (m - 1) * s := cut1_length h5 hi
  have hd : (c1.drop off).take ((m - 1) * s) = cut1 s i xs := by
    have hx : xs.take (i * s) = (cur.drop off).take (i * s) := by rw [← h4, List.take_take, Nat.min_eq_left (by omega)]
    have : c1.drop off = cut1 s i xs ++ cur.drop (off + i * s + (xs.drop ((i + 1) * s)).length) := by
      rw [← hc1, List.append_assoc, List.drop_append_of_le_length (by rw [List.length_take]; omega), List.drop_take, show off + i * s - off = i * s by omega, ← hx, ← List.append_assoc]
      rfl
    rw [this, List.take_append_of_le_length (by omega), List.take_of_length_le (by omega)]
  refine ⟨by omega, h2, ?_, ?_, hcl⟩
  · simp only [List.length_append, List.length_take, List.length_drop, hl1]; omega
  · rw [List.append_assoc, List.drop_append_of_le_length (by rw [List.length_take]; omega), List.drop_take, show off + (m - 1) * s - off = (m - 1) * s by omega, hd, List.take_append_of_le_length (by omega), List.take_of_length_le (by omega)]
theorem cut1_flat {α : Type} {f : α → List Value} {s : Nat} (hf : ∀ x, (f x).length = s) (l : List α) (i : Nat) : cut1 s i (l.flatMap f) = (l.eraseIdx i).flatMap f := by
  have tk : ∀ (l : List α) (i : Nat), (l.flatMap f).take (i * s) = (l.take i).flatMap f := by
    intro l
    induction l with
    | nil => intro i; simp
    | cons x l ih =>
      intro i
      cases i with
      | zero => simp
      | succ i => rw [List.flatMap_cons, List.take_succ_cons, List.flatMap_cons, ← ih, Nat.succ_mul, Nat.add_comm, ← hf x, List.take_length_add_append]
  have dp : ∀ (l : List α) (i : Nat), (l.flatMap f).drop (i * s) = (l.drop i).flatMap f := by
    intro l
    induction l with
    | nil => intro i; simp
    | cons x l ih =>
      intro i
      cases i with
      | zero => simp
      | succ i => rw [List.flatMap_cons, List.drop_succ_cons, ← ih, Nat.succ_mul, Nat.add_comm, ← hf x, List.drop_length_add_append]
  unfold cut1
  rw [tk, dp, ← List.flatMap_append, List.eraseIdx_eq_take_drop_succ]
theorem flat_len {α : Type} {f : α → List Value} {s : Nat} (hf : ∀ x, (f x).length = s) : ∀ l : List α, (l.flatMap f).length = l.length * s
  | [] => by simp
  | x :: l => by rw [List.flatMap_cons, List.length_append, hf, flat_len hf l, List.length_cons, Nat.succ_mul]; omega
theorem flat_get {α : Type} {f : α → List Value} {s : Nat} (hf : ∀ x, (f x).length = s) : ∀ (l : List α) (i j : Nat) (hi : i < l.length), j < s → (l.flatMap f)[i * s + j]? = (f l[i])[j]?
  | [], i, _, hi, _ => absurd hi (by simp)
  | x :: xs, 0, j, _, hj => by
    rw [List.flatMap_cons, Nat.zero_mul, Nat.zero_add, List.getElem?_append_left (by rw [hf]; exact hj)]; rfl
  | x :: xs, i + 1, j, hi, hj => by
    have h1 : (i + 1) * s = s + i * s := by rw [Nat.succ_mul]; omega
    rw [List.flatMap_cons, List.getElem?_append_right (by rw [hf, h1]; omega), hf, show (i + 1) * s + j - s = i * s + j by omega]
    exact flat_get hf xs i j (by simpa using hi) hj
theorem flat_seg {α : Type} {f : α → List Value} {s : Nat} (hf : ∀ x, (f x).length = s) (l : List α) (i : Nat) (hi : i < l.length) : Seg (l.flatMap f) (i * s) s (f l[i]) := ⟨hf _, fun j hj => flat_get hf l i j hi hj⟩
end Go.Proofs.Ytkogmpeodamdgaa
