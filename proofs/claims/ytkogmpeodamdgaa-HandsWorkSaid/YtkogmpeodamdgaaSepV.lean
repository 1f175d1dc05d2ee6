/-
  SEP: parts of a slice that is read; an append of any length. Plain theorems; own text.
-/
import Derived.Test.YtkogmpeodamdgaaSepN
namespace Go.Proofs.Ytkogmpeodamdgaa
open Go Go.RowKit
section
variable {P : Program} {n : Nat} {e : Ext} {L : Slots} {A : List SP} {x y : Operand} {t : TypeId} {ty : TypeId} {s m c0 : Nat} {xs : List Value} {X : SP}
theorem reads_take {B : Option Addr} {q k : Nat} (h : Reads X B s q xs) (hk : k ≤ q) : Reads X B s k (xs.take (k * s)) := fun hh hx => by
  obtain ⟨h1, h2⟩ := h hh hx
  have hm := Nat.mul_le_mul_right s hk
  refine ⟨by rw [List.length_take, h1]; omega, fun h0 => ?_⟩
  obtain ⟨g, off, c, t, fz, b, h3, h4, h5⟩ := h2 (by omega)
  refine ⟨g, off, c, t, fz, b, h3, h4, fun j u hj => h5 j u ?_⟩
  rw [List.getElem?_take] at hj
  split at hj
  · exact hj
  · cases hj
theorem reads_from {g off c q k : Nat} {lo : Int} (h : Reads X (some ⟨g, off, none⟩) s q xs) (hlo : lo.toNat = k) (hk : k ≤ q) (hc : q ≤ c) {z : Nat} (hz : z = s) :
    Reads X (if c = lo.toNat then some ⟨g, off, none⟩ else (some (⟨g, off, none⟩ : Addr)).map (·.add (lo.toNat * z))) s (q - lo.toNat) (xs.drop (k * s)) := fun hh hx => by
  subst hlo hz
  obtain ⟨h1, h2⟩ := h hh hx
  refine ⟨by rw [List.length_drop, h1, Nat.sub_mul], fun h0 => ?_⟩
  obtain ⟨g', off', c', t, fz, b, h3, h4, h5⟩ := h2 (by omega)
  injection h3 with h3
  injection h3 with h3 h6
  subst h3 h6
  rw [if_neg (by omega)]
  refine ⟨g, off + lo.toNat * z, c', t, fz, b, by simp [Addr.add], h4, fun j u hj => ?_⟩
  rw [List.getElem?_drop] at hj
  have := h5 _ u hj
  rwa [Nat.add_assoc]
theorem o_append_any [HasTab P] {i j : TyI} {el : TypeId} {q c' : Nat} {B B0 : Option Addr} {news : List Value} (h : ev L x = some (.slice B0 m c0)) (hy : ev L y = some (.slice B q c')) (ht : HasTab.tab P t = some i) (hd : i.desc = .slice el) (hj : HasTab.tab P el = some j) (hz : Nat.beq j.zero.cells.size j.size = true) (hpos : Nat.blt 0 j.size = true)
    (hs : j.size = s) (hX : Reads X B s q news) (hlen : news.length = q * s) (h1 : ∀ u ∈ news, u.oneCell' = true) (h63 : m + q ≤ maxLen) (hb : (m + q) * j.bytes ≤ 140737488355328) :
    OpR P e (.call { callee := .builtin .append, args := #[x, y], argTypes := #[t, t] }) ty L (row (.slice B0 m c0) el s m xs :: X :: A) (fun u post => ∃ D cap, u = .slice D (m + q) cap ∧ post = row (.slice D (m + q) cap) el s (m + q) (xs ++ news) :: X :: A) := by
  rcases Nat.eq_zero_or_pos q with rfl | hq
  · have : news = [] := List.eq_nil_of_length_eq_zero (by rw [hlen, Nat.zero_mul])
    subst this
    refine (o_append0 h hy ht hd hj).mono ?_
    rintro u post ⟨rfl, rfl⟩
    exact ⟨B0, c0, rfl, by rw [List.append_nil]; rfl⟩
  · exact o_append h hy ht hd hj hz hpos hs hX h1 h63 hb hq
theorem row_cap {B : Option Addr} {t : TypeId} {c : Nat} {hh : PH} (h : row (.slice B m c) t s m xs hh) : m ≤ c := by
  rcases h.2 with ⟨h1, h0⟩ | ⟨g, off, cap, cur, hv, _, hmc, _⟩
  · injection h1 with _ h2 h3; omega
  · injection hv with _ _ h3; omega
end
end Go.Proofs.Ytkogmpeodamdgaa
