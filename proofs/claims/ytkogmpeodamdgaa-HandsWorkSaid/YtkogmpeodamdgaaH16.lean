/-
  The law HandsWork of 23: what the hands do in it, in plain words. Conditions: none.
-/
import Derived.Test.YtkogmpeodamdgaaH15
namespace Go.Proofs.Ytkogmpeodamdgaa
open Go Go.RowKit
set_option maxRecDepth 100000
abbrev pid3 : Id3 := (fB, xB, 3)
def nm (j : Nat) : ByteArray := ⟨#[(97 + j).toUInt8]⟩
def names (n : Nat) : List ByteArray := (List.range n).map nm
def keysN (n : Nat) : List Key2 := (List.range n).map fun j => (fB, nm j)
def St (L : List ByteArray) (ks : List Key2) : HSt := ⟨[(pid3, L.map fun t => (t, false))], [pid3], ks⟩
abbrev W6 (i : Nat) : HSt := St (names i) (keysN i)
abbrev itm (i : Nat) : List Item3 := [(nm i, 4607182418800017408, 0)]
theorem w_launch (i : Nat) (h : i < 6) : hearF 14 pid3 eB (itm i) (W6 i) = ([], W6 (i + 1)) ∧ hearF 14 pid3 eB (itm i) (W6 (i + 1)) = ([], W6 (i + 1)) := by
  obtain rfl | rfl | rfl | rfl | rfl | rfl : i = 0 ∨ i = 1 ∨ i = 2 ∨ i = 3 ∨ i = 4 ∨ i = 5 := by omega
  all_goals exact ⟨by kernel_rfl, by kernel_rfl⟩
theorem w_end (n k : Nat) (h : n ≤ 6) (hk : k < n) : hearF 15 pid3 (nm k) [] (W6 n) = ([⟨8, pid3, nm k, 5⟩], St ((names n).eraseIdx k) (keysN n)) ∧ hearF 15 pid3 (nm k) [] (St ((names n).eraseIdx k) (keysN n)) = ([], St ((names n).eraseIdx k) (keysN n)) := by
  obtain rfl | rfl | rfl | rfl | rfl | rfl : n = 1 ∨ n = 2 ∨ n = 3 ∨ n = 4 ∨ n = 5 ∨ n = 6 := by omega
  all_goals obtain rfl | rfl | rfl | rfl | rfl | rfl : k = 0 ∨ k = 1 ∨ k = 2 ∨ k = 3 ∨ k = 4 ∨ k = 5 := by omega
  all_goals first | omega | exact ⟨by kernel_rfl, by kernel_rfl⟩
/-- after so many steps. -/
def R6 (L : List ByteArray) (ks : List Key2) (i : Nat) : HSt := ⟨[(pid3, match L.drop (i / 2) with
  | [] => []
  | t :: r => (t, decide (i % 2 = 1)) :: r.map fun t => (t, false))], [pid3], ks⟩
theorem r_zero (L : List ByteArray) (ks : List Key2) : R6 L ks 0 = St L ks := by
  unfold R6 St
  cases L <;> rfl
theorem r_step (L : List ByteArray) (ks : List Key2) (i : Nat) (h : i / 2 < L.length) : (stepsF (R6 L ks i).procs, stepS (R6 L ks i)) = ([⟨8, pid3, L[i / 2], if i % 2 = 1 then 3 else 2⟩], R6 L ks (i + 1)) := by
  have hd := List.drop_eq_getElem_cons h
  rcases Nat.mod_two_eq_zero_or_one i with h0 | h0
  · have e1 : (i + 1) / 2 = i / 2 := by omega
    have e2 : (i + 1) % 2 = 1 := by omega
    unfold R6 stepS stepsF
    rw [e1, hd, h0, e2]
    rfl
  · have e1 : (i + 1) / 2 = i / 2 + 1 := by omega
    have e2 : (i + 1) % 2 = 0 := by omega
    unfold R6 stepS stepsF
    rw [e1, hd, h0, e2]
    cases L.drop (i / 2 + 1) <;> rfl
def E6 (ks : List Key2) : HSt := ⟨[], [pid3], ks⟩
theorem r_stop (L : List ByteArray) (ks : List Key2) (i : Nat) : hearF 16 pid3 eB [] (R6 L ks i) = ([⟨9, pid3, eB, 0⟩], E6 ks) := rfl
theorem e_gone (ks : List Key2) : hearF 17 pid3 eB [] (E6 ks) = ([], E6 ks) := rfl
theorem e_start (ks : List Key2) : hearF 13 pid3 eB [] (E6 ks) = ([], E6 ks) := rfl
theorem names_len (n : Nat) : (names n).length = n := by simp [names]
theorem keysN_len (n : Nat) : (keysN n).length = n := by simp [keysN]
theorem r_ok (L : List ByteArray) (ks : List Key2) (i : Nat) (hL : L.length ≤ 6) (hk : ks.length ≤ 6) : (R6 L ks i).procs.length ≤ 1000000 ∧ (R6 L ks i).keys.length ≤ 1000000 ∧ ∀ x ∈ (R6 L ks i).procs, x.2.length ≤ 1000000 := by
  refine ⟨by simp [R6], by simp [R6]; omega, ?_⟩
  intro x hx
  simp only [R6, List.mem_singleton] at hx
  subst hx
  simp only
  have : (L.drop (i / 2)).length ≤ 6 := by simp; omega
  cases hd : L.drop (i / 2) with
  | nil => simp
  | cons t r => rw [hd] at this; simp at this ⊢; omega
theorem st_ok (L : List ByteArray) (ks : List Key2) (hL : L.length ≤ 6) (hk : ks.length ≤ 6) : (St L ks).procs.length ≤ 1000000 ∧ (St L ks).keys.length ≤ 1000000 ∧ ∀ x ∈ (St L ks).procs, x.2.length ≤ 1000000 := by
  rw [← r_zero]; exact r_ok L ks 0 hL hk
theorem e_ok (ks : List Key2) (hk : ks.length ≤ 6) : (E6 ks).procs.length ≤ 1000000 ∧ (E6 ks).keys.length ≤ 1000000 ∧ ∀ x ∈ (E6 ks).procs, x.2.length ≤ 1000000 := ⟨by simp [E6], by simp [E6]; omega, by simp [E6]⟩
/-- the letter cut out. -/
theorem letter (i : Nat) (h : i < 6) : ((⟨#[97, 98, 99, 100, 101, 102]⟩ : ByteArray).extract i 6).extract 0 1 = nm i := by
  obtain rfl | rfl | rfl | rfl | rfl | rfl : i = 0 ∨ i = 1 ∨ i = 2 ∨ i = 3 ∨ i = 4 ∨ i = 5 := by omega
  all_goals kernel_rfl
/-- the closure that makes messages. -/
theorem mk42_t (k : Int) : Tri Try.prog 42 [.int .i64 k] [] fun v post => v = .agg (inL ⟨k, fB, xB, eB, 3, 0, 0, 0⟩ (.slice none 0 0)).toArray ∧ post = [] := by
  refine tri_enter Try.func42 Try.ntmps42 rfl rfl fun e F => ?_
  (repeat' first | (apply go_guard_yes; exact rfl) | (apply go_guard_no; exact rfl; exact rfl; exact rfl) | apply go_seq | apply go_region | apply go_nil | apply go_skip | apply go_block | apply go_blk | (apply go_exit; exact rfl) | ((first | apply go_read | apply go_read0d); (first | (apply y_move <;> exact rfl) | (apply y_assign <;> exact rfl) | (apply y_nilCheck <;> exact rfl) | (apply y_fieldAddr0 <;> exact rfl) | (apply y_fieldAddr <;> exact rfl) | (apply y_load; exact rfl; (first | (apply var_s; exact rfl; exact rfl; focus ((focus (repeat' first | exact cell_own rfl | exact cell_shr rfl | exact cell_own (by assumption) | exact cell_shr (by assumption) | (apply reads_cell <;> assumption) | apply cell_there)); done)) | (apply var_a; exact rfl; exact rfl; focus ((focus (repeat' first | (apply cells_own; focus (apply Seg.lit; (repeat' constructor); done)) | (apply cells_shr; focus (apply Seg.lit; (repeat' constructor); done)) | (apply cells_own; assumption) | (apply cells_shr; assumption) | (apply reads_cells <;> assumption) | apply cells_there)); done)))) | (apply y_lt <;> exact rfl) | (apply y_le <;> exact rfl) | (apply y_gt <;> exact rfl) | (apply y_ge <;> exact rfl) | (apply y_eqi <;> exact rfl) | (apply y_nei <;> exact rfl) | (apply y_eqs <;> exact rfl) | (apply y_nes <;> exact rfl) | (apply y_len_slice <;> exact rfl) | (apply y_len_string <;> exact rfl) | (apply y_cap_slice <;> exact rfl) | (apply y_extract <;> exact rfl) | (apply y_add; exact rfl; exact rfl; (first | exact rfl | (refine i64_wrap ?_; omega))) | (apply y_sub; exact rfl; exact rfl; (first | exact rfl | (refine i64_wrap ?_; omega))) | (apply y_indexAddr; exact rfl; exact rfl; exact rfl; exact rfl; exact rfl; omega) | (apply y_build; (focus (repeat first | exact evp_nil | (apply evp_cons; exact rfl))); exact rfl; exact rfl; exact .agg; (focus (repeat' constructor))) | (apply y_notp <;> exact rfl) | (apply y_not <;> exact rfl) | (apply y_pick_t <;> exact rfl) | (apply y_pick_f <;> exact rfl) | (apply y_makeFunc; (focus (repeat first | exact evs_nil | (apply evs_cons; exact rfl)))) | (apply y_from; exact rfl; exact rfl; exact rfl; exact rfl; exact rfl; omega; omega) | (apply y_to; exact rfl; exact rfl; exact rfl; exact rfl; exact rfl; omega) | (apply y_cut; exact rfl; exact rfl; exact rfl; exact rfl; exact rfl; exact rfl; omega) | (apply y_cut3; exact rfl; exact rfl; exact rfl; exact rfl; exact rfl; exact rfl; exact rfl; omega) | (apply y_sfrom; exact rfl; exact rfl; exact rfl; exact rfl; omega) | (apply y_sto; exact rfl; exact rfl; exact rfl; exact rfl; omega) | (apply y_lts <;> exact rfl) | (apply y_cats; exact rfl; exact rfl; omega) | (apply y_rem; exact rfl; exact rfl; (first | exact rfl | assumption); (first | exact rfl | (refine i64_wrap ?_; omega))) | (apply y_quo; exact rfl; exact rfl; (first | exact rfl | assumption); (first | exact rfl | (refine i64_wrap ?_; omega))) | (apply y_mul; exact rfl; exact rfl; (first | exact rfl | (refine i64_wrap ?_; omega))) | (apply y_eqb <;> exact rfl) | (apply y_neb <;> exact rfl) | (apply y_isnil <;> exact rfl) | (apply y_ispnil <;> exact rfl) | (apply y_eqst; exact rfl; exact rfl; kernel_rfl; assumption) | (apply y_nest; exact rfl; exact rfl; kernel_rfl; assumption)); exact rfl) | (apply go_box; exact rfl; (first | exact .agg | exact .one rfl); exact rfl; intro b) | (apply go_alloc; exact rfl; (first | exact .agg | exact .one rfl); exact rfl; intro b) | (apply go_makeMap; exact rfl; intro b) | (apply go_store; exact rfl; exact rfl; (first | exact .agg | exact .one rfl); exact rfl; exact rfl; exact rfl; (focus (repeat' first | exact Pick.here | apply Pick.there)); (focus (repeat' constructor))) | (apply go_lit; (focus (repeat first | exact evp_nil | (apply evp_cons; exact rfl))); exact rfl; exact rfl; exact rfl; (first | exact .agg | exact .one rfl); exact rfl; exact rfl; exact rfl; (focus (repeat' constructor)); exact rfl; intro b) | (apply go_cond_t; exact rfl) | (apply go_cond_f; exact rfl))
  (apply go_ret; (first | (apply res_tmp; exact rfl; exact rfl) | (apply res_tmp2; exact rfl; exact rfl; exact rfl) | (apply res_cell; exact rfl; exact rfl; (first | (apply var_s; exact rfl; exact rfl; focus ((focus (repeat' first | exact cell_own rfl | exact cell_shr rfl | exact cell_own (by assumption) | exact cell_shr (by assumption) | (apply reads_cell <;> assumption) | apply cell_there)); done)) | (apply var_a; exact rfl; exact rfl; focus ((focus (repeat' first | (apply cells_own; focus (apply Seg.lit; (repeat' constructor); done)) | (apply cells_shr; focus (apply Seg.lit; (repeat' constructor); done)) | (apply cells_own; assumption) | (apply cells_shr; assumption) | (apply reads_cells <;> assumption) | apply cells_there)); done)))) | (apply res_cell_tmp; exact rfl; exact rfl; (first | (apply var_s; exact rfl; exact rfl; focus ((focus (repeat' first | exact cell_own rfl | exact cell_shr rfl | exact cell_own (by assumption) | exact cell_shr (by assumption) | (apply reads_cell <;> assumption) | apply cell_there)); done)) | (apply var_a; exact rfl; exact rfl; focus ((focus (repeat' first | (apply cells_own; focus (apply Seg.lit; (repeat' constructor); done)) | (apply cells_shr; focus (apply Seg.lit; (repeat' constructor); done)) | (apply cells_own; assumption) | (apply cells_shr; assumption) | (apply reads_cells <;> assumption) | apply cells_there)); done))); exact rfl) | (apply res_none; exact rfl)))
  · exact ⟨rfl, rfl⟩
  · (repeat' first | exact Ent.refl _ | (apply Ent.pick; focus ((focus (repeat' first | exact Pick.here | apply Pick.there)); done)) | apply entd)
end Go.Proofs.Ytkogmpeodamdgaa
