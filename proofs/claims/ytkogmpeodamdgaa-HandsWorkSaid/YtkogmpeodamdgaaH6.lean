/-
  The hands of 23: launching, the walk. Conditions: sizes that a machine bears.
-/
import Derived.Test.YtkogmpeodamdgaaH5
namespace Go.Proofs.Ytkogmpeodamdgaa
open Go Go.RowKit
set_option maxRecDepth 100000
theorem enter104 : Enters Try.prog 104 := enters_ Try.func104 (by kernel_rfl) rfl
/-- what launch has of the memory. -/
def launL (c : Nat) (v mp v2 : Value) (ks : List Key2) (pb : Nat) (id : Id3) (xv : Value) (ts : List Task2) : List SP :=
  [pts c 131 [v, mp, v2], row v2 30 2 ks.length (ks.flatMap keyL), pts pb 144 [.string id.1, .string id.2.1, .int .i64 id.2.2, xv], row xv 176 2 ts.length (ts.flatMap taskL)]
theorem tasks_one (l : List Task2) : ∀ u ∈ l.flatMap taskL, u.oneCell' = true := by
  intro u hu
  obtain ⟨m, _, h⟩ := List.mem_flatMap.1 hu
  simp only [taskL, List.mem_cons, List.not_mem_nil, or_false] at h
  rcases h with rfl | rfl <;> rfl
set_option maxHeartbeats 4000000 in
theorem launch_t (c : Nat) (v mp v2 : Value) (ks : List Key2) (pb : Nat) (id : Id3) (xv : Value) (ts : List Task2) (ls : List Item3) (B : Option Addr) (n cc : Nat) (X : SP) (hX : Reads X B 2 n (ls.flatMap itemL)) (hn : n ≤ 1000) (hk : ks.length ≤ 1000000) (ht : ts.length ≤ 1000000) :
    Tri Try.prog 79 [.pointer (some ⟨c, 0, none⟩), .pointer (some ⟨pb, 0, none⟩), .slice B n cc] (launL c v mp v2 ks pb id xv ts ++ [X]) fun u post => u = .tuple #[] ∧ ∃ v2' xv', post = launL c v mp v2' (launchF id.1 ls (ks, ts)).1 pb id xv' (launchF id.1 ls (ks, ts)).2 ++ [X] := by
  refine tri_enter Try.func79 Try.ntmps79 rfl rfl fun e F => ?_
  refine go_ent (entr1 (.there (.there (.there (.there .here)))) (Ent.refl _)) ?_
  refine go_head (ls.length = n) (fun h hh => by have h1 := (hX h hh).1; rw [flat_len itemL_len] at h1; omega) fun hl => ?_
  (repeat' first | (apply go_guard_yes; exact rfl) | (apply go_guard_no; exact rfl; exact rfl; exact rfl) | apply go_seq | apply go_region | apply go_nil | apply go_skip | apply go_block | apply go_blk | (apply go_exit; exact rfl) | ((first | apply go_read | apply go_read0d); (first | (apply y_move <;> exact rfl) | (apply y_assign <;> exact rfl) | (apply y_nilCheck <;> exact rfl) | (apply y_fieldAddr0 <;> exact rfl) | (apply y_fieldAddr <;> exact rfl) | (apply y_load; exact rfl; (first | (apply var_s; exact rfl; exact rfl; focus ((focus (repeat' first | exact cell_own rfl | exact cell_shr rfl | exact cell_own (by assumption) | exact cell_shr (by assumption) | (apply reads_cell <;> assumption) | apply cell_there)); done)) | (apply var_a; exact rfl; exact rfl; focus ((focus (repeat' first | (apply cells_own; focus (apply Seg.lit; (repeat' constructor); done)) | (apply cells_shr; focus (apply Seg.lit; (repeat' constructor); done)) | (apply cells_own; assumption) | (apply cells_shr; assumption) | (apply reads_cells <;> assumption) | apply cells_there)); done)))) | (apply y_lt <;> exact rfl) | (apply y_le <;> exact rfl) | (apply y_gt <;> exact rfl) | (apply y_ge <;> exact rfl) | (apply y_eqi <;> exact rfl) | (apply y_nei <;> exact rfl) | (apply y_eqs <;> exact rfl) | (apply y_nes <;> exact rfl) | (apply y_len_slice <;> exact rfl) | (apply y_len_string <;> exact rfl) | (apply y_cap_slice <;> exact rfl) | (apply y_extract <;> exact rfl) | (apply y_add; exact rfl; exact rfl; (first | exact rfl | (refine i64_wrap ?_; omega))) | (apply y_sub; exact rfl; exact rfl; (first | exact rfl | (refine i64_wrap ?_; omega))) | (apply y_indexAddr; exact rfl; exact rfl; exact rfl; exact rfl; exact rfl; omega) | (apply y_build; (focus (repeat first | exact evp_nil | (apply evp_cons; exact rfl))); exact rfl; exact rfl; exact .agg; (focus (repeat' constructor))) | (apply y_notp <;> exact rfl) | (apply y_not <;> exact rfl) | (apply y_pick_t <;> exact rfl) | (apply y_pick_f <;> exact rfl) | (apply y_makeFunc; (focus (repeat first | exact evs_nil | (apply evs_cons; exact rfl)))) | (apply y_from; exact rfl; exact rfl; exact rfl; exact rfl; exact rfl; omega; omega) | (apply y_to; exact rfl; exact rfl; exact rfl; exact rfl; exact rfl; omega) | (apply y_cut; exact rfl; exact rfl; exact rfl; exact rfl; exact rfl; exact rfl; omega) | (apply y_cut3; exact rfl; exact rfl; exact rfl; exact rfl; exact rfl; exact rfl; exact rfl; omega) | (apply y_sfrom; exact rfl; exact rfl; exact rfl; exact rfl; omega) | (apply y_sto; exact rfl; exact rfl; exact rfl; exact rfl; omega) | (apply y_lts <;> exact rfl) | (apply y_cats; exact rfl; exact rfl; omega) | (apply y_rem; exact rfl; exact rfl; (first | exact rfl | assumption); (first | exact rfl | (refine i64_wrap ?_; omega))) | (apply y_quo; exact rfl; exact rfl; (first | exact rfl | assumption); (first | exact rfl | (refine i64_wrap ?_; omega))) | (apply y_mul; exact rfl; exact rfl; (first | exact rfl | (refine i64_wrap ?_; omega))) | (apply y_eqb <;> exact rfl) | (apply y_neb <;> exact rfl) | (apply y_isnil <;> exact rfl) | (apply y_ispnil <;> exact rfl) | (apply y_eqst; exact rfl; exact rfl; kernel_rfl; assumption) | (apply y_nest; exact rfl; exact rfl; kernel_rfl; assumption)); exact rfl) | (apply go_box; exact rfl; (first | exact .agg | exact .one rfl); exact rfl; intro b) | (apply go_alloc; exact rfl; (first | exact .agg | exact .one rfl); exact rfl; intro b) | (apply go_makeMap; exact rfl; intro b) | (apply go_store; exact rfl; exact rfl; (first | exact .agg | exact .one rfl); exact rfl; exact rfl; exact rfl; (focus (repeat' first | exact Pick.here | apply Pick.there)); (focus (repeat' constructor))) | (apply go_lit; (focus (repeat first | exact evp_nil | (apply evp_cons; exact rfl))); exact rfl; exact rfl; exact rfl; (first | exact .agg | exact .one rfl); exact rfl; exact rfl; exact rfl; (focus (repeat' constructor)); exact rfl; intro b) | (apply go_cond_t; exact rfl) | (apply go_cond_f; exact rfl))
  refine go_loop (α := Nat × Value × Value) (fun a => n - a.1) (fun a => a.1 ≤ n) (fun a => [(0, .pointer (some ⟨c, 0, none⟩)), (1, .pointer (some ⟨pb, 0, none⟩)), (9, .slice B n cc), (10, .int .i64 n), (11, .int .i64 a.1)])
    (fun a => X :: (launL c v mp a.2.1 (launchF id.1 (ls.take a.1) (ks, ts)).1 pb id a.2.2 (launchF id.1 (ls.take a.1) (ks, ts)).2 ++ F)) (0, v2, xv) (Nat.zero_le _) ⟨rfl, rfl, rfl, rfl, rfl, trivial⟩ (Ent.refl _) ?_
  rintro ⟨i, v2, xv⟩ hi
  simp only at hi
  have hlen := launchF_len id.1 (ls.take i) (ks, ts)
  have htk : (ls.take i).length ≤ i := List.length_take_le _ _
  simp only at hlen
  (repeat' first | (apply go_guard_yes; exact rfl) | (apply go_guard_no; exact rfl; exact rfl; exact rfl) | apply go_seq | apply go_region | apply go_nil | apply go_skip | apply go_block | apply go_blk | (apply go_exit; exact rfl) | ((first | apply go_read | apply go_read0d); (first | (apply y_move <;> exact rfl) | (apply y_assign <;> exact rfl) | (apply y_nilCheck <;> exact rfl) | (apply y_fieldAddr0 <;> exact rfl) | (apply y_fieldAddr <;> exact rfl) | (apply y_load; exact rfl; (first | (apply var_s; exact rfl; exact rfl; focus ((focus (repeat' first | exact cell_own rfl | exact cell_shr rfl | exact cell_own (by assumption) | exact cell_shr (by assumption) | (apply reads_cell <;> assumption) | apply cell_there)); done)) | (apply var_a; exact rfl; exact rfl; focus ((focus (repeat' first | (apply cells_own; focus (apply Seg.lit; (repeat' constructor); done)) | (apply cells_shr; focus (apply Seg.lit; (repeat' constructor); done)) | (apply cells_own; assumption) | (apply cells_shr; assumption) | (apply reads_cells <;> assumption) | apply cells_there)); done)))) | (apply y_lt <;> exact rfl) | (apply y_le <;> exact rfl) | (apply y_gt <;> exact rfl) | (apply y_ge <;> exact rfl) | (apply y_eqi <;> exact rfl) | (apply y_nei <;> exact rfl) | (apply y_eqs <;> exact rfl) | (apply y_nes <;> exact rfl) | (apply y_len_slice <;> exact rfl) | (apply y_len_string <;> exact rfl) | (apply y_cap_slice <;> exact rfl) | (apply y_extract <;> exact rfl) | (apply y_add; exact rfl; exact rfl; (first | exact rfl | (refine i64_wrap ?_; omega))) | (apply y_sub; exact rfl; exact rfl; (first | exact rfl | (refine i64_wrap ?_; omega))) | (apply y_indexAddr; exact rfl; exact rfl; exact rfl; exact rfl; exact rfl; omega) | (apply y_build; (focus (repeat first | exact evp_nil | (apply evp_cons; exact rfl))); exact rfl; exact rfl; exact .agg; (focus (repeat' constructor))) | (apply y_notp <;> exact rfl) | (apply y_not <;> exact rfl) | (apply y_pick_t <;> exact rfl) | (apply y_pick_f <;> exact rfl) | (apply y_makeFunc; (focus (repeat first | exact evs_nil | (apply evs_cons; exact rfl)))) | (apply y_from; exact rfl; exact rfl; exact rfl; exact rfl; exact rfl; omega; omega) | (apply y_to; exact rfl; exact rfl; exact rfl; exact rfl; exact rfl; omega) | (apply y_cut; exact rfl; exact rfl; exact rfl; exact rfl; exact rfl; exact rfl; omega) | (apply y_cut3; exact rfl; exact rfl; exact rfl; exact rfl; exact rfl; exact rfl; exact rfl; omega) | (apply y_sfrom; exact rfl; exact rfl; exact rfl; exact rfl; omega) | (apply y_sto; exact rfl; exact rfl; exact rfl; exact rfl; omega) | (apply y_lts <;> exact rfl) | (apply y_cats; exact rfl; exact rfl; omega) | (apply y_rem; exact rfl; exact rfl; (first | exact rfl | assumption); (first | exact rfl | (refine i64_wrap ?_; omega))) | (apply y_quo; exact rfl; exact rfl; (first | exact rfl | assumption); (first | exact rfl | (refine i64_wrap ?_; omega))) | (apply y_mul; exact rfl; exact rfl; (first | exact rfl | (refine i64_wrap ?_; omega))) | (apply y_eqb <;> exact rfl) | (apply y_neb <;> exact rfl) | (apply y_isnil <;> exact rfl) | (apply y_ispnil <;> exact rfl) | (apply y_eqst; exact rfl; exact rfl; kernel_rfl; assumption) | (apply y_nest; exact rfl; exact rfl; kernel_rfl; assumption)); exact rfl) | (apply go_box; exact rfl; (first | exact .agg | exact .one rfl); exact rfl; intro b) | (apply go_alloc; exact rfl; (first | exact .agg | exact .one rfl); exact rfl; intro b) | (apply go_makeMap; exact rfl; intro b) | (apply go_store; exact rfl; exact rfl; (first | exact .agg | exact .one rfl); exact rfl; exact rfl; exact rfl; (focus (repeat' first | exact Pick.here | apply Pick.there)); (focus (repeat' constructor))) | (apply go_lit; (focus (repeat first | exact evp_nil | (apply evp_cons; exact rfl))); exact rfl; exact rfl; exact rfl; (first | exact .agg | exact .one rfl); exact rfl; exact rfl; exact rfl; (focus (repeat' constructor)); exact rfl; intro b) | (apply go_cond_t; exact rfl) | (apply go_cond_f; exact rfl))
  refine go_condp rfl ?_ ?_
  · intro hlt
    have hil : i < ls.length := by omega
    have hsn := launchF_snoc id.1 (ls.take i) ls[i] (ks, ts)
    rw [← List.take_succ_eq_append_getElem hil] at hsn
    generalize hS : launchF id.1 (ls.take i) (ks, ts) = S at hsn hlen
    obtain ⟨k2, t2⟩ := S
    simp only at hsn hlen
    refine go_head _ (reads_some hX (by omega)) ?_
    rintro ⟨g0, off, rfl⟩
    have hseg := flat_seg itemL_len ls i hil
    refine go_ent (entr3 (.there (.there .here)) .here .here) (go_row_form fun B3 c3 hv => ?_)
    simp only at hv hlt
    subst hv
    refine go_ent (entr3 (.there (.there (.there (.there .here)))) .here .here) (go_row_form fun B4 c4 hv => ?_)
    simp only at hv
    subst hv
    simp only
    (repeat' first | (apply go_guard_yes; exact rfl) | (apply go_guard_no; exact rfl; exact rfl; exact rfl) | apply go_seq | apply go_region | apply go_nil | apply go_skip | apply go_block | apply go_blk | (apply go_exit; exact rfl) | ((first | apply go_read | apply go_read0d); (first | (apply y_move <;> exact rfl) | (apply y_assign <;> exact rfl) | (apply y_nilCheck <;> exact rfl) | (apply y_fieldAddr0 <;> exact rfl) | (apply y_fieldAddr <;> exact rfl) | (apply y_load; exact rfl; (first | (apply var_s; exact rfl; exact rfl; focus ((focus (repeat' first | exact cell_own rfl | exact cell_shr rfl | exact cell_own (by assumption) | exact cell_shr (by assumption) | (apply reads_cell <;> assumption) | apply cell_there)); done)) | (apply var_a; exact rfl; exact rfl; focus ((focus (repeat' first | (apply cells_own; focus (apply Seg.lit; (repeat' constructor); done)) | (apply cells_shr; focus (apply Seg.lit; (repeat' constructor); done)) | (apply cells_own; assumption) | (apply cells_shr; assumption) | (apply reads_cells <;> assumption) | apply cells_there)); done)))) | (apply y_lt <;> exact rfl) | (apply y_le <;> exact rfl) | (apply y_gt <;> exact rfl) | (apply y_ge <;> exact rfl) | (apply y_eqi <;> exact rfl) | (apply y_nei <;> exact rfl) | (apply y_eqs <;> exact rfl) | (apply y_nes <;> exact rfl) | (apply y_len_slice <;> exact rfl) | (apply y_len_string <;> exact rfl) | (apply y_cap_slice <;> exact rfl) | (apply y_extract <;> exact rfl) | (apply y_add; exact rfl; exact rfl; (first | exact rfl | (refine i64_wrap ?_; omega))) | (apply y_sub; exact rfl; exact rfl; (first | exact rfl | (refine i64_wrap ?_; omega))) | (apply y_indexAddr; exact rfl; exact rfl; exact rfl; exact rfl; exact rfl; omega) | (apply y_build; (focus (repeat first | exact evp_nil | (apply evp_cons; exact rfl))); exact rfl; exact rfl; exact .agg; (focus (repeat' constructor))) | (apply y_notp <;> exact rfl) | (apply y_not <;> exact rfl) | (apply y_pick_t <;> exact rfl) | (apply y_pick_f <;> exact rfl) | (apply y_makeFunc; (focus (repeat first | exact evs_nil | (apply evs_cons; exact rfl)))) | (apply y_from; exact rfl; exact rfl; exact rfl; exact rfl; exact rfl; omega; omega) | (apply y_to; exact rfl; exact rfl; exact rfl; exact rfl; exact rfl; omega) | (apply y_cut; exact rfl; exact rfl; exact rfl; exact rfl; exact rfl; exact rfl; omega) | (apply y_cut3; exact rfl; exact rfl; exact rfl; exact rfl; exact rfl; exact rfl; exact rfl; omega) | (apply y_sfrom; exact rfl; exact rfl; exact rfl; exact rfl; omega) | (apply y_sto; exact rfl; exact rfl; exact rfl; exact rfl; omega) | (apply y_lts <;> exact rfl) | (apply y_cats; exact rfl; exact rfl; omega) | (apply y_rem; exact rfl; exact rfl; (first | exact rfl | assumption); (first | exact rfl | (refine i64_wrap ?_; omega))) | (apply y_quo; exact rfl; exact rfl; (first | exact rfl | assumption); (first | exact rfl | (refine i64_wrap ?_; omega))) | (apply y_mul; exact rfl; exact rfl; (first | exact rfl | (refine i64_wrap ?_; omega))) | (apply y_eqb <;> exact rfl) | (apply y_neb <;> exact rfl) | (apply y_isnil <;> exact rfl) | (apply y_ispnil <;> exact rfl) | (apply y_eqst; exact rfl; exact rfl; kernel_rfl; assumption) | (apply y_nest; exact rfl; exact rfl; kernel_rfl; assumption)); exact rfl) | (apply go_box; exact rfl; (first | exact .agg | exact .one rfl); exact rfl; intro b) | (apply go_alloc; exact rfl; (first | exact .agg | exact .one rfl); exact rfl; intro b) | (apply go_makeMap; exact rfl; intro b) | (apply go_store; exact rfl; exact rfl; (first | exact .agg | exact .one rfl); exact rfl; exact rfl; exact rfl; (focus (repeat' first | exact Pick.here | apply Pick.there)); (focus (repeat' constructor))) | (apply go_lit; (focus (repeat first | exact evp_nil | (apply evp_cons; exact rfl))); exact rfl; exact rfl; exact rfl; (first | exact .agg | exact .one rfl); exact rfl; exact rfl; exact rfl; (focus (repeat' constructor)); exact rfl; intro b) | (apply go_cond_t; exact rfl) | (apply go_cond_f; exact rfl))
    apply go_drawn 9 [⟨[], [], Det _⟩, ⟨[], [], Det _⟩, ⟨[], [], Det _⟩, ⟨[], [], Det _⟩, ⟨[], [], Det _⟩, ⟨[], [], Det _⟩, ⟨[], [], Det _⟩, ⟨[], [], Det _⟩, ⟨[], [], fun v B => ∃ b8, v = .pointer (some ⟨b8, 0, none⟩) ∧ B = [pts b8 30 [.string ⟨#[]⟩, .string ⟨#[]⟩]]⟩] (pts b 72 (itemL ls[i]) :: row (.slice B4 t2.length c4) 176 2 t2.length (t2.flatMap taskL) :: row (.slice B3 k2.length c3) 30 2 k2.length (k2.flatMap keyL) :: X :: pts c 131 [v, mp, .slice B3 k2.length c3] :: pts pb 144 [.string id.1, .string id.2.1, .int .i64 id.2.2, .slice B4 t2.length c4] :: F)
    · kernel_rfl
    · kernel_rfl
    · exact rfl
    · exact Ent.refl _
    · refine ⟨?_, ?_, ?_, ?_, ?_, ?_, ?_, ?_, ?_, trivial⟩
      · refine opok (deps := []) (q := 0) (ts := [1]) (by kernel_rfl) (by kernel_rfl) (by kernel_rfl) rfl ?_
        refine need_nil ?_
        apply od
        · (apply y_move <;> exact rfl)
        · exact ⟨[], ⟨rfl, rfl⟩, rfl⟩
      · refine opok (deps := [(0, 15)]) (q := 1) (ts := [15]) (by kernel_rfl) (by kernel_rfl) (by kernel_rfl) rfl ?_
        refine need_cons ?_; rintro v0 B0 ⟨rfl, rfl⟩
        refine need_nil ?_
        apply od
        · (apply y_nilCheck <;> exact rfl)
        · exact ⟨[], ⟨rfl, rfl⟩, rfl⟩
      · refine opok (deps := [(1, 16)]) (q := 1) (ts := [16]) (by kernel_rfl) (by kernel_rfl) (by kernel_rfl) rfl ?_
        refine need_cons ?_; rintro v0 B0 ⟨rfl, rfl⟩
        refine need_nil ?_
        apply od
        · (first | (apply y_fieldAddr0 <;> exact rfl) | (apply y_fieldAddr <;> exact rfl))
        · exact ⟨[], ⟨rfl, rfl⟩, rfl⟩
      · refine opok (deps := [(2, 17)]) (q := 1) (ts := [17]) (by kernel_rfl) (by kernel_rfl) (by kernel_rfl) rfl ?_
        refine need_cons ?_; rintro v0 B0 ⟨rfl, rfl⟩
        refine need_nil ?_
        apply od
        · (first | (apply y_fieldAddr0 <;> exact rfl) | (apply y_fieldAddr <;> exact rfl))
        · exact ⟨[], ⟨rfl, rfl⟩, rfl⟩
      · refine opok (deps := [(3, 18)]) (q := 1) (ts := [18]) (by kernel_rfl) (by kernel_rfl) (by kernel_rfl) rfl ?_
        refine need_cons ?_; rintro v0 B0 ⟨rfl, rfl⟩
        refine need_nil ?_
        apply od
        · (apply y_load; exact rfl; (first | (apply var_s; exact rfl; exact rfl; focus ((focus (repeat' first | exact cell_own rfl | exact cell_shr rfl | exact cell_own (by assumption) | exact cell_shr (by assumption) | (apply reads_cell <;> assumption) | apply cell_there)); done)) | (apply var_a; exact rfl; exact rfl; focus ((focus (repeat' first | (apply cells_own; focus (apply Seg.lit; (repeat' constructor); done)) | (apply cells_shr; focus (apply Seg.lit; (repeat' constructor); done)) | (apply cells_own; assumption) | (apply cells_shr; assumption) | (apply reads_cells <;> assumption) | apply cells_there)); done))))
        · exact ⟨[], ⟨rfl, rfl⟩, rfl⟩
      · refine opok (deps := []) (q := 0) (ts := [7]) (by kernel_rfl) (by kernel_rfl) (by kernel_rfl) rfl ?_
        refine need_nil ?_
        apply od
        · (first | (apply y_fieldAddr0 <;> exact rfl) | (apply y_fieldAddr <;> exact rfl))
        · exact ⟨[], ⟨rfl, rfl⟩, rfl⟩
      · refine opok (deps := [(5, 20)]) (q := 1) (ts := [20]) (by kernel_rfl) (by kernel_rfl) (by kernel_rfl) rfl ?_
        refine need_cons ?_; rintro v0 B0 ⟨rfl, rfl⟩
        refine need_nil ?_
        apply od
        · (apply y_load; exact rfl; (first | (apply var_s; exact rfl; exact rfl; focus ((focus (repeat' first | exact cell_own rfl | exact cell_shr rfl | exact cell_own (by assumption) | exact cell_shr (by assumption) | (apply reads_cell <;> assumption) | apply cell_there)); done)) | (apply var_a; exact rfl; exact rfl; focus ((focus (repeat' first | (apply cells_own; focus (apply Seg.lit; (repeat' constructor); done)) | (apply cells_shr; focus (apply Seg.lit; (repeat' constructor); done)) | (apply cells_own; assumption) | (apply cells_shr; assumption) | (apply reads_cells <;> assumption) | apply cells_there)); done))))
        · exact ⟨[], ⟨rfl, rfl⟩, rfl⟩
      · refine opok (deps := [(4, 19), (6, 21)]) (q := 2) (ts := [19, 21]) (by kernel_rfl) (by kernel_rfl) (by kernel_rfl) rfl ?_
        refine need_cons ?_; rintro v0 B0 ⟨rfl, rfl⟩
        refine need_cons ?_; rintro v1 B1 ⟨rfl, rfl⟩
        refine need_nil ?_
        apply od
        · (apply y_build; (focus (repeat first | exact evp_nil | (apply evp_cons; exact rfl))); exact rfl; exact rfl; exact .agg; (focus (repeat' constructor)))
        · exact ⟨[], ⟨rfl, rfl⟩, rfl⟩
      · refine opok (deps := []) (q := 0) (ts := []) (by kernel_rfl) (by kernel_rfl) (by kernel_rfl) rfl ?_
        refine need_nil ?_
        refine (o_alloc rfl .agg).mono ?_
        rintro v post ⟨b2, rfl, rfl⟩
        exact ⟨_, ⟨b2, rfl, rfl⟩, rfl⟩
    refine left_cons rfl ?_; rintro v0 B0 ⟨rfl, rfl⟩
    refine left_cons rfl ?_; rintro v1 B1 ⟨rfl, rfl⟩
    refine left_cons rfl ?_; rintro v2 B2 ⟨rfl, rfl⟩
    refine left_cons rfl ?_; rintro v3 B3 ⟨rfl, rfl⟩
    refine left_cons rfl ?_; rintro v4 B4 ⟨rfl, rfl⟩
    refine left_cons rfl ?_; rintro v5 B5 ⟨rfl, rfl⟩
    refine left_cons rfl ?_; rintro v6 B6 ⟨rfl, rfl⟩
    refine left_cons rfl ?_; rintro v7 B7 ⟨rfl, rfl⟩
    refine left_cons rfl ?_; rintro v8 B8 ⟨b8, rfl, rfl⟩
    refine left_nil ?_
    refine go_norm (L' := [(0, _), (1, _), (7, _), (8, _), (9, _), (10, _), (11, _), (22, _)]) (A' := [pts b8 30 [.string ⟨#[]⟩, .string ⟨#[]⟩]] ++ (pts b 72 (itemL ls[i]) :: row (.slice B4 t2.length c4) 176 2 t2.length (t2.flatMap taskL) :: row (.slice B3 k2.length c3) 30 2 k2.length (k2.flatMap keyL) :: X :: pts c 131 [v, mp, .slice B3 k2.length c3] :: pts pb 144 [.string id.1, .string id.2.1, .int .i64 id.2.2, .slice B4 t2.length c4] :: F)) ⟨rfl, rfl, rfl, rfl, rfl, rfl, rfl, rfl, trivial⟩ rfl ?_
    simp only [List.drop_succ_cons, List.drop_zero]

    (repeat' first | (apply go_guard_yes; exact rfl) | (apply go_guard_no; exact rfl; exact rfl; exact rfl) | apply go_seq | apply go_region | apply go_nil | apply go_skip | apply go_block | apply go_blk | (apply go_exit; exact rfl) | ((first | apply go_read | apply go_read0d); (first | (apply y_move <;> exact rfl) | (apply y_assign <;> exact rfl) | (apply y_nilCheck <;> exact rfl) | (apply y_fieldAddr0 <;> exact rfl) | (apply y_fieldAddr <;> exact rfl) | (apply y_load; exact rfl; (first | (apply var_s; exact rfl; exact rfl; focus ((focus (repeat' first | exact cell_own rfl | exact cell_shr rfl | exact cell_own (by assumption) | exact cell_shr (by assumption) | (apply reads_cell <;> assumption) | apply cell_there)); done)) | (apply var_a; exact rfl; exact rfl; focus ((focus (repeat' first | (apply cells_own; focus (apply Seg.lit; (repeat' constructor); done)) | (apply cells_shr; focus (apply Seg.lit; (repeat' constructor); done)) | (apply cells_own; assumption) | (apply cells_shr; assumption) | (apply reads_cells <;> assumption) | apply cells_there)); done)))) | (apply y_lt <;> exact rfl) | (apply y_le <;> exact rfl) | (apply y_gt <;> exact rfl) | (apply y_ge <;> exact rfl) | (apply y_eqi <;> exact rfl) | (apply y_nei <;> exact rfl) | (apply y_eqs <;> exact rfl) | (apply y_nes <;> exact rfl) | (apply y_len_slice <;> exact rfl) | (apply y_len_string <;> exact rfl) | (apply y_cap_slice <;> exact rfl) | (apply y_extract <;> exact rfl) | (apply y_add; exact rfl; exact rfl; (first | exact rfl | (refine i64_wrap ?_; omega))) | (apply y_sub; exact rfl; exact rfl; (first | exact rfl | (refine i64_wrap ?_; omega))) | (apply y_indexAddr; exact rfl; exact rfl; exact rfl; exact rfl; exact rfl; omega) | (apply y_build; (focus (repeat first | exact evp_nil | (apply evp_cons; exact rfl))); exact rfl; exact rfl; exact .agg; (focus (repeat' constructor))) | (apply y_notp <;> exact rfl) | (apply y_not <;> exact rfl) | (apply y_pick_t <;> exact rfl) | (apply y_pick_f <;> exact rfl) | (apply y_makeFunc; (focus (repeat first | exact evs_nil | (apply evs_cons; exact rfl)))) | (apply y_from; exact rfl; exact rfl; exact rfl; exact rfl; exact rfl; omega; omega) | (apply y_to; exact rfl; exact rfl; exact rfl; exact rfl; exact rfl; omega) | (apply y_cut; exact rfl; exact rfl; exact rfl; exact rfl; exact rfl; exact rfl; omega) | (apply y_cut3; exact rfl; exact rfl; exact rfl; exact rfl; exact rfl; exact rfl; exact rfl; omega) | (apply y_sfrom; exact rfl; exact rfl; exact rfl; exact rfl; omega) | (apply y_sto; exact rfl; exact rfl; exact rfl; exact rfl; omega) | (apply y_lts <;> exact rfl) | (apply y_cats; exact rfl; exact rfl; omega) | (apply y_rem; exact rfl; exact rfl; (first | exact rfl | assumption); (first | exact rfl | (refine i64_wrap ?_; omega))) | (apply y_quo; exact rfl; exact rfl; (first | exact rfl | assumption); (first | exact rfl | (refine i64_wrap ?_; omega))) | (apply y_mul; exact rfl; exact rfl; (first | exact rfl | (refine i64_wrap ?_; omega))) | (apply y_eqb <;> exact rfl) | (apply y_neb <;> exact rfl) | (apply y_isnil <;> exact rfl) | (apply y_ispnil <;> exact rfl) | (apply y_eqst; exact rfl; exact rfl; kernel_rfl; assumption) | (apply y_nest; exact rfl; exact rfl; kernel_rfl; assumption)); exact rfl) | (apply go_box; exact rfl; (first | exact .agg | exact .one rfl); exact rfl; intro b) | (apply go_alloc; exact rfl; (first | exact .agg | exact .one rfl); exact rfl; intro b) | (apply go_makeMap; exact rfl; intro b) | (apply go_store; exact rfl; exact rfl; (first | exact .agg | exact .one rfl); exact rfl; exact rfl; exact rfl; (focus (repeat' first | exact Pick.here | apply Pick.there)); (focus (repeat' constructor))) | (apply go_lit; (focus (repeat first | exact evp_nil | (apply evp_cons; exact rfl))); exact rfl; exact rfl; exact rfl; (first | exact .agg | exact .one rfl); exact rfl; exact rfl; exact rfl; (focus (repeat' constructor)); exact rfl; intro b) | (apply go_cond_t; exact rfl) | (apply go_cond_f; exact rfl))
    refine go_quiet_ (by kernel_rfl) (by kernel_rfl) ?_
    (repeat' first | apply q_nil | (apply q_guard_yes; exact rfl) | (apply q_guard_no; exact rfl; exact rfl; exact rfl) | (apply q_read; (first | (apply y_move <;> exact rfl) | (apply y_assign <;> exact rfl) | (apply y_nilCheck <;> exact rfl) | (apply y_fieldAddr0 <;> exact rfl) | (apply y_fieldAddr <;> exact rfl) | (apply y_load; exact rfl; (first | (apply var_s; exact rfl; exact rfl; focus ((focus (repeat' first | exact cell_own rfl | exact cell_shr rfl | exact cell_own (by assumption) | exact cell_shr (by assumption) | (apply reads_cell <;> assumption) | apply cell_there)); done)) | (apply var_a; exact rfl; exact rfl; focus ((focus (repeat' first | (apply cells_own; focus (apply Seg.lit; (repeat' constructor); done)) | (apply cells_shr; focus (apply Seg.lit; (repeat' constructor); done)) | (apply cells_own; assumption) | (apply cells_shr; assumption) | (apply reads_cells <;> assumption) | apply cells_there)); done)))) | (apply y_lt <;> exact rfl) | (apply y_le <;> exact rfl) | (apply y_gt <;> exact rfl) | (apply y_ge <;> exact rfl) | (apply y_eqi <;> exact rfl) | (apply y_nei <;> exact rfl) | (apply y_eqs <;> exact rfl) | (apply y_nes <;> exact rfl) | (apply y_len_slice <;> exact rfl) | (apply y_len_string <;> exact rfl) | (apply y_cap_slice <;> exact rfl) | (apply y_extract <;> exact rfl) | (apply y_add; exact rfl; exact rfl; (first | exact rfl | (refine i64_wrap ?_; omega))) | (apply y_sub; exact rfl; exact rfl; (first | exact rfl | (refine i64_wrap ?_; omega))) | (apply y_indexAddr; exact rfl; exact rfl; exact rfl; exact rfl; exact rfl; omega) | (apply y_build; (focus (repeat first | exact evp_nil | (apply evp_cons; exact rfl))); exact rfl; exact rfl; exact .agg; (focus (repeat' constructor))) | (apply y_notp <;> exact rfl) | (apply y_not <;> exact rfl) | (apply y_pick_t <;> exact rfl) | (apply y_pick_f <;> exact rfl) | (apply y_makeFunc; (focus (repeat first | exact evs_nil | (apply evs_cons; exact rfl)))) | (apply y_from; exact rfl; exact rfl; exact rfl; exact rfl; exact rfl; omega; omega) | (apply y_to; exact rfl; exact rfl; exact rfl; exact rfl; exact rfl; omega) | (apply y_cut; exact rfl; exact rfl; exact rfl; exact rfl; exact rfl; exact rfl; omega) | (apply y_cut3; exact rfl; exact rfl; exact rfl; exact rfl; exact rfl; exact rfl; exact rfl; omega) | (apply y_sfrom; exact rfl; exact rfl; exact rfl; exact rfl; omega) | (apply y_sto; exact rfl; exact rfl; exact rfl; exact rfl; omega) | (apply y_lts <;> exact rfl) | (apply y_cats; exact rfl; exact rfl; omega) | (apply y_rem; exact rfl; exact rfl; (first | exact rfl | assumption); (first | exact rfl | (refine i64_wrap ?_; omega))) | (apply y_quo; exact rfl; exact rfl; (first | exact rfl | assumption); (first | exact rfl | (refine i64_wrap ?_; omega))) | (apply y_mul; exact rfl; exact rfl; (first | exact rfl | (refine i64_wrap ?_; omega))) | (apply y_eqb <;> exact rfl) | (apply y_neb <;> exact rfl) | (apply y_isnil <;> exact rfl) | (apply y_ispnil <;> exact rfl) | (apply y_eqst; exact rfl; exact rfl; kernel_rfl; assumption) | (apply y_nest; exact rfl; exact rfl; kernel_rfl; assumption)); exact rfl))
    have hpk : Pick (pts b8 30 (keyL (id.1, ls[i].1)) :: pts b 72 (itemL ls[i]) :: row (.slice B4 t2.length c4) 176 2 t2.length (t2.flatMap taskL) :: row (.slice B3 k2.length c3) 30 2 k2.length (k2.flatMap keyL) :: X :: pts c 131 [v, mp, .slice B3 k2.length c3] :: pts pb 144 [.string id.1, .string id.2.1, .int .i64 id.2.2, .slice B4 t2.length c4] :: F) (row (.slice B3 k2.length c3) 30 2 k2.length (k2.flatMap keyL)) _ := .there (.there (.there .here))
    refine q_fn (contains104_t k2 (id.1, ls[i].1) B3 k2.length c3 _ (row_reads B3 30 2 k2.length c3 _) (by omega)) enter104 rfl (evs_cons rfl (evs_cons rfl evs_nil)) hpk.ent hpk.back rfl ?_
    apply q_nil
    refine go_cond rfl ?_ ?_
    · intro hb
      rw [if_pos hb] at hsn
      (repeat' first | (apply go_guard_yes; exact rfl) | (apply go_guard_no; exact rfl; exact rfl; exact rfl) | apply go_seq | apply go_region | apply go_nil | apply go_skip | apply go_block | apply go_blk | (apply go_exit; exact rfl) | ((first | apply go_read | apply go_read0d); (first | (apply y_move <;> exact rfl) | (apply y_assign <;> exact rfl) | (apply y_nilCheck <;> exact rfl) | (apply y_fieldAddr0 <;> exact rfl) | (apply y_fieldAddr <;> exact rfl) | (apply y_load; exact rfl; (first | (apply var_s; exact rfl; exact rfl; focus ((focus (repeat' first | exact cell_own rfl | exact cell_shr rfl | exact cell_own (by assumption) | exact cell_shr (by assumption) | (apply reads_cell <;> assumption) | apply cell_there)); done)) | (apply var_a; exact rfl; exact rfl; focus ((focus (repeat' first | (apply cells_own; focus (apply Seg.lit; (repeat' constructor); done)) | (apply cells_shr; focus (apply Seg.lit; (repeat' constructor); done)) | (apply cells_own; assumption) | (apply cells_shr; assumption) | (apply reads_cells <;> assumption) | apply cells_there)); done)))) | (apply y_lt <;> exact rfl) | (apply y_le <;> exact rfl) | (apply y_gt <;> exact rfl) | (apply y_ge <;> exact rfl) | (apply y_eqi <;> exact rfl) | (apply y_nei <;> exact rfl) | (apply y_eqs <;> exact rfl) | (apply y_nes <;> exact rfl) | (apply y_len_slice <;> exact rfl) | (apply y_len_string <;> exact rfl) | (apply y_cap_slice <;> exact rfl) | (apply y_extract <;> exact rfl) | (apply y_add; exact rfl; exact rfl; (first | exact rfl | (refine i64_wrap ?_; omega))) | (apply y_sub; exact rfl; exact rfl; (first | exact rfl | (refine i64_wrap ?_; omega))) | (apply y_indexAddr; exact rfl; exact rfl; exact rfl; exact rfl; exact rfl; omega) | (apply y_build; (focus (repeat first | exact evp_nil | (apply evp_cons; exact rfl))); exact rfl; exact rfl; exact .agg; (focus (repeat' constructor))) | (apply y_notp <;> exact rfl) | (apply y_not <;> exact rfl) | (apply y_pick_t <;> exact rfl) | (apply y_pick_f <;> exact rfl) | (apply y_makeFunc; (focus (repeat first | exact evs_nil | (apply evs_cons; exact rfl)))) | (apply y_from; exact rfl; exact rfl; exact rfl; exact rfl; exact rfl; omega; omega) | (apply y_to; exact rfl; exact rfl; exact rfl; exact rfl; exact rfl; omega) | (apply y_cut; exact rfl; exact rfl; exact rfl; exact rfl; exact rfl; exact rfl; omega) | (apply y_cut3; exact rfl; exact rfl; exact rfl; exact rfl; exact rfl; exact rfl; exact rfl; omega) | (apply y_sfrom; exact rfl; exact rfl; exact rfl; exact rfl; omega) | (apply y_sto; exact rfl; exact rfl; exact rfl; exact rfl; omega) | (apply y_lts <;> exact rfl) | (apply y_cats; exact rfl; exact rfl; omega) | (apply y_rem; exact rfl; exact rfl; (first | exact rfl | assumption); (first | exact rfl | (refine i64_wrap ?_; omega))) | (apply y_quo; exact rfl; exact rfl; (first | exact rfl | assumption); (first | exact rfl | (refine i64_wrap ?_; omega))) | (apply y_mul; exact rfl; exact rfl; (first | exact rfl | (refine i64_wrap ?_; omega))) | (apply y_eqb <;> exact rfl) | (apply y_neb <;> exact rfl) | (apply y_isnil <;> exact rfl) | (apply y_ispnil <;> exact rfl) | (apply y_eqst; exact rfl; exact rfl; kernel_rfl; assumption) | (apply y_nest; exact rfl; exact rfl; kernel_rfl; assumption)); exact rfl) | (apply go_box; exact rfl; (first | exact .agg | exact .one rfl); exact rfl; intro b) | (apply go_alloc; exact rfl; (first | exact .agg | exact .one rfl); exact rfl; intro b) | (apply go_makeMap; exact rfl; intro b) | (apply go_store; exact rfl; exact rfl; (first | exact .agg | exact .one rfl); exact rfl; exact rfl; exact rfl; (focus (repeat' first | exact Pick.here | apply Pick.there)); (focus (repeat' constructor))) | (apply go_lit; (focus (repeat first | exact evp_nil | (apply evp_cons; exact rfl))); exact rfl; exact rfl; exact rfl; (first | exact .agg | exact .one rfl); exact rfl; exact rfl; exact rfl; (focus (repeat' constructor)); exact rfl; intro b) | (apply go_cond_t; exact rfl) | (apply go_cond_f; exact rfl))
      refine go_again (i + 1, .slice B3 k2.length c3, .slice B4 t2.length c4) (by simp only; omega) (by simp only; omega) ⟨rfl, rfl, rfl, rfl, rfl, trivial⟩ ?_
      simp only [hsn]
      (repeat' first | exact Ent.refl _ | (apply Ent.pick; focus ((focus (repeat' first | exact Pick.here | apply Pick.there)); done)) | apply entd)
    · intro hb
      rw [if_neg (by rw [hb]; simp)] at hsn
      (repeat' first | (apply go_guard_yes; exact rfl) | (apply go_guard_no; exact rfl; exact rfl; exact rfl) | apply go_seq | apply go_region | apply go_nil | apply go_skip | apply go_block | apply go_blk | (apply go_exit; exact rfl) | ((first | apply go_read | apply go_read0d); (first | (apply y_move <;> exact rfl) | (apply y_assign <;> exact rfl) | (apply y_nilCheck <;> exact rfl) | (apply y_fieldAddr0 <;> exact rfl) | (apply y_fieldAddr <;> exact rfl) | (apply y_load; exact rfl; (first | (apply var_s; exact rfl; exact rfl; focus ((focus (repeat' first | exact cell_own rfl | exact cell_shr rfl | exact cell_own (by assumption) | exact cell_shr (by assumption) | (apply reads_cell <;> assumption) | apply cell_there)); done)) | (apply var_a; exact rfl; exact rfl; focus ((focus (repeat' first | (apply cells_own; focus (apply Seg.lit; (repeat' constructor); done)) | (apply cells_shr; focus (apply Seg.lit; (repeat' constructor); done)) | (apply cells_own; assumption) | (apply cells_shr; assumption) | (apply reads_cells <;> assumption) | apply cells_there)); done)))) | (apply y_lt <;> exact rfl) | (apply y_le <;> exact rfl) | (apply y_gt <;> exact rfl) | (apply y_ge <;> exact rfl) | (apply y_eqi <;> exact rfl) | (apply y_nei <;> exact rfl) | (apply y_eqs <;> exact rfl) | (apply y_nes <;> exact rfl) | (apply y_len_slice <;> exact rfl) | (apply y_len_string <;> exact rfl) | (apply y_cap_slice <;> exact rfl) | (apply y_extract <;> exact rfl) | (apply y_add; exact rfl; exact rfl; (first | exact rfl | (refine i64_wrap ?_; omega))) | (apply y_sub; exact rfl; exact rfl; (first | exact rfl | (refine i64_wrap ?_; omega))) | (apply y_indexAddr; exact rfl; exact rfl; exact rfl; exact rfl; exact rfl; omega) | (apply y_build; (focus (repeat first | exact evp_nil | (apply evp_cons; exact rfl))); exact rfl; exact rfl; exact .agg; (focus (repeat' constructor))) | (apply y_notp <;> exact rfl) | (apply y_not <;> exact rfl) | (apply y_pick_t <;> exact rfl) | (apply y_pick_f <;> exact rfl) | (apply y_makeFunc; (focus (repeat first | exact evs_nil | (apply evs_cons; exact rfl)))) | (apply y_from; exact rfl; exact rfl; exact rfl; exact rfl; exact rfl; omega; omega) | (apply y_to; exact rfl; exact rfl; exact rfl; exact rfl; exact rfl; omega) | (apply y_cut; exact rfl; exact rfl; exact rfl; exact rfl; exact rfl; exact rfl; omega) | (apply y_cut3; exact rfl; exact rfl; exact rfl; exact rfl; exact rfl; exact rfl; exact rfl; omega) | (apply y_sfrom; exact rfl; exact rfl; exact rfl; exact rfl; omega) | (apply y_sto; exact rfl; exact rfl; exact rfl; exact rfl; omega) | (apply y_lts <;> exact rfl) | (apply y_cats; exact rfl; exact rfl; omega) | (apply y_rem; exact rfl; exact rfl; (first | exact rfl | assumption); (first | exact rfl | (refine i64_wrap ?_; omega))) | (apply y_quo; exact rfl; exact rfl; (first | exact rfl | assumption); (first | exact rfl | (refine i64_wrap ?_; omega))) | (apply y_mul; exact rfl; exact rfl; (first | exact rfl | (refine i64_wrap ?_; omega))) | (apply y_eqb <;> exact rfl) | (apply y_neb <;> exact rfl) | (apply y_isnil <;> exact rfl) | (apply y_ispnil <;> exact rfl) | (apply y_eqst; exact rfl; exact rfl; kernel_rfl; assumption) | (apply y_nest; exact rfl; exact rfl; kernel_rfl; assumption)); exact rfl) | (apply go_box; exact rfl; (first | exact .agg | exact .one rfl); exact rfl; intro b) | (apply go_alloc; exact rfl; (first | exact .agg | exact .one rfl); exact rfl; intro b) | (apply go_makeMap; exact rfl; intro b) | (apply go_store; exact rfl; exact rfl; (first | exact .agg | exact .one rfl); exact rfl; exact rfl; exact rfl; (focus (repeat' first | exact Pick.here | apply Pick.there)); (focus (repeat' constructor))) | (apply go_lit; (focus (repeat first | exact evp_nil | (apply evp_cons; exact rfl))); exact rfl; exact rfl; exact rfl; (first | exact .agg | exact .one rfl); exact rfl; exact rfl; exact rfl; (focus (repeat' constructor)); exact rfl; intro b) | (apply go_cond_t; exact rfl) | (apply go_cond_f; exact rfl))
      apply go_drawn 10 [⟨[], [], Det _⟩, ⟨[], [], Det _⟩, ⟨[], [], Det _⟩, ⟨[], [], Det _⟩, ⟨[], [], Det _⟩, ⟨[], [], Det _⟩, ⟨[], [], Det _⟩, ⟨[], [], Det _⟩, ⟨[], [], fun v B => ∃ b3, v = .slice (some ⟨b3, 0, none⟩) 1 1 ∧ B = pts b3 176 ([.string ls[i].1, .bool false] : List Value) :: []⟩, ⟨[row (.slice B4 t2.length c4) 176 2 (t2.length) (t2.flatMap taskL)], [8], fun v B => ∃ b3 D cap, v = .slice D (t2.length + 1) cap ∧ B = row (.slice D (t2.length + 1) cap) 176 2 (t2.length + 1) ((t2.flatMap taskL) ++ ([.string ls[i].1, .bool false] : List Value)) :: pts b3 176 ([.string ls[i].1, .bool false] : List Value) :: []⟩] (pts b8 30 (keyL (id.1, ls[i].1)) :: pts b 72 (itemL ls[i]) :: row (.slice B3 k2.length c3) 30 2 k2.length (k2.flatMap keyL) :: X :: pts c 131 [v, mp, .slice B3 k2.length c3] :: pts pb 144 [.string id.1, .string id.2.1, .int .i64 id.2.2, .slice B4 t2.length c4] :: F)
      · kernel_rfl
      · kernel_rfl
      · exact rfl
      · exact entr1 (by repeat' first | exact Pick.here | apply Pick.there) (Ent.pick (by repeat' first | exact Pick.here | apply Pick.there) (Ent.pick (by repeat' first | exact Pick.here | apply Pick.there) (Ent.pick (by repeat' first | exact Pick.here | apply Pick.there) (ent3 (by repeat' first | exact Pick.here | apply Pick.there) (by repeat' first | exact Pick.here | apply Pick.there) (by repeat' first | exact Pick.here | apply Pick.there)))))
      · refine ⟨?_, ?_, ?_, ?_, ?_, ?_, ?_, ?_, ?_, ?_, trivial⟩
        · refine opok (deps := []) (q := 0) (ts := [1]) (by kernel_rfl) (by kernel_rfl) (by kernel_rfl) rfl ?_
          refine need_nil ?_
          apply od
          · (apply y_move <;> exact rfl)
          · exact ⟨[], ⟨rfl, rfl⟩, rfl⟩
        · refine opok (deps := []) (q := 0) (ts := [1]) (by kernel_rfl) (by kernel_rfl) (by kernel_rfl) rfl ?_
          refine need_nil ?_
          apply od
          · (apply y_move <;> exact rfl)
          · exact ⟨[], ⟨rfl, rfl⟩, rfl⟩
        · refine opok (deps := [(1, 30)]) (q := 1) (ts := [30]) (by kernel_rfl) (by kernel_rfl) (by kernel_rfl) rfl ?_
          refine need_cons ?_; rintro v0 B0 ⟨rfl, rfl⟩
          refine need_nil ?_
          apply od
          · (apply y_nilCheck <;> exact rfl)
          · exact ⟨[], ⟨rfl, rfl⟩, rfl⟩
        · refine opok (deps := [(2, 31)]) (q := 1) (ts := [31]) (by kernel_rfl) (by kernel_rfl) (by kernel_rfl) rfl ?_
          refine need_cons ?_; rintro v0 B0 ⟨rfl, rfl⟩
          refine need_nil ?_
          apply od
          · (first | (apply y_fieldAddr0 <;> exact rfl) | (apply y_fieldAddr <;> exact rfl))
          · exact ⟨[], ⟨rfl, rfl⟩, rfl⟩
        · refine opok (deps := [(3, 32)]) (q := 1) (ts := [32]) (by kernel_rfl) (by kernel_rfl) (by kernel_rfl) rfl ?_
          refine need_cons ?_; rintro v0 B0 ⟨rfl, rfl⟩
          refine need_nil ?_
          apply od
          · (apply y_load; exact rfl; (first | (apply var_s; exact rfl; exact rfl; focus ((focus (repeat' first | exact cell_own rfl | exact cell_shr rfl | exact cell_own (by assumption) | exact cell_shr (by assumption) | (apply reads_cell <;> assumption) | apply cell_there)); done)) | (apply var_a; exact rfl; exact rfl; focus ((focus (repeat' first | (apply cells_own; focus (apply Seg.lit; (repeat' constructor); done)) | (apply cells_shr; focus (apply Seg.lit; (repeat' constructor); done)) | (apply cells_own; assumption) | (apply cells_shr; assumption) | (apply reads_cells <;> assumption) | apply cells_there)); done))))
          · exact ⟨[], ⟨rfl, rfl⟩, rfl⟩
        · refine opok (deps := []) (q := 0) (ts := [7]) (by kernel_rfl) (by kernel_rfl) (by kernel_rfl) rfl ?_
          refine need_nil ?_
          apply od
          · (first | (apply y_fieldAddr0 <;> exact rfl) | (apply y_fieldAddr <;> exact rfl))
          · exact ⟨[], ⟨rfl, rfl⟩, rfl⟩
        · refine opok (deps := [(5, 34)]) (q := 1) (ts := [34]) (by kernel_rfl) (by kernel_rfl) (by kernel_rfl) rfl ?_
          refine need_cons ?_; rintro v0 B0 ⟨rfl, rfl⟩
          refine need_nil ?_
          apply od
          · (apply y_load; exact rfl; (first | (apply var_s; exact rfl; exact rfl; focus ((focus (repeat' first | exact cell_own rfl | exact cell_shr rfl | exact cell_own (by assumption) | exact cell_shr (by assumption) | (apply reads_cell <;> assumption) | apply cell_there)); done)) | (apply var_a; exact rfl; exact rfl; focus ((focus (repeat' first | (apply cells_own; focus (apply Seg.lit; (repeat' constructor); done)) | (apply cells_shr; focus (apply Seg.lit; (repeat' constructor); done)) | (apply cells_own; assumption) | (apply cells_shr; assumption) | (apply reads_cells <;> assumption) | apply cells_there)); done))))
          · exact ⟨[], ⟨rfl, rfl⟩, rfl⟩
        · refine opok (deps := [(6, 35)]) (q := 1) (ts := [35]) (by kernel_rfl) (by kernel_rfl) (by kernel_rfl) rfl ?_
          refine need_cons ?_; rintro v0 B0 ⟨rfl, rfl⟩
          refine need_nil ?_
          apply od
          · (apply y_build; (focus (repeat first | exact evp_nil | (apply evp_cons; exact rfl))); exact rfl; exact rfl; exact .agg; (focus (repeat' constructor)))
          · exact ⟨[], ⟨rfl, rfl⟩, rfl⟩
        · refine opok (deps := [(7, 36)]) (q := 1) (ts := [36]) (by kernel_rfl) (by kernel_rfl) (by kernel_rfl) rfl ?_
          refine need_cons ?_; rintro v0 B0 ⟨rfl, rfl⟩
          refine need_nil ?_
          apply OpR.mono
          · apply o_buildSlice
            · (focus (repeat first | exact evp_nil | (apply evp_cons; exact rfl)))
            · exact rfl
            · exact rfl
            · exact rfl
            · (first | exact .agg | exact .one rfl)
            · exact rfl
            · exact rfl
            · exact rfl
            · repeat' constructor
          · rintro v post ⟨b3, rfl, rfl⟩
            exact ⟨_, ⟨b3, rfl, rfl⟩, rfl⟩
        · refine opok (deps := [(4, 33), (8, 37)]) (q := 2) (ts := [33, 37]) (by kernel_rfl) (by kernel_rfl) (by kernel_rfl) rfl ?_
          refine need_cons ?_; rintro v0 B0 ⟨rfl, rfl⟩
          refine need_cons ?_; rintro v1 B1 ⟨b3, rfl, rfl⟩
          refine need_nil ?_
          apply OpR.mono
          · apply o_append (m := t2.length) (q := 1) (news := ([.string ls[i].1, .bool false] : List Value)) (X := pts b3 176 ([.string ls[i].1, .bool false] : List Value))
            · exact rfl
            · exact rfl
            · exact rfl
            · exact rfl
            · exact rfl
            · exact rfl
            · exact rfl
            · exact rfl
            · exact pts_reads rfl
            · intro u hu
              simp only [List.mem_cons, List.not_mem_nil, or_false] at hu
              rcases hu with rfl | rfl <;> rfl
            · unfold maxLen; omega
            · show (t2.length + 1) * 24 ≤ _; omega
            · omega
          · rintro v post ⟨D, cap, rfl, rfl⟩
            exact ⟨_, ⟨b3, D, cap, rfl, rfl⟩, rfl⟩
      refine left_cons rfl ?_; rintro v0 B0 ⟨rfl, rfl⟩
      refine left_cons rfl ?_; rintro v1 B1 ⟨rfl, rfl⟩
      refine left_cons rfl ?_; rintro v2 B2 ⟨rfl, rfl⟩
      refine left_cons rfl ?_; rintro v3 B3 ⟨rfl, rfl⟩
      refine left_cons rfl ?_; rintro v4 B4 ⟨rfl, rfl⟩
      refine left_cons rfl ?_; rintro v5 B5 ⟨rfl, rfl⟩
      refine left_cons rfl ?_; rintro v6 B6 ⟨rfl, rfl⟩
      refine left_cons rfl ?_; rintro v7 B7 ⟨rfl, rfl⟩
      refine left_cons rfl ?_; rintro v8 B8 ⟨b3, rfl, rfl⟩
      refine left_cons rfl ?_; rintro v9 B9 ⟨b3, D, cap, rfl, rfl⟩
      refine left_nil ?_
      refine go_norm (L' := [(0, _), (1, _), (7, _), (8, _), (9, _), (10, _), (11, _), (29, _), (38, _)]) (A' := _) ⟨rfl, rfl, rfl, rfl, rfl, rfl, rfl, rfl, rfl, trivial⟩ rfl ?_
      simp only [List.drop_succ_cons, List.drop_zero]

      (repeat' first | (apply go_guard_yes; exact rfl) | (apply go_guard_no; exact rfl; exact rfl; exact rfl) | apply go_seq | apply go_region | apply go_nil | apply go_skip | apply go_block | apply go_blk | (apply go_exit; exact rfl) | ((first | apply go_read | apply go_read0d); (first | (apply y_move <;> exact rfl) | (apply y_assign <;> exact rfl) | (apply y_nilCheck <;> exact rfl) | (apply y_fieldAddr0 <;> exact rfl) | (apply y_fieldAddr <;> exact rfl) | (apply y_load; exact rfl; (first | (apply var_s; exact rfl; exact rfl; focus ((focus (repeat' first | exact cell_own rfl | exact cell_shr rfl | exact cell_own (by assumption) | exact cell_shr (by assumption) | (apply reads_cell <;> assumption) | apply cell_there)); done)) | (apply var_a; exact rfl; exact rfl; focus ((focus (repeat' first | (apply cells_own; focus (apply Seg.lit; (repeat' constructor); done)) | (apply cells_shr; focus (apply Seg.lit; (repeat' constructor); done)) | (apply cells_own; assumption) | (apply cells_shr; assumption) | (apply reads_cells <;> assumption) | apply cells_there)); done)))) | (apply y_lt <;> exact rfl) | (apply y_le <;> exact rfl) | (apply y_gt <;> exact rfl) | (apply y_ge <;> exact rfl) | (apply y_eqi <;> exact rfl) | (apply y_nei <;> exact rfl) | (apply y_eqs <;> exact rfl) | (apply y_nes <;> exact rfl) | (apply y_len_slice <;> exact rfl) | (apply y_len_string <;> exact rfl) | (apply y_cap_slice <;> exact rfl) | (apply y_extract <;> exact rfl) | (apply y_add; exact rfl; exact rfl; (first | exact rfl | (refine i64_wrap ?_; omega))) | (apply y_sub; exact rfl; exact rfl; (first | exact rfl | (refine i64_wrap ?_; omega))) | (apply y_indexAddr; exact rfl; exact rfl; exact rfl; exact rfl; exact rfl; omega) | (apply y_build; (focus (repeat first | exact evp_nil | (apply evp_cons; exact rfl))); exact rfl; exact rfl; exact .agg; (focus (repeat' constructor))) | (apply y_notp <;> exact rfl) | (apply y_not <;> exact rfl) | (apply y_pick_t <;> exact rfl) | (apply y_pick_f <;> exact rfl) | (apply y_makeFunc; (focus (repeat first | exact evs_nil | (apply evs_cons; exact rfl)))) | (apply y_from; exact rfl; exact rfl; exact rfl; exact rfl; exact rfl; omega; omega) | (apply y_to; exact rfl; exact rfl; exact rfl; exact rfl; exact rfl; omega) | (apply y_cut; exact rfl; exact rfl; exact rfl; exact rfl; exact rfl; exact rfl; omega) | (apply y_cut3; exact rfl; exact rfl; exact rfl; exact rfl; exact rfl; exact rfl; exact rfl; omega) | (apply y_sfrom; exact rfl; exact rfl; exact rfl; exact rfl; omega) | (apply y_sto; exact rfl; exact rfl; exact rfl; exact rfl; omega) | (apply y_lts <;> exact rfl) | (apply y_cats; exact rfl; exact rfl; omega) | (apply y_rem; exact rfl; exact rfl; (first | exact rfl | assumption); (first | exact rfl | (refine i64_wrap ?_; omega))) | (apply y_quo; exact rfl; exact rfl; (first | exact rfl | assumption); (first | exact rfl | (refine i64_wrap ?_; omega))) | (apply y_mul; exact rfl; exact rfl; (first | exact rfl | (refine i64_wrap ?_; omega))) | (apply y_eqb <;> exact rfl) | (apply y_neb <;> exact rfl) | (apply y_isnil <;> exact rfl) | (apply y_ispnil <;> exact rfl) | (apply y_eqst; exact rfl; exact rfl; kernel_rfl; assumption) | (apply y_nest; exact rfl; exact rfl; kernel_rfl; assumption)); exact rfl) | (apply go_box; exact rfl; (first | exact .agg | exact .one rfl); exact rfl; intro b) | (apply go_alloc; exact rfl; (first | exact .agg | exact .one rfl); exact rfl; intro b) | (apply go_makeMap; exact rfl; intro b) | (apply go_store; exact rfl; exact rfl; (first | exact .agg | exact .one rfl); exact rfl; exact rfl; exact rfl; (focus (repeat' first | exact Pick.here | apply Pick.there)); (focus (repeat' constructor))) | (apply go_lit; (focus (repeat first | exact evp_nil | (apply evp_cons; exact rfl))); exact rfl; exact rfl; exact rfl; (first | exact .agg | exact .one rfl); exact rfl; exact rfl; exact rfl; (focus (repeat' constructor)); exact rfl; intro b) | (apply go_cond_t; exact rfl) | (apply go_cond_f; exact rfl))
      apply go_drawn 8 [⟨[], [], Det _⟩, ⟨[], [], Det _⟩, ⟨[], [], Det _⟩, ⟨[], [], Det _⟩, ⟨[], [], Det _⟩, ⟨[], [], Det _⟩, ⟨[], [], fun v B => ∃ b3, v = .slice (some ⟨b3, 0, none⟩) 1 1 ∧ B = pts b3 30 ([.string id.1, .string ls[i].1] : List Value) :: []⟩, ⟨[row (.slice B3 k2.length c3) 30 2 (k2.length) (k2.flatMap keyL)], [6], fun v B => ∃ b3 D cap, v = .slice D (k2.length + 1) cap ∧ B = row (.slice D (k2.length + 1) cap) 30 2 (k2.length + 1) ((k2.flatMap keyL) ++ ([.string id.1, .string ls[i].1] : List Value)) :: pts b3 30 ([.string id.1, .string ls[i].1] : List Value) :: []⟩] (pts pb 144 [.string id.1, .string id.2.1, .int .i64 id.2.2, .slice D (t2.length + 1) cap] :: row (.slice D (t2.length + 1) cap) 176 2 (t2.length + 1) (t2.flatMap taskL ++ ([.string ls[i].1, .bool false] : List Value)) :: pts b8 30 (keyL (id.1, ls[i].1)) :: X :: pts c 131 [v, mp, .slice B3 k2.length c3] :: F)
      · kernel_rfl
      · kernel_rfl
      · exact rfl
      · (repeat' first | exact Ent.refl _ | (apply Ent.pick; focus ((focus (repeat' first | exact Pick.here | apply Pick.there)); done)) | apply entd)
      · refine ⟨?_, ?_, ?_, ?_, ?_, ?_, ?_, ?_, trivial⟩
        · refine opok (deps := []) (q := 0) (ts := [0]) (by kernel_rfl) (by kernel_rfl) (by kernel_rfl) rfl ?_
          refine need_nil ?_
          apply od
          · (apply y_move <;> exact rfl)
          · exact ⟨[], ⟨rfl, rfl⟩, rfl⟩
        · refine opok (deps := []) (q := 0) (ts := [0]) (by kernel_rfl) (by kernel_rfl) (by kernel_rfl) rfl ?_
          refine need_nil ?_
          apply od
          · (apply y_move <;> exact rfl)
          · exact ⟨[], ⟨rfl, rfl⟩, rfl⟩
        · refine opok (deps := [(1, 42)]) (q := 1) (ts := [42]) (by kernel_rfl) (by kernel_rfl) (by kernel_rfl) rfl ?_
          refine need_cons ?_; rintro v0 B0 ⟨rfl, rfl⟩
          refine need_nil ?_
          apply od
          · (apply y_nilCheck <;> exact rfl)
          · exact ⟨[], ⟨rfl, rfl⟩, rfl⟩
        · refine opok (deps := [(2, 43)]) (q := 1) (ts := [43]) (by kernel_rfl) (by kernel_rfl) (by kernel_rfl) rfl ?_
          refine need_cons ?_; rintro v0 B0 ⟨rfl, rfl⟩
          refine need_nil ?_
          apply od
          · (first | (apply y_fieldAddr0 <;> exact rfl) | (apply y_fieldAddr <;> exact rfl))
          · exact ⟨[], ⟨rfl, rfl⟩, rfl⟩
        · refine opok (deps := [(3, 44)]) (q := 1) (ts := [44]) (by kernel_rfl) (by kernel_rfl) (by kernel_rfl) rfl ?_
          refine need_cons ?_; rintro v0 B0 ⟨rfl, rfl⟩
          refine need_nil ?_
          apply od
          · (apply y_load; exact rfl; (first | (apply var_s; exact rfl; exact rfl; focus ((focus (repeat' first | exact cell_own rfl | exact cell_shr rfl | exact cell_own (by assumption) | exact cell_shr (by assumption) | (apply reads_cell <;> assumption) | apply cell_there)); done)) | (apply var_a; exact rfl; exact rfl; focus ((focus (repeat' first | (apply cells_own; focus (apply Seg.lit; (repeat' constructor); done)) | (apply cells_shr; focus (apply Seg.lit; (repeat' constructor); done)) | (apply cells_own; assumption) | (apply cells_shr; assumption) | (apply reads_cells <;> assumption) | apply cells_there)); done))))
          · exact ⟨[], ⟨rfl, rfl⟩, rfl⟩
        · refine opok (deps := []) (q := 0) (ts := [8]) (by kernel_rfl) (by kernel_rfl) (by kernel_rfl) rfl ?_
          refine need_nil ?_
          apply od
          · (apply y_load; exact rfl; (first | (apply var_s; exact rfl; exact rfl; focus ((focus (repeat' first | exact cell_own rfl | exact cell_shr rfl | exact cell_own (by assumption) | exact cell_shr (by assumption) | (apply reads_cell <;> assumption) | apply cell_there)); done)) | (apply var_a; exact rfl; exact rfl; focus ((focus (repeat' first | (apply cells_own; focus (apply Seg.lit; (repeat' constructor); done)) | (apply cells_shr; focus (apply Seg.lit; (repeat' constructor); done)) | (apply cells_own; assumption) | (apply cells_shr; assumption) | (apply reads_cells <;> assumption) | apply cells_there)); done))))
          · exact ⟨[], ⟨rfl, rfl⟩, rfl⟩
        · refine opok (deps := [(5, 46)]) (q := 1) (ts := [46]) (by kernel_rfl) (by kernel_rfl) (by kernel_rfl) rfl ?_
          refine need_cons ?_; rintro v0 B0 ⟨rfl, rfl⟩
          refine need_nil ?_
          apply OpR.mono
          · apply o_buildSlice
            · (focus (repeat first | exact evp_nil | (apply evp_cons; exact rfl)))
            · exact rfl
            · exact rfl
            · exact rfl
            · (first | exact .agg | exact .one rfl)
            · exact rfl
            · exact rfl
            · exact rfl
            · repeat' constructor
          · rintro v post ⟨b3, rfl, rfl⟩
            exact ⟨_, ⟨b3, rfl, rfl⟩, rfl⟩
        · refine opok (deps := [(4, 45), (6, 47)]) (q := 2) (ts := [45, 47]) (by kernel_rfl) (by kernel_rfl) (by kernel_rfl) rfl ?_
          refine need_cons ?_; rintro v0 B0 ⟨rfl, rfl⟩
          refine need_cons ?_; rintro v1 B1 ⟨b3, rfl, rfl⟩
          refine need_nil ?_
          apply OpR.mono
          · apply o_append (m := k2.length) (q := 1) (news := ([.string id.1, .string ls[i].1] : List Value)) (X := pts b3 30 ([.string id.1, .string ls[i].1] : List Value))
            · exact rfl
            · exact rfl
            · exact rfl
            · exact rfl
            · exact rfl
            · exact rfl
            · exact rfl
            · exact rfl
            · exact pts_reads rfl
            · intro u hu
              simp only [List.mem_cons, List.not_mem_nil, or_false] at hu
              rcases hu with rfl | rfl <;> rfl
            · unfold maxLen; omega
            · show (k2.length + 1) * 32 ≤ _; omega
            · omega
          · rintro v post ⟨D, cap, rfl, rfl⟩
            exact ⟨_, ⟨b3, D, cap, rfl, rfl⟩, rfl⟩
      refine left_cons rfl ?_; rintro v0 B0 ⟨rfl, rfl⟩
      refine left_cons rfl ?_; rintro v1 B1 ⟨rfl, rfl⟩
      refine left_cons rfl ?_; rintro v2 B2 ⟨rfl, rfl⟩
      refine left_cons rfl ?_; rintro v3 B3 ⟨rfl, rfl⟩
      refine left_cons rfl ?_; rintro v4 B4 ⟨rfl, rfl⟩
      refine left_cons rfl ?_; rintro v5 B5 ⟨rfl, rfl⟩
      refine left_cons rfl ?_; rintro v6 B6 ⟨b3, rfl, rfl⟩
      refine left_cons rfl ?_; rintro v7 B7 ⟨b9, D4, cap4, rfl, rfl⟩
      refine left_nil ?_
      refine go_norm (L' := [(0, _), (1, _), (9, _), (10, _), (11, _), (41, _), (48, _)]) (A' := _) ⟨rfl, rfl, rfl, rfl, rfl, rfl, rfl, trivial⟩ rfl ?_
      simp only [List.drop_succ_cons, List.drop_zero]

      (repeat' first | (apply go_guard_yes; exact rfl) | (apply go_guard_no; exact rfl; exact rfl; exact rfl) | apply go_seq | apply go_region | apply go_nil | apply go_skip | apply go_block | apply go_blk | (apply go_exit; exact rfl) | ((first | apply go_read | apply go_read0d); (first | (apply y_move <;> exact rfl) | (apply y_assign <;> exact rfl) | (apply y_nilCheck <;> exact rfl) | (apply y_fieldAddr0 <;> exact rfl) | (apply y_fieldAddr <;> exact rfl) | (apply y_load; exact rfl; (first | (apply var_s; exact rfl; exact rfl; focus ((focus (repeat' first | exact cell_own rfl | exact cell_shr rfl | exact cell_own (by assumption) | exact cell_shr (by assumption) | (apply reads_cell <;> assumption) | apply cell_there)); done)) | (apply var_a; exact rfl; exact rfl; focus ((focus (repeat' first | (apply cells_own; focus (apply Seg.lit; (repeat' constructor); done)) | (apply cells_shr; focus (apply Seg.lit; (repeat' constructor); done)) | (apply cells_own; assumption) | (apply cells_shr; assumption) | (apply reads_cells <;> assumption) | apply cells_there)); done)))) | (apply y_lt <;> exact rfl) | (apply y_le <;> exact rfl) | (apply y_gt <;> exact rfl) | (apply y_ge <;> exact rfl) | (apply y_eqi <;> exact rfl) | (apply y_nei <;> exact rfl) | (apply y_eqs <;> exact rfl) | (apply y_nes <;> exact rfl) | (apply y_len_slice <;> exact rfl) | (apply y_len_string <;> exact rfl) | (apply y_cap_slice <;> exact rfl) | (apply y_extract <;> exact rfl) | (apply y_add; exact rfl; exact rfl; (first | exact rfl | (refine i64_wrap ?_; omega))) | (apply y_sub; exact rfl; exact rfl; (first | exact rfl | (refine i64_wrap ?_; omega))) | (apply y_indexAddr; exact rfl; exact rfl; exact rfl; exact rfl; exact rfl; omega) | (apply y_build; (focus (repeat first | exact evp_nil | (apply evp_cons; exact rfl))); exact rfl; exact rfl; exact .agg; (focus (repeat' constructor))) | (apply y_notp <;> exact rfl) | (apply y_not <;> exact rfl) | (apply y_pick_t <;> exact rfl) | (apply y_pick_f <;> exact rfl) | (apply y_makeFunc; (focus (repeat first | exact evs_nil | (apply evs_cons; exact rfl)))) | (apply y_from; exact rfl; exact rfl; exact rfl; exact rfl; exact rfl; omega; omega) | (apply y_to; exact rfl; exact rfl; exact rfl; exact rfl; exact rfl; omega) | (apply y_cut; exact rfl; exact rfl; exact rfl; exact rfl; exact rfl; exact rfl; omega) | (apply y_cut3; exact rfl; exact rfl; exact rfl; exact rfl; exact rfl; exact rfl; exact rfl; omega) | (apply y_sfrom; exact rfl; exact rfl; exact rfl; exact rfl; omega) | (apply y_sto; exact rfl; exact rfl; exact rfl; exact rfl; omega) | (apply y_lts <;> exact rfl) | (apply y_cats; exact rfl; exact rfl; omega) | (apply y_rem; exact rfl; exact rfl; (first | exact rfl | assumption); (first | exact rfl | (refine i64_wrap ?_; omega))) | (apply y_quo; exact rfl; exact rfl; (first | exact rfl | assumption); (first | exact rfl | (refine i64_wrap ?_; omega))) | (apply y_mul; exact rfl; exact rfl; (first | exact rfl | (refine i64_wrap ?_; omega))) | (apply y_eqb <;> exact rfl) | (apply y_neb <;> exact rfl) | (apply y_isnil <;> exact rfl) | (apply y_ispnil <;> exact rfl) | (apply y_eqst; exact rfl; exact rfl; kernel_rfl; assumption) | (apply y_nest; exact rfl; exact rfl; kernel_rfl; assumption)); exact rfl) | (apply go_box; exact rfl; (first | exact .agg | exact .one rfl); exact rfl; intro b) | (apply go_alloc; exact rfl; (first | exact .agg | exact .one rfl); exact rfl; intro b) | (apply go_makeMap; exact rfl; intro b) | (apply go_store; exact rfl; exact rfl; (first | exact .agg | exact .one rfl); exact rfl; exact rfl; exact rfl; (focus (repeat' first | exact Pick.here | apply Pick.there)); (focus (repeat' constructor))) | (apply go_lit; (focus (repeat first | exact evp_nil | (apply evp_cons; exact rfl))); exact rfl; exact rfl; exact rfl; (first | exact .agg | exact .one rfl); exact rfl; exact rfl; exact rfl; (focus (repeat' constructor)); exact rfl; intro b) | (apply go_cond_t; exact rfl) | (apply go_cond_f; exact rfl))
      refine go_again (i + 1, .slice D4 (k2.length + 1) cap4, .slice D (t2.length + 1) cap) (by simp only; omega) (by simp only; omega) ⟨rfl, rfl, rfl, rfl, rfl, trivial⟩ ?_
      simp only [hsn, launL, List.length_append, List.length_singleton, List.flatMap_append, List.flatMap_cons, List.flatMap_nil, List.append_nil]
      (repeat' first | exact Ent.refl _ | (apply Ent.pick; focus ((focus (repeat' first | exact Pick.here | apply Pick.there)); done)) | apply entd)
  · intro hge
    simp only at hge
    have hin : i = ls.length := by omega
    subst hin
    simp only [List.take_length]
    (repeat' first | (apply go_guard_yes; exact rfl) | (apply go_guard_no; exact rfl; exact rfl; exact rfl) | apply go_seq | apply go_region | apply go_nil | apply go_skip | apply go_block | apply go_blk | (apply go_exit; exact rfl) | ((first | apply go_read | apply go_read0d); (first | (apply y_move <;> exact rfl) | (apply y_assign <;> exact rfl) | (apply y_nilCheck <;> exact rfl) | (apply y_fieldAddr0 <;> exact rfl) | (apply y_fieldAddr <;> exact rfl) | (apply y_load; exact rfl; (first | (apply var_s; exact rfl; exact rfl; focus ((focus (repeat' first | exact cell_own rfl | exact cell_shr rfl | exact cell_own (by assumption) | exact cell_shr (by assumption) | (apply reads_cell <;> assumption) | apply cell_there)); done)) | (apply var_a; exact rfl; exact rfl; focus ((focus (repeat' first | (apply cells_own; focus (apply Seg.lit; (repeat' constructor); done)) | (apply cells_shr; focus (apply Seg.lit; (repeat' constructor); done)) | (apply cells_own; assumption) | (apply cells_shr; assumption) | (apply reads_cells <;> assumption) | apply cells_there)); done)))) | (apply y_lt <;> exact rfl) | (apply y_le <;> exact rfl) | (apply y_gt <;> exact rfl) | (apply y_ge <;> exact rfl) | (apply y_eqi <;> exact rfl) | (apply y_nei <;> exact rfl) | (apply y_eqs <;> exact rfl) | (apply y_nes <;> exact rfl) | (apply y_len_slice <;> exact rfl) | (apply y_len_string <;> exact rfl) | (apply y_cap_slice <;> exact rfl) | (apply y_extract <;> exact rfl) | (apply y_add; exact rfl; exact rfl; (first | exact rfl | (refine i64_wrap ?_; omega))) | (apply y_sub; exact rfl; exact rfl; (first | exact rfl | (refine i64_wrap ?_; omega))) | (apply y_indexAddr; exact rfl; exact rfl; exact rfl; exact rfl; exact rfl; omega) | (apply y_build; (focus (repeat first | exact evp_nil | (apply evp_cons; exact rfl))); exact rfl; exact rfl; exact .agg; (focus (repeat' constructor))) | (apply y_notp <;> exact rfl) | (apply y_not <;> exact rfl) | (apply y_pick_t <;> exact rfl) | (apply y_pick_f <;> exact rfl) | (apply y_makeFunc; (focus (repeat first | exact evs_nil | (apply evs_cons; exact rfl)))) | (apply y_from; exact rfl; exact rfl; exact rfl; exact rfl; exact rfl; omega; omega) | (apply y_to; exact rfl; exact rfl; exact rfl; exact rfl; exact rfl; omega) | (apply y_cut; exact rfl; exact rfl; exact rfl; exact rfl; exact rfl; exact rfl; omega) | (apply y_cut3; exact rfl; exact rfl; exact rfl; exact rfl; exact rfl; exact rfl; exact rfl; omega) | (apply y_sfrom; exact rfl; exact rfl; exact rfl; exact rfl; omega) | (apply y_sto; exact rfl; exact rfl; exact rfl; exact rfl; omega) | (apply y_lts <;> exact rfl) | (apply y_cats; exact rfl; exact rfl; omega) | (apply y_rem; exact rfl; exact rfl; (first | exact rfl | assumption); (first | exact rfl | (refine i64_wrap ?_; omega))) | (apply y_quo; exact rfl; exact rfl; (first | exact rfl | assumption); (first | exact rfl | (refine i64_wrap ?_; omega))) | (apply y_mul; exact rfl; exact rfl; (first | exact rfl | (refine i64_wrap ?_; omega))) | (apply y_eqb <;> exact rfl) | (apply y_neb <;> exact rfl) | (apply y_isnil <;> exact rfl) | (apply y_ispnil <;> exact rfl) | (apply y_eqst; exact rfl; exact rfl; kernel_rfl; assumption) | (apply y_nest; exact rfl; exact rfl; kernel_rfl; assumption)); exact rfl) | (apply go_box; exact rfl; (first | exact .agg | exact .one rfl); exact rfl; intro b) | (apply go_alloc; exact rfl; (first | exact .agg | exact .one rfl); exact rfl; intro b) | (apply go_makeMap; exact rfl; intro b) | (apply go_store; exact rfl; exact rfl; (first | exact .agg | exact .one rfl); exact rfl; exact rfl; exact rfl; (focus (repeat' first | exact Pick.here | apply Pick.there)); (focus (repeat' constructor))) | (apply go_lit; (focus (repeat first | exact evp_nil | (apply evp_cons; exact rfl))); exact rfl; exact rfl; exact rfl; (first | exact .agg | exact .one rfl); exact rfl; exact rfl; exact rfl; (focus (repeat' constructor)); exact rfl; intro b) | (apply go_cond_t; exact rfl) | (apply go_cond_f; exact rfl))
    (apply go_end; (first | (apply res_tmp; exact rfl; exact rfl) | (apply res_tmp2; exact rfl; exact rfl; exact rfl) | (apply res_cell; exact rfl; exact rfl; (first | (apply var_s; exact rfl; exact rfl; focus ((focus (repeat' first | exact cell_own rfl | exact cell_shr rfl | exact cell_own (by assumption) | exact cell_shr (by assumption) | (apply reads_cell <;> assumption) | apply cell_there)); done)) | (apply var_a; exact rfl; exact rfl; focus ((focus (repeat' first | (apply cells_own; focus (apply Seg.lit; (repeat' constructor); done)) | (apply cells_shr; focus (apply Seg.lit; (repeat' constructor); done)) | (apply cells_own; assumption) | (apply cells_shr; assumption) | (apply reads_cells <;> assumption) | apply cells_there)); done)))) | (apply res_cell_tmp; exact rfl; exact rfl; (first | (apply var_s; exact rfl; exact rfl; focus ((focus (repeat' first | exact cell_own rfl | exact cell_shr rfl | exact cell_own (by assumption) | exact cell_shr (by assumption) | (apply reads_cell <;> assumption) | apply cell_there)); done)) | (apply var_a; exact rfl; exact rfl; focus ((focus (repeat' first | (apply cells_own; focus (apply Seg.lit; (repeat' constructor); done)) | (apply cells_shr; focus (apply Seg.lit; (repeat' constructor); done)) | (apply cells_own; assumption) | (apply cells_shr; assumption) | (apply reads_cells <;> assumption) | apply cells_there)); done))); exact rfl) | (apply res_none; exact rfl)))
    · exact ⟨rfl, v2, xv, rfl⟩
    · (repeat' first | exact Ent.refl _ | (apply Ent.pick; focus ((focus (repeat' first | exact Pick.here | apply Pick.there)); done)) | apply entd)
end Go.Proofs.Ytkogmpeodamdgaa
