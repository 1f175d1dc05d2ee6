/-
  The hands of 23: a process's step. Conditions: sizes that a machine bears.
-/
import Derived.Test.YtkogmpeodamdgaaH7
namespace Go.Proofs.Ytkogmpeodamdgaa
open Go Go.RowKit
set_option maxRecDepth 100000
/-- what a step does to a process. -/
def step1 (x : Id3 × List Task2) : List Task2 × List Out := match x.2 with
  | [] => ([], [])
  | (t, true) :: r => (r, [⟨8, x.1, t, 3⟩])
  | (t, false) :: r => ((t, true) :: r, [⟨8, x.1, t, 2⟩])
set_option maxHeartbeats 2000000 in
theorem step_f (pb : Nat) (id : Id3) (t : ByteArray) (r : List Task2) (xv : Value) (_ht : r.length ≤ 1000000) :
    Tri Try.prog 83 [.pointer (some ⟨pb, 0, none⟩)] [pts pb 144 [.string id.1, .string id.2.1, .int .i64 id.2.2, xv], row xv 176 2 ((t, false) :: r).length (((t, false) :: r).flatMap taskL)] fun v post =>
      v = .agg (outL ⟨8, id, t, 2⟩).toArray ∧ ∃ xv', post = [pts pb 144 [.string id.1, .string id.2.1, .int .i64 id.2.2, xv'], row xv' 176 2 ((t, true) :: r).length (((t, true) :: r).flatMap taskL)] := by
  refine tri_enter Try.func83 Try.ntmps83 rfl rfl fun e F => ?_
  refine go_ent Ent.swap (go_row_open (by simp) ?_)
  intro gg off c1 cur hv hf
  subst hv
  have hmc := hf.le
  have hseg := hf.seg (flat_seg taskL_len ((t, false) :: r) 0 (by simp))
  have h0 : 0 < ((t, false) :: r).length := by simp
  have h0' : (0 : Int) ≤ 0 ∧ (0 : Int) < (((t, false) :: r).length : Int) := by simp
  generalize hm : ((t, false) :: r).length = m at *
  (repeat' first | (apply go_guard_yes; exact rfl) | (apply go_guard_no; exact rfl; exact rfl; exact rfl) | apply go_seq | apply go_region | apply go_nil | apply go_skip | apply go_block | apply go_blk | (apply go_exit; exact rfl) | ((first | apply go_read | apply go_read0d); (first | (apply y_move <;> exact rfl) | (apply y_assign <;> exact rfl) | (apply y_nilCheck <;> exact rfl) | (apply y_fieldAddr0 <;> exact rfl) | (apply y_fieldAddr <;> exact rfl) | (apply y_load; exact rfl; (first | (apply var_s; exact rfl; exact rfl; focus ((focus (repeat' first | exact cell_own rfl | exact cell_shr rfl | exact cell_own (by assumption) | exact cell_shr (by assumption) | (apply reads_cell <;> assumption) | apply cell_there)); done)) | (apply var_a; exact rfl; exact rfl; focus ((focus (repeat' first | (apply cells_own; focus (apply Seg.lit; (repeat' constructor); done)) | (apply cells_shr; focus (apply Seg.lit; (repeat' constructor); done)) | (apply cells_own; assumption) | (apply cells_shr; assumption) | (apply reads_cells <;> assumption) | apply cells_there)); done)))) | (apply y_lt <;> exact rfl) | (apply y_le <;> exact rfl) | (apply y_gt <;> exact rfl) | (apply y_ge <;> exact rfl) | (apply y_eqi <;> exact rfl) | (apply y_nei <;> exact rfl) | (apply y_eqs <;> exact rfl) | (apply y_nes <;> exact rfl) | (apply y_len_slice <;> exact rfl) | (apply y_len_string <;> exact rfl) | (apply y_cap_slice <;> exact rfl) | (apply y_extract <;> exact rfl) | (apply y_add; exact rfl; exact rfl; (first | exact rfl | (refine i64_wrap ?_; omega))) | (apply y_sub; exact rfl; exact rfl; (first | exact rfl | (refine i64_wrap ?_; omega))) | (apply y_indexAddr; exact rfl; exact rfl; exact rfl; exact rfl; exact rfl; omega) | (apply y_build; (focus (repeat first | exact evp_nil | (apply evp_cons; exact rfl))); exact rfl; exact rfl; exact .agg; (focus (repeat' constructor))) | (apply y_notp <;> exact rfl) | (apply y_not <;> exact rfl) | (apply y_pick_t <;> exact rfl) | (apply y_pick_f <;> exact rfl) | (apply y_makeFunc; (focus (repeat first | exact evs_nil | (apply evs_cons; exact rfl)))) | (apply y_from; exact rfl; exact rfl; exact rfl; exact rfl; exact rfl; omega; omega) | (apply y_to; exact rfl; exact rfl; exact rfl; exact rfl; exact rfl; omega) | (apply y_cut; exact rfl; exact rfl; exact rfl; exact rfl; exact rfl; exact rfl; omega) | (apply y_cut3; exact rfl; exact rfl; exact rfl; exact rfl; exact rfl; exact rfl; exact rfl; omega) | (apply y_sfrom; exact rfl; exact rfl; exact rfl; exact rfl; omega) | (apply y_sto; exact rfl; exact rfl; exact rfl; exact rfl; omega) | (apply y_lts <;> exact rfl) | (apply y_cats; exact rfl; exact rfl; omega) | (apply y_rem; exact rfl; exact rfl; (first | exact rfl | assumption); (first | exact rfl | (refine i64_wrap ?_; omega))) | (apply y_quo; exact rfl; exact rfl; (first | exact rfl | assumption); (first | exact rfl | (refine i64_wrap ?_; omega))) | (apply y_mul; exact rfl; exact rfl; (first | exact rfl | (refine i64_wrap ?_; omega))) | (apply y_eqb <;> exact rfl) | (apply y_neb <;> exact rfl) | (apply y_isnil <;> exact rfl) | (apply y_ispnil <;> exact rfl) | (apply y_eqst; exact rfl; exact rfl; kernel_rfl; assumption) | (apply y_nest; exact rfl; exact rfl; kernel_rfl; assumption)); exact rfl) | (apply go_box; exact rfl; (first | exact .agg | exact .one rfl); exact rfl; intro b) | (apply go_alloc; exact rfl; (first | exact .agg | exact .one rfl); exact rfl; intro b) | (apply go_makeMap; exact rfl; intro b) | (apply go_store; exact rfl; exact rfl; (first | exact .agg | exact .one rfl); exact rfl; exact rfl; exact rfl; (focus (repeat' first | exact Pick.here | apply Pick.there)); (focus (repeat' constructor))) | (apply go_lit; (focus (repeat first | exact evp_nil | (apply evp_cons; exact rfl))); exact rfl; exact rfl; exact rfl; (first | exact .agg | exact .one rfl); exact rfl; exact rfl; exact rfl; (focus (repeat' constructor)); exact rfl; intro b) | (apply go_cond_t; exact rfl) | (apply go_cond_f; exact rfl))
  · exact fill1_set (hf.lt (j := 1) (by omega))
  have hf2 := hf.set (j := 1) (by omega) (.bool true)
  rename_i b69
  (repeat' first | (apply go_guard_yes; exact rfl) | (apply go_guard_no; exact rfl; exact rfl; exact rfl) | apply go_seq | apply go_region | apply go_nil | apply go_skip | apply go_block | apply go_blk | (apply go_exit; exact rfl) | ((first | apply go_read | apply go_read0d); (first | (apply y_move <;> exact rfl) | (apply y_assign <;> exact rfl) | (apply y_nilCheck <;> exact rfl) | (apply y_fieldAddr0 <;> exact rfl) | (apply y_fieldAddr <;> exact rfl) | (apply y_load; exact rfl; (first | (apply var_s; exact rfl; exact rfl; focus ((focus (repeat' first | exact cell_own rfl | exact cell_shr rfl | exact cell_own (by assumption) | exact cell_shr (by assumption) | (apply reads_cell <;> assumption) | apply cell_there)); done)) | (apply var_a; exact rfl; exact rfl; focus ((focus (repeat' first | (apply cells_own; focus (apply Seg.lit; (repeat' constructor); done)) | (apply cells_shr; focus (apply Seg.lit; (repeat' constructor); done)) | (apply cells_own; assumption) | (apply cells_shr; assumption) | (apply reads_cells <;> assumption) | apply cells_there)); done)))) | (apply y_lt <;> exact rfl) | (apply y_le <;> exact rfl) | (apply y_gt <;> exact rfl) | (apply y_ge <;> exact rfl) | (apply y_eqi <;> exact rfl) | (apply y_nei <;> exact rfl) | (apply y_eqs <;> exact rfl) | (apply y_nes <;> exact rfl) | (apply y_len_slice <;> exact rfl) | (apply y_len_string <;> exact rfl) | (apply y_cap_slice <;> exact rfl) | (apply y_extract <;> exact rfl) | (apply y_add; exact rfl; exact rfl; (first | exact rfl | (refine i64_wrap ?_; omega))) | (apply y_sub; exact rfl; exact rfl; (first | exact rfl | (refine i64_wrap ?_; omega))) | (apply y_indexAddr; exact rfl; exact rfl; exact rfl; exact rfl; exact rfl; omega) | (apply y_build; (focus (repeat first | exact evp_nil | (apply evp_cons; exact rfl))); exact rfl; exact rfl; exact .agg; (focus (repeat' constructor))) | (apply y_notp <;> exact rfl) | (apply y_not <;> exact rfl) | (apply y_pick_t <;> exact rfl) | (apply y_pick_f <;> exact rfl) | (apply y_makeFunc; (focus (repeat first | exact evs_nil | (apply evs_cons; exact rfl)))) | (apply y_from; exact rfl; exact rfl; exact rfl; exact rfl; exact rfl; omega; omega) | (apply y_to; exact rfl; exact rfl; exact rfl; exact rfl; exact rfl; omega) | (apply y_cut; exact rfl; exact rfl; exact rfl; exact rfl; exact rfl; exact rfl; omega) | (apply y_cut3; exact rfl; exact rfl; exact rfl; exact rfl; exact rfl; exact rfl; exact rfl; omega) | (apply y_sfrom; exact rfl; exact rfl; exact rfl; exact rfl; omega) | (apply y_sto; exact rfl; exact rfl; exact rfl; exact rfl; omega) | (apply y_lts <;> exact rfl) | (apply y_cats; exact rfl; exact rfl; omega) | (apply y_rem; exact rfl; exact rfl; (first | exact rfl | assumption); (first | exact rfl | (refine i64_wrap ?_; omega))) | (apply y_quo; exact rfl; exact rfl; (first | exact rfl | assumption); (first | exact rfl | (refine i64_wrap ?_; omega))) | (apply y_mul; exact rfl; exact rfl; (first | exact rfl | (refine i64_wrap ?_; omega))) | (apply y_eqb <;> exact rfl) | (apply y_neb <;> exact rfl) | (apply y_isnil <;> exact rfl) | (apply y_ispnil <;> exact rfl) | (apply y_eqst; exact rfl; exact rfl; kernel_rfl; assumption) | (apply y_nest; exact rfl; exact rfl; kernel_rfl; assumption)); exact rfl) | (apply go_box; exact rfl; (first | exact .agg | exact .one rfl); exact rfl; intro b) | (apply go_alloc; exact rfl; (first | exact .agg | exact .one rfl); exact rfl; intro b) | (apply go_makeMap; exact rfl; intro b) | (apply go_store; exact rfl; exact rfl; (first | exact .agg | exact .one rfl); exact rfl; exact rfl; exact rfl; (focus (repeat' first | exact Pick.here | apply Pick.there)); (focus (repeat' constructor))) | (apply go_lit; (focus (repeat first | exact evp_nil | (apply evp_cons; exact rfl))); exact rfl; exact rfl; exact rfl; (first | exact .agg | exact .one rfl); exact rfl; exact rfl; exact rfl; (focus (repeat' constructor)); exact rfl; intro b) | (apply go_cond_t; exact rfl) | (apply go_cond_f; exact rfl))
  apply go_drawn 7 [⟨[], [], Det _⟩, ⟨[], [], Det _⟩, ⟨[], [], Det _⟩, ⟨[], [], Det _⟩, ⟨[], [], Det _⟩, ⟨[], [], Det _⟩, ⟨[], [], Det (.agg (outL ⟨8, id, t, 2⟩).toArray)⟩] (pts gg 176 (cur.set (off + 1) (.bool true)) :: pts b 176 (taskL (t, false)) :: pts b69 69 [.int .i64 0, .string ⟨#[]⟩, .string ⟨#[]⟩, .string ⟨#[]⟩, .int .i64 0, .int .i64 0, .int .i64 0, .int .i64 0, .slice none 0 0] :: pts pb 144 [.string id.1, .string id.2.1, .int .i64 id.2.2, .slice (some ⟨gg, off, none⟩) m c1] :: F)
  · kernel_rfl
  · kernel_rfl
  · exact rfl
  · exact Ent.refl _
  · refine ⟨?_, ?_, ?_, ?_, ?_, ?_, ?_, trivial⟩
    · refine opok (deps := []) (q := 0) (ts := [0]) (by kernel_rfl) (by kernel_rfl) (by kernel_rfl) rfl ?_
      refine need_nil ?_
      apply od
      · (apply y_move <;> exact rfl)
      · exact ⟨[], ⟨rfl, rfl⟩, rfl⟩
    · refine opok (deps := [(0, 19)]) (q := 1) (ts := [19]) (by kernel_rfl) (by kernel_rfl) (by kernel_rfl) rfl ?_
      refine need_cons ?_; rintro v0 B0 ⟨rfl, rfl⟩
      refine need_nil ?_
      apply od
      · (apply y_nilCheck <;> exact rfl)
      · exact ⟨[], ⟨rfl, rfl⟩, rfl⟩
    · refine opok (deps := [(1, 20)]) (q := 1) (ts := [20]) (by kernel_rfl) (by kernel_rfl) (by kernel_rfl) rfl ?_
      refine need_cons ?_; rintro v0 B0 ⟨rfl, rfl⟩
      refine need_nil ?_
      apply od
      · (first | (apply y_fieldAddr0 <;> exact rfl) | (apply y_fieldAddr <;> exact rfl))
      · exact ⟨[], ⟨rfl, rfl⟩, rfl⟩
    · refine opok (deps := [(2, 21)]) (q := 1) (ts := [21]) (by kernel_rfl) (by kernel_rfl) (by kernel_rfl) rfl ?_
      refine need_cons ?_; rintro v0 B0 ⟨rfl, rfl⟩
      refine need_nil ?_
      apply od
      · (apply y_load; exact rfl; (first | (apply var_s; exact rfl; exact rfl; focus ((focus (repeat' first | exact cell_own rfl | exact cell_shr rfl | exact cell_own (by assumption) | exact cell_shr (by assumption) | (apply reads_cell <;> assumption) | apply cell_there)); done)) | (apply var_a; exact rfl; exact rfl; focus ((focus (repeat' first | (apply cells_own; focus (apply Seg.lit; (repeat' constructor); done)) | (apply cells_shr; focus (apply Seg.lit; (repeat' constructor); done)) | (apply cells_own; assumption) | (apply cells_shr; assumption) | (apply reads_cells <;> assumption) | apply cells_there)); done))))
      · exact ⟨[], ⟨rfl, rfl⟩, rfl⟩
    · refine opok (deps := []) (q := 0) (ts := [3]) (by kernel_rfl) (by kernel_rfl) (by kernel_rfl) rfl ?_
      refine need_nil ?_
      apply od
      · (first | (apply y_fieldAddr0 <;> exact rfl) | (apply y_fieldAddr <;> exact rfl))
      · exact ⟨[], ⟨rfl, rfl⟩, rfl⟩
    · refine opok (deps := [(4, 23)]) (q := 1) (ts := [23]) (by kernel_rfl) (by kernel_rfl) (by kernel_rfl) rfl ?_
      refine need_cons ?_; rintro v0 B0 ⟨rfl, rfl⟩
      refine need_nil ?_
      apply od
      · (apply y_load; exact rfl; (first | (apply var_s; exact rfl; exact rfl; focus ((focus (repeat' first | exact cell_own rfl | exact cell_shr rfl | exact cell_own (by assumption) | exact cell_shr (by assumption) | (apply reads_cell <;> assumption) | apply cell_there)); done)) | (apply var_a; exact rfl; exact rfl; focus ((focus (repeat' first | (apply cells_own; focus (apply Seg.lit; (repeat' constructor); done)) | (apply cells_shr; focus (apply Seg.lit; (repeat' constructor); done)) | (apply cells_own; assumption) | (apply cells_shr; assumption) | (apply reads_cells <;> assumption) | apply cells_there)); done))))
      · exact ⟨[], ⟨rfl, rfl⟩, rfl⟩
    · refine opok (deps := [(3, 22), (5, 24)]) (q := 2) (ts := [22, 24]) (by kernel_rfl) (by kernel_rfl) (by kernel_rfl) rfl ?_
      refine need_cons ?_; rintro v0 B0 ⟨rfl, rfl⟩
      refine need_cons ?_; rintro v1 B1 ⟨rfl, rfl⟩
      refine need_nil ?_
      apply OpR.mono
      · apply o_fn (report_t id t 2) enter108
        · exact rfl
        · (focus (repeat first | exact evs_nil | (apply evs_cons; exact rfl)))
        · exact ent0
      · rintro v post ⟨p, ⟨rfl, rfl⟩, rfl⟩
        exact ⟨[], ⟨rfl, rfl⟩, rfl⟩
  refine left_cons rfl ?_; rintro v0 B0 ⟨rfl, rfl⟩
  refine left_cons rfl ?_; rintro v1 B1 ⟨rfl, rfl⟩
  refine left_cons rfl ?_; rintro v2 B2 ⟨rfl, rfl⟩
  refine left_cons rfl ?_; rintro v3 B3 ⟨rfl, rfl⟩
  refine left_cons rfl ?_; rintro v4 B4 ⟨rfl, rfl⟩
  refine left_cons rfl ?_; rintro v5 B5 ⟨rfl, rfl⟩
  refine left_cons rfl ?_; rintro v6 B6 ⟨rfl, rfl⟩
  refine left_nil ?_
  refine go_norm (L' := [(2, _), (25, _)]) (A' := pts gg 176 (cur.set (off + 1) (.bool true)) :: pts b 176 (taskL (t, false)) :: pts b69 69 [.int .i64 0, .string ⟨#[]⟩, .string ⟨#[]⟩, .string ⟨#[]⟩, .int .i64 0, .int .i64 0, .int .i64 0, .int .i64 0, .slice none 0 0] :: pts pb 144 [.string id.1, .string id.2.1, .int .i64 id.2.2, .slice (some ⟨gg, off, none⟩) m c1] :: F) ⟨rfl, rfl, trivial⟩ rfl ?_
  simp only [List.drop_succ_cons, List.drop_zero]

  (repeat' first | (apply go_guard_yes; exact rfl) | (apply go_guard_no; exact rfl; exact rfl; exact rfl) | apply go_seq | apply go_region | apply go_nil | apply go_skip | apply go_block | apply go_blk | (apply go_exit; exact rfl) | ((first | apply go_read | apply go_read0d); (first | (apply y_move <;> exact rfl) | (apply y_assign <;> exact rfl) | (apply y_nilCheck <;> exact rfl) | (apply y_fieldAddr0 <;> exact rfl) | (apply y_fieldAddr <;> exact rfl) | (apply y_load; exact rfl; (first | (apply var_s; exact rfl; exact rfl; focus ((focus (repeat' first | exact cell_own rfl | exact cell_shr rfl | exact cell_own (by assumption) | exact cell_shr (by assumption) | (apply reads_cell <;> assumption) | apply cell_there)); done)) | (apply var_a; exact rfl; exact rfl; focus ((focus (repeat' first | (apply cells_own; focus (apply Seg.lit; (repeat' constructor); done)) | (apply cells_shr; focus (apply Seg.lit; (repeat' constructor); done)) | (apply cells_own; assumption) | (apply cells_shr; assumption) | (apply reads_cells <;> assumption) | apply cells_there)); done)))) | (apply y_lt <;> exact rfl) | (apply y_le <;> exact rfl) | (apply y_gt <;> exact rfl) | (apply y_ge <;> exact rfl) | (apply y_eqi <;> exact rfl) | (apply y_nei <;> exact rfl) | (apply y_eqs <;> exact rfl) | (apply y_nes <;> exact rfl) | (apply y_len_slice <;> exact rfl) | (apply y_len_string <;> exact rfl) | (apply y_cap_slice <;> exact rfl) | (apply y_extract <;> exact rfl) | (apply y_add; exact rfl; exact rfl; (first | exact rfl | (refine i64_wrap ?_; omega))) | (apply y_sub; exact rfl; exact rfl; (first | exact rfl | (refine i64_wrap ?_; omega))) | (apply y_indexAddr; exact rfl; exact rfl; exact rfl; exact rfl; exact rfl; omega) | (apply y_build; (focus (repeat first | exact evp_nil | (apply evp_cons; exact rfl))); exact rfl; exact rfl; exact .agg; (focus (repeat' constructor))) | (apply y_notp <;> exact rfl) | (apply y_not <;> exact rfl) | (apply y_pick_t <;> exact rfl) | (apply y_pick_f <;> exact rfl) | (apply y_makeFunc; (focus (repeat first | exact evs_nil | (apply evs_cons; exact rfl)))) | (apply y_from; exact rfl; exact rfl; exact rfl; exact rfl; exact rfl; omega; omega) | (apply y_to; exact rfl; exact rfl; exact rfl; exact rfl; exact rfl; omega) | (apply y_cut; exact rfl; exact rfl; exact rfl; exact rfl; exact rfl; exact rfl; omega) | (apply y_cut3; exact rfl; exact rfl; exact rfl; exact rfl; exact rfl; exact rfl; exact rfl; omega) | (apply y_sfrom; exact rfl; exact rfl; exact rfl; exact rfl; omega) | (apply y_sto; exact rfl; exact rfl; exact rfl; exact rfl; omega) | (apply y_lts <;> exact rfl) | (apply y_cats; exact rfl; exact rfl; omega) | (apply y_rem; exact rfl; exact rfl; (first | exact rfl | assumption); (first | exact rfl | (refine i64_wrap ?_; omega))) | (apply y_quo; exact rfl; exact rfl; (first | exact rfl | assumption); (first | exact rfl | (refine i64_wrap ?_; omega))) | (apply y_mul; exact rfl; exact rfl; (first | exact rfl | (refine i64_wrap ?_; omega))) | (apply y_eqb <;> exact rfl) | (apply y_neb <;> exact rfl) | (apply y_isnil <;> exact rfl) | (apply y_ispnil <;> exact rfl) | (apply y_eqst; exact rfl; exact rfl; kernel_rfl; assumption) | (apply y_nest; exact rfl; exact rfl; kernel_rfl; assumption)); exact rfl) | (apply go_box; exact rfl; (first | exact .agg | exact .one rfl); exact rfl; intro b) | (apply go_alloc; exact rfl; (first | exact .agg | exact .one rfl); exact rfl; intro b) | (apply go_makeMap; exact rfl; intro b) | (apply go_store; exact rfl; exact rfl; (first | exact .agg | exact .one rfl); exact rfl; exact rfl; exact rfl; (focus (repeat' first | exact Pick.here | apply Pick.there)); (focus (repeat' constructor))) | (apply go_lit; (focus (repeat first | exact evp_nil | (apply evp_cons; exact rfl))); exact rfl; exact rfl; exact rfl; (first | exact .agg | exact .one rfl); exact rfl; exact rfl; exact rfl; (focus (repeat' constructor)); exact rfl; intro b) | (apply go_cond_t; exact rfl) | (apply go_cond_f; exact rfl))
  (apply go_ret; (first | (apply res_tmp; exact rfl; exact rfl) | (apply res_tmp2; exact rfl; exact rfl; exact rfl) | (apply res_cell; exact rfl; exact rfl; (first | (apply var_s; exact rfl; exact rfl; focus ((focus (repeat' first | exact cell_own rfl | exact cell_shr rfl | exact cell_own (by assumption) | exact cell_shr (by assumption) | (apply reads_cell <;> assumption) | apply cell_there)); done)) | (apply var_a; exact rfl; exact rfl; focus ((focus (repeat' first | (apply cells_own; focus (apply Seg.lit; (repeat' constructor); done)) | (apply cells_shr; focus (apply Seg.lit; (repeat' constructor); done)) | (apply cells_own; assumption) | (apply cells_shr; assumption) | (apply reads_cells <;> assumption) | apply cells_there)); done)))) | (apply res_cell_tmp; exact rfl; exact rfl; (first | (apply var_s; exact rfl; exact rfl; focus ((focus (repeat' first | exact cell_own rfl | exact cell_shr rfl | exact cell_own (by assumption) | exact cell_shr (by assumption) | (apply reads_cell <;> assumption) | apply cell_there)); done)) | (apply var_a; exact rfl; exact rfl; focus ((focus (repeat' first | (apply cells_own; focus (apply Seg.lit; (repeat' constructor); done)) | (apply cells_shr; focus (apply Seg.lit; (repeat' constructor); done)) | (apply cells_own; assumption) | (apply cells_shr; assumption) | (apply reads_cells <;> assumption) | apply cells_there)); done))); exact rfl) | (apply res_none; exact rfl)))
  · exact ⟨rfl, .slice (some ⟨gg, off, none⟩) m c1, rfl⟩
  · refine (Ent.trans (entr1 (X := pts gg 176 (cur.set (off + 1) (.bool true))) (by repeat' first | exact Pick.here | apply Pick.there) (Ent.refl _)) (row_shut hf2)).trans ?_
    refine Ent.pick (by repeat' first | exact Pick.here | apply Pick.there) ?_
    rw [← hm]
    (repeat' first | exact Ent.refl _ | (apply Ent.pick; focus ((focus (repeat' first | exact Pick.here | apply Pick.there)); done)) | apply entd)
set_option maxHeartbeats 2000000 in
theorem step_t (pb : Nat) (id : Id3) (t : ByteArray) (r : List Task2) (xv : Value) (_ht : r.length ≤ 1000000) :
    Tri Try.prog 83 [.pointer (some ⟨pb, 0, none⟩)] [pts pb 144 [.string id.1, .string id.2.1, .int .i64 id.2.2, xv], row xv 176 2 ((t, true) :: r).length (((t, true) :: r).flatMap taskL)] fun v post =>
      v = .agg (outL ⟨8, id, t, 3⟩).toArray ∧ ∃ xv', post = [pts pb 144 [.string id.1, .string id.2.1, .int .i64 id.2.2, xv'], row xv' 176 2 r.length (r.flatMap taskL)] := by
  refine tri_enter Try.func83 Try.ntmps83 rfl rfl fun e F => ?_
  refine go_ent Ent.swap (go_row_open (by simp) ?_)
  intro gg off c1 cur hv hf
  subst hv
  have hmc := hf.le
  have hseg := hf.seg (flat_seg taskL_len ((t, true) :: r) 0 (by simp))
  have h0 : 0 < ((t, true) :: r).length := by simp
  have h0' : (0 : Int) ≤ 0 ∧ (0 : Int) < (((t, true) :: r).length : Int) := by simp
  have hmr : ((t, true) :: r).length - 1 = r.length := by simp
  generalize hm : ((t, true) :: r).length = m at *
  (repeat' first | (apply go_guard_yes; exact rfl) | (apply go_guard_no; exact rfl; exact rfl; exact rfl) | apply go_seq | apply go_region | apply go_nil | apply go_skip | apply go_block | apply go_blk | (apply go_exit; exact rfl) | ((first | apply go_read | apply go_read0d); (first | (apply y_move <;> exact rfl) | (apply y_assign <;> exact rfl) | (apply y_nilCheck <;> exact rfl) | (apply y_fieldAddr0 <;> exact rfl) | (apply y_fieldAddr <;> exact rfl) | (apply y_load; exact rfl; (first | (apply var_s; exact rfl; exact rfl; focus ((focus (repeat' first | exact cell_own rfl | exact cell_shr rfl | exact cell_own (by assumption) | exact cell_shr (by assumption) | (apply reads_cell <;> assumption) | apply cell_there)); done)) | (apply var_a; exact rfl; exact rfl; focus ((focus (repeat' first | (apply cells_own; focus (apply Seg.lit; (repeat' constructor); done)) | (apply cells_shr; focus (apply Seg.lit; (repeat' constructor); done)) | (apply cells_own; assumption) | (apply cells_shr; assumption) | (apply reads_cells <;> assumption) | apply cells_there)); done)))) | (apply y_lt <;> exact rfl) | (apply y_le <;> exact rfl) | (apply y_gt <;> exact rfl) | (apply y_ge <;> exact rfl) | (apply y_eqi <;> exact rfl) | (apply y_nei <;> exact rfl) | (apply y_eqs <;> exact rfl) | (apply y_nes <;> exact rfl) | (apply y_len_slice <;> exact rfl) | (apply y_len_string <;> exact rfl) | (apply y_cap_slice <;> exact rfl) | (apply y_extract <;> exact rfl) | (apply y_add; exact rfl; exact rfl; (first | exact rfl | (refine i64_wrap ?_; omega))) | (apply y_sub; exact rfl; exact rfl; (first | exact rfl | (refine i64_wrap ?_; omega))) | (apply y_indexAddr; exact rfl; exact rfl; exact rfl; exact rfl; exact rfl; omega) | (apply y_build; (focus (repeat first | exact evp_nil | (apply evp_cons; exact rfl))); exact rfl; exact rfl; exact .agg; (focus (repeat' constructor))) | (apply y_notp <;> exact rfl) | (apply y_not <;> exact rfl) | (apply y_pick_t <;> exact rfl) | (apply y_pick_f <;> exact rfl) | (apply y_makeFunc; (focus (repeat first | exact evs_nil | (apply evs_cons; exact rfl)))) | (apply y_from; exact rfl; exact rfl; exact rfl; exact rfl; exact rfl; omega; omega) | (apply y_to; exact rfl; exact rfl; exact rfl; exact rfl; exact rfl; omega) | (apply y_cut; exact rfl; exact rfl; exact rfl; exact rfl; exact rfl; exact rfl; omega) | (apply y_cut3; exact rfl; exact rfl; exact rfl; exact rfl; exact rfl; exact rfl; exact rfl; omega) | (apply y_sfrom; exact rfl; exact rfl; exact rfl; exact rfl; omega) | (apply y_sto; exact rfl; exact rfl; exact rfl; exact rfl; omega) | (apply y_lts <;> exact rfl) | (apply y_cats; exact rfl; exact rfl; omega) | (apply y_rem; exact rfl; exact rfl; (first | exact rfl | assumption); (first | exact rfl | (refine i64_wrap ?_; omega))) | (apply y_quo; exact rfl; exact rfl; (first | exact rfl | assumption); (first | exact rfl | (refine i64_wrap ?_; omega))) | (apply y_mul; exact rfl; exact rfl; (first | exact rfl | (refine i64_wrap ?_; omega))) | (apply y_eqb <;> exact rfl) | (apply y_neb <;> exact rfl) | (apply y_isnil <;> exact rfl) | (apply y_ispnil <;> exact rfl) | (apply y_eqst; exact rfl; exact rfl; kernel_rfl; assumption) | (apply y_nest; exact rfl; exact rfl; kernel_rfl; assumption)); exact rfl) | (apply go_box; exact rfl; (first | exact .agg | exact .one rfl); exact rfl; intro b) | (apply go_alloc; exact rfl; (first | exact .agg | exact .one rfl); exact rfl; intro b) | (apply go_makeMap; exact rfl; intro b) | (apply go_store; exact rfl; exact rfl; (first | exact .agg | exact .one rfl); exact rfl; exact rfl; exact rfl; (focus (repeat' first | exact Pick.here | apply Pick.there)); (focus (repeat' constructor))) | (apply go_lit; (focus (repeat first | exact evp_nil | (apply evp_cons; exact rfl))); exact rfl; exact rfl; exact rfl; (first | exact .agg | exact .one rfl); exact rfl; exact rfl; exact rfl; (focus (repeat' constructor)); exact rfl; intro b) | (apply go_cond_t; exact rfl) | (apply go_cond_f; exact rfl))
  rename_i b69
  apply go_drawn 7 [⟨[], [], Det _⟩, ⟨[], [], Det _⟩, ⟨[], [], Det _⟩, ⟨[], [], Det _⟩, ⟨[], [], Det _⟩, ⟨[], [], Det _⟩, ⟨[], [], Det (.agg (outL ⟨8, id, t, 3⟩).toArray)⟩] (_)
  · kernel_rfl
  · kernel_rfl
  · exact rfl
  · exact Ent.refl _
  · refine ⟨?_, ?_, ?_, ?_, ?_, ?_, ?_, trivial⟩
    · refine opok (deps := []) (q := 0) (ts := [0]) (by kernel_rfl) (by kernel_rfl) (by kernel_rfl) rfl ?_
      refine need_nil ?_
      apply od
      · (apply y_move <;> exact rfl)
      · exact ⟨[], ⟨rfl, rfl⟩, rfl⟩
    · refine opok (deps := [(0, 34)]) (q := 1) (ts := [34]) (by kernel_rfl) (by kernel_rfl) (by kernel_rfl) rfl ?_
      refine need_cons ?_; rintro v0 B0 ⟨rfl, rfl⟩
      refine need_nil ?_
      apply od
      · (apply y_nilCheck <;> exact rfl)
      · exact ⟨[], ⟨rfl, rfl⟩, rfl⟩
    · refine opok (deps := [(1, 35)]) (q := 1) (ts := [35]) (by kernel_rfl) (by kernel_rfl) (by kernel_rfl) rfl ?_
      refine need_cons ?_; rintro v0 B0 ⟨rfl, rfl⟩
      refine need_nil ?_
      apply od
      · (first | (apply y_fieldAddr0 <;> exact rfl) | (apply y_fieldAddr <;> exact rfl))
      · exact ⟨[], ⟨rfl, rfl⟩, rfl⟩
    · refine opok (deps := [(2, 36)]) (q := 1) (ts := [36]) (by kernel_rfl) (by kernel_rfl) (by kernel_rfl) rfl ?_
      refine need_cons ?_; rintro v0 B0 ⟨rfl, rfl⟩
      refine need_nil ?_
      apply od
      · (apply y_load; exact rfl; (first | (apply var_s; exact rfl; exact rfl; focus ((focus (repeat' first | exact cell_own rfl | exact cell_shr rfl | exact cell_own (by assumption) | exact cell_shr (by assumption) | (apply reads_cell <;> assumption) | apply cell_there)); done)) | (apply var_a; exact rfl; exact rfl; focus ((focus (repeat' first | (apply cells_own; focus (apply Seg.lit; (repeat' constructor); done)) | (apply cells_shr; focus (apply Seg.lit; (repeat' constructor); done)) | (apply cells_own; assumption) | (apply cells_shr; assumption) | (apply reads_cells <;> assumption) | apply cells_there)); done))))
      · exact ⟨[], ⟨rfl, rfl⟩, rfl⟩
    · refine opok (deps := []) (q := 0) (ts := [3]) (by kernel_rfl) (by kernel_rfl) (by kernel_rfl) rfl ?_
      refine need_nil ?_
      apply od
      · (first | (apply y_fieldAddr0 <;> exact rfl) | (apply y_fieldAddr <;> exact rfl))
      · exact ⟨[], ⟨rfl, rfl⟩, rfl⟩
    · refine opok (deps := [(4, 38)]) (q := 1) (ts := [38]) (by kernel_rfl) (by kernel_rfl) (by kernel_rfl) rfl ?_
      refine need_cons ?_; rintro v0 B0 ⟨rfl, rfl⟩
      refine need_nil ?_
      apply od
      · (apply y_load; exact rfl; (first | (apply var_s; exact rfl; exact rfl; focus ((focus (repeat' first | exact cell_own rfl | exact cell_shr rfl | exact cell_own (by assumption) | exact cell_shr (by assumption) | (apply reads_cell <;> assumption) | apply cell_there)); done)) | (apply var_a; exact rfl; exact rfl; focus ((focus (repeat' first | (apply cells_own; focus (apply Seg.lit; (repeat' constructor); done)) | (apply cells_shr; focus (apply Seg.lit; (repeat' constructor); done)) | (apply cells_own; assumption) | (apply cells_shr; assumption) | (apply reads_cells <;> assumption) | apply cells_there)); done))))
      · exact ⟨[], ⟨rfl, rfl⟩, rfl⟩
    · refine opok (deps := [(3, 37), (5, 39)]) (q := 2) (ts := [37, 39]) (by kernel_rfl) (by kernel_rfl) (by kernel_rfl) rfl ?_
      refine need_cons ?_; rintro v0 B0 ⟨rfl, rfl⟩
      refine need_cons ?_; rintro v1 B1 ⟨rfl, rfl⟩
      refine need_nil ?_
      apply OpR.mono
      · apply o_fn (report_t id t 3) enter108
        · exact rfl
        · (focus (repeat first | exact evs_nil | (apply evs_cons; exact rfl)))
        · exact ent0
      · rintro v post ⟨p, ⟨rfl, rfl⟩, rfl⟩
        exact ⟨[], ⟨rfl, rfl⟩, rfl⟩
  refine left_cons rfl ?_; rintro v0 B0 ⟨rfl, rfl⟩
  refine left_cons rfl ?_; rintro v1 B1 ⟨rfl, rfl⟩
  refine left_cons rfl ?_; rintro v2 B2 ⟨rfl, rfl⟩
  refine left_cons rfl ?_; rintro v3 B3 ⟨rfl, rfl⟩
  refine left_cons rfl ?_; rintro v4 B4 ⟨rfl, rfl⟩
  refine left_cons rfl ?_; rintro v5 B5 ⟨rfl, rfl⟩
  refine left_cons rfl ?_; rintro v6 B6 ⟨rfl, rfl⟩
  refine left_nil ?_
  refine go_norm (L' := [(2, _), (40, _)]) (A' := _) ⟨rfl, rfl, trivial⟩ rfl ?_
  simp only [List.drop_succ_cons, List.drop_zero]

  (repeat' first | (apply go_guard_yes; exact rfl) | (apply go_guard_no; exact rfl; exact rfl; exact rfl) | apply go_seq | apply go_region | apply go_nil | apply go_skip | apply go_block | apply go_blk | (apply go_exit; exact rfl) | ((first | apply go_read | apply go_read0d); (first | (apply y_move <;> exact rfl) | (apply y_assign <;> exact rfl) | (apply y_nilCheck <;> exact rfl) | (apply y_fieldAddr0 <;> exact rfl) | (apply y_fieldAddr <;> exact rfl) | (apply y_load; exact rfl; (first | (apply var_s; exact rfl; exact rfl; focus ((focus (repeat' first | exact cell_own rfl | exact cell_shr rfl | exact cell_own (by assumption) | exact cell_shr (by assumption) | (apply reads_cell <;> assumption) | apply cell_there)); done)) | (apply var_a; exact rfl; exact rfl; focus ((focus (repeat' first | (apply cells_own; focus (apply Seg.lit; (repeat' constructor); done)) | (apply cells_shr; focus (apply Seg.lit; (repeat' constructor); done)) | (apply cells_own; assumption) | (apply cells_shr; assumption) | (apply reads_cells <;> assumption) | apply cells_there)); done)))) | (apply y_lt <;> exact rfl) | (apply y_le <;> exact rfl) | (apply y_gt <;> exact rfl) | (apply y_ge <;> exact rfl) | (apply y_eqi <;> exact rfl) | (apply y_nei <;> exact rfl) | (apply y_eqs <;> exact rfl) | (apply y_nes <;> exact rfl) | (apply y_len_slice <;> exact rfl) | (apply y_len_string <;> exact rfl) | (apply y_cap_slice <;> exact rfl) | (apply y_extract <;> exact rfl) | (apply y_add; exact rfl; exact rfl; (first | exact rfl | (refine i64_wrap ?_; omega))) | (apply y_sub; exact rfl; exact rfl; (first | exact rfl | (refine i64_wrap ?_; omega))) | (apply y_indexAddr; exact rfl; exact rfl; exact rfl; exact rfl; exact rfl; omega) | (apply y_build; (focus (repeat first | exact evp_nil | (apply evp_cons; exact rfl))); exact rfl; exact rfl; exact .agg; (focus (repeat' constructor))) | (apply y_notp <;> exact rfl) | (apply y_not <;> exact rfl) | (apply y_pick_t <;> exact rfl) | (apply y_pick_f <;> exact rfl) | (apply y_makeFunc; (focus (repeat first | exact evs_nil | (apply evs_cons; exact rfl)))) | (apply y_from; exact rfl; exact rfl; exact rfl; exact rfl; exact rfl; omega; omega) | (apply y_to; exact rfl; exact rfl; exact rfl; exact rfl; exact rfl; omega) | (apply y_cut; exact rfl; exact rfl; exact rfl; exact rfl; exact rfl; exact rfl; omega) | (apply y_cut3; exact rfl; exact rfl; exact rfl; exact rfl; exact rfl; exact rfl; exact rfl; omega) | (apply y_sfrom; exact rfl; exact rfl; exact rfl; exact rfl; omega) | (apply y_sto; exact rfl; exact rfl; exact rfl; exact rfl; omega) | (apply y_lts <;> exact rfl) | (apply y_cats; exact rfl; exact rfl; omega) | (apply y_rem; exact rfl; exact rfl; (first | exact rfl | assumption); (first | exact rfl | (refine i64_wrap ?_; omega))) | (apply y_quo; exact rfl; exact rfl; (first | exact rfl | assumption); (first | exact rfl | (refine i64_wrap ?_; omega))) | (apply y_mul; exact rfl; exact rfl; (first | exact rfl | (refine i64_wrap ?_; omega))) | (apply y_eqb <;> exact rfl) | (apply y_neb <;> exact rfl) | (apply y_isnil <;> exact rfl) | (apply y_ispnil <;> exact rfl) | (apply y_eqst; exact rfl; exact rfl; kernel_rfl; assumption) | (apply y_nest; exact rfl; exact rfl; kernel_rfl; assumption)); exact rfl) | (apply go_box; exact rfl; (first | exact .agg | exact .one rfl); exact rfl; intro b) | (apply go_alloc; exact rfl; (first | exact .agg | exact .one rfl); exact rfl; intro b) | (apply go_makeMap; exact rfl; intro b) | (apply go_store; exact rfl; exact rfl; (first | exact .agg | exact .one rfl); exact rfl; exact rfl; exact rfl; (focus (repeat' first | exact Pick.here | apply Pick.there)); (focus (repeat' constructor))) | (apply go_lit; (focus (repeat first | exact evp_nil | (apply evp_cons; exact rfl))); exact rfl; exact rfl; exact rfl; (first | exact .agg | exact .one rfl); exact rfl; exact rfl; exact rfl; (focus (repeat' constructor)); exact rfl; intro b) | (apply go_cond_t; exact rfl) | (apply go_cond_f; exact rfl))
  (apply go_ret; (first | (apply res_tmp; exact rfl; exact rfl) | (apply res_tmp2; exact rfl; exact rfl; exact rfl) | (apply res_cell; exact rfl; exact rfl; (first | (apply var_s; exact rfl; exact rfl; focus ((focus (repeat' first | exact cell_own rfl | exact cell_shr rfl | exact cell_own (by assumption) | exact cell_shr (by assumption) | (apply reads_cell <;> assumption) | apply cell_there)); done)) | (apply var_a; exact rfl; exact rfl; focus ((focus (repeat' first | (apply cells_own; focus (apply Seg.lit; (repeat' constructor); done)) | (apply cells_shr; focus (apply Seg.lit; (repeat' constructor); done)) | (apply cells_own; assumption) | (apply cells_shr; assumption) | (apply reads_cells <;> assumption) | apply cells_there)); done)))) | (apply res_cell_tmp; exact rfl; exact rfl; (first | (apply var_s; exact rfl; exact rfl; focus ((focus (repeat' first | exact cell_own rfl | exact cell_shr rfl | exact cell_own (by assumption) | exact cell_shr (by assumption) | (apply reads_cell <;> assumption) | apply cell_there)); done)) | (apply var_a; exact rfl; exact rfl; focus ((focus (repeat' first | (apply cells_own; focus (apply Seg.lit; (repeat' constructor); done)) | (apply cells_shr; focus (apply Seg.lit; (repeat' constructor); done)) | (apply cells_own; assumption) | (apply cells_shr; assumption) | (apply reads_cells <;> assumption) | apply cells_there)); done))); exact rfl) | (apply res_none; exact rfl)))
  · exact ⟨rfl, .slice (if c1 = 1 then some ⟨gg, off, none⟩ else some ⟨gg, off + 2, none⟩) (m - 1) (c1 - 1), rfl⟩
  · refine (Ent.trans (entr1 (X := pts gg 176 cur) (by repeat' first | exact Pick.here | apply Pick.there) (Ent.refl _)) (row_tail hf h0)).trans ?_
    refine Ent.pick (by repeat' first | exact Pick.here | apply Pick.there) ?_
    rw [hmr]
    (repeat' first | exact Ent.refl _ | (apply Ent.pick; focus ((focus (repeat' first | exact Pick.here | apply Pick.there)); done)) | apply entd)
end Go.Proofs.Ytkogmpeodamdgaa
