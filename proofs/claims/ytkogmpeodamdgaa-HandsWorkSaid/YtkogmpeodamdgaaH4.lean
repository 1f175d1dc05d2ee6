/-
  The hands of 23: a process starts. Conditions: sizes that a machine bears.
-/
import Derived.Test.YtkogmpeodamdgaaH3
namespace Go.Proofs.Ytkogmpeodamdgaa
open Go Go.RowKit
set_option maxRecDepth 100000
def memB {α : Type} [DecidableEq α] (l : List α) (p : α) : Bool := l.any fun x => decide (p = x)
theorem at_started (l : List Id3) (p : Id3) : (atKey (fun a b => decide (a = b)) (l.map fun p => (p, Value.bool true)) p).getD (.bool false) = .bool (memB l p) := by
  unfold memB
  induction l with
  | nil => rfl
  | cons x l ih =>
    unfold atKey at ih ⊢
    rw [List.map_cons, List.find?_cons]
    by_cases h : p = x
    · simp [h]
    · have : decide (p = x) = false := by simpa using h
      simp only [this]
      rw [ih]
      simp [h]
theorem up_started (l : List Id3) (p : Id3) (h : memB l p = false) : upsert (fun a b => decide (a = b)) (l.map fun p => (p, Value.bool true)) p (.bool true) = (l ++ [p]).map fun p => (p, Value.bool true) := by
  have : (l.map fun p => (p, Value.bool true)).findIdx? (fun x => decide (p = x.1)) = none := by
    rw [List.findIdx?_eq_none_iff]
    intro x hx
    obtain ⟨y, hy, rfl⟩ := List.mem_map.1 hx
    unfold memB at h
    rw [List.any_eq_false] at h
    simpa using h y hy
  unfold upsert
  rw [this, List.map_append]; rfl
theorem y_started {L : Slots} {A A' : List SP} {e : Ext} {m x : Operand} {ty : TypeId} {bm : Nat} {l : List Id3} {p : Id3} (h : ev L m = some (.map (some bm))) (hx : ev L x = some (idV p)) (hp : Pick A (mapP bm (pairs idV (l.map fun p => (p, .bool true)))) A') : Yields Try.prog e (.lookup 128 m x false) ty L A (.bool (memB l p)) := by
  have := y_lookup (P := Try.prog) (e := e) (ty := ty) (i := ty128) (j := ty4) (kt := 134) (et := 4) (mt := 128) (c := p) idK h hx rfl rfl rfl hp
  rw [← at_started]
  exact this
/-- the hands, opened. -/
abbrev hL (c : Nat) (B : Option Addr) (c1 : Nat) (B2 : Option Addr) (c2 bm : Nat) (ps : List Proc) (st : HSt) : List SP := handsL c (.slice B ps.length c1) (.slice B2 st.keys.length c2) bm ps st
theorem go_hands2 {P : Program} {n : Nat} {e : Ext} {R : Exit → Act → World → Prop} {k : List It} {L : Slots} {A : List SP} {c : Nat} {st : HSt}
    (g : ∀ B c1 B2 c2 bm ps, ps.map (fun x => (x.id, x.ts)) = st.procs → Run P n e R k L (hL c B c1 B2 c2 bm ps st ++ A)) : Run P n e R k L (HandsP c st :: A) := by
  refine go_hands fun v v2 bm ps hps => ?_
  refine go_ent (entr2 (by repeat' first | exact Pick.here | apply Pick.there) (by repeat' first | exact Pick.here | apply Pick.there) (Ent.refl _)) (go_row_form fun B c1 hv => ?_)
  subst hv
  refine go_ent (entr2 (.there (.there (.there .here))) (by repeat' first | exact Pick.here | apply Pick.there) (Ent.refl _)) (go_row_form fun B2 c2 hv => ?_)
  subst hv
  exact go_ent (ent5 (by repeat' first | exact Pick.here | apply Pick.there) (by repeat' first | exact Pick.here | apply Pick.there) (by repeat' first | exact Pick.here | apply Pick.there) (by repeat' first | exact Pick.here | apply Pick.there) (by repeat' first | exact Pick.here | apply Pick.there)) (g B c1 B2 c2 bm ps hps)
set_option maxHeartbeats 2000000 in
theorem start_t (c : Nat) (st : HSt) (p : Id3) (hn : st.procs.length ≤ 1000000) : Tri Try.prog 76 [.pointer (some ⟨c, 0, none⟩), idV p] [HandsP c st] fun v post => ∃ out : List Out, ∃ st' : HSt, (if memB st.started p = true then out = [] ∧ st' = st else out = [⟨7, p, ⟨#[]⟩, 0⟩] ∧ st' = ⟨st.procs ++ [(p, [])], st.started ++ [p], st.keys⟩) ∧
    ∃ D cap, v = .slice D out.length cap ∧ post = [row (.slice D out.length cap) 69 9 out.length (out.flatMap outL), HandsP c st'] := by
  refine tri_enter Try.func76 Try.ntmps76 rfl rfl fun e F => ?_
  refine go_hands2 fun B c1 B2 c2 bm ps hps => ?_
  have hl : ps.length = st.procs.length := by rw [← hps]; simp
  (repeat' first | (apply go_guard_yes; exact rfl) | (apply go_guard_no; exact rfl; exact rfl; exact rfl) | apply go_seq | apply go_region | apply go_nil | apply go_skip | apply go_block | apply go_blk | (apply go_exit; exact rfl) | ((first | apply go_read | apply go_read0d); (first | (apply y_move <;> exact rfl) | (apply y_assign <;> exact rfl) | (apply y_nilCheck <;> exact rfl) | (apply y_fieldAddr0 <;> exact rfl) | (apply y_fieldAddr <;> exact rfl) | (apply y_load; exact rfl; (first | (apply var_s; exact rfl; exact rfl; focus ((focus (repeat' first | exact cell_own rfl | exact cell_shr rfl | exact cell_own (by assumption) | exact cell_shr (by assumption) | (apply reads_cell <;> assumption) | apply cell_there)); done)) | (apply var_a; exact rfl; exact rfl; focus ((focus (repeat' first | (apply cells_own; focus (apply Seg.lit; (repeat' constructor); done)) | (apply cells_shr; focus (apply Seg.lit; (repeat' constructor); done)) | (apply cells_own; assumption) | (apply cells_shr; assumption) | (apply reads_cells <;> assumption) | apply cells_there)); done)))) | (apply y_lt <;> exact rfl) | (apply y_le <;> exact rfl) | (apply y_gt <;> exact rfl) | (apply y_ge <;> exact rfl) | (apply y_eqi <;> exact rfl) | (apply y_nei <;> exact rfl) | (apply y_eqs <;> exact rfl) | (apply y_nes <;> exact rfl) | (apply y_len_slice <;> exact rfl) | (apply y_len_string <;> exact rfl) | (apply y_cap_slice <;> exact rfl) | (apply y_extract <;> exact rfl) | (apply y_add; exact rfl; exact rfl; (first | exact rfl | (refine i64_wrap ?_; omega))) | (apply y_sub; exact rfl; exact rfl; (first | exact rfl | (refine i64_wrap ?_; omega))) | (apply y_indexAddr; exact rfl; exact rfl; exact rfl; exact rfl; exact rfl; omega) | (apply y_build; (focus (repeat first | exact evp_nil | (apply evp_cons; exact rfl))); exact rfl; exact rfl; exact .agg; (focus (repeat' constructor))) | (apply y_notp <;> exact rfl) | (apply y_not <;> exact rfl) | (apply y_pick_t <;> exact rfl) | (apply y_pick_f <;> exact rfl) | (apply y_makeFunc; (focus (repeat first | exact evs_nil | (apply evs_cons; exact rfl)))) | (apply y_from; exact rfl; exact rfl; exact rfl; exact rfl; exact rfl; omega; omega) | (apply y_to; exact rfl; exact rfl; exact rfl; exact rfl; exact rfl; omega) | (apply y_cut; exact rfl; exact rfl; exact rfl; exact rfl; exact rfl; exact rfl; omega) | (apply y_cut3; exact rfl; exact rfl; exact rfl; exact rfl; exact rfl; exact rfl; exact rfl; omega) | (apply y_sfrom; exact rfl; exact rfl; exact rfl; exact rfl; omega) | (apply y_sto; exact rfl; exact rfl; exact rfl; exact rfl; omega) | (apply y_lts <;> exact rfl) | (apply y_cats; exact rfl; exact rfl; omega) | (apply y_rem; exact rfl; exact rfl; (first | exact rfl | assumption); (first | exact rfl | (refine i64_wrap ?_; omega))) | (apply y_quo; exact rfl; exact rfl; (first | exact rfl | assumption); (first | exact rfl | (refine i64_wrap ?_; omega))) | (apply y_mul; exact rfl; exact rfl; (first | exact rfl | (refine i64_wrap ?_; omega))) | (apply y_eqb <;> exact rfl) | (apply y_neb <;> exact rfl) | (apply y_isnil <;> exact rfl) | (apply y_ispnil <;> exact rfl) | (apply y_eqst; exact rfl; exact rfl; kernel_rfl; assumption) | (apply y_nest; exact rfl; exact rfl; kernel_rfl; assumption)); exact rfl) | (apply go_box; exact rfl; (first | exact .agg | exact .one rfl); exact rfl; intro b) | (apply go_alloc; exact rfl; (first | exact .agg | exact .one rfl); exact rfl; intro b) | (apply go_makeMap; exact rfl; intro b) | (apply go_store; exact rfl; exact rfl; (first | exact .agg | exact .one rfl); exact rfl; exact rfl; exact rfl; (focus (repeat' first | exact Pick.here | apply Pick.there)); (focus (repeat' constructor))) | (apply go_lit; (focus (repeat first | exact evp_nil | (apply evp_cons; exact rfl))); exact rfl; exact rfl; exact rfl; (first | exact .agg | exact .one rfl); exact rfl; exact rfl; exact rfl; (focus (repeat' constructor)); exact rfl; intro b) | (apply go_cond_t; exact rfl) | (apply go_cond_f; exact rfl))
  refine go_quiet_ (by kernel_rfl) (by kernel_rfl) ?_
  (repeat' first | apply q_nil | (apply q_guard_yes; exact rfl) | (apply q_guard_no; exact rfl; exact rfl; exact rfl) | (apply q_read; (first | (apply y_move <;> exact rfl) | (apply y_assign <;> exact rfl) | (apply y_nilCheck <;> exact rfl) | (apply y_fieldAddr0 <;> exact rfl) | (apply y_fieldAddr <;> exact rfl) | (apply y_load; exact rfl; (first | (apply var_s; exact rfl; exact rfl; focus ((focus (repeat' first | exact cell_own rfl | exact cell_shr rfl | exact cell_own (by assumption) | exact cell_shr (by assumption) | (apply reads_cell <;> assumption) | apply cell_there)); done)) | (apply var_a; exact rfl; exact rfl; focus ((focus (repeat' first | (apply cells_own; focus (apply Seg.lit; (repeat' constructor); done)) | (apply cells_shr; focus (apply Seg.lit; (repeat' constructor); done)) | (apply cells_own; assumption) | (apply cells_shr; assumption) | (apply reads_cells <;> assumption) | apply cells_there)); done)))) | (apply y_lt <;> exact rfl) | (apply y_le <;> exact rfl) | (apply y_gt <;> exact rfl) | (apply y_ge <;> exact rfl) | (apply y_eqi <;> exact rfl) | (apply y_nei <;> exact rfl) | (apply y_eqs <;> exact rfl) | (apply y_nes <;> exact rfl) | (apply y_len_slice <;> exact rfl) | (apply y_len_string <;> exact rfl) | (apply y_cap_slice <;> exact rfl) | (apply y_extract <;> exact rfl) | (apply y_add; exact rfl; exact rfl; (first | exact rfl | (refine i64_wrap ?_; omega))) | (apply y_sub; exact rfl; exact rfl; (first | exact rfl | (refine i64_wrap ?_; omega))) | (apply y_indexAddr; exact rfl; exact rfl; exact rfl; exact rfl; exact rfl; omega) | (apply y_build; (focus (repeat first | exact evp_nil | (apply evp_cons; exact rfl))); exact rfl; exact rfl; exact .agg; (focus (repeat' constructor))) | (apply y_notp <;> exact rfl) | (apply y_not <;> exact rfl) | (apply y_pick_t <;> exact rfl) | (apply y_pick_f <;> exact rfl) | (apply y_makeFunc; (focus (repeat first | exact evs_nil | (apply evs_cons; exact rfl)))) | (apply y_from; exact rfl; exact rfl; exact rfl; exact rfl; exact rfl; omega; omega) | (apply y_to; exact rfl; exact rfl; exact rfl; exact rfl; exact rfl; omega) | (apply y_cut; exact rfl; exact rfl; exact rfl; exact rfl; exact rfl; exact rfl; omega) | (apply y_cut3; exact rfl; exact rfl; exact rfl; exact rfl; exact rfl; exact rfl; exact rfl; omega) | (apply y_sfrom; exact rfl; exact rfl; exact rfl; exact rfl; omega) | (apply y_sto; exact rfl; exact rfl; exact rfl; exact rfl; omega) | (apply y_lts <;> exact rfl) | (apply y_cats; exact rfl; exact rfl; omega) | (apply y_rem; exact rfl; exact rfl; (first | exact rfl | assumption); (first | exact rfl | (refine i64_wrap ?_; omega))) | (apply y_quo; exact rfl; exact rfl; (first | exact rfl | assumption); (first | exact rfl | (refine i64_wrap ?_; omega))) | (apply y_mul; exact rfl; exact rfl; (first | exact rfl | (refine i64_wrap ?_; omega))) | (apply y_eqb <;> exact rfl) | (apply y_neb <;> exact rfl) | (apply y_isnil <;> exact rfl) | (apply y_ispnil <;> exact rfl) | (apply y_eqst; exact rfl; exact rfl; kernel_rfl; assumption) | (apply y_nest; exact rfl; exact rfl; kernel_rfl; assumption)); exact rfl))
  refine q_read (y_started rfl (p := p) rfl (by repeat' first | exact Pick.here | apply Pick.there)) rfl ?_
  apply q_nil
  refine go_cond rfl ?_ ?_
  · intro hm
    (repeat' first | (apply go_guard_yes; exact rfl) | (apply go_guard_no; exact rfl; exact rfl; exact rfl) | apply go_seq | apply go_region | apply go_nil | apply go_skip | apply go_block | apply go_blk | (apply go_exit; exact rfl) | ((first | apply go_read | apply go_read0d); (first | (apply y_move <;> exact rfl) | (apply y_assign <;> exact rfl) | (apply y_nilCheck <;> exact rfl) | (apply y_fieldAddr0 <;> exact rfl) | (apply y_fieldAddr <;> exact rfl) | (apply y_load; exact rfl; (first | (apply var_s; exact rfl; exact rfl; focus ((focus (repeat' first | exact cell_own rfl | exact cell_shr rfl | exact cell_own (by assumption) | exact cell_shr (by assumption) | (apply reads_cell <;> assumption) | apply cell_there)); done)) | (apply var_a; exact rfl; exact rfl; focus ((focus (repeat' first | (apply cells_own; focus (apply Seg.lit; (repeat' constructor); done)) | (apply cells_shr; focus (apply Seg.lit; (repeat' constructor); done)) | (apply cells_own; assumption) | (apply cells_shr; assumption) | (apply reads_cells <;> assumption) | apply cells_there)); done)))) | (apply y_lt <;> exact rfl) | (apply y_le <;> exact rfl) | (apply y_gt <;> exact rfl) | (apply y_ge <;> exact rfl) | (apply y_eqi <;> exact rfl) | (apply y_nei <;> exact rfl) | (apply y_eqs <;> exact rfl) | (apply y_nes <;> exact rfl) | (apply y_len_slice <;> exact rfl) | (apply y_len_string <;> exact rfl) | (apply y_cap_slice <;> exact rfl) | (apply y_extract <;> exact rfl) | (apply y_add; exact rfl; exact rfl; (first | exact rfl | (refine i64_wrap ?_; omega))) | (apply y_sub; exact rfl; exact rfl; (first | exact rfl | (refine i64_wrap ?_; omega))) | (apply y_indexAddr; exact rfl; exact rfl; exact rfl; exact rfl; exact rfl; omega) | (apply y_build; (focus (repeat first | exact evp_nil | (apply evp_cons; exact rfl))); exact rfl; exact rfl; exact .agg; (focus (repeat' constructor))) | (apply y_notp <;> exact rfl) | (apply y_not <;> exact rfl) | (apply y_pick_t <;> exact rfl) | (apply y_pick_f <;> exact rfl) | (apply y_makeFunc; (focus (repeat first | exact evs_nil | (apply evs_cons; exact rfl)))) | (apply y_from; exact rfl; exact rfl; exact rfl; exact rfl; exact rfl; omega; omega) | (apply y_to; exact rfl; exact rfl; exact rfl; exact rfl; exact rfl; omega) | (apply y_cut; exact rfl; exact rfl; exact rfl; exact rfl; exact rfl; exact rfl; omega) | (apply y_cut3; exact rfl; exact rfl; exact rfl; exact rfl; exact rfl; exact rfl; exact rfl; omega) | (apply y_sfrom; exact rfl; exact rfl; exact rfl; exact rfl; omega) | (apply y_sto; exact rfl; exact rfl; exact rfl; exact rfl; omega) | (apply y_lts <;> exact rfl) | (apply y_cats; exact rfl; exact rfl; omega) | (apply y_rem; exact rfl; exact rfl; (first | exact rfl | assumption); (first | exact rfl | (refine i64_wrap ?_; omega))) | (apply y_quo; exact rfl; exact rfl; (first | exact rfl | assumption); (first | exact rfl | (refine i64_wrap ?_; omega))) | (apply y_mul; exact rfl; exact rfl; (first | exact rfl | (refine i64_wrap ?_; omega))) | (apply y_eqb <;> exact rfl) | (apply y_neb <;> exact rfl) | (apply y_isnil <;> exact rfl) | (apply y_ispnil <;> exact rfl) | (apply y_eqst; exact rfl; exact rfl; kernel_rfl; assumption) | (apply y_nest; exact rfl; exact rfl; kernel_rfl; assumption)); exact rfl) | (apply go_box; exact rfl; (first | exact .agg | exact .one rfl); exact rfl; intro b) | (apply go_alloc; exact rfl; (first | exact .agg | exact .one rfl); exact rfl; intro b) | (apply go_makeMap; exact rfl; intro b) | (apply go_store; exact rfl; exact rfl; (first | exact .agg | exact .one rfl); exact rfl; exact rfl; exact rfl; (focus (repeat' first | exact Pick.here | apply Pick.there)); (focus (repeat' constructor))) | (apply go_lit; (focus (repeat first | exact evp_nil | (apply evp_cons; exact rfl))); exact rfl; exact rfl; exact rfl; (first | exact .agg | exact .one rfl); exact rfl; exact rfl; exact rfl; (focus (repeat' constructor)); exact rfl; intro b) | (apply go_cond_t; exact rfl) | (apply go_cond_f; exact rfl))
    (apply go_ret; (first | (apply res_tmp; exact rfl; exact rfl) | (apply res_tmp2; exact rfl; exact rfl; exact rfl) | (apply res_cell; exact rfl; exact rfl; (first | (apply var_s; exact rfl; exact rfl; focus ((focus (repeat' first | exact cell_own rfl | exact cell_shr rfl | exact cell_own (by assumption) | exact cell_shr (by assumption) | (apply reads_cell <;> assumption) | apply cell_there)); done)) | (apply var_a; exact rfl; exact rfl; focus ((focus (repeat' first | (apply cells_own; focus (apply Seg.lit; (repeat' constructor); done)) | (apply cells_shr; focus (apply Seg.lit; (repeat' constructor); done)) | (apply cells_own; assumption) | (apply cells_shr; assumption) | (apply reads_cells <;> assumption) | apply cells_there)); done)))) | (apply res_cell_tmp; exact rfl; exact rfl; (first | (apply var_s; exact rfl; exact rfl; focus ((focus (repeat' first | exact cell_own rfl | exact cell_shr rfl | exact cell_own (by assumption) | exact cell_shr (by assumption) | (apply reads_cell <;> assumption) | apply cell_there)); done)) | (apply var_a; exact rfl; exact rfl; focus ((focus (repeat' first | (apply cells_own; focus (apply Seg.lit; (repeat' constructor); done)) | (apply cells_shr; focus (apply Seg.lit; (repeat' constructor); done)) | (apply cells_own; assumption) | (apply cells_shr; assumption) | (apply reads_cells <;> assumption) | apply cells_there)); done))); exact rfl) | (apply res_none; exact rfl)))
    · exact ⟨[], st, by rw [if_pos hm]; exact ⟨rfl, rfl⟩, none, 0, rfl, rfl⟩
    · refine Ent.trans ?_ row_nil
      apply hands_to hps
      exact ent5 (by repeat' first | exact Pick.here | apply Pick.there) (by repeat' first | exact Pick.here | apply Pick.there) (by repeat' first | exact Pick.here | apply Pick.there) (by repeat' first | exact Pick.here | apply Pick.there) (by repeat' first | exact Pick.here | apply Pick.there)
  · intro hm
    (repeat' first | (apply go_guard_yes; exact rfl) | (apply go_guard_no; exact rfl; exact rfl; exact rfl) | apply go_seq | apply go_region | apply go_nil | apply go_skip | apply go_block | apply go_blk | (apply go_exit; exact rfl) | ((first | apply go_read | apply go_read0d); (first | (apply y_move <;> exact rfl) | (apply y_assign <;> exact rfl) | (apply y_nilCheck <;> exact rfl) | (apply y_fieldAddr0 <;> exact rfl) | (apply y_fieldAddr <;> exact rfl) | (apply y_load; exact rfl; (first | (apply var_s; exact rfl; exact rfl; focus ((focus (repeat' first | exact cell_own rfl | exact cell_shr rfl | exact cell_own (by assumption) | exact cell_shr (by assumption) | (apply reads_cell <;> assumption) | apply cell_there)); done)) | (apply var_a; exact rfl; exact rfl; focus ((focus (repeat' first | (apply cells_own; focus (apply Seg.lit; (repeat' constructor); done)) | (apply cells_shr; focus (apply Seg.lit; (repeat' constructor); done)) | (apply cells_own; assumption) | (apply cells_shr; assumption) | (apply reads_cells <;> assumption) | apply cells_there)); done)))) | (apply y_lt <;> exact rfl) | (apply y_le <;> exact rfl) | (apply y_gt <;> exact rfl) | (apply y_ge <;> exact rfl) | (apply y_eqi <;> exact rfl) | (apply y_nei <;> exact rfl) | (apply y_eqs <;> exact rfl) | (apply y_nes <;> exact rfl) | (apply y_len_slice <;> exact rfl) | (apply y_len_string <;> exact rfl) | (apply y_cap_slice <;> exact rfl) | (apply y_extract <;> exact rfl) | (apply y_add; exact rfl; exact rfl; (first | exact rfl | (refine i64_wrap ?_; omega))) | (apply y_sub; exact rfl; exact rfl; (first | exact rfl | (refine i64_wrap ?_; omega))) | (apply y_indexAddr; exact rfl; exact rfl; exact rfl; exact rfl; exact rfl; omega) | (apply y_build; (focus (repeat first | exact evp_nil | (apply evp_cons; exact rfl))); exact rfl; exact rfl; exact .agg; (focus (repeat' constructor))) | (apply y_notp <;> exact rfl) | (apply y_not <;> exact rfl) | (apply y_pick_t <;> exact rfl) | (apply y_pick_f <;> exact rfl) | (apply y_makeFunc; (focus (repeat first | exact evs_nil | (apply evs_cons; exact rfl)))) | (apply y_from; exact rfl; exact rfl; exact rfl; exact rfl; exact rfl; omega; omega) | (apply y_to; exact rfl; exact rfl; exact rfl; exact rfl; exact rfl; omega) | (apply y_cut; exact rfl; exact rfl; exact rfl; exact rfl; exact rfl; exact rfl; omega) | (apply y_cut3; exact rfl; exact rfl; exact rfl; exact rfl; exact rfl; exact rfl; exact rfl; omega) | (apply y_sfrom; exact rfl; exact rfl; exact rfl; exact rfl; omega) | (apply y_sto; exact rfl; exact rfl; exact rfl; exact rfl; omega) | (apply y_lts <;> exact rfl) | (apply y_cats; exact rfl; exact rfl; omega) | (apply y_rem; exact rfl; exact rfl; (first | exact rfl | assumption); (first | exact rfl | (refine i64_wrap ?_; omega))) | (apply y_quo; exact rfl; exact rfl; (first | exact rfl | assumption); (first | exact rfl | (refine i64_wrap ?_; omega))) | (apply y_mul; exact rfl; exact rfl; (first | exact rfl | (refine i64_wrap ?_; omega))) | (apply y_eqb <;> exact rfl) | (apply y_neb <;> exact rfl) | (apply y_isnil <;> exact rfl) | (apply y_ispnil <;> exact rfl) | (apply y_eqst; exact rfl; exact rfl; kernel_rfl; assumption) | (apply y_nest; exact rfl; exact rfl; kernel_rfl; assumption)); exact rfl) | (apply go_box; exact rfl; (first | exact .agg | exact .one rfl); exact rfl; intro b) | (apply go_alloc; exact rfl; (first | exact .agg | exact .one rfl); exact rfl; intro b) | (apply go_makeMap; exact rfl; intro b) | (apply go_store; exact rfl; exact rfl; (first | exact .agg | exact .one rfl); exact rfl; exact rfl; exact rfl; (focus (repeat' first | exact Pick.here | apply Pick.there)); (focus (repeat' constructor))) | (apply go_lit; (focus (repeat first | exact evp_nil | (apply evp_cons; exact rfl))); exact rfl; exact rfl; exact rfl; (first | exact .agg | exact .one rfl); exact rfl; exact rfl; exact rfl; (focus (repeat' constructor)); exact rfl; intro b) | (apply go_cond_t; exact rfl) | (apply go_cond_f; exact rfl))
    apply go_drawn 5 [⟨[], [], Det _⟩, ⟨[], [], Det _⟩, ⟨[], [], Det _⟩, ⟨[], [], Det _⟩, ⟨[], [], Det _⟩] (pts b 134 (idL p) :: (hL c B c1 B2 c2 bm ps st ++ F))
    · kernel_rfl
    · kernel_rfl
    · exact rfl
    · exact Ent.refl _
    · refine ⟨?_, ?_, ?_, ?_, ?_, trivial⟩
      · refine opok (deps := []) (q := 0) (ts := [0]) (by kernel_rfl) (by kernel_rfl) (by kernel_rfl) rfl ?_
        refine need_nil ?_
        apply od
        · (apply y_move <;> exact rfl)
        · exact ⟨[], ⟨rfl, rfl⟩, rfl⟩
      · refine opok (deps := [(0, 11)]) (q := 1) (ts := [11]) (by kernel_rfl) (by kernel_rfl) (by kernel_rfl) rfl ?_
        refine need_cons ?_; rintro v0 B0 ⟨rfl, rfl⟩
        refine need_nil ?_
        apply od
        · (apply y_nilCheck <;> exact rfl)
        · exact ⟨[], ⟨rfl, rfl⟩, rfl⟩
      · refine opok (deps := [(1, 12)]) (q := 1) (ts := [12]) (by kernel_rfl) (by kernel_rfl) (by kernel_rfl) rfl ?_
        refine need_cons ?_; rintro v0 B0 ⟨rfl, rfl⟩
        refine need_nil ?_
        apply od
        · (first | (apply y_fieldAddr0 <;> exact rfl) | (apply y_fieldAddr <;> exact rfl))
        · exact ⟨[], ⟨rfl, rfl⟩, rfl⟩
      · refine opok (deps := [(2, 13)]) (q := 1) (ts := [13]) (by kernel_rfl) (by kernel_rfl) (by kernel_rfl) rfl ?_
        refine need_cons ?_; rintro v0 B0 ⟨rfl, rfl⟩
        refine need_nil ?_
        apply od
        · (apply y_load; exact rfl; (first | (apply var_s; exact rfl; exact rfl; focus ((focus (repeat' first | exact cell_own rfl | exact cell_shr rfl | exact cell_own (by assumption) | exact cell_shr (by assumption) | (apply reads_cell <;> assumption) | apply cell_there)); done)) | (apply var_a; exact rfl; exact rfl; focus ((focus (repeat' first | (apply cells_own; focus (apply Seg.lit; (repeat' constructor); done)) | (apply cells_shr; focus (apply Seg.lit; (repeat' constructor); done)) | (apply cells_own; assumption) | (apply cells_shr; assumption) | (apply reads_cells <;> assumption) | apply cells_there)); done))))
        · exact ⟨[], ⟨rfl, rfl⟩, rfl⟩
      · refine opok (deps := []) (q := 0) (ts := [3]) (by kernel_rfl) (by kernel_rfl) (by kernel_rfl) rfl ?_
        refine need_nil ?_
        apply od
        · (apply y_load; exact rfl; (first | (apply var_s; exact rfl; exact rfl; focus ((focus (repeat' first | exact cell_own rfl | exact cell_shr rfl | exact cell_own (by assumption) | exact cell_shr (by assumption) | (apply reads_cell <;> assumption) | apply cell_there)); done)) | (apply var_a; exact rfl; exact rfl; focus ((focus (repeat' first | (apply cells_own; focus (apply Seg.lit; (repeat' constructor); done)) | (apply cells_shr; focus (apply Seg.lit; (repeat' constructor); done)) | (apply cells_own; assumption) | (apply cells_shr; assumption) | (apply reads_cells <;> assumption) | apply cells_there)); done))))
        · exact ⟨[], ⟨rfl, rfl⟩, rfl⟩
    refine left_cons rfl ?_; rintro v0 B0 ⟨rfl, rfl⟩
    refine left_cons rfl ?_; rintro v1 B1 ⟨rfl, rfl⟩
    refine left_cons rfl ?_; rintro v2 B2 ⟨rfl, rfl⟩
    refine left_cons rfl ?_; rintro v3 B3 ⟨rfl, rfl⟩
    refine left_cons rfl ?_; rintro v4 B4 ⟨rfl, rfl⟩
    refine left_nil ?_
    refine go_norm (L' := [(0, _), (3, _), (14, _), (15, _)]) (A' := pts b 134 (idL p) :: (hL c B c1 B2 c2 bm ps st ++ F)) ⟨rfl, rfl, rfl, rfl, trivial⟩ rfl ?_
    simp only [List.drop_succ_cons, List.drop_zero]

    apply go_update idK (c := p)
    · exact rfl
    · exact rfl
    · exact rfl
    · exact rfl
    · exact rfl
    · (focus (repeat' first | exact Pick.here | apply Pick.there))
    rw [up_started _ _ hm]
    (repeat' first | (apply go_guard_yes; exact rfl) | (apply go_guard_no; exact rfl; exact rfl; exact rfl) | apply go_seq | apply go_region | apply go_nil | apply go_skip | apply go_block | apply go_blk | (apply go_exit; exact rfl) | ((first | apply go_read | apply go_read0d); (first | (apply y_move <;> exact rfl) | (apply y_assign <;> exact rfl) | (apply y_nilCheck <;> exact rfl) | (apply y_fieldAddr0 <;> exact rfl) | (apply y_fieldAddr <;> exact rfl) | (apply y_load; exact rfl; (first | (apply var_s; exact rfl; exact rfl; focus ((focus (repeat' first | exact cell_own rfl | exact cell_shr rfl | exact cell_own (by assumption) | exact cell_shr (by assumption) | (apply reads_cell <;> assumption) | apply cell_there)); done)) | (apply var_a; exact rfl; exact rfl; focus ((focus (repeat' first | (apply cells_own; focus (apply Seg.lit; (repeat' constructor); done)) | (apply cells_shr; focus (apply Seg.lit; (repeat' constructor); done)) | (apply cells_own; assumption) | (apply cells_shr; assumption) | (apply reads_cells <;> assumption) | apply cells_there)); done)))) | (apply y_lt <;> exact rfl) | (apply y_le <;> exact rfl) | (apply y_gt <;> exact rfl) | (apply y_ge <;> exact rfl) | (apply y_eqi <;> exact rfl) | (apply y_nei <;> exact rfl) | (apply y_eqs <;> exact rfl) | (apply y_nes <;> exact rfl) | (apply y_len_slice <;> exact rfl) | (apply y_len_string <;> exact rfl) | (apply y_cap_slice <;> exact rfl) | (apply y_extract <;> exact rfl) | (apply y_add; exact rfl; exact rfl; (first | exact rfl | (refine i64_wrap ?_; omega))) | (apply y_sub; exact rfl; exact rfl; (first | exact rfl | (refine i64_wrap ?_; omega))) | (apply y_indexAddr; exact rfl; exact rfl; exact rfl; exact rfl; exact rfl; omega) | (apply y_build; (focus (repeat first | exact evp_nil | (apply evp_cons; exact rfl))); exact rfl; exact rfl; exact .agg; (focus (repeat' constructor))) | (apply y_notp <;> exact rfl) | (apply y_not <;> exact rfl) | (apply y_pick_t <;> exact rfl) | (apply y_pick_f <;> exact rfl) | (apply y_makeFunc; (focus (repeat first | exact evs_nil | (apply evs_cons; exact rfl)))) | (apply y_from; exact rfl; exact rfl; exact rfl; exact rfl; exact rfl; omega; omega) | (apply y_to; exact rfl; exact rfl; exact rfl; exact rfl; exact rfl; omega) | (apply y_cut; exact rfl; exact rfl; exact rfl; exact rfl; exact rfl; exact rfl; omega) | (apply y_cut3; exact rfl; exact rfl; exact rfl; exact rfl; exact rfl; exact rfl; exact rfl; omega) | (apply y_sfrom; exact rfl; exact rfl; exact rfl; exact rfl; omega) | (apply y_sto; exact rfl; exact rfl; exact rfl; exact rfl; omega) | (apply y_lts <;> exact rfl) | (apply y_cats; exact rfl; exact rfl; omega) | (apply y_rem; exact rfl; exact rfl; (first | exact rfl | assumption); (first | exact rfl | (refine i64_wrap ?_; omega))) | (apply y_quo; exact rfl; exact rfl; (first | exact rfl | assumption); (first | exact rfl | (refine i64_wrap ?_; omega))) | (apply y_mul; exact rfl; exact rfl; (first | exact rfl | (refine i64_wrap ?_; omega))) | (apply y_eqb <;> exact rfl) | (apply y_neb <;> exact rfl) | (apply y_isnil <;> exact rfl) | (apply y_ispnil <;> exact rfl) | (apply y_eqst; exact rfl; exact rfl; kernel_rfl; assumption) | (apply y_nest; exact rfl; exact rfl; kernel_rfl; assumption)); exact rfl) | (apply go_box; exact rfl; (first | exact .agg | exact .one rfl); exact rfl; intro b) | (apply go_alloc; exact rfl; (first | exact .agg | exact .one rfl); exact rfl; intro b) | (apply go_makeMap; exact rfl; intro b) | (apply go_store; exact rfl; exact rfl; (first | exact .agg | exact .one rfl); exact rfl; exact rfl; exact rfl; (focus (repeat' first | exact Pick.here | apply Pick.there)); (focus (repeat' constructor))) | (apply go_lit; (focus (repeat first | exact evp_nil | (apply evp_cons; exact rfl))); exact rfl; exact rfl; exact rfl; (first | exact .agg | exact .one rfl); exact rfl; exact rfl; exact rfl; (focus (repeat' constructor)); exact rfl; intro b) | (apply go_cond_t; exact rfl) | (apply go_cond_f; exact rfl))
    apply go_drawn 10 [⟨[], [], Det _⟩, ⟨[], [], Det _⟩, ⟨[], [], Det _⟩, ⟨[], [], Det _⟩, ⟨[], [], Det _⟩, ⟨[], [], Det _⟩, ⟨[], [], Det _⟩, ⟨[], [], fun v B => ∃ b2, v = .pointer (some ⟨b2, 0, none⟩) ∧ B = [pts b2 144 [.string p.1, .string p.2.1, .int .i64 p.2.2, .slice none 0 0]]⟩, ⟨[], [7], fun v B => ∃ b2, ∃ b3, v = .slice (some ⟨b3, 0, none⟩) 1 1 ∧ B = pts b3 137 ([.pointer (some ⟨b2, 0, none⟩)] : List Value) :: [pts b2 144 [.string p.1, .string p.2.1, .int .i64 p.2.2, .slice none 0 0]]⟩, ⟨[row (.slice B ps.length c1) 137 1 (ps.length) (ps.flatMap fun x => [ptrP x])], [8], fun v B => ∃ b2, ∃ b3 D cap, v = .slice D (ps.length + 1) cap ∧ B = row (.slice D (ps.length + 1) cap) 137 1 (ps.length + 1) ((ps.flatMap fun x => [ptrP x]) ++ ([.pointer (some ⟨b2, 0, none⟩)] : List Value)) :: pts b3 137 ([.pointer (some ⟨b2, 0, none⟩)] : List Value) :: [pts b2 144 [.string p.1, .string p.2.1, .int .i64 p.2.2, .slice none 0 0]]⟩] (mapP bm (pairs idV ((st.started ++ [p]).map fun p => (p, Value.bool true))) :: pts b 134 (idL p) :: pts c 131 [.slice B ps.length c1, .map (some bm), .slice B2 st.keys.length c2] :: row (.slice B2 st.keys.length c2) 30 2 st.keys.length (st.keys.flatMap keyL) :: fl procP ps :: F)
    · kernel_rfl
    · kernel_rfl
    · exact rfl
    · exact entr1 (by repeat' first | exact Pick.here | apply Pick.there) (ent5 (by repeat' first | exact Pick.here | apply Pick.there) (by repeat' first | exact Pick.here | apply Pick.there) (by repeat' first | exact Pick.here | apply Pick.there) (by repeat' first | exact Pick.here | apply Pick.there) (by repeat' first | exact Pick.here | apply Pick.there))
    · refine ⟨?_, ?_, ?_, ?_, ?_, ?_, ?_, ?_, ?_, ?_, trivial⟩
      · refine opok (deps := []) (q := 0) (ts := [0]) (by kernel_rfl) (by kernel_rfl) (by kernel_rfl) rfl ?_
        refine need_nil ?_
        apply od
        · (apply y_move <;> exact rfl)
        · exact ⟨[], ⟨rfl, rfl⟩, rfl⟩
      · refine opok (deps := []) (q := 0) (ts := [0]) (by kernel_rfl) (by kernel_rfl) (by kernel_rfl) rfl ?_
        refine need_nil ?_
        apply od
        · (apply y_move <;> exact rfl)
        · exact ⟨[], ⟨rfl, rfl⟩, rfl⟩
      · refine opok (deps := [(1, 17)]) (q := 1) (ts := [17]) (by kernel_rfl) (by kernel_rfl) (by kernel_rfl) rfl ?_
        refine need_cons ?_; rintro v0 B0 ⟨rfl, rfl⟩
        refine need_nil ?_
        apply od
        · (apply y_nilCheck <;> exact rfl)
        · exact ⟨[], ⟨rfl, rfl⟩, rfl⟩
      · refine opok (deps := [(2, 18)]) (q := 1) (ts := [18]) (by kernel_rfl) (by kernel_rfl) (by kernel_rfl) rfl ?_
        refine need_cons ?_; rintro v0 B0 ⟨rfl, rfl⟩
        refine need_nil ?_
        apply od
        · (first | (apply y_fieldAddr0 <;> exact rfl) | (apply y_fieldAddr <;> exact rfl))
        · exact ⟨[], ⟨rfl, rfl⟩, rfl⟩
      · refine opok (deps := [(3, 19)]) (q := 1) (ts := [19]) (by kernel_rfl) (by kernel_rfl) (by kernel_rfl) rfl ?_
        refine need_cons ?_; rintro v0 B0 ⟨rfl, rfl⟩
        refine need_nil ?_
        apply od
        · (apply y_load; exact rfl; (first | (apply var_s; exact rfl; exact rfl; focus ((focus (repeat' first | exact cell_own rfl | exact cell_shr rfl | exact cell_own (by assumption) | exact cell_shr (by assumption) | (apply reads_cell <;> assumption) | apply cell_there)); done)) | (apply var_a; exact rfl; exact rfl; focus ((focus (repeat' first | (apply cells_own; focus (apply Seg.lit; (repeat' constructor); done)) | (apply cells_shr; focus (apply Seg.lit; (repeat' constructor); done)) | (apply cells_own; assumption) | (apply cells_shr; assumption) | (apply reads_cells <;> assumption) | apply cells_there)); done))))
        · exact ⟨[], ⟨rfl, rfl⟩, rfl⟩
      · refine opok (deps := []) (q := 0) (ts := [3]) (by kernel_rfl) (by kernel_rfl) (by kernel_rfl) rfl ?_
        refine need_nil ?_
        apply od
        · (apply y_load; exact rfl; (first | (apply var_s; exact rfl; exact rfl; focus ((focus (repeat' first | exact cell_own rfl | exact cell_shr rfl | exact cell_own (by assumption) | exact cell_shr (by assumption) | (apply reads_cell <;> assumption) | apply cell_there)); done)) | (apply var_a; exact rfl; exact rfl; focus ((focus (repeat' first | (apply cells_own; focus (apply Seg.lit; (repeat' constructor); done)) | (apply cells_shr; focus (apply Seg.lit; (repeat' constructor); done)) | (apply cells_own; assumption) | (apply cells_shr; assumption) | (apply reads_cells <;> assumption) | apply cells_there)); done))))
        · exact ⟨[], ⟨rfl, rfl⟩, rfl⟩
      · refine opok (deps := [(5, 21)]) (q := 1) (ts := [21]) (by kernel_rfl) (by kernel_rfl) (by kernel_rfl) rfl ?_
        refine need_cons ?_; rintro v0 B0 ⟨rfl, rfl⟩
        refine need_nil ?_
        apply od
        · (apply y_build; (focus (repeat first | exact evp_nil | (apply evp_cons; exact rfl))); exact rfl; exact rfl; exact .agg; (focus (repeat' constructor)))
        · exact ⟨[], ⟨rfl, rfl⟩, rfl⟩
      · refine opok (deps := [(6, 22)]) (q := 1) (ts := [22]) (by kernel_rfl) (by kernel_rfl) (by kernel_rfl) rfl ?_
        refine need_cons ?_; rintro v0 B0 ⟨rfl, rfl⟩
        refine need_nil ?_
        refine (o_box rfl .agg).mono ?_
        rintro v post ⟨b2, rfl, rfl⟩
        exact ⟨_, ⟨b2, rfl, rfl⟩, rfl⟩
      · refine opok (deps := [(7, 23)]) (q := 1) (ts := [23]) (by kernel_rfl) (by kernel_rfl) (by kernel_rfl) rfl ?_
        refine need_cons ?_; rintro v0 B0 ⟨b2, rfl, rfl⟩
        refine need_nil ?_
        apply OpR.mono
        · apply o_buildSlice
          · (focus (repeat first | exact evp_nil | (apply evp_cons; exact rfl)))
          · exact rfl
          · exact rfl
          · exact rfl
          · (first | exact .agg | exact .one rfl)
          · exact rfl
          · exact rfl
          · exact rfl
          · repeat' constructor
        · rintro v post ⟨b3, rfl, rfl⟩
          exact ⟨_, ⟨b2, b3, rfl, rfl⟩, rfl⟩
      · refine opok (deps := [(4, 20), (8, 24)]) (q := 2) (ts := [20, 24]) (by kernel_rfl) (by kernel_rfl) (by kernel_rfl) rfl ?_
        refine need_cons ?_; rintro v0 B0 ⟨rfl, rfl⟩
        refine need_cons ?_; rintro v1 B1 ⟨b2, b3, rfl, rfl⟩
        refine need_nil ?_
        apply OpR.mono
        · apply o_append (m := ps.length) (q := 1) (news := ([.pointer (some ⟨b2, 0, none⟩)] : List Value)) (X := pts b3 137 ([.pointer (some ⟨b2, 0, none⟩)] : List Value))
          · exact rfl
          · exact rfl
          · exact rfl
          · exact rfl
          · exact rfl
          · exact rfl
          · exact rfl
          · exact rfl
          · exact pts_reads rfl
          · intro u hu
            simp only [List.mem_cons, List.not_mem_nil, or_false] at hu
            rcases hu with rfl <;> rfl
          · unfold maxLen; omega
          · show (ps.length + 1) * 8 ≤ _; omega
          · omega
        · rintro v post ⟨D, cap, rfl, rfl⟩
          exact ⟨_, ⟨b2, b3, D, cap, rfl, rfl⟩, rfl⟩
    refine left_cons rfl ?_; rintro v0 B0 ⟨rfl, rfl⟩
    refine left_cons rfl ?_; rintro v1 B1 ⟨rfl, rfl⟩
    refine left_cons rfl ?_; rintro v2 B2 ⟨rfl, rfl⟩
    refine left_cons rfl ?_; rintro v3 B3 ⟨rfl, rfl⟩
    refine left_cons rfl ?_; rintro v4 B4 ⟨rfl, rfl⟩
    refine left_cons rfl ?_; rintro v5 B5 ⟨rfl, rfl⟩
    refine left_cons rfl ?_; rintro v6 B6 ⟨rfl, rfl⟩
    refine left_cons rfl ?_; rintro v7 B7 ⟨b2, rfl, rfl⟩
    refine left_cons rfl ?_; rintro v8 B8 ⟨b2, b3, rfl, rfl⟩
    refine left_cons rfl ?_; rintro v9 B9 ⟨b2, b3, D, cap, rfl, rfl⟩
    refine left_nil ?_
    refine go_norm (L' := [(0, _), (3, _), (16, _), (25, _)]) (A' := _) ⟨rfl, rfl, rfl, rfl, trivial⟩ rfl ?_
    simp only [List.drop_succ_cons, List.drop_zero]

    (repeat' first | (apply go_guard_yes; exact rfl) | (apply go_guard_no; exact rfl; exact rfl; exact rfl) | apply go_seq | apply go_region | apply go_nil | apply go_skip | apply go_block | apply go_blk | (apply go_exit; exact rfl) | ((first | apply go_read | apply go_read0d); (first | (apply y_move <;> exact rfl) | (apply y_assign <;> exact rfl) | (apply y_nilCheck <;> exact rfl) | (apply y_fieldAddr0 <;> exact rfl) | (apply y_fieldAddr <;> exact rfl) | (apply y_load; exact rfl; (first | (apply var_s; exact rfl; exact rfl; focus ((focus (repeat' first | exact cell_own rfl | exact cell_shr rfl | exact cell_own (by assumption) | exact cell_shr (by assumption) | (apply reads_cell <;> assumption) | apply cell_there)); done)) | (apply var_a; exact rfl; exact rfl; focus ((focus (repeat' first | (apply cells_own; focus (apply Seg.lit; (repeat' constructor); done)) | (apply cells_shr; focus (apply Seg.lit; (repeat' constructor); done)) | (apply cells_own; assumption) | (apply cells_shr; assumption) | (apply reads_cells <;> assumption) | apply cells_there)); done)))) | (apply y_lt <;> exact rfl) | (apply y_le <;> exact rfl) | (apply y_gt <;> exact rfl) | (apply y_ge <;> exact rfl) | (apply y_eqi <;> exact rfl) | (apply y_nei <;> exact rfl) | (apply y_eqs <;> exact rfl) | (apply y_nes <;> exact rfl) | (apply y_len_slice <;> exact rfl) | (apply y_len_string <;> exact rfl) | (apply y_cap_slice <;> exact rfl) | (apply y_extract <;> exact rfl) | (apply y_add; exact rfl; exact rfl; (first | exact rfl | (refine i64_wrap ?_; omega))) | (apply y_sub; exact rfl; exact rfl; (first | exact rfl | (refine i64_wrap ?_; omega))) | (apply y_indexAddr; exact rfl; exact rfl; exact rfl; exact rfl; exact rfl; omega) | (apply y_build; (focus (repeat first | exact evp_nil | (apply evp_cons; exact rfl))); exact rfl; exact rfl; exact .agg; (focus (repeat' constructor))) | (apply y_notp <;> exact rfl) | (apply y_not <;> exact rfl) | (apply y_pick_t <;> exact rfl) | (apply y_pick_f <;> exact rfl) | (apply y_makeFunc; (focus (repeat first | exact evs_nil | (apply evs_cons; exact rfl)))) | (apply y_from; exact rfl; exact rfl; exact rfl; exact rfl; exact rfl; omega; omega) | (apply y_to; exact rfl; exact rfl; exact rfl; exact rfl; exact rfl; omega) | (apply y_cut; exact rfl; exact rfl; exact rfl; exact rfl; exact rfl; exact rfl; omega) | (apply y_cut3; exact rfl; exact rfl; exact rfl; exact rfl; exact rfl; exact rfl; exact rfl; omega) | (apply y_sfrom; exact rfl; exact rfl; exact rfl; exact rfl; omega) | (apply y_sto; exact rfl; exact rfl; exact rfl; exact rfl; omega) | (apply y_lts <;> exact rfl) | (apply y_cats; exact rfl; exact rfl; omega) | (apply y_rem; exact rfl; exact rfl; (first | exact rfl | assumption); (first | exact rfl | (refine i64_wrap ?_; omega))) | (apply y_quo; exact rfl; exact rfl; (first | exact rfl | assumption); (first | exact rfl | (refine i64_wrap ?_; omega))) | (apply y_mul; exact rfl; exact rfl; (first | exact rfl | (refine i64_wrap ?_; omega))) | (apply y_eqb <;> exact rfl) | (apply y_neb <;> exact rfl) | (apply y_isnil <;> exact rfl) | (apply y_ispnil <;> exact rfl) | (apply y_eqst; exact rfl; exact rfl; kernel_rfl; assumption) | (apply y_nest; exact rfl; exact rfl; kernel_rfl; assumption)); exact rfl) | (apply go_box; exact rfl; (first | exact .agg | exact .one rfl); exact rfl; intro b) | (apply go_alloc; exact rfl; (first | exact .agg | exact .one rfl); exact rfl; intro b) | (apply go_makeMap; exact rfl; intro b) | (apply go_store; exact rfl; exact rfl; (first | exact .agg | exact .one rfl); exact rfl; exact rfl; exact rfl; (focus (repeat' first | exact Pick.here | apply Pick.there)); (focus (repeat' constructor))) | (apply go_lit; (focus (repeat first | exact evp_nil | (apply evp_cons; exact rfl))); exact rfl; exact rfl; exact rfl; (first | exact .agg | exact .one rfl); exact rfl; exact rfl; exact rfl; (focus (repeat' constructor)); exact rfl; intro b) | (apply go_cond_t; exact rfl) | (apply go_cond_f; exact rfl))
    refine go_fn (say_t 7 p) enter82 rfl (evs_cons rfl (evs_cons rfl evs_nil)) ent0 rfl ?_
    rintro v post ⟨rfl, rfl⟩
    refine app0 ?_
    (repeat' first | (apply go_guard_yes; exact rfl) | (apply go_guard_no; exact rfl; exact rfl; exact rfl) | apply go_seq | apply go_region | apply go_nil | apply go_skip | apply go_block | apply go_blk | (apply go_exit; exact rfl) | ((first | apply go_read | apply go_read0d); (first | (apply y_move <;> exact rfl) | (apply y_assign <;> exact rfl) | (apply y_nilCheck <;> exact rfl) | (apply y_fieldAddr0 <;> exact rfl) | (apply y_fieldAddr <;> exact rfl) | (apply y_load; exact rfl; (first | (apply var_s; exact rfl; exact rfl; focus ((focus (repeat' first | exact cell_own rfl | exact cell_shr rfl | exact cell_own (by assumption) | exact cell_shr (by assumption) | (apply reads_cell <;> assumption) | apply cell_there)); done)) | (apply var_a; exact rfl; exact rfl; focus ((focus (repeat' first | (apply cells_own; focus (apply Seg.lit; (repeat' constructor); done)) | (apply cells_shr; focus (apply Seg.lit; (repeat' constructor); done)) | (apply cells_own; assumption) | (apply cells_shr; assumption) | (apply reads_cells <;> assumption) | apply cells_there)); done)))) | (apply y_lt <;> exact rfl) | (apply y_le <;> exact rfl) | (apply y_gt <;> exact rfl) | (apply y_ge <;> exact rfl) | (apply y_eqi <;> exact rfl) | (apply y_nei <;> exact rfl) | (apply y_eqs <;> exact rfl) | (apply y_nes <;> exact rfl) | (apply y_len_slice <;> exact rfl) | (apply y_len_string <;> exact rfl) | (apply y_cap_slice <;> exact rfl) | (apply y_extract <;> exact rfl) | (apply y_add; exact rfl; exact rfl; (first | exact rfl | (refine i64_wrap ?_; omega))) | (apply y_sub; exact rfl; exact rfl; (first | exact rfl | (refine i64_wrap ?_; omega))) | (apply y_indexAddr; exact rfl; exact rfl; exact rfl; exact rfl; exact rfl; omega) | (apply y_build; (focus (repeat first | exact evp_nil | (apply evp_cons; exact rfl))); exact rfl; exact rfl; exact .agg; (focus (repeat' constructor))) | (apply y_notp <;> exact rfl) | (apply y_not <;> exact rfl) | (apply y_pick_t <;> exact rfl) | (apply y_pick_f <;> exact rfl) | (apply y_makeFunc; (focus (repeat first | exact evs_nil | (apply evs_cons; exact rfl)))) | (apply y_from; exact rfl; exact rfl; exact rfl; exact rfl; exact rfl; omega; omega) | (apply y_to; exact rfl; exact rfl; exact rfl; exact rfl; exact rfl; omega) | (apply y_cut; exact rfl; exact rfl; exact rfl; exact rfl; exact rfl; exact rfl; omega) | (apply y_cut3; exact rfl; exact rfl; exact rfl; exact rfl; exact rfl; exact rfl; exact rfl; omega) | (apply y_sfrom; exact rfl; exact rfl; exact rfl; exact rfl; omega) | (apply y_sto; exact rfl; exact rfl; exact rfl; exact rfl; omega) | (apply y_lts <;> exact rfl) | (apply y_cats; exact rfl; exact rfl; omega) | (apply y_rem; exact rfl; exact rfl; (first | exact rfl | assumption); (first | exact rfl | (refine i64_wrap ?_; omega))) | (apply y_quo; exact rfl; exact rfl; (first | exact rfl | assumption); (first | exact rfl | (refine i64_wrap ?_; omega))) | (apply y_mul; exact rfl; exact rfl; (first | exact rfl | (refine i64_wrap ?_; omega))) | (apply y_eqb <;> exact rfl) | (apply y_neb <;> exact rfl) | (apply y_isnil <;> exact rfl) | (apply y_ispnil <;> exact rfl) | (apply y_eqst; exact rfl; exact rfl; kernel_rfl; assumption) | (apply y_nest; exact rfl; exact rfl; kernel_rfl; assumption)); exact rfl) | (apply go_box; exact rfl; (first | exact .agg | exact .one rfl); exact rfl; intro b) | (apply go_alloc; exact rfl; (first | exact .agg | exact .one rfl); exact rfl; intro b) | (apply go_makeMap; exact rfl; intro b) | (apply go_store; exact rfl; exact rfl; (first | exact .agg | exact .one rfl); exact rfl; exact rfl; exact rfl; (focus (repeat' first | exact Pick.here | apply Pick.there)); (focus (repeat' constructor))) | (apply go_lit; (focus (repeat first | exact evp_nil | (apply evp_cons; exact rfl))); exact rfl; exact rfl; exact rfl; (first | exact .agg | exact .one rfl); exact rfl; exact rfl; exact rfl; (focus (repeat' constructor)); exact rfl; intro b) | (apply go_cond_t; exact rfl) | (apply go_cond_f; exact rfl))
    (apply go_ret; (first | (apply res_tmp; exact rfl; exact rfl) | (apply res_tmp2; exact rfl; exact rfl; exact rfl) | (apply res_cell; exact rfl; exact rfl; (first | (apply var_s; exact rfl; exact rfl; focus ((focus (repeat' first | exact cell_own rfl | exact cell_shr rfl | exact cell_own (by assumption) | exact cell_shr (by assumption) | (apply reads_cell <;> assumption) | apply cell_there)); done)) | (apply var_a; exact rfl; exact rfl; focus ((focus (repeat' first | (apply cells_own; focus (apply Seg.lit; (repeat' constructor); done)) | (apply cells_shr; focus (apply Seg.lit; (repeat' constructor); done)) | (apply cells_own; assumption) | (apply cells_shr; assumption) | (apply reads_cells <;> assumption) | apply cells_there)); done)))) | (apply res_cell_tmp; exact rfl; exact rfl; (first | (apply var_s; exact rfl; exact rfl; focus ((focus (repeat' first | exact cell_own rfl | exact cell_shr rfl | exact cell_own (by assumption) | exact cell_shr (by assumption) | (apply reads_cell <;> assumption) | apply cell_there)); done)) | (apply var_a; exact rfl; exact rfl; focus ((focus (repeat' first | (apply cells_own; focus (apply Seg.lit; (repeat' constructor); done)) | (apply cells_shr; focus (apply Seg.lit; (repeat' constructor); done)) | (apply cells_own; assumption) | (apply cells_shr; assumption) | (apply reads_cells <;> assumption) | apply cells_there)); done))); exact rfl) | (apply res_none; exact rfl)))
    · refine ⟨[⟨7, p, ⟨#[]⟩, 0⟩], ⟨st.procs ++ [(p, [])], st.started ++ [p], st.keys⟩, by rw [if_neg (by rw [hm]; simp)]; exact ⟨rfl, rfl⟩, _, 1, rfl, rfl⟩
    · refine Ent.trans (entr1 (by repeat' first | exact Pick.here | apply Pick.there) (Ent.refl _)) (Ent.trans (row_of_pts (q := 1) (by simp [outL]) (by unfold maxLen; omega)) (Ent.cons ?_))
      apply hands_to (ps := ps ++ [⟨b2, p, .slice none 0 0, []⟩]) (by rw [List.map_append, hps]; rfl)
      simp only [handsL, List.length_append, List.length_singleton, List.flatMap_append, List.flatMap_cons, List.flatMap_nil, List.append_nil]
      refine Ent.pick (by repeat' first | exact Pick.here | apply Pick.there) (Ent.pick (by repeat' first | exact Pick.here | apply Pick.there) (Ent.pick (by repeat' first | exact Pick.here | apply Pick.there) (Ent.pick (by repeat' first | exact Pick.here | apply Pick.there) ?_)))
      refine Ent.trans ?_ (fl_snoc _)
      refine Ent.pick (by repeat' first | exact Pick.here | apply Pick.there) (Ent.pick (by repeat' first | exact Pick.here | apply Pick.there) ?_)
      refine Ent.trans ?_ row_nil
      (repeat' first | exact Ent.refl _ | apply entd)
end Go.Proofs.Ytkogmpeodamdgaa
