/-
  The crew of 16: the walks of all, drop, late and wakes. Conditions: the world holds the crew.
-/
import Derived.Test.YtkogmpeodamdgaaProg
import Derived.Test.YtkogmpeodamdgaaCrewC
import Derived.LaidEqlPtr
import Derived.WalkKit
import Derived.WalkSpells
import Derived.WalkLawsBesides
import Derived.Deep.QuietTactic
import Derived.BigQuiet
import Derived.Deep.LoopGhost
import Derived.Deep.DeepCutAuto
import Derived.Deep.RegionLaw
import Derived.Deep.AppendLies
import Derived.Maps.AppendAt
namespace Go.Proofs.Ytkogmpeodamdgaa
open Go.RowKit
set_option maxRecDepth 100000

theorem ptrV_one (L : List (Nat × RunS)) : ∀ u ∈ L.map ptrV, u.oneCell' = true := by
  intro u hu
  obtain ⟨x, _, rfl⟩ := List.mem_map.1 hu
  rfl

set_option maxHeartbeats 1000000 in
theorem crew_all (base c : Nat) (A : Option Addr) (cap : Nat) (L : List (Nat × RunS)) (w : World) (h : CrewAt w base c A cap L) (hn : L.length ≤ 1000000) :
    Calls Try.prog 29 #[.pointer (some ⟨c, 0, none⟩)] w (Cloned71 L.length (L.map ptrV) w) := by
  have hc0 : w.cell? ⟨c, 0, none⟩ = some (.slice A L.length cap) := h.box.cell 0
  have H := Lib.hid h
  clear h
  go_enter Try.func29, Try.ntmps29
  go_wp2_with fail
  refine (clone71 L.length cap A (L.map ptrV) _ (Rd.of_own H.out.own) hn (ptrV_one L)).mono ?_
  rintro e w' ⟨A', c', rfl, ho, hg⟩
  have F := Lib.hid (And.intro ho hg)
  clear ho hg
  go_wp2_with fail
  go_ret
  exact ⟨A', c', rfl, F.out⟩

theorem cut1_map {α : Type} (f : α → Value) (L : List α) (i : Nat) : cut1 1 i (L.map f) = (L.eraseIdx i).map f := by
  unfold cut1
  rw [Nat.mul_one, Nat.mul_one, List.eraseIdx_eq_take_drop_succ, List.map_append, List.map_take, List.map_drop]

set_option maxHeartbeats 1000000 in
theorem crew_drop_none (base c : Nat) (A : Option Addr) (cap : Nat) (L : List (Nat × RunS)) (f e : ByteArray) (w : World) (h : CrewAt w base c A cap L) (hn : L.length ≤ 1000000)
    (hi : L.findIdx? (fun y => isAt f e y.2) = none) :
    Calls Try.prog 26 #[.pointer (some ⟨c, 0, none⟩), .string f, .string e] w fun r w' => r = .returned (.bool false) ∧ Grows w w' := by
  have H := Lib.hid h
  have HI := Lib.hid hi
  clear h hi
  go_enter Try.func26, Try.ntmps26
  go_wp2_with fail
  refine (crew_at base c A cap L _ _ _ H.out hn).mono ?_
  rintro r w1 ⟨rfl, hw1⟩
  rw [HI.out]
  simp only [oi]
  go_wp2_with fail
  go_ret
  exact ⟨rfl, hw1⟩

set_option maxHeartbeats 1000000 in
theorem crew_drop_some (base c : Nat) (A : Option Addr) (cap : Nat) (L : List (Nat × RunS)) (f e : ByteArray) (w : World) (h : CrewAt w base c A cap L) (hn : L.length ≤ 1000000)
    (i : Nat) (hil : i < L.length) (hi : L.findIdx? (fun y => isAt f e y.2) = some i) :
    Calls Try.prog 26 #[.pointer (some ⟨c, 0, none⟩), .string f, .string e] w fun r w' => r = .returned (.bool true) ∧ (∃ A' cap', CrewAt w' base c A' cap' (L.eraseIdx i)) ∧ Upd (fun k => k = c ∨ some k = (Value.slice A L.length cap).ownBlock) w w' := by
  have H := Lib.hid h
  have HI := Lib.hid hi
  clear h hi
  go_enter Try.func26, Try.ntmps26
  go_wp2_with fail
  refine (crew_at base c A cap L _ _ _ H.out hn).mono ?_
  rintro r w1 ⟨rfl, hw1⟩
  rw [HI.out]
  simp only [oi]
  have H1 := Lib.hid (H.out.grows hw1)
  have hc0 : w1.cell? ⟨c, 0, none⟩ = some (.slice A L.length cap) := H1.out.box.cell 0
  have G := Lib.hid hw1
  clear hw1
  go_wp2_with fail
  refine (delete70 base L.length cap i A (L.map ptrV) _ H1.out.own hil hn (ptrV_one L)).mono ?_
  rintro r w2 ⟨rfl, ho, hu⟩
  have hne : (Value.slice A L.length cap).ownBlock ≠ some c := own_blk_ne H1.out.own H1.out.box (by decide)
  have B2 := H1.out.box.upd hu (fun e => hne e.symm)
  have hc2 : w2.cell? ⟨c, 0, none⟩ = some (.slice A L.length cap) := B2.cell 0
  have f2 := B2.frozen 0
  have F := Lib.hid (And.intro ho (And.intro hu B2))
  clear ho hu B2
  go_wp2_with fail
  go_ret
  obtain ⟨ho, hu, B2⟩ := F.out
  have hel : (L.eraseIdx i).length = L.length - 1 := List.length_eraseIdx_of_lt hil
  have U2 : Upd (fun k => k = c ∨ some k = (Value.slice A L.length cap).ownBlock) w (w2.setCell ⟨c, 0, none⟩ (.slice A (L.length - 1) cap)) :=
    ((Upd.of_grows G.out).trans (hu.mono fun k _ e => .inr e)).set (.inl rfl) _
  refine ⟨rfl, ⟨A, cap, ?_, ?_, ?_⟩, U2⟩
  · rw [hel]; exact B2.set_ 0 _
  · rw [hel, ← cut1_map]
    exact own_upd (S := fun k => k = c) ho (Upd.setCell (S := fun k => k = c) _ (fun _ => rfl) _) (fun k hk e => own_blk_ne ho B2 (by decide) (e ▸ hk))
  · intro y hy
    have hy' : RunAt w y.1 y.2 := H.out.runs y (List.mem_of_mem_eraseIdx hy)
    refine Blk.upd hy' U2 ?_
    rintro (e | e)
    · exact Blk.ne_ hy' H.out.box (by decide) e
    · exact own_blk_ne H.out.own hy' (by decide) e.symm

def LateGives (now : Int) (L : List (Nat × RunS)) (w : World) (e : Ending) (w' : World) : Prop :=
  ∃ A c, e = .returned (.slice A (L.filter fun x => lateB now x.2).length c) ∧ w'.ownsRow w.heap.size 44 1 (.slice A (L.filter fun x => lateB now x.2).length c) (L.filter fun x => lateB now x.2).length ((L.filter fun x => lateB now x.2).map ptrV) ∧ Grows w w'

set_option maxHeartbeats 1000000 in
theorem crew_late (base c : Nat) (A : Option Addr) (cap : Nat) (L : List (Nat × RunS)) (now : Int) (w : World) (h : CrewAt w base c A cap L) (hn : L.length ≤ 1000000) :
    Calls Try.prog 30 #[.pointer (some ⟨c, 0, none⟩), .int .i64 now] w (LateGives now L w) := by
  have eg : ∀ args w, (callFunc 73 args).run Try.prog w = .ok (.enter 73 args) w := enters_of' Try.func73 (by kernel_rfl) rfl
  have H := Lib.hid (And.intro h eg)
  clear h eg
  go_enter Try.func30, Try.ntmps30
  go_wp2_with fail
  refine (crew_all base c A cap L _ (H.out.1.grows (Grows.alloc _ _)) hn).mono ?_
  rintro e w1 ⟨A1, c1, rfl, ho, hg⟩
  have hbx : w1.cell? ⟨w.heap.size, 0, none⟩ = some (.int .i64 now) := hg.cell (by simp)
  have F := Lib.hid (And.intro ho (And.intro hg hbx))
  clear ho hg hbx
  go_wp2_with fail
  obtain ⟨ho, hg, hbx⟩ := F.out
  have hG : Grows w w1 := (Grows.alloc _ _).trans _ _ _ hg
  have hqq : ∀ (S : Nat → Prop), (∀ x ∈ L, ¬ S x.1) → ¬ S w.heap.size → ∀ (W : World) (u : Nat × RunS), u ∈ L → Upd S w1 W → Calls Try.prog 73 (#[ptrV u] ++ #[.pointer (some ⟨w.heap.size, 0, none⟩)]) W fun e W' => e = .returned (.bool (!lateB now u.2)) ∧ Grows W W' := by
    intro S hS1 hS2 W u hu hW
    refine (late1_any u.1 w.heap.size u.2 now W (((H.out.1.runs u hu).grows hG).upd hW (hS1 u hu)) (hW.cell hbx hS2)).mono ?_
    rintro e W' ⟨rfl, rfl⟩
    exact ⟨rfl, Grows.refl _⟩
  cases hf : L.findIdx? (fun x => !lateB now x.2) with
  | none =>
    have hall : L.filter (fun x => lateB now x.2) = L := by
      rw [List.filter_eq_self]
      intro x hx
      have := List.findIdx?_eq_none_iff.1 hf x hx
      simpa using this
    refine (deleteFunc72_none ptrV L 73 _ A1 L.length c1 (fun x => !lateB now x.2) w1 H.out.2 hn (Rd.of_own ho).one (fun W u hu hW => hqq (fun _ => False) (fun _ _ h => h) (fun h => h) W u hu (Upd.of_grows hW)) hf).mono ?_
    rintro e w2 ⟨rfl, hw2⟩
    have F2 := Lib.hid (And.intro hw2 hall)
    clear hw2 hall hqq hf ho hg hbx
    have F3 := Lib.hid hG
    clear hG
    go_wp2_with fail
    go_ret
    refine ⟨A1, c1, by rw [F2.out.2]; rfl, by rw [F2.out.2]; exact own_mono (own_grows F.out.1 F2.out.1) (by simp), F3.out.trans _ _ _ F2.out.1⟩
  | some i =>
    rcases id ho.2 with ⟨hnil, h0⟩ | ⟨g, cap', cur, hv, hb, hgg, hc, hm, hs, ht⟩
    · exfalso
      have := (List.findIdx?_eq_some_iff_getElem.1 hf).1
      omega
    · injection hv with hv1 _ hv2
      subst hv1; subst hv2
      have hdf := deleteFunc72_some (fun x : Nat × RunS => (⟨x.1, 0, none⟩ : Addr)) L 73 #[.pointer (some ⟨w.heap.size, 0, none⟩)] _ g L.length c1 i cur (fun x => !lateB now x.2) w1 H.out.2 hn ho hgg hc hm hs ht hb
        (hqq (fun k => k = g) (fun x hx => Blk.ne_ ((H.out.1.runs x hx).grows hG) hgg (by decide)) (fun e => by simp at hb; omega)) hf
      have hfl : (L.filter fun x => !(!lateB now x.2)) = L.filter fun x => lateB now x.2 := by simp
      rw [hfl] at hdf
      have hgb : w.heap.size < g := by simp at hb; omega
      have F3 := Lib.hid (And.intro hG hgb)
      clear hG hqq hf ho hg hbx hb hgg hc hm hs ht
      refine hdf.mono ?_
      rintro e w2 ⟨rfl, ho2, hu2⟩
      have F2 := Lib.hid (And.intro ho2 hu2)
      clear ho2 hu2 hdf
      go_wp2_with fail
      go_ret
      refine ⟨_, c1, rfl, own_mono F2.out.1 (by simp), ?_⟩
      exact Upd.grows (S := fun k => k = g) ((Upd.of_grows F3.out.1).trans F2.out.2) (fun k hk e => by have := F3.out.2; omega)

theorem Try.info120 : (Try.prog.info? 120).map (fun i => (i.zero, i.size, i.bytes)) = some (some (.agg #[.string ⟨#[]⟩, .string ⟨#[]⟩, .int .i64 0, .int .i64 0, .int .i64 0, .bool false]), 6, 64) := by kernel_rfl

set_option maxHeartbeats 1000000 in
theorem wakes16 (w : World) : Calls Try.prog 32 #[] w fun e w' => e = .returned (.bool true) ∧ Grows w w' := by
  obtain ⟨i0, ti, _, _, _⟩ := info_parts Try.info120
  have hep := fun (a : Addr) (w : World) => run_eql_ptr_same (P := Try.prog) w a Try.underlying44 ti
  clear ti
  go_enter Try.func32, Try.ntmps32
  go_wp2_with fail
  refine (crew_new w).mono ?_
  rintro r w1 ⟨rfl, hc, hg1⟩
  have HC := Lib.hid (And.intro (hc w.heap.size) hg1)
  clear hc hg1
  go_wp2_with fail
  refine (run_new _ _ _ w1).mono ?_
  rintro r w2 ⟨rfl, hr, hg2⟩
  have HR := Lib.hid (And.intro hr hg2)
  clear hr hg2
  go_wp2_with fail
  refine (crew_find_none _ _ _ _ _ _ _ _ (HC.out.1.grows HR.out.2) (by simp) rfl).mono ?_
  rintro r w3 ⟨rfl, hg3⟩
  have H3 := Lib.hid hg3
  clear hg3
  go_wp2_with fail
  refine (crew_add_new w.heap.size w.heap.size none 0 [] (w1.heap.size, _) w3 ((HC.out.1.grows HR.out.2).grows H3.out) (HR.out.1.grows H3.out) (by simp) (by have := HC.out.2.size; have := HR.out.2.size; have := H3.out.size; omega) rfl).mono ?_
  rintro r w4 ⟨rfl, ⟨A4, c4, hc4⟩, hu4⟩
  have H4 := Lib.hid (And.intro hc4 hu4)
  clear hc4 hu4
  go_wp2_with fail
  refine (crew_find_some _ _ _ _ _ _ _ w4 H4.out.1 (by simp) 0 (by simp) (by simp [isAt, List.findIdx?_cons])).mono ?_
  rintro r w5 ⟨rfl, hg5⟩
  have H5 := Lib.hid hg5
  clear hg5
  simp only [List.nil_append, List.getElem_cons_zero, ptrV]
  go_wp2_with fail
  refine (crew_all _ _ _ _ _ w5 (H4.out.1.grows H5.out) (by simp)).mono ?_
  rintro r w6 ⟨A6, c6, rfl, ho6, hg6⟩
  have H6 := Lib.hid hg6
  clear hg6 ho6
  go_wp2_with fail
  go_ret
  refine ⟨rfl, Upd.grows (S := fun k => k = w.heap.size) (((Upd.of_grows (((HC.out.2.trans _ _ _ HR.out.2).trans _ _ _ H3.out))).trans (H4.out.2.mono fun k _ e => ?_)).trans (Upd.of_grows (H5.out.trans _ _ _ H6.out))) (fun k hk e => by omega)⟩
  rcases e with e | e
  · exact e
  · cases e
end Go.Proofs.Ytkogmpeodamdgaa
