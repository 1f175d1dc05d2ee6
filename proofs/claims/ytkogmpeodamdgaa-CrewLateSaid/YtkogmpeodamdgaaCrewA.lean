/-
  The crew of 16: what a crew is in memory (a box, a row of pointers, the runs), and the walks of the pointer lookup, of 'new' and of 'add'. Conditions: the world holds the crew; int counts below 2^62 where a count is added to.
-/
import Derived.Test.YtkogmpeodamdgaaProg
import Derived.Test.YtkogmpeodamdgaaBase
import Derived.Test.YtkogmpeodamdgaaRun
import Derived.WalkKit
import Derived.WalkSpells
import Derived.WalkLawsBesides
import Derived.Deep.QuietTactic
import Derived.BigQuiet
import Derived.Deep.LoopGhost
import Derived.Deep.DeepCutAuto
import Derived.Deep.RegionLaw
import Derived.Deep.AppendLies
import Derived.Maps.AppendAt
namespace Go.Proofs.Ytkogmpeodamdgaa
open Go.RowKit
set_option maxRecDepth 100000

def isAt (f e : ByteArray) (r : RunS) : Bool := r.f.toList == f.toList && r.e.toList == e.toList
def ptrV (x : Nat × RunS) : Value := .pointer (some ⟨x.1, 0, none⟩)

/-- a crew: its block, its row, its runs. -/
structure CrewAt (w : World) (base c : Nat) (A : Option Addr) (cap : Nat) (L : List (Nat × RunS)) : Prop where
  box : Blk w c 118 #[.slice A L.length cap]
  own : w.ownsRow base 44 1 (.slice A L.length cap) L.length (L.map ptrV)
  runs : ∀ x ∈ L, RunAt w x.1 x.2

theorem CrewAt.grows {w w' : World} {base c cap : Nat} {A : Option Addr} {L : List (Nat × RunS)} (h : CrewAt w base c A cap L) (hg : Grows w w') : CrewAt w' base c A cap L :=
  ⟨h.box.grows hg, h.own.kept (row := none) ⟨hg.os, hg.tape, hg.output, hg.size, fun k hk _ => hg.block k hk⟩ (by cases (Value.slice A L.length cap).ownBlock <;> simp), fun x hx => (h.runs x hx).grows hg⟩

set_option maxHeartbeats 1000000 in
theorem crew_at (base c : Nat) (A : Option Addr) (cap : Nat) (L : List (Nat × RunS)) (f e : ByteArray) (w : World) (h : CrewAt w base c A cap L) (hn : L.length ≤ 1000000) :
    Calls Try.prog 69 #[.pointer (some ⟨c, 0, none⟩), .string f, .string e] w fun r w' => r = .returned (.int .i64 (oi (L.findIdx? fun x => isAt f e x.2))) ∧ Grows w w' := by
  have eg : ∀ args w, (callFunc 101 args).run Try.prog w = .ok (.enter 101 args) w := enters_of' Try.func101 (by kernel_rfl) rfl
  have hc0 : w.cell? ⟨c, 0, none⟩ = some (.slice A L.length cap) := h.box.cell 0
  have hclt := h.box.lt
  have H := Lib.hid h
  have EG := Lib.hid eg
  clear h eg
  go_enter Try.func69, Try.ntmps69
  go_wp2_with fail
  have hr : Rd1 ((w.alloc (.cells #[.string f] 9)).alloc (.cells #[.string e] 9)) A L.length (L.map ptrV) := (Rd1.of_own H.out.own).grows ((Grows.alloc _ _).alloc' _)
  refine (idxf100 ptrV L 101 _ A L.length cap (fun x => isAt f e x.2) _ EG.out (by omega) hr ?_).mono ?_
  · intro W u hu hW
    have h1 := (H.out.runs u hu).grows (((Grows.alloc _ _).alloc' _).trans _ _ _ hW)
    exact at1_any _ _ _ f e _ W h1 (hW.cell (by simp)) (hW.cell (by simp))
  · rintro r w' ⟨rfl, hw'⟩
    go_wp2_with fail
    go_ret
    exact ⟨rfl, ((Grows.alloc _ _).alloc' _).trans _ _ _ hw'⟩

set_option maxHeartbeats 1000000 in
theorem crew_new (w : World) : Calls Try.prog 22 #[] w fun r w' => r = .returned (.pointer (some ⟨w.heap.size, 0, none⟩)) ∧ (∀ base, CrewAt w' base w.heap.size none 0 []) ∧ Grows w w' := by
  go_enter Try.func22, Try.ntmps22
  go_wp2_with fail
  go_ret
  exact ⟨rfl, fun base => ⟨Blk.new _ _ _, World.ownsRow_nil _ _ _ _, fun _ h => by cases h⟩, Grows.alloc _ _⟩

theorem Try.info44 : (Try.prog.info? 44).map (fun i => (i.zero, i.size, i.bytes)) = some (some (.pointer none), 1, 8) := by kernel_rfl

set_option maxHeartbeats 1000000 in
theorem crew_add_there (base c : Nat) (A : Option Addr) (cap : Nat) (L : List (Nat × RunS)) (x : Nat × RunS) (w : World) (h : CrewAt w base c A cap L) (hx : RunAt w x.1 x.2) (hn : L.length ≤ 1000000)
    (i : Nat) (hi : L.findIdx? (fun y => isAt x.2.f x.2.e y.2) = some i) :
    Calls Try.prog 25 #[.pointer (some ⟨c, 0, none⟩), ptrV x] w fun r w' => r = .returned (.int .i64 4) ∧ Grows w w' := by
  have H := Lib.hid h
  have HX := Lib.hid hx
  have HI := Lib.hid hi
  unfold ptrV
  clear h hx hi
  go_enter Try.func25, Try.ntmps25
  go_wp2_with fail
  refine (who_any _ _ _ HX.out).mono ?_
  rintro r w' ⟨rfl, q, rfl⟩
  go_wp2_with fail
  refine (crew_at base c A cap L _ _ _ (H.out.grows (Grows.drewN _ q)) hn).mono ?_
  rintro r w1 ⟨rfl, hw1⟩
  have h0 : (0 : Int) ≤ oi (L.findIdx? (fun y => isAt x.2.f x.2.e y.2)) := by rw [HI.out]; simp [oi]
  go_wp2_with fail
  go_ret
  exact ⟨rfl, (Grows.drewN _ _).trans _ _ _ hw1⟩

set_option maxHeartbeats 1000000 in
theorem crew_add_new (base c : Nat) (A : Option Addr) (cap : Nat) (L : List (Nat × RunS)) (x : Nat × RunS) (w : World) (h : CrewAt w base c A cap L) (hx : RunAt w x.1 x.2) (hn : L.length ≤ 1000000) (hb : base ≤ w.heap.size)
    (hi : L.findIdx? (fun y => isAt x.2.f x.2.e y.2) = none) :
    Calls Try.prog 25 #[.pointer (some ⟨c, 0, none⟩), ptrV x] w fun r w' => r = .returned (.int .i64 0) ∧ (∃ A' cap', CrewAt w' base c A' cap' (L ++ [x])) ∧ Upd (fun k => k = c ∨ some k = (Value.slice A L.length cap).ownBlock) w w' := by
  have H := Lib.hid h
  have HX := Lib.hid hx
  have HI := Lib.hid hi
  obtain ⟨i0, ti, tz, ts, tb⟩ := info_parts Try.info44
  unfold ptrV
  clear h hx hi
  go_enter Try.func25, Try.ntmps25
  go_wp2_with fail
  refine (who_any _ _ _ HX.out).mono ?_
  rintro r w' ⟨rfl, q, rfl⟩
  go_wp2_with fail
  refine (crew_at base c A cap L _ _ _ (H.out.grows (Grows.drewN _ q)) hn).mono ?_
  rintro r w1 ⟨rfl, hw1⟩
  have h0 : oi (L.findIdx? (fun y => isAt x.2.f x.2.e y.2)) < 0 := by rw [HI.out]; simp [oi]
  have G := Lib.hid ((Grows.drewN w q).trans _ _ _ hw1)
  have H1 := Lib.hid (H.out.grows G.out)
  have hc0 : w1.cell? ⟨c, 0, none⟩ = some (.slice A L.length cap) := H1.out.box.cell 0
  clear hw1
  go_wp2_with (at_builtin; refine wpList_append_lies _ rfl (.tmp 23) (.tmp 25) 53 rfl base 44 i0 (.pointer none) 1 8 Try.underlying53 ti tz ts tb rfl (by omega) (.slice A L.length cap) L.length (L.map ptrV) rfl (H1.out.own.alloc _) ⟨w1.heap.size, 0, none⟩ 1 1 [.pointer (some ⟨x.1, 0, none⟩)] rfl rfl news_one (by simp [Value.oneCell']) (by omega) (by unfold maxLen; omega) (by omega) (by have := G.out.size; simp; omega) (w1.heap.size + 1) (by simp) ?_; intro g cp w2 hown2 hgrown hat hlt; have B2 := (H1.out.box.alloc (.cells #[.pointer (some ⟨x.1, 0, none⟩)] 44)).grown hgrown (Ne.symm (own_blk_ne H1.out.own H1.out.box (by decide))); have hcc : w2.cell? ⟨c, 0, none⟩ = some (.slice A L.length cap) := B2.cell 0; have hcf := B2.frozen 0; have F := Lib.hid (And.intro hown2 (And.intro hgrown (And.intro hlt B2))); clear hown2 hgrown hat hlt B2)
  go_ret
  obtain ⟨hown2, hgrown, hlt, B2⟩ := F.out
  have B3 := B2.set_ 0 (.slice (some ⟨g, 0, none⟩) (L.length + 1) cp)
  have hne : (Value.slice A L.length cap).ownBlock ≠ some c := own_blk_ne H1.out.own H1.out.box (by decide)
  have U1 : Upd (fun k => k = c ∨ some k = (Value.slice A L.length cap).ownBlock) w w2 := (Upd.of_grows (G.out.alloc' _)).trans (Upd.of_grown hgrown fun k hk _ => .inr hk.symm)
  have U2 : Upd (fun k => k = c ∨ some k = (Value.slice A L.length cap).ownBlock) w (w2.setCell ⟨c, 0, none⟩ (.slice (some ⟨g, 0, none⟩) (L.length + 1) cp)) := U1.trans (Upd.setCell _ (fun _ => .inl rfl) _)
  refine ⟨rfl, ⟨some ⟨g, 0, none⟩, cp, ⟨?_, ?_, ?_⟩⟩, U2⟩
  · rw [List.length_append]; exact B3
  · rw [List.length_append, List.map_append]
    exact own_upd (S := fun k => k = c) hown2 (Upd.setCell (S := fun k => k = c) _ (fun _ => rfl) _) (fun k hk e => own_blk_ne hown2 B2 (by decide) (e ▸ hk))
  · intro y hy
    have hy' : RunAt w y.1 y.2 := by
      rcases List.mem_append.1 hy with h | h
      · exact H.out.runs y h
      · rw [List.mem_singleton] at h; subst h; exact HX.out
    refine Blk.upd hy' U2 ?_
    rintro (e | e)
    · exact Blk.ne_ hy' H.out.box (by decide) e
    · exact own_blk_ne H.out.own hy' (by decide) e.symm
end Go.Proofs.Ytkogmpeodamdgaa
