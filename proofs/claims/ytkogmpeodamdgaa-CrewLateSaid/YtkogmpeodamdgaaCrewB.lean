/-
  The crew of 16: the walks of find, wait, begin, on, stay, hello, late of one run, and exactness. Conditions: the world holds the crew.
-/
import Derived.Test.YtkogmpeodamdgaaProg
import Derived.Test.YtkogmpeodamdgaaBase
import Derived.Test.YtkogmpeodamdgaaCrewA
import Derived.WalkKit
import Derived.WalkSpells
import Derived.WalkLawsBesides
import Derived.Deep.QuietTactic
import Derived.BigQuiet
import Derived.Deep.LoopGhost
import Derived.Deep.DeepCutAuto
import Derived.Deep.RegionLaw
import Derived.Deep.AppendLies
import Derived.Maps.AppendAt
namespace Go.Proofs.Ytkogmpeodamdgaa
open Go.RowKit
set_option maxRecDepth 100000

set_option maxHeartbeats 400000 in
theorem crew_find_none (base c : Nat) (A : Option Addr) (cap : Nat) (L : List (Nat × RunS)) (f e : ByteArray) (w : World) (h : CrewAt w base c A cap L) (hn : L.length ≤ 1000000)
    (hi : L.findIdx? (fun y => isAt f e y.2) = none) :
    Calls Try.prog 27 #[.pointer (some ⟨c, 0, none⟩), .string f, .string e] w fun r w' => r = .returned (.pointer none) ∧ Grows w w' := by
  have H := Lib.hid h
  have HI := Lib.hid hi
  clear h hi
  go_enter Try.func27, Try.ntmps27
  go_wp2_with fail
  refine (crew_at base c A cap L _ _ _ H.out hn).mono ?_
  rintro r w1 ⟨rfl, hw1⟩
  have h0 : oi (L.findIdx? (fun y => isAt f e y.2)) < 0 := by rw [HI.out]; simp [oi]
  go_wp2_with fail
  go_ret
  exact ⟨rfl, hw1⟩

set_option maxHeartbeats 400000 in
theorem crew_find_some (base c : Nat) (A : Option Addr) (cap : Nat) (L : List (Nat × RunS)) (f e : ByteArray) (w : World) (h : CrewAt w base c A cap L) (hn : L.length ≤ 1000000)
    (i : Nat) (hil : i < L.length) (hi : L.findIdx? (fun y => isAt f e y.2) = some i) :
    Calls Try.prog 27 #[.pointer (some ⟨c, 0, none⟩), .string f, .string e] w fun r w' => r = .returned (ptrV L[i]) ∧ Grows w w' := by
  have H := Lib.hid h
  have HI := Lib.hid hi
  clear h hi
  obtain ⟨b, o, rfl, hc⟩ := (Rd1.of_own H.out.own).2 (by omega)
  have hci := hc i (by simpa using hil)
  rw [List.getElem_map] at hci
  unfold ptrV at hci ⊢
  clear hc
  go_enter Try.func27, Try.ntmps27
  go_wp2_with fail
  refine (crew_at base c _ cap L _ _ _ H.out hn).mono ?_
  rintro r w1 ⟨rfl, hw1⟩
  have e1 : oi (L.findIdx? (fun y => isAt f e y.2)) = (i : Int) := by rw [HI.out]; rfl
  rw [e1]
  have hc0 : w1.cell? ⟨c, 0, none⟩ = some (.slice (some ⟨b, o, none⟩) L.length cap) := (H.out.grows hw1).box.cell 0
  have hci1 := hw1.cell hci
  have G := Lib.hid hw1
  clear hw1 e1 hci
  have hil' : (i : Int) < (L.length : Int) := by omega
  go_wp2_with fail
  go_ret
  exact ⟨rfl, G.out⟩

set_option maxHeartbeats 400000 in
theorem run_wait (b : Nat) (r : RunS) (p d : Int) (w : World) (h : RunAt w b r) :
    Calls Try.prog 68 #[.pointer (some ⟨b, 0, none⟩), .int .i64 p, .int .i64 d] w fun x w' => x = .returned (.tuple #[]) ∧ RunAt w' b { r with phase := p, due := d, waits := true } ∧ Upd (fun k => k = b) w w' := by
  have h3 : w.cell? ⟨b, 3, none⟩ = some (.int .i64 r.phase) := h.cell 3
  have h4 : w.cell? ⟨b, 4, none⟩ = some (.int .i64 r.due) := h.cell 4
  have h5 : w.cell? ⟨b, 5, none⟩ = some (.bool r.waits) := h.cell 5
  have f3 := h.frozen 3
  have f4 := h.frozen 4
  have f5 := h.frozen 5
  have H := Lib.hid h
  clear h
  go_enter Try.func68, Try.ntmps68
  go_wp2_with fail
  go_end0
  refine ⟨rfl, ((H.out.set_ 3 _).set_ 4 _).set_ 5 _, (((Upd.refl (fun k => k = b) w).set rfl _).set rfl _).set rfl _⟩

set_option maxHeartbeats 400000 in
theorem run_begin (b : Nat) (r : RunS) (p d : Int) (w : World) (h : RunAt w b r) (h0 : r.phase = 0) (hp : p = 1 ∨ p = 4) :
    Calls Try.prog 24 #[.pointer (some ⟨b, 0, none⟩), .int .i64 p, .int .i64 d] w fun x w' => x = .returned (.int .i64 0) ∧ RunAt w' b { r with phase := p, due := d, waits := true } ∧ Upd (fun k => k = b) w w' := by
  have h3 : w.cell? ⟨b, 3, none⟩ = some (.int .i64 0) := by have := h.cell 3; rw [← h0]; exact this
  have H := Lib.hid h
  clear h h0
  rcases hp with rfl | rfl
  all_goals
    go_enter Try.func24, Try.ntmps24
    go_wp2_with fail
    refine (run_wait b r _ d _ H.out).mono ?_
    rintro x w' ⟨rfl, hr, hu⟩
    have F := Lib.hid (And.intro hr hu)
    clear hr hu
    go_wp2_with fail
    go_ret
    exact ⟨rfl, F.out⟩

/-- is a run on? -/
def onB (r : RunS) : Bool := r.phase == 1 || r.phase == 2 || r.phase == 4

set_option maxHeartbeats 400000 in
theorem run_on (b : Nat) (r : RunS) (w : World) (h : RunAt w b r) (hon : r.phase = 1 ∨ r.phase = 4) :
    Calls Try.prog 74 #[.pointer (some ⟨b, 0, none⟩)] w fun x w' => x = .returned (.bool true) ∧ w = w' := by
  have h3 : w.cell? ⟨b, 3, none⟩ = some (.int .i64 r.phase) := h.cell 3
  clear h
  rcases hon with e | e <;> rw [e] at h3 <;> clear e
  all_goals
    go_enter Try.func74, Try.ntmps74
    go_wp2_with fail
    go_ret
    exact ⟨rfl, rfl⟩

set_option maxHeartbeats 400000 in
theorem run_stay (b : Nat) (r : RunS) (p : Int) (w : World) (h : RunAt w b r) :
    Calls Try.prog 75 #[.pointer (some ⟨b, 0, none⟩), .int .i64 p] w fun x w' => x = .returned (.tuple #[]) ∧ RunAt w' b { r with phase := p, due := 0, waits := false } ∧ Upd (fun k => k = b) w w' := by
  have h3 : w.cell? ⟨b, 3, none⟩ = some (.int .i64 r.phase) := h.cell 3
  have h4 : w.cell? ⟨b, 4, none⟩ = some (.int .i64 r.due) := h.cell 4
  have h5 : w.cell? ⟨b, 5, none⟩ = some (.bool r.waits) := h.cell 5
  have f3 := h.frozen 3
  have f4 := h.frozen 4
  have f5 := h.frozen 5
  have H := Lib.hid h
  clear h
  go_enter Try.func75, Try.ntmps75
  go_wp2_with fail
  go_end0
  refine ⟨rfl, ((H.out.set_ 3 _).set_ 4 _).set_ 5 _, (((Upd.refl (fun k => k = b) w).set rfl _).set rfl _).set rfl _⟩

set_option maxHeartbeats 400000 in
theorem run_hello (b : Nat) (r : RunS) (w : World) (h : RunAt w b r) (hon : r.phase = 1 ∨ r.phase = 4) :
    Calls Try.prog 33 #[.pointer (some ⟨b, 0, none⟩)] w fun x w' => x = .returned (.int .i64 0) ∧ RunAt w' b { r with phase := 2, due := 0, waits := false } ∧ Upd (fun k => k = b) w w' := by
  have H := Lib.hid h
  have HO := Lib.hid hon
  clear h hon
  go_enter Try.func33, Try.ntmps33
  go_wp2_with fail
  refine (run_on b r _ H.out HO.out).mono ?_
  rintro x w' ⟨rfl, rfl⟩
  go_wp2_with fail
  refine (run_stay b r 2 _ H.out).mono ?_
  rintro x w' ⟨rfl, hr, hu⟩
  have F := Lib.hid (And.intro hr hu)
  clear hr hu
  go_wp2_with fail
  go_ret
  exact ⟨rfl, F.out⟩

/-- has it waited long enough? -/
def lateB (now : Int) (r : RunS) : Bool := r.waits && decide (r.due ≤ now)

set_option maxHeartbeats 400000 in
theorem run_late (b : Nat) (r : RunS) (now : Int) (w : World) (h : RunAt w b r) :
    Calls Try.prog 31 #[.pointer (some ⟨b, 0, none⟩), .int .i64 now] w fun x w' => x = .returned (.bool (lateB now r)) ∧ w = w' := by
  have h4 : w.cell? ⟨b, 4, none⟩ = some (.int .i64 r.due) := h.cell 4
  have h5 : w.cell? ⟨b, 5, none⟩ = some (.bool r.waits) := h.cell 5
  clear h
  cases e : r.waits with
  | true =>
    rw [e] at h5
    have HE := Lib.hid e
    clear e
    go_enter Try.func31, Try.ntmps31
    go_wp2_with fail
    go_ret
    exact ⟨ret_bool (by unfold lateB; rw [HE.out]; simp), rfl⟩
  | false =>
    rw [e] at h5
    have HE := Lib.hid e
    clear e
    go_enter Try.func31, Try.ntmps31
    go_wp2_with fail
    go_ret
    exact ⟨ret_bool (by unfold lateB; rw [HE.out]; simp), rfl⟩

set_option maxHeartbeats 400000 in
theorem late1_any (b x : Nat) (r : RunS) (now : Int) (w : World) (h : RunAt w b r) (hx : w.cell? ⟨x, 0, none⟩ = some (.int .i64 now)) :
    Calls Try.prog 73 #[.pointer (some ⟨b, 0, none⟩), .pointer (some ⟨x, 0, none⟩)] w fun y w' => y = .returned (.bool (!lateB now r)) ∧ w = w' := by
  have H := Lib.hid h
  clear h
  go_enter Try.func73, Try.ntmps73
  go_wp2_with fail
  refine (run_late b r now _ H.out).mono ?_
  rintro y w' ⟨rfl, rfl⟩
  go_wp2_with fail
  go_ret
  exact ⟨rfl, rfl⟩

set_option maxHeartbeats 400000 in
theorem crew_exact_none (base c : Nat) (A : Option Addr) (cap : Nat) (L : List (Nat × RunS)) (f e : ByteArray) (n : Int) (w : World) (h : CrewAt w base c A cap L) (hn : L.length ≤ 1000000)
    (hi : L.findIdx? (fun y => isAt f e y.2) = none) :
    Calls Try.prog 28 #[.pointer (some ⟨c, 0, none⟩), .string f, .string e, .int .i64 n] w fun r w' => r = .returned (.pointer none) ∧ Grows w w' := by
  have H := Lib.hid h
  have HI := Lib.hid hi
  clear h hi
  go_enter Try.func28, Try.ntmps28
  go_wp2_with fail
  refine (crew_find_none base c A cap L _ _ _ H.out hn HI.out).mono ?_
  rintro r w1 ⟨rfl, hw1⟩
  go_wp2_with fail
  go_ret
  exact ⟨rfl, hw1⟩

set_option maxHeartbeats 400000 in
theorem crew_exact_some (base c : Nat) (A : Option Addr) (cap : Nat) (L : List (Nat × RunS)) (f e : ByteArray) (n : Int) (w : World) (h : CrewAt w base c A cap L) (hn : L.length ≤ 1000000)
    (i : Nat) (hil : i < L.length) (hi : L.findIdx? (fun y => isAt f e y.2) = some i) (hne : L[i].2.n = n) :
    Calls Try.prog 28 #[.pointer (some ⟨c, 0, none⟩), .string f, .string e, .int .i64 n] w fun r w' => r = .returned (ptrV L[i]) ∧ Grows w w' := by
  have H := Lib.hid h
  have HI := Lib.hid hi
  have hr := Lib.hid (h.runs L[i] (List.getElem_mem hil))
  clear h hi
  go_enter Try.func28, Try.ntmps28
  go_wp2_with fail
  refine (crew_find_some base c A cap L _ _ _ H.out hn i hil HI.out).mono ?_
  rintro r w1 ⟨rfl, hw1⟩
  unfold ptrV
  go_wp2_with fail
  refine (who_any _ _ _ (hr.out.grows hw1)).mono ?_
  rintro r w2 ⟨rfl, q, rfl⟩
  have hne' : (L[i].2.n != n) = false := by simp [hne]
  have G := Lib.hid (hw1.trans _ _ _ (Grows.drewN _ q))
  clear hne hw1
  go_wp2_with fail
  go_ret
  exact ⟨rfl, G.out⟩

set_option maxHeartbeats 400000 in
theorem crew_exact_other (base c : Nat) (A : Option Addr) (cap : Nat) (L : List (Nat × RunS)) (f e : ByteArray) (n : Int) (w : World) (h : CrewAt w base c A cap L) (hn : L.length ≤ 1000000)
    (i : Nat) (hil : i < L.length) (hi : L.findIdx? (fun y => isAt f e y.2) = some i) (hne : L[i].2.n ≠ n) :
    Calls Try.prog 28 #[.pointer (some ⟨c, 0, none⟩), .string f, .string e, .int .i64 n] w fun r w' => r = .returned (.pointer none) ∧ Grows w w' := by
  have H := Lib.hid h
  have HI := Lib.hid hi
  have hr := Lib.hid (h.runs L[i] (List.getElem_mem hil))
  clear h hi
  go_enter Try.func28, Try.ntmps28
  go_wp2_with fail
  refine (crew_find_some base c A cap L _ _ _ H.out hn i hil HI.out).mono ?_
  rintro r w1 ⟨rfl, hw1⟩
  unfold ptrV
  go_wp2_with fail
  refine (who_any _ _ _ (hr.out.grows hw1)).mono ?_
  rintro r w2 ⟨rfl, q, rfl⟩
  have hne' : (L[i].2.n != n) = true := by simp [hne]
  have G := Lib.hid (hw1.trans _ _ _ (Grows.drewN _ q))
  clear hne hw1
  go_wp2_with fail
  go_ret
  exact ⟨rfl, G.out⟩

end Go.Proofs.Ytkogmpeodamdgaa
