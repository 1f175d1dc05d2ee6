/-
  The run of 16: what a run is in memory, and the walks of its small functions. Conditions: the world holds the run.
-/
import Derived.Test.YtkogmpeodamdgaaProg
import Derived.Test.YtkogmpeodamdgaaBase
import Derived.WalkKit
import Derived.WalkSpells
import Derived.WalkLawsBesides
import Derived.Deep.QuietTactic
import Derived.BigQuiet
import Derived.Deep.LoopGhost
import Derived.Deep.DeepCutAuto
import Derived.Deep.RegionLaw
import Derived.Deep.AppendLies
import Derived.Maps.AppendAt
namespace Go.Proofs.Ytkogmpeodamdgaa
open Go.RowKit
set_option maxRecDepth 100000

set_option maxHeartbeats 400000 in
theorem within_any (v n : Int) (w : World) (_hv : -9223372036854775808 ≤ v ∧ v ≤ 9223372036854775807) (hn : 1 ≤ n ∧ n ≤ 9223372036854775807) :
    Calls Try.prog 13 #[.int .i64 v, .int .i64 n] w fun e w' => e = .returned (.int .i64 (within v n)) ∧ w = w' := by
  have ht := Int.tmod_lt_of_pos v (show 0 < n by omega)
  have ht' : -n < v.tmod n := by
    have := Int.lt_tmod_of_pos v (show 0 < n by omega); omega
  have H : Hid (within v n = if v.tmod n < 0 then v.tmod n + n else v.tmod n) := by
    unfold within; rw [if_neg (by omega)]; rfl
  by_cases hneg : v.tmod n < 0
  · go_enter Try.func13, Try.ntmps13
    go_wp2
    go_ret
    exact ⟨ret_int (by rw [H.out, if_pos hneg]), rfl⟩
  · go_enter Try.func13, Try.ntmps13
    go_wp2
    go_ret
    exact ⟨ret_int (by rw [H.out, if_neg (by omega)]), rfl⟩

structure RunS where
  f : ByteArray
  e : ByteArray
  n : Int
  phase : Int
  due : Int
  waits : Bool

def RunS.cells (r : RunS) : Array Value := #[.string r.f, .string r.e, .int .i64 r.n, .int .i64 r.phase, .int .i64 r.due, .bool r.waits]
def RunAt (w : World) (b : Nat) (r : RunS) : Prop := Blk w b 120 r.cells

theorem run_new (f e : ByteArray) (n : Int) (w : World) :
    Calls Try.prog 23 #[.string f, .string e, .int .i64 n] w fun r w' => r = .returned (.pointer (some ⟨w.heap.size, 0, none⟩)) ∧ RunAt w' w.heap.size ⟨f, e, n, 0, 0, false⟩ ∧ Grows w w' := by
  go_enter Try.func23, Try.ntmps23
  go_wp2
  go_ret
  exact ⟨rfl, Blk.new _ _ _, Grows.alloc _ _⟩

theorem who_any (b : Nat) (r : RunS) (w : World) (h : RunAt w b r) :
    Calls Try.prog 34 #[.pointer (some ⟨b, 0, none⟩)] w fun x w' => x = .returned (.tuple #[.string r.f, .string r.e, .int .i64 r.n]) ∧ ∃ q, w' = w.drewN q := by
  have h0 : w.cell? ⟨b, 0, none⟩ = some (.string r.f) := h.cell 0
  have h1 : w.cell? ⟨b, 1, none⟩ = some (.string r.e) := h.cell 1
  have h2 : w.cell? ⟨b, 2, none⟩ = some (.int .i64 r.n) := h.cell 2
  go_enter Try.func34, Try.ntmps34
  go_wp2
  go_quiet (fail)
  go_wp2
  go_ret3
  exact ⟨rfl, _, rfl⟩

theorem at1_any (b x y : Nat) (f e : ByteArray) (r : RunS) (w : World) (h : RunAt w b r) (hx : w.cell? ⟨x, 0, none⟩ = some (.string f)) (hy : w.cell? ⟨y, 0, none⟩ = some (.string e)) :
    Calls Try.prog 101 #[.pointer (some ⟨b, 0, none⟩), .pointer (some ⟨x, 0, none⟩), .pointer (some ⟨y, 0, none⟩)] w fun x w' => x = .returned (.bool (r.f.toList == f.toList && r.e.toList == e.toList)) ∧ Grows w w' := by
  go_enter Try.func101, Try.ntmps101
  go_wp2_with (go_at_call 34; refine (who_any _ _ _ h).mono ?_; rintro e w' ⟨rfl, q, rfl⟩)
  all_goals (go_ret; refine ⟨ret_bool ?_, Grows.drewN _ _⟩; simp_all)

set_option maxHeartbeats 1000000 in
theorem idxf100 {α : Type} (enc : α → Value) (L : List α) (g : Nat) (lb : Array Value) (A : Option Addr) (n c : Nat) (q : α → Bool) (w : World)
    (eg : ∀ args w, (callFunc g args).run Try.prog w = .ok (.enter g args) w)
    (hn : n ≤ 9223372036854775807) (hr : Rd1 w A n (L.map enc))
    (hq : ∀ (W : World) (u : α), u ∈ L → Grows w W → Calls Try.prog g (#[enc u] ++ lb) W fun e W' => e = .returned (.bool (q u)) ∧ Grows W W') :
    Calls Try.prog 100 #[.slice A n c, .func (.func g) #[] lb] w fun e w' => e = .returned (.int .i64 (oi (L.findIdx? q))) ∧ Grows w w' := by
  have hL : L.length = n := by have := hr.1; rwa [List.length_map] at this
  have HL := Lib.hid hL
  have HR := Lib.hid hr
  have HQ := Lib.hid hq
  clear hr hq hL
  go_enter Try.func100, Try.ntmps100
  go_wp2_with fail
  go_loopg [5, 8] n (fun gg _ s8 wr => ∃ kk : Nat, kk ≤ n ∧ n - kk ≤ gg ∧ s8 = .int .i64 kk ∧ Grows w wr ∧ Hid (∀ j (hj : j < L.length), j < kk → q L[j] = false))
  case atStart => exact ⟨0, Nat.zero_le _, by omega, rfl, Grows.refl _, Lib.hid fun j _ hj => absurd hj (Nat.not_lt_zero _)⟩
  case round =>
    obtain ⟨kk, hkk, hg, rfl, hG, H⟩ := hrel
    have HG := Lib.hid hG
    clear hG
    by_cases hlt : kk < n
    · have hltz : (kk : Int) < (n : Int) := by omega
      obtain ⟨b, o, rfl, hc⟩ := HR.out.2 (by omega)
      have hlen : kk < L.length := by rw [HL.out]; exact hlt
      have hcell := HG.out.cell (hc kk (by rw [List.length_map]; exact hlen))
      rw [List.getElem_map] at hcell
      have hcall := HQ.out wr L[kk] (List.getElem_mem hlen) HG.out
      generalize hu : L[kk] = u at hcell hcall
      have HU := Lib.hid hu
      clear hc hu
      cases hqu : q u with
      | true =>
        rw [hqu] at hcall
        go_wp2_with fail
        refine hcall.mono ?_
        rintro e w' ⟨rfl, hw'⟩
        go_wp2_with fail
        go_ret
        refine ⟨ret_int ?_, Grows.trans _ _ _ HG.out hw'⟩
        rw [findIdx?_hit q hlen H.out (by rw [HU.out]; exact hqu)]; rfl
      | false =>
        rw [hqu] at hcall
        go_wp2_with fail
        refine hcall.mono ?_
        rintro e w' ⟨rfl, hw'⟩
        go_wp2_with fail
        go_roundg (n - (kk + 1))
        case measure => omega
        case rel =>
          refine ⟨kk + 1, by omega, by omega, by go_num, Grows.trans _ _ _ HG.out hw', Lib.hid fun j hj hjk => ?_⟩
          by_cases e : j = kk
          · subst e
            rw [HU.out]; exact hqu
          · exact H.out j hj (by omega)
    · have hltz : ¬ (kk : Int) < (n : Int) := by omega
      have : kk = n := by omega
      subst this
      go_wp2_with fail
      go_ret
      refine ⟨ret_int ?_, HG.out⟩
      rw [findIdx?_miss q (fun j hj => H.out j hj (by have := HL.out; omega))]; rfl

end Go.Proofs.Ytkogmpeodamdgaa
