/-
  slices.Delete and slices.Clone of this seat's element types, walked by a template (wip/tools/tmpl.py). Conditions: the row is owned or readable.
-/
import Derived.Test.YtkogmpeodamdgaaProg
import Derived.Test.YtkogmpeodamdgaaBase
import Derived.Test.YtkogmpeodamdgaaSl
import Derived.Lib.SliceRun
import Derived.WalkKit
import Derived.WalkSpells
import Derived.WalkLawsBesides
import Derived.Deep.QuietTactic
import Derived.BigQuiet
import Derived.Deep.LoopGhost
import Derived.Deep.DeepCutAuto
import Derived.Deep.RegionLaw
import Derived.Deep.AppendLies
import Derived.Maps.AppendAt
namespace Go.Proofs.Ytkogmpeodamdgaa
open Go.RowKit
set_option maxRecDepth 100000

theorem Try.info44 : (Try.prog.info? 44).map (fun i => (i.zero, i.size, i.bytes)) = some (some (.pointer none), 1, 8) := by kernel_rfl

set_option maxHeartbeats 1000000 in
theorem delete70_row (base g n cap i : Nat) (xs : List Value) (cur : Array Value) (w : World) (hown : w.ownsRow base 44 1 (.slice (some ⟨g, 0, none⟩) n cap) n xs) (hb : Blk w g 44 cur) (hi : i < n) (hn : n ≤ 1000000)
    (h1 : ∀ u ∈ xs, u.oneCell' = true) (hcap : n ≤ cap) (_hm : cap ≤ 9223372036854775807) (hsz : cur.size = cap * 1) (hpre : cur.toList.take (n * 1) = xs) :
    Calls Try.prog 70 #[.slice (some ⟨g, 0, none⟩) n cap, .int .i64 i, .int .i64 (i + 1)] w fun e w' => e = .returned (.slice (some ⟨g, 0, none⟩) (n - 1) cap) ∧
      w'.ownsRow base 44 1 (.slice (some ⟨g, 0, none⟩) (n - 1) cap) (n - 1) (cut1 1 i xs) ∧ Upd (fun k => k = g) w w' := by
  obtain ⟨i0, ti, tz, ts, tb⟩ := info_parts Try.info44
  have k1 : (0 : Int) ≤ (i : Int) := by omega
  have k2 : (i : Int) < (n : Int) := by omega
  have k3 : (i : Int) + 1 ≤ (n : Int) := by omega
  have k4 : (n : Int) ≤ (cap : Int) := by omega
  have k6 : (0 : Int) ≤ (i : Int) + 1 := by omega
  have k5 : ((i : Int) == (i : Int) + 1) = false := by simp; omega
  obtain ⟨cs1, hcs1⟩ : ∃ c, c = (cur.toList.take (i * 1) ++ xs.drop ((i + 1) * 1) ++ cur.toList.drop (i * 1 + (xs.drop ((i + 1) * 1)).length)) := ⟨_, rfl⟩
  obtain ⟨cs2, hcs2⟩ : ∃ c, c = (cs1.take ((n - 1) * 1) ++ [Value.pointer none] ++ cs1.drop ((n - 1) * 1 + 1)).toArray := ⟨_, rfl⟩
  obtain ⟨news, hnews⟩ : ∃ x, x = xs.drop ((i + 1) * 1) := ⟨_, rfl⟩
  have hnl : news.length = (n - (i + 1)) * 1 := by rw [hnews, List.length_drop, hown.1, Nat.sub_mul]
  obtain ⟨A, hA, hsrc⟩ : ∃ A : Addr, (if cap = i + 1 then some (⟨g, 0, none⟩ : Addr) else some ⟨g, i + 1, none⟩) = some A ∧ Hid (∀ t u, news[t]? = some u → w.drew.cell? (A.add t) = some u) := by
    by_cases h : cap = i + 1
    · refine ⟨_, by rw [if_pos h], fun t u hu => ?_⟩
      rw [List.eq_nil_of_length_eq_zero (show news.length = 0 by rw [hnl, show n - (i + 1) = 0 by omega, Nat.zero_mul])] at hu
      simp at hu
    · refine ⟨_, by rw [if_neg h], fun t u hu => ?_⟩
      rw [Addr.add_lit]
      show w.cell? _ = _
      rw [hb.cell, ← Array.getElem?_toList]
      rw [hnews, Nat.mul_one, List.getElem?_drop, ← hpre, List.getElem?_take] at hu
      split at hu
      · exact hu
      · cases hu
  have s1 : Hid (news.length = (n - (i + 1)) * 1) := hnl
  have s2 : Hid (∀ u ∈ news, u.oneCell' = true) := fun u hu => h1 u (by rw [hnews] at hu; exact List.mem_of_mem_drop hu)
  have s3 : Hid (i * 1 + news.length ≤ cur.size) := by
    have := Nat.mul_le_mul_right 1 (show i + (n - (i + 1)) ≤ cap by omega)
    rw [Nat.add_mul] at this
    rw [hnl, hsz]; exact this
  have s4 : Hid (Blk w.drew g 44 cur) := hb
  have hc1l : cs1.length = cap * 1 := by
    have e1 : (i + 1) * 1 = i * 1 + 1 := Nat.succ_mul i 1
    have e2 : i * 1 + news.length ≤ cur.size := s3
    rw [hcs1]; simp only [List.length_append, List.length_take, List.length_drop, Array.length_toList, hsz, ← hnews] at e2 ⊢
    omega
  obtain ⟨W1, hW1⟩ : ∃ W1, W1 = w.drew.setRow g (cur.toList.take (i * 1) ++ news ++ cur.toList.drop (i * 1 + news.length)).toArray := ⟨_, rfl⟩
  have hB1 : Blk W1 g 44 cs1.toArray := by rw [hW1, hcs1, hnews]; exact s4.out.setRow _
  have hcl : ∀ ty, (Builtin.clear_ #[53] ty #[.slice (some ⟨g, n - 1, none⟩) 1 (cap - (n - 1))]).run Try.prog W1 = .ok (.tuple #[]) (W1.setRow g cs2) := fun ty => by
    rw [hcs2]
    rw [Nat.mul_one]
    exact run_clear_one W1 53 44 ty (.pointer none) Try.underlying53 (Try.zeroValue44 _) (by simp [Value.cells, Value.oneCell']) g _ _ cs1.toArray hB1 (by
      have h3 : (n - 1) * 1 + 1 ≤ cap * 1 := by rw [← Nat.succ_mul]; exact Nat.mul_le_mul_right _ (by omega)
      show _ + 1 ≤ _
      rw [List.size_toArray, hc1l]; omega)
  have hW : Hid (W1 = w.drew.setRow g (cur.toList.take (i * 1) ++ news ++ cur.toList.drop (i * 1 + news.length)).toArray) := hW1
  have HO := Lib.hid (And.intro hown (And.intro hb (And.intro h1 (And.intro hcs1 (And.intro hcs2 (And.intro hnews hB1))))))
  have q1 : i ≤ cap := by omega
  have q2 : i + 1 ≤ cap := by omega
  clear hown hb h1 hsz hpre hcs1 hcs2 hnews hW1 hB1 hnl hc1l
  go_enter Try.func70, Try.ntmps70
  go_wp2_with fail
  go_region_law (refine step_append_row rfl (.tmp 22) (.tmp 25) 53 rfl 44 i0 1 Try.underlying53 ti ts g i cap cur (by simp [Act.eval, Act.put]) s4.out A (n - (i + 1)) (cap - (i + 1)) news (by simp [Act.eval, Act.put]) s1.out hsrc.out s2.out (by omega) s3.out ?_; rw [← hW.out])
  rw [show i + (n - (i + 1)) = n - 1 by omega]
  have k7 : ((n - 1 : Nat) : Int) ≤ (n : Int) := by omega
  have k8 : n - (n - 1) = 1 := by omega
  have k9 : ¬ cap = n - 1 := by omega
  go_wp2_with fail
  go_ret
  obtain ⟨hown, hb, h1, hcs1, hcs2, hnews, hB1⟩ := HO.out
  refine ⟨rfl, own_deleted (zs := [Value.pointer none]) hown hb hi rfl ?_, ?_⟩
  · dsimp only
    rw [← hcs1]
    have := hB1.setRow cs2
    rw [hcs2] at this ⊢
    exact this
  · rw [hW.out]
    exact (((Upd.refl (fun k => k = g) w).drew).setRow_ rfl _).setRow_ rfl _

/-- slices.Delete of one element. -/
theorem delete70 (base n cap i : Nat) (A : Option Addr) (xs : List Value) (w : World) (hown : w.ownsRow base 44 1 (.slice A n cap) n xs) (hi : i < n) (hn : n ≤ 1000000) (h1 : ∀ u ∈ xs, u.oneCell' = true) :
    Calls Try.prog 70 #[.slice A n cap, .int .i64 i, .int .i64 (i + 1)] w fun e w' => e = .returned (.slice A (n - 1) cap) ∧
      w'.ownsRow base 44 1 (.slice A (n - 1) cap) (n - 1) (cut1 1 i xs) ∧ Upd (fun k => some k = (Value.slice A n cap).ownBlock) w w' := by
  rcases id hown.2 with ⟨_, e⟩ | ⟨g, cap', cur, hv, hb, hg, hc, hm, hs, ht⟩
  · omega
  · injection hv with hv1 _ hv2
    subst hv1; subst hv2
    refine (delete70_row base g n cap i xs cur w hown hg hi hn h1 hc (by unfold maxLen at hm; omega) hs ht).mono ?_
    rintro e w' ⟨h2, h3, h4⟩
    exact ⟨h2, h3, h4.mono fun k _ e => by subst e; rfl⟩


def Cloned71 (n : Nat) (xs : List Value) (w : World) (e : Ending) (w' : World) : Prop := ∃ A c, e = .returned (.slice A n c) ∧ w'.ownsRow w.heap.size 44 1 (.slice A n c) n xs ∧ Grows w w'
set_option maxHeartbeats 1000000 in
/-- slices.Clone. -/
theorem clone71 (n c : Nat) (A : Option Addr) (xs : List Value) (w : World) (hr : Rd w 1 A n xs) (hn : n ≤ 1000000) (h1 : ∀ u ∈ xs, u.oneCell' = true) :
    Calls Try.prog 71 #[.slice A n c] w (Cloned71 n xs w) := by
  obtain ⟨i0, ti, tz, ts, tb⟩ := info_parts Try.info44
  have heq := fun (a : Option Addr) (w : World) => Go.Lib.run_eql_slice_nil (P := Try.prog) w 53 44 a n c 0 0 Try.underlying53
  have HR := Lib.hid (And.intro hr h1)
  clear hr h1
  cases A with
  | none =>
    go_enter Try.func71, Try.ntmps71
    go_wp2_with fail
    go_ret
    obtain rfl := HR.out.1.none_len
    have : xs = [] := List.eq_nil_of_length_eq_zero (by simpa using HR.out.1.1)
    subst this
    exact ⟨none, 0, rfl, World.ownsRow_nil _ _ _ _, Grows.refl _⟩
  | some ad =>
    have hsrc := Lib.hid (HR.out.1.grows (Grows.alloc w (.cells #[] 44))).news
    have hown := Lib.hid (World.ownsRow_made (e := 44) (size := 1) w #[] 0 (Nat.le_refl _) (by decide) rfl)
    go_enter Try.func71, Try.ntmps71
    go_wp2_with (at_builtin; refine wpList_append_own_at _ rfl (.tmp 5) (.tmp 6) 53 rfl w.heap.size 44 i0 (.pointer none) 1 8 Try.underlying53 ti tz ts tb rfl (by omega) (.slice (some ⟨w.heap.size, 0, none⟩) 0 0) 0 [] rfl hown.out ad n c xs rfl HR.out.1.1 hsrc.out HR.out.2 (by unfold maxLen; omega) (by omega) (by simp) ?_; intro v' w' ho hg _ _; have F := Lib.hid (And.intro ho hg); clear ho hg)
    go_ret
    obtain ⟨ho, hg⟩ := F.out
    rw [Nat.zero_add] at ho
    obtain ⟨A', c', rfl⟩ := own_form ho
    refine ⟨A', c', rfl, ho, ?_⟩
    exact Upd.grows (S := fun k => k = w.heap.size) (((Upd.refl (fun k => k = w.heap.size) w).alloc (.cells #[] 44)).trans (Upd.of_grown hg fun k e _ => by simp [Value.ownBlock] at e; exact e.symm)) (fun k hk e => by omega)


end Go.Proofs.Ytkogmpeodamdgaa
