/-
  The crew of 16: the walk of slices.DeleteFunc over its pointers. Conditions: the function value answers as the list's test says and leaves the world be.
-/
import Derived.Test.YtkogmpeodamdgaaProg
import Derived.Test.YtkogmpeodamdgaaCrewB
import Derived.Test.YtkogmpeodamdgaaSlI
import Derived.WalkKit
import Derived.WalkSpells
import Derived.WalkLawsBesides
import Derived.Deep.QuietTactic
import Derived.BigQuiet
import Derived.Deep.LoopGhost
import Derived.Deep.DeepCutAuto
import Derived.Deep.RegionLaw
import Derived.Deep.AppendLies
import Derived.Maps.AppendAt
namespace Go.Proofs.Ytkogmpeodamdgaa
open Go.RowKit
set_option maxRecDepth 100000

/-- what is kept of the first jj. -/
def keptOf {α : Type} (p : α → Bool) (L : List α) (jj : Nat) : List α := (L.take jj).filter fun x => !p x

theorem keptOf_succ {α : Type} (p : α → Bool) (L : List α) (jj : Nat) (hj : jj < L.length) : keptOf p L (jj + 1) = keptOf p L jj ++ if p L[jj] then [] else [L[jj]] := by
  unfold keptOf
  rw [List.take_succ_eq_append_getElem hj, List.filter_append]
  cases h : p L[jj] <;> simp [h]

theorem keptOf_le {α : Type} (p : α → Bool) (L : List α) (jj : Nat) : (keptOf p L jj).length ≤ jj := by
  unfold keptOf
  have h1 := List.length_filter_le (fun x => !p x) (L.take jj)
  have h2 := List.length_take_le jj L
  omega

set_option maxHeartbeats 1000000 in
/-- slices.DeleteFunc, where nothing is to go. -/
theorem deleteFunc72_none {α : Type} (enc : α → Value) (L : List α) (g : Nat) (lb : Array Value) (A : Option Addr) (n c : Nat) (p : α → Bool) (w : World)
    (eg : ∀ args w, (callFunc g args).run Try.prog w = .ok (.enter g args) w) (hn : n ≤ 1000000) (hr : Rd1 w A n (L.map enc))
    (hq : ∀ (W : World) (u : α), u ∈ L → Grows w W → Calls Try.prog g (#[enc u] ++ lb) W fun e W' => e = .returned (.bool (p u)) ∧ Grows W W') (hp : L.findIdx? p = none) :
    Calls Try.prog 72 #[.slice A n c, .func (.func g) #[] lb] w fun e w' => e = .returned (.slice A n c) ∧ Grows w w' := by
  have H := Lib.hid (And.intro eg (And.intro hr (And.intro hq hp)))
  clear eg hr hq hp
  go_enter Try.func72, Try.ntmps72
  go_wp2_with fail
  refine (idxf100 enc L g lb A n c p w H.out.1 (by omega) H.out.2.1 H.out.2.2.1).mono ?_
  rintro e w1 ⟨rfl, hw⟩
  rw [H.out.2.2.2]
  simp only [oi]
  go_wp2_with fail
  go_ret
  exact ⟨rfl, hw⟩

set_option maxHeartbeats 1000000 in
/-- slices.DeleteFunc, where something goes. -/
theorem deleteFunc72_some {α : Type} (ad : α → Addr) (L : List α) (f : Nat) (lb : Array Value) (base g n cap i : Nat) (cur : Array Value) (p : α → Bool) (w : World)
    (eg : ∀ args w, (callFunc f args).run Try.prog w = .ok (.enter f args) w) (hn : n ≤ 1000000) (hown : w.ownsRow base 44 1 (.slice (some ⟨g, 0, none⟩) n cap) n (L.map (fun x => Value.pointer (some (ad x)))))
    (hb : Blk w g 44 cur) (hcap : n ≤ cap) (hm : cap ≤ maxLen) (hsz : cur.size = cap * 1) (hpre : cur.toList.take (n * 1) = L.map (fun x => Value.pointer (some (ad x)))) (hbase : base ≤ g)
    (hq : ∀ (W : World) (u : α), u ∈ L → Upd (fun k => k = g) w W → Calls Try.prog f (#[.pointer (some (ad u))] ++ lb) W fun e W' => e = .returned (.bool (p u)) ∧ Grows W W') (hp : L.findIdx? p = some i) :
    Calls Try.prog 72 #[.slice (some ⟨g, 0, none⟩) n cap, .func (.func f) #[] lb] w fun e w' => e = .returned (.slice (some ⟨g, 0, none⟩) (L.filter fun x => !p x).length cap) ∧
      w'.ownsRow base 44 1 (.slice (some ⟨g, 0, none⟩) (L.filter fun x => !p x).length cap) (L.filter fun x => !p x).length ((L.filter fun x => !p x).map (fun x => Value.pointer (some (ad x)))) ∧ Upd (fun k => k = g) w w' := by
  have hL : L.length = n := by have := hown.1; rw [List.length_map] at this; omega
  have hil : i < L.length := by have := List.findIdx?_eq_some_iff_getElem.1 hp; exact this.1
  have hm' : cap ≤ 9223372036854775807 := by unfold maxLen at hm; omega
  have H := Lib.hid (And.intro eg (And.intro hown (And.intro hq (And.intro hp (And.intro hb (And.intro hsz (And.intro hpre (And.intro hL hm))))))))
  have hin : i < n := by omega
  clear eg hown hq hp hb hsz hpre hL hm
  go_enter Try.func72, Try.ntmps72
  go_wp2_with fail
  refine (idxf100 (fun x => Value.pointer (some (ad x))) L f lb _ n cap p w H.out.1 (by omega) (Rd1.of_own H.out.2.1) (fun W u hu hW => H.out.2.2.1 W u hu (Upd.of_grows hW))).mono ?_
  rintro e w1 ⟨rfl, hw⟩
  rw [H.out.2.2.2.1]
  have G := Lib.hid hw
  clear hw
  simp only [oi]
  have hne : ((i : Int) == -1) = false := by cases i <;> rfl
  go_wp2_with fail
  go_loopg [5, 6, 7] n (fun gg s5 s6 _ wr => ∃ ii jj : Nat, ii < jj ∧ jj ≤ n ∧ n - jj ≤ gg ∧ s5 = .int .i64 ii ∧ s6 = .int .i64 jj ∧ Upd (fun k => k = g) w wr ∧
      Hid (ii = (keptOf p L jj).length ∧ ∃ cu : Array Value, Blk wr g 44 cu ∧ cu.size = cap * 1 ∧ cu.toList.take ii = (keptOf p L jj).map (fun x => Value.pointer (some (ad x))) ∧ ∀ t, jj ≤ t → t < n → cu[t]? = (L.map (fun x => Value.pointer (some (ad x))))[t]?))
  case atStart =>
    have hp := List.findIdx?_eq_some_iff_getElem.1 H.out.2.2.2.1
    obtain ⟨hil', hpi, hlow⟩ := hp
    have hk : keptOf p L (i + 1) = L.take i := by
      rw [keptOf_succ p L i hil', hpi]
      simp only [if_true, List.append_nil]
      unfold keptOf
      rw [List.filter_eq_self]
      intro x hx
      obtain ⟨j, hj, rfl⟩ := List.mem_take_iff_getElem.1 hx
      have := hlow j (by omega)
      simpa using this
    refine ⟨i, i + 1, Nat.lt_succ_self _, hin, Nat.sub_le _ _, rfl, rfl, Upd.of_grows G.out, Lib.hid ⟨?_, cur, H.out.2.2.2.2.1.grows G.out, H.out.2.2.2.2.2.1, ?_, ?_⟩⟩
    · rw [hk, List.length_take, Nat.min_eq_left (by omega)]
    · rw [hk, List.map_take, ← H.out.2.2.2.2.2.2.1, List.take_take, Nat.min_eq_left (by omega)]
    · intro t h1 h2
      rw [← H.out.2.2.2.2.2.2.1, List.getElem?_take, if_pos (by omega), Array.getElem?_toList]
  case round =>
    obtain ⟨ii, jj, hij, hjn, hg, rfl, rfl, hU, HC⟩ := hrel
    have HU := Lib.hid hU
    clear hU
    have eg := H.out.1
    have hmul : Hid (jj < n → jj < L.length) := fun h => by have := H.out.2.2.2.2.2.2.2.1; omega
    by_cases hlt : jj < n
    · have hltz : (jj : Int) < (n : Int) := by omega
      have hjl := hmul.out hlt
      obtain ⟨hii, cu, hBl, hcs, htk, hrest⟩ := HC.out
      have hcj : wr.cell? ⟨g, jj, none⟩ = some (.pointer (some (ad L[jj]))) := by
        rw [hBl.cell, hrest jj (Nat.le_refl _) hlt, List.getElem?_map, List.getElem?_eq_getElem hjl]; rfl
      have hici : ∃ x, wr.cell? ⟨g, ii, none⟩ = some x := by
        rw [hBl.cell]; exact ⟨_, Array.getElem?_eq_getElem (by omega)⟩
      obtain ⟨old, hci⟩ := hici
      have hfi := hBl.frozen ii
      have hcall := H.out.2.2.1 wr L[jj] (List.getElem_mem hjl) HU.out
      generalize hu : L[jj] = u at hcj hcall
      have HH := Lib.hid (And.intro hii (And.intro hBl (And.intro hcs (And.intro htk (And.intro hrest hu)))))
      clear hii hBl hcs htk hrest hu
      cases hqu : p u with
      | true =>
        rw [hqu] at hcall
        go_wp2_with fail
        refine hcall.mono ?_
        rintro e w' ⟨rfl, hw'⟩
        go_wp2_with fail
        go_roundg (n - (jj + 1))
        case measure => omega
        case rel =>
          obtain ⟨hii, hBl, hcs, htk, hrest, hu⟩ := HH.out
          refine ⟨ii, jj + 1, by omega, by omega, by omega, rfl, by go_num, HU.out.then_ hw', Lib.hid ⟨?_, cu, hBl.grows hw', hcs, ?_, fun t h1 h2 => hrest t (by omega) h2⟩⟩
          · rw [keptOf_succ p L jj hjl, hu, hqu]; simpa using hii
          · rw [keptOf_succ p L jj hjl, hu, hqu]; simpa using htk
      | false =>
        rw [hqu] at hcall
        go_wp2_with fail
        refine hcall.mono ?_
        rintro e w' ⟨rfl, hw'⟩
        have hci' := hw'.cell hci
        have hfi' := (HH.out.2.1.grows hw').frozen ii
        have GW := Lib.hid hw'
        clear hw'
        go_wp2_with fail
        go_roundg (n - (jj + 1))
        case measure => omega
        case rel =>
          obtain ⟨hii, hBl, hcs, htk, hrest, hu⟩ := HH.out
          have hkl := keptOf_le p L jj
          have hk : keptOf p L (jj + 1) = keptOf p L jj ++ [u] := by rw [keptOf_succ p L jj hjl, hu, hqu]; rfl
          refine ⟨ii + 1, jj + 1, by omega, by omega, by omega, by go_num, by go_num, (HU.out.then_ GW.out).set rfl _, Lib.hid ⟨by rw [hk, List.length_append, ← hii]; rfl, cu.setIfInBounds ii (.pointer (some (ad u))), (hBl.grows GW.out).set_ ii _, by simpa using hcs, ?_, fun t h1 h2 => ?_⟩⟩
          · rw [hk, List.map_append, ← htk, Array.toList_setIfInBounds]
            rw [List.take_succ_eq_append_getElem (by simp; omega), List.take_set_of_le (by omega)]
            simp
          · rw [Array.getElem?_setIfInBounds_ne (by omega)]; exact hrest t (by omega) h2
    · have hltz : ¬ (jj : Int) < (n : Int) := by omega
      have : jj = n := by omega
      subst this
      obtain ⟨hii, cu, hBl, hcs, htk, hrest⟩ := HC.out
      have hkL : keptOf p L jj = L.filter fun x => !p x := by
        unfold keptOf; rw [List.take_of_length_le (by have := H.out.2.2.2.2.2.2.2.1; omega)]
      rw [hkL] at hii htk
      have hoff : ¬ cap = ii := by omega
      have e1 : (ii : Int) ≤ (jj : Int) := by omega
      have e2 : (ii : Int) ≤ (cap : Int) := by omega
      have hcl : ∀ ty, (Builtin.clear_ #[53] ty #[.slice (some ⟨g, ii, none⟩) (jj - ii) (cap - ii)]).run Try.prog wr = .ok (.tuple #[]) (wr.setRow g (cu.toList.take ii ++ (Builtin.zeroCells (Value.pointer none).cells (jj - ii)).toList ++ cu.toList.drop (ii + (jj - ii) * 1)).toArray) := fun ty =>
        run_clear_many wr 53 44 ty (.pointer none) Try.underlying53 (Try.zeroValue44 _) (by simp [Value.cells, Value.oneCell']) g ii (jj - ii) _ cu (by omega) hBl (by show _ + _ * 1 ≤ _; omega)
      obtain ⟨c2, hc2⟩ : ∃ c, c = (cu.toList.take ii ++ (Builtin.zeroCells (Value.pointer none).cells (jj - ii)).toList ++ cu.toList.drop (ii + (jj - ii) * 1)).toArray := ⟨_, rfl⟩
      rw [← hc2] at hcl
      have HH := Lib.hid (And.intro hii (And.intro hBl (And.intro hcs (And.intro htk hc2))))
      clear hii hBl hcs htk hrest hc2 hkL
      go_wp2_with fail
      go_ret
      obtain ⟨hii, hBl, hcs, htk, hc2⟩ := HH.out
      have hzl : (Builtin.zeroCells (Value.pointer none).cells (jj - ii)).toList.length = jj - ii := by rw [zeroCells_many]; exact Nat.mul_one _
      rw [← hii]
      have hlt2 : (cu.toList.take ii).length = ii := by rw [List.length_take, Array.length_toList]; omega
      refine ⟨rfl, own_cut (hBl.setRow c2) hbase (by omega) hcap H.out.2.2.2.2.2.2.2.2 ?_ ?_, HU.out.setRow_ rfl _⟩
      · rw [hc2]; simp only [List.size_toArray, List.length_append, hzl, hlt2, List.length_drop, Array.length_toList, hcs]; omega
      · rw [hc2, Nat.mul_one]
        show List.take ii (_ ++ _ ++ _) = _
        rw [List.append_assoc, List.take_append_of_le_length (by omega), List.take_take, Nat.min_self, htk]
end Go.Proofs.Ytkogmpeodamdgaa
