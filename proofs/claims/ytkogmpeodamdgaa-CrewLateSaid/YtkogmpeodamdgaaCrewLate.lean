/-
  PROVED: hostlerlaw16.CrewLate's walk: from every argument that reads as its slices, the call returns true and the world only grows. Conditions: the argument slices are readable, ints in range.
-/
import Derived.Test.YtkogmpeodamdgaaProg
import Derived.Test.YtkogmpeodamdgaaCrewD
import Derived.WalkKit
import Derived.WalkSpells
import Derived.WalkLawsBesides
import Derived.Deep.QuietTactic
import Derived.BigQuiet
import Derived.Deep.LoopGhost
import Derived.Deep.DeepCutAuto
import Derived.Deep.RegionLaw
import Derived.Deep.AppendLies
import Derived.Maps.AppendAt
namespace Go.Proofs.Ytkogmpeodamdgaa
open Go.RowKit
set_option maxRecDepth 100000

theorem CrewAt.upd_last {w w' : World} {base c cap b : Nat} {A : Option Addr} {L : List (Nat × RunS)} {r r' : RunS} (h : CrewAt w base c A cap (L ++ [(b, r)])) (hu : Upd (fun k => k = b) w w') (hr : RunAt w' b r')
    (hb : ∀ x ∈ L, x.1 ≠ b) : CrewAt w' base c A cap (L ++ [(b, r')]) := by
  have hrb : RunAt w b r := h.runs (b, r) (by simp)
  have hl : (L ++ [(b, r')]).length = (L ++ [(b, r)]).length := by simp
  have hm : (L ++ [(b, r')]).map ptrV = (L ++ [(b, r)]).map ptrV := by simp [ptrV]
  refine ⟨?_, ?_, ?_⟩
  · rw [hl]; exact h.box.upd hu (Blk.ne_ h.box hrb (by decide))
  · rw [hl, hm]
    exact own_upd h.own hu (fun k hk e => own_blk_ne h.own hrb (by decide) (e ▸ hk))
  · intro x hx
    rcases List.mem_append.1 hx with hx | hx
    · exact (h.runs x (by simp [hx])).upd hu (hb x hx)
    · rw [List.mem_singleton] at hx; subst hx; exact hr

theorem run_neq_ptr_same {P : Program} (w : World) {tp te : TypeId} {j : TypeInfo} (a : Addr) (hp : P.underlying tp = some (.pointer te)) (hte : P.info? te = some j) :
    (binOp .neq tp (.pointer (some a)) (.pointer (some a))).run P w = .ok (.bool false) w := by
  have h : ∀ d : Nat, (Op.equalIn (d + 1) tp (.pointer (some a)) (.pointer (some a))).run P w = .ok true w := fun d => by
    simp [Op.equalIn, run_underlying hp, sizeOf, typeInfo, hte, run_sameAddr_same]
  simp only [binOp]
  simp [Op.equal, Op.maxDepth, h 9999]

theorem own_ne_own {w : World} {base e size n base' e' size' n' : Nat} {v v' : Value} {xs xs' : List Value} (h : w.ownsRow base e size v n xs) (h' : w.ownsRow base' e' size' v' n' xs') (hne : e ≠ e') : ∀ k, v.ownBlock = some k → v'.ownBlock ≠ some k := by
  intro k hk
  rcases h.2 with ⟨rfl, _⟩ | ⟨g, cap, cur, rfl, _, hh, _⟩
  · simp [Value.ownBlock] at hk
  · have : g = k := by simpa [Value.ownBlock] using hk
    subst this
    exact own_blk_ne h' (t := e) hh hne.symm

/-- the names of the law's executors. -/
def eS (i : Nat) : ByteArray := ⟨#[101]⟩ ++ ((⟨#[49, 50, 51, 52, 53, 54, 55, 56, 57]⟩ : ByteArray).extract i 9).extract 0 1
theorem eS_inj : ∀ i, i < 9 → ∀ j, j < 9 → (eS i).toList = (eS j).toList → i = j := by
  have h : ∀ i, i < 9 → ∀ j, j < 9 → (eS i).data.toList = (eS j).data.toList → i = j := by decide
  intro i hi j hj he
  rw [ByteArray.toList_eq, ByteArray.toList_eq] at he
  exact h i hi j hj he

/-- what is known of the law's runs. -/
def LateL (_now : Int) (i : Nat) (L : List (Nat × RunS)) : Prop := L.length = i ∧ ∀ j (hj : j < L.length), L[j].2.n = (j : Int) + 1 ∧ L[j].2.f = ⟨#[102]⟩ ∧ L[j].2.e = eS j

theorem LateL.fresh {now : Int} {i : Nat} {L : List (Nat × RunS)} (h : LateL now i L) (hi : i < 9) : L.findIdx? (fun y => isAt ⟨#[102]⟩ (eS i) y.2) = none := by
  rw [List.findIdx?_eq_none_iff]
  intro x hx
  obtain ⟨j, hj, rfl⟩ := List.mem_iff_getElem.1 hx
  obtain ⟨h1, h2⟩ := h
  obtain ⟨_, _, h3⟩ := h2 j hj
  unfold isAt
  rw [h3]
  have : ((eS j).toList == (eS i).toList) = false := by
    rw [beq_eq_false_iff_ne]
    intro e
    have := eS_inj j (by omega) i hi e
    omega
  rw [this, Bool.and_false]

theorem LateL.last {now : Int} {i : Nat} {L : List (Nat × RunS)} (h : LateL now i L) (hi : i < 9) (b : Nat) (r : RunS) (hf : r.f = ⟨#[102]⟩) (he : r.e = eS i) : (L ++ [(b, r)]).findIdx? (fun y => isAt ⟨#[102]⟩ (eS i) y.2) = some i := by
  rw [List.findIdx?_append, h.fresh hi]
  simp [List.findIdx?_cons, isAt, hf, he, h.1]

theorem LateL.snoc {now : Int} {i : Nat} {L : List (Nat × RunS)} (h : LateL now i L) (b : Nat) (r : RunS) (hf : r.f = ⟨#[102]⟩) (he : r.e = eS i) (hn : r.n = (i : Int) + 1) : LateL now (i + 1) (L ++ [(b, r)]) := by
  refine ⟨by simp [h.1], fun j hj => ?_⟩
  by_cases e : j < L.length
  · rw [List.getElem_append_left e]; exact h.2 j e
  · have : j = L.length := by simp at hj; omega
    subst this
    rw [List.getElem_concat_length rfl]
    rw [h.1]
    exact ⟨hn, hf, he⟩

theorem bytes_ne (a b : ByteArray) (h : a.data.toList ≠ b.data.toList) : (a.toList == b.toList) = false := by
  rw [beq_eq_false_iff_ne, ByteArray.toList_eq, ByteArray.toList_eq]; exact h

theorem LateL.noG {now : Int} {i : Nat} {L : List (Nat × RunS)} (h : LateL now i L) : L.findIdx? (fun y => isAt ⟨#[103]⟩ ⟨#[101, 49]⟩ y.2) = none := by
  rw [List.findIdx?_eq_none_iff]
  intro x hx
  obtain ⟨j, hj, rfl⟩ := List.mem_iff_getElem.1 hx
  unfold isAt
  rw [(h.2 j hj).2.1, bytes_ne ⟨#[102]⟩ ⟨#[103]⟩ (by decide), Bool.false_and]

theorem LateL.noNone {now : Int} {i : Nat} {L : List (Nat × RunS)} (h : LateL now i L) (hi : i ≤ 9) : L.findIdx? (fun y => isAt ⟨#[102]⟩ ⟨#[110, 111, 110, 101]⟩ y.2) = none := by
  rw [List.findIdx?_eq_none_iff]
  intro x hx
  obtain ⟨j, hj, rfl⟩ := List.mem_iff_getElem.1 hx
  unfold isAt
  have hd : ∀ j, j < 9 → (eS j).data.toList ≠ [110, 111, 110, 101] := by decide
  rw [(h.2 j hj).2.2, bytes_ne (eS j) ⟨#[110, 111, 110, 101]⟩ (hd j (by have := h.1; omega)), Bool.and_false]

theorem LateL.e1 {now : Int} {i : Nat} {L : List (Nat × RunS)} (h : LateL now i L) : (L = [] ∧ L.findIdx? (fun y => isAt ⟨#[102]⟩ ⟨#[101, 49]⟩ y.2) = none) ∨ ∃ h0 : 0 < L.length, L[0].2.n ≠ 99 ∧ L.findIdx? (fun y => isAt ⟨#[102]⟩ ⟨#[101, 49]⟩ y.2) = some 0 := by
  cases L with
  | nil => exact .inl ⟨rfl, rfl⟩
  | cons x L =>
    refine .inr ⟨by simp, ?_, ?_⟩
    · rw [(h.2 0 (by simp)).1]; decide
    · obtain ⟨_, h1, h2⟩ := h.2 0 (by simp)
      simp only [List.getElem_cons_zero] at h1 h2
      rw [List.findIdx?_cons]
      have e : (eS 0).toList = (⟨#[101, 49]⟩ : ByteArray).toList := by rw [ByteArray.toList_eq, ByteArray.toList_eq]; decide
      simp only [isAt, h1, h2, e, beq_self_eq_true, Bool.and_self, if_true]

/-- what the law's first loop carries. -/
def LateRel (w : World) (now : Int) (i : Nat) (L : List (Nat × RunS)) (A' A3 : Option Addr) (cp c3 : Nat) (wr : World) : Prop :=
  CrewAt wr (w.heap.size + 1) w.heap.size A' cp L ∧ wr.ownsRow (w.heap.size + 1) 3 1 (.slice A3 (L.filter fun x => lateB now x.2).length c3) (L.filter fun x => lateB now x.2).length ((L.filter fun x => lateB now x.2).map fun x => .int .i64 x.2.n) ∧ Below w.heap.size w wr ∧ LateL now i L

theorem LateRel.keep {w wr w' : World} {now : Int} {i : Nat} {L : List (Nat × RunS)} {A' A3 A4 : Option Addr} {cp c3 cp4 : Nat} {S : Nat → Prop} (h : LateRel w now i L A' A3 cp c3 wr) (b : Nat) (r : RunS)
    (hC : CrewAt w' (w.heap.size + 1) w.heap.size A4 cp4 (L ++ [(b, r)])) (hf : r.f = ⟨#[102]⟩) (he : r.e = eS i) (hn : r.n = (i : Int) + 1) (hl : lateB now r = false)
    (hu : Upd S wr w') (hS : ∀ k, S k → w.heap.size ≤ k ∧ (Value.slice A3 (L.filter fun x => lateB now x.2).length c3).ownBlock ≠ some k) :
    LateRel w now (i + 1) (L ++ [(b, r)]) A4 A3 cp4 c3 w' := by
  obtain ⟨_, h2, h3, h4⟩ := h
  have hfl : (L ++ [(b, r)]).filter (fun x => lateB now x.2) = L.filter fun x => lateB now x.2 := by simp [List.filter_append, hl]
  refine ⟨hC, ?_, h3.trans (hu.below (by have := h3.size; exact this) (fun k hk hs => by have := (hS k hs).1; omega)), h4.snoc b r hf he hn⟩
  rw [hfl]
  exact own_upd h2 hu (fun k hk hs => (hS k hs).2 hk)

theorem CrewAt.grown_own {w w' : World} {base c cap base' e size n : Nat} {A : Option Addr} {L : List (Nat × RunS)} {v : Value} {xs : List Value} (h : CrewAt w base c A cap L) (ho : w.ownsRow base' e size v n xs) (hg : w.grownBy w' v.ownBlock)
    (h1 : e ≠ 118) (h2 : e ≠ 44) (h3 : e ≠ 120) : CrewAt w' base c A cap L :=
  ⟨h.box.grown hg (Ne.symm (own_blk_ne ho h.box h1)), h.own.kept hg (by
      cases hk : (Value.slice A L.length cap).ownBlock with
      | none => exact .inl rfl
      | some k => exact .inr (Ne.symm (own_ne_own h.own ho (Ne.symm h2) k hk))), fun x hx => Blk.grown (h.runs x hx) hg (Ne.symm (own_blk_ne ho (h.runs x hx) h3))⟩

theorem LateRel.more {w wr w' : World} {now : Int} {i : Nat} {L : List (Nat × RunS)} {A' A3 A4 A5 : Option Addr} {cp c3 cp4 c5 : Nat} {S : Nat → Prop} (h : LateRel w now i L A' A3 cp c3 wr) (b : Nat) (r : RunS)
    (hC : CrewAt w' (w.heap.size + 1) w.heap.size A4 cp4 (L ++ [(b, r)])) (hf : r.f = ⟨#[102]⟩) (he : r.e = eS i) (hn : r.n = (i : Int) + 1) (hl : lateB now r = true)
    (hu : Upd S wr w') (hS : ∀ k, S k → w.heap.size ≤ k)
    (ho : w'.ownsRow (w.heap.size + 1) 3 1 (.slice A5 ((L.filter fun x => lateB now x.2).length + 1) c5) ((L.filter fun x => lateB now x.2).length + 1) (((L.filter fun x => lateB now x.2).map fun x => Value.int .i64 x.2.n) ++ [.int .i64 ((i : Int) + 1)])) :
    LateRel w now (i + 1) (L ++ [(b, r)]) A4 A5 cp4 c5 w' := by
  obtain ⟨_, h2, h3, h4⟩ := h
  have hfl : (L ++ [(b, r)]).filter (fun x => lateB now x.2) = (L.filter fun x => lateB now x.2) ++ [(b, r)] := by simp [List.filter_append, hl]
  refine ⟨hC, ?_, h3.trans (hu.below (by have := h3.size; exact this) (fun k hk hs => by have := hS k hs; omega)), h4.snoc b r hf he hn⟩
  rw [hfl, List.length_append, List.map_append, List.map_singleton, hn]
  exact ho

/-- the first phase of a run of the law. -/
def ph (i : Nat) : Int := if i % 2 = 0 then 1 else 4
theorem ph_or (i : Nat) : ph i = 1 ∨ ph i = 4 := by unfold ph; split <;> simp
theorem ph_at (i : Nat) : [Value.int .i64 1, Value.int .i64 4][i % 2]? = some (.int .i64 (ph i)) := by
  unfold ph
  rcases Nat.mod_two_eq_zero_or_one i with h | h <;> simp [h]

theorem Try.info3 : (Try.prog.info? 3).map (fun i => (i.zero, i.size, i.bytes)) = some (some (.int .i64 0), 1, 8) := by kernel_rfl
set_option maxHeartbeats 2000000 in
theorem crewLate_walk (A1 A2 : Option Addr) (n1 c1 n2 c2 : Nat) (ds : List Int) (hs : List Bool) (now : Int) (w : World) (hd : Rd1 w A1 n1 (ds.map (Value.int .i64))) (hh : Rd1 w A2 n2 (hs.map Value.bool))
    (hdr : ∀ x ∈ ds, -9223372036854775808 ≤ x ∧ x ≤ 9223372036854775807) (hnow : -9223372036854775808 ≤ now ∧ now ≤ 9223372036854775807) (hn1 : n1 ≤ 9223372036854775807) (hn2 : n2 ≤ 9223372036854775807) :
    Calls Try.prog 5 #[.slice A1 n1 c1, .slice A2 n2 c2, .int .i64 now] w fun e w' => e = .returned (.bool true) ∧ Grows w w' := by
  obtain ⟨i120, t120, k1, k2, k3⟩ := info_parts Try.info120
  clear k1 k2 k3
  have hep := fun (a : Addr) (w : World) => run_neq_ptr_same (P := Try.prog) w a Try.underlying44 t120
  clear t120
  have HD := Lib.hid (And.intro hd (And.intro hh hdr))
  clear hd hh hdr
  obtain ⟨i3, t3, z3, s3, y3⟩ := info_parts Try.info3
  have hwn := within_lt now 20 (by omega)
  go_enter Try.func5, Try.ntmps5
  go_wp2_with fail
  refine (crew_new w).mono ?_
  rintro r w1 ⟨rfl, hc, hg1⟩
  have HC := Lib.hid (And.intro hc hg1)
  clear hc hg1
  go_wp2_with fail
  refine (within_any now 20 w1 hnow (by omega)).mono ?_
  rintro r w2 ⟨rfl, rfl⟩
  go_wp2_with fail
  have hlw : w.heap.size < w1.heap.size := by have := (HC.out.1 0).box.lt; exact this
  go_loopg [8, 9] 9 (fun gg s8 s9 wr => ∃ (i : Nat) (L : List (Nat × RunS)) (A' A3 : Option Addr) (cp c3 : Nat), i ≤ 9 ∧ i ≤ n1 ∧ 9 - i ≤ gg ∧ s9 = .int .i64 i ∧ s8 = .slice A3 (L.filter fun x => lateB (within now 20) x.2).length c3 ∧
      Hid (LateRel w (within now 20) i L A' A3 cp c3 wr))
  case atStart => exact ⟨0, [], none, none, 0, 0, by omega, by omega, by omega, rfl, rfl, Lib.hid ⟨HC.out.1 _, World.ownsRow_nil _ _ _ _, HC.out.2, rfl, fun j hj => absurd hj (by simp)⟩⟩
  case round =>
    obtain ⟨i, L, A', A3, cp, c3, hi9, hin, hgg, rfl, rfl, HI⟩ := hrel
    by_cases hlt : i < 9 ∧ i < n1
    · obtain ⟨hlt9, hltn⟩ := hlt
      have hz1 : (i : Int) < (n1 : Int) := by omega
      have hz2 : (i : Int) < 9 := by omega
      have hz3 : (0 : Int) ≤ (i : Int) := by omega
      go_wp2_with fail
      obtain ⟨hCr, hown, hbel, hL⟩ := HI.out
      refine (run_new _ _ _ wr).mono ?_
      rintro r w3 ⟨rfl, hr0, hg3⟩
      have hr0 : RunAt w3 wr.heap.size ⟨⟨#[102]⟩, eS i, (i : Int) + 1, 0, 0, false⟩ := hr0
      have hbl : ∀ x ∈ L, x.1 ≠ wr.heap.size := fun x hx e => by have := (hCr.runs x hx).lt; omega
      have hLlen : L.length = i := hL.1
      have hL1 : L.length ≤ 1000000 := by omega
      have hb1 : w.heap.size + 1 ≤ w3.heap.size := by have := hCr.box.lt; have := hg3.size; omega
      have hfr := hL.fresh hlt9
      have H3 := Lib.hid (And.intro hCr (And.intro hown (And.intro hbel (And.intro hL (And.intro hr0 (And.intro hg3 (And.intro hbl hfr)))))))
      clear hCr hown hbel hL hr0 hg3 hbl hfr
      go_wp2_with fail
      refine (crew_add_new (w.heap.size + 1) w.heap.size A' cp L (wr.heap.size, ⟨⟨#[102]⟩, eS i, (i : Int) + 1, 0, 0, false⟩) w3 (H3.out.1.grows H3.out.2.2.2.2.2.1) H3.out.2.2.2.2.1 hL1 hb1 H3.out.2.2.2.2.2.2.2).mono ?_
      rintro r w4 ⟨rfl, ⟨A4, cp4, hC4⟩, hu4⟩
      have H4 := Lib.hid (And.intro hC4 hu4)
      clear hC4 hu4
      obtain ⟨bd, od, rfl, hdc⟩ := HD.out.1.2 (by omega)
      have hdl : i < ds.length := by have := HD.out.1.1; rw [List.length_map] at this; omega
      have hdi := hdc i (by simpa using hdl)
      rw [List.getElem_map] at hdi
      have hdr := HD.out.2.2 ds[i] (List.getElem_mem hdl)
      generalize hdd : ds[i] = d at hdi hdr
      have hdi4 : w4.cell? ⟨bd, od + i, none⟩ = some (.int .i64 d) := by
        have hlt0 := World.block_lt_of_cell? _ _ hdi
        have h1 : wr.cell? ⟨bd, od + i, none⟩ = some (.int .i64 d) := (HI.out.2.2.1.cell (p := ⟨bd, od + i, none⟩) hlt0).trans hdi
        refine H4.out.2.cell (H3.out.2.2.2.2.2.1.cell h1) ?_
        rintro (e | e)
        · simp at e hlt0; omega
        · have := (HI.out.1.own.lt _ e.symm).1; simp at hlt0 this; omega
      have hwd := within_lt d 20 (by omega)
      have hpar := ph_at i
      clear hdc hdi hdd
      go_wp2_with fail
      refine (within_any d 20 _ hdr (by omega)).mono ?_
      rintro r w5 ⟨rfl, rfl⟩
      go_wp2_with fail
      have hin2 : i < (L ++ [(wr.heap.size, (⟨⟨#[102]⟩, eS i, (i : Int) + 1, 0, 0, false⟩ : RunS))]).length := by simp; omega
      have hgi : (L ++ [(wr.heap.size, (⟨⟨#[102]⟩, eS i, (i : Int) + 1, 0, 0, false⟩ : RunS))])[i] = (wr.heap.size, ⟨⟨#[102]⟩, eS i, (i : Int) + 1, 0, 0, false⟩) := List.getElem_concat_length hLlen.symm _
      have hex := crew_exact_some (w.heap.size + 1) w.heap.size A4 cp4 _ ⟨#[102]⟩ (eS i) ((i : Int) + 1) _ (H4.out.1.grows (Grows.alloc w4 (.cells #[.int .i64 1, .int .i64 4] 3))) (by simp; omega) i hin2 (H3.out.2.2.2.1.last hlt9 _ _ rfl rfl) (by rw [hgi])
      rw [hgi] at hex
      clear hin2 hgi hpar
      refine hex.mono ?_
      rintro r w5 ⟨rfl, hg5⟩
      clear hex
      unfold ptrV
      have H5 := Lib.hid hg5
      clear hg5
      go_wp2_with fail
      have hb5 := H4.out.1.grows ((Grows.alloc w4 (.cells #[.int .i64 1, .int .i64 4] 3)).trans _ _ _ H5.out)
      refine (run_begin wr.heap.size ⟨⟨#[102]⟩, eS i, (i : Int) + 1, 0, 0, false⟩ (ph i) (within d 20) w5 (hb5.runs (_, _) (by simp)) rfl (ph_or i)).mono ?_
      rintro r w6 ⟨rfl, hr6, hu6⟩
      have hC6 := hb5.upd_last hu6 hr6 H3.out.2.2.2.2.2.2.1
      have hU : Upd (fun k => k = w.heap.size ∨ some k = (Value.slice A' L.length cp).ownBlock ∨ k = wr.heap.size) wr w6 :=
        ((((Upd.of_grows H3.out.2.2.2.2.2.1).trans (H4.out.2.mono fun k _ e => e.elim .inl fun e => .inr (.inl e))).trans (Upd.of_grows ((Grows.alloc w4 (.cells #[.int .i64 1, .int .i64 4] 3)).trans _ _ _ H5.out))).trans (hu6.mono fun k _ e => .inr (.inr e)))
      have hS : ∀ k, (k = w.heap.size ∨ some k = (Value.slice A' L.length cp).ownBlock ∨ k = wr.heap.size) → w.heap.size ≤ k ∧ (Value.slice A3 (L.filter fun x => lateB (within now 20) x.2).length c3).ownBlock ≠ some k := by
        obtain ⟨hCr, hown, hbel, hL⟩ := HI.out
        rintro k (e | e | e)
        · subst e; exact ⟨Nat.le_refl _, own_blk_ne hown hCr.box (by decide)⟩
        · refine ⟨?_, own_ne_own hCr.own hown (by decide) k e.symm⟩
          have := (hCr.own.lt k e.symm).1; omega
        · subst e
          refine ⟨by have := hbel.size; omega, fun e => ?_⟩
          have := (hown.lt _ e).2; omega
      have H6 := Lib.hid (And.intro hC6 (And.intro hr6 (And.intro hU hS)))
      clear hb5 hC6 hu6 hr6 hU hS
      have hway : (∃ bh oh, A2 = some ⟨bh, oh, none⟩ ∧ i < n2 ∧ w6.cell? ⟨bh, oh + i, none⟩ = some (.bool true)) ∨ (∃ bh oh, A2 = some ⟨bh, oh, none⟩ ∧ i < n2 ∧ w6.cell? ⟨bh, oh + i, none⟩ = some (.bool false)) ∨ n2 ≤ i := by
        by_cases h2 : i < n2
        · obtain ⟨bh, oh, e1, e2⟩ := HD.out.2.1.2 (by omega)
          have hhl : i < hs.length := by have := HD.out.2.1.1; rw [List.length_map] at this; omega
          have hc := e2 i (by simpa using hhl)
          rw [List.getElem_map] at hc
          have hlt0 := World.block_lt_of_cell? _ _ hc
          have hc6 : w6.cell? ⟨bh, oh + i, none⟩ = some (.bool hs[i]) := by
            have h1 : wr.cell? ⟨bh, oh + i, none⟩ = some (.bool hs[i]) := (HI.out.2.2.1.cell (p := ⟨bh, oh + i, none⟩) hlt0).trans hc
            exact H6.out.2.2.1.cell h1 (fun hs => by have := (H6.out.2.2.2 _ hs).1; exact absurd hlt0 (by simp at this ⊢; omega))
          cases hb : hs[i] with
          | true => rw [hb] at hc6; exact .inl ⟨bh, oh, e1, h2, hc6⟩
          | false => rw [hb] at hc6; exact .inr (.inl ⟨bh, oh, e1, h2, hc6⟩)
        · exact .inr (.inr (by omega))
      rcases hway with ⟨bh, oh, rfl, h2, hc6⟩ | ⟨bh, oh, rfl, h2, hc6⟩ | h2
      · have h2' : (i : Int) < (n2 : Int) := by omega
        go_wp2_with fail
        refine (run_hello wr.heap.size _ w6 H6.out.2.1 (ph_or i)).mono ?_
        rintro r w7 ⟨rfl, hr7, hu7⟩
        have hC7 := H6.out.1.upd_last hu7 hr7 H3.out.2.2.2.2.2.2.1
        have H7 := Lib.hid (And.intro hC7 hu7)
        clear hr7 hC7 hu7
        go_wp2_with fail
        go_roundg (9 - (i + 1))
        case measure => omega
        case rel =>
          have hfl : (L ++ [(wr.heap.size, (⟨⟨#[102]⟩, eS i, (i : Int) + 1, 2, 0, false⟩ : RunS))]).filter (fun x => lateB (within now 20) x.2) = L.filter fun x => lateB (within now 20) x.2 := by simp [List.filter_append, lateB]
          refine ⟨i + 1, _, A4, A3, cp4, c3, by omega, by omega, by omega, by go_num, ?_, Lib.hid (HI.out.keep wr.heap.size ⟨⟨#[102]⟩, eS i, (i : Int) + 1, 2, 0, false⟩ H7.out.1 rfl rfl rfl rfl (H6.out.2.2.1.trans (H7.out.2.mono fun k _ e => .inr (.inr e))) H6.out.2.2.2)⟩
          rw [hfl]
      · have h2' : (i : Int) < (n2 : Int) := by omega
        by_cases hdn : within d 20 ≤ within now 20
        · have hown6 := Lib.hid (own_upd HI.out.2.1 H6.out.2.2.1 (fun k hk hs => (H6.out.2.2.2 k hs).2 hk))
          have hml : (L.filter fun x => lateB (within now 20) x.2).length ≤ 9 := by have := List.length_filter_le (fun x => lateB (within now 20) x.2) L; omega
          go_wp2_with (at_builtin; refine wpList_append_lies _ rfl (.tmp 102) (.tmp 105) 22 rfl (w.heap.size + 1) 3 i3 (.int .i64 0) 1 8 Try.underlying22 t3 z3 s3 y3 rfl (by omega) (.slice A3 (L.filter fun x => lateB (within now 20) x.2).length c3) (L.filter fun x => lateB (within now 20) x.2).length _ rfl (hown6.out.alloc _) ⟨w6.heap.size, 0, none⟩ 1 1 [.int .i64 ((i : Int) + 1)] rfl rfl news_one (by simp [Value.oneCell']) (by omega) (by unfold maxLen; omega) (by omega) (by have := H6.out.2.2.1.size; have := HI.out.2.2.1.size; simp; omega) (w6.heap.size + 1) (by simp) ?_; intro g cg w7 ho7 hg7 _ _; have F := Lib.hid (And.intro ho7 hg7); clear ho7 hg7)
          go_roundg (9 - (i + 1))
          case measure => omega
          case rel =>
            obtain ⟨ho7, hg7⟩ := F.out
            have hC7 := (H6.out.1.grows (Grows.alloc w6 (.cells #[.int .i64 ((i : Int) + 1)] 3))).grown_own (hown6.out.alloc _) hg7 (by decide) (by decide) (by decide)
            have hfl : (L ++ [(wr.heap.size, (⟨⟨#[102]⟩, eS i, (i : Int) + 1, ph i, within d 20, true⟩ : RunS))]).filter (fun x => lateB (within now 20) x.2) = (L.filter fun x => lateB (within now 20) x.2) ++ [(wr.heap.size, (⟨⟨#[102]⟩, eS i, (i : Int) + 1, ph i, within d 20, true⟩ : RunS))] := by simp [List.filter_append, lateB, hdn]
            refine ⟨i + 1, L ++ [(wr.heap.size, (⟨⟨#[102]⟩, eS i, (i : Int) + 1, ph i, within d 20, true⟩ : RunS))], A4, some ⟨g, 0, none⟩, cp4, cg, by omega, by omega, by omega, by go_num, ?_, Lib.hid (HI.out.more (S := fun k => w.heap.size ≤ k) wr.heap.size ⟨⟨#[102]⟩, eS i, (i : Int) + 1, ph i, within d 20, true⟩ hC7 rfl rfl rfl (by simp [lateB, hdn]) ?_ (fun k hk => hk) ho7)⟩
            · rw [hfl, List.length_append]; rfl
            · refine (((H6.out.2.2.1.mono fun k _ hs => (H6.out.2.2.2 k hs).1).alloc _).trans (Upd.of_grown hg7 fun k e _ => ?_))
              have := (hown6.out.lt k e).1; omega
        · have hdn' : within now 20 < within d 20 := by omega
          go_wp2_with fail
          go_roundg (9 - (i + 1))
          case measure => omega
          case rel =>
            have hfl : (L ++ [(wr.heap.size, (⟨⟨#[102]⟩, eS i, (i : Int) + 1, ph i, within d 20, true⟩ : RunS))]).filter (fun x => lateB (within now 20) x.2) = L.filter fun x => lateB (within now 20) x.2 := by simp [List.filter_append, lateB, hdn']
            refine ⟨i + 1, L ++ [(wr.heap.size, (⟨⟨#[102]⟩, eS i, (i : Int) + 1, ph i, within d 20, true⟩ : RunS))], A4, A3, cp4, c3, by omega, by omega, by omega, by go_num, ?_, Lib.hid (HI.out.keep wr.heap.size ⟨⟨#[102]⟩, eS i, (i : Int) + 1, ph i, within d 20, true⟩ H6.out.1 rfl rfl rfl (by simp [lateB, hdn']) H6.out.2.2.1 H6.out.2.2.2)⟩
            rw [hfl]
      · have h2' : (n2 : Int) ≤ (i : Int) := by omega
        by_cases hdn : within d 20 ≤ within now 20
        · have hown6 := Lib.hid (own_upd HI.out.2.1 H6.out.2.2.1 (fun k hk hs => (H6.out.2.2.2 k hs).2 hk))
          have hml : (L.filter fun x => lateB (within now 20) x.2).length ≤ 9 := by have := List.length_filter_le (fun x => lateB (within now 20) x.2) L; omega
          go_wp2_with (at_builtin; refine wpList_append_lies _ rfl (.tmp 102) (.tmp 105) 22 rfl (w.heap.size + 1) 3 i3 (.int .i64 0) 1 8 Try.underlying22 t3 z3 s3 y3 rfl (by omega) (.slice A3 (L.filter fun x => lateB (within now 20) x.2).length c3) (L.filter fun x => lateB (within now 20) x.2).length _ rfl (hown6.out.alloc _) ⟨w6.heap.size, 0, none⟩ 1 1 [.int .i64 ((i : Int) + 1)] rfl rfl news_one (by simp [Value.oneCell']) (by omega) (by unfold maxLen; omega) (by omega) (by have := H6.out.2.2.1.size; have := HI.out.2.2.1.size; simp; omega) (w6.heap.size + 1) (by simp) ?_; intro g cg w7 ho7 hg7 _ _; have F := Lib.hid (And.intro ho7 hg7); clear ho7 hg7)
          go_roundg (9 - (i + 1))
          case measure => omega
          case rel =>
            obtain ⟨ho7, hg7⟩ := F.out
            have hC7 := (H6.out.1.grows (Grows.alloc w6 (.cells #[.int .i64 ((i : Int) + 1)] 3))).grown_own (hown6.out.alloc _) hg7 (by decide) (by decide) (by decide)
            have hfl : (L ++ [(wr.heap.size, (⟨⟨#[102]⟩, eS i, (i : Int) + 1, ph i, within d 20, true⟩ : RunS))]).filter (fun x => lateB (within now 20) x.2) = (L.filter fun x => lateB (within now 20) x.2) ++ [(wr.heap.size, (⟨⟨#[102]⟩, eS i, (i : Int) + 1, ph i, within d 20, true⟩ : RunS))] := by simp [List.filter_append, lateB, hdn]
            refine ⟨i + 1, L ++ [(wr.heap.size, (⟨⟨#[102]⟩, eS i, (i : Int) + 1, ph i, within d 20, true⟩ : RunS))], A4, some ⟨g, 0, none⟩, cp4, cg, by omega, by omega, by omega, by go_num, ?_, Lib.hid (HI.out.more (S := fun k => w.heap.size ≤ k) wr.heap.size ⟨⟨#[102]⟩, eS i, (i : Int) + 1, ph i, within d 20, true⟩ hC7 rfl rfl rfl (by simp [lateB, hdn]) ?_ (fun k hk => hk) ho7)⟩
            · rw [hfl, List.length_append]; rfl
            · refine (((H6.out.2.2.1.mono fun k _ hs => (H6.out.2.2.2 k hs).1).alloc _).trans (Upd.of_grown hg7 fun k e _ => ?_))
              have := (hown6.out.lt k e).1; omega
        · have hdn' : within now 20 < within d 20 := by omega
          go_wp2_with fail
          go_roundg (9 - (i + 1))
          case measure => omega
          case rel =>
            have hfl : (L ++ [(wr.heap.size, (⟨⟨#[102]⟩, eS i, (i : Int) + 1, ph i, within d 20, true⟩ : RunS))]).filter (fun x => lateB (within now 20) x.2) = L.filter fun x => lateB (within now 20) x.2 := by simp [List.filter_append, lateB, hdn']
            refine ⟨i + 1, L ++ [(wr.heap.size, (⟨⟨#[102]⟩, eS i, (i : Int) + 1, ph i, within d 20, true⟩ : RunS))], A4, A3, cp4, c3, by omega, by omega, by omega, by go_num, ?_, Lib.hid (HI.out.keep wr.heap.size ⟨⟨#[102]⟩, eS i, (i : Int) + 1, ph i, within d 20, true⟩ H6.out.1 rfl rfl rfl (by simp [lateB, hdn']) H6.out.2.2.1 H6.out.2.2.2)⟩
            rw [hfl]
    · have hz : (n1 : Int) ≤ (i : Int) ∨ ((i : Int) < (n1 : Int) ∧ (9 : Int) ≤ (i : Int)) := by omega
      have hLl : L.length ≤ 1000000 := by have := HI.out.2.2.2.1; omega
      obtain ⟨m, hm⟩ : ∃ m, m = (L.filter fun x => lateB (within now 20) x.2).length := ⟨_, rfl⟩
      have hm9 : m ≤ 9 := by have h1 := List.length_filter_le (fun x => lateB (within now 20) x.2) L; have h2 := HI.out.2.2.2.1; omega
      rw [← hm]
      have HM := Lib.hid hm
      clear hm
      rcases hz with hz | ⟨hz, hz'⟩
      all_goals
        go_wp2_with fail
        refine (crew_late _ _ _ _ L (within now 20) wr HI.out.1 hLl).mono ?_
        rintro e w2 ⟨A7, c7, rfl, ho7, hg7⟩
        rw [← HM.out] at ho7 ⊢
        have H7 := Lib.hid (And.intro ho7 hg7)
        clear ho7 hg7
        go_wp2_with fail
        go_loopg [117] m (fun gg s117 wr2 => ∃ k : Nat, k ≤ m ∧ m - k ≤ gg ∧ s117 = .int .i64 k ∧ Grows w2 wr2)
        case atStart => exact ⟨0, Nat.zero_le _, by omega, rfl, Grows.refl _⟩
        case round =>
          obtain ⟨k, hkm, hgk, rfl, hgr⟩ := hrel
          have HG := Lib.hid hgr
          clear hgr
          by_cases hk : k < m
          · have hkz : (k : Int) < (m : Int) := by omega
            obtain ⟨b7, o7, rfl, hc7⟩ := (Rd1.of_own H7.out.1).2 (by omega)
            obtain ⟨b3, o3, e3, hc3⟩ := (Rd1.of_own (own_grows (own_grows HI.out.2.1 H7.out.2) HG.out)).2 (by have := HM.out; omega)
            have hkl : k < (L.filter fun x => lateB (within now 20) x.2).length := by have := HM.out; omega
            have h7 := HG.out.cell (hc7 k (by rw [List.length_map]; exact hkl))
            have h3 := hc3 k (by rw [List.length_map]; exact hkl)
            rw [List.getElem_map] at h7 h3
            have hmem : (L.filter fun x => lateB (within now 20) x.2)[k] ∈ L := (List.mem_filter.1 (List.getElem_mem hkl)).1
            have hrun := ((HI.out.1.runs _ hmem).grows H7.out.2).grows HG.out
            generalize (L.filter fun x => lateB (within now 20) x.2)[k] = x at h7 h3 hrun
            subst e3
            unfold ptrV at h7
            have HR := Lib.hid hrun
            clear hrun hc7 hc3 hmem
            go_wp2_with fail
            refine (who_any x.1 x.2 _ HR.out).mono ?_
            rintro e w8 ⟨rfl, q, rfl⟩
            go_wp2_with fail
            go_roundg (m - (k + 1))
            case measure => omega
            case rel => exact ⟨k + 1, by omega, by omega, by go_num, HG.out.trans _ _ _ (Grows.drewN _ _)⟩
          · have hkz : (m : Int) ≤ (k : Int) := by omega
            have hC2 := (HI.out.1.grows H7.out.2).grows HG.out
            have hL := HI.out.2.2.2
            have HC2 := Lib.hid (And.intro hC2 hL)
            clear hC2 hL
            go_wp2_with fail
            refine (crew_find_none _ _ _ _ L _ _ _ HC2.out.1 hLl HC2.out.2.noG).mono ?_
            rintro e w8 ⟨rfl, hg8⟩
            have H8 := Lib.hid hg8
            clear hg8
            have hex : Calls Try.prog 28 #[.pointer (some ⟨w.heap.size, 0, none⟩), .string ⟨#[102]⟩, .string ⟨#[101, 49]⟩, .int .i64 99] w8 fun r w' => r = .returned (.pointer none) ∧ Grows w8 w' := by
              rcases HC2.out.2.e1 with ⟨_, h1⟩ | ⟨h0, h1, h2⟩
              · exact crew_exact_none _ _ _ _ L _ _ 99 _ (HC2.out.1.grows H8.out) hLl h1
              · exact crew_exact_other _ _ _ _ L _ _ 99 _ (HC2.out.1.grows H8.out) hLl 0 h0 h2 h1
            go_wp2_with fail
            refine hex.mono ?_
            rintro e w9 ⟨rfl, hg9⟩
            have H9 := Lib.hid hg9
            clear hg9 hex
            go_wp2_with fail
            refine (crew_drop_none _ _ _ _ L _ _ _ ((HC2.out.1.grows H8.out).grows H9.out) hLl (HC2.out.2.noNone hi9)).mono ?_
            rintro e w10 ⟨rfl, hg10⟩
            have H10 := Lib.hid hg10
            clear hg10
            go_wp2_with fail
            refine (wakes16 w10).mono ?_
            rintro e w11 ⟨rfl, hg11⟩
            have H11 := Lib.hid hg11
            clear hg11
            go_wp2_with fail
            go_ret
            refine ⟨rfl, Below.then_ HI.out.2.2.1 (by have := HI.out.2.2.1.size; exact this) ?_⟩
            exact ((((H7.out.2.trans _ _ _ HG.out).trans _ _ _ H8.out).trans _ _ _ H9.out).trans _ _ _ H10.out).trans _ _ _ H11.out
end Go.Proofs.Ytkogmpeodamdgaa
