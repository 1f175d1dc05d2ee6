/-
  AN ARGUMENT'S SLICE OPENED: a slice that is read whole is empty or a row of cells in one block, each element of the element type (for any program). Own work.
-/
import Derived.Test.YtkogmpeodamdgaaSl
import Derived.Deep.Slices
namespace Go.Proofs.Ytkogmpeodamdgaa
open Go.ChangeShapes Go.WideShapes

section
variable {H : Type} {enc : TypeId × Value → H} {P : Program} {w : World} {base : Nat} {sp : Nat → Bool} {held : Bool}

/-- the slice's cells, element by element; what each element is told by 'q'. -/
theorem open_rd {t e : TypeId} {fuel : Nat} {a : Option Addr} {len cap : Nat} {x : DataW H × List MemPlace} (q : List Value → Prop) (ht : P.underlying t = some (.slice e))
    (h : DataW.trod enc P w base sp held fuel t [.slice a len cap] = some x) (hz0 : P.cellsOf e ≠ 0) (hq : ∀ n cs y, DataW.trod enc P w base sp held n e cs = some y → cs.length = P.cellsOf e → q cs) :
    len ≤ 9223372036854775807 ∧ ∃ rows : List (List Value), rows.length = len ∧ (∀ r ∈ rows, r.length = P.cellsOf e ∧ q r) ∧ Rd w (P.cellsOf e) a len rows.flatten := by
  rcases Go.Deep.open_slice ht h with ⟨hc, _⟩ | ⟨a', len', cap', m, n, D, Pl, hc, _, hl, hm, hmm, _, hx⟩
  · simp only [List.cons.injEq, Value.slice.injEq, and_true] at hc
    obtain ⟨rfl, rfl, rfl⟩ := hc
    exact ⟨by omega, [], rfl, by simp, by simp, by omega⟩
  · simp only [List.cons.injEq, Value.slice.injEq, and_true] at hc
    obtain ⟨rfl, rfl, rfl⟩ := hc
    have hlm : len ≤ m := by rw [hmm]; split <;> omega
    have hmax : maxLen = 9223372036854775807 := by decide
    refine ⟨by omega, ?_⟩
    have hall : ∀ i, i < len → ∃ cs, w.cells? base (a'.add (i * P.cellsOf e)) (P.cellsOf e) = some cs ∧ q cs := fun i hi => by
      obtain ⟨cs, h1, h2⟩ := hx i (by omega)
      exact ⟨cs, h1, hq _ _ _ h2 (World.cells?_some h1).2.1⟩
    obtain ⟨C, hC⟩ := Go.Deep.choose_lt hall
    refine ⟨(List.range len).map C, by simp, ?_, ?_⟩
    · intro r hr
      obtain ⟨i, hi, rfl⟩ := List.mem_map.1 hr
      have := hC i (List.mem_range.1 hi)
      exact ⟨(World.cells?_some this.1).2.1, this.2⟩
    · have hlen : ∀ k, k ≤ len → (((List.range k).map C).flatten).length = k * P.cellsOf e := by
        intro k
        induction k with
        | zero => simp
        | succ k ih =>
          intro hk
          rw [List.range_succ, List.map_append, List.flatten_append, List.length_append, ih (by omega)]
          have := (World.cells?_some (hC k (by omega)).1).2.1
          simp [this, Nat.add_mul]
      refine ⟨hlen len (Nat.le_refl _), fun hn => ?_⟩
      obtain ⟨b, o, spot⟩ := a'
      have hone : spot = none := by
        obtain ⟨_, hln, hcell⟩ := World.cells?_some (hC 0 hn).1
        have := hcell 0 (by omega)
        rw [List.getElem?_eq_getElem (show 0 < (C 0).length by omega), Go.Deep.add_add] at this
        simpa [Addr.add] using World.cell?_spot this
      subst hone
      have key : ∀ k, k ≤ len → ∀ j u, (((List.range k).map C).flatten)[j]? = some u → w.cell? ⟨b, o + j, none⟩ = some u := by
        intro k
        induction k with
        | zero => simp
        | succ k ih =>
          intro hk j u hu
          rw [List.range_succ, List.map_append, List.flatten_append] at hu
          by_cases hj : j < k * P.cellsOf e
          · rw [List.getElem?_append_left (by rw [hlen k (by omega)]; exact hj)] at hu
            exact ih (by omega) j u hu
          · rw [List.getElem?_append_right (by rw [hlen k (by omega)]; omega), hlen k (by omega)] at hu
            simp only [List.map_cons, List.map_nil, List.flatten_cons, List.flatten_nil, List.append_nil] at hu
            obtain ⟨_, hln, hcell⟩ := World.cells?_some (hC k (by omega)).1
            have hju : j - k * P.cellsOf e < P.cellsOf e := Nat.lt_of_lt_of_eq (List.getElem?_eq_some_iff.1 hu).1 hln
            have := hcell _ hju
            rw [hu, Go.Deep.add_add, show k * P.cellsOf e + (j - k * P.cellsOf e) = j by omega] at this
            simpa [Addr.add_lit] using this
      exact ⟨b, o, rfl, fun j u hu => key len (Nat.le_refl _) j u hu⟩
end

theorem Rd1.of_rd {w : World} {A : Option Addr} {n : Nat} {xs : List Value} (h : Rd w 1 A n xs) : Rd1 w A n xs :=
  ⟨by have := h.1; omega, fun hn => by obtain ⟨b, o, ha, hc⟩ := h.2 hn; exact ⟨b, o, ha, fun i hi => hc i _ (List.getElem?_eq_getElem hi)⟩⟩

/-- rows of one value each, told by a function of theirs. -/
theorem rows_map {α : Type} {f : α → Value} {p : α → Prop} : ∀ {rows : List (List Value)}, (∀ r ∈ rows, ∃ x, r = [f x] ∧ p x) → ∃ xs : List α, xs.length = rows.length ∧ rows.flatten = xs.map f ∧ ∀ x ∈ xs, p x
  | [], _ => ⟨[], rfl, rfl, by simp⟩
  | r :: rs, h => by
    obtain ⟨x, rfl, hx⟩ := h _ (List.mem_cons_self ..)
    obtain ⟨xs, hl, he, hp⟩ := rows_map (rows := rs) fun r hr => h r (List.mem_cons_of_mem _ hr)
    exact ⟨x :: xs, by simp [hl], by simp [he], by simpa using ⟨hx, hp⟩⟩
/-- .. of whole records. -/
theorem rows_recs {α : Type} {f : α → List Value} {p : α → Prop} : ∀ {rows : List (List Value)}, (∀ r ∈ rows, ∃ x, r = f x ∧ p x) → ∃ xs : List α, xs.length = rows.length ∧ rows.flatten = xs.flatMap f ∧ ∀ x ∈ xs, p x
  | [], _ => ⟨[], rfl, rfl, by simp⟩
  | r :: rs, h => by
    obtain ⟨x, rfl, hx⟩ := h _ (List.mem_cons_self ..)
    obtain ⟨xs, hl, he, hp⟩ := rows_recs (rows := rs) fun r hr => h r (List.mem_cons_of_mem _ hr)
    exact ⟨x :: xs, by simp [hl], by simp [he], by simpa using ⟨hx, hp⟩⟩

theorem wf_i64 {n : Int} (h : (Lit.int .i64 n).wf = true) : -9223372036854775808 ≤ n ∧ n ≤ 9223372036854775807 := by
  simp [Lit.wf, IntKind.min, IntKind.max, IntKind.signed, IntKind.bits] at h
  omega

section
variable {H : Type} {enc : TypeId × Value → H} {P : Program} {w : World} {base : Nat} {sp : Nat → Bool} {held : Bool}
/-- a slice of ints, opened. -/
theorem open_i64s {t e : TypeId} {a : Option Addr} {len cap : Nat} {d : DataW H} {p : List MemPlace} (ht : P.underlying t = some (.slice e)) (he : P.underlying e = some (.int .i64)) (hc : P.cellsOf e = 1)
    (h : DataW.Trod enc P w base sp held t (.slice a len cap) d p) : len ≤ 9223372036854775807 ∧ ∃ ns : List Int, Rd1 w a len (ns.map (Value.int .i64)) ∧ ∀ x ∈ ns, -9223372036854775808 ≤ x ∧ x ≤ 9223372036854775807 := by
  obtain ⟨m, hm⟩ := h
  obtain ⟨hl, rows, hlen, hr, hrd⟩ := open_rd (fun r => ∃ n, r = [Value.int .i64 n] ∧ -9223372036854775808 ≤ n ∧ n ≤ 9223372036854775807) ht hm (by rw [hc]; decide) (fun n cs y h _ => by
    obtain ⟨n, rfl, _, hw⟩ := DataW.trod_int he h
    exact ⟨n, rfl, wf_i64 hw⟩)
  obtain ⟨ns, hn, hf, hp⟩ := rows_map fun r h => (hr r h).2
  rw [hc, hf] at hrd
  exact ⟨hl, ns, Rd1.of_rd hrd, hp⟩
/-- a slice of bools, opened. -/
theorem open_bls {t e : TypeId} {a : Option Addr} {len cap : Nat} {d : DataW H} {p : List MemPlace} (ht : P.underlying t = some (.slice e)) (he : P.underlying e = some .bool) (hc : P.cellsOf e = 1)
    (h : DataW.Trod enc P w base sp held t (.slice a len cap) d p) : len ≤ 9223372036854775807 ∧ ∃ bs : List Bool, Rd1 w a len (bs.map Value.bool) := by
  obtain ⟨m, hm⟩ := h
  obtain ⟨hl, rows, hlen, hr, hrd⟩ := open_rd (fun r => ∃ b : Bool, r = [Value.bool b] ∧ True) ht hm (by rw [hc]; decide) (fun n cs y h _ => by
    obtain ⟨b, rfl, _⟩ := DataW.trod_bool he h
    exact ⟨b, rfl, trivial⟩)
  obtain ⟨ns, hn, hf, hp⟩ := rows_map fun r h => (hr r h).2
  rw [hc, hf] at hrd
  exact ⟨hl, ns, Rd1.of_rd hrd⟩
end
end Go.Proofs.Ytkogmpeodamdgaa
