/-
  SEP, the way out: from a contract to what a row asks. Plain theorems; own text.
-/
import Derived.Test.YtkogmpeodamdgaaSepN
namespace Go.Proofs.Ytkogmpeodamdgaa
open Go Go.RowKit
/-- a world's blocks, all shared. -/
def sharedPH (w : World) : PH := fun b => (w.heap[b]?).map fun o => (false, o)
def oldP (w : World) : SP := fun h => ∀ b o, w.heap[b]? = some o → h b = some (false, o)
theorem shared_comp (w : World) : Comp (sharedPH w) (sharedPH w) := fun b x y e f => by
  unfold sharedPH at e f
  rw [e] at f
  injection f with f
  cases hb : w.heap[b]? with
  | none => rw [hb] at e; cases e
  | some o => rw [hb] at e; simp at e; subst e; exact ⟨f, rfl⟩
theorem sl_shared {w : World} : ∀ {l : List SP}, (∀ X ∈ l, X (sharedPH w)) → sl l (sharedPH w)
  | [], _ => trivial
  | X :: _l, h => ⟨sharedPH w, sharedPH w, shared_comp w, HLe.refl _, HLe.refl _, h X (List.mem_cons_self ..), sl_shared fun Y hy => h Y (List.mem_cons_of_mem _ hy)⟩
theorem Ent.dropl : ∀ {A F : List SP}, Ent (A ++ F) F
  | [], F => Ent.refl F
  | _ :: l, _ => Ent.drop.trans (Ent.dropl (A := l))
theorem top {P : Program} {f : Nat} {args : List Value} {parts : List SP} {Q : Value → List SP → Prop} {w : World} (T : Tri P f args parts Q) (hp : ∀ X ∈ parts, X (sharedPH w)) :
    Calls P f args.toArray w fun x w' => (∃ v post, Q v post ∧ x = .returned v) ∧ Below w.heap.size w w' := by
  have hsat : Sat ⟨w.os, w.tape, w.output⟩ w (parts ++ [oldP w]) := by
    refine ⟨⟨rfl, rfl, rfl⟩, sharedPH w, ?_, sl_shared ?_⟩
    · intro b x e
      unfold sharedPH at e
      cases hb : w.heap[b]? with
      | none => rw [hb] at e; cases e
      | some o => rw [hb] at e; simp at e; subst e; rfl
    · intro X hX
      rcases List.mem_append.1 hX with h | h
      · exact hp X h
      · rw [List.mem_singleton.1 h]
        intro b o hb
        unfold sharedPH; rw [hb]; rfl
  refine (T _ _ w hsat).mono ?_
  rintro x w' ⟨v, post, hq, hx, hs⟩
  refine ⟨⟨v, post, hq, hx⟩, ?_⟩
  obtain ⟨⟨h1, h2, h3⟩, k, hk, hs⟩ := hs.ent Ent.dropl
  obtain ⟨y, z, c, hy, hz, hold, _⟩ := hs
  have hb : ∀ b o, w.heap[b]? = some o → w'.heap[b]? = some o := fun b o e => hk b _ (hy b _ (hold b o e))
  refine ⟨h1, h2, h3, ?_, fun b hlt => ?_⟩
  · rcases Nat.eq_zero_or_pos w.heap.size with h0 | h0
    · omega
    · have hl : w.heap.size - 1 < w.heap.size := by omega
      have := hb (w.heap.size - 1) _ (Array.getElem?_eq_getElem hl)
      rcases Nat.lt_or_ge (w.heap.size - 1) w'.heap.size with h | h
      · omega
      · rw [Array.getElem?_eq_none h] at this; cases this
  · rw [Array.getElem?_eq_getElem hlt]; exact hb b _ (Array.getElem?_eq_getElem hlt)
/-- a law that answers true. -/
theorem top_true {P : Program} {f : Nat} {args : List Value} {parts : List SP} {w : World} (T : Tri P f args parts fun v post => v = .bool true ∧ post = []) (hp : ∀ X ∈ parts, X (sharedPH w)) :
    Calls P f args.toArray w fun x w' => x = .returned (.bool true) ∧ Below w.heap.size w w' := by
  refine (top T hp).mono ?_
  rintro x w' ⟨⟨v, post, ⟨rfl, _⟩, hx⟩, hb⟩
  exact ⟨hx, hb⟩
end Go.Proofs.Ytkogmpeodamdgaa
