/-
  SEP: what a region that draws asks, operation by operation, as the printed proofs want it. Plain theorems; own text.
-/
import Derived.Test.YtkogmpeodamdgaaSepH
namespace Go.Proofs.Ytkogmpeodamdgaa
open Go Go.RowKit
/-- a known value, and nothing else. -/
def Det (c : Value) (v : Value) (B : List SP) : Prop := v = c ∧ B = []
section
variable {P : Program} {n : Nat} {e : Ext} {R : Exit → Act → World → Prop} {k : List It} {L : Slots} {A S : List SP} {ops : Array Oper} {spec : Nat → OSpec} {i : Nat} {o : Oper}
theorem opok {deps : List (Nat × Tmp)} {q : Nat} {ts : List Tmp} (h1 : depsOf ops o ++ extraT ops o (spec i).takes = deps) (h2 : (depsOf ops o).length = q) (h3 : o.looksAt ops = ts) (hg : o.guard = none)
    (h : Need spec deps fun Lx Bs => OpR P e o.op o.type (Lx.take q ++ keep ts L) (mem_ (spec i) Bs ++ S) fun v post => ∃ B, (spec i).out v B ∧ post = B ++ S) : OpOk P e ops spec L S i o := by
  unfold OpOk
  rw [h1, h2, h3]
  simp only [hg]
  exact h
theorem Need.mono {r : List (Nat × Tmp)} {K K' : Slots → List (Nat × List SP) → Prop} (h : Need spec r K) (hk : ∀ a b, K a b → K' a b) : Need spec r K' := by
  induction r generalizing K K' with
  | nil => exact hk _ _ h
  | cons p r ih => exact fun v B hv => ih (h v B hv) fun a b => hk _ _
theorem opok_yes {deps : List (Nat × Tmp)} {q : Nat} {ts : List Tmp} {j : Nat} {want : Bool} (h1 : depsOf ops o ++ extraT ops o (spec i).takes = deps) (h2 : (depsOf ops o).length = q) (h3 : o.looksAt ops = ts) (hg : o.guard = some (j, want))
    (h : Need spec deps fun Lx Bs => guardOf ops (Lx.take q ++ keep ts L) j = some want ∧ OpR P e o.op o.type (Lx.take q ++ keep ts L) (mem_ (spec i) Bs ++ S) fun v post => ∃ B, (spec i).out v B ∧ post = B ++ S) : OpOk P e ops spec L S i o := by
  unfold OpOk
  rw [h1, h2, h3]
  simp only [hg]
  exact h.mono fun a b ⟨h4, h5⟩ => ⟨want, h4, fun _ => h5, fun hne => (hne rfl).elim⟩
theorem opok_no {deps : List (Nat × Tmp)} {q : Nat} {ts : List Tmp} {j : Nat} {want : Bool} (h1 : depsOf ops o ++ extraT ops o (spec i).takes = deps) (h2 : (depsOf ops o).length = q) (h3 : o.looksAt ops = ts) (hg : o.guard = some (j, want))
    (h : Need spec deps fun Lx Bs => guardOf ops (Lx.take q ++ keep ts L) j = some (!want) ∧ (spec i).out undef (mem_ (spec i) Bs)) : OpOk P e ops spec L S i o := by
  unfold OpOk
  rw [h1, h2, h3]
  simp only [hg]
  exact h.mono fun a b ⟨h4, h5⟩ => ⟨!want, h4, (fun he => absurd he (by cases want <;> decide)), fun _ => h5⟩
theorem need_nil {K : Slots → List (Nat × List SP) → Prop} (h : K [] []) : Need spec [] K := h
theorem need_cons {j d : Nat} {r : List (Nat × Tmp)} {K : Slots → List (Nat × List SP) → Prop} (h : ∀ v B, (spec j).out v B → Need spec r fun L Bs => K ((d, v) :: L) ((j, B) :: Bs)) : Need spec ((j, d) :: r) K := h
theorem od {op : Op} {ty : TypeId} {v : Value} {Q : Value → List SP → Prop} (h : Yields P e op ty L A v) (hQ : Q v A) : OpR P e op ty L A Q := (o_det h).mono fun u post ⟨h1, h2⟩ => by subst h1; subst h2; exact hQ
theorem left_nil {K : Slots → List (Nat × List SP) → Prop} (h : K [] []) : Left spec ops 0 i K := h
theorem left_cons {m : Nat} {d : Nat} {K : Slots → List (Nat × List SP) → Prop} (hd : dstAt ops i = some d) (h : ∀ v B, (spec i).out v B → Left spec ops m (i + 1) fun L Bs => K ((d, v) :: L) ((i, B) :: Bs)) : Left spec ops (m + 1) i K := fun v B hv => by
  have := h v B hv
  simpa only [hd] using this
theorem left_cons0 {m : Nat} {K : Slots → List (Nat × List SP) → Prop} (hd : dstAt ops i = none) (h : ∀ v B, (spec i).out v B → Left spec ops m (i + 1) fun L Bs => K L ((i, B) :: Bs)) : Left spec ops (m + 1) i K := fun v B hv => by
  have := h v B hv
  simpa only [hd] using this
theorem go_norm {L' : Slots} {A' : List SP} (hL : Subs L' L) (hA : A = A') (g : Run P n e R k L' A') : Run P n e R k L A := by
  subst hA; exact go_sub hL g
theorem go_stack {k' : List It} (h : k = k') (g : Run P n e R k' L A) : Run P n e R k L A := by subst h; exact g
end
end Go.Proofs.Ytkogmpeodamdgaa
