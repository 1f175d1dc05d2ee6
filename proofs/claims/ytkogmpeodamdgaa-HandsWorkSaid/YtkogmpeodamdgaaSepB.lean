/-
  SEP, the walk: a function's code as a list of what is still to come, its slots as a list of pairs, the memory as a list of parts; one rule a form of code. Plain theorems; own text.
-/
import Derived.Test.YtkogmpeodamdgaaSepA
import Derived.Deep.LoopGhost
import Derived.Walk3
namespace Go.Proofs.Ytkogmpeodamdgaa
open Go Go.RowKit

abbrev Slots := List (Nat × Value)
def look : Slots → Nat → Option Value
  | [], _ => none
  | (k, v) :: l, t => bif Nat.beq k t then some v else look l t
def ev (L : Slots) : Operand → Option Value
  | .tmp t => look L t
  | .const v => some v
  | .global g => some (.pointer (some ⟨g, 0, none⟩))
  | .func f => some (.func (.func f) #[] #[])
structure Fr (n : Nat) (a : Act) (L : Slots) : Prop where
  size : a.tmps.size = n
  defers : a.defers = []
  ok : ∀ t v, look L t = some v → a.tmps[t]? = some v
def Subs : Slots → Slots → Prop
  | [], _ => True
  | (t, v) :: r, L => look L t = some v ∧ Subs r L
section
variable {n : Nat} {a : Act} {L L' : Slots}
theorem Fr.ev (h : Fr n a L) {x : Operand} {v : Value} (e : ev L x = some v) : a.eval x = v := by
  cases x with
  | tmp t => have := h.ok t v e; simp [Act.eval, Array.getD_eq_getD_getElem?, this]
  | const c => exact Option.some.inj e
  | global g => exact Option.some.inj e
  | func f => exact Option.some.inj e
theorem Fr.put (h : Fr n a L) {d : Nat} {v : Value} (hd : Nat.blt d n = true) : Fr n (a.put (some d) v) ((d, v) :: L) := by
  have hd' : d < a.tmps.size := by rw [h.size]; exact Nat.le_of_ble_eq_true hd
  refine ⟨by simp [Act.put, h.size], h.defers, fun t u e => ?_⟩
  simp only [look] at e
  by_cases ht : Nat.beq d t = true
  · rw [ht] at e; simp at e; subst e
    have : d = t := Nat.eq_of_beq_eq_true ht
    subst this
    simp [Act.put, hd']
  · have hb : Nat.beq d t = false := Bool.eq_false_iff.2 ht
    rw [hb] at e
    have hne : d ≠ t := fun e1 => by subst e1; simp at hb
    simp only [Act.put]
    rw [Array.getElem?_setIfInBounds_ne hne]
    exact h.ok t u e
theorem Subs.look : ∀ {L' : Slots}, Subs L' L → ∀ {t : Nat} {v : Value}, Go.Proofs.Ytkogmpeodamdgaa.look L' t = some v → Go.Proofs.Ytkogmpeodamdgaa.look L t = some v
  | [], _, _, _, e => by cases e
  | (u, x) :: r, ⟨h1, h2⟩, t, v, e => by
    simp only [Go.Proofs.Ytkogmpeodamdgaa.look] at e
    by_cases ht : Nat.beq u t = true
    · rw [ht] at e; simp at e; subst e
      have : u = t := Nat.eq_of_beq_eq_true ht
      subst this; exact h1
    · have hb : Nat.beq u t = false := Bool.eq_false_iff.2 ht
      rw [hb] at e
      exact Subs.look h2 e
theorem Fr.sub (h : Fr n a L) (k : Subs L' L) : Fr n a L' := ⟨h.size, h.defers, fun t v e => h.ok t v (k.look e)⟩
end

inductive It where
  | code (c : Code)
  | ops (all : Array Oper) (l : List Oper)
  | blk (id : Nat)
  | mark (J : Act → World → Prop)
def Kont (P : Program) (R : Exit → Act → World → Prop) : List It → Exit → Act → World → Prop
  | [], e, a, w => R e a w
  | .code c :: k, .normal, a, w => c.wp P (Kont P R k) a w
  | .ops all l :: k, .normal, a, w => wpList P all (Kont P R k) l a w
  | .blk _ :: k, .normal, a, w => Kont P R k .normal a w
  | .mark J :: _, .normal, a, w => J a w
  | .blk id' :: k, .exit id, a, w => if id = id' then Kont P R k .normal a w else Kont P R k (.exit id) a w
  | _ :: k, e, a, w => Kont P R k e a w
def dropTo (id : Nat) : List It → Option (List It)
  | [] => none
  | .blk id' :: k => bif Nat.beq id id' then some k else dropTo id k
  | _ :: k => dropTo id k
/-- from these slots and this memory the rest goes well. -/
structure Run (P : Program) (n : Nat) (e : Ext) (R : Exit → Act → World → Prop) (k : List It) (L : Slots) (A : List SP) : Prop where
  run : ∀ a w, Fr n a L → Sat e w A → Kont P R k .normal a w

section
variable {P : Program} {n : Nat} {e : Ext} {R : Exit → Act → World → Prop} {k : List It} {L : Slots} {A : List SP}
theorem go_ent {B : List SP} (h : Ent A B) (g : Run P n e R k L B) : Run P n e R k L A := .mk fun a w f s => g.run a w f (s.ent h)
theorem go_sub {L' : Slots} (h : Subs L' L) (g : Run P n e R k L' A) : Run P n e R k L A := .mk fun a w f s => g.run a w (f.sub h) s
theorem go_ex {α : Type} {B : α → SP} (g : ∀ x, Run P n e R k L (B x :: A)) : Run P n e R k L (exs B :: A) := .mk fun a w f s => by
  obtain ⟨x, s'⟩ := s.ex_
  exact (g x).run a w f s'
theorem go_pure {p : Prop} (g : p → Run P n e R k L A) : Run P n e R k L (pure_ p :: A) := .mk fun a w f s => (g s.pure_.1).run a w f s.pure_.2
theorem go_sat (g : (∀ w, Sat e w A → Run P n e R k L A)) : Run P n e R k L A := .mk fun a w f s => (g w s).run a w f s
theorem go_of (p : Prop) (h : ∀ w, Sat e w A → p) (g : p → Run P n e R k L A) : Run P n e R k L A := .mk fun a w f s => (g (h w s)).run a w f s
theorem go_skip (g : Run P n e R k L A) : Run P n e R (.code .skip :: k) L A := .mk fun a w f s => wp_skip (g.run a w f s)
theorem go_label {l : Nat} (g : Run P n e R k L A) : Run P n e R (.code (.label l) :: k) L A := .mk fun a w f s => wp_label (g.run a w f s)
theorem go_seq {x y : Code} (g : Run P n e R (.code x :: .code y :: k) L A) : Run P n e R (.code (.seq x y) :: k) L A := .mk fun a w f s =>
  wp_seq (wp_mono (g.run a w f s) fun e a w q => by cases e <;> exact q)
theorem go_block {id : Nat} {c : Code} (g : Run P n e R (.code c :: .blk id :: k) L A) : Run P n e R (.code (.block id c) :: k) L A := .mk fun a w f s =>
  wp_block (wp_mono (g.run a w f s) fun e a w q => by cases e <;> exact q)
theorem go_blk {id : Nat} (g : Run P n e R k L A) : Run P n e R (.blk id :: k) L A := .mk g.run
theorem Kont.drop : ∀ {k k' : List It} {id : Nat} {a : Act} {w : World}, dropTo id k = some k' → Kont P R k' .normal a w → Kont P R k (.exit id) a w
  | [], _, _, _, _, h, _ => by cases h
  | .blk id' :: k, k', id, a, w, h, g => by
    simp only [dropTo] at h
    by_cases hb : Nat.beq id id' = true
    · rw [hb] at h; simp at h; subst h
      have : id = id' := Nat.eq_of_beq_eq_true hb
      simp only [Kont, if_pos this]; exact g
    · have hb' : Nat.beq id id' = false := Bool.eq_false_iff.2 hb
      rw [hb'] at h
      have hne : id ≠ id' := fun e1 => by subst e1; simp at hb'
      simp only [Kont, if_neg hne]
      exact Kont.drop h g
  | .code _ :: k, k', id, a, w, h, g => Kont.drop (k := k) h g
  | .ops _ _ :: k, k', id, a, w, h, g => Kont.drop (k := k) h g
  | .mark _ :: k, k', id, a, w, h, g => Kont.drop (k := k) h g
theorem go_exit {id : Nat} {k' : List It} (h : dropTo id k = some k') (g : Run P n e R k' L A) : Run P n e R (.code (.exit id) :: k) L A := .mk fun a w f s => wp_exit (Kont.drop h (g.run a w f s))
theorem go_cond_t {c : Operand} {x y : Code} (h : ev L c = some (.bool true)) (g : Run P n e R (.code x :: k) L A) : Run P n e R (.code (.cond c x y) :: k) L A := .mk fun a w f s => wp_cond_true (f.ev h) (g.run a w f s)
theorem go_cond_f {c : Operand} {x y : Code} (h : ev L c = some (.bool false)) (g : Run P n e R (.code y :: k) L A) : Run P n e R (.code (.cond c x y) :: k) L A := .mk fun a w f s => wp_cond_false (f.ev h) (g.run a w f s)
theorem go_cond {c : Operand} {x y : Code} {b : Bool} (h : ev L c = some (.bool b)) (g1 : b = true → Run P n e R (.code x :: k) L A) (g2 : b = false → Run P n e R (.code y :: k) L A) : Run P n e R (.code (.cond c x y) :: k) L A := .mk fun a w f s =>
  wp_cond_split (f.ev h) (fun hb => (g1 hb).run a w f s) (fun hb => (g2 hb).run a w f s)
theorem go_condp {c : Operand} {x y : Code} {p : Prop} [Decidable p] (h : ev L c = some (.bool (decide p))) (g1 : p → Run P n e R (.code x :: k) L A) (g2 : ¬ p → Run P n e R (.code y :: k) L A) : Run P n e R (.code (.cond c x y) :: k) L A :=
  go_cond h (fun hb => g1 (of_decide_eq_true hb)) (fun hb => g2 (of_decide_eq_false hb))
theorem Kont.ret : ∀ {k : List It} {a : Act} {w : World}, R .ret a w → Kont P R k .ret a w
  | [], _, _, h => h
  | .code _ :: k, _, _, h => Kont.ret (k := k) h
  | .ops _ _ :: k, _, _, h => Kont.ret (k := k) h
  | .blk _ :: k, _, _, h => Kont.ret (k := k) h
  | .mark _ :: k, _, _, h => Kont.ret (k := k) h
/-- what a loop's round hands on. -/
def Again {α : Type} (n : Nat) (e : Ext) (m : α → Nat) (inv : α → Prop) (LI : α → Slots) (AI : α → List SP) (x : α) (a : Act) (w : World) : Prop := ∃ y, m y < m x ∧ inv y ∧ Fr n a (LI y) ∧ Sat e w (AI y)
theorem go_loop {α : Type} (m : α → Nat) (inv : α → Prop) (LI : α → Slots) (AI : α → List SP) (x0 : α) {c : Code} (h0 : inv x0) (hL : Subs (LI x0) L) (hA : Ent A (AI x0))
    (step : ∀ x, inv x → Run P n e R (.code c :: .mark (Again n e m inv LI AI x) :: k) (LI x) (AI x)) : Run P n e R (.code (.loop c) :: k) L A := .mk fun a w f s => by
  refine wp_loop_ghost (fun j a w => ∃ x, m x = j ∧ inv x ∧ Fr n a (LI x) ∧ Sat e w (AI x)) (m x0) ⟨x0, rfl, h0, f.sub hL, s.ent hA⟩ ?_
  rintro j a w ⟨x, rfl, hi, f, s⟩
  refine wp_mono ((step x hi).run a w f s) fun e a w q => ?_
  cases e with
  | normal => obtain ⟨y, h1, h2, h3, h4⟩ := q; exact ⟨m y, h1, y, rfl, h2, h3, h4⟩
  | exit id => exact q
  | goto l => exact q
  | ret => exact q
  | panic ch => exact q
  | outgrown => exact q
theorem go_again {α : Type} {m : α → Nat} {inv : α → Prop} {LI : α → Slots} {AI : α → List SP} {x : α} (y : α) (h1 : m y < m x) (h2 : inv y) (hL : Subs (LI y) L) (hA : Ent A (AI y)) : Run P n e R (.mark (Again n e m inv LI AI x) :: k) L A :=
  .mk fun _ _ f s => ⟨y, h1, h2, f.sub hL, s.ent hA⟩
/-- a place where ways meet. -/
theorem go_meet {α : Type} (inv : α → Prop) (LI : α → Slots) (AI : α → List SP) {c : Code} (g1 : Run P n e R [.code c, .mark (fun a w => ∃ x, inv x ∧ Fr n a (LI x) ∧ Sat e w (AI x))] L A) (g2 : ∀ x, inv x → Run P n e R k (LI x) (AI x))
    (hq : ∀ x, x ≠ .normal → ∀ a w, Kont P R [] x a w → Kont P R k x a w) : Run P n e R (.code c :: k) L A := .mk fun a w f s =>
  wp_mono (g1.run a w f s) fun x a w q => by
    cases x with
    | normal => obtain ⟨x, h1, h2, h3⟩ := q; exact (g2 x h1).run a w h2 h3
    | exit id => exact hq _ (by simp) a w q
    | goto l => exact hq _ (by simp) a w q
    | ret => exact hq _ (by simp) a w q
    | panic ch => exact hq _ (by simp) a w q
    | outgrown => exact hq _ (by simp) a w q
theorem go_region {id : Nat} {l : List Oper} (g : Run P n e R (.ops l.toArray l :: k) L A) : Run P n e R (.code (.region id l.toArray false) :: k) L A := .mk fun a w f s => wp_region_lit (g.run a w f s)
theorem go_nil {all : Array Oper} (g : Run P n e R k L A) : Run P n e R (.ops all [] :: k) L A := .mk fun a w f s => wpList_nil (g.run a w f s)

/-! ### operations that only look -/
structure Yields (P : Program) (e : Ext) (op : Op) (ty : TypeId) (L : Slots) (A : List SP) (v : Value) : Prop where
  run : ∀ n a w d pos after guard, Fr n a L → Sat e w A → (execOp a.eval ⟨d, op, ty, pos, after, guard⟩).run P w = .ok (.value v) w
theorem go_read {all : Array Oper} {l : List Oper} {d : Nat} {op : Op} {ty : TypeId} {pos : String} {after : Array Edge} {v : Value} (h : Yields P e op ty L A v) (hd : Nat.blt d n = true) (g : Run P n e R (.ops all l :: k) ((d, v) :: L) A) :
    Run P n e R (.ops all (⟨some d, op, ty, pos, after, none⟩ :: l) :: k) L A := .mk fun a w f s => wpList_plain rfl fun K hK => by
  unfold Oper.wp
  rw [h.run n a w (some d) pos after none f s]
  exact hK _ _ (g.run _ _ (f.put hd) s)
theorem go_read0 {all : Array Oper} {l : List Oper} {op : Op} {ty : TypeId} {pos : String} {after : Array Edge} {v : Value} (h : Yields P e op ty L A v) (g : Run P n e R (.ops all l :: k) L A) :
    Run P n e R (.ops all (⟨none, op, ty, pos, after, none⟩ :: l) :: k) L A := .mk fun a w f s => wpList_plain rfl fun K hK => by
  unfold Oper.wp
  rw [h.run n a w none pos after none f s]
  exact hK _ _ (g.run _ _ f s)
/-- guards. -/
def guardOf (all : Array Oper) (L : Slots) (j : Nat) : Option Bool := match (all[j]?).bind (·.dst) with
  | some t => match look L t with
    | some (.bool b) => some b
    | _ => none
  | none => none
theorem yielded_of {all : Array Oper} {a : Act} {j : Nat} {b : Bool} (f : Fr n a L) (h : guardOf all L j = some b) : yielded all a.tmps j = some b := by
  unfold guardOf at h
  unfold yielded
  cases hd : (all[j]?).bind (·.dst) with
  | none => rw [hd] at h; cases h
  | some t =>
    rw [hd] at h
    simp only at h
    cases ht : look L t with
    | none => rw [ht] at h; cases h
    | some v =>
      rw [ht] at h
      have := f.ok t v ht
      cases v <;> simp at h
      subst h
      simp [this]
theorem go_guard_no {all : Array Oper} {l : List Oper} {d : Nat} {op : Op} {ty : TypeId} {pos : String} {after : Array Edge} {j : Nat} {b want : Bool} (h : guardOf all L j = some b) (hne : (b == want) = false) (hd : Nat.blt d n = true) (g : Run P n e R (.ops all l :: k) ((d, undef) :: L) A) :
    Run P n e R (.ops all (⟨some d, op, ty, pos, after, some (j, want)⟩ :: l) :: k) L A := .mk fun a w f s => wpList_step fun K hK => by
  have hy := yielded_of f h
  have hb : b ≠ want := by simpa using hne
  rw [if_neg (by simp [Region.wanted, hy, hb])]
  exact hK _ _ (g.run _ _ (f.put hd) s)
theorem go_guard_yes {all : Array Oper} {l : List Oper} {d : Option Nat} {op : Op} {ty : TypeId} {pos : String} {after : Array Edge} {j : Nat} {want : Bool} (h : guardOf all L j = some want) (g : Run P n e R (.ops all (⟨d, op, ty, pos, after, none⟩ :: l) :: k) L A) :
    Run P n e R (.ops all (⟨d, op, ty, pos, after, some (j, want)⟩ :: l) :: k) L A := .mk fun a w f s => by
  have hg := g.run a w f s
  have hy := yielded_of f h
  unfold Kont at hg ⊢
  unfold wpList at hg ⊢
  rw [if_pos (by simp [Region.wanted])] at hg
  rw [if_pos (by simp [Region.wanted, hy])]
  exact hg

/-! ### regions that draw, of operations that only look -/
/-- the lexical walk of quiet operations. -/
structure Quiet (P : Program) (n : Nat) (e : Ext) (all : Array Oper) (A : List SP) (K : Slots → Prop) (l : List Oper) (L : Slots) : Prop where
  run : ∀ (Q : Act → Prop), (∀ a L', Fr n a L' → K L' → Q a) → ∀ a, Fr n a L → wpQuiet P all (fun w => Sat e w A) Q l a
theorem q_nil {all : Array Oper} {K : Slots → Prop} (h : K L) : Quiet P n e all A K [] L := .mk fun _ hQ a f => hQ a L f h
theorem q_read {all : Array Oper} {K : Slots → Prop} {l : List Oper} {d : Nat} {op : Op} {ty : TypeId} {pos : String} {after : Array Edge} {v : Value} (h : Yields P e op ty L A v) (hd : Nat.blt d n = true) (g : Quiet P n e all A K l ((d, v) :: L)) :
    Quiet P n e all A K (⟨some d, op, ty, pos, after, none⟩ :: l) L := .mk fun Q hQ a f => by
  unfold wpQuiet
  rw [if_pos (by simp [Region.wanted])]
  refine ⟨v, fun w s => ?_, g.run Q hQ _ (f.put hd)⟩
  unfold Oper.quietAt
  rw [h.run n a w _ _ _ _ f s]
  exact ⟨rfl, rfl⟩
theorem q_guard_no {all : Array Oper} {K : Slots → Prop} {l : List Oper} {d : Nat} {op : Op} {ty : TypeId} {pos : String} {after : Array Edge} {j : Nat} {b want : Bool} (h : guardOf all L j = some b) (hne : (b == want) = false) (hd : Nat.blt d n = true)
    (g : Quiet P n e all A K l ((d, undef) :: L)) : Quiet P n e all A K (⟨some d, op, ty, pos, after, some (j, want)⟩ :: l) L := .mk fun Q hQ a f => by
  have hy := yielded_of f h
  have hb : b ≠ want := by simpa using hne
  unfold wpQuiet
  rw [if_neg (by simp [Region.wanted, hy, hb])]
  exact g.run Q hQ _ (f.put hd)
theorem q_guard_yes {all : Array Oper} {K : Slots → Prop} {l : List Oper} {d : Option Nat} {op : Op} {ty : TypeId} {pos : String} {after : Array Edge} {j : Nat} {want : Bool} (h : guardOf all L j = some want)
    (g : Quiet P n e all A K (⟨d, op, ty, pos, after, none⟩ :: l) L) : Quiet P n e all A K (⟨d, op, ty, pos, after, some (j, want)⟩ :: l) L := .mk fun Q hQ a f => by
  have hg := g.run Q hQ a f
  have hy := yielded_of f h
  unfold wpQuiet at hg ⊢
  rw [if_pos (by simp [Region.wanted])] at hg
  rw [if_pos (by simp [Region.wanted, hy])]
  exact hg
theorem go_quiet_ {id : Nat} {l : List Oper} (hm : P.follows .mixedOrders = true) (hB : Region.lexB .any l.toArray = true) (g : Quiet P n e l.toArray A (fun L' => Run P n e R k L' A) l L) : Run P n e R (.code (.region id l.toArray true) :: k) L A := .mk fun a _w f s =>
  wp_region_quiet (C := fun w => Sat e w A) hm hB (s.grow ⟨rfl, rfl, rfl⟩ fun _ _ => rfl) (g.run _ (fun a' _L' f' hK w' s' => hK.run a' w' f' s') a f)

/-! ### calls -/
/-- a call's contract: what it wants of the memory, what it gives. -/
def Tri (P : Program) (f : Nat) (args : List Value) (pre : List SP) (Q : Value → List SP → Prop) : Prop :=
  ∀ e F w, Sat e w (pre ++ F) → Calls P f args.toArray w fun x w' => ∃ v post, Q v post ∧ x = .returned v ∧ Sat e w' (post ++ F)
def evs (L : Slots) : List Operand → List Value → Prop
  | [], [] => True
  | x :: xs, v :: vs => ev L x = some v ∧ evs L xs vs
  | _, _ => False
theorem evs_map {a : Act} (f : Fr n a L) : ∀ {xs : List Operand} {vs : List Value}, evs L xs vs → xs.map a.eval = vs
  | [], [], _ => rfl
  | x :: xs, v :: vs, h => by rw [List.map_cons, f.ev h.1, evs_map f h.2]
  | [], _ :: _, h => h.elim
  | _ :: _, [], h => h.elim
/-- f's number is that of a function with a body. -/
def Enters (P : Program) (f : Nat) : Prop := ∀ args w, (callFunc f args).run P w = .ok (.enter f args) w
theorem run_call {f : Nat} {a : Act} {w : World} {x : Operand} {xs : List Operand} {vs : List Value} {ts : Array TypeId} {cap : Array Value} {d : Option Nat} {ty : TypeId} {pos : String} {after : Array Edge} {guard : Option (Nat × Bool)} (he : Enters P f) (f' : Fr n a L) (hx : ev L x = some (.func (.func f) #[] cap)) (hv : evs L xs vs) :
    (execOp a.eval ⟨d, .call { callee := .value x, args := xs.toArray, argTypes := ts }, ty, pos, after, guard⟩).run P w = .ok (.enter f (vs.toArray ++ cap)) w := by
  have h1 := f'.ev hx
  have h2 := evs_map f' hv
  simp [execOp, resolve, h1, List.map_toArray, h2, Deferred.ofValue, invoke, he _ _]
theorem go_call {all : Array Oper} {l : List Oper} {d : Nat} {f : Nat} {x : Operand} {xs : List Operand} {vs : List Value} {cap : List Value} {ts : Array TypeId} {ty : TypeId} {pos : String} {after : Array Edge} {pre F : List SP} {Q : Value → List SP → Prop}
    (T : Tri P f (vs ++ cap) pre Q) (he : Enters P f) (hx : ev L x = some (.func (.func f) #[] cap.toArray)) (hv : evs L xs vs) (hA : Ent A (pre ++ F)) (hd : Nat.blt d n = true) (g : ∀ v post, Q v post → Run P n e R (.ops all l :: k) ((d, v) :: L) (post ++ F)) :
    Run P n e R (.ops all (⟨some d, .call { callee := .value x, args := xs.toArray, argTypes := ts }, ty, pos, after, none⟩ :: l) :: k) L A := .mk fun a w f s => wpList_plain rfl fun K hK => by
  unfold Oper.wp
  rw [run_call he f hx hv]
  simp only [Oper.upon]
  have := T e F w (s.ent hA)
  simp only [List.append_toArray]
  refine this.mono ?_
  rintro x w' ⟨v, post, hQ, rfl, s'⟩
  exact hK _ _ ((g v post hQ).run _ _ (f.put hd) s')
theorem go_call0 {all : Array Oper} {l : List Oper} {f : Nat} {x : Operand} {xs : List Operand} {vs : List Value} {cap : List Value} {ts : Array TypeId} {ty : TypeId} {pos : String} {after : Array Edge} {pre F : List SP} {Q : Value → List SP → Prop}
    (T : Tri P f (vs ++ cap) pre Q) (he : Enters P f) (hx : ev L x = some (.func (.func f) #[] cap.toArray)) (hv : evs L xs vs) (hA : Ent A (pre ++ F)) (g : ∀ v post, Q v post → Run P n e R (.ops all l :: k) L (post ++ F)) :
    Run P n e R (.ops all (⟨none, .call { callee := .value x, args := xs.toArray, argTypes := ts }, ty, pos, after, none⟩ :: l) :: k) L A := .mk fun a w f s => wpList_plain rfl fun K hK => by
  unfold Oper.wp
  rw [run_call he f hx hv]
  simp only [Oper.upon]
  have := T e F w (s.ent hA)
  simp only [List.append_toArray]
  refine this.mono ?_
  rintro x w' ⟨v, post, hQ, rfl, s'⟩
  exact hK _ _ ((g v post hQ).run _ _ f s')
/-- a call that gives back what it got, and whose value is known. -/
theorem q_call {all : Array Oper} {K : Slots → Prop} {l : List Oper} {d : Nat} {f : Nat} {x : Operand} {xs : List Operand} {vs : List Value} {cap : List Value} {ts : Array TypeId} {ty : TypeId} {pos : String} {after : Array Edge} {pre F : List SP} {v : Value} 
    (T : Tri P f (vs ++ cap) pre (fun u post => u = v ∧ post = pre)) (he : Enters P f) (hx : ev L x = some (.func (.func f) #[] cap.toArray)) (hv : evs L xs vs) (hA : Ent A (pre ++ F)) (hA' : Ent (pre ++ F) A) (hd : Nat.blt d n = true) (g : Quiet P n e all A K l ((d, v) :: L)) :
    Quiet P n e all A K (⟨some d, .call { callee := .value x, args := xs.toArray, argTypes := ts }, ty, pos, after, none⟩ :: l) L := .mk fun Q hQ a f => by
  unfold wpQuiet
  rw [if_pos (by simp [Region.wanted])]
  refine ⟨v, fun w s => ?_, g.run Q hQ _ (f.put hd)⟩
  unfold Oper.quietAt
  rw [run_call he f hx hv]
  refine ⟨rfl, ?_⟩
  simp only [List.append_toArray]
  refine (T e F w (s.ent hA)).mono ?_
  rintro x w' ⟨v, post, ⟨rfl, rfl⟩, rfl, s'⟩
  exact ⟨rfl, s'.ent hA'⟩

/-! ### a function's beginning and end -/
def zipFrom : Nat → List Value → Slots
  | _, [] => []
  | i, v :: vs => (i, v) :: zipFrom (i + 1) vs
theorem look_zip : ∀ (vs : List Value) (i t : Nat) (v : Value), look (zipFrom i vs) t = some v → i ≤ t ∧ vs[t - i]? = some v
  | [], _, _, _, h => by cases h
  | x :: xs, i, t, v, h => by
    simp only [zipFrom, look] at h
    by_cases hb : Nat.beq i t = true
    · rw [hb] at h; simp at h; subst h
      have : i = t := Nat.eq_of_beq_eq_true hb
      subst this; simp
    · have hb' : Nat.beq i t = false := Bool.eq_false_iff.2 hb
      rw [hb'] at h
      obtain ⟨h1, h2⟩ := look_zip xs (i + 1) t v h
      have e1 : t - i = (t - (i + 1)) + 1 := by omega
      exact ⟨by omega, by rw [e1]; simpa using h2⟩
/-- how a function ends. -/
def Fin (P : Program) (fn : Func) (e : Ext) (F : List SP) (Q : Value → List SP → Prop) : Exit → Act → World → Prop := bodyPost P fn fun x w' => ∃ v post, Q v post ∧ x = .returned v ∧ Sat e w' (post ++ F)
theorem tri_enter {f : Nat} {fn : Func} {c : Code} {args : List Value} {pre : List SP} {Q : Value → List SP → Prop} (hf : P.funcs[f]? = some fn) (hnt : fn.ntmps = n) (hb : fn.body = some c) (hn : Nat.ble args.length n = true)
    (g : ∀ e F, Run P n e (Fin P fn e F Q) [.code c] (zipFrom 0 args) (pre ++ F)) : Tri P f args pre Q := fun e F w s => by
  subst hnt
  have hn' : args.length ≤ fn.ntmps := Nat.le_of_ble_eq_true hn
  refine calls_of_wp hf hb ((g e F).run _ w ⟨?_, rfl, ?_⟩ s)
  · simp; omega
  · intro t v h
    obtain ⟨_, h2⟩ := look_zip args 0 t v h
    rw [Nat.sub_zero] at h2
    have hlt : t < args.length := (List.getElem?_eq_some_iff.1 h2).1
    rw [Array.getElem?_append_left (by simpa using hlt)]
    simpa using h2
/-- the results, read off the slots. -/
structure Res (P : Program) (e : Ext) (fn : Func) (L : Slots) (A : List SP) (v : Value) : Prop where
  run : ∀ n a w, Fr n a L → Sat e w A → (results fn a.tmps).run P w = .ok v w
theorem res_none {fn : Func} (h : fn.results = #[]) : Res P e fn L A (.tuple #[]) := .mk fun _ _a w _ _ => results_none h _ P w
theorem res_tmp {fn : Func} {t : Tmp} {v : Value} (h : fn.results = #[.tmp t]) (hv : look L t = some v) : Res P e fn L A v := .mk fun _ a w f _ => by
  rw [results_tmp h]
  have := f.ok t v hv
  simp [Array.getD_eq_getD_getElem?, this]
theorem res_tmp2 {fn : Func} {t u : Tmp} {v x : Value} (h : fn.results = #[.tmp t, .tmp u]) (hv : look L t = some v) (hx : look L u = some x) : Res P e fn L A (.tuple #[v, x]) := .mk fun _ a w f _ => by
  rw [results_tmp2 h]
  have h1 := f.ok t v hv
  have h2 := f.ok u x hx
  simp [Array.getD_eq_getD_getElem?, h1, h2]
theorem go_ret {fn : Func} {F : List SP} {Q : Value → List SP → Prop} {v : Value} {post : List SP} (hr : Res P e fn L A v) (hQ : Q v post) (hA : Ent A (post ++ F)) : Run P n e (Fin P fn e F Q) (.code .ret :: k) L A := .mk fun a w f s =>
  wp_ret (Kont.ret ⟨f.defers, v, hr.run n a w f s, v, post, hQ, rfl, s.ent hA⟩)
theorem go_end {fn : Func} {F : List SP} {Q : Value → List SP → Prop} {v : Value} {post : List SP} (hr : Res P e fn L A v) (hQ : Q v post) (hA : Ent A (post ++ F)) : Run P n e (Fin P fn e F Q) [] L A := .mk fun a w f s =>
  ⟨f.defers, v, hr.run n a w f s, v, post, hQ, rfl, s.ent hA⟩
end
end Go.Proofs.Ytkogmpeodamdgaa
