/-
  SEP, regions that draw their order: each operation has a part of the memory of its own, may take what operations ahead of it left, and shares the rest. Plain theorems; own text.
-/
import Derived.Test.YtkogmpeodamdgaaSepB
namespace Go.Proofs.Ytkogmpeodamdgaa
open Go Go.RowKit

/-- one operation's triple. -/
structure OpR (P : Program) (e : Ext) (op : Op) (ty : TypeId) (L : Slots) (A : List SP) (Q : Value → List SP → Prop) : Prop where
  run : ∀ n a w F d pos after guard (K : Act → World → Prop) (X : Exit → Act → World → Prop), Fr n a L → Sat e w (A ++ F) → (∀ v post w', Q v post → Sat e w' (post ++ F) → K (a.put d v) w') → Oper.wp P ⟨d, op, ty, pos, after, guard⟩ a w K X
theorem Ent.dropr : ∀ {A F : List SP}, Ent (A ++ F) A
  | [], _ => Ent.nil _
  | _ :: _, _ => Ent.cons Ent.dropr
section
variable {P : Program} {n : Nat} {e : Ext} {R : Exit → Act → World → Prop} {k : List It} {L : Slots} {A : List SP}
theorem OpR.mono {op : Op} {ty : TypeId} {Q Q' : Value → List SP → Prop} (h : OpR P e op ty L A Q) (hq : ∀ v post, Q v post → Q' v post) : OpR P e op ty L A Q' := .mk fun n a w F d pos after guard K X f s hK => h.run n a w F d pos after guard K X f s fun v post w' q => hK v post w' (hq v post q)
theorem o_det {op : Op} {ty : TypeId} {v : Value} (h : Yields P e op ty L A v) : OpR P e op ty L A (fun u post => u = v ∧ post = A) := .mk fun n a w F d pos after guard K X f s hK => by
  unfold Oper.wp
  rw [h.run n a w d pos after guard f (s.ent Ent.dropr)]
  exact hK v A w ⟨rfl, rfl⟩ s
theorem o_call {f : Nat} {x : Operand} {xs : List Operand} {vs cap : List Value} {ts : Array TypeId} {ty : TypeId} {pre F : List SP} {Q : Value → List SP → Prop} (T : Tri P f (vs ++ cap) pre Q) (he : Enters P f) (hx : ev L x = some (.func (.func f) #[] cap.toArray)) (hv : evs L xs vs) (hA : Ent A (pre ++ F)) :
    OpR P e (.call { callee := .value x, args := xs.toArray, argTypes := ts }) ty L A (fun v post => ∃ p, Q v p ∧ post = p ++ F) := .mk fun n a w G d pos after guard K X f s hK => by
  unfold Oper.wp
  rw [run_call he f hx hv]
  simp only [Oper.upon]
  have := T e (F ++ G) w (s.ent (by rw [← List.append_assoc]; exact Ent.app hA))
  simp only [List.append_toArray]
  refine this.mono ?_
  rintro x w' ⟨v, post, hQ, rfl, s'⟩
  exact hK v (post ++ F) w' ⟨post, hQ, rfl⟩ (by rw [List.append_assoc]; exact s')
theorem go_op {all : Array Oper} {l : List Oper} {d : Nat} {op : Op} {ty : TypeId} {pos : String} {after : Array Edge} {B F : List SP} {Q : Value → List SP → Prop} (h : OpR P e op ty L B Q) (hA : Ent A (B ++ F)) (hd : Nat.blt d n = true)
    (g : ∀ v post, Q v post → Run P n e R (.ops all l :: k) ((d, v) :: L) (post ++ F)) : Run P n e R (.ops all (⟨some d, op, ty, pos, after, none⟩ :: l) :: k) L A := .mk fun a w f s => wpList_plain rfl fun K hK =>
  h.run n a w F (some d) pos after none K _ f (s.ent hA) fun v post _w' hQ s' => hK _ _ ((g v post hQ).run _ _ (f.put hd) s')
theorem go_op0 {all : Array Oper} {l : List Oper} {op : Op} {ty : TypeId} {pos : String} {after : Array Edge} {B F : List SP} {Q : Value → List SP → Prop} (h : OpR P e op ty L B Q) (hA : Ent A (B ++ F))
    (g : ∀ v post, Q v post → Run P n e R (.ops all l :: k) L (post ++ F)) : Run P n e R (.ops all (⟨none, op, ty, pos, after, none⟩ :: l) :: k) L A := .mk fun a w f s => wpList_plain rfl fun K hK =>
  h.run n a w F none pos after none K _ f (s.ent hA) fun v post _w' hQ s' => hK _ _ ((g v post hQ).run _ _ f s')
end

/-! ### the region -/
def onL (o : Oper) : List Nat := (o.after.toList.filter (Region.binds .any ·)).map (·.on)
def dstAt (ops : Array Oper) (j : Nat) : Option Tmp := (ops[j]?).bind (·.dst)
structure OSpec where
  ins : List SP
  takes : List Nat
  out : Value → List SP → Prop
/-- 'm': how many come in any order; the others one behind the other, behind them. -/
def parOk (ops : Array Oper) (n m : Nat) (tk : List (List Nat)) : Bool :=
  Nat.ble m ops.size && (tk.length == m) && decide (tk.flatten.Nodup) && (List.range ops.size).all fun i =>
    match ops[i]? with
    | none => true
    | some o =>
      (onL o).all (fun k => Nat.blt k i) &&
      (match o.dst with | some d => Nat.blt d n | none => true) &&
      (if Nat.blt i m then
        (tk.getD i []).all ((onL o).contains ·) &&
        ((List.range m).all fun j =>
          match dstAt ops j with
          | none => true
          | some d => ((o.dst != some d) || Nat.beq i j) && (!(o.looksAt ops).contains d || (onL o).contains j || Nat.beq i j || (match ops[j]? with | some oj => (onL oj).contains i | none => false)))
      else if Nat.beq i m then (List.range m).all ((onL o).contains ·)
      else (onL o).contains (i - 1))
def depsOf (ops : Array Oper) (o : Oper) : List (Nat × Tmp) := (o.looksAt ops).filterMap fun t => ((onL o).find? fun j => dstAt ops j == some t).map fun j => (j, t)
def keep (ts : List Tmp) (L : Slots) : Slots := ts.filterMap fun t => (look L t).map fun v => (t, v)
/-- for whatever those ahead may have left. -/
def Need (spec : Nat → OSpec) : List (Nat × Tmp) → (Slots → List (Nat × List SP) → Prop) → Prop
  | [], K => K [] []
  | (j, d) :: r, K => ∀ v B, (spec j).out v B → Need spec r fun L Bs => K ((d, v) :: L) ((j, B) :: Bs)
theorem Need.get {spec : Nat → OSpec} {vals : Nat → Value} {outs : Nat → List SP} : ∀ {r : List (Nat × Tmp)} {K : Slots → List (Nat × List SP) → Prop}, Need spec r K → (∀ p ∈ r, (spec p.1).out (vals p.1) (outs p.1)) → K (r.map fun p => (p.2, vals p.1)) (r.map fun p => (p.1, outs p.1))
  | [], _, h, _ => h
  | (j, d) :: r, K, h, hv => Need.get (r := r) (h (vals j) (outs j) (hv (j, d) (by simp))) fun p hp => hv p (by simp [hp])
/-- what one operation has. -/
def mem_ (s : OSpec) (Bs : List (Nat × List SP)) : List SP := s.ins ++ s.takes.flatMap fun j => ((Bs.find? fun p => p.1 == j).map (·.2)).getD []
/-- what is taken besides what is looked at. -/
def extraT (ops : Array Oper) (o : Oper) (tk : List Nat) : List (Nat × Tmp) := (tk.filter fun j => !((depsOf ops o).any fun p => p.1 == j)).map fun j => (j, 0)
def OpOk (P : Program) (e : Ext) (ops : Array Oper) (spec : Nat → OSpec) (L : Slots) (S : List SP) (i : Nat) (o : Oper) : Prop :=
  Need spec (depsOf ops o ++ extraT ops o (spec i).takes) fun Lx Bs => 
    let Ls := Lx.take (depsOf ops o).length ++ keep (o.looksAt ops) L
    match o.guard with
    | none => OpR P e o.op o.type Ls (mem_ (spec i) Bs ++ S) fun v post => ∃ B, (spec i).out v B ∧ post = B ++ S
    | some (j, want) => ∃ b, guardOf ops Ls j = some b ∧ (b = want → OpR P e o.op o.type Ls (mem_ (spec i) Bs ++ S) fun v post => ∃ B, (spec i).out v B ∧ post = B ++ S) ∧ (b ≠ want → (spec i).out undef (mem_ (spec i) Bs))
def EachO (P : Program) (e : Ext) (ops : Array Oper) (spec : Nat → OSpec) (L : Slots) (S : List SP) : Nat → List Oper → Prop
  | _, [] => True
  | i, o :: l => OpOk P e ops spec L S i o ∧ EachO P e ops spec L S (i + 1) l
theorem EachO.get {P : Program} {e : Ext} {ops : Array Oper} {spec : Nat → OSpec} {L : Slots} {S : List SP} : ∀ {l : List Oper} {i : Nat}, EachO P e ops spec L S i l → ∀ (j : Nat) (o : Oper), l[j]? = some o → OpOk P e ops spec L S (i + j) o
  | [], _, _, _, _, h => by simp at h
  | x :: l, i, h, 0, o, hj => by simp at hj; subst hj; exact h.1
  | x :: l, i, h, j + 1, o, hj => by
    have := EachO.get h.2 j o (by simpa using hj)
    rwa [show i + 1 + j = i + (j + 1) by omega] at this
/-- what all of them left. -/
def Left (spec : Nat → OSpec) (ops : Array Oper) : Nat → Nat → (Slots → List (Nat × List SP) → Prop) → Prop
  | 0, _, K => K [] []
  | m + 1, i, K => ∀ v B, (spec i).out v B → Left spec ops m (i + 1) fun L Bs => K (match dstAt ops i with | some d => (d, v) :: L | none => L) ((i, B) :: Bs)
def slotsFrom (ops : Array Oper) (vals : Nat → Value) : Nat → Nat → Slots
  | 0, _ => []
  | m + 1, i => match dstAt ops i with | some d => (d, vals i) :: slotsFrom ops vals m (i + 1) | none => slotsFrom ops vals m (i + 1)
theorem Left.get {spec : Nat → OSpec} {ops : Array Oper} {vals : Nat → Value} {outs : Nat → List SP} : ∀ {m i : Nat} {K : Slots → List (Nat × List SP) → Prop}, Left spec ops m i K → (∀ j, i ≤ j → j < i + m → (spec j).out (vals j) (outs j)) → K (slotsFrom ops vals m i) ((List.range' i m).map fun j => (j, outs j))
  | 0, _, _, h, _ => h
  | m + 1, i, K, h, hv => by
    have h1 := Left.get (m := m) (h (vals i) (outs i) (hv i (Nat.le_refl _) (by omega))) fun j h1 h2 => hv j (by omega) (by omega)
    rw [List.range'_succ, List.map_cons]
    unfold slotsFrom
    cases hd : dstAt ops i <;> simp only [hd] at h1 ⊢ <;> exact h1

/-! ### pieces -/
theorem flatMap_congr_ {f g : Nat → List SP} : ∀ {l : List Nat}, (∀ x ∈ l, f x = g x) → l.flatMap f = l.flatMap g
  | [], _ => rfl
  | x :: l, h => by rw [List.flatMap_cons, List.flatMap_cons, h x (by simp), flatMap_congr_ fun y hy => h y (by simp [hy])]
def upd {α : Type} (f : Nat → α) (i : Nat) (x : α) : Nat → α := fun j => if j = i then x else f j
theorem flat_pull {f : Nat → List SP} {i : Nat} : ∀ {l : List Nat}, l.Nodup → i ∈ l → (l.flatMap f).Perm (f i ++ l.flatMap (upd f i []))
  | [], _, h => by cases h
  | x :: l, hn, h => by
    rw [List.nodup_cons] at hn
    by_cases hx : x = i
    · subst hx
      have : l.flatMap (upd f x []) = l.flatMap f := by
        apply flatMap_congr_
        intro y hy
        have : y ≠ x := fun e => hn.1 (e ▸ hy)
        simp [upd, this]
      rw [List.flatMap_cons, List.flatMap_cons, this]
      simp [upd]
    · have hi : i ∈ l := by
        rcases List.mem_cons.1 h with e | e
        · exact (hx e.symm).elim
        · exact e
      have ih := flat_pull hn.2 hi (f := f)
      rw [List.flatMap_cons, List.flatMap_cons]
      have e1 : upd f i [] x = f x := by simp [upd, hx]
      rw [e1]
      refine (List.Perm.append_left _ ih).trans ?_
      rw [← List.append_assoc, ← List.append_assoc]
      exact List.Perm.append_right _ List.perm_append_comm
def updl (f : Nat → List SP) : List Nat → Nat → List SP
  | [] => f
  | j :: js => updl (upd f j []) js
theorem updl_ne {f : Nat → List SP} : ∀ {js : List Nat} {i : Nat}, i ∉ js → updl f js i = f i
  | [], _, _ => rfl
  | j :: js, i, h => by
    rw [updl, updl_ne (fun e => h (by simp [e]))]
    have : i ≠ j := fun e => h (by simp [e])
    simp [upd, this]
theorem updl_mem {f : Nat → List SP} : ∀ {js : List Nat} {i : Nat}, i ∈ js → updl f js i = []
  | j :: js, i, h => by
    rw [updl]
    by_cases hi : i ∈ js
    · exact updl_mem hi
    · rw [updl_ne hi]
      rcases List.mem_cons.1 h with e | e
      · simp [upd, e]
      · exact (hi e).elim
theorem flat_pulls {l : List Nat} (hl : l.Nodup) : ∀ {js : List Nat} {f : Nat → List SP}, js.Nodup → (∀ j ∈ js, j ∈ l) → (l.flatMap f).Perm (js.flatMap f ++ l.flatMap (updl f js))
  | [], f, _, _ => by simp [updl]
  | j :: js, f, hn, hm => by
    rw [List.nodup_cons] at hn
    have h1 := flat_pull (f := f) hl (hm j (by simp))
    have h2 := flat_pulls hl (f := upd f j []) hn.2 (fun x hx => hm x (by simp [hx]))
    rw [List.flatMap_cons, updl]
    have e1 : js.flatMap (upd f j []) = js.flatMap f := by
      apply flatMap_congr_
      intro y hy
      have : y ≠ j := fun e => hn.1 (e ▸ hy)
      simp [upd, this]
    rw [e1] at h2
    rw [List.append_assoc]
    exact h1.trans (List.Perm.append_left _ h2)

/-! ### the law -/
section
variable {P : Program} {e : Ext} {ops : Array Oper} {spec : Nat → OSpec} {L : Slots} {S : List SP} {m n : Nat} {a0 : Act}
def isOn (l : Array Bool) (j : Nat) : Bool := l.getD j false
def takenB (spec : Nat → OSpec) (m : Nat) (l : Array Bool) (i : Nat) : Bool := (List.range m).any fun j => isOn l j && (spec j).takes.contains i
def piece (spec : Nat → OSpec) (m : Nat) (l : Array Bool) (outs : Nat → List SP) (i : Nat) : List SP := if isOn l i = true then (if takenB spec m l i = true then [] else outs i) else (spec i).ins
structure PInv (e : Ext) (ops : Array Oper) (spec : Nat → OSpec) (S : List SP) (m n : Nat) (a0 : Act) (l : Array Bool) (vals : Nat → Value) (outs : Nat → List SP) (a : Act) (w : World) : Prop where
  size : a.tmps.size = n
  defers : a.defers = []
  f1 : ∀ j d, isOn l j = true → dstAt ops j = some d → a.tmps[d]? = some (vals j)
  f2 : ∀ t, (∀ j, isOn l j = true → dstAt ops j ≠ some t) → a.tmps[t]? = a0.tmps[t]?
  v : ∀ j, isOn l j = true → (spec j).out (vals j) (outs j)
  down : ∀ j o, isOn l j = true → ops[j]? = some o → ∀ k ∈ onL o, isOn l k = true
  lsize : l.size = ops.size
  low : ∀ j, isOn l j = true → j < m
  sat : Sat e w ((List.range m).flatMap (piece spec m l outs) ++ S)

theorem isOn_self {l : Array Bool} {i : Nat} (h : i < l.size) : isOn (l.setIfInBounds i true) i = true := by
  simp [isOn, Array.getD_eq_getD_getElem?, h]
theorem isOn_ne {l : Array Bool} {i j : Nat} (h : i ≠ j) : isOn (l.setIfInBounds i true) j = isOn l j := by
  simp [isOn, Array.getD_eq_getD_getElem?, Array.getElem?_setIfInBounds_ne h]
theorem isOn_lt {l : Array Bool} {i : Nat} (h : isOn l i = true) : i < l.size := by
  rcases Nat.lt_or_ge i l.size with h1 | h1
  · exact h1
  · unfold isOn at h; rw [Array.getD_eq_getD_getElem?, Array.getElem?_eq_none h1] at h; cases h
theorem isOn_true {l : Array Bool} {j : Nat} (h : j < l.size) : l.getD j true = isOn l j := by
  simp [isOn, Array.getD_eq_getD_getElem?, Array.getElem?_eq_getElem h]
theorem onL_mem {o : Oper} {k : Nat} : k ∈ onL o ↔ ∃ e ∈ o.after, Region.binds .any e = true ∧ e.on = k := by
  unfold onL
  simp only [List.mem_map, List.mem_filter, Array.mem_toList_iff]
  constructor
  · rintro ⟨e, ⟨h1, h2⟩, h3⟩; exact ⟨e, h1, h2, h3⟩
  · rintro ⟨e, h1, h2, h3⟩; exact ⟨e, ⟨h1, h2⟩, h3⟩
theorem ready_iff {l : Array Bool} (hl : l.size = ops.size) {i : Nat} : i ∈ Region.ready .any ops l ↔ ∃ o, ops[i]? = some o ∧ isOn l i = false ∧ ∀ k ∈ onL o, isOn l k = true := by
  rw [mem_ready]
  constructor
  · rintro ⟨h1, o, ho, h2⟩
    have hil := (Array.getElem?_eq_some_iff.1 ho).1
    rw [isOn_true (by rw [hl]; exact hil)] at h1
    refine ⟨o, ho, h1, fun k hk => ?_⟩
    obtain ⟨e, he, hb, rfl⟩ := onL_mem.1 hk
    exact h2 e he hb
  · rintro ⟨o, ho, h1, h2⟩
    have hil := (Array.getElem?_eq_some_iff.1 ho).1
    refine ⟨by rw [isOn_true (by rw [hl]; exact hil)]; exact h1, o, ho, fun e he hb => h2 _ (onL_mem.2 ⟨e, he, hb, rfl⟩)⟩

structure ParOk (ops : Array Oper) (n m : Nat) (spec : Nat → OSpec) : Prop where
  le : m ≤ ops.size
  nodup : ((List.range m).map fun i => (spec i).takes).flatten.Nodup
  back : ∀ (i : Nat) (o : Oper), ops[i]? = some o → ∀ k ∈ onL o, k < i
  dst : ∀ (i : Nat) (o : Oper) (d : Nat), ops[i]? = some o → o.dst = some d → d < n
  take : ∀ (i : Nat) (o : Oper), ops[i]? = some o → i < m → ∀ j ∈ (spec i).takes, j ∈ onL o
  uniq : ∀ (i : Nat) (o : Oper), ops[i]? = some o → i < m → ∀ (j : Nat) (d : Tmp), j < m → dstAt ops j = some d → (o.dst = some d → i = j) ∧ (d ∈ o.looksAt ops → j ∈ onL o ∨ i = j ∨ ∃ oj, ops[j]? = some oj ∧ i ∈ onL oj)
  first : ∀ (o : Oper), ops[m]? = some o → ∀ j, j < m → j ∈ onL o
  next : ∀ (i : Nat) (o : Oper), ops[i]? = some o → m < i → (i - 1) ∈ onL o

theorem ParOk.of {tk : List (List Nat)} (h : parOk ops n m tk = true) (ht : (List.range m).map (fun i => (spec i).takes) = tk) : ParOk ops n m spec := by
  unfold parOk at h
  simp only [Bool.and_eq_true, decide_eq_true_eq, List.all_eq_true, List.mem_range] at h
  obtain ⟨⟨⟨h1, h2⟩, h3⟩, h4⟩ := h
  have hget : ∀ i, i < m → tk.getD i [] = (spec i).takes := fun i hi => by rw [← ht]; simp [List.getD_eq_getElem?_getD, hi]
  have key : ∀ (i : Nat) (o : Oper), ops[i]? = some o → _ := fun i o ho => by
    have := h4 i (Array.getElem?_eq_some_iff.1 ho).1
    rw [ho] at this
    exact this
  refine ⟨Nat.le_of_ble_eq_true h1, by rw [ht]; exact h3, ?_, ?_, ?_, ?_, ?_, ?_⟩
  · intro i o ho k hk
    have := (key i o ho)
    simp only [Bool.and_eq_true, List.all_eq_true] at this
    exact Nat.le_of_ble_eq_true (this.1.1 k hk)
  · intro i o d ho hd
    have := (key i o ho)
    simp only [Bool.and_eq_true, hd] at this
    exact Nat.le_of_ble_eq_true this.1.2
  · intro i o ho hi j hj
    have := (key i o ho)
    have hb : Nat.blt i m = true := Nat.ble_eq_true_of_le hi
    simp only [hb, if_true, Bool.and_eq_true, List.all_eq_true, hget i hi] at this
    have := this.2.1 j hj
    simpa using this
  · intro i o ho hi j d hj hd
    have := (key i o ho)
    have hb : Nat.blt i m = true := Nat.ble_eq_true_of_le hi
    simp only [hb, if_true, Bool.and_eq_true, List.all_eq_true, List.mem_range] at this
    have := this.2.2 j hj
    simp only [hd, Bool.and_eq_true, Bool.or_eq_true] at this
    refine ⟨fun h => ?_, fun h => ?_⟩
    · rcases this.1 with h5 | h5
      · simp [h] at h5
      · exact Nat.eq_of_beq_eq_true h5
    · rcases this.2 with ((h5 | h5) | h5) | h5
      · simp only [Bool.not_eq_true', List.contains_eq_mem, decide_eq_false_iff_not] at h5
        exact (h5 h).elim
      · exact .inl (by simpa using h5)
      · exact .inr (.inl (Nat.eq_of_beq_eq_true h5))
      · cases hoj : ops[j]? with
        | none => rw [hoj] at h5; cases h5
        | some oj => rw [hoj] at h5; exact .inr (.inr ⟨oj, rfl, by simpa using h5⟩)
  · intro o ho j hj
    have := (key m o ho)
    have hb : Nat.blt m m = false := by
      cases hh : Nat.blt m m with
      | false => rfl
      | true => exact absurd (Nat.le_of_ble_eq_true hh) (Nat.not_succ_le_self m)
    have hb2 : Nat.beq m m = true := Nat.beq_refl m
    simp only [hb, hb2, Bool.false_eq_true, if_false, if_true, Bool.and_eq_true, List.all_eq_true, List.mem_range] at this
    simpa using this.2 j hj
  · intro i o ho hi
    have := (key i o ho)
    have hb : Nat.blt i m = false := by
      cases hh : Nat.blt i m with
      | false => rfl
      | true => have := Nat.le_of_ble_eq_true hh; omega
    have hb2 : Nat.beq i m = false := by
      cases hh : Nat.beq i m with
      | false => rfl
      | true => have := Nat.eq_of_beq_eq_true hh; omega
    simp only [hb, hb2, Bool.false_eq_true, if_false, Bool.and_eq_true] at this
    simpa using this.2

theorem put_same {a : Act} {d : Tmp} {v : Value} (h : d < a.tmps.size) : (a.put (some d) v).tmps[d]? = some v := by simp [Act.put, h]
theorem put_other {a : Act} {o : Option Tmp} {t : Tmp} {v : Value} (h : o ≠ some t) : (a.put o v).tmps[t]? = a.tmps[t]? := by
  cases o with
  | none => rfl
  | some d =>
    have : d ≠ t := fun e => h (e ▸ rfl)
    simp [Act.put, Array.getElem?_setIfInBounds_ne this]
theorem put_sz {a : Act} {o : Option Tmp} {v : Value} : (a.put o v).tmps.size = a.tmps.size := by cases o <;> simp [Act.put]
theorem put_df {a : Act} {o : Option Tmp} {v : Value} : (a.put o v).defers = a.defers := by cases o <;> rfl

/-- the chain behind. -/
theorem chain_ok (h : ParOk ops n m spec) {Q : Exit → Act → World → Prop} : ∀ (fuel c : Nat) (l : Array Bool) (a : Act) (w : World), m ≤ c → c ≤ ops.size → l.size = ops.size → (∀ j, isOn l j = true ↔ j < c) → ops.size ≤ fuel + c →
    wpList P ops Q (ops.toList.drop c) a w → wpAny P .any ops Q fuel l a w := by
  have rd : ∀ (c : Nat) (l : Array Bool), m ≤ c → l.size = ops.size → (∀ j, isOn l j = true ↔ j < c) → ∀ i, i ∈ Region.ready .any ops l ↔ (i = c ∧ c < ops.size) := by
    intro c l hm hl hc i
    rw [ready_iff hl]
    constructor
    · rintro ⟨o, ho, h1, h2⟩
      have hil := (Array.getElem?_eq_some_iff.1 ho).1
      have hic : ¬ i < c := fun h3 => by rw [(hc i).2 h3] at h1; cases h1
      have : i = c := by
        rcases Nat.lt_or_ge c i with h3 | h3
        · have h4 := h2 _ (h.next i o ho (by omega))
          have := (hc _).1 h4; omega
        · omega
      subst this; exact ⟨rfl, hil⟩
    · rintro ⟨rfl, h1⟩
      refine ⟨ops[i], Array.getElem?_eq_getElem h1, ?_, fun k hk => (hc k).2 (h.back i _ (Array.getElem?_eq_getElem h1) k hk)⟩
      cases hh : isOn l i with
      | false => rfl
      | true => have := (hc i).1 hh; omega
  intro fuel
  induction fuel with
  | zero =>
    intro c l a w hm hc hl hall hf hw
    have e1 : c = ops.size := by omega
    refine ⟨?_, ?_⟩
    · cases hr : Region.ready .any ops l with
      | nil => rfl
      | cons x xs => have := (rd c l hm hl hall x).1 (by rw [hr]; simp); omega
    · have : ops.toList.drop c = [] := by rw [List.drop_eq_nil_iff]; simp; omega
      rw [this] at hw; exact hw
  | succ fuel ih =>
    intro c l a w hm hc hl hall hf hw
    refine ⟨fun hr => ?_, fun i hi => ?_⟩
    · have e1 : ¬ c < ops.size := fun h1 => by have := (rd c l hm hl hall c).2 ⟨rfl, h1⟩; rw [hr] at this; cases this
      have : ops.toList.drop c = [] := by rw [List.drop_eq_nil_iff]; simp; omega
      rw [this] at hw; exact hw
    · obtain ⟨rfl, h1⟩ := (rd c l hm hl hall i).1 hi
      have ho : ops[i]? = some ops[i] := Array.getElem?_eq_getElem h1
      have hd : ops.toList.drop i = ops[i] :: ops.toList.drop (i + 1) := by
        rw [List.drop_eq_getElem_cons (by simpa using h1)]; simp
      rw [hd] at hw
      unfold wpList at hw
      have hon : ∀ j, isOn (l.setIfInBounds i true) j = true ↔ j < i + 1 := fun j => by
        by_cases e1 : i = j
        · subst e1; simp [isOn_self (by rw [hl]; exact h1)]
        · rw [isOn_ne e1, hall]; omega
      have hK : ∀ a w, wpList P ops Q (ops.toList.drop (i + 1)) a w → wpAny P .any ops Q fuel (l.setIfInBounds i true) a w := fun a w hx =>
        ih (i + 1) _ a w (by omega) (by omega) (by simpa using hl) hon (by omega) hx
      unfold wpOp
      simp only [ho]
      split at hw
      · rename_i hwd; rw [if_pos hwd]; exact hw.imp (Oper.wp_mono hK) id
      · rename_i hwd; rw [if_neg hwd]; exact hK _ _ hw

theorem find_out {outs : Nat → List SP} {j : Nat} : ∀ {r : List (Nat × Tmp)}, (∃ p ∈ r, p.1 = j) → (((r.map fun p => (p.1, outs p.1)).find? fun p => p.1 == j).map (·.2)).getD [] = outs j
  | [], h => by obtain ⟨p, hp, _⟩ := h; cases hp
  | q :: r, h => by
    rw [List.map_cons, List.find?_cons]
    by_cases hq : q.1 = j
    · simp [hq]
    · have : (q.1 == j) = false := by simpa using hq
      simp only [this]
      refine find_out (r := r) ?_
      obtain ⟨p, hp, e1⟩ := h
      rcases List.mem_cons.1 hp with e2 | e2
      · subst e2; exact (hq e1).elim
      · exact ⟨p, e2, e1⟩
theorem mem_of {s : OSpec} {outs : Nat → List SP} {o : Oper} : mem_ s ((depsOf ops o ++ extraT ops o s.takes).map fun p : Nat × Tmp => (p.1, outs p.1)) = s.ins ++ s.takes.flatMap outs := by
  unfold mem_
  congr 1
  apply flatMap_congr_
  intro j hj
  refine find_out (r := depsOf ops o ++ extraT ops o s.takes) ?_
  by_cases h : ((depsOf ops o).any fun p => p.1 == j) = true
  · obtain ⟨p, hp, h2⟩ := List.any_eq_true.1 h
    exact ⟨p, List.mem_append.2 (.inl hp), by simpa using h2⟩
  · refine ⟨(j, 0), List.mem_append.2 (.inr (List.mem_map.2 ⟨j, List.mem_filter.2 ⟨hj, ?_⟩, rfl⟩)), rfl⟩
    rw [Bool.not_eq_true', Bool.eq_false_iff]
    exact h
theorem look_keep {ts : List Tmp} {L : Slots} {t : Tmp} {v : Value} (h : look (keep ts L) t = some v) : t ∈ ts ∧ look L t = some v := by
  unfold keep at h
  induction ts with
  | nil => cases h
  | cons x xs ih =>
    rw [List.filterMap_cons] at h
    cases hx : look L x with
    | none => rw [hx] at h; simp at h; obtain ⟨h1, h2⟩ := ih h; exact ⟨by simp [h1], h2⟩
    | some u =>
      rw [hx] at h
      simp only [Option.map_some, look] at h
      by_cases hb : Nat.beq x t = true
      · rw [hb] at h; simp at h; subst h
        have : x = t := Nat.eq_of_beq_eq_true hb
        subst this; exact ⟨by simp, hx⟩
      · have hb' : Nat.beq x t = false := Bool.eq_false_iff.2 hb
        rw [hb'] at h
        obtain ⟨h1, h2⟩ := ih h; exact ⟨by simp [h1], h2⟩
theorem look_app {L1 L2 : Slots} {t : Nat} {v : Value} (h : look (L1 ++ L2) t = some v) : look L1 t = some v ∨ ((∀ p ∈ L1, p.1 ≠ t) ∧ look L2 t = some v) := by
  induction L1 with
  | nil => exact .inr ⟨by simp, h⟩
  | cons x xs ih =>
    obtain ⟨k, u⟩ := x
    simp only [List.cons_append, look] at h ⊢
    by_cases hb : Nat.beq k t = true
    · rw [hb] at h ⊢; exact .inl h
    · have hb' : Nat.beq k t = false := Bool.eq_false_iff.2 hb
      rw [hb'] at h ⊢
      rcases ih h with h1 | ⟨h1, h2⟩
      · exact .inl h1
      · refine .inr ⟨fun p hp => ?_, h2⟩
        rcases List.mem_cons.1 hp with e1 | e1
        · subst e1; intro e2; simp at e2; subst e2; simp at hb
        · exact h1 p e1
theorem look_deps {vals : Nat → Value} {t : Tmp} {v : Value} : ∀ {r : List (Nat × Tmp)}, look (r.map fun p => (p.2, vals p.1)) t = some v → ∃ p ∈ r, p.2 = t ∧ vals p.1 = v
  | [], h => by cases h
  | q :: r, h => by
    simp only [List.map_cons, look] at h
    by_cases hb : Nat.beq q.2 t = true
    · rw [hb] at h; simp at h; exact ⟨q, by simp, Nat.eq_of_beq_eq_true hb, h⟩
    · have hb' : Nat.beq q.2 t = false := Bool.eq_false_iff.2 hb
      rw [hb'] at h
      obtain ⟨p, hp, h1⟩ := look_deps h
      exact ⟨p, by simp [hp], h1⟩
theorem depsOf_mem {o : Oper} {p : Nat × Tmp} (h : p ∈ depsOf ops o) : p.1 ∈ onL o ∧ dstAt ops p.1 = some p.2 := by
  unfold depsOf at h
  obtain ⟨t, ht, h1⟩ := List.mem_filterMap.1 h
  cases hf : (onL o).find? (fun j => dstAt ops j == some t) with
  | none => rw [hf] at h1; cases h1
  | some j =>
    rw [hf] at h1
    simp only [Option.map_some, Option.some.injEq] at h1
    subst h1
    exact ⟨List.mem_of_find?_eq_some hf, by simpa using List.find?_some hf⟩
theorem depsOf_none {o : Oper} {t : Tmp} (ht : t ∈ o.looksAt ops) (h : ∀ p ∈ depsOf ops o, p.2 ≠ t) : ∀ j ∈ onL o, dstAt ops j ≠ some t := by
  intro j hj hd
  cases hf : (onL o).find? (fun j => dstAt ops j == some t) with
  | none => have := List.find?_eq_none.1 hf j hj; simp [hd] at this
  | some j' =>
    refine h (j', t) ?_ rfl
    unfold depsOf
    exact List.mem_filterMap.2 ⟨t, ht, by rw [hf]; rfl⟩

theorem any_par (h : ParOk ops n m spec) (hL : Fr n a0 L) (hop : ∀ (i : Nat) (o : Oper), i < m → ops[i]? = some o → OpOk P e ops spec L S i o) {Q : Exit → Act → World → Prop}
    (hfin : ∀ l vals outs a w, PInv e ops spec S m n a0 l vals outs a w → (∀ j, j < m → isOn l j = true) → wpList P ops Q (ops.toList.drop m) a w) :
    ∀ (fuel : Nat) (l : Array Bool) (vals : Nat → Value) (outs : Nat → List SP) (a : Act) (w : World), PInv e ops spec S m n a0 l vals outs a w →
      ops.size ≤ fuel + (List.range ops.size).countP (fun i => isOn l i) → wpAny P .any ops Q fuel l a w := by
  have cnt : ∀ (l : Array Bool) (c : Nat), c ≤ ops.size → (∀ j, isOn l j = true ↔ j < c) → (List.range ops.size).countP (fun i => isOn l i) = c := by
    intro l c hc hall
    have : ∀ N, (List.range N).countP (fun i => isOn l i) = min N c := by
      intro N
      induction N with
      | zero => simp
      | succ N ih =>
        rw [List.range_succ, List.countP_append, ih, List.countP_singleton]
        by_cases hN : N < c
        · rw [(hall N).2 hN]; simp; omega
        · have : isOn l N = false := by
            cases hh : isOn l N with
            | false => rfl
            | true => exact absurd ((hall N).1 hh) hN
          rw [this]; simp; omega
    rw [this]; omega
  have hfin' : ∀ fuel l vals outs a w, PInv e ops spec S m n a0 l vals outs a w → ops.size ≤ fuel + (List.range ops.size).countP (fun i => isOn l i) → (∀ j, j < m → isOn l j = true) → wpAny P .any ops Q fuel l a w := by
    intro fuel l vals outs a w I hf hall
    have hon : ∀ j, isOn l j = true ↔ j < m := fun j => ⟨I.low j, hall j⟩
    refine chain_ok h fuel m l a w (Nat.le_refl _) h.le I.lsize hon ?_ (hfin l vals outs a w I hall)
    rw [cnt l m h.le hon] at hf; exact hf
  have cnt_set : ∀ (l : Array Bool) (i : Nat), i < l.size → isOn l i = false → ∀ N, (List.range N).countP (fun j => isOn (l.setIfInBounds i true) j) = (List.range N).countP (fun j => isOn l j) + if i < N then 1 else 0 := by
    intro l i hi hl N
    induction N with
    | zero => simp
    | succ N ih =>
      rw [List.range_succ, List.countP_append, List.countP_append, ih, List.countP_singleton, List.countP_singleton]
      by_cases e1 : i = N
      · subst e1
        rw [isOn_self hi, hl]; simp
      · rw [isOn_ne e1]
        have : (if i < N + 1 then 1 else 0 : Nat) = if i < N then 1 else 0 := by
          by_cases h1 : i < N
          · rw [if_pos h1, if_pos (by omega)]
          · rw [if_neg h1, if_neg (by omega)]
        rw [this]; omega
  intro fuel
  induction fuel with
  | zero =>
    intro l vals outs a w I hc
    refine hfin' 0 l vals outs a w I hc fun j hj => ?_
    have h1 : (List.range ops.size).countP (fun j => isOn l j) = (List.range ops.size).length := by
      have := List.countP_le_length (p := fun j => isOn l j) (l := List.range ops.size)
      rw [List.length_range] at this ⊢; omega
    exact List.countP_eq_length.1 h1 j (List.mem_range.2 (Nat.lt_of_lt_of_le hj h.le))
  | succ fuel ih =>
    intro l vals outs a w I hc
    by_cases hall : ∀ j, j < m → isOn l j = true
    · exact hfin' _ l vals outs a w I hc hall
    · refine ⟨fun hr => ?_, fun i hi => ?_⟩
      · exfalso
        apply hall
        intro j
        induction j using Nat.strongRecOn with
        | _ j ihj =>
          intro hj
          cases hl : isOn l j with
          | true => rfl
          | false =>
            exfalso
            have hjl : j < ops.size := Nat.lt_of_lt_of_le hj h.le
            have ho : ops[j]? = some ops[j] := Array.getElem?_eq_getElem hjl
            have hmem : j ∈ Region.ready .any ops l := (ready_iff I.lsize).2 ⟨_, ho, hl, fun k hk => by
              have := h.back j _ ho k hk
              exact ihj k this (by omega)⟩
            rw [hr] at hmem; cases hmem
      · obtain ⟨o, ho, hno, haft⟩ := (ready_iff I.lsize).1 hi
        have hil := (Array.getElem?_eq_some_iff.1 ho).1
        have him : i < m := by
          rcases Nat.lt_or_ge i m with h1 | h1
          · exact h1
          · exfalso
            rcases Nat.lt_or_ge m i with h2 | h2
            · have := I.low _ (haft _ (h.next i o ho h2)); omega
            · have e1 : i = m := by omega
              subst e1
              exact hall fun j hj => haft j (h.first o ho j hj)
        have htk := h.take i o ho him
        have htkn : (spec i).takes.Nodup := by
          have hn := List.pairwise_flatten.1 h.nodup
          exact hn.1 _ (List.mem_map.2 ⟨i, List.mem_range.2 him, rfl⟩)
        have hti : i ∉ (spec i).takes := fun h1 => Nat.lt_irrefl _ (h.back i o ho i (htk i h1))
        -- who takes what
        have tku : ∀ j j' x, j < m → j' < m → x ∈ (spec j).takes → x ∈ (spec j').takes → j = j' := by
          intro j j' x hj hj' hx hx'
          have hn := (List.pairwise_flatten.1 h.nodup).2
          rw [List.pairwise_map] at hn
          rcases Nat.lt_trichotomy j j' with h1 | h1 | h1
          · exfalso
            have := List.pairwise_iff_getElem.1 hn j j' (by simpa using hj) (by simpa using hj') h1
            simp only [List.getElem_range] at this
            exact this x hx x hx' rfl
          · exact h1
          · exfalso
            have := List.pairwise_iff_getElem.1 hn j' j (by simpa using hj') (by simpa using hj) h1
            simp only [List.getElem_range] at this
            exact this x hx' x hx rfl
        have hpi : piece spec m l outs i = (spec i).ins := by simp [piece, hno]
        have hpt : ∀ j ∈ (spec i).takes, piece spec m l outs j = outs j := by
          intro j hj
          have h1 : isOn l j = true := haft j (htk j hj)
          have h2 : takenB spec m l j = false := by
            cases hh : takenB spec m l j with
            | false => rfl
            | true =>
              unfold takenB at hh
              rw [List.any_eq_true] at hh
              obtain ⟨x, hx, hx2⟩ := hh
              simp only [Bool.and_eq_true, List.contains_eq_mem, decide_eq_true_eq] at hx2
              have := tku x i j (List.mem_range.1 hx) him hx2.2 hj
              subst this
              rw [hno] at hx2; cases hx2.1
          simp [piece, h1, h2]
        have hperm : ((List.range m).flatMap (piece spec m l outs)).Perm (((spec i).ins ++ (spec i).takes.flatMap outs) ++ (List.range m).flatMap (updl (piece spec m l outs) (i :: (spec i).takes))) := by
          have h1 := flat_pulls (l := List.range m) List.nodup_range (js := i :: (spec i).takes) (f := piece spec m l outs) (List.nodup_cons.2 ⟨hti, htkn⟩) (fun j hj => by
            rcases List.mem_cons.1 hj with e1 | e1
            · subst e1; exact List.mem_range.2 him
            · have := h.back i o ho j (htk j e1); exact List.mem_range.2 (by omega))
          rw [List.flatMap_cons, hpi] at h1
          have h2 : (spec i).takes.flatMap (piece spec m l outs) = (spec i).takes.flatMap outs := flatMap_congr_ hpt
          rw [h2] at h1
          exact h1
        generalize hrest : (List.range m).flatMap (updl (piece spec m l outs) (i :: (spec i).takes)) = rest at hperm
        -- what the operation sees
        have hnd := (hop i o him ho)
        unfold OpOk at hnd
        have hget := Need.get (vals := vals) (outs := outs) hnd (fun p hp => by
          rcases List.mem_append.1 hp with h1 | h1
          · exact I.v _ (haft _ (depsOf_mem h1).1)
          · obtain ⟨j, hj, rfl⟩ := List.mem_map.1 h1
            exact I.v _ (haft _ (htk j (List.mem_filter.1 hj).1)))
        rw [mem_of] at hget
        have htake : ((depsOf ops o ++ extraT ops o (spec i).takes).map fun p : Nat × Tmp => (p.2, vals p.1)).take (depsOf ops o).length = (depsOf ops o).map fun p => (p.2, vals p.1) := by
          rw [List.map_append, List.take_left' (by simp)]
        rw [htake] at hget
        generalize hLs : ((depsOf ops o).map fun p => (p.2, vals p.1)) ++ keep (o.looksAt ops) L = Ls at hget
        have hfr : Fr n a Ls := by
          refine ⟨I.size, I.defers, fun t u hu => ?_⟩
          rw [← hLs] at hu
          rcases look_app hu with h1 | ⟨h1, h2⟩
          · obtain ⟨p, hp, rfl, rfl⟩ := look_deps h1
            have := depsOf_mem hp
            exact I.f1 _ _ (haft _ this.1) this.2
          · obtain ⟨h3, h4⟩ := look_keep h2
            have hnone := depsOf_none h3 (fun p hp e1 => h1 (p.2, vals p.1) (List.mem_map.2 ⟨p, hp, rfl⟩) e1)
            rw [I.f2 t fun j hj hd => ?_]
            · exact hL.ok t u h4
            · rcases (h.uniq i o ho him j t (I.low j hj) hd).2 h3 with h5 | h5 | ⟨oj, hoj, h5⟩
              · exact hnone j h5 hd
              · subst h5; rw [hno] at hj; cases hj
              · rw [I.down j oj hj hoj i h5] at hno; cases hno
        have hsat : Sat e w ((((spec i).ins ++ (spec i).takes.flatMap outs) ++ S) ++ rest) := I.sat.ent (Ent.perm (by
          refine (List.Perm.append_right S hperm).trans ?_
          generalize (spec i).ins ++ (spec i).takes.flatMap outs = X
          rw [List.append_assoc, List.append_assoc]
          exact List.Perm.append_left _ List.perm_append_comm))
        -- the state behind it
        have next : ∀ v B w', (spec i).out v B → Sat e w' ((B ++ S) ++ rest) → wpAny P .any ops Q fuel (l.setIfInBounds i true) (a.put o.dst v) w' := by
          intro v B w' hv hs
          have hsz : i < l.size := by rw [I.lsize]; exact hil
          refine ih _ (upd vals i v) (upd outs i B) _ _ ⟨by rw [put_sz]; exact I.size, by rw [put_df]; exact I.defers, ?_, ?_, ?_, ?_, by simp [I.lsize], ?_, ?_⟩ ?_
          · intro j d hj hd
            by_cases e1 : i = j
            · subst e1
              have hod : o.dst = some d := by simpa [dstAt, ho] using hd
              rw [hod]
              have : upd vals i v i = v := by simp [upd]
              rw [this]
              exact put_same (by rw [I.size]; exact h.dst i o d ho hod)
            · rw [isOn_ne e1] at hj
              have : upd vals i v j = vals j := by simp [upd, Ne.symm e1]
              rw [this, put_other fun hod => e1 ((h.uniq i o ho him j d (I.low j hj) hd).1 hod)]
              exact I.f1 j d hj hd
          · intro t ht
            have hod : o.dst ≠ some t := by
              have := ht i (isOn_self hsz)
              simpa [dstAt, ho] using this
            rw [put_other hod]
            refine I.f2 t fun j hj => ht j ?_
            by_cases e1 : i = j
            · subst e1; exact isOn_self hsz
            · rw [isOn_ne e1]; exact hj
          · intro j hj
            by_cases e1 : i = j
            · subst e1; simpa [upd] using hv
            · rw [isOn_ne e1] at hj
              simpa [upd, Ne.symm e1] using I.v j hj
          · intro j oj hj hoj k hk
            by_cases e2 : i = k
            · subst e2; exact isOn_self hsz
            · rw [isOn_ne e2]
              by_cases e1 : i = j
              · subst e1
                have : oj = o := by rw [ho] at hoj; exact (Option.some.inj hoj).symm
                subst this; exact haft k hk
              · rw [isOn_ne e1] at hj; exact I.down j oj hj hoj k hk
          · intro j hj
            by_cases e1 : i = j
            · subst e1; exact him
            · rw [isOn_ne e1] at hj; exact I.low j hj
          · have e1 : ∀ j ∈ List.range m, upd (piece spec m (l.setIfInBounds i true) (upd outs i B)) i [] j = updl (piece spec m l outs) (i :: (spec i).takes) j := by
              intro j hj
              have hjm := List.mem_range.1 hj
              by_cases e1 : j = i
              · subst e1
                rw [updl_mem (by simp)]; simp [upd]
              · have e2 : upd (piece spec m (l.setIfInBounds i true) (upd outs i B)) i [] j = piece spec m (l.setIfInBounds i true) (upd outs i B) j := by simp [upd, e1]
                rw [e2]
                have hon : isOn (l.setIfInBounds i true) j = isOn l j := isOn_ne (Ne.symm e1)
                have hou : upd outs i B j = outs j := by simp [upd, e1]
                by_cases hjt : j ∈ (spec i).takes
                · rw [updl_mem (by simp [hjt])]
                  have h1 : takenB spec m (l.setIfInBounds i true) j = true := by
                    unfold takenB
                    rw [List.any_eq_true]
                    exact ⟨i, List.mem_range.2 him, by simp [isOn_self hsz, hjt]⟩
                  have h2 : isOn l j = true := haft j (htk j hjt)
                  simp [piece, hon, h1, h2]
                · rw [updl_ne (by simp [e1, hjt])]
                  have h1 : takenB spec m (l.setIfInBounds i true) j = takenB spec m l j := by
                    unfold takenB
                    rw [Bool.eq_iff_iff, List.any_eq_true, List.any_eq_true]
                    constructor
                    · rintro ⟨x, hx, hx2⟩
                      simp only [Bool.and_eq_true, List.contains_eq_mem, decide_eq_true_eq] at hx2
                      have hxi : i ≠ x := fun e3 => by subst e3; exact hjt hx2.2
                      rw [isOn_ne hxi] at hx2
                      exact ⟨x, hx, by simp [hx2.1, hx2.2]⟩
                    · rintro ⟨x, hx, hx2⟩
                      simp only [Bool.and_eq_true, List.contains_eq_mem, decide_eq_true_eq] at hx2
                      have hxi : i ≠ x := fun e3 => by subst e3; rw [hno] at hx2; cases hx2.1
                      exact ⟨x, hx, by simp [isOn_ne hxi, hx2.1, hx2.2]⟩
                  simp [piece, hon, h1, hou]
            have e2 := flat_pull (f := piece spec m (l.setIfInBounds i true) (upd outs i B)) (i := i) (l := List.range m) List.nodup_range (List.mem_range.2 him)
            rw [flatMap_congr_ e1, hrest] at e2
            have e3 : piece spec m (l.setIfInBounds i true) (upd outs i B) i = B := by
              have h1 : takenB spec m (l.setIfInBounds i true) i = false := by
                cases hh : takenB spec m (l.setIfInBounds i true) i with
                | false => rfl
                | true =>
                  unfold takenB at hh
                  rw [List.any_eq_true] at hh
                  obtain ⟨x, hx, hx2⟩ := hh
                  simp only [Bool.and_eq_true, List.contains_eq_mem, decide_eq_true_eq] at hx2
                  exfalso
                  by_cases e4 : i = x
                  · subst e4; exact hti hx2.2
                  · rw [isOn_ne e4] at hx2
                    have hxl := I.low x hx2.1
                    have hxs : x < ops.size := Nat.lt_of_lt_of_le hxl h.le
                    have hxo : ops[x]? = some ops[x] := Array.getElem?_eq_getElem hxs
                    have h5 := h.take x _ hxo hxl i hx2.2
                    rw [I.down x _ hx2.1 hxo i h5] at hno; cases hno
              simp [piece, isOn_self hsz, h1, upd]
            rw [e3] at e2
            refine hs.ent (Ent.perm ?_)
            refine List.Perm.trans ?_ (List.Perm.append_right S e2.symm)
            rw [List.append_assoc, List.append_assoc]
            exact List.Perm.append_left _ List.perm_append_comm
          · rw [cnt_set l i hsz hno, if_pos hil]; omega
        unfold wpOp
        simp only [ho]
        obtain ⟨d, op, ty, pos, after, guard⟩ := o
        cases guard with
        | none =>
          rw [if_pos (by simp [Region.wanted])]
          refine .inl (hget.run n a w rest d pos after none _ _ hfr hsat ?_)
          rintro v post w' ⟨B, hv, rfl⟩ hs
          exact next v B w' hv hs
        | some g =>
          obtain ⟨gj, want⟩ := g
          obtain ⟨b, hb, hyes, hnope⟩ := hget
          have hy : yielded ops a.tmps gj = some b := yielded_of hfr hb
          by_cases e1 : b = want
          · rw [if_pos (by simp [Region.wanted, hy, e1])]
            refine .inl ((hyes e1).run n a w rest d pos after _ _ _ hfr hsat ?_)
            rintro v post w' ⟨B, hv, rfl⟩ hs
            exact next v B w' hv hs
          · rw [if_neg (by simp [Region.wanted, hy, e1])]
            exact next undef _ w (hnope e1) hsat

theorem look_from {vals : Nat → Value} {t : Nat} {v : Value} : ∀ {m i : Nat}, look (slotsFrom ops vals m i) t = some v → ∃ j, i ≤ j ∧ j < i + m ∧ dstAt ops j = some t ∧ vals j = v
  | 0, _, h => by cases h
  | m + 1, i, h => by
    unfold slotsFrom at h
    cases hd : dstAt ops i with
    | none =>
      rw [hd] at h
      obtain ⟨j, h1, h2, h3⟩ := look_from h
      exact ⟨j, by omega, by omega, h3⟩
    | some d =>
      rw [hd] at h
      simp only [look] at h
      by_cases hb : Nat.beq d t = true
      · rw [hb] at h; simp at h
        have : d = t := Nat.eq_of_beq_eq_true hb
        subst this
        exact ⟨i, by omega, by omega, hd, h⟩
      · have hb' : Nat.beq d t = false := Bool.eq_false_iff.2 hb
        rw [hb'] at h
        obtain ⟨j, h1, h2, h3⟩ := look_from h
        exact ⟨j, by omega, by omega, h3⟩
theorem from_none {vals : Nat → Value} {t : Nat} : ∀ {m i : Nat}, (∀ p ∈ slotsFrom ops vals m i, p.1 ≠ t) → ∀ j, i ≤ j → j < i + m → dstAt ops j ≠ some t
  | 0, _, _, j, h1, h2 => by omega
  | m + 1, i, h, j, h1, h2 => by
    unfold slotsFrom at h
    by_cases e1 : j = i
    · subst e1
      intro hd
      rw [hd] at h
      exact h (t, vals j) (by simp) rfl
    · refine from_none (vals := vals) (m := m) (i := i + 1) (fun p hp => ?_) j (by omega) (by omega)
      cases hd : dstAt ops i with
      | none => rw [hd] at h; exact h p hp
      | some d => rw [hd] at h; exact h p (by simp [hp])

/-- A REGION THAT DRAWS ITS ORDER. -/
theorem go_drawn {R : Exit → Act → World → Prop} {k : List It} {A : List SP} {id : Nat} {l : List Oper} (m : Nat) (specs : List OSpec) (S : List SP) (hm : P.follows .mixedOrders = true) (hok : parOk l.toArray n m (specs.map (·.takes)) = true) (hlen : specs.length = m)
    (hA : Ent A (specs.flatMap (·.ins) ++ S)) (hops : EachO P e l.toArray (fun i => specs.getD i ⟨[], [], fun _ _ => False⟩) L S 0 (l.take m))
    (hfin : Left (fun i => specs.getD i ⟨[], [], fun _ _ => False⟩) l.toArray m 0 fun Lx Bs => Run P n e R (.ops l.toArray (l.drop m) :: k) (Lx ++ L) ((Bs.filter fun p => !((specs.flatMap (·.takes)).contains p.1)).flatMap (·.2) ++ S)) :
    Run P n e R (.code (.region id l.toArray true) :: k) L A := .mk fun a w f s => by
  subst hlen
  have hget : ∀ i, i < specs.length → specs[i]? = some (specs.getD i ⟨[], [], fun _ _ => False⟩) := fun i hi => by simp [List.getD_eq_getElem?_getD, List.getElem?_eq_getElem hi]
  have hrange : ∀ {β : Type} (g : OSpec → β), (List.range specs.length).map (fun i => g (specs.getD i ⟨[], [], fun _ _ => False⟩)) = specs.map g := fun g => by
    apply List.ext_getElem?
    intro i
    rw [List.getElem?_map, List.getElem?_map]
    by_cases hi : i < specs.length
    · rw [List.getElem?_range hi, hget i hi]; rfl
    · rw [List.getElem?_eq_none (by simp; omega), List.getElem?_eq_none (by omega)]; rfl
  have hp : ParOk l.toArray n specs.length (fun i => specs.getD i ⟨[], [], fun _ _ => False⟩) := ParOk.of hok (hrange (·.takes))
  refine wp_region_any hm (any_par (P := P) (e := e) (S := S) (L := L) (a0 := a) hp f ?_ ?_ _ _ (fun _ => undef) (fun _ => []) _ _ ?_ ?_)
  · intro i o hi ho
    have := EachO.get hops i o (by rw [List.getElem?_take, if_pos hi]; simpa using ho)
    rwa [Nat.zero_add] at this
  · intro lb vals outs a' w' I hall
    have h1 := Left.get (vals := vals) (outs := outs) hfin (fun j _ hj => I.v j (hall j (by omega)))
    have hfr : Fr n a' (slotsFrom l.toArray vals specs.length 0 ++ L) := by
      refine ⟨I.size, I.defers, fun t v hv => ?_⟩
      rcases look_app hv with h2 | ⟨h2, h3⟩
      · obtain ⟨j, _, hj, hd, rfl⟩ := look_from h2
        exact I.f1 j t (hall j (by omega)) hd
      · rw [I.f2 t fun j hj => from_none h2 j (by omega) (by have := I.low j hj; omega)]
        exact f.ok t v h3
    refine h1.run a' w' hfr (I.sat.ent ?_)
    have e1 : (List.range specs.length).flatMap (piece (fun i => specs.getD i ⟨[], [], fun _ _ => False⟩) specs.length lb outs) = (((List.range' 0 specs.length).map fun j => (j, outs j)).filter fun p => !((specs.flatMap (·.takes)).contains p.1)).flatMap (·.2) := by
      rw [← List.range_eq_range']
      have gen : ∀ (q : List Nat), (∀ j ∈ q, j < specs.length) → q.flatMap (piece (fun i => specs.getD i ⟨[], [], fun _ _ => False⟩) specs.length lb outs) = ((q.map fun j => (j, outs j)).filter fun p => !((specs.flatMap (·.takes)).contains p.1)).flatMap (·.2) := by
        intro q
        induction q with
        | nil => intro _; rfl
        | cons j q ih =>
          intro hq
          rw [List.flatMap_cons, List.map_cons, List.filter_cons, ih fun x hx => hq x (by simp [hx])]
          have hj := hall j (hq j (by simp))
          have htk : takenB (fun i => specs.getD i ⟨[], [], fun _ _ => False⟩) specs.length lb j = (specs.flatMap (·.takes)).contains j := by
            rw [Bool.eq_iff_iff]
            unfold takenB
            rw [List.any_eq_true]
            simp only [List.contains_eq_mem, decide_eq_true_eq, List.mem_flatMap, Bool.and_eq_true]
            constructor
            · rintro ⟨x, hx, _, h3⟩
              have hxl := List.mem_range.1 hx
              refine ⟨_, List.mem_of_getElem? (hget x hxl), h3⟩
            · rintro ⟨sp, hsp, h3⟩
              obtain ⟨x, hx, rfl⟩ := List.mem_iff_getElem.1 hsp
              refine ⟨x, List.mem_range.2 hx, hall x hx, ?_⟩
              simpa [List.getD_eq_getElem?_getD, List.getElem?_eq_getElem hx] using h3
          cases hc : (specs.flatMap (·.takes)).contains j with
          | true =>
            rw [hc] at htk
            have : piece (fun i => specs.getD i ⟨[], [], fun _ _ => False⟩) specs.length lb outs j = [] := by unfold piece; rw [if_pos hj, if_pos htk]
            rw [this]; rfl
          | false =>
            rw [hc] at htk
            have : piece (fun i => specs.getD i ⟨[], [], fun _ _ => False⟩) specs.length lb outs j = outs j := by unfold piece; rw [if_pos hj, if_neg (by rw [htk]; simp)]
            rw [this]; rfl
      exact gen _ fun j hj => List.mem_range.1 hj
    rw [e1]
    exact Ent.refl _
  · have hoff : ∀ j, isOn (Array.replicate l.toArray.size false) j = false := fun j => by
      unfold isOn
      rw [Array.getD_eq_getD_getElem?, Array.getElem?_replicate]
      split <;> rfl
    refine ⟨f.size, f.defers, fun j d hj => ?_, fun _ _ => rfl, fun j hj => ?_, fun j o hj => ?_, by simp, fun j hj => ?_, ?_⟩
    all_goals first
      | (rw [hoff] at hj; cases hj; done)
      | skip
    have e1 : (List.range specs.length).flatMap (piece (fun i => specs.getD i ⟨[], [], fun _ _ => False⟩) specs.length (Array.replicate l.toArray.size false) fun _ => []) = specs.flatMap (·.ins) := by
      have e2 := hrange (·.ins)
      rw [List.flatMap_def, List.flatMap_def, ← e2]
      congr 1
      apply List.map_congr_left
      intro j _
      unfold piece; rw [if_neg (by rw [hoff]; simp)]
    rw [e1]
    exact (s.ent hA).grow ⟨rfl, rfl, rfl⟩ fun _ _ => rfl
  · exact Nat.le_add_right _ _
end
end Go.Proofs.Ytkogmpeodamdgaa
