/-
  A region that draws its order, proved operation by operation: each operation, in whatever world that the others may have left, gives a value that meets its predicate; predicates are kept by the relation R.
  Plain theorems; own text.
-/
import Derived.Orders
import Derived.Below
import Derived.Laws.OwnMore
import Derived.Deep.Draws
import Derived.Laws.Rows
import Derived.Lib.Hide
import Derived.Deep.AppendLies
import Derived.Maps.AppendAt
namespace Go.Proofs.Ytkogmpeodamdgaa
open Go Go.RowKit

/-- nothing but a normal end. -/
def NoExit : Exit → Act → World → Prop := fun _ _ _ => False

theorem oper_wp_noExit {P : Program} {o : Oper} {a : Act} {w : World} {K : Act → World → Prop} {Q : Exit → Act → World → Prop} (h : o.wp P a w K NoExit) : o.wp P a w K Q := by
  unfold Oper.wp at *
  generalize (execOp a.eval o).run P w = r at *
  cases r with
  | ok n w' =>
    cases n <;> simp only [Oper.upon] at h ⊢ <;> first
      | exact h
      | exact Calls.mono h (fun e w'' he => by cases e <;> first | exact he | exact he.elim | exact (by obtain ⟨_, _, hx⟩ := he; exact hx.elim))
  | halt x w' => cases x <;> simp only [Oper.upon] at h ⊢ <;> exact h.elim

def onList (o : Oper) : List Nat := (o.after.toList.filter (Region.binds .any ·)).map (·.on)

def dstOf (ops : Array Oper) (j : Nat) : Option Tmp := (ops[j]?).bind (·.dst)

/-- edges go back; no two operations write one slot; what an operation looks at is written by one that stands ahead of it by an edge, or by one that stands behind it by an edge, or by itself. -/
def orderOk (ops : Array Oper) (n : Nat) : Bool :=
  (List.range ops.size).all fun i =>
    match ops[i]? with
    | none => true
    | some o =>
      (onList o).all (· < i) &&
      (match o.dst with | some d => decide (d < n) | none => true) &&
      (List.range ops.size).all fun j =>
        match dstOf ops j with
        | none => true
        | some d =>
          ((o.dst != some d) || i == j) &&
          (!(o.looksAt ops).contains d || (onList o).contains j || i == j || (match ops[j]? with | some oj => (onList oj).contains i | none => false))

/-- what is known of a slot that an operation looks at. -/
def depOk (ops : Array Oper) (V : Nat → Value → World → Prop) (a0 A : Act) (w : World) (o : Oper) (t : Tmp) : Prop :=
  match (onList o).find? (fun j => dstOf ops j == some t) with
  | some j => V j (A.eval (.tmp t)) w
  | none => A.eval (.tmp t) = a0.eval (.tmp t)

def depsOk (ops : Array Oper) (V : Nat → Value → World → Prop) (a0 A : Act) (w : World) (o : Oper) : List Tmp → Prop
  | [] => True
  | t :: ts => depOk ops V a0 A w o t ∧ depsOk ops V a0 A w o ts

theorem depsOk_of {ops : Array Oper} {V : Nat → Value → World → Prop} {a0 A : Act} {w : World} {o : Oper} : ∀ {l : List Tmp}, (∀ t ∈ l, depOk ops V a0 A w o t) → depsOk ops V a0 A w o l
  | [], _ => trivial
  | t :: _, h => ⟨h t (by simp), depsOk_of fun u hu => h u (by simp [hu])⟩

/-- an operation is right. -/
def opOk (P : Program) (ops : Array Oper) (V : Nat → Value → World → Prop) (R : World → World → Prop) (a0 : Act) (w0 : World) (o : Oper) (Vi : Value → World → Prop) : Prop :=
  ∀ A w, R w0 w → depsOk ops V a0 A w o (o.looksAt ops) →
    (Region.wanted o (yielded ops A.tmps) = true → ∀ K : Act → World → Prop, (∀ v w', R w w' → Vi v w' → K (A.put o.dst v) w') → o.wp P A w K NoExit) ∧
    (Region.wanted o (yielded ops A.tmps) = false → Vi undef w)

def finish (K : Act → World → Prop) : List Oper → List (Value → World → Prop) → Act → World → Prop
  | o :: os, V :: Vs, a, w => ∀ v, V v w → finish K os Vs (a.put o.dst v) w
  | _, _, a, w => K a w

def eachOk (P : Program) (ops : Array Oper) (V : Nat → Value → World → Prop) (R : World → World → Prop) (a0 : Act) (w0 : World) : List Oper → List (Value → World → Prop) → Prop
  | o :: os, Vi :: Vs => opOk P ops V R a0 w0 o Vi ∧ eachOk P ops V R a0 w0 os Vs
  | _, _ => True

theorem eachOk_get {P : Program} {ops : Array Oper} {V : Nat → Value → World → Prop} {R : World → World → Prop} {a0 : Act} {w0 : World} :
    ∀ {l : List Oper} {Vs : List (Value → World → Prop)}, eachOk P ops V R a0 w0 l Vs → l.length = Vs.length → ∀ (i : Nat) (o : Oper), l[i]? = some o → ∃ Vi, Vs[i]? = some Vi ∧ opOk P ops V R a0 w0 o Vi
  | [], _, _, _, i, o, h => by simp at h
  | o :: os, [], _, hl, _, _, _ => by simp at hl
  | o :: os, Vi :: Vs, h, hl, 0, x, hx => by simp at hx; subst hx; exact ⟨Vi, rfl, h.1⟩
  | o :: os, Vi :: Vs, h, hl, i + 1, x, hx => by
    obtain ⟨V', h1, h2⟩ := eachOk_get h.2 (by simpa using hl) i x (by simpa using hx)
    exact ⟨V', by simpa using h1, h2⟩

section
variable {P : Program} {ops : Array Oper} {V : Nat → Value → World → Prop} {R : World → World → Prop} {a0 : Act} {w0 : World}

structure RInv (ops : Array Oper) (V : Nat → Value → World → Prop) (R : World → World → Prop) (a0 : Act) (w0 : World) (listed : Array Bool) (vals : Nat → Value) (a : Act) (w : World) : Prop where
  rel : R w0 w
  defers : a.defers = a0.defers
  size : a.tmps.size = a0.tmps.size
  f1 : ∀ j d, listed.getD j false = true → dstOf ops j = some d → a.tmps[d]? = some (vals j)
  f2 : ∀ t, (∀ j, listed.getD j false = true → dstOf ops j ≠ some t) → a.tmps[t]? = a0.tmps[t]?
  v : ∀ j, listed.getD j false = true → j < ops.size → V j (vals j) w
  down : ∀ j o, listed.getD j false = true → ops[j]? = some o → ∀ k ∈ onList o, listed.getD k false = true
  lsize : listed.size = ops.size

theorem getD_of_getElem? {l : Array Bool} {i : Nat} {b : Bool} (h : l[i]? = some b) : l.getD i false = b := by
  simp [Array.getD_eq_getD_getElem?, h]

theorem listed_lt {l : Array Bool} {i : Nat} (h : l.getD i false = true) : i < l.size := by
  rcases Nat.lt_or_ge i l.size with h1 | h1
  · exact h1
  · rw [Array.getD_eq_getD_getElem?, Array.getElem?_eq_none h1] at h; cases h

theorem getD_set_self {l : Array Bool} {i : Nat} (h : i < l.size) : (l.setIfInBounds i true).getD i false = true := by
  simp [Array.getD_eq_getD_getElem?, h]

theorem getD_set_cases {l : Array Bool} {i j : Nat} (h : (l.setIfInBounds i true).getD j false = true) : j = i ∨ l.getD j false = true := by
  by_cases e : i = j
  · exact .inl e.symm
  · exact .inr (by rwa [getD_set_ne _ e] at h)

theorem put_get_self {a : Act} {d : Tmp} {v : Value} (h : d < a.tmps.size) : (a.put (some d) v).tmps[d]? = some v := by
  simp [Act.put, h]
theorem put_get_ne {a : Act} {o : Option Tmp} {t : Tmp} {v : Value} (h : o ≠ some t) : (a.put o v).tmps[t]? = a.tmps[t]? := by
  cases o with
  | none => rfl
  | some d =>
    have : d ≠ t := fun e => h (e ▸ rfl)
    simp [Act.put, Array.getElem?_setIfInBounds_ne this]
theorem put_size {a : Act} {o : Option Tmp} {v : Value} : (a.put o v).tmps.size = a.tmps.size := by cases o <;> simp [Act.put]
theorem put_defers {a : Act} {o : Option Tmp} {v : Value} : (a.put o v).defers = a.defers := by cases o <;> rfl

theorem eval_of_get {a b : Act} {t : Tmp} (h : a.tmps[t]? = b.tmps[t]?) : a.eval (.tmp t) = b.eval (.tmp t) := by
  simp only [Act.eval, Array.getD_eq_getD_getElem?, h]

theorem orderOk_spec {n : Nat} (h : orderOk ops n = true) {i : Nat} {o : Oper} (hi : ops[i]? = some o) :
    (∀ k ∈ onList o, k < i) ∧ (∀ d, o.dst = some d → d < n) ∧
    ∀ j d, dstOf ops j = some d → (o.dst = some d → i = j) ∧ (d ∈ o.looksAt ops → j ∈ onList o ∨ i = j ∨ ∃ oj, ops[j]? = some oj ∧ i ∈ onList oj) := by
  unfold orderOk at h
  rw [List.all_eq_true] at h
  have hlt : i < ops.size := (Array.getElem?_eq_some_iff.1 hi).1
  have h1 := h i (List.mem_range.2 hlt)
  simp only [hi, Bool.and_eq_true] at h1
  obtain ⟨⟨ha, hb⟩, hc⟩ := h1
  refine ⟨fun k hk => by simpa using List.all_eq_true.1 ha k hk, fun d hd => by simpa [hd] using hb, fun j d hj => ?_⟩
  have hjlt : j < ops.size := by
    rcases Nat.lt_or_ge j ops.size with h2 | h2
    · exact h2
    · simp [dstOf, Array.getElem?_eq_none h2] at hj
  have h2 := List.all_eq_true.1 hc j (List.mem_range.2 hjlt)
  simp only [hj, Bool.and_eq_true, Bool.or_eq_true] at h2
  refine ⟨fun hd => ?_, fun hd => ?_⟩
  · rcases h2.1 with h3 | h3
    · simp [hd] at h3
    · simpa using h3
  · rcases h2.2 with ((h3 | h3) | h3) | h3
    · simp only [Bool.not_eq_true', List.contains_eq_mem, decide_eq_false_iff_not] at h3
      exact (h3 hd).elim
    · exact .inl (by simpa using h3)
    · exact .inr (.inl (by simpa using h3))
    · cases hoj : ops[j]? with
      | none => rw [hoj] at h3; cases h3
      | some oj => rw [hoj] at h3; exact .inr (.inr ⟨oj, rfl, by simpa using h3⟩)

theorem count_set {l : Array Bool} {i : Nat} (hi : i < l.size) (hl : l.getD i false = false) : ∀ n, (List.range n).countP (fun j => (l.setIfInBounds i true).getD j false) = (List.range n).countP (fun j => l.getD j false) + if i < n then 1 else 0
  | 0 => by simp
  | n + 1 => by
    rw [List.range_succ, List.countP_append, List.countP_append, count_set hi hl n]
    by_cases e : i = n
    · subst e
      have h1 := getD_set_self hi
      simp only [List.countP_cons, List.countP_nil, h1, hl]
      simp
    · rw [List.countP_cons, List.countP_cons, getD_set_ne _ e]
      have : (if i < n + 1 then 1 else 0 : Nat) = if i < n then 1 else 0 := by
        by_cases h : i < n
        · rw [if_pos h, if_pos (by omega)]
        · rw [if_neg h, if_neg (by omega)]
      rw [this]; simp; omega

theorem all_of_count {l : Array Bool} {n : Nat} (h : n ≤ (List.range n).countP (fun j => l.getD j false)) : ∀ j, j < n → l.getD j false = true := by
  have h1 : (List.range n).countP (fun j => l.getD j false) = (List.range n).length := by
    have := List.countP_le_length (p := fun j => l.getD j false) (l := List.range n)
    rw [List.length_range] at this ⊢; omega
  intro j hj
  exact List.countP_eq_length.1 h1 j (List.mem_range.2 hj)

theorem getD_true_false {l : Array Bool} {j : Nat} (h : j < l.size) : l.getD j true = l.getD j false := by
  simp [Array.getD_eq_getD_getElem?, Array.getElem?_eq_getElem h]

theorem onList_mem {o : Oper} {k : Nat} : k ∈ onList o ↔ ∃ e ∈ o.after, Region.binds .any e = true ∧ e.on = k := by
  unfold onList
  simp only [List.mem_map, List.mem_filter, Array.mem_toList_iff]
  constructor
  · rintro ⟨e, ⟨h1, h2⟩, h3⟩; exact ⟨e, h1, h2, h3⟩
  · rintro ⟨e, h1, h2, h3⟩; exact ⟨e, ⟨h1, h2⟩, h3⟩

theorem any_of_each (hrefl : ∀ a, R a a) (htrans : ∀ a b c, R a b → R b c → R a c) (hok : orderOk ops a0.tmps.size = true)
    (hstab : ∀ j, j < ops.size → ∀ v w w', V j v w → R w w' → V j v w')
    (hop : ∀ (i : Nat) (o : Oper), ops[i]? = some o → opOk P ops V R a0 w0 o (V i)) {Q : Exit → Act → World → Prop}
    (hfin : ∀ listed vals a w, RInv ops V R a0 w0 listed vals a w → (∀ j, j < ops.size → listed.getD j false = true) → Q .normal a w) :
    ∀ (fuel : Nat) (listed : Array Bool) (vals : Nat → Value) (a : Act) (w : World), RInv ops V R a0 w0 listed vals a w →
      ops.size ≤ fuel + (List.range ops.size).countP (fun i => listed.getD i false) → wpAny P .any ops Q fuel listed a w := by
  have done : ∀ (listed : Array Bool) (vals : Nat → Value) (a : Act) (w : World), RInv ops V R a0 w0 listed vals a w → Region.ready .any ops listed = [] → ∀ j, j < ops.size → listed.getD j false = true := by
    intro listed vals a w I hr j
    induction j using Nat.strongRecOn with
    | _ j ih =>
      intro hj
      cases hl : listed.getD j false with
      | true => rfl
      | false =>
        exfalso
        have ho : ops[j]? = some ops[j] := Array.getElem?_eq_getElem hj
        have hsp := orderOk_spec hok ho
        have hmem : j ∈ Region.ready .any ops listed := by
          rw [mem_ready]
          refine ⟨by rw [getD_true_false (by rw [I.lsize]; exact hj)]; exact hl, ops[j], ho, fun e he hb => ?_⟩
          have hk : e.on ∈ onList ops[j] := onList_mem.2 ⟨e, he, hb, rfl⟩
          have hlt := hsp.1 _ hk
          exact ih _ hlt (by omega)
        rw [hr] at hmem; cases hmem
  intro fuel
  induction fuel with
  | zero =>
    intro listed vals a w I hc
    have hall := all_of_count (l := listed) (n := ops.size) (by simpa using hc)
    refine ⟨?_, hfin _ _ _ _ I hall⟩
    cases hr : Region.ready .any ops listed with
    | nil => rfl
    | cons x xs =>
      exfalso
      have hx : x ∈ Region.ready .any ops listed := by rw [hr]; simp
      obtain ⟨h1, o, ho, _⟩ := mem_ready.1 hx
      have hxl := (Array.getElem?_eq_some_iff.1 ho).1
      rw [getD_true_false (by rw [I.lsize]; exact hxl), hall x hxl] at h1
      cases h1
  | succ fuel ih =>
    intro listed vals a w I hc
    refine ⟨fun hr => hfin _ _ _ _ I (done _ _ _ _ I hr), fun i hi => ?_⟩
    obtain ⟨h1, o, ho, haft⟩ := mem_ready.1 hi
    have hil := (Array.getElem?_eq_some_iff.1 ho).1
    rw [getD_true_false (by rw [I.lsize]; exact hil)] at h1
    have hsp := orderOk_spec hok ho
    have haft' : ∀ k ∈ onList o, listed.getD k false = true := by
      intro k hk
      obtain ⟨e, he, hb, rfl⟩ := onList_mem.1 hk
      exact haft e he hb
    -- what the operation looks at
    have hdeps : depsOk ops V a0 a w o (o.looksAt ops) := by
      refine depsOk_of fun t ht => ?_
      unfold depOk
      split
      · rename_i j hj
        have hjm := List.mem_of_find?_eq_some hj
        have hjd : dstOf ops j = some t := by simpa using List.find?_some hj
        have hjlt : j < ops.size := by have := hsp.1 j hjm; omega
        have hv := I.v j (haft' j hjm) hjlt
        have hg := I.f1 j t (haft' j hjm) hjd
        have : a.eval (.tmp t) = vals j := by simp [Act.eval, hg]
        rw [this]; exact hv
      · rename_i hj
        refine eval_of_get (I.f2 t fun j hjl hjd => ?_)
        have h3 := (hsp.2.2 j t hjd).2 ht
        rcases h3 with h3 | h3 | ⟨oj, hoj, h3⟩
        · have := List.find?_eq_none.1 hj j h3
          simp [hjd] at this
        · subst h3; rw [h1] at hjl; cases hjl
        · have := I.down j oj hjl hoj i h3
          rw [h1] at this; cases this
    obtain ⟨hrun, hskip⟩ := hop i o ho a w I.rel hdeps
    -- the state behind it
    have next : ∀ v w', R w w' → V i v w' → wpAny P .any ops Q fuel (listed.setIfInBounds i true) (a.put o.dst v) w' := by
      intro v w' hR hV
      have hsz : i < listed.size := by rw [I.lsize]; exact hil
      refine ih _ (fun j => if j = i then v else vals j) _ _ ⟨htrans _ _ _ I.rel hR, by rw [put_defers]; exact I.defers, by rw [put_size]; exact I.size, ?_, ?_, ?_, ?_, by simp [I.lsize]⟩ ?_
      · intro j d hj hd
        rcases getD_set_cases hj with e | hj'
        · subst e
          have hod : o.dst = some d := by simpa [dstOf, ho] using hd
          have hdn := hsp.2.1 d hod
          rw [hod, if_pos rfl]
          exact put_get_self (by rw [I.size]; exact hdn)
        · have hne : j ≠ i := fun e => by subst e; rw [h1] at hj'; cases hj'
          rw [if_neg hne]
          have hodn : o.dst ≠ some d := fun e => hne ((hsp.2.2 j d hd).1 e).symm
          rw [put_get_ne hodn]
          exact I.f1 j d hj' hd
      · intro t ht
        have hod : o.dst ≠ some t := by
          have := ht i (getD_set_self hsz)
          simpa [dstOf, ho] using this
        rw [put_get_ne hod]
        refine I.f2 t fun j hj => ht j ?_
        by_cases e : i = j
        · subst e; exact getD_set_self hsz
        · rw [getD_set_ne _ e]; exact hj
      · intro j hj hjl
        by_cases e : j = i
        · subst e; rw [if_pos rfl]; exact hV
        · rw [if_neg e]
          rcases getD_set_cases hj with e' | hj'
          · exact (e e').elim
          · exact hstab j hjl _ _ _ (I.v j hj' hjl) hR
      · intro j oj hj hoj k hk
        rcases getD_set_cases hj with e | hj'
        · subst e
          have : oj = o := by rw [ho] at hoj; exact (Option.some.inj hoj).symm
          subst this
          by_cases e : j = k
          · subst e; exact getD_set_self hsz
          · rw [getD_set_ne _ e]; exact haft' k hk
        · have := I.down j oj hj' hoj k hk
          by_cases e : i = k
          · subst e; exact getD_set_self hsz
          · rw [getD_set_ne _ e]; exact this
      · rw [count_set hsz h1, if_pos hil]; omega
    unfold wpOp
    simp only [ho]
    split
    · rename_i hw
      exact .inl (oper_wp_noExit (hrun hw _ next))
    · rename_i hw
      have hw' : Region.wanted o (yielded ops a.tmps) = false := by simpa using hw
      exact next undef w (hrefl w) (hskip hw')

/-- putting in lexical order -/
def putAll : List Oper → (Nat → Value) → Nat → Act → Act
  | [], _, _, a => a
  | o :: os, vals, k, a => putAll os vals (k + 1) (a.put o.dst (vals k))

theorem putAll_size : ∀ (l : List Oper) (vals : Nat → Value) (k : Nat) (a : Act), (putAll l vals k a).tmps.size = a.tmps.size
  | [], _, _, _ => rfl
  | o :: os, vals, k, a => by rw [putAll, putAll_size, put_size]
theorem putAll_defers : ∀ (l : List Oper) (vals : Nat → Value) (k : Nat) (a : Act), (putAll l vals k a).defers = a.defers
  | [], _, _, _ => rfl
  | o :: os, vals, k, a => by rw [putAll, putAll_defers, put_defers]
theorem putAll_other {t : Tmp} : ∀ (l : List Oper) (vals : Nat → Value) (k : Nat) (a : Act), (∀ o ∈ l, o.dst ≠ some t) → (putAll l vals k a).tmps[t]? = a.tmps[t]?
  | [], _, _, _, _ => rfl
  | o :: os, vals, k, a, h => by rw [putAll, putAll_other os _ _ _ fun x hx => h x (by simp [hx]), put_get_ne (h o (by simp))]
theorem putAll_at {t : Tmp} : ∀ (l : List Oper) (vals : Nat → Value) (k : Nat) (a : Act) (j : Nat) (o : Oper), l[j]? = some o → o.dst = some t → t < a.tmps.size →
    (∀ (i : Nat) (x : Oper), l[i]? = some x → x.dst = some t → i = j) → (putAll l vals k a).tmps[t]? = some (vals (k + j))
  | [], _, _, _, j, o, h, _, _, _ => by simp at h
  | x :: os, vals, k, a, 0, o, h, hd, ht, hu => by
    simp at h; subst h
    rw [putAll, putAll_other os _ _ _ (fun y hy => ?_), hd, put_get_self ht, Nat.add_zero]
    intro e
    obtain ⟨i, hi, hi'⟩ := List.mem_iff_getElem.1 hy
    have := hu (i + 1) y (by simp [List.getElem?_eq_getElem hi, hi']) e
    omega
  | x :: os, vals, k, a, j + 1, o, h, hd, ht, hu => by
    rw [putAll, putAll_at os vals (k + 1) _ j o (by simpa using h) hd (by rw [put_size]; exact ht) (fun i y hi hy => by
      have := hu (i + 1) y (by simpa using hi) hy; omega)]
    congr 2; omega

theorem finish_apply {K : Act → World → Prop} {w : World} : ∀ {l : List Oper} {Vs : List (Value → World → Prop)} {a : Act} (vals : Nat → Value) (k : Nat), finish K l Vs a w → l.length = Vs.length →
    (∀ (i : Nat) (V : Value → World → Prop), Vs[i]? = some V → V (vals (k + i)) w) → K (putAll l vals k a) w
  | [], [], a, vals, k, h, _, _ => h
  | [], _ :: _, _, _, _, _, hl, _ => by simp at hl
  | _ :: _, [], _, _, _, _, hl, _ => by simp at hl
  | o :: os, V :: Vs, a, vals, k, h, hl, hv => by
    rw [putAll]
    exact finish_apply vals (k + 1) (h _ (hv 0 V rfl)) (by simpa using hl) fun i V' hV' => by
      have := hv (i + 1) V' (by simpa using hV')
      rwa [show k + (i + 1) = k + 1 + i by omega] at this

/-- A REGION THAT DRAWS ITS ORDER, OPERATION BY OPERATION. -/
theorem wp_region_each {id : Nat} {l : List Oper} {Q : Exit → Act → World → Prop} (R : World → World → Prop) (Vs : List (Value → World → Prop))
    (hm : P.follows .mixedOrders = true) (hok : orderOk l.toArray a0.tmps.size = true) (hlen : l.length = Vs.length)
    (hrefl : ∀ a, R a a) (htrans : ∀ a b c, R a b → R b c → R a c) (hdraw : R w0 { w0 with drawn := w0.drawn + 1 })
    (hstab : ∀ V ∈ Vs, ∀ v w w', V v w → R w w' → V v w')
    (hops : eachOk P l.toArray (fun j => Vs.getD j fun _ _ => False) R a0 w0 l Vs)
    (hfin : ∀ w, R w0 w → finish (Q .normal) l Vs a0 w) : (Code.region id l.toArray true).wp P Q a0 w0 := by
  refine wp_region_any hm (any_of_each (V := fun j => Vs.getD j fun _ _ => False) (R := R) (w0 := w0) hrefl htrans hok (fun j hj v w w' hv hR => ?_) (fun i o hi => ?_) (fun listed vals a w I hall => ?_) _ _ (fun _ => undef) _ _ ?_ ?_)
  · have hj' : j < Vs.length := by simpa [hlen] using hj
    have e : Vs.getD j (fun _ _ => False) = Vs[j] := by simp [List.getD_eq_getElem?_getD, List.getElem?_eq_getElem hj']
    rw [e] at hv ⊢
    exact hstab _ (List.getElem_mem hj') v w w' hv hR
  · obtain ⟨Vi, h1, h2⟩ := eachOk_get hops hlen i o (by simpa using hi)
    have e : Vs.getD i (fun _ _ => False) = Vi := by simp [List.getD_eq_getElem?_getD, h1]
    rw [e]; exact h2
  · have hK := finish_apply vals 0 (hfin w I.rel) hlen (fun i V hV => by
      have hi : i < l.length := by rw [hlen]; exact (List.getElem?_eq_some_iff.1 hV).1
      have := I.v i (hall i (by simpa using hi)) (by simpa using hi)
      rw [List.getD_eq_getElem?_getD, hV] at this
      rw [Nat.zero_add]; simpa using this)
    have ea : a = putAll l vals 0 a0 := by
      have hd : a.defers = (putAll l vals 0 a0).defers := by rw [putAll_defers]; exact I.defers
      have ht : a.tmps = (putAll l vals 0 a0).tmps := by
        refine Array.ext (by rw [putAll_size]; exact I.size) fun t h1 h2 => ?_
        have goal : a.tmps[t]? = (putAll l vals 0 a0).tmps[t]? := by
          by_cases hw : ∃ (j : Nat) (o : Oper), l[j]? = some o ∧ o.dst = some t
          · obtain ⟨j, o, hj, ho⟩ := hw
            have hjl : j < l.length := (List.getElem?_eq_some_iff.1 hj).1
            rw [putAll_at l vals 0 a0 j o hj ho (by rw [← I.size]; exact h1) (fun i x hi hx => ?_), Nat.zero_add]
            · exact I.f1 j t (hall j (by simpa using hjl)) (by simp [dstOf, hj, ho])
            · exact ((orderOk_spec hok (i := i) (o := x) (by simpa using hi)).2.2 j t (by simp [dstOf, hj, ho])).1 hx
          · rw [putAll_other l vals 0 a0 (fun o ho e => ?_)]
            · refine I.f2 t fun j _ hjd => hw ?_
              cases hj : l[j]? with
              | none => simp [dstOf, hj] at hjd
              | some o => exact ⟨j, o, hj, by simpa [dstOf, hj] using hjd⟩
            · obtain ⟨j, hj, hj'⟩ := List.mem_iff_getElem.1 ho
              exact hw ⟨j, o, by simp [List.getElem?_eq_getElem hj, hj'], e⟩
        rw [Array.getElem?_eq_getElem h1, Array.getElem?_eq_getElem h2] at goal
        exact Option.some.inj goal
      cases a; simp only at hd ht; rw [hd, ht]
    rw [ea]; exact hK
  · refine ⟨hdraw, rfl, rfl, fun j d hj => ?_, fun _ _ => rfl, fun j hj => ?_, fun j o hj => ?_, by simp⟩
    all_goals
      exfalso
      rw [Array.getD_eq_getD_getElem?, Array.getElem?_replicate] at hj
      split at hj <;> simp at hj
  · exact Nat.le_add_right _ _
end

/-! ### one operation of such a region -/
section
variable {P : Program} {ops : Array Oper} {V : Nat → Value → World → Prop} {R : World → World → Prop} {a0 : Act} {w0 : World} {Vi : Value → World → Prop}

/-- no guard, a slot is written. -/
theorem opOk_plain {op : Op} {d : Tmp} {ty : TypeId} {pos : String} {after : Array Edge}
    (h : ∀ A w, R w0 w → depsOk ops V a0 A w ⟨some d, op, ty, pos, after, none⟩ (Oper.looksAt ops ⟨some d, op, ty, pos, after, none⟩) → ∀ K : Act → World → Prop,
      (∀ v w', R w w' → Vi v w' → K { tmps := A.tmps.setIfInBounds d v, defers := A.defers } w') → Oper.wp P ⟨some d, op, ty, pos, after, none⟩ A w K NoExit) :
    opOk P ops V R a0 w0 ⟨some d, op, ty, pos, after, none⟩ Vi :=
  fun A w hR hd => ⟨fun _ K hK => h A w hR hd K hK, fun hw => by cases hw⟩

/-- no guard, no slot. -/
theorem opOk_plain0 {op : Op} {ty : TypeId} {pos : String} {after : Array Edge}
    (h : ∀ A w, R w0 w → depsOk ops V a0 A w ⟨none, op, ty, pos, after, none⟩ (Oper.looksAt ops ⟨none, op, ty, pos, after, none⟩) → ∀ K : Act → World → Prop,
      (∀ v w', R w w' → Vi v w' → K A w') → Oper.wp P ⟨none, op, ty, pos, after, none⟩ A w K NoExit) :
    opOk P ops V R a0 w0 ⟨none, op, ty, pos, after, none⟩ Vi :=
  fun A w hR hd => ⟨fun _ K hK => h A w hR hd K hK, fun hw => by cases hw⟩

/-- a guard: the guarding slot is t; what it holds is a Bool b that is known. -/
theorem opOk_guard {op : Op} {d : Tmp} {ty : TypeId} {pos : String} {after : Array Edge} {g : Nat} {want : Bool} {t : Tmp} (b : Bool) (ht : dstOf ops g = some t)
    (hb : ∀ A w, R w0 w → depsOk ops V a0 A w ⟨some d, op, ty, pos, after, some (g, want)⟩ (Oper.looksAt ops ⟨some d, op, ty, pos, after, some (g, want)⟩) → A.tmps.getD t undef = .bool b)
    (h : b = want → ∀ A w, R w0 w → depsOk ops V a0 A w ⟨some d, op, ty, pos, after, some (g, want)⟩ (Oper.looksAt ops ⟨some d, op, ty, pos, after, some (g, want)⟩) → ∀ K : Act → World → Prop,
      (∀ v w', R w w' → Vi v w' → K { tmps := A.tmps.setIfInBounds d v, defers := A.defers } w') → Oper.wp P ⟨some d, op, ty, pos, after, some (g, want)⟩ A w K NoExit)
    (hn : b ≠ want → ∀ w, R w0 w → Vi undef w) :
    opOk P ops V R a0 w0 ⟨some d, op, ty, pos, after, some (g, want)⟩ Vi := fun A w hR hd => by
  have hy : yielded ops A.tmps g = some b := by
    have h1 := hb A w hR hd
    have ht' : (ops[g]?).bind (·.dst) = some t := ht
    unfold yielded
    simp only [ht']
    rw [Array.getD_eq_getD_getElem?] at h1
    cases hx : A.tmps[t]? with
    | none => rw [hx] at h1; simp [undef] at h1
    | some x => rw [hx] at h1; simp only [Option.getD_some] at h1; subst h1; simp [hx]
  refine ⟨fun hw K hK => h ?_ A w hR hd K hK, fun hw => hn ?_ w hR⟩
  · simpa [Region.wanted, hy] using hw
  · intro e
    simp [Region.wanted, hy, e] at hw
end

/-! ### worlds -/

/-- all that was there is as it was. -/
def Grows (a b : World) : Prop := Below a.heap.size a b
theorem Grows.refl (a : World) : Grows a a := Below.refl _ _
theorem Grows.trans (a b c : World) (h : Grows a b) (k : Grows b c) : Grows a c := Below.trans h (Below.mono k h.size)
theorem Grows.drew (a : World) : Grows a { a with drawn := a.drawn + 1 } := ⟨rfl, rfl, rfl, Nat.le_refl _, fun _ _ => rfl⟩
theorem Grows.drewN (a : World) (n : Nat) : Grows a (a.drewN n) := ⟨rfl, rfl, rfl, Nat.le_refl _, fun _ _ => rfl⟩
theorem Grows.of_drewN {a b : World} (h : ∃ n, b = a.drewN n) : Grows a b := by obtain ⟨n, rfl⟩ := h; exact Grows.drewN a n
theorem Grows.cell {a b : World} (h : Grows a b) {p : Addr} {v : Value} (hp : a.cell? p = some v) : b.cell? p = some v :=
  (Below.cell h (World.block_lt_of_cell? a p hp)).trans hp
theorem Grows.alloc (a : World) (o : Obj) : Grows a (a.alloc o) := (Below.refl _ _).alloc (Nat.le_refl _) o
theorem Grows.alloc' {a b : World} (h : Grows a b) (o : Obj) : Grows a (b.alloc o) := Grows.trans _ _ _ h (Grows.alloc b o)
theorem Grows.setCell' {a b : World} (h : Grows a b) {p : Addr} (hp : a.heap.size ≤ p.block) (u : Value) : Grows a (b.setCell p u) := Below.setCell h hp u
theorem Grows.drew' {a b : World} (h : Grows a b) : Grows a b.drew := Below.drew h
theorem Grows.size {a b : World} (h : Grows a b) : a.heap.size ≤ b.heap.size := Below.size h
theorem Grows.below {a b : World} (h : Grows a b) : Below a.heap.size a b := h
theorem Below.then_ {B : Nat} {a b c : World} (h : Below B a b) (hB : B ≤ b.heap.size) (k : Grows b c) : Below B a c := Below.trans h (Below.mono k hB)

/-- block g holds just the cells cs of type t. -/
def Blk (w : World) (g : Nat) (t : TypeId) (cs : Array Value) : Prop := w.heap[g]? = some (.cells cs t (0, 0))
section
variable {w w' : World} {g : Nat} {t : TypeId} {cs : Array Value}
theorem Blk.lt (h : Blk w g t cs) : g < w.heap.size := by
  rcases Nat.lt_or_ge g w.heap.size with hlt | hge
  · exact hlt
  · unfold Blk at h; rw [Array.getElem?_eq_none hge] at h; cases h
theorem Blk.cell (h : Blk w g t cs) (i : Nat) : w.cell? ⟨g, i, none⟩ = cs[i]? := cell_of_row w g i cs t (0, 0) h
theorem Blk.frozen (h : Blk w g t cs) (i : Nat) : w.frozen? ⟨g, i, none⟩ = false := by
  unfold Blk at h
  simp [World.frozen?, h]
theorem Blk.new (w : World) (t : TypeId) (cs : Array Value) : Blk (w.alloc (.cells cs t)) w.heap.size t cs := heap_alloc_new w _
theorem Blk.drew (h : Blk w g t cs) : Blk w.drew g t cs := h
theorem Blk.alloc (h : Blk w g t cs) (o : Obj) : Blk (w.alloc o) g t cs := (Below.heap_alloc w o g h.lt).trans h
theorem Blk.set_ (h : Blk w g t cs) (i : Nat) (u : Value) : Blk (w.setCell ⟨g, i, none⟩ u) g t (cs.setIfInBounds i u) := by
  unfold Blk at h ⊢
  simp [World.setCell, Array.getElem?_modify, h]
theorem Blk.far (h : Blk w g t cs) {p : Addr} (hp : g ≠ p.block) (u : Value) : Blk (w.setCell p u) g t cs := (Below.heap_setCell w p u g hp).trans h
theorem Blk.grows (h : Blk w g t cs) (hb : Grows w w') : Blk w' g t cs := (Below.block hb g h.lt).trans h
theorem Blk.below {B : Nat} (h : Blk w g t cs) (hb : Below B w w') (hg : g < B) : Blk w' g t cs := (hb.block g hg).trans h
theorem Blk.grown {row : Option Nat} (h : Blk w g t cs) (hb : w.grownBy w' row) (hg : some g ≠ row) : Blk w' g t cs := (hb.block g h.lt hg).trans h
theorem Blk.inj {cs' : Array Value} {t' : TypeId} (h : Blk w g t cs) (h' : Blk w g t' cs') : t = t' ∧ cs = cs' := by
  unfold Blk at h h'
  rw [h] at h'
  injection h' with h'
  injection h' with h1 h2
  exact ⟨h2, h1⟩
theorem Blk.ne_ {g' : Nat} {t' : TypeId} {cs' : Array Value} (h : Blk w g t cs) (h' : Blk w g' t' cs') (hne : t ≠ t') : g ≠ g' := by
  rintro rfl
  exact hne (h.inj h').1
end

/-- all but the blocks in S is as it was. -/
structure Upd (S : Nat → Prop) (w w' : World) : Prop where
  os : w'.os = w.os
  tape : w'.tape = w.tape
  output : w'.output = w.output
  size : w.heap.size ≤ w'.heap.size
  block : ∀ k, k < w.heap.size → ¬ S k → w'.heap[k]? = w.heap[k]?
section
variable {S S' : Nat → Prop} {w w' w'' : World}
theorem Upd.refl (S : Nat → Prop) (w : World) : Upd S w w := ⟨rfl, rfl, rfl, Nat.le_refl _, fun _ _ _ => rfl⟩
theorem Upd.trans (h : Upd S w w') (k : Upd S w' w'') : Upd S w w'' :=
  ⟨k.os.trans h.os, k.tape.trans h.tape, k.output.trans h.output, Nat.le_trans h.size k.size, fun i hi hs => (k.block i (Nat.lt_of_lt_of_le hi h.size) hs).trans (h.block i hi hs)⟩
theorem Upd.mono (h : Upd S w w') (hS : ∀ k, k < w.heap.size → S k → S' k) : Upd S' w w' := ⟨h.os, h.tape, h.output, h.size, fun k hk hs => h.block k hk fun hs' => hs (hS k hk hs')⟩
theorem Upd.of_grows (h : Grows w w') : Upd S w w' := ⟨Below.os h, Below.tape h, Below.output h, Below.size h, fun k hk _ => Below.block h k hk⟩
theorem Upd.of_grown {row : Option Nat} (h : w.grownBy w' row) (hr : ∀ k, row = some k → k < w.heap.size → S k) : Upd S w w' :=
  ⟨h.os, h.tape, h.output, h.size, fun k hk hs => h.block k hk fun e => hs (hr k e.symm hk)⟩
theorem Upd.setCell (w : World) {p : Addr} (hp : p.block < w.heap.size → S p.block) (u : Value) : Upd S w (w.setCell p u) :=
  ⟨rfl, rfl, rfl, by simp [World.setCell], fun k hk hs => Below.heap_setCell w p u k fun e => by subst e; exact hs (hp hk)⟩
theorem Upd.set (h : Upd S w w') {p : Addr} (hp : S p.block) (u : Value) : Upd S w (w'.setCell p u) := h.trans (Upd.setCell _ (fun _ => hp) u)
theorem Upd.alloc (h : Upd S w w') (o : Obj) : Upd S w (w'.alloc o) := h.trans (Upd.of_grows (Grows.alloc _ _))
theorem Upd.drew (h : Upd S w w') : Upd S w w'.drew := h.trans (Upd.of_grows (Grows.drew _))
theorem Upd.drewN (h : Upd S w w') (n : Nat) : Upd S w (w'.drewN n) := h.trans (Upd.of_grows (Grows.drewN _ _))
theorem Upd.then_ (h : Upd S w w') (k : Grows w' w'') : Upd S w w'' := h.trans (Upd.of_grows k)
theorem Upd.grows (h : Upd S w w') (hS : ∀ k, k < w.heap.size → ¬ S k) : Grows w w' := ⟨h.os, h.tape, h.output, h.size, fun k hk => h.block k hk (hS k hk)⟩
theorem Upd.below {B : Nat} (h : Upd S w w') (hB : B ≤ w.heap.size) (hS : ∀ k, k < B → ¬ S k) : Below B w w' := ⟨h.os, h.tape, h.output, h.size, fun k hk => h.block k (Nat.lt_of_lt_of_le hk hB) (hS k hk)⟩
theorem Blk.upd {g : Nat} {t : TypeId} {cs : Array Value} (h : Blk w g t cs) (hu : Upd S w w') (hg : ¬ S g) : Blk w' g t cs := (hu.block g h.lt hg).trans h
theorem Upd.cell (hu : Upd S w w') {p : Addr} {v : Value} (hp : w.cell? p = some v) (hg : ¬ S p.block) : w'.cell? p = some v :=
  (World.cell?_of_block (w := w) (hu.block p.block (World.block_lt_of_cell? w p hp) hg)).trans hp
end

/-! ### what a slot holds -/
/-- a known value. -/
def Is (c : Value) (v : Value) (_ : World) : Prop := v = c
/-- a new slice of just these cells. -/
def NewRow (n : Nat) (T : TypeId) (cs : Array Value) (v : Value) (w : World) : Prop := ∃ b, v = .slice (some ⟨b, 0, none⟩) n n ∧ Blk w b T cs
/-- an address that holds x. -/
def At (x : Value) (v : Value) (w : World) : Prop := ∃ ad, v = .pointer (some ad) ∧ w.cell? ad = some x
/-- a new box. -/
def Boxed (T : TypeId) (cs : Array Value) (v : Value) (w : World) : Prop := ∃ b, v = .pointer (some ⟨b, 0, none⟩) ∧ Blk w b T cs
/-- whatever. -/
def Any (_ : Value) (_ : World) : Prop := True

def Stable (R : World → World → Prop) (V : Value → World → Prop) : Prop := ∀ v w w', V v w → R w w' → V v w'
theorem Stable.is (R : World → World → Prop) (c : Value) : Stable R (Is c) := fun _ _ _ h _ => h
theorem Stable.any (R : World → World → Prop) : Stable R Any := fun _ _ _ h _ => h
theorem Stable.newRow {n : Nat} {T : TypeId} {cs : Array Value} : Stable Grows (NewRow n T cs) := fun _ _ _ ⟨b, h, h'⟩ hg => ⟨b, h, h'.grows hg⟩
theorem Stable.at_ {x : Value} : Stable Grows (At x) := fun _ _ _ ⟨b, h, h'⟩ hg => ⟨b, h, hg.cell h'⟩
theorem Stable.boxed {T : TypeId} {cs : Array Value} : Stable Grows (Boxed T cs) := fun _ _ _ ⟨b, h, h'⟩ hg => ⟨b, h, h'.grows hg⟩
def AllStable (R : World → World → Prop) : List (Value → World → Prop) → Prop
  | [] => True
  | V :: Vs => Stable R V ∧ AllStable R Vs
theorem AllStable.get {R : World → World → Prop} : ∀ {Vs : List (Value → World → Prop)}, AllStable R Vs → ∀ V ∈ Vs, ∀ v w w', V v w → R w w' → V v w'
  | [], _, V, h => by cases h
  | V :: Vs, h, W, hW => by
    rcases List.mem_cons.1 hW with e | e
    · subst e; exact h.1
    · exact AllStable.get h.2 W e

/-- a region that draws, all that was there kept. -/
theorem wp_region_grows {P : Program} {a0 : Act} {w0 : World} {id : Nat} {l : List Oper} {Q : Exit → Act → World → Prop} (Vs : List (Value → World → Prop))
    (hm : P.follows .mixedOrders = true) (hok : orderOk l.toArray a0.tmps.size = true) (hlen : l.length = Vs.length)
    (hops : eachOk P l.toArray (fun j => Vs.getD j fun _ _ => False) Grows a0 w0 l Vs) (hstab : AllStable Grows Vs)
    (hfin : ∀ w, Grows w0 w → finish (Q .normal) l Vs a0 w) : (Code.region id l.toArray true).wp P Q a0 w0 :=
  wp_region_each Grows Vs hm hok hlen Grows.refl Grows.trans (Grows.drew _) hstab.get hops hfin

/-! ### numbers -/
def within (v n : Int) : Int := if n < 1 then 0 else if v.tmod n < 0 then v.tmod n + n else v.tmod n

theorem within_pos (v n : Int) (h : 0 < n) : within v n = v % n := by
  unfold within
  rw [if_neg (by omega)]
  have h1 := Int.emod_nonneg v (by omega : n ≠ 0)
  have h2 := Int.emod_lt_of_pos v h
  rw [Int.tmod_eq_emod]
  by_cases h0 : 0 ≤ v ∨ n ∣ v
  · rw [if_pos h0]
    simp
    intro h3; omega
  · rw [if_neg h0]
    rw [if_pos (by omega)]; omega

theorem within_lt (v n : Int) (h : 0 < n) : 0 ≤ within v n ∧ within v n < n := by
  rw [within_pos v n h]
  exact ⟨Int.emod_nonneg v (by omega), Int.emod_lt_of_pos v h⟩

theorem ret_int {k : IntKind} {a b : Int} (h : a = b) : Ending.returned (.int k a) = .returned (.int k b) := by rw [h]
theorem ret_bool {a b : Bool} (h : a = b) : Ending.returned (.bool a) = .returned (.bool b) := by rw [h]

/-! ### slices that are read -/
/-- the first of those that q likes; -1: none. -/
def oi : Option Nat → Int
  | some i => i
  | none => -1

/-- a slice value that reads as these cells, one an element. -/
def Rd1 (w : World) (A : Option Addr) (n : Nat) (xs : List Value) : Prop := xs.length = n ∧ (0 < n → ∃ b o, A = some ⟨b, o, none⟩ ∧ ∀ i (hi : i < xs.length), w.cell? ⟨b, o + i, none⟩ = some xs[i])
theorem Rd1.grows {w w' : World} {A : Option Addr} {n : Nat} {xs : List Value} (h : Rd1 w A n xs) (hg : Grows w w') : Rd1 w' A n xs :=
  ⟨h.1, fun hn => by obtain ⟨b, o, ha, hc⟩ := h.2 hn; exact ⟨b, o, ha, fun i hi => hg.cell (hc i hi)⟩⟩

theorem findIdx?_hit {α : Type} (q : α → Bool) {l : List α} {k : Nat} (hk : k < l.length) (hlt : ∀ j (hj : j < l.length), j < k → q l[j] = false) (hq : q l[k] = true) : l.findIdx? q = some k := by
  rw [List.findIdx?_eq_some_iff_getElem]
  exact ⟨hk, hq, fun j hj => by simp [hlt j (by omega) hj]⟩
theorem findIdx?_miss {α : Type} (q : α → Bool) {l : List α} (h : ∀ j (hj : j < l.length), q l[j] = false) : l.findIdx? q = none := by
  rw [List.findIdx?_eq_none_iff]
  intro x hx
  obtain ⟨j, hj, rfl⟩ := List.mem_iff_getElem.1 hx
  exact h j hj

theorem Rd1.of_own {w : World} {base e c n : Nat} {A : Option Addr} {xs : List Value} (h : w.ownsRow base e 1 (.slice A n c) n xs) : Rd1 w A n xs := by
  refine ⟨by have := h.1; omega, fun hn => ?_⟩
  obtain ⟨g, cap, hv, _, hlt⟩ := h.form hn
  have hA : A = some ⟨g, 0, none⟩ := by injection hv
  subst hA
  refine ⟨g, 0, rfl, fun i hi => ?_⟩
  have := h.cells (g := g) rfl i xs[i] (List.getElem?_eq_getElem hi)
  rw [Nat.zero_add]
  simpa [Addr.add_lit] using this

/-- an owned value is a slice of n elements. -/
theorem own_form {w : World} {base e size n : Nat} {v : Value} {xs : List Value} (h : w.ownsRow base e size v n xs) : ∃ A c, v = .slice A n c := by
  rcases h.2 with ⟨rfl, rfl⟩ | ⟨g, cap, cur, rfl, _⟩
  · exact ⟨_, _, rfl⟩
  · exact ⟨_, _, rfl⟩

theorem own_blk_ne {w : World} {base : Nat} {e t g : Nat} {cs : Array Value} {size n : Nat} {v : Value} {xs : List Value} (h : w.ownsRow base e size v n xs) (hg : Blk w g t cs) (hne : e ≠ t) : v.ownBlock ≠ some g := by
  rcases h.2 with ⟨rfl, _⟩ | ⟨g', cap, cur, rfl, _, hh, _⟩
  · simp [Value.ownBlock]
  · intro he
    have : g' = g := by simpa [Value.ownBlock] using he
    subst this
    exact Blk.ne_ (t := e) hh hg hne rfl
theorem own_upd {w w' : World} {S : Nat → Prop} {base e size n : Nat} {v : Value} {xs : List Value} (h : w.ownsRow base e size v n xs) (hu : Upd S w w') (hS : ∀ k, v.ownBlock = some k → ¬ S k) : w'.ownsRow base e size v n xs := by
  refine ⟨h.1, ?_⟩
  rcases h.2 with hn | ⟨g, cap, cur, rfl, hb, hgg, rest⟩
  · exact .inl hn
  · refine .inr ⟨g, cap, cur, rfl, hb, ?_, rest⟩
    rw [hu.block g (Array.getElem?_eq_some_iff.1 hgg).1 (hS g rfl)]
    exact hgg
theorem own_grows {w w' : World} {base e size n : Nat} {v : Value} {xs : List Value} (h : w.ownsRow base e size v n xs) (hg : Grows w w') : w'.ownsRow base e size v n xs :=
  own_upd (S := fun _ => False) h (Upd.of_grows hg) (fun _ _ h => h)
theorem own_mono {w : World} {base base' e size n : Nat} {v : Value} {xs : List Value} (h : w.ownsRow base e size v n xs) (hb : base' ≤ base) : w.ownsRow base' e size v n xs := by
  refine ⟨h.1, ?_⟩
  rcases h.2 with hn | ⟨g, cap, cur, hv, hg, r⟩
  · exact .inl hn
  · exact .inr ⟨g, cap, cur, hv, by omega, r⟩
/-- cells of a new one-cell block, as what is appended. -/
theorem news_one {w : World} {t : TypeId} {u : Value} : ∀ j x, [u][j]? = some x → (w.alloc (.cells #[u] t)).cell? ((⟨w.heap.size, 0, none⟩ : Addr).add j) = some x :=
  World.news_of_block (heap_alloc_new w _)

/-- a call of a function with a body enters it. -/
theorem enters_of' {P : Program} {f : FuncId} {fn : Func} {c : Code} (hf : P.funcs[f]? = some fn) (hname : (fn.name == "runtime.NumGoroutine") = false) (hb : fn.body = some c) : ∀ (args : Array Value) (w : World),
    (callFunc f args).run P w = .ok (.enter f args) w := by
  intro args w
  have h1 : fn.name ≠ "runtime.NumGoroutine" := by simpa using hname
  simp [callFunc, hf, h1, hb, mark]

end Go.Proofs.Ytkogmpeodamdgaa
