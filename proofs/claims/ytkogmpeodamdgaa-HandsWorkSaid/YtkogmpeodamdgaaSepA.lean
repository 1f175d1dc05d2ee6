/-
  SEP: what a list of parts says of a world: each part owns blocks of its own, or shares blocks that nobody writes into. Plain theorems; own text.
-/
import Derived.Orders
import Derived.Below
import Derived.Tactics
import Derived.Deep.Draws
import Derived.Deep.Quiet
import Derived.Laws.Rows
import Derived.Lib.Hide
import Derived.Maps.AppendAt
import Derived.ArgAppend
namespace Go.Proofs.Ytkogmpeodamdgaa
open Go Go.RowKit

/-- some blocks: each owned (true) or shared (false), and what it holds. -/
abbrev PH := Nat → Option (Bool × Obj)
abbrev SP := PH → Prop
def HLe (h k : PH) : Prop := ∀ b x, h b = some x → k b = some x
def Comp (h k : PH) : Prop := ∀ b x y, h b = some x → k b = some y → x = y ∧ x.1 = false
def join (h k : PH) : PH := fun b => (h b).or (k b)
def Holds (h : PH) (w : World) : Prop := ∀ b x, h b = some x → w.heap[b]? = some x.2
theorem Comp.none (h : PH) : Comp (fun _ => none) h := fun _ _ _ e _ => nomatch e
theorem HLe.none (h : PH) : HLe (fun _ => none) h := fun _ _ e => nomatch e
theorem HLe.refl (h : PH) : HLe h h := fun _ _ e => e
theorem HLe.trans {a b c : PH} (h : HLe a b) (k : HLe b c) : HLe a c := fun i x e => k i x (h i x e)
theorem HLe.joinl (h k : PH) : HLe h (join h k) := fun b x e => by simp [join, e]
theorem HLe.joinr {h k : PH} (c : Comp h k) : HLe k (join h k) := fun b x e => by
  cases hb : h b with
  | none => simp [join, hb, e]
  | some y => simp [join, hb, (c b y x hb e).1]
theorem join_le {h k m : PH} (a : HLe h m) (b : HLe k m) : HLe (join h k) m := fun i x e => by
  unfold join at e
  cases hi : h i with
  | none => rw [hi] at e; exact b i x (by simpa using e)
  | some y => rw [hi] at e; simp at e; subst e; exact a i y hi
theorem Comp.symm {h k : PH} (c : Comp h k) : Comp k h := fun b x y e f => by
  obtain ⟨e1, e2⟩ := c b y x f e
  subst e1; exact ⟨rfl, e2⟩
theorem Comp.le {h k h' k' : PH} (c : Comp h k) (a : HLe h' h) (b : HLe k' k) : Comp h' k' := fun i x y e f => c i x y (a i x e) (b i y f)
theorem Comp.join {h k m : PH} (a : Comp h k) (b : Comp h m) : Comp h (join k m) := fun i x y e f => by
  unfold Go.Proofs.Ytkogmpeodamdgaa.join at f
  cases hi : k i with
  | none => rw [hi] at f; exact b i x y e (by simpa using f)
  | some z => rw [hi] at f; simp at f; subst f; exact a i x z e hi
theorem Holds.le {h k : PH} {w : World} (a : Holds k w) (b : HLe h k) : Holds h w := fun i x e => a i x (b i x e)
theorem Holds.join {h k : PH} {w : World} (a : Holds h w) (b : Holds k w) : Holds (join h k) w := fun i x e => by
  unfold Go.Proofs.Ytkogmpeodamdgaa.join at e
  cases hi : h i with
  | none => rw [hi] at e; exact b i x (by simpa using e)
  | some y => rw [hi] at e; simp at e; subst e; exact a i y hi
theorem Holds.lt {h : PH} {w : World} (a : Holds h w) {b : Nat} {x : Bool × Obj} (e : h b = some x) : b < w.heap.size := by
  rcases Nat.lt_or_ge b w.heap.size with hlt | hge
  · exact hlt
  · have := a b x e; rw [Array.getElem?_eq_none hge] at this; cases this

/-- parts beside each other. -/
def sl : List SP → SP
  | [] => fun _ => True
  | A :: l => fun h => ∃ x y, Comp x y ∧ HLe x h ∧ HLe y h ∧ A x ∧ sl l y
/-- one list of parts says another. -/
def Ent (A B : List SP) : Prop := ∀ h, sl A h → sl B h
def exs {α : Type} (A : α → SP) : SP := fun h => ∃ x, A x h
def pure_ (p : Prop) : SP := fun _ => p

theorem sl_up : ∀ {l : List SP} {h k : PH}, sl l h → HLe h k → sl l k
  | [], _, _, _, _ => trivial
  | _ :: _, _, _, ⟨x, y, c, a, b, p, q⟩, hk => ⟨x, y, c, a.trans hk, b.trans hk, p, q⟩
theorem Ent.refl (A : List SP) : Ent A A := fun _ h => h
theorem Ent.trans {A B C : List SP} (h : Ent A B) (k : Ent B C) : Ent A C := fun i x => k i (h i x)
theorem Ent.nil (A : List SP) : Ent A [] := fun _ _ => trivial
theorem Ent.cons {A : SP} {l m : List SP} (h : Ent l m) : Ent (A :: l) (A :: m) := fun _ ⟨x, y, c, a, b, p, q⟩ => ⟨x, y, c, a, b, p, h _ q⟩
theorem Ent.swap {A B : SP} {l : List SP} : Ent (A :: B :: l) (B :: A :: l) := by
  rintro h ⟨x, y, c, hx, hy, p, z, u, c', hz, hu, q, r⟩
  refine ⟨z, join x u, ?_, hz.trans hy, join_le hx (hu.trans hy), q, x, u, ?_, HLe.joinl _ _, HLe.joinr ?_, p, r⟩
  · exact Comp.join (Comp.symm (c.le (HLe.refl _) hz)) c'
  · exact c.le (HLe.refl _) hu
  · exact c.le (HLe.refl _) hu
theorem Ent.perm {A B : List SP} (h : List.Perm A B) : Ent A B := by
  induction h with
  | nil => exact Ent.refl _
  | cons x _ ih => exact Ent.cons ih
  | swap x y l => exact Ent.swap
  | trans _ _ a b => exact a.trans b
theorem Ent.drop {A : SP} {l : List SP} : Ent (A :: l) l := fun _ ⟨_, _, _, _, b, _, q⟩ => sl_up q b
theorem Ent.ex {α : Type} {A : α → SP} (x : α) {l : List SP} : Ent (A x :: l) (exs A :: l) := fun _ ⟨h, y, c, a, b, p, q⟩ => ⟨h, y, c, a, b, ⟨x, p⟩, q⟩
theorem Ent.pure {p : Prop} (hp : p) {l : List SP} : Ent l (pure_ p :: l) := fun h q => ⟨fun _ => none, h, Comp.none h, HLe.none h, HLe.refl _, hp, q⟩
/-- parts, folded to one. -/
theorem Ent.fold : ∀ (a : List SP) {l : List SP}, Ent (a ++ l) (sl a :: l)
  | [], l => fun h q => ⟨fun _ => none, h, Comp.none h, HLe.none h, HLe.refl _, trivial, q⟩
  | A :: a, l => fun h ⟨x, y, c, hx, hy, p, q⟩ => by
    obtain ⟨z, u, c', hz, hu, q', r⟩ := Ent.fold a y q
    have c1 := c.le (HLe.refl _) hz
    refine ⟨join x z, u, ?_, join_le hx (hz.trans hy), hu.trans hy, ⟨x, z, c1, HLe.joinl _ _, HLe.joinr c1, p, q'⟩, r⟩
    exact Comp.symm (Comp.join (Comp.symm (c.le (HLe.refl _) hu)) (Comp.symm c'))
theorem Ent.unfold : ∀ (a : List SP) {l : List SP}, Ent (sl a :: l) (a ++ l)
  | [], l => fun h ⟨x, y, c, hx, hy, p, q⟩ => sl_up q hy
  | A :: a, l => fun h ⟨x, y, c, hx, hy, ⟨z, u, c', hz, hu, p, q'⟩, q⟩ => by
    refine ⟨z, join u y, Comp.join c' (c.le hz (HLe.refl _)), hz.trans hx, join_le (hu.trans hx) hy, p, ?_⟩
    have c1 : Comp u y := c.le hu (HLe.refl _)
    exact Ent.unfold a _ ⟨u, y, c1, HLe.joinl _ _, HLe.joinr c1, q', q⟩
theorem Ent.one {A B : SP} {l : List SP} (h : ∀ x, A x → B x) : Ent (A :: l) (B :: l) := fun _ ⟨x, y, c, a, b, p, q⟩ => ⟨x, y, c, a, b, h _ p, q⟩
theorem Ent.app {A B C : List SP} (h : Ent A B) : Ent (A ++ C) (B ++ C) := (Ent.fold A).trans ((Ent.one (fun x p => h x p)).trans (Ent.unfold B))
/-- taking one part out. -/
inductive Pick : List SP → SP → List SP → Prop
  | here {A : SP} {l : List SP} : Pick (A :: l) A l
  | there {A B : SP} {l m : List SP} : Pick l B m → Pick (A :: l) B (A :: m)
theorem Pick.ent {l m : List SP} {B : SP} (h : Pick l B m) : Ent l (B :: m) := by
  induction h with
  | here => exact Ent.refl _
  | there _ ih => exact (Ent.cons ih).trans Ent.swap
theorem Ent.pick {A B l : List SP} {Y : SP} (h : Pick A Y l) (k : Ent l B) : Ent A (Y :: B) := h.ent.trans (Ent.cons k)

/-- what of the world no function here changes. -/
structure Ext where
  os : Os
  tape : Nat → Question → Nat
  output : Array (Nat × ByteArray)
def Sat (e : Ext) (w : World) (l : List SP) : Prop := (w.os = e.os ∧ w.tape = e.tape ∧ w.output = e.output) ∧ ∃ h, Holds h w ∧ sl l h
section
variable {e : Ext} {w w' : World} {A B : SP} {l m : List SP}
theorem Sat.ent (h : Sat e w l) (k : Ent l m) : Sat e w m := ⟨h.1, h.2.elim fun x ⟨a, b⟩ => ⟨x, a, k _ b⟩⟩
theorem Sat.ex_ {α : Type} {A : α → SP} (h : Sat e w (exs A :: l)) : ∃ x, Sat e w (A x :: l) := by
  obtain ⟨h1, h, hw, x, y, c, a, b, ⟨z, p⟩, q⟩ := h
  exact ⟨z, h1, h, hw, x, y, c, a, b, p, q⟩
theorem Sat.pure_ {p : Prop} (h : Sat e w (pure_ p :: l)) : p ∧ Sat e w l := by
  obtain ⟨h1, h, hw, x, y, c, a, b, hp, q⟩ := h
  exact ⟨hp, h1, h, hw, sl_up q b⟩
/-- the world has changed in blocks that are new, and else nowhere. -/
theorem Sat.grow (h : Sat e w l) (hx : w'.os = w.os ∧ w'.tape = w.tape ∧ w'.output = w.output) (hb : ∀ k, k < w.heap.size → w'.heap[k]? = w.heap[k]?) : Sat e w' l := by
  obtain ⟨h1, h, hw, q⟩ := h
  exact ⟨⟨hx.1.trans h1.1, hx.2.1.trans h1.2.1, hx.2.2.trans h1.2.2⟩, h, fun b x e => (hb b (hw.lt e)).trans (hw b x e), q⟩

/-- block b, owned, holds o. -/
def own (b : Nat) (o : Obj) : SP := fun h => h b = some (true, o)
/-- block b, shared, holds o. -/
def shr (b : Nat) (o : Obj) : SP := fun h => h b = some (false, o)
theorem Sat.own_get {b : Nat} {o : Obj} (h : Sat e w (own b o :: l)) : w.heap[b]? = some o := by
  obtain ⟨_, h, hw, x, y, c, a, b', p, q⟩ := h
  exact hw _ _ (a _ _ p)
theorem Sat.shr_get {b : Nat} {o : Obj} (h : Sat e w (shr b o :: l)) : w.heap[b]? = some o := by
  obtain ⟨_, h, hw, x, y, c, a, b', p, q⟩ := h
  exact hw _ _ (a _ _ p)
/-- an owned block, changed; new blocks besides. -/
theorem Sat.own_upd {b : Nat} {o o' : Obj} (h : Sat e w (own b o :: l)) (hx : w'.os = w.os ∧ w'.tape = w.tape ∧ w'.output = w.output) (hb : ∀ k, k < w.heap.size → k ≠ b → w'.heap[k]? = w.heap[k]?) (hn : w'.heap[b]? = some o') : Sat e w' (own b o' :: l) := by
  obtain ⟨h1, h, hw, x, y, c, a, b', p, q⟩ := h
  have hy : y b = none := by
    cases hyb : y b with
    | none => rfl
    | some z => have := (c b _ _ p hyb).2; cases this
  let z : PH := fun k => if k = b then some (true, o') else none
  refine ⟨⟨hx.1.trans h1.1, hx.2.1.trans h1.2.1, hx.2.2.trans h1.2.2⟩, join z y, Holds.join ?_ ?_, z, y, ?_, HLe.joinl _ _, HLe.joinr ?_, by simp [own, z], q⟩
  · intro k u hk
    simp only [z] at hk
    split at hk
    · rename_i e1; subst e1; injection hk with hk; subst hk; exact hn
    · cases hk
  · intro k u hk
    have hne : k ≠ b := fun e1 => by subst e1; rw [hy] at hk; cases hk
    exact (hb k (hw.lt (b' _ _ hk)) hne).trans (hw _ _ (b' _ _ hk))
  all_goals
    intro k u v hk hv
    simp only [z] at hk
    split at hk
    · rename_i e1; subst e1; rw [hy] at hv; cases hv
    · cases hk
/-- a block that is new. -/
theorem Sat.new {b : Nat} {o : Obj} (h : Sat e w l) (hx : w'.os = w.os ∧ w'.tape = w.tape ∧ w'.output = w.output) (hb : ∀ k, k < w.heap.size → w'.heap[k]? = w.heap[k]?) (hge : w.heap.size ≤ b) (hn : w'.heap[b]? = some o) : Sat e w' (own b o :: l) := by
  obtain ⟨h1, h, hw, q⟩ := h
  let z : PH := fun k => if k = b then some (true, o) else none
  have hy : h b = none := by
    cases hyb : h b with
    | none => rfl
    | some u => have := hw.lt hyb; omega
  refine ⟨⟨hx.1.trans h1.1, hx.2.1.trans h1.2.1, hx.2.2.trans h1.2.2⟩, join z h, Holds.join ?_ ?_, z, h, ?_, HLe.joinl _ _, HLe.joinr ?_, by simp [own, z], q⟩
  · intro k u hk
    simp only [z] at hk
    split at hk
    · rename_i e1; subst e1; injection hk with hk; subst hk; exact hn
    · cases hk
  · intro k u hk
    exact (hb k (hw.lt hk)).trans (hw _ _ hk)
  all_goals
    intro k u v hk hv
    simp only [z] at hk
    split at hk
    · rename_i e1; subst e1; rw [hy] at hv; cases hv
    · cases hk
end
/-- what is owned may be shared from now on. -/
theorem Ent.dup {b : Nat} {o : Obj} {l : List SP} : Ent (shr b o :: l) (shr b o :: shr b o :: l) := by
  rintro h ⟨x, y, c, a, d, p, q⟩
  let z : PH := fun k => if k = b then some (false, o) else none
  have hz : HLe z x := fun k u hk => by
    simp only [z] at hk
    split at hk
    · rename_i e1; subst e1; injection hk with hk; subst hk; exact p
    · cases hk
  refine ⟨z, h, ?_, hz.trans a, HLe.refl _, by simp [shr, z], x, y, c, a, d, p, q⟩
  intro k u v hk hv
  have := hz.trans a k u hk
  rw [this] at hv
  injection hv with hv
  subst hv
  simp only [z] at hk
  split at hk
  · injection hk with hk; subst hk; exact ⟨rfl, rfl⟩
  · cases hk
theorem Sat.share {e : Ext} {w : World} {b : Nat} {o : Obj} {l : List SP} (h : Sat e w (own b o :: l)) : Sat e w (shr b o :: l) := by
  obtain ⟨h1, h, hw, x, y, c, a, b', p, q⟩ := h
  have hy : y b = none := by
    cases hyb : y b with
    | none => rfl
    | some z => have := (c b _ _ p hyb).2; cases this
  let z : PH := fun k => if k = b then some (false, o) else none
  refine ⟨h1, join z y, Holds.join ?_ (hw.le b'), z, y, ?_, HLe.joinl _ _, HLe.joinr ?_, by simp [shr, z], q⟩
  · intro k u hk
    simp only [z] at hk
    split at hk
    · rename_i e1; subst e1; injection hk with hk; subst hk; exact hw k (true, o) (a _ _ p)
    · cases hk
  all_goals
    intro k u v hk hv
    simp only [z] at hk
    split at hk
    · rename_i e1; subst e1; rw [hy] at hv; cases hv
    · cases hk
end Go.Proofs.Ytkogmpeodamdgaa
