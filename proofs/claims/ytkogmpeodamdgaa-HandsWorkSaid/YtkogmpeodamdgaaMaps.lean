/-
  MAPS: a map's block as a list of pairs; what a lookup, an update, a delete on it do, for keys whose sameness is known. For any program. Own work.
-/
import Derived.Test.YtkogmpeodamdgaaBase
import Derived.Laws.StructEq
import Derived.Maps.RangeRun
import Derived.Maps.OwnOps
import Derived.Maps.OwnSet
import Derived.Maps.RangeWalk
import Derived.ChangeMaps5
import Derived.Tactics
namespace Go.Proofs.Ytkogmpeodamdgaa
open Go Go.RowKit
open Go.ChangeMaps (setBlock heap_setBlock_same heap_setBlock_other)

/-- how keys of a type are the same. -/
structure KeyEq (P : Program) (kt : TypeId) {α : Type} (enc : α → Value) (eqv : α → α → Bool) : Prop where
  check : ∀ e a w, (Instr.checkKey e 10000 kt (enc a)).run P w = .ok () w
  find : ∀ a (es : List MapEntry) (ks : List α) w, es.map (·.key) = ks.map enc → (Instr.findKey kt (enc a) es).run P w = .ok ((ks.findIdx? (eqv a)).bind fun i => (es[i]?).map fun e => (i, e.val)) w
  bits : ∀ a b, eqv a b = true → Instr.sameBits 10000 (enc b) (enc a) = true

/-- block b is a map of just these pairs. -/
def MapIs (w : World) (b : Nat) (l : List (Value × Value)) : Prop :=
  ∃ es clock, w.heap[b]? = some (.map es clock) ∧ es.toList.map (fun e => (e.key, e.val)) = l ∧ (es.toList.map (·.born)).Nodup ∧ ∀ e ∈ es.toList, e.born < clock
section
variable {w w' : World} {b : Nat} {l : List (Value × Value)}
theorem MapIs.lt (h : MapIs w b l) : b < w.heap.size := by
  obtain ⟨es, clock, h, _⟩ := h
  rcases Nat.lt_or_ge b w.heap.size with hlt | hge
  · exact hlt
  · rw [Array.getElem?_eq_none hge] at h; cases h
theorem MapIs.upd {S : Nat → Prop} (h : MapIs w b l) (hu : Upd S w w') (hb : ¬ S b) : MapIs w' b l := by
  obtain ⟨es, clock, h1, h2⟩ := id h
  exact ⟨es, clock, (hu.block b h.lt hb).trans h1, h2⟩
theorem MapIs.grows (h : MapIs w b l) (hg : Grows w w') : MapIs w' b l := h.upd (S := fun _ => False) (Upd.of_grows hg) (fun h => h)
theorem MapIs.new (w : World) : MapIs (w.alloc (.map #[] 0)) w.heap.size [] := ⟨#[], 0, heap_alloc_new w _, rfl, by simp, by simp⟩
theorem MapIs.not_blk {t : TypeId} {cs : Array Value} {g : Nat} (h : MapIs w b l) (hg : Blk w g t cs) : b ≠ g := by
  rintro rfl
  obtain ⟨es, clock, h1, _⟩ := h
  unfold Blk at hg
  rw [h1] at hg; cases hg
theorem MapIs.not_own {base e size n : Nat} {v : Value} {xs : List Value} (h : MapIs w b l) (ho : w.ownsRow base e size v n xs) : v.ownBlock ≠ some b := by
  intro hk
  rcases ho.2 with ⟨rfl, _⟩ | ⟨g, cap, cur, rfl, _, hh, _⟩
  · simp [Value.ownBlock] at hk
  · have : g = b := by simpa [Value.ownBlock] using hk
    subst this
    exact h.not_blk (t := e) hh rfl
end

section
variable {P : Program} {α : Type} {enc : α → Value} {eqv : α → α → Bool} {kt et mt : TypeId}

/-- the pairs of a map, keys of a known kind. -/
def pairs (enc : α → Value) (l : List (α × Value)) : List (Value × Value) := l.map fun p => (enc p.1, p.2)

theorem run_getObj_m {w : World} {r : Nat} {es : Array MapEntry} {c : Nat} (h : w.heap[r]? = some (.map es c)) : (getObj r).run P w = .ok (.map es c) w := by simp [getObj, Sem.run, h]
theorem run_setObj_map {w : World} {r : Nat} {es : Array MapEntry} {c : Nat} (hr : w.heap[r]? = some (.map es c)) (o' : Obj) : (setObj r o').run P w = .ok () (setBlock w r o') := by
  simp [setObj, Sem.run, hr, setBlock]

theorem pairs_keys {l : List (α × Value)} {es : Array MapEntry} (h : es.toList.map (fun e => (e.key, e.val)) = pairs enc l) : es.toList.map (·.key) = (l.map (·.1)).map enc := by
  have := congrArg (List.map Prod.fst) h
  simpa [pairs, Function.comp_def] using this
theorem pairs_vals {l : List (α × Value)} {es : Array MapEntry} (h : es.toList.map (fun e => (e.key, e.val)) = pairs enc l) (i : Nat) : (es.toList[i]?).map (·.val) = (l[i]?).map (·.2) := by
  have := congrArg (fun x => (x[i]?).map Prod.snd) h
  simpa [pairs, Function.comp_def] using this

/-- the value at a key. -/
def atKey (eqv : α → α → Bool) (l : List (α × Value)) (a : α) : Option Value := (l.find? fun p => eqv a p.1).map (·.2)

theorem find_idx {β : Type} (q : β → Bool) : ∀ l : List β, l.find? q = (l.findIdx? q).bind fun i => l[i]?
  | [] => rfl
  | x :: xs => by
    rw [List.find?_cons, List.findIdx?_cons]
    cases h : q x
    · simp only [Bool.false_eq_true, if_false]
      rw [find_idx q xs]
      cases xs.findIdx? q <;> simp
    · simp

theorem findIdx_map {β γ : Type} (f : β → γ) (q : γ → Bool) (l : List β) : (l.map f).findIdx? q = l.findIdx? fun x => q (f x) := by
  rw [List.findIdx?_map]; rfl

theorem run_lookup (K : KeyEq P kt enc eqv) {w : World} {b : Nat} {l : List (α × Value)} (hm : P.underlying mt = some (.map kt et)) (h : MapIs w b (pairs enc l)) {z : Value} (hz : (zeroValue et).run P w = .ok z w) (a : α) (ok : Bool) :
    (Instr.lookup mt (.map (some b)) (enc a) ok).run P w = .ok (if ok then .tuple #[(atKey eqv l a).getD z, .bool (atKey eqv l a).isSome] else (atKey eqv l a).getD z) w := by
  obtain ⟨es, clock, hb, hl, _⟩ := h
  have hf := K.find a es.toList (l.map (·.1)) w (pairs_keys hl)
  rw [findIdx_map] at hf
  have hv : (l.findIdx? fun x => eqv a x.1).bind (fun i => (es.toList[i]?).map fun e => e.val) = atKey eqv l a := by
    unfold atKey
    rw [find_idx]
    cases l.findIdx? (fun x => eqv a x.1) with
    | none => rfl
    | some i => simp only [Option.bind_some]; rw [pairs_vals hl]
  simp only [Instr.lookup, Sem.run_bind, run_underlying hm, Result.andThen_ok, run_getObj_m hb, Sem.run_pure, K.check, hf]
  rw [← hv]
  cases hi : l.findIdx? (fun x => eqv a x.1) with
  | none => cases ok <;> simp [hz]
  | some i =>
    have hil : i < es.toList.length := by
      have h1 := (List.findIdx?_eq_some_iff_getElem.1 hi).1
      have h2 := congrArg List.length hl
      simp [pairs] at h2
      simpa [h2] using h1
    simp only [Option.bind_some, List.getElem?_eq_getElem hil, Option.map_some]
    cases ok <;> simp
/-- the pairs behind 'm[a] = v'. -/
def upsert (eqv : α → α → Bool) (l : List (α × Value)) (a : α) (v : Value) : List (α × Value) :=
  match l.findIdx? (fun p => eqv a p.1) with
  | some i => l.set i (a, v)
  | none => l ++ [(a, v)]
/-- the pairs behind 'delete(m, a)'. -/
def strike (eqv : α → α → Bool) (l : List (α × Value)) (a : α) : List (α × Value) :=
  match l.findIdx? (fun p => eqv a p.1) with
  | some i => l.eraseIdx i
  | none => l

theorem erase_map {β γ : Type} (f : β → γ) : ∀ (l : List β) (i : Nat), (l.eraseIdx i).map f = (l.map f).eraseIdx i
  | [], _ => by simp
  | _ :: _, 0 => by simp
  | x :: xs, i + 1 => by simp [erase_map f xs i]
theorem Upd.setBlock_ {w : World} {b : Nat} {es : Array MapEntry} {c : Nat} (hb : w.heap[b]? = some (.map es c)) (o : Obj) : Upd (fun k => k = b) w (setBlock w b o) :=
  ⟨rfl, rfl, rfl, by simp [setBlock], fun k _ hk => heap_setBlock_other hb o hk⟩

theorem pairs_len {l : List (α × Value)} {es : Array MapEntry} (h : es.toList.map (fun e => (e.key, e.val)) = pairs enc l) : es.toList.length = l.length := by
  have := congrArg List.length h
  simpa [pairs] using this

theorem bind_val {es : Array MapEntry} {i : Nat} (h : i < es.toList.length) : ((some i).bind fun i => (es.toList[i]?).map fun e => (i, e.val)) = some (i, es.toList[i].val) := by
  simp only [Option.bind_some, List.getElem?_eq_getElem h, Option.map_some]

theorem run_update (K : KeyEq P kt enc eqv) {w : World} {b : Nat} {l : List (α × Value)} (hm : P.underlying mt = some (.map kt et)) (h : MapIs w b (pairs enc l)) (a : α) (v : Value) :
    ∃ w', (Instr.mapUpdate mt (.map (some b)) (enc a) v).run P w = .ok () w' ∧ MapIs w' b (pairs enc (upsert eqv l a v)) ∧ Upd (fun k => k = b) w w' := by
  obtain ⟨es, clock, hb, hl, hn, hlt⟩ := h
  have hf := K.find a es.toList (l.map (·.1)) w (pairs_keys hl)
  rw [findIdx_map] at hf
  have hlen := pairs_len hl
  cases hi : l.findIdx? (fun x => eqv a x.1) with
  | none =>
    rw [hi] at hf
    refine ⟨setBlock w b (.map (es.push { key := enc a, val := v, born := clock }) (clock + 1)), ?_, ?_, Upd.setBlock_ hb _⟩
    · simp only [Instr.mapUpdate, Sem.run_bind, run_underlying hm, Result.andThen_ok, run_getObj_m hb, K.check, hf, Option.bind_none, run_setObj_map hb]
    · refine ⟨_, _, heap_setBlock_same hb _, ?_, ?_, ?_⟩
      · unfold upsert
        rw [hi]
        simp only [Array.toList_push, List.map_append, hl, pairs, List.map_cons, List.map_nil]
      · rw [Array.toList_push, List.map_append]
        refine List.nodup_append.2 ⟨hn, by simp, ?_⟩
        intro x hx y hy
        obtain ⟨e, he, rfl⟩ := List.mem_map.1 hx
        simp only [List.map_cons, List.map_nil, List.mem_singleton] at hy
        have := hlt e he
        omega
      · intro e he
        rw [Array.toList_push] at he
        rcases List.mem_append.1 he with he | he
        · have := hlt e he; omega
        · rw [List.mem_singleton] at he; subst he; exact Nat.lt_succ_self _
  | some i =>
    obtain ⟨hil, hq, _⟩ := List.findIdx?_eq_some_iff_getElem.1 hi
    have hie : i < es.toList.length := by rw [hlen]; exact hil
    have hie' : i < es.size := by simpa using hie
    rw [hi, bind_val hie] at hf
    have hkey : es.toList[i].key = enc l[i].1 := by
      have h1 := congrArg (fun x => x[i]?) (pairs_keys hl)
      simp only [List.getElem?_map, List.getElem?_eq_getElem hie, List.getElem?_eq_getElem hil, Option.map_some, Option.some.injEq] at h1
      exact h1
    have hstay : ∀ W, (Instr.keyThatStays (((es[i]?).map (·.key)).getD (enc a)) (enc a)).run P W = .ok (enc a) W := by
      intro W
      have : ((es[i]?).map (·.key)).getD (enc a) = enc l[i].1 := by
        rw [← hkey, Array.getElem?_eq_getElem hie']
        simp
      rw [this]
      unfold Instr.keyThatStays
      rw [if_pos (K.bits _ _ hq)]
      rfl
    refine ⟨setBlock w b (.map (es.modify i fun e => { e with key := enc a, val := v }) clock), ?_, ?_, Upd.setBlock_ hb _⟩
    · simp only [Instr.mapUpdate, Sem.run_bind, run_underlying hm, Result.andThen_ok, run_getObj_m hb, K.check, hf, hstay, run_setObj_map hb]
    · have hmod : (es.modify i fun e => { e with key := enc a, val := v }).toList = es.toList.set i { es.toList[i] with key := enc a, val := v } := by
        apply List.ext_getElem?
        intro j
        rw [Array.getElem?_toList, Array.getElem?_modify, List.getElem?_set]
        by_cases e : i = j
        · subst e; simp [hie']
        · simp [e]
      refine ⟨_, _, heap_setBlock_same hb _, ?_, ?_, ?_⟩
      · rw [hmod, List.map_set, hl]
        unfold upsert
        rw [hi]
        simp only [pairs, List.map_set]
      · rw [hmod, List.map_set]
        have : (es.toList.map (·.born)).set i es.toList[i].born = es.toList.map (·.born) := by
          apply List.ext_getElem?
          intro j
          rw [List.getElem?_set]
          by_cases e : i = j
          · subst e; simp [hie']
          · simp [e]
        rw [this]; exact hn
      · rw [hmod]
        intro e he
        obtain ⟨j, hj, rfl⟩ := List.mem_iff_getElem.1 he
        rw [List.length_set] at hj
        rw [List.getElem_set]
        split
        · exact (hlt es.toList[i] (List.getElem_mem hie) : _)
        · exact hlt _ (List.getElem_mem hj)

theorem run_delete (K : KeyEq P kt enc eqv) {w : World} {b : Nat} {l : List (α × Value)} (hm : P.underlying mt = some (.map kt et)) (h : MapIs w b (pairs enc l)) (a : α) (kt' ty : TypeId) :
    ∃ w', (Builtin.delete_ #[mt, kt'] ty #[.map (some b), enc a]).run P w = .ok (.tuple #[]) w' ∧ MapIs w' b (pairs enc (strike eqv l a)) ∧ Upd (fun k => k = b) w w' := by
  obtain ⟨es, clock, hb, hl, hn, hlt⟩ := h
  have hf := K.find a es.toList (l.map (·.1)) w (pairs_keys hl)
  rw [findIdx_map] at hf
  have hlen := pairs_len hl
  cases hi : l.findIdx? (fun x => eqv a x.1) with
  | none =>
    rw [hi] at hf
    refine ⟨setBlock w b (.map es clock), ?_, ?_, Upd.setBlock_ hb _⟩
    · simp [Builtin.delete_, run_underlying hm, run_getObj_m hb, K.check, hf, run_setObj_map hb]
    · refine ⟨_, _, heap_setBlock_same hb _, ?_, hn, hlt⟩
      unfold strike
      rw [hi]; exact hl
  | some i =>
    obtain ⟨hil, hq, _⟩ := List.findIdx?_eq_some_iff_getElem.1 hi
    have hie : i < es.toList.length := by rw [hlen]; exact hil
    have hie' : i < es.size := by simpa using hie
    rw [hi, bind_val hie] at hf
    refine ⟨setBlock w b (.map (es.eraseIdxIfInBounds i) clock), ?_, ?_, Upd.setBlock_ hb _⟩
    · simp [Builtin.delete_, run_underlying hm, run_getObj_m hb, K.check, hf, run_setObj_map hb]
    · have her : (es.eraseIdxIfInBounds i).toList = es.toList.eraseIdx i := by simp [Array.eraseIdxIfInBounds, hie']
      refine ⟨_, _, heap_setBlock_same hb _, ?_, ?_, ?_⟩
      · rw [her, erase_map, hl]
        unfold strike
        rw [hi]
        simp only [pairs, erase_map]
      · rw [her, erase_map]
        exact hn.sublist (List.eraseIdx_sublist _ _)
      · rw [her]
        intro e he
        exact hlt e (List.mem_of_mem_eraseIdx he)

theorem wpList_lookup_is {w : World} {ops : Array Oper} {rest : List Oper} {o : Oper} {a : Act} {Q : Exit → Act → World → Prop} (hg : o.guard = none) (m x : Operand) (ok : Bool) (hop : o.op = Op.lookup mt m x ok)
    (K : KeyEq P kt enc eqv) (hm : P.underlying mt = some (.map kt et)) {z : Value} (hz : (zeroValue et).run P w = .ok z w) {b : Nat} {l : List (α × Value)} (hv : a.eval m = .map (some b)) (h : MapIs w b (pairs enc l)) (k : α) (hx : a.eval x = enc k)
    (hK : wpList P ops Q rest (a.put o.dst (if ok then .tuple #[(atKey eqv l k).getD z, .bool (atKey eqv l k).isSome] else (atKey eqv l k).getD z)) w) : wpList P ops Q (o :: rest) a w := by
  refine wpList_plain hg fun K' hK' => ?_
  have hrun := run_lookup K hm h hz k ok
  unfold Oper.wp
  simp only [execOp, hop, hv, hx, Sem.run_bind, hrun, Result.andThen_ok, Sem.run_pure]
  exact hK' _ _ hK
theorem wpList_update_is {w : World} {ops : Array Oper} {rest : List Oper} {o : Oper} {a : Act} {Q : Exit → Act → World → Prop} (hg : o.guard = none) (m x v : Operand) (hop : o.op = Op.mapUpdate mt m x v)
    (K : KeyEq P kt enc eqv) (hm : P.underlying mt = some (.map kt et)) {b : Nat} {l : List (α × Value)} (hv : a.eval m = .map (some b)) (h : MapIs w b (pairs enc l)) (k : α) (hx : a.eval x = enc k) (val : Value) (hval : a.eval v = val)
    (hK : ∀ w', MapIs w' b (pairs enc (upsert eqv l k val)) → Upd (fun k => k = b) w w' → wpList P ops Q rest (a.put o.dst undef) w') : wpList P ops Q (o :: rest) a w := by
  refine wpList_plain hg fun K' hK' => ?_
  obtain ⟨w', hrun, h1, h2⟩ := run_update K hm h k val
  unfold Oper.wp
  simp [execOp, hop, hv, hx, hval, hrun, Result.andThen]
  exact hK' _ _ (hK w' h1 h2)
theorem asking {eqv : α → α → Bool} (heq : ∀ a b w, (Op.equal kt (enc a) (enc b)).run P w = .ok (eqv a b) w) (a : α) (w : World) : ∀ (es : List MapEntry) (ks : List α) (n : Nat), es.map (·.key) = ks.map enc →
    (Instr.findAsking kt (enc a) es n).run P w = .ok ((ks.findIdx? (eqv a)).bind fun i => (es[i]?).map fun e => (i + n, e.val)) w
  | [], [], n, _ => by simp [Instr.findAsking]
  | [], _ :: _, _, h => by simp at h
  | _ :: _, [], _, h => by simp at h
  | e :: es, k :: ks, n, h => by
    simp only [List.map_cons, List.cons.injEq] at h
    unfold Instr.findAsking
    rw [h.1]
    simp only [Sem.run_bind, heq, Result.andThen_ok]
    rw [List.findIdx?_cons]
    cases hq : eqv a k with
    | true => simp
    | false =>
      simp only [Bool.false_eq_true, if_false]
      rw [asking heq a w es ks (n + 1) h.2]
      cases ks.findIdx? (eqv a) with
      | none => simp
      | some i => simp only [Option.map_some, Option.bind_some, List.getElem?_cons_succ]; rw [show i + (n + 1) = i + 1 + n by omega]
theorem find_of_asking {d : TypeDesc} {eqv : α → α → Bool} (hd : P.underlying kt = some d) (hnow : ∀ a b, Instr.sameNow d (enc a) (enc b) = none) (heq : ∀ a b w, (Op.equal kt (enc a) (enc b)).run P w = .ok (eqv a b) w)
    (a : α) (es : List MapEntry) (ks : List α) (w : World) (h : es.map (·.key) = ks.map enc) : (Instr.findKey kt (enc a) es).run P w = .ok ((ks.findIdx? (eqv a)).bind fun i => (es[i]?).map fun e => (i, e.val)) w := by
  have hA := asking heq a w es ks 0 h
  unfold Instr.findKey
  simp only [Sem.run_bind, run_underlying hd, Result.andThen_ok]
  cases es with
  | nil =>
    cases ks with
    | nil => simp [Instr.findNow]
    | cons _ _ => simp at h
  | cons e es =>
    cases ks with
    | nil => simp at h
    | cons k ks =>
      simp only [List.map_cons, List.cons.injEq] at h
      have hn : Instr.findNow d (enc a) (e :: es) 0 = none := by
        unfold Instr.findNow
        rw [h.1, hnow]
      rw [hn]
      exact hA
theorem now_of {d : TypeDesc} {eqv : α → α → Bool} (hnow : ∀ a b, Instr.sameNow d (enc a) (enc b) = some (eqv a b)) (a : α) : ∀ (es : List MapEntry) (ks : List α) (n : Nat), es.map (·.key) = ks.map enc →
    Instr.findNow d (enc a) es n = some ((ks.findIdx? (eqv a)).bind fun i => (es[i]?).map fun e => (i + n, e.val))
  | [], [], n, _ => by simp [Instr.findNow]
  | [], _ :: _, _, h => by simp at h
  | _ :: _, [], _, h => by simp at h
  | e :: es, k :: ks, n, h => by
    simp only [List.map_cons, List.cons.injEq] at h
    unfold Instr.findNow
    rw [h.1, hnow, List.findIdx?_cons]
    cases hq : eqv a k with
    | true => simp
    | false =>
      simp only [Bool.false_eq_true, if_false]
      rw [now_of hnow a es ks (n + 1) h.2]
      cases ks.findIdx? (eqv a) with
      | none => simp
      | some i => simp only [Option.map_some, Option.bind_some, List.getElem?_cons_succ]; rw [show i + (n + 1) = i + 1 + n by omega]
theorem find_of_now {d : TypeDesc} {eqv : α → α → Bool} (hd : P.underlying kt = some d) (hnow : ∀ a b, Instr.sameNow d (enc a) (enc b) = some (eqv a b))
    (a : α) (es : List MapEntry) (ks : List α) (w : World) (h : es.map (·.key) = ks.map enc) : (Instr.findKey kt (enc a) es).run P w = .ok ((ks.findIdx? (eqv a)).bind fun i => (es[i]?).map fun e => (i, e.val)) w := by
  unfold Instr.findKey
  simp only [Sem.run_bind, run_underlying hd, Result.andThen_ok]
  rw [now_of hnow a es ks 0 h]
  rfl
end
end Go.Proofs.Ytkogmpeodamdgaa
