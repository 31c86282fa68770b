/- Words for memory: what a call leaves alone; a map of ints; a heap of pairs in an array. -/
import Derived.WalkKit
import Derived.MapKept
import Derived.Maps.Own
import Derived.StillTailTactics
import Derived.Test.YtbgklnepmljiaaaH
namespace Go.Proofs.YtbgklnepmljiaaaMem
open Go.RowKit Go.ChangeMaps Go.MapKept

/-- All blocks but those of S are as they were. -/
structure Only (S : Nat → Prop) (w w' : World) : Prop where
  os : w'.os = w.os
  tape : w'.tape = w.tape
  output : w'.output = w.output
  size : w.heap.size ≤ w'.heap.size
  block : ∀ k, k < w.heap.size → ¬ S k → w'.heap[k]? = w.heap[k]?

theorem Only.refl (S : Nat → Prop) (w : World) : Only S w w := ⟨rfl, rfl, rfl, Nat.le_refl _, fun _ _ _ => rfl⟩
theorem Only.trans {S : Nat → Prop} {a b c : World} (h : Only S a b) (k : Only S b c) : Only S a c :=
  ⟨k.os.trans h.os, k.tape.trans h.tape, k.output.trans h.output, Nat.le_trans h.size k.size, fun i hi hs => (k.block i (Nat.lt_of_lt_of_le hi h.size) hs).trans (h.block i hi hs)⟩
theorem Only.mono {S T : Nat → Prop} {w w' : World} (h : Only S w w') (hs : ∀ k, k < w.heap.size → S k → T k) : Only T w w' :=
  ⟨h.os, h.tape, h.output, h.size, fun k hk ht => h.block k hk (fun s => ht (hs k hk s))⟩
theorem Only.drew {S : Nat → Prop} {a w : World} (h : Only S a w) : Only S a w.drew := ⟨h.os, h.tape, h.output, h.size, h.block⟩
theorem Only.alloc {S : Nat → Prop} {a w : World} (h : Only S a w) (o : Obj) : Only S a (w.alloc o) :=
  h.trans ⟨rfl, rfl, rfl, by simp, fun k hk _ => Below.heap_alloc _ _ _ hk⟩
theorem Only.setCell {S : Nat → Prop} {a w : World} (h : Only S a w) {p : Addr} (hp : S p.block ∨ a.heap.size ≤ p.block) (u : Value) : Only S a (w.setCell p u) :=
  ⟨h.os, h.tape, h.output, by simp [World.setCell]; exact h.size, fun k hk hs => by
    rw [Below.heap_setCell _ _ _ _ (by rcases hp with hp | hp; · intro e; subst e; exact hs hp
                                       · omega)]; exact h.block k hk hs⟩
theorem Only.setBlock {S : Nat → Prop} {a w : World} (h : Only S a w) {b : Nat} (hp : S b ∨ a.heap.size ≤ b) (o : Obj) : Only S a (ChangeMaps.setBlock w b o) :=
  ⟨h.os, h.tape, h.output, by simp [ChangeMaps.setBlock]; exact h.size, fun k hk hs => by
    show (w.heap.setIfInBounds b o)[k]? = _
    rw [Array.getElem?_setIfInBounds, if_neg (by rcases hp with hp | hp; · intro e; subst e; exact hs hp
                                                 · omega)]; exact h.block k hk hs⟩
theorem Only.of_below {S : Nat → Prop} {w w' : World} (h : Below w.heap.size w w') : Only S w w' :=
  ⟨h.os, h.tape, h.output, h.size, fun k hk _ => h.block k hk⟩
theorem Only.below {w w' : World} {S : Nat → Prop} (h : Only S w w') (hs : ∀ k, k < w.heap.size → ¬ S k) : Below w.heap.size w w' :=
  ⟨h.os, h.tape, h.output, h.size, fun k hk => h.block k hk (hs k hk)⟩
/-- What has been made since may be forgotten. -/
theorem Only.close {S : Nat → Prop} {a b c : World} (h : Only S a b) (k : Only (fun x => S x ∨ a.heap.size ≤ x) b c) : Only S a c := by
  refine ⟨k.os.trans h.os, k.tape.trans h.tape, k.output.trans h.output, Nat.le_trans h.size k.size, fun i hi hs => (k.block i (Nat.lt_of_lt_of_le hi h.size) ?_).trans (h.block i hi hs)⟩
  rintro (e | e)
  · exact hs e
  · exact absurd e (by omega)

theorem heap_setCell_same {w : World} {b o : Nat} {c : Array Value} {e : TypeId} {f : Nat × Nat} (h : w.heap[b]? = some (.cells c e f)) (u : Value) :
    (w.setCell ⟨b, o, none⟩ u).heap[b]? = some (.cells (c.setIfInBounds o u) e f) := by
  simp only [World.setCell, Array.getElem?_modify, if_true, h]; rfl
theorem heap_setCell_ne (w : World) (a : Addr) (u : Value) {k : Nat} (h : k ≠ a.block) : (w.setCell a u).heap[k]? = w.heap[k]? := Below.heap_setCell _ _ _ _ h
theorem heap_alloc_lt {w : World} {o : Obj} {k : Nat} {x : Obj} (h : w.heap[k]? = some x) : (w.alloc o).heap[k]? = some x := by
  rw [Below.heap_alloc _ _ _ (Array.getElem?_eq_some_iff.1 h).1]; exact h
theorem heap_alloc_new (w : World) (o : Obj) : (w.alloc o).heap[w.heap.size]? = some o := by
  show (w.heap.push o)[w.heap.size]? = _
  simp
theorem heap_lt {w : World} {k : Nat} {x : Obj} (h : w.heap[k]? = some x) : k < w.heap.size := (Array.getElem?_eq_some_iff.1 h).1
theorem cell_of {w : World} {b : Nat} {c : Array Value} {e : TypeId} {f : Nat × Nat} (h : w.heap[b]? = some (.cells c e f)) (o : Nat) : w.cell? ⟨b, o, none⟩ = c[o]? := by
  simp [World.cell?, h]
theorem frozen_of {w : World} {b : Nat} {c : Array Value} {e : TypeId} (h : w.heap[b]? = some (.cells c e (0, 0))) (o : Nat) : w.frozen? ⟨b, o, none⟩ = false := by
  simp [World.frozen?, h]

/-! ### a map of ints -/
def ent (x : Int × Int × Nat) : MapEntry := { key := .int .i64 x.1, val := .int .i64 x.2.1, born := x.2.2 }
/-- What is found under a key. -/
def lk (k : Int) : List (Int × Int × Nat) → Option Int
  | [] => none
  | x :: r => if x.1 = k then some x.2.1 else lk k r
/-- Where. -/
def ix (k : Int) : List (Int × Int × Nat) → Nat → Option Nat
  | [], _ => none
  | x :: r, j => if x.1 = k then some j else ix k r (j + 1)
def mapIs (w : World) (b : Nat) (M : Int → Option Int) : Prop :=
  ∃ l ck, w.heap[b]? = some (.map (l.map ent).toArray ck) ∧ (l.map (·.1)).Nodup ∧ ∀ k, M k = lk k l

theorem mapIs.of_block {w w' : World} {b : Nat} {M : Int → Option Int} (h : mapIs w b M) (hb : w'.heap[b]? = w.heap[b]?) : mapIs w' b M := by
  obtain ⟨l, ck, h1, h2⟩ := h; exact ⟨l, ck, hb.trans h1, h2⟩
theorem mapIs.drew {w : World} {b : Nat} {M : Int → Option Int} (h : mapIs w b M) : mapIs w.drew b M := h
theorem mapIs.lt {w : World} {b : Nat} {M : Int → Option Int} (h : mapIs w b M) : b < w.heap.size := by
  obtain ⟨l, ck, h1, _⟩ := h; exact heap_lt h1
theorem mapIs_made (w : World) : mapIs (w.alloc (.map #[] 0)) w.heap.size (fun _ => none) := by
  refine ⟨[], 0, ?_, by simp, fun _ => rfl⟩
  show (w.heap.push _)[w.heap.size]? = _
  simp

theorem findNow_ix (k : Int) : ∀ (l : List (Int × Int × Nat)) (j : Nat), Instr.findNow (.int .i64) (.int .i64 k) (l.map ent) j = some ((ix k l j).bind fun i => (lk k l).map fun v => (i, .int .i64 v))
  | [], _ => rfl
  | x :: r, j => by
    simp only [List.map_cons, Instr.findNow, ent, Instr.sameNow, if_true, ix, lk]
    by_cases h : x.1 = k
    · subst h; simp
    · have h' : (k == x.1) = false := by simpa using fun e => h e.symm
      simp only [h', if_neg h]; exact findNow_ix k r (j + 1)
theorem ix_none {k : Int} : ∀ {l : List (Int × Int × Nat)} {j : Nat}, ix k l j = none ↔ lk k l = none
  | [], _ => by simp [ix, lk]
  | x :: r, j => by
    simp only [ix, lk]
    by_cases h : x.1 = k
    · simp [h]
    · simp only [if_neg h]; exact ix_none
theorem lk_not {k : Int} : ∀ {l : List (Int × Int × Nat)}, lk k l = none ↔ k ∉ l.map (·.1)
  | [] => by simp [lk]
  | x :: r => by
    simp only [lk]
    by_cases h : x.1 = k
    · simp [h]
    · simp only [if_neg h, List.map_cons, List.mem_cons, not_or]
      rw [lk_not]; exact ⟨fun g => ⟨fun e => h e.symm, g⟩, fun g => g.2⟩
theorem ix_spec {k : Int} : ∀ {l : List (Int × Int × Nat)} {j i : Nat}, ix k l j = some i → ∃ m x, i = j + m ∧ l[m]? = some x ∧ x.1 = k
  | [], _, _ => by simp [ix]
  | x :: r, j, i => by
    simp only [ix]
    by_cases h : x.1 = k
    · simp only [if_pos h, Option.some.injEq]; rintro rfl; exact ⟨0, x, rfl, rfl, h⟩
    · simp only [if_neg h]; intro g
      obtain ⟨m, y, e, e1, e2⟩ := ix_spec g
      exact ⟨m + 1, y, by omega, by simpa using e1, e2⟩

section
variable {P : Program} {t kt et : TypeId}
theorem run_check (w : World) (em : Bool) (n : Nat) (k : Int) (hk : P.underlying kt = some (.int .i64)) : (Instr.checkKey em (n + 1) kt (.int .i64 k)).run P w = .ok () w := by
  simp [Instr.checkKey, run_underlying hk, Result.andThen]
theorem run_look {w : World} {b : Nat} {l : List (Int × Int × Nat)} {ck : Nat} (ht : P.underlying t = some (.map kt et)) (hk : P.underlying kt = some (.int .i64)) (hz : (zeroValue et).run P w = .ok (.int .i64 0) w)
    (hb : w.heap[b]? = some (.map (l.map ent).toArray ck)) (k : Int) (ok : Bool) :
    (Instr.lookup t (.map (some b)) (.int .i64 k) ok).run P w = .ok (if ok then .tuple #[.int .i64 ((lk k l).getD 0), .bool (lk k l).isSome] else .int .i64 ((lk k l).getD 0)) w := by
  have hc : ∀ em, (Instr.checkKey em 10000 kt (.int .i64 k)).run P w = .ok () w := fun em => run_check w em 9999 k hk
  have hf := findNow_ix k l 0
  cases hl : lk k l with
  | none =>
    rw [ix_none.2 hl] at hf
    cases ok <;> simp [Instr.lookup, run_underlying ht, MapKept.run_getObj_map hb, hc, Instr.findKey, run_underlying hk, hf, hz, Result.andThen]
  | some v =>
    obtain ⟨i, hi⟩ : ∃ i, ix k l 0 = some i := by
      cases h : ix k l 0 with
      | none => rw [ix_none] at h; rw [h] at hl; cases hl
      | some i => exact ⟨i, rfl⟩
    rw [hi, hl] at hf
    cases ok <;> simp [Instr.lookup, run_underlying ht, MapKept.run_getObj_map hb, hc, Instr.findKey, run_underlying hk, hf, Result.andThen]

theorem run_look_nil {w : World} (ht : P.underlying t = some (.map kt et)) (hk : P.underlying kt = some (.int .i64)) (hz : (zeroValue et).run P w = .ok (.int .i64 0) w) (k : Int) :
    (Instr.lookup t (.map none) (.int .i64 k) true).run P w = .ok (.tuple #[.int .i64 0, .bool false]) w := by
  have hc : ∀ em, (Instr.checkKey em 10000 kt (.int .i64 k)).run P w = .ok () w := fun em => run_check w em 9999 k hk
  simp [Instr.lookup, run_underlying ht, hc, Instr.findKey, run_underlying hk, Instr.findNow, hz, Result.andThen]
theorem mapIs.look {w : World} {b : Nat} {M : Int → Option Int} (h : mapIs w b M) (ht : P.underlying t = some (.map kt et)) (hk : P.underlying kt = some (.int .i64)) (hz : (zeroValue et).run P w = .ok (.int .i64 0) w) (k : Int) :
    (Instr.lookup t (.map (some b)) (.int .i64 k) false).run P w = .ok (.int .i64 ((M k).getD 0)) w := by
  obtain ⟨l, ck, hb, _, hM⟩ := h
  have := run_look ht hk hz hb k false
  rw [hM k]; simpa using this
theorem mapIs.look_ok {w : World} {b : Nat} {M : Int → Option Int} (h : mapIs w b M) (ht : P.underlying t = some (.map kt et)) (hk : P.underlying kt = some (.int .i64)) (hz : (zeroValue et).run P w = .ok (.int .i64 0) w) (k : Int) :
    (Instr.lookup t (.map (some b)) (.int .i64 k) true).run P w = .ok (.tuple #[.int .i64 ((M k).getD 0), .bool (M k).isSome]) w := by
  obtain ⟨l, ck, hb, _, hM⟩ := h
  have := run_look ht hk hz hb k true
  rw [hM k]; simpa using this

theorem lk_append {k : Int} {x : Int × Int × Nat} : ∀ {l : List (Int × Int × Nat)}, lk x.1 l = none → lk k (l ++ [x]) = if x.1 = k then some x.2.1 else lk k l
  | [], _ => by simp [lk]
  | y :: r, h => by
    simp only [lk] at h
    by_cases hy : y.1 = x.1
    · simp [hy] at h
    · simp only [if_neg hy] at h
      simp only [List.cons_append, lk, lk_append h]
      by_cases h1 : y.1 = k
      · rw [if_pos h1, if_neg (fun e => hy (h1.trans e.symm)), if_pos h1]
      · rw [if_neg h1]; split <;> rfl
theorem lk_set {k0 v : Int} {k : Int} : ∀ {l : List (Int × Int × Nat)} {i : Nat} {n : Int × Nat} (j : Nat), (l.map (·.1)).Nodup → ix k0 l j = some (j + i) → l[i]? = some (k0, n) → ∀ n' : Int × Nat, n'.1 = v → lk k (l.set i (k0, n')) = if k0 = k then some v else lk k l := by
  intro l
  induction l with
  | nil => intro i n j _ h; simp [ix] at h
  | cons y r ih =>
    intro i n j hn h hg n' hv
    cases i with
    | zero =>
      simp only [List.set_cons_zero, lk]
      simp only [List.getElem?_cons_zero, Option.some.injEq] at hg
      subst hg
      split
      · rw [hv]
      · rfl
    | succ i =>
      simp only [ix] at h
      by_cases hy : y.1 = k0
      · simp only [if_pos hy, Option.some.injEq] at h; omega
      · simp only [if_neg hy] at h
        simp only [List.map_cons, List.nodup_cons] at hn
        have := ih (i := i) (n := n) (j + 1) hn.2 (by rw [h]; congr 1; omega) (by simpa using hg) n' hv
        simp only [List.set_cons_succ, lk, this]
        by_cases h1 : y.1 = k
        · rw [if_pos h1, if_neg (fun e => hy (h1.trans e.symm)), if_pos h1]
        · rw [if_neg h1]; split <;> rfl
theorem lk_erase {k0 : Int} {k : Int} : ∀ {l : List (Int × Int × Nat)} {i : Nat} (j : Nat), (l.map (·.1)).Nodup → ix k0 l j = some (j + i) → lk k (l.eraseIdx i) = if k0 = k then none else lk k l := by
  intro l
  induction l with
  | nil => intro i j _ h; simp [ix] at h
  | cons y r ih =>
    intro i j hn h
    simp only [ix] at h
    simp only [List.map_cons, List.nodup_cons] at hn
    by_cases hy : y.1 = k0
    · simp only [if_pos hy, Option.some.injEq] at h
      obtain rfl : i = 0 := by omega
      simp only [List.eraseIdx_cons_zero, lk]
      by_cases h1 : k0 = k
      · rw [if_pos h1, ← h1, ← hy]; exact lk_not.2 hn.1
      · rw [if_neg h1, if_neg (by rw [hy]; exact h1)]
    · simp only [if_neg hy] at h
      obtain ⟨m, x, e, _, _⟩ := ix_spec h
      obtain ⟨i, rfl⟩ : ∃ i', i = i' + 1 := ⟨i - 1, by omega⟩
      have := ih (i := i) (j + 1) hn.2 (by rw [h]; congr 1; omega)
      simp only [List.eraseIdx_cons_succ, lk, this]
      by_cases h1 : y.1 = k
      · rw [if_pos h1, if_neg (fun e => hy (h1.trans e.symm)), if_pos h1]
      · rw [if_neg h1]; split <;> rfl

/-- 'm[k] = v'. -/
theorem run_upd {w : World} {b : Nat} {M : Int → Option Int} (ht : P.underlying t = some (.map kt et)) (hk : P.underlying kt = some (.int .i64)) (h : mapIs w b M) (k v : Int) :
    ∃ o, (Instr.mapUpdate t (.map (some b)) (.int .i64 k) (.int .i64 v)).run P w = .ok () (setBlock w b o) ∧ mapIs (setBlock w b o) b (fun j => if k = j then some v else M j) := by
  obtain ⟨l, ck, hb, hn, hM⟩ := h
  have hc : ∀ em, (Instr.checkKey em 10000 kt (.int .i64 k)).run P w = .ok () w := fun em => run_check w em 9999 k hk
  have hf := findNow_ix k l 0
  cases hl : lk k l with
  | none =>
    rw [ix_none.2 hl] at hf
    refine ⟨.map ((l ++ [(k, v, ck)]).map ent).toArray (ck + 1), ?_, l ++ [(k, v, ck)], ck + 1, heap_setBlock_same hb _, ?_, fun j => ?_⟩
    · simp [Instr.mapUpdate, run_underlying ht, MapKept.run_getObj_map hb, hc, Instr.findKey, run_underlying hk, hf, MapKept.run_setObj_map _ hb, Result.andThen, setBlock, ent]
    · rw [List.map_append, List.nodup_append]
      refine ⟨hn, by simp, ?_⟩
      intro a ha b' hb' e
      simp only [List.map_cons, List.map_nil, List.mem_singleton] at hb'
      subst hb'; subst e
      exact lk_not.1 hl ha
    · show (if k = j then some v else M j) = _
      rw [lk_append hl, hM j]
  | some v0 =>
    obtain ⟨i, hi⟩ : ∃ i, ix k l 0 = some i := by
      cases h : ix k l 0 with
      | none => rw [ix_none] at h; rw [h] at hl; cases hl
      | some i => exact ⟨i, rfl⟩
    obtain ⟨m, x, e, hx, hxk⟩ := ix_spec hi
    obtain rfl : i = m := by omega
    rw [hi, hl] at hf
    obtain ⟨k1, n⟩ := x
    obtain rfl : k1 = k := hxk
    have hsb : ∀ s, Instr.sameBits 10000 (Value.int .i64 s) (.int .i64 s) = true := fun s => by simp [Instr.sameBits]
    refine ⟨.map ((l.set i (k1, v, n.2)).map ent).toArray ck, ?_, l.set i (k1, v, n.2), ck, heap_setBlock_same hb _, ?_, fun j => ?_⟩
    · have hlt := (List.getElem?_eq_some_iff.1 hx).1
      have hg := (List.getElem?_eq_some_iff.1 hx).2
      have h1 : (l.map ent).modify i (fun e => { key := Value.int .i64 k1, val := Value.int .i64 v, born := e.born }) = (l.map ent).set i { key := Value.int .i64 k1, val := Value.int .i64 v, born := n.2 } := by
        apply List.ext_getElem?
        intro j
        simp only [List.getElem?_modify, List.getElem?_map, List.getElem?_set]
        by_cases hj : i = j
        · subst hj; simp [hx, hlt, hg, ent]
        · simp [hj]
      simp [Instr.mapUpdate, run_underlying ht, MapKept.run_getObj_map hb, hc, Instr.findKey, run_underlying hk, hf, Instr.keyThatStays, hx, ent, hsb, MapKept.run_setObj_map _ hb, Result.andThen, setBlock]
      rw [h1]
    · have : (l.set i (k1, v, n.2)).map (·.1) = l.map (·.1) := by
        apply List.ext_getElem?
        intro j
        simp only [List.getElem?_map, List.getElem?_set]
        by_cases hj : i = j
        · subst hj
          rw [if_pos rfl, if_pos ((List.getElem?_eq_some_iff.1 hx).1), hx]
          rfl
        · simp [hj]
      rw [this]; exact hn
    · show (if k1 = j then some v else M j) = _
      rw [lk_set (n := n) 0 hn (by simpa using hi) hx (v, n.2) rfl, hM j]

/-- 'delete(m, k)'. -/
theorem run_del {w : World} {b : Nat} {M : Int → Option Int} (ht : P.underlying t = some (.map kt et)) (hk : P.underlying kt = some (.int .i64)) (h : mapIs w b M) (k : Int) (ty t2 : TypeId) :
    ∃ o, (Builtin.delete_ #[t, t2] ty #[.map (some b), .int .i64 k]).run P w = .ok (.tuple #[]) (setBlock w b o) ∧ mapIs (setBlock w b o) b (fun j => if k = j then none else M j) := by
  obtain ⟨l, ck, hb, hn, hM⟩ := h
  have hc : ∀ em, (Instr.checkKey em 10000 kt (.int .i64 k)).run P w = .ok () w := fun em => run_check w em 9999 k hk
  have hf := findNow_ix k l 0
  cases hl : lk k l with
  | none =>
    rw [ix_none.2 hl] at hf
    refine ⟨.map (l.map ent).toArray ck, ?_, l, ck, heap_setBlock_same hb _, hn, fun j => ?_⟩
    · simp [Builtin.delete_, run_underlying ht, MapKept.run_getObj_map hb, hc, Instr.findKey, run_underlying hk, hf, MapKept.run_setObj_map _ hb, Result.andThen, setBlock]
    · show (if k = j then none else M j) = _
      rw [hM j]; split
      · rename_i e; rw [← e, hl]
      · rfl
  | some v0 =>
    obtain ⟨i, hi⟩ : ∃ i, ix k l 0 = some i := by
      cases h : ix k l 0 with
      | none => rw [ix_none] at h; rw [h] at hl; cases hl
      | some i => exact ⟨i, rfl⟩
    obtain ⟨m, x, e, hx, hxk⟩ := ix_spec hi
    obtain rfl : i = m := by omega
    rw [hi, hl] at hf
    have hlt := (List.getElem?_eq_some_iff.1 hx).1
    refine ⟨.map ((l.eraseIdx i).map ent).toArray ck, ?_, l.eraseIdx i, ck, heap_setBlock_same hb _, ?_, fun j => ?_⟩
    · have h1 : (l.map ent).eraseIdx i = (l.eraseIdx i).map ent := (map_eraseIdx ent l i).symm
      simp [Builtin.delete_, run_underlying ht, MapKept.run_getObj_map hb, hc, Instr.findKey, run_underlying hk, hf, MapKept.run_setObj_map _ hb, Result.andThen, setBlock]
      rw [h1]
    · exact List.Nodup.sublist (List.Sublist.map _ (List.eraseIdx_sublist _ _)) hn
    · show (if k = j then none else M j) = _
      rw [lk_erase 0 hn (by simpa using hi), hM j]
end

theorem wpList_mapUpd {P : Program} {w : World} {ops : Array Oper} {rest : List Oper} {o : Oper} {a : Act} {Q : Exit → Act → World → Prop}
    (hg : o.guard = none) {m x v : Operand} {t : TypeId} (hop : o.op = Op.mapUpdate t m x v) {kt et : TypeId} (ht : P.underlying t = some (.map kt et)) (hk : P.underlying kt = some (.int .i64))
    {b : Nat} {M : Int → Option Int} {k u : Int} (hm : a.eval m = .map (some b)) (hx : a.eval x = .int .i64 k) (hv : a.eval v = .int .i64 u) (hown : mapIs w b M)
    (hK : ∀ o', mapIs (setBlock w b o') b (fun j => if k = j then some u else M j) → wpList P ops Q rest (a.put o.dst undef) (setBlock w b o')) :
    wpList P ops Q (o :: rest) a w := by
  refine wpList_plain hg fun K' hK' => ?_
  obtain ⟨o', hrun, r1⟩ := run_upd ht hk hown k u
  unfold Oper.wp
  simp [execOp, hop, hm, hx, hv, hrun, Result.andThen]
  exact hK' _ _ (hK o' r1)

theorem wpList_mapDel {P : Program} {w : World} {ops : Array Oper} {rest : List Oper} {o : Oper} {a : Act} {Q : Exit → Act → World → Prop}
    (hg : o.guard = none) {m x : Operand} {t t2 : TypeId} (hop : o.op = Op.call { callee := .builtin .delete, args := #[m, x], argTypes := #[t, t2] }) {kt et : TypeId} (ht : P.underlying t = some (.map kt et)) (hk : P.underlying kt = some (.int .i64))
    {b : Nat} {M : Int → Option Int} {k : Int} (hm : a.eval m = .map (some b)) (hx : a.eval x = .int .i64 k) (hown : mapIs w b M)
    (hK : ∀ o', mapIs (setBlock w b o') b (fun j => if k = j then none else M j) → wpList P ops Q rest (a.put o.dst (.tuple #[])) (setBlock w b o')) :
    wpList P ops Q (o :: rest) a w := by
  refine wpList_plain hg fun K' hK' => ?_
  obtain ⟨o', hrun, r1⟩ := run_del ht hk hown k o.type t2
  unfold Oper.wp
  simp [execOp, hop, hm, hx, hrun, Result.andThen, resolve, invoke, builtin]
  exact hK' _ _ (hK o' r1)

/-! ### a heap of pairs in an array, and where each stands -/
/-- An array of at least n pairs (at, id). -/
def arrIs (w : World) (b cap n : Nat) (e : TypeId) (g : Nat → Int × Int) : Prop :=
  ∃ cur, w.heap[b]? = some (.cells cur e (0, 0)) ∧ cur.size = cap * 2 ∧ n ≤ cap ∧ ∀ j, j < n → cur[j * 2]? = some (.int .i64 (g j).1) ∧ cur[j * 2 + 1]? = some (.int .i64 (g j).2)

theorem arrIs.of_block {w w' : World} {b cap n : Nat} {e : TypeId} {g : Nat → Int × Int} (h : arrIs w b cap n e g) (hb : w'.heap[b]? = w.heap[b]?) : arrIs w' b cap n e g := by
  obtain ⟨cur, h1, h2⟩ := h; exact ⟨cur, hb.trans h1, h2⟩
theorem arrIs.lt {w : World} {b cap n : Nat} {e : TypeId} {g : Nat → Int × Int} (h : arrIs w b cap n e g) : b < w.heap.size := by obtain ⟨cur, h1, _⟩ := h; exact heap_lt h1
theorem arrIs.at {w : World} {b cap n : Nat} {e : TypeId} {g : Nat → Int × Int} (h : arrIs w b cap n e g) {j : Nat} (hj : j < n) :
    w.cell? ⟨b, j * 2, none⟩ = some (.int .i64 (g j).1) ∧ w.cell? ⟨b, j * 2 + 1, none⟩ = some (.int .i64 (g j).2) ∧ w.frozen? ⟨b, j * 2, none⟩ = false ∧ w.frozen? ⟨b, j * 2 + 1, none⟩ = false := by
  obtain ⟨cur, h1, _, _, h2⟩ := h
  exact ⟨(cell_of h1 _).trans (h2 j hj).1, (cell_of h1 _).trans (h2 j hj).2, frozen_of h1 _, frozen_of h1 _⟩
theorem arrIs.less {w : World} {b cap n m : Nat} {e : TypeId} {g : Nat → Int × Int} (h : arrIs w b cap n e g) (hm : m ≤ n) : arrIs w b cap m e g := by
  obtain ⟨cur, h1, h2, h3, h4⟩ := h; exact ⟨cur, h1, h2, by omega, fun j hj => h4 j (by omega)⟩
theorem arrIs.set {w : World} {b cap n : Nat} {e : TypeId} {g : Nat → Int × Int} (h : arrIs w b cap n e g) {i : Nat} (hi : i < n) (x y : Int) :
    arrIs ((w.setCell ⟨b, i * 2, none⟩ (.int .i64 x)).setCell ⟨b, i * 2 + 1, none⟩ (.int .i64 y)) b cap n e (upd g i (x, y)) := by
  obtain ⟨cur, h1, h2, h3, h4⟩ := h
  refine ⟨_, heap_setCell_same (heap_setCell_same h1 _) _, by simpa using h2, h3, fun j hj => ?_⟩
  obtain ⟨k1, k2⟩ := h4 j hj
  simp only [Array.getElem?_setIfInBounds, upd, Array.size_setIfInBounds]
  by_cases e1 : j = i
  · subst e1
    simp only [if_true]
    rw [if_neg (by omega), if_pos (by omega), if_pos (by omega)]
    exact ⟨rfl, rfl⟩
  · rw [if_neg (show ¬ i * 2 + 1 = j * 2 by omega), if_neg (show ¬ i * 2 = j * 2 by omega), if_neg (show ¬ i * 2 + 1 = j * 2 + 1 by omega), if_neg (show ¬ i * 2 = j * 2 + 1 by omega)]
    rw [if_neg e1]
    exact ⟨k1, k2⟩

/-- The timers' memory: their two cells, the array, the map. -/
structure TRaw (w : World) (bt bh bm cap n : Nat) (g : Nat → Int × Int) (M : Int → Option Int) : Prop where
  top : w.heap[bt]? = some (.cells #[.slice (some ⟨bh, 0, none⟩) n cap, .map (some bm)] 28 (0, 0))
  arr : arrIs w bh cap n 54 g
  map : mapIs w bm M
  th : bt ≠ bh
  tm : bt ≠ bm
  hm : bh ≠ bm

theorem TRaw.of_blocks {w w' : World} {bt bh bm cap n : Nat} {g : Nat → Int × Int} {M : Int → Option Int} (h : TRaw w bt bh bm cap n g M) (h1 : w'.heap[bt]? = w.heap[bt]?) (h2 : w'.heap[bh]? = w.heap[bh]?) (h3 : w'.heap[bm]? = w.heap[bm]?) :
    TRaw w' bt bh bm cap n g M := ⟨h1.trans h.top, h.arr.of_block h2, h.map.of_block h3, h.th, h.tm, h.hm⟩
theorem TRaw.drew {w : World} {bt bh bm cap n : Nat} {g : Nat → Int × Int} {M : Int → Option Int} (h : TRaw w bt bh bm cap n g M) : TRaw w.drew bt bh bm cap n g M := h.of_blocks rfl rfl rfl
theorem TRaw.alloc {w : World} {bt bh bm cap n : Nat} {g : Nat → Int × Int} {M : Int → Option Int} (h : TRaw w bt bh bm cap n g M) (o : Obj) : TRaw (w.alloc o) bt bh bm cap n g M :=
  h.of_blocks (Below.heap_alloc _ _ _ (heap_lt h.top)) (Below.heap_alloc _ _ _ h.arr.lt) (Below.heap_alloc _ _ _ h.map.lt)
theorem TRaw.only {w w' : World} {bt bh bm cap n : Nat} {g : Nat → Int × Int} {M : Int → Option Int} (h : TRaw w bt bh bm cap n g M) {S : Nat → Prop} (ho : Only S w w') (h1 : ¬ S bt) (h2 : ¬ S bh) (h3 : ¬ S bm) : TRaw w' bt bh bm cap n g M :=
  h.of_blocks (ho.block _ (heap_lt h.top) h1) (ho.block _ h.arr.lt h2) (ho.block _ h.map.lt h3)
theorem TRaw.c0 {w : World} {bt bh bm cap n : Nat} {g : Nat → Int × Int} {M : Int → Option Int} (h : TRaw w bt bh bm cap n g M) : w.cell? ⟨bt, 0, none⟩ = some (.slice (some ⟨bh, 0, none⟩) n cap) ∧ w.cell? ⟨bt, 1, none⟩ = some (.map (some bm)) ∧ w.frozen? ⟨bt, 0, none⟩ = false :=
  ⟨(cell_of h.top 0).trans rfl, (cell_of h.top 1).trans rfl, frozen_of h.top 0⟩
/-- A pair is written. -/
theorem TRaw.set {w : World} {bt bh bm cap n : Nat} {g : Nat → Int × Int} {M : Int → Option Int} (h : TRaw w bt bh bm cap n g M) {i : Nat} (hi : i < n) (x y : Int) :
    TRaw ((w.setCell ⟨bh, i * 2, none⟩ (.int .i64 x)).setCell ⟨bh, i * 2 + 1, none⟩ (.int .i64 y)) bt bh bm cap n (upd g i (x, y)) M :=
  ⟨by rw [heap_setCell_ne _ _ _ h.th, heap_setCell_ne _ _ _ h.th]; exact h.top, h.arr.set hi x y,
   h.map.of_block (by rw [heap_setCell_ne _ _ _ (Ne.symm h.hm), heap_setCell_ne _ _ _ (Ne.symm h.hm)]), h.th, h.tm, h.hm⟩
/-- The map is written. -/
theorem TRaw.setMap {w : World} {bt bh bm cap n : Nat} {g : Nat → Int × Int} {M M' : Int → Option Int} (h : TRaw w bt bh bm cap n g M) {o : Obj} (hm : mapIs (setBlock w bm o) bm M') : TRaw (setBlock w bm o) bt bh bm cap n g M' := by
  have ne : ∀ k, k ≠ bm → (setBlock w bm o).heap[k]? = w.heap[k]? := fun k hk => by
    show (w.heap.setIfInBounds bm o)[k]? = _
    rw [Array.getElem?_setIfInBounds, if_neg (Ne.symm hk)]
  exact ⟨(ne _ h.tm).trans h.top, h.arr.of_block (ne _ h.hm), hm, h.th, h.tm, h.hm⟩
/-- The slice is made shorter. -/
theorem TRaw.shrink {w : World} {bt bh bm cap n m : Nat} {g : Nat → Int × Int} {M : Int → Option Int} (h : TRaw w bt bh bm cap n g M) (hm : m ≤ n) : TRaw (w.setCell ⟨bt, 0, none⟩ (.slice (some ⟨bh, 0, none⟩) m cap)) bt bh bm cap m g M :=
  ⟨by rw [heap_setCell_same h.top]; rfl, (h.arr.less hm).of_block (heap_setCell_ne _ _ _ (Ne.symm h.th)), h.map.of_block (heap_setCell_ne _ _ _ (Ne.symm h.tm)), h.th, h.tm, h.hm⟩

end Go.Proofs.YtbgklnepmljiaaaMem
