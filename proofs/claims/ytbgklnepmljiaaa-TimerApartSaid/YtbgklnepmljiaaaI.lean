/- What timers are, as a list of pairs (at, id), in any order; plain laws of such lists. -/
import Derived.Test.YtbgklnepmljiaaaM
namespace Go.Proofs.YtbgklnepmljiaaaMem
open Go.RowKit Go.ChangeMaps Go.MapKept

/-! ### lists of pairs -/
/-- Without an id. -/
def wo (m : List (Int × Int)) (id : Int) : List (Int × Int) := m.filter fun p => !decide (p.2 = id)
def has (m : List (Int × Int)) (id : Int) : Bool := m.any fun p => decide (p.2 = id)
theorem has_iff {m : List (Int × Int)} {id : Int} : has m id = true ↔ ∃ p, p ∈ m ∧ p.2 = id := by simp [has]
theorem mem_wo {m : List (Int × Int)} {id : Int} {p : Int × Int} : p ∈ wo m id ↔ p ∈ m ∧ p.2 ≠ id := by simp [wo]
theorem wo_not {m : List (Int × Int)} {id : Int} (h : has m id = false) : wo m id = m := by
  unfold wo
  rw [List.filter_eq_self]
  intro p hp
  have : ¬ ∃ p, p ∈ m ∧ p.2 = id := by rw [← has_iff, h]; simp
  simp only [Bool.not_eq_true', decide_eq_false_iff_not]
  exact fun e => this ⟨p, hp, e⟩
theorem wo_nodup {m : List (Int × Int)} {id : Int} (h : (m.map (·.2)).Nodup) : ((wo m id).map (·.2)).Nodup :=
  List.Nodup.sublist (List.Sublist.map _ List.filter_sublist) h
theorem wo_le (m : List (Int × Int)) (id : Int) : (wo m id).length ≤ m.length := List.length_filter_le _ _
theorem wo_length {id : Int} : ∀ {m : List (Int × Int)}, (m.map (·.2)).Nodup → has m id = true → (wo m id).length + 1 = m.length
  | [], _, h => by simp [has] at h
  | p :: r, hn, h => by
    simp only [List.map_cons, List.nodup_cons] at hn
    by_cases e : p.2 = id
    · have hf : has r id = false := by
        cases hh : has r id with
        | false => rfl
        | true =>
          obtain ⟨q, hq, e2⟩ := has_iff.1 hh
          exact absurd (List.mem_map.2 ⟨q, hq, e2.trans e.symm⟩) hn.1
      have := wo_not hf
      unfold wo at this ⊢
      rw [List.filter_cons, if_neg (by simp [e]), this]; rfl
    · have hr : has r id = true := by
        obtain ⟨q, hq, e2⟩ := has_iff.1 h
        rcases List.mem_cons.1 hq with rfl | hq
        · exact absurd e2 e
        · exact has_iff.2 ⟨q, hq, e2⟩
      have := wo_length hn.2 hr
      unfold wo at this ⊢
      rw [List.filter_cons, if_pos (by simp [e]), List.length_cons, List.length_cons, this]
/-- Set. -/
def put (m : List (Int × Int)) (id at_ : Int) : List (Int × Int) := wo m id ++ [(at_, id)]
theorem put_nodup {m : List (Int × Int)} {id at_ : Int} (h : (m.map (·.2)).Nodup) : ((put m id at_).map (·.2)).Nodup := by
  unfold put
  rw [List.map_append, List.nodup_append]
  refine ⟨wo_nodup h, by simp, ?_⟩
  intro a ha b hb e
  simp only [List.map_cons, List.map_nil, List.mem_singleton] at hb
  obtain ⟨p, hp, e2⟩ := List.mem_map.1 ha
  exact (mem_wo.1 hp).2 (e2.trans (e.trans hb))
/-- The least. -/
def minOf : List (Int × Int) → Option (Int × Int)
  | [] => none
  | p :: r => match minOf r with
    | none => some p
    | some q => if ltB q p then some q else some p
theorem minOf_none : ∀ {m : List (Int × Int)}, minOf m = none ↔ m = []
  | [] => by simp [minOf]
  | p :: r => by
    simp only [minOf]
    cases minOf r with
    | none => simp
    | some q => simp only; split <;> simp
theorem minOf_spec : ∀ {m : List (Int × Int)} {p : Int × Int}, minOf m = some p → p ∈ m ∧ ∀ q, q ∈ m → le p q
  | [], _, h => by simp [minOf] at h
  | x :: r, p, h => by
    simp only [minOf] at h
    cases hr : minOf r with
    | none =>
      rw [hr] at h
      simp only [Option.some.injEq] at h
      subst h
      rw [minOf_none] at hr
      subst hr
      exact ⟨by simp, fun q hq => by simp at hq; rw [hq]; exact le_refl _⟩
    | some y =>
      rw [hr] at h
      obtain ⟨a, b⟩ := minOf_spec hr
      simp only at h
      by_cases hl : ltB y x = true
      · rw [if_pos hl, Option.some.injEq] at h
        subst h
        refine ⟨List.mem_cons_of_mem _ a, fun q hq => ?_⟩
        rcases List.mem_cons.1 hq with rfl | hq
        · exact le_of_lt hl
        · exact b q hq
      · rw [if_neg hl, Option.some.injEq] at h
        subst h
        have hl' : ltB y x = false := by simpa using hl
        refine ⟨by simp, fun q hq => ?_⟩
        rcases List.mem_cons.1 hq with rfl | hq
        · exact le_refl _
        · exact le_trans hl' (b q hq)
theorem minOf_eq {m : List (Int × Int)} {p : Int × Int} (h1 : p ∈ m) (h2 : ∀ q, q ∈ m → le p q) : minOf m = some p := by
  cases h : minOf m with
  | none => rw [minOf_none] at h; rw [h] at h1; simp at h1
  | some q =>
    obtain ⟨a, b⟩ := minOf_spec h
    rw [le_antisymm (h2 q a) (b p h1)]
/-- The ids that are due, and what is left. -/
def dueOf : Nat → List (Int × Int) → Int → List Int × List (Int × Int)
  | 0, m, _ => ([], m)
  | k + 1, m, now => match minOf m with
    | none => ([], m)
    | some p => if p.1 ≤ now then (p.2 :: (dueOf k (wo m p.2) now).1, (dueOf k (wo m p.2) now).2) else ([], m)
/-- One is the first, and due; or none. -/
def isDue (m : List (Int × Int)) (now : Int) : Bool := match minOf m with | none => false | some p => decide (p.1 ≤ now)
theorem due_nodup : ∀ {k : Nat} {m : List (Int × Int)} {now : Int}, (m.map (·.2)).Nodup → ((dueOf k m now).2.map (·.2)).Nodup
  | 0, _, _, h => h
  | k + 1, m, now, h => by
    simp only [dueOf]
    cases minOf m with
    | none => exact h
    | some p =>
      simp only
      split
      · exact due_nodup (wo_nodup h)
      · exact h
theorem due_le : ∀ (k : Nat) (m : List (Int × Int)) (now : Int), (dueOf k m now).2.length ≤ m.length
  | 0, m, _ => Nat.le_refl _
  | k + 1, m, now => by
    simp only [dueOf]
    cases minOf m with
    | none => exact Nat.le_refl _
    | some p =>
      simp only
      split
      · exact Nat.le_trans (due_le k _ _) (wo_le _ _)
      · exact Nat.le_refl _
theorem due_len : ∀ (k : Nat) (m : List (Int × Int)) (now : Int), (dueOf k m now).1.length ≤ k
  | 0, m, _ => Nat.le_refl _
  | k + 1, m, now => by
    simp only [dueOf]
    cases minOf m with
    | none => simp
    | some p =>
      simp only
      split
      · simp only [List.length_cons]; exact Nat.succ_le_succ (due_len k _ _)
      · simp

/-! ### what timers are -/
/-- All that holds of the timers at bt whose blocks are in S. -/
inductive TInv (w : World) (bt : Nat) (S : Nat → Prop) (m : List (Int × Int)) : Prop
  | bare (v : Value) (top : w.heap[bt]? = some (.cells #[v, .map none] 28 (0, 0))) (row : w.ownsRow 0 54 2 v 0 []) (hb : ∀ k, v.ownBlock = some k → S k) (hm : m = []) (hS : S bt) (hlt : ∀ k, S k → k < w.heap.size)
  | full (bh bm cap n : Nat) (g : Nat → Int × Int) (M : Int → Option Int) (raw : TRaw w bt bh bm cap n g M) (ok : Ok g n) (map : Map M g n n) (apart : Apart g n) (len : n = m.length) (mem : ∀ p, (∃ j, j < n ∧ g j = p) ↔ p ∈ m)
      (hcap : cap ≤ maxLen) (nd : (m.map (·.2)).Nodup) (hS : S bt) (h1 : S bh) (h2 : S bm) (hlt : ∀ k, S k → k < w.heap.size)
theorem TInv.hS {w : World} {bt : Nat} {S : Nat → Prop} {m : List (Int × Int)} (h : TInv w bt S m) : S bt ∧ ∀ k, S k → k < w.heap.size := by
  cases h with
  | bare v top row hb hm hS hlt => exact ⟨hS, hlt⟩
  | full bh bm cap n g M raw ok map apart len mem hcap nd hS h1 h2 hlt => exact ⟨hS, hlt⟩
/-- They stay while others are written. -/
theorem TInv.only {w w' : World} {bt : Nat} {S T : Nat → Prop} {m : List (Int × Int)} (h : TInv w bt S m) (ho : Only T w w') (hd : ∀ k, S k → ¬ T k) : TInv w' bt S m := by
  have hsz := ho.size
  cases h with
  | bare v top row hb hm hS hlt =>
    refine .bare v ((ho.block _ (hlt _ hS) (hd _ hS)).trans top) ⟨row.1, ?_⟩ hb hm hS (fun k hk => by have := hlt k hk; omega)
    rcases row.2 with h | ⟨g, cap, cur, hv, a, b, c⟩
    · exact .inl h
    · refine .inr ⟨g, cap, cur, hv, a, ?_, c⟩
      have hg : S g := hb g (by rw [hv]; rfl)
      rw [ho.block _ (hlt _ hg) (hd _ hg)]; exact b
  | full bh bm cap n g M raw ok map apart len mem hcap nd hS h1 h2 hlt =>
    exact .full bh bm cap n g M (raw.only ho (hd _ hS) (hd _ h1) (hd _ h2)) ok map apart len mem hcap nd hS h1 h2 (fun k hk => by have := hlt k hk; omega)
theorem TInv.nodup {w : World} {bt : Nat} {S : Nat → Prop} {m : List (Int × Int)} (h : TInv w bt S m) : (m.map (·.2)).Nodup := by
  cases h with
  | bare v top row hb hm hS hlt => subst hm; simp
  | full bh bm cap n g M raw ok map apart len mem hcap nd hS h1 h2 hlt => exact nd
theorem TInv.apart {w : World} {bt : Nat} {S : Nat → Prop} {m : List (Int × Int)} (h : TInv w bt S m) : ∀ {p q}, p ∈ m → q ∈ m → p.2 = q.2 → p = q := by
  intro p q hp hq e
  cases h with
  | bare v top row hb hm hS hlt => subst hm; simp at hp
  | full bh bm cap n g M raw ok map apart len mem hcap nd hS h1 h2 hlt =>
    obtain ⟨i, hi, rfl⟩ := (mem p).2 hp
    obtain ⟨j, hj, rfl⟩ := (mem q).2 hq
    rw [apart i j hi hj e]

/-! ### append: what comes back lies where it lay, or in the newest block -/
section
variable {P : Program} {w : World}
theorem append_where {base : Nat} {t ty e : TypeId} {i : TypeInfo} {z : Value} {size bytes : Nat} (ht : P.underlying t = some (.slice e)) (hi : P.info? e = some i) (hz : i.zero = some z)
    (hsize : i.size = size) (hby : i.bytes = bytes) {v : Value} {n : Nat} {xs : List Value} (hown : w.ownsRow base e size v n xs)
    {a : Addr} {m c : Nat} {news : List Value} (hl : news.length = m * size) (hnews : ∀ j u, news[j]? = some u → w.cell? (a.add j) = some u) (h1 : ∀ u ∈ news, u.oneCell' = true) (hm : 0 < m)
    (h63 : n + m ≤ maxLen) (hbytes : (n + m) * bytes ≤ 140737488355328) {v' : Value} {w' : World} (hr : (Builtin.append_ #[t, t] ty #[v, .slice (some a) m c]).run P w = .ok v' w') :
    v'.ownBlock = v.ownBlock ∨ v'.ownBlock = some w.heap.size := by
  subst hsize
  subst hby
  have hsmall : n + m ≤ 9223372036854775807 := by simp only [maxLen] at h63; omega
  rcases hown.2 with ⟨rfl, rfl⟩ | ⟨g, cap, cur, rfl, hbg, hg, hnc, hcm, hcs, htake⟩
  · rw [run_append_nil (P := P) w t ty e i z ht hi hz a m c news hl hnews hm (by omega) (by simp only [Nat.zero_add] at hbytes; omega)] at hr
    cases hr
    exact .inr rfl
  · by_cases hroom : n + m ≤ cap
    · have hfit : n * i.size + news.length ≤ cur.size := by rw [hl, hcs, ← Nat.add_mul]; exact Nat.mul_le_mul_right _ hroom
      rw [run_append_room (P := P) w t ty e i ht hi g n cap cur hg a m c news hl hnews h1 hroom hfit] at hr
      cases hr
      exact .inl rfl
    · rw [run_append_grow (P := P) w t ty e i z ht hi hz ⟨g, 0, none⟩ n cap xs hown.1 (hown.cells (g := g) rfl) a m c news hl hnews (by omega) (by omega) (growslice_fits (by omega) hbytes)] at hr
      cases hr
      exact .inr rfl
theorem wpList_append2 {ops : Array Oper} {rest : List Oper} {o : Oper} {a : Act} {Q : Exit → Act → World → Prop} (hgd : o.guard = none) {s x : Operand} {t : TypeId}
    (ho : o.op = .call { callee := .builtin .append, args := #[s, x], argTypes := #[t, t] })
    {base : Nat} {e : TypeId} {i : TypeInfo} {z : Value} {size bytes : Nat} (ht : P.underlying t = some (.slice e)) (hi : P.info? e = some i) (hz : i.zero = some z)
    (hsize : i.size = size) (hby : i.bytes = bytes) (hzs : z.cells.size = size) (hsz : 0 < size)
    {v : Value} {n : Nat} {xs : List Value} (hs : a.eval s = v) (hown : w.ownsRow base e size v n xs)
    {ad : Addr} {m c : Nat} {news : List Value} (hx : a.eval x = .slice (some ad) m c) (hl : news.length = m * size) (hnews : ∀ j u, news[j]? = some u → w.cell? (ad.add j) = some u) (h1 : ∀ u ∈ news, u.oneCell' = true)
    (hm : 0 < m) (h63 : n + m ≤ maxLen) (hbytes : (n + m) * bytes ≤ 140737488355328) (hbase : base ≤ w.heap.size)
    (h : ∀ v' w', w'.ownsRow base e size v' (n + m) (xs ++ news) → w.grownBy w' v.ownBlock → v'.ownBlock = v.ownBlock ∨ v'.ownBlock = some w.heap.size → wpList P ops Q rest (a.put o.dst v') w') : wpList P ops Q (o :: rest) a w := by
  refine wpList_plain hgd fun K hK => ?_
  obtain ⟨v', w', hr, h2, h3, _⟩ := run_append_own (P := P) w base t o.type e i z size bytes ht hi hz hsize hby hzs hsz v n xs hown ad m c news hl hnews h1 h63 hbytes hbase
  have h4 := append_where ht hi hz hsize hby hown hl hnews h1 hm h63 hbytes hr
  unfold Oper.wp execOp
  simp only [ho, resolve, invoke, builtin, Sem.run_bind, Sem.run_pure, Result.andThen_ok, List.map_toArray, List.map_cons, List.map_nil, hs, hx, hr]
  exact hK _ _ (h v' w' h2 h3 h4)
end
theorem Only.of_grown {w w' : World} {b : Option Nat} (h : w.grownBy w' b) : Only (fun k => b = some k) w w' := ⟨h.os, h.tape, h.output, h.size, fun k hk hs => h.block k hk (fun e => hs e.symm)⟩

/-- Pairs, cell by cell. -/
def flat : List (Int × Int) → List Value
  | [] => []
  | p :: r => .int .i64 p.1 :: .int .i64 p.2 :: flat r
theorem flat_length : ∀ (l : List (Int × Int)), (flat l).length = l.length * 2
  | [] => rfl
  | p :: r => by simp only [flat, List.length_cons, flat_length r]; omega
theorem flat_append : ∀ (l k : List (Int × Int)), flat (l ++ k) = flat l ++ flat k
  | [], _ => rfl
  | p :: r, k => by simp only [List.cons_append, flat, flat_append r k]
theorem flat_get : ∀ (l : List (Int × Int)) (j : Nat) (p : Int × Int), l[j]? = some p → (flat l)[j * 2]? = some (.int .i64 p.1) ∧ (flat l)[j * 2 + 1]? = some (.int .i64 p.2)
  | [], j, p, h => by simp at h
  | q :: r, 0, p, h => by simp at h; subst h; simp [flat]
  | q :: r, j + 1, p, h => by
    have := flat_get r j p (by simpa using h)
    simp only [flat, Nat.add_mul, Nat.one_mul]
    exact ⟨by simpa using this.1, by simpa using this.2⟩
theorem flat_one : ∀ (l : List (Int × Int)), ∀ u ∈ flat l, u.oneCell' = true
  | [], u, h => by simp [flat] at h
  | p :: r, u, h => by
    simp only [flat, List.mem_cons] at h
    rcases h with rfl | rfl | h
    · rfl
    · rfl
    · exact flat_one r u h
/-- The pairs of a function. -/
def listOf (g : Nat → Int × Int) (n : Nat) : List (Int × Int) := (List.range n).map g
theorem listOf_get {g : Nat → Int × Int} {n j : Nat} (h : j < n) : (listOf g n)[j]? = some (g j) := by simp [listOf, h]
theorem listOf_length (g : Nat → Int × Int) (n : Nat) : (listOf g n).length = n := by simp [listOf]
theorem listOf_congr {g h : Nat → Int × Int} {n : Nat} (e : ∀ j, j < n → g j = h j) : listOf g n = listOf h n := by
  unfold listOf
  exact List.map_congr_left fun j hj => e j (List.mem_range.1 hj)
theorem listOf_succ (g : Nat → Int × Int) (n : Nat) (x : Int × Int) : listOf (upd g n x) (n + 1) = listOf g n ++ [x] := by
  unfold listOf
  rw [List.range_succ, List.map_append]
  congr 1
  · exact List.map_congr_left fun j hj => by have := List.mem_range.1 hj; unfold upd; rw [if_neg (by omega)]
  · simp [upd]
theorem ext_pairs {cur : Array Value} {n : Nat} {g : Nat → Int × Int} (hs : n * 2 ≤ cur.size) (h : ∀ j, j < n → cur[j * 2]? = some (.int .i64 (g j).1) ∧ cur[j * 2 + 1]? = some (.int .i64 (g j).2)) : cur.toList.take (n * 2) = flat (listOf g n) := by
  apply List.ext_getElem?
  intro k
  by_cases hk : k < n * 2
  · rw [List.getElem?_take, if_pos hk]
    obtain ⟨j, hj⟩ : ∃ j, k = j * 2 ∨ k = j * 2 + 1 := ⟨k / 2, by omega⟩
    have jn : j < n := by omega
    have a := h j jn
    have b := flat_get _ _ _ (listOf_get (g := g) jn)
    rcases hj with rfl | rfl
    · rw [b.1, Array.getElem?_toList, a.1]
    · rw [b.2, Array.getElem?_toList, a.2]
  · rw [List.getElem?_eq_none (by rw [List.length_take]; omega), List.getElem?_eq_none (by rw [flat_length, listOf_length]; omega)]
theorem arrIs.row {w : World} {b cap n : Nat} {e : TypeId} {g : Nat → Int × Int} (h : arrIs w b cap n e g) (hc : cap ≤ maxLen) : w.ownsRow 0 e 2 (.slice (some ⟨b, 0, none⟩) n cap) n (flat (listOf g n)) := by
  obtain ⟨cur, h1, h2, h3, h4⟩ := h
  exact ⟨by rw [flat_length, listOf_length], .inr ⟨b, cap, cur, rfl, Nat.zero_le _, h1, h3, hc, h2, ext_pairs (by omega) h4⟩⟩
theorem row_arr {w : World} {base n : Nat} {e : TypeId} {v : Value} {g : Nat → Int × Int} (h : w.ownsRow base e 2 v (n + 1) (flat (listOf g (n + 1)))) : ∃ b cap, v = .slice (some ⟨b, 0, none⟩) (n + 1) cap ∧ arrIs w b cap (n + 1) e g ∧ cap ≤ maxLen ∧ base ≤ b := by
  rcases h.2 with ⟨_, h0⟩ | ⟨b, cap, cur, hv, hb, hg, hn, hc, hs, ht⟩
  · omega
  · refine ⟨b, cap, hv, ⟨cur, hg, hs, hn, fun j jn => ?_⟩, hc, hb⟩
    have a := flat_get _ _ _ (listOf_get (g := g) jn)
    rw [← ht, List.getElem?_take, if_pos (by omega), List.getElem?_take, if_pos (by omega), Array.getElem?_toList, Array.getElem?_toList] at a
    exact a

end Go.Proofs.YtbgklnepmljiaaaMem
