/- The walks over the reference's Set, Find, First. -/
import Derived.Test.YtbgklnepmljiaaaK
namespace Go.Proofs.Ytbgklnepmljiaaa
open Go.RowKit YtbgklnepmljiaaaMem Go.ChangeMaps

set_option maxHeartbeats 400000 in
theorem rset_calls {v : Value} {m : List (Int × Int)} {w : World} (hv : ones w 0 v m) (hl : m.length < 1000000) (id at_ : Int) :
    Calls Try.prog 8 #[v, .int .i64 id, .int .i64 at_] w (OnesP (YtbgklnepmljiaaaMem.put m id at_) w) := by
  obtain ⟨i0, hi, hz0, hz1, hz2⟩ := info_parts Try.info58
  go_enter Try.func8, Try.ntmps8
  go_wp2_with fail
  refine (rdrop_calls hv (by omega) id).mono ?_
  rintro e w1 ⟨v1, rfl, ho, hb⟩
  have hR2 := row_kept (w' := w1.alloc (Obj.cells #[Value.int IntKind.i64 id, Value.int IntKind.i64 at_] 58)) ho (fun k hk => Below.heap_alloc _ _ _ (ho.lt hk).2)
  have HR2 := Lib.hid hR2
  have HB := Lib.hid hb
  have HO := Lib.hid (fun k hk => (ho.lt (k := k) hk).1)
  have hwl : (wo m id).length ≤ 1000000 := by have := wo_le m id; omega
  have hsz := hb.size
  clear ho hb hR2 hv
  go_wp2_with (first | (at_builtin; refine wpList_append2 rfl rfl Try.underlying29 hi hz0 hz1 hz2 rfl (by decide) rfl HR2.out rfl (news := [.int .i64 id, .int .i64 at_]) (m := 1) rfl ?a1 ?a2 (by decide) (by unfold maxLen; omega) (by omega) (by simp; omega) ?a3))
  case a1 => exact news_at w1 _ _
  case a2 => exact flat_one [(id, at_)]
  case a3 =>
    intro v' w2 hR hG hW
    have HR := Lib.hid (show OnesP (YtbgklnepmljiaaaMem.put m id at_) w (.returned v') w2 from ⟨v', rfl, by
      unfold ones YtbgklnepmljiaaaMem.put; rw [List.length_append, List.map_append, flat_append]; exact hR,
      ((HB.out.alloc HB.out.size _).grown hG (by simp; omega) (fun k hk => HO.out k hk))⟩)
    clear hR hG hW
    go_wp2_with fail
    go_ret
    exact HR.out

/-- Where an id stands; -1: nowhere. -/
def fi (m : List (Int × Int)) (id : Int) : Int := match m.findIdx? (fun p => decide (p.2 = id)) with | some k => (k : Int) | none => -1
theorem fi_at {m : List (Int × Int)} {id : Int} {j : Nat} {p : Int × Int} (hp : m[j]? = some p) (e : p.2 = id) (hb : ∀ (k : Nat) (q : Int × Int), k < j → m[k]? = some q → q.2 ≠ id) : fi m id = (j : Int) := by
  unfold fi
  have : m.findIdx? (fun p => decide (p.2 = id)) = some j := by
    rw [List.findIdx?_eq_some_iff_getElem]
    obtain ⟨h, hp⟩ := List.getElem?_eq_some_iff.1 hp
    refine ⟨h, by simpa [hp] using e, fun k hk => ?_⟩
    simpa using hb k m[k] hk (by simp)
  rw [this]
theorem fi_none {m : List (Int × Int)} {id : Int} (hb : ∀ (k : Nat) (q : Int × Int), m[k]? = some q → q.2 ≠ id) : fi m id = -1 := by
  unfold fi
  have : m.findIdx? (fun p => decide (p.2 = id)) = none := by
    rw [List.findIdx?_eq_none_iff]
    intro q hq
    obtain ⟨k, hk, rfl⟩ := List.mem_iff_getElem.1 hq
    simpa using hb k m[k] (by simp)
  rw [this]
/-- What an index tells. -/
theorem fi_spec (m : List (Int × Int)) (id : Int) : (has m id = true ∧ ∃ (j : Nat) (p : Int × Int), m[j]? = some p ∧ p.2 = id ∧ fi m id = (j : Int)) ∨ (has m id = false ∧ fi m id = -1) := by
  unfold fi
  cases h : m.findIdx? (fun p => decide (p.2 = id)) with
  | none =>
    rw [List.findIdx?_eq_none_iff] at h
    refine .inr ⟨?_, rfl⟩
    cases hh : has m id with
    | false => rfl
    | true => obtain ⟨p, hp, e⟩ := has_iff.1 hh; have := h p hp; simp [e] at this
  | some j =>
    rw [List.findIdx?_eq_some_iff_getElem] at h
    obtain ⟨hj, e, _⟩ := h
    exact .inl ⟨has_iff.2 ⟨m[j], List.getElem_mem hj, by simpa using e⟩, j, m[j], by simp, by simpa using e, rfl⟩

def FindRel (m : List (Int × Int)) (id : Int) (i : Value) : Prop := ∃ j : Nat, j ≤ m.length ∧ i = .int .i64 (j : Int) ∧ ∀ (k : Nat) (q : Int × Int), k < j → m[k]? = some q → q.2 ≠ id
set_option maxHeartbeats 400000 in
theorem rfind_calls {v : Value} {m : List (Int × Int)} {w : World} (hv : ones w 0 v m) (hl : m.length ≤ 1000000) (id : Int) :
    Calls Try.prog 24 #[v, .int .i64 id] w fun e w' => e = .returned (.int .i64 (fi m id)) ∧ w = w' := by
  obtain ⟨a, c, rfl, hmc, hcells⟩ := hv.form
  have HC := Lib.hid hcells
  clear hv hcells
  go_enter Try.func24, Try.ntmps24
  go_wp2
  go_loop [5] (fun i => FindRel m id i) (fun i => m.length - (intOf i).toNat)
  case atStart => exact ⟨0, Nat.zero_le _, rfl, fun k q hk => absurd hk (Nat.not_lt_zero k)⟩
  case round =>
    obtain ⟨j, hj, rfl, hbe⟩ := hrel
    by_cases hlt : j < m.length
    · obtain ⟨p, hp⟩ : ∃ p, m[j]? = some p := ⟨m[j], by simp [hlt]⟩
      obtain ⟨b, rfl, g0, g1⟩ := HC.out j p hp
      by_cases hid : p.2 = id
      · have hne : (p.2 == id) = true := by simp [hid]
        have HF := Lib.hid (fi_at hp hid hbe)
        clear hbe hp hid g1
        go_wp2_with fail
        go_ret
        exact ⟨by rw [HF.out]; rfl, rfl⟩
      · have hne : (p.2 == id) = false := by simp [hid]
        have HR := Lib.hid (show FindRel m id (.int .i64 ((j + 1 : Nat) : Int)) from ⟨j + 1, hlt, rfl, fun k q hk hq => by
          by_cases e : k = j
          · subst e; rw [hp] at hq; cases hq; exact hid
          · exact hbe k q (by omega) hq⟩)
        clear hbe hp hid g1
        go_wp2_with fail
        go_round
        case rel => exact HR.out
        case measure => simp [intOf]; omega
    · have HF := Lib.hid (fi_none (m := m) (id := id) fun k q hq => hbe k q (by have := (List.getElem?_eq_some_iff.1 hq).1; omega) hq)
      clear hbe
      go_wp2_with fail
      go_ret
      exact ⟨by rw [HF.out]; rfl, rfl⟩

/-- Where the first one stands: -1, or a place at which it is. -/
def FirstK (m : List (Int × Int)) (k : Int) : Prop := (m = [] ∧ k = -1) ∨ ∃ (j : Nat) (p : Int × Int), k = (j : Int) ∧ m[j]? = some p ∧ minOf m = some p
def FirstRel (m : List (Int × Int)) (k i : Value) : Prop := ∃ (j : Nat) (q : Int), j ≤ m.length ∧ i = .int .i64 (j : Int) ∧ k = .int .i64 q ∧ ((j = 0 ∧ q = -1) ∨ ∃ (a : Nat) (p : Int × Int), a < j ∧ q = (a : Int) ∧ m[a]? = some p ∧ minOf (m.take j) = some p)
theorem min_take {m : List (Int × Int)} {j : Nat} {p x : Int × Int} (hx : m[j]? = some x) (hm : minOf (m.take j) = some p) : minOf (m.take (j + 1)) = some (if ltB x p then x else p) := by
  have jn := (List.getElem?_eq_some_iff.1 hx).1
  have hp := (List.getElem?_eq_some_iff.1 hx).2
  obtain ⟨h1, h2⟩ := minOf_spec hm
  rw [List.take_succ_eq_append_getElem jn, hp]
  by_cases hl : ltB x p = true
  · rw [if_pos hl]
    refine minOf_eq (by simp) fun q hq => ?_
    rcases List.mem_append.1 hq with h | h
    · exact le_trans (le_of_lt hl) (h2 q h)
    · rw [List.mem_singleton.1 h]; exact le_refl _
  · rw [if_neg hl]
    refine minOf_eq (List.mem_append.2 (.inl h1)) fun q hq => ?_
    rcases List.mem_append.1 hq with h | h
    · exact h2 q h
    · rw [List.mem_singleton.1 h]; simpa [le] using hl
theorem min_take0 {m : List (Int × Int)} {x : Int × Int} (hx : m[0]? = some x) : minOf (m.take (0 + 1)) = some x := by
  cases m with
  | nil => simp at hx
  | cons y r => simp at hx; subst hx; simp [minOf]

theorem Alike0.cell {w w' : World} (h : Alike0 w w') (a : Addr) : w'.cell? a = w.cell? a := by obtain ⟨k, rfl⟩ := h; rfl
theorem Alike0.drewN {w w' : World} (h : Alike0 w w') (n : Nat) : Alike0 w (w'.drewN n) := by obtain ⟨k, rfl⟩ := h; exact ⟨_, rfl⟩
theorem Alike0.drew {w w' : World} (h : Alike0 w w') : Alike0 w w'.drew := by obtain ⟨k, rfl⟩ := h; exact ⟨_, rfl⟩

set_option maxHeartbeats 4000000 in
theorem rfirst_calls {v : Value} {m : List (Int × Int)} {w : World} (hv : ones w 0 v m) (hl : m.length ≤ 1000000) :
    Calls Try.prog 23 #[v] w fun e w' => ∃ k, e = .returned (.int .i64 k) ∧ FirstK m k ∧ Alike0 w w' := by
  obtain ⟨a, c, rfl, hmc, hcells⟩ := hv.form
  have HC := Lib.hid hcells
  clear hv hcells
  go_enter Try.func23, Try.ntmps23
  go_wp2
  go_loopw [3, 4] (fun k i wr => FirstRel m k i ∧ Alike0 w wr) (fun _ i _ => m.length - (intOf i).toNat)
  case atStart => exact ⟨⟨0, -1, Nat.zero_le _, rfl, rfl, .inl ⟨rfl, rfl⟩⟩, _, rfl⟩
  case round =>
    obtain ⟨⟨j, q, hj, rfl, rfl, hq⟩, hA⟩ := hrel
    by_cases hlt : j < m.length
    · obtain ⟨x, hx⟩ : ∃ x, m[j]? = some x := ⟨m[j], by simp [hlt]⟩
      obtain ⟨b, rfl, g0, g1⟩ := HC.out j x hx
      have x0 := (hA.cell _).trans g0
      have x1 := (hA.cell _).trans g1
      have HA := Lib.hid hA
      rcases hq with ⟨rfl, rfl⟩ | ⟨k, p, hkj, rfl, hp, hm⟩
      · have HR := Lib.hid (show FirstRel m (.int .i64 0) (.int .i64 ((0 + 1 : Nat) : Int)) from ⟨1, 0, hlt, rfl, rfl, .inr ⟨0, x, by omega, rfl, hx, min_take0 hx⟩⟩)
        clear hx g0 g1 hA
        go_wp2_with fail
        go_quiet (fail)
        go_wp2_with fail
        go_roundw
        case rel => exact ⟨HR.out, HA.out.drewN _⟩
        case measure => simp [intOf]; omega
      · have hmt := min_take hx hm
        have hkl : k < m.length := by omega
        obtain ⟨b', e', k0, k1⟩ := HC.out k p hp
        cases e'
        have p0 := (hA.cell _).trans k0
        have p1 := (hA.cell _).trans k1
        have hk0 : decide ((k : Int) < 0) = false := by simp
        clear k0 k1 g0 g1 hA hm
        by_cases t1 : x.1 < p.1
        · have b1 : decide (x.1 < p.1) = true := by simpa using t1
          rw [if_pos (by rw [ltB_iff]; omega)] at hmt
          have HR := Lib.hid (show FirstRel m (.int .i64 (j : Int)) (.int .i64 ((j + 1 : Nat) : Int)) from ⟨j + 1, (j : Int), hlt, rfl, rfl, .inr ⟨j, x, Nat.lt_succ_self j, rfl, hx, hmt⟩⟩)
          clear hx hp hmt
          go_wp2_with fail
          go_quiet (fail)
          go_wp2_with fail
          go_roundw
          case rel => exact ⟨HR.out, HA.out.drewN _⟩
          case measure => simp [intOf]; omega
        · have b1 : decide (x.1 < p.1) = false := by simpa using t1
          by_cases t2 : x.1 = p.1
          · have b2 : (x.1 == p.1) = true := by simpa using t2
            by_cases t3 : x.2 < p.2
            · have b3 : decide (x.2 < p.2) = true := by simpa using t3
              rw [if_pos (by rw [ltB_iff]; omega)] at hmt
              have HR := Lib.hid (show FirstRel m (.int .i64 (j : Int)) (.int .i64 ((j + 1 : Nat) : Int)) from ⟨j + 1, (j : Int), hlt, rfl, rfl, .inr ⟨j, x, Nat.lt_succ_self j, rfl, hx, hmt⟩⟩)
              clear hx hp hmt
              go_wp2_with fail
              go_quiet (fail)
              go_wp2_with fail
              go_roundw
              case rel => exact ⟨HR.out, HA.out.drewN _⟩
              case measure => simp [intOf]; omega
            · have b3 : decide (x.2 < p.2) = false := by simpa using t3
              rw [if_neg (by rw [ltB_iff]; omega)] at hmt
              have HR := Lib.hid (show FirstRel m (.int .i64 (k : Int)) (.int .i64 ((j + 1 : Nat) : Int)) from ⟨j + 1, (k : Int), hlt, rfl, rfl, .inr ⟨k, p, by omega, rfl, hp, hmt⟩⟩)
              clear hx hp hmt
              go_wp2_with fail
              go_quiet (fail)
              go_wp2_with fail
              go_roundw
              case rel => exact ⟨HR.out, HA.out.drewN _⟩
              case measure => simp [intOf]; omega
          · have b2 : (x.1 == p.1) = false := by simpa using t2
            rw [if_neg (by rw [ltB_iff]; omega)] at hmt
            have HR := Lib.hid (show FirstRel m (.int .i64 (k : Int)) (.int .i64 ((j + 1 : Nat) : Int)) from ⟨j + 1, (k : Int), hlt, rfl, rfl, .inr ⟨k, p, by omega, rfl, hp, hmt⟩⟩)
            clear hx hp hmt
            go_wp2_with fail
            go_quiet (fail)
            go_wp2_with fail
            go_roundw
            case rel => exact ⟨HR.out, HA.out.drewN _⟩
            case measure => simp [intOf]; omega
    · obtain rfl : j = m.length := by omega
      have hf : FirstK m q := by
        rcases hq with ⟨h0, rfl⟩ | ⟨k, p, hk, rfl, hp, hm⟩
        · exact .inl ⟨List.eq_nil_of_length_eq_zero h0, rfl⟩
        · rw [List.take_length] at hm; exact .inr ⟨k, p, rfl, hp, hm⟩
      have HF := Lib.hid hf
      clear hf hq
      go_wp2_with fail
      go_ret
      exact ⟨q, rfl, HF.out, hA⟩
end Go.Proofs.Ytbgklnepmljiaaa
