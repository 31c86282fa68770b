/- The reference's lists in memory; the walks over Drop, Set, Find. -/
import Derived.Test.YtbgklnepmljiaaaJ
namespace Go.Proofs.Ytbgklnepmljiaaa
open Go.RowKit YtbgklnepmljiaaaMem Go.ChangeMaps

/-- A list of pairs (at, id) lies in memory as ids and times, in blocks from base on. -/
def ones (w : World) (base : Nat) (v : Value) (m : List (Int × Int)) : Prop := w.ownsRow base 58 2 v m.length (flat (m.map Prod.swap))

theorem ones.only {w w' : World} {base : Nat} {v : Value} {m : List (Int × Int)} (h : ones w base v m) {S : Nat → Prop} (ho : Only S w w') (hd : ∀ k, v.ownBlock = some k → ¬ S k) : ones w' base v m := by
  refine row_kept h fun k hk => ?_
  rcases h.2 with ⟨rfl, _⟩ | ⟨g, cap, cur, rfl, hb, hg, _⟩
  · cases hk
  · cases hk; exact ho.block _ (heap_lt hg) (hd _ rfl)
theorem ones.lt {w : World} {base : Nat} {v : Value} {m : List (Int × Int)} (h : ones w base v m) {k : Nat} (hk : v.ownBlock = some k) : base ≤ k ∧ k < w.heap.size := by
  rcases h.2 with ⟨rfl, _⟩ | ⟨g, cap, cur, rfl, hb, hg, _⟩
  · cases hk
  · cases hk; exact ⟨hb, heap_lt hg⟩
theorem ones.below {w w' : World} {base : Nat} {v : Value} {m : List (Int × Int)} (h : ones w base v m) (ho : Below w.heap.size w w') : ones w' base v m :=
  h.only (S := fun _ => False) (.of_below ho) fun _ _ => id
theorem ones.base0 {w : World} {base : Nat} {v : Value} {m : List (Int × Int)} (h : ones w base v m) : ones w 0 v m := by
  refine ⟨h.1, ?_⟩
  rcases h.2 with h | ⟨g, cap, cur, hv, hb, r⟩
  · exact .inl h
  · exact .inr ⟨g, cap, cur, hv, Nat.zero_le _, r⟩
theorem ones.lower {w : World} {base b2 : Nat} {v : Value} {m : List (Int × Int)} (h : ones w base v m) (hb2 : b2 ≤ base) : ones w b2 v m := by
  refine ⟨h.1, ?_⟩
  rcases h.2 with h | ⟨g, cap, cur, hv, hb, r⟩
  · exact .inl h
  · exact .inr ⟨g, cap, cur, hv, by omega, r⟩
theorem ones.form {w : World} {base : Nat} {v : Value} {m : List (Int × Int)} (h : ones w base v m) : ∃ a c, v = .slice a m.length c ∧ m.length ≤ c ∧ ∀ j p, m[j]? = some p →
    ∃ b, a = some ⟨b, 0, none⟩ ∧ w.cell? ⟨b, j * 2, none⟩ = some (.int .i64 p.2) ∧ w.cell? ⟨b, j * 2 + 1, none⟩ = some (.int .i64 p.1) := by
  rcases h.2 with ⟨rfl, h0⟩ | ⟨g, cap, cur, rfl, hb, hg, hn, hc, hs, ht⟩
  · refine ⟨none, 0, by rw [h0], by omega, fun j p hj => ?_⟩
    have := (List.getElem?_eq_some_iff.1 hj).1
    omega
  · refine ⟨_, cap, rfl, hn, fun j p hj => ⟨g, rfl, ?_⟩⟩
    have jn := (List.getElem?_eq_some_iff.1 hj).1
    have a := flat_get (m.map Prod.swap) j p.swap (by simp [hj])
    rw [← ht, List.getElem?_take, if_pos (by omega), List.getElem?_take, if_pos (by omega), Array.getElem?_toList, Array.getElem?_toList] at a
    exact ⟨(cell_of hg _).trans a.1, (cell_of hg _).trans a.2⟩
theorem ones_none (w : World) (base : Nat) (g : Nat) (hg : w.heap[g]? = some (.cells #[] 58 (0, 0))) (hb : base ≤ g) : ones w base (.slice (some ⟨g, 0, none⟩) 0 0) [] :=
  ⟨rfl, .inr ⟨g, 0, #[], rfl, hb, hg, Nat.le_refl _, by unfold maxLen; omega, rfl, rfl⟩⟩

theorem Try.info58 : (Try.prog.info? 58).map (fun i => (i.zero, i.size, i.bytes)) = some (some (.agg #[.int .i64 0, .int .i64 0]), 2, 16) := by kernel_rfl

theorem wo_take {m : List (Int × Int)} {id : Int} {j : Nat} {p : Int × Int} (h : m[j]? = some p) : wo (m.take (j + 1)) id = wo (m.take j) id ++ (if p.2 = id then [] else [p]) := by
  have jn := (List.getElem?_eq_some_iff.1 h).1
  have hp := (List.getElem?_eq_some_iff.1 h).2
  rw [List.take_succ_eq_append_getElem jn]
  unfold wo
  rw [List.filter_append, hp]
  by_cases e : p.2 = id <;> simp [e]

def DropRel (w : World) (m : List (Int × Int)) (id : Int) (out i : Value) (wr : World) : Prop :=
  ∃ j : Nat, j ≤ m.length ∧ i = .int .i64 (j : Int) ∧ ones wr w.heap.size out (wo (m.take j) id) ∧ Below w.heap.size w wr
def OnesP (m : List (Int × Int)) (w : World) (e : Ending) (w' : World) : Prop := ∃ v, e = .returned v ∧ ones w' w.heap.size v m ∧ Below w.heap.size w w'

set_option maxHeartbeats 400000 in
theorem rdrop_calls {v : Value} {m : List (Int × Int)} {w : World} (hv : ones w 0 v m) (hl : m.length ≤ 1000000) (id : Int) :
    Calls Try.prog 21 #[v, .int .i64 id] w (OnesP (wo m id) w) := by
  obtain ⟨i0, hi, hz0, hz1, hz2⟩ := info_parts Try.info58
  obtain ⟨a, c, rfl, hmc, hcells⟩ := hv.form
  have HV := Lib.hid hv
  have HC := Lib.hid hcells
  clear hv hcells
  go_enter Try.func21, Try.ntmps21
  go_wp2
  go_loopw [5, 6] (fun out i wr => DropRel w m id out i wr) (fun _ i _ => m.length - (intOf i).toNat)
  case atStart =>
    exact ⟨0, Nat.zero_le _, rfl, ones_none _ _ _ (YtbgklnepmljiaaaMem.heap_alloc_new _ _) (Nat.le_refl _), (Below.refl _ _).alloc (Nat.le_refl _) _⟩
  case round =>
    obtain ⟨j, hj, rfl, ho, hb⟩ := hrel
    by_cases hlt : j < m.length
    · obtain ⟨p, hp⟩ : ∃ p, m[j]? = some p := ⟨m[j], by simp [hlt]⟩
      obtain ⟨b, rfl, g0, g1⟩ := HC.out j p hp
      have hbl : b < w.heap.size := (HV.out.lt rfl).2
      have k0 := (hb.cell (p := ⟨b, j * 2, none⟩) hbl).trans g0
      have k1 := (hb.cell (p := ⟨b, j * 2 + 1, none⟩) hbl).trans g1
      have hwt := wo_take (id := id) hp
      have HP := Lib.hid hp
      by_cases hid : p.2 = id
      · rw [if_pos hid, List.append_nil] at hwt
        have hne : (p.2 != id) = false := by simp [hid]
        have HR := Lib.hid (show DropRel w m id u5 (.int .i64 ((j + 1 : Nat) : Int)) wr from ⟨j + 1, hlt, rfl, by rw [hwt]; exact ho, hb⟩)
        clear g0 g1 ho hb hwt hid hp
        go_wp2_with fail
        go_roundw
        case rel => exact HR.out
        case measure => simp [intOf]; omega
      · rw [if_neg hid] at hwt
        have hne : (p.2 != id) = true := by simp [hid]
        have hR2 := row_kept (w' := wr.alloc (Obj.cells #[Value.int IntKind.i64 p.2, Value.int IntKind.i64 p.1] 58)) ho (fun k hk => Below.heap_alloc _ _ _ (ho.lt hk).2)
        have HR2 := Lib.hid hR2
        have HW := Lib.hid hwt
        have HB := Lib.hid hb
        have HO := Lib.hid (fun k hk => (ho.lt (k := k) hk).1)
        have hwl : (wo (m.take j) id).length ≤ 1000000 := by have := wo_le (m.take j) id; simp at this; omega
        have hsz := hb.size
        clear g0 g1 ho hb hwt hid hp hR2
        go_wp2_with (first | (at_builtin; refine wpList_append2 rfl rfl Try.underlying29 hi hz0 hz1 hz2 rfl (by decide) rfl HR2.out rfl (news := [.int .i64 p.2, .int .i64 p.1]) (m := 1) rfl ?a1 ?a2 (by decide) (by unfold maxLen; omega) (by omega) (by simp; omega) ?a3))
        case a1 => exact news_at wr _ _
        case a2 => exact flat_one [(p.2, p.1)]
        case a3 =>
          intro v' w2 hR hG hW
          have HR := Lib.hid (show DropRel w m id v' (.int .i64 ((j + 1 : Nat) : Int)) w2 from ⟨j + 1, hlt, rfl, by
            rw [HW.out]; unfold ones; rw [List.length_append, List.map_append, flat_append]; exact hR,
            ((HB.out.alloc HB.out.size _).grown hG (by simp; omega) (fun k hk => HO.out k hk))⟩)
          clear hR hG hW
          go_wp2_with fail
          go_roundw
          case rel => exact HR.out
          case measure => simp [intOf]; omega
    · obtain rfl : j = m.length := by omega
      rw [List.take_length] at ho
      have HO := Lib.hid (show OnesP (wo m id) w (.returned u5) wr from ⟨_, rfl, ho, hb⟩)
      clear ho hb
      go_wp2_with fail
      go_ret
      exact HO.out
end Go.Proofs.Ytbgklnepmljiaaa
