/- The walks over the reference's Due, and over same. -/
import Derived.Test.YtbgklnepmljiaaaL
namespace Go.Proofs.Ytbgklnepmljiaaa
open Go.RowKit YtbgklnepmljiaaaMem Go.ChangeMaps

structure RDueAt (w : World) (v : Value) (m : List (Int × Int)) (now : Int) (lv out : Value) (wr : World) (ls : List Int) (mk : List (Int × Int)) : Prop where
  row : intsNew wr w.heap.size out ls
  lst : ones wr 0 lv mk
  lb : ∀ k, lv.ownBlock = some k → v.ownBlock = some k ∨ w.heap.size ≤ k
  nd : (mk.map (·.2)).Nodup
  below : Below w.heap.size w wr
  len : ls.length + mk.length = m.length
  got : ls ++ (dueOf mk.length mk now).1 = (dueOf m.length m now).1
  left : (dueOf mk.length mk now).2 = (dueOf m.length m now).2
def RDueRel (w : World) (v : Value) (m : List (Int × Int)) (now : Int) (lv out : Value) (wr : World) : Prop := ∃ ls mk, RDueAt w v m now lv out wr ls mk
def RDueP (v : Value) (m : List (Int × Int)) (now : Int) (w : World) (e : Ending) (w' : World) : Prop :=
  ∃ v1 v2, e = .returned (.tuple #[v1, v2]) ∧ intsNew w' w.heap.size v1 (dueOf m.length m now).1 ∧ ones w' 0 v2 (dueOf m.length m now).2 ∧ (∀ k, v2.ownBlock = some k → v.ownBlock = some k ∨ w.heap.size ≤ k) ∧ Below w.heap.size w w'

theorem Alike0.below {w w' : World} (h : Alike0 w w') (B : Nat) : Below B w w' := by obtain ⟨k, rfl⟩ := h; exact ⟨rfl, rfl, rfl, Nat.le_refl _, fun _ _ => rfl⟩
theorem RDueAt.stop {w : World} {v : Value} {m : List (Int × Int)} {now : Int} {lv out : Value} {wr w' : World} {ls : List Int} {mk : List (Int × Int)} (D : RDueAt w v m now lv out wr ls mk) (h : isDue mk now = false) (ha : Alike0 wr w') : RDueP v m now w (.returned (.tuple #[out, lv])) w' := by
  have a := D.got
  have b := D.left
  rw [due_stop h] at a b
  simp only [List.append_nil] at a
  refine ⟨out, lv, rfl, ?_, ?_, D.lb, D.below.trans (ha.below _)⟩
  · rw [← a]; exact D.row.only (ha.only (fun _ => False)) (fun _ _ => id)
  · rw [← b]; exact D.lst.only (ha.only (fun _ => False)) (fun _ _ => id)

set_option maxHeartbeats 1000000 in
theorem rdue_calls {v : Value} {m : List (Int × Int)} {w : World} (hv : ones w 0 v m) (hl : m.length ≤ 1000000) (nd : (m.map (·.2)).Nodup) (now : Int) :
    Calls Try.prog 10 #[v, .int .i64 now] w (RDueP v m now w) := by
  obtain ⟨i0, hi, hz0, hz1, hz2⟩ := info_parts Try.info3
  have HV := Lib.hid hv
  have HN := Lib.hid nd
  clear hv nd
  go_enter Try.func10, Try.ntmps10
  go_wp2
  go_loopw [0, 6] (fun lv out wr => RDueRel w v m now lv out wr) (fun lv _ _ => vlen lv)
  case atStart =>
    refine ⟨[], m, ⟨rfl, .inr ⟨w.heap.size, 0, #[], rfl, Nat.le_refl _, YtbgklnepmljiaaaMem.heap_alloc_new _ _, Nat.le_refl _, by unfold maxLen; omega, rfl, rfl⟩⟩, ?_, fun k hk => .inl hk, HN.out, (Below.refl _ _).alloc (Nat.le_refl _) _, by simp, rfl, rfl⟩
    exact HV.out.below ((Below.refl _ _).alloc (Nat.le_refl _) _)
  case round =>
    obtain ⟨ls, mk, D⟩ := hrel
    have hll := D.len
    obtain ⟨a, c, rfl, hmc, hcells⟩ := D.lst.form
    have hfr := rfirst_calls D.lst (by omega)
    have HFR := Lib.hid hfr
    have HCE := Lib.hid hcells
    clear hfr hcells
    go_wp2_with fail
    refine HFR.out.mono ?_
    rintro e w1 ⟨k, rfl, hk, hA⟩
    rcases hk with ⟨rfl, rfl⟩ | ⟨j, p, rfl, hp, hm⟩
    · have HD := Lib.hid D
      have HA := Lib.hid hA
      clear D hA
      go_wp2_with fail
      go_ret2
      exact HD.out.stop rfl HA.out
    · obtain ⟨b, rfl, k0, k1⟩ := HCE.out j p hp
      have jn := (List.getElem?_eq_some_iff.1 hp).1
      have p0 := (hA.cell _).trans k0
      have p1 := (hA.cell _).trans k1
      have HA := Lib.hid hA
      by_cases hdue : p.1 ≤ now
      · have hb1 : decide (p.1 > now) = false := by simp; omega
        have hjb : decide ((j : Int) < 0) = false := by simp
        have hlw : mk.length = (wo mk p.2).length + 1 := (wo_length D.nd (has_iff.2 ⟨p, (minOf_spec hm).1, rfl⟩)).symm
        have hst := due_step hm hdue (wo mk p.2).length
        rw [← hlw] at hst
        have D1 : ones w1 0 (.slice (some ⟨b, 0, none⟩) mk.length c) mk := D.lst.only (hA.only (fun _ => False)) fun _ _ => id
        have R1 : intsNew w1 w.heap.size u6 ls := D.row.only (hA.only (fun _ => False)) fun _ _ => id
        have B1 : Below w.heap.size w w1 := D.below.trans (hA.below _)
        have hbl := (D1.lt rfl).2
        have hR2 := row_kept (w' := w1.alloc (Obj.cells #[Value.int IntKind.i64 p.2] 3)) R1 (fun k hk => Below.heap_alloc _ _ _ (by
            rcases R1.2 with ⟨h, _⟩ | ⟨g, cap, cur, h, _, hg, _⟩
            · rw [h] at hk; cases hk
            · rw [h] at hk; cases hk; exact heap_lt hg))
        have HR2 := Lib.hid hR2
        have HRB := Lib.hid (fun k hk => R1.below (k := k) hk)
        have HD := Lib.hid D
        have HD1 := Lib.hid D1
        have HB1 := Lib.hid B1
        have HST := Lib.hid hst
        have HLW := Lib.hid hlw
        have hsz := B1.size
        clear D hA k0 k1 hp hm hlw hst D1 R1 B1 hR2
        go_wp2_with (first | (at_builtin; refine wpList_append2 rfl rfl Try.underlying23 hi hz0 hz1 hz2 rfl (by decide) rfl HR2.out rfl (news := [.int .i64 p.2]) (m := 1) rfl ?a1 ?a2 (by decide) (by unfold maxLen; omega) (by omega) (by simp; omega) ?a3))
        case a1 => exact news_at w1 _ _
        case a2 => simp [Value.oneCell']
        case a3 =>
          intro v' w2 hR hG hW
          have hbv : ∀ k, u6.ownBlock = some k → w.heap.size ≤ k := HRB.out
          have O2 : Only (fun k => u6.ownBlock = some k) w1 w2 := ((Only.refl _ _).alloc _).trans (Only.of_grown hG)
          have hnb : u6.ownBlock ≠ some b := by
            intro e
            -- a row of ints is no row of pairs
            rcases HR2.out.2 with ⟨h, _⟩ | ⟨g, cap, cur, h, _, hg, _⟩
            · rw [h] at e; cases e
            · rw [h] at e; cases e
              rcases HD1.out.2 with ⟨h, _⟩ | ⟨g', cap', cur', h', _, hg', _⟩
              · cases h
              · cases h'
                rw [Below.heap_alloc _ _ _ hbl, hg'] at hg
                cases hg
          have D2 : ones w2 0 (.slice (some ⟨b, 0, none⟩) mk.length c) mk := HD1.out.only O2 fun k hk e => by cases hk; exact hnb e
          have q0 := (World.cell?_of_block (w := w1) (w' := w2) (a := ⟨b, j * 2, none⟩) (O2.block b hbl hnb)).trans p0
          have I2 : intsNew w2 w.heap.size v' (ls ++ [p.2]) := by
            unfold intsNew
            rw [List.length_append, List.map_append]; exact hR
          have B2 : Below w.heap.size w w2 := ((HB1.out.alloc HB1.out.size _).grown hG (by simp; omega) (fun k hk => hbv k hk))
          have HD2 := Lib.hid D2
          have HI2 := Lib.hid I2
          have HB2 := Lib.hid B2
          clear hR hG hW O2 D2 I2 B2 p0 p1 hbv
          go_wp2_with fail
          refine (rdrop_calls HD2.out (by omega) p.2).mono ?_
          rintro e w3 ⟨v3, rfl, o3, b3⟩
          have hs2 := HB2.out.size
          have R3 : RDueRel w v m now v3 v' w3 := by
            refine ⟨ls ++ [p.2], wo mk p.2, HI2.out.only (.of_below (S := fun _ => False) b3) (fun _ _ => id), o3.base0, fun k hk => .inr (by have := (o3.lt hk).1; omega), wo_nodup HD.out.nd, HB2.out.trans (b3.mono hs2), by have := HLW.out; simp; omega, ?_, ?_⟩
            · have := HD.out.got
              rw [HST.out] at this
              rw [← this]; simp
            · have := HD.out.left
              rw [HST.out] at this
              exact this
          have hv3 : vlen v3 < mk.length := by
            obtain ⟨a, c, h, _⟩ := o3.form
            have := HLW.out
            rw [h]; simp only [vlen]; omega
          have HR3 := Lib.hid R3
          have HV3 := Lib.hid hv3
          clear R3 hv3 o3 b3 q0
          go_wp2_with fail
          go_roundw
          case rel => exact HR3.out
          case measure => simpa [vlen] using HV3.out
      · have hb1 : decide (p.1 > now) = true := by simp; omega
        have hjb : decide ((j : Int) < 0) = false := by simp
        have hst : isDue mk now = false := by unfold isDue; rw [hm]; simpa using hdue
        have HST := Lib.hid hst
        have HD := Lib.hid D
        clear D hA k0 k1 hp hm hst
        go_wp2_with fail
        go_ret2
        exact HD.out.stop HST.out HA.out

/-! ### two lists of ints -/
def ints (w : World) (v : Value) (l : List Int) : Prop := ∃ a c, v = .slice a l.length c ∧ ∀ j x, l[j]? = some x → ∃ b o, a = some ⟨b, o, none⟩ ∧ w.cell? ⟨b, o + j, none⟩ = some (.int .i64 x)
theorem intsNew.ints {w : World} {base : Nat} {v : Value} {l : List Int} (h : intsNew w base v l) : ints w v l := by
  rcases h.2 with ⟨rfl, h0⟩ | ⟨g, cap, cur, rfl, hb, hg, hn, hc, hs, ht⟩
  · refine ⟨none, 0, by rw [h0], fun j x hj => ?_⟩
    have := (List.getElem?_eq_some_iff.1 hj).1
    omega
  · refine ⟨_, cap, rfl, fun j x hj => ⟨g, 0, rfl, ?_⟩⟩
    have jn := (List.getElem?_eq_some_iff.1 hj).1
    rw [cell_of hg, Nat.zero_add]
    have e : (cur.toList.take (l.length * 1))[j]? = (l.map (Value.int .i64))[j]? := by rw [ht]
    rw [List.getElem?_take, if_pos (by omega), Array.getElem?_toList] at e
    rw [e]; simp [hj]
/-- Two lists are one. -/
def sameB (a b : List Int) : Bool := decide (a = b)
def SameRel (a b : List Int) (i : Value) : Prop := ∃ j : Nat, j ≤ a.length ∧ i = .int .i64 (j : Int) ∧ a.take j = b.take j

set_option maxHeartbeats 1000000 in
theorem same_calls {va vb : Value} {a b : List Int} {w : World} (ha : ints w va a) (hb : ints w vb b) (hl : a.length ≤ 1000000) :
    Calls Try.prog 11 #[va, vb] w fun e w' => e = .returned (.bool (sameB a b)) ∧ Alike0 w w' := by
  obtain ⟨aa, ca, rfl, hca⟩ := ha
  obtain ⟨ab, cb, rfl, hcb⟩ := hb
  have HCA := Lib.hid hca
  have HCB := Lib.hid hcb
  clear hca hcb
  by_cases hlen : a.length = b.length
  · have HL := Lib.hid hlen
    have hq : ((a.length : Int) != (b.length : Int)) = false := by simp [hlen]
    have hll : ((a.length : Nat) : Int) = ((b.length : Nat) : Int) := by omega
    clear hlen
    go_enter Try.func11, Try.ntmps11
    clear hll
    go_wp2
    clear hq
    go_loopw [5] (fun i wr => SameRel a b i ∧ Alike0 w wr) (fun i _ => a.length - (intOf i).toNat)
    case atStart => exact ⟨⟨0, Nat.zero_le _, rfl, by simp⟩, _, rfl⟩
    case round =>
      obtain ⟨⟨j, hj, rfl, ht⟩, hA⟩ := hrel
      by_cases hlt : j < a.length
      · have hlb : j < b.length := by have := HL.out; omega
        obtain ⟨x, hx⟩ : ∃ x, a[j]? = some x := ⟨a[j], by simp [hlt]⟩
        obtain ⟨y, hy⟩ : ∃ y, b[j]? = some y := ⟨b[j], by simp [hlb]⟩
        obtain ⟨b1, o1, rfl, k1⟩ := HCA.out j x hx
        obtain ⟨b2, o2, rfl, k2⟩ := HCB.out j y hy
        have x1 := (hA.cell _).trans k1
        have x2 := (hA.cell _).trans k2
        have HA := Lib.hid hA
        by_cases he : x = y
        · have hne : (x != y) = false := by simp [he]
          have HR := Lib.hid (show SameRel a b (.int .i64 ((j + 1 : Nat) : Int)) from ⟨j + 1, hlt, rfl, by
            rw [List.take_add_one, List.take_add_one, ht, hx, hy, he]⟩)
          clear hx hy ht hA k1 k2 he
          go_wp2_with fail
          go_quiet (fail)
          go_wp2_with fail
          go_roundw
          case rel => exact ⟨HR.out, HA.out.drewN _⟩
          case measure => simp [intOf]; omega
        · have hne : (x != y) = true := by simp [he]
          have hf : sameB a b = false := by
            unfold sameB
            simp only [decide_eq_false_iff_not]
            rintro rfl
            rw [hx] at hy; cases hy; exact he rfl
          have HF := Lib.hid hf
          clear hx hy ht hA k1 k2 he hf
          go_wp2_with fail
          go_quiet (fail)
          go_wp2_with fail
          go_ret
          exact ⟨by rw [HF.out]; rfl, HA.out.drewN _⟩
      · obtain rfl : j = a.length := by omega
        have hf : sameB a b = true := by
          unfold sameB
          simp only [decide_eq_true_eq]
          rw [List.take_length, HL.out, List.take_length] at ht; exact ht
        have HF := Lib.hid hf
        clear ht hf
        go_wp2_with fail
        go_ret
        exact ⟨by rw [HF.out]; rfl, hA⟩
  · have hq : ((a.length : Int) != (b.length : Int)) = true := by simp; omega
    have hf : sameB a b = false := by
      unfold sameB
      simp only [decide_eq_false_iff_not]
      rintro rfl
      exact hlen rfl
    have HF := Lib.hid hf
    clear hlen hf
    go_enter Try.func11, Try.ntmps11
    go_wp2
    go_ret
    exact ⟨by rw [HF.out]; rfl, _, rfl⟩
end Go.Proofs.Ytbgklnepmljiaaa
