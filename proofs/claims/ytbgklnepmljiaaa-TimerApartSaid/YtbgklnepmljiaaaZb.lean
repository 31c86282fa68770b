/- The walk over TimerApart. -/
import Derived.Test.YtbgklnepmljiaaaZa
namespace Go.Proofs.Ytbgklnepmljiaaa
open Go.RowKit YtbgklnepmljiaaaMem Go.ChangeMaps

/-- Two that stand apart. -/
structure Two (w wr : World) (bt : Nat) (S : Nat → Prop) (v : Value) (m : List (Int × Int)) (bt2 : Nat) (S2 : Nat → Prop) (v2 : Value) (m2 : List (Int × Int)) : Prop where
  a : Both wr bt S v m
  b : Both wr bt2 S2 v2 m2
  ab : ∀ k, S k → ¬ S2 k
  va : ∀ k, v.ownBlock = some k → ¬ S2 k
  vb : ∀ k, v2.ownBlock = some k → ¬ S k
  sa : ∀ k, S k → w.heap.size ≤ k
  sb : ∀ k, S2 k → w.heap.size ≤ k
  wa : ∀ k, v.ownBlock = some k → w.heap.size ≤ k
  wb : ∀ k, v2.ownBlock = some k → w.heap.size ≤ k
  below : Below w.heap.size w wr
theorem Two.symm {w wr : World} {bt bt2 : Nat} {S S2 : Nat → Prop} {v v2 : Value} {m m2 : List (Int × Int)} (h : Two w wr bt S v m bt2 S2 v2 m2) : Two w wr bt2 S2 v2 m2 bt S v m :=
  ⟨h.b, h.a, fun k h2 h1 => h.ab k h1 h2, h.vb, h.va, h.sb, h.sa, h.wb, h.wa, h.below⟩
theorem Two.step {w wr w1 : World} {bt bt2 : Nat} {S S2 S' : Nat → Prop} {v v2 v' : Value} {m m2 m' : List (Int × Int)} (h : Two w wr bt S v m bt2 S2 v2 m2) (D : Done wr w1 bt S v S' v' m') : Two w w1 bt S' v' m' bt2 S2 v2 m2 := by
  have hs2 := h.b.inv.hS.2
  have hz := h.below.size
  have hv2 : ∀ k, v2.ownBlock = some k → k < wr.heap.size := fun k hk => (h.b.lst.lt hk).2
  refine ⟨D.both, h.b.only D.only (fun k h2 h1 => h.ab k h1 h2) h.vb, fun k hk h2 => ?_, fun k hk h2 => ?_, fun k hk h1 => ?_, fun k hk => ?_, h.sb, fun k hk => ?_, h.wb, h.below.trans (D.only.belowS h.sa hz)⟩
  · rcases D.blocks k hk with g | g
    · exact h.ab k g h2
    · have := hs2 k h2; omega
  · rcases D.vb k hk with g | g
    · exact h.va k g h2
    · have := hs2 k h2; omega
  · rcases D.blocks k h1 with g | g
    · exact h.vb k hk g
    · have := hv2 k hk; omega
  · rcases D.blocks k hk with g | g
    · exact h.sa k g
    · omega
  · rcases D.vb k hk with g | g
    · exact h.wa k g
    · omega
theorem Two.alike {w wr w1 : World} {bt bt2 : Nat} {S S2 : Nat → Prop} {v v2 : Value} {m m2 : List (Int × Int)} (h : Two w wr bt S v m bt2 S2 v2 m2) (A : Alike0 wr w1) : Two w w1 bt S v m bt2 S2 v2 m2 :=
  ⟨h.a.alike A, h.b.alike A, h.ab, h.va, h.vb, h.sa, h.sb, h.wa, h.wb, h.below.trans (A.below _)⟩
/-- A clone stands apart. -/
theorem PlayAt.two {w : World} {bt n : Nat} {mv : Value} {wr w1 : World} {j : Nat} {S : Nat → Prop} {m : List (Int × Int)} {okv iv : Value} (P : PlayAt w bt n mv okv iv wr j S m) {bt' : Nat} {S' : Nat → Prop} (T : TInv w1 bt' S' m) (hS : ∀ k, S' k → wr.heap.size ≤ k) (hb : Below wr.heap.size wr w1) : Two w w1 bt S mv m bt' S' mv m := by
  have hz := P.below.size
  have hl : ∀ k, mv.ownBlock = some k → k < wr.heap.size := fun k hk => (P.both.lst.lt hk).2
  have hs := P.both.inv.hS.2
  have B1 := P.both.only (.of_below (S := fun _ => False) hb) (fun _ _ h => h) (fun _ _ h => h)
  exact ⟨B1, ⟨T, B1.lst, fun k hk h => by have := hl k hk; have := hS k h; omega⟩, fun k h1 h2 => by have := hs k h1; have := hS k h2; omega, fun k hk h => by have := hl k hk; have := hS k h; omega, P.both.off, P.sb, fun k h => by have := hS k h; omega, P.vb, P.vb, P.below.trans (hb.mono hz)⟩

def TwoRel (w : World) (bt bt2 : Nat) (S2 : Nat → Prop) (v2 : Value) (m2 : List (Int × Int)) (b0 n : Nat) (mv okv iv : Value) (wr : World) : Prop :=
  ∃ (j : Nat) (S : Nat → Prop) (m : List (Int × Int)), iv = .int .i64 (j : Int) ∧ okv = .bool true ∧ j ≤ n ∧ j ≤ 30 ∧ m.length ≤ b0 + j ∧ Two w wr bt S mv m bt2 S2 v2 m2

set_option maxHeartbeats 40000000 in
theorem apart_calls {va vb vc : Value} {la lb lc : List (Int × Int × Int)} {w : World} (ha : opsIs w va la) (hb : opsIs w vb lb) (hc : opsIs w vc lc) :
    Calls Try.prog 5 #[va, vb, vc] w fun e w' => e = .returned (.bool true) ∧ Below w.heap.size w w' := by
  obtain ⟨ha63, aa, ca, rfl, hca⟩ := ha
  obtain ⟨hb63, ab, cb, rfl, hcb⟩ := hb
  obtain ⟨hc63, ac, cc, rfl, hcc⟩ := hc
  have HCA := Lib.hid hca
  have HCB := Lib.hid hcb
  have HCC := Lib.hid hcc
  have HN := Lib.hid (Both_new w)
  clear hca hcb hcc
  go_enter Try.func5, Try.ntmps5
  go_wp2
  go_loopw [8, 9, 10] (fun mv okv iv wr => PlayRel w w.heap.size (min la.length 30) mv okv iv wr) (fun _ _ iv _ => 30 - (intOf iv).toNat)
  case atStart =>
    exact ⟨0, _, [], rfl, rfl, Nat.zero_le _, Nat.zero_le _, HN.out, Nat.le_refl _, fun k hk => Nat.le_of_eq hk.symm, fun k hk => by cases hk; exact Nat.le_succ _, ((Below.refl _ _).alloc (Nat.le_refl _) _).alloc (by simp) _⟩
  case round =>
    obtain ⟨j1, S, m, P⟩ := hrel
    obtain rfl := P.i
    obtain rfl := P.ok
    have hml := P.len
    have hj60 := P.j60
    have hjn := P.jn
    by_cases hgo : j1 < la.length ∧ j1 < 30
    · obtain ⟨hlt, h30⟩ := hgo
      obtain ⟨x, hx⟩ : ∃ x, la[j1]? = some x := ⟨la[j1], by simp [hlt]⟩
      obtain ⟨b, o, rfl, hb, k0, k1, k2⟩ := HCA.out j1 x hx
      have c0 := (P.below.cell (p := ⟨b, o + j1 * 3, none⟩) hb).trans k0
      have c1 := (P.below.cell (p := ⟨b, o + j1 * 3 + 1, none⟩) hb).trans k1
      have c2 := (P.below.cell (p := ⟨b, o + j1 * 3 + 2, none⟩) hb).trans k2
      have hdo := do_calls P.both (by omega) x.1 x.2.1 x.2.2
      have HD := Lib.hid hdo
      have HP := Lib.hid P
      clear P hdo k0 k1 k2 hx
      have hi1 : (j1 : Int) < (la.length : Int) := by omega
      go_wp2_with fail
      refine HD.out.mono ?_
      rintro e w1 ⟨S', v', rfl, D⟩
      have hml2 := opF_le m x.1 x.2.1 x.2.2
      have HR := Lib.hid (HP.out.next D hml2 (by omega) (by omega) (show Alike0 w1 w1 from ⟨w1.drawn, rfl⟩))
      clear D
      go_wp2_with fail
      go_roundw
      case rel => exact HR.out
      case measure => simp [intOf]; omega
    · have hstop : ¬ j1 < la.length ∨ (j1 < la.length ∧ ¬ j1 < 30) := by
        by_cases h1 : j1 < la.length
        · exact .inr ⟨h1, fun h => hgo ⟨h1, h⟩⟩
        · exact .inl h1
      have hcl := clone_calls P.both.inv (by omega)
      have HCL := Lib.hid hcl
      have HP := Lib.hid P
      have HLM := Lib.hid (show m.length ≤ 30 + 0 by omega)
      clear P hcl
      clear hgo
      rcases hstop with hs1 | ⟨hs1, hs2⟩
      · have hd1 : decide ((j1 : Int) < (la.length : Int)) = false := by rw [decide_eq_false_iff_not]; omega
        go_wp2_with fail
        clear hs1 hd1
        obtain ⟨wo, rfl⟩ : ∃ wo : World, wo = wr := ⟨_, rfl⟩
        refine (HCL.out).mono ?_
        rintro e w1 ⟨bt', S', rfl, TC, hSC, bC⟩
        have HTW1 := Lib.hid (HP.out.two TC hSC bC)
        clear TC hSC bC
        go_wp2_with fail
        go_loopw [8, 9, 13] (fun mv okv iv w9 => TwoRel w w.heap.size bt' S' u8 m 30 lb.length mv okv iv w9) (fun _ _ iv _ => 30 - (intOf iv).toNat)
        case atStart => exact ⟨0, S, m, rfl, rfl, Nat.zero_le _, Nat.zero_le _, HLM.out, HTW1.out⟩
        case round =>
          obtain ⟨j2, S2, m2, rfl, rfl, hjn2, hj30, hml2, W2⟩ := hrel
          by_cases hgo : j2 < lb.length ∧ j2 < 30
          · obtain ⟨hlt, h30⟩ := hgo
            obtain ⟨x, hx⟩ : ∃ x, lb[j2]? = some x := ⟨lb[j2], by simp [hlt]⟩
            obtain ⟨b, o, rfl, hb, k0, k1, k2⟩ := HCB.out j2 x hx
            have c0 := (W2.below.cell (p := ⟨b, o + j2 * 3, none⟩) hb).trans k0
            have c1 := (W2.below.cell (p := ⟨b, o + j2 * 3 + 1, none⟩) hb).trans k1
            have c2 := (W2.below.cell (p := ⟨b, o + j2 * 3 + 2, none⟩) hb).trans k2
            have hdo := do_calls W2.a (by omega) x.1 x.2.1 x.2.2
            have HD := Lib.hid hdo
            have HP2 := Lib.hid W2
            clear W2 hdo k0 k1 k2 hx
            have hi1 : (j2 : Int) < (lb.length : Int) := by omega
            go_wp2_with fail
            refine HD.out.mono ?_
            rintro e w1 ⟨S'', v', rfl, D⟩
            have hml2' := opF_le m2 x.1 x.2.1 x.2.2
            have HR := Lib.hid (show TwoRel w w.heap.size bt' S' _ m 30 lb.length v' (.bool true) (.int .i64 ((j2 + 1 : Nat) : Int)) w1 from ⟨j2 + 1, S'', _, rfl, rfl, hlt, h30, by omega, HP2.out.step D⟩)
            clear D
            go_wp2_with fail
            go_roundw
            case rel => exact HR.out
            case measure => simp [intOf]; omega
          · have hstop : ¬ j2 < lb.length ∨ (j2 < lb.length ∧ ¬ j2 < 30) := by
              by_cases h1 : j2 < lb.length
              · exact .inr ⟨h1, fun h => hgo ⟨h1, h⟩⟩
              · exact .inl h1
            have HTW2 := Lib.hid W2
            clear W2
            clear hgo
            rcases hstop with hs1 | ⟨hs1, hs2⟩
            · have hd1 : decide ((j2 : Int) < (lb.length : Int)) = false := by rw [decide_eq_false_iff_not]; omega
              go_wp2_with fail
              clear hs1 hd1
              obtain ⟨wp, rfl⟩ : ∃ wp : World, wp = wr := ⟨_, rfl⟩
              go_loopw [12, 9, 14] (fun mv okv iv w9 => TwoRel w bt' w.heap.size S2 u8 m2 30 lc.length mv okv iv w9) (fun _ _ iv _ => 30 - (intOf iv).toNat)
              case atStart => exact ⟨0, S', m, rfl, rfl, Nat.zero_le _, Nat.zero_le _, HLM.out, HTW2.out.symm⟩
              case round =>
                obtain ⟨j3, S3, m3, rfl, rfl, hjn3, hj30, hml3, W3⟩ := hrel
                by_cases hgo : j3 < lc.length ∧ j3 < 30
                · obtain ⟨hlt, h30⟩ := hgo
                  obtain ⟨x, hx⟩ : ∃ x, lc[j3]? = some x := ⟨lc[j3], by simp [hlt]⟩
                  obtain ⟨b, o, rfl, hb, k0, k1, k2⟩ := HCC.out j3 x hx
                  have c0 := (W3.below.cell (p := ⟨b, o + j3 * 3, none⟩) hb).trans k0
                  have c1 := (W3.below.cell (p := ⟨b, o + j3 * 3 + 1, none⟩) hb).trans k1
                  have c2 := (W3.below.cell (p := ⟨b, o + j3 * 3 + 2, none⟩) hb).trans k2
                  have hdo := do_calls W3.a (by omega) x.1 x.2.1 x.2.2
                  have HD := Lib.hid hdo
                  have HP := Lib.hid W3
                  clear W3 hdo k0 k1 k2 hx
                  have hi1 : (j3 : Int) < (lc.length : Int) := by omega
                  go_wp2_with fail
                  refine HD.out.mono ?_
                  rintro e w1 ⟨S', v', rfl, D⟩
                  have hml2 := opF_le m3 x.1 x.2.1 x.2.2
                  have HR := Lib.hid (show TwoRel w bt' w.heap.size S2 u8 m2 30 lc.length v' (.bool true) (.int .i64 ((j3 + 1 : Nat) : Int)) w1 from ⟨j3 + 1, S', _, rfl, rfl, hlt, h30, by omega, HP.out.step D⟩)
                  clear D
                  go_wp2_with fail
                  go_roundw
                  case rel => exact HR.out
                  case measure => simp [intOf]; omega
                · have hstop : ¬ j3 < lc.length ∨ (j3 < lc.length ∧ ¬ j3 < 30) := by
                    by_cases h1 : j3 < lc.length
                    · exact .inr ⟨h1, fun h => hgo ⟨h1, h⟩⟩
                    · exact .inl h1
                  have hta := tells_calls W3.symm.a (by omega) 1
                  have HTA := Lib.hid hta
                  have HLB := Lib.hid (show m3.length < 200000 by omega)
                  have HTW := Lib.hid W3.symm
                  clear W3 hta
                  clear hgo
                  rcases hstop with hs1 | ⟨hs1, hs2⟩
                  · have hd1 : decide ((j3 : Int) < (lc.length : Int)) = false := by rw [decide_eq_false_iff_not]; omega
                    go_wp2_with fail
                    clear hs1 hd1
                    refine (HTA.out).mono ?_
                    rintro e w6 ⟨rfl, A6⟩
                    have htb := tells_calls (HTW.out.alike A6).b HLB.out 1
                    have HTB := Lib.hid htb
                    have HA6 := Lib.hid A6
                    clear htb A6
                    go_wp2_with fail
                    refine HTB.out.mono ?_
                    rintro e w7 ⟨rfl, A7⟩
                    have HB7 := Lib.hid ((HTW.out.alike HA6.out).below.trans (A7.below _))
                    clear A7
                    go_wp2_with fail
                    refine (lives_calls _).mono ?_
                    rintro e w8 ⟨rfl, b8⟩
                    have B8 := HB7.out.trans (b8.mono HB7.out.size)
                    have HB8 := Lib.hid B8
                    clear b8 B8
                    go_wp2_with fail
                    go_ret
                    exact ⟨rfl, HB8.out⟩
                  · have hd1 : (j3 : Int) < (lc.length : Int) := by omega
                    have hd2 : decide ((j3 : Int) < 30) = false := by rw [decide_eq_false_iff_not]; omega
                    go_wp2_with fail
                    clear hs1 hs2 hd1 hd2
                    refine (HTA.out).mono ?_
                    rintro e w6 ⟨rfl, A6⟩
                    have htb := tells_calls (HTW.out.alike A6).b HLB.out 1
                    have HTB := Lib.hid htb
                    have HA6 := Lib.hid A6
                    clear htb A6
                    go_wp2_with fail
                    refine HTB.out.mono ?_
                    rintro e w7 ⟨rfl, A7⟩
                    have HB7 := Lib.hid ((HTW.out.alike HA6.out).below.trans (A7.below _))
                    clear A7
                    go_wp2_with fail
                    refine (lives_calls _).mono ?_
                    rintro e w8 ⟨rfl, b8⟩
                    have B8 := HB7.out.trans (b8.mono HB7.out.size)
                    have HB8 := Lib.hid B8
                    clear b8 B8
                    go_wp2_with fail
                    go_ret
                    exact ⟨rfl, HB8.out⟩
            · have hd1 : (j2 : Int) < (lb.length : Int) := by omega
              have hd2 : decide ((j2 : Int) < 30) = false := by rw [decide_eq_false_iff_not]; omega
              go_wp2_with fail
              clear hs1 hs2 hd1 hd2
              obtain ⟨wp, rfl⟩ : ∃ wp : World, wp = wr := ⟨_, rfl⟩
              go_loopw [12, 9, 14] (fun mv okv iv w9 => TwoRel w bt' w.heap.size S2 u8 m2 30 lc.length mv okv iv w9) (fun _ _ iv _ => 30 - (intOf iv).toNat)
              case atStart => exact ⟨0, S', m, rfl, rfl, Nat.zero_le _, Nat.zero_le _, HLM.out, HTW2.out.symm⟩
              case round =>
                obtain ⟨j3, S3, m3, rfl, rfl, hjn3, hj30, hml3, W3⟩ := hrel
                by_cases hgo : j3 < lc.length ∧ j3 < 30
                · obtain ⟨hlt, h30⟩ := hgo
                  obtain ⟨x, hx⟩ : ∃ x, lc[j3]? = some x := ⟨lc[j3], by simp [hlt]⟩
                  obtain ⟨b, o, rfl, hb, k0, k1, k2⟩ := HCC.out j3 x hx
                  have c0 := (W3.below.cell (p := ⟨b, o + j3 * 3, none⟩) hb).trans k0
                  have c1 := (W3.below.cell (p := ⟨b, o + j3 * 3 + 1, none⟩) hb).trans k1
                  have c2 := (W3.below.cell (p := ⟨b, o + j3 * 3 + 2, none⟩) hb).trans k2
                  have hdo := do_calls W3.a (by omega) x.1 x.2.1 x.2.2
                  have HD := Lib.hid hdo
                  have HP := Lib.hid W3
                  clear W3 hdo k0 k1 k2 hx
                  have hi1 : (j3 : Int) < (lc.length : Int) := by omega
                  go_wp2_with fail
                  refine HD.out.mono ?_
                  rintro e w1 ⟨S', v', rfl, D⟩
                  have hml2 := opF_le m3 x.1 x.2.1 x.2.2
                  have HR := Lib.hid (show TwoRel w bt' w.heap.size S2 u8 m2 30 lc.length v' (.bool true) (.int .i64 ((j3 + 1 : Nat) : Int)) w1 from ⟨j3 + 1, S', _, rfl, rfl, hlt, h30, by omega, HP.out.step D⟩)
                  clear D
                  go_wp2_with fail
                  go_roundw
                  case rel => exact HR.out
                  case measure => simp [intOf]; omega
                · have hstop : ¬ j3 < lc.length ∨ (j3 < lc.length ∧ ¬ j3 < 30) := by
                    by_cases h1 : j3 < lc.length
                    · exact .inr ⟨h1, fun h => hgo ⟨h1, h⟩⟩
                    · exact .inl h1
                  have hta := tells_calls W3.symm.a (by omega) 1
                  have HTA := Lib.hid hta
                  have HLB := Lib.hid (show m3.length < 200000 by omega)
                  have HTW := Lib.hid W3.symm
                  clear W3 hta
                  clear hgo
                  rcases hstop with hs1 | ⟨hs1, hs2⟩
                  · have hd1 : decide ((j3 : Int) < (lc.length : Int)) = false := by rw [decide_eq_false_iff_not]; omega
                    go_wp2_with fail
                    clear hs1 hd1
                    refine (HTA.out).mono ?_
                    rintro e w6 ⟨rfl, A6⟩
                    have htb := tells_calls (HTW.out.alike A6).b HLB.out 1
                    have HTB := Lib.hid htb
                    have HA6 := Lib.hid A6
                    clear htb A6
                    go_wp2_with fail
                    refine HTB.out.mono ?_
                    rintro e w7 ⟨rfl, A7⟩
                    have HB7 := Lib.hid ((HTW.out.alike HA6.out).below.trans (A7.below _))
                    clear A7
                    go_wp2_with fail
                    refine (lives_calls _).mono ?_
                    rintro e w8 ⟨rfl, b8⟩
                    have B8 := HB7.out.trans (b8.mono HB7.out.size)
                    have HB8 := Lib.hid B8
                    clear b8 B8
                    go_wp2_with fail
                    go_ret
                    exact ⟨rfl, HB8.out⟩
                  · have hd1 : (j3 : Int) < (lc.length : Int) := by omega
                    have hd2 : decide ((j3 : Int) < 30) = false := by rw [decide_eq_false_iff_not]; omega
                    go_wp2_with fail
                    clear hs1 hs2 hd1 hd2
                    refine (HTA.out).mono ?_
                    rintro e w6 ⟨rfl, A6⟩
                    have htb := tells_calls (HTW.out.alike A6).b HLB.out 1
                    have HTB := Lib.hid htb
                    have HA6 := Lib.hid A6
                    clear htb A6
                    go_wp2_with fail
                    refine HTB.out.mono ?_
                    rintro e w7 ⟨rfl, A7⟩
                    have HB7 := Lib.hid ((HTW.out.alike HA6.out).below.trans (A7.below _))
                    clear A7
                    go_wp2_with fail
                    refine (lives_calls _).mono ?_
                    rintro e w8 ⟨rfl, b8⟩
                    have B8 := HB7.out.trans (b8.mono HB7.out.size)
                    have HB8 := Lib.hid B8
                    clear b8 B8
                    go_wp2_with fail
                    go_ret
                    exact ⟨rfl, HB8.out⟩
      · have hd1 : (j1 : Int) < (la.length : Int) := by omega
        have hd2 : decide ((j1 : Int) < 30) = false := by rw [decide_eq_false_iff_not]; omega
        go_wp2_with fail
        clear hs1 hs2 hd1 hd2
        obtain ⟨wo, rfl⟩ : ∃ wo : World, wo = wr := ⟨_, rfl⟩
        refine (HCL.out).mono ?_
        rintro e w1 ⟨bt', S', rfl, TC, hSC, bC⟩
        have HTW1 := Lib.hid (HP.out.two TC hSC bC)
        clear TC hSC bC
        go_wp2_with fail
        go_loopw [8, 9, 13] (fun mv okv iv w9 => TwoRel w w.heap.size bt' S' u8 m 30 lb.length mv okv iv w9) (fun _ _ iv _ => 30 - (intOf iv).toNat)
        case atStart => exact ⟨0, S, m, rfl, rfl, Nat.zero_le _, Nat.zero_le _, HLM.out, HTW1.out⟩
        case round =>
          obtain ⟨j2, S2, m2, rfl, rfl, hjn2, hj30, hml2, W2⟩ := hrel
          by_cases hgo : j2 < lb.length ∧ j2 < 30
          · obtain ⟨hlt, h30⟩ := hgo
            obtain ⟨x, hx⟩ : ∃ x, lb[j2]? = some x := ⟨lb[j2], by simp [hlt]⟩
            obtain ⟨b, o, rfl, hb, k0, k1, k2⟩ := HCB.out j2 x hx
            have c0 := (W2.below.cell (p := ⟨b, o + j2 * 3, none⟩) hb).trans k0
            have c1 := (W2.below.cell (p := ⟨b, o + j2 * 3 + 1, none⟩) hb).trans k1
            have c2 := (W2.below.cell (p := ⟨b, o + j2 * 3 + 2, none⟩) hb).trans k2
            have hdo := do_calls W2.a (by omega) x.1 x.2.1 x.2.2
            have HD := Lib.hid hdo
            have HP2 := Lib.hid W2
            clear W2 hdo k0 k1 k2 hx
            have hi1 : (j2 : Int) < (lb.length : Int) := by omega
            go_wp2_with fail
            refine HD.out.mono ?_
            rintro e w1 ⟨S'', v', rfl, D⟩
            have hml2' := opF_le m2 x.1 x.2.1 x.2.2
            have HR := Lib.hid (show TwoRel w w.heap.size bt' S' _ m 30 lb.length v' (.bool true) (.int .i64 ((j2 + 1 : Nat) : Int)) w1 from ⟨j2 + 1, S'', _, rfl, rfl, hlt, h30, by omega, HP2.out.step D⟩)
            clear D
            go_wp2_with fail
            go_roundw
            case rel => exact HR.out
            case measure => simp [intOf]; omega
          · have hstop : ¬ j2 < lb.length ∨ (j2 < lb.length ∧ ¬ j2 < 30) := by
              by_cases h1 : j2 < lb.length
              · exact .inr ⟨h1, fun h => hgo ⟨h1, h⟩⟩
              · exact .inl h1
            have HTW2 := Lib.hid W2
            clear W2
            clear hgo
            rcases hstop with hs1 | ⟨hs1, hs2⟩
            · have hd1 : decide ((j2 : Int) < (lb.length : Int)) = false := by rw [decide_eq_false_iff_not]; omega
              go_wp2_with fail
              clear hs1 hd1
              obtain ⟨wp, rfl⟩ : ∃ wp : World, wp = wr := ⟨_, rfl⟩
              go_loopw [12, 9, 14] (fun mv okv iv w9 => TwoRel w bt' w.heap.size S2 u8 m2 30 lc.length mv okv iv w9) (fun _ _ iv _ => 30 - (intOf iv).toNat)
              case atStart => exact ⟨0, S', m, rfl, rfl, Nat.zero_le _, Nat.zero_le _, HLM.out, HTW2.out.symm⟩
              case round =>
                obtain ⟨j3, S3, m3, rfl, rfl, hjn3, hj30, hml3, W3⟩ := hrel
                by_cases hgo : j3 < lc.length ∧ j3 < 30
                · obtain ⟨hlt, h30⟩ := hgo
                  obtain ⟨x, hx⟩ : ∃ x, lc[j3]? = some x := ⟨lc[j3], by simp [hlt]⟩
                  obtain ⟨b, o, rfl, hb, k0, k1, k2⟩ := HCC.out j3 x hx
                  have c0 := (W3.below.cell (p := ⟨b, o + j3 * 3, none⟩) hb).trans k0
                  have c1 := (W3.below.cell (p := ⟨b, o + j3 * 3 + 1, none⟩) hb).trans k1
                  have c2 := (W3.below.cell (p := ⟨b, o + j3 * 3 + 2, none⟩) hb).trans k2
                  have hdo := do_calls W3.a (by omega) x.1 x.2.1 x.2.2
                  have HD := Lib.hid hdo
                  have HP := Lib.hid W3
                  clear W3 hdo k0 k1 k2 hx
                  have hi1 : (j3 : Int) < (lc.length : Int) := by omega
                  go_wp2_with fail
                  refine HD.out.mono ?_
                  rintro e w1 ⟨S', v', rfl, D⟩
                  have hml2 := opF_le m3 x.1 x.2.1 x.2.2
                  have HR := Lib.hid (show TwoRel w bt' w.heap.size S2 u8 m2 30 lc.length v' (.bool true) (.int .i64 ((j3 + 1 : Nat) : Int)) w1 from ⟨j3 + 1, S', _, rfl, rfl, hlt, h30, by omega, HP.out.step D⟩)
                  clear D
                  go_wp2_with fail
                  go_roundw
                  case rel => exact HR.out
                  case measure => simp [intOf]; omega
                · have hstop : ¬ j3 < lc.length ∨ (j3 < lc.length ∧ ¬ j3 < 30) := by
                    by_cases h1 : j3 < lc.length
                    · exact .inr ⟨h1, fun h => hgo ⟨h1, h⟩⟩
                    · exact .inl h1
                  have hta := tells_calls W3.symm.a (by omega) 1
                  have HTA := Lib.hid hta
                  have HLB := Lib.hid (show m3.length < 200000 by omega)
                  have HTW := Lib.hid W3.symm
                  clear W3 hta
                  clear hgo
                  rcases hstop with hs1 | ⟨hs1, hs2⟩
                  · have hd1 : decide ((j3 : Int) < (lc.length : Int)) = false := by rw [decide_eq_false_iff_not]; omega
                    go_wp2_with fail
                    clear hs1 hd1
                    refine (HTA.out).mono ?_
                    rintro e w6 ⟨rfl, A6⟩
                    have htb := tells_calls (HTW.out.alike A6).b HLB.out 1
                    have HTB := Lib.hid htb
                    have HA6 := Lib.hid A6
                    clear htb A6
                    go_wp2_with fail
                    refine HTB.out.mono ?_
                    rintro e w7 ⟨rfl, A7⟩
                    have HB7 := Lib.hid ((HTW.out.alike HA6.out).below.trans (A7.below _))
                    clear A7
                    go_wp2_with fail
                    refine (lives_calls _).mono ?_
                    rintro e w8 ⟨rfl, b8⟩
                    have B8 := HB7.out.trans (b8.mono HB7.out.size)
                    have HB8 := Lib.hid B8
                    clear b8 B8
                    go_wp2_with fail
                    go_ret
                    exact ⟨rfl, HB8.out⟩
                  · have hd1 : (j3 : Int) < (lc.length : Int) := by omega
                    have hd2 : decide ((j3 : Int) < 30) = false := by rw [decide_eq_false_iff_not]; omega
                    go_wp2_with fail
                    clear hs1 hs2 hd1 hd2
                    refine (HTA.out).mono ?_
                    rintro e w6 ⟨rfl, A6⟩
                    have htb := tells_calls (HTW.out.alike A6).b HLB.out 1
                    have HTB := Lib.hid htb
                    have HA6 := Lib.hid A6
                    clear htb A6
                    go_wp2_with fail
                    refine HTB.out.mono ?_
                    rintro e w7 ⟨rfl, A7⟩
                    have HB7 := Lib.hid ((HTW.out.alike HA6.out).below.trans (A7.below _))
                    clear A7
                    go_wp2_with fail
                    refine (lives_calls _).mono ?_
                    rintro e w8 ⟨rfl, b8⟩
                    have B8 := HB7.out.trans (b8.mono HB7.out.size)
                    have HB8 := Lib.hid B8
                    clear b8 B8
                    go_wp2_with fail
                    go_ret
                    exact ⟨rfl, HB8.out⟩
            · have hd1 : (j2 : Int) < (lb.length : Int) := by omega
              have hd2 : decide ((j2 : Int) < 30) = false := by rw [decide_eq_false_iff_not]; omega
              go_wp2_with fail
              clear hs1 hs2 hd1 hd2
              obtain ⟨wp, rfl⟩ : ∃ wp : World, wp = wr := ⟨_, rfl⟩
              go_loopw [12, 9, 14] (fun mv okv iv w9 => TwoRel w bt' w.heap.size S2 u8 m2 30 lc.length mv okv iv w9) (fun _ _ iv _ => 30 - (intOf iv).toNat)
              case atStart => exact ⟨0, S', m, rfl, rfl, Nat.zero_le _, Nat.zero_le _, HLM.out, HTW2.out.symm⟩
              case round =>
                obtain ⟨j3, S3, m3, rfl, rfl, hjn3, hj30, hml3, W3⟩ := hrel
                by_cases hgo : j3 < lc.length ∧ j3 < 30
                · obtain ⟨hlt, h30⟩ := hgo
                  obtain ⟨x, hx⟩ : ∃ x, lc[j3]? = some x := ⟨lc[j3], by simp [hlt]⟩
                  obtain ⟨b, o, rfl, hb, k0, k1, k2⟩ := HCC.out j3 x hx
                  have c0 := (W3.below.cell (p := ⟨b, o + j3 * 3, none⟩) hb).trans k0
                  have c1 := (W3.below.cell (p := ⟨b, o + j3 * 3 + 1, none⟩) hb).trans k1
                  have c2 := (W3.below.cell (p := ⟨b, o + j3 * 3 + 2, none⟩) hb).trans k2
                  have hdo := do_calls W3.a (by omega) x.1 x.2.1 x.2.2
                  have HD := Lib.hid hdo
                  have HP := Lib.hid W3
                  clear W3 hdo k0 k1 k2 hx
                  have hi1 : (j3 : Int) < (lc.length : Int) := by omega
                  go_wp2_with fail
                  refine HD.out.mono ?_
                  rintro e w1 ⟨S', v', rfl, D⟩
                  have hml2 := opF_le m3 x.1 x.2.1 x.2.2
                  have HR := Lib.hid (show TwoRel w bt' w.heap.size S2 u8 m2 30 lc.length v' (.bool true) (.int .i64 ((j3 + 1 : Nat) : Int)) w1 from ⟨j3 + 1, S', _, rfl, rfl, hlt, h30, by omega, HP.out.step D⟩)
                  clear D
                  go_wp2_with fail
                  go_roundw
                  case rel => exact HR.out
                  case measure => simp [intOf]; omega
                · have hstop : ¬ j3 < lc.length ∨ (j3 < lc.length ∧ ¬ j3 < 30) := by
                    by_cases h1 : j3 < lc.length
                    · exact .inr ⟨h1, fun h => hgo ⟨h1, h⟩⟩
                    · exact .inl h1
                  have hta := tells_calls W3.symm.a (by omega) 1
                  have HTA := Lib.hid hta
                  have HLB := Lib.hid (show m3.length < 200000 by omega)
                  have HTW := Lib.hid W3.symm
                  clear W3 hta
                  clear hgo
                  rcases hstop with hs1 | ⟨hs1, hs2⟩
                  · have hd1 : decide ((j3 : Int) < (lc.length : Int)) = false := by rw [decide_eq_false_iff_not]; omega
                    go_wp2_with fail
                    clear hs1 hd1
                    refine (HTA.out).mono ?_
                    rintro e w6 ⟨rfl, A6⟩
                    have htb := tells_calls (HTW.out.alike A6).b HLB.out 1
                    have HTB := Lib.hid htb
                    have HA6 := Lib.hid A6
                    clear htb A6
                    go_wp2_with fail
                    refine HTB.out.mono ?_
                    rintro e w7 ⟨rfl, A7⟩
                    have HB7 := Lib.hid ((HTW.out.alike HA6.out).below.trans (A7.below _))
                    clear A7
                    go_wp2_with fail
                    refine (lives_calls _).mono ?_
                    rintro e w8 ⟨rfl, b8⟩
                    have B8 := HB7.out.trans (b8.mono HB7.out.size)
                    have HB8 := Lib.hid B8
                    clear b8 B8
                    go_wp2_with fail
                    go_ret
                    exact ⟨rfl, HB8.out⟩
                  · have hd1 : (j3 : Int) < (lc.length : Int) := by omega
                    have hd2 : decide ((j3 : Int) < 30) = false := by rw [decide_eq_false_iff_not]; omega
                    go_wp2_with fail
                    clear hs1 hs2 hd1 hd2
                    refine (HTA.out).mono ?_
                    rintro e w6 ⟨rfl, A6⟩
                    have htb := tells_calls (HTW.out.alike A6).b HLB.out 1
                    have HTB := Lib.hid htb
                    have HA6 := Lib.hid A6
                    clear htb A6
                    go_wp2_with fail
                    refine HTB.out.mono ?_
                    rintro e w7 ⟨rfl, A7⟩
                    have HB7 := Lib.hid ((HTW.out.alike HA6.out).below.trans (A7.below _))
                    clear A7
                    go_wp2_with fail
                    refine (lives_calls _).mono ?_
                    rintro e w8 ⟨rfl, b8⟩
                    have B8 := HB7.out.trans (b8.mono HB7.out.size)
                    have HB8 := Lib.hid B8
                    clear b8 B8
                    go_wp2_with fail
                    go_ret
                    exact ⟨rfl, HB8.out⟩
end Go.Proofs.Ytbgklnepmljiaaa
