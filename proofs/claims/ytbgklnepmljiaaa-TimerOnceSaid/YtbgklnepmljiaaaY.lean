/- The walk over TimerOnce. -/
import Derived.Test.YtbgklnepmljiaaaX
import Derived.WalkLawsBesides
namespace Go.Proofs.Ytbgklnepmljiaaa
open Go.RowKit YtbgklnepmljiaaaMem Go.ChangeMaps

/-- What has been told when so many times have gone by. -/
structure OnceAt (w wl : World) (bt : Nat) (n : Nat) (S : Nat → Prop) (mv : Value) (m : List (Int × Int)) (all now iv : Value) (wr : World) (j : Nat) (nw : Int) (acc : List Int) (mk : List (Int × Int)) : Prop where
  i : iv = .int .i64 (j : Int)
  t : now = .int .i64 nw
  jn : j ≤ n
  j20 : j ≤ 20
  row : intsNew wr wl.heap.size all acc
  inv : TInv wr bt S mk
  lst : ones wr 0 mv m
  below : Below w.heap.size w wr
  size : wl.heap.size ≤ wr.heap.size
  zero : j = 0 → acc = [] ∧ mk = m
  more : 0 < j → acc = (dueOf m.length m nw).1 ∧ mk = (dueOf m.length m nw).2
def OnceRel (w wl : World) (bt : Nat) (n : Nat) (S : Nat → Prop) (mv : Value) (m : List (Int × Int)) (all now iv : Value) (wr : World) : Prop := ∃ j nw acc mk, OnceAt w wl bt n S mv m all now iv wr j nw acc mk

set_option maxHeartbeats 4000000 in
theorem once_calls {v vt : Value} {l : List (Int × Int × Int)} {ts : List Int} {w : World} (hv : opsIs w v l) (ht : ints w vt ts) (hts : ts.length ≤ 9223372036854775807) :
    Calls Try.prog 3 #[v, vt] w fun e w' => e = .returned (.bool true) ∧ Below w.heap.size w w' := by
  obtain ⟨i0, hi, hz0, hz1, hz2⟩ := info_parts Try.info3
  obtain ⟨h63, a, c, rfl, hcells⟩ := hv
  obtain ⟨at_, ct, rfl, htc⟩ := ht
  have HC := Lib.hid hcells
  have HTC := Lib.hid htc
  have HN := Lib.hid (Both_new w)
  clear hcells htc
  go_enter Try.func3, Try.ntmps3
  go_wp2
  go_loopw [6, 7] (fun mv iv wr => PlayRel w w.heap.size l.length mv (.bool true) iv wr) (fun _ iv _ => 60 - (intOf iv).toNat)
  case atStart =>
    exact ⟨0, _, [], rfl, rfl, Nat.zero_le _, Nat.zero_le _, HN.out, Nat.le_refl _, fun k hk => Nat.le_of_eq hk.symm, fun k hk => by cases hk; exact Nat.le_succ _, ((Below.refl _ _).alloc (Nat.le_refl _) _).alloc (by simp) _⟩
  case round =>
    obtain ⟨j, S, m, P⟩ := hrel
    obtain rfl := P.i
    have hj60 := P.j60
    have hjn := P.jn
    have hml := P.len
    by_cases hgo : j < l.length ∧ j < 60
    · obtain ⟨hlt, h60⟩ := hgo
      obtain ⟨x, hx⟩ : ∃ x, l[j]? = some x := ⟨l[j], by simp [hlt]⟩
      obtain ⟨b, o, rfl, hb, k0, k1, k2⟩ := HC.out j x hx
      have c0 := (P.below.cell (p := ⟨b, o + j * 3, none⟩) hb).trans k0
      have c1 := (P.below.cell (p := ⟨b, o + j * 3 + 1, none⟩) hb).trans k1
      have c2 := (P.below.cell (p := ⟨b, o + j * 3 + 2, none⟩) hb).trans k2
      have T0 : TInv wr.drew w.heap.size S m := P.both.inv.only ((Only.refl (fun _ => False) _).drew) (fun _ _ h => h)
      have hset := set_calls T0 (by omega) x.2.1 x.2.2
      have HS := Lib.hid hset
      have HP := Lib.hid P
      have HK1 := Lib.hid k1
      have HK2 := Lib.hid k2
      clear P hset T0 k0 k1 k2 hx
      have hi1 : (j : Int) < (l.length : Int) := by omega
      go_wp2_with fail
      refine region_tail 11 (by kernel_rfl) (by kernel_rfl) ?_
      simp only [List.take_succ_cons, List.take_zero, List.drop_succ_cons, List.drop_zero]
      repeat (first | (with_reducible refine wpStill_step (fun K hK => ?_); go_simp; refine hK _ ?_; clear hK K) | (with_reducible refine wpStill_skip (by rfl) ?_; go_simp))
      with_reducible refine wpStill_nil ?_
      go_wp2_with fail
      refine HS.out.mono ?_
      rintro e w1 ⟨rfl, S1, T1, s1, O1⟩
      have O1' : Only S wr w1 := ⟨O1.os, O1.tape, O1.output, O1.size, O1.block⟩
      have b1 := HP.out.below.trans (O1'.belowS HP.out.sb HP.out.below.size)
      have d1 := (b1.cell (p := ⟨b, o + j * 3 + 1, none⟩) hb).trans HK1.out
      have d2 := (b1.cell (p := ⟨b, o + j * 3 + 2, none⟩) hb).trans HK2.out
      have L0 : ones w1 0 u6 m := HP.out.both.lst.only O1' HP.out.both.off
      have L1 : ones w1.drew 0 u6 m := L0
      have hrs := rset_calls L1 (by omega) x.2.1 x.2.2
      have HRS := Lib.hid hrs
      have HT1 := Lib.hid T1
      have Hs1 := Lib.hid s1
      have HO1 := Lib.hid O1'
      clear T1 s1 O1 O1' b1 L0 L1 hrs c0 c1 c2
      go_wp2_with fail
      refine region_tail 11 (by kernel_rfl) (by kernel_rfl) ?_
      simp only [List.take_succ_cons, List.take_zero, List.drop_succ_cons, List.drop_zero]
      repeat (first | (with_reducible refine wpStill_step (fun K hK => ?_); go_simp; refine hK _ ?_; clear hK K) | (with_reducible refine wpStill_skip (by rfl) ?_; go_simp))
      with_reducible refine wpStill_nil ?_
      go_wp2_with fail
      refine HRS.out.mono ?_
      rintro e w2 ⟨v2, rfl, o2, b2⟩
      have b2' : Below w1.heap.size w1 w2 := un_drew b2
      have o2' : ones w2 w1.heap.size v2 (YtbgklnepmljiaaaMem.put m x.2.1 x.2.2) := o2
      have hD : Done wr w2 w.heap.size S u6 S1 v2 (YtbgklnepmljiaaaMem.put m x.2.1 x.2.2) := by
        have z1 := HO1.out.size
        refine ⟨⟨HT1.out.only (.of_below (S := fun _ => False) b2') (fun _ _ h => h), o2'.base0, fun k hk hs => ?_⟩, fun k hk => Hs1.out k hk, fun k hk => .inr ?_, HO1.out.trans (.of_below b2')⟩
        · have := (o2'.lt hk).1
          have := HT1.out.hS.2 k hs
          omega
        · have := (o2'.lt hk).1; omega
      have hpl : (YtbgklnepmljiaaaMem.put m x.2.1 x.2.2).length ≤ m.length + 1 := by unfold YtbgklnepmljiaaaMem.put; have := wo_le m x.2.1; simp; omega
      have HR := Lib.hid (HP.out.next hD hpl hlt h60 (show Alike0 w2 w2 from ⟨w2.drawn, rfl⟩))
      clear hD hpl o2 o2' b2 b2'
      go_wp2_with fail
      go_roundw
      case rel => exact HR.out
      case measure => simp [intOf]; omega
    · have HP := Lib.hid P
      have hSl : ∀ k, S k → k < wr.heap.size := P.both.inv.hS.2
      have HSl := Lib.hid hSl
      have HVl := Lib.hid (fun k hk => (P.both.lst.lt (k := k) hk).2)
      have hstop : ¬ j < l.length ∨ (j < l.length ∧ ¬ j < 60) := by
        by_cases h1 : j < l.length
        · exact .inr ⟨h1, fun h => hgo ⟨h1, h⟩⟩
        · exact .inl h1
      clear P hgo hSl
      rcases hstop with hs1 | ⟨hs1, hs2⟩
      · have hd1 : decide ((j : Int) < (l.length : Int)) = false := by simp; omega
        go_wp2_with fail
        clear hs1 hd1
        obtain ⟨wo, rfl⟩ : ∃ wo : World, wo = wr := ⟨_, rfl⟩
        go_loopw [8, 9, 10] (fun all now iv w2 => OnceRel w wo w.heap.size ts.length S u6 m all now iv w2) (fun _ _ iv _ => 20 - (intOf iv).toNat)
        case atStart =>
          exact ⟨0, -9223372036854775808, [], m, rfl, rfl, Nat.zero_le _, Nat.zero_le _, ⟨rfl, .inr ⟨wo.heap.size, 0, #[], rfl, Nat.le_refl _, YtbgklnepmljiaaaMem.heap_alloc_new _ _, Nat.le_refl _, by unfold maxLen; omega, rfl, rfl⟩⟩,
            HP.out.both.inv.only ((Only.refl (fun _ => False) _).alloc _) (fun _ _ h => h), HP.out.both.lst.only ((Only.refl (fun _ => False) _).alloc _) (fun _ _ h => h), HP.out.below.trans ((Below.refl _ _).alloc HP.out.below.size _), by simp, fun _ => ⟨rfl, rfl⟩, fun h => absurd h (Nat.lt_irrefl 0)⟩
        case round =>
          obtain ⟨j2, nw, acc, mk, P2⟩ := hrel
          obtain rfl := P2.i
          obtain rfl := P2.t
          have hmk : mk.length ≤ m.length := by
            rcases Nat.eq_zero_or_pos j2 with h | h
            · rw [(P2.zero h).2]; exact Nat.le_refl _
            · rw [(P2.more h).2]; exact due_le _ _ _
          have hac : acc.length ≤ m.length := by
            rcases Nat.eq_zero_or_pos j2 with h | h
            · rw [(P2.zero h).1]; simp
            · rw [(P2.more h).1]; exact due_len _ _ _
          by_cases hgo2 : j2 < ts.length ∧ j2 < 20
          · obtain ⟨hlt2, h20⟩ := hgo2
            obtain ⟨x, hx⟩ : ∃ x, ts[j2]? = some x := ⟨ts[j2], by simp [hlt2]⟩
            obtain ⟨b, o, rfl, k0⟩ := HTC.out j2 x hx
            have hbl := (cell_parts k0).2
            have c0 := (P2.below.cell (p := ⟨b, o + j2, none⟩) hbl).trans k0
            have hi1 : (j2 : Int) < (ts.length : Int) := by omega
            obtain ⟨nx, hnx1, hnx2, hnx⟩ : ∃ nx : Int, nw ≤ nx ∧ x ≤ nx ∧ nx = (if nw < x then x else nw) := ⟨if nw < x then x else nw, by split <;> omega, by split <;> omega, rfl⟩
            have hdue := due_calls P2.inv (by omega) nx
            have HD := Lib.hid hdue
            have HP2 := Lib.hid P2
            have HNX := Lib.hid hnx
            clear P2 k0 hx hdue hnx
            have hfin : ∀ v4 w3, DueP w.heap.size S mk nx wr (.returned v4) w3 → ∃ l4 m4, intsNew w3 wr.heap.size v4 l4 ∧ TInv w3 w.heap.size S m4 ∧ Only S wr w3 ∧ acc ++ l4 = (dueOf m.length m nx).1 ∧ m4 = (dueOf m.length m nx).2 := by
              rintro v4 w3 ⟨v4', e, I4, T4, O4⟩
              cases e
              refine ⟨_, _, I4, T4, O4, ?_⟩
              have nd := HP.out.both.inv.nodup
              rcases Nat.eq_zero_or_pos j2 with h | h
              · obtain ⟨e1, e2⟩ := HP2.out.zero h
                subst e1; subst e2
                exact ⟨rfl, rfl⟩
              · obtain ⟨e1, e2⟩ := HP2.out.more h
                have := due_later m.length m nw nx rfl nd hnx1
                subst e1; subst e2
                exact ⟨this.1.symm, this.2.symm⟩
            have HF := Lib.hid hfin
            clear hfin
            by_cases hmx : nw < x
            · have e : nx = x := by rw [HNX.out, if_pos hmx]
              subst e
              go_wp2_with fail
              refine HD.out.mono ?_
              rintro e w3 hp
              obtain ⟨v4, rfl⟩ : ∃ v4, e = .returned v4 := ⟨_, hp.choose_spec.1⟩
              obtain ⟨l4, m4, I4, T4, O4, ga, gm⟩ := HF.out v4 w3 hp
              have hl4 : l4.length ≤ m.length := by
                have h1 : (acc ++ l4).length ≤ m.length := by rw [ga]; exact due_len _ _ _
                simp at h1; omega
              have hbw : ∀ k, S k → wo.heap.size ≤ k → False := fun k hk h => by have := HSl.out k hk; omega
              have R3 : intsNew w3 wo.heap.size u8 acc := HP2.out.row.only O4 (fun k h hk => hbw k hk h)
              have B3 : Below w.heap.size w w3 := HP2.out.below.trans (O4.belowS HP.out.sb HP2.out.below.size)
              have L3 : ones w3 0 u6 m := HP2.out.lst.only O4 HP.out.both.off
              have z3 := O4.size
              have HR3 := Lib.hid R3
              have HT4 := Lib.hid T4
              have HB3 := Lib.hid B3
              have HL3 := Lib.hid L3
              have HG := Lib.hid (And.intro ga gm)
              have HI4 := Lib.hid I4
              have HZ3 := Lib.hid (Nat.le_trans HP2.out.size z3)
              clear hp I4 T4 O4 ga gm R3 B3 L3 c0 hbw
              have hnew : ∀ v' w4, intsNew w4 wo.heap.size v' (acc ++ l4) → w3.grownBy w4 u8.ownBlock → OnceRel w wo w.heap.size ts.length S u6 m v' (.int .i64 nx) (.int .i64 ((j2 + 1 : Nat) : Int)) w4 := by
                intro v' w4 hI hG
                have hub : ∀ k, u8.ownBlock = some k → wo.heap.size ≤ k := fun k hk => HR3.out.below hk
                have O : Only (fun k => u8.ownBlock = some k) w3 w4 := Only.of_grown hG
                refine ⟨j2 + 1, nx, acc ++ l4, m4, rfl, rfl, by omega, by omega, hI, HT4.out.only O (fun k hk hu => by have := hub k hu; have := HSl.out k hk; omega), HL3.out.only O (fun k hk hu => by have := hub k hu; have := HVl.out k hk; omega), HB3.out.trans (O.belowS (fun k hk => by have := hub k hk; have := HP.out.below.size; omega) HB3.out.size), Nat.le_trans HZ3.out hG.size, fun h => by omega, fun _ => HG.out⟩
              have HNEW := Lib.hid hnew
              clear hnew
              rcases Nat.eq_zero_or_pos l4.length with h4 | h4
              · have e4 : l4 = [] := List.eq_nil_of_length_eq_zero h4
                obtain ⟨a4, c4, rfl⟩ := HI4.out.len
                subst e4
                have HR := Lib.hid (HNEW.out u8 w3 (by rw [List.append_nil]; exact HR3.out) ⟨rfl, rfl, rfl, Nat.le_refl _, fun _ _ _ => rfl⟩)
                go_wp2_with (first | (at_builtin; refine wpList_append0 rfl rfl Try.underlying23 hi hz1 rfl HR3.out rfl ?_))
                go_roundw
                case rel => exact HR.out
                case measure => simp [intOf]; omega
              · obtain ⟨a4, c4, hv4, hcl⟩ := HI4.out.ints
                subst hv4
                obtain ⟨b4, ob, ha4, _⟩ := hcl 0 (l4[0]) (by simp)
                subst ha4
                have hnews : ∀ (q : Nat) (u : Value), (l4.map (Value.int .i64))[q]? = some u → w3.cell? ((⟨b4, ob, none⟩ : Addr).add q) = some u := by
                  intro q u hq
                  rw [List.getElem?_map] at hq
                  cases hx : l4[q]? with
                  | none => rw [hx] at hq; cases hq
                  | some y =>
                    rw [hx] at hq
                    simp only [Option.map_some, Option.some.injEq] at hq
                    subst hq
                    obtain ⟨b5, o5, h5, k5⟩ := hcl q y hx
                    cases h5
                    rw [Addr.add_lit]; exact k5
                have h1c : ∀ u ∈ l4.map (Value.int .i64), u.oneCell' = true := by
                  intro u hu
                  obtain ⟨y, _, rfl⟩ := List.mem_map.1 hu
                  rfl
                have HNW := Lib.hid hnews
                have H1C := Lib.hid h1c
                have hwz : wo.heap.size ≤ w3.heap.size := HZ3.out
                clear hcl hnews h1c
                go_wp2_with (first | (at_builtin; refine wpList_append2 rfl rfl Try.underlying23 hi hz0 hz1 hz2 rfl (by decide) rfl HR3.out rfl (news := l4.map (Value.int .i64)) (m := l4.length) (by simp) HNW.out H1C.out h4 (by unfold maxLen; omega) (by omega) hwz ?a3))
                case a3 =>
                  intro v' w4 hR hG hW
                  have HR := Lib.hid (HNEW.out v' w4 (by unfold intsNew; rw [List.length_append, List.map_append]; exact hR) hG)
                  clear hR hG hW
                  go_wp2_with fail
                  go_roundw
                  case rel => exact HR.out
                  case measure => simp [intOf]; omega
            · have e : nx = nw := by rw [HNX.out, if_neg hmx]
              subst e
              go_wp2_with fail
              refine HD.out.mono ?_
              rintro e w3 hp
              obtain ⟨v4, rfl⟩ : ∃ v4, e = .returned v4 := ⟨_, hp.choose_spec.1⟩
              obtain ⟨l4, m4, I4, T4, O4, ga, gm⟩ := HF.out v4 w3 hp
              have hl4 : l4.length ≤ m.length := by
                have h1 : (acc ++ l4).length ≤ m.length := by rw [ga]; exact due_len _ _ _
                simp at h1; omega
              have hbw : ∀ k, S k → wo.heap.size ≤ k → False := fun k hk h => by have := HSl.out k hk; omega
              have R3 : intsNew w3 wo.heap.size u8 acc := HP2.out.row.only O4 (fun k h hk => hbw k hk h)
              have B3 : Below w.heap.size w w3 := HP2.out.below.trans (O4.belowS HP.out.sb HP2.out.below.size)
              have L3 : ones w3 0 u6 m := HP2.out.lst.only O4 HP.out.both.off
              have z3 := O4.size
              have HR3 := Lib.hid R3
              have HT4 := Lib.hid T4
              have HB3 := Lib.hid B3
              have HL3 := Lib.hid L3
              have HG := Lib.hid (And.intro ga gm)
              have HI4 := Lib.hid I4
              have HZ3 := Lib.hid (Nat.le_trans HP2.out.size z3)
              clear hp I4 T4 O4 ga gm R3 B3 L3 c0 hbw
              have hnew : ∀ v' w4, intsNew w4 wo.heap.size v' (acc ++ l4) → w3.grownBy w4 u8.ownBlock → OnceRel w wo w.heap.size ts.length S u6 m v' (.int .i64 nx) (.int .i64 ((j2 + 1 : Nat) : Int)) w4 := by
                intro v' w4 hI hG
                have hub : ∀ k, u8.ownBlock = some k → wo.heap.size ≤ k := fun k hk => HR3.out.below hk
                have O : Only (fun k => u8.ownBlock = some k) w3 w4 := Only.of_grown hG
                refine ⟨j2 + 1, nx, acc ++ l4, m4, rfl, rfl, by omega, by omega, hI, HT4.out.only O (fun k hk hu => by have := hub k hu; have := HSl.out k hk; omega), HL3.out.only O (fun k hk hu => by have := hub k hu; have := HVl.out k hk; omega), HB3.out.trans (O.belowS (fun k hk => by have := hub k hk; have := HP.out.below.size; omega) HB3.out.size), Nat.le_trans HZ3.out hG.size, fun h => by omega, fun _ => HG.out⟩
              have HNEW := Lib.hid hnew
              clear hnew
              rcases Nat.eq_zero_or_pos l4.length with h4 | h4
              · have e4 : l4 = [] := List.eq_nil_of_length_eq_zero h4
                obtain ⟨a4, c4, rfl⟩ := HI4.out.len
                subst e4
                have HR := Lib.hid (HNEW.out u8 w3 (by rw [List.append_nil]; exact HR3.out) ⟨rfl, rfl, rfl, Nat.le_refl _, fun _ _ _ => rfl⟩)
                go_wp2_with (first | (at_builtin; refine wpList_append0 rfl rfl Try.underlying23 hi hz1 rfl HR3.out rfl ?_))
                go_roundw
                case rel => exact HR.out
                case measure => simp [intOf]; omega
              · obtain ⟨a4, c4, hv4, hcl⟩ := HI4.out.ints
                subst hv4
                obtain ⟨b4, ob, ha4, _⟩ := hcl 0 (l4[0]) (by simp)
                subst ha4
                have hnews : ∀ (q : Nat) (u : Value), (l4.map (Value.int .i64))[q]? = some u → w3.cell? ((⟨b4, ob, none⟩ : Addr).add q) = some u := by
                  intro q u hq
                  rw [List.getElem?_map] at hq
                  cases hx : l4[q]? with
                  | none => rw [hx] at hq; cases hq
                  | some y =>
                    rw [hx] at hq
                    simp only [Option.map_some, Option.some.injEq] at hq
                    subst hq
                    obtain ⟨b5, o5, h5, k5⟩ := hcl q y hx
                    cases h5
                    rw [Addr.add_lit]; exact k5
                have h1c : ∀ u ∈ l4.map (Value.int .i64), u.oneCell' = true := by
                  intro u hu
                  obtain ⟨y, _, rfl⟩ := List.mem_map.1 hu
                  rfl
                have HNW := Lib.hid hnews
                have H1C := Lib.hid h1c
                have hwz : wo.heap.size ≤ w3.heap.size := HZ3.out
                clear hcl hnews h1c
                go_wp2_with (first | (at_builtin; refine wpList_append2 rfl rfl Try.underlying23 hi hz0 hz1 hz2 rfl (by decide) rfl HR3.out rfl (news := l4.map (Value.int .i64)) (m := l4.length) (by simp) HNW.out H1C.out h4 (by unfold maxLen; omega) (by omega) hwz ?a3))
                case a3 =>
                  intro v' w4 hR hG hW
                  have HR := Lib.hid (HNEW.out v' w4 (by unfold intsNew; rw [List.length_append, List.map_append]; exact hR) hG)
                  clear hR hG hW
                  go_wp2_with fail
                  go_roundw
                  case rel => exact HR.out
                  case measure => simp [intOf]; omega
          · have nd := HP.out.both.inv.nodup
            have hrd := rdue_calls P2.lst (by omega) nd nw
            have HRD := Lib.hid hrd
            have HP2 := Lib.hid P2
            have hstop2 : ¬ j2 < ts.length ∨ (j2 < ts.length ∧ ¬ j2 < 20) := by
              by_cases h1 : j2 < ts.length
              · exact .inr ⟨h1, fun h => hgo2 ⟨h1, h⟩⟩
              · exact .inl h1
            have hj2 := P2.jn
            clear hrd P2 hgo2 nd
            -- what is told behind the loop, whichever way out
            have hend : ∀ w3, RDueP u6 m nw wr (.returned (.tuple #[.slice none 0 0, .slice none 0 0])) w3 → True := fun _ _ => trivial
            clear hend
            rcases Nat.eq_zero_or_pos ts.length with hz | hz
            · have hj0 : j2 = 0 := by omega
              subst hj0
              obtain ⟨e1, e2⟩ := HP2.out.zero rfl
              subst e1; subst e2
              have hn1 : ¬ 0 < ts.length := by omega
              have hd1 : decide (((0 : Nat) : Int) < (ts.length : Int)) = false := by rw [decide_eq_false_iff_not]; omega
              have hd3 : ((ts.length : Int) == 0) = true := by simp; exact List.eq_nil_of_length_eq_zero hz
              clear hstop2 hj2
              go_wp2_with fail
              refine HRD.out.mono ?_
              rintro e w3 ⟨v1, v2, rfl, I3, o3, vb3, b3⟩
              have I5 : ints (w3.alloc (.cells #[] 3)) (.slice (some ⟨w3.heap.size, 0, none⟩) 0 0) [] := ⟨by exact some ⟨w3.heap.size, 0, none⟩, 0, rfl, fun j x h => by simp at h⟩
              have b4 : Below wr.heap.size wr (w3.alloc (.cells #[] 3)) := b3.trans ((Below.refl _ _).alloc b3.size _)
              have R4 : intsNew (w3.alloc (.cells #[] 3)) wo.heap.size u8 [] := HP2.out.row.only (.of_below (S := fun _ => False) b4) (fun _ _ h => h)
              have T4 : TInv (w3.alloc (.cells #[] 3)) w.heap.size S mk := HP2.out.inv.only (.of_below (S := fun _ => False) b4) (fun _ _ h => h)
              have B4 : Below w.heap.size w (w3.alloc (.cells #[] 3)) := HP2.out.below.trans (b4.mono HP2.out.below.size)
              obtain ⟨a6, c6, hu6, _, _⟩ := HP2.out.lst.form
              have hsm := same_calls R4.ints I5 (by simp)
              rw [show sameB [] [] = true from rfl] at hsm
              have HSM := Lib.hid hsm
              have HT4 := Lib.hid T4
              have HB4 := Lib.hid B4
              clear I3 o3 vb3 b3 I5 b4 R4 T4 B4 hsm HRD
              go_wp2_with fail
              refine HSM.out.mono ?_
              rintro e w5 ⟨rfl, A5⟩
              have T5 := HT4.out.only (A5.only (fun _ => False)) (fun _ _ h => h)
              have hln := len_calls T5
              have HLN := Lib.hid hln
              have HB5 := Lib.hid (HB4.out.trans (A5.below _))
              clear A5 T5 hln
              go_wp2_with fail
              refine HLN.out.mono ?_
              rintro e w6 ⟨rfl, rfl⟩
              go_wp2_with fail
              refine (lives_calls _).mono ?_
              rintro e w7 ⟨rfl, b7⟩
              have B7 := HB5.out.trans (b7.mono HB5.out.size)
              have HB7 := Lib.hid B7
              clear b7 B7
              go_wp2_with fail
              go_ret
              exact ⟨rfl, HB7.out⟩
            · obtain ⟨e1, e2⟩ := HP2.out.more (by omega)
              subst e1; subst e2
              have hd3 : ((ts.length : Int) == 0) = false := by rw [beq_eq_false_iff_ne]; omega
              clear hj2
              rcases hstop2 with hn1 | ⟨hn1, hn2⟩
              · have hd1 : decide ((j2 : Int) < (ts.length : Int)) = false := by rw [decide_eq_false_iff_not]; omega
                go_wp2_with fail
                refine HRD.out.mono ?_
                rintro e w3 ⟨v1, v2, rfl, I3, o3, vb3, b3⟩
                have R4 := HP2.out.row.only (.of_below (S := fun _ => False) b3) (fun _ _ h => h)
                have T4 := HP2.out.inv.only (.of_below (S := fun _ => False) b3) (fun _ _ h => h)
                have B4 : Below w.heap.size w w3 := HP2.out.below.trans (b3.mono HP2.out.below.size)
                obtain ⟨a6, c6, rfl, _, _⟩ := o3.form
                have hsm := same_calls R4.ints I3.ints (by have := due_len m.length m nw; omega)
                rw [show sameB (dueOf m.length m nw).1 (dueOf m.length m nw).1 = true from by simp [sameB]] at hsm
                have HSM := Lib.hid hsm
                have HT4 := Lib.hid T4
                have HB4 := Lib.hid B4
                clear I3 o3 vb3 b3 R4 T4 B4 hsm HRD
                go_wp2_with fail
                refine HSM.out.mono ?_
                rintro e w5 ⟨rfl, A5⟩
                have T5 := HT4.out.only (A5.only (fun _ => False)) (fun _ _ h => h)
                have hln := len_calls T5
                have HLN := Lib.hid hln
                have HB5 := Lib.hid (HB4.out.trans (A5.below _))
                clear A5 T5 hln
                go_wp2_with fail
                refine HLN.out.mono ?_
                rintro e w6 ⟨rfl, rfl⟩
                go_wp2_with fail
                refine (lives_calls _).mono ?_
                rintro e w7 ⟨rfl, b7⟩
                have B7 := HB5.out.trans (b7.mono HB5.out.size)
                have HB7 := Lib.hid B7
                clear b7 B7
                go_wp2_with fail
                go_ret
                exact ⟨rfl, HB7.out⟩
              · have hd1 : (j2 : Int) < (ts.length : Int) := by omega
                have hd2 : decide ((j2 : Int) < 20) = false := by rw [decide_eq_false_iff_not]; omega
                go_wp2_with fail
                refine HRD.out.mono ?_
                rintro e w3 ⟨v1, v2, rfl, I3, o3, vb3, b3⟩
                have R4 := HP2.out.row.only (.of_below (S := fun _ => False) b3) (fun _ _ h => h)
                have T4 := HP2.out.inv.only (.of_below (S := fun _ => False) b3) (fun _ _ h => h)
                have B4 : Below w.heap.size w w3 := HP2.out.below.trans (b3.mono HP2.out.below.size)
                obtain ⟨a6, c6, rfl, _, _⟩ := o3.form
                have hsm := same_calls R4.ints I3.ints (by have := due_len m.length m nw; omega)
                rw [show sameB (dueOf m.length m nw).1 (dueOf m.length m nw).1 = true from by simp [sameB]] at hsm
                have HSM := Lib.hid hsm
                have HT4 := Lib.hid T4
                have HB4 := Lib.hid B4
                clear I3 o3 vb3 b3 R4 T4 B4 hsm HRD
                go_wp2_with fail
                refine HSM.out.mono ?_
                rintro e w5 ⟨rfl, A5⟩
                have T5 := HT4.out.only (A5.only (fun _ => False)) (fun _ _ h => h)
                have hln := len_calls T5
                have HLN := Lib.hid hln
                have HB5 := Lib.hid (HB4.out.trans (A5.below _))
                clear A5 T5 hln
                go_wp2_with fail
                refine HLN.out.mono ?_
                rintro e w6 ⟨rfl, rfl⟩
                go_wp2_with fail
                refine (lives_calls _).mono ?_
                rintro e w7 ⟨rfl, b7⟩
                have B7 := HB5.out.trans (b7.mono HB5.out.size)
                have HB7 := Lib.hid B7
                clear b7 B7
                go_wp2_with fail
                go_ret
                exact ⟨rfl, HB7.out⟩
      · have hd1 : (j : Int) < (l.length : Int) := by omega
        have hd2 : decide ((j : Int) < 60) = false := by simp; omega
        go_wp2_with fail
        clear hs1 hs2 hd1 hd2
        obtain ⟨wo, rfl⟩ : ∃ wo : World, wo = wr := ⟨_, rfl⟩
        go_loopw [8, 9, 10] (fun all now iv w2 => OnceRel w wo w.heap.size ts.length S u6 m all now iv w2) (fun _ _ iv _ => 20 - (intOf iv).toNat)
        case atStart =>
          exact ⟨0, -9223372036854775808, [], m, rfl, rfl, Nat.zero_le _, Nat.zero_le _, ⟨rfl, .inr ⟨wo.heap.size, 0, #[], rfl, Nat.le_refl _, YtbgklnepmljiaaaMem.heap_alloc_new _ _, Nat.le_refl _, by unfold maxLen; omega, rfl, rfl⟩⟩,
            HP.out.both.inv.only ((Only.refl (fun _ => False) _).alloc _) (fun _ _ h => h), HP.out.both.lst.only ((Only.refl (fun _ => False) _).alloc _) (fun _ _ h => h), HP.out.below.trans ((Below.refl _ _).alloc HP.out.below.size _), by simp, fun _ => ⟨rfl, rfl⟩, fun h => absurd h (Nat.lt_irrefl 0)⟩
        case round =>
          obtain ⟨j2, nw, acc, mk, P2⟩ := hrel
          obtain rfl := P2.i
          obtain rfl := P2.t
          have hmk : mk.length ≤ m.length := by
            rcases Nat.eq_zero_or_pos j2 with h | h
            · rw [(P2.zero h).2]; exact Nat.le_refl _
            · rw [(P2.more h).2]; exact due_le _ _ _
          have hac : acc.length ≤ m.length := by
            rcases Nat.eq_zero_or_pos j2 with h | h
            · rw [(P2.zero h).1]; simp
            · rw [(P2.more h).1]; exact due_len _ _ _
          by_cases hgo2 : j2 < ts.length ∧ j2 < 20
          · obtain ⟨hlt2, h20⟩ := hgo2
            obtain ⟨x, hx⟩ : ∃ x, ts[j2]? = some x := ⟨ts[j2], by simp [hlt2]⟩
            obtain ⟨b, o, rfl, k0⟩ := HTC.out j2 x hx
            have hbl := (cell_parts k0).2
            have c0 := (P2.below.cell (p := ⟨b, o + j2, none⟩) hbl).trans k0
            have hi1 : (j2 : Int) < (ts.length : Int) := by omega
            obtain ⟨nx, hnx1, hnx2, hnx⟩ : ∃ nx : Int, nw ≤ nx ∧ x ≤ nx ∧ nx = (if nw < x then x else nw) := ⟨if nw < x then x else nw, by split <;> omega, by split <;> omega, rfl⟩
            have hdue := due_calls P2.inv (by omega) nx
            have HD := Lib.hid hdue
            have HP2 := Lib.hid P2
            have HNX := Lib.hid hnx
            clear P2 k0 hx hdue hnx
            have hfin : ∀ v4 w3, DueP w.heap.size S mk nx wr (.returned v4) w3 → ∃ l4 m4, intsNew w3 wr.heap.size v4 l4 ∧ TInv w3 w.heap.size S m4 ∧ Only S wr w3 ∧ acc ++ l4 = (dueOf m.length m nx).1 ∧ m4 = (dueOf m.length m nx).2 := by
              rintro v4 w3 ⟨v4', e, I4, T4, O4⟩
              cases e
              refine ⟨_, _, I4, T4, O4, ?_⟩
              have nd := HP.out.both.inv.nodup
              rcases Nat.eq_zero_or_pos j2 with h | h
              · obtain ⟨e1, e2⟩ := HP2.out.zero h
                subst e1; subst e2
                exact ⟨rfl, rfl⟩
              · obtain ⟨e1, e2⟩ := HP2.out.more h
                have := due_later m.length m nw nx rfl nd hnx1
                subst e1; subst e2
                exact ⟨this.1.symm, this.2.symm⟩
            have HF := Lib.hid hfin
            clear hfin
            by_cases hmx : nw < x
            · have e : nx = x := by rw [HNX.out, if_pos hmx]
              subst e
              go_wp2_with fail
              refine HD.out.mono ?_
              rintro e w3 hp
              obtain ⟨v4, rfl⟩ : ∃ v4, e = .returned v4 := ⟨_, hp.choose_spec.1⟩
              obtain ⟨l4, m4, I4, T4, O4, ga, gm⟩ := HF.out v4 w3 hp
              have hl4 : l4.length ≤ m.length := by
                have h1 : (acc ++ l4).length ≤ m.length := by rw [ga]; exact due_len _ _ _
                simp at h1; omega
              have hbw : ∀ k, S k → wo.heap.size ≤ k → False := fun k hk h => by have := HSl.out k hk; omega
              have R3 : intsNew w3 wo.heap.size u8 acc := HP2.out.row.only O4 (fun k h hk => hbw k hk h)
              have B3 : Below w.heap.size w w3 := HP2.out.below.trans (O4.belowS HP.out.sb HP2.out.below.size)
              have L3 : ones w3 0 u6 m := HP2.out.lst.only O4 HP.out.both.off
              have z3 := O4.size
              have HR3 := Lib.hid R3
              have HT4 := Lib.hid T4
              have HB3 := Lib.hid B3
              have HL3 := Lib.hid L3
              have HG := Lib.hid (And.intro ga gm)
              have HI4 := Lib.hid I4
              have HZ3 := Lib.hid (Nat.le_trans HP2.out.size z3)
              clear hp I4 T4 O4 ga gm R3 B3 L3 c0 hbw
              have hnew : ∀ v' w4, intsNew w4 wo.heap.size v' (acc ++ l4) → w3.grownBy w4 u8.ownBlock → OnceRel w wo w.heap.size ts.length S u6 m v' (.int .i64 nx) (.int .i64 ((j2 + 1 : Nat) : Int)) w4 := by
                intro v' w4 hI hG
                have hub : ∀ k, u8.ownBlock = some k → wo.heap.size ≤ k := fun k hk => HR3.out.below hk
                have O : Only (fun k => u8.ownBlock = some k) w3 w4 := Only.of_grown hG
                refine ⟨j2 + 1, nx, acc ++ l4, m4, rfl, rfl, by omega, by omega, hI, HT4.out.only O (fun k hk hu => by have := hub k hu; have := HSl.out k hk; omega), HL3.out.only O (fun k hk hu => by have := hub k hu; have := HVl.out k hk; omega), HB3.out.trans (O.belowS (fun k hk => by have := hub k hk; have := HP.out.below.size; omega) HB3.out.size), Nat.le_trans HZ3.out hG.size, fun h => by omega, fun _ => HG.out⟩
              have HNEW := Lib.hid hnew
              clear hnew
              rcases Nat.eq_zero_or_pos l4.length with h4 | h4
              · have e4 : l4 = [] := List.eq_nil_of_length_eq_zero h4
                obtain ⟨a4, c4, rfl⟩ := HI4.out.len
                subst e4
                have HR := Lib.hid (HNEW.out u8 w3 (by rw [List.append_nil]; exact HR3.out) ⟨rfl, rfl, rfl, Nat.le_refl _, fun _ _ _ => rfl⟩)
                go_wp2_with (first | (at_builtin; refine wpList_append0 rfl rfl Try.underlying23 hi hz1 rfl HR3.out rfl ?_))
                go_roundw
                case rel => exact HR.out
                case measure => simp [intOf]; omega
              · obtain ⟨a4, c4, hv4, hcl⟩ := HI4.out.ints
                subst hv4
                obtain ⟨b4, ob, ha4, _⟩ := hcl 0 (l4[0]) (by simp)
                subst ha4
                have hnews : ∀ (q : Nat) (u : Value), (l4.map (Value.int .i64))[q]? = some u → w3.cell? ((⟨b4, ob, none⟩ : Addr).add q) = some u := by
                  intro q u hq
                  rw [List.getElem?_map] at hq
                  cases hx : l4[q]? with
                  | none => rw [hx] at hq; cases hq
                  | some y =>
                    rw [hx] at hq
                    simp only [Option.map_some, Option.some.injEq] at hq
                    subst hq
                    obtain ⟨b5, o5, h5, k5⟩ := hcl q y hx
                    cases h5
                    rw [Addr.add_lit]; exact k5
                have h1c : ∀ u ∈ l4.map (Value.int .i64), u.oneCell' = true := by
                  intro u hu
                  obtain ⟨y, _, rfl⟩ := List.mem_map.1 hu
                  rfl
                have HNW := Lib.hid hnews
                have H1C := Lib.hid h1c
                have hwz : wo.heap.size ≤ w3.heap.size := HZ3.out
                clear hcl hnews h1c
                go_wp2_with (first | (at_builtin; refine wpList_append2 rfl rfl Try.underlying23 hi hz0 hz1 hz2 rfl (by decide) rfl HR3.out rfl (news := l4.map (Value.int .i64)) (m := l4.length) (by simp) HNW.out H1C.out h4 (by unfold maxLen; omega) (by omega) hwz ?a3))
                case a3 =>
                  intro v' w4 hR hG hW
                  have HR := Lib.hid (HNEW.out v' w4 (by unfold intsNew; rw [List.length_append, List.map_append]; exact hR) hG)
                  clear hR hG hW
                  go_wp2_with fail
                  go_roundw
                  case rel => exact HR.out
                  case measure => simp [intOf]; omega
            · have e : nx = nw := by rw [HNX.out, if_neg hmx]
              subst e
              go_wp2_with fail
              refine HD.out.mono ?_
              rintro e w3 hp
              obtain ⟨v4, rfl⟩ : ∃ v4, e = .returned v4 := ⟨_, hp.choose_spec.1⟩
              obtain ⟨l4, m4, I4, T4, O4, ga, gm⟩ := HF.out v4 w3 hp
              have hl4 : l4.length ≤ m.length := by
                have h1 : (acc ++ l4).length ≤ m.length := by rw [ga]; exact due_len _ _ _
                simp at h1; omega
              have hbw : ∀ k, S k → wo.heap.size ≤ k → False := fun k hk h => by have := HSl.out k hk; omega
              have R3 : intsNew w3 wo.heap.size u8 acc := HP2.out.row.only O4 (fun k h hk => hbw k hk h)
              have B3 : Below w.heap.size w w3 := HP2.out.below.trans (O4.belowS HP.out.sb HP2.out.below.size)
              have L3 : ones w3 0 u6 m := HP2.out.lst.only O4 HP.out.both.off
              have z3 := O4.size
              have HR3 := Lib.hid R3
              have HT4 := Lib.hid T4
              have HB3 := Lib.hid B3
              have HL3 := Lib.hid L3
              have HG := Lib.hid (And.intro ga gm)
              have HI4 := Lib.hid I4
              have HZ3 := Lib.hid (Nat.le_trans HP2.out.size z3)
              clear hp I4 T4 O4 ga gm R3 B3 L3 c0 hbw
              have hnew : ∀ v' w4, intsNew w4 wo.heap.size v' (acc ++ l4) → w3.grownBy w4 u8.ownBlock → OnceRel w wo w.heap.size ts.length S u6 m v' (.int .i64 nx) (.int .i64 ((j2 + 1 : Nat) : Int)) w4 := by
                intro v' w4 hI hG
                have hub : ∀ k, u8.ownBlock = some k → wo.heap.size ≤ k := fun k hk => HR3.out.below hk
                have O : Only (fun k => u8.ownBlock = some k) w3 w4 := Only.of_grown hG
                refine ⟨j2 + 1, nx, acc ++ l4, m4, rfl, rfl, by omega, by omega, hI, HT4.out.only O (fun k hk hu => by have := hub k hu; have := HSl.out k hk; omega), HL3.out.only O (fun k hk hu => by have := hub k hu; have := HVl.out k hk; omega), HB3.out.trans (O.belowS (fun k hk => by have := hub k hk; have := HP.out.below.size; omega) HB3.out.size), Nat.le_trans HZ3.out hG.size, fun h => by omega, fun _ => HG.out⟩
              have HNEW := Lib.hid hnew
              clear hnew
              rcases Nat.eq_zero_or_pos l4.length with h4 | h4
              · have e4 : l4 = [] := List.eq_nil_of_length_eq_zero h4
                obtain ⟨a4, c4, rfl⟩ := HI4.out.len
                subst e4
                have HR := Lib.hid (HNEW.out u8 w3 (by rw [List.append_nil]; exact HR3.out) ⟨rfl, rfl, rfl, Nat.le_refl _, fun _ _ _ => rfl⟩)
                go_wp2_with (first | (at_builtin; refine wpList_append0 rfl rfl Try.underlying23 hi hz1 rfl HR3.out rfl ?_))
                go_roundw
                case rel => exact HR.out
                case measure => simp [intOf]; omega
              · obtain ⟨a4, c4, hv4, hcl⟩ := HI4.out.ints
                subst hv4
                obtain ⟨b4, ob, ha4, _⟩ := hcl 0 (l4[0]) (by simp)
                subst ha4
                have hnews : ∀ (q : Nat) (u : Value), (l4.map (Value.int .i64))[q]? = some u → w3.cell? ((⟨b4, ob, none⟩ : Addr).add q) = some u := by
                  intro q u hq
                  rw [List.getElem?_map] at hq
                  cases hx : l4[q]? with
                  | none => rw [hx] at hq; cases hq
                  | some y =>
                    rw [hx] at hq
                    simp only [Option.map_some, Option.some.injEq] at hq
                    subst hq
                    obtain ⟨b5, o5, h5, k5⟩ := hcl q y hx
                    cases h5
                    rw [Addr.add_lit]; exact k5
                have h1c : ∀ u ∈ l4.map (Value.int .i64), u.oneCell' = true := by
                  intro u hu
                  obtain ⟨y, _, rfl⟩ := List.mem_map.1 hu
                  rfl
                have HNW := Lib.hid hnews
                have H1C := Lib.hid h1c
                have hwz : wo.heap.size ≤ w3.heap.size := HZ3.out
                clear hcl hnews h1c
                go_wp2_with (first | (at_builtin; refine wpList_append2 rfl rfl Try.underlying23 hi hz0 hz1 hz2 rfl (by decide) rfl HR3.out rfl (news := l4.map (Value.int .i64)) (m := l4.length) (by simp) HNW.out H1C.out h4 (by unfold maxLen; omega) (by omega) hwz ?a3))
                case a3 =>
                  intro v' w4 hR hG hW
                  have HR := Lib.hid (HNEW.out v' w4 (by unfold intsNew; rw [List.length_append, List.map_append]; exact hR) hG)
                  clear hR hG hW
                  go_wp2_with fail
                  go_roundw
                  case rel => exact HR.out
                  case measure => simp [intOf]; omega
          · have nd := HP.out.both.inv.nodup
            have hrd := rdue_calls P2.lst (by omega) nd nw
            have HRD := Lib.hid hrd
            have HP2 := Lib.hid P2
            have hstop2 : ¬ j2 < ts.length ∨ (j2 < ts.length ∧ ¬ j2 < 20) := by
              by_cases h1 : j2 < ts.length
              · exact .inr ⟨h1, fun h => hgo2 ⟨h1, h⟩⟩
              · exact .inl h1
            have hj2 := P2.jn
            clear hrd P2 hgo2 nd
            -- what is told behind the loop, whichever way out
            have hend : ∀ w3, RDueP u6 m nw wr (.returned (.tuple #[.slice none 0 0, .slice none 0 0])) w3 → True := fun _ _ => trivial
            clear hend
            rcases Nat.eq_zero_or_pos ts.length with hz | hz
            · have hj0 : j2 = 0 := by omega
              subst hj0
              obtain ⟨e1, e2⟩ := HP2.out.zero rfl
              subst e1; subst e2
              have hn1 : ¬ 0 < ts.length := by omega
              have hd1 : decide (((0 : Nat) : Int) < (ts.length : Int)) = false := by rw [decide_eq_false_iff_not]; omega
              have hd3 : ((ts.length : Int) == 0) = true := by simp; exact List.eq_nil_of_length_eq_zero hz
              clear hstop2 hj2
              go_wp2_with fail
              refine HRD.out.mono ?_
              rintro e w3 ⟨v1, v2, rfl, I3, o3, vb3, b3⟩
              have I5 : ints (w3.alloc (.cells #[] 3)) (.slice (some ⟨w3.heap.size, 0, none⟩) 0 0) [] := ⟨by exact some ⟨w3.heap.size, 0, none⟩, 0, rfl, fun j x h => by simp at h⟩
              have b4 : Below wr.heap.size wr (w3.alloc (.cells #[] 3)) := b3.trans ((Below.refl _ _).alloc b3.size _)
              have R4 : intsNew (w3.alloc (.cells #[] 3)) wo.heap.size u8 [] := HP2.out.row.only (.of_below (S := fun _ => False) b4) (fun _ _ h => h)
              have T4 : TInv (w3.alloc (.cells #[] 3)) w.heap.size S mk := HP2.out.inv.only (.of_below (S := fun _ => False) b4) (fun _ _ h => h)
              have B4 : Below w.heap.size w (w3.alloc (.cells #[] 3)) := HP2.out.below.trans (b4.mono HP2.out.below.size)
              obtain ⟨a6, c6, hu6, _, _⟩ := HP2.out.lst.form
              have hsm := same_calls R4.ints I5 (by simp)
              rw [show sameB [] [] = true from rfl] at hsm
              have HSM := Lib.hid hsm
              have HT4 := Lib.hid T4
              have HB4 := Lib.hid B4
              clear I3 o3 vb3 b3 I5 b4 R4 T4 B4 hsm HRD
              go_wp2_with fail
              refine HSM.out.mono ?_
              rintro e w5 ⟨rfl, A5⟩
              have T5 := HT4.out.only (A5.only (fun _ => False)) (fun _ _ h => h)
              have hln := len_calls T5
              have HLN := Lib.hid hln
              have HB5 := Lib.hid (HB4.out.trans (A5.below _))
              clear A5 T5 hln
              go_wp2_with fail
              refine HLN.out.mono ?_
              rintro e w6 ⟨rfl, rfl⟩
              go_wp2_with fail
              refine (lives_calls _).mono ?_
              rintro e w7 ⟨rfl, b7⟩
              have B7 := HB5.out.trans (b7.mono HB5.out.size)
              have HB7 := Lib.hid B7
              clear b7 B7
              go_wp2_with fail
              go_ret
              exact ⟨rfl, HB7.out⟩
            · obtain ⟨e1, e2⟩ := HP2.out.more (by omega)
              subst e1; subst e2
              have hd3 : ((ts.length : Int) == 0) = false := by rw [beq_eq_false_iff_ne]; omega
              clear hj2
              rcases hstop2 with hn1 | ⟨hn1, hn2⟩
              · have hd1 : decide ((j2 : Int) < (ts.length : Int)) = false := by rw [decide_eq_false_iff_not]; omega
                go_wp2_with fail
                refine HRD.out.mono ?_
                rintro e w3 ⟨v1, v2, rfl, I3, o3, vb3, b3⟩
                have R4 := HP2.out.row.only (.of_below (S := fun _ => False) b3) (fun _ _ h => h)
                have T4 := HP2.out.inv.only (.of_below (S := fun _ => False) b3) (fun _ _ h => h)
                have B4 : Below w.heap.size w w3 := HP2.out.below.trans (b3.mono HP2.out.below.size)
                obtain ⟨a6, c6, rfl, _, _⟩ := o3.form
                have hsm := same_calls R4.ints I3.ints (by have := due_len m.length m nw; omega)
                rw [show sameB (dueOf m.length m nw).1 (dueOf m.length m nw).1 = true from by simp [sameB]] at hsm
                have HSM := Lib.hid hsm
                have HT4 := Lib.hid T4
                have HB4 := Lib.hid B4
                clear I3 o3 vb3 b3 R4 T4 B4 hsm HRD
                go_wp2_with fail
                refine HSM.out.mono ?_
                rintro e w5 ⟨rfl, A5⟩
                have T5 := HT4.out.only (A5.only (fun _ => False)) (fun _ _ h => h)
                have hln := len_calls T5
                have HLN := Lib.hid hln
                have HB5 := Lib.hid (HB4.out.trans (A5.below _))
                clear A5 T5 hln
                go_wp2_with fail
                refine HLN.out.mono ?_
                rintro e w6 ⟨rfl, rfl⟩
                go_wp2_with fail
                refine (lives_calls _).mono ?_
                rintro e w7 ⟨rfl, b7⟩
                have B7 := HB5.out.trans (b7.mono HB5.out.size)
                have HB7 := Lib.hid B7
                clear b7 B7
                go_wp2_with fail
                go_ret
                exact ⟨rfl, HB7.out⟩
              · have hd1 : (j2 : Int) < (ts.length : Int) := by omega
                have hd2 : decide ((j2 : Int) < 20) = false := by rw [decide_eq_false_iff_not]; omega
                go_wp2_with fail
                refine HRD.out.mono ?_
                rintro e w3 ⟨v1, v2, rfl, I3, o3, vb3, b3⟩
                have R4 := HP2.out.row.only (.of_below (S := fun _ => False) b3) (fun _ _ h => h)
                have T4 := HP2.out.inv.only (.of_below (S := fun _ => False) b3) (fun _ _ h => h)
                have B4 : Below w.heap.size w w3 := HP2.out.below.trans (b3.mono HP2.out.below.size)
                obtain ⟨a6, c6, rfl, _, _⟩ := o3.form
                have hsm := same_calls R4.ints I3.ints (by have := due_len m.length m nw; omega)
                rw [show sameB (dueOf m.length m nw).1 (dueOf m.length m nw).1 = true from by simp [sameB]] at hsm
                have HSM := Lib.hid hsm
                have HT4 := Lib.hid T4
                have HB4 := Lib.hid B4
                clear I3 o3 vb3 b3 R4 T4 B4 hsm HRD
                go_wp2_with fail
                refine HSM.out.mono ?_
                rintro e w5 ⟨rfl, A5⟩
                have T5 := HT4.out.only (A5.only (fun _ => False)) (fun _ _ h => h)
                have hln := len_calls T5
                have HLN := Lib.hid hln
                have HB5 := Lib.hid (HB4.out.trans (A5.below _))
                clear A5 T5 hln
                go_wp2_with fail
                refine HLN.out.mono ?_
                rintro e w6 ⟨rfl, rfl⟩
                go_wp2_with fail
                refine (lives_calls _).mono ?_
                rintro e w7 ⟨rfl, b7⟩
                have B7 := HB5.out.trans (b7.mono HB5.out.size)
                have HB7 := Lib.hid B7
                clear b7 B7
                go_wp2_with fail
                go_ret
                exact ⟨rfl, HB7.out⟩
end Go.Proofs.Ytbgklnepmljiaaa
