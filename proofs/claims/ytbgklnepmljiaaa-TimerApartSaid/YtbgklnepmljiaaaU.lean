/- The walk over TimerPlays. -/
import Derived.Test.YtbgklnepmljiaaaT
namespace Go.Proofs.Ytbgklnepmljiaaa
open Go.RowKit YtbgklnepmljiaaaMem Go.ChangeMaps

/-- Calls in memory: kind, id, time. -/
def opsIs (w : World) (v : Value) (l : List (Int × Int × Int)) : Prop := l.length ≤ 9223372036854775807 ∧ ∃ a c, v = .slice a l.length c ∧ ∀ (j : Nat) (x : Int × Int × Int), l[j]? = some x → ∃ b o, a = some ⟨b, o, none⟩ ∧ b < w.heap.size ∧
  w.cell? ⟨b, o + j * 3, none⟩ = some (.int .i64 x.1) ∧ w.cell? ⟨b, o + j * 3 + 1, none⟩ = some (.int .i64 x.2.1) ∧ w.cell? ⟨b, o + j * 3 + 2, none⟩ = some (.int .i64 x.2.2)
theorem opsIs.below {w w' : World} {v : Value} {l : List (Int × Int × Int)} (h : opsIs w v l) (hb : Below w.heap.size w w') : opsIs w' v l := by
  obtain ⟨h0, a, c, hv, hc⟩ := h
  refine ⟨h0, a, c, hv, fun j x hj => ?_⟩
  obtain ⟨b, o, ha, hlt, h1, h2, h3⟩ := hc j x hj
  exact ⟨b, o, ha, Nat.lt_of_lt_of_le hlt hb.size, (hb.cell (p := ⟨b, _, none⟩) hlt).trans h1, (hb.cell (p := ⟨b, _, none⟩) hlt).trans h2, (hb.cell (p := ⟨b, _, none⟩) hlt).trans h3⟩

structure PlayAt (w : World) (bt : Nat) (n : Nat) (mv okv iv : Value) (wr : World) (j : Nat) (S : Nat → Prop) (m : List (Int × Int)) : Prop where
  i : iv = .int .i64 (j : Int)
  ok : okv = .bool true
  jn : j ≤ n
  j60 : j ≤ 60
  both : Both wr bt S mv m
  len : m.length ≤ j
  sb : ∀ k, S k → w.heap.size ≤ k
  vb : ∀ k, mv.ownBlock = some k → w.heap.size ≤ k
  below : Below w.heap.size w wr
def PlayRel (w : World) (bt : Nat) (n : Nat) (mv okv iv : Value) (wr : World) : Prop := ∃ j S m, PlayAt w bt n mv okv iv wr j S m

theorem PlayAt.next {w : World} {bt n : Nat} {mv : Value} {wr w1 w2 : World} {j : Nat} {S S' : Nat → Prop} {m m' : List (Int × Int)} {v' : Value} {okv iv : Value} (P : PlayAt w bt n mv okv iv wr j S m) (D : Done wr w1 bt S mv S' v' m') (hm : m'.length ≤ m.length + 1) (hn : j < n) (h60 : j < 60) (A : Alike0 w1 w2) :
    PlayRel w bt n v' (.bool true) (.int .i64 ((j + 1 : Nat) : Int)) w2 := by
  have z := P.below.size
  have hl := P.len
  refine ⟨j + 1, S', m', rfl, rfl, hn, h60, D.both.alike A, by omega, fun k hk => ?_, fun k hk => ?_, (P.below.trans (D.only.belowS P.sb z)).trans (A.below _)⟩
  · rcases D.blocks k hk with h | h
    · exact P.sb k h
    · omega
  · rcases D.vb k hk with h | h
    · exact P.vb k h
    · omega

theorem Both_new (w : World) : Both ((w.alloc (.cells #[.slice none 0 0, .map none] 28)).alloc (.cells #[] 58)) w.heap.size (fun k => k = w.heap.size) (.slice (some ⟨w.heap.size + 1, 0, none⟩) 0 0) [] := by
  refine ⟨(TInv_new w).only ((Only.refl (fun _ => False) _).alloc _) (fun _ _ h => h), ?_, fun k hk hs => ?_⟩
  · have := YtbgklnepmljiaaaMem.heap_alloc_new (w.alloc (.cells #[.slice none 0 0, .map none] 28)) (.cells #[] 58)
    rw [World.size_alloc] at this
    exact ones_none _ _ _ this (Nat.zero_le _)
  · cases hk; have : w.heap.size + 1 = w.heap.size := hs; omega

set_option maxHeartbeats 2000000 in
theorem plays_calls {v : Value} {l : List (Int × Int × Int)} {w : World} (hv : opsIs w v l) (id : Int) :
    Calls Try.prog 4 #[v, .int .i64 id] w fun e w' => e = .returned (.bool true) ∧ Below w.heap.size w w' := by
  obtain ⟨h63, a, c, rfl, hcells⟩ := hv
  have HC := Lib.hid hcells
  have HN := Lib.hid (Both_new w)
  clear hcells
  go_enter Try.func4, Try.ntmps4
  go_wp2
  go_loopw [6, 7, 8] (fun mv okv iv wr => PlayRel w w.heap.size l.length mv okv iv wr) (fun _ _ iv _ => 60 - (intOf iv).toNat)
  case atStart =>
    exact ⟨0, _, [], rfl, rfl, Nat.zero_le _, Nat.zero_le _, HN.out, Nat.le_refl _, fun k hk => Nat.le_of_eq hk.symm, fun k hk => by cases hk; exact Nat.le_succ _, ((Below.refl _ _).alloc (Nat.le_refl _) _).alloc (by simp) _⟩
  case round =>
    obtain ⟨j, S, m, P⟩ := hrel
    obtain rfl := P.i
    obtain rfl := P.ok
    have hj60 := P.j60
    have hjn := P.jn
    have hml := P.len
    by_cases hgo : j < l.length ∧ j < 60
    · obtain ⟨hlt, h60⟩ := hgo
      obtain ⟨x, hx⟩ : ∃ x, l[j]? = some x := ⟨l[j], by simp [hlt]⟩
      obtain ⟨b, o, rfl, hb, k0, k1, k2⟩ := HC.out j x hx
      have c0 := (P.below.cell (p := ⟨b, o + j * 3, none⟩) hb).trans k0
      have c1 := (P.below.cell (p := ⟨b, o + j * 3 + 1, none⟩) hb).trans k1
      have c2 := (P.below.cell (p := ⟨b, o + j * 3 + 2, none⟩) hb).trans k2
      have hdo := do_calls P.both (by omega) x.1 x.2.1 x.2.2
      have HD := Lib.hid hdo
      have HP := Lib.hid P
      have HK := Lib.hid k1
      clear P hdo k0 k1 k2 hx
      have hi1 : (j : Int) < (l.length : Int) := by omega
      go_wp2_with fail
      refine HD.out.mono ?_
      rintro e w1 ⟨S', v', rfl, D⟩
      have hml2 := opF_le m x.1 x.2.1 x.2.2
      have ht1 := tells_calls D.both (by omega) id
      have HDN := Lib.hid D
      have HT1 := Lib.hid ht1
      clear D ht1 c0 c1 c2
      go_wp2_with fail
      refine HT1.out.mono ?_
      rintro e w2 ⟨rfl, A2⟩
      have HA2 := Lib.hid A2
      have q1 := (((HP.out.below.trans (HDN.out.only.belowS HP.out.sb HP.out.below.size)).trans (A2.below _)).cell (p := ⟨b, o + j * 3 + 1, none⟩) hb).trans HK.out
      have ht2 := tells_calls (HDN.out.both.alike A2) (by omega) x.2.1
      have HT2 := Lib.hid ht2
      clear A2 ht2
      go_wp2_with fail
      refine HT2.out.mono ?_
      rintro e w3 ⟨rfl, A3⟩
      have HR := Lib.hid (HP.out.next HDN.out hml2 hlt h60 (HA2.out.trans A3))
      clear A3 q1
      go_wp2_with fail
      go_roundw
      case rel => exact HR.out
      case measure => simp [intOf]; omega
    · have hstop : ¬ (j < l.length ∧ j < 60) := hgo
      have HP := Lib.hid P
      clear P hgo
      by_cases h1 : j < l.length
      · have h2 : ¬ j < 60 := fun h => hstop ⟨h1, h⟩
        have hi1 : (j : Int) < (l.length : Int) := by omega
        have hi2 : decide ((j : Int) < 60) = false := by simp; omega
        clear hstop
        go_wp2_with fail
        refine (lives_calls _).mono ?_
        rintro e w1 ⟨rfl, hb⟩
        have hb2 : Below w.heap.size w w1 := HP.out.below.trans (hb.mono HP.out.below.size)
        have HB := Lib.hid hb2
        clear hb hb2
        go_wp2_with fail
        go_ret
        exact ⟨rfl, HB.out⟩
      · have hi1 : decide ((j : Int) < (l.length : Int)) = false := by simp; omega
        clear hstop
        go_wp2_with fail
        refine (lives_calls _).mono ?_
        rintro e w1 ⟨rfl, hb⟩
        have hb2 : Below w.heap.size w w1 := HP.out.below.trans (hb.mono HP.out.below.size)
        have HB := Lib.hid hb2
        clear hb hb2
        go_wp2_with fail
        go_ret
        exact ⟨rfl, HB.out⟩
end Go.Proofs.Ytbgklnepmljiaaa
