/- The walk over Due. -/
import Derived.Test.YtbgklnepmljiaaaG
namespace Go.Proofs.Ytbgklnepmljiaaa
open Go.RowKit YtbgklnepmljiaaaMem Go.ChangeMaps

theorem Try.info3 : (Try.prog.info? 3).map (fun i => (i.zero, i.size, i.bytes)) = some (some (.int .i64 0), 1, 8) := by kernel_rfl

/-- A list of ints in new memory. -/
def intsNew (w : World) (base : Nat) (v : Value) (l : List Int) : Prop := w.ownsRow base 3 1 v l.length (l.map (Value.int .i64))
theorem intsNew.only {w w' : World} {base : Nat} {v : Value} {l : List Int} (h : intsNew w base v l) {S : Nat → Prop} (ho : Only S w w') (hd : ∀ k, base ≤ k → ¬ S k) : intsNew w' base v l := by
  refine row_kept h fun k hk => ?_
  rcases h.2 with ⟨rfl, _⟩ | ⟨g, cap, cur, rfl, hb, hg, _⟩
  · cases hk
  · cases hk; exact ho.block _ (heap_lt hg) (hd _ hb)
theorem intsNew.below {w : World} {base : Nat} {v : Value} {l : List Int} (h : intsNew w base v l) {k : Nat} (hk : v.ownBlock = some k) : base ≤ k := by
  rcases h.2 with ⟨rfl, _⟩ | ⟨g, cap, cur, rfl, hb, hg, _⟩
  · cases hk
  · cases hk; exact hb
theorem intsNew.len {w : World} {base : Nat} {v : Value} {l : List Int} (h : intsNew w base v l) : ∃ a c, v = .slice a l.length c := by
  rcases h.2 with ⟨rfl, e⟩ | ⟨g, cap, cur, rfl, hb, hg, _⟩
  · exact ⟨none, 0, by rw [e]⟩
  · exact ⟨_, _, rfl⟩

def vlen : Value → Nat
  | .slice _ n _ => n
  | _ => 0

structure DueAt (w : World) (bt : Nat) (S : Nat → Prop) (m : List (Int × Int)) (now : Int) (v : Value) (wr : World) (ls : List Int) (mk : List (Int × Int)) : Prop where
  row : intsNew wr w.heap.size v ls
  inv : TInv wr bt S mk
  only : Only S w wr
  len : ls.length + mk.length = m.length
  got : ls ++ (dueOf mk.length mk now).1 = (dueOf m.length m now).1
  left : (dueOf mk.length mk now).2 = (dueOf m.length m now).2
def DueRel (w : World) (bt : Nat) (S : Nat → Prop) (m : List (Int × Int)) (now : Int) (v : Value) (wr : World) : Prop := ∃ ls mk, DueAt w bt S m now v wr ls mk
def DueP (bt : Nat) (S : Nat → Prop) (m : List (Int × Int)) (now : Int) (w : World) (e : Ending) (w' : World) : Prop :=
  ∃ v, e = .returned v ∧ intsNew w' w.heap.size v (dueOf m.length m now).1 ∧ TInv w' bt S (dueOf m.length m now).2 ∧ Only S w w'

theorem due_stop {m : List (Int × Int)} {now : Int} (h : isDue m now = false) (k : Nat) : dueOf k m now = ([], m) := by
  cases k with
  | zero => rfl
  | succ k =>
    unfold isDue at h
    simp only [dueOf]
    cases hm : minOf m with
    | none => rfl
    | some p => rw [hm] at h; simp only [decide_eq_false_iff_not] at h; simp only [if_neg h]
theorem due_step {m : List (Int × Int)} {now : Int} {p : Int × Int} (hm : minOf m = some p) (hp : p.1 ≤ now) (k : Nat) : dueOf (k + 1) m now = (p.2 :: (dueOf k (wo m p.2) now).1, (dueOf k (wo m p.2) now).2) := by
  simp only [dueOf, hm, if_pos hp]

theorem DueAt.stop {w : World} {bt : Nat} {S : Nat → Prop} {m : List (Int × Int)} {now : Int} {v : Value} {wr w' : World} {ls : List Int} {mk : List (Int × Int)} (D : DueAt w bt S m now v wr ls mk) (h : isDue mk now = false) (ha : wr = w') : DueP bt S m now w (.returned v) w' := by
  subst ha
  have a := D.got
  have b := D.left
  rw [due_stop h] at a b
  simp only [List.append_nil] at a
  exact ⟨v, rfl, by rw [← a]; exact D.row, by rw [← b]; exact D.inv, D.only⟩

set_option maxHeartbeats 400000 in
theorem due_calls {bt : Nat} {S : Nat → Prop} {m : List (Int × Int)} {w : World} (T : TInv w bt S m) (hl : m.length ≤ 1000000) (now : Int) :
    Calls Try.prog 9 #[.pointer (some ⟨bt, 0, none⟩), .int .i64 now] w (DueP bt S m now w) := by
  obtain ⟨i0, hi, hz0, hz1, hz2⟩ := info_parts Try.info3
  have HS := Lib.hid T.hS
  have HT := Lib.hid T
  clear T
  go_enter Try.func9, Try.ntmps9
  go_wp2
  go_loopw [5] (fun v wr => DueRel w bt S m now v wr) (fun v _ => m.length - vlen v)
  case atStart => exact ⟨[], m, World.ownsRow_nil w _ _ _, HT.out, Only.refl _ _, by simp, rfl, rfl⟩
  case round =>
    obtain ⟨ls, mk, D⟩ := hrel
    have hll := D.len
    rcases Nat.eq_zero_or_pos mk.length with h0 | h0
    · have hmk : mk = [] := List.eq_nil_of_length_eq_zero h0
      subst hmk
      have HD := Lib.hid D
      have hlen := len_calls D.inv
      have HL := Lib.hid hlen
      clear D hlen
      go_wp2_with fail
      refine HL.out.mono ?_
      rintro e w1 ⟨rfl, rfl⟩
      go_wp2_with fail
      go_ret
      exact HD.out.stop rfl rfl
    · have HL := Lib.hid (len_calls D.inv)
      have hT := D.inv
      cases hT with
      | bare v top row hb hm hS hlt => rw [hm] at h0; simp at h0
      | full bh bm cap n g M raw ok map apart len mem hcap nd hS h1 h2 hlt =>
        have hn : 0 < n := by omega
        have hmin := min_of_ok ok mem hn
        obtain ⟨c0, c1, -⟩ := raw.c0
        obtain ⟨g0, g1, -, -⟩ := raw.arr.at hn
        have hgt : decide ((mk.length : Int) > 0) = true := by simp; omega
        by_cases hdue : (g 0).1 ≤ now
        · have hlw : mk.length = (wo mk (g 0).2).length + 1 := (wo_length nd (has_iff.2 ⟨g 0, (mem _).1 ⟨0, hn, rfl⟩, rfl⟩)).symm
          have hst := due_step hmin hdue (wo mk (g 0).2).length
          rw [← hlw] at hst
          have hlt' : ∀ k, S k → k < w.heap.size := HS.out.2
          have hwsz := D.only.size
          -- the world ahead of the append
          have hR2 := row_kept (w' := wr.alloc (Obj.cells #[Value.int IntKind.i64 (g 0).2] 3)) D.row (fun k hk => Below.heap_alloc _ _ _ (by
            rcases D.row.2 with ⟨h, _⟩ | ⟨g, cap, cur, h, _, hg, _⟩
            · rw [h] at hk; cases hk
            · rw [h] at hk; cases hk; exact heap_lt hg))
          have HR2 := Lib.hid hR2
          have HB := Lib.hid (fun k hk => D.row.below (k := k) hk)
          have HD := Lib.hid D
          have HST := Lib.hid hst
          have HRW := Lib.hid raw
          have HOK := Lib.hid (And.intro ok (And.intro map (And.intro apart (And.intro mem (And.intro nd len)))))
          have HLW := Lib.hid hlw
          have HX := Lib.hid hlt'
          clear D raw ok map apart mem hst hmin nd hR2 len hlw hlt'
          go_wp2_with fail
          refine HL.out.mono ?_
          rintro e w1 ⟨rfl, rfl⟩
          go_wp2_with (first | (at_builtin; refine wpList_append2 rfl rfl Try.underlying23 hi hz0 hz1 hz2 rfl (by decide) rfl HR2.out rfl (news := [.int .i64 (g 0).2]) (m := 1) rfl ?a1 ?a2 (by decide) (by unfold maxLen; omega) (by omega) (by simp; omega) ?a3))
          case a1 => exact news_at wr _ _
          case a2 => simp [Value.oneCell']
          case a3 =>
            intro v' w2 hR hG hW
            have O2 : Only (fun k => w.heap.size ≤ k) wr w2 := ((Only.refl _ _).alloc _).trans ((Only.of_grown hG).mono fun k _ h => HB.out k h)
            have T2 := HRW.out.only O2 (by have := HX.out _ hS; omega) (by have := HX.out _ h1; omega) (by have := HX.out _ h2; omega)
            have I2 : intsNew w2 w.heap.size v' (ls ++ [(g 0).2]) := by
              unfold intsNew
              rw [List.length_append, List.map_append]; exact hR
            obtain ⟨k, rfl⟩ : ∃ k, n = k + 1 := ⟨n - 1, by omega⟩
            have hcut := (cut_calls T2 (i := 0) (by omega) (by have := HOK.out.2.2.2.2.2; omega) HOK.out.1 HOK.out.2.1 HOK.out.2.2.1).mono (R' := fun e' w' => e' = .returned (.tuple #[]) ∧ DueRel w bt S m now v' w' ∧ m.length - vlen v' < m.length - ls.length) (by
              rintro e' w' ⟨rfl, h', Mk, C⟩
              have hinv := C.inv HOK.out.2.2.1 (by omega) HOK.out.2.2.2.2.2 HLW.out.symm HOK.out.2.2.2.1 hcap HOK.out.2.2.2.2.1 hS h1 h2 (fun q hq => by have := hlt q hq; have := O2.size; omega)
              obtain ⟨iv, io⟩ := hinv
              have hlw := HLW.out
              have hll2 : ls.length + mk.length = m.length := HD.out.len
              refine ⟨rfl, ⟨ls ++ [(g 0).2], wo mk (g 0).2, I2.only io (fun q hq hs => by have := HX.out q hs; omega), iv, (HD.out.only.close (O2.mono fun q _ h => .inr h)).trans io, by simp; omega, ?_, ?_⟩, ?_⟩
              · have := HD.out.got
                rw [HST.out] at this
                rw [← this]; simp
              · have := HD.out.left
                rw [HST.out] at this
                exact this
              · obtain ⟨a, c, hv⟩ := I2.len
                rw [hv]
                simp only [vlen, List.length_append, List.length_cons, List.length_nil]
                omega)
            have HC := Lib.hid hcut
            have hv5 : vlen u5 = ls.length := by obtain ⟨a, c, hv⟩ := HD.out.row.len; rw [hv]; rfl
            have HV := Lib.hid hv5
            clear hR hG hW O2 T2 I2 hcut hv5 c0 c1 g0 g1
            go_wp2_with fail
            refine HC.out.mono ?_
            rintro e w4 ⟨rfl, hr, hlt2⟩
            have HF := Lib.hid (And.intro hr hlt2)
            clear hr hlt2
            go_wp2_with fail
            go_roundw
            case rel => exact HF.out.1
            case measure => rw [HV.out]; exact HF.out.2
        · have HD := Lib.hid D
          have hst : isDue mk now = false := by unfold isDue; rw [hmin]; simpa using hdue
          have HST := Lib.hid hst
          clear D raw ok map apart mem hst hmin
          go_wp2_with fail
          refine HL.out.mono ?_
          rintro e w1 ⟨rfl, rfl⟩
          go_wp2_with fail
          go_ret
          exact HD.out.stop HST.out rfl
end Go.Proofs.Ytbgklnepmljiaaa
