/- The walks over what lives, and over what is not there. -/
import Derived.Test.YtbgklnepmljiaaaN
namespace Go.Proofs.Ytbgklnepmljiaaa
open Go.RowKit YtbgklnepmljiaaaMem Go.ChangeMaps

/-- A new one. -/
theorem TInv_new (w : World) : TInv (w.alloc (.cells #[.slice none 0 0, .map none] 28)) w.heap.size (fun k => k = w.heap.size) [] :=
  .bare _ (YtbgklnepmljiaaaMem.heap_alloc_new w _) (World.ownsRow_nil _ _ _ _) (fun k hk => by cases hk) rfl rfl (fun k hk => by rw [hk]; simp)

theorem _root_.Go.Proofs.YtbgklnepmljiaaaMem.Only.belowS {w w' : World} {S : Nat → Prop} {B : Nat} (h : Only S w w') (hs : ∀ k, S k → B ≤ k) (hB : B ≤ w.heap.size) : Below B w w' :=
  ⟨h.os, h.tape, h.output, h.size, fun k hk => h.block k (by omega) (fun s => by have := hs k s; omega)⟩

set_option maxHeartbeats 1000000 in
theorem lives_calls (w : World) : Calls Try.prog 13 #[] w fun e w' => e = .returned (.bool true) ∧ Below w.heap.size w w' := by
  have HT := Lib.hid (TInv_new w)
  go_enter Try.func13, Try.ntmps13
  go_wp2_with fail
  refine (set_calls HT.out (by simp) 1 9).mono ?_
  rintro e w1 ⟨rfl, S1, T1, s1, O1⟩
  have hs1 : ∀ k, S1 k → w.heap.size ≤ k := fun k hk => by rcases s1 k hk with h | h; exact Nat.le_of_eq h.symm; simp at h; omega
  have b1 : Below w.heap.size w w1 := ((Below.refl _ _).alloc (Nat.le_refl _) _).trans (O1.belowS (fun k hk => Nat.le_of_eq hk.symm) (by simp))
  have z1 := b1.size
  have HT1 := Lib.hid T1
  have HS1 := Lib.hid hs1
  have HB1 := Lib.hid b1
  clear T1 O1 s1 hs1 b1
  go_wp2_with fail
  refine (set_calls HT1.out (by decide) 2 5).mono ?_
  rintro e w2 ⟨rfl, S2, T2, s2, O2⟩
  have hs2 : ∀ k, S2 k → w.heap.size ≤ k := fun k hk => by rcases s2 k hk with h | h; exact HS1.out k h; omega
  have b2 : Below w.heap.size w w2 := HB1.out.trans (O2.belowS HS1.out z1)
  have z2 := b2.size
  have HT2 := Lib.hid T2
  have HS2 := Lib.hid hs2
  have HB2 := Lib.hid b2
  clear T2 O2 s2 hs2 b2
  have hfv : firstV (YtbgklnepmljiaaaMem.put (YtbgklnepmljiaaaMem.put [] 1 9) 2 5) = .tuple #[.int .i64 2, .int .i64 5, .bool true] := rfl
  go_wp2_with fail
  have hfirst := first_calls HT2.out
  rw [hfv] at hfirst
  refine hfirst.mono ?_
  rintro e w3 ⟨rfl, A3⟩
  have T3 := HT2.out.only (A3.only (fun _ => False)) fun _ _ => id
  have b3 : Below w.heap.size w w3 := HB2.out.trans (A3.below _)
  have z3 := b3.size
  have HT3 := Lib.hid T3
  have HB3 := Lib.hid b3
  clear T3 b3 hfirst hfv
  go_wp2_with fail
  refine (due_calls HT3.out (by decide) 9).mono ?_
  rintro e w4 ⟨v, rfl, I4, T4, O4⟩
  have hd : dueOf (YtbgklnepmljiaaaMem.put (YtbgklnepmljiaaaMem.put [] 1 9) 2 5).length (YtbgklnepmljiaaaMem.put (YtbgklnepmljiaaaMem.put [] 1 9) 2 5) 9 = ([2, 1], []) := by decide
  rw [hd] at I4 T4
  obtain ⟨a, c, rfl, hcells⟩ := I4.ints
  obtain ⟨b, o, rfl, k1⟩ := hcells 1 1 rfl
  have b4 : Below w.heap.size w w4 := HB3.out.trans (O4.belowS HS2.out z3)
  have HT4 := Lib.hid T4
  have HB4 := Lib.hid b4
  clear hd I4 T4 O4 hcells b4
  go_wp2_with fail
  refine (len_calls HT4.out).mono ?_
  rintro e w5 ⟨rfl, rfl⟩
  go_wp2_with fail
  go_ret
  exact ⟨rfl, HB4.out⟩

/-! ### no timers -/
theorem nlen_calls (w : World) : Calls Try.prog 12 #[.pointer none] w fun e w' => e = .returned (.int .i64 0) ∧ w = w' := by
  go_enter Try.func12, Try.ntmps12
  go_wp2
  go_ret
  exact ⟨rfl, rfl⟩
theorem nset_calls (w : World) (id at_ : Int) : Calls Try.prog 7 #[.pointer none, .int .i64 id, .int .i64 at_] w fun e w' => e = .returned (.tuple #[]) ∧ w = w' := by
  go_enter Try.func7, Try.ntmps7
  go_wp2
  refine bodyPost_ret (results_none rfl _ _ _) rfl ?_
  exact ⟨rfl, rfl⟩
theorem ndrop_calls (w : World) (id : Int) : Calls Try.prog 19 #[.pointer none, .int .i64 id] w fun e w' => e = .returned (.bool false) ∧ w = w' := by
  go_enter Try.func19, Try.ntmps19
  go_wp2
  go_ret
  exact ⟨rfl, rfl⟩
theorem nat_calls (w : World) (id : Int) : Calls Try.prog 18 #[.pointer none, .int .i64 id] w fun e w' => e = .returned (.tuple #[.int .i64 0, .bool false]) ∧ w = w' := by
  go_enter Try.func18, Try.ntmps18
  go_wp2
  go_ret2
  exact ⟨rfl, rfl⟩
theorem nfirst_calls (w : World) : Calls Try.prog 17 #[.pointer none] w fun e w' => e = .returned (.tuple #[.int .i64 0, .int .i64 0, .bool false]) ∧ w = w' := by
  go_enter Try.func17, Try.ntmps17
  go_wp2_with (go_at_call 12; refine (nlen_calls _).mono ?_; rintro e w' ⟨rfl, rfl⟩)
  go_ret3
  exact ⟨rfl, rfl⟩
theorem nclone_calls (w : World) : Calls Try.prog 16 #[.pointer none] w fun e w' => e = .returned (.pointer none) ∧ w = w' := by
  go_enter Try.func16, Try.ntmps16
  go_wp2
  go_ret
  exact ⟨rfl, rfl⟩
theorem ndue_calls (w : World) (now : Int) : Calls Try.prog 9 #[.pointer none, .int .i64 now] w fun e w' => e = .returned (.slice none 0 0) ∧ w = w' := by
  go_enter Try.func9, Try.ntmps9
  go_wp2
  go_loop [5] (fun v => v = .slice none 0 0) (fun _ => 0)
  case atStart => rfl
  case round =>
    subst hrel
    go_wp2_with (go_at_call 12; refine (nlen_calls _).mono ?_; rintro e w' ⟨rfl, rfl⟩)
    go_ret
    exact ⟨rfl, rfl⟩

set_option maxHeartbeats 1000000 in
theorem nil_calls (w : World) (id at_ : Int) : Calls Try.prog 6 #[.int .i64 id, .int .i64 at_] w fun e w' => e = .returned (.bool true) ∧ Below w.heap.size w w' := by
  go_enter Try.func6, Try.ntmps6
  go_wp2_with fail
  refine (nset_calls _ _ _).mono ?_
  rintro e w' ⟨rfl, rfl⟩
  go_wp2_with fail
  refine (nfirst_calls _).mono ?_
  rintro e w' ⟨rfl, rfl⟩
  go_wp2_with fail
  refine (nat_calls _ _).mono ?_
  rintro e w' ⟨rfl, rfl⟩
  go_wp2_with fail
  refine (ndrop_calls _ _).mono ?_
  rintro e w' ⟨rfl, rfl⟩
  go_wp2_with fail
  refine (ndue_calls _ _).mono ?_
  rintro e w' ⟨rfl, rfl⟩
  go_wp2_with fail
  refine (nlen_calls _).mono ?_
  rintro e w' ⟨rfl, rfl⟩
  go_wp2_with fail
  refine (nclone_calls _).mono ?_
  rintro e w' ⟨rfl, rfl⟩
  go_wp2_with fail
  refine (lives_calls _).mono ?_
  rintro e w' ⟨rfl, hb⟩
  go_wp2_with fail
  go_ret
  exact ⟨rfl, hb⟩
end Go.Proofs.Ytbgklnepmljiaaa
