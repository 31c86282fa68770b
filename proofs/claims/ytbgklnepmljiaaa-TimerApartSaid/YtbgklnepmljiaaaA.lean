/- The walks over the timer's inner functions: less, put. -/
import Derived.Test.YtbgklnepmljiaaaRows
import Derived.Test.YtbgklnepmljiaaaM
import Derived.BigFrame
import Derived.Lib.Hide
import Derived.Deep.QuietTactic
import Derived.BigQuiet
namespace Go.Proofs.Ytbgklnepmljiaaa
open Go.RowKit YtbgklnepmljiaaaMem Go.ChangeMaps

theorem region_tail {P : Program} {id : Nat} {Q : Exit → Act → World → Prop} {a : Act} {w : World} {l : List Oper} (n : Nat) (hm : P.follows .mixedOrders = true) (hB : Region.lexTailB .any l.toArray n = true)
    (h : wpStill P l.toArray w.drew (fun a' => wpList P l.toArray Q (l.drop n) a' w.drew) (l.take n) a) : (Code.region id l.toArray true).wp P Q a w := wp_region_still_tail n hm hB h

theorem wpStill_skip {P : Program} {ops : Array Oper} {w : World} {Q : Act → Prop} {a : Act} {o : Oper} {rest : List Oper} (hw : Region.wanted o (yielded ops a.tmps) = false) (h : wpStill P ops w Q rest (a.put o.dst undef)) : wpStill P ops w Q (o :: rest) a := by
  simp only [wpStill, hw, Bool.false_eq_true, if_false]; exact h

theorem less_calls (a1 i1 a2 i2 : Int) (w : World) :
    Calls Try.prog 26 #[.agg #[.int .i64 a1, .int .i64 i1], .agg #[.int .i64 a2, .int .i64 i2]] w fun e w' => e = .returned (.bool (ltB (a1, i1) (a2, i2))) ∧ Below w.heap.size w w' := by
  have hb : Below w.heap.size w ((w.alloc (.cells #[.int .i64 a1, .int .i64 i1] 54)).alloc (.cells #[.int .i64 a2, .int .i64 i2] 54)) := ((Below.refl _ _).alloc (Nat.le_refl _) _).alloc (by simp) _
  by_cases h1 : a1 < a2
  · have e : ltB (a1, i1) (a2, i2) = true := by simp [ltB, h1]
    rw [e]
    go_enter Try.func26, Try.ntmps26
    go_wp2
    go_ret
    exact ⟨rfl, hb⟩
  · by_cases h2 : a1 = a2
    · subst h2
      have e : ltB (a1, i1) (a1, i2) = decide (i1 < i2) := by simp [ltB]
      rw [e]
      go_enter Try.func26, Try.ntmps26
      go_wp2
      go_ret
      exact ⟨rfl, hb⟩
    · have e : ltB (a1, i1) (a2, i2) = false := by simp [ltB, h1, h2]
      rw [e]
      have h3 : (a1 == a2) = false := by simpa using h2
      go_enter Try.func26, Try.ntmps26
      go_wp2
      go_ret
      exact ⟨rfl, hb⟩

set_option maxHeartbeats 400000 in
theorem put_calls {bt bh bm cap n i : Nat} {g : Nat → Int × Int} {M : Int → Option Int} {w : World} (T : TRaw w bt bh bm cap n g M) (hi : i < n) (a d : Int) :
    Calls Try.prog 27 #[.pointer (some ⟨bt, 0, none⟩), .int .i64 i, .agg #[.int .i64 a, .int .i64 d]] w fun e w' => e = .returned (.tuple #[]) ∧
      TRaw w' bt bh bm cap n (upd g i (a, d)) (fun j => if d = j then some (i : Int) else M j) ∧ Only (fun k => k = bh ∨ k = bm) w w' := by
  obtain ⟨c0, c1, -⟩ := T.c0
  obtain ⟨h0, h1, f0, f1⟩ := T.arr.at hi
  have hne := T.th
  have l1 := heap_lt T.top
  have l2 := T.arr.lt
  have HT := Lib.hid T
  clear T
  go_enter Try.func27, Try.ntmps27
  go_wp2
  refine region_tail 7 (by kernel_rfl) (by kernel_rfl) ?_
  simp only [List.take_succ_cons, List.take_zero, List.drop_succ_cons, List.drop_zero]
  repeat (refine wpStill_step (fun K hK => ?_); go_simp; refine hK _ ?_; clear hK K)
  refine wpStill_nil ?_
  go_wp2
  refine region_tail 7 (by kernel_rfl) (by kernel_rfl) ?_
  simp only [List.take_succ_cons, List.take_zero, List.drop_succ_cons, List.drop_zero]
  repeat (refine wpStill_step (fun K hK => ?_); go_simp; refine hK _ ?_; clear hK K)
  refine wpStill_nil ?_
  have T1 := ((HT.out.set hi a d).alloc (Obj.cells #[Value.int IntKind.i64 a, Value.int IntKind.i64 d] 54)).drew.drew
  refine wpList_mapUpd rfl rfl Try.underlying26 Try.underlying3 rfl rfl rfl T1.map ?_
  intro o hm
  have T2 := T1.setMap hm
  have HT2 := Lib.hid T2
  clear T1 T2 hm
  go_wp2
  go_end0
  refine ⟨rfl, HT2.out, ?_⟩
  exact (((((Only.refl _ _).setCell (.inl (.inl rfl)) _).setCell (.inl (.inl rfl)) _).alloc _).drew.drew).setBlock (.inl (.inr rfl)) _
end Go.Proofs.Ytbgklnepmljiaaa
