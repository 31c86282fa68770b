/- The walk over a timer that is taken out. -/
import Derived.Test.YtbgklnepmljiaaaC
namespace Go.Proofs.Ytbgklnepmljiaaa
open Go.RowKit YtbgklnepmljiaaaMem Go.ChangeMaps

/-- What the taking out leaves. -/
structure Cut (w w' : World) (bt bh bm cap n : Nat) (g : Nat → Int × Int) (i : Nat) (h : Nat → Int × Int) (Mk : Int → Option Int) : Prop where
  raw : TRaw w' bt bh bm cap n h Mk
  ok : Ok h n
  map : Map Mk h n n
  apart : Apart h n
  same : ∀ p, (∃ j, j < n ∧ h j = p) ↔ (∃ j, j < n + 1 ∧ j ≠ i ∧ g j = p)
  only : Only (fun k => k = bt ∨ k = bh ∨ k = bm) w w'
def CutP (bt bh bm cap n : Nat) (g : Nat → Int × Int) (i : Nat) (w : World) (e : Ending) (w' : World) : Prop := e = .returned (.tuple #[]) ∧ ∃ h Mk, Cut w w' bt bh bm cap n g i h Mk

theorem apart_upd {g : Nat → Int × Int} {n i : Nat} (hA : Apart g (n + 1)) (hi : i ≤ n) : Apart (upd g i (g n)) n := by
  intro a b an bn e
  unfold upd at e
  by_cases ai : a = i
  · by_cases bi : b = i
    · omega
    · rw [if_pos ai, if_neg bi] at e; have := hA _ _ (by omega) (by omega) e; omega
  · rw [if_neg ai] at e
    by_cases bi : b = i
    · rw [if_pos bi] at e; have := hA _ _ (by omega) (by omega) e; omega
    · rw [if_neg bi] at e; exact hA _ _ (by omega) (by omega) e
theorem same_upd {g : Nat → Int × Int} {n i : Nat} (hi : i ≤ n) (p : Int × Int) : (∃ j, j < n ∧ upd g i (g n) j = p) ↔ (∃ j, j < n + 1 ∧ j ≠ i ∧ g j = p) := by
  constructor
  · rintro ⟨j, jn, e⟩
    unfold upd at e
    by_cases ji : j = i
    · rw [if_pos ji] at e; exact ⟨n, by omega, by omega, e⟩
    · rw [if_neg ji] at e; exact ⟨j, by omega, ji, e⟩
  · rintro ⟨j, jn, ji, e⟩
    by_cases j' : j = n
    · subst j'; exact ⟨i, by omega, by unfold upd; rw [if_pos rfl]; exact e⟩
    · exact ⟨j, by omega, by unfold upd; rw [if_neg ji]; exact e⟩
/-- The map when one has been struck. -/
theorem map_strike {M : Int → Option Int} {g : Nat → Int × Int} {n : Nat} (hM : Map M g (n + 1) (n + 1)) (hA : Apart g (n + 1)) : Map (fun j => if (g n).2 = j then none else M j) g n n := by
  refine ⟨fun j jn _ => ?_, fun k hk => ?_⟩
  · show (if (g n).2 = (g j).2 then none else M (g j).2) = _
    rw [if_neg (fun e => by have := hA _ _ (by omega) (by omega) e; omega)]
    exact hM.at (by omega)
  · show (if (g n).2 = k then none else M k) = none
    by_cases e : (g n).2 = k
    · rw [if_pos e]
    · rw [if_neg e]; exact hM.2 k fun j jn => by
        by_cases j' : j = n
        · subst j'; exact e
        · exact hk j (by omega)
theorem map_swap {M : Int → Option Int} {g : Nat → Int × Int} {n i : Nat} (hM : Map M g (n + 1) (n + 1)) (hA : Apart g (n + 1)) (hi : i < n) :
    Map (fun j => if (g n).2 = j then some (i : Int) else (fun j => if (g i).2 = j then none else M j) j) (upd g i (g n)) n n := by
  refine ⟨fun j jn _ => ?_, fun k hk => ?_⟩
  · show (if (g n).2 = (upd g i (g n) j).2 then some (i : Int) else if (g i).2 = (upd g i (g n) j).2 then none else M (upd g i (g n) j).2) = _
    unfold upd
    by_cases ji : j = i
    · rw [if_pos ji, if_pos rfl, ji]
    · rw [if_neg ji, if_neg (fun e => by have := hA _ _ (by omega) (by omega) e; omega), if_neg (fun e => by have := hA _ _ (by omega) (by omega) e; omega)]
      exact hM.at (by omega)
  · have h1 : (g n).2 ≠ k := by have := hk i hi; unfold upd at this; rwa [if_pos rfl] at this
    show (if (g n).2 = k then some (i : Int) else if (g i).2 = k then none else M k) = none
    rw [if_neg h1]
    by_cases e : (g i).2 = k
    · rw [if_pos e]
    · rw [if_neg e]; exact hM.2 k fun j jn => by
        by_cases j' : j = n
        · subst j'; exact h1
        · by_cases ji : j = i
          · subst ji; exact e
          · have := hk j (by omega); unfold upd at this; rwa [if_neg ji] at this

set_option maxHeartbeats 1000000 in
theorem cut_calls {bt bh bm cap n i : Nat} {g : Nat → Int × Int} {M : Int → Option Int} {w : World} (T : TRaw w bt bh bm cap (n + 1) g M) (hi : i ≤ n) (hc : n < 1000000) (hO : Ok g (n + 1)) (hM : Map M g (n + 1) (n + 1)) (hA : Apart g (n + 1)) :
    Calls Try.prog 22 #[.pointer (some ⟨bt, 0, none⟩), .int .i64 i] w (CutP bt bh bm cap n g i w) := by
  obtain ⟨c0, c1, f9⟩ := T.c0
  obtain ⟨h0, h1, f0, f1⟩ := T.arr.at (show i < n + 1 by omega)
  obtain ⟨g0, g1, -, -⟩ := T.arr.at (show n < n + 1 by omega)
  have hcap : n + 1 ≤ cap := by obtain ⟨_, _, _, h, _⟩ := T.arr; exact h
  have hne := T.th
  have l1 := heap_lt T.top
  have l2 := T.arr.lt
  have l3 := T.map.lt
  have HO := Lib.hid hO
  have HM := Lib.hid hM
  have HA := Lib.hid hA
  have HT := Lib.hid T
  clear T hO hM hA
  have hi1 : (i : Int) < (n : Int) + 1 := by omega
  have hi2 : (n : Int) < (n : Int) + 1 := by omega
  have hcap2 : n ≤ cap := by omega
  go_enter Try.func22, Try.ntmps22
  go_wp2
  refine region_tail 12 (by kernel_rfl) (by kernel_rfl) ?_
  simp only [List.take_succ_cons, List.take_zero, List.drop_succ_cons, List.drop_zero]
  repeat (first | (with_reducible refine wpStill_step (fun K hK => ?_); go_simp; refine hK _ ?_; clear hK K) | (with_reducible refine wpStill_skip (by rfl) ?_; go_simp))
  with_reducible refine wpStill_nil ?_
  have T1 := HT.out.drew
  refine wpList_mapDel rfl rfl Try.underlying26 Try.underlying3 rfl rfl T1.map ?_
  intro o hm
  have T2 := T1.setMap hm
  have HT2 := Lib.hid T2
  have O2 := Lib.hid (((Only.refl (fun k => k = bt ∨ k = bh ∨ k = bm) w).drew).setBlock (b := bm) (.inl (.inr (.inr rfl))) o)
  obtain ⟨d0, d1, e9⟩ := T2.c0
  obtain ⟨k0, k1, -, -⟩ := T2.arr.at (show n < n + 1 by omega)
  have l1' := heap_lt T2.top
  have l2' := T2.arr.lt
  generalize setBlock w.drew bm o = w2 at *
  clear T1 T2 hm c0 c1 h0 h1 g0 g1 f0 f1 f9
  have T3 := (HT2.out.shrink (Nat.le_succ n)).alloc (Obj.cells #[Value.int IntKind.i64 (g n).1, Value.int IntKind.i64 (g n).2] 54)
  have O3 : Only (fun k => k = bt ∨ k = bh ∨ k = bm) w2 ((w2.setCell ⟨bt, 0, none⟩ (.slice (some ⟨bh, 0, none⟩) n cap)).alloc (Obj.cells #[Value.int IntKind.i64 (g n).1, Value.int IntKind.i64 (g n).2] 54)) := ((Only.refl _ _).setCell (.inl (.inl rfl)) _).alloc _
  have HT3 := Lib.hid T3
  have HO3 := Lib.hid O3
  have xbh := heap_alloc_new (w2.setCell ⟨bt, 0, none⟩ (.slice (some ⟨bh, 0, none⟩) n cap)) (Obj.cells #[Value.int IntKind.i64 (g n).1, Value.int IntKind.i64 (g n).2] 54)
  have hz : (w2.setCell ⟨bt, 0, none⟩ (.slice (some ⟨bh, 0, none⟩) n cap)).heap.size = w2.heap.size := by simp [World.setCell]
  rw [hz] at xbh
  have XB := Lib.hid xbh
  clear T3 O3 xbh hz
  by_cases hin : i = n
  · subst hin
    go_wp2_with fail
    go_end0
    have hS : ∀ p, (∃ j, j < i ∧ g j = p) ↔ (∃ j, j < i + 1 ∧ j ≠ i ∧ g j = p) := fun p =>
      ⟨fun ⟨j, a, b⟩ => ⟨j, by omega, by omega, b⟩, fun ⟨j, a, b, c⟩ => ⟨j, by omega, c⟩⟩
    exact ⟨rfl, g, _, HT3.out, HO.out.less (by omega), map_strike HM.out HA.out, fun a b an bn e => HA.out a b (by omega) (by omega) e, hS, O2.out.trans HO3.out⟩
  · have hlt : i < n := by omega
    have hbe : ((i : Int) == (n : Int)) = false := by simp; omega
    go_wp2_with fail
    refine (put_calls HT3.out hlt _ _).mono ?_
    rintro e w3 ⟨rfl, T4, O4⟩
    have HT4 := Lib.hid T4
    have HO4 := Lib.hid (O4.mono (T := fun k => k = bt ∨ k = bh ∨ k = bm) (fun k _ h => .inr h))
    have hxn : w2.heap.size ≠ bh ∧ w2.heap.size ≠ bm ∧ w2.heap.size ≠ bt := by
      have := HT2.out.map.lt
      omega
    have xb3 : w3.heap[w2.heap.size]? = some (Obj.cells #[Value.int IntKind.i64 (g n).1, Value.int IntKind.i64 (g n).2] 54) := by
      rw [O4.block _ (heap_lt XB.out) (by rintro (h | h); exact hxn.1 h; exact hxn.2.1 h)]; exact XB.out
    have XB3 := Lib.hid xb3
    clear T4 O4 xb3
    go_wp2_with fail
    have hB := HO.out.but (i := i) (by omega) (g n)
    have hB' : But (upd g i (g n)) n i := ⟨fun j a b c d => hB.1 j a (by omega) c d, fun a j b c d => hB.2 a j b (by omega) d⟩
    have hM1 := map_swap HM.out HA.out hlt
    have hA1 := apart_upd HA.out hi
    refine (up_calls HT4.out hlt (by omega) hB' hM1.open hA1).mono ?_
    rintro e w4 ⟨rfl, j, h, Mk, R⟩
    have hx : h j = g n := by rw [R.x]; unfold upd; rw [if_pos rfl]
    have hMj : Mk (g n).2 = some (j : Int) := by rw [← hx]; exact R.map.at R.lt
    have xb4 : w4.heap[w2.heap.size]? = some (Obj.cells #[Value.int IntKind.i64 (g n).1, Value.int IntKind.i64 (g n).2] 54) := by
      rw [R.only.block _ (heap_lt XB3.out) (by rintro (h | h); exact hxn.1 h; exact hxn.2.1 h)]; exact XB3.out
    have xc1 := (cell_of xb4 1).trans (show _ = some (Value.int .i64 (g n).2) from rfl)
    have hlook := R.raw.map.drew.look Try.underlying26 Try.underlying3 (by kernel_rfl) (g n).2
    rw [hMj] at hlook
    obtain ⟨c0, c1, -⟩ := R.raw.c0
    have HR := Lib.hid R
    clear R hMj hB hB' hM1 hA1 xb4 d0 d1 e9 k0 k1 hx
    go_wp2_with fail
    refine region_tail 8 (by kernel_rfl) (by kernel_rfl) ?_
    simp only [List.take_succ_cons, List.take_zero, List.drop_succ_cons, List.drop_zero]
    repeat (first | (with_reducible refine wpStill_step (fun K hK => ?_); go_simp; refine hK _ ?_; clear hK K) | (with_reducible refine wpStill_skip (by rfl) ?_; go_simp))
    with_reducible refine wpStill_nil ?_
    go_wp2_with fail
    refine (down_calls HR.out.raw.drew HR.out.lt (by omega) HR.out.but HR.out.up HR.out.map.open HR.out.apart).mono ?_
    rintro e w5 ⟨rfl, h2, M2, S⟩
    have hfin : CutP bt bh bm cap n g i w (.returned (.tuple #[])) w5 := by
      refine ⟨rfl, h2, M2, S.raw, S.ok, S.map, S.apart, fun p => ?_, ?_⟩
      · rw [← S.same p, ← HR.out.same p]; exact same_upd hi p
      · have a := S.only.mono (T := fun k => k = bt ∨ k = bh ∨ k = bm) (fun k _ h => .inr h)
        have b := HR.out.only.mono (T := fun k => k = bt ∨ k = bh ∨ k = bm) (fun k _ h => .inr h)
        exact ((O2.out.trans HO3.out).trans HO4.out).trans (b.trans ⟨a.os, a.tape, a.output, a.size, a.block⟩)
    have HF := Lib.hid hfin
    clear S hfin
    go_wp2_with fail
    go_end0
    exact HF.out
end Go.Proofs.Ytbgklnepmljiaaa
