/- The walk over a timer that rises. -/
import Derived.Test.YtbgklnepmljiaaaA
namespace Go.Proofs.Ytbgklnepmljiaaa
open Go.RowKit YtbgklnepmljiaaaMem Go.ChangeMaps

structure UpAt (w : World) (bt bh bm cap n : Nat) (g : Nat → Int × Int) (i : Nat) (wr : World) (j : Nat) (h' h : Nat → Int × Int) (Mk : Int → Option Int) : Prop where
  lt : j < n
  raw : TRaw wr bt bh bm cap n h' Mk
  eq : ∀ k, k ≠ j → h' k = h k
  x : h j = g i
  but : But h n j
  map : Map Mk h n j
  apart : Apart h n
  same : Same g h n
  box : wr.heap[w.heap.size]? = some (.cells #[.int .i64 (g i).1, .int .i64 (g i).2] 54 (0, 0))
  only : Only (fun k => k = bh ∨ k = bm) w wr
  low : j = i ∨ ∀ c, 0 < c → c < n → par c = j → le (h j) (h c)
def UpRel (w : World) (bt bh bm cap n : Nat) (g : Nat → Int × Int) (i : Nat) (v : Value) (wr : World) : Prop :=
  ∃ (j : Nat) (h' h : Nat → Int × Int) (Mk : Int → Option Int), v = .int .i64 (j : Int) ∧ UpAt w bt bh bm cap n g i wr j h' h Mk

theorem un_drew {B : Nat} {w w1 : World} (h : Below B w.drew w1) : Below B w w1 := ⟨h.os, h.tape, h.output, h.size, h.block⟩
theorem less_pair (x y : Int × Int) (w : World) :
    Calls Try.prog 26 #[.agg #[.int .i64 x.1, .int .i64 x.2], .agg #[.int .i64 y.1, .int .i64 y.2]] w fun e w' => e = .returned (.bool (ltB x y)) ∧ Below w.heap.size w w' := less_calls x.1 x.2 y.1 y.2 w

theorem UpAt.next {w : World} {bt bh bm cap n : Nat} {g : Nat → Int × Int} {i j : Nat} {wr w1 : World} {h' h : Nat → Int × Int} {Mk : Int → Option Int} (R : UpAt w bt bh bm cap n g i wr j h' h Mk) (hj : 0 < j) (hl : ltB (g i) (h' (par j)) = true)
    (hT : TRaw w1 bt bh bm cap n (upd h' j (h' (par j))) (fun k => if (h' (par j)).2 = k then some (j : Int) else Mk k)) (ho : Only (fun k => k = bh ∨ k = bm) wr w1) (hnb : w.heap.size ≠ bh ∧ w.heap.size ≠ bm) :
    UpRel w bt bh bm cap n g i (.int .i64 (par j : Nat)) w1 := by
  have hp : par j < j := by unfold par; omega
  have jn := R.lt
  have e : h' (par j) = h (par j) := R.eq _ (by omega)
  have hl' : ltB (h j) (h (par j)) = true := by rw [R.x, ← e]; exact hl
  refine ⟨par j, _, swp h j (par j), _, rfl, by omega, hT, fun k hk => ?_, ?_, R.but.rise hj jn hl', ?_, R.apart.swp jn (by omega), R.same.trans (swp_same jn (by omega)), ?_, R.only.trans ho, .inr ?_⟩
  · unfold upd swp
    by_cases kj : k = j
    · rw [if_pos kj, if_pos kj, e]
    · rw [if_neg kj, if_neg kj, if_neg hk, R.eq k kj]
  · unfold swp; rw [if_neg (by omega), if_pos rfl, R.x]
  · rw [e]; exact R.map.move R.apart jn (by omega) (by omega)
  · rw [ho.block _ (heap_lt R.box) (by rintro (h | h); exact hnb.1 h; exact hnb.2 h)]; exact R.box
  · exact R.but.rise_low hj hl'

/-- What the rising leaves. -/
structure Risen (w w' : World) (bt bh bm cap n : Nat) (g : Nat → Int × Int) (i : Nat) (j : Nat) (h : Nat → Int × Int) (Mk : Int → Option Int) : Prop where
  lt : j < n
  raw : TRaw w' bt bh bm cap n h Mk
  x : h j = g i
  but : But h n j
  up : Up h j
  map : Map Mk h n n
  apart : Apart h n
  same : Same g h n
  only : Only (fun k => k = bh ∨ k = bm) w w'
  low : j = i ∨ ∀ c, 0 < c → c < n → par c = j → le (h j) (h c)
def RisenP (bt bh bm cap n : Nat) (g : Nat → Int × Int) (i : Nat) (w : World) (e : Ending) (w' : World) : Prop := e = .returned (.tuple #[]) ∧ ∃ j h Mk, Risen w w' bt bh bm cap n g i j h Mk

theorem UpAt.done {w : World} {bt bh bm cap n : Nat} {g : Nat → Int × Int} {i j : Nat} {wr w1 w2 : World} {h' h : Nat → Int × Int} {Mk : Int → Option Int} (R : UpAt w bt bh bm cap n g i wr j h' h Mk) (hu : Up h j) (h1 : Below wr.heap.size wr w1)
    (hT : TRaw w2 bt bh bm cap n (upd h' j (g i)) (fun k => if (g i).2 = k then some (j : Int) else Mk k)) (ho : Only (fun k => k = bh ∨ k = bm) w1 w2) : RisenP bt bh bm cap n g i w (.returned (.tuple #[])) w2 := by
  have e : upd h' j (g i) = h := by
    funext k; unfold upd
    by_cases kj : k = j
    · rw [if_pos kj, kj, R.x]
    · rw [if_neg kj, R.eq k kj]
  rw [e] at hT
  refine ⟨rfl, j, h, _, R.lt, hT, R.x, R.but, hu, ?_, R.apart, R.same, (R.only.trans (.of_below h1)).trans ho, R.low⟩
  have := R.map.put R.apart R.lt
  rw [R.x] at this
  exact this

set_option maxHeartbeats 400000 in
theorem up_calls {bt bh bm cap n i : Nat} {g : Nat → Int × Int} {M : Int → Option Int} {w : World} (T : TRaw w bt bh bm cap n g M) (hi : i < n) (hc : n ≤ 1000000) (hB : But g n i) (hM : Map M g n i) (hA : Apart g n) :
    Calls Try.prog 20 #[.pointer (some ⟨bt, 0, none⟩), .int .i64 i] w (RisenP bt bh bm cap n g i w) := by
  obtain ⟨c0, c1, -⟩ := T.c0
  obtain ⟨h0, h1, f0, f1⟩ := T.arr.at hi
  have hne := T.th
  have l1 := heap_lt T.top
  have l2 := T.arr.lt
  have l3 := T.map.lt
  have HB := Lib.hid hB
  have HM := Lib.hid hM
  have HA := Lib.hid hA
  have HT := Lib.hid T
  clear T hB hM hA
  go_enter Try.func20, Try.ntmps20
  go_wp2
  go_loopw [1] (fun i' wr => UpRel w bt bh bm cap n g i i' wr) (fun i' _ => (intOf i').toNat)
  case atStart =>
    exact ⟨i, g, g, M, rfl, hi, HT.out.alloc _, fun _ _ => rfl, rfl, HB.out, HM.out, HA.out, Same.refl _ _, heap_alloc_new _ _, (Only.refl _ _).alloc _, .inl rfl⟩
  case round =>
    obtain ⟨j, h', h, Mk, rfl, R⟩ := hrel
    clear h0 h1 f0 f1 c0 c1
    have jn := R.lt
    have xb := (cell_of R.box 0).trans (show _ = some (Value.int .i64 (g i).1) from rfl)
    have xb1 := (cell_of R.box 1).trans (show _ = some (Value.int .i64 (g i).2) from rfl)
    obtain ⟨c0, c1, -⟩ := R.raw.c0
    by_cases hj : 0 < j
    · have hp : par j < n := by unfold par; omega
      have hpl : par j < j := by unfold par; omega
      obtain ⟨h0, h1, f0, f1⟩ := R.raw.arr.at hp
      have hpj : ((j : Int) - 1) / 2 = ((par j : Nat) : Int) := by unfold par; omega
      have m1 : (1 : Int) ≤ (j : Int) := by omega
      by_cases hl : ltB (g i) (h' (par j)) = true
      · have HR := Lib.hid R
        have HL := Lib.hid hl
        clear R
        go_wp2_with fail
        simp only [hpj]
        refine region_tail 8 (by kernel_rfl) (by kernel_rfl) ?_
        simp only [List.take_succ_cons, List.take_zero, List.drop_succ_cons, List.drop_zero]
        repeat (first | (with_reducible refine wpStill_step (fun K hK => ?_); go_simp; refine hK _ ?_; clear hK K) | (with_reducible refine wpStill_skip (by rfl) ?_; go_simp))
        with_reducible refine wpStill_nil ?_
        go_wp2_with fail
        refine (less_pair (g i) (h' (par j)) _).mono ?_
        rintro e w1 ⟨rfl, hb⟩
        have hb' : Below wr.heap.size wr w1 := un_drew hb
        have HB1 := Lib.hid hb'
        have T1 := HR.out.raw.only (Only.of_below (S := fun _ => False) hb') id id id
        clear c0 c1 h0 h1 xb xb1 hb hb'
        obtain ⟨c0, c1, -⟩ := T1.c0
        obtain ⟨h0, h1, f0, f1⟩ := T1.arr.at hp
        have HT1 := Lib.hid T1
        clear T1
        go_wp2_with fail
        refine (put_calls HT1.out jn _ _).mono ?_
        rintro e w2 ⟨rfl, hT2, hO2⟩
        have HR2 := Lib.hid (HR.out.next hj HL.out hT2 ((Only.of_below HB1.out).trans hO2) (by omega))
        clear hT2 hO2
        go_wp2_with fail
        go_roundw
        case rel => exact HR2.out
        case measure => simp [intOf]; omega
      · have HR := Lib.hid R
        have hf : ltB (g i) (h' (par j)) = false := by simpa using hl
        have HL := Lib.hid hf
        clear R hl
        go_wp2_with fail
        simp only [hpj]
        refine region_tail 8 (by kernel_rfl) (by kernel_rfl) ?_
        simp only [List.take_succ_cons, List.take_zero, List.drop_succ_cons, List.drop_zero]
        repeat (first | (with_reducible refine wpStill_step (fun K hK => ?_); go_simp; refine hK _ ?_; clear hK K) | (with_reducible refine wpStill_skip (by rfl) ?_; go_simp))
        with_reducible refine wpStill_nil ?_
        go_wp2_with fail
        refine (less_pair (g i) (h' (par j)) _).mono ?_
        rintro e w1 ⟨rfl, hb⟩
        have hb' : Below wr.heap.size wr w1 := un_drew hb
        have HB1 := Lib.hid hb'
        have T1 := HR.out.raw.only (Only.of_below (S := fun _ => False) hb') id id id
        have b1 : w1.heap[w.heap.size]? = wr.heap[w.heap.size]? := hb'.block _ (heap_lt HR.out.box)
        have xb2 := (cell_of (b1.trans HR.out.box) 0).trans (show _ = some (Value.int .i64 (g i).1) from rfl)
        have xb3 := (cell_of (b1.trans HR.out.box) 1).trans (show _ = some (Value.int .i64 (g i).2) from rfl)
        clear c0 c1 h0 h1 xb xb1 hb hb' b1 hpj
        obtain ⟨c0, c1, -⟩ := T1.c0
        obtain ⟨h0, h1, f0, f1⟩ := T1.arr.at hp
        have HT1 := Lib.hid T1
        clear T1
        go_wp2_with fail
        refine (put_calls HT1.out jn _ _).mono ?_
        rintro e w2 ⟨rfl, hT2, hO2⟩
        have hu : Up h j := fun _ => by unfold le; rw [HR.out.x, ← HR.out.eq _ (by omega)]; exact HL.out
        have HR2 := Lib.hid (HR.out.done hu HB1.out hT2 hO2)
        clear hT2 hO2 hu
        go_wp2_with fail
        go_end0
        exact HR2.out
    · obtain rfl : j = 0 := by omega
      obtain ⟨h0, h1, f0, f1⟩ := R.raw.arr.at jn
      have HR := Lib.hid R
      clear R
      go_wp2_with fail
      refine (put_calls HR.out.raw jn _ _).mono ?_
      rintro e w2 ⟨rfl, hT2, hO2⟩
      have hu : Up h 0 := fun h => absurd h (by omega)
      have HR2 := Lib.hid (HR.out.done hu (Below.refl _ _) hT2 hO2)
      clear hT2 hO2 hu
      go_wp2_with fail
      go_end0
      exact HR2.out
end Go.Proofs.Ytbgklnepmljiaaa
