/- The walk over a timer that sinks. -/
import Derived.Test.YtbgklnepmljiaaaB
namespace Go.Proofs.Ytbgklnepmljiaaa
open Go.RowKit YtbgklnepmljiaaaMem Go.ChangeMaps

structure DownAt (w : World) (bt bh bm cap n : Nat) (g : Nat → Int × Int) (i : Nat) (wr : World) (j : Nat) (h' h : Nat → Int × Int) (Mk : Int → Option Int) : Prop where
  lt : j < n
  raw : TRaw wr bt bh bm cap n h' Mk
  eq : ∀ k, k ≠ j → h' k = h k
  x : h j = g i
  but : But h n j
  up : Up h j
  map : Map Mk h n j
  apart : Apart h n
  same : Same g h n
  box : wr.heap[w.heap.size]? = some (.cells #[.int .i64 (g i).1, .int .i64 (g i).2] 54 (0, 0))
  only : Only (fun k => k = bh ∨ k = bm) w wr
def DownRel (w : World) (bt bh bm cap n : Nat) (g : Nat → Int × Int) (i : Nat) (v : Value) (wr : World) : Prop :=
  ∃ (j : Nat) (h' h : Nat → Int × Int) (Mk : Int → Option Int), v = .int .i64 (j : Int) ∧ DownAt w bt bh bm cap n g i wr j h' h Mk

theorem DownAt.next {w : World} {bt bh bm cap n : Nat} {g : Nat → Int × Int} {i j k : Nat} {wr w1 : World} {h' h : Nat → Int × Int} {Mk : Int → Option Int} (R : DownAt w bt bh bm cap n g i wr j h' h Mk) (hk0 : 0 < k) (hk : k < n) (hp : par k = j) (hl : ltB (h' k) (g i) = true)
    (hs : ∀ c, 0 < c → c < n → par c = j → le (h' k) (h' c))
    (hT : TRaw w1 bt bh bm cap n (upd h' j (h' k)) (fun q => if (h' k).2 = q then some (j : Int) else Mk q)) (ho : Only (fun k => k = bh ∨ k = bm) wr w1) (hnb : w.heap.size ≠ bh ∧ w.heap.size ≠ bm) :
    DownRel w bt bh bm cap n g i (.int .i64 (k : Nat)) w1 := by
  have hjk : j < k := by rw [← hp]; unfold par; omega
  have jn := R.lt
  have e : h' k = h k := R.eq _ (by omega)
  have hl' : ltB (h k) (h j) = true := by rw [R.x, ← e]; exact hl
  have hs' : ∀ c, 0 < c → c < n → par c = j → le (h k) (h c) := fun c c0 cn cp => by
    have := hs c c0 cn cp
    rwa [e, R.eq c (by intro q; rw [q] at cp c0; unfold par at cp; omega)] at this
  obtain ⟨b1, b2⟩ := R.but.sink hk0 hk hp hl' hs'
  refine ⟨k, _, swp h j k, _, rfl, hk, hT, fun q hq => ?_, ?_, b1, b2, ?_, R.apart.swp jn hk, R.same.trans (swp_same jn hk), ?_, R.only.trans ho⟩
  · unfold upd swp
    by_cases kj : q = j
    · rw [if_pos kj, if_pos kj, e]
    · rw [if_neg kj, if_neg kj, if_neg hq, R.eq q kj]
  · unfold swp; rw [if_neg (by omega), if_pos rfl, R.x]
  · rw [e]; exact R.map.move R.apart jn hk (by omega)
  · rw [ho.block _ (heap_lt R.box) (by rintro (h | h); exact hnb.1 h; exact hnb.2 h)]; exact R.box

/-- What the sinking leaves. -/
structure Sunk (w w' : World) (bt bh bm cap n : Nat) (g : Nat → Int × Int) (h : Nat → Int × Int) (Mk : Int → Option Int) : Prop where
  raw : TRaw w' bt bh bm cap n h Mk
  ok : Ok h n
  map : Map Mk h n n
  apart : Apart h n
  same : Same g h n
  only : Only (fun k => k = bh ∨ k = bm) w w'
def SunkP (bt bh bm cap n : Nat) (g : Nat → Int × Int) (w : World) (e : Ending) (w' : World) : Prop := e = .returned (.tuple #[]) ∧ ∃ h Mk, Sunk w w' bt bh bm cap n g h Mk

theorem DownAt.done {w : World} {bt bh bm cap n : Nat} {g : Nat → Int × Int} {i j : Nat} {wr w1 w2 : World} {h' h : Nat → Int × Int} {Mk : Int → Option Int} (R : DownAt w bt bh bm cap n g i wr j h' h Mk)
    (hs : ∀ c, 0 < c → c < n → par c = j → le (g i) (h' c)) (h1 : Below wr.heap.size wr w1)
    (hT : TRaw w2 bt bh bm cap n (upd h' j (g i)) (fun k => if (g i).2 = k then some (j : Int) else Mk k)) (ho : Only (fun k => k = bh ∨ k = bm) w1 w2) : SunkP bt bh bm cap n g w (.returned (.tuple #[])) w2 := by
  have e : upd h' j (g i) = h := by
    funext k; unfold upd
    by_cases kj : k = j
    · rw [if_pos kj, kj, R.x]
    · rw [if_neg kj, R.eq k kj]
  rw [e] at hT
  refine ⟨rfl, h, _, hT, R.but.ok R.up fun c c0 cn cp => ?_, ?_, R.apart, R.same, (R.only.trans (.of_below h1)).trans ho⟩
  · have := hs c c0 cn cp
    rwa [← R.x, R.eq c (by intro q; rw [q] at cp c0; unfold par at cp; omega)] at this
  · have := R.map.put R.apart R.lt
    rw [R.x] at this
    exact this

set_option maxHeartbeats 1000000 in
theorem down_calls {bt bh bm cap n i : Nat} {g : Nat → Int × Int} {M : Int → Option Int} {w : World} (T : TRaw w bt bh bm cap n g M) (hi : i < n) (hc : n ≤ 1000000) (hB : But g n i) (hU : Up g i) (hM : Map M g n i) (hA : Apart g n) :
    Calls Try.prog 28 #[.pointer (some ⟨bt, 0, none⟩), .int .i64 i] w (SunkP bt bh bm cap n g w) := by
  obtain ⟨c0, c1, -⟩ := T.c0
  obtain ⟨h0, h1, f0, f1⟩ := T.arr.at hi
  have hne := T.th
  have l1 := heap_lt T.top
  have l2 := T.arr.lt
  have l3 := T.map.lt
  have HB := Lib.hid hB
  have HU := Lib.hid hU
  have HM := Lib.hid hM
  have HA := Lib.hid hA
  have HT := Lib.hid T
  clear T hB hM hA hU
  go_enter Try.func28, Try.ntmps28
  go_wp2
  go_region
  go_wp2
  go_loopw [1] (fun i' wr => DownRel w bt bh bm cap n g i i' wr) (fun i' _ => n - (intOf i').toNat)
  case atStart =>
    exact ⟨i, g, g, M, rfl, hi, (HT.out.alloc _).drew, fun _ _ => rfl, rfl, HB.out, HU.out, HM.out, HA.out, Same.refl _ _, heap_alloc_new _ _, ((Only.refl _ _).alloc _).drew⟩
  case round =>
    obtain ⟨j, h', h, Mk, rfl, R⟩ := hrel
    clear h0 h1 f0 f1 c0 c1
    have jn := R.lt
    have xb := (cell_of R.box 0).trans (show _ = some (Value.int .i64 (g i).1) from rfl)
    have xb1 := (cell_of R.box 1).trans (show _ = some (Value.int .i64 (g i).2) from rfl)
    obtain ⟨c0, c1, -⟩ := R.raw.c0
    have hc2 : 2 * (j : Int) + 1 = ((2 * j + 1 : Nat) : Int) := by omega
    by_cases hcn : 2 * j + 1 < n
    · obtain ⟨c, rfl⟩ : ∃ c, c = 2 * j + 1 := ⟨_, rfl⟩
      obtain ⟨c, hcj⟩ : ∃ c, c = 2 * j + 1 := ⟨_, rfl⟩
      rw [← hcj] at hcn hc2
      have HCJ := Lib.hid hcj
      clear hcj
      obtain ⟨h0, h1, f0, f1⟩ := R.raw.arr.at hcn
      by_cases hcs : c + 1 < n
      · by_cases hw : ltB (h' (c + 1)) (h' c) = true
        · -- the right one
          obtain ⟨d, hd⟩ : ∃ d, d = c + 1 := ⟨_, rfl⟩
          rw [← hd] at hcs hw
          obtain ⟨g0, g1, -, -⟩ := R.raw.arr.at hcs
          have hde : (c : Int) + 1 = (d : Int) := by omega
          have HD := Lib.hid hd
          clear hd
          have HW := Lib.hid hw
          clear hw
          have hk0 : 0 < d := by have := HCJ.out; have := HD.out; omega
          have hkp : par d = j := by have := HCJ.out; have := HD.out; unfold par; omega
          have hkj : j < d := by have := HCJ.out; have := HD.out; omega
          have hsm : ∀ q, 0 < q → q < n → par q = j → le (h' d) (h' q) := by
            intro q q0 qn qp
            have hq : q = c ∨ q = d := by have := HCJ.out; have := HD.out; unfold par at qp; omega
            rcases hq with rfl | rfl
            · exact le_of_lt HW.out
            · exact le_refl _
          have HSM := Lib.hid hsm
          have HKP := Lib.hid hkp
          clear hsm hkp
          by_cases hl : ltB (h' d) (g i) = true
          · have HL := Lib.hid hl
            have HR := Lib.hid R
            clear R hl
            go_wp2_with fail
            have hwr : IntKind.i64.wrap (d : Int) = (d : Int) := by rw [IntKind.wrap_i64]; omega
            refine region_tail 20 (by kernel_rfl) (by kernel_rfl) ?_
            simp only [List.take_succ_cons, List.take_zero, List.drop_succ_cons, List.drop_zero]
            repeat (first | (with_reducible refine wpStill_step (fun K hK => ?_); go_simp; refine hK _ ?_; clear hK K) | (with_reducible refine wpStill_skip (by rfl) ?_; go_simp))
            with_reducible refine wpStill_nil ?_
            clear hwr
            go_wp2_with fail
            refine (less_pair (h' d) (h' c) _).mono ?_
            rintro e w1 ⟨rfl, hb⟩
            have hb1 : Below wr.heap.size wr w1 := un_drew hb
            have HB1 := Lib.hid hb1
            have T1 := HR.out.raw.only (Only.of_below (S := fun _ => False) hb1) id id id
            have B1 := Lib.hid (hb1.block _ (heap_lt HR.out.box))
            have xb2 := (cell_of (B1.out.trans HR.out.box) 0).trans (show _ = some (Value.int .i64 (g i).1) from rfl)
            have xb3 := (cell_of (B1.out.trans HR.out.box) 1).trans (show _ = some (Value.int .i64 (g i).2) from rfl)
            clear c0 c1 h0 h1 f0 f1 g0 g1 xb xb1 hb hb1
            obtain ⟨c0, c1, -⟩ := T1.c0
            obtain ⟨h0, h1, f0, f1⟩ := T1.arr.at hcs
            have HT1 := Lib.hid T1
            clear T1
            have HW1 := HW.out
            go_wp2_with fail
            clear HW1
            refine region_tail 8 (by kernel_rfl) (by kernel_rfl) ?_
            simp only [List.take_succ_cons, List.take_zero, List.drop_succ_cons, List.drop_zero]
            repeat (first | (with_reducible refine wpStill_step (fun K hK => ?_); go_simp; refine hK _ ?_; clear hK K) | (with_reducible refine wpStill_skip (by rfl) ?_; go_simp))
            with_reducible refine wpStill_nil ?_
            go_wp2_with fail
            refine (less_pair (h' d) (g i) _).mono ?_
            rintro e w2 ⟨rfl, hb⟩
            have hb2 : Below w1.heap.size w1 w2 := un_drew hb
            have hb3 : Below wr.heap.size wr w2 := HB1.out.trans (hb2.mono HB1.out.size)
            have HB3 := Lib.hid hb3
            have T2 := HR.out.raw.only (Only.of_below (S := fun _ => False) hb3) id id id
            have B2 := hb3.block _ (heap_lt HR.out.box)
            have xb4 := (cell_of (B2.trans HR.out.box) 0).trans (show _ = some (Value.int .i64 (g i).1) from rfl)
            have xb5 := (cell_of (B2.trans HR.out.box) 1).trans (show _ = some (Value.int .i64 (g i).2) from rfl)
            clear c0 c1 h0 h1 f0 f1 hb hb2 hb3 B2
            obtain ⟨c0, c1, -⟩ := T2.c0
            obtain ⟨h0, h1, f0, f1⟩ := T2.arr.at hcs
            have HT2 := Lib.hid T2
            clear T2
            have HL1 := HL.out
            go_wp2_with fail
            clear HL1
            refine (put_calls HT2.out jn _ _).mono ?_
            rintro e w3 ⟨rfl, hT3, hO3⟩
            have HR2 := Lib.hid (HR.out.next hk0 hcs HKP.out HL.out HSM.out hT3 ((Only.of_below HB3.out).trans hO3) (by omega))
            clear hT3 hO3
            go_wp2_with fail
            go_roundw
            case rel => exact HR2.out
            case measure => simp [intOf]; omega
          · have hl : ltB (h' d) (g i) = false := by simpa using hl
            have HL := Lib.hid hl
            have HR := Lib.hid R
            clear R hl
            go_wp2_with fail
            have hwr : IntKind.i64.wrap (d : Int) = (d : Int) := by rw [IntKind.wrap_i64]; omega
            refine region_tail 20 (by kernel_rfl) (by kernel_rfl) ?_
            simp only [List.take_succ_cons, List.take_zero, List.drop_succ_cons, List.drop_zero]
            repeat (first | (with_reducible refine wpStill_step (fun K hK => ?_); go_simp; refine hK _ ?_; clear hK K) | (with_reducible refine wpStill_skip (by rfl) ?_; go_simp))
            with_reducible refine wpStill_nil ?_
            clear hwr
            go_wp2_with fail
            refine (less_pair (h' d) (h' c) _).mono ?_
            rintro e w1 ⟨rfl, hb⟩
            have hb1 : Below wr.heap.size wr w1 := un_drew hb
            have HB1 := Lib.hid hb1
            have T1 := HR.out.raw.only (Only.of_below (S := fun _ => False) hb1) id id id
            have B1 := Lib.hid (hb1.block _ (heap_lt HR.out.box))
            have xb2 := (cell_of (B1.out.trans HR.out.box) 0).trans (show _ = some (Value.int .i64 (g i).1) from rfl)
            have xb3 := (cell_of (B1.out.trans HR.out.box) 1).trans (show _ = some (Value.int .i64 (g i).2) from rfl)
            clear c0 c1 h0 h1 f0 f1 g0 g1 xb xb1 hb hb1
            obtain ⟨c0, c1, -⟩ := T1.c0
            obtain ⟨h0, h1, f0, f1⟩ := T1.arr.at hcs
            have HT1 := Lib.hid T1
            clear T1
            have HW1 := HW.out
            go_wp2_with fail
            clear HW1
            refine region_tail 8 (by kernel_rfl) (by kernel_rfl) ?_
            simp only [List.take_succ_cons, List.take_zero, List.drop_succ_cons, List.drop_zero]
            repeat (first | (with_reducible refine wpStill_step (fun K hK => ?_); go_simp; refine hK _ ?_; clear hK K) | (with_reducible refine wpStill_skip (by rfl) ?_; go_simp))
            with_reducible refine wpStill_nil ?_
            go_wp2_with fail
            refine (less_pair (h' d) (g i) _).mono ?_
            rintro e w2 ⟨rfl, hb⟩
            have hb2 : Below w1.heap.size w1 w2 := un_drew hb
            have hb3 : Below wr.heap.size wr w2 := HB1.out.trans (hb2.mono HB1.out.size)
            have HB3 := Lib.hid hb3
            have T2 := HR.out.raw.only (Only.of_below (S := fun _ => False) hb3) id id id
            have B2 := hb3.block _ (heap_lt HR.out.box)
            have xb4 := (cell_of (B2.trans HR.out.box) 0).trans (show _ = some (Value.int .i64 (g i).1) from rfl)
            have xb5 := (cell_of (B2.trans HR.out.box) 1).trans (show _ = some (Value.int .i64 (g i).2) from rfl)
            clear c0 c1 h0 h1 f0 f1 hb hb2 hb3 B2
            obtain ⟨c0, c1, -⟩ := T2.c0
            obtain ⟨h0, h1, f0, f1⟩ := T2.arr.at hcs
            have HT2 := Lib.hid T2
            clear T2
            have HL1 := HL.out
            go_wp2_with fail
            clear HL1
            refine (put_calls HT2.out jn _ _).mono ?_
            rintro e w3 ⟨rfl, hT3, hO3⟩
            have HR2 := Lib.hid (HR.out.done (fun q q0 qn qp => le_trans HL.out (HSM.out q q0 qn qp)) HB3.out hT3 hO3)
            clear hT3 hO3
            go_wp2_with fail
            go_end0
            exact HR2.out
        · -- the left one of two
          obtain ⟨d, hd⟩ : ∃ d, d = c + 1 := ⟨_, rfl⟩
          rw [← hd] at hcs hw
          obtain ⟨g0, g1, -, -⟩ := R.raw.arr.at hcs
          have hde : (c : Int) + 1 = (d : Int) := by omega
          have HD := Lib.hid hd
          clear hd
          have hw : ltB (h' d) (h' c) = false := by simpa using hw
          have HW := Lib.hid hw
          clear hw
          have hk0 : 0 < c := by have := HCJ.out; have := HD.out; omega
          have hkp : par c = j := by have := HCJ.out; have := HD.out; unfold par; omega
          have hkj : j < c := by have := HCJ.out; have := HD.out; omega
          have hsm : ∀ q, 0 < q → q < n → par q = j → le (h' c) (h' q) := by
            intro q q0 qn qp
            have hq : q = c ∨ q = d := by have := HCJ.out; have := HD.out; unfold par at qp; omega
            rcases hq with rfl | rfl
            · exact le_refl _
            · exact HW.out
          have HSM := Lib.hid hsm
          have HKP := Lib.hid hkp
          clear hsm hkp
          by_cases hl : ltB (h' c) (g i) = true
          · have HL := Lib.hid hl
            have HR := Lib.hid R
            clear R hl
            go_wp2_with fail
            have hwr : IntKind.i64.wrap (d : Int) = (d : Int) := by rw [IntKind.wrap_i64]; omega
            refine region_tail 20 (by kernel_rfl) (by kernel_rfl) ?_
            simp only [List.take_succ_cons, List.take_zero, List.drop_succ_cons, List.drop_zero]
            repeat (first | (with_reducible refine wpStill_step (fun K hK => ?_); go_simp; refine hK _ ?_; clear hK K) | (with_reducible refine wpStill_skip (by rfl) ?_; go_simp))
            with_reducible refine wpStill_nil ?_
            clear hwr
            go_wp2_with fail
            refine (less_pair (h' d) (h' c) _).mono ?_
            rintro e w1 ⟨rfl, hb⟩
            have hb1 : Below wr.heap.size wr w1 := un_drew hb
            have HB1 := Lib.hid hb1
            have T1 := HR.out.raw.only (Only.of_below (S := fun _ => False) hb1) id id id
            have B1 := Lib.hid (hb1.block _ (heap_lt HR.out.box))
            have xb2 := (cell_of (B1.out.trans HR.out.box) 0).trans (show _ = some (Value.int .i64 (g i).1) from rfl)
            have xb3 := (cell_of (B1.out.trans HR.out.box) 1).trans (show _ = some (Value.int .i64 (g i).2) from rfl)
            clear c0 c1 h0 h1 f0 f1 g0 g1 xb xb1 hb hb1
            obtain ⟨c0, c1, -⟩ := T1.c0
            obtain ⟨h0, h1, f0, f1⟩ := T1.arr.at hcn
            have HT1 := Lib.hid T1
            clear T1
            have HW1 := HW.out
            go_wp2_with fail
            clear HW1
            refine region_tail 8 (by kernel_rfl) (by kernel_rfl) ?_
            simp only [List.take_succ_cons, List.take_zero, List.drop_succ_cons, List.drop_zero]
            repeat (first | (with_reducible refine wpStill_step (fun K hK => ?_); go_simp; refine hK _ ?_; clear hK K) | (with_reducible refine wpStill_skip (by rfl) ?_; go_simp))
            with_reducible refine wpStill_nil ?_
            go_wp2_with fail
            refine (less_pair (h' c) (g i) _).mono ?_
            rintro e w2 ⟨rfl, hb⟩
            have hb2 : Below w1.heap.size w1 w2 := un_drew hb
            have hb3 : Below wr.heap.size wr w2 := HB1.out.trans (hb2.mono HB1.out.size)
            have HB3 := Lib.hid hb3
            have T2 := HR.out.raw.only (Only.of_below (S := fun _ => False) hb3) id id id
            have B2 := hb3.block _ (heap_lt HR.out.box)
            have xb4 := (cell_of (B2.trans HR.out.box) 0).trans (show _ = some (Value.int .i64 (g i).1) from rfl)
            have xb5 := (cell_of (B2.trans HR.out.box) 1).trans (show _ = some (Value.int .i64 (g i).2) from rfl)
            clear c0 c1 h0 h1 f0 f1 hb hb2 hb3 B2
            obtain ⟨c0, c1, -⟩ := T2.c0
            obtain ⟨h0, h1, f0, f1⟩ := T2.arr.at hcn
            have HT2 := Lib.hid T2
            clear T2
            have HL1 := HL.out
            go_wp2_with fail
            clear HL1
            refine (put_calls HT2.out jn _ _).mono ?_
            rintro e w3 ⟨rfl, hT3, hO3⟩
            have HR2 := Lib.hid (HR.out.next hk0 hcn HKP.out HL.out HSM.out hT3 ((Only.of_below HB3.out).trans hO3) (by omega))
            clear hT3 hO3
            go_wp2_with fail
            go_roundw
            case rel => exact HR2.out
            case measure => simp [intOf]; omega
          · have hl : ltB (h' c) (g i) = false := by simpa using hl
            have HL := Lib.hid hl
            have HR := Lib.hid R
            clear R hl
            go_wp2_with fail
            have hwr : IntKind.i64.wrap (d : Int) = (d : Int) := by rw [IntKind.wrap_i64]; omega
            refine region_tail 20 (by kernel_rfl) (by kernel_rfl) ?_
            simp only [List.take_succ_cons, List.take_zero, List.drop_succ_cons, List.drop_zero]
            repeat (first | (with_reducible refine wpStill_step (fun K hK => ?_); go_simp; refine hK _ ?_; clear hK K) | (with_reducible refine wpStill_skip (by rfl) ?_; go_simp))
            with_reducible refine wpStill_nil ?_
            clear hwr
            go_wp2_with fail
            refine (less_pair (h' d) (h' c) _).mono ?_
            rintro e w1 ⟨rfl, hb⟩
            have hb1 : Below wr.heap.size wr w1 := un_drew hb
            have HB1 := Lib.hid hb1
            have T1 := HR.out.raw.only (Only.of_below (S := fun _ => False) hb1) id id id
            have B1 := Lib.hid (hb1.block _ (heap_lt HR.out.box))
            have xb2 := (cell_of (B1.out.trans HR.out.box) 0).trans (show _ = some (Value.int .i64 (g i).1) from rfl)
            have xb3 := (cell_of (B1.out.trans HR.out.box) 1).trans (show _ = some (Value.int .i64 (g i).2) from rfl)
            clear c0 c1 h0 h1 f0 f1 g0 g1 xb xb1 hb hb1
            obtain ⟨c0, c1, -⟩ := T1.c0
            obtain ⟨h0, h1, f0, f1⟩ := T1.arr.at hcn
            have HT1 := Lib.hid T1
            clear T1
            have HW1 := HW.out
            go_wp2_with fail
            clear HW1
            refine region_tail 8 (by kernel_rfl) (by kernel_rfl) ?_
            simp only [List.take_succ_cons, List.take_zero, List.drop_succ_cons, List.drop_zero]
            repeat (first | (with_reducible refine wpStill_step (fun K hK => ?_); go_simp; refine hK _ ?_; clear hK K) | (with_reducible refine wpStill_skip (by rfl) ?_; go_simp))
            with_reducible refine wpStill_nil ?_
            go_wp2_with fail
            refine (less_pair (h' c) (g i) _).mono ?_
            rintro e w2 ⟨rfl, hb⟩
            have hb2 : Below w1.heap.size w1 w2 := un_drew hb
            have hb3 : Below wr.heap.size wr w2 := HB1.out.trans (hb2.mono HB1.out.size)
            have HB3 := Lib.hid hb3
            have T2 := HR.out.raw.only (Only.of_below (S := fun _ => False) hb3) id id id
            have B2 := hb3.block _ (heap_lt HR.out.box)
            have xb4 := (cell_of (B2.trans HR.out.box) 0).trans (show _ = some (Value.int .i64 (g i).1) from rfl)
            have xb5 := (cell_of (B2.trans HR.out.box) 1).trans (show _ = some (Value.int .i64 (g i).2) from rfl)
            clear c0 c1 h0 h1 f0 f1 hb hb2 hb3 B2
            obtain ⟨c0, c1, -⟩ := T2.c0
            obtain ⟨h0, h1, f0, f1⟩ := T2.arr.at hcn
            have HT2 := Lib.hid T2
            clear T2
            have HL1 := HL.out
            go_wp2_with fail
            clear HL1
            refine (put_calls HT2.out jn _ _).mono ?_
            rintro e w3 ⟨rfl, hT3, hO3⟩
            have HR2 := Lib.hid (HR.out.done (fun q q0 qn qp => le_trans HL.out (HSM.out q q0 qn qp)) HB3.out hT3 hO3)
            clear hT3 hO3
            go_wp2_with fail
            go_end0
            exact HR2.out
      · -- the only one
        obtain ⟨d, hd⟩ : ∃ d, d = c + 1 := ⟨_, rfl⟩
        rw [← hd] at hcs
        have hde : (c : Int) + 1 = (d : Int) := by omega
        have HD := Lib.hid hd
        clear hd
        have hcT : decide (d < n) = false := by simp; omega
        have hcU : decide ((d : Int) < (n : Int)) = false := by simp; omega
        have hk0 : 0 < c := by have := HCJ.out; have := HD.out; omega
        have hkp : par c = j := by have := HCJ.out; have := HD.out; unfold par; omega
        have hkj : j < c := by have := HCJ.out; have := HD.out; omega
        have hsm : ∀ q, 0 < q → q < n → par q = j → le (h' c) (h' q) := by
          intro q q0 qn qp
          have hq : q = c ∨ q = d := by have := HCJ.out; have := HD.out; unfold par at qp; omega
          rcases hq with rfl | rfl
          · exact le_refl _
          · omega
        have HSM := Lib.hid hsm
        have HKP := Lib.hid hkp
        clear hsm hkp
        by_cases hl : ltB (h' c) (g i) = true
        · have HL := Lib.hid hl
          have HR := Lib.hid R
          clear R hl
          go_wp2_with fail
          have hwr : IntKind.i64.wrap (d : Int) = (d : Int) := by rw [IntKind.wrap_i64]; omega
          refine region_tail 20 (by kernel_rfl) (by kernel_rfl) ?_
          simp only [List.take_succ_cons, List.take_zero, List.drop_succ_cons, List.drop_zero]
          repeat (first | (with_reducible refine wpStill_step (fun K hK => ?_); go_simp; refine hK _ ?_; clear hK K) | (with_reducible refine wpStill_skip (by rfl) ?_; go_simp))
          with_reducible refine wpStill_nil ?_
          clear hwr
          go_wp2_with fail
          refine region_tail 8 (by kernel_rfl) (by kernel_rfl) ?_
          simp only [List.take_succ_cons, List.take_zero, List.drop_succ_cons, List.drop_zero]
          repeat (first | (with_reducible refine wpStill_step (fun K hK => ?_); go_simp; refine hK _ ?_; clear hK K) | (with_reducible refine wpStill_skip (by rfl) ?_; go_simp))
          with_reducible refine wpStill_nil ?_
          go_wp2_with fail
          refine (less_pair (h' c) (g i) _).mono ?_
          rintro e w2 ⟨rfl, hb⟩
          have hb2 : Below wr.heap.size wr w2 := un_drew (un_drew hb)
          have hb3 : Below wr.heap.size wr w2 := hb2
          have HB3 := Lib.hid hb3
          have T2 := HR.out.raw.only (Only.of_below (S := fun _ => False) hb3) id id id
          have B2 := hb3.block _ (heap_lt HR.out.box)
          have xb4 := (cell_of (B2.trans HR.out.box) 0).trans (show _ = some (Value.int .i64 (g i).1) from rfl)
          have xb5 := (cell_of (B2.trans HR.out.box) 1).trans (show _ = some (Value.int .i64 (g i).2) from rfl)
          clear c0 c1 h0 h1 f0 f1 hb hb2 hb3 B2
          obtain ⟨c0, c1, -⟩ := T2.c0
          obtain ⟨h0, h1, f0, f1⟩ := T2.arr.at hcn
          have HT2 := Lib.hid T2
          clear T2
          have HL1 := HL.out
          go_wp2_with fail
          clear HL1
          refine (put_calls HT2.out jn _ _).mono ?_
          rintro e w3 ⟨rfl, hT3, hO3⟩
          have HR2 := Lib.hid (HR.out.next hk0 hcn HKP.out HL.out HSM.out hT3 ((Only.of_below HB3.out).trans hO3) (by omega))
          clear hT3 hO3
          go_wp2_with fail
          go_roundw
          case rel => exact HR2.out
          case measure => simp [intOf]; omega
        · have hl : ltB (h' c) (g i) = false := by simpa using hl
          have HL := Lib.hid hl
          have HR := Lib.hid R
          clear R hl
          go_wp2_with fail
          have hwr : IntKind.i64.wrap (d : Int) = (d : Int) := by rw [IntKind.wrap_i64]; omega
          refine region_tail 20 (by kernel_rfl) (by kernel_rfl) ?_
          simp only [List.take_succ_cons, List.take_zero, List.drop_succ_cons, List.drop_zero]
          repeat (first | (with_reducible refine wpStill_step (fun K hK => ?_); go_simp; refine hK _ ?_; clear hK K) | (with_reducible refine wpStill_skip (by rfl) ?_; go_simp))
          with_reducible refine wpStill_nil ?_
          clear hwr
          go_wp2_with fail
          refine region_tail 8 (by kernel_rfl) (by kernel_rfl) ?_
          simp only [List.take_succ_cons, List.take_zero, List.drop_succ_cons, List.drop_zero]
          repeat (first | (with_reducible refine wpStill_step (fun K hK => ?_); go_simp; refine hK _ ?_; clear hK K) | (with_reducible refine wpStill_skip (by rfl) ?_; go_simp))
          with_reducible refine wpStill_nil ?_
          go_wp2_with fail
          refine (less_pair (h' c) (g i) _).mono ?_
          rintro e w2 ⟨rfl, hb⟩
          have hb2 : Below wr.heap.size wr w2 := un_drew (un_drew hb)
          have hb3 : Below wr.heap.size wr w2 := hb2
          have HB3 := Lib.hid hb3
          have T2 := HR.out.raw.only (Only.of_below (S := fun _ => False) hb3) id id id
          have B2 := hb3.block _ (heap_lt HR.out.box)
          have xb4 := (cell_of (B2.trans HR.out.box) 0).trans (show _ = some (Value.int .i64 (g i).1) from rfl)
          have xb5 := (cell_of (B2.trans HR.out.box) 1).trans (show _ = some (Value.int .i64 (g i).2) from rfl)
          clear c0 c1 h0 h1 f0 f1 hb hb2 hb3 B2
          obtain ⟨c0, c1, -⟩ := T2.c0
          obtain ⟨h0, h1, f0, f1⟩ := T2.arr.at hcn
          have HT2 := Lib.hid T2
          clear T2
          have HL1 := HL.out
          go_wp2_with fail
          clear HL1
          refine (put_calls HT2.out jn _ _).mono ?_
          rintro e w3 ⟨rfl, hT3, hO3⟩
          have HR2 := Lib.hid (HR.out.done (fun q q0 qn qp => le_trans HL.out (HSM.out q q0 qn qp)) HB3.out hT3 hO3)
          clear hT3 hO3
          go_wp2_with fail
          go_end0
          exact HR2.out
    · have HR := Lib.hid R
      have hge : (n : Int) ≤ 2 * (j : Int) + 1 := by omega
      clear R hc2
      go_wp2_with fail
      refine (put_calls HR.out.raw jn _ _).mono ?_
      rintro e w2 ⟨rfl, hT2, hO2⟩
      have HR2 := Lib.hid (HR.out.done (fun q q0 qn qp => absurd qn (by unfold par at qp; omega)) (Below.refl _ _) hT2 hO2)
      clear hT2 hO2
      go_wp2_with fail
      go_end0
      exact HR2.out
end Go.Proofs.Ytbgklnepmljiaaa
