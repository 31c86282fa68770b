/- The walk over a call of both. -/
import Derived.Test.YtbgklnepmljiaaaO
import Derived.Deep.RegionHeld3
namespace Go.Proofs.Ytbgklnepmljiaaa
open Go.RowKit YtbgklnepmljiaaaMem Go.ChangeMaps

/-- What a call comes to. -/
def opF (m : List (Int × Int)) (kind id at_ : Int) : List (Int × Int) := if kind = 0 then YtbgklnepmljiaaaMem.put m id at_ else if kind = 1 then wo m id else (dueOf m.length m at_).2
theorem opF_nodup {m : List (Int × Int)} (h : (m.map (·.2)).Nodup) (kind id at_ : Int) : ((opF m kind id at_).map (·.2)).Nodup := by
  unfold opF; split
  · exact put_nodup h
  · split
    · exact wo_nodup h
    · exact due_nodup h
theorem opF_le (m : List (Int × Int)) (kind id at_ : Int) : (opF m kind id at_).length ≤ m.length + 1 := by
  unfold opF; split
  · unfold YtbgklnepmljiaaaMem.put; have := wo_le m id; simp; omega
  · split
    · have := wo_le m id; omega
    · have := due_le m.length m at_; omega
/-- Both stand for one list. -/
structure Both (w : World) (bt : Nat) (S : Nat → Prop) (v : Value) (m : List (Int × Int)) : Prop where
  inv : TInv w bt S m
  lst : ones w 0 v m
  off : ∀ k, v.ownBlock = some k → ¬ S k
theorem Both.only {w w' : World} {bt : Nat} {S T : Nat → Prop} {v : Value} {m : List (Int × Int)} (h : Both w bt S v m) (ho : Only T w w') (h1 : ∀ k, S k → ¬ T k) (h2 : ∀ k, v.ownBlock = some k → ¬ T k) : Both w' bt S v m :=
  ⟨h.inv.only ho h1, h.lst.only ho h2, h.off⟩
structure Done (w w' : World) (bt : Nat) (S : Nat → Prop) (v : Value) (S' : Nat → Prop) (v' : Value) (m' : List (Int × Int)) : Prop where
  both : Both w' bt S' v' m'
  blocks : ∀ k, S' k → S k ∨ w.heap.size ≤ k
  vb : ∀ k, v'.ownBlock = some k → v.ownBlock = some k ∨ w.heap.size ≤ k
  only : Only S w w'
def DoP (bt : Nat) (S : Nat → Prop) (v : Value) (m' : List (Int × Int)) (w : World) (e : Ending) (w' : World) : Prop :=
  ∃ S' v', e = .returned (.tuple #[v', .bool true]) ∧ Done w w' bt S v S' v' m'

set_option maxHeartbeats 1000000 in
theorem do_calls {bt : Nat} {S : Nat → Prop} {v : Value} {m : List (Int × Int)} {w : World} (B : Both w bt S v m) (hl : m.length < 100000) (kind id at_ : Int) :
    Calls Try.prog 14 #[.pointer (some ⟨bt, 0, none⟩), v, .agg #[.int .i64 kind, .int .i64 id, .int .i64 at_]] w (DoP bt S v (opF m kind id at_) w) := by
  have hS := B.inv.hS
  have HSl := Lib.hid hS.2
  have B1 : Both (w.alloc (.cells #[.int .i64 kind, .int .i64 id, .int .i64 at_] 32)) bt S v m := B.only ((Only.refl (fun _ => False) w).alloc _) (fun _ _ h => h) (fun _ _ h => h)
  have O1 : Only S w (w.alloc (.cells #[.int .i64 kind, .int .i64 id, .int .i64 at_] 32)) := (Only.refl _ _).alloc _
  have hx := YtbgklnepmljiaaaMem.heap_alloc_new w (.cells #[.int .i64 kind, .int .i64 id, .int .i64 at_] 32)
  have HB := Lib.hid B1
  have HO := Lib.hid O1
  have HX := Lib.hid hx
  clear B B1 O1 hx hS
  by_cases k0 : kind = 0
  · have e : opF m kind id at_ = YtbgklnepmljiaaaMem.put m id at_ := by unfold opF; rw [if_pos k0]
    rw [e]
    have kb : (kind == 0) = true := by simp [k0]
    clear e
    have HK := Lib.hid k0
    clear k0
    go_enter Try.func14, Try.ntmps14
    go_wp2_with fail
    refine (set_calls HB.out.inv (by omega) id at_).mono ?_
    rintro e w1 ⟨rfl, S1, T1, s1, P1⟩
    have n1 : w1.heap[w.heap.size]? = some (Obj.cells #[Value.int IntKind.i64 kind, Value.int IntKind.i64 id, Value.int IntKind.i64 at_] 32) := by
      rw [P1.block _ (heap_lt HX.out) (fun h => by have := HSl.out _ h; omega)]; exact HX.out
    have x1 := (cell_of n1 1).trans (show _ = some (Value.int .i64 id) from rfl)
    have x2 := (cell_of n1 2).trans (show _ = some (Value.int .i64 at_) from rfl)
    have L1 := HB.out.lst.only P1 HB.out.off
    have HT1 := Lib.hid T1
    have Hs1 := Lib.hid s1
    have HP1 := Lib.hid P1
    have HL1 := Lib.hid L1
    clear T1 s1 P1 L1 n1
    go_wp2_with fail
    refine (rset_calls HL1.out (by omega) id at_).mono ?_
    rintro e w2 ⟨v2, rfl, o2, b2⟩
    have hfin : DoP bt S v (YtbgklnepmljiaaaMem.put m id at_) w (.returned (.tuple #[v2, .bool true])) w2 := by
      have z1 := HP1.out.size
      simp only [World.size_alloc] at z1
      refine ⟨S1, v2, rfl, ⟨HT1.out.only (.of_below (S := fun _ => False) b2) (fun _ _ h => h), o2.base0, fun k hk hs => ?_⟩, fun k hk => ?_, fun k hk => .inr ?_, HO.out.trans (HP1.out.trans (.of_below b2))⟩
      · have := (o2.lt hk).1
        have := HT1.out.hS.2 k hs
        omega
      · rcases Hs1.out k hk with h | h
        · exact .inl h
        · simp at h; exact .inr (by omega)
      · have := (o2.lt hk).1; omega
    have HF := Lib.hid hfin
    clear o2 b2 hfin
    go_wp2_with fail
    go_ret2
    exact HF.out
  · by_cases k1 : kind = 1
    · have e : opF m kind id at_ = wo m id := by unfold opF; rw [if_neg k0, if_pos k1]
      rw [e]
      have kb : (kind == 0) = false := by simp [k0]
      have kc : (kind == 1) = true := by simp [k1]
      have L0 : ones (w.alloc (Obj.cells #[Value.int IntKind.i64 kind, Value.int IntKind.i64 id, Value.int IntKind.i64 at_] 32)).drew 0 v m := HB.out.lst
      have T0 : TInv (w.alloc (Obj.cells #[Value.int IntKind.i64 kind, Value.int IntKind.i64 id, Value.int IntKind.i64 at_] 32)).drew bt S m := HB.out.inv.only ((Only.refl (fun _ => False) _).drew) (fun _ _ h => h)
      have P0 : Only S w (w.alloc (Obj.cells #[Value.int IntKind.i64 kind, Value.int IntKind.i64 id, Value.int IntKind.i64 at_] 32)).drew := HO.out.drew
      have n0 : (w.alloc (Obj.cells #[Value.int IntKind.i64 kind, Value.int IntKind.i64 id, Value.int IntKind.i64 at_] 32)).drew.heap[w.heap.size]? = some (Obj.cells #[Value.int IntKind.i64 kind, Value.int IntKind.i64 id, Value.int IntKind.i64 at_] 32) := HX.out
      have z0 : (w.alloc (Obj.cells #[Value.int IntKind.i64 kind, Value.int IntKind.i64 id, Value.int IntKind.i64 at_] 32)).drew.heap.size = w.heap.size + 1 := by simp
      have HL0 := Lib.hid L0
      have HT0 := Lib.hid T0
      have HP0 := Lib.hid P0
      have Hn0 := Lib.hid n0
      have Hz0 := Lib.hid z0
      clear L0 T0 P0 n0 z0 e k0 k1
      have hge : decide ((fi m id) ≥ 0) = has m id := by
        rcases fi_spec m id with ⟨h, j, p, _, _, e⟩ | ⟨h, e⟩
        · rw [h, e]; simp
        · rw [h, e]; decide
      have HG := Lib.hid hge
      clear hge
      go_enter Try.func14, Try.ntmps14
      go_wp2_with fail
      go_region_held3 (fun w' => w'.cell? ⟨w.heap.size, 1, none⟩ = some (.int .i64 id)) (first | exact q1 | exact q2 | go_keep)
        (first
          | (go_at_call 21; refine (rdrop_calls HL0.out (by omega) id).mono ?_; rintro e w1 ⟨v1, rfl, o1, b1⟩; have Hb1 := Lib.hid b1; have Ho1 := Lib.hid o1; have n1 := (b1.block _ (heap_lt Hn0.out)).trans Hn0.out; have q1 := (cell_of n1 1).trans (show _ = some (Value.int .i64 id) from rfl); have Hn1 := Lib.hid n1; clear b1 o1 n1)
          | (go_at_call 19; refine (drop_calls (HT0.out.only (.of_below (S := fun _ => False) Hb1.out) (fun _ _ h => h)) (by omega) id).mono ?_; rintro e w2 ⟨rfl, T2, O2⟩; have HT2 := Lib.hid T2; have HO2 := Lib.hid O2; have n2 := (O2.block _ (heap_lt Hn1.out) (fun h => by have := HSl.out _ h; omega)).trans Hn1.out; have q2 := (cell_of n2 1).trans (show _ = some (Value.int .i64 id) from rfl); clear T2 O2 n2)
          | (go_at_call 24; refine (rfind_calls ((HL0.out.only (.of_below (S := fun _ => False) Hb1.out) (fun _ _ h => h)).only HO2.out HB.out.off) (by omega) id).mono ?_; rintro e w3 ⟨rfl, rfl⟩))
      have hv : (has m id == decide (0 ≤ fi m id)) = true := by rw [show decide (0 ≤ fi m id) = has m id from HG.out]; simp
      have hfin : DoP bt S v (wo m id) w (.returned (.tuple #[v1, .bool true])) w2 := by
        have z0 := Hz0.out
        have z1 := Hb1.out.size
        refine ⟨S, v1, rfl, ⟨HT2.out, (Ho1.out.only HO2.out ?_).base0, ?_⟩, fun k hk => .inl hk, fun k hk => .inr ?_, HP0.out.trans ((Only.of_below Hb1.out).trans HO2.out)⟩
        · intro k hk hs; have := (Ho1.out.lt hk).1; have := HSl.out k hs; omega
        · intro k hk hs; have := (Ho1.out.lt hk).1; have := HSl.out k hs; omega
        · have := (Ho1.out.lt hk).1; omega
      have hfin2 : DoP bt S v (wo m id) w (.returned (.tuple #[v1, .bool (has m id == decide (0 ≤ fi m id))])) w2 := by rw [hv]; exact hfin
      have HF := Lib.hid hfin2
      clear hfin hfin2 hv
      go_wp2_with fail
      go_ret2
      exact HF.out
    · have e : opF m kind id at_ = (dueOf m.length m at_).2 := by unfold opF; rw [if_neg k0, if_neg k1]
      rw [e]
      have kb : (kind == 0) = false := by simp [k0]
      have kc : (kind == 1) = false := by simp [k1]
      have HND := Lib.hid HB.out.inv.nodup
      clear e k0 k1
      go_enter Try.func14, Try.ntmps14
      go_wp2_with fail
      refine (rdue_calls HB.out.lst (by omega) HND.out at_).mono ?_
      rintro e w1 ⟨v1, v2, rfl, I1, o1, vb1, b1⟩
      have n1 : w1.heap[w.heap.size]? = some (Obj.cells #[Value.int IntKind.i64 kind, Value.int IntKind.i64 id, Value.int IntKind.i64 at_] 32) := by
        rw [b1.block _ (heap_lt HX.out)]; exact HX.out
      have x2 := (cell_of n1 2).trans (show _ = some (Value.int .i64 at_) from rfl)
      have T1 := HB.out.inv.only (.of_below (S := fun _ => False) b1) (fun _ _ h => h)
      have z1 := b1.size
      simp only [World.size_alloc] at z1
      have HT1 := Lib.hid T1
      have HI1 := Lib.hid I1
      have Ho1 := Lib.hid o1
      have Hv1 := Lib.hid vb1
      have Hb1 := Lib.hid b1
      clear T1 I1 o1 vb1 b1 n1
      go_wp2_with fail
      refine (due_calls HT1.out (by omega) at_).mono ?_
      rintro e w2 ⟨v4, rfl, I2, T2, O2⟩
      have J1 : intsNew w2 _ v1 _ := HI1.out.only O2 (fun k hk hs => by have := HSl.out k hs; simp at hk; omega)
      have hsame := same_calls I2.ints J1.ints (by have := due_len m.length m at_; omega)
      have hsb : sameB (dueOf m.length m at_).1 (dueOf m.length m at_).1 = true := by simp [sameB]
      rw [hsb] at hsame
      have HSM := Lib.hid hsame
      have HT2 := Lib.hid T2
      have HO2 := Lib.hid O2
      clear I2 T2 O2 J1 hsame hsb
      go_wp2_with fail
      refine HSM.out.mono ?_
      rintro e w3 ⟨rfl, A3⟩
      have hfin : DoP bt S v (dueOf m.length m at_).2 w (.returned (.tuple #[v2, .bool true])) w3 := by
        refine ⟨S, v2, rfl, ⟨HT2.out.only (A3.only (fun _ => False)) (fun _ _ h => h), ?_, ?_⟩, fun k hk => .inl hk, fun k hk => ?_, ?_⟩
        · refine (Ho1.out.only HO2.out ?_).only (A3.only (fun _ => False)) (fun _ _ h => h)
          intro k hk hs
          rcases Hv1.out k hk with h | h
          · exact HB.out.off k h hs
          · simp at h; have := HSl.out k hs; omega
        · intro k hk hs
          rcases Hv1.out k hk with h | h
          · exact HB.out.off k h hs
          · simp at h; have := HSl.out k hs; omega
        · rcases Hv1.out k hk with h | h
          · exact .inl h
          · simp at h; exact .inr (by omega)
        · exact HO.out.trans ((Only.of_below Hb1.out).trans (HO2.out.trans (A3.only S)))
      have HF := Lib.hid hfin
      clear hfin A3
      go_wp2_with fail
      go_ret2
      exact HF.out
end Go.Proofs.Ytbgklnepmljiaaa
