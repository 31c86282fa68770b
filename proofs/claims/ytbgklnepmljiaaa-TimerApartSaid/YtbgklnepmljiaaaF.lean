/- The walks over the first timer, and one that is dropped. -/
import Derived.Test.YtbgklnepmljiaaaE
namespace Go.Proofs.Ytbgklnepmljiaaa
open Go.RowKit YtbgklnepmljiaaaMem Go.ChangeMaps

/-- What First tells. -/
def firstV (m : List (Int × Int)) : Value := match minOf m with
  | none => .tuple #[.int .i64 0, .int .i64 0, .bool false]
  | some p => .tuple #[.int .i64 p.2, .int .i64 p.1, .bool true]
theorem firstV_nil : firstV [] = .tuple #[.int .i64 0, .int .i64 0, .bool false] := rfl
theorem firstV_of {m : List (Int × Int)} {p : Int × Int} (h : minOf m = some p) : firstV m = .tuple #[.int .i64 p.2, .int .i64 p.1, .bool true] := by unfold firstV; rw [h]
theorem min_of_ok {g : Nat → Int × Int} {n : Nat} {m : List (Int × Int)} (ok : Ok g n) (mem : ∀ p, (∃ j, j < n ∧ g j = p) ↔ p ∈ m) (h : 0 < n) : minOf m = some (g 0) :=
  minOf_eq ((mem _).1 ⟨0, h, rfl⟩) fun q hq => by
    obtain ⟨j, jn, rfl⟩ := (mem q).2 hq
    exact ok.first j jn

def Alike0 (w w' : World) : Prop := ∃ k, w' = { w with drawn := k }
theorem Alike0.only {w w' : World} (h : Alike0 w w') (S : Nat → Prop) : Only S w w' := by obtain ⟨k, rfl⟩ := h; exact ⟨rfl, rfl, rfl, Nat.le_refl _, fun _ _ _ => rfl⟩

set_option maxHeartbeats 400000 in
theorem first_calls {bt : Nat} {S : Nat → Prop} {m : List (Int × Int)} {w : World} (T : TInv w bt S m) :
    Calls Try.prog 17 #[.pointer (some ⟨bt, 0, none⟩)] w fun e w' => e = .returned (firstV m) ∧ Alike0 w w' := by
  have HT := Lib.hid T
  rcases Nat.eq_zero_or_pos m.length with hl | hl
  · have hm : m = [] := List.eq_nil_of_length_eq_zero hl
    subst hm
    rw [firstV_nil]
    go_enter Try.func17, Try.ntmps17
    go_wp2_with fail
    refine (len_calls T).mono ?_
    rintro e w' ⟨rfl, rfl⟩
    go_wp2
    go_ret3
    exact ⟨rfl, w.drawn, rfl⟩
  · cases T with
    | bare v top row hb hm hS hlt => subst hm; simp at hl
    | full bh bm cap n g M raw ok map apart len mem hcap nd hS h1 h2 hlt =>
      have hn : 0 < n := by omega
      rw [firstV_of (min_of_ok ok mem hn)]
      obtain ⟨c0, c1, -⟩ := raw.c0
      obtain ⟨g0, g1, -, -⟩ := raw.arr.at hn
      have hne : ((m.length : Int) == 0) = false := by rw [beq_eq_false_iff_ne]; omega
      clear raw ok map apart mem hl
      go_enter Try.func17, Try.ntmps17
      go_wp2_with fail
      refine (len_calls HT.out).mono ?_
      rintro e w' ⟨rfl, rfl⟩
      go_wp2_with fail
      go_region
      go_wp2_with fail
      go_ret3
      exact ⟨rfl, _, rfl⟩

/-- What dropping leaves. -/
def DropP (bt : Nat) (S : Nat → Prop) (m : List (Int × Int)) (id : Int) (w : World) (e : Ending) (w' : World) : Prop := e = .returned (.bool (has m id)) ∧ TInv w' bt S (wo m id) ∧ Only S w w'

theorem Cut.inv {w w' : World} {bt bh bm cap n : Nat} {g : Nat → Int × Int} {i : Nat} {h : Nat → Int × Int} {Mk : Int → Option Int} {S : Nat → Prop} {m : List (Int × Int)} (C : Cut w w' bt bh bm cap n g i h Mk) (hA : Apart g (n + 1)) (hi : i ≤ n) (len : n + 1 = m.length) (hn : (wo m (g i).2).length + 1 = m.length)
    (mem : ∀ p, (∃ j, j < n + 1 ∧ g j = p) ↔ p ∈ m) (hcap : cap ≤ maxLen) (nd : (m.map (·.2)).Nodup) (hS : S bt) (h1 : S bh) (h2 : S bm) (hlt : ∀ k, S k → k < w.heap.size) : TInv w' bt S (wo m (g i).2) ∧ Only S w w' := by
  have ho : Only S w w' := C.only.mono fun k _ hk => by rcases hk with rfl | rfl | rfl; exact hS; exact h1; exact h2
  refine ⟨.full bh bm cap n h Mk C.raw C.ok C.map C.apart (by omega) (fun p => ?_) hcap (wo_nodup nd) hS h1 h2 (fun k hk => Nat.lt_of_lt_of_le (hlt k hk) ho.size), ho⟩
  rw [C.same p, mem_wo, ← mem p]
  constructor
  · rintro ⟨j, jn, ji, rfl⟩
    exact ⟨⟨j, jn, rfl⟩, fun e => ji (hA _ _ jn (by omega) e)⟩
  · rintro ⟨⟨j, jn, rfl⟩, e⟩
    exact ⟨j, jn, fun ji => e (by rw [ji]), rfl⟩
set_option maxHeartbeats 400000 in
theorem drop_calls {bt : Nat} {S : Nat → Prop} {m : List (Int × Int)} {w : World} (T : TInv w bt S m) (hl : m.length ≤ 1000000) (id : Int) :
    Calls Try.prog 19 #[.pointer (some ⟨bt, 0, none⟩), .int .i64 id] w (DropP bt S m id w) := by
  have HT := Lib.hid T
  cases T with
  | bare v top row hb hm hS hlt =>
    subst hm
    have c1 := (cell_of top 1).trans (show _ = some (Value.map none) from rfl)
    have hrun := run_look_nil (w := w) Try.underlying26 Try.underlying3 (show (zeroValue 3).run Try.prog w = .ok (.int .i64 0) w by kernel_rfl) id
    go_enter Try.func19, Try.ntmps19
    go_wp2
    go_ret
    exact ⟨rfl, HT.out, Only.refl _ _⟩
  | full bh bm cap n g M raw ok map apart len mem hcap nd hS h1 h2 hlt =>
    obtain ⟨c0, c1, -⟩ := raw.c0
    have hlook := raw.map.look_ok Try.underlying26 Try.underlying3 (show (zeroValue 3).run Try.prog w = .ok (.int .i64 0) w by kernel_rfl) id
    rcases place_of map mem id with ⟨h, j, jn, e, hM⟩ | ⟨h, hM⟩
    · rw [hM] at hlook
      obtain ⟨n, rfl⟩ : ∃ k, n = k + 1 := ⟨n - 1, by omega⟩
      have hwl := wo_length nd h
      have hcut := (cut_calls raw (i := j) (by omega) (by omega) ok map apart).mono (R' := fun e' w' => e' = .returned (.tuple #[]) ∧ TInv w' bt S (wo m id) ∧ Only S w w') (by
        rintro e' w' ⟨rfl, h', Mk, C⟩
        have := C.inv apart (by omega) len (by rw [e]; exact hwl) mem hcap nd hS h1 h2 hlt
        rw [e] at this
        exact ⟨rfl, this⟩)
      have HC := Lib.hid hcut
      have HH := Lib.hid h
      clear raw ok map apart mem hM hwl hcut h len
      go_enter Try.func19, Try.ntmps19
      go_wp2_with fail
      refine HC.out.mono ?_
      rintro e' w' ⟨rfl, T', O'⟩
      have HF := Lib.hid (And.intro T' O')
      clear T' O'
      go_wp2
      go_ret
      exact ⟨by rw [HH.out]; rfl, HF.out⟩
    · rw [hM] at hlook
      have HH := Lib.hid h
      clear raw ok map apart mem hM h
      go_enter Try.func19, Try.ntmps19
      go_wp2
      go_ret
      refine ⟨by rw [HH.out]; rfl, ?_, Only.refl _ _⟩
      rw [wo_not HH.out]; exact HT.out
end Go.Proofs.Ytbgklnepmljiaaa
