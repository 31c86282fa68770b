/- The walks over what timers tell, and one that is dropped. -/
import Derived.Test.YtbgklnepmljiaaaD
import Derived.Test.YtbgklnepmljiaaaI
namespace Go.Proofs.Ytbgklnepmljiaaa
open Go.RowKit YtbgklnepmljiaaaMem Go.ChangeMaps

theorem len_calls {bt : Nat} {S : Nat → Prop} {m : List (Int × Int)} {w : World} (T : TInv w bt S m) :
    Calls Try.prog 12 #[.pointer (some ⟨bt, 0, none⟩)] w fun e w' => e = .returned (.int .i64 (m.length : Nat)) ∧ w = w' := by
  cases T with
  | bare v top row hb hm hS hlt =>
    subst hm
    have c0 := (cell_of top 0).trans (show _ = some v from rfl)
    rcases row.2 with ⟨rfl, _⟩ | ⟨g, cap, cur, rfl, _⟩
    all_goals
      go_enter Try.func12, Try.ntmps12
      go_wp2
      go_ret
      exact ⟨rfl, rfl⟩
  | full bh bm cap n g M raw ok map apart len mem hcap nd hS h1 h2 hlt =>
    obtain ⟨c0, c1, -⟩ := raw.c0
    subst len
    clear raw ok map apart mem
    go_enter Try.func12, Try.ntmps12
    go_wp2
    go_ret
    exact ⟨rfl, rfl⟩

/-- When an id is due. -/
def atOf (m : List (Int × Int)) (id : Int) : Int := ((m.find? fun p => decide (p.2 = id)).map (·.1)).getD 0
theorem atOf_eq {w : World} {bt : Nat} {S : Nat → Prop} {m : List (Int × Int)} (T : TInv w bt S m) {p : Int × Int} (hp : p ∈ m) : atOf m p.2 = p.1 ∧ has m p.2 = true := by
  refine ⟨?_, has_iff.2 ⟨p, hp, rfl⟩⟩
  unfold atOf
  cases h : m.find? fun q => decide (q.2 = p.2) with
  | none =>
    rw [List.find?_eq_none] at h
    exact absurd (h p hp) (by simp)
  | some q =>
    have h1 := List.mem_of_find?_eq_some h
    have h2 := List.find?_some h
    simp only [decide_eq_true_eq] at h2
    rw [T.apart h1 hp h2]; rfl
theorem atOf_not {m : List (Int × Int)} {id : Int} (h : has m id = false) : atOf m id = 0 := by
  unfold atOf
  cases hf : m.find? fun q => decide (q.2 = id) with
  | none => rfl
  | some q =>
    have h1 := List.mem_of_find?_eq_some hf
    have h2 := List.find?_some hf
    simp only [decide_eq_true_eq] at h2
    rw [has_iff.2 ⟨q, h1, h2⟩] at h; cases h

/-- An id that is there stands somewhere; one that is not does not. -/
theorem place_of {g : Nat → Int × Int} {M : Int → Option Int} {n : Nat} {m : List (Int × Int)} (map : Map M g n n) (mem : ∀ p, (∃ j, j < n ∧ g j = p) ↔ p ∈ m) (id : Int) :
    (has m id = true ∧ ∃ j, j < n ∧ (g j).2 = id ∧ M id = some (j : Int)) ∨ (has m id = false ∧ M id = none) := by
  cases h : has m id with
  | true =>
    obtain ⟨p, hp, e⟩ := has_iff.1 h
    obtain ⟨j, jn, rfl⟩ := (mem p).2 hp
    exact .inl ⟨rfl, j, jn, e, by rw [← e]; exact map.at jn⟩
  | false =>
    refine .inr ⟨rfl, map.2 id fun j jn e => ?_⟩
    have : has m id = true := has_iff.2 ⟨g j, (mem _).1 ⟨j, jn, rfl⟩, e⟩
    rw [this] at h; cases h

set_option maxHeartbeats 400000 in
theorem at_calls {bt : Nat} {S : Nat → Prop} {m : List (Int × Int)} {w : World} (T : TInv w bt S m) (id : Int) :
    Calls Try.prog 18 #[.pointer (some ⟨bt, 0, none⟩), .int .i64 id] w fun e w' => e = .returned (.tuple #[.int .i64 (atOf m id), .bool (has m id)]) ∧ w = w' := by
  have hA := fun p hp => atOf_eq T (p := p) hp
  cases T with
  | bare v top row hb hm hS hlt =>
    subst hm
    have c1 := (cell_of top 1).trans (show _ = some (Value.map none) from rfl)
    have hrun := run_look_nil (w := w) Try.underlying26 Try.underlying3 (show (zeroValue 3).run Try.prog w = .ok (.int .i64 0) w by kernel_rfl) id
    go_enter Try.func18, Try.ntmps18
    go_wp2
    go_ret2
    exact ⟨rfl, rfl⟩
  | full bh bm cap n g M raw ok map apart len mem hcap nd hS h1 h2 hlt =>
    obtain ⟨c0, c1, -⟩ := raw.c0
    have hlook := raw.map.look_ok Try.underlying26 Try.underlying3 (show (zeroValue 3).run Try.prog w = .ok (.int .i64 0) w by kernel_rfl) id
    rcases place_of map mem id with ⟨h, j, jn, e, hM⟩ | ⟨h, hM⟩
    · rw [hM] at hlook
      obtain ⟨g0, g1, -, -⟩ := raw.arr.at jn
      obtain ⟨a1, -⟩ := hA (g j) ((mem _).1 ⟨j, jn, rfl⟩)
      rw [e] at a1
      rw [a1, h]
      clear raw ok map apart mem hA
      go_enter Try.func18, Try.ntmps18
      go_wp2
      go_ret2
      exact ⟨rfl, rfl⟩
    · rw [hM] at hlook
      rw [atOf_not h, h]
      clear raw ok map apart mem hA
      go_enter Try.func18, Try.ntmps18
      go_wp2
      go_ret2
      exact ⟨rfl, rfl⟩
end Go.Proofs.Ytbgklnepmljiaaa
