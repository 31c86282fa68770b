/- The walk over what both tell. -/
import Derived.Test.YtbgklnepmljiaaaS
namespace Go.Proofs.Ytbgklnepmljiaaa
open Go.RowKit YtbgklnepmljiaaaMem Go.ChangeMaps

theorem Alike0.trans {a b c : World} (h : Alike0 a b) (k : Alike0 b c) : Alike0 a c := by obtain ⟨n, rfl⟩ := h; obtain ⟨m, rfl⟩ := k; exact ⟨m, rfl⟩
theorem Both.alike {w w' : World} {bt : Nat} {S : Nat → Prop} {v : Value} {m : List (Int × Int)} (h : Both w bt S v m) (a : Alike0 w w') : Both w' bt S v m := h.only (a.only (fun _ => False)) (fun _ _ h => h) (fun _ _ h => h)

set_option maxHeartbeats 1000000 in
theorem tells_calls {bt : Nat} {S : Nat → Prop} {v : Value} {m : List (Int × Int)} {w : World} (B : Both w bt S v m) (hl : m.length < 200000) (id : Int) :
    Calls Try.prog 15 #[.pointer (some ⟨bt, 0, none⟩), v, .int .i64 id] w fun e w' => e = .returned (.bool true) ∧ Alike0 w w' := by
  have HB := Lib.hid B
  obtain ⟨a, c, rfl, hmc, hcells⟩ := B.lst.form
  have HC := Lib.hid hcells
  clear B hcells
  go_enter Try.func15, Try.ntmps15
  go_wp2_with fail
  refine (rfirst_calls HB.out.lst (by omega)).mono ?_
  rintro e w1 ⟨k, rfl, hk, A1⟩
  have B1 := HB.out.alike A1
  have HB1 := Lib.hid B1
  have HA1 := Lib.hid A1
  have HK := Lib.hid hk
  clear B1 A1 hk
  go_wp2_with fail
  refine (rfind_calls HB1.out.lst (by omega) id).mono ?_
  rintro e w2 ⟨rfl, rfl⟩
  go_wp2_with fail
  have hf := first_calls HB1.out.inv
  have ht := fun (W : World) (h : Both W bt S (.slice a m.length c) m) => at_calls h.inv id
  have hn := fun (W : World) (h : Both W bt S (.slice a m.length c) m) => len_calls h.inv
  have HT := Lib.hid ht
  have HN := Lib.hid hn
  clear ht hn
  rcases HK.out with ⟨rfl, rfl⟩ | ⟨j, p, rfl, hp, hm⟩
  · rw [firstV_nil] at hf
    refine hf.mono ?_
    rintro e w3 ⟨rfl, A3⟩
    have B3 := HB1.out.alike A3
    have HB3 := Lib.hid B3
    have HA3 := Lib.hid A3
    clear B3 A3 hf
    have e1 : fi [] id = -1 := rfl
    have e2 : atOf [] id = 0 := rfl
    have e3 : has [] id = false := rfl
    go_wp2_with fail
    refine (HT.out _ HB3.out).mono ?_
    rintro e w4 ⟨rfl, rfl⟩
    go_wp2_with fail
    refine (HN.out _ HB3.out).mono ?_
    rintro e w5 ⟨rfl, rfl⟩
    go_wp2_with fail
    go_ret
    exact ⟨rfl, HA1.out.trans HA3.out⟩
  · rw [firstV_of hm] at hf
    have jn := (List.getElem?_eq_some_iff.1 hp).1
    obtain ⟨b, rfl, k0, k1⟩ := HC.out j p hp
    refine hf.mono ?_
    rintro e w3 ⟨rfl, A3⟩
    have B3 := HB1.out.alike A3
    have HB3 := Lib.hid B3
    have HA3 := Lib.hid (HA1.out.trans A3)
    have g0 := (HA3.out.cell _).trans k0
    have g1 := (HA3.out.cell _).trans k1
    clear B3 A3 hf k0 k1
    rcases fi_spec m id with ⟨e3, j2, q, hq, hqi, e1⟩ | ⟨e3, e1⟩
    · obtain ⟨b', hb', k0, k1⟩ := HC.out j2 q hq
      cases hb'
      have jn2 := (List.getElem?_eq_some_iff.1 hq).1
      have e2 : atOf m id = q.1 := by rw [← hqi]; exact (atOf_eq HB1.out.inv (List.mem_of_getElem? hq)).1
      have g2 := (HA3.out.cell _).trans k0
      have g3 := (HA3.out.cell _).trans k1
      clear k0 k1 hp hm hq hqi
      go_wp2_with fail
      refine (HT.out _ HB3.out).mono ?_
      rintro e w4 ⟨rfl, rfl⟩
      go_wp2_with fail
      refine (HN.out _ HB3.out).mono ?_
      rintro e w5 ⟨rfl, rfl⟩
      go_wp2_with fail
      go_ret
      exact ⟨rfl, HA3.out⟩
    · have e2 : atOf m id = 0 := atOf_not e3
      clear hp hm
      go_wp2_with fail
      refine (HT.out _ HB3.out).mono ?_
      rintro e w4 ⟨rfl, rfl⟩
      go_wp2_with fail
      refine (HN.out _ HB3.out).mono ?_
      rintro e w5 ⟨rfl, rfl⟩
      go_wp2_with fail
      go_ret
      exact ⟨rfl, HA3.out⟩
end Go.Proofs.Ytbgklnepmljiaaa
