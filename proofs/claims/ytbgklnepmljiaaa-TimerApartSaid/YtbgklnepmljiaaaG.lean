/- The walk over Set. -/
import Derived.Test.YtbgklnepmljiaaaF
import Derived.WalkSpells
namespace Go.Proofs.Ytbgklnepmljiaaa
open Go.RowKit YtbgklnepmljiaaaMem Go.ChangeMaps

def SetP (bt : Nat) (S : Nat → Prop) (m : List (Int × Int)) (id at_ : Int) (w : World) (e : Ending) (w' : World) : Prop := e = .returned (.tuple #[]) ∧ ∃ S', TInv w' bt S' (YtbgklnepmljiaaaMem.put m id at_) ∧ (∀ k, S' k → S k ∨ w.heap.size ≤ k) ∧ Only S w w'

theorem Try.info54 : (Try.prog.info? 54).map (fun i => (i.zero, i.size, i.bytes)) = some (some (.agg #[.int .i64 0, .int .i64 0]), 2, 16) := by kernel_rfl

theorem row_kept {w w' : World} {base : Nat} {e : TypeId} {size : Nat} {v : Value} {n : Nat} {xs : List Value} (h : w.ownsRow base e size v n xs) (hb : ∀ k, v.ownBlock = some k → w'.heap[k]? = w.heap[k]?) : w'.ownsRow base e size v n xs := by
  refine ⟨h.1, ?_⟩
  rcases h.2 with h | ⟨g, cap, cur, hv, a, b, c⟩
  · exact .inl h
  · exact .inr ⟨g, cap, cur, hv, a, by rw [hb g (by rw [hv]; rfl)]; exact b, c⟩

theorem news_at (w : World) (c : List Value) (e : TypeId) : ∀ (j : Nat) (u : Value), c[j]? = some u → (w.alloc (.cells c.toArray e)).cell? ((⟨w.heap.size, 0, none⟩ : Addr).add j) = some u := by
  intro j u h
  rw [Addr.add_lit, cell_of (YtbgklnepmljiaaaMem.heap_alloc_new w _)]
  simpa using h

theorem grown_TRaw {w2 w3 : World} {bt bm n : Nat} {v v' : Value} {g : Nat → Int × Int} {x : Int × Int} {M : Int → Option Int} (top : w2.heap[bt]? = some (.cells #[v, .map (some bm)] 28 (0, 0))) (hM : mapIs w2 bm M)
    (hvb : ∀ k, v.ownBlock = some k → k ≠ bt ∧ k ≠ bm) (hne : bt ≠ bm) (hR : w3.ownsRow 0 54 2 v' (n + 1) (flat (listOf g n) ++ [.int .i64 x.1, .int .i64 x.2])) (hG : w2.grownBy w3 v.ownBlock) (hW : v'.ownBlock = v.ownBlock ∨ v'.ownBlock = some w2.heap.size) :
    ∃ b cap, v' = .slice (some ⟨b, 0, none⟩) (n + 1) cap ∧ cap ≤ maxLen ∧ (v.ownBlock = some b ∨ b = w2.heap.size) ∧ w3.heap[bt]? = some (.cells #[v, .map (some bm)] 28 (0, 0)) ∧ TRaw (w3.setCell ⟨bt, 0, none⟩ v') bt b bm cap (n + 1) (upd g n x) M := by
  have e1 : flat (listOf g n) ++ [Value.int .i64 x.1, .int .i64 x.2] = flat (listOf (upd g n x) (n + 1)) := by rw [listOf_succ, flat_append]; rfl
  rw [e1] at hR
  obtain ⟨b, cap, rfl, ha, hc, -⟩ := row_arr hR
  have hb : v.ownBlock = some b ∨ b = w2.heap.size := by
    rcases hW with h | h
    · exact .inl (h ▸ rfl)
    · exact .inr (Option.some.inj h)
  have l1 := heap_lt top
  have l2 := hM.lt
  have k1 : b ≠ bt ∧ b ≠ bm := by
    rcases hb with h | h
    · exact hvb b h
    · omega
  have t3 : w3.heap[bt]? = some (.cells #[v, .map (some bm)] 28 (0, 0)) := by rw [hG.block bt l1 (fun e => (hvb bt e.symm).1 rfl)]; exact top
  have m3 : mapIs w3 bm M := hM.of_block (hG.block bm l2 (fun e => (hvb bm e.symm).2 rfl))
  refine ⟨b, cap, rfl, hc, hb, t3, ?_, ha.of_block (heap_setCell_ne _ _ _ k1.1), m3.of_block (heap_setCell_ne _ _ _ (Ne.symm hne)), Ne.symm k1.1, hne, k1.2⟩
  rw [YtbgklnepmljiaaaMem.heap_setCell_same t3]; rfl

theorem Risen.set {w w' : World} {bt bh bm cap n : Nat} {g : Nat → Int × Int} {x : Int × Int} {j : Nat} {h : Nat → Int × Int} {Mk : Int → Option Int} (R : Risen w w' bt bh bm cap (n + 1) (upd g n x) n j h Mk) {m : List (Int × Int)} (len : n = m.length) (mem : ∀ p, (∃ j, j < n ∧ g j = p) ↔ p ∈ m)
    (nd : ((m ++ [x]).map (·.2)).Nodup) (hcap : cap ≤ maxLen) {S' : Nat → Prop} (hS : S' bt) (h1 : S' bh) (h2 : S' bm) (hlt : ∀ k, S' k → k < w'.heap.size) : TInv w' bt S' (m ++ [x]) := by
  have ok : Ok h (n + 1) := by
    refine R.but.ok R.up ?_
    rcases R.low with rfl | hl
    · intro c c0 cn cp; unfold par at cp; omega
    · exact hl
  refine .full bh bm cap (n + 1) h Mk R.raw ok R.map R.apart (by simp [len]) (fun p => ?_) hcap nd hS h1 h2 hlt
  rw [← R.same p, List.mem_append, List.mem_singleton, ← mem p]
  constructor
  · rintro ⟨k, kn, e⟩
    unfold upd at e
    by_cases kk : k = n
    · rw [if_pos kk] at e; exact .inr e.symm
    · rw [if_neg kk] at e; exact .inl ⟨k, by omega, e⟩
  · rintro (⟨k, kn, e⟩ | e)
    · exact ⟨k, by omega, by unfold upd; rw [if_neg (by omega)]; exact e⟩
    · exact ⟨n, by omega, by unfold upd; rw [if_pos rfl]; exact e.symm⟩

theorem up_pre {g : Nat → Int × Int} {n : Nat} {M : Int → Option Int} {m : List (Int × Int)} {id at_ : Int} (ok : Ok g n) (map : Map M g n n) (apart : Apart g n) (mem : ∀ p, (∃ j, j < n ∧ g j = p) ↔ p ∈ wo m id) :
    But (upd g n (at_, id)) (n + 1) n ∧ Map M (upd g n (at_, id)) (n + 1) n ∧ Apart (upd g n (at_, id)) (n + 1) := by
  have hid : ∀ j, j < n → (g j).2 ≠ id := fun j jn => (mem_wo.1 ((mem _).1 ⟨j, jn, rfl⟩)).2
  refine ⟨ok.last _, ⟨fun j jn jne => ?_, fun k hk => ?_⟩, fun a b an bn e => ?_⟩
  · unfold upd; rw [if_neg jne]; exact map.at (by omega)
  · refine map.2 k fun j jn => ?_
    have := hk j (by omega)
    unfold upd at this
    rwa [if_neg (by omega)] at this
  · unfold upd at e
    by_cases ha : a = n
    · by_cases hb : b = n
      · omega
      · rw [if_pos ha, if_neg hb] at e; exact absurd e.symm (hid b (by omega))
    · rw [if_neg ha] at e
      by_cases hb : b = n
      · rw [if_pos hb] at e; exact absurd e (hid a (by omega))
      · rw [if_neg hb] at e; exact apart a b (by omega) (by omega) e

set_option maxHeartbeats 400000 in
theorem set_calls {bt : Nat} {S : Nat → Prop} {m : List (Int × Int)} {w : World} (T : TInv w bt S m) (hl : m.length < 1000000) (id at_ : Int) :
    Calls Try.prog 7 #[.pointer (some ⟨bt, 0, none⟩), .int .i64 id, .int .i64 at_] w (SetP bt S m id at_ w) := by
  obtain ⟨i0, hi, hz0, hz1, hz2⟩ := info_parts Try.info54
  have hnd := put_nodup (id := id) (at_ := at_) T.nodup
  have HND := Lib.hid hnd
  have HSz := Lib.hid T.hS.2
  clear hnd
  go_enter Try.func7, Try.ntmps7
  go_wp2_with fail
  refine (drop_calls T (by omega) id).mono ?_
  rintro e w1 ⟨rfl, T1, O1⟩
  have HO1 := Lib.hid O1
  have HT1 := Lib.hid T1
  clear T
  cases T1 with
  | bare v top row hb hm hS hlt =>
    have c0 := (cell_of top 0).trans (show _ = some v from rfl)
    have c1 := (cell_of top 1).trans (show _ = some (Value.map none) from rfl)
    have f0 := frozen_of top 0
    have f1 := frozen_of top 1
    have l1 := heap_lt top
    have hmm := @run_makeMap Try.prog
    have hq := Go.run_eql_map_nil w1 26 3 3 none Try.underlying26
    have hvb : ∀ k, v.ownBlock = some k → k ≠ bt ∧ k < w1.heap.size := by
      intro k hk
      rcases row.2 with ⟨rfl, _⟩ | ⟨g, cap, cur, rfl, _, hg, _⟩
      · cases hk
      · cases hk
        refine ⟨?_, heap_lt hg⟩
        rintro rfl
        rw [top] at hg
        cases hg
    -- the world ahead of the append
    have e2 : ∀ k, k ≠ bt → k < w1.heap.size → (((w1.setCell ⟨bt, 1, none⟩ (.map (some w1.heap.size))).alloc (.map #[] 0)).alloc (Obj.cells #[Value.int IntKind.i64 at_, Value.int IntKind.i64 id] 54)).heap[k]? = w1.heap[k]? := by
      intro k hk hlt
      rw [Below.heap_alloc _ _ _ (by simp [World.setCell]; omega), Below.heap_alloc _ _ _ (by simp [World.setCell]; omega), heap_setCell_ne _ _ _ hk]
    have sz : (w1.setCell ⟨bt, 1, none⟩ (.map (some w1.heap.size))).heap.size = w1.heap.size := by simp [World.setCell]
    have hR2 := row_kept (w' := ((w1.setCell ⟨bt, 1, none⟩ (.map (some w1.heap.size))).alloc (.map #[] 0)).alloc (Obj.cells #[Value.int IntKind.i64 at_, Value.int IntKind.i64 id] 54)) row (fun k hk => e2 k (hvb k hk).1 (hvb k hk).2)
    have top2 : (((w1.setCell ⟨bt, 1, none⟩ (.map (some w1.heap.size))).alloc (.map #[] 0)).alloc (Obj.cells #[Value.int IntKind.i64 at_, Value.int IntKind.i64 id] 54)).heap[bt]? = some (.cells #[v, .map (some w1.heap.size)] 28 (0, 0)) :=
      heap_alloc_lt (heap_alloc_lt (by rw [YtbgklnepmljiaaaMem.heap_setCell_same top]; rfl))
    have mp2 : mapIs (((w1.setCell ⟨bt, 1, none⟩ (.map (some w1.heap.size))).alloc (.map #[] 0)).alloc (Obj.cells #[Value.int IntKind.i64 at_, Value.int IntKind.i64 id] 54)) w1.heap.size (fun _ => none) := by
      have := mapIs_made (w1.setCell ⟨bt, 1, none⟩ (.map (some w1.heap.size)))
      rw [sz] at this
      exact this.of_block (Below.heap_alloc _ _ _ this.lt)
    have hmem : ∀ p, (∃ j, j < 0 ∧ (fun _ => ((0, 0) : Int × Int)) j = p) ↔ p ∈ wo m id := fun p => by rw [hm]; simp
    have hu := up_pre (at_ := at_) (M := fun _ => none) (g := fun _ => (0, 0)) (n := 0) (fun j _ h => absurd h (Nat.not_lt_zero j)) ⟨fun j h => absurd h (Nat.not_lt_zero j), fun _ _ => rfl⟩ (fun a _ h => absurd h (Nat.not_lt_zero a)) hmem
    have HU := Lib.hid hu
    have HP2 := Lib.hid (And.intro hR2 (And.intro top2 mp2))
    have HLM := Lib.hid (And.intro (show 0 = (wo m id).length by rw [hm]; rfl) hmem)
    have HVB := Lib.hid hvb
    have HB := Lib.hid hb
    have O2 : Only S w1 (((w1.setCell ⟨bt, 1, none⟩ (.map (some w1.heap.size))).alloc (.map #[] 0)).alloc (Obj.cells #[Value.int IntKind.i64 at_, Value.int IntKind.i64 id] 54)) := (((Only.refl _ _).setCell (.inl hS) _).alloc _).alloc _
    have HO2 := Lib.hid O2
    have HSZ := Lib.hid sz
    clear O1 top row hm hR2 top2 mp2 hu O2 hb hvb e2 hmem sz
    go_wp2_with (first | (at_builtin; refine wpList_append2 rfl rfl Try.underlying25 hi hz0 hz1 hz2 rfl (by decide) rfl HP2.out.1 rfl (news := [.int .i64 at_, .int .i64 id]) (m := 1) rfl ?a1 ?a2 (by decide) (by unfold maxLen; omega) (by omega) (Nat.zero_le _) ?a3))
    case a1 =>
      have := news_at ((w1.setCell ⟨bt, 1, none⟩ (.map (some w1.heap.size))).alloc (.map #[] 0)) [.int .i64 at_, .int .i64 id] 54
      rw [World.size_alloc, HSZ.out] at this
      exact this
    case a2 => exact flat_one [(at_, id)]
    case a3 =>
      intro v' w3 hR hG hW
      obtain ⟨b, cap', rfl, hc', hb', t3, T4⟩ := grown_TRaw (n := 0) (g := fun _ => (0, 0)) (x := (at_, id)) HP2.out.2.1 HP2.out.2.2 (fun k hk => ⟨(HVB.out k hk).1, by have := (HVB.out k hk).2; omega⟩) (by omega) hR hG (by simpa [HSZ.out] using hW)
      have d0 := (cell_of t3 0).trans (show _ = some v from rfl)
      have fz := frozen_of t3 0
      have sz1 := HO1.out.size
      have O3 : Only (fun k => S k ∨ w.heap.size ≤ k) w1 (w3.setCell ⟨bt, 0, none⟩ (.slice (some ⟨b, 0, none⟩) 1 cap')) :=
        ((HO2.out.mono fun k _ h => .inl h).trans ((Only.of_grown hG).mono fun k _ h => .inl (HB.out k h))).setCell (.inl (.inl hS)) _
      have HT4 := Lib.hid T4
      have HO3 := Lib.hid O3
      clear hR hG hW T4 t3 O3 c0 c1 f0
      go_wp2_with fail
      refine (up_calls HT4.out (Nat.lt_succ_self 0) (by omega) HU.out.1 HU.out.2.1 HU.out.2.2).mono ?_
      rintro e w5 ⟨rfl, j, h, Mk, R⟩
      have hfin : SetP bt S m id at_ w (.returned (.tuple #[])) w5 := by
        have sz3 := HO3.out.size
        have sz5 : (w3.setCell ⟨bt, 0, none⟩ (.slice (some ⟨b, 0, none⟩) 1 cap')).heap.size ≤ w5.heap.size := R.only.size
        have hbw : S b ∨ w.heap.size ≤ b := by
          rcases hb' with h | h
          · exact .inl (HB.out b h)
          · rw [h]; simp [HSZ.out]; omega
        refine ⟨rfl, fun k => S k ∨ k = b ∨ k = w1.heap.size, R.set HLM.out.1 HLM.out.2 HND.out hc' (.inl hS) (.inr (.inl rfl)) (.inr (.inr rfl)) ?_, ?_, ?_⟩
        · rintro k (hk | rfl | rfl)
          · have := hlt k hk; omega
          · exact Nat.lt_of_lt_of_le HT4.out.arr.lt sz5
          · exact Nat.lt_of_lt_of_le HT4.out.map.lt sz5
        · rintro k (hk | rfl | rfl)
          · exact .inl hk
          · exact hbw
          · exact .inr sz1
        · exact (HO1.out.close HO3.out).close (R.only.mono fun k _ hk => by
            rcases hk with rfl | rfl
            · exact hbw
            · exact .inr sz1)
      have HF := Lib.hid hfin
      clear R hfin
      go_wp2_with fail
      go_end0
      exact HF.out
  | full bh bm cap n g M raw ok map apart len mem hcap nd hS h1 h2 hlt =>
    obtain ⟨c0, c1, f0⟩ := raw.c0
    have hq := Go.run_eql_map_nil w1 26 3 3 (some bm) Try.underlying26
    have hnl : n < 1000000 := by have := wo_le m id; omega
    -- the world ahead of the append
    have hR2 := row_kept (w' := w1.alloc (Obj.cells #[Value.int IntKind.i64 at_, Value.int IntKind.i64 id] 54)) (raw.arr.row hcap) (fun k hk => Below.heap_alloc _ _ _ (by cases hk; exact raw.arr.lt))
    have top2 := heap_alloc_lt (o := Obj.cells #[Value.int IntKind.i64 at_, Value.int IntKind.i64 id] 54) raw.top
    have mp2 := raw.map.of_block (w' := w1.alloc (Obj.cells #[Value.int IntKind.i64 at_, Value.int IntKind.i64 id] 54)) (Below.heap_alloc _ _ _ raw.map.lt)
    have hu := up_pre (at_ := at_) ok map apart mem
    have HU := Lib.hid hu
    have HP2 := Lib.hid (And.intro hR2 (And.intro top2 mp2))
    have HRW := Lib.hid raw
    have HLM := Lib.hid (And.intro len mem)
    have O2 : Only S w1 (w1.alloc (Obj.cells #[Value.int IntKind.i64 at_, Value.int IntKind.i64 id] 54)) := (Only.refl _ _).alloc _
    have HO2 := Lib.hid O2
    clear O1 raw ok map apart len mem nd hR2 top2 mp2 hu O2
    go_wp2_with (first | (at_builtin; refine wpList_append2 rfl rfl Try.underlying25 hi hz0 hz1 hz2 rfl (by decide) rfl HP2.out.1 rfl (news := [.int .i64 at_, .int .i64 id]) (m := 1) rfl ?a1 ?a2 (by decide) (by unfold maxLen; omega) (by omega) (Nat.zero_le _) ?a3))
    case a1 => exact news_at w1 _ _
    case a2 => exact flat_one [(at_, id)]
    case a3 =>
      intro v' w3 hR hG hW
      obtain ⟨b, cap', rfl, hc', hb', t3, T4⟩ := grown_TRaw (x := (at_, id)) HP2.out.2.1 HP2.out.2.2 (fun k hk => by cases hk; exact ⟨Ne.symm HRW.out.th, HRW.out.hm⟩) HRW.out.tm hR hG (by simpa using hW)
      have d0 := (cell_of t3 0).trans (show _ = some (Value.slice (some ⟨bh, 0, none⟩) n cap) from rfl)
      have fz := frozen_of t3 0
      have O3 : Only (fun k => S k ∨ w.heap.size ≤ k) w1 (w3.setCell ⟨bt, 0, none⟩ (.slice (some ⟨b, 0, none⟩) (n + 1) cap')) :=
        ((HO2.out.mono fun k _ h => .inl h).trans ((Only.of_grown hG).mono fun k _ h => by cases h; exact .inl h1)).setCell (.inl (.inl hS)) _
      have HT4 := Lib.hid T4
      have HO3 := Lib.hid O3
      clear hR hG hW T4 t3 O3 c0 c1 f0
      go_wp2_with fail
      refine (up_calls HT4.out (Nat.lt_succ_self n) (by omega) HU.out.1 HU.out.2.1 HU.out.2.2).mono ?_
      rintro e w5 ⟨rfl, j, h, Mk, R⟩
      have hfin : SetP bt S m id at_ w (.returned (.tuple #[])) w5 := by
        have sz1 := HO1.out.size
        have sz3 := HO3.out.size
        have sz5 := R.only.size
        have hbw : S b ∨ w.heap.size ≤ b := by
          rcases hb' with h | h
          · cases h; exact .inl h1
          · rw [h]; simp; omega
        refine ⟨rfl, fun k => S k ∨ k = b, R.set HLM.out.1 HLM.out.2 HND.out hc' (.inl hS) (.inr rfl) (.inl h2) ?_, ?_, ?_⟩
        · rintro k (hk | rfl)
          · have := hlt k hk; omega
          · have := HT4.out.arr.lt; omega
        · rintro k (hk | rfl)
          · exact .inl hk
          · exact hbw
        · exact (HO1.out.close HO3.out).close (R.only.mono fun k _ hk => by
            rcases hk with rfl | rfl
            · exact hbw
            · exact .inl h2)
      have HF := Lib.hid hfin
      clear R hfin
      go_wp2_with fail
      go_end0
      exact HF.out
end Go.Proofs.Ytbgklnepmljiaaa
