/- The walks over Clone. -/
import Derived.Test.YtbgklnepmljiaaaX
import Derived.Laws.Externs
import Derived.Deep.AppendLies
namespace Go.Proofs.Ytbgklnepmljiaaa
open Go.RowKit YtbgklnepmljiaaaMem Go.ChangeMaps

theorem run_clone {P : Program} {w : World} {r : Nat} {es : Array MapEntry} {ck : Nat} (t : TypeId) (hb : w.heap[r]? = some (.map es ck)) :
    (Extern.MapsClone.clone #[.iface t (.map (some r))]).run P w = .ok (.iface t (.map (some w.heap.size))) (w.alloc (.map es ck)) := by
  have e : Extern.MapsClone.clone #[.iface t (.map (some r))] = (getObj r >>= fun o => match o with
      | .map entries clock => (newObj (.map entries clock) >>= fun n => pure (.iface t (.map (some n))))
      | _ => stuck "maps.clone: a map expected") := rfl
  rw [e]
  simp [MapKept.run_getObj_map hb, Result.andThen, go_sem]
theorem run_assert {P : Program} {w : World} (t xT k e : TypeId) (v : Value) (h : P.underlying t = some (.map k e)) : (Instr.typeAssert (.iface t v) xT t false).run P w = .ok v w := by
  simp [Instr.typeAssert, run_underlying h, go_sem, Result.andThen]

set_option maxHeartbeats 1000000 in
theorem mclone_calls {b : Nat} {M : Int → Option Int} {w : World} (h : mapIs w b M) :
    Calls Try.prog 25 #[.map (some b)] w fun e w' => e = .returned (.map (some w.heap.size)) ∧ mapIs w' w.heap.size M ∧ Below w.heap.size w w' := by
  obtain ⟨l, ck, hb, hn, hM⟩ := h
  have hq := Go.run_eql_map_nil w 26 3 3 (some b) Try.underlying26
  have HM := Lib.hid hM
  have HN := Lib.hid hn
  clear hM hn
  go_enter Try.func25, Try.ntmps25
  go_wp2
  rw [run_callFunc_extern Try.func29 (by kernel_rfl) (by kernel_rfl) (by kernel_rfl) (e := Extern.MapsClone.clone) (by kernel_rfl), run_clone 26 hb]
  simp only [Result.andThen]
  rw [Oper.upon_value]
  go_wp2
  rw [run_assert 26 20 3 3 _ Try.underlying26]
  simp only [Result.andThen]
  rw [Oper.upon_value]
  go_wp2
  go_ret
  exact ⟨rfl, ⟨l, ck, YtbgklnepmljiaaaMem.heap_alloc_new _ _, HN.out, HM.out⟩, (Below.refl _ _).alloc (Nat.le_refl _) _⟩
theorem mclone_nil (w : World) : Calls Try.prog 25 #[.map none] w fun e w' => e = .returned (.map none) ∧ w = w' := by
  have hq := Go.run_eql_map_nil w 26 3 3 none Try.underlying26
  go_enter Try.func25, Try.ntmps25
  go_wp2
  go_ret
  exact ⟨rfl, rfl⟩

def CloneP (m : List (Int × Int)) (w : World) (e : Ending) (w' : World) : Prop :=
  ∃ bt' S', e = .returned (.pointer (some ⟨bt', 0, none⟩)) ∧ TInv w' bt' S' m ∧ (∀ k, S' k → w.heap.size ≤ k) ∧ Below w.heap.size w w'

theorem step_append0 {P : Program} {w : World} {ops : Array Oper} {o : Oper} {a : Act} {K : Act → World → Prop} {Q : Exit → Act → World → Prop} {E : Prop} (hgd : o.guard = none) {s x : Operand} {t : TypeId}
    (ho : o.op = .call { callee := .builtin .append, args := #[s, x], argTypes := #[t, t] })
    {base : Nat} {e : TypeId} {i : TypeInfo} {size : Nat} (ht : P.underlying t = some (.slice e)) (hi : P.info? e = some i) (hsize : i.size = size)
    {v : Value} {n : Nat} {xs : List Value} (hs : a.eval s = v) (hown : w.ownsRow base e size v n xs) {ad : Option Addr} {c : Nat} (hx : a.eval x = .slice ad 0 c)
    (h : K (a.put o.dst v) w) : if Region.wanted o (yielded ops a.tmps) = true then Oper.wp P o a w K Q else E := by
  have hw : Region.wanted o (yielded ops a.tmps) = true := by simp [Region.wanted, hgd]
  rw [if_pos hw]
  have hr : (Builtin.append_ #[t, t] o.type #[v, .slice ad 0 c]).run P w = .ok v w := by
    have hfc : (Builtin.firstCells size 0 (.slice ad 0 c)).run P w = .ok #[] w := by
      cases ad <;> simp [Builtin.firstCells, loadCells, loadCellsFrom]
    subst hsize
    rcases hown.2 with ⟨rfl, rfl⟩ | ⟨g, cap, cur, rfl, hbg, hg, hnc, hcm, hcs, htake⟩
    · simp [Builtin.append_, run_underlying ht, sizeOf, typeInfo, hi, Builtin.lenOf, hfc]
    · simp [Builtin.append_, run_underlying ht, sizeOf, typeInfo, hi, Builtin.lenOf, hfc, hnc, storeCells]
  unfold Oper.wp execOp
  simp only [ho, resolve, invoke, builtin, Sem.run_bind, Sem.run_pure, Result.andThen_ok, List.map_toArray, List.map_cons, List.map_nil, hs, hx, hr]
  exact h

set_option maxHeartbeats 2000000 in
theorem clone_full {bt bh bm cap n : Nat} {g : Nat → Int × Int} {M : Int → Option Int} {m : List (Int × Int)} {w : World} (raw : TRaw w bt bh bm cap n g M) (hcap : cap ≤ maxLen) (hn : 0 < n) (hl : n ≤ 1000000)
    (ok : Ok g n) (map : Map M g n n) (apart : Apart g n) (len : n = m.length) (mem : ∀ p, (∃ j, j < n ∧ g j = p) ↔ p ∈ m) (nd : (m.map (·.2)).Nodup) :
    Calls Try.prog 16 #[.pointer (some ⟨bt, 0, none⟩)] w (CloneP m w) := by
  obtain ⟨i0, hi, hz0, hz1, hz2⟩ := info_parts Try.info54
  obtain ⟨c0, c1, -⟩ := raw.c0
  have hbt := heap_lt raw.top
  have r0 : (w.alloc (Obj.cells #[] 54)).drew.ownsRow w.heap.size 54 2 (.slice (some ⟨w.heap.size, 0, none⟩) 0 0) 0 [] := ⟨rfl, .inr ⟨w.heap.size, 0, #[], rfl, Nat.le_refl _, YtbgklnepmljiaaaMem.heap_alloc_new w _, Nat.le_refl _, by unfold maxLen; omega, rfl, rfl⟩⟩
  have R1 : TRaw (w.alloc (Obj.cells #[] 54)).drew bt bh bm cap n g M := (raw.alloc _).drew
  have hnews : ∀ (j : Nat) (u : Value), (flat (listOf g n))[j]? = some u → (w.alloc (Obj.cells #[] 54)).drew.cell? ((⟨bh, 0, none⟩ : Addr).add j) = some u := (R1.arr.row hcap).cells rfl
  have HR0 := Lib.hid r0
  have HNW := Lib.hid hnews
  have HR := Lib.hid raw
  have HR1 := Lib.hid R1
  have HK := Lib.hid (And.intro ok (And.intro map (And.intro apart (And.intro mem (And.intro nd len)))))
  clear raw ok map apart mem nd len r0 hnews R1
  go_enter Try.func16, Try.ntmps16
  go_wp2_with fail
  go_region_held3 (fun w' => w'.cell? ⟨bt, 0, none⟩ = some (.slice (some ⟨bh, 0, none⟩) n cap) ∧ w'.cell? ⟨bt, 1, none⟩ = some (.map (some bm))) (first | exact q1 | exact q2 | go_keep)
    (first
      | (refine step_append_lies _ (by rfl) _ _ _ (by rfl) w.heap.size 54 i0 _ 2 16 Try.underlying25 hi hz0 hz1 hz2 rfl (by omega) _ 0 [] (by rfl) HR0.out ⟨bh, 0, none⟩ n cap (flat (listOf g n)) (by rfl) (by rw [flat_length, listOf_length]) HNW.out (flat_one _) hn (by unfold maxLen; omega) (by omega) (by simp) (w.heap.size + 1) (by simp) ?_; intro gg cap1 w1 hown1 hgrow hat hlt; have hsame : ∀ k, k < w.heap.size → w1.heap[k]? = w.heap[k]? := (fun k hk => ((Only.of_grown hgrow).block k (by simp; omega) (fun e => by have e2 : w.heap.size = k := Option.some.inj e; omega)).trans (Below.heap_alloc _ _ _ hk)); have R2 := HR.out.of_blocks (hsame _ hbt) (hsame _ HR.out.arr.lt) (hsame _ HR.out.map.lt); have q1 := And.intro R2.c0.1 R2.c0.2.1; have HO1 := Lib.hid hown1; have HG1 := Lib.hid hgrow; have HR2 := Lib.hid R2; have HSM := Lib.hid hsame; have HAT := Lib.hid hat; clear hown1 hgrow hsame R2 hat)
      | (go_at_call 25; refine (mclone_calls HR2.out.map).mono ?_; rintro e w2 ⟨rfl, hm2, hb2⟩; have hs2 : ∀ k, k < w1.heap.size → w2.heap[k]? = w1.heap[k]? := (fun k hk => hb2.block k hk); have R3 := HR2.out.of_blocks (hs2 _ (heap_lt HR2.out.top)) (hs2 _ HR2.out.arr.lt) (hs2 _ HR2.out.map.lt); have q2 := And.intro R3.c0.1 R3.c0.2.1; have HM2 := Lib.hid hm2; have HB2 := Lib.hid hb2; have HS2 := Lib.hid hs2; clear hm2 hb2 hs2 R3))
  have hfin : CloneP m w (.returned (.pointer (some ⟨w2.heap.size, 0, none⟩))) (w2.alloc (Obj.cells #[Value.slice (some ⟨gg, 0, none⟩) n cap1, Value.map (some w1.heap.size)] 28)) := by
    obtain ⟨ok, map, apart, mem, nd, len⟩ := HK.out
    obtain ⟨k, rfl⟩ : ∃ k, n = k + 1 := ⟨n - 1, by omega⟩
    have ho := HO1.out
    rw [Nat.zero_add, List.nil_append] at ho
    obtain ⟨b5, c5, e5, ha, hc5, hb5⟩ := row_arr ho
    cases e5
    have hB1 : Below w.heap.size w w1 := ⟨HG1.out.os, HG1.out.tape, HG1.out.output, by have := HG1.out.size; simp at this; omega, HSM.out⟩
    have hw1 := hB1.size
    have hw2 := HB2.out.size
    have top := YtbgklnepmljiaaaMem.heap_alloc_new w2 (Obj.cells #[Value.slice (some ⟨gg, 0, none⟩) (k + 1) cap1, Value.map (some w1.heap.size)] 28)
    have l2 := HM2.out.lt
    refine ⟨w2.heap.size, fun q => q = w2.heap.size ∨ q = gg ∨ q = w1.heap.size, rfl, .full gg w1.heap.size cap1 (k + 1) g M ⟨top, (ha.of_block (HS2.out _ hlt)).of_block (Below.heap_alloc _ _ _ (by omega)), HM2.out.of_block (Below.heap_alloc _ _ _ l2), by omega, by omega, by omega⟩ ok map apart len mem hc5 nd (.inl rfl) (.inr (.inl rfl)) (.inr (.inr rfl)) ?_, ?_, ?_⟩
    · rintro q (rfl | rfl | rfl)
      · simp
      · simp; omega
      · simp; omega
    · rintro q (rfl | rfl | rfl) <;> omega
    · exact (hB1.trans (HB2.out.mono hw1)).alloc (by omega) _
  have HF := Lib.hid hfin
  clear hfin
  go_wp2_with fail
  go_ret
  exact HF.out

/-- Nothing is due: what is cloned is nothing. -/
theorem zero_rows (w : World) (x : Value) : (w.alloc (Obj.cells #[] 54)).drew.ownsRow 0 54 2 (.slice (some ⟨w.heap.size, 0, none⟩) 0 0) 0 [] :=
  ⟨rfl, .inr ⟨w.heap.size, 0, #[], rfl, Nat.zero_le _, YtbgklnepmljiaaaMem.heap_alloc_new w _, Nat.le_refl _, by unfold maxLen; omega, rfl, rfl⟩⟩

set_option maxHeartbeats 2000000 in
theorem clone_bare {bt c : Nat} {a : Option Addr} {w : World} (top : w.heap[bt]? = some (.cells #[.slice a 0 c, .map none] 28 (0, 0))) :
    Calls Try.prog 16 #[.pointer (some ⟨bt, 0, none⟩)] w (CloneP [] w) := by
  obtain ⟨i0, hi, hz0, hz1, hz2⟩ := info_parts Try.info54
  have c0 := (cell_of top 0).trans (show _ = some (Value.slice a 0 c) from rfl)
  have c1 := (cell_of top 1).trans (show _ = some (Value.map none) from rfl)
  have HR0 := Lib.hid (zero_rows w undef)
  have hlt := heap_lt top
  clear top
  go_enter Try.func16, Try.ntmps16
  go_wp2_with fail
  go_region_held3 (fun w' => w'.cell? ⟨bt, 0, none⟩ = some (.slice a 0 c) ∧ w'.cell? ⟨bt, 1, none⟩ = some (.map none)) (first | go_keep)
    (first
      | (refine step_append0 rfl rfl Try.underlying25 hi hz1 rfl HR0.out rfl ?_)
      | (go_at_call 25; refine (mclone_nil _).mono ?_; rintro e w2 ⟨rfl, rfl⟩))
  have hfin : CloneP [] w (.returned (.pointer (some ⟨w.heap.size + 1, 0, none⟩))) ((w.alloc (Obj.cells #[] 54)).drew.alloc (Obj.cells #[Value.slice (some ⟨w.heap.size, 0, none⟩) 0 0, Value.map none] 28)) := by
    have top := YtbgklnepmljiaaaMem.heap_alloc_new (w.alloc (Obj.cells #[] 54)).drew (Obj.cells #[Value.slice (some ⟨w.heap.size, 0, none⟩) 0 0, Value.map none] 28)
    have e : (w.alloc (Obj.cells #[] 54)).drew.heap.size = w.heap.size + 1 := by simp
    rw [e] at top
    refine ⟨w.heap.size + 1, fun q => q = w.heap.size + 1 ∨ q = w.heap.size, rfl, .bare _ top (row_kept HR0.out fun k hk => by cases hk; exact Below.heap_alloc _ _ _ (by simp)) (fun k hk => by cases hk; exact .inr rfl) rfl (.inl rfl) ?_, ?_, ?_⟩
    · rintro q (rfl | rfl)
      · simp
      · simp; omega
    · rintro q (rfl | rfl) <;> omega
    · exact ((Below.refl _ _).alloc (Nat.le_refl _) _).drew.alloc (by simp) _
  have HF := Lib.hid hfin
  clear hfin
  go_wp2_with fail
  go_ret
  exact HF.out

set_option maxHeartbeats 2000000 in
theorem clone_zero {bt bh bm cap : Nat} {g : Nat → Int × Int} {M : Int → Option Int} {m : List (Int × Int)} {w : World} (raw : TRaw w bt bh bm cap 0 g M)
    (ok : Ok g 0) (map : Map M g 0 0) (apart : Apart g 0) (len : 0 = m.length) (mem : ∀ p, (∃ j, j < 0 ∧ g j = p) ↔ p ∈ m) (nd : (m.map (·.2)).Nodup) :
    Calls Try.prog 16 #[.pointer (some ⟨bt, 0, none⟩)] w (CloneP m w) := by
  obtain ⟨i0, hi, hz0, hz1, hz2⟩ := info_parts Try.info54
  obtain ⟨c0, c1, -⟩ := raw.c0
  have HR0 := Lib.hid (zero_rows w undef)
  have R1 : TRaw (w.alloc (Obj.cells #[] 54)).drew bt bh bm cap 0 g M := (raw.alloc _).drew
  have hbt := heap_lt raw.top
  have HR1 := Lib.hid R1
  have HK := Lib.hid (And.intro ok (And.intro map (And.intro apart (And.intro mem (And.intro nd len)))))
  clear raw ok map apart mem nd len R1
  go_enter Try.func16, Try.ntmps16
  go_wp2_with fail
  go_region_held3 (fun w' => w'.cell? ⟨bt, 0, none⟩ = some (.slice (some ⟨bh, 0, none⟩) 0 cap) ∧ w'.cell? ⟨bt, 1, none⟩ = some (.map (some bm))) (first | exact q2 | go_keep)
    (first
      | (refine step_append0 rfl rfl Try.underlying25 hi hz1 rfl HR0.out rfl ?_)
      | (go_at_call 25; refine (mclone_calls HR1.out.map).mono ?_; rintro e w2 ⟨rfl, hm2, hb2⟩; have R3 := HR1.out.of_blocks (hb2.block _ (heap_lt HR1.out.top)) (hb2.block _ HR1.out.arr.lt) (hb2.block _ HR1.out.map.lt); have q2 := And.intro R3.c0.1 R3.c0.2.1; have HM2 := Lib.hid hm2; have HB2 := Lib.hid hb2; clear hm2 hb2 R3))
  have hfin : CloneP m w (.returned (.pointer (some ⟨w2.heap.size, 0, none⟩))) (w2.alloc (Obj.cells #[Value.slice (some ⟨w.heap.size, 0, none⟩) 0 0, Value.map (some (w.heap.size + 1))] 28)) := by
    obtain ⟨ok, map, apart, mem, nd, len⟩ := HK.out
    have e0 : (w.alloc (Obj.cells #[] 54)).drew.heap.size = w.heap.size + 1 := by simp
    have hm2 := HM2.out
    rw [e0] at hm2
    have hw2 := HB2.out.size
    rw [e0] at hw2
    have top := YtbgklnepmljiaaaMem.heap_alloc_new w2 (Obj.cells #[Value.slice (some ⟨w.heap.size, 0, none⟩) 0 0, Value.map (some (w.heap.size + 1))] 28)
    have l2 := hm2.lt
    have ha : arrIs w2 w.heap.size 0 0 54 g := ⟨#[], by rw [HB2.out.block _ (by rw [e0]; omega)]; exact YtbgklnepmljiaaaMem.heap_alloc_new w _, rfl, Nat.le_refl _, fun j h => absurd h (Nat.not_lt_zero j)⟩
    refine ⟨w2.heap.size, fun q => q = w2.heap.size ∨ q = w.heap.size ∨ q = w.heap.size + 1, rfl, .full w.heap.size (w.heap.size + 1) 0 0 g M ⟨top, ha.of_block (Below.heap_alloc _ _ _ (by omega)), hm2.of_block (Below.heap_alloc _ _ _ l2), by omega, by omega, by omega⟩ ok map apart len mem (by unfold maxLen; omega) nd (.inl rfl) (.inr (.inl rfl)) (.inr (.inr rfl)) ?_, ?_, ?_⟩
    · rintro q (rfl | rfl | rfl)
      · simp
      · simp; omega
      · simp; omega
    · rintro q (rfl | rfl | rfl) <;> omega
    · have hB1 : Below w.heap.size w (w.alloc (Obj.cells #[] 54)).drew := ((Below.refl _ _).alloc (Nat.le_refl _) _).drew
      exact (hB1.trans (HB2.out.mono (by rw [e0]; omega))).alloc (by omega) _
  have HF := Lib.hid hfin
  clear hfin
  go_wp2_with fail
  go_ret
  exact HF.out

theorem clone_calls {bt : Nat} {S : Nat → Prop} {m : List (Int × Int)} {w : World} (T : TInv w bt S m) (hl : m.length ≤ 1000000) : Calls Try.prog 16 #[.pointer (some ⟨bt, 0, none⟩)] w (CloneP m w) := by
  cases T with
  | bare v top row hb hm hS hlt =>
    subst hm
    rcases row.2 with ⟨rfl, _⟩ | ⟨g, cap, cur, rfl, _⟩
    · exact clone_bare top
    · exact clone_bare top
  | full bh bm cap n g M raw ok map apart len mem hcap nd hS h1 h2 hlt =>
    rcases Nat.eq_zero_or_pos n with h0 | h0
    · subst h0; exact clone_zero raw ok map apart len mem nd
    · exact clone_full raw hcap h0 (by omega) ok map apart len mem nd
end Go.Proofs.Ytbgklnepmljiaaa
