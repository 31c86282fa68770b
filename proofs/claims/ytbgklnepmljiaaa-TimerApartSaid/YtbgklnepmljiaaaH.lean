/- The plain law of a binary heap of pairs: rising, sinking. -/
namespace Go.Proofs.YtbgklnepmljiaaaMem

/-- One ahead of another. -/
def ltB (x y : Int × Int) : Bool := decide (x.1 < y.1 ∨ x.1 = y.1 ∧ x.2 < y.2)
theorem ltB_iff (x y : Int × Int) : ltB x y = true ↔ x.1 < y.1 ∨ x.1 = y.1 ∧ x.2 < y.2 := by simp [ltB]
theorem ltB_not (x y : Int × Int) : ltB x y = false ↔ ¬ (x.1 < y.1 ∨ x.1 = y.1 ∧ x.2 < y.2) := by rw [← ltB_iff]; simp
/-- Not behind. -/
def le (x y : Int × Int) : Prop := ltB y x = false
theorem le_iff (x y : Int × Int) : le x y ↔ x.1 < y.1 ∨ x.1 = y.1 ∧ x.2 ≤ y.2 := by unfold le; rw [ltB_not]; omega
theorem le_refl (x : Int × Int) : le x x := by rw [le_iff]; omega
theorem le_trans {x y z : Int × Int} (h : le x y) (k : le y z) : le x z := by rw [le_iff] at *; omega
theorem le_of_lt {x y : Int × Int} (h : ltB x y = true) : le x y := by rw [le_iff]; rw [ltB_iff] at h; omega
theorem le_antisymm {x y : Int × Int} (h : le x y) (k : le y x) : x = y := by
  rw [le_iff] at *; exact Prod.ext (by omega) (by omega)

def par (j : Nat) : Nat := (j - 1) / 2
def upd (g : Nat → Int × Int) (i : Nat) (x : Int × Int) : Nat → Int × Int := fun j => if j = i then x else g j
def swp (g : Nat → Int × Int) (i j : Nat) : Nat → Int × Int := fun k => if k = i then g j else if k = j then g i else g k

/-- A heap but for what stands at i. -/
def But (g : Nat → Int × Int) (n i : Nat) : Prop :=
  (∀ j, 0 < j → j < n → j ≠ i → par j ≠ i → le (g (par j)) (g j)) ∧ (0 < i → ∀ j, 0 < j → j < n → par j = i → le (g (par i)) (g j))
def Up (g : Nat → Int × Int) (i : Nat) : Prop := 0 < i → le (g (par i)) (g i)
def Ok (g : Nat → Int × Int) (n : Nat) : Prop := ∀ j, 0 < j → j < n → le (g (par j)) (g j)

theorem But.rise {g : Nat → Int × Int} {n i : Nat} (h : But g n i) (hi : 0 < i) (hn : i < n) (hl : ltB (g i) (g (par i)) = true) : But (swp g i (par i)) n (par i) := by
  obtain ⟨h1, h2⟩ := h
  have hp : par i < i := by unfold par; omega
  refine ⟨fun j j0 jn jp jq => ?_, fun p0 j j0 jn jq => ?_⟩
  · unfold swp
    rw [if_neg jp]
    by_cases ji : j = i
    · subst ji; exact absurd rfl jq
    · rw [if_neg ji]
      by_cases pj : par j = i
      · rw [if_pos pj]; exact h2 hi j j0 jn pj
      · rw [if_neg pj, if_neg jq]; exact h1 j j0 jn ji pj
  · have e1 : swp g i (par i) (par (par i)) = g (par (par i)) := by
      unfold swp; rw [if_neg (by unfold par; unfold par at p0; omega), if_neg (by unfold par; unfold par at p0; omega)]
    rw [e1]
    have hpp : le (g (par (par i))) (g (par i)) := h1 (par i) p0 (by omega) (by omega) (by unfold par; unfold par at p0; omega)
    by_cases ji : j = i
    · subst ji; unfold swp; rw [if_pos rfl]; exact hpp
    · have : swp g i (par i) j = g j := by
        unfold swp; rw [if_neg ji, if_neg (by intro e; rw [e] at jq; unfold par at jq p0; omega)]
      rw [this]
      refine le_trans hpp ?_
      have := h1 j j0 jn ji (by rw [jq]; omega)
      rwa [jq] at this

theorem But.rise_low {g : Nat → Int × Int} {n i : Nat} (h : But g n i) (hi : 0 < i) (hl : ltB (g i) (g (par i)) = true) : ∀ j, 0 < j → j < n → par j = par i → le (swp g i (par i) (par i)) (swp g i (par i) j) := by
  intro j j0 jn jq
  have hp : par i < i := by unfold par; omega
  have e : swp g i (par i) (par i) = g i := by unfold swp; rw [if_neg (by omega), if_pos rfl]
  rw [e]
  by_cases ji : j = i
  · subst ji; unfold swp; rw [if_pos rfl]; exact le_of_lt hl
  · have : swp g i (par i) j = g j := by
      unfold swp; rw [if_neg ji, if_neg (by intro e; rw [e] at jq j0; unfold par at jq hp j0; omega)]
    rw [this]
    refine le_trans (le_of_lt hl) ?_
    have := h.1 j j0 jn ji (by rw [jq]; omega)
    rwa [jq] at this

theorem But.sink {g : Nat → Int × Int} {n i k : Nat} (h : But g n i) (hk0 : 0 < k) (hk : k < n) (hp : par k = i) (hl : ltB (g k) (g i) = true) (hs : ∀ j, 0 < j → j < n → par j = i → le (g k) (g j)) :
    But (swp g i k) n k ∧ Up (swp g i k) k := by
  obtain ⟨h1, h2⟩ := h
  have hik : i < k := by unfold par at hp; omega
  have ei : swp g i k i = g k := by unfold swp; rw [if_pos rfl]
  have ek : swp g i k k = g i := by unfold swp; rw [if_neg (by omega), if_pos rfl]
  have eo : ∀ j, j ≠ i → j ≠ k → swp g i k j = g j := fun j a b => by unfold swp; rw [if_neg a, if_neg b]
  refine ⟨⟨fun j j0 jn jk pjk => ?_, fun _ j j0 jn pj => ?_⟩, fun _ => ?_⟩
  · by_cases ji : j = i
    · subst ji
      rw [ei, eo (par j) (by unfold par; omega) (by unfold par; unfold par at hp; omega)]
      exact h2 j0 k hk0 hk hp
    · rw [eo j ji jk]
      by_cases pj : par j = i
      · rw [pj, ei]; exact hs j j0 jn pj
      · rw [eo _ pj pjk]; exact h1 j j0 jn ji pj
  · rw [hp, ei, eo j (by unfold par at pj hp; omega) (by unfold par at pj; omega)]
    have := h1 j j0 jn (by unfold par at pj hp; omega) (by omega)
    rwa [pj] at this
  · rw [hp, ei, ek]; exact le_of_lt hl

theorem But.ok {g : Nat → Int × Int} {n i : Nat} (h : But g n i) (hu : Up g i) (hs : ∀ j, 0 < j → j < n → par j = i → le (g i) (g j)) : Ok g n := by
  intro j j0 jn
  by_cases ji : j = i
  · subst ji; exact hu j0
  · by_cases pj : par j = i
    · rw [pj]; exact hs j j0 jn pj
    · exact h.1 j j0 jn ji pj

theorem Ok.but {g : Nat → Int × Int} {n : Nat} (h : Ok g n) {i : Nat} (hi : i < n) (x : Int × Int) : But (upd g i x) n i := by
  refine ⟨fun j j0 jn ji pj => ?_, fun i0 j j0 jn pj => ?_⟩
  · unfold upd; rw [if_neg ji, if_neg pj]; exact h j j0 jn
  · unfold upd
    rw [if_neg (by unfold par; omega), if_neg (by unfold par at pj; omega)]
    have a := h j j0 jn
    rw [pj] at a
    exact le_trans (h i i0 hi) a

/-- What has nothing below it. -/
theorem Ok.last {g : Nat → Int × Int} {n : Nat} (h : Ok g n) (x : Int × Int) : But (upd g n x) (n + 1) n := by
  refine ⟨fun j j0 jn ji pj => ?_, fun i0 j j0 jn pj => ?_⟩
  · unfold upd; rw [if_neg ji, if_neg pj]; exact h j j0 (by omega)
  · unfold par at pj; omega

theorem Ok.first {g : Nat → Int × Int} {n : Nat} (h : Ok g n) : ∀ j, j < n → le (g 0) (g j) := by
  intro j
  induction j using Nat.strongRecOn with
  | ind j ih =>
    intro jn
    by_cases j0 : j = 0
    · subst j0; exact le_refl _
    · exact le_trans (ih (par j) (by unfold par; omega) (by unfold par; omega)) (h j (by omega) jn)
theorem Ok.less {g : Nat → Int × Int} {n m : Nat} (h : Ok g n) (hm : m ≤ n) : Ok g m := fun j j0 jm => h j j0 (by omega)
theorem Ok.congr {g h : Nat → Int × Int} {n : Nat} (k : Ok g n) (e : ∀ j, j < n → h j = g j) : Ok h n := fun j j0 jn => by
  rw [e j jn, e (par j) (by unfold par; omega)]; exact k j j0 jn

/-! ### who is there, and where -/
def Same (g h : Nat → Int × Int) (n : Nat) : Prop := ∀ p, (∃ j, j < n ∧ g j = p) ↔ (∃ j, j < n ∧ h j = p)
def Apart (g : Nat → Int × Int) (n : Nat) : Prop := ∀ j k, j < n → k < n → (g j).2 = (g k).2 → j = k
/-- The map tells where each stands, but for the one at i (n: of each). -/
def Map (M : Int → Option Int) (g : Nat → Int × Int) (n i : Nat) : Prop := (∀ j, j < n → j ≠ i → M (g j).2 = some (j : Int)) ∧ ∀ k, (∀ j, j < n → (g j).2 ≠ k) → M k = none

theorem Same.refl (g : Nat → Int × Int) (n : Nat) : Same g g n := fun _ => Iff.rfl
theorem Same.trans {f g h : Nat → Int × Int} {n : Nat} (a : Same f g n) (b : Same g h n) : Same f h n := fun p => (a p).trans (b p)
theorem Same.symm {g h : Nat → Int × Int} {n : Nat} (a : Same g h n) : Same h g n := fun p => (a p).symm
theorem swp_same {g : Nat → Int × Int} {n i k : Nat} (hi : i < n) (hk : k < n) : Same g (swp g i k) n := by
  have inv : ∀ (f : Nat → Int × Int) p, (∃ j, j < n ∧ f j = p) → ∃ j, j < n ∧ swp f i k j = p := by
    rintro f p ⟨j, jn, rfl⟩
    by_cases ji : j = i
    · subst ji
      refine ⟨k, hk, ?_⟩
      unfold swp
      by_cases e : k = j
      · rw [if_pos e, e]
      · rw [if_neg e, if_pos rfl]
    · by_cases jk : j = k
      · subst jk; exact ⟨i, hi, by unfold swp; rw [if_pos rfl]⟩
      · exact ⟨j, jn, by unfold swp; rw [if_neg ji, if_neg jk]⟩
  intro p
  refine ⟨inv g p, fun h => ?_⟩
  have h2 := inv _ p h
  have e : swp (swp g i k) i k = g := by
    funext j; unfold swp
    by_cases ji : j = i
    · subst ji; rw [if_pos rfl]
      by_cases kj : k = j
      · rw [if_pos kj, kj]
      · rw [if_neg kj, if_pos rfl]
    · rw [if_neg ji]
      by_cases jk : j = k
      · subst jk; rw [if_pos rfl, if_pos rfl]
      · rw [if_neg jk, if_neg ji, if_neg jk]
  rwa [e] at h2
theorem Apart.swp {g : Nat → Int × Int} {n i k : Nat} (h : Apart g n) (hi : i < n) (hk : k < n) : Apart (swp g i k) n := by
  intro a b an bn e
  unfold YtbgklnepmljiaaaMem.swp at e
  by_cases ai : a = i
  · rw [if_pos ai] at e
    by_cases bi : b = i
    · omega
    · rw [if_neg bi] at e
      by_cases bk : b = k
      · rw [if_pos bk] at e; have := h _ _ hk hi e; omega
      · rw [if_neg bk] at e; have := h _ _ hk bn e; omega
  · rw [if_neg ai] at e
    by_cases ak : a = k
    · rw [if_pos ak] at e
      by_cases bi : b = i
      · rw [if_pos bi] at e; have := h _ _ hi hk e; omega
      · rw [if_neg bi] at e
        by_cases bk : b = k
        · omega
        · rw [if_neg bk] at e; have := h _ _ hi bn e; omega
    · rw [if_neg ak] at e
      by_cases bi : b = i
      · rw [if_pos bi] at e; have := h _ _ an hk e; omega
      · rw [if_neg bi] at e
        by_cases bk : b = k
        · rw [if_pos bk] at e; have := h _ _ an hi e; omega
        · rw [if_neg bk] at e; exact h _ _ an bn e
/-- The one at k goes to i, the one at i is carried to k. -/
theorem Map.move {M : Int → Option Int} {g : Nat → Int × Int} {n i k : Nat} (h : Map M g n i) (ha : Apart g n) (hi : i < n) (hk : k < n) (hik : i ≠ k) :
    Map (fun j => if (g k).2 = j then some (i : Int) else M j) (swp g i k) n k := by
  refine ⟨fun j jn jk => ?_, fun q hq => ?_⟩
  · show (if (g k).2 = (swp g i k j).2 then some (i : Int) else M (swp g i k j).2) = _
    by_cases ji : j = i
    · subst ji; unfold swp; rw [if_pos rfl, if_pos rfl]
    · have e : swp g i k j = g j := by unfold swp; rw [if_neg ji, if_neg jk]
      rw [e, if_neg (fun e => jk (ha _ _ hk jn e).symm)]
      exact h.1 j jn ji
  · show (if (g k).2 = q then some (i : Int) else M q) = none
    have e1 : (g k).2 ≠ q := by have := hq i hi; unfold swp at this; rwa [if_pos rfl] at this
    rw [if_neg e1]
    refine h.2 q fun j jn => ?_
    obtain ⟨j', jn', e⟩ := (swp_same (g := g) hi hk (g j)).1 ⟨j, jn, rfl⟩
    rw [← e]; exact hq j' jn'
/-- The carried one is put down. -/
theorem Map.put {M : Int → Option Int} {g : Nat → Int × Int} {n i : Nat} (h : Map M g n i) (ha : Apart g n) (hi : i < n) : Map (fun j => if (g i).2 = j then some (i : Int) else M j) g n n := by
  refine ⟨fun j jn _ => ?_, fun q hq => ?_⟩
  · show (if (g i).2 = (g j).2 then some (i : Int) else M (g j).2) = _
    by_cases ji : j = i
    · subst ji; rw [if_pos rfl]
    · rw [if_neg (fun e => ji (ha _ _ hi jn e).symm)]; exact h.1 j jn ji
  · show (if (g i).2 = q then some (i : Int) else M q) = none
    rw [if_neg (hq i hi)]; exact h.2 q hq
theorem Map.open {M : Int → Option Int} {g : Nat → Int × Int} {n i : Nat} (h : Map M g n n) : Map M g n i := ⟨fun j jn _ => h.1 j jn (by omega), h.2⟩
theorem Map.at {M : Int → Option Int} {g : Nat → Int × Int} {n j : Nat} (h : Map M g n n) (hj : j < n) : M (g j).2 = some (j : Int) := h.1 j hj (by omega)
theorem Map.some {M : Int → Option Int} {g : Nat → Int × Int} {n : Nat} {k i : Int} (h : Map M g n n) (e : M k = .some i) : ∃ j, j < n ∧ (g j).2 = k ∧ i = (j : Int) := by
  apply Classical.byContradiction
  intro hc
  have : M k = .none := h.2 k fun j jn ej => hc ⟨j, jn, ej, by
    have := h.at jn; rw [ej, e] at this; exact Option.some.inj this⟩
  rw [this] at e; cases e
end Go.Proofs.YtbgklnepmljiaaaMem
