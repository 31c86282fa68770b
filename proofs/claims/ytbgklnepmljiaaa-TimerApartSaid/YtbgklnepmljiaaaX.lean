/- Laws for TimerOnce: what is due, told bit by bit; append of nothing. -/
import Derived.Test.YtbgklnepmljiaaaV
namespace Go.Proofs.Ytbgklnepmljiaaa
open Go.RowKit YtbgklnepmljiaaaMem Go.ChangeMaps

/-- Told at one time and then at a later one: as told at the later one. -/
theorem due_later : ∀ (k : Nat) (m : List (Int × Int)) (now now' : Int), m.length = k → (m.map (·.2)).Nodup → now ≤ now' →
    (dueOf m.length m now').1 = (dueOf m.length m now).1 ++ (dueOf (dueOf m.length m now).2.length (dueOf m.length m now).2 now').1 ∧
    (dueOf m.length m now').2 = (dueOf (dueOf m.length m now).2.length (dueOf m.length m now).2 now').2
  | 0, m, now, now', hk, _, _ => by
    have : m = [] := List.eq_nil_of_length_eq_zero hk
    subst this
    exact ⟨rfl, rfl⟩
  | k + 1, m, now, now', hk, nd, hle => by
    by_cases hd : isDue m now = true
    · unfold isDue at hd
      cases hm : minOf m with
      | none => rw [hm] at hd; cases hd
      | some p =>
        rw [hm] at hd
        simp only [decide_eq_true_eq] at hd
        have hlw := wo_length nd (has_iff.2 ⟨p, (minOf_spec hm).1, rfl⟩)
        have hlw2 : (wo m p.2).length = k := by omega
        have ih := due_later k (wo m p.2) now now' hlw2 (wo_nodup nd) hle
        have e1 := due_step hm hd (wo m p.2).length
        have e2 := due_step hm (show p.1 ≤ now' by omega) (wo m p.2).length
        rw [hlw] at e1 e2
        rw [e1, e2]
        simp only [List.cons_append, List.cons.injEq, true_and]
        exact ih
    · have hf : isDue m now = false := by simpa using hd
      rw [due_stop hf]
      simp
/-- Once told, nothing is due at that time. -/
theorem wpList_append0 {P : Program} {w : World} {ops : Array Oper} {rest : List Oper} {o : Oper} {a : Act} {Q : Exit → Act → World → Prop} (hgd : o.guard = none) {s x : Operand} {t : TypeId}
    (ho : o.op = .call { callee := .builtin .append, args := #[s, x], argTypes := #[t, t] })
    {base : Nat} {e : TypeId} {i : TypeInfo} {size : Nat} (ht : P.underlying t = some (.slice e)) (hi : P.info? e = some i) (hsize : i.size = size)
    {v : Value} {n : Nat} {xs : List Value} (hs : a.eval s = v) (hown : w.ownsRow base e size v n xs) {ad : Option Addr} {c : Nat} (hx : a.eval x = .slice ad 0 c)
    (h : wpList P ops Q rest (a.put o.dst v) w) : wpList P ops Q (o :: rest) a w := by
  refine wpList_plain hgd fun K hK => ?_
  have hr : (Builtin.append_ #[t, t] o.type #[v, .slice ad 0 c]).run P w = .ok v w := by
    have hfc : (Builtin.firstCells size 0 (.slice ad 0 c)).run P w = .ok #[] w := by
      cases ad <;> simp [Builtin.firstCells, loadCells, loadCellsFrom]
    subst hsize
    rcases hown.2 with ⟨rfl, rfl⟩ | ⟨g, cap, cur, rfl, hbg, hg, hnc, hcm, hcs, htake⟩
    · simp [Builtin.append_, run_underlying ht, sizeOf, typeInfo, hi, Builtin.lenOf, hfc]
    · simp [Builtin.append_, run_underlying ht, sizeOf, typeInfo, hi, Builtin.lenOf, hfc, hnc, storeCells]
  unfold Oper.wp execOp
  simp only [ho, resolve, invoke, builtin, Sem.run_bind, Sem.run_pure, Result.andThen_ok, List.map_toArray, List.map_cons, List.map_nil, hs, hx, hr]
  exact hK _ _ h
end Go.Proofs.Ytbgklnepmljiaaa
