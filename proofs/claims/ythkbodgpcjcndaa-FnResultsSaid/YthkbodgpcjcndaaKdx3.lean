/- Whatever the code, the law of results answers true: points of all teams are twice the meetings played, rankings have all teams, and the teams with the most points can be first when all rounds are played; no condition. -/
import Derived.Test.YthkbodgpcjcndaaKdx2
/- What an operation that changes nothing gives, the machine gives: soundness of evalL, the machine's side. -/
set_option linter.unusedVariables false
set_option linter.unusedSimpArgs false
namespace Go.HL

theorem run_isAgg {P : Program} {t : TypeId} {b : Bool} (h : isAggT P t = some b) (w : World) : (isAgg t).run P w = .ok b w := by
  unfold isAggT at h
  unfold isAgg
  cases hu : P.underlying t with
  | none => simp [hu] at h
  | some d => cases d <;> simp [hu] at h <;> subst h <;> simp [run_underlying hu]

theorem run_loadVar {P : Program} {t : TypeId} {h : Heap} {w : World} (r : Rel h w) {b o : Nat} {v : Value}
    (e : (match isAggT P t, P.info? t with
      | some true, some i => (h.getN b o i.size).map fun cs => Value.agg cs.toArray
      | some false, _ => h.get b o
      | _, _ => none) = some v) : (loadVar t ⟨b, o, none⟩).run P w = .ok v w := by
  unfold loadVar
  cases ha : isAggT P t with
  | none => simp [ha] at e
  | some x =>
    rw [Sem.run_bind, run_isAgg ha]
    cases x with
    | false =>
      simp only [ha] at e
      simp [r.get e]
    | true =>
      cases hi : P.info? t with
      | none => simp [ha, hi] at e
      | some i =>
        simp only [ha, hi, Option.map_eq_some_iff] at e
        obtain ⟨cs, hc, rfl⟩ := e
        simp [sizeOf, typeInfo, hi, r.loadCells hc]

theorem run_part {P : Program} {t : TypeId} {cs : Array Value} {off : Nat} {v : Value} (e : evalPart P t cs off = some v) (w : World) :
    (part t cs off).run P w = .ok v w := by
  unfold evalPart at e
  unfold part
  cases ha : isAggT P t with
  | none => simp [ha] at e
  | some x =>
    rw [Sem.run_bind, run_isAgg ha]
    cases x with
    | false =>
      simp only [ha] at e
      simp [e]
    | true =>
      cases hi : P.info? t with
      | none => simp [ha, hi] at e
      | some i =>
        simp only [ha, hi, Option.some.injEq] at e
        subst e
        simp only [Result.andThen_ok, if_true, sizeOf, typeInfo, Sem.run_bind, run_program, hi, Sem.run_pure]
        congr 2
        apply Array.toList_inj.1
        simp [Array.toList_extract, List.extract_eq_take_drop]

end Go.HL
