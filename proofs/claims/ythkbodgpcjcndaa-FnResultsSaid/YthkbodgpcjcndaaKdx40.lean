/- Whatever the code, the law of results answers true: points of all teams are twice the meetings played, rankings have all teams, and the teams with the most points can be first when all rounds are played; no condition. -/
import Derived.Test.YthkbodgpcjcndaaKdx36
import Derived.Test.YthkbodgpcjcndaaKdx38
import Derived.Test.YthkbodgpcjcndaaKdx39
/- FnResults: whatever the code, the law answers true: points are twice the meetings played, rankings have all teams, the teams with the most points can be first when all rounds are played. No condition. -/
set_option linter.unusedVariables false
set_option linter.unusedSimpArgs false
namespace Go.Proofs.Ythkbodgpcjcndaa
open Go.HL Go.ChangeShapes Go.WideShapes Go.ChangeAt Go.RowKit

set_option maxRecDepth 100000 in
theorem results_lifted (os : Os) (started : os.Started) (H : Type) (enc : TypeId × Value → H) :
    ReturnsInHanded {} Try.checked os 5 .any (Rows.fnResultsSpec.pre6 enc Try.prog Try.f5 Rows.fnResultsRow.domain false) (Rows.fnResultsSpec.post enc Try.prog Try.f5 false true false false) := by
  refine returnsInHanded_of_change (C := Try.checked) Try.own started (by kernel_rfl) Try.func5
    (ChangeSpec.witness6 (enc := enc) (C := Try.checked) false ⟨#[], #[.slice none 0 0], []⟩ 8 (by kernel_rfl) (by kernel_rfl) (by kernel_rfl) (by kernel_rfl)) ?_
  intro W base args ds gs before hval0 hW hcnd _
  have hval : ∀ (j : Nat) t v, Try.f5.params[j]? = some t → args[j]? = some v → Value.okWide Try.prog W .any base t v := hval0
  have hW' := hW
  obtain ⟨p, q, hA0, hV, rfl, hfz, hnd⟩ := hW
  have hA : DataW.TrodAll enc Try.prog W 0 (fun _ => true) true Try.f5.params.toList args.toList ds p := hA0
  rw [show Try.f5.params = #[22] by kernel_rfl] at hA hval
  obtain ⟨v0, d0, rfl, rfl, h0⟩ := trodAll_one hA
  obtain ⟨rfl, rfl⟩ := trodVars_none hV
  obtain ⟨B, l1, c1', rfl⟩ := okWide_slice (e := 5) (by kernel_rfl) (hval 0 22 v0 rfl rfl)
  have h0' := h0
  obtain ⟨fuel1, hf1⟩ := h0
  obtain ⟨B', zs, d1', e1, hT, hd1, hd2⟩ := read_bytes (e := 5) (by kernel_rfl) (by kernel_rfl) (by kernel_rfl) hf1
  have hB : B = B' ∧ l1 = zs.length ∧ c1' = d1' := by
    have : (Value.slice B l1 c1') = .slice B' zs.length d1' := by
      have : (Value.slice B l1 c1').cells.toList = [.slice B l1 c1'] := rfl
      rw [this] at e1
      exact (List.cons.inj e1).1
    simpa using this
  obtain ⟨rfl, rfl, rfl⟩ := hB
  have hcall := (L.FnResults.spec (cz := c1') (h := ofWorld W) hT rfl (by omega)).2 W (ofWorld_rel W)
  refine hcall.mono fun e W' ⟨v, h', he, hr', hf', hk⟩ => ?_
  obtain ⟨_, rfl⟩ := hk
  subst he
  have hb := below_of_fra hf'
  have hlt0 : ∀ x ∈ p, x.block < W.heap.size := fun x hx => hW'.lt x (by simp [hx])
  refine ⟨_, rfl, post_below (pa := _) (pv := []) hW' hb (trodAll_mk1 (shut_bool (by kernel_rfl) true)) (trodAll_mk1 (Below.trod Try.laidOut (by kernel_rfl) (of_decide_eq_true (by kernel_rfl)) h0' hb hlt0)) rfl⟩

theorem results_holds : Rows.FnResultsSaid :=
  OpenClaim.holds_of_wide 5 Try.f5 rfl rfl rfl rfl rfl rfl rfl ⟨rfl, rfl, rfl, rfl, rfl⟩ rfl rfl rfl rfl rfl (by kernel_rfl) Try.func5 (by kernel_rfl)
    (of_decide_eq_true (by kernel_rfl)) (by unfold Func.isWrapper; first | (rw [if_pos (by decide +kernel)]; kernel_rfl) | (rw [if_neg (by decide +kernel)]; exact ⟨rfl, rfl⟩))
    (fun os started H enc _ => results_lifted os started H enc)

#print axioms results_holds

end Go.Proofs.Ythkbodgpcjcndaa
