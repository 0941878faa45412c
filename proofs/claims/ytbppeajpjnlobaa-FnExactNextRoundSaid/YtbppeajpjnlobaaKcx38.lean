/- For every schedule and results, NextRound of the program answers as NextRound of the reference does, and changes nothing; no condition. -/
import Derived.Test.YtbppeajpjnlobaaRows
import Derived.Test.YtbppeajpjnlobaaKcx37
import Derived.Test.YtbppeajpjnlobaaKcx36
/- Facts that all rows of the seat share. -/
set_option linter.unusedVariables false
set_option linter.unusedSimpArgs false
namespace Go.Proofs.Ytbppeajpjnlobaa
open Go.HL Go.ChangeShapes Go.WideShapes Go.ChangeAt Go.RowKit

theorem Try.own : ownKnob Try.prog.godebug = none := by kernel_rfl
theorem Try.laidOut : laidOutB Try.prog = true := by kernel_rfl

end Go.Proofs.Ytbppeajpjnlobaa

/- FnExactNextRound: for every schedule and results, the program's NextRound answers as the reference's does. No condition. -/
set_option linter.unusedVariables false
set_option linter.unusedSimpArgs false
namespace Go.Proofs.Ytbppeajpjnlobaa
open Go.HL Go.ChangeShapes Go.WideShapes Go.ChangeAt Go.RowKit

set_option maxRecDepth 100000 in
theorem nextRound_lifted (os : Os) (started : os.Started) (H : Type) (enc : TypeId × Value → H) :
    ReturnsInHanded {} Try.checked os 5 .any (Rows.fnExactNextRoundSpec.pre6 enc Try.prog Try.f5 Rows.fnExactNextRoundRow.domain false) (Rows.fnExactNextRoundSpec.post enc Try.prog Try.f5 false true false false) := by
  refine returnsInHanded_of_change (C := Try.checked) Try.own started (by kernel_rfl) Try.func5
    (ChangeSpec.witness6 (enc := enc) (C := Try.checked) false ⟨#[], #[.agg #[.int .i64 0, .slice none 0 0], .slice none 0 0], []⟩ 8 (by kernel_rfl) (by kernel_rfl) (by kernel_rfl) (by kernel_rfl)) ?_
  intro W base args ds gs before hval0 hW hcnd _
  have hval : ∀ (j : Nat) t v, Try.f5.params[j]? = some t → args[j]? = some v → Value.okWide Try.prog W .any base t v := hval0
  have hW' := hW
  obtain ⟨p, q, hA0, hV, rfl, hfz, hnd⟩ := hW
  have hA : DataW.TrodAll enc Try.prog W 0 (fun _ => true) true Try.f5.params.toList args.toList ds p := hA0
  rw [show Try.f5.params = #[24, 25] by kernel_rfl] at hA hval
  obtain ⟨v0, v1, d0, d1, p0, p1, rfl, rfl, rfl, h0, h1⟩ := trodAll_two hA
  obtain ⟨rfl, rfl⟩ := trodVars_none hV
  obtain ⟨n, A, rs, c, rfl, hR, hc1, hc2⟩ := read_sched (f0 := fld Try.prog 24 0) (f1 := fld Try.prog 24 1) (e := 45) (q := 2) (by kernel_rfl) (by kernel_rfl) (by kernel_rfl) (by kernel_rfl) (by kernel_rfl) (by kernel_rfl) (by kernel_rfl) (by kernel_rfl) (by kernel_rfl) (by kernel_rfl) (by kernel_rfl) (by kernel_rfl) (hval 0 24 v0 rfl rfl) h0
  obtain ⟨B, l1, c1', rfl⟩ := okWide_slice (e := 38) (by kernel_rfl) (hval 1 25 v1 rfl rfl)
  obtain ⟨fuel1, hf1⟩ := h1
  obtain ⟨B', xss, d1', e1, hT, hd1, hd2, hx⟩ := read_tab (e := 38) (q := 2) (by kernel_rfl) (by kernel_rfl) (by kernel_rfl) (by kernel_rfl) (by kernel_rfl) hf1
  have hB : B = B' ∧ l1 = xss.length ∧ c1' = d1' := by
    have : (Value.slice B l1 c1') = .slice B' xss.length d1' := by
      have : (Value.slice B l1 c1').cells.toList = [.slice B l1 c1'] := rfl
      rw [this] at e1
      exact (List.cons.inj e1).1
    simpa using this
  obtain ⟨rfl, rfl, rfl⟩ := hB
  have hcall := (L.FnExactNextRound.spec (n := n) (c := c) (d := c1') (h := ofWorld W) hR rfl (by omega) hT rfl (by omega) hx).2 W (ofWorld_rel W)
  refine hcall.mono fun e W' ⟨v, h', he, hr', hf', hk⟩ => ?_
  obtain ⟨_, rfl⟩ := hk
  subst he
  have hb := below_of_fra hf'
  have hlt0 : ∀ x ∈ p0, x.block < W.heap.size := fun x hx => hW'.lt x (by simp [hx])
  have hlt1 : ∀ x ∈ p1, x.block < W.heap.size := fun x hx => hW'.lt x (by simp [hx])
  have h1' : DataW.Trod enc Try.prog W 0 (fun _ => true) true 25 (.slice B xss.length c1') d1 p1 := ⟨fuel1, hf1⟩
  refine ⟨_, rfl, post_below (pa := _) (pv := []) hW' hb (trodAll_mk1 (shut_bool (by kernel_rfl) true)) (trodAll_mk2 (Below.trod Try.laidOut (by kernel_rfl) (of_decide_eq_true (by kernel_rfl)) h0 hb hlt0) (Below.trod Try.laidOut (by kernel_rfl) (of_decide_eq_true (by kernel_rfl)) h1' hb hlt1)) rfl⟩

theorem nextRound_holds : Rows.FnExactNextRoundSaid :=
  OpenClaim.holds_of_wide 5 Try.f5 rfl rfl rfl rfl rfl rfl rfl ⟨rfl, rfl, rfl, rfl, rfl⟩ rfl rfl rfl rfl rfl (by kernel_rfl) Try.func5 (by kernel_rfl)
    (of_decide_eq_true (by kernel_rfl)) (by unfold Func.isWrapper; first | (rw [if_pos (by decide +kernel)]; kernel_rfl) | (rw [if_neg (by decide +kernel)]; exact ⟨rfl, rfl⟩))
    (fun os started H enc _ => nextRound_lifted os started H enc)

#print axioms nextRound_holds

end Go.Proofs.Ytbppeajpjnlobaa
