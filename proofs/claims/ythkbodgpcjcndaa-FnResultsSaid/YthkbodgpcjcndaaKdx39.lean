/- Whatever the code, the law of results answers true: points of all teams are twice the meetings played, rankings have all teams, and the teams with the most points can be first when all rounds are played; no condition. -/
import Derived.Test.YthkbodgpcjcndaaKdx37
import Derived.Test.YthkbodgpcjcndaaKdx34
/- What a slice of bytes reads as. -/
set_option linter.unusedVariables false
set_option linter.unusedSimpArgs false
namespace Go.HL
open Go.ChangeShapes Go.WideShapes Go.Deep

section
variable {H : Type} {enc : TypeId × Value → H} {P : Program} {W : World} {held : Bool} {fuel : Nat} {cs : List Value} {x : DataW H × List MemPlace} {t e : TypeId}
theorem read_bytes (ht : P.underlying t = some (.slice e)) (he : P.underlying e = some (.int .u8)) (hc : P.cellsOf e = 1) (h : DataW.trod enc P W 0 (fun _ => true) held fuel t cs = some x) :
    ∃ A zs c, cs = [.slice A zs.length c] ∧ BytesW (ofWorld W) A zs ∧ zs.length ≤ c ∧ c ≤ 9223372036854775807 := by
  rcases open_ints ht he hc h with ⟨rfl, _⟩ | ⟨a, len, cap, zs, rfl, _, hl, hm, hz, _, hcell, hwf⟩
  · exact ⟨none, [], 0, rfl, ⟨.inl rfl, fun z h => by cases h⟩, Nat.le_refl _, by omega⟩
  · have hz' : zs.length = cap := by simpa using hz
    have hlen : (zs.take len).length = len := by rw [List.length_take]; omega
    refine ⟨some a, zs.take len, cap, by rw [hlen], ⟨?_, fun z hzm => ?_⟩, by omega, hm⟩
    · rcases Nat.eq_zero_or_pos len with h0 | hpos
      · subst h0; exact .inl rfl
      · have hs := spot_of (hcell 0 (by omega))
        rw [add_zero'] at hs
        refine .inr (.inr ⟨a.block, a.off, by rw [← hs], fun i v hv => ?_⟩)
        have hi : i < (zs.take len).length := by simpa using (List.getElem?_eq_some_iff.1 hv).1
        have := hcell i (by omega)
        rw [hs, add_plain] at this
        rw [ofWorld_get, this]
        rw [UM, List.getElem?_map, List.getElem?_take, if_pos (by omega), List.getElem?_eq_getElem (by omega)] at hv
        rw [List.getD_eq_getElem?_getD, List.getElem?_eq_getElem (by omega)]
        exact hv
    · have := bounds_u8 (hwf z (List.mem_of_mem_take hzm))
      omega
end
end Go.HL
