/- Whatever the code, the law of results answers true: points of all teams are twice the meetings played, rankings have all teams, and the teams with the most points can be first when all rounds are played; no condition. -/
import Derived.Test.YthkbodgpcjcndaaKdx15
/- Regions whose order is open, VI: the one order passes operations. -/
set_option linter.unusedVariables false
set_option linter.unusedSimpArgs false
namespace Go.HL
open Classical
section
variable {P : Program} {ops : Array Oper} {a0 : Array Value} {h0 : Heap} {w0 : World} {K : List Value → Heap → Prop}
variable {D : Nat → Prop} {done pres prebs : List Nat} {rest r : List FI} {V : Nat → Value} {c : Nat → Nat} {t : List Value} {h : Heap} {a : Act} {w : World}

theorem alloc_not_light {op : Op} (h : isAllocOp op = true) : isLight op = false := by cases op <;> simp [isAllocOp] at h <;> rfl
theorem free_light {op : Op} (h : isFree op = true) : isLight op = true := by cases op <;> simp [isFree] at h <;> rfl

theorem execs_cons (it : FI) (r : List FI) : execs (it :: r) = it.exec ++ execs r := by simp [execs]

/-- An item is passed, its operations with it. -/
theorem Sim.shift {it : FI} (s : Sim P ops a0 h0 w0 K D done pres prebs (it :: r) V c t h a w) {t' : List Value} {h' : Heap}
    (hit : itemsB ops (Region.before ops) (done ++ it.exec) pres prebs r = true) (htl : t'.length = t.length) (htf : ∀ x, Le (t'.getD x undef) (cur ops a0 V (· ∈ done ++ it.exec) x))
    (rel : Rel h' w) (hfra : Fra h0 h' w0 w) (hev : ∀ op ρ u, evalL P op ρ h = some u → evalL P op ρ h' = some u) (hfr : ∀ q, q ∈ execs r → D q → allocI ops q = true → wantV ops a0 V q = true → h.fresh (c q) → h'.fresh (c q))
    (hnew : ∀ i, i ∈ it.exec → D i ∨ LateOk P ops a0 V h' i) (hsync : ∀ i, i ∈ it.exec → lightI ops i = false → D i) (hs : semF P ops K r t' h') :
    Sim P ops a0 h0 w0 K D (done ++ it.exec) pres prebs r V c t' h' a w := by
  have he := execs_cons it r
  have hlin : linB (Region.before ops) ((done ++ it.exec) ++ execs r) = true := by rw [List.append_assoc, ← he]; exact s.lin
  have hne : ∀ q, q ∈ execs r → q ∉ it.exec := fun q hq hh => (linB_app hlin q (by simp [hh]) q hq).2 rfl
  have hsub : ∀ q, q ∈ execs r → q ∈ execs (it :: r) := fun q hq => by rw [he]; simp [hq]
  have hm1 : ∀ i rr, i ∈ execs r → FI.op i rr ∈ it :: r → FI.op i rr ∈ r := fun i rr hi hm => by
    rcases List.mem_cons.1 hm with e | hm
    · exact absurd (by rw [← e]; simp [FI.exec]) (hne i hi)
    · exact hm
  have hm2 : ∀ i k, i ∈ execs r → FI.abox i k ∈ it :: r → FI.abox i k ∈ r := fun i k hi hm => by
    rcases List.mem_cons.1 hm with e | hm
    · exact absurd (by rw [← e]; simp [FI.exec]) (hne i hi)
    · exact hm
  have hm3 : ∀ i k, k ∈ execs r → FI.abox i k ∈ it :: r → FI.abox i k ∈ r := fun i k hi hm => by
    rcases List.mem_cons.1 hm with e | hm
    · exact absurd (by rw [← e]; simp [FI.exec]) (hne k hi)
    · exact hm
  refine { items := hit, lin := hlin, cover := fun i hi => ?_, inn := fun i hi => s.inn i (by rw [he]; simpa using hi), closed := s.closed, defers := s.defers, size := s.size, frame := s.frame, tlen := htl.trans s.tlen, tfr := htf, rel := rel,
           sync := ?_, late := ?_, early := ?_, pref := ?_, prebf := ?_, clt := fun i hi => s.clt i (hsub i hi), cinj := fun i j hi hj => s.cinj i j (hsub i hi) (hsub j hj), fra := hfra, cge := fun i hi => s.cge i (hsub i hi), sem := hs }
  · rcases s.cover i hi with h | h
    · exact .inl (by simp [h])
    · rw [he, List.mem_append] at h
      rcases h with h | h
      · exact .inl (by simp [h])
      · exact .inr h
  · intro i hi hl hd
    rcases List.mem_append.1 hd with hd | hd
    · exact s.sync i hi hl hd
    · exact hsync i hd hl
  · intro i hi hD
    rcases List.mem_append.1 hi with hi | hi
    · obtain ⟨o, ho, hl, hg1, hg2⟩ := s.late i hi hD
      exact ⟨o, ho, hl, fun hw => hev _ _ _ (hg1 hw), hg2⟩
    · exact (hnew i hi).resolve_left hD
  · intro i hi hD
    rcases s.early i (hsub i hi) hD with ⟨o, ho, hl, hg1, hg2⟩ | ⟨⟨o, ho, hl, hg1, hg2⟩, rr, h2⟩ | ⟨k, h1, oj, ok, e, ty, d, x, ii, z, bp, b1, b2, b3, b4⟩ | ⟨j, h1, h2⟩
    · exact .inl ⟨o, ho, hl, fun hw => hev _ _ _ (hg1 hw), hg2⟩
    · refine .inr (.inl ⟨⟨o, ho, hl, fun hw => ?_, hg2⟩, rr, hm1 _ _ hi h2⟩)
      obtain ⟨cs, mk, e, h3, h4, h5, h6⟩ := hg1 hw
      exact ⟨cs, mk, e, h3, h4, hfr i hi hD (by simp [allocI, ho, hl]) hw h5, h6⟩
    · have hll : allocI ops i = true := by simp [allocI, bp.hj, bp.opj, isAllocOp]
      exact .inr (.inr (.inl ⟨k, hm2 _ _ hi h1, oj, ok, e, ty, d, x, ii, z, bp, b1, hfr i hi hD hll (wantV_none _ _ _ bp.hj bp.gj) b2, b3, b4⟩))
    · exact .inr (.inr (.inr ⟨j, hm3 _ _ hi h1, h2⟩))
  · intro i hi hr
    obtain ⟨hrd, hx⟩ := s.pref i hi (hsub i hr)
    exact ⟨fun x hx p hp ho => by simp [hrd x hx p hp ho], hx⟩
  · intro i hi hr
    obtain ⟨j, oj, ok, e, ty, d, x, ii, ii', z, bp, hi', hrd, hx⟩ := s.prebf i hi (hsub i hr)
    exact ⟨j, oj, ok, e, ty, d, x, ii, ii', z, bp, hi', fun y hy p hp ho => by simp [hrd y hy p hp ho], hx⟩

end
end Go.HL
