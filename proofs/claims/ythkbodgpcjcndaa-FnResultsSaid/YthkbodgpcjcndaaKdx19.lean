/- Whatever the code, the law of results answers true: points of all teams are twice the meetings played, rankings have all teams, and the teams with the most points can be first when all rounds are played; no condition. -/
import Derived.Test.YthkbodgpcjcndaaKdx18
/- Regions whose order is open, IX: what the machine does next, the one order follows. -/
set_option linter.unusedVariables false
set_option linter.unusedSimpArgs false
namespace Go.HL
open Classical
section
variable {P : Program} {ops : Array Oper} {a0 : Array Value} {h0 : Heap} {w0 : World} {K : List Value → Heap → Prop}
variable {D : Nat → Prop} {done pres prebs : List Nat} {rest r : List FI} {V : Nat → Value} {c : Nat → Nat} {t : List Value} {h : Heap} {a : Act} {w w' : World}

/-- What is known of an operation that the machine has done and the one order has not. -/
def EarlyOk (P : Program) (ops : Array Oper) (a0 : Array Value) (V : Nat → Value) (c : Nat → Nat) (D : Nat → Prop) (h : Heap) (w : World) (rest : List FI) (i : Nat) : Prop :=
  FreeOk P ops a0 V h i ∨ (AllocOk P ops a0 V c h w i ∧ ∃ rr, FI.op i rr ∈ rest) ∨ (∃ k, FI.abox i k ∈ rest ∧ BoxOk P ops a0 V c D h w i k) ∨ (∃ j, FI.abox j i ∈ rest ∧ D j)

theorem Sim.did (f : Fine ops) (s : Sim P ops a0 h0 w0 K D done pres prebs rest V c t h a w) {i : Nat} {o : Oper} (ho : ops[i]? = some o) (hD : ¬ D i)
    (hcl : ∀ p q, ordB (Region.before ops) p q = true → (D q ∨ q = i) → (D p ∨ p = i)) (hrel : Rel h w') (hfra : Fra h0 h w0 w')
    (hearly : ∀ q, q ∈ execs rest → (D q ∨ q = i) → EarlyOk P ops a0 V c (fun x => D x ∨ x = i) h w' rest q)
    (hclt : ∀ q, q ∈ execs rest → (D q ∨ q = i) → allocI ops q = true → wantV ops a0 V q = true → c q < w'.heap.size ∧ w0.heap.size ≤ c q)
    (hcinj : ∀ q q', q ∈ execs rest → q' ∈ execs rest → (D q ∨ q = i) → (D q' ∨ q' = i) → allocI ops q = true → allocI ops q' = true → wantV ops a0 V q = true → wantV ops a0 V q' = true → c q = c q' → q = q') :
    Sim P ops a0 h0 w0 K (fun x => D x ∨ x = i) done pres prebs rest V c t h (a.put o.dst (V i)) w' := by
  refine { items := s.items, lin := s.lin, cover := s.cover, inn := s.inn, closed := fun p q hp hq => hcl p q hp hq, defers := by rw [Act.put_defers']; exact s.defers, size := (size_put a o.dst _).trans s.size, frame := fun x => ?_, tlen := s.tlen, tfr := s.tfr,
           rel := hrel, sync := fun q hq hl hd => .inl (s.sync q hq hl hd), late := fun q hq hn => s.late q hq (fun hh => hn (.inl hh)), early := hearly, pref := s.pref, prebf := s.prebf,
           clt := fun q hq hd ha hw => (hclt q hq hd ha hw).1, cinj := hcinj, fra := hfra, cge := fun q hq hd ha hw => (hclt q hq hd ha hw).2, sem := s.sem }
  have hdo : dstOf ops i = o.dst := by simp [dstOf, ho]
  have hother : dstOf ops i ≠ some x → cur ops a0 V (fun x => D x ∨ x = i) x = cur ops a0 V D x := by
    intro hne
    unfold cur
    cases hs : srcOf ops x with
    | none => rfl
    | some p =>
      simp only
      have hpi : p ≠ i := fun e => hne (e ▸ (srcOf_some hs).1)
      by_cases hp : D p
      · by_cases hx : x < a0.size
        · rw [if_pos ⟨.inl hp, hx⟩, if_pos ⟨hp, hx⟩]
        · rw [if_neg (fun hh => hx hh.2), if_neg (fun hh => hx hh.2)]
      · rw [if_neg (fun hh => hh.1.elim hp hpi), if_neg (fun hh => hp hh.1)]
  cases hd : o.dst with
  | none => rw [hother (by rw [hdo, hd]; simp)]; exact s.frame x
  | some d =>
    simp only [Act.put]
    by_cases hxd : x = d
    · subst hxd
      rw [cur_new f (i := i) (by rw [hdo, hd]) (.inr rfl)]
      rw [Array.getD_eq_getD_getElem?, Array.getElem?_setIfInBounds]
      simp only [if_true]
      rw [← s.size]
      by_cases hl : x < a.tmps.size
      · simp [hl]
      · rw [if_neg hl, if_neg hl]
        have h1 : ¬ x < a0.size := by rw [← s.size]; exact hl
        simp [Array.getD_eq_getD_getElem?, Array.getElem?_eq_none (Nat.le_of_not_lt h1)]
    · rw [hother (by rw [hdo, hd]; simp; exact fun e => hxd e.symm)]
      rw [← s.frame x, Array.getD_eq_getD_getElem?, Array.getElem?_setIfInBounds, if_neg (fun e => hxd e.symm), ← Array.getD_eq_getD_getElem?]

/-- What was known of the others stays known. -/
theorem Sim.keepEarly (s : Sim P ops a0 h0 w0 K D done pres prebs rest V c t h a w) {i : Nat} (hnk : ∀ j, FI.abox j i ∉ rest) (hkeep : ∀ q, q ∈ execs rest → D q → allocI ops q = true → wantV ops a0 V q = true → w'.heap[c q]? = w.heap[c q]?)
    {q : Nat} (hq : q ∈ execs rest) (hDq : D q) : EarlyOk P ops a0 V c (fun x => D x ∨ x = i) h w' rest q := by
  rcases s.early q hq hDq with h1 | ⟨⟨o, ho, ha, h2, h3⟩, hr⟩ | ⟨k, hk, oj, ok, e, ty, d, x, ii, z, bp, b1, b2, b3, b4⟩ | ⟨j, hj, hDj⟩
  · exact .inl h1
  · refine .inr (.inl ⟨⟨o, ho, ha, fun hw => ?_, h3⟩, hr⟩)
    obtain ⟨cs, mk, e, h4, h5, h6⟩ := h2 hw
    exact ⟨cs, mk, e, h4, (hkeep q hq hDq (by simp [allocI, ho, ha]) hw).trans h5, h6⟩
  · have hk' := hkeep q hq hDq (by simp [allocI, bp.hj, bp.opj, isAllocOp]) (wantV_none _ _ _ bp.hj bp.gj)
    have hki : k ≠ i := fun e => hnk q (e ▸ hk)
    exact .inr (.inr (.inl ⟨k, hk, oj, ok, e, ty, d, x, ii, z, bp, b1, b2, fun hn => hk'.trans (b3 fun hh => hn (.inl hh)), fun hd => hk'.trans (b4 (hd.resolve_right hki))⟩))
  · exact .inr (.inr (.inr ⟨j, hj, .inl hDj⟩))

/-- The machine's operands are the values. -/
theorem Sim.seeAll (f : Fine ops) (s : Sim P ops a0 h0 w0 K D done pres prebs rest V c t h a w) {i : Nat} {o : Oper} (ho : ops[i]? = some o) (hD : ¬ D i) (hr : ∀ p, ordB (Region.before ops) p i = true → D p) :
    ∀ x ∈ o.op.operands, a.eval x = opv ops a0 V i x := by
  intro x hx
  cases x with
  | tmp y =>
    refine s.see f.uniq (Array.getElem?_eq_some_iff.1 ho).1 hD hr ?_
    simp only [looks, ho, Oper.looksAt, List.mem_append]
    exact .inl (List.mem_filterMap.2 ⟨.tmp y, by simpa using hx, rfl⟩)
  | _ => rfl
theorem Sim.resSee (f : Fine ops) (s : Sim P ops a0 h0 w0 K D done pres prebs rest V c t h a w) {i : Nat} {o : Oper} (ho : ops[i]? = some o) (hD : ¬ D i) (hr : ∀ p, ordB (Region.before ops) p i = true → D p) :
    ∀ x, Le (res o (opv ops a0 V i) x) (a.eval x) :=
  res_le' (ops := ops) (fun y hy => .inr (s.see f.uniq (Array.getElem?_eq_some_iff.1 ho).1 hD hr (by simpa [looks, ho] using hy)).symm) (fun x hx => by cases x <;> first | rfl | exact absurd rfl (hx _))

variable {Q : Exit → Act → World → Prop}

/-- One operation of the machine's, told by its wanted-ness. -/
theorem wpOps_of {i : Nat} {l : List Nat} {o : Oper} (ho : ops[i]? = some o) {b : Bool} (hb : Region.wanted o (yielded ops a.tmps) = b)
    (h1 : b = true → o.wp P a w (wpOps P ops Q l) Q) (h2 : b = false → wpOps P ops Q l (a.put o.dst undef) w) : wpOps P ops Q (i :: l) a w := by
  simp only [wpOps, ho, hb]
  cases b with
  | true => rw [if_pos rfl]; exact .inl (h1 rfl)
  | false => rw [if_neg (by simp)]; exact h2 rfl

/-- What stands to be proved of the rest of the machine's order. -/
def Goes (P : Program) (ops : Array Oper) (a0 : Array Value) (h0 : Heap) (w0 : World) (K : List Value → Heap → Prop) (Q : Exit → Act → World → Prop) (D : Nat → Prop) (l : List Nat) : Prop :=
  ∀ {done pres prebs : List Nat} {rest : List FI} {V : Nat → Value} {c : Nat → Nat} {t : List Value} {h : Heap} {a : Act} {w : World}, Sim P ops a0 h0 w0 K D done pres prebs rest V c t h a w → wpOps P ops Q l a w

section step
variable {i : Nat} {l : List Nat} {o : Oper}

theorem step_late (f : Fine ops) (ho : ops[i]? = some o) (hD : ¬ D i) (hr : ∀ p, ordB (Region.before ops) p i = true → D p) (hcl : ∀ p q, ordB (Region.before ops) p q = true → (D q ∨ q = i) → (D p ∨ p = i))
    (go : Goes P ops a0 h0 w0 K Q (fun x => D x ∨ x = i) l) (s : Sim P ops a0 h0 w0 K D done pres prebs rest V c t h a w) (hi : i ∈ done) : wpOps P ops Q (i :: l) a w := by
  obtain ⟨o', ho', hl, hg1, hg2⟩ := s.late i hi hD
  rw [ho] at ho'; cases ho'
  have hni : i ∉ execs rest := fun hh => s.not_both hh hi
  have next : wpOps P ops Q l (a.put o.dst (V i)) w := by
    refine go (s.did f ho hD hcl s.rel s.fra (fun q hq hd => ?_) (fun q hq hd ha hw => ?_) (fun q q' hq hq' hd hd' => ?_))
    · rcases hd with hd | rfl
      · exact s.keepEarly (fun j hj => hni (mem_execs (by simp [FI.exec]) hj)) (fun _ _ _ _ _ => rfl) hq hd
      · exact absurd hq hni
    · rcases hd with hd | rfl
      · exact ⟨s.clt q hq hd ha hw, s.cge q hq hd ha hw⟩
      · exact absurd hq hni
    · rcases hd with hd | rfl
      · rcases hd' with hd' | rfl
        · exact s.cinj q q' hq hq' hd hd'
        · exact absurd hq' hni
      · exact absurd hq hni
  refine wpOps_of ho (s.wanted f ho hD hr) (fun hw => ?_) (fun hw => ?_)
  · have he : evalL P o.op a.eval h = some (V i) := by rw [evalL_congr h (s.seeAll f ho hD hr)]; exact hg1 hw
    exact wp_value (evalL_sound he s.rel) next
  · rw [hg2 hw] at next; exact next

theorem step_free (f : Fine ops) (ho : ops[i]? = some o) (hD : ¬ D i) (hr : ∀ p, ordB (Region.before ops) p i = true → D p) (hcl : ∀ p q, ordB (Region.before ops) p q = true → (D q ∨ q = i) → (D p ∨ p = i))
    (go : Goes P ops a0 h0 w0 K Q (fun x => D x ∨ x = i) l) (s : Sim P ops a0 h0 w0 K D done pres prebs rest V c t h a w) (hi : i ∈ execs rest) (hf : isFree o.op = true) : wpOps P ops Q (i :: l) a w := by
  have hoo : ordB (Region.before ops) i i = false := linB_lt s.lin i (by simp [hi])
  have hval : ∃ v, ∀ h, evalL P o.op (opv ops a0 V i) h = some v := by
    cases hop : o.op <;> rw [hop] at hf <;> simp [isFree] at hf
    · exact ⟨_, fun h => rfl⟩
    · exact ⟨_, fun h => rfl⟩
  obtain ⟨v, hv⟩ := hval
  have hnl : allocI ops i = false := by
    cases hop : o.op <;> rw [hop] at hf <;> simp [isFree] at hf <;> simp [allocI, ho, hop, isAllocOp]
  have hnk : ∀ j, FI.abox j i ∉ rest := fun j hj => by
    obtain ⟨hb, _⟩ := pre_of_box rest s.items hj
    obtain ⟨oj, ok, e, ty, d, x, _, hk, _, opk, _⟩ := boxI_parts hb
    rw [ho] at hk; cases hk
    rw [opk] at hf; cases hf
  have main : ∀ u, (wantV ops a0 V i = true → u = v) → (wantV ops a0 V i = false → u = undef) → wpOps P ops Q l (a.put o.dst u) w := by
    intro u hu1 hu2
    have s2 := s.upd hi hD u
    have hg : FreeOk P ops a0 (updV V i u) h i := by
      refine ⟨o, ho, hf, ?_, ?_⟩
      · rw [wantV_upd u (fun _ _ _ => hoo), opv_upd u hoo, updV_self]; exact fun hw => by rw [hu1 hw]; exact hv h
      · rw [wantV_upd u (fun _ _ _ => hoo), updV_self]; exact hu2
    have := go (s2.did f ho hD hcl s2.rel s2.fra (fun q hq hd => ?_) (fun q hq hd ha hw => ?_) (fun q q' hq hq' hd hd' ha ha' hw hw' => ?_))
    · rwa [updV_self] at this
    · rcases hd with hd | rfl
      · exact s2.keepEarly hnk (fun _ _ _ _ _ => rfl) hq hd
      · exact .inl hg
    · rcases hd with hd | rfl
      · exact ⟨s2.clt q hq hd ha hw, s2.cge q hq hd ha hw⟩
      · rw [hnl] at ha; cases ha
    · rcases hd with hd | rfl
      · rcases hd' with hd' | rfl
        · exact s2.cinj q q' hq hq' hd hd' ha ha' hw hw'
        · rw [hnl] at ha'; cases ha'
      · rw [hnl] at ha; cases ha
  refine wpOps_of ho (s.wanted f ho hD hr) (fun hw => ?_) (fun hw => ?_)
  · have he : evalL P o.op a.eval h = some v := by rw [evalL_congr h (s.seeAll f ho hD hr)]; exact hv h
    exact wp_value (evalL_sound he s.rel) (main v (fun _ => rfl) (fun hh => by rw [hw] at hh; cases hh))
  · exact main undef (fun hh => by rw [hw] at hh; cases hh) (fun _ => rfl)

end step
end
end Go.HL
