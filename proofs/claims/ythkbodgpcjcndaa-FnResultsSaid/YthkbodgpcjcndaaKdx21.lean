/- Whatever the code, the law of results answers true: points of all teams are twice the meetings played, rankings have all teams, and the teams with the most points can be first when all rounds are played; no condition. -/
import Derived.Test.YthkbodgpcjcndaaKdx20
/- Regions whose order is open, XI: new blocks. -/
set_option linter.unusedVariables false
set_option linter.unusedSimpArgs false
namespace Go.HL
open Classical
section
variable {P : Program} {ops : Array Oper} {a0 : Array Value} {h0 : Heap} {w0 : World} {K : List Value → Heap → Prop}
variable {D : Nat → Prop} {done pres prebs : List Nat} {rest r : List FI} {V : Nat → Value} {c : Nat → Nat} {t : List Value} {h : Heap} {a : Act} {w w' : World}
variable {Q : Exit → Act → World → Prop} {i : Nat} {l : List Nat} {o : Oper}

/-- The items behind the first are well made too. -/
theorem items_tail {B : Array Nat} {it : FI} (hit : itemsB ops B done pres prebs (it :: r) = true) : itemsB ops B (done ++ it.exec) (it.presOf pres) (it.prebsOf prebs) r = true := by
  cases it <;> simp only [itemsB, Bool.and_eq_true] at hit
  · exact hit.2
  · simpa [FI.exec, FI.presOf, FI.prebsOf] using hit.2
  · simpa [FI.exec, FI.presOf, FI.prebsOf] using hit.2
  · exact hit.2
  · simpa [FI.exec, FI.presOf, FI.prebsOf] using hit
  · simpa [FI.exec, FI.presOf, FI.prebsOf] using hit

theorem Sim.updC (s : Sim P ops a0 h0 w0 K D done pres prebs rest V c t h a w) (hD : ¬ D i) (b : Nat) : Sim P ops a0 h0 w0 K D done pres prebs rest V (updV c i b) t h a w := by
  have n : ∀ q, D q → updV c i b q = c q := fun q hq => updV_ne c b fun e => hD (e ▸ hq)
  refine { items := s.items, lin := s.lin, cover := s.cover, inn := s.inn, closed := s.closed, defers := s.defers, size := s.size, frame := s.frame, tlen := s.tlen, tfr := s.tfr, rel := s.rel, sync := s.sync, late := s.late, early := fun q hq hDq => ?_,
           pref := s.pref, prebf := s.prebf, clt := fun q hq hDq => by rw [n q hDq]; exact s.clt q hq hDq, cinj := fun q q' hq hq' hDq hDq' => by rw [n q hDq, n q' hDq']; exact s.cinj q q' hq hq' hDq hDq', fra := s.fra, cge := fun q hq hDq => by rw [n q hDq]; exact s.cge q hq hDq, sem := s.sem }
  rcases s.early q hq hDq with h1 | ⟨⟨oq, hoq, haq, h3, h4⟩, hr⟩ | ⟨k, hk, hb⟩ | h1
  · exact .inl h1
  · exact .inr (.inl ⟨⟨oq, hoq, haq, by rw [n q hDq]; exact h3, h4⟩, hr⟩)
  · exact .inr (.inr (.inl ⟨k, hk, by unfold BoxOk at *; rw [n q hDq]; exact hb⟩))
  · exact .inr (.inr (.inr h1))

theorem Rel.pushed (r : Rel h w) (x : Obj) : Rel h { w with heap := w.heap.push x } := by
  have old : ∀ b, b < w.heap.size → (w.heap.push x)[b]? = w.heap[b]? := fun b hb => by rw [Array.getElem?_push, if_neg (by omega)]
  refine ⟨fun b ds hb => ?_, fun b o hb => ?_, fun b o v hb => ?_, r.dis⟩
  · obtain ⟨e', he⟩ := r.cells b ds hb
    exact ⟨e', (old b (r.lt (by simp [hb]))).trans he⟩
  · obtain ⟨h1, h2⟩ := r.obj b o hb
    exact ⟨(old b (r.lt (by simp [hb]))).trans h1, h2⟩
  · have h1 := r.ro b o v hb
    have h2 := old b (r.ro_lt hb)
    unfold World.cell? at h1 ⊢
    simp only [h2]
    exact h1
theorem Fra.pushed (h : Heap) (w : World) (x : Obj) : Fra h h w { w with heap := w.heap.push x } :=
  ⟨rfl, rfl, rfl, by simp, fun b hb e => ⟨by simp only []; rw [Array.getElem?_push, if_neg (by omega)], e⟩, rfl⟩
theorem Rel.other (r : Rel h w) {b : Nat} (hf : h.fresh b) (ho : ∀ x, x ≠ b → w'.heap[x]? = w.heap[x]?) : Rel h w' := by
  refine ⟨fun x ds hx => ?_, fun x o hx => ?_, fun x o v hx => ?_, r.dis⟩
  · have hxb : x ≠ b := fun e => by subst e; rw [hf.1] at hx; cases hx
    obtain ⟨e', he⟩ := r.cells x ds hx
    exact ⟨e', (ho x hxb).trans he⟩
  · have hxb : x ≠ b := fun e => by subst e; rw [hf.1] at hx; cases hx
    obtain ⟨h1, h2⟩ := r.obj x o hx
    exact ⟨(ho x hxb).trans h1, h2⟩
  · have hxb : x ≠ b := fun e => by subst e; rw [hf.2 o] at hx; cases hx
    have h1 := r.ro x o v hx
    have h2 := ho x hxb
    unfold World.cell? at h1 ⊢
    simp only [h2]
    exact h1

theorem pre_of_op' {B : Array Nat} (ha : allocI ops i = true) {rr : List Nat} (hit : itemsB ops B done pres prebs rest = true) (hm : FI.op i rr ∈ rest) : i ∈ pres ∨ FI.pre i ∈ rest := by
  refine pre_of_op ?_ ha rest hit hm
  unfold allocI at ha
  unfold freeI
  cases ho : ops[i]? with
  | none => rfl
  | some o => rw [ho] at ha; simp only at ha ⊢; cases hop : o.op <;> rw [hop] at ha <;> simp [isAllocOp] at ha <;> rfl

/-- The one order comes to where a block's making is known. -/
theorem Sim.toPre (f : Fine ops) (s : Sim P ops a0 h0 w0 K D done pres prebs rest V c t h a w) (hr : ∀ p, ordB (Region.before ops) p i = true → D p) (ha : allocI ops i = true)
    (hi : (∃ rr, FI.op i rr ∈ rest) ∨ ∃ k, FI.abox i k ∈ rest) : ∃ done' pres' prebs' rest' V' t' h', Sim P ops a0 h0 w0 K D done' pres' prebs' rest' V' c t' h' a w ∧ i ∈ pres' ∧ ((∃ rr, FI.op i rr ∈ rest') ∨ ∃ k, FI.abox i k ∈ rest') := by
  refine Sim.till f (fun _ pres _ rest => i ∈ pres ∧ ((∃ rr, FI.op i rr ∈ rest) ∨ ∃ k, FI.abox i k ∈ rest)) (fun _ pres _ rest => ((∃ rr, FI.op i rr ∈ rest) ∨ ∃ k, FI.abox i k ∈ rest) ∧ (i ∈ pres ∨ FI.pre i ∈ rest)) (D := D)
    (fun done pres prebs it r hit hw => ?_) (fun _ _ _ hw => ?_) rest s ⟨hi, ?_⟩
  · obtain ⟨hm, hp⟩ := hw
    by_cases hin : i ∈ pres
    · exact .inl ⟨hin, hm⟩
    · have hp := hp.resolve_left hin
      have hit' := items_tail hit
      refine .inr ⟨fun m hmm hl => hr m ?_, ?_, ?_⟩
      · rcases List.mem_cons.1 hp with e | hp
        · subst e; simp [FI.exec] at hmm
        · exact gate_ord (gate_pre r hit' hp) (by simp [hmm]) hl
      · rcases hm with ⟨rr, hm⟩ | ⟨k, hm⟩
        · rcases List.mem_cons.1 hm with e | hm
          · subst e
            rcases pre_of_op' ha hit (List.mem_cons_self ..) with h | h
            · exact absurd h hin
            · simp only [itemsB, Bool.and_eq_true] at hit
              have hnf : freeI ops i = false := by
                unfold allocI at ha
                unfold freeI
                cases ho : ops[i]? with
                | none => rfl
                | some o => rw [ho] at ha; simp only at ha ⊢; cases hop : o.op <;> rw [hop] at ha <;> simp [isAllocOp] at ha <;> rfl
              have := hit.1.1.2
              simp [hnf, ha] at this
              exact absurd this hin
          · exact .inl ⟨rr, hm⟩
        · rcases List.mem_cons.1 hm with e | hm
          · subst e
            simp only [itemsB, Bool.and_eq_true] at hit
            exact absurd (by simpa using hit.1.1.2) hin
          · exact .inr ⟨k, hm⟩
      · rcases List.mem_cons.1 hp with e | hp
        · subst e; exact .inl (by simp [FI.presOf])
        · exact .inr hp
  · rcases hw.1 with ⟨_, h⟩ | ⟨_, h⟩ <;> cases h
  · rcases hi with ⟨rr, hm⟩ | ⟨k, hm⟩
    · exact pre_of_op' ha s.items hm
    · exact (pre_of_box rest s.items hm).2.1

/-- The one order comes to where a first value is known. -/
theorem Sim.toPreb (f : Fine ops) {j k : Nat} (s : Sim P ops a0 h0 w0 K D done pres prebs rest V c t h a w) (hr : ∀ p, ordB (Region.before ops) p k = true → D p)
    (hi : FI.abox j k ∈ rest) : ∃ done' pres' prebs' rest' V' t' h', Sim P ops a0 h0 w0 K D done' pres' prebs' rest' V' c t' h' a w ∧ k ∈ prebs' ∧ FI.abox j k ∈ rest' := by
  refine Sim.till f (fun _ _ prebs rest => k ∈ prebs ∧ FI.abox j k ∈ rest) (fun _ _ prebs rest => FI.abox j k ∈ rest ∧ (k ∈ prebs ∨ ∃ j', FI.preb j' k ∈ rest)) (D := D)
    (fun done pres prebs it r hit hw => ?_) (fun _ _ _ hw => ?_) rest s ⟨hi, (pre_of_box rest s.items hi).2.2⟩
  · obtain ⟨hm, hp⟩ := hw
    by_cases hin : k ∈ prebs
    · exact .inl ⟨hin, hm⟩
    · obtain ⟨j', hp⟩ := hp.resolve_left hin
      have hit' := items_tail hit
      refine .inr ⟨fun m hmm hl => hr m ?_, ?_, ?_⟩
      · rcases List.mem_cons.1 hp with e | hp
        · subst e; simp [FI.exec] at hmm
        · exact gate_ord (gate_preb r hit' hp) (by simp [hmm]) hl
      · rcases List.mem_cons.1 hm with e | hm
        · subst e
          simp only [itemsB, Bool.and_eq_true] at hit
          exact absurd (by simpa using hit.1.2) hin
        · exact hm
      · rcases List.mem_cons.1 hp with e | hp
        · subst e; exact .inl (by simp [FI.prebsOf])
        · exact .inr ⟨j', hp⟩
  · cases hw.1

/-- No operation stands in two items. -/
theorem exec_uniq {B : Array Nat} {it it' : FI} {q : Nat} (h1 : q ∈ it.exec) (h2 : q ∈ it'.exec) : ∀ {F : List FI}, linB B (execs F) = true → it ∈ F → it' ∈ F → it = it'
  | [], _, hm, _ => by cases hm
  | x :: F, hl, hm, hm' => by
    rw [execs_cons] at hl
    have hne : ∀ y, y ∈ x.exec → y ∉ execs F := fun y hy hy' => (linB_app hl y hy y hy').2 rfl
    have htl : linB B (execs F) = true := by
      have : ∀ (l m : List Nat), linB B (l ++ m) = true → linB B m = true := by
        intro l
        induction l with
        | nil => exact fun m h => h
        | cons y l ih => intro m h; simp only [List.cons_append, linB, Bool.and_eq_true] at h; exact ih m h.2
      exact this _ _ hl
    rcases List.mem_cons.1 hm with e1 | m1
    · rcases List.mem_cons.1 hm' with e2 | m2
      · rw [e1, e2]
      · exact absurd (mem_execs h2 m2) (hne q (e1 ▸ h1))
    · rcases List.mem_cons.1 hm' with e2 | m2
      · exact absurd (mem_execs h1 m1) (hne q (e2 ▸ h2))
      · exact exec_uniq h1 h2 htl m1 m2
theorem linB_right {B : Array Nat} : ∀ {l m : List Nat}, linB B (l ++ m) = true → linB B m = true
  | [], _, h => h
  | _ :: l, m, h => by simp only [List.cons_append, linB, Bool.and_eq_true] at h; exact linB_right h.2

theorem Sim.keepEarly2 (s : Sim P ops a0 h0 w0 K D done pres prebs rest V c t h a w) {i q : Nat} (hnk : ∀ k, FI.abox q k ∈ rest → k ≠ i) (hq : q ∈ execs rest) (hDq : D q) (hkeep : allocI ops q = true → wantV ops a0 V q = true → w'.heap[c q]? = w.heap[c q]?) :
    EarlyOk P ops a0 V c (fun x => D x ∨ x = i) h w' rest q := by
  rcases s.early q hq hDq with h1 | ⟨⟨o, ho, ha, h2, h3⟩, hr⟩ | ⟨k, hk, oj, ok, e, ty, d, x, ii, z, bp, b1, b2, b3, b4⟩ | ⟨j, hj, hDj⟩
  · exact .inl h1
  · refine .inr (.inl ⟨⟨o, ho, ha, fun hw => ?_, h3⟩, hr⟩)
    obtain ⟨cs, mk, e, h4, h5, h6⟩ := h2 hw
    exact ⟨cs, mk, e, h4, (hkeep (by simp [allocI, ho, ha]) hw).trans h5, h6⟩
  · have hk' := hkeep (by simp [allocI, bp.hj, bp.opj, isAllocOp]) (wantV_none _ _ _ bp.hj bp.gj)
    have hki : k ≠ i := hnk k hk
    exact .inr (.inr (.inl ⟨k, hk, oj, ok, e, ty, d, x, ii, z, bp, b1, b2, fun hn => hk'.trans (b3 fun hh => hn (.inl hh)), fun hd => hk'.trans (b4 (hd.resolve_right hki))⟩))
  · exact .inr (.inr (.inr ⟨j, hj, .inl hDj⟩))

theorem alloc_info {cs : List Value} {mk : Nat → Value} {e e' : TypeId} {ρ : Operand → Value} (hop : o.op = .alloc e) (h : AllocRun P o ρ cs mk e') : ∃ ii z, P.info? e = some ii ∧ ii.zero = some z ∧
    ∀ (ρ' : Operand → Value) (w : World), (execOp ρ' o).run P w = .ok (.value (.pointer (some ⟨w.heap.size, 0, none⟩))) { w with heap := w.heap.push (.cells z.cells e) } := by
  obtain ⟨dst, op, ty, pos, after, guard⟩ := o
  simp only at hop
  subst hop
  let w0 : World := default
  have h1 := h ρ (fun _ => Le.refl _) w0
  simp only [execOp, Instr.alloc, zeroValue, typeInfo, Sem.run_bind, run_program, Result.andThen_ok] at h1
  cases hi : P.info? e with
  | none => simp [hi] at h1
  | some ii =>
    cases hz : ii.zero with
    | none => simp [hi, hz] at h1
    | some z =>
      refine ⟨ii, z, rfl, hz, fun ρ' w => ?_⟩
      simp [execOp, Instr.alloc, zeroValue, typeInfo, hi, hz, newVar, newRow]

end
end Go.HL
