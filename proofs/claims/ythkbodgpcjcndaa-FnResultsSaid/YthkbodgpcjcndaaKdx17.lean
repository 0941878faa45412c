/- Whatever the code, the law of results answers true: points of all teams are twice the meetings played, rankings have all teams, and the teams with the most points can be first when all rounds are played; no condition. -/
import Derived.Test.YthkbodgpcjcndaaKdx16
/- Regions whose order is open, VII: the one order passes operations of each kind, and comes to where it is wanted. -/
set_option linter.unusedVariables false
set_option linter.unusedSimpArgs false
namespace Go.HL
open Classical
section
variable {P : Program} {ops : Array Oper} {a0 : Array Value} {h0 : Heap} {w0 : World} {K : List Value → Heap → Prop}
variable {D : Nat → Prop} {done pres prebs : List Nat} {rest r : List FI} {V : Nat → Value} {c : Nat → Nat} {t : List Value} {h : Heap} {a : Act} {w : World}

theorem _root_.Go.HL.Fra.updH {h0 h : Heap} {w0 w : World} (f : Fra h0 h w0 w) {b : Nat} (hb : w0.heap.size ≤ b) {k : Blk} : Fra h0 (h.upd b k) w0 w :=
  ⟨f.os, f.tape, f.output, f.size, fun x hx hn => ⟨(f.keep x hx hn).1, by rw [Heap.upd_own_ne _ _ (by omega)]; exact (f.keep x hx hn).2⟩, f.ro⟩
theorem get_fresh {h : Heap} {b : Nat} (hf : h.fresh b) (k : Blk) {b' o : Nat} {v : Value} (g : h.get b' o = some v) : (h.upd b k).get b' o = some v := by
  have hne : b' ≠ b := fun e => by
    subst e
    unfold Heap.get at g
    rw [hf.1] at g
    simp only at g
    rw [hf.2 o] at g
    cases g
  unfold Heap.get at g ⊢
  rw [Heap.upd_own_ne _ _ hne, Heap.upd_ro]
  exact g
theorem getN_fresh {h : Heap} {b : Nat} (hf : h.fresh b) (k : Blk) {b' : Nat} : ∀ {n o : Nat} {vs : List Value}, h.getN b' o n = some vs → (h.upd b k).getN b' o n = some vs
  | 0, o, vs, g => g
  | n + 1, o, vs, g => by
    simp only [Heap.getN] at g ⊢
    split at g
    · rename_i v ws h1 h2
      rw [get_fresh hf k h1, getN_fresh hf k h2]
      exact g
    · cases g
theorem evalL_fresh {h : Heap} {b : Nat} (hf : h.fresh b) (k : Blk) (op : Op) (ρ : Operand → Value) (u : Value) (e : evalL P op ρ h = some u) : evalL P op ρ (h.upd b k) = some u := by
  cases hl : isLoad op with
  | false => rw [evalL_noload hl ρ _ h]; exact e
  | true =>
    cases op <;> simp [isLoad] at hl
    simp only [evalL] at e ⊢
    split at e
    · split at e
      · simp only [Option.map_eq_some_iff] at e ⊢
        obtain ⟨cs, h1, h2⟩ := e
        exact ⟨cs, getN_fresh hf k h1, h2⟩
      · exact get_fresh hf k e
      · cases e
    · cases e

theorem cur_add {L : List Nat} {x : Nat} (hn : ∀ i ∈ L, dstOf ops i ≠ some x) : cur ops a0 V (· ∈ done ++ L) x = cur ops a0 V (· ∈ done) x := by
  unfold cur
  cases hs : srcOf ops x with
  | none => rfl
  | some p =>
    simp only
    by_cases hp : p ∈ done
    · by_cases hx : x < a0.size
      · rw [if_pos ⟨by simp [hp], hx⟩, if_pos ⟨hp, hx⟩]
      · rw [if_neg (fun hh => hx hh.2), if_neg (fun hh => hx hh.2)]
    · have h1 : p ∉ done ++ L := fun hh => by
        rcases List.mem_append.1 hh with h | h
        · exact hp h
        · exact hn p h (srcOf_some hs).1
      rw [if_neg (fun hh => h1 hh.1), if_neg (fun hh => hp hh.1)]
theorem cur_new (f : Fine ops) {S : Nat → Prop} {i x : Nat} (hd : dstOf ops i = some x) (hi : S i) : cur ops a0 V S x = if x < a0.size then V i else a0.getD x undef := by
  unfold cur
  rw [src_of_dst f.uniq hd]
  simp [hi]

/-- The frame behind one operation of the one order. -/
theorem Sim.putT (f : Fine ops) (s : Sim P ops a0 h0 w0 K D done pres prebs rest V c t h a w) {i : Nat} {o : Oper} (ho : ops[i]? = some o) {v : Value} (hv : Le v (V i)) :
    ∀ x, Le ((putF t o.dst v).getD x undef) (cur ops a0 V (· ∈ done ++ [i]) x) := by
  intro x
  have hdo : dstOf ops i = o.dst := by simp [dstOf, ho]
  cases hd : o.dst with
  | none =>
    rw [cur_add (fun j hj => by simp at hj; subst hj; rw [hdo, hd]; simp)]
    exact s.tfr x
  | some d =>
    simp only [putF]
    rw [getD_set]
    by_cases hxd : x = d
    · subst hxd
      rw [cur_new f (i := i) (by rw [hdo, hd]) (by simp), s.tlen]
      by_cases hl : x < a0.size
      · rw [if_pos ⟨rfl, hl⟩, if_pos hl]; exact hv
      · rw [if_neg (fun hh => hl hh.2), if_neg hl]
        have h1 := s.tlen
        have : t.getD x undef = undef := by rw [List.getD_eq_getElem?_getD, List.getElem?_eq_none (by omega)]; rfl
        rw [this, Array.getD_eq_getD_getElem?, Array.getElem?_eq_none (by omega)]; exact Le.refl _
    · rw [if_neg (fun hh => hxd hh.1), cur_add (fun j hj => by simp at hj; subst hj; rw [hdo, hd]; simp; exact fun e => hxd e.symm)]
      exact s.tfr x
theorem putF_length (t : List Value) (d : Option Nat) (v : Value) : (putF t d v).length = t.length := by cases d <;> simp [putF]

/-- An operation that changes nothing is passed. -/
theorem Sim.passLight (f : Fine ops) {i : Nat} {rr : List Nat} (hl : lightI ops i = true) (s : Sim P ops a0 h0 w0 K D done pres prebs (.op i rr :: r) V c t h a w) :
    ∃ V' t', Sim P ops a0 h0 w0 K D (done ++ [i]) pres prebs r V' c t' h a w := by
  obtain ⟨o, ho, g, hg, h1, h2⟩ := s.sem
  have hit := s.items
  simp only [itemsB, Bool.and_eq_true] at hit
  obtain ⟨⟨⟨hrd, _⟩, _⟩, hrest⟩ := hit
  have hrd' := ready_of hrd
  have hie : i ∈ execs (.op i rr :: r) := by simp [execs, FI.exec]
  have hw := s.guardT f ho hie hrd' hg
  have hlo : isLight o.op = true := by simpa [lightI, ho] using hl
  -- the value
  have hval : ∃ v v', Le v v' ∧ (wantV ops a0 V i = true → evalL P o.op (opv ops a0 V i) h = some v') ∧ (wantV ops a0 V i = false → v' = undef) ∧ semF P ops K r (putF t o.dst v) h := by
    cases g with
    | true =>
      rcases h1 rfl with ⟨_, v, hv, hk⟩ | ⟨hn, _⟩
      · rw [evalL_congr h (ρ' := res o (ev t)) res_eq] at hv
        obtain ⟨v', h3, h4⟩ := evalL_mono (s.resT f ho hie hrd') hv
        rw [← evalL_congr h (ρ := opv ops a0 V i) res_eq] at h3
        exact ⟨v, v', h4, fun _ => h3, fun hh => (by rw [hw] at hh; cases hh), hk⟩
      · rw [hlo] at hn; cases hn
    | false => exact ⟨undef, undef, Le.refl _, fun hh => (by rw [hw] at hh; cases hh), fun _ => rfl, h2 rfl⟩
  obtain ⟨v, v', hle, hg1, hg2, hk⟩ := hval
  by_cases hD : D i
  · -- done early: it gave this value
    have hVi : V i = v' := by
      rcases s.early i hie hD with ⟨o', ho', hf, hg3, hg4⟩ | ⟨⟨o', ho', ha, _⟩, _⟩ | ⟨k, hk, oj, ok, e, ty, d, x, ii, z, bp, _⟩ | ⟨j, hj, _⟩
      · cases hwv : wantV ops a0 V i with
        | true => rw [ho] at ho'; cases ho'; exact Option.some.inj ((hg3 hwv).symm.trans (hg1 hwv))
        | false => rw [hg4 hwv, hg2 hwv]
      · rw [ho] at ho'; cases ho'; rw [alloc_not_light ha] at hlo; cases hlo
      · have := bp.hj; rw [ho] at this; cases this; rw [bp.opj] at hlo; cases hlo
      · rcases List.mem_cons.1 hj with e | hj
        · cases e
        · have h3 := linB_app (B := Region.before ops) (l := done ++ [i]) (r := execs r) (by have := s.lin; simpa [execs, FI.exec] using this) i (by simp) i (by simp only [execs, List.mem_flatMap]; exact ⟨_, hj, by simp [FI.exec]⟩)
          exact absurd rfl h3.2
    refine ⟨V, _, s.shift (it := .op i rr) hrest (putF_length _ _ _) (s.putT f ho (hVi ▸ hle)) s.rel s.fra (fun _ _ _ e => e) (fun _ _ _ _ _ e => e) (fun j hj => ?_) (fun j hj hl' => ?_) hk⟩
    · simp only [FI.exec, List.mem_singleton] at hj; subst hj; exact .inl hD
    · simp only [FI.exec, List.mem_singleton] at hj; subst hj; exact hD
  · have s2 := s.upd hie hD v'
    have hoo : ordB (Region.before ops) i i = false := linB_lt s.lin i (by simp [hie])
    refine ⟨updV V i v', _, s2.shift (it := .op i rr) hrest (putF_length _ _ _) (s2.putT f ho (by rw [updV_self]; exact hle)) s2.rel s2.fra (fun _ _ _ e => e) (fun _ _ _ _ _ e => e) (fun j hj => ?_) (fun j hj hl' => ?_) hk⟩
    · simp only [FI.exec, List.mem_singleton] at hj; subst hj
      refine .inr ⟨o, ho, hlo, ?_, ?_⟩
      · rw [wantV_upd v' (fun _ _ _ => hoo), opv_upd v' hoo, updV_self]; exact hg1
      · rw [wantV_upd v' (fun _ _ _ => hoo), updV_self]; exact hg2
    · simp only [FI.exec, List.mem_singleton] at hj; subst hj; rw [hl] at hl'; cases hl'

/-- A new block that the machine has made already is told to the one order. -/
theorem Sim.passAlloc (f : Fine ops) {i : Nat} {rr : List Nat} (ha : allocI ops i = true) (hD : D i) (s : Sim P ops a0 h0 w0 K D done pres prebs (.op i rr :: r) V c t h a w) :
    ∃ t' h', Sim P ops a0 h0 w0 K D (done ++ [i]) pres prebs r V c t' h' a w := by
  obtain ⟨o, ho, g, hg, h1, h2⟩ := s.sem
  have hit := s.items
  simp only [itemsB, Bool.and_eq_true] at hit
  obtain ⟨⟨⟨hrd, _⟩, _⟩, hrest⟩ := hit
  have hrd' := ready_of hrd
  have hie : i ∈ execs (.op i rr :: r) := by simp [execs, FI.exec]
  have hw := s.guardT f ho hie hrd' hg
  have hao : isAllocOp o.op = true := by simpa [allocI, ho] using ha
  have hlin : linB (Region.before ops) ((done ++ [i]) ++ execs r) = true := by have := s.lin; simpa [execs, FI.exec] using this
  have hnr : i ∉ execs r := fun hh => (linB_app hlin i (by simp) i hh).2 rfl
  have hal : AllocOk P ops a0 V c h w i := by
    rcases s.early i hie hD with ⟨o', ho', hf, _⟩ | ⟨h3, _⟩ | ⟨k, hk, _⟩ | ⟨j, hj, _⟩
    · rw [ho] at ho'; cases ho'; have := free_light hf; rw [alloc_not_light hao] at this; cases this
    · exact h3
    · rcases List.mem_cons.1 hk with e | hk
      · cases e
      · exact absurd (by simp only [execs, List.mem_flatMap]; exact ⟨_, hk, by simp [FI.exec]⟩) hnr
    · rcases List.mem_cons.1 hj with e | hj
      · cases e
      · exact absurd (by simp only [execs, List.mem_flatMap]; exact ⟨_, hj, by simp [FI.exec]⟩) hnr
  obtain ⟨o', ho', _, hg1, hg2⟩ := hal
  rw [ho] at ho'; cases ho'
  cases g with
  | false =>
    refine ⟨_, h, s.shift (it := .op i rr) hrest (putF_length _ _ _) (s.putT f ho (by rw [hg2 hw]; exact Le.refl _)) s.rel s.fra (fun _ _ _ e => e) (fun _ _ _ _ _ e => e) (fun j hj => ?_) (fun j hj hl' => ?_) (h2 rfl)⟩
    · simp only [FI.exec, List.mem_singleton] at hj; subst hj; exact .inl hD
    · simp only [FI.exec, List.mem_singleton] at hj; subst hj; exact hD
  | true =>
    rcases h1 rfl with ⟨hn, _⟩ | ⟨_, hx⟩
    · rw [alloc_not_light hao] at hn; cases hn
    · rw [semX_congr (ρ' := res o (ev t)) res_eq] at hx
      obtain ⟨cs, mk, e, hrun, hk⟩ := semX_alloc hao hx
      obtain ⟨cs', mk', e', hrun', hcell, hfr, hV⟩ := hg1 hw
      have r1 := hrun (res o (opv ops a0 V i)) (s.resT f ho hie hrd')
      have r2 := hrun' (res o (opv ops a0 V i)) (fun x => Le.refl _)
      have hmk : mk (c i) = mk' (c i) ∧ cs = cs' ∧ e = e' := by
        let w0 : World := { w with heap := Array.replicate (c i) (Obj.cells #[] 0) }
        have h3 := (r1 w0).symm.trans (r2 w0)
        have hs : w0.heap.size = c i := by simp [w0]
        rw [hs] at h3
        simp only [Result.ok.injEq, Next.value.injEq, World.mk.injEq, Array.push_inj_left, Obj.cells.injEq] at h3
        obtain ⟨h4, h5, _⟩ := h3
        have h6 : (Obj.cells cs.toArray e) = (Obj.cells cs'.toArray e') := by
          have := congrArg (fun (z : Array Obj) => z.back?) h5
          simpa using this
        simp only [Obj.cells.injEq, List.toArray_eq_iff] at h6
        exact ⟨h4, by simpa using h6.1, h6.2.1⟩
      obtain ⟨hm1, rfl, rfl⟩ := hmk
      have hk' := hk (c i) hfr
      refine ⟨_, _, s.shift (it := .op i rr) hrest (putF_length _ _ _) (s.putT f ho (v := mk (c i)) (by rw [hV, hm1]; exact Le.refl _)) (s.rel.add hfr cs e hcell) (s.fra.updH (s.cge i hie hD ha hw)) (fun op ρ u he => evalL_fresh hfr _ op ρ u he) (fun q hq hDq haq hwq hfq => ?_) (fun j hj => ?_) (fun j hj hl' => ?_) (rrAnd_end hk')⟩
      · have hqi : c q ≠ c i := fun e => by
          have := s.cinj q i (by rw [execs_cons]; simp [hq]) hie hDq hD haq ha hwq hw e
          subst this
          exact hnr hq
        refine ⟨?_, hfq.2⟩
        rw [Heap.upd_own_ne _ _ hqi]
        exact hfq.1
      · simp only [FI.exec, List.mem_singleton] at hj; subst hj; exact .inl hD
      · simp only [FI.exec, List.mem_singleton] at hj; subst hj; exact hD

end
end Go.HL
