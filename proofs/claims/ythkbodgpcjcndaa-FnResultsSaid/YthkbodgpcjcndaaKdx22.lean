/- Whatever the code, the law of results answers true: points of all teams are twice the meetings played, rankings have all teams, and the teams with the most points can be first when all rounds are played; no condition. -/
import Derived.Test.YthkbodgpcjcndaaKdx21
/- Regions whose order is open, XII: the machine makes a block, the one order follows. -/
set_option linter.unusedVariables false
set_option linter.unusedSimpArgs false
namespace Go.HL
open Classical
section
variable {P : Program} {ops : Array Oper} {a0 : Array Value} {h0 : Heap} {w0 : World} {K : List Value → Heap → Prop}
variable {D : Nat → Prop} {done pres prebs : List Nat} {rest r : List FI} {V : Nat → Value} {c : Nat → Nat} {t : List Value} {h : Heap} {a : Act} {w w' : World}
variable {Q : Exit → Act → World → Prop} {i : Nat} {l : List Nat} {o : Oper}

theorem Sim.distinct (s : Sim P ops a0 h0 w0 K D done pres prebs rest V c t h a w) {it it' : FI} {q : Nat} (h1 : q ∈ it.exec) (h2 : q ∈ it'.exec) (m1 : it ∈ rest) (m2 : it' ∈ rest) : it = it' :=
  exec_uniq h1 h2 (linB_right s.lin) m1 m2

theorem store_of_box {B : Array Nat} {j k : Nat} (s : itemsB ops B done pres prebs rest = true) (hm : FI.abox j k ∈ rest) (ho : ops[k]? = some o) : ∃ ty ad x, o.op = .store ty ad x := by
  obtain ⟨hb, _⟩ := pre_of_box rest s hm
  obtain ⟨oj, ok, e, ty, d, x, _, hk, _, opk, _⟩ := boxI_parts hb
  rw [ho] at hk; cases hk
  exact ⟨_, _, _, opk⟩

theorem step_alloc (f : Fine ops) (ho : ops[i]? = some o) (hD : ¬ D i) (hr : ∀ p, ordB (Region.before ops) p i = true → D p) (hcl : ∀ p q, ordB (Region.before ops) p q = true → (D q ∨ q = i) → (D p ∨ p = i))
    (go : Goes P ops a0 h0 w0 K Q (fun x => D x ∨ x = i) l) (s : Sim P ops a0 h0 w0 K D done pres prebs rest V c t h a w) (hi : (∃ rr, FI.op i rr ∈ rest) ∨ ∃ k, FI.abox i k ∈ rest) (ha : isAllocOp o.op = true) : wpOps P ops Q (i :: l) a w := by
  have hal : allocI ops i = true := by simp [allocI, ho, ha]
  obtain ⟨d', p', pb', rest', V', t', h', s', hin, hi'⟩ := s.toPre f hr hal hi
  have hie : i ∈ execs rest' := by
    rcases hi' with ⟨rr, hm⟩ | ⟨k, hm⟩
    · exact mem_execs (by simp [FI.exec]) hm
    · exact mem_execs (by simp [FI.exec]) hm
  have hoo : ordB (Region.before ops) i i = false := linB_lt s'.lin i (by simp [hie])
  obtain ⟨hrd, o', ho', _, hrun⟩ := s'.pref i hin hie
  rw [ho] at ho'; cases ho'
  have hnk : ∀ j, FI.abox j i ∉ rest' := fun j hj => by
    obtain ⟨ty, ad, x, hop⟩ := store_of_box s'.items hj ho
    rw [hop] at ha; cases ha
  refine wpOps_of ho (s'.wanted f ho hD hr) (fun hw => ?_) (fun hw => ?_)
  · obtain ⟨cs, mk, e, hrun⟩ := hrun hw
    have hrn := hrun a.eval (s'.resSee f ho hD hr) w
    refine wp_value hrn ?_
    have s2 := (s'.updC hD w.heap.size).upd hie hD (mk w.heap.size)
    have hold : ∀ q, q ∈ execs rest' → D q → allocI ops q = true → wantV ops a0 (updV V' i (mk w.heap.size)) q = true → updV c i w.heap.size q < w.heap.size := fun q hq hDq haq hwq => s2.clt q hq hDq haq hwq
    have hwi : wantV ops a0 (updV V' i (mk w.heap.size)) i = true := by rw [wantV_upd _ (fun _ _ _ => hoo)]; exact hw
    have := go (s2.did f ho hD hcl (w' := { w with heap := w.heap.push (.cells cs.toArray e) }) (s2.rel.pushed _) (s2.fra.trans (Fra.pushed _ _ _)) (fun q hq hd => ?_) (fun q hq hd haq hwq => ?_) (fun q q' hq hq' hd hd' haq haq' hwq hwq' hc => ?_))
    · rwa [updV_self] at this
    · by_cases hqi : q = i
      · subst hqi
        have hcell : ({ w with heap := w.heap.push (.cells cs.toArray e) } : World).heap[updV c q w.heap.size q]? = some (.cells cs.toArray e (0, 0)) := by rw [updV_self]; simp
        rcases hi' with ⟨rr, hm⟩ | ⟨k, hm⟩
        · refine .inr (.inl ⟨⟨o, ho, ha, fun _ => ⟨cs, mk, e, ?_, hcell, ?_, ?_⟩, fun hh => (by rw [hwi] at hh; cases hh)⟩, rr, hm⟩)
          · rw [opv_upd _ hoo]; exact hrun
          · rw [updV_self]; exact s2.rel.fresh (Nat.le_refl _)
          · rw [updV_self, updV_self]
        · obtain ⟨hb, _⟩ := pre_of_box rest' s'.items hm
          obtain ⟨oj, ok, e', ty, d, x, hj, hk, opj, opk, dj, dk, gj, gk, hx, hord, hne, hoth⟩ := boxI_parts hb
          rw [ho] at hj; cases hj
          obtain ⟨ii, z, h1, h2, h3⟩ := alloc_info opj hrun
          have h4 := h3 a.eval w
          rw [hrn] at h4
          simp only [Result.ok.injEq, Next.value.injEq, World.mk.injEq, Array.push_inj_left, Obj.cells.injEq] at h4
          obtain ⟨h5, h6, _⟩ := h4
          have hDk : ¬ D k := fun hh => hD (s'.closed q k hord hh)
          refine .inr (.inr (.inl ⟨k, hm, o, ok, e', ty, d, x, ii, z, ⟨ho, hk, opj, opk, dj, dk, gj, gk, hx, h1, h2⟩, ?_, ?_, fun _ => ?_, fun hh => ?_⟩))
          · rw [updV_self, updV_self]; exact h5
          · rw [updV_self]; exact s2.rel.fresh (Nat.le_refl _)
          · rw [updV_self, h6]; simp
          · exact absurd hh (fun hh => hh.elim hDk (fun e => hne e.symm))
      · have hDq := hd.resolve_right hqi
        exact s2.keepEarly2 (fun k hk e => hnk q (e ▸ hk)) hq hDq (fun haq hwq => by
          have := hold q hq hDq haq hwq
          simp only []
          rw [Array.getElem?_push, if_neg (by omega)])
    · by_cases hqi : q = i
      · subst hqi
        rw [updV_self]
        exact ⟨by simp, s2.fra.size⟩
      · have hDq := hd.resolve_right hqi
        exact ⟨by simp only [Array.size_push]; exact Nat.lt_succ_of_lt (hold q hq hDq haq hwq), s2.cge q hq hDq haq hwq⟩
    · by_cases hqi : q = i
      · by_cases hqi' : q' = i
        · rw [hqi, hqi']
        · have hDq := hd'.resolve_right hqi'
          have := hold q' hq' hDq haq' hwq'
          rw [← hc, hqi, updV_self] at this
          omega
      · have hDq := hd.resolve_right hqi
        have hlt := hold q hq hDq haq hwq
        by_cases hqi' : q' = i
        · rw [hc, hqi', updV_self] at hlt
          omega
        · exact s2.cinj q q' hq hq' hDq (hd'.resolve_right hqi') haq haq' hwq hwq' hc
  · have s2 := s'.upd hie hD undef
    have hwi : wantV ops a0 (updV V' i undef) i = false := by rw [wantV_upd _ (fun _ _ _ => hoo)]; exact hw
    have := go (s2.did f ho hD hcl (w' := w) s2.rel s2.fra (fun q hq hd => ?_) (fun q hq hd haq hwq => ?_) (fun q q' hq hq' hd hd' haq haq' hwq hwq' hc => ?_))
    · rwa [updV_self] at this
    · by_cases hqi : q = i
      · subst hqi
        rcases hi' with ⟨rr, hm⟩ | ⟨k, hm⟩
        · exact .inr (.inl ⟨⟨o, ho, ha, fun hh => (by rw [hwi] at hh; cases hh), fun _ => by rw [updV_self]⟩, rr, hm⟩)
        · obtain ⟨hb, _⟩ := pre_of_box rest' s'.items hm
          obtain ⟨oj, ok, e', ty, d, x, hj, hk, opj, opk, dj, dk, gj, gk, hx, hord, hne, hoth⟩ := boxI_parts hb
          rw [wantV_none ops a0 _ hj gj] at hwi; cases hwi
      · exact s2.keepEarly2 (fun k hk e => hnk q (e ▸ hk)) hq (hd.resolve_right hqi) (fun _ _ => rfl)
    · have hqi : q ≠ i := fun e => by rw [e, hwi] at hwq; cases hwq
      have hDq := hd.resolve_right hqi
      exact ⟨s2.clt q hq hDq haq hwq, s2.cge q hq hDq haq hwq⟩
    · have hqi : q ≠ i := fun e => by rw [e, hwi] at hwq; cases hwq
      have hqi' : q' ≠ i := fun e => by rw [e, hwi] at hwq'; cases hwq'
      exact s2.cinj q q' hq hq' (hd.resolve_right hqi) (hd'.resolve_right hqi') haq haq' hwq hwq' hc

/-- The first value of a new variable. -/
theorem step_box (f : Fine ops) {j : Nat} (ho : ops[i]? = some o) (hD : ¬ D i) (hr : ∀ p, ordB (Region.before ops) p i = true → D p) (hcl : ∀ p q, ordB (Region.before ops) p q = true → (D q ∨ q = i) → (D p ∨ p = i))
    (go : Goes P ops a0 h0 w0 K Q (fun x => D x ∨ x = i) l) (s : Sim P ops a0 h0 w0 K D done pres prebs rest V c t h a w) (hi : FI.abox j i ∈ rest) : wpOps P ops Q (i :: l) a w := by
  obtain ⟨d', p', pb', rest', V', t', h', s', hin, hm⟩ := s.toPreb f hr hi
  have hie : i ∈ execs rest' := mem_execs (by simp [FI.exec]) hm
  have hje : j ∈ execs rest' := mem_execs (by simp [FI.exec]) hm
  have hoo : ordB (Region.before ops) i i = false := linB_lt s'.lin i (by simp [hie])
  obtain ⟨hb, _⟩ := pre_of_box rest' s'.items hm
  obtain ⟨oj, ok, e, ty, d, x, hj, hk, opj, opk, dj, dk, gj, gk, hx, hord, hne, hoth⟩ := boxI_parts hb
  rw [ho] at hk; cases hk
  have hDj : D j := hr j hord
  have haj : allocI ops j = true := by simp [allocI, hj, opj, isAllocOp]
  have hwi : ∀ V, wantV ops a0 V i = true := fun V => wantV_none ops a0 V ho gk
  have hwj : ∀ V, wantV ops a0 V j = true := fun V => wantV_none ops a0 V hj gj
  obtain ⟨j', oj', ok', e', ty', d2, x', i1, i', z', bp', hi', hrx, hsz, hvs, hone⟩ := s'.prebf i hin hie
  have q1 := bp'.hk; rw [ho] at q1; cases q1
  have q2 := bp'.opk; rw [opk] at q2; cases q2
  have q3 : j' = j := uniq_dst f.uniq (x := d) (by simp [dstOf, bp'.hj, bp'.dj]) (by simp [dstOf, hj, dj])
  subst q3
  have q4 := bp'.hj; rw [hj] at q4; cases q4
  have q5 := bp'.opj; rw [opj] at q5; cases q5
  have s2 := s'.upd hie hD undef
  -- what is known of the block
  have hbox : BoxOk P ops a0 (updV V' i undef) c D h' w j' i := by
    rcases s2.early j' hje hDj with ⟨o', ho', hf, _⟩ | ⟨_, rr, hr'⟩ | ⟨k', hk', hb'⟩ | ⟨j2, hj2, hDj2⟩
    · rw [hj] at ho'; cases ho'; rw [opj] at hf; cases hf
    · have := s2.distinct (q := j') (by simp [FI.exec]) (by simp [FI.exec]) hr' hm; cases this
    · have := s2.distinct (q := j') (by simp [FI.exec]) (by simp [FI.exec]) hk' hm
      injection this with _ e2
      subst e2; exact hb'
    · obtain ⟨ty2, ad2, x2, hop2⟩ := store_of_box s2.items hj2 hj
      rw [opj] at hop2; cases hop2
  obtain ⟨oj2, ok2, e2, ty2, d3, x2, ii, z, bp, b1, b2, b3, b4⟩ := hbox
  have q1 := bp.hj; rw [hj] at q1; cases q1
  have q1 := bp.hk; rw [ho] at q1; cases q1
  have q1 := bp.opj; rw [opj] at q1; cases q1
  have q1 := bp.opk; rw [opk] at q1; cases q1
  have hzz : z = z' := by have h1 := bp.hi; have h2 := bp'.hi; rw [h1] at h2; cases h2; have h3 := bp.hz; have h4 := bp'.hz; rw [h3] at h4; cases h4; rfl
  subst hzz
  have hcell := b3 hD
  have hcj : c j' < w.heap.size := s2.clt j' hje hDj haj (hwj _)
  -- the machine
  have hsee := s'.seeAll f ho hD hr
  have hea : a.eval (.tmp d) = .pointer (some ⟨c j', 0, none⟩) := by
    have h1 : srcOf ops d = some j' := src_of_dst f.uniq (by simp [dstOf, hj, dj])
    have h2 : a.eval (.tmp d) = cur ops a0 (updV V' i undef) D d := s2.frame d
    rw [h2]
    unfold cur
    rw [h1]
    simp only
    rw [b1, if_pos ⟨hDj, hi'.1⟩]
  have hex : a.eval x = opv ops a0 V' i x := hsee x (by rw [opk]; simp [Op.operands])
  have hst := run_storeCells_at P (c j') 0 e (opv ops a0 V' i x).cells.toList 0 z.cells w hcell (by simp only [Nat.zero_add, Array.length_toList]; rw [hvs, hsz]; exact Nat.le_refl _) hone
  have hall : (z.cells.toList.take (0 + 0) ++ (opv ops a0 V' i x).cells.toList ++ z.cells.toList.drop (0 + 0 + (opv ops a0 V' i x).cells.toList.length)).toArray = (opv ops a0 V' i x).cells := by
    rw [List.drop_eq_nil_of_le (by simp only [Nat.zero_add, Array.length_toList]; rw [hvs, hsz]; exact Nat.le_refl _)]
    simp
  rw [hall] at hst
  have hrun : (execOp a.eval o).run P w = .ok .skip (w.setRow (c j') (opv ops a0 V' i x).cells) := by
    obtain ⟨dst, op, ty0, pos, after, guard⟩ := o
    simp only at opk
    subst opk
    simp [execOp, Instr.storeAt, hea, Instr.sureAddr, storeVar, sizeOf, typeInfo, hi'.2, hex, hvs, hst]
  refine wpOps_of ho ((s'.wanted f ho hD hr).trans (hwi _)) (fun _ => ?_) (fun hh => (by cases hh))
  have hoth2 : ∀ y, y ≠ c j' → (w.setRow (c j') (opv ops a0 V' i x).cells).heap[y]? = w.heap[y]? := fun y hy => setRow_other w _ y _ hy
  have hge := s2.cge j' hje hDj haj (hwj _)
  have hfra : Fra h' h' w (w.setRow (c j') (opv ops a0 V' i x).cells) → True := fun _ => trivial
  have := go (s2.did f ho hD hcl (w' := w.setRow (c j') (opv ops a0 V' i x).cells) (Rel.other s2.rel b2 hoth2) ?_ (fun q hq hd => ?_) (fun q hq hd haq hwq => ?_) (fun q q' hq hq' hd hd' haq haq' hwq hwq' hc => ?_))
  · rw [updV_self] at this
    unfold Oper.wp
    rw [hrun]
    exact this
  · have f0 := s2.fra
    refine ⟨f0.os, f0.tape, f0.output, by simpa using f0.size, fun y hy hn => ?_, f0.ro⟩
    obtain ⟨k1, k2⟩ := f0.keep y hy hn
    exact ⟨(hoth2 y (by omega)).trans k1, k2⟩
  · by_cases hqi : q = i
    · subst hqi
      exact .inr (.inr (.inr ⟨j', hm, .inl hDj⟩))
    · have hDq := hd.resolve_right hqi
      by_cases hqj : q = j'
      · subst hqj
        refine .inr (.inr (.inl ⟨i, hm, oj, o, e, ty, _, x, ii, z, bp, b1, b2, fun hh => absurd (.inr rfl) hh, fun _ => ?_⟩))
        rw [opv_upd _ hoo]
        exact setRow_heap w _ _ _ e (0, 0) hcell
      · refine s2.keepEarly2 (fun k hk e => ?_) hq hDq (fun haq hwq => hoth2 _ fun e => ?_)
        · subst e
          have := s2.distinct (q := k) (by simp [FI.exec]) (by simp [FI.exec]) hk hm
          injection this with e1 _
          exact hqj e1
        · exact hqj (s2.cinj q j' hq hje hDq hDj haq haj hwq (hwj _) e)
  · have hqi : q ≠ i := fun e => by subst e; simp [allocI, ho, opk, isAllocOp] at haq
    have hDq := hd.resolve_right hqi
    exact ⟨by simpa using s2.clt q hq hDq haq hwq, s2.cge q hq hDq haq hwq⟩
  · have hqi : q ≠ i := fun e => by subst e; simp [allocI, ho, opk, isAllocOp] at haq
    have hqi' : q' ≠ i := fun e => by subst e; simp [allocI, ho, opk, isAllocOp] at haq'
    exact s2.cinj q q' hq hq' (hd.resolve_right hqi) (hd'.resolve_right hqi') haq haq' hwq hwq' hc

end
end Go.HL
