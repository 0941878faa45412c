/- Whatever the code, the law of results answers true: points of all teams are twice the meetings played, rankings have all teams, and the teams with the most points can be first when all rounds are played; no condition. -/
import Derived.Test.YthkbodgpcjcndaaKdx19
/- Regions whose order is open, X: what the machine does next, the one order follows; the whole. -/
set_option linter.unusedVariables false
set_option linter.unusedSimpArgs false
namespace Go.HL
open Classical
section
variable {P : Program} {ops : Array Oper} {a0 : Array Value} {h0 : Heap} {w0 : World} {K : List Value → Heap → Prop}
variable {D : Nat → Prop} {done pres prebs : List Nat} {rest r : List FI} {V : Nat → Value} {c : Nat → Nat} {t : List Value} {h : Heap} {a : Act} {w w' : World}
variable {Q : Exit → Act → World → Prop} {i : Nat} {l : List Nat} {o : Oper}

theorem gate_ord {B : Array Nat} {i : Nat} {done : List Nat} (h : gateB ops B i done = true) {m : Nat} (hm : m ∈ done) (hl : lightI ops m = false) : ordB B m i = true := by
  have := List.all_eq_true.1 h m hm
  simpa [hl] using this

/-- The one order comes to an operation that changes nothing, or that both do at once. -/
theorem Sim.toOp (f : Fine ops) (s : Sim P ops a0 h0 w0 K D done pres prebs rest V c t h a w) (hr : ∀ p, ordB (Region.before ops) p i = true → D p) (hf : freeI ops i = false) (ha : allocI ops i = false)
    (hi : ∃ rr, FI.op i rr ∈ rest) : ∃ done' pres' prebs' rr r V' t' h', Sim P ops a0 h0 w0 K D done' pres' prebs' (.op i rr :: r) V' c t' h' a w := by
  obtain ⟨d', p', pb', rest', V', t', h', s', rr, r, rfl⟩ := Sim.till f (fun _ _ _ rest => ∃ rr r, rest = FI.op i rr :: r) (fun _ _ _ rest => ∃ rr, FI.op i rr ∈ rest) (D := D)
    (fun done pres prebs it r hit hw => by
      obtain ⟨rr, hm⟩ := hw
      rcases List.mem_cons.1 hm with e | hm'
      · exact .inl ⟨rr, r, by rw [e]⟩
      · refine .inr ⟨fun m hmm hl => hr m ?_, rr, hm'⟩
        have hit' : ∃ pres' prebs', itemsB ops (Region.before ops) (done ++ it.exec) pres' prebs' r = true := by
          cases it <;> simp only [itemsB, Bool.and_eq_true] at hit
          · exact ⟨_, _, hit.2⟩
          · exact ⟨_, _, by simpa [FI.exec] using hit.2⟩
          · exact ⟨_, _, by simpa [FI.exec] using hit.2⟩
          · exact ⟨_, _, hit.2⟩
          · exact ⟨_, _, by simpa [FI.exec] using hit⟩
          · exact ⟨_, _, by simpa [FI.exec] using hit⟩
        obtain ⟨p', pb', hit'⟩ := hit'
        exact gate_ord (gate_op hf ha r hit' hm') (by simp [hmm]) hl)
    (fun _ _ _ ⟨rr, hm⟩ => by cases hm) rest s hi
  exact ⟨d', p', pb', rr, r, V', t', h', s'⟩

theorem step_light (f : Fine ops) (ho : ops[i]? = some o) (hD : ¬ D i) (hr : ∀ p, ordB (Region.before ops) p i = true → D p) (hcl : ∀ p q, ordB (Region.before ops) p q = true → (D q ∨ q = i) → (D p ∨ p = i))
    (go : Goes P ops a0 h0 w0 K Q (fun x => D x ∨ x = i) l) (s : Sim P ops a0 h0 w0 K D done pres prebs rest V c t h a w) (hi : ∃ rr, FI.op i rr ∈ rest) (hl : isLight o.op = true) (hf : isFree o.op = false) : wpOps P ops Q (i :: l) a w := by
  have hna : allocI ops i = false := by
    cases hh : allocI ops i with
    | false => rfl
    | true => simp only [allocI, ho] at hh; rw [alloc_not_light hh] at hl; cases hl
  obtain ⟨d', p', pb', rr, r, V', t', h', s'⟩ := s.toOp f hr (by simp [freeI, ho, hf]) hna hi
  obtain ⟨V2, t2, s2⟩ := s'.passLight f (by simp [lightI, ho, hl])
  exact step_late f ho hD hr hcl go s2 (by simp)


/-- The guard, told by what is seen. -/
theorem guard_gen (f : Fine ops) {t : List Value} {b : Bool} (ho : ops[i]? = some o) (hle : ∀ x ∈ looks ops i, Le (t.getD x undef) (opvT ops a0 V i x)) (hg : guardOf ops o t = some b) : wantV ops a0 V i = b := by
  unfold guardOf at hg
  unfold wantV
  rw [ho]
  cases hgd : o.guard with
  | none => simp only [hgd, Option.some.injEq] at hg ⊢; exact hg
  | some gw =>
    obtain ⟨g, want⟩ := gw
    obtain ⟨_, d, hd, hs, hl⟩ := f.guard_of ho hgd
    simp only [hgd] at hg ⊢
    cases hog : ops[g]? with
    | none => simp [hog] at hg
    | some og =>
      have hd' : og.dst = some d := by unfold dstOf at hd; rw [hog] at hd; exact hd
      simp only [hog, hd'] at hg
      simp only [hd]
      have hle' := hle d hl
      split at hg
      · rename_i x hx
        rw [hx] at hle'
        rw [← hle'.eq rfl]
        cases hg
        rfl
      · rename_i hx
        rw [hx] at hle'
        rw [hle'.none]
        cases hg
        rfl
      · cases hg

theorem rrAnd_mem {t : List Value} {h : Heap} {p : Prop} : ∀ {l : List Nat}, rrAnd P ops t h p l → ∀ q ∈ l, rrOne P ops q t h
  | [], _, q, hq => by cases hq
  | x :: l, s, q, hq => by
    rcases List.mem_cons.1 hq with rfl | hq
    · exact s.1
    · exact rrAnd_mem s.2 q hq

/-- The frame behind one operation of the machine's. -/
theorem Sim.frameD (f : Fine ops) (s : Sim P ops a0 h0 w0 K D done pres prebs rest V c t h a w) (ho : ops[i]? = some o) :
    ∀ x, (a.put o.dst (V i)).tmps.getD x undef = cur ops a0 V (fun x => D x ∨ x = i) x := by
  intro x
  have hdo : dstOf ops i = o.dst := by simp [dstOf, ho]
  have hother : dstOf ops i ≠ some x → cur ops a0 V (fun x => D x ∨ x = i) x = cur ops a0 V D x := by
    intro hne
    unfold cur
    cases hs : srcOf ops x with
    | none => rfl
    | some p =>
      simp only
      have hpi : p ≠ i := fun e => hne (e ▸ (srcOf_some hs).1)
      by_cases hp : D p
      · by_cases hx : x < a0.size
        · rw [if_pos ⟨.inl hp, hx⟩, if_pos ⟨hp, hx⟩]
        · rw [if_neg (fun hh => hx hh.2), if_neg (fun hh => hx hh.2)]
      · rw [if_neg (fun hh => hh.1.elim hp hpi), if_neg (fun hh => hp hh.1)]
  cases hd : o.dst with
  | none => rw [hother (by rw [hdo, hd]; simp)]; exact s.frame x
  | some d =>
    simp only [Act.put]
    by_cases hxd : x = d
    · subst hxd
      rw [cur_new f (i := i) (by rw [hdo, hd]) (.inr rfl)]
      rw [Array.getD_eq_getD_getElem?, Array.getElem?_setIfInBounds]
      simp only [if_true]
      rw [← s.size]
      by_cases hl : x < a.tmps.size
      · simp [hl]
      · rw [if_neg hl, if_neg hl]
        have h1 : ¬ x < a0.size := by rw [← s.size]; exact hl
        simp [Array.getD_eq_getD_getElem?, Array.getElem?_eq_none (Nat.le_of_not_lt h1)]
    · rw [hother (by rw [hdo, hd]; simp; exact fun e => hxd e.symm)]
      rw [← s.frame x, Array.getD_eq_getD_getElem?, Array.getElem?_setIfInBounds, if_neg (fun e => hxd e.symm), ← Array.getD_eq_getD_getElem?]

/-- The one order and the machine do it at once. -/
theorem Sim.both (f : Fine ops) {rr : List Nat} (s : Sim P ops a0 h0 w0 K D done pres prebs (.op i rr :: r) V c t h a w) (ho : ops[i]? = some o) (hD : ¬ D i)
    (hcl : ∀ p q, ordB (Region.before ops) p q = true → (D q ∨ q = i) → (D p ∨ p = i)) {v : Value} {h2 : Heap} {w2 : World} (hle : Le v (V i)) (r2 : Rel h2 w2) (f2 : Fra h h2 w w2) (hs : semF P ops K r (putF t o.dst v) h2)
    (hlate : ∀ q, q ∈ done → ¬ D q → LateOk P ops a0 V h2 q) : Sim P ops a0 h0 w0 K (fun x => D x ∨ x = i) (done ++ [i]) pres prebs r V c (putF t o.dst v) h2 (a.put o.dst (V i)) w2 := by
  have hie : i ∈ execs (.op i rr :: r) := by simp [execs, FI.exec]
  have he : execs (.op i rr :: r) = i :: execs r := by simp [execs, FI.exec]
  have hlin : linB (Region.before ops) ((done ++ [i]) ++ execs r) = true := by have := s.lin; simpa [execs, FI.exec] using this
  have hnr : i ∉ execs r := fun hh => (linB_app hlin i (by simp) i hh).2 rfl
  have hsub : ∀ q, q ∈ execs r → q ∈ execs (.op i rr :: r) := fun q hq => by rw [he]; simp [hq]
  have hit := s.items
  simp only [itemsB, Bool.and_eq_true] at hit
  have hD1 : ∀ q, q ∈ execs r → (D q ∨ q = i) → D q := fun q hq hd => hd.resolve_right fun e => hnr (e ▸ hq)
  have hm : ∀ {it : FI} {q : Nat}, q ∈ execs r → q ∈ it.exec → it ∈ FI.op i rr :: r → it ∈ r := fun {it q} hq hqe hmm => by
    rcases List.mem_cons.1 hmm with e | hmm
    · subst e
      simp only [FI.exec, List.mem_singleton] at hqe
      exact absurd (hqe ▸ hq) hnr
    · exact hmm
  have hfresh : ∀ q, c q < w.heap.size → h.fresh (c q) → h2.fresh (c q) ∧ w2.heap[c q]? = w.heap[c q]? := fun q hlt hf => by
    obtain ⟨k1, k2⟩ := f2.keep (c q) hlt hf.1
    exact ⟨⟨k2, by rw [f2.ro]; exact hf.2⟩, k1⟩
  refine { items := hit.2, lin := hlin, cover := fun q hq => ?_, inn := fun q hq => s.inn q (by rw [he]; simpa using hq), closed := fun p q hp hq => hcl p q hp hq, defers := by rw [Act.put_defers']; exact s.defers, size := (size_put a o.dst _).trans s.size,
           frame := s.frameD f ho, tlen := (putF_length _ _ _).trans s.tlen, tfr := s.putT f ho hle, rel := r2, sync := fun q hq hl hd => ?_, late := fun q hq hn => ?_, early := fun q hq hd => ?_, pref := fun q hq hr => ?_, prebf := fun q hq hr => ?_,
           clt := fun q hq hd ha hw => Nat.lt_of_lt_of_le (s.clt q (hsub q hq) (hD1 q hq hd) ha hw) f2.size, cinj := fun q q' hq hq' hd hd' => s.cinj q q' (hsub q hq) (hsub q' hq') (hD1 q hq hd) (hD1 q' hq' hd'),
           fra := s.fra.trans f2, cge := fun q hq hd ha hw => s.cge q (hsub q hq) (hD1 q hq hd) ha hw, sem := hs }
  · rcases s.cover q hq with h | h
    · exact .inl (by simp [h])
    · rw [he] at h
      rcases List.mem_cons.1 h with rfl | h
      · exact .inl (by simp)
      · exact .inr h
  · rcases List.mem_append.1 hd with hd | hd
    · exact .inl (s.sync q hq hl hd)
    · exact .inr (by simpa using hd)
  · rcases List.mem_append.1 hq with hq | hq
    · exact hlate q hq fun hh => hn (.inl hh)
    · exact absurd (.inr (by simpa using hq)) hn
  · have hDq := hD1 q hq hd
    have hqe := hsub q hq
    rcases s.early q hqe hDq with ⟨oq, hoq, hfq, hg1, hg2⟩ | ⟨⟨oq, hoq, haq, h3, h4⟩, rr', hr⟩ | ⟨k, hk, oj, ok, e, ty, d, x, ii, z, bp, b1, b2, b3, b4⟩ | ⟨j, hj, hDj⟩
    · refine .inl ⟨oq, hoq, hfq, fun hw => ?_, hg2⟩
      rw [← hg1 hw]
      refine evalL_noload ?_ _ _ _
      cases hop : oq.op <;> rw [hop] at hfq <;> simp [isFree] at hfq <;> rfl
    · refine .inr (.inl ⟨⟨oq, hoq, haq, fun hw => ?_, h4⟩, rr', hm hq (by simp [FI.exec]) hr⟩)
      obtain ⟨cs, mk, e, g1, g2, g3, g4⟩ := h3 hw
      obtain ⟨k1, k2⟩ := hfresh q (s.clt q hqe hDq (by simp [allocI, hoq, haq]) hw) g3
      exact ⟨cs, mk, e, g1, k2.trans g2, k1, g4⟩
    · have hal : allocI ops q = true := by simp [allocI, bp.hj, bp.opj, isAllocOp]
      obtain ⟨k1, k2⟩ := hfresh q (s.clt q hqe hDq hal (wantV_none _ _ _ bp.hj bp.gj)) b2
      have hkr := hm hq (by simp [FI.exec]) hk
      have hki : k ≠ i := fun e => hnr (e ▸ mem_execs (by simp [FI.exec]) hkr)
      exact .inr (.inr (.inl ⟨k, hkr, oj, ok, e, ty, d, x, ii, z, bp, b1, k1, fun hn => k2.trans (b3 fun hh => hn (.inl hh)), fun hd => k2.trans (b4 (hd.resolve_right hki))⟩))
    · exact .inr (.inr (.inr ⟨j, hm hq (by simp [FI.exec]) hj, .inl hDj⟩))
  · obtain ⟨hrd, hx⟩ := s.pref q hq (hsub q hr)
    exact ⟨fun x hx p hp ho => by simp [hrd x hx p hp ho], hx⟩
  · obtain ⟨j, oj, ok, e, ty, d, x, ii, ii', z, bp, hi', hrd, hx⟩ := s.prebf q hq (hsub q hr)
    exact ⟨j, oj, ok, e, ty, d, x, ii, ii', z, bp, hi', fun y hy p hp ho => by simp [hrd y hy p hp ho], hx⟩

/-- What is read late is still there. -/
theorem Sim.lateKeep (f : Fine ops) {rr : List Nat} (s : Sim P ops a0 h0 w0 K D done pres prebs (.op i rr :: r) V c t h a w) (ho : ops[i]? = some o) (hD : ¬ D i) (hr : ∀ p, ordB (Region.before ops) p i = true → D p)
    (hl : lightI ops i = false) (ha : allocI ops i = false) {v : Value} {h2 : Heap} {p : Prop} (hle : Le v (V i)) (hrr : rrAnd P ops (putF t o.dst v) h2 p rr) {q : Nat} (hq : q ∈ done) (hDq : ¬ D q) : LateOk P ops a0 V h2 q := by
  have hlate := s.late q hq hDq
  obtain ⟨oq, hoq, hlq, hg1, hg2⟩ := hlate
  cases hld : isLoad oq.op with
  | false => exact ⟨oq, hoq, hlq, fun hw => by rw [evalL_noload hld _ _ h]; exact hg1 hw, hg2⟩
  | true =>
    have hit := s.items
    simp only [itemsB, Bool.and_eq_true, hl, ha, Bool.false_or] at hit
    have hb := List.all_eq_true.1 hit.1.2 q hq
    have hnord : ordB (Region.before ops) q i = false := by
      cases hh : ordB (Region.before ops) q i with
      | false => rfl
      | true => exact absurd (hr q hh) hDq
    simp only [loadI, hoq, hld, hnord, Bool.not_true, Bool.false_or, Bool.and_eq_true, List.contains_eq_mem, decide_eq_true_eq] at hb
    obtain ⟨hqr, hst⟩ := hb
    have hie : i ∈ execs (.op i rr :: r) := by simp [execs, FI.exec]
    have hqi : ordB (Region.before ops) i q = false := (s.ord_rest hie hq).1
    have hqne : i ≠ q := (s.ord_rest hie hq).2
    have hqs : q < ops.size := (Array.getElem?_eq_some_iff.1 hoq).1
    have htfr := s.putT f ho hle
    have hlin : linB (Region.before ops) ((done ++ [i]) ++ execs r) = true := by have := s.lin; simpa [execs, FI.exec] using this
    -- what its operands show now
    have hsee : ∀ x ∈ looks ops q, Le ((putF t o.dst v).getD x undef) (opvT ops a0 V q x) := by
      intro x hx
      refine (htfr x).trans ?_
      unfold cur opvT
      cases hs : srcOf ops x with
      | none => exact Le.refl _
      | some p =>
        simp only
        have hpl := (srcOf_some hs).2
        have hpd := (srcOf_some hs).1
        by_cases hpin : p ∈ done
        · have h3 := List.all_eq_true.1 (List.all_eq_true.1 hst x hx) p hpin
          simp only [hpd, bne_self_eq_false, Bool.false_or] at h3
          by_cases hxs : x < a0.size
          · rw [if_pos ⟨by simp [hpin], hxs⟩, if_pos ⟨h3, hxs⟩]; exact Le.refl _
          · rw [if_neg (fun hh => hxs hh.2), if_neg (fun hh => hxs hh.2)]; exact Le.refl _
        · have hpi : p ≠ i := fun e => by
            subst e
            rcases uniq_looks f.uniq hqs hs hx hqne with h3 | h3
            · rw [hqi] at h3; cases h3
            · rw [hnord] at h3; cases h3
          have hnot : p ∉ done ++ [i] := by simp [hpin, hpi]
          have hpe : p ∈ execs r := by
            rcases s.cover p hpl with h3 | h3
            · exact absurd h3 hpin
            · have : execs (FI.op i rr :: r) = i :: execs r := by simp [execs, FI.exec]
              rw [this] at h3
              exact (List.mem_cons.1 h3).resolve_left hpi
          have hno : ordB (Region.before ops) p q = false := (linB_app hlin q (by simp [hq]) p hpe).1
          rw [if_neg (fun hh => hnot hh.1), if_neg (fun hh => by rw [hno] at hh; cases hh.1)]; exact Le.refl _
    have h1 := rrAnd_mem hrr q hqr
    unfold rrOne at h1
    simp only [hoq] at h1
    refine ⟨oq, hoq, hlq, fun hw => ?_, hg2⟩
    cases hd : oq.dst with
    | none => simp [hd] at h1
    | some d =>
      simp only [hd] at h1
      cases hgd : guardOf ops oq (putF t o.dst v) with
      | none => simp [hgd] at h1
      | some b =>
        have hwb := guard_gen f hoq hsee hgd
        rw [hw] at hwb
        subst hwb
        simp only [hgd] at h1
        cases hdef : isDef ((putF t o.dst v).getD d undef) with
        | false => rw [hdef] at h1; exact h1.elim
        | true =>
          rw [hdef] at h1
          simp only [cond_true] at h1
          replace h1 := rdEq_eval h1
          rw [evalL_congr h2 (ρ' := res oq (ev (putF t o.dst v))) res_eq] at h1
          have hle2 : ∀ x, Le (res oq (ev (putF t o.dst v)) x) (res oq (opv ops a0 V q) x) :=
            res_le (ops := ops) (fun x hx => hsee x (by simpa [looks, hoq] using hx)) (fun x hx => by cases x <;> first | rfl | exact absurd rfl (hx _))
          obtain ⟨v', h3, h4⟩ := evalL_mono hle2 h1
          rw [← evalL_congr h2 (ρ := opv ops a0 V q) res_eq] at h3
          have h5 := htfr d
          have hdq : dstOf ops q = some d := by simp [dstOf, hoq, hd]
          rw [cur_new f (i := q) hdq (by simp [hq])] at h5
          have h6 := h4.eq hdef
          split at h5
          · rw [h3, ← h6, h5.eq hdef]
          · rename_i hns
            have : (putF t o.dst v).getD d undef = undef := by
              have hln : (putF t o.dst v).length = a0.size := (putF_length _ _ _).trans s.tlen
              rw [List.getD_eq_getElem?_getD, List.getElem?_eq_none (by omega)]; rfl
            rw [this] at hdef
            simp [isDef, Go.undef] at hdef

/-- Both do it at once. -/
theorem step_sync (f : Fine ops) (ho : ops[i]? = some o) (hD : ¬ D i) (hr : ∀ p, ordB (Region.before ops) p i = true → D p) (hcl : ∀ p q, ordB (Region.before ops) p q = true → (D q ∨ q = i) → (D p ∨ p = i))
    (go : Goes P ops a0 h0 w0 K Q (fun x => D x ∨ x = i) l) (s : Sim P ops a0 h0 w0 K D done pres prebs rest V c t h a w) (hi : ∃ rr, FI.op i rr ∈ rest) (hl : isLight o.op = false) (hna : isAllocOp o.op = false) : wpOps P ops Q (i :: l) a w := by
  have hnf : isFree o.op = false := by
    cases hh : isFree o.op with
    | false => rfl
    | true => rw [free_light hh] at hl; cases hl
  obtain ⟨d', p', pb', rr, r, V', t', h', s'⟩ := s.toOp f hr (by simp [freeI, ho, hnf]) (by simp [allocI, ho, hna]) hi
  have hie : i ∈ execs (.op i rr :: r) := by simp [execs, FI.exec]
  have hoo : ordB (Region.before ops) i i = false := linB_lt s'.lin i (by simp [hie])
  have hit := s'.items
  simp only [itemsB, Bool.and_eq_true] at hit
  obtain ⟨⟨⟨hrd, _⟩, hrrs⟩, hrest⟩ := hit
  have hrd' := ready_of hrd
  obtain ⟨o', ho', g, hg, h1, h2⟩ := s'.sem
  rw [ho] at ho'; cases ho'
  have hw := s'.guardT f ho hie hrd' hg
  have hnl : lightI ops i = false := by simp [lightI, ho, hl]
  have hnal : allocI ops i = false := by simp [allocI, ho, hna]
  refine wpOps_of ho ((s'.wanted f ho hD hr).trans hw) (fun hgt => ?_) (fun hgf => ?_)
  · subst hgt
    rcases h1 rfl with ⟨hn, _⟩ | ⟨_, hx⟩
    · rw [hl] at hn; cases hn
    · rw [semX_congr (ρ' := res o (ev t')) res_eq] at hx
      have hx2 := semX_sound (Q := Q) (a := a) hx (fun x => (s'.resT f ho hie hrd' x).trans (s'.resSee f ho hD hr x)) s'.rel
      refine Oper.wp_mono ?_ hx2
      rintro a1 w1 ⟨v, v', hh2, rfl, hle, r1, f1, hk⟩
      have s2 := s'.upd hie hD v'
      have hle' : Le v (updV V' i v' i) := by rw [updV_self]; exact hle
      have := go (s2.both f ho hD hcl hle' r1 f1 (rrAnd_end hk) (fun q hq hDq => s2.lateKeep f ho hD hr hnl hnal hle' hk hq hDq))
      rwa [updV_self] at this
  · subst hgf
    have s2 := s'.upd hie hD undef
    have := go (s2.both f ho hD hcl (v := undef) (by rw [updV_self]; exact Le.refl _) s2.rel (Fra.refl _ _) (h2 rfl) (fun q hq hDq => s2.late q hq hDq))
    rwa [updV_self] at this

end
end Go.HL
