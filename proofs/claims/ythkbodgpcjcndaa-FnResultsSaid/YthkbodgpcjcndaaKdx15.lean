/- Whatever the code, the law of results answers true: points of all teams are twice the meetings played, rankings have all teams, and the teams with the most points can be first when all rounds are played; no condition. -/
import Derived.Test.YthkbodgpcjcndaaKdx14
/- Regions whose order is open, V: the one order goes on. -/
set_option linter.unusedVariables false
set_option linter.unusedSimpArgs false
namespace Go.HL
open Classical
section
variable {P : Program} {ops : Array Oper} {a0 : Array Value} {h0 : Heap} {w0 : World} {K : List Value → Heap → Prop}
variable {D : Nat → Prop} {done pres prebs : List Nat} {rest r : List FI} {V : Nat → Value} {c : Nat → Nat} {t : List Value} {h : Heap} {a : Act} {w : World}

/-- What the checks of a region give. -/
structure Fine (ops : Array Oper) : Prop where
  uniq : uniqB ops (Region.before ops) = true
  guard : guardB ops (Region.before ops) = true
  edges : edgesB ops (Region.before ops) = true
  nosel : Region.noSelect ops = true

theorem Fine.guard_of (f : Fine ops) {j g : Nat} {want : Bool} {o : Oper} (ho : ops[j]? = some o) (hg : o.guard = some (g, want)) :
    ordB (Region.before ops) g j = true ∧ ∃ d, dstOf ops g = some d ∧ srcOf ops d = some g ∧ d ∈ looks ops j := by
  have hj : j < ops.size := (Array.getElem?_eq_some_iff.1 ho).1
  have h1 := List.all_eq_true.1 f.guard j (by simpa using hj)
  simp only [ho, hg, Bool.and_eq_true] at h1
  obtain ⟨d, hd⟩ := Option.isSome_iff_exists.1 h1.2
  refine ⟨h1.1, d, hd, src_of_dst f.uniq hd, ?_⟩
  simp only [looks, ho, Oper.looksAt, hg, List.mem_append]
  refine .inr ?_
  unfold dstOf at hd
  rw [hd]
  simp

theorem ready_of {B : Array Nat} {i : Nat} {done : List Nat} (h : readyB ops B i none done = true) : ∀ x ∈ looks ops i, ∀ p, srcOf ops x = some p → ordB B p i = true → p ∈ done := by
  intro x hx p hp ho
  have := List.all_eq_true.1 h x hx
  simp only [hp, ho] at this
  simpa using this
theorem ready_but {B : Array Nat} {i : Nat} {b : Option Nat} {done : List Nat} (h : readyB ops B i b done = true) : ∀ x ∈ looks ops i, some x ≠ b → ∀ p, srcOf ops x = some p → ordB B p i = true → p ∈ done := by
  intro x hx hb p hp ho
  have := List.all_eq_true.1 h x hx
  simp only [hp, ho] at this
  have hb' : (some x == b) = false := by simpa using hb
  rw [hb'] at this
  simpa using this

/-- The guard, to the one order. -/
theorem Sim.guardT (f : Fine ops) (s : Sim P ops a0 h0 w0 K D done pres prebs rest V c t h a w) {i : Nat} {o : Oper} (ho : ops[i]? = some o) (hi : i ∈ execs rest)
    (hr : ∀ x ∈ looks ops i, ∀ p, srcOf ops x = some p → ordB (Region.before ops) p i = true → p ∈ done) {b : Bool} (hg : guardOf ops o t = some b) : wantV ops a0 V i = b := by
  unfold guardOf at hg
  unfold wantV
  rw [ho]
  cases hgd : o.guard with
  | none => simp only [hgd, Option.some.injEq] at hg ⊢; exact hg
  | some gw =>
    obtain ⟨g, want⟩ := gw
    obtain ⟨_, d, hd, hs, hl⟩ := f.guard_of ho hgd
    simp only [hgd] at hg ⊢
    cases hog : ops[g]? with
    | none => simp [hog] at hg
    | some og =>
      have hd' : og.dst = some d := by unfold dstOf at hd; rw [hog] at hd; exact hd
      simp only [hog, hd'] at hg
      simp only [hd]
      have hle := s.seeT f.uniq hi hl (fun p hp ho => hr d hl p hp ho)
      split at hg
      · rename_i x hx
        rw [hx] at hle
        rw [← hle.eq rfl]
        cases hg
        rfl
      · rename_i hx
        rw [hx] at hle
        rw [hle.none]
        cases hg
        rfl
      · cases hg
/-- The guard, to the machine. -/
theorem Sim.wanted (f : Fine ops) (s : Sim P ops a0 h0 w0 K D done pres prebs rest V c t h a w) {i : Nat} {o : Oper} (ho : ops[i]? = some o) (hD : ¬ D i)
    (hr : ∀ p, ordB (Region.before ops) p i = true → D p) : Region.wanted o (yielded ops a.tmps) = wantV ops a0 V i := by
  have hi : i < ops.size := (Array.getElem?_eq_some_iff.1 ho).1
  unfold Region.wanted wantV
  rw [ho]
  cases hgd : o.guard with
  | none => simp only [hgd]
  | some gw =>
    obtain ⟨g, want⟩ := gw
    obtain ⟨_, d, hd, hs, hl⟩ := f.guard_of ho hgd
    simp only [hgd, hd]
    rw [← s.see f.uniq hi hD hr hl]
    unfold yielded
    have hd' : (ops[g]?).bind (·.dst) = some d := hd
    rw [hd', Option.bind_some]
    rcases Nat.lt_or_ge d a.tmps.size with hlt | hge
    · simp only [Array.getElem?_eq_getElem hlt, Array.getD_eq_getD_getElem?, Option.getD_some]
      generalize a.tmps[d] = u
      cases u <;> rfl
    · simp only [Array.getElem?_eq_none hge, Array.getD_eq_getD_getElem?, Option.getD_none, Go.undef]

/-- An item that makes and runs nothing is passed. -/
theorem Sim.pass {it : FI} (hit : it.exec = []) (s : Sim P ops a0 h0 w0 K D done pres prebs (it :: r) V c t h a w) {pres' prebs' : List Nat} {t' : List Value}
    (hi : itemsB ops (Region.before ops) done pres' prebs' r = true) (htl : t'.length = t.length) (htf : ∀ x, Le (t'.getD x undef) (cur ops a0 V (· ∈ done) x))
    (hp : ∀ i ∈ pres', i ∉ pres → i ∈ execs r → PreOk P ops a0 V done i) (hpb : ∀ k ∈ prebs', k ∉ prebs → k ∈ execs r → PrebOk P ops a0 V done k) (hs : semF P ops K r t' h) :
    Sim P ops a0 h0 w0 K D done pres' prebs' r V c t' h a w := by
  have he : execs (it :: r) = execs r := by simp [execs, hit]
  have hm1 : ∀ i rr, FI.op i rr ∈ it :: r → FI.op i rr ∈ r := fun i rr hm => by
    rcases List.mem_cons.1 hm with e | hm
    · subst e; simp [FI.exec] at hit
    · exact hm
  have hm2 : ∀ i k, FI.abox i k ∈ it :: r → FI.abox i k ∈ r := fun i rr hm => by
    rcases List.mem_cons.1 hm with e | hm
    · subst e; simp [FI.exec] at hit
    · exact hm
  refine { items := hi, lin := he ▸ s.lin, cover := fun i hi => he ▸ s.cover i hi, inn := fun i hi => s.inn i (he ▸ hi), closed := s.closed, defers := s.defers, size := s.size, frame := s.frame, tlen := htl.trans s.tlen, tfr := htf,
           rel := s.rel, sync := s.sync, late := s.late, early := ?_, pref := ?_, prebf := ?_, clt := fun i hi => s.clt i (he ▸ hi), cinj := fun i j hi hj => s.cinj i j (he ▸ hi) (he ▸ hj), fra := s.fra, cge := fun i hi => s.cge i (he ▸ hi), sem := hs }
  · intro i hi hD
    rcases s.early i (he ▸ hi) hD with h1 | ⟨h1, rr, h2⟩ | ⟨k, h1, h2⟩ | ⟨j, h1, h2⟩
    · exact .inl h1
    · exact .inr (.inl ⟨h1, rr, hm1 _ _ h2⟩)
    · exact .inr (.inr (.inl ⟨k, hm2 _ _ h1, h2⟩))
    · exact .inr (.inr (.inr ⟨j, hm2 _ _ h1, h2⟩))
  · intro i hi hr
    by_cases hin : i ∈ pres
    · exact s.pref i hin (he ▸ hr)
    · exact hp i hi hin hr
  · intro i hi hr
    by_cases hin : i ∈ prebs
    · exact s.prebf i hin (he ▸ hr)
    · exact hpb i hi hin hr

theorem getD_set {t : List Value} {x y : Nat} {v : Value} : (t.set x v).getD y undef = if y = x ∧ x < t.length then v else t.getD y undef := by
  simp only [List.getD_eq_getElem?_getD, List.getElem?_set]
  by_cases h : x = y
  · subst h
    by_cases hl : x < t.length
    · simp [hl]
    · simp [hl]
  · have : ¬ (y = x ∧ x < t.length) := fun hh => h hh.1.symm
    rw [if_neg h, if_neg this]

theorem Sim.passSplit {x : Nat} (s : Sim P ops a0 h0 w0 K D done pres prebs (.split x :: r) V c t h a w) : ∃ t', Sim P ops a0 h0 w0 K D done pres prebs r V c t' h a w :=
  ⟨_, s.pass rfl (by simpa [itemsB] using s.items) rfl s.tfr (fun i hi hn => absurd hi hn) (fun i hi hn => absurd hi hn) s.sem⟩

theorem Sim.passForget {mk : List Nat} (s : Sim P ops a0 h0 w0 K D done pres prebs (.forget mk :: r) V c t h a w) : ∃ t', Sim P ops a0 h0 w0 K D done pres prebs r V c t' h a w := by
  obtain ⟨t1, h1, h2, _, hs⟩ := s.sem
  exact ⟨_, s.pass rfl (by simpa [itemsB] using s.items) h1 (fun y => (h2 y).trans (s.tfr y)) (fun i hi hn => absurd hi hn) (fun i hi hn => absurd hi hn) hs⟩

theorem ev_le {t : List Value} {ρ : Nat → Value} : True := trivial

/-- Everything of it that the one order sees, the values say. -/
theorem Sim.resT (f : Fine ops) (s : Sim P ops a0 h0 w0 K D done pres prebs rest V c t h a w) {i : Nat} {o : Oper} (ho : ops[i]? = some o) (hi : i ∈ execs rest)
    (hr : ∀ x ∈ looks ops i, ∀ p, srcOf ops x = some p → ordB (Region.before ops) p i = true → p ∈ done) : ∀ x, Le (res o (ev t) x) (res o (opv ops a0 V i) x) :=
  res_le (ops := ops) (fun x hx => s.seeT f.uniq hi (by simpa [looks, ho] using hx) (fun p hp hb => hr x (by simpa [looks, ho] using hx) p hp hb)) (fun x hx => by cases x <;> first | rfl | exact absurd rfl (hx _))

theorem AllocRun.mono {o : Oper} {ρ ρ' : Operand → Value} {cs : List Value} {mk : Nat → Value} {e : TypeId} (h : AllocRun P o ρ cs mk e) (hρ : ∀ x, Le (ρ x) (ρ' x)) : AllocRun P o ρ' cs mk e :=
  fun ρ2 h2 w => h ρ2 (fun x => (hρ x).trans (h2 x)) w

theorem Sim.passPre (f : Fine ops) {i : Nat} (s : Sim P ops a0 h0 w0 K D done pres prebs (.pre i :: r) V c t h a w) : ∃ t', Sim P ops a0 h0 w0 K D done (i :: pres) prebs r V c t' h a w := by
  obtain ⟨o, ho, g, hg, h1, h2⟩ := s.sem
  have hit := s.items
  simp only [itemsB, Bool.and_eq_true] at hit
  obtain ⟨⟨⟨hrd, hgt⟩, hal⟩, hrest⟩ := hit
  have hrd' := ready_of hrd
  have hal' : isAllocOp o.op = true := by simpa [allocI, ho] using hal
  have hs : semF P ops K r t h := by
    cases g with
    | true => exact (preThen_run (o := o) (h1 rfl)).1
    | false => exact h2 rfl
  refine ⟨t, s.pass rfl hrest rfl s.tfr (fun j hj hn hjr => ?_) (fun k hk hn => absurd hk hn) hs⟩
  have hji : j = i := by simpa [hn] using hj
  subst hji
  have hje : j ∈ execs (.pre j :: r) := by simpa [execs, FI.exec] using hjr
  refine ⟨hrd', o, ho, hal', fun hw => ?_⟩
  have hgt := s.guardT f ho hje hrd' hg
  rw [hw] at hgt
  subst hgt
  have h3 := h1 rfl
  rw [preThen_congr (ρ' := res o (ev t)) res_eq] at h3
  obtain ⟨_, _, cs, mk, e, h4⟩ := preThen_run h3
  exact ⟨cs, mk, e, h4.mono (s.resT f ho hje hrd')⟩

theorem boxI_parts {B : Array Nat} {j k : Nat} (h : boxI ops B j k = true) : ∃ oj ok e ty d x, ops[j]? = some oj ∧ ops[k]? = some ok ∧ oj.op = .alloc e ∧ ok.op = .store ty (.tmp d) x ∧ oj.dst = some d ∧ ok.dst = none ∧ oj.guard = none ∧ ok.guard = none ∧
    x ≠ .tmp d ∧ ordB B j k = true ∧ j ≠ k ∧ ∀ m, m < ops.size → m ≠ k → d ∉ looks ops m := by
  unfold boxI at h
  split at h
  · rename_i oj ok hj hk
    split at h
    · rename_i e ty d x d' h1 h2 h3 h4 h5 h6
      simp only [Bool.and_eq_true, beq_iff_eq, bne_iff_ne, ne_eq, List.all_eq_true, Bool.or_eq_true, Bool.not_eq_true'] at h
      obtain ⟨⟨⟨⟨rfl, hx⟩, ho⟩, hne⟩, hm⟩ := h
      refine ⟨oj, ok, e, ty, d, x, hj, hk, h1, h2, h3, h4, h5, h6, ?_, ho, hne, fun m hm1 hm2 => ?_⟩
      · intro hh; subst hh; simp at hx
      · rcases hm m (by simpa using hm1) with h | h
        · exact absurd h hm2
        · simpa using h
    · cases h
  · cases h

theorem boxThen_facts {oj ok : Op} {e ty : TypeId} {ad x : Operand} (hj : oj = .alloc e) (hk : ok = .store ty ad x) {ρ : Operand → Value} {p : List Value → Prop} (s : boxThen P oj ok ρ p) :
    ∃ i i' z, P.info? e = some i ∧ P.info? ty = some i' ∧ i.zero = some z ∧ z.cells.size = i'.size ∧ isDef (ρ x) = true ∧ (ρ x).cells.size = i'.size ∧ (∀ u ∈ (ρ x).cells.toList, u.oneCell' = true) ∧ p (ρ x).cells.toList := by
  subst hj hk
  simp only [boxThen] at s
  split at s <;> try (exact s.elim)
  rename_i i i' hi hi'
  split at s <;> try (exact s.elim)
  rename_i z hz
  cases hc : ((z.cells.toList.length == i'.size) && isDef (ρ x)) with
  | false => rw [hc] at s; exact s.elim
  | true =>
    rw [hc] at s
    simp only [Bool.and_eq_true, beq_iff_eq] at hc
    obtain ⟨h1, h2⟩ := sizeOk_size s
    refine ⟨i, i', z, hi, hi', hz, by simpa using hc.1, hc.2, h1, ?_⟩
    unfold cellsOne at h2
    split at h2
    · rename_i cs hcs
      rw [hcs]
      exact ⟨by simpa [Value.cells] using h2.1, by simpa [Value.cells, hcs] using h2.2⟩
    · exact h2.elim
    · rename_i hn1 hn2
      refine ⟨fun u hu => ?_, h2⟩
      cases hx : ρ x <;> simp only [hx, Value.cells] at hu <;> first
        | exact absurd hx (hn1 _)
        | exact absurd hx (hn2 _)
        | (simp at hu; subst hu; rfl)

theorem Sim.passPreb (f : Fine ops) {j k : Nat} (s : Sim P ops a0 h0 w0 K D done pres prebs (.preb j k :: r) V c t h a w) : ∃ t', Sim P ops a0 h0 w0 K D done pres (k :: prebs) r V c t' h a w := by
  obtain ⟨oj, ok, hj, hk, hin, h1⟩ := s.sem
  have hit := s.items
  simp only [itemsB, Bool.and_eq_true] at hit
  obtain ⟨⟨⟨hbx, hrd⟩, hgt⟩, hrest⟩ := hit
  obtain ⟨oj', ok', e, ty, d, x, hj', hk', opj, opk, dj, dk, gj, gk, hx, hord, hne, hoth⟩ := boxI_parts hbx
  rw [hj] at hj'; cases hj'
  rw [hk] at hk'; cases hk'
  obtain ⟨i, i', z, hi, hi', hz, hsz, hdef, hvs, hone, hs⟩ := boxThen_facts opj opk h1
  have hdd : dstOf ops j = some d := by simp [dstOf, hj, dj]
  rw [hdd] at hrd
  have hds : d < a0.size := by rw [← s.tlen]; rw [dj] at hin; simpa [inF] using hin
  refine ⟨t, s.pass rfl hrest rfl s.tfr (fun m hm hn => absurd hm hn) (fun m hm hn hmr => ?_) hs⟩
  have hmk : m = k := by simpa [hn] using hm
  subst hmk
  have hke : m ∈ execs (.preb j m :: r) := by simpa [execs, FI.exec] using hmr
  have hrx : ∀ y, x = .tmp y → ∀ p, srcOf ops y = some p → ordB (Region.before ops) p m = true → p ∈ done := fun y hy p hp ho => by
    subst hy
    refine ready_but hrd y ?_ (fun e => hx (by simpa using e)) p hp ho
    simp only [looks, hk, Oper.looksAt, opk, List.mem_append]
    exact .inl (by simp [Op.operands])
  have hle : Le (ev t x) (opv ops a0 V m x) := by
    cases x with
    | tmp y =>
      refine s.seeT f.uniq hke ?_ (hrx y rfl)
      simp only [looks, hk, Oper.looksAt, opk, List.mem_append]
      exact .inl (by simp [Op.operands])
    | _ => exact Le.refl _
  have heq := hle.eq hdef
  exact ⟨j, oj, ok, e, ty, d, x, i, i', z, ⟨hj, hk, opj, opk, dj, dk, gj, gk, hx, hi, hz⟩, ⟨hds, hi'⟩, hrx, hsz, by rw [← heq]; exact hvs, by rw [← heq]; exact hone⟩

end
end Go.HL
