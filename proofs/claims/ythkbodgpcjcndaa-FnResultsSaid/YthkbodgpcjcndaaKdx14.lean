/- Whatever the code, the law of results answers true: points of all teams are twice the meetings played, rankings have all teams, and the teams with the most points can be first when all rounds are played; no condition. -/
import Derived.Test.YthkbodgpcjcndaaKdx13
/- Regions whose order is open, IV: the state of a run half done; its first facts. -/
set_option linter.unusedVariables false
set_option linter.unusedSimpArgs false
namespace Go.HL
open Classical

def updV {α : Type} (V : Nat → α) (i : Nat) (v : α) : Nat → α := fun x => if x = i then v else V x
theorem updV_self {α : Type} (V : Nat → α) (i : Nat) (v : α) : updV V i v i = v := by simp [updV]
theorem updV_ne {α : Type} (V : Nat → α) {i j : Nat} (v : α) (h : j ≠ i) : updV V i v j = V j := by simp [updV, h]

section
variable (P : Program) (ops : Array Oper) (a0 : Array Value)

/-- What an operation has given, or would give. -/
def Gives (V : Nat → Value) (i : Nat) (o : Oper) (h : Heap) : Prop :=
  (wantV ops a0 V i = true → evalL P o.op (opv ops a0 V i) h = some (V i)) ∧ (wantV ops a0 V i = false → V i = undef)
def LateOk (V : Nat → Value) (h : Heap) (i : Nat) : Prop := ∃ o, ops[i]? = some o ∧ isLight o.op = true ∧ Gives P ops a0 V i o h
def FreeOk (V : Nat → Value) (h : Heap) (i : Nat) : Prop := ∃ o, ops[i]? = some o ∧ isFree o.op = true ∧ Gives P ops a0 V i o h
def AllocOk (V : Nat → Value) (c : Nat → Nat) (h : Heap) (w : World) (i : Nat) : Prop :=
  ∃ o, ops[i]? = some o ∧ isAllocOp o.op = true ∧
    (wantV ops a0 V i = true → ∃ cs mk e, AllocRun P o (res o (opv ops a0 V i)) cs mk e ∧ w.heap[c i]? = some (.cells cs.toArray e (0, 0)) ∧ h.fresh (c i) ∧ V i = mk (c i)) ∧
    (wantV ops a0 V i = false → V i = undef)
/-- The parts of a new variable with its first value. -/
structure BoxParts (j k : Nat) (oj ok : Oper) (e ty : TypeId) (d : Nat) (x : Operand) (i : TypeInfo) (z : Value) : Prop where
  hj : ops[j]? = some oj
  hk : ops[k]? = some ok
  opj : oj.op = .alloc e
  opk : ok.op = .store ty (.tmp d) x
  dj : oj.dst = some d
  dk : ok.dst = none
  gj : oj.guard = none
  gk : ok.guard = none
  hx : x ≠ .tmp d
  hi : P.info? e = some i
  hz : i.zero = some z
theorem wantV_none (V : Nat → Value) {i : Nat} {o : Oper} (ho : ops[i]? = some o) (hg : o.guard = none) : wantV ops a0 V i = true := by simp [wantV, ho, hg]
def BoxOk (V : Nat → Value) (c : Nat → Nat) (D : Nat → Prop) (h : Heap) (w : World) (j k : Nat) : Prop :=
  ∃ oj ok e ty d x i z, BoxParts P ops j k oj ok e ty d x i z ∧ V j = .pointer (some ⟨c j, 0, none⟩) ∧ h.fresh (c j) ∧
    (¬ D k → w.heap[c j]? = some (.cells z.cells e (0, 0))) ∧ (D k → w.heap[c j]? = some (.cells (opv ops a0 V k x).cells e (0, 0)))
def Ready (done : List Nat) (i : Nat) : Prop := ∀ x ∈ looks ops i, ∀ p, srcOf ops x = some p → ordB (Region.before ops) p i = true → p ∈ done
def PreOk (V : Nat → Value) (done : List Nat) (i : Nat) : Prop :=
  Ready ops done i ∧ ∃ o, ops[i]? = some o ∧ isAllocOp o.op = true ∧ (wantV ops a0 V i = true → ∃ cs mk e, AllocRun P o (res o (opv ops a0 V i)) cs mk e)
def PrebOk (V : Nat → Value) (done : List Nat) (k : Nat) : Prop :=
  ∃ j oj ok e ty d x i i' z, BoxParts P ops j k oj ok e ty d x i z ∧ (d < a0.size ∧ P.info? ty = some i') ∧ (∀ y, x = .tmp y → ∀ p, srcOf ops y = some p → ordB (Region.before ops) p k = true → p ∈ done) ∧
    z.cells.size = i'.size ∧ (opv ops a0 V k x).cells.size = i'.size ∧ ∀ u ∈ (opv ops a0 V k x).cells.toList, u.oneCell' = true

structure Sim (h0 : Heap) (w0 : World) (K : List Value → Heap → Prop) (D : Nat → Prop) (done pres prebs : List Nat) (rest : List FI) (V : Nat → Value) (c : Nat → Nat) (t : List Value) (h : Heap) (a : Act) (w : World) : Prop where
  items : itemsB ops (Region.before ops) done pres prebs rest = true
  lin : linB (Region.before ops) (done ++ execs rest) = true
  cover : ∀ i, i < ops.size → i ∈ done ∨ i ∈ execs rest
  inn : ∀ i, i ∈ done ++ execs rest → i < ops.size
  closed : ∀ i j, ordB (Region.before ops) i j = true → D j → D i
  defers : a.defers = []
  size : a.tmps.size = a0.size
  frame : ∀ x, a.tmps.getD x undef = cur ops a0 V D x
  tlen : t.length = a0.size
  tfr : ∀ x, Le (t.getD x undef) (cur ops a0 V (· ∈ done) x)
  rel : Rel h w
  sync : ∀ i, i < ops.size → lightI ops i = false → i ∈ done → D i
  late : ∀ i, i ∈ done → ¬ D i → LateOk P ops a0 V h i
  early : ∀ i, i ∈ execs rest → D i → FreeOk P ops a0 V h i ∨ (AllocOk P ops a0 V c h w i ∧ ∃ rr, FI.op i rr ∈ rest) ∨ (∃ k, FI.abox i k ∈ rest ∧ BoxOk P ops a0 V c D h w i k) ∨ (∃ j, FI.abox j i ∈ rest ∧ D j)
  pref : ∀ i, i ∈ pres → i ∈ execs rest → PreOk P ops a0 V done i
  prebf : ∀ k, k ∈ prebs → k ∈ execs rest → PrebOk P ops a0 V done k
  clt : ∀ i, i ∈ execs rest → D i → allocI ops i = true → wantV ops a0 V i = true → c i < w.heap.size
  cinj : ∀ i j, i ∈ execs rest → j ∈ execs rest → D i → D j → allocI ops i = true → allocI ops j = true → wantV ops a0 V i = true → wantV ops a0 V j = true → c i = c j → i = j
  fra : Fra h0 h w0 w
  cge : ∀ i, i ∈ execs rest → D i → allocI ops i = true → wantV ops a0 V i = true → w0.heap.size ≤ c i
  sem : semF P ops K rest t h
end

section
variable {P : Program} {ops : Array Oper} {a0 : Array Value} {h0 : Heap} {w0 : World} {K : List Value → Heap → Prop}

theorem srcOf_some {x p : Nat} (h : srcOf ops x = some p) : dstOf ops p = some x ∧ p < ops.size := by
  have h1 := List.find?_some h
  have h2 := List.mem_of_find?_eq_some h
  exact ⟨by simpa using h1, by simpa using h2⟩
theorem dst_lt {x p : Nat} (h : dstOf ops p = some x) : p < ops.size := by
  unfold dstOf at h
  rcases Nat.lt_or_ge p ops.size with hl | hl
  · exact hl
  · rw [Array.getElem?_eq_none hl] at h; cases h
theorem uniq_dst {B : Array Nat} (hu : uniqB ops B = true) {p q x : Nat} (hp : dstOf ops p = some x) (hq : dstOf ops q = some x) : p = q := by
  by_cases e : p = q
  · exact e
  · have h1 := List.all_eq_true.1 (List.all_eq_true.1 hu q (by simpa using dst_lt hq)) p (by simpa using dst_lt hp)
    have : (p == q) = false := by simpa using e
    rw [this, hp] at h1
    simp [hq] at h1
theorem src_of_dst {B : Array Nat} (hu : uniqB ops B = true) {p x : Nat} (hp : dstOf ops p = some x) : srcOf ops x = some p := by
  cases hs : srcOf ops x with
  | none =>
    have := List.find?_eq_none.1 hs p (by simpa using dst_lt hp)
    simp [hp] at this
  | some q => rw [uniq_dst hu (srcOf_some hs).1 hp]
theorem uniq_looks {B : Array Nat} (hu : uniqB ops B = true) {p j x : Nat} (hj : j < ops.size) (hp : srcOf ops x = some p) (hx : x ∈ looks ops j) (hne : p ≠ j) : ordB B p j = true ∨ ordB B j p = true := by
  obtain ⟨h1, h2⟩ := srcOf_some hp
  have h3 := List.all_eq_true.1 (List.all_eq_true.1 hu j (by simpa using hj)) p (by simpa using h2)
  have : (p == j) = false := by simpa using hne
  rw [this, h1] at h3
  simp only [Bool.false_or, Bool.and_eq_true, bne_iff_ne, ne_eq, Bool.or_eq_true, Bool.not_eq_true', List.contains_eq_mem, decide_eq_false_iff_not] at h3
  rcases h3.2 with (h | h) | h
  · exact absurd hx h
  · exact .inl h
  · exact .inr h

/-- The value of i is not asked where i is not ahead. -/
theorem opvT_upd {V : Nat → Value} {i q x : Nat} (v : Value) (h : srcOf ops x = some i → ordB (Region.before ops) i q = false) : opvT ops a0 (updV V i v) q x = opvT ops a0 V q x := by
  unfold opvT
  cases hs : srcOf ops x with
  | none => rfl
  | some p =>
    simp only
    by_cases hp : p = i
    · subst hp
      have : ¬ (ordB (Region.before ops) p q = true ∧ x < a0.size) := fun hh => by rw [h hs] at hh; cases hh.1
      rw [if_neg this, if_neg this]
    · rw [updV_ne V v hp]
theorem opv_upd {V : Nat → Value} {i q : Nat} (v : Value) (h : ordB (Region.before ops) i q = false) : opv ops a0 (updV V i v) q = opv ops a0 V q := by
  funext x
  cases x with
  | tmp x => exact opvT_upd v fun _ => h
  | _ => rfl
theorem wantV_upd {V : Nat → Value} {i q : Nat} (v : Value) (h : ∀ x ∈ looks ops q, srcOf ops x = some i → ordB (Region.before ops) i q = false) : wantV ops a0 (updV V i v) q = wantV ops a0 V q := by
  unfold wantV
  cases ho : ops[q]? with
  | none => rfl
  | some o =>
    cases hg : o.guard with
    | none => simp only [hg]
    | some gw =>
      obtain ⟨g, want⟩ := gw
      cases hd : dstOf ops g with
      | none => simp only [hg, hd]
      | some d =>
        simp only [hg, hd]
        have hl : d ∈ looks ops q := by
          simp only [looks, ho, Oper.looksAt, hg, List.mem_append]
          refine .inr ?_
          unfold dstOf at hd
          rw [hd]
          simp
        rw [opvT_upd v (h d hl)]
theorem cur_upd {V : Nat → Value} {S : Nat → Prop} {i x : Nat} (v : Value) (h : ¬ S i) : cur ops a0 (updV V i v) S x = cur ops a0 V S x := by
  unfold cur
  cases hs : srcOf ops x with
  | none => rfl
  | some p =>
    simp only
    by_cases hp : p = i
    · subst hp
      rw [if_neg (fun hh => h hh.1), if_neg (fun hh => h hh.1)]
    · rw [updV_ne V v hp]

variable {D : Nat → Prop} {done pres prebs : List Nat} {rest : List FI} {V : Nat → Value} {c : Nat → Nat} {t : List Value} {h : Heap} {a : Act} {w : World}

theorem Sim.ord_rest (s : Sim P ops a0 h0 w0 K D done pres prebs rest V c t h a w) {i q : Nat} (hi : i ∈ execs rest) (hq : q ∈ done) : ordB (Region.before ops) i q = false ∧ i ≠ q :=
  linB_app s.lin q hq i hi
theorem Sim.not_both (s : Sim P ops a0 h0 w0 K D done pres prebs rest V c t h a w) {i : Nat} (hi : i ∈ execs rest) : i ∉ done := fun hd => (s.ord_rest hi hd).2 rfl

theorem res_congr_looks {o : Oper} {ρ ρ' : Operand → Value} (h : ∀ t ∈ o.looksAt ops, ρ (.tmp t) = ρ' (.tmp t)) (hc : ∀ x, (∀ t, x ≠ .tmp t) → ρ x = ρ' x) : res o ρ = res o ρ' := by
  funext x
  cases x with
  | tmp t =>
    simp only [res]
    cases ha : o.op.operands.toList.any (fun | .tmp t' => t' == t | _ => false) with
    | false => rfl
    | true => exact h t (looks_operand ha)
  | const v => exact hc _ (by simp)
  | global g => exact hc _ (by simp)
  | func f => exact hc _ (by simp)

/-- A value that nobody has asked yet may be set. -/
theorem Sim.upd (s : Sim P ops a0 h0 w0 K D done pres prebs rest V c t h a w) {i : Nat} (hi : i ∈ execs rest) (hD : ¬ D i) (v : Value) :
    Sim P ops a0 h0 w0 K D done pres prebs rest (updV V i v) c t h a w := by
  have hnd : i ∉ done := s.not_both hi
  have o1 : ∀ q, q ∈ done → ordB (Region.before ops) i q = false := fun q hq => (s.ord_rest hi hq).1
  have o2 : ∀ q, D q → ordB (Region.before ops) i q = false := fun q hq => by
    cases hb : ordB (Region.before ops) i q with
    | false => rfl
    | true => exact absurd (s.closed i q hb hq) hD
  have n1 : ∀ q, q ∈ done → updV V i v q = V q := fun q hq => updV_ne V v fun e => hnd (e ▸ hq)
  have n2 : ∀ q, D q → updV V i v q = V q := fun q hq => updV_ne V v fun e => hD (e ▸ hq)
  have ww : ∀ q, ordB (Region.before ops) i q = false → wantV ops a0 (updV V i v) q = wantV ops a0 V q := fun q hq => wantV_upd v fun _ _ _ => hq
  have g0 : ∀ q o, ordB (Region.before ops) i q = false → updV V i v q = V q → Gives P ops a0 V q o h → Gives P ops a0 (updV V i v) q o h := fun q o h1 h2 h3 => by
    unfold Gives at *
    rw [ww q h1, opv_upd v h1, h2]
    exact h3
  refine { items := s.items, lin := s.lin, cover := s.cover, inn := s.inn, closed := s.closed, defers := s.defers, size := s.size, frame := fun x => by rw [cur_upd v hD]; exact s.frame x, tlen := s.tlen,
           tfr := fun x => by rw [cur_upd v hnd]; exact s.tfr x, rel := s.rel, sync := s.sync, late := ?_, early := ?_, pref := ?_, prebf := ?_, clt := fun q hq hD ha hw => s.clt q hq hD ha (by rw [ww q (o2 q hD)] at hw; exact hw), cinj := fun q q' hq hq' hD hD' ha ha' hw hw' => s.cinj q q' hq hq' hD hD' ha ha' (by rw [ww q (o2 q hD)] at hw; exact hw) (by rw [ww q' (o2 q' hD')] at hw'; exact hw'), fra := s.fra, cge := fun q hq hD ha hw => s.cge q hq hD ha (by rw [ww q (o2 q hD)] at hw; exact hw), sem := s.sem }
  · intro q hq hqD
    obtain ⟨o, ho, hl, hg⟩ := s.late q hq hqD
    exact ⟨o, ho, hl, g0 q o (o1 q hq) (n1 q hq) hg⟩
  · intro q hq hqD
    rcases s.early q hq hqD with ⟨o, ho, hl, hg⟩ | ⟨⟨o, ho, hl, hg1, hg2⟩, hr⟩ | ⟨k, hk, oj, ok, e, ty, d, x, ii, z, bp, b1, b2, b3, b4⟩ | hb
    · exact .inl ⟨o, ho, hl, g0 q o (o2 q hqD) (n2 q hqD) hg⟩
    · refine .inr (.inl ⟨⟨o, ho, hl, ?_, ?_⟩, hr⟩)
      · rw [ww q (o2 q hqD), opv_upd v (o2 q hqD), n2 q hqD]; exact hg1
      · rw [ww q (o2 q hqD), n2 q hqD]; exact hg2
    · refine .inr (.inr (.inl ⟨k, hk, oj, ok, e, ty, d, x, ii, z, bp, by rw [n2 q hqD]; exact b1, b2, b3, fun hDk => ?_⟩))
      rw [opv_upd v (o2 k hDk)]
      exact b4 hDk
    · exact .inr (.inr (.inr hb))
  · intro q hq hqr
    obtain ⟨hrd, o, ho, ha, hg⟩ := s.pref q hq hqr
    refine ⟨hrd, o, ho, ha, ?_⟩
    have hx : ∀ x ∈ looks ops q, srcOf ops x = some i → ordB (Region.before ops) i q = false := fun x hx hs => by
      cases hb : ordB (Region.before ops) i q with
      | false => rfl
      | true => exact absurd (hrd x hx i hs hb) hnd
    rw [wantV_upd v hx, res_congr_looks (ops := ops) (ρ' := opv ops a0 V q) (fun x hxl => opvT_upd v (hx x (by simpa [looks, ho] using hxl))) (fun x hx => by cases x <;> first | rfl | exact absurd rfl (hx _))]
    exact hg
  · intro q hq hqr
    obtain ⟨j, oj, ok, e, ty, d, x, ii, ii', z, bp, hi', hrd, h1, h2, h3⟩ := s.prebf q hq hqr
    have he : opv ops a0 (updV V i v) q x = opv ops a0 V q x := by
      cases x with
      | tmp y =>
        refine opvT_upd v fun hs => ?_
        cases hb : ordB (Region.before ops) i q with
        | false => rfl
        | true => exact absurd (hrd y rfl i hs hb) hnd
      | _ => rfl
    exact ⟨j, oj, ok, e, ty, d, x, ii, ii', z, bp, hi', hrd, h1, by rw [he]; exact h2, by rw [he]; exact h3⟩

/-- What the machine sees of an operation's operands, all ahead of it being done. -/
theorem Sim.see (hu : uniqB ops (Region.before ops) = true) (s : Sim P ops a0 h0 w0 K D done pres prebs rest V c t h a w) {i : Nat} (hi : i < ops.size) (hD : ¬ D i)
    (hr : ∀ p, ordB (Region.before ops) p i = true → D p) {x : Nat} (hx : x ∈ looks ops i) : a.tmps.getD x undef = opvT ops a0 V i x := by
  rw [s.frame x]
  have hin : ∀ p, p < ops.size → p ∈ done ++ execs rest := fun p hp => by
    rcases s.cover p hp with h | h <;> simp [h]
  unfold cur opvT
  cases hs : srcOf ops x with
  | none => rfl
  | some p =>
    simp only
    have hpl := (srcOf_some hs).2
    by_cases hpi : p = i
    · subst hpi
      rw [if_neg (fun hh => hD hh.1), if_neg (fun hh => by rw [linB_lt s.lin p (hin p hpl)] at hh; cases hh.1)]
    · rcases uniq_looks hu hi hs hx hpi with ho | ho
      · have hDp := hr p ho
        by_cases hxs : x < a0.size
        · rw [if_pos ⟨hDp, hxs⟩, if_pos ⟨ho, hxs⟩]
        · rw [if_neg (fun hh => hxs hh.2), if_neg (fun hh => hxs hh.2)]
      · have hDp : ¬ D p := fun hh => hD (s.closed i p ho hh)
        have hf := linB_anti s.lin i (hin i hi) p (hin p hpl) ho
        rw [if_neg (fun hh => hDp hh.1), if_neg (fun hh => by rw [hf] at hh; cases hh.1)]

/-- What the one order sees of them. -/
theorem Sim.seeT (hu : uniqB ops (Region.before ops) = true) (s : Sim P ops a0 h0 w0 K D done pres prebs rest V c t h a w) {i : Nat} (hi : i ∈ execs rest) {x : Nat} (hx : x ∈ looks ops i)
    (hr : ∀ p, srcOf ops x = some p → ordB (Region.before ops) p i = true → p ∈ done) : Le (t.getD x undef) (opvT ops a0 V i x) := by
  refine (s.tfr x).trans ?_
  have hil : i < ops.size := s.inn i (by simp [hi])
  have hin : ∀ p, p < ops.size → p ∈ done ++ execs rest := fun p hp => by
    rcases s.cover p hp with h | h <;> simp [h]
  have hnd := s.not_both hi
  unfold cur opvT
  cases hs : srcOf ops x with
  | none => exact Le.refl _
  | some p =>
    simp only
    have hpl := (srcOf_some hs).2
    by_cases hpi : p = i
    · subst hpi
      rw [if_neg (fun hh => hnd hh.1), if_neg (fun hh => by rw [linB_lt s.lin p (hin p hpl)] at hh; cases hh.1)]
      exact Le.refl _
    · rcases uniq_looks hu hil hs hx hpi with ho | ho
      · have hDp := hr p hs ho
        by_cases hxs : x < a0.size
        · rw [if_pos ⟨hDp, hxs⟩, if_pos ⟨ho, hxs⟩]; exact Le.refl _
        · rw [if_neg (fun hh => hxs hh.2), if_neg (fun hh => hxs hh.2)]; exact Le.refl _
      · have hDp : p ∉ done := fun hh => by rw [(s.ord_rest hi hh).1] at ho; cases ho
        have hf := linB_anti s.lin i (hin i hil) p (hin p hpl) ho
        rw [if_neg (fun hh => hDp hh.1), if_neg (fun hh => by rw [hf] at hh; cases hh.1)]
        exact Le.refl _

end
end Go.HL
