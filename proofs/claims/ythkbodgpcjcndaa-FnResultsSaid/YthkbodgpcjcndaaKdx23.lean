/- Whatever the code, the law of results answers true: points of all teams are twice the meetings played, rankings have all teams, and the teams with the most points can be first when all rounds are played; no condition. -/
import Derived.Test.YthkbodgpcjcndaaKdx22
/- Regions whose order is open, XIII: the whole. -/
set_option linter.unusedVariables false
set_option linter.unusedSimpArgs false
namespace Go.HL
open Classical
section
variable {P : Program} {ops : Array Oper} {a0 : Array Value} {h0 : Heap} {w0 : World} {K : List Value → Heap → Prop}
variable {Q : Exit → Act → World → Prop}

/-- An order that the edges allow, from some state on. -/
def LinOk (ops : Array Oper) : (Nat → Prop) → List Nat → Prop
  | D, [] => ∀ i, i < ops.size → D i
  | D, i :: l => i < ops.size ∧ ¬ D i ∧ (∀ p, ordB (Region.before ops) p i = true → D p) ∧ LinOk ops (fun x => D x ∨ x = i) l

/-- What stands behind the region. -/
def Ends (ops : Array Oper) (a0 : Array Value) (h0 : Heap) (w0 : World) (K : List Value → Heap → Prop) (Q : Exit → Act → World → Prop) : Prop :=
  ∀ t h a w, t.length = a0.size → a.tmps.size = a0.size → (∀ x, Le (t.getD x undef) (a.tmps.getD x undef)) → a.defers = [] → (∀ x, srcOf ops x = none → a.tmps.getD x undef = a0.getD x undef) → Rel h w → Fra h0 h w0 w → K t h → Q .normal a w

theorem run_all (f : Fine ops) (hend : Ends ops a0 h0 w0 K Q) : ∀ (l : List Nat) {D : Nat → Prop}, LinOk ops D l → Goes P ops a0 h0 w0 K Q D l
  | [], D, hl, done, pres, prebs, rest, V, c, t, h, a, w, s => by
    obtain ⟨d', p', pb', rest', V', t', h', s', hnil⟩ := Sim.till f (fun _ _ _ rest => rest = []) (fun _ _ _ rest => ∀ i, i ∈ execs rest → i < ops.size) (D := D)
      (fun done pres prebs it r hit hw => .inr ⟨fun m hm _ => hl m (hw m (by rw [execs_cons]; simp [hm])), fun i hi => hw i (by rw [execs_cons]; simp [hi])⟩) (fun _ _ _ _ => rfl) rest s (fun i hi => s.inn i (by simp [hi]))
    subst hnil
    have hcur : ∀ x, cur ops a0 V' (· ∈ d') x = cur ops a0 V' D x := by
      intro x
      unfold cur
      cases hs : srcOf ops x with
      | none => rfl
      | some p =>
        simp only
        have hp := (srcOf_some hs).2
        have h1 : p ∈ d' := (s'.cover p hp).resolve_right (by simp [execs])
        by_cases hx : x < a0.size
        · rw [if_pos ⟨h1, hx⟩, if_pos ⟨hl p hp, hx⟩]
        · rw [if_neg (fun hh => hx hh.2), if_neg (fun hh => hx hh.2)]
    have : Q .normal a w := by
      refine hend t' h' a w s'.tlen s'.size (fun x => ?_) s'.defers (fun x hx => ?_) s'.rel s'.fra s'.sem
      · rw [s'.frame x, ← hcur]; exact s'.tfr x
      · rw [s'.frame x]; unfold cur; rw [hx]
    simpa [wpOps] using this
  | i :: l, D, hl, done, pres, prebs, rest, V, c, t, h, a, w, s => by
    obtain ⟨hi, hD, hr, hl'⟩ := hl
    have go : Goes P ops a0 h0 w0 K Q (fun x => D x ∨ x = i) l := run_all f hend l hl'
    have hcl : ∀ p q, ordB (Region.before ops) p q = true → (D q ∨ q = i) → (D p ∨ p = i) := fun p q ho hq => by
      rcases hq with hq | rfl
      · exact .inl (s.closed p q ho hq)
      · exact .inl (hr p ho)
    have ho : ops[i]? = some ops[i] := Array.getElem?_eq_getElem hi
    generalize ops[i] = o at ho
    rcases s.cover i hi with hd | he
    · exact step_late f ho hD hr hcl go s hd
    · obtain ⟨it, hm, hx⟩ := List.mem_flatMap.1 he
      cases it with
      | pre _ => simp [FI.exec] at hx
      | preb _ _ => simp [FI.exec] at hx
      | split _ => simp [FI.exec] at hx
      | forget _ => simp [FI.exec] at hx
      | op q rr =>
        simp only [FI.exec, List.mem_singleton] at hx
        subst hx
        cases ha : isAllocOp o.op with
        | true => exact step_alloc f ho hD hr hcl go s (.inl ⟨rr, hm⟩) ha
        | false =>
          cases hf : isFree o.op with
          | true => exact step_free f ho hD hr hcl go s he hf
          | false =>
            cases hlt : isLight o.op with
            | true => exact step_light f ho hD hr hcl go s ⟨rr, hm⟩ hlt hf
            | false => exact step_sync f ho hD hr hcl go s ⟨rr, hm⟩ hlt ha
      | abox j k =>
        simp only [FI.exec, List.mem_cons, List.not_mem_nil, or_false] at hx
        rcases hx with rfl | rfl
        · obtain ⟨hb, _⟩ := pre_of_box rest s.items hm
          obtain ⟨oj, ok, e, ty, d, x, hj, hk, opj, _⟩ := boxI_parts hb
          rw [ho] at hj; cases hj
          exact step_alloc f ho hD hr hcl go s (.inr ⟨k, hm⟩) (by rw [opj]; rfl)
        · exact step_box f ho hD hr hcl go s hm

/-! ### The orders that the edges allow -/
theorem first_free {D : Nat → Prop} : ∀ (l : List Nat), (∃ i ∈ l, ¬ D i) → ∃ l1 i l2, l = l1 ++ i :: l2 ∧ ¬ D i ∧ ∀ j ∈ l1, D j
  | [], h => by obtain ⟨i, hi, _⟩ := h; cases hi
  | x :: l, h => by
    by_cases hx : D x
    · obtain ⟨l1, i, l2, h1, h2, h3⟩ := first_free l (by
        obtain ⟨i, hi, hn⟩ := h
        rcases List.mem_cons.1 hi with rfl | hi
        · exact absurd hx hn
        · exact ⟨i, hi, hn⟩)
      exact ⟨x :: l1, i, l2, by rw [h1]; rfl, h2, fun j hj => by
        rcases List.mem_cons.1 hj with rfl | hj
        · exact hx
        · exact h3 j hj⟩
    · exact ⟨[], x, l, rfl, hx, fun j hj => by cases hj⟩

theorem Fine.edge (f : Fine ops) {j : Nat} {o : Oper} (ho : ops[j]? = some o) {e : Edge} (he : e ∈ o.after) (hb : Region.binds .any e = true) : e.on < ops.size ∧ ordB (Region.before ops) e.on j = true := by
  have hj : j < ops.size := (Array.getElem?_eq_some_iff.1 ho).1
  have h1 := List.all_eq_true.1 f.edges j (by simpa using hj)
  simp only [ho] at h1
  have h2 := List.all_eq_true.1 h1 e (by simpa using he)
  simpa [hb] using h2

theorem lin_go (f : Fine ops) {L : List Nat} (hL : linB (Region.before ops) L = true) (hall : ∀ i, i < ops.size → i ∈ L) : ∀ (fuel t : Nat) (listed : Array Bool) (D : Nat → Prop) (todo : List Nat), listed.size = ops.size → (∀ i, i < ops.size → (D i ↔ listed[i]? = some true)) →
    (∀ i j, ordB (Region.before ops) i j = true → D j → D i) → todo.length ≤ fuel → (∀ i, i < ops.size → ¬ D i → i ∈ todo) → LinOk ops D (Region.linearise.go .any ops fuel t listed [])
  | 0, t, listed, D, todo, hsz, hD, hc, hf, ht => by
    have : todo = [] := List.eq_nil_of_length_eq_zero (by omega)
    subst this
    simp only [Region.linearise.go, List.reverse_nil, LinOk]
    intro i hi
    by_cases hd : D i
    · exact hd
    · exact absurd (ht i hi hd) (by simp)
  | fuel + 1, t, listed, D, todo, hsz, hD, hc, hf, ht => by
    simp only [Region.linearise.go]
    change LinOk ops D (match (Region.ready .any ops listed)[t % (Region.ready .any ops listed).length]? with
      | some i => Region.linearise.go .any ops fuel (t / (Region.ready .any ops listed).length) (listed.setIfInBounds i true) [i]
      | none => [].reverse)
    have hready : ∀ i, i ∈ Region.ready .any ops listed ↔ (i < ops.size ∧ listed.getD i true = false ∧ ∃ o, ops[i]? = some o ∧ ∀ e ∈ o.after, Region.binds .any e = true → listed.getD e.on false = true) := by
      intro i
      simp only [Region.ready, List.mem_filter, List.mem_range, Bool.and_eq_true, Bool.not_eq_true']
      refine and_congr_right fun hi => and_congr_right fun _ => ?_
      rw [Array.getElem?_eq_getElem hi]
      simp only [Option.map_some, Option.getD_some, Array.all_eq_true', Bool.or_eq_true, Bool.not_eq_true', Option.some.injEq, exists_eq_left']
      refine forall_congr' fun e => forall_congr' fun he => ?_
      cases Region.binds .any e <;> simp
    have hlg : ∀ i, i < ops.size → (listed.getD i true = false ↔ ¬ D i) ∧ (listed.getD i false = true ↔ D i) := by
      intro i hi
      have h1 := hD i hi
      have h2 : i < listed.size := by omega
      rw [Array.getElem?_eq_getElem h2] at h1
      simp only [Array.getD_eq_getD_getElem?, Array.getElem?_eq_getElem h2, Option.getD_some]
      rw [h1]
      simp
    cases hi : (Region.ready .any ops listed)[t % (Region.ready .any ops listed).length]? with
    | none =>
      have hnil : Region.ready .any ops listed = [] := by
        cases hr : Region.ready .any ops listed with
        | nil => rfl
        | cons x xs =>
          rw [hr] at hi
          have hlt : t % (x :: xs).length < (x :: xs).length := Nat.mod_lt _ (by simp)
          simp at hi
          simp at hlt
          omega
      simp only [List.reverse_nil, LinOk]
      intro i hi
      by_cases hd : D i
      · exact hd
      · exfalso
        obtain ⟨l1, j, l2, h1, h2, h3⟩ := first_free (D := fun i => D i ∨ ¬ i < ops.size) L ⟨i, hall i hi, fun hh => hh.elim hd (fun h => h hi)⟩
        have hj : j < ops.size := by
          by_cases hj : j < ops.size
          · exact hj
          · exact absurd (.inr hj) h2
        have hjr : j ∈ Region.ready .any ops listed := by
          rw [hready]
          refine ⟨hj, (hlg j hj).1.2 fun hh => h2 (.inl hh), ops[j], Array.getElem?_eq_getElem hj, fun e he hb => ?_⟩
          obtain ⟨k1, k2⟩ := f.edge (Array.getElem?_eq_getElem hj) he hb
          rw [(hlg _ k1).2]
          have hmem := hall _ k1
          rw [h1, List.mem_append] at hmem
          rcases hmem with hmem | hmem
          · exact (h3 _ hmem).resolve_right fun hn => hn k1
          · exfalso
            rw [h1] at hL
            have hL2 := linB_right hL
            rcases List.mem_cons.1 hmem with e1 | hmem
            · rw [e1, linB_lt hL2 j (by simp)] at k2; cases k2
            · rw [(linB_app (l := [j]) (r := l2) hL2 j (by simp) _ hmem).1] at k2; cases k2
        rw [hnil] at hjr
        cases hjr
    | some i =>
      simp only []
      rw [linearise_go_acc, List.reverse_singleton, List.singleton_append]
      have hir := (hready i).1 (List.mem_of_getElem? hi)
      obtain ⟨h1, h2, o, ho, h3⟩ := hir
      have hnD : ¬ D i := (hlg i h1).1.1 h2
      have hbef : ∀ p, ordB (Region.before ops) p i = true → D p := by
        intro p hp
        have hcl := before_closed (ops := ops) (D := fun x => D x ∨ x = i) (fun j oj hoj hdj e he hb => by
          obtain ⟨k1, k2⟩ := f.edge hoj he hb
          rcases hdj with hdj | rfl
          · exact .inl (hc _ _ k2 hdj)
          · rw [ho] at hoj; cases hoj
            exact .inl ((hlg _ k1).2.1 (h3 e he hb))) p i hp (.inr rfl)
        rcases hcl with hcl | rfl
        · exact hcl
        · rw [linB_lt hL p (hall p h1)] at hp; cases hp
      refine ⟨h1, hnD, hbef, ?_⟩
      refine lin_go f hL hall fuel _ _ _ (todo.erase i) (by simpa using hsz) (fun q hq => ?_) (fun p q hpq hq => ?_) ?_ (fun q hq hn => ?_)
      · rw [Array.getElem?_setIfInBounds]
        by_cases hqi : i = q
        · subst hqi
          simp [hsz, h1]
        · rw [if_neg hqi]
          rw [← hD q hq]
          exact ⟨fun h => h.resolve_right fun e => hqi e.symm, .inl⟩
      · rcases hq with hq | rfl
        · exact .inl (hc p q hpq hq)
        · exact .inl (hbef p hpq)
      · have := List.length_erase_of_mem (ht i h1 hnD)
        omega
      · exact (List.mem_erase_of_ne fun e => hn (.inr e)).2 (ht q hq fun hh => hn (.inl hh))

theorem okF_fine {F : List FI} (hd : okF ops F = true) : Fine ops ∧ linB (Region.before ops) (execs F) = true ∧ (∀ i ∈ execs F, i < ops.size) ∧ (∀ i, i < ops.size → i ∈ execs F) ∧ itemsB ops (Region.before ops) [] [] [] F = true := by
  simp only [okF, Bool.and_eq_true, List.all_eq_true, decide_eq_true_eq] at hd
  obtain ⟨⟨⟨⟨⟨⟨⟨h1, h2⟩, h3⟩, h4⟩, h5⟩, h6⟩, h7⟩, h8⟩ := hd
  exact ⟨⟨h4, h5, h6, h7⟩, h1, h2, fun i hi => by simpa using h3 i (by simpa using hi), h8⟩

theorem linOk_draw {F : List FI} (hd : okF ops F = true) (t : Nat) : LinOk ops (fun _ => False) (Region.linearise .any ops t) := by
  obtain ⟨f, h1, h2, h3, h4⟩ := okF_fine hd
  refine lin_go f h1 h3 ops.size t _ _ (List.range ops.size) (by simp) (fun i hi => ?_) (fun _ _ _ h => h) (by simp) (fun i hi _ => by simpa using hi)
  simp [hi]

theorem execs_toF : ∀ (its : Its) {F : List FI}, its.toF ops = some F → execs F = its.flat
  | .nil, F, e => by simp only [Its.toF, Option.some.injEq] at e; subst e; rfl
  | .op i rk rr rest, F, e => by
    simp only [Its.toF, Option.map_eq_some_iff] at e
    obtain ⟨F', e', rfl⟩ := e
    simp [execs_cons, FI.exec, Its.flat, execs_toF rest e']
  | .split x rest, F, e => by
    simp only [Its.toF, Option.map_eq_some_iff] at e
    obtain ⟨F', e', rfl⟩ := e
    simp [execs_cons, FI.exec, Its.flat, execs_toF rest e']
  | .pre i rest, F, e => by
    simp only [Its.toF, Option.map_eq_some_iff] at e
    obtain ⟨F', e', rfl⟩ := e
    simp [execs_cons, FI.exec, Its.flat, execs_toF rest e']
  | .preb j k rest, F, e => by
    simp only [Its.toF, Option.map_eq_some_iff] at e
    obtain ⟨F', e', rfl⟩ := e
    simp [execs_cons, FI.exec, Its.flat, execs_toF rest e']
  | .abox j k rest, F, e => by
    simp only [Its.toF, Option.map_eq_some_iff] at e
    obtain ⟨F', e', rfl⟩ := e
    simp [execs_cons, FI.exec, Its.flat, execs_toF rest e']
  | .join g mk outs rest, F, e => by
    simp only [Its.toF] at e
    cases hg : g.toF ops with
    | none => simp [hg] at e
    | some A =>
      cases hr : rest.toF ops with
      | none => simp [hg, hr] at e
      | some B =>
        simp only [hg, hr] at e
        cases hc : ((wrs ops A).all (fun x => mk.contains x) && outs.all (fun o => mk.contains o.1)) with
        | false => rw [hc] at e; cases e
        | true =>
          rw [hc] at e
          simp only [cond_true, Option.some.injEq] at e
          subst e
          have h1 := execs_toF g hg
          have h2 := execs_toF rest hr
          simp only [execs, List.flatMap_append, List.flatMap_cons, FI.exec, List.nil_append, Its.flat] at h1 h2 ⊢
          rw [h1, h2]

theorem getD_get? {α : Type} {a b : Array α} {d : α} (hs : a.size = b.size) (h : ∀ x, a.getD x d = b.getD x d) (x : Nat) : a[x]? = b[x]? := by
  have := h x
  rw [Array.getD_eq_getD_getElem?, Array.getD_eq_getD_getElem?] at this
  by_cases hx : x < a.size
  · rw [Array.getElem?_eq_getElem hx, Array.getElem?_eq_getElem (by omega)] at this ⊢
    simpa using this
  · rw [Array.getElem?_eq_none (by omega), Array.getElem?_eq_none (by omega)]

theorem draw_sound (hm : P.follows .mixedOrders = true) {id : Nat} {its : Its} (hd : drawOk ops its = true) {t : List Value} {h : Heap} {a : Array Value} {w : World} (s : semIts P ops its K t h) (ht : TRel t a) (hr : Rel h w)
    (k : ∀ t' h' a' w', TRel t' a'.tmps → Beh ops its.flat { tmps := a, defers := [] } a' → Rel h' w' → Fra h h' w w' → K t' h' → Q .normal a' w') : (Code.region id ops true).wp P Q { tmps := a, defers := [] } w := by
  refine wp_region_draw fun tt => ?_
  simp only [Region.schedule, hm, Bool.true_or, if_true]
  unfold drawOk at hd
  cases hF : its.toF ops with
  | none => simp [hF] at hd
  | some F =>
    simp only [hF] at hd
    obtain ⟨f, h1, h2, h3, h4⟩ := okF_fine hd
    have hend : Ends ops a h { w with drawn := w.drawn + 1 } K Q := by
      intro t' h' a' w' e1 e2 e3 e4 e5 r' f' hk
      refine k t' h' a' w' ⟨by omega, fun i v hv => ?_⟩ ⟨e4, e2, fun x hx => ?_⟩ r' (Fra.drawn0 _ f') hk
      · have hi : i < t'.length := (List.getElem?_eq_some_iff.1 hv).1
        have hi' : i < a'.tmps.size := by omega
        refine ⟨a'.tmps[i], Array.getElem?_eq_getElem hi', ?_⟩
        have := e3 i
        rw [List.getD_eq_getElem?_getD, hv, Array.getD_eq_getD_getElem?, Array.getElem?_eq_getElem hi'] at this
        exact this
      · have hs : srcOf ops x = none := by
          cases hs : srcOf ops x with
          | none => rfl
          | some p =>
            obtain ⟨p1, p2⟩ := srcOf_some hs
            exfalso
            apply hx
            simp only [dstsOf, List.mem_filterMap]
            exact ⟨p, by rw [← execs_toF its hF]; exact h3 p p2, p1⟩
        have h6 := e5 x hs
        have e2' : a'.tmps.size = a.size := e2
        rw [Array.getD_eq_getD_getElem?, Array.getD_eq_getD_getElem?] at h6
        by_cases hxs : x < a.size
        · rw [Array.getElem?_eq_getElem hxs, Array.getElem?_eq_getElem (by omega)] at h6 ⊢
          simpa using h6
        · rw [Array.getElem?_eq_none (by omega)]
          exact (Array.getElem?_eq_none (by simpa using hxs)).symm
    refine run_all f hend _ (linOk_draw hd tt) (done := []) (pres := []) (prebs := []) (rest := F) (V := fun _ => undef) (c := fun _ => 0) (t := t) (h := h) ?_
    have hcur : ∀ (S : Nat → Prop), (∀ x, ¬ S x) → ∀ x, cur ops a (fun _ => undef) S x = a.getD x undef := by
      intro S hS x
      unfold cur
      cases srcOf ops x with
      | none => rfl
      | some p => simp only; rw [if_neg (fun hh => hS p hh.1)]
    exact { items := h4, lin := by simpa using h1, cover := fun i hi => .inr (h3 i hi), inn := fun i hi => h2 i (by simpa using hi), closed := fun _ _ _ h => h, defers := rfl, size := rfl, frame := fun x => (hcur _ (fun _ h => h) x).symm, tlen := ht.1,
            tfr := fun x => by rw [hcur _ (fun y hy => by cases hy)]; exact ht.get x, rel := hr.drawn _, sync := fun _ _ _ h => (by cases h), late := fun _ h => (by cases h), early := fun _ _ h => h.elim, pref := fun _ h => (by cases h), prebf := fun _ h => (by cases h),
            clt := fun _ _ h => h.elim, cinj := fun _ _ _ _ h => h.elim, fra := Fra.refl _ _, cge := fun _ _ h => h.elim, sem := semF_mono (fun _ _ hk => hk.2) (toF_sem its hF s) }

end
end Go.HL
