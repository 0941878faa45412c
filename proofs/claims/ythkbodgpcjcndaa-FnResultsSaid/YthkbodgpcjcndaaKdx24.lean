/- Whatever the code, the law of results answers true: points of all teams are twice the meetings played, rankings have all teams, and the teams with the most points can be first when all rounds are played; no condition. -/
import Derived.Test.YthkbodgpcjcndaaKdx23
/- The formula of a text holds of the machine: statements, loops, calls. -/
set_option linter.unusedVariables false
set_option linter.unusedSimpArgs false
namespace Go.HL

/-- What a text's shape must fit. -/
def chk : Code → RC → Bool
  | .skip, .skip => true
  | .ret, .ret => true
  | .exit _, .exit => true
  | .seq a b, .seq ra rb => chk a ra && chk b rb
  | .seq a b, .join mk _ ra rb => (mods a).all (fun d => mk.contains d) && chk a ra && chk b rb
  | .region _ ops draw, .reg its => its.okMk ops && (bif draw then drawOk ops its else its.plain && its.flat == List.range ops.size)
  | .cond _ a b, .cond ra rb => chk a ra && chk b rb
  | .block _ a, .block ra => chk a ra
  | .loop a, .loop _ ra => chk a ra
  | _, _ => false

theorem wp_of_rounds {P : Program} {c : Code} {Q : Exit → Act → World → Prop} {a : Act} {w : World} (h : Rounds P c Q a w) : (Code.loop c).wp P Q a w :=
  fun b k cs => let ⟨e, a', w', q, r⟩ := h b k cs; ⟨e, a', w', q, .of_steps (.one step_loop) r⟩
theorem rounds_unroll {P : Program} {c : Code} {Q : Exit → Act → World → Prop} {a : Act} {w : World} (h : c.wp P (Exit.then (Rounds P c Q) Q) a w) : Rounds P c Q a w := by
  intro b k cs
  obtain ⟨e, a₁, w₁, hq, harr⟩ := h b (.inLoop c :: k) cs
  cases e with
  | normal =>
    obtain ⟨e₂, a₂, w₂, hq₂, harr₂⟩ := hq b k cs
    exact ⟨e₂, a₂, w₂, hq₂, .of_steps (Steps.trans harr (.one step_inLoop)) harr₂⟩
  | exit id => exact ⟨_, a₁, w₁, hq, .pass (x := .inLoop c) rfl (fun _ _ => .inl (by simp)) harr⟩
  | goto l => exact ⟨_, a₁, w₁, hq, .pass (x := .inLoop c) rfl (fun _ _ => .inl (by simp)) harr⟩
  | ret => exact ⟨_, a₁, w₁, hq, .pass (x := .inLoop c) rfl (fun _ _ => .inl (by simp)) harr⟩
  | panic ch => exact ⟨_, a₁, w₁, hq, .pass (x := .inLoop c) rfl (fun _ _ => .inl (by simp)) harr⟩
  | outgrown => exact ⟨_, a₁, w₁, hq, .pass (x := .inLoop c) rfl (fun _ _ => .inl (by simp)) harr⟩
theorem rounds_mono {P : Program} {c : Code} {Q Q' : Exit → Act → World → Prop} {a : Act} {w : World} (h : Rounds P c Q a w) (hq : ∀ e a w, Q e a w → Q' e a w) : Rounds P c Q' a w :=
  fun b k cs => let ⟨e, a', w', q, r⟩ := h b k cs; ⟨e, a', w', hq _ _ _ q, r⟩

theorem act_eta {a : Act} (h : a.defers = []) : a = { tmps := a.tmps, defers := [] } := by cases a; simp at h; subst h; rfl

theorem Holds.mono {P : Program} {c : Code} {Q Q' : AQ} {t : List Value} {h : Heap} (H : Holds P c Q t h) (hq : ∀ e t h, Q e t h → Q' e t h) : Holds P c Q' t h :=
  fun a w ht r => wp_mono (H a w ht r) fun e a' w' ⟨⟨hd, t', h', x1, x2, x3, q⟩, y⟩ => ⟨⟨hd, t', h', x1, x2, x3, hq _ _ _ q⟩, y⟩
theorem Loops.mono {P : Program} {c : Code} {Q Q' : AQ} {t : List Value} {h : Heap} (H : Loops P c Q t h) (hq : ∀ e t h, Q e t h → Q' e t h) : Loops P c Q' t h :=
  fun a w ht r => rounds_mono (H a w ht r) fun e a' w' ⟨⟨hd, t', h', x1, x2, x3, q⟩, y⟩ => ⟨⟨hd, t', h', x1, x2, x3, hq _ _ _ q⟩, y⟩

/-- The end of one text is the begin of the next one. -/
theorem behind {Q : AQ} {h h1 : Heap} {w w1 : World} {m1 m2 m : List Nat} {a : Array Value} {a1 : Act} (f : Fra h h1 w w1) (hs : a1.tmps.size = a.size) (hag : agree m1 a a1.tmps)
    (s1 : ∀ x ∈ m1, x ∈ m) (s2 : ∀ x ∈ m2, x ∈ m) {e : Exit} {a' : Act} {w' : World}
    (k : lift Q h1 w1 e a' w' ∧ a'.tmps.size = a1.tmps.size ∧ agree m2 a1.tmps a'.tmps) : lift Q h w e a' w' ∧ a'.tmps.size = a.size ∧ agree m a a'.tmps := by
  obtain ⟨⟨hd, t', h', x1, x2, x3, q⟩, y1, y2⟩ := k
  exact ⟨⟨hd, t', h', x1, x2, f.trans x3, q⟩, y1.trans hs, (hag.mono s1).trans (y2.mono s2)⟩

theorem lift_other {Q Q' : AQ} {h : Heap} {w : World} {e : Exit} {a : Act} {w' : World} (hq : ∀ t h, Q e t h → Q' e t h) (k : lift Q h w e a w') : lift Q' h w e a w' :=
  let ⟨hd, t', h', x1, x2, x3, q⟩ := k; ⟨hd, t', h', x1, x2, x3, hq _ _ q⟩

theorem vc_sound {P : Program} (hm : P.follows .mixedOrders = true) : ∀ (c : Code) (rc : RC), chk c rc = true → ∀ (Q : AQ) (t : List Value) (h : Heap), vc P c rc Q t h → Holds P c Q t h := by
  intro c
  induction c with
  | skip =>
    intro rc hc Q t h s
    cases rc <;> simp [chk] at hc
    exact fun a w ht r => wp_skip ⟨⟨rfl, t, h, ht, r, Fra.refl h w, s⟩, rfl, agree.refl _ _⟩
  | ret =>
    intro rc hc Q t h s
    cases rc <;> simp [chk] at hc
    exact fun a w ht r => wp_ret ⟨⟨rfl, t, h, ht, r, Fra.refl h w, s⟩, rfl, agree.refl _ _⟩
  | exit id =>
    intro rc hc Q t h s
    cases rc <;> simp [chk] at hc
    exact fun a w ht r => wp_exit ⟨⟨rfl, t, h, ht, r, Fra.refl h w, s⟩, rfl, agree.refl _ _⟩
  | seq x y ihx ihy =>
    intro rc hc Q t h s
    cases rc <;> simp only [chk, Bool.and_eq_true, Bool.false_eq_true] at hc
    case seq rx ry =>
      intro a w ht r
      refine wp_seq (wp_mono (ihx rx hc.1 _ t h s a w ht r) ?_)
      rintro e a1 w1 ⟨hl, hs, hag⟩
      cases e with
      | normal =>
        obtain ⟨hd, t1, h1, x1, x2, x3, q⟩ := hl
        show y.wp P _ a1 w1
        rw [act_eta hd]
        refine wp_mono (ihy ry hc.2 _ t1 h1 q a1.tmps w1 x1 x2) ?_
        exact fun e a' w' k => behind (m2 := mods y) x3 hs hag (by simp [mods]; exact fun x hx => .inl hx) (by simp [mods]; exact fun x hx => .inr hx) k
      | _ => exact ⟨lift_other (fun _ _ q => q) hl, hs, hag.mono (by simp [mods]; exact fun x hx => .inl hx)⟩
    case join mk outs rx ry =>
      obtain ⟨⟨hmk, hcx⟩, hcy⟩ := hc
      have hmk' : ∀ d ∈ mods x, d ∈ mk := fun d hd => by simpa using List.all_eq_true.1 hmk d hd
      intro a w ht r
      have s' := s (fun vs h' => vc P y ry Q (setL outs vs (maskL mk 0 t)) h') (fun h' => allK_triv outs fun vs k => k)
      refine wp_seq (wp_mono (ihx rx hcx _ t h s' a w ht r) ?_)
      rintro e a1 w1 ⟨hl, hs, hag⟩
      cases e with
      | normal =>
        obtain ⟨hd, t1, h1, x1, x2, x3, q⟩ := hl
        show y.wp P _ a1 w1
        rw [act_eta hd]
        have hmask : TRel (setL outs (outs.map fun o => t1.getD o.1 undef) (maskL mk 0 t)) a1.tmps := TRel.setL x1 outs (ht.mask hs mk (hag.mono hmk'))
        refine wp_mono (ihy ry hcy _ _ h1 q a1.tmps w1 hmask x2) ?_
        exact fun e a' w' k => behind (m2 := mods y) x3 hs hag (by simp [mods]; exact fun x hx => .inl hx) (by simp [mods]; exact fun x hx => .inr hx) k
      | _ => exact ⟨lift_other (fun _ _ q => q) hl, hs, hag.mono (by simp [mods]; exact fun x hx => .inl hx)⟩
  | region id ops draw =>
    intro rc hc Q t h s
    cases rc <;> simp only [chk, Bool.false_eq_true] at hc
    rename_i its
    simp only [Bool.and_eq_true] at hc
    obtain ⟨hok, hc⟩ := hc
    intro a w ht r
    have hend : ∀ (l : List Nat), (∀ x ∈ dstsOf ops l, x ∈ modsOps ops) → ∀ t' h' a' w', TRel t' a'.tmps → Beh ops l { tmps := a, defers := [] } a' → Rel h' w' → Fra h h' w w' → Q .normal t' h' →
        (lift Q h w .normal a' w' ∧ a'.tmps.size = a.size ∧ agree (modsOps ops) a a'.tmps) :=
      fun l hl t' h' a' w' ht' b' r' f' q => ⟨⟨b'.defers, t', h', ht', r', f', q⟩, b'.size, b'.agree.mono hl⟩
    have hdst : ∀ l, ∀ x ∈ dstsOf ops l, x ∈ modsOps ops := by
      intro l x hx
      simp only [dstsOf, List.mem_filterMap, dstOf, Option.bind_eq_some_iff] at hx
      obtain ⟨i, _, o, ho, hd⟩ := hx
      simp only [modsOps, List.mem_filterMap]
      exact ⟨o, by simpa using Array.mem_of_getElem? ho, hd⟩
    cases draw with
    | true => exact draw_sound hm hc s ht r fun t' h' a' w' ht' b' r' f' q => hend _ (hdst _) t' h' a' w' ht' b' r' f' q
    | false =>
      simp only [cond_false, Bool.and_eq_true, beq_iff_eq] at hc
      obtain ⟨hpl, hfl⟩ := hc
      refine wp_region ?_
      rw [← hfl]
      have := its_exact (Q := fun e a' w' => lift Q h w e a' w' ∧ a'.tmps.size = a.size ∧ agree (mods (.region id ops false)) a a'.tmps) its hpl hok _ t h { tmps := a, defers := [] } w [] s ht rfl r
        (fun t' h' a' w' ht' b' r' f' q => hend _ (hdst _) t' h' a' w' ht' b' r' f' q)
      simpa using this
  | cond x ca cb iha ihb =>
    intro rc hc Q t h s
    cases rc <;> simp only [chk, Bool.and_eq_true, Bool.false_eq_true] at hc
    rename_i ra rb
    intro a w ht r
    simp only [vc] at s
    split at s
    · rename_i b hb
      have hev : Act.eval { tmps := a, defers := [] } x = .bool b := by
        have := (TRel.ev (a := { tmps := a, defers := [] }) ht x)
        rw [hb] at this
        exact (this.eq rfl).symm
      refine wp_cond hev ?_
      cases b with
      | true =>
        refine wp_mono (iha ra hc.1 _ t h (s.1 rfl) a w ht r) ?_
        exact fun e a' w' ⟨k, k1, k2⟩ => ⟨k, k1, k2.mono (by simp [mods]; exact fun x hx => .inl hx)⟩
      | false =>
        refine wp_mono (ihb rb hc.2 _ t h (s.2 rfl) a w ht r) ?_
        exact fun e a' w' ⟨k, k1, k2⟩ => ⟨k, k1, k2.mono (by simp [mods]; exact fun x hx => .inr hx)⟩
    · exact s.elim
  | block id x ihx =>
    intro rc hc Q t h s
    cases rc <;> simp only [chk, Bool.false_eq_true] at hc
    rename_i rx
    intro a w ht r
    refine wp_block (wp_mono (ihx rx hc _ t h s a w ht r) ?_)
    rintro e a1 w1 ⟨hl, hs, hag⟩
    cases e with
    | exit i =>
      simp only [Exit.inBlock]
      split
      · rename_i hi
        refine ⟨?_, hs, hag⟩
        obtain ⟨hd, t1, h1, x1, x2, x3, q⟩ := hl
        refine ⟨hd, t1, h1, x1, x2, x3, ?_⟩
        simpa [blockQ, hi] using q
      · rename_i hi
        refine ⟨?_, hs, hag⟩
        obtain ⟨hd, t1, h1, x1, x2, x3, q⟩ := hl
        refine ⟨hd, t1, h1, x1, x2, x3, ?_⟩
        have : (i == id) = false := by simpa using hi
        simpa [blockQ, this] using q
    | _ => exact ⟨lift_other (fun _ _ q => q) hl, hs, hag⟩
  | loop x ihx =>
    intro rc hc Q t h s
    cases rc <;> simp only [chk, Bool.false_eq_true] at hc
    exact fun a w ht r => wp_of_rounds (s a w (ht.keep _) r)
  | rangeFunc => intro rc hc; cases rc <;> simp [chk] at hc
  | scope => intro rc hc; cases rc <;> simp [chk] at hc
  | label => intro rc hc; cases rc <;> simp [chk] at hc
  | goto => intro rc hc; cases rc <;> simp [chk] at hc
  | refuse => intro rc hc; cases rc <;> simp [chk] at hc

/-- One round of a loop. -/
theorem loop_step {P : Program} (hm : P.follows .mixedOrders = true) {c : Code} {rc : RC} {live : List Nat} {Q : AQ} {t : List Value} {h : Heap} (hc : chk c rc = true)
    (s : vc P c rc (thenQ (fun t' h' => Loops P c Q (keepL live 0 t') h') Q) t h) : Loops P c Q t h := by
  intro a w ht r
  refine rounds_unroll (wp_mono (vc_sound hm c rc hc _ t h s a w ht r) ?_)
  rintro e a1 w1 ⟨hl, hs, hag⟩
  cases e with
  | normal =>
    obtain ⟨hd, t1, h1, x1, x2, x3, q⟩ := hl
    show Rounds P c _ a1 w1
    rw [act_eta hd]
    refine rounds_mono (q a1.tmps w1 (x1.keep _) x2) ?_
    exact fun e a' w' k => behind (m2 := mods c) x3 hs hag (fun x hx => hx) (fun x hx => hx) k
  | _ => exact ⟨lift_other (fun _ _ q => q) hl, hs, hag⟩

def oneRes (a : Array Value) : ResultVar → Sem Value
  | .tmp t => pure (a.getD t undef)
  | .cell p ty => do loadVar ty (← asAddr (a.getD p undef))
theorem results_eq (fn : Func) (a : Array Value) : results fn a = (do
    let vs ← fn.results.mapM (oneRes a)
    pure (if h : vs.size = 1 then vs[0] else .tuple vs)) := by
  unfold results
  congr 1

theorem run_results {P : Program} {t : List Value} {a : Array Value} {h : Heap} {w : World} (ht : TRel t a) (r : Rel h w) : ∀ (rs : List ResultVar) {k : List Value → Prop}, resVals P t h rs k →
    ∃ vs, (rs.mapM (oneRes a) : Sem (List Value)).run P w = .ok vs w ∧ k vs
  | [], k, s => ⟨[], rfl, s⟩
  | .tmp i :: rs, k, s => by
    simp only [resVals] at s
    cases hd : isDef (t.getD i undef) with
    | false => rw [hd] at s; exact s.elim
    | true =>
      rw [hd] at s
      obtain ⟨vs, h1, h2⟩ := run_results ht r rs s
      have he := (ht.get i).eq hd
      refine ⟨_, ?_, h2⟩
      have h0 : (oneRes a (.tmp i)).run P w = .ok (t.getD i undef) w := by rw [he]; rfl
      rw [List.mapM_cons]
      simp only [Sem.run_bind, h0, Result.andThen_ok, h1, Sem.run_pure]
  | .cell p ty :: rs, k, s => by
    simp only [resVals] at s
    split at s <;> try (exact s.elim)
    rename_i b o hp
    have hp' : a.getD p undef = .pointer (some ⟨b, o, none⟩) := by
      have := ht.get p
      rw [hp] at this
      exact (this.eq rfl).symm
    have fin : ∀ v, (match isAggT P ty, P.info? ty with
        | some true, some i => (h.getN b o i.size).map fun cs => Value.agg cs.toArray
        | some false, _ => h.get b o
        | _, _ => none) = some v → resVals P t h rs (fun vs => k (v :: vs)) →
        ∃ vs, ((ResultVar.cell p ty :: rs).mapM (oneRes a) : Sem (List Value)).run P w = .ok vs w ∧ k vs := by
      intro v hv s
      obtain ⟨vs, h1, h2⟩ := run_results ht r rs s
      refine ⟨_, ?_, h2⟩
      have h0 : (oneRes a (.cell p ty)).run P w = .ok v w := by
        simp only [oneRes, hp', asAddr, Sem.run_bind, Sem.run_pure, Result.andThen_ok, run_loadVar r hv]
      rw [List.mapM_cons]
      simp only [Sem.run_bind, h0, Result.andThen_ok, h1, Sem.run_pure]
    split at s <;> try (exact s.elim)
    · rename_i i h1 h2
      obtain ⟨cs, h3, h4⟩ := s
      exact fin _ (by simp only [h1, h2, h3, Option.map_some]) h4
    · rename_i h1
      obtain ⟨v, h3, h4⟩ := s
      exact fin _ (by simp only [h1, h3]) h4

/-- A function's call, by the formula of its body. -/
theorem acalls_of_vc {P : Program} (hm : P.follows .mixedOrders = true) {f : FuncId} {fn : Func} {c : Code} {rc : RC} {args : List Value} {h : Heap} {K : Value → Heap → Prop}
    (hf : P.funcs[f]? = some fn) (hb : fn.body = some c) (hn : (fn.name == "runtime.NumGoroutine") = false) (hc : chk c rc = true) {t : List Value} (ht : args ++ List.replicate (fn.ntmps - args.length) undef = t)
    (s : vc P c rc (retQ P fn.results.toList K) t h) : ACalls P f args h K := by
  refine ⟨⟨fn, hf, by rw [hb]; rfl, hn⟩, fun w r => ?_⟩
  refine calls_of_wp hf hb ?_
  have hrel : TRel t (args.toArray ++ Array.replicate (fn.ntmps - args.toArray.size) undef) := by
    subst ht
    refine ⟨by simp, fun i v hv => ⟨v, ?_, Le.refl v⟩⟩
    have : (args.toArray ++ Array.replicate (fn.ntmps - args.toArray.size) undef) = (args ++ List.replicate (fn.ntmps - args.length) undef).toArray := by
      apply Array.ext'; simp
    rw [this]
    simpa using hv
  refine wp_mono (vc_sound hm c rc hc _ t h s _ w hrel r) ?_
  rintro e a' w' ⟨⟨hd, t', h', x1, x2, x3, q⟩, _⟩
  have fin : resVals P t' h' fn.results.toList (fun vs => K (match vs with | [v] => v | vs => .tuple vs.toArray) h') →
      a'.defers = [] ∧ ∃ v, (results fn a'.tmps).run P w' = .ok v w' ∧ ∃ v1 h'', (.returned v : Ending) = .returned v1 ∧ Rel h'' w' ∧ Fra h h'' w w' ∧ K v1 h'' := by
    intro q
    obtain ⟨vs, h1, h2⟩ := run_results x1 x2 fn.results.toList q
    refine ⟨hd, _, ?_, _, h', rfl, x2, x3, h2⟩
    have h3 : ((fn.results.mapM (oneRes a'.tmps) : Sem (Array Value))).run P w' = .ok vs.toArray w' := by
      rw [Array.mapM_eq_mapM_toList]
      show (do let x ← fn.results.toList.mapM (oneRes a'.tmps); pure x.toArray : Sem (Array Value)).run P w' = _
      simp only [Sem.run_bind, h1, Result.andThen_ok, Sem.run_pure]
    rw [results_eq]
    simp only [Sem.run_bind, h3, Result.andThen_ok, Sem.run_pure]
    congr 1
    match vs with
    | [] => rfl
    | [v] => rfl
    | v :: u :: vs => simp
  cases e with
  | normal => exact fin q
  | ret => exact fin q
  | _ => exact q.elim

end Go.HL
