/- Whatever the code, the law of results answers true: points of all teams are twice the meetings played, rankings have all teams, and the teams with the most points can be first when all rounds are played; no condition. -/
import Derived.Test.YthkbodgpcjcndaaKdx7
/- The formula of a text holds of the machine: operations, and regions in the order of their text. -/
set_option linter.unusedVariables false
set_option linter.unusedSimpArgs false
namespace Go.HL

theorem TRel.get {t : List Value} {a : Array Value} (r : TRel t a) (i : Nat) : Le (t.getD i undef) (a.getD i undef) := by
  by_cases hi : i < t.length
  · obtain ⟨v', h1, h2⟩ := r.2 i t[i] (List.getElem?_eq_getElem hi)
    rw [List.getD_eq_getElem?_getD, List.getElem?_eq_getElem hi]
    simpa [h1] using h2
  · have h1 : ¬ i < a.size := by rw [← r.1]; exact hi
    rw [List.getD_eq_getElem?_getD, List.getElem?_eq_none (by omega), Array.getD_eq_getD_getElem?, Array.getElem?_eq_none (by omega)]
    exact Le.refl _
theorem TRel.ev {t : List Value} {a : Act} (r : TRel t a.tmps) (x : Operand) : Le (ev t x) (a.eval x) := by
  cases x with
  | tmp i => simpa [HL.ev, Act.eval] using r.get i
  | const v => exact Le.refl v
  | global g => exact Le.refl _
  | func f => exact Le.refl _
theorem TRel.put {t : List Value} {a : Act} (r : TRel t a.tmps) (d : Option Nat) {v v' : Value} (h : Le v v') : TRel (putF t d v) (a.put d v').tmps := by
  cases d with
  | none => exact r
  | some d =>
    refine ⟨by simpa [putF, Act.put] using r.1, fun i u hu => ?_⟩
    simp only [putF, List.getElem?_set] at hu
    simp only [Act.put, Array.getElem?_setIfInBounds]
    by_cases hdi : d = i
    · subst hdi
      simp only [if_true] at hu ⊢
      have hl : d < t.length := by
        rcases Nat.lt_or_ge d t.length with h | h
        · exact h
        · rw [if_neg (by omega)] at hu; cases hu
      rw [if_pos hl] at hu
      cases hu
      have hl' : d < a.tmps.size := by rw [← r.1]; exact hl
      exact ⟨v', by simp [hl'], h⟩
    · rw [if_neg hdi] at hu ⊢
      exact r.2 i u hu
theorem Act.put_defers' (a : Act) (d : Option Tmp) (v : Value) : (a.put d v).defers = a.defers := by cases d <;> rfl

theorem keepL_length (live : List Nat) : ∀ (i : Nat) (t : List Value), (keepL live i t).length = t.length
  | _, [] => rfl
  | i, v :: vs => by simp [keepL, keepL_length live (i + 1) vs]
theorem maskL_length (live : List Nat) : ∀ (i : Nat) (t : List Value), (maskL live i t).length = t.length
  | _, [] => rfl
  | i, v :: vs => by simp [maskL, maskL_length live (i + 1) vs]
theorem keepL_get (live : List Nat) : ∀ (k : Nat) (t : List Value) (i : Nat) (v : Value), (keepL live k t)[i]? = some v → ∃ u, t[i]? = some u ∧ Le v u
  | _, [], i, v, h => by simp [keepL] at h
  | k, u :: vs, 0, v, h => by
    simp only [keepL, List.getElem?_cons_zero, Option.some.injEq] at h ⊢
    subst h
    cases live.contains k
    · exact ⟨u, rfl, .inl rfl⟩
    · exact ⟨u, rfl, .inr rfl⟩
  | k, u :: vs, i + 1, v, h => by
    simp only [keepL, List.getElem?_cons_succ] at h ⊢
    exact keepL_get live (k + 1) vs i v h
theorem maskL_get (ts : List Nat) : ∀ (k : Nat) (t : List Value) (i : Nat) (v : Value), (maskL ts k t)[i]? = some v → (ts.contains (k + i) = true ∧ v = unk ∧ i < t.length) ∨ (ts.contains (k + i) = false ∧ t[i]? = some v)
  | _, [], i, v, h => by simp [maskL] at h
  | k, u :: vs, 0, v, h => by
    simp only [maskL, List.getElem?_cons_zero, Option.some.injEq, Nat.add_zero] at h ⊢
    cases hc : ts.contains k
    · rw [hc] at h; exact .inr ⟨rfl, h⟩
    · rw [hc] at h; exact .inl ⟨rfl, h.symm, by simp⟩
  | k, u :: vs, i + 1, v, h => by
    simp only [maskL, List.getElem?_cons_succ] at h ⊢
    have := maskL_get ts (k + 1) vs i v h
    rw [show k + 1 + i = k + (i + 1) by omega] at this
    rcases this with ⟨h1, h2, h3⟩ | h1
    · exact .inl ⟨h1, h2, by simpa using h3⟩
    · exact .inr h1
theorem TRel.keep {t : List Value} {a : Array Value} (r : TRel t a) (live : List Nat) : TRel (keepL live 0 t) a := by
  refine ⟨by rw [keepL_length]; exact r.1, fun i v hv => ?_⟩
  obtain ⟨u, hu, hl⟩ := keepL_get live 0 t i v hv
  obtain ⟨v', h1, h2⟩ := r.2 i u hu
  exact ⟨v', h1, hl.trans h2⟩

/-- A part of the text that wrote no slot outside mk, and slots of it that are known. -/
theorem TRel.mask {t : List Value} {a a' : Array Value} (r : TRel t a) (hs : a'.size = a.size) (mk : List Nat) (ha : agree mk a a') : TRel (maskL mk 0 t) a' := by
  refine ⟨by rw [maskL_length, hs]; exact r.1, fun i v hv => ?_⟩
  rcases maskL_get mk 0 t i v hv with ⟨_, rfl, hi⟩ | ⟨hc, h1⟩
  · have hi' : i < a'.size := by rw [hs, ← r.1]; exact hi
    exact ⟨a'[i], by simp [hi'], .inl rfl⟩
  · obtain ⟨v', h2, h3⟩ := r.2 i v h1
    refine ⟨v', ?_, h3⟩
    rw [ha i (by simpa using hc)]
    exact h2
theorem TRel.set {t : List Value} {a : Array Value} (r : TRel t a) (i : Nat) {v : Value} (h : Le v (a.getD i undef)) : TRel (t.set i v) a := by
  refine ⟨by simpa using r.1, fun j u hu => ?_⟩
  simp only [List.getElem?_set] at hu
  by_cases hij : i = j
  · subst hij
    simp only [if_true] at hu
    have hl : i < t.length := by
      rcases Nat.lt_or_ge i t.length with h | h
      · exact h
      · rw [if_neg (by omega)] at hu; cases hu
    rw [if_pos hl] at hu
    cases hu
    have hl' : i < a.size := by rw [← r.1]; exact hl
    exact ⟨a[i], by simp [hl'], by simpa [hl'] using h⟩
  · rw [if_neg hij] at hu
    exact r.2 j u hu
theorem TRel.setL {a : Array Value} {t' : List Value} (r' : TRel t' a) : ∀ (outs : List (Nat × AK)) {t : List Value}, TRel t a → TRel (setL outs (outs.map fun o => t'.getD o.1 undef) t) a
  | [], t, r => by simpa [HL.setL] using r
  | (i, k) :: os, t, r => by
    simp only [List.map_cons, HL.setL]
    exact TRel.setL r' os (r.set i (r'.get i))

theorem allK_triv : ∀ (outs : List (Nat × AK)) {p : List Value → Prop}, (∀ vs, p vs) → allK outs p
  | [], p, h => h []
  | (_, .one (.int k)) :: os, p, h => fun n => allK_triv os fun vs => h _
  | (_, .one .bool) :: os, p, h => fun n => allK_triv os fun vs => h _
  | (_, .one .str) :: os, p, h => fun n => allK_triv os fun vs => h _
  | (_, .one .slice) :: os, p, h => fun A l c => allK_triv os fun vs => h _
  | (_, .one .ptr) :: os, p, h => fun n => allK_triv os fun vs => h _
  | (_, .one .func) :: os, p, h => fun n => allK_triv os fun vs => h _
  | (_, .one .any) :: os, p, h => fun n => allK_triv os fun vs => h _
  | (_, .ints k n) :: os, p, h => fun n => allK_triv os fun vs => h _
  | (_, .row _) :: os, p, h => fun n => allK_triv os fun vs => h _

/-! ### Operations -/
theorem semGen {P : Program} {ρ : Operand → Value} {h : Heap} {K : Value → Heap → Prop} (op : Op)
    (s : bif isLight op then (match evalL P op ρ h with | some v => K v h | none => False) else semX P op ρ h K) :
    (isLight op = true ∧ ∃ v, evalL P op ρ h = some v ∧ K v h) ∨ (isLight op = false ∧ semX P op ρ h K) := by
  cases hl : isLight op with
  | true =>
    simp only [hl, cond_true] at s
    split at s
    · rename_i v hv; exact .inl ⟨rfl, v, hv, s⟩
    · exact s.elim
  | false => simp only [hl, cond_false] at s; exact .inr ⟨rfl, s⟩

theorem semOp_cases {P : Program} {op : Op} {rk : RK} {ρ : Operand → Value} {h : Heap} {K : Value → Heap → Prop} (s : semOp P op rk ρ h K) :
    (isLight op = true ∧ ∃ v, evalL P op ρ h = some v ∧ K v h) ∨ (isLight op = false ∧ semX P op ρ h K) := by
  cases op
  case load t a =>
    refine .inl ⟨rfl, ?_⟩
    simp only [semOp] at s
    split at s <;> try (exact s.elim)
    rename_i b o ha
    split at s <;> try (exact s.elim)
    · rename_i i ak h1 h2
      obtain ⟨cs, h3, h4⟩ := AK.exL_imp ak s
      exact ⟨_, by simp only [evalL, ha, h1, h2, h3, Option.map_some], h4⟩
    · rename_i h1
      obtain ⟨v, h3, h4⟩ := RK.ex_imp _ s
      exact ⟨v, by simp only [evalL, ha, h1, h3], h4⟩
  case index t x i =>
    obtain ⟨v, h1, h2⟩ := RK.ex_imp rk s
    exact .inl ⟨rfl, v, h1, h2⟩
  case slice t x lo hi mx =>
    obtain ⟨v, h1, h2⟩ := RK.ex_imp rk s
    exact .inl ⟨rfl, v, h1, h2⟩
  case binOp op t x y yt =>
    refine .inl ⟨rfl, ?_⟩
    simp only [semOp] at s
    split at s
    · rename_i k a k' b hx hy
      cases hk : decide (k = k') with
      | false => simp only [hk, cond_false] at s
      | true =>
        simp only [hk, cond_true] at s
        have hb : binOk P t (Value.int k a) (Value.int k' b) = true := rfl
        refine ⟨_, ?_, s.2⟩
        simp only [evalL, hx, hy, hb, cond_true, evalBin, isShift, cond_false, hk, evalInt]
        rw [if_neg s.1]
    · rename_i k a k' b hx hy
      cases hk : decide (k = k') with
      | false => simp only [hk, cond_false] at s
      | true =>
        simp only [hk, cond_true] at s
        have hb : binOk P t (Value.int k a) (Value.int k' b) = true := rfl
        refine ⟨_, ?_, s.2⟩
        simp only [evalL, hx, hy, hb, cond_true, evalBin, isShift, cond_false, hk, evalInt]
        rw [if_neg s.1]
    · rename_i k a k' b hx hy
      have hb : binOk P t (Value.int k a) (Value.int k' b) = true := rfl
      refine ⟨_, ?_, s.2⟩
      simp only [evalL, hx, hy, hb, cond_true, evalBin, isShift, evalShift]
      rw [if_neg s.1]
    · rename_i k a k' b hx hy
      have hb : binOk P t (Value.int k a) (Value.int k' b) = true := rfl
      refine ⟨_, ?_, s.2⟩
      simp only [evalL, hx, hy, hb, cond_true, evalBin, isShift, evalShift]
      rw [if_neg s.1]
    · split at s
      · rename_i v hv; exact ⟨v, hv, s⟩
      · exact s.elim
  case indexAddr t x i =>
    refine .inl ⟨rfl, ?_⟩
    simp only [semOp] at s
    split at s
    · rename_i e k n ht hi
      split at s
      · rename_i ie A l c hie hx
        obtain ⟨b, o, rfl, hn, hk⟩ := s
        exact ⟨_, by simp only [evalL, ht, hi, hie, hx]; rw [if_pos hn], hk⟩
      · exact s.elim
    · rename_i len e k n ht hi
      split at s
      · rename_i ie b o hie hx
        exact ⟨_, by simp only [evalL, ht, hi, hie, hx]; rw [if_pos s.1], s.2⟩
      · exact s.elim
    · exact s.elim
  case call c =>
    simp only [semOp] at s
    cases hl : isLight (.call c) with
    | true =>
      simp only [hl, cond_true] at s
      split at s
      · rename_i v hv; exact .inl ⟨rfl, v, hv, s⟩
      · exact s.elim
    | false =>
      simp only [hl, cond_false] at s
      refine .inr ⟨rfl, ?_⟩
      have mono : ∀ {K K' : Value → Heap → Prop}, (∀ v h, K v h → K' v h) → semX P (.call c) ρ h K → semX P (.call c) ρ h K' := by
        intro K K' hk hs
        obtain ⟨callee, args, argTypes⟩ := c
        have hst : ∀ {b o : Nat} {vs : List Value} {A B : Heap → Prop}, (∀ h, A h → B h) → SStore h b o vs A → SStore h b o vs B :=
          fun hAB ⟨cs, h1, h2, h3, h4⟩ => ⟨cs, h1, h2, h3, hAB _ h4⟩
        cases callee
        case value f =>
          simp only [semX] at hs ⊢
          split at hs
          · cases hd : args.toList.all (fun x => isDef (ρ x)) with
            | false => simp [hd] at hs
            | true => simp only [hd, cond_true] at hs ⊢; exact hs.mono hk
          · exact hs.elim
        case invoke => simp [semX] at hs
        case builtin b =>
          cases b <;> try (simp [semX] at hs; done)
          case append =>
            simp only [semX] at hs ⊢
            split at hs <;> try (exact hs.elim)
            rename_i sx x t t' hx1 htt1
            cases hteq : (t == t') with
            | false => simp only [hteq, cond_false] at hs
            | true =>
              simp only [hteq, cond_true] at hs ⊢
              split at hs <;> try (exact hs.elim)
              split at hs <;> try (exact hs.elim)
              rename_i ie hie
              split at hs <;> try (exact hs.elim)
              rename_i z A l c1 B m d hz hs1 hx1
              cases hzs : (z.cells.toList.length == ie.size) with
              | false => simp only [hzs, cond_false] at hs
              | true =>
                simp only [hzs, cond_true] at hs ⊢
                obtain ⟨old, news, a1, a2, a3, a4, a5, a6, a7⟩ := hs
                exact ⟨old, news, a1, a2, a3, a4, a5, fun hr => ⟨fun hm => hk _ _ ((a6 hr).1 hm), fun hm => let ⟨b, o, e, st⟩ := (a6 hr).2 hm; ⟨b, o, e, hst (fun _ => hk _ _) st⟩⟩,
                  fun hr c' hc b hb => hk _ _ (a7 hr c' hc b hb)⟩
          case copy =>
            simp only [semX] at hs ⊢
            split at hs <;> try (exact hs.elim)
            split at hs <;> try (exact hs.elim)
            split at hs <;> try (exact hs.elim)
            split at hs <;> try (exact hs.elim)
            obtain ⟨news, a1, a2, a3, a4⟩ := hs
            exact ⟨news, a1, a2, fun hm => hk _ _ (a3 hm), fun hm => let ⟨b, o, e, st⟩ := a4 hm; ⟨b, o, e, hst (fun _ => hk _ _) st⟩⟩
          case clear =>
            simp only [semX] at hs ⊢
            split at hs <;> try (exact hs.elim)
            split at hs <;> try (exact hs.elim)
            split at hs <;> try (exact hs.elim)
            split at hs <;> try (exact hs.elim)
            obtain ⟨a3, a4⟩ := hs
            exact ⟨fun hm => hk _ _ (a3 hm), fun hm => let ⟨b, o, e, st⟩ := a4 hm; ⟨b, o, e, hst (fun _ => hk _ _) st⟩⟩
      have hx : ∀ v h', (rk.ex fun v' => v = v' ∧ K v' h') → K v h' := fun v h' he => by
        obtain ⟨v', rfl, hk⟩ := RK.ex_imp rk he; exact hk
      split at s
      · exact mono hx s
      · exact mono hx s
  all_goals exact semGen _ s

/-- One operation, whatever it is. -/
theorem semOp_sound {P : Program} {o : Oper} {rk : RK} {t : List Value} {a : Act} {h : Heap} {w : World} {K : Value → Heap → Prop} {Q : Exit → Act → World → Prop}
    (s : semOp P o.op rk (ev t) h K) (ht : TRel t a.tmps) (r : Rel h w) : o.wp P a w (Done o a h w K) Q := by
  rcases semOp_cases s with ⟨_, v, hv, hk⟩ | ⟨_, hs⟩
  · obtain ⟨v', h1, h2⟩ := evalL_mono ht.ev hv
    exact wp_value (evalL_sound h1 r) ⟨v, v', h, rfl, h2, r, Fra.refl h w, hk⟩
  · exact semX_sound hs ht.ev r

end Go.HL
