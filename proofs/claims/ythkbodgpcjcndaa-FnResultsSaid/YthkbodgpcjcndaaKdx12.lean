/- Whatever the code, the law of results answers true: points of all teams are twice the meetings played, rankings have all teams, and the teams with the most points can be first when all rounds are played; no condition. -/
import Derived.Test.YthkbodgpcjcndaaKdx11
/- Regions whose order is open, II: one order of the items serves for every order of the machine's. Definitions and first facts. -/
set_option linter.unusedVariables false
set_option linter.unusedSimpArgs false
namespace Go.HL

inductive FI where
  | op (i : Nat) (rr : List Nat)
  | pre (i : Nat)
  | preb (j k : Nat)
  | abox (j k : Nat)
  | split (x : Nat)
  | forget (mk : List Nat)
def FI.exec : FI → List Nat
  | .op i _ => [i]
  | .abox j k => [j, k]
  | _ => []
def execs (F : List FI) : List Nat := F.flatMap FI.exec
/-- The slots that an item writes. -/
def FI.wr (ops : Array Oper) : FI → List Nat
  | .op i _ => (dstOf ops i).toList
  | .abox j _ => (dstOf ops j).toList
  | .forget mk => mk
  | _ => []
def wrs (ops : Array Oper) (F : List FI) : List Nat := F.flatMap (FI.wr ops)
def Its.toF (ops : Array Oper) : Its → Option (List FI)
  | .nil => some []
  | .op i _ rr rest => (rest.toF ops).map (.op i rr :: ·)
  | .split x rest => (rest.toF ops).map (.split x :: ·)
  | .pre i rest => (rest.toF ops).map (.pre i :: ·)
  | .preb j k rest => (rest.toF ops).map (.preb j k :: ·)
  | .abox j k rest => (rest.toF ops).map (.abox j k :: ·)
  | .join g mk outs rest => match g.toF ops, rest.toF ops with
    | some a, some b => bif (wrs ops a).all (fun x => mk.contains x) && outs.all (fun o => mk.contains o.1) then some (a ++ .forget mk :: b) else none
    | _, _ => none

def semF (P : Program) (ops : Array Oper) (K : List Value → Heap → Prop) : List FI → List Value → Heap → Prop
  | [], t, h => K t h
  | .op i rr :: r, t, h => ∃ o, ops[i]? = some o ∧ ∃ g, guardOf ops o t = some g ∧
      (g = true → (isLight o.op = true ∧ ∃ v, evalL P o.op (ev t) h = some v ∧ semF P ops K r (putF t o.dst v) h) ∨
        (isLight o.op = false ∧ semX P o.op (ev t) h fun v h' => rrAnd P ops (putF t o.dst v) h' (semF P ops K r (putF t o.dst v) h') rr)) ∧
      (g = false → semF P ops K r (putF t o.dst undef) h)
  | .pre i :: r, t, h => ∃ o, ops[i]? = some o ∧ ∃ g, guardOf ops o t = some g ∧ (g = true → preThen P o.op (ev t) (semF P ops K r t h)) ∧ (g = false → semF P ops K r t h)
  | .preb j k :: r, t, h => ∃ oj ok, ops[j]? = some oj ∧ ops[k]? = some ok ∧ inF t oj.dst = true ∧ boxThen P oj.op ok.op (ev t) fun _ => semF P ops K r t h
  | .abox j k :: r, t, h => ∃ oj ok, ops[j]? = some oj ∧ ops[k]? = some ok ∧ boxThen P oj.op ok.op (ev t) fun cs => SAlloc h cs fun b h' => semF P ops K r (putF t oj.dst (.pointer (some ⟨b, 0, none⟩))) h'
  | .split x :: r, t, h => semF P ops K r t h
  | .forget mk :: r, t, h => ∃ t1, t1.length = t.length ∧ (∀ x, Le (t1.getD x undef) (t.getD x undef)) ∧ (∀ x, x ∉ mk → t1.getD x undef = t.getD x undef) ∧ semF P ops K r t1 h

theorem rrAnd_mono {P : Program} {ops : Array Oper} {t : List Value} {h : Heap} {p q : Prop} (hpq : p → q) : ∀ {l : List Nat}, rrAnd P ops t h p l → rrAnd P ops t h q l
  | [], s => hpq s
  | _ :: l, s => ⟨s.1, rrAnd_mono hpq (l := l) s.2⟩
theorem light_rr {P : Program} {ops : Array Oper} {t : List Value} {h : Heap} {p : Prop} {l : List Nat} (s : rrAnd P ops t h p l) : p := rrAnd_end s

theorem SStore_mono {h : Heap} {b o : Nat} {vs : List Value} {A B : Heap → Prop} (hAB : ∀ h, A h → B h) : SStore h b o vs A → SStore h b o vs B :=
  fun ⟨cs, h1, h2, h3, h4⟩ => ⟨cs, h1, h2, h3, hAB _ h4⟩
theorem sizeOk_mono {v : Value} {n : Nat} {p q : Prop} (hpq : p → q) (s : sizeOk v n p) : sizeOk v n q := by
  unfold sizeOk at *
  split at s
  · exact ⟨s.1, hpq s.2⟩
  · cases hn : (n == 1) with
    | false => rw [hn] at s; exact s.elim
    | true => rw [hn] at s; exact hpq s
theorem cellsOne_mono {v : Value} {p q : Prop} (hpq : p → q) (s : cellsOne v p) : cellsOne v q := by
  unfold cellsOne at *
  split at s
  · exact ⟨s.1, hpq s.2⟩
  · exact s.elim
  · exact hpq s
theorem partsThen_mono {ρ : Operand → Value} {n : Nat} {p q : Prop} (hpq : p → q) : ∀ (l : List (Nat × Operand)), partsThen ρ n p l → partsThen ρ n q l
  | [], s => hpq s
  | _ :: l, s => sizeOk_mono (partsThen_mono hpq l) s
theorem preThen_mono {P : Program} {op : Op} {ρ : Operand → Value} {p q : Prop} (hpq : p → q) (s : preThen P op ρ p) : preThen P op ρ q := by
  cases op <;> simp only [preThen] at s ⊢
  case alloc e =>
    split at s <;> try (exact s.elim)
    split at s <;> try (exact s.elim)
    exact hpq s
  case box e x =>
    cases hd : isDef (ρ x) with
    | false => rw [hd] at s; exact s.elim
    | true => rw [hd] at s; exact hpq s
  case makeSlice t l c =>
    split at s <;> try (exact s.elim)
    rename_i e ht
    split at s <;> try (exact s.elim)
    rename_i i hi
    split at s <;> try (exact s.elim)
    rename_i z k n k' m hz hl hc
    cases hs : (z.cells.toList.length == i.size) with
    | false => rw [hs] at s; exact s.elim
    | true =>
      rw [hs] at s
      obtain ⟨h1, h2, h3, h4, h5⟩ := s
      exact ⟨h1, h2, h3, h4, hpq h5⟩
  case buildSlice t len parts =>
    split at s <;> try (exact s.elim)
    rename_i e ht
    split at s <;> try (exact s.elim)
    rename_i i hi
    split at s <;> try (exact s.elim)
    rename_i z hz
    cases hc : ((parts.toList.map (·.1) == List.range len) && parts.toList.all (fun p => isDef (ρ p.2)) && decide (len * i.size ≤ 16777216) && (z.cells.toList.length == i.size)) with
    | false => rw [hc] at s; exact s.elim
    | true => rw [hc] at s; exact partsThen_mono hpq _ s
theorem boxThen_mono {P : Program} {oj ok : Op} {ρ : Operand → Value} {p q : List Value → Prop} (hpq : ∀ cs, p cs → q cs) (s : boxThen P oj ok ρ p) : boxThen P oj ok ρ q := by
  unfold boxThen at *
  split at s <;> try (exact s.elim)
  rename_i e ty ad x
  split at s <;> try (exact s.elim)
  rename_i i i' hi hi'
  split at s <;> try (exact s.elim)
  rename_i z hz
  cases hc : ((z.cells.toList.length == i'.size) && isDef (ρ x)) with
  | false => rw [hc] at s; exact s.elim
  | true => rw [hc] at s; exact sizeOk_mono (cellsOne_mono (hpq _)) s

theorem semX_mono {P : Program} {op : Op} {ρ : Operand → Value} {h : Heap} {K K' : Value → Heap → Prop} (hk : ∀ v h, K v h → K' v h) (hs : semX P op ρ h K) : semX P op ρ h K' := by
  cases op <;> try (exact hs.elim)
  case alloc e =>
    simp only [semX] at hs ⊢
    split at hs <;> try (exact hs.elim)
    split at hs <;> try (exact hs.elim)
    exact fun b hb => hk _ _ (hs b hb)
  case box e x =>
    simp only [semX] at hs ⊢
    cases hd : isDef (ρ x) with
    | false => rw [hd] at hs; exact hs.elim
    | true => rw [hd] at hs; exact fun b hb => hk _ _ (hs b hb)
  case store t a x =>
    simp only [semX] at hs ⊢
    cases hd : isDef (ρ x) with
    | false => rw [hd] at hs; exact hs.elim
    | true =>
      rw [hd] at hs
      simp only [cond_true] at hs ⊢
      split at hs <;> try (exact hs.elim)
      split at hs <;> try (exact hs.elim)
      exact sizeOk_mono (SStore_mono fun _ => hk _ _) hs
  case makeSlice t l c =>
    simp only [semX] at hs ⊢
    split at hs <;> try (exact hs.elim)
    rename_i e ht
    split at hs <;> try (exact hs.elim)
    rename_i i hi
    split at hs <;> try (exact hs.elim)
    rename_i z k n k' m hz hl hc
    cases hs1 : (z.cells.toList.length == i.size) with
    | false => rw [hs1] at hs; exact hs.elim
    | true =>
      rw [hs1] at hs
      obtain ⟨h1, h2, h3, h4, h5⟩ := hs
      exact ⟨h1, h2, h3, h4, fun b hb => hk _ _ (h5 b hb)⟩
  case buildSlice t len parts =>
    simp only [semX] at hs ⊢
    split at hs <;> try (exact hs.elim)
    rename_i e ht
    split at hs <;> try (exact hs.elim)
    rename_i i hi
    split at hs <;> try (exact hs.elim)
    rename_i z hz
    cases hc : ((parts.toList.map (·.1) == List.range len) && parts.toList.all (fun p => isDef (ρ p.2)) && decide (len * i.size ≤ 16777216) && (z.cells.toList.length == i.size)) with
    | false => rw [hc] at hs; exact hs.elim
    | true => rw [hc] at hs; exact partsThen_mono (fun s b hb => hk _ _ (s b hb)) _ hs
  case call c =>
    obtain ⟨callee, args, argTypes⟩ := c
    cases callee
    case value f =>
      simp only [semX] at hs ⊢
      split at hs
      · cases hd : args.toList.all (fun x => isDef (ρ x)) with
        | false => rw [hd] at hs; exact hs.elim
        | true => rw [hd] at hs; exact hs.mono hk
      · exact hs.elim
    case invoke => exact hs.elim
    case builtin b =>
      cases b <;> try (exact hs.elim)
      case append =>
        simp only [semX] at hs ⊢
        split at hs <;> try (exact hs.elim)
        rename_i sx x t t' hx1 htt1
        cases hteq : (t == t') with
        | false => rw [hteq] at hs; exact hs.elim
        | true =>
          rw [hteq] at hs
          simp only [cond_true] at hs ⊢
          split at hs <;> try (exact hs.elim)
          split at hs <;> try (exact hs.elim)
          rename_i ie hie
          split at hs <;> try (exact hs.elim)
          rename_i z A l c1 B m d hz hs1 hx1
          cases hzs : (z.cells.toList.length == ie.size) with
          | false => rw [hzs] at hs; exact hs.elim
          | true =>
            rw [hzs] at hs
            obtain ⟨old, news, a1, a2, a3, a4, a5, a6, a7⟩ := hs
            exact ⟨old, news, a1, a2, a3, a4, a5, fun hr => ⟨fun hm => hk _ _ ((a6 hr).1 hm), fun hm => let ⟨b, o, e, st⟩ := (a6 hr).2 hm; ⟨b, o, e, SStore_mono (fun _ => hk _ _) st⟩⟩,
              fun hr c' hc b hb => hk _ _ (a7 hr c' hc b hb)⟩
      case copy =>
        simp only [semX] at hs ⊢
        split at hs <;> try (exact hs.elim)
        split at hs <;> try (exact hs.elim)
        split at hs <;> try (exact hs.elim)
        split at hs <;> try (exact hs.elim)
        obtain ⟨news, a1, a2, a3, a4⟩ := hs
        exact ⟨news, a1, a2, fun hm => hk _ _ (a3 hm), fun hm => let ⟨b, o, e, st⟩ := a4 hm; ⟨b, o, e, SStore_mono (fun _ => hk _ _) st⟩⟩
      case clear =>
        simp only [semX] at hs ⊢
        split at hs <;> try (exact hs.elim)
        split at hs <;> try (exact hs.elim)
        split at hs <;> try (exact hs.elim)
        split at hs <;> try (exact hs.elim)
        obtain ⟨a3, a4⟩ := hs
        exact ⟨fun hm => hk _ _ (a3 hm), fun hm => let ⟨b, o, e, st⟩ := a4 hm; ⟨b, o, e, SStore_mono (fun _ => hk _ _) st⟩⟩

theorem semF_bind {P : Program} {ops : Array Oper} {K1 K : List Value → Heap → Prop} {F2 : List FI} (hk : ∀ t h, K1 t h → semF P ops K F2 t h) :
    ∀ (F : List FI) {t : List Value} {h : Heap}, semF P ops K1 F t h → semF P ops K (F ++ F2) t h
  | [], t, h, s => hk t h s
  | .op i rr :: r, t, h, s => by
    obtain ⟨o, ho, g, hg, h1, h2⟩ := s
    refine ⟨o, ho, g, hg, fun hgt => ?_, fun hgf => semF_bind hk r (h2 hgf)⟩
    rcases h1 hgt with ⟨hl, v, hv, hs⟩ | ⟨hl, hx⟩
    · exact .inl ⟨hl, v, hv, semF_bind hk r hs⟩
    · exact .inr ⟨hl, semX_mono (fun v h' hs => rrAnd_mono (semF_bind hk r) hs) hx⟩
  | .pre i :: r, t, h, s => by
    obtain ⟨o, ho, g, hg, h1, h2⟩ := s
    exact ⟨o, ho, g, hg, fun hgt => preThen_mono (semF_bind hk r) (h1 hgt), fun hgf => semF_bind hk r (h2 hgf)⟩
  | .preb j k :: r, t, h, s => by
    obtain ⟨oj, ok, hj, hk', hin, h1⟩ := s
    exact ⟨oj, ok, hj, hk', hin, boxThen_mono (fun _ => semF_bind hk r) h1⟩
  | .abox j k :: r, t, h, s => by
    obtain ⟨oj, ok, hj, hk', h1⟩ := s
    exact ⟨oj, ok, hj, hk', boxThen_mono (fun cs s b hb => semF_bind hk r (s b hb)) h1⟩
  | .split x :: r, t, h, s => by
    exact semF_bind (t := t) hk r s
  | .forget mk :: r, t, h, s => by
    obtain ⟨t1, h1, h2, h3, h4⟩ := s
    exact ⟨t1, h1, h2, h3, semF_bind hk r h4⟩
theorem semF_mono {P : Program} {ops : Array Oper} {K1 K : List Value → Heap → Prop} (hk : ∀ t h, K1 t h → K t h) {F : List FI} {t : List Value} {h : Heap} (s : semF P ops K1 F t h) : semF P ops K F t h := by
  have := semF_bind (F2 := []) (K := K) hk F s
  rwa [List.append_nil] at this

/-- Two frames differ in these slots alone. -/
def Agr (m : List Nat) (t t' : List Value) : Prop := t'.length = t.length ∧ ∀ x, x ∉ m → t'.getD x undef = t.getD x undef
theorem Agr.refl (t : List Value) : Agr [] t t := ⟨rfl, fun _ _ => rfl⟩
theorem Agr.trans {m n : List Nat} {t1 t2 t3 : List Value} (a : Agr m t1 t2) (b : Agr n t2 t3) : Agr (m ++ n) t1 t3 :=
  ⟨b.1.trans a.1, fun x hx => by rw [List.mem_append, not_or] at hx; exact (b.2 x hx.2).trans (a.2 x hx.1)⟩
theorem Agr.put (t : List Value) (d : Option Nat) (v : Value) : Agr d.toList t (putF t d v) := by
  cases d with
  | none => exact Agr.refl t
  | some d =>
    refine ⟨by simp [putF], fun x hx => ?_⟩
    have hne : d ≠ x := fun e => hx (by simp [e])
    simp only [putF, List.getD_eq_getElem?_getD, List.getElem?_set, if_neg hne]
theorem Agr.same (t : List Value) (x : Nat) {v : Value} (h : t.getD x undef = v) : Agr [] t (t.set x v) := by
  refine ⟨by simp, fun y _ => ?_⟩
  simp only [List.getD_eq_getElem?_getD, List.getElem?_set]
  by_cases hxy : x = y
  · subst hxy
    rw [if_pos rfl]
    by_cases hl : x < t.length
    · rw [if_pos hl, ← h, List.getD_eq_getElem?_getD]; rfl
    · rw [if_neg hl, List.getElem?_eq_none (by omega)]
  · rw [if_neg hxy]

theorem setL_other : ∀ (outs : List (Nat × AK)) (vs t : List Value) (x : Nat), x ∉ outs.map (·.1) → (setL outs vs t).getD x undef = t.getD x undef
  | [], vs, t, x, _ => by cases vs <;> rfl
  | (i, _) :: os, [], t, x, _ => rfl
  | (i, k) :: os, v :: vs, t, x, hx => by
    simp only [List.map_cons, List.mem_cons, not_or] at hx
    simp only [setL]
    rw [setL_other os vs _ x hx.2]
    simp only [List.getD_eq_getElem?_getD, List.getElem?_set, if_neg (fun e => hx.1 (Eq.symm e))]
theorem setL_length : ∀ (outs : List (Nat × AK)) (vs t : List Value), (setL outs vs t).length = t.length
  | [], vs, t => by cases vs <;> rfl
  | (i, _) :: os, [], t => rfl
  | (i, k) :: os, v :: vs, t => by simp only [setL]; rw [setL_length os vs]; simp
theorem maskL_other {mk : List Nat} {t : List Value} {x : Nat} (hx : x ∉ mk) : (maskL mk 0 t).getD x undef = t.getD x undef := by
  by_cases hl : x < t.length
  · have h1 : x < (maskL mk 0 t).length := by rw [maskL_length]; exact hl
    have h2 := maskL_get mk 0 t x _ (List.getElem?_eq_getElem h1)
    rw [Nat.zero_add] at h2
    rcases h2 with ⟨h3, _⟩ | ⟨_, h3⟩
    · exact absurd (by simpa using h3) hx
    · rw [List.getD_eq_getElem?_getD, List.getD_eq_getElem?_getD, List.getElem?_eq_getElem h1, h3]
  · have h1 : ¬ x < (maskL mk 0 t).length := by rw [maskL_length]; exact hl
    rw [List.getD_eq_getElem?_getD, List.getD_eq_getElem?_getD, List.getElem?_eq_none (by omega), List.getElem?_eq_none (by omega)]
theorem TRel.self (t : List Value) : TRel t t.toArray := ⟨by simp, fun i v h => ⟨v, by simpa using h, Le.refl v⟩⟩
theorem TRel.le {t t' : List Value} (r : TRel t t'.toArray) (x : Nat) : Le (t.getD x undef) (t'.getD x undef) := by
  have := r.get x
  simpa [Array.getD_eq_getD_getElem?, List.getD_eq_getElem?_getD] using this

theorem toF_sem {P : Program} {ops : Array Oper} : ∀ (its : Its) {F : List FI}, its.toF ops = some F → ∀ {K : List Value → Heap → Prop} {t : List Value} {h : Heap}, semIts P ops its K t h → semF P ops (fun t' h' => Agr (wrs ops F) t t' ∧ K t' h') F t h
  | .nil, F, e, K, t, h, s => by simp only [Its.toF, Option.some.injEq] at e; subst e; exact ⟨Agr.refl t, s⟩
  | .op i rk rr rest, F, e, K, t, h, s => by
    simp only [Its.toF, Option.map_eq_some_iff] at e
    obtain ⟨F', e', rfl⟩ := e
    simp only [semIts] at s
    split at s <;> try (exact s.elim)
    rename_i o ho
    have hd : dstOf ops i = o.dst := by simp [dstOf, ho]
    have hw : wrs ops (.op i rr :: F') = o.dst.toList ++ wrs ops F' := by simp [wrs, FI.wr, hd]
    rw [hw]
    have next : ∀ v h', semIts P ops rest K (putF t o.dst v) h' → semF P ops (fun t' h' => Agr (o.dst.toList ++ wrs ops F') t t' ∧ K t' h') F' (putF t o.dst v) h' := fun v h' s' =>
      semF_mono (fun t' h' hk => ⟨(Agr.put t o.dst v).trans hk.1, hk.2⟩) (toF_sem rest e' s')
    refine ⟨o, ho, ?_⟩
    split at s
    · rename_i hg
      refine ⟨true, hg, fun _ => ?_, fun h => (by cases h)⟩
      rcases semOp_cases s with ⟨hl, v, hv, hk⟩ | ⟨hl, hx⟩
      · exact .inl ⟨hl, v, hv, next v _ (rrAnd_end hk)⟩
      · exact .inr ⟨hl, semX_mono (fun v h' hk => rrAnd_mono (next v h') hk) hx⟩
    · rename_i hg
      exact ⟨false, hg, fun h => (by cases h), fun _ => next undef _ s⟩
    · exact s.elim
  | .split x rest, F, e, K, t, h, s => by
    simp only [Its.toF, Option.map_eq_some_iff] at e
    obtain ⟨F', e', rfl⟩ := e
    have hw : wrs ops (.split x :: F') = wrs ops F' := by simp [wrs, FI.wr]
    rw [hw]
    have hself : ∀ v, t.getD x undef = v → t.set x v = t := by
      intro v hv
      apply List.ext_getElem?
      intro y
      rw [List.getElem?_set]
      by_cases hxy : x = y
      · subst hxy
        rw [if_pos rfl]
        by_cases hl : x < t.length
        · rw [if_pos hl, ← hv, List.getD_eq_getElem?_getD, List.getElem?_eq_getElem hl]; rfl
        · rw [if_neg hl, List.getElem?_eq_none (by omega)]
      · rw [if_neg hxy]
    have s2 : semIts P ops rest K t h := by
      simp only [semIts] at s
      split at s
      · rename_i b hb
        have h1 := hself _ hb
        cases b
        · have := s.2 rfl; rwa [h1] at this
        · have := s.1 rfl; rwa [h1] at this
      · exact s
      · exact s.elim
    exact toF_sem rest e' s2
  | .pre i rest, F, e, K, t, h, s => by
    simp only [Its.toF, Option.map_eq_some_iff] at e
    obtain ⟨F', e', rfl⟩ := e
    simp only [semIts] at s
    split at s <;> try (exact s.elim)
    rename_i o ho
    have hw : wrs ops (.pre i :: F') = wrs ops F' := by simp [wrs, FI.wr]
    rw [hw]
    refine ⟨o, ho, ?_⟩
    split at s
    · rename_i hg
      exact ⟨true, hg, fun _ => preThen_mono (toF_sem rest e') s, fun h => (by cases h)⟩
    · rename_i hg
      exact ⟨false, hg, fun h => (by cases h), fun _ => toF_sem rest e' s⟩
    · exact s.elim
  | .preb j k rest, F, e, K, t, h, s => by
    simp only [Its.toF, Option.map_eq_some_iff] at e
    obtain ⟨F', e', rfl⟩ := e
    simp only [semIts] at s
    split at s <;> try (exact s.elim)
    rename_i oj ok hj hk
    have hw : wrs ops (.preb j k :: F') = wrs ops F' := by simp [wrs, FI.wr]
    rw [hw]
    cases hin : inF t oj.dst with
    | false => rw [hin] at s; exact s.elim
    | true => rw [hin] at s; exact ⟨oj, ok, hj, hk, hin, boxThen_mono (fun _ => toF_sem rest e') s⟩
  | .abox j k rest, F, e, K, t, h, s => by
    simp only [Its.toF, Option.map_eq_some_iff] at e
    obtain ⟨F', e', rfl⟩ := e
    simp only [semIts] at s
    split at s <;> try (exact s.elim)
    rename_i oj ok hj hk
    have hd : dstOf ops j = oj.dst := by simp [dstOf, hj]
    have hw : wrs ops (.abox j k :: F') = oj.dst.toList ++ wrs ops F' := by simp [wrs, FI.wr, hd]
    rw [hw]
    exact ⟨oj, ok, hj, hk, boxThen_mono (fun cs s b hb => semF_mono (fun t' h' hk => ⟨(Agr.put t oj.dst _).trans hk.1, hk.2⟩) (toF_sem rest e' (s b hb))) s⟩
  | .join g mk outs rest, F, e, K, t, h, s => by
    simp only [Its.toF] at e
    cases hg : g.toF ops with
    | none => simp [hg] at e
    | some A =>
      cases hr : rest.toF ops with
      | none => simp [hg, hr] at e
      | some B =>
        simp only [hg, hr] at e
        cases hc : ((wrs ops A).all (fun x => mk.contains x) && outs.all (fun o => mk.contains o.1)) with
        | false => rw [hc] at e; cases e
        | true =>
          rw [hc] at e
          simp only [cond_true, Option.some.injEq] at e
          subst e
          simp only [Bool.and_eq_true, List.all_eq_true, List.contains_eq_mem, decide_eq_true_eq] at hc
          obtain ⟨hc1, hc2⟩ := hc
          simp only [semIts] at s
          have s' := s (fun vs h' => semIts P ops rest K (setL outs vs (maskL mk 0 t)) h') (fun h' => allK_triv outs fun vs x => x)
          have hw : wrs ops (A ++ .forget mk :: B) = wrs ops A ++ (mk ++ wrs ops B) := by simp [wrs, FI.wr]
          rw [hw]
          refine semF_bind (fun t' h' hk => ?_) A (toF_sem g hg s')
          obtain ⟨ha, hk⟩ := hk
          have hag : agree mk t.toArray t'.toArray := fun x hx => by
            have h1 := ha.2 x fun hh => hx (hc1 x hh)
            have h2 := ha.1
            rw [List.getD_eq_getElem?_getD, List.getD_eq_getElem?_getD] at h1
            simp only [List.getElem?_toArray]
            by_cases hl : x < t.length
            · rw [List.getElem?_eq_getElem hl, List.getElem?_eq_getElem (by omega)] at h1 ⊢
              simpa using h1
            · rw [List.getElem?_eq_none (by omega), List.getElem?_eq_none (by omega)]
          have hm := TRel.setL (TRel.self t') outs ((TRel.self t).mask (by simp [ha.1]) mk hag)
          refine ⟨setL outs (outs.map fun o => t'.getD o.1 undef) (maskL mk 0 t), by rw [setL_length, maskL_length]; exact ha.1.symm, fun x => hm.le x, fun x hx => ?_, ?_⟩
          · rw [setL_other _ _ _ _ (fun hh => hx (by obtain ⟨o, ho, rfl⟩ := List.mem_map.1 hh; exact hc2 o ho)), maskL_other hx]
            exact (ha.2 x fun hh => hx (hc1 x hh)).symm
          · refine semF_mono (fun t2 h2 hk2 => ⟨?_, hk2.2⟩) (toF_sem rest hr hk)
            refine ha.trans (Agr.trans (m := mk) ⟨?_, fun x hx => ?_⟩ hk2.1)
            · rw [setL_length, maskL_length]; exact ha.1.symm
            · rw [setL_other _ _ _ _ (fun hh => hx (by obtain ⟨o, ho, rfl⟩ := List.mem_map.1 hh; exact hc2 o ho)), maskL_other hx]
              exact (ha.2 x fun hh => hx (hc1 x hh)).symm

end Go.HL
