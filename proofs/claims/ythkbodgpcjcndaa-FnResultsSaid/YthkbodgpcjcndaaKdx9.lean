/- Whatever the code, the law of results answers true: points of all teams are twice the meetings played, rankings have all teams, and the teams with the most points can be first when all rounds are played; no condition. -/
import Derived.Test.YthkbodgpcjcndaaKdx8
/- The formula of a text holds of the machine: regions in the order of their text. -/
set_option linter.unusedVariables false
set_option linter.unusedSimpArgs false
namespace Go.HL

def Its.flat : Its → List Nat
  | .nil => []
  | .op i _ _ rest => i :: rest.flat
  | .split _ rest => rest.flat
  | .pre _ rest => rest.flat
  | .preb _ _ rest => rest.flat
  | .abox j k rest => j :: k :: rest.flat
  | .join g _ _ rest => g.flat ++ rest.flat
/-- No item that only an open order wants. -/
def Its.plain : Its → Bool
  | .nil => true
  | .op _ _ _ rest => rest.plain
  | .split _ rest => rest.plain
  | .pre _ _ => false
  | .preb _ _ _ => false
  | .abox _ _ _ => false
  | .join g _ _ rest => g.plain && rest.plain
def dstOf (ops : Array Oper) (i : Nat) : Option Nat := (ops[i]?).bind (·.dst)
def dstsOf (ops : Array Oper) (l : List Nat) : List Nat := l.filterMap (dstOf ops)
/-- Each part names all that it writes. -/
def Its.okMk (ops : Array Oper) : Its → Bool
  | .nil => true
  | .op _ _ _ rest => rest.okMk ops
  | .split _ rest => rest.okMk ops
  | .pre _ rest => rest.okMk ops
  | .preb _ _ rest => rest.okMk ops
  | .abox _ _ rest => rest.okMk ops
  | .join g mk _ rest => (dstsOf ops g.flat).all (fun d => mk.contains d) && g.okMk ops && rest.okMk ops

theorem rrAnd_end {P : Program} {ops : Array Oper} {t : List Value} {h : Heap} {p : Prop} : ∀ {l : List Nat}, rrAnd P ops t h p l → p
  | [], s => s
  | _ :: l, s => rrAnd_end (l := l) s.2

theorem guard_wanted {ops : Array Oper} {o : Oper} {t : List Value} {a : Array Value} {b : Bool} (r : TRel t a) (g : guardOf ops o t = some b) : Region.wanted o (yielded ops a) = b := by
  unfold guardOf at g
  unfold Region.wanted
  cases hg : o.guard with
  | none => simp [hg] at g; subst g; rfl
  | some gw =>
    obtain ⟨i, want⟩ := gw
    simp only [hg] at g ⊢
    cases ho : ops[i]? with
    | none => simp [ho] at g
    | some og =>
      simp only [ho] at g
      cases hd : og.dst with
      | none => simp [hd] at g
      | some d =>
        simp only [hd] at g
        have h1 := r.get d
        split at g
        · rename_i x hx
          rw [hx] at h1
          have h2 := h1.eq rfl
          have h3 : a[d]? = some (.bool x) := by
            rcases Nat.lt_or_ge d a.size with h | h
            · rw [Array.getElem?_eq_getElem h]
              simp [h] at h2
              rw [h2]
            · rw [Array.getD_eq_getD_getElem?, Array.getElem?_eq_none h] at h2
              simp [Go.undef] at h2
          simp only [yielded, ho, Option.bind_some, hd, h3]
          cases g
          rfl
        · rename_i hx
          rw [hx] at h1
          have h2 := h1.none
          cases g
          simp only [yielded, ho, Option.bind_some, hd]
          rcases Nat.lt_or_ge d a.size with h | h
          · rw [Array.getElem?_eq_getElem h]
            rw [Array.getD_eq_getD_getElem?, Array.getElem?_eq_getElem h, Option.getD_some] at h2
            rw [h2]
            rfl
          · rw [Array.getElem?_eq_none h]
            rfl
        · cases g

theorem agree.refl (m : List Nat) (a : Array Value) : agree m a a := fun _ _ => rfl
theorem agree.trans {m : List Nat} {a b c : Array Value} (h : agree m a b) (k : agree m b c) : agree m a c := fun x hx => (k x hx).trans (h x hx)
theorem agree.mono {m n : List Nat} {a b : Array Value} (h : agree m a b) (hs : ∀ x ∈ m, x ∈ n) : agree n a b := fun x hx => h x fun hm => hx (hs x hm)
theorem agree_put {m : List Nat} (a : Act) (d : Option Nat) (v : Value) (h : ∀ x, d = some x → x ∈ m) : agree m a.tmps (a.put d v).tmps := by
  intro x hx
  cases d with
  | none => rfl
  | some d =>
    have : d ≠ x := fun e => hx (e ▸ h d rfl)
    simp [Act.put, this]
theorem size_put (a : Act) (d : Option Nat) (v : Value) : (a.put d v).tmps.size = a.tmps.size := by cases d <;> simp [Act.put]

/-- A frame behind some operations. -/
structure Beh (ops : Array Oper) (l : List Nat) (a : Act) (a' : Act) : Prop where
  defers : a'.defers = []
  size : a'.tmps.size = a.tmps.size
  agree : agree (dstsOf ops l) a.tmps a'.tmps

theorem its_exact {P : Program} {ops : Array Oper} {Q : Exit → Act → World → Prop} : ∀ (its : Its), its.plain = true → its.okMk ops = true → ∀ (K : List Value → Heap → Prop) (t : List Value) (h : Heap) (a : Act) (w : World) (l' : List Nat),
    semIts P ops its K t h → TRel t a.tmps → a.defers = [] → Rel h w →
    (∀ t' h' a' w', TRel t' a'.tmps → Beh ops its.flat a a' → Rel h' w' → Fra h h' w w' → K t' h' → wpOps P ops Q l' a' w') → wpOps P ops Q (its.flat ++ l') a w
  | .nil, _, _, K, t, h, a, w, l', s, ht, hd, r, k => k t h a w ht ⟨hd, rfl, agree.refl _ _⟩ r (Fra.refl h w) s
  | .op i rk rr rest, hpl, hok, K, t, h, a, w, l', s, ht, hd, r, k => by
    simp only [semIts] at s
    simp only [Its.okMk] at hok
    cases ho : ops[i]? with
    | none => simp [ho] at s
    | some o =>
      simp only [ho] at s
      have hmem : ∀ x, o.dst = some x → x ∈ dstsOf ops (i :: rest.flat) := fun x hx => by
        simp [dstsOf, dstOf, ho, hx]
      have hsub : ∀ x ∈ dstsOf ops rest.flat, x ∈ dstsOf ops (i :: rest.flat) := fun x hx => by
        simp only [dstsOf, List.mem_filterMap, List.mem_cons] at hx ⊢
        obtain ⟨j, hj, e⟩ := hx
        exact ⟨j, .inr hj, e⟩
      simp only [Its.flat, List.cons_append, wpOps, ho]
      cases hg : guardOf ops o t with
      | none => simp [hg] at s
      | some b =>
        simp only [hg] at s
        rw [guard_wanted ht hg]
        cases b with
        | true =>
          rw [if_pos rfl]
          refine .inl ?_
          refine Oper.wp_mono ?_ (semOp_sound s ht r)
          rintro a1 w1 ⟨v, v', h1, rfl, hle, r1, f1, hk⟩
          have hk' := rrAnd_end hk
          refine its_exact rest (by simpa [Its.plain] using hpl) hok K _ h1 _ w1 l' hk' (ht.put o.dst hle) (by rw [Act.put_defers']; exact hd) r1 ?_
          intro t' h' a' w' ht' b' r' f' kk
          refine k t' h' a' w' ht' ⟨b'.defers, b'.size.trans (size_put a o.dst v'), ?_⟩ r' (f1.trans f') kk
          exact (agree_put a o.dst v' hmem).trans (b'.agree.mono hsub)
        | false =>
          rw [if_neg (by simp)]
          refine its_exact rest (by simpa [Its.plain] using hpl) hok K _ h _ w l' s (ht.put o.dst (Le.refl undef)) (by rw [Act.put_defers']; exact hd) r ?_
          intro t' h' a' w' ht' b' r' f' kk
          refine k t' h' a' w' ht' ⟨b'.defers, b'.size.trans (size_put a o.dst undef), ?_⟩ r' f' kk
          exact (agree_put a o.dst undef hmem).trans (b'.agree.mono hsub)
  | .pre _ _, hpl, _, _, _, _, _, _, _, _, _, _, _, _ => by simp [Its.plain] at hpl
  | .preb _ _ _, hpl, _, _, _, _, _, _, _, _, _, _, _, _ => by simp [Its.plain] at hpl
  | .abox _ _ _, hpl, _, _, _, _, _, _, _, _, _, _, _, _ => by simp [Its.plain] at hpl
  | .split x rest, hpl, hok, K, t, h, a, w, l', s, ht, hd, r, k => by
    simp only [semIts] at s
    split at s
    · rename_i b hb
      cases b
      · exact its_exact rest (by simpa [Its.plain] using hpl) hok K _ h a w l' (s.2 rfl) (ht.set x (by rw [← hb]; exact ht.get x)) hd r k
      · exact its_exact rest (by simpa [Its.plain] using hpl) hok K _ h a w l' (s.1 rfl) (ht.set x (by rw [← hb]; exact ht.get x)) hd r k
    · exact its_exact rest (by simpa [Its.plain] using hpl) hok K t h a w l' s ht hd r k
    · exact s.elim
  | .join g mk outs rest, hpl, hok, K, t, h, a, w, l', s, ht, hd, r, k => by
    simp only [semIts] at s
    simp only [Its.okMk, Bool.and_eq_true, List.all_eq_true] at hok
    simp only [Its.plain, Bool.and_eq_true] at hpl
    obtain ⟨⟨hmk, hg⟩, hrest⟩ := hok
    have s' := s (fun vs h' => semIts P ops rest K (setL outs vs (maskL mk 0 t)) h') (fun h' => allK_triv outs fun vs x => x)
    simp only [Its.flat, List.append_assoc]
    have hs1 : ∀ x ∈ dstsOf ops g.flat, x ∈ dstsOf ops (g.flat ++ rest.flat) := fun x hx => by
      simp only [dstsOf, List.filterMap_append, List.mem_append]; exact .inl hx
    have hs2 : ∀ x ∈ dstsOf ops rest.flat, x ∈ dstsOf ops (g.flat ++ rest.flat) := fun x hx => by
      simp only [dstsOf, List.filterMap_append, List.mem_append]; exact .inr hx
    refine its_exact g hpl.1 hg _ t h a w _ s' ht hd r ?_
    intro t1 h1 a1 w1 ht1 b1 r1 f1 k1
    have hmask : TRel (setL outs (outs.map fun o => t1.getD o.1 undef) (maskL mk 0 t)) a1.tmps :=
      TRel.setL ht1 outs (ht.mask b1.size mk (b1.agree.mono fun x hx => by simpa using hmk x hx))
    refine its_exact rest hpl.2 hrest K _ h1 a1 w1 l' k1 hmask b1.defers r1 ?_
    intro t' h' a' w' ht' b' r' f' kk
    exact k t' h' a' w' ht' ⟨b'.defers, b'.size.trans b1.size, (b1.agree.mono hs1).trans (b'.agree.mono hs2)⟩ r' (f1.trans f') kk

end Go.HL
