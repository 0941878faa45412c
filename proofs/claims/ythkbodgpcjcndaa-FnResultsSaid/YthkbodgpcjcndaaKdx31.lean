/- Whatever the code, the law of results answers true: points of all teams are twice the meetings played, rankings have all teams, and the teams with the most points can be first when all rounds are played; no condition. -/
import Derived.Test.YthkbodgpcjcndaaKdx30
/- Changing blocks as one map over what is only read. -/
set_option linter.unusedVariables false
set_option linter.unusedSimpArgs false
namespace Go.HL

abbrev PMap := Nat → Option (List Value)
def PMap.put (m : PMap) (b : Nat) (cs : List Value) : PMap := fun x => if x = b then some cs else m x
/-- The base with the changing blocks over it. -/
def over (hI : Heap) (m : PMap) : Heap := { hI with own := fun x => match m x with | some cs => some (.cells cs) | none => hI.own x }
/-- The changing blocks lie beside the base. -/
def Beside (hI : Heap) (m : PMap) : Prop := ∀ b, m b ≠ none → hI.fresh b

section
variable {hI hJ h : Heap} {m : PMap} {b i : Nat} {cs : List Value} {k : Blk} {v : Value}

theorem put_self (m : PMap) (b : Nat) (cs : List Value) : (m.put b cs) b = some cs := by simp [PMap.put]
theorem put_ne (m : PMap) {b x : Nat} (cs : List Value) (h : x ≠ b) : (m.put b cs) x = m x := by simp [PMap.put, h]
theorem over_ext (hb : Beside hI m) : Ext hI (over hI m) := by
  refine ⟨fun b k hk => ?_, rfl, fun b hn hs o => ?_⟩
  · have : m b = none := by
      cases hm : m b with
      | none => rfl
      | some cs => have := (hb b (by simp [hm])).1; rw [hk] at this; cases this
    simp only [over, this]; exact hk
  · cases hm : m b with
    | none => simp only [over, hm] at hs; exact absurd hn hs
    | some cs => exact (hb b (by simp [hm])).2 o
theorem over_own (hm : m b = some cs) : (over hI m).own b = some (.cells cs) := by simp [over, hm]
theorem over_get (hm : m b = some cs) : (over hI m).get b i = cs[i]? := by unfold Heap.get; rw [over_own hm]
theorem over_put (m : PMap) (b : Nat) (cs : List Value) : (over hI m).upd b (.cells cs) = over hI (m.put b cs) := by
  unfold over Heap.upd PMap.put
  congr 1; funext x
  by_cases hx : x = b <;> simp [hx]
theorem Beside.put (hb : Beside hI m) (hm : m b ≠ none) (cs : List Value) : Beside hI (m.put b cs) := by
  intro x hx
  by_cases e : x = b
  · subst e; exact hb x hm
  · rw [put_ne _ _ e] at hx; exact hb x hx
theorem over_fresh (hf : (over hI m).fresh b) : hI.fresh b ∧ m b = none := by
  cases hm : m b with
  | some cs => have := hf.1; rw [over_own hm] at this; cases this
  | none =>
    have h1 := hf.1
    simp only [over, hm] at h1
    exact ⟨⟨h1, hf.2⟩, rfl⟩
/-- A new changing block. -/
theorem Beside.new (hb : Beside hI m) (hf : (over hI m).fresh b) (cs : List Value) : Beside hI (m.put b cs) := by
  intro x hx
  by_cases e : x = b
  · subst e; exact (over_fresh hf).1
  · rw [put_ne _ _ e] at hx; exact hb x hx
/-- A new block that is only read. -/
theorem over_base (hf : (over hI m).fresh b) (k : Blk) : (over hI m).upd b k = over (hI.upd b k) m := by
  have hm := (over_fresh hf).2
  unfold over Heap.upd
  congr 1; funext x
  by_cases hx : x = b
  · subst hx; simp [hm]
  · simp [hx]
theorem Beside.base (hb : Beside hI m) (hf : (over hI m).fresh b) (k : Blk) : Beside (hI.upd b k) m := by
  intro x hx
  have : x ≠ b := fun e => by subst e; exact hx (over_fresh hf).2
  exact fresh_upd (hb x hx) this.symm k

theorem over_frame {P : Program} {f : FuncId} {args : List Value} {K : Value → Heap → Prop} (hb : Beside hI m) (c : ACalls P f args hI K) :
    ACalls P f args (over hI m) fun u h2 => ∃ hJ, Beside hJ m ∧ h2 = over hJ m ∧ K u hJ := by
  refine ⟨c.1, fun w r => ?_⟩
  have hdrop : Rel hI w := by
    refine ⟨fun x ds hx => r.cells x ds ?_, fun x ob hx => r.obj x ob ?_, r.ro, fun x hx o => r.dis x ?_ o⟩
    · exact (over_ext hb).own x _ hx
    · exact (over_ext hb).own x _ hx
    · cases hk : hI.own x with
      | none => exact absurd hk hx
      | some k => rw [(over_ext hb).own x k hk]; simp
  refine (c.2 w hdrop).mono ?_
  rintro e w' ⟨v, hJ, rfl, r', f', hk⟩
  have keep : ∀ x cs, m x = some cs → w'.heap[x]? = w.heap[x]? ∧ hJ.fresh x := by
    intro x cs hx
    have hlt : x < w.heap.size := r.lt (by rw [over_own hx]; simp)
    have hfr := hb x (by simp [hx])
    obtain ⟨k1, k2⟩ := f'.keep x hlt hfr.1
    exact ⟨k1, k2, fun o => by rw [f'.ro]; exact hfr.2 o⟩
  have hbJ : Beside hJ m := by
    intro x hx
    cases hm : m x with
    | none => exact absurd hm hx
    | some cs => exact (keep x cs hm).2
  refine ⟨v, over hJ m, rfl, ?_, ?_, hJ, hbJ, rfl, hk⟩
  · refine ⟨fun x ds hx => ?_, fun x ob hx => ?_, r'.ro, fun x hx o => ?_⟩
    · cases hm : m x with
      | some cs =>
        rw [over_own hm] at hx; cases hx
        obtain ⟨e, he⟩ := r.cells x ds (over_own hm)
        exact ⟨e, (keep x ds hm).1.trans he⟩
      | none => simp only [over, hm] at hx; exact r'.cells x ds hx
    · cases hm : m x with
      | some cs => rw [over_own hm] at hx; cases hx
      | none => simp only [over, hm] at hx; exact r'.obj x ob hx
    · cases hm : m x with
      | some cs => exact (keep x cs hm).2.2 o
      | none => simp only [over, hm] at hx; exact r'.dis x hx o
  · refine ⟨f'.os, f'.tape, f'.output, f'.size, fun x hx hn => ?_, f'.ro⟩
    cases hm : m x with
    | some cs => rw [over_own hm] at hn; cases hn
    | none =>
      simp only [over, hm] at hn ⊢
      exact f'.keep x hx hn

/-- A number of a changing block is read (sp: what stands behind the row). -/
theorem over_rd {xs : List Int} {sp : List Value} {l : Nat} (hm : m b = some (LM xs ++ sp)) (hl : xs.length = l) {n : Int} (h0 : 0 ≤ n) (h1 : n < (l : Int)) {K : Int → Prop} (k : K (xs.getD n.toNat 0)) :
    ∃ b' o : Nat, some (⟨b, 0, none⟩ : Addr) = some ⟨b', o, none⟩ ∧ (0 ≤ n ∧ n < (l : Int)) ∧ ∃ x : Int, (over hI m).get b' (o + Int.toNat n * 1) = some (.int .i64 x) ∧ K x := by
  refine ⟨b, 0, rfl, ⟨h0, h1⟩, _, ?_, k⟩
  rw [over_get hm, Nat.zero_add, Nat.mul_one]
  have : n.toNat < xs.length := by omega
  rw [List.getElem?_append_left (by simpa using this)]
  simp [this, List.getD_eq_getElem?_getD]
/-- A cell of a changing block is written. -/
theorem over_wr {sp : List Value} {l : Nat} (hm : m b = some (cs ++ sp)) (hl : cs.length = l) {n : Int} (h0 : 0 ≤ n) (h1 : n < (l : Int)) {v : Value} (hv : v.oneCell' = true) {K : Heap → Prop} (k : K (over hI (m.put b (cs.set n.toNat v ++ sp)))) :
    ∃ b' o : Nat, some (⟨b, 0, none⟩ : Addr) = some ⟨b', o, none⟩ ∧ (0 ≤ n ∧ n < (l : Int)) ∧ SStore (over hI m) b' (o + Int.toNat n * 1) [v] K := by
  refine ⟨b, 0, rfl, ⟨h0, h1⟩, cs ++ sp, over_own hm, by simp; omega, by simpa using hv, ?_⟩
  rw [over_put, Nat.zero_add, Nat.mul_one, splice_app _ _ _ (by simp; omega), splice_one _ _ _ (by omega)]
  exact k

/-- A block beneath a growing list changes. -/
theorem Vec.under {hV : Heap} {A : Option Addr} {l c sz : Nat} {k0 : Blk} (v : Vec hV h A l c sz cs) (ho : hV.own b = some k0) (k : Blk) : Vec (hV.upd b k) (h.upd b k) A l c sz cs ∧ h.own b = some k0 := by
  obtain ⟨hl, ⟨rfl, rfl, rfl, rfl⟩ | ⟨x, sp, rfl, hx, rfl, h1, h2⟩⟩ := v
  · exact ⟨⟨hl, .inl ⟨rfl, rfl, rfl, rfl⟩⟩, ho⟩
  · have hne : x ≠ b := fun e => by subst e; rw [hx.1] at ho; cases ho
    refine ⟨⟨hl, .inr ⟨x, sp, rfl, fresh_upd hx hne.symm _, upd_comm _ hne _ _, h1, h2⟩⟩, ?_⟩
    rw [Heap.upd_own_ne _ _ hne.symm]; exact ho
/-- A changing block beneath a growing list is written. -/
theorem Vec.under_wr {A : Option Addr} {l c sz : Nat} {sp vs : List Value} {n : Int} {L : Nat} (v : Vec (over hI m) h A l c sz vs) (hm : m b = some (cs ++ sp)) (hl : cs.length = L) (h0 : 0 ≤ n) (h1 : n < (L : Int)) {u : Value} (hu : u.oneCell' = true) {K : Heap → Prop}
    (k : ∀ h2, Vec (over hI (m.put b (cs.set n.toNat u ++ sp))) h2 A l c sz vs → K h2) :
    ∃ b' o : Nat, some (⟨b, 0, none⟩ : Addr) = some ⟨b', o, none⟩ ∧ (0 ≤ n ∧ n < (L : Int)) ∧ SStore h b' (o + Int.toNat n * 1) [u] K := by
  obtain ⟨v2, ho⟩ := v.under (over_own hm) (.cells (cs.set n.toNat u ++ sp))
  refine ⟨b, 0, rfl, ⟨h0, h1⟩, cs ++ sp, ho, by simp; omega, by simpa using hu, ?_⟩
  rw [Nat.zero_add, Nat.mul_one, splice_app _ _ _ (by simp; omega), splice_one _ _ _ (by omega)]
  rw [over_put] at v2
  exact k _ v2
/-- A number of a changing block beneath a growing list is read. -/
theorem Vec.under_rd {A : Option Addr} {l c sz : Nat} {sp vs : List Value} {xs : List Int} {n : Int} {L : Nat} (v : Vec (over hI m) h A l c sz vs) (hm : m b = some (LM xs ++ sp)) (hl : xs.length = L) (h0 : 0 ≤ n) (h1 : n < (L : Int)) {K : Int → Prop} (k : K (xs.getD n.toNat 0)) :
    ∃ b' o : Nat, some (⟨b, 0, none⟩ : Addr) = some ⟨b', o, none⟩ ∧ (0 ≤ n ∧ n < (L : Int)) ∧ ∃ x : Int, h.get b' (o + Int.toNat n * 1) = some (.int .i64 x) ∧ K x := by
  obtain ⟨b', o, e, hr, x, hg, hk⟩ := over_rd (hI := hI) hm hl h0 h1 (K := fun x => K x) k
  exact ⟨b', o, e, hr, x, v.ext.get hg, hk⟩

end
end Go.HL
