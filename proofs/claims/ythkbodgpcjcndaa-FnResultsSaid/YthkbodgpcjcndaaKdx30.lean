/- Whatever the code, the law of results answers true: points of all teams are twice the meetings played, rankings have all teams, and the teams with the most points can be first when all rounds are played; no condition. -/
import Derived.Test.YthkbodgpcjcndaaKdx29
/- Lists of numbers and rows in a heap: reading and writing them, in the shapes that the formulas have. -/
set_option linter.unusedVariables false
set_option linter.unusedSimpArgs false
namespace Go.HL

section
variable {h h' hI : Heap} {A : Option Addr} {b o l c sz : Nat} {k : Blk} {v : Value} {cs vs : List Value} {xs : List Int} {xss : List (List Int)}

@[simp] theorem get_upd (h : Heap) (b : Nat) (cs : List Value) (x i : Nat) : (h.upd b (.cells cs)).get x i = if x = b then cs[i]? else h.get x i := by
  unfold Heap.get
  by_cases hx : x = b
  · subst hx; rw [Heap.upd_own_self]; simp
  · rw [Heap.upd_own_ne _ _ hx, if_neg hx]; rfl
@[simp] theorem own_upd (h : Heap) (b : Nat) (k : Blk) (x : Nat) : (h.upd b k).own x = if x = b then some k else h.own x := by
  unfold Heap.upd; rfl

theorem dec_split {p : Prop} [Decidable p] {X Y : Prop} (h1 : p → X) (h2 : ¬ p → Y) : (decide p = true → X) ∧ (decide p = false → Y) :=
  ⟨fun h => h1 (of_decide_eq_true h), fun h => h2 (of_decide_eq_false h)⟩
theorem ndec_split {p : Prop} [Decidable p] {X Y : Prop} (h1 : ¬ p → X) (h2 : p → Y) : ((!decide p) = true → X) ∧ ((!decide p) = false → Y) :=
  ⟨fun h => h1 (by simpa using h), fun h => h2 (by simpa using h)⟩
theorem bool_split {x : Bool} {X Y : Prop} (h1 : x = true → X) (h2 : x = false → Y) : (x = true → X) ∧ (x = false → Y) := ⟨h1, h2⟩
theorem nbool_split {x : Bool} {X Y : Prop} (h1 : x = false → X) (h2 : x = true → Y) : ((!x) = true → X) ∧ ((!x) = false → Y) :=
  ⟨fun h => h1 (by simpa using h), fun h => h2 (by simpa using h)⟩

theorem wsucc {i : Nat} (h : i < 9223372036854775807) : IntKind.wrap .i64 ((i : Int) + 1) = ((i + 1 : Nat) : Int) := by
  rw [w64 (by omega) (by omega)]; omega

theorem fill_step {α : Type} {xs : List α} {i m : Nat} {z d : α} (hi : i < xs.length) : (xs.take i ++ List.replicate (m + 1) z).set i (xs.getD i d) = xs.take (i + 1) ++ List.replicate m z := by
  have e1 : xs.getD i d = xs[i] := by simp [List.getD_eq_getElem?_getD, hi]
  have e2 : (xs.take i).length = i := by simp; omega
  rw [e1, List.set_append, if_neg (by omega), e2, Nat.sub_self, List.replicate_succ, List.set_cons_zero, List.take_succ_eq_append_getElem hi, List.append_assoc]
  rfl

/-! ### Numbers -/
abbrev LM (xs : List Int) : List Value := List.map (Value.int .i64) xs
def Ints (h : Heap) (A : Option Addr) (xs : List Int) : Prop := Seg h A (LM xs)
theorem Ints.mono (e : Ext h h') (s : Ints h A xs) : Ints h' A xs := Seg.mono e s
theorem Ints.rd (s : Ints hI A xs) (e : Ext hI h) (hl : xs.length = l) {n : Int} (h0 : 0 ≤ n) (h1 : n < (l : Int)) {K : Int → Prop} (k : K (xs.getD n.toNat 0)) :
    ∃ b o : Nat, A = some ⟨b, o, none⟩ ∧ (0 ≤ n ∧ n < (l : Int)) ∧ ∃ x : Int, h.get b (o + Int.toNat n * 1) = some (.int .i64 x) ∧ K x := by
  have hn : n.toNat < xs.length := by omega
  obtain ⟨b, o, e1, hg⟩ := Seg.open s (by simp; omega)
  refine ⟨b, o, e1, ⟨h0, h1⟩, _, ?_, k⟩
  rw [Nat.mul_one]
  refine e.get (hg _ _ ?_)
  simp [hn, List.getD_eq_getElem?_getD]
theorem Vec.put (v : Vec hI h A l c 1 cs) {n : Int} (h0 : 0 ≤ n) (h1 : n < (l : Int)) {x : Value} (hx : x.oneCell' = true) {K : Heap → Prop} (k : ∀ h', Vec hI h' A l c 1 (cs.set n.toNat x) → K h') :
    ∃ b o : Nat, A = some ⟨b, o, none⟩ ∧ (0 ≤ n ∧ n < (l : Int)) ∧ SStore h b (o + Int.toNat n * 1) [x] K := by
  have hl := v.len
  obtain ⟨b, e, hs⟩ := v.store (i := n.toNat) (vs := [x]) (by simp; omega) (by omega) (by simpa using hx)
  refine ⟨b, 0, e, ⟨h0, h1⟩, ?_⟩
  rw [Nat.zero_add, Nat.mul_one]
  refine hs fun h' hv => k h' ?_
  rwa [splice_one _ _ _ (by omega)] at hv

/-! ### Tab of numbers -/
def IsInts (h : Heap) (v : Value) (xs : List Int) : Prop := ∃ A c, v = .slice A xs.length c ∧ Ints h A xs ∧ xs.length ≤ c
def Tab (h : Heap) (A : Option Addr) (xss : List (List Int)) : Prop :=
  ∃ vs, Seg h A vs ∧ vs.length = xss.length ∧ ∀ (i : Nat) (v : Value) (xs : List Int), vs[i]? = some v → xss[i]? = some xs → IsInts h v xs
theorem IsInts.mono (e : Ext h h') (s : IsInts h v xs) : IsInts h' v xs := let ⟨A, c, e1, s1, l1⟩ := s; ⟨A, c, e1, s1.mono e, l1⟩
theorem Tab.mono (e : Ext h h') (s : Tab h A xss) : Tab h' A xss := let ⟨vs, s1, s2, s3⟩ := s; ⟨vs, s1.mono e, s2, fun i v xs a b => (s3 i v xs a b).mono e⟩
theorem Tab.rd (s : Tab hI A xss) (e : Ext hI h) (hl : xss.length = l) {n : Int} (h0 : 0 ≤ n) (h1 : n < (l : Int)) {K : Option Addr → Nat → Nat → Prop}
    (k : ∀ B d, Ints hI B (xss.getD n.toNat []) → (xss.getD n.toNat []).length ≤ d → K B (xss.getD n.toNat []).length d) :
    ∃ b o : Nat, A = some ⟨b, o, none⟩ ∧ (0 ≤ n ∧ n < (l : Int)) ∧ ∃ xA : Option Addr, ∃ xl : Nat, ∃ xc : Nat, h.get b (o + Int.toNat n * 1) = some (.slice xA xl xc) ∧ K xA xl xc := by
  obtain ⟨vs, s1, s2, s3⟩ := s
  have hn : n.toNat < xss.length := by omega
  have hn' : n.toNat < vs.length := by omega
  obtain ⟨b, o, ea, hg⟩ := Seg.open s1 (by omega)
  obtain ⟨B, d, e1, e2, e3⟩ := s3 n.toNat vs[n.toNat] xss[n.toNat] (List.getElem?_eq_getElem hn') (List.getElem?_eq_getElem hn)
  have e4 : xss.getD n.toNat [] = xss[n.toNat] := by simp [List.getD_eq_getElem?_getD, hn]
  rw [e4] at k
  refine ⟨b, o, ea, ⟨h0, h1⟩, B, _, d, ?_, k B d e2 e3⟩
  rw [Nat.mul_one, ← e1]
  exact e.get <| hg _ _ (List.getElem?_eq_getElem hn')

/-! ### Rounds: rows of fourteen numbers -/
def Rds (h : Heap) (A : Option Addr) (rs : List (List Int)) : Prop := Seg h A (LM rs.flatten) ∧ ∀ r ∈ rs, r.length = 14
theorem Rds.mono {rs : List (List Int)} (e : Ext h h') (s : Rds h A rs) : Rds h' A rs := ⟨s.1.mono e, s.2⟩
theorem flatten_at {α : Type} {m : Nat} : ∀ {rs : List (List α)} (_ : ∀ r ∈ rs, r.length = m) (i : Nat) (hi : i < rs.length), (rs.flatten.drop (i * m)).take m = rs[i] ∧ i * m + m ≤ rs.flatten.length
  | [], _, i, hi => by simp at hi
  | r :: rs, h, i, hi => by
    have hr : r.length = m := h r (by simp)
    cases i with
    | zero =>
      simp only [Nat.zero_mul, List.drop_zero, List.flatten_cons, List.getElem_cons_zero, List.length_append, Nat.zero_add]
      refine ⟨?_, by omega⟩
      rw [List.take_append_of_le_length (by omega), ← hr, List.take_length]
    | succ i =>
      obtain ⟨h1, h2⟩ := flatten_at (rs := rs) (fun r hr => h r (by simp [hr])) i (by simpa using hi)
      simp only [List.flatten_cons, List.getElem_cons_succ, List.length_append]
      have e : (i + 1) * m = r.length + i * m := by rw [Nat.add_mul, Nat.one_mul, hr]; omega
      rw [e, List.drop_append]
      refine ⟨?_, by omega⟩
      rw [List.drop_eq_nil_of_le (by omega), List.nil_append, show r.length + i * m - r.length = i * m by omega]
      exact h1
theorem Rds.rd {rs : List (List Int)} (s : Rds hI A rs) (e : Ext hI h) (hl : rs.length = l) {n : Int} (h0 : 0 ≤ n) (h1 : n < (l : Int)) {K : List Int → Prop} (k : (rs.getD n.toNat []).length = 14 → K (rs.getD n.toNat [])) :
    ∃ b o : Nat, A = some ⟨b, o, none⟩ ∧ (0 ≤ n ∧ n < (l : Int)) ∧ ∃ x : List Int, x.length = 14 ∧ h.getN b (o + Int.toNat n * 14) 14 = some (List.map (Value.int .i64) x) ∧ K x := by
  have hn : n.toNat < rs.length := by omega
  obtain ⟨f1, f2⟩ := flatten_at s.2 n.toNat hn
  have e4 : rs.getD n.toNat [] = rs[n.toNat] := by simp [List.getD_eq_getElem?_getD, hn]
  rw [e4] at k
  obtain ⟨b, o, ea, hg⟩ := Seg.open s.1 (by simp only [LM, List.length_map]; omega)
  have h14 := s.2 rs[n.toNat] (List.getElem_mem hn)
  refine ⟨b, o, ea, ⟨h0, h1⟩, rs[n.toNat], h14, e.getN ?_, k h14⟩
  have := Seg.getN hg (i := n.toNat * 14) (n := 14) (by simp only [LM, List.length_map]; exact f2)
  rw [this, LM, ← List.map_drop, ← List.map_take, f1]

/-! ### What comes in: an empty slice may have any address -/
def IntsW (h : Heap) (A : Option Addr) (xs : List Int) : Prop := xs = [] ∨ Ints h A xs
theorem IntsW.mono (e : Ext h h') (s : IntsW h A xs) : IntsW h' A xs := s.imp id fun s => s.mono e
theorem IntsW.rd (s : IntsW hI A xs) (e : Ext hI h) (hl : xs.length = l) {n : Int} (h0 : 0 ≤ n) (h1 : n < (l : Int)) {K : Int → Prop} (k : K (xs.getD n.toNat 0)) :
    ∃ b o : Nat, A = some ⟨b, o, none⟩ ∧ (0 ≤ n ∧ n < (l : Int)) ∧ ∃ x : Int, h.get b (o + Int.toNat n * 1) = some (.int .i64 x) ∧ K x := by
  rcases s with rfl | s
  · simp at hl; omega
  · exact s.rd e hl h0 h1 k
def IsIntsW (h : Heap) (v : Value) (xs : List Int) : Prop := ∃ A c, v = .slice A xs.length c ∧ IntsW h A xs ∧ xs.length ≤ c
def TabW (h : Heap) (A : Option Addr) (xss : List (List Int)) : Prop :=
  xss = [] ∨ ∃ vs, Seg h A vs ∧ vs.length = xss.length ∧ ∀ (i : Nat) (v : Value) (xs : List Int), vs[i]? = some v → xss[i]? = some xs → IsIntsW h v xs
theorem IsIntsW.mono (e : Ext h h') (s : IsIntsW h v xs) : IsIntsW h' v xs := let ⟨A, c, e1, s1, l1⟩ := s; ⟨A, c, e1, s1.mono e, l1⟩
theorem TabW.mono (e : Ext h h') (s : TabW h A xss) : TabW h' A xss := s.imp id fun ⟨vs, s1, s2, s3⟩ => ⟨vs, s1.mono e, s2, fun i v xs a b => (s3 i v xs a b).mono e⟩
theorem TabW.rd (s : TabW hI A xss) (e : Ext hI h) (hl : xss.length = l) {n : Int} (h0 : 0 ≤ n) (h1 : n < (l : Int)) {K : Option Addr → Nat → Nat → Prop}
    (k : ∀ B d, IntsW hI B (xss.getD n.toNat []) → (xss.getD n.toNat []).length ≤ d → K B (xss.getD n.toNat []).length d) :
    ∃ b o : Nat, A = some ⟨b, o, none⟩ ∧ (0 ≤ n ∧ n < (l : Int)) ∧ ∃ xA : Option Addr, ∃ xl : Nat, ∃ xc : Nat, h.get b (o + Int.toNat n * 1) = some (.slice xA xl xc) ∧ K xA xl xc := by
  rcases s with rfl | ⟨vs, s1, s2, s3⟩
  · simp at hl; omega
  have hn : n.toNat < xss.length := by omega
  have hn' : n.toNat < vs.length := by omega
  obtain ⟨b, o, ea, hg⟩ := Seg.open s1 (by omega)
  obtain ⟨B, d, e1, e2, e3⟩ := s3 n.toNat vs[n.toNat] xss[n.toNat] (List.getElem?_eq_getElem hn') (List.getElem?_eq_getElem hn)
  have e4 : xss.getD n.toNat [] = xss[n.toNat] := by simp [List.getD_eq_getElem?_getD, hn]
  rw [e4] at k
  refine ⟨b, o, ea, ⟨h0, h1⟩, B, _, d, ?_, k B d e2 e3⟩
  rw [Nat.mul_one, ← e1]
  exact e.get <| hg _ _ (List.getElem?_eq_getElem hn')
def RdsW (h : Heap) (A : Option Addr) (rs : List (List Int)) : Prop := rs = [] ∨ Rds h A rs
theorem RdsW.mono {rs : List (List Int)} (e : Ext h h') (s : RdsW h A rs) : RdsW h' A rs := s.imp id fun s => s.mono e
theorem RdsW.rd {rs : List (List Int)} (s : RdsW hI A rs) (e : Ext hI h) (hl : rs.length = l) {n : Int} (h0 : 0 ≤ n) (h1 : n < (l : Int)) {K : List Int → Prop} (k : (rs.getD n.toNat []).length = 14 → K (rs.getD n.toNat [])) :
    ∃ b o : Nat, A = some ⟨b, o, none⟩ ∧ (0 ≤ n ∧ n < (l : Int)) ∧ ∃ x : List Int, x.length = 14 ∧ h.getN b (o + Int.toNat n * 14) 14 = some (List.map (Value.int .i64) x) ∧ K x := by
  rcases s with rfl | s
  · simp at hl; omega
  · exact s.rd e hl h0 h1 k
theorem RdsW.all {rs : List (List Int)} (s : RdsW h A rs) : ∀ r ∈ rs, r.length = 14 := by
  rcases s with rfl | s
  · intro r hr; cases hr
  · exact s.2

end
end Go.HL
