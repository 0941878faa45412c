/- Whatever the code, the law of results answers true: points of all teams are twice the meetings played, rankings have all teams, and the teams with the most points can be first when all rounds are played; no condition. -/
import Derived.Test.YthkbodgpcjcndaaKdx32
/- Rounds in changing blocks; tables whose cells change; lists of truth values. -/
set_option linter.unusedVariables false
set_option linter.unusedSimpArgs false
namespace Go.HL

section
variable {hI hJ h h0 : Heap} {m m' : PMap} {b i l : Nat} {r r' : List Int} {cs : List Value}

/-! ### Fourteen numbers in a changing block -/
theorem over_rd14 (hm : m b = some (LM r)) (hr : r.length = 14) {n : Int} (n0 : 0 ≤ n) (n1 : n < 14) {K : Int → Prop} (k : K (r.getD n.toNat 0)) :
    (0 ≤ n ∧ n < 14) ∧ ∃ x : Int, (over hI m).get b (0 + Int.toNat n * 1) = some (.int .i64 x) ∧ K x := by
  refine ⟨⟨n0, n1⟩, _, ?_, k⟩
  rw [over_get hm, Nat.zero_add, Nat.mul_one]
  have : n.toNat < r.length := by omega
  simp [this, List.getD_eq_getElem?_getD]
theorem over_wr14 (hm : m b = some (LM r)) (hr : r.length = 14) {n v : Int} (n0 : 0 ≤ n) (n1 : n < 14) {K : Heap → Prop} (k : K (over hI (m.put b (LM (r.set n.toNat v))))) :
    (0 ≤ n ∧ n < 14) ∧ SStore (over hI m) b (0 + Int.toNat n * 1) [.int .i64 v] K := by
  refine ⟨⟨n0, n1⟩, over_store hm (by simp; omega) (by simp [Value.oneCell']) ?_⟩
  rw [Nat.zero_add, Nat.mul_one, splice_one _ _ _ (by simp; omega), LM, ← List.map_set]
  exact k
theorem over_all14 (hm : m b = some (LM r)) (hr : r.length = 14) : (over hI m).getN b 0 14 = some (List.map (Value.int .i64) r) := by
  refine getN_of (by simpa using hr) fun q v hv => ?_
  rw [over_get hm, Nat.zero_add]; exact hv
theorem over_st14 (hm : m b = some cs) (hc : cs.length = 14) (hr : r.length = 14) {K : Heap → Prop} (k : K (over hI (m.put b (LM r)))) : SStore (over hI m) b 0 (List.map (Value.int .i64) r) K := by
  refine over_store hm (by simp; omega) (oneInts _) ?_
  have : splice cs 0 (List.map (Value.int .i64) r) = LM r := by simp [splice, hr, hc]
  rw [this]; exact k
theorem zeros14 : List.replicate 14 (Value.int .i64 0) = LM (List.replicate 14 0) := rfl

/-! ### A table whose cells change -/
structure TabX (m : PMap) (b : Nat) (sp : List Value) (bs : Nat → Nat) (xss : List (List Int)) : Prop where
  top : m b = some (topOf bs xss xss.length ++ sp)
  row : ∀ j, j < xss.length → m (bs j) = some (LM (xss.getD j []))
  ne : ∀ j, j < xss.length → bs j ≠ b
  inj : ∀ i j, i < xss.length → j < xss.length → bs i = bs j → i = j
structure TabOx (h0 h : Heap) (b : Nat) (sp : List Value) (bs : Nat → Nat) (xss : List (List Int)) : Prop where
  top : h.own b = some (.cells (topOf bs xss xss.length ++ sp))
  row : ∀ j, j < xss.length → h.own (bs j) = some (.cells (LM (xss.getD j [])))
  fb : h0.fresh b
  fr : ∀ j, j < xss.length → h0.fresh (bs j)
  ne : ∀ j, j < xss.length → bs j ≠ b
  inj : ∀ i j, i < xss.length → j < xss.length → bs i = bs j → i = j
theorem TabOx.mono {h' : Heap} {sp : List Value} {bs : Nat → Nat} {xss : List (List Int)} (t : TabOx h0 h b sp bs xss) (e : Ext h h') : TabOx h0 h' b sp bs xss :=
  ⟨e.own _ _ t.top, fun j hj => e.own _ _ (t.row j hj), t.fb, t.fr, t.ne, t.inj⟩
theorem TabOx.carve {sp : List Value} {bs : Nat → Nat} {xss : List (List Int)} (e : Ext h0 h) (t : TabOx h0 h b sp bs xss) : ∃ hI m, Ext h0 hI ∧ Beside hI m ∧ h = over hI m ∧ TabX m b sp bs xss := by
  obtain ⟨hI, m, eI, hB, hov, hm⟩ := carveS (fun y => y = b ∨ ∃ j, j < xss.length ∧ y = bs j) e (fun y hy => by
      rcases hy with rfl | ⟨j, hj, rfl⟩
      · exact t.fb
      · exact t.fr j hj) (fun y hy => by
      rcases hy with rfl | ⟨j, hj, rfl⟩
      · exact ⟨_, t.top⟩
      · exact ⟨_, t.row j hj⟩)
  exact ⟨hI, m, eI, hB, hov, hm _ _ (.inl rfl) t.top, fun j hj => hm _ _ (.inr ⟨j, hj, rfl⟩) (t.row j hj), t.ne, t.inj⟩
theorem TabX.tab {sp : List Value} {bs : Nat → Nat} {xss : List (List Int)} (t : TabX m b sp bs xss) : Tab (over hI m) (some ⟨b, 0, none⟩) xss := by
  refine ⟨topOf bs xss xss.length, seg_own (over_own t.top), topOf_len _ _ _, fun i v xs hv hx => ?_⟩
  have hi : i < xss.length := (List.getElem?_eq_some_iff.1 hx).1
  have e1 : xss.getD i [] = xs := by rw [List.getD_eq_getElem?_getD, hx]; rfl
  rw [topOf, List.getElem?_map, List.getElem?_range hi] at hv
  cases hv
  show IsInts _ (.slice (some ⟨bs i, 0, none⟩) (xss.getD i []).length (xss.getD i []).length) xs
  rw [e1]
  refine ⟨_, _, rfl, ?_, Nat.le_refl _⟩
  have := t.row i hi
  rw [e1] at this
  exact seg_own' (over_own this)
theorem TabX.rdRow {sp : List Value} {bs : Nat → Nat} {xss : List (List Int)} (t : TabX m b sp bs xss) (hl : xss.length = l) {n : Int} (n0 : 0 ≤ n) (n1 : n < (l : Int)) {K : Option Addr → Nat → Nat → Prop}
    (k : K (some ⟨bs n.toNat, 0, none⟩) (xss.getD n.toNat []).length (xss.getD n.toNat []).length) :
    ∃ b' o : Nat, some (⟨b, 0, none⟩ : Addr) = some ⟨b', o, none⟩ ∧ (0 ≤ n ∧ n < (l : Int)) ∧ ∃ xA : Option Addr, ∃ xl : Nat, ∃ xc : Nat, (over hI m).get b' (o + Int.toNat n * 1) = some (.slice xA xl xc) ∧ K xA xl xc := by
  have hn : n.toNat < xss.length := by omega
  refine ⟨b, 0, rfl, ⟨n0, n1⟩, _, _, _, ?_, k⟩
  rw [over_get t.top, Nat.zero_add, Nat.mul_one, List.getElem?_append_left (by rw [topOf_len]; exact hn), topOf, List.getElem?_map, List.getElem?_range hn]; rfl
theorem TabX.set {sp : List Value} {bs : Nat → Nat} {xss : List (List Int)} (t : TabX m b sp bs xss) {j : Nat} (hj : j < xss.length) {row : List Int} (hr : row.length = (xss.getD j []).length) :
    TabX (m.put (bs j) (LM row)) b sp bs (xss.set j row) := by
  have hlen : ∀ i, ((xss.set j row).getD i []).length = (xss.getD i []).length := fun i => by
    by_cases h : j = i
    · subst h; rw [lget_set_self hj]; exact hr
    · rw [lget_set_ne _ h]
  refine ⟨?_, fun i hi => ?_, fun i hi => t.ne i (by simpa using hi), fun i k hi hk => t.inj i k (by simpa using hi) (by simpa using hk)⟩
  · rw [put_ne _ _ (t.ne j hj).symm, t.top, List.length_set]
    congr 2
    unfold topOf
    refine List.map_congr_left fun i _ => ?_
    rw [hlen]
  · rw [List.length_set] at hi
    by_cases h : j = i
    · subst h; rw [put_self, lget_set_self hj]
    · rw [put_ne _ _ (fun e => h (t.inj i j hi hj e).symm), lget_set_ne _ h]; exact t.row i hi
theorem TabX.congr {sp : List Value} {bs : Nat → Nat} {xss : List (List Int)} (t : TabX m b sp bs xss) (h1 : m' b = m b) (h2 : ∀ j, j < xss.length → m' (bs j) = m (bs j)) : TabX m' b sp bs xss :=
  ⟨h1.trans t.top, fun j hj => (h2 j hj).trans (t.row j hj), t.ne, t.inj⟩

/-! ### Truth values -/
abbrev BM (xs : List Bool) : List Value := List.map Value.bool xs
def Bools (h : Heap) (A : Option Addr) (xs : List Bool) : Prop := Seg h A (BM xs)
theorem Bools.mono {h' : Heap} {A : Option Addr} {xs : List Bool} (e : Ext h h') (s : Bools h A xs) : Bools h' A xs := Seg.mono e s
theorem Bools.rd {A : Option Addr} {xs : List Bool} (s : Bools hI A xs) (e : Ext hI h) (hl : xs.length = l) {n : Int} (h0 : 0 ≤ n) (h1 : n < (l : Int)) {K : Bool → Prop} (k : K (xs.getD n.toNat false)) :
    ∃ b o : Nat, A = some ⟨b, o, none⟩ ∧ (0 ≤ n ∧ n < (l : Int)) ∧ ∃ x : Bool, h.get b (o + Int.toNat n * 1) = some (.bool x) ∧ K x := by
  have hn : n.toNat < xs.length := by omega
  obtain ⟨b, o, e1, hg⟩ := Seg.open s (by simp; omega)
  refine ⟨b, o, e1, ⟨h0, h1⟩, _, ?_, k⟩
  rw [Nat.mul_one]
  refine e.get (hg _ _ ?_)
  simp [hn, List.getD_eq_getElem?_getD]
def IsBools (h : Heap) (v : Value) (xs : List Bool) : Prop := ∃ A c, v = .slice A xs.length c ∧ Bools h A xs ∧ xs.length ≤ c
def TabB (h : Heap) (A : Option Addr) (xss : List (List Bool)) : Prop :=
  ∃ vs, Seg h A vs ∧ vs.length = xss.length ∧ ∀ (i : Nat) (v : Value) (xs : List Bool), vs[i]? = some v → xss[i]? = some xs → IsBools h v xs
theorem IsBools.mono {h' : Heap} {v : Value} {xs : List Bool} (e : Ext h h') (s : IsBools h v xs) : IsBools h' v xs := let ⟨A, c, e1, s1, l1⟩ := s; ⟨A, c, e1, s1.mono e, l1⟩
theorem TabB.mono {h' : Heap} {A : Option Addr} {xss : List (List Bool)} (e : Ext h h') (s : TabB h A xss) : TabB h' A xss := let ⟨vs, s1, s2, s3⟩ := s; ⟨vs, s1.mono e, s2, fun i v xs a b => (s3 i v xs a b).mono e⟩
theorem TabB.rd {A : Option Addr} {xss : List (List Bool)} (s : TabB hI A xss) (e : Ext hI h) (hl : xss.length = l) {n : Int} (h0 : 0 ≤ n) (h1 : n < (l : Int)) {K : Option Addr → Nat → Nat → Prop}
    (k : ∀ B d, Bools hI B (xss.getD n.toNat []) → (xss.getD n.toNat []).length ≤ d → K B (xss.getD n.toNat []).length d) :
    ∃ b o : Nat, A = some ⟨b, o, none⟩ ∧ (0 ≤ n ∧ n < (l : Int)) ∧ ∃ xA : Option Addr, ∃ xl : Nat, ∃ xc : Nat, h.get b (o + Int.toNat n * 1) = some (.slice xA xl xc) ∧ K xA xl xc := by
  obtain ⟨vs, s1, s2, s3⟩ := s
  have hn : n.toNat < xss.length := by omega
  have hn' : n.toNat < vs.length := by omega
  obtain ⟨b, o, ea, hg⟩ := Seg.open s1 (by omega)
  obtain ⟨B, d, e1, e2, e3⟩ := s3 n.toNat vs[n.toNat] xss[n.toNat] (List.getElem?_eq_getElem hn') (List.getElem?_eq_getElem hn)
  have e4 : xss.getD n.toNat [] = xss[n.toNat] := by simp [List.getD_eq_getElem?_getD, hn]
  rw [e4] at k
  refine ⟨b, o, ea, ⟨h0, h1⟩, B, _, d, ?_, k B d e2 e3⟩
  rw [Nat.mul_one, ← e1]
  exact e.get <| hg _ _ (List.getElem?_eq_getElem hn')

end
end Go.HL
