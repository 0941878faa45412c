/- Whatever the code, the law of results answers true: points of all teams are twice the meetings played, rankings have all teams, and the teams with the most points can be first when all rounds are played; no condition. -/
import Derived.Test.YthkbodgpcjcndaaKdx33
/- Lists in changing blocks, of elements of any size; results of a call's own; bytes. -/
set_option linter.unusedVariables false
set_option linter.unusedSimpArgs false
namespace Go.HL

section
variable {hI hJ h h0 h2 : Heap} {m m' : PMap} {A B : Option Addr} {b i l c sz : Nat} {cs vs : List Value}

/-! ### Bytes -/
abbrev UM (zs : List Int) : List Value := List.map (Value.int .u8) zs
def BytesW (h : Heap) (A : Option Addr) (zs : List Int) : Prop := (zs = [] ∨ Seg h A (UM zs)) ∧ ∀ z ∈ zs, 0 ≤ z ∧ z ≤ 255
theorem BytesW.mono {zs : List Int} (e : Ext h h2) (s : BytesW h A zs) : BytesW h2 A zs := ⟨s.1.imp id fun s => s.mono e, s.2⟩
theorem BytesW.rd {zs : List Int} (s : BytesW hI A zs) (e : Ext hI h) (hl : zs.length = l) {n : Int} (n0 : 0 ≤ n) (n1 : n < (l : Int)) {K : Int → Prop} (k : ∀ z, 0 ≤ z → z ≤ 255 → K z) :
    ∃ b o : Nat, A = some ⟨b, o, none⟩ ∧ (0 ≤ n ∧ n < (l : Int)) ∧ ∃ x : Int, h.get b (o + Int.toNat n * 1) = some (.int .u8 x) ∧ K x := by
  have hn : n.toNat < zs.length := by omega
  rcases s.1 with rfl | s1
  · simp at hn
  · obtain ⟨b, o, e1, hg⟩ := Seg.open s1 (by simp; omega)
    have hb := s.2 _ (List.getElem_mem hn)
    refine ⟨b, o, e1, ⟨n0, n1⟩, zs[n.toNat], ?_, k _ hb.1 hb.2⟩
    rw [Nat.mul_one]
    refine e.get (hg _ _ ?_)
    simp [hn]

/-- What is new lies beneath the changing blocks. -/
theorem Ext.under (hB : Beside hI m) (e : Ext (over hI m) h2) : ∃ hJ, Ext hI hJ ∧ Beside hJ m ∧ h2 = over hJ m := by
  have hro : h2.ro = hI.ro := e.ro
  refine ⟨{ h2 with own := fun x => match m x with | some _ => none | none => h2.own x }, ⟨fun x k hx => ?_, hro, fun x hx hn o => ?_⟩, fun x hx => ⟨?_, fun o => ?_⟩, ?_⟩
  · have hmx : m x = none := by
      cases hm : m x with
      | none => rfl
      | some cs => have := (hB x (by rw [hm]; simp)).1; rw [hx] at this; cases this
    simp only [hmx]
    exact e.own x k (by simp [over, hmx, hx])
  · cases hm : m x with
    | some cs => exact (hB x (by rw [hm]; simp)).2 o
    | none =>
      simp only [hm] at hn
      exact e.new x (by simp [over, hm, hx]) hn o
  · cases hm : m x with
    | none => exact absurd hm hx
    | some cs => simp only [hm]
  · show h2.ro x o = none
    rw [hro]; exact (hB x hx).2 o
  · cases h2 with
    | mk own ro =>
      unfold over
      congr 1
      funext x
      cases hm : m x with
      | none => simp only [hm]
      | some cs => simp only [hm]; exact e.own x _ (over_own hm)

/-! ### A list in a changing block -/
def VAt (m : PMap) (A : Option Addr) (l c sz : Nat) (vs : List Value) : Prop :=
  vs.length = l * sz ∧ ((A = none ∧ l = 0 ∧ c = 0) ∨ ∃ b sp, A = some ⟨b, 0, none⟩ ∧ m b = some (vs ++ sp) ∧ sp.length = (c - l) * sz ∧ l ≤ c)
theorem VAt.len (V : VAt m A l c sz vs) : vs.length = l * sz := V.1
theorem VAt.le (V : VAt m A l c sz vs) : l ≤ c := by
  obtain ⟨_, ⟨_, rfl, rfl⟩ | ⟨_, _, _, _, _, h⟩⟩ := V
  · exact Nat.le_refl _
  · exact h
theorem VAt.made (hl : cs.length = l * sz) : VAt (m.put b cs) (some ⟨b, 0, none⟩) l l sz cs :=
  ⟨hl, .inr ⟨b, [], rfl, by rw [put_self, List.append_nil], by simp, Nat.le_refl _⟩⟩
theorem VAt.nil (m : PMap) (sz : Nat) : VAt m none 0 0 sz [] := ⟨by simp, .inl ⟨rfl, rfl, rfl⟩⟩
theorem VAt.congr (V : VAt m A l c sz vs) (h : ∀ y, A = some ⟨y, 0, none⟩ → m' y = m y) : VAt m' A l c sz vs :=
  ⟨V.1, V.2.imp id fun ⟨b, sp, e1, e2, e3⟩ => ⟨b, sp, e1, (h b e1).trans e2, e3⟩⟩
theorem VAt.keep (V : VAt m A l c sz vs) (h : ∀ y, m y ≠ none → m' y = m y) : VAt m' A l c sz vs :=
  ⟨V.1, V.2.imp id fun ⟨b, sp, e1, e2, e3⟩ => ⟨b, sp, e1, (h b (by rw [e2]; simp)).trans e2, e3⟩⟩
theorem VAt.seg (V : VAt m A l c sz vs) : Seg (over hI m) A vs := by
  obtain ⟨hl, ⟨rfl, rfl, rfl⟩ | ⟨b, sp, rfl, e2, e3⟩⟩ := V
  · exact .inl ⟨rfl, List.eq_nil_of_length_eq_zero (by simpa using hl)⟩
  · refine .inr ⟨b, 0, rfl, fun i v hv => ?_⟩
    rw [over_get e2, Nat.zero_add, List.getElem?_append_left (List.getElem?_eq_some_iff.1 hv).1]; exact hv
theorem VAt.ints {xs : List Int} (V : VAt m A l c 1 (LM xs)) : Ints (over hI m) A xs := V.seg
theorem VAt.rds {rs : List (List Int)} (V : VAt m A l c 14 (LM rs.flatten)) (h : ∀ r ∈ rs, r.length = 14) : Rds (over hI m) A rs := ⟨V.seg, h⟩
theorem VAt.shrink (V : VAt m A l c sz vs) {k : Nat} (hk : k ≤ l) : VAt m A k c sz (vs.take (k * sz)) := by
  obtain ⟨hl, h⟩ := V
  have hle : k * sz ≤ l * sz := Nat.mul_le_mul_right _ hk
  refine ⟨by rw [List.length_take]; omega, ?_⟩
  rcases h with ⟨rfl, rfl, rfl⟩ | ⟨b, sp, e1, e2, e3, e4⟩
  · exact .inl ⟨rfl, by omega, rfl⟩
  · refine .inr ⟨b, vs.drop (k * sz) ++ sp, e1, by rw [← List.append_assoc, List.take_append_drop]; exact e2, ?_, by omega⟩
    rw [List.length_append, List.length_drop, e3, hl, ← Nat.sub_mul, ← Nat.add_mul]
    congr 1; omega
theorem VAt.append {bytes q : Nat} {z news : List Value} {K : Value → Heap → Prop} (V : VAt m A l c sz vs) (hB : Beside hI m) (hR : Row (over hI m) B (q * sz) news) (hn : news.length = q * sz) (h1 : ∀ v ∈ news, v.oneCell' = true)
    (hb : (l + q) * bytes ≤ 140737488355328) (h63 : l + q ≤ 9223372036854775807) (hz : z.length = sz)
    (k : ∀ m' A' c', Beside hI m' → VAt m' A' (l + q) c' sz (vs ++ news) → (∀ y, m y ≠ none → A ≠ some ⟨y, 0, none⟩ → m' y = m y) → (A' = A ∨ ∃ y, A' = some ⟨y, 0, none⟩ ∧ m y = none) → K (.slice A' (l + q) c') (over hI m')) :
    SAppend (over hI m) sz bytes z A l c B q K := by
  have hseg : Seg (over hI m) A vs := V.seg
  have hlen := V.len
  refine ⟨vs, news, hseg.row hlen, hR, h1, hb, h63, fun hroom => ?_, fun hg c' hc' b hf => ?_⟩
  · obtain ⟨hl, ⟨rfl, rfl, rfl⟩ | ⟨x, sp, rfl, hx, h2, h3⟩⟩ := V
    · have hq : q = 0 := by omega
      subst hq
      have hn0 : news = [] := List.eq_nil_of_length_eq_zero (by simpa using hn)
      subst hn0
      refine ⟨fun _ => ?_, fun h => absurd h (by omega)⟩
      have := k m none 0 hB ⟨by simpa using hl, .inl ⟨rfl, rfl, rfl⟩⟩ (fun _ _ _ => rfl) (.inl rfl)
      simpa using this
    · refine ⟨fun hq => ?_, fun hq => ⟨x, 0, rfl, _, over_own hx, ?_, h1, ?_⟩⟩
      · subst hq
        have hn0 : news = [] := List.eq_nil_of_length_eq_zero (by simpa using hn)
        subst hn0
        exact k m _ c hB ⟨by simpa using hl, .inr ⟨x, sp, rfl, by simpa using hx, by simpa using h2, h3⟩⟩ (fun _ _ _ => rfl) (.inl rfl)
      · have : (c - l) * sz = (c - (l + q)) * sz + q * sz := by rw [← Nat.add_mul]; congr 1; omega
        simp; omega
      · have hs : (c - l) * sz = (c - (l + q)) * sz + q * sz := by rw [← Nat.add_mul]; congr 1; omega
        have e1 : splice (vs ++ sp) (0 + l * sz) news = (vs ++ news) ++ sp.drop news.length := by
          unfold splice
          rw [Nat.zero_add, ← hl, List.take_left, List.drop_append]
          simp
        rw [over_put, e1]
        refine k _ _ c (hB.put (by rw [hx]; simp) _) ⟨by simp [hl, hn, Nat.add_mul], .inr ⟨x, sp.drop news.length, rfl, put_self _ _ _, by simp [h2, hn]; omega, hroom⟩⟩ (fun y _ hy => put_ne _ _ fun e => hy (by rw [e])) (.inl rfl)
  · rw [over_put]
    have hmb := (over_fresh hf).2
    exact k _ _ c' (hB.new hf _) ⟨by simp [hlen, hn, Nat.add_mul], .inr ⟨b, zrep z (c' - (l + q)), rfl, put_self _ _ _, by rw [zrep_len, hz], hc'⟩⟩ (fun y hy _ => put_ne _ _ fun e => hy (by rw [e]; exact hmb)) (.inr ⟨b, rfl, hmb⟩)
/-- One element more. -/
theorem VAt.push {bytes : Nat} {z us : List Value} {K : Value → Heap → Prop} (V : VAt m A l c sz vs) (hB : Beside hI m) (hus : us.length = sz) (h1 : ∀ v ∈ us, v.oneCell' = true)
    (hb : (l + 1) * bytes ≤ 140737488355328) (h63 : l + 1 ≤ 9223372036854775807) (hz : z.length = sz)
    (k : ∀ hJ m' A' c', Ext hI hJ → Beside hJ m' → VAt m' A' (l + 1) c' sz (vs ++ us) → (∀ y, m y ≠ none → A ≠ some ⟨y, 0, none⟩ → m' y = m y) → (A' = A ∨ ∃ y, A' = some ⟨y, 0, none⟩ ∧ m y = none) → K (.slice A' (l + 1) c') (over hJ m')) :
    SAlloc (over hI m) us fun b h69 => SAppend h69 sz bytes z A l c (some ⟨b, 0, none⟩) 1 K := by
  intro b hf
  have hb2 := over_fresh hf
  rw [over_base hf]
  have e := Ext.upd hb2.1 (.cells us)
  refine V.append (hB.base hf _) ?_ (by rw [Nat.one_mul]; exact hus) h1 hb h63 hz fun m' A' c' b1 b2 b3 b4 => k _ m' A' c' e b1 b2 b3 b4
  rw [Nat.one_mul]
  exact (over_ext (hB.base hf _)).getN (getN_of hus fun q v hv => by rw [Nat.zero_add, get_upd, if_pos rfl]; exact hv)
/-- A number of it is written. -/
theorem VAt.wr {n : Int} {u : Value} {K : Heap → Prop} (V : VAt m A l c 1 vs) (hB : Beside hI m) (n0 : 0 ≤ n) (n1 : n < (l : Int)) (hu : u.oneCell' = true)
    (k : ∀ m', Beside hI m' → VAt m' A l c 1 (vs.set n.toNat u) → (∀ y, A ≠ some ⟨y, 0, none⟩ → m' y = m y) → K (over hI m')) :
    ∃ b o : Nat, A = some ⟨b, o, none⟩ ∧ (0 ≤ n ∧ n < (l : Int)) ∧ SStore (over hI m) b (o + Int.toNat n * 1) [u] K := by
  obtain ⟨hl, ⟨rfl, rfl, rfl⟩ | ⟨b, sp, rfl, e2, e3, e4⟩⟩ := V
  · omega
  · have hn : n.toNat < vs.length := by omega
    refine ⟨b, 0, rfl, ⟨n0, n1⟩, over_store e2 (by simp; omega) (by simpa using hu) ?_⟩
    have es : splice (vs ++ sp) (0 + n.toNat * 1) [u] = vs.set n.toNat u ++ sp := by
      rw [Nat.zero_add, Nat.mul_one, splice_app _ _ _ (by simp; omega), splice_one _ _ _ hn]
    rw [es]
    exact k _ (hB.put (by rw [e2]; simp) _) ⟨by rw [List.length_set]; exact hl, .inr ⟨b, sp, rfl, put_self _ _ _, e3, e4⟩⟩ (fun y hy => put_ne _ _ fun e => hy (by rw [e]))
/-- It changes no more. -/
theorem VAt.freeze (V : VAt m A l c sz vs) (hB : Beside hI m) : ∃ hJ m', Ext hI hJ ∧ Beside hJ m' ∧ over hI m = over hJ m' ∧ Seg hJ A vs ∧ ∀ y, A ≠ some ⟨y, 0, none⟩ → m' y = m y := by
  obtain ⟨hl, ⟨rfl, rfl, rfl⟩ | ⟨b, sp, rfl, e2, e3, e4⟩⟩ := V
  · exact ⟨hI, m, Ext.refl _, hB, rfl, .inl ⟨rfl, List.eq_nil_of_length_eq_zero (by simpa using hl)⟩, fun _ _ => rfl⟩
  · obtain ⟨f1, f2, f3⟩ := over_freeze hB e2
    refine ⟨_, _, f3, f2, f1, .inr ⟨b, 0, rfl, fun i v hv => ?_⟩, fun y hy => del_ne _ fun e => hy (by rw [e])⟩
    rw [Nat.zero_add, get_upd, if_pos rfl, List.getElem?_append_left (List.getElem?_eq_some_iff.1 hv).1]; exact hv

/-! ### A list that a call hands back, in a block of its own -/
def OwnV (h0 h : Heap) (A : Option Addr) (l c sz : Nat) (vs : List Value) : Prop :=
  vs.length = l * sz ∧ ((A = none ∧ l = 0 ∧ c = 0) ∨ ∃ b sp, A = some ⟨b, 0, none⟩ ∧ h0.fresh b ∧ h.own b = some (.cells (vs ++ sp)) ∧ sp.length = (c - l) * sz ∧ l ≤ c)
theorem Vec.ownv (v : Vec hI h A l c sz cs) (e : Ext h0 hI) : OwnV h0 h A l c sz cs := by
  obtain ⟨hl, ⟨rfl, rfl, rfl, rfl⟩ | ⟨b, sp, rfl, hf, rfl, h2, h3⟩⟩ := v
  · exact ⟨hl, .inl ⟨rfl, rfl, rfl⟩⟩
  · exact ⟨hl, .inr ⟨b, sp, rfl, e.fresh hf, Heap.upd_own_self _ _ _, h2, h3⟩⟩
theorem VAt.ownv (V : VAt m A l c sz cs) (hB : Beside hI m) (e : Ext h0 hI) : OwnV h0 (over hI m) A l c sz cs := by
  obtain ⟨hl, ⟨rfl, rfl, rfl⟩ | ⟨b, sp, rfl, hm, h2, h3⟩⟩ := V
  · exact ⟨hl, .inl ⟨rfl, rfl, rfl⟩⟩
  · exact ⟨hl, .inr ⟨b, sp, rfl, e.fresh (hB b (by rw [hm]; simp)), over_own hm, h2, h3⟩⟩
theorem OwnV.mono (o : OwnV h0 h A l c sz vs) (e : Ext h h2) : OwnV h0 h2 A l c sz vs :=
  ⟨o.1, o.2.imp id fun ⟨b, sp, e1, e2, e3, e4⟩ => ⟨b, sp, e1, e2, e.own _ _ e3, e4⟩⟩
theorem OwnV.base (o : OwnV h h2 A l c sz vs) (e : Ext h0 h) : OwnV h0 h2 A l c sz vs :=
  ⟨o.1, o.2.imp id fun ⟨b, sp, e1, e2, e3, e4⟩ => ⟨b, sp, e1, e.fresh e2, e3, e4⟩⟩
theorem OwnV.seg (o : OwnV h0 h A l c sz vs) : Seg h A vs := by
  obtain ⟨hl, ⟨rfl, rfl, rfl⟩ | ⟨b, sp, rfl, e1, e2, e3⟩⟩ := o
  · exact .inl ⟨rfl, List.eq_nil_of_length_eq_zero (by simpa using hl)⟩
  · exact seg_own e2
theorem OwnV.len (o : OwnV h0 h A l c sz vs) : vs.length = l * sz := o.1
theorem OwnV.le (o : OwnV h0 h A l c sz vs) : l ≤ c := by
  obtain ⟨_, ⟨_, rfl, rfl⟩ | ⟨_, _, _, _, _, _, h⟩⟩ := o
  · exact Nat.le_refl _
  · exact h
/-- It is a block that changes from now on. -/
theorem OwnV.take (o : OwnV hI hJ A l c sz vs) (e : Ext hI hJ) (hB : Beside hJ m) :
    ∃ hK m', Ext hI hK ∧ Beside hK m' ∧ over hJ m = over hK m' ∧ VAt m' A l c sz vs ∧ (∀ y, m y ≠ none → m' y = m y) ∧ ∀ y, m y ≠ none → A ≠ some ⟨y, 0, none⟩ := by
  obtain ⟨hl, ⟨rfl, rfl, rfl⟩ | ⟨b, sp, rfl, hf, ho, h2, h3⟩⟩ := o
  · exact ⟨hJ, m, e, hB, rfl, ⟨hl, .inl ⟨rfl, rfl, rfl⟩⟩, fun _ _ => rfl, fun _ _ h => by cases h⟩
  · have hmb : m b = none := by
      cases hm : m b with
      | none => rfl
      | some cs => have := (hB b (by rw [hm]; simp)).1; rw [ho] at this; cases this
    have hne : ∀ y, m y ≠ none → y ≠ b := fun y hy e => hy (by rw [e]; exact hmb)
    refine ⟨{ hJ with own := fun x => if x = b then none else hJ.own x }, m.put b (vs ++ sp), ⟨fun x k hx => ?_, e.ro, fun x hx hn o => ?_⟩, fun x hx => ?_, ?_, ⟨hl, .inr ⟨b, sp, rfl, put_self _ _ _, h2, h3⟩⟩, fun y hy => put_ne _ _ (hne y hy), fun y hy h => hne y hy (by cases h; rfl)⟩
    · have : x ≠ b := fun e2 => by rw [e2, hf.1] at hx; cases hx
      simp only [if_neg this]; exact e.own x k hx
    · by_cases hxb : x = b
      · rw [hxb]; exact hf.2 o
      · simp only [if_neg hxb] at hn; exact e.new x hx hn o
    · by_cases hxb : x = b
      · subst hxb; exact ⟨by simp, fun o => by show hJ.ro x o = none; rw [e.ro]; exact hf.2 o⟩
      · rw [put_ne _ _ hxb] at hx
        have := hB x hx
        exact ⟨by simp only [if_neg hxb]; exact this.1, this.2⟩
    · unfold over
      congr 1
      funext x
      by_cases hxb : x = b
      · subst hxb; simp only [hmb, put_self]; exact ho
      · simp only [put_ne _ _ hxb, if_neg hxb]
/-- What a call over changing blocks hands back is one of them from now on. -/
theorem OwnV.under_take (hB : Beside hI m) (e : Ext (over hI m) h2) (o : OwnV (over hI m) h2 A l c sz vs) :
    ∃ hK m', Ext hI hK ∧ Beside hK m' ∧ h2 = over hK m' ∧ VAt m' A l c sz vs ∧ (∀ y, m y ≠ none → m' y = m y) ∧ ∀ y, m y ≠ none → A ≠ some ⟨y, 0, none⟩ := by
  obtain ⟨hJ, eJ, hBJ, rfl⟩ := Ext.under hB e
  have o2 : OwnV hI hJ A l c sz vs := by
    refine ⟨o.1, o.2.imp id fun ⟨b, sp, e1, e2, e3, e4⟩ => ⟨b, sp, e1, (over_fresh e2).1, ?_, e4⟩⟩
    have hmb := (over_fresh e2).2
    simpa [over, hmb] using e3
  obtain ⟨hK, m', f1, f2, f3, f4⟩ := o2.take eJ hBJ
  exact ⟨hK, m', f1, f2, f3, f4⟩
theorem over_all {n : Nat} (hm : m b = some vs) (hl : vs.length = n) : (over hI m).getN b 0 n = some vs :=
  getN_of hl fun q v hv => by rw [over_get hm, Nat.zero_add]; exact hv
/-- A whole block is written. -/
theorem over_st {K : Heap → Prop} (hm : m b = some cs) (hc : cs.length = vs.length) (h1 : ∀ v ∈ vs, v.oneCell' = true) (k : K (over hI (m.put b vs))) : SStore (over hI m) b 0 vs K := by
  refine over_store hm (by omega) h1 ?_
  have es : splice cs 0 vs = vs := by simp [splice, hc]
  rw [es]; exact k
/-- A new changing block. -/
theorem over_alloc (hB : Beside hI m) {K : Nat → Heap → Prop} (k : ∀ b, m b = none → hI.fresh b → Beside hI (m.put b cs) → K b (over hI (m.put b cs))) : SAlloc (over hI m) cs K := by
  intro b hf
  rw [over_put]
  exact k b (over_fresh hf).2 (over_fresh hf).1 (hB.new hf _)
/-- A new block that is only read. -/
theorem base_alloc (hB : Beside hI m) {K : Nat → Heap → Prop} (k : ∀ b, hI.fresh b → m b = none → Ext hI (hI.upd b (.cells cs)) → Beside (hI.upd b (.cells cs)) m → K b (over (hI.upd b (.cells cs)) m)) : SAlloc (over hI m) cs K := by
  intro b hf
  rw [over_base hf]
  exact k b (over_fresh hf).1 (over_fresh hf).2 (Ext.upd (over_fresh hf).1 _) (hB.base hf _)

end
end Go.HL
