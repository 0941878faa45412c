/- For every schedule and results, NextRound of the program answers as NextRound of the reference does, and changes nothing; no condition. -/
import Derived.Test.YtbppeajpjnlobaaKcx27
import Derived.Test.YtbppeajpjnlobaaKcx28
import Derived.Test.YtbppeajpjnlobaaKcx30
/- What the laws' own small functions do: copies, sizes, comparisons. -/
set_option linter.unusedVariables false
set_option linter.unusedSimpArgs false
namespace Go.Proofs.Ytbppeajpjnlobaa
open Go.HL

theorem L.szRoundS.spec {K : Value → Heap → Prop} {A : Option Addr} {l c : Nat} {left : Int} {h : Heap} (h0 : 0 ≤ left) (h1 : left ≤ 1048576) (hl : l ≤ 9223372036854775807)
    (hK : K (.int .i64 (if left < l then -1 else left - l)) h) : ACalls Try.prog L.szRoundS.id [.slice A l c, .int .i64 left] h K := by
  refine L.szRoundS.step K _ _ _ _ h ?_
  rw [w64 (by omega) (by omega)]
  refine dec_split (fun hc => ?_) (fun hc => ?_)
  · rwa [if_pos (by omega)] at hK
  · rwa [if_neg (by omega)] at hK
theorem L.szInt64S.spec {K : Value → Heap → Prop} {A : Option Addr} {l c : Nat} {left : Int} {h : Heap} (h0 : 0 ≤ left) (h1 : left ≤ 1048576) (hl : l ≤ 9223372036854775807)
    (hK : K (.int .i64 (if left < l then -1 else left - l)) h) : ACalls Try.prog L.szInt64S.id [.slice A l c, .int .i64 left] h K := by
  refine L.szInt64S.step K _ _ _ _ h ?_
  rw [w64 (by omega) (by omega)]
  refine dec_split (fun hc => ?_) (fun hc => ?_)
  · rwa [if_pos (by omega)] at hK
  · rwa [if_neg (by omega)] at hK
theorem L.szSchedule.spec {K : Value → Heap → Prop} {n : Int} {A : Option Addr} {l c : Nat} {left : Int} {h : Heap} (h0 : 0 ≤ left) (h1 : left ≤ 1048576) (hl : l ≤ 9223372036854775807)
    (hK : ∀ h', Ext h h' → K (.int .i64 (if left < l then -1 else left - l)) h') : ACalls Try.prog L.szSchedule.id [.agg #[.int .i64 n, .slice A l c], .int .i64 left] h K := by
  refine L.szSchedule.step K _ _ _ _ _ h fun b hf => ⟨A, l, c, by simp, ?_⟩
  have hk := hK _ (Ext.upd hf (.cells [.int .i64 n, .slice A l c]))
  refine L.szRoundS.spec h0 h1 hl ⟨_, rfl, dec_split (fun hc => ?_) (fun hc => hk)⟩
  split at hk
  · exact hk
  · omega

theorem L.toInt64S.spec {K : Value → Heap → Prop} {A : Option Addr} {xs : List Int} {l c : Nat} {h : Heap} (s : IntsW h A xs) (hl : xs.length = l) (hb : l ≤ 1048576)
    (hK : ∀ B h', Ext h h' → Ints h' B xs → K (.slice B l l) h') : ACalls Try.prog L.toInt64S.id [.slice A l c] h K := by
  refine L.toInt64S.step K _ _ _ h ⟨rfl, by omega, by omega, by omega, fun b hf => ?_⟩
  rw [Int.toNat_natCast]
  have loop : ∀ (m i : Nat) (h' : Heap), i + m = l → Vec h h' (some ⟨b, 0, none⟩) l l 1 (LM (xs.take i ++ List.replicate m 0)) → L.toInt64S.L0 K (.slice A l c) (.slice (some ⟨b, 0, none⟩) l l) (.int .i64 i) h' := by
    intro m
    induction m with
    | zero =>
      intro i h' hi v
      refine L.toInt64S.L0_step K _ _ _ _ _ _ _ _ (dec_split (fun hc => by omega) (fun _ => ?_))
      have := v.seg
      rw [List.replicate_zero, List.append_nil, List.take_of_length_le (by omega)] at this
      exact hK _ _ v.ext this
    | succ m ih =>
      intro i h' hi v
      refine L.toInt64S.L0_step K _ _ _ _ _ _ _ _ (dec_split (fun hc => ?_) (fun hc => by omega))
      refine s.rd v.ext hl (by omega) (by omega) (Vec.put v (by omega) (by omega) rfl fun h2 v2 => ?_)
      rw [wsucc (by omega)]
      refine ih (i + 1) h2 (by omega) ?_
      rw [LM, ← List.map_set, Int.toNat_natCast, fill_step (by omega)] at v2
      exact v2
  exact loop l 0 _ (by omega) (by simpa [LM] using Vec.made (l := l) (sz := 1) (cs := List.replicate l (.int .i64 0)) hf (by simp))

theorem L.toInt64SS.spec {K : Value → Heap → Prop} {A : Option Addr} {xss : List (List Int)} {l c : Nat} {h : Heap} (s : TabW h A xss) (hl : xss.length = l) (hb : l ≤ 1048576) (hb2 : ∀ xs ∈ xss, xs.length ≤ 1048576)
    (hK : ∀ B h', Ext h h' → Tab h' B xss → K (.slice B l l) h') : ACalls Try.prog L.toInt64SS.id [.slice A l c] h K := by
  refine L.toInt64SS.step K _ _ _ h ⟨rfl, by omega, by omega, by omega, fun b hf => ?_⟩
  rw [Int.toNat_natCast]
  have loop : ∀ (m i : Nat) (hI h' : Heap) (vs : List Value), i + m = l → Ext h hI → Vec hI h' (some ⟨b, 0, none⟩) l l 1 (vs ++ List.replicate m (.slice none 0 0)) → vs.length = i →
      (∀ (j : Nat) (v : Value) (xs : List Int), vs[j]? = some v → xss[j]? = some xs → IsInts hI v xs) → L.toInt64SS.L0 K (.slice A l c) (.slice (some ⟨b, 0, none⟩) l l) (.int .i64 i) h' := by
    intro m
    induction m with
    | zero =>
      intro i hI h' vs hi he v hvl hv
      refine L.toInt64SS.L0_step K _ _ _ _ _ _ _ _ (dec_split (fun hc => by omega) (fun _ => ?_))
      have := v.seg
      rw [List.replicate_zero, List.append_nil] at this
      exact hK _ _ (he.trans v.ext) ⟨vs, this, by omega, fun j u xs a b => (hv j u xs a b).mono v.ext⟩
    | succ m ih =>
      intro i hI h' vs hi he v hvl hv
      refine L.toInt64SS.L0_step K _ _ _ _ _ _ _ _ (dec_split (fun hc => ?_) (fun hc => by omega))
      refine (s.mono he).rd v.ext hl (by omega) (by omega) fun B d hd _ => ?_
      have hi' : i < xss.length := by omega
      have e1 : xss.getD (Int.toNat i) [] = xss[i] := by simp [List.getD_eq_getElem?_getD, hi']
      rw [e1] at hd ⊢
      have hx := hb2 _ (List.getElem_mem hi')
      refine (v.call (L.toInt64S.spec (K := fun u h2 => ∃ C, Ext hI h2 ∧ Ints h2 C xss[i] ∧ u = .slice C xss[i].length xss[i].length) hd rfl hx fun C h2 e2 s2 => ⟨C, e2, s2, rfl⟩)).mono ?_
      rintro u h2 ⟨hJ, v2, C, e2, s2, rfl⟩
      refine ⟨_, _, _, rfl, Vec.put v2 (by omega) (by omega) rfl fun h3 v3 => ?_⟩
      rw [wsucc (by omega)]
      refine ih (i + 1) hJ h3 (vs ++ [.slice C xss[i].length xss[i].length]) (by omega) (he.trans e2) ?_ (by simp; omega) (fun j u xs ha hb => ?_)
      · rw [Int.toNat_natCast, List.set_append, if_neg (by omega), hvl, Nat.sub_self, List.replicate_succ, List.set_cons_zero] at v3
        simpa using v3
      · rw [List.getElem?_append] at ha
        split at ha
        · exact (hv j u xs ha hb).mono e2
        · have hj : j = i := by
            have := (List.getElem?_eq_some_iff.1 ha).1
            simp at this; omega
          subst hj
          rw [hvl, Nat.sub_self] at ha
          simp at ha
          rw [List.getElem?_eq_getElem hi'] at hb
          cases hb
          exact ⟨C, _, ha.symm, s2, Nat.le_refl _⟩
  exact loop l 0 h _ [] (by omega) (Ext.refl _) (by simpa using Vec.made (l := l) (sz := 1) (cs := List.replicate l (.slice none 0 0)) hf (by simp)) rfl (fun j v xs a => by simp at a)

end Go.Proofs.Ytbppeajpjnlobaa

/- Numbers in a range, rounds and schedules: what the program and its reference say of them. -/
set_option linter.unusedVariables false
set_option linter.unusedSimpArgs false
namespace Go.Proofs.Ytbppeajpjnlobaa
open Go.HL

theorem I.between.spec {n low high : Int} {h : Heap} : ACalls Try.prog I.between.id [.int .i64 n, .int .i64 low, .int .i64 high] h fun u h' => h' = h ∧ u = .bool (decide (low ≤ n) && decide (n ≤ high)) := by
  refine I.between.step _ _ _ _ h fun k hk => dec_split (fun hc => hk _ _ ⟨rfl, ?_⟩) (fun hc => hk _ _ ⟨rfl, ?_⟩)
  · simp [hc]
  · simp [hc]
theorem S.l01In.spec {n low high : Int} {h : Heap} : ACalls Try.prog S.l01In.id [.int .i64 n, .int .i64 low, .int .i64 high] h fun u h' => h' = h ∧ u = .bool (decide (low ≤ n) && decide (n ≤ high)) := by
  refine S.l01In.step _ _ _ _ h fun k hk => dec_split (fun hc => hk _ _ ⟨rfl, ?_⟩) (fun hc => hk _ _ ⟨rfl, ?_⟩)
  · simp [hc]
  · simp [hc]

/-- What is asked of the place a of a round of n teams. -/
def placeOk (n : Int) (r : List Int) (a : Nat) : Bool :=
  if n ≤ a then decide (r.getD a 0 = 0) else decide (0 ≤ r.getD a 0) && decide (r.getD a 0 ≤ n - 1) && decide (r.getD (r.getD a 0).toNat 0 = a)
def roundOk (n : Int) (r : List Int) : Bool := decide (2 ≤ n) && decide (n ≤ 14) && (List.range' 0 14).all (placeOk n r)

theorem rd14 {h : Heap} {b : Nat} {r : List Int} (hr : r.length = 14) (hg : ∀ (i : Nat) (v : Value), (LM r)[i]? = some v → h.get b i = some v) {n : Int} (h0 : 0 ≤ n) (h1 : n < 14) : h.get b (0 + Int.toNat n * 1) = some (.int .i64 (r.getD n.toNat 0)) := by
  rw [Nat.zero_add, Nat.mul_one]
  refine hg _ _ ?_
  have : n.toNat < r.length := by omega
  simp [this, List.getD_eq_getElem?_getD]

theorem rd14n {h : Heap} {b : Nat} {r : List Int} (hr : r.length = 14) (hg : ∀ (i : Nat) (v : Value), (LM r)[i]? = some v → h.get b i = some v) {i : Nat} (h1 : i < 14) : h.get b (0 + Int.toNat (i : Int) * 1) = some (.int .i64 (r.getD i 0)) := rd14 hr hg (by omega) (by omega)

theorem I.IsRound.spec {n : Int} {r : List Int} (hr : r.length = 14) {h : Heap} : ACalls Try.prog I.IsRound.id [.int .i64 n, .agg (LM r).toArray] h fun u h' => Ext h h' ∧ u = .bool (roundOk n r) := by
  refine I.IsRound.step _ _ _ h fun b hf => I.between.spec.mono ?_
  rintro u h' ⟨rfl, rfl⟩
  refine ⟨_, rfl, nbool_split (fun hc => ⟨Ext.upd hf _, by simp only [roundOk, hc, Bool.false_and]⟩) (fun hc => ⟨r, hr, ?_, ?_⟩)⟩
  · have := getN_of (h := h.upd b (.cells (LM r))) (b := b) (o := 0) (n := 14) (vs := LM r) (by simp [hr]) (fun i v hv => by simpa using hv)
    exact this
  simp only [Bool.and_eq_true, decide_eq_true_eq] at hc
  have hg : ∀ (i : Nat) (v : Value), (LM r)[i]? = some v → (h.upd b (.cells (LM r))).get b i = some v := fun i v hv => by simpa using hv
  have he : Ext h (h.upd b (.cells (LM r))) := Ext.upd hf _
  have e0 : roundOk n r = (List.range' 0 14).all (placeOk n r) := by simp [roundOk, hc]
  rw [e0]
  generalize h.upd b (.cells (LM r)) = h1 at *
  have loop : ∀ (m i : Nat) (K : Value → Heap → Prop), i + m = 14 → K (.bool ((List.range' i m).all (placeOk n r))) h1 → I.IsRound.L0 K (.int .i64 n) (.pointer (some ⟨b, 0, none⟩)) (.agg (LM r).toArray) (.int .i64 i) h1 := by
    intro m
    induction m with
    | zero =>
      intro i K hi hk
      refine I.IsRound.L0_step K _ _ _ _ _ _ (dec_split (fun hc => by omega) (fun _ => ?_))
      simpa using hk
    | succ m ih =>
      intro i K hi hk
      have hi' : i < r.length := by omega
      have hgi : (LM r).toArray[Int.toNat (i : Int) * 1]? = some (.int .i64 (r.getD i 0)) := by simp [hi', List.getD_eq_getElem?_getD]
      rw [List.range'_succ, List.all_cons] at hk
      have next : placeOk n r i = true → I.IsRound.L0 K (.int .i64 n) (.pointer (some ⟨b, 0, none⟩)) (.agg (LM r).toArray) (.int .i64 (IntKind.wrap .i64 (i + (1 : Int)))) h1 := by
        intro hp
        rw [wsucc (by omega)]
        exact ih (i + 1) K (by omega) (by simpa [hp] using hk)
      have stop : placeOk n r i = false → K (.bool false) h1 := by
        intro hp
        simpa [hp] using hk
      refine I.IsRound.L0_step K _ _ _ _ _ _ (dec_split (fun hc1 => ⟨r.getD i 0, by rw [if_pos ⟨by omega, by omega⟩]; exact hgi, ?_⟩) (fun hc => by omega))
      intro k15 hk15
      refine dec_split (fun h15 => hk15 _ _ ?_) (fun h15 => hk15 _ _ ?_)
      · intro k18 hk18
        have hp : placeOk n r i = decide (r.getD i 0 = 0) := by simp [placeOk, h15]
        refine ndec_split (fun h0 => hk18 _ _ (bool_split (fun _ => stop (by rw [hp]; simpa using h0)) (fun hh => by cases hh)))
          (fun h0 => dec_split (fun hlt => by omega) (fun _ => hk18 _ _ (bool_split (fun hh => by cases hh) (fun _ => next (by rw [hp]; simpa using h0)))))
      · intro k18 hk18
        refine bool_split (fun hh => by cases hh) (fun _ => dec_split (fun hlt => ?_) (fun hlt => by omega))
        have hw : IntKind.wrap .i64 (n - (1 : Int)) = n - 1 := w64 (by omega) (by omega)
        rw [hw]
        refine I.between.spec.mono ?_
        rintro u h' ⟨rfl, rfl⟩
        have hp : placeOk n r i = (decide (0 ≤ r.getD i 0) && decide (r.getD i 0 ≤ n - 1) && decide (r.getD (r.getD i 0).toNat 0 = i)) := by rw [placeOk, if_neg h15]
        refine ⟨_, rfl, nbool_split (fun hh => hk18 _ _ (bool_split (fun _ => stop (by rw [hp, hh]; rfl)) (fun hh => by cases hh))) (fun hh => ?_)⟩
        rw [hh, Bool.true_and] at hp
        simp only [Bool.and_eq_true, decide_eq_true_eq] at hh
        refine ⟨⟨by omega, by omega⟩, _, rd14 hr hg hh.1 (by omega), hk18 _ _ (ndec_split (fun hne => stop (by rw [hp]; simpa using hne)) (fun heq => next (by rw [hp]; simpa using heq)))⟩
  exact loop 14 0 _ rfl ⟨he, rfl⟩

end Go.Proofs.Ytbppeajpjnlobaa

/- Rounds and schedules, as the reference and the library tell them. -/
set_option linter.unusedVariables false
set_option linter.unusedSimpArgs false
namespace Go.Proofs.Ytbppeajpjnlobaa
open Go.HL

theorem S.l01Round.spec {n : Int} {r : List Int} (hr : r.length = 14) {h : Heap} : ACalls Try.prog S.l01Round.id [.int .i64 n, .agg (LM r).toArray] h fun u h' => Ext h h' ∧ u = .bool (roundOk n r) := by
  refine S.l01Round.step _ _ _ h fun b hf => S.l01In.spec.mono ?_
  rintro u h' ⟨rfl, rfl⟩
  refine ⟨_, rfl, nbool_split (fun hc => ⟨Ext.upd hf _, by simp only [roundOk, hc, Bool.false_and]⟩) (fun hc => ?_)⟩
  simp only [Bool.and_eq_true, decide_eq_true_eq] at hc
  have hg : ∀ (i : Nat) (v : Value), (LM r)[i]? = some v → (h.upd b (.cells (LM r))).get b i = some v := fun i v hv => by simpa using hv
  have he : Ext h (h.upd b (.cells (LM r))) := Ext.upd hf _
  have e0 : roundOk n r = (List.range' 0 14).all (placeOk n r) := by simp [roundOk, hc]
  rw [e0]
  generalize h.upd b (.cells (LM r)) = h1 at *
  have loop : ∀ (m i : Nat) (K : Value → Heap → Prop), i + m = 14 → K (.bool ((List.range' i m).all (placeOk n r))) h1 → S.l01Round.L0 K (.int .i64 n) (.pointer (some ⟨b, 0, none⟩)) (.int .i64 i) h1 := by
    intro m
    induction m with
    | zero =>
      intro i K hi hk
      refine S.l01Round.L0_step K _ _ _ _ _ (dec_split (fun hc => by omega) (fun _ => ?_))
      simpa using hk
    | succ m ih =>
      intro i K hi hk
      rw [List.range'_succ, List.all_cons] at hk
      have next : placeOk n r i = true → S.l01Round.L0 K (.int .i64 n) (.pointer (some ⟨b, 0, none⟩)) (.int .i64 (IntKind.wrap .i64 (i + (1 : Int)))) h1 := by
        intro hp
        rw [wsucc (by omega)]
        exact ih (i + 1) K (by omega) (by simpa [hp] using hk)
      have stop : placeOk n r i = false → K (.bool false) h1 := by
        intro hp
        simpa [hp] using hk
      refine S.l01Round.L0_step K _ _ _ _ _ (dec_split (fun hc1 => ?_) (fun hc => by omega))
      intro k15 hk15
      refine dec_split (fun h15 => ⟨⟨by omega, by omega⟩, _, rd14n hr hg (by omega), hk15 _ _ ?_⟩) (fun h15 => hk15 _ _ ?_)
      · intro k18 hk18
        have hp : placeOk n r i = decide (r.getD i 0 = 0) := by simp [placeOk, h15]
        refine ndec_split (fun h0 => hk18 _ _ (bool_split (fun _ => stop (by rw [hp]; simpa using h0)) (fun hh => by cases hh)))
          (fun h0 => dec_split (fun hlt => by omega) (fun _ => hk18 _ _ (bool_split (fun hh => by cases hh) (fun _ => next (by rw [hp]; simpa using h0)))))
      · intro k18 hk18
        refine bool_split (fun hh => by cases hh) (fun _ => dec_split (fun hlt => ⟨⟨by omega, by omega⟩, _, rd14n hr hg (by omega), ?_⟩) (fun hlt => by omega))
        have hw : IntKind.wrap .i64 (n - (1 : Int)) = n - 1 := w64 (by omega) (by omega)
        rw [hw]
        refine S.l01In.spec.mono ?_
        rintro u h' ⟨rfl, rfl⟩
        have hp : placeOk n r i = (decide (0 ≤ r.getD i 0) && decide (r.getD i 0 ≤ n - 1) && decide (r.getD (r.getD i 0).toNat 0 = i)) := by rw [placeOk, if_neg h15]
        refine ⟨_, rfl, nbool_split (fun hh => hk18 _ _ (bool_split (fun _ => stop (by rw [hp, hh]; rfl)) (fun hh => by cases hh))) (fun hh => ?_)⟩
        simp only [Bool.and_eq_true, decide_eq_true_eq] at hh
        have hp2 : placeOk n r i = decide (r.getD (r.getD i 0).toNat 0 = i) := by rw [hp, decide_eq_true hh.1, decide_eq_true hh.2]; rfl
        refine ⟨⟨by omega, by omega⟩, _, rd14n hr hg (by omega), ⟨by omega, by omega⟩, _, rd14 hr hg (by omega) (by omega), hk18 _ _ (ndec_split (fun hne => stop (by rw [hp2]; simpa using hne)) (fun heq => next (by rw [hp2]; simpa using heq)))⟩
  exact loop 14 0 _ rfl ⟨he, rfl⟩

/-- The place of the first one. -/
def firstIdx {α : Type} (p : α → Bool) : Nat → List α → Int
  | _, [] => -1
  | i, x :: xs => if p x then i else firstIdx p (i + 1) xs
theorem firstIdx_any {α : Type} (p : α → Bool) : ∀ (i : Nat) (xs : List α), decide ((0 : Int) ≤ firstIdx p i xs) = xs.any p
  | i, [] => by simp [firstIdx]
  | i, x :: xs => by
    rw [firstIdx]
    cases hx : p x
    · simpa [hx] using firstIdx_any p (i + 1) xs
    · simp [hx]

theorem slices.IndexFunc_SI_Round_I_Round.spec {A : Option Addr} {rs : List (List Int)} {l c : Nat} {f : FuncId} {caps : Array Value} {p : List Int → Bool} {h : Heap} (s : Rds h A rs) (hl : rs.length = l) (hb : l ≤ 1048576)
    (hp : ∀ h1, Ext h h1 → ∀ r ∈ rs, ACalls Try.prog f ([.agg (LM r).toArray] ++ caps.toList) h1 fun u h2 => Ext h1 h2 ∧ u = .bool (p r)) :
    ACalls Try.prog slices.IndexFunc_SI_Round_I_Round.id [.slice A l c, .func (.func f) #[] caps] h fun u h2 => Ext h h2 ∧ u = .int .i64 (firstIdx p 0 rs) := by
  refine slices.IndexFunc_SI_Round_I_Round.step _ _ _ _ _ _ h ?_
  have loop : ∀ (m i : Nat) (h1 : Heap) (K : Value → Heap → Prop), i + m = l → Ext h h1 → (∀ h2, Ext h h2 → K (.int .i64 (firstIdx p i (rs.drop i))) h2) →
      slices.IndexFunc_SI_Round_I_Round.L0 K (.slice A l c) (.func (.func f) #[] caps) (.int .i64 l) (.int .i64 i) h1 := by
    intro m
    induction m with
    | zero =>
      intro i h1 K hi he hk
      refine slices.IndexFunc_SI_Round_I_Round.L0_step K _ _ _ _ _ _ _ _ (dec_split (fun hc => by omega) (fun _ => ?_))
      have := hk h1 he
      rwa [List.drop_eq_nil_of_le (by omega)] at this
    | succ m ih =>
      intro i h1 K hi he hk
      have hi' : i < rs.length := by omega
      refine slices.IndexFunc_SI_Round_I_Round.L0_step K _ _ _ _ _ _ _ _ (dec_split (fun hc => ?_) (fun hc => by omega))
      refine s.rd he hl (by omega) (by omega) fun _ => ?_
      have e1 : rs.getD (Int.toNat i) [] = rs[i] := by simp [List.getD_eq_getElem?_getD, hi']
      rw [e1]
      refine (hp h1 he _ (List.getElem_mem hi')).mono ?_
      rintro u h2 ⟨e2, rfl⟩
      rw [List.drop_eq_getElem_cons hi', firstIdx] at hk
      refine ⟨_, rfl, bool_split (fun ht => ?_) (fun hf => ?_)⟩
      · have := hk h2 (he.trans e2)
        rwa [if_pos ht] at this
      · rw [wsucc (by omega)]
        refine ih (i + 1) h2 K (by omega) (he.trans e2) fun h3 e3 => ?_
        have := hk h3 e3
        rwa [if_neg (by simp [hf])] at this
  exact loop l 0 h _ (by omega) (Ext.refl _) fun h2 e2 => ⟨e2, rfl⟩
theorem slices.ContainsFunc_SI_Round_I_Round.spec {A : Option Addr} {rs : List (List Int)} {l c : Nat} {f : FuncId} {caps : Array Value} {p : List Int → Bool} {h : Heap} (s : Rds h A rs) (hl : rs.length = l) (hb : l ≤ 1048576)
    (hp : ∀ h1, Ext h h1 → ∀ r ∈ rs, ACalls Try.prog f ([.agg (LM r).toArray] ++ caps.toList) h1 fun u h2 => Ext h1 h2 ∧ u = .bool (p r)) :
    ACalls Try.prog slices.ContainsFunc_SI_Round_I_Round.id [.slice A l c, .func (.func f) #[] caps] h fun u h2 => Ext h h2 ∧ u = .bool (rs.any p) := by
  refine slices.ContainsFunc_SI_Round_I_Round.step _ _ _ _ _ _ h ((slices.IndexFunc_SI_Round_I_Round.spec s hl hb hp).mono ?_)
  rintro u h2 ⟨e2, rfl⟩
  exact ⟨_, rfl, e2, by rw [firstIdx_any]⟩

theorem slices.IndexFunc_Sint64_int64.spec {A : Option Addr} {xs : List Int} {l c : Nat} {f : FuncId} {caps : Array Value} {p : Int → Bool} {h : Heap} (s : Ints h A xs) (hl : xs.length = l) (hb : l ≤ 1048576)
    (hp : ∀ h1, Ext h h1 → ∀ x ∈ xs, ACalls Try.prog f ([.int .i64 x] ++ caps.toList) h1 fun u h2 => Ext h1 h2 ∧ u = .bool (p x)) :
    ACalls Try.prog slices.IndexFunc_Sint64_int64.id [.slice A l c, .func (.func f) #[] caps] h fun u h2 => Ext h h2 ∧ u = .int .i64 (firstIdx p 0 xs) := by
  refine slices.IndexFunc_Sint64_int64.step _ _ _ _ _ _ h ?_
  have loop : ∀ (m i : Nat) (h1 : Heap) (K : Value → Heap → Prop), i + m = l → Ext h h1 → (∀ h2, Ext h h2 → K (.int .i64 (firstIdx p i (xs.drop i))) h2) →
      slices.IndexFunc_Sint64_int64.L0 K (.slice A l c) (.func (.func f) #[] caps) (.int .i64 l) (.int .i64 i) h1 := by
    intro m
    induction m with
    | zero =>
      intro i h1 K hi he hk
      refine slices.IndexFunc_Sint64_int64.L0_step K _ _ _ _ _ _ _ _ (dec_split (fun hc => by omega) (fun _ => ?_))
      have := hk h1 he
      rwa [List.drop_eq_nil_of_le (by omega)] at this
    | succ m ih =>
      intro i h1 K hi he hk
      have hi' : i < xs.length := by omega
      refine slices.IndexFunc_Sint64_int64.L0_step K _ _ _ _ _ _ _ _ (dec_split (fun hc => ?_) (fun hc => by omega))
      refine s.rd he hl (by omega) (by omega) ?_
      have e1 : xs.getD (Int.toNat i) 0 = xs[i] := by simp [List.getD_eq_getElem?_getD, hi']
      rw [e1]
      refine (hp h1 he _ (List.getElem_mem hi')).mono ?_
      rintro u h2 ⟨e2, rfl⟩
      rw [List.drop_eq_getElem_cons hi', firstIdx] at hk
      refine ⟨_, rfl, bool_split (fun ht => ?_) (fun hf => ?_)⟩
      · have := hk h2 (he.trans e2)
        rwa [if_pos ht] at this
      · rw [wsucc (by omega)]
        refine ih (i + 1) h2 K (by omega) (he.trans e2) fun h3 e3 => ?_
        have := hk h3 e3
        rwa [if_neg (by simp [hf])] at this
  exact loop l 0 h _ (by omega) (Ext.refl _) fun h2 e2 => ⟨e2, rfl⟩
theorem slices.ContainsFunc_Sint64_int64.spec {A : Option Addr} {xs : List Int} {l c : Nat} {f : FuncId} {caps : Array Value} {p : Int → Bool} {h : Heap} (s : Ints h A xs) (hl : xs.length = l) (hb : l ≤ 1048576)
    (hp : ∀ h1, Ext h h1 → ∀ x ∈ xs, ACalls Try.prog f ([.int .i64 x] ++ caps.toList) h1 fun u h2 => Ext h1 h2 ∧ u = .bool (p x)) :
    ACalls Try.prog slices.ContainsFunc_Sint64_int64.id [.slice A l c, .func (.func f) #[] caps] h fun u h2 => Ext h h2 ∧ u = .bool (xs.any p) := by
  refine slices.ContainsFunc_Sint64_int64.step _ _ _ _ _ _ h ((slices.IndexFunc_Sint64_int64.spec s hl hb hp).mono ?_)
  rintro u h2 ⟨e2, rfl⟩
  exact ⟨_, rfl, e2, by rw [firstIdx_any]⟩
theorem slices.Index_Sint64_int64.spec {A : Option Addr} {xs : List Int} {l c : Nat} {x : Int} {h hI : Heap} (s : Ints hI A xs) (e : Ext hI h) (hl : xs.length = l) (hb : l ≤ 1048576) :
    ACalls Try.prog slices.Index_Sint64_int64.id [.slice A l c, .int .i64 x] h fun u h2 => h2 = h ∧ u = .int .i64 (firstIdx (fun y => decide (x = y)) 0 xs) := by
  refine slices.Index_Sint64_int64.step _ _ _ _ _ h ?_
  have loop : ∀ (m i : Nat) (K : Value → Heap → Prop), i + m = l → (K (.int .i64 (firstIdx (fun y => decide (x = y)) i (xs.drop i))) h) →
      slices.Index_Sint64_int64.L0 K (.slice A l c) (.int .i64 x) (.int .i64 l) (.int .i64 i) h := by
    intro m
    induction m with
    | zero =>
      intro i K hi hk
      refine slices.Index_Sint64_int64.L0_step K _ _ _ _ _ _ _ (dec_split (fun hc => by omega) (fun _ => ?_))
      rwa [List.drop_eq_nil_of_le (by omega)] at hk
    | succ m ih =>
      intro i K hi hk
      have hi' : i < xs.length := by omega
      refine slices.Index_Sint64_int64.L0_step K _ _ _ _ _ _ _ (dec_split (fun hc => ?_) (fun hc => by omega))
      refine s.rd e hl (by omega) (by omega) ?_
      have e1 : xs.getD (Int.toNat i) 0 = xs[i] := by simp [List.getD_eq_getElem?_getD, hi']
      rw [e1]
      rw [List.drop_eq_getElem_cons hi', firstIdx] at hk
      refine dec_split (fun ht => ?_) (fun hf => ?_)
      · rwa [if_pos (by simpa using ht)] at hk
      · rw [wsucc (by omega)]
        refine ih (i + 1) K (by omega) ?_
        rwa [if_neg (by simpa using hf)] at hk
  exact loop l 0 _ (by omega) ⟨rfl, rfl⟩

end Go.Proofs.Ytbppeajpjnlobaa

/- Schedules, their pairs and their results. -/
set_option linter.unusedVariables false
set_option linter.unusedSimpArgs false
namespace Go.Proofs.Ytbppeajpjnlobaa
open Go.HL

def scheduleOk (n : Int) (rs : List (List Int)) : Bool := decide (2 ≤ n) && decide (n ≤ 14) && decide (rs.length ≤ 40) && rs.all (roundOk n)

theorem I.IsSchedule.c1.spec {n : Int} {r : List Int} (hr : r.length = 14) {h : Heap} {b : Nat} (hg : h.get b 0 = some (.int .i64 n)) :
    ACalls Try.prog I.IsSchedule.c1.id [.agg (LM r).toArray, .pointer (some ⟨b, 0, none⟩)] h fun u h2 => Ext h h2 ∧ u = .bool (!roundOk n r) := by
  refine I.IsSchedule.c1.step _ _ _ _ h fun b3 hf => ?_
  have e := Ext.upd hf (.cells (LM r))
  refine ⟨n, e.get hg, r, hr, getN_of (vs := LM r) (by simp [hr]) (fun i v hv => by simpa using hv), (I.IsRound.spec hr).mono ?_⟩
  rintro u h2 ⟨e2, rfl⟩
  exact ⟨_, rfl, e.trans e2, rfl⟩

theorem I.IsSchedule.spec {n : Int} {A : Option Addr} {rs : List (List Int)} {l c : Nat} {h : Heap} (s : Rds h A rs) (hl : rs.length = l) :
    ACalls Try.prog I.IsSchedule.id [.agg #[.int .i64 n, .slice A l c]] h fun u h2 => Ext h h2 ∧ u = .bool (scheduleOk n rs) := by
  refine I.IsSchedule.step _ _ _ _ _ h fun b hf => ⟨n, by simp, I.between.spec.mono ?_⟩
  rintro u h' ⟨rfl, rfl⟩
  have e := Ext.upd hf (.cells [.int .i64 n, .slice A l c])
  have hn : (h.upd b (.cells [.int .i64 n, .slice A l c])).get b 0 = some (.int .i64 n) := by simp
  have hs : (h.upd b (.cells [.int .i64 n, .slice A l c])).get b 1 = some (.slice A l c) := by simp
  generalize h.upd b (.cells [.int .i64 n, .slice A l c]) = h1 at *
  refine ⟨_, rfl, fun k9 hk9 => bool_split (fun ht => ⟨A, l, c, hs, hk9 _ _ ?_⟩) (fun ht => hk9 _ _ ?_)⟩
  · intro k13 hk13
    refine dec_split (fun hl40 => ⟨A, l, c, hs, ?_⟩) (fun hl40 => hk13 _ _ ⟨e, ?_⟩)
    · refine (slices.ContainsFunc_SI_Round_I_Round.spec (p := fun r => !roundOk n r) (s.mono e) hl (by omega) (fun h2 e2 r hr => I.IsSchedule.c1.spec (s.2 r hr) (e2.get hn))).mono ?_
      rintro u h2 ⟨e2, rfl⟩
      refine ⟨_, rfl, hk13 _ _ ⟨e.trans e2, ?_⟩⟩
      have : decide (rs.length ≤ 40) = true := by simp; omega
      rw [scheduleOk, ht, this, Bool.true_and, Bool.true_and, List.not_any_eq_all_not]
      simp
    · have : decide (rs.length ≤ 40) = false := by simp; omega
      rw [scheduleOk, this]; simp
  · intro k13 hk13
    refine bool_split (fun hh => by cases hh) (fun _ => hk13 _ _ ⟨e, ?_⟩)
    rw [scheduleOk, ht]; simp

theorem S.l01Is.spec {n : Int} {A : Option Addr} {rs : List (List Int)} {l c : Nat} {h : Heap} (s : Rds h A rs) (hl : rs.length = l) :
    ACalls Try.prog S.l01Is.id [.agg #[.int .i64 n, .slice A l c]] h fun u h2 => Ext h h2 ∧ u = .bool (scheduleOk n rs) := by
  refine S.l01Is.step _ _ _ _ _ h fun b hf => ⟨n, by simp, S.l01In.spec.mono ?_⟩
  rintro u h' ⟨rfl, rfl⟩
  have e := Ext.upd hf (.cells [.int .i64 n, .slice A l c])
  have hn : (h.upd b (.cells [.int .i64 n, .slice A l c])).get b (0 + 0) = some (.int .i64 n) := by simp
  have hs : (h.upd b (.cells [.int .i64 n, .slice A l c])).get b (0 + 1) = some (.slice A l c) := by simp
  generalize h.upd b (.cells [.int .i64 n, .slice A l c]) = h1 at *
  refine ⟨_, rfl, fun k9 hk9 => nbool_split (fun ht => hk9 _ _ (bool_split (fun _ => ⟨e, by rw [scheduleOk, ht]; simp⟩) (fun hh => by cases hh))) (fun ht => ⟨A, l, c, hs, hk9 _ _ (dec_split (fun h40 => ⟨e, ?_⟩) (fun h40 => ?_))⟩)⟩
  · have : decide (rs.length ≤ 40) = false := by simp; omega
    rw [scheduleOk, this]; simp
  have h40' : decide (rs.length ≤ 40) = true := by simp; omega
  rw [scheduleOk, ht, h40', Bool.true_and, Bool.true_and]
  have loop : ∀ (m i : Nat) (h2 : Heap) (K : Value → Heap → Prop), i + m = l → Ext h1 h2 → (∀ h3, Ext h1 h3 → K (.bool ((rs.drop i).all (roundOk n))) h3) → S.l01Is.L0 K (.pointer (some ⟨b, 0, none⟩)) (.int .i64 i) h2 := by
    intro m
    induction m with
    | zero =>
      intro i h2 K hi he hk
      refine S.l01Is.L0_step K _ _ _ _ ⟨A, l, c, he.get hs, dec_split (fun hc => by omega) (fun _ => ?_)⟩
      have := hk h2 he
      rwa [List.drop_eq_nil_of_le (by omega)] at this
    | succ m ih =>
      intro i h2 K hi he hk
      have hi' : i < rs.length := by omega
      refine S.l01Is.L0_step K _ _ _ _ ⟨A, l, c, he.get hs, dec_split (fun hc => ⟨n, he.get hn, A, l, c, he.get hs, ?_⟩) (fun hc => by omega)⟩
      refine s.rd (e.trans he) hl (by omega) (by omega) fun h14 => ?_
      have e1 : rs.getD (Int.toNat i) [] = rs[i] := by simp [List.getD_eq_getElem?_getD, hi']
      rw [e1] at h14 ⊢
      refine (S.l01Round.spec h14).mono ?_
      rintro u h3 ⟨e3, rfl⟩
      rw [List.drop_eq_getElem_cons hi', List.all_cons] at hk
      refine ⟨_, rfl, nbool_split (fun hf => ?_) (fun ht => ?_)⟩
      · have := hk h3 (he.trans e3)
        rwa [hf, Bool.false_and] at this
      · rw [wsucc (by omega)]
        refine ih (i + 1) h3 K (by omega) (he.trans e3) fun h4 e4 => ?_
        have := hk h4 e4
        rwa [ht, Bool.true_and] at this
  have := loop l 0 h1 (fun u h2 => Ext h h2 ∧ u = .bool (rs.all (roundOk n))) (by omega) (Ext.refl _) fun h3 e3 => ⟨e.trans e3, by simp⟩
  exact this

/-- The pairs of a round of n teams. -/
def pairsFrom (r : List Int) : Nat → Nat → List (List Int)
  | _, 0 => []
  | a, m + 1 => if (a : Int) < r.getD a 0 then [(a : Int), r.getD a 0] :: pairsFrom r (a + 1) m else pairsFrom r (a + 1) m
def pairsOf (n : Int) (r : List Int) : List (List Int) := pairsFrom r 0 n.toNat

/-- Rows that stand in a list. -/
def Each (h : Heap) (vs : List Value) (xss : List (List Int)) : Prop := vs.length = xss.length ∧ ∀ (i : Nat) (v : Value) (xs : List Int), vs[i]? = some v → xss[i]? = some xs → IsInts h v xs
theorem Each.nil (h : Heap) : Each h [] [] := ⟨rfl, fun i v xs a => by simp at a⟩
theorem Each.mono {h h' : Heap} {vs : List Value} {xss : List (List Int)} (e : Ext h h') (s : Each h vs xss) : Each h' vs xss := ⟨s.1, fun i v xs a b => (s.2 i v xs a b).mono e⟩
theorem Each.snoc {h : Heap} {vs : List Value} {xss : List (List Int)} {v : Value} {xs : List Int} (s : Each h vs xss) (hv : IsInts h v xs) : Each h (vs ++ [v]) (xss ++ [xs]) := by
  refine ⟨by simp [s.1], fun i u ys ha hb => ?_⟩
  rw [List.getElem?_append] at ha hb
  rw [s.1] at ha
  split at ha
  · rename_i hi; rw [if_pos hi] at hb; exact s.2 i u ys ha hb
  · rename_i hi
    rw [if_neg hi] at hb
    have hj : i - xss.length = 0 := by
      have := (List.getElem?_eq_some_iff.1 ha).1
      simp at this; omega
    rw [hj] at ha hb
    simp at ha hb
    subst ha hb
    exact hv
theorem Each.tab {h : Heap} {A : Option Addr} {vs : List Value} {xss : List (List Int)} (s : Each h vs xss) (hs : Seg h A vs) : Tab h A xss := ⟨vs, hs, s.1, s.2⟩

theorem I.Round.pairs.spec {n : Int} {r : List Int} (hr : r.length = 14) (h0 : 0 ≤ n) (h14 : n ≤ 14) {h : Heap} :
    ACalls Try.prog I.Round.pairs.id [.agg (LM r).toArray, .int .i64 n] h fun u h2 => Ext h h2 ∧ ∃ A c, u = .slice A (pairsOf n r).length c ∧ Tab h2 A (pairsOf n r) := by
  refine I.Round.pairs.step _ _ _ h fun b hf b5 hf5 => ?_
  have loop : ∀ (m a : Nat) (hI h' : Heap) (A : Option Addr) (l c : Nat) (vs : List Value) (xss : List (List Int)), (a : Int) + m = n → Ext (h.upd b (.cells (LM r))) hI → Vec hI h' A l c 1 vs → Each hI vs xss → l ≤ a → xss ++ pairsFrom r a m = pairsOf n r →
      I.Round.pairs.L0 (fun u h2 => Ext h h2 ∧ ∃ A c, u = .slice A (pairsOf n r).length c ∧ Tab h2 A (pairsOf n r)) (.pointer (some ⟨b, 0, none⟩)) (.slice A l c) (.int .i64 n) (.int .i64 a) h' := by
    intro m
    induction m with
    | zero =>
      intro a hI h' A l c vs xss ha he v hE hla hx
      refine I.Round.pairs.L0_step _ _ _ _ _ _ _ _ _ (dec_split (fun hc => by omega) (fun _ => ⟨(Ext.upd hf _).trans (he.trans v.ext), A, c, ?_, ?_⟩))
      · rw [← hx, pairsFrom, List.append_nil, ← hE.1, v.len, Nat.mul_one]
      · rw [← hx, pairsFrom, List.append_nil]; exact (hE.mono v.ext).tab v.seg
    | succ m ih =>
      intro a hI h' A l c vs xss ha he v hE hla hx
      have hget : ∀ h2, Ext (h.upd b (.cells (LM r))) h2 → h2.get b (0 + Int.toNat (a : Int) * 1) = some (.int .i64 (r.getD a 0)) := fun h2 e2 => e2.get (rd14n hr (fun i v hv => by simpa using hv) (by omega))
      refine I.Round.pairs.L0_step _ _ _ _ _ _ _ _ _ (dec_split (fun hc => ⟨⟨by omega, by omega⟩, _, hget _ (he.trans v.ext), ?_⟩) (fun hc => by omega))
      rw [wsucc (by omega)]
      refine dec_split (fun hlt => ⟨⟨by omega, by omega⟩, _, hget _ (he.trans v.ext), ?_⟩) (fun hge => ?_)
      · intro b14 hf14 b16 hf16
        obtain ⟨v1, f1⟩ := v.beside hf14 (.cells [.int .i64 a, .int .i64 (r.getD a 0)])
        obtain ⟨v2, f2⟩ := v1.beside hf16 (.cells [.slice (some ⟨b14, 0, none⟩) 2 2])
        have e1 := Ext.upd f1 (.cells [.int .i64 a, .int .i64 (r.getD a 0)])
        have e2 := Ext.upd f2 (.cells [.slice (some ⟨b14, 0, none⟩) 2 2])
        refine v2.append (m := 1) (news := [.slice (some ⟨b14, 0, none⟩) 2 2]) ?_ rfl (by simp [Value.oneCell']) (by omega) (by omega) rfl fun hJ h3 A' c' eJ v3 => ?_
        · exact Seg.row (Seg.new' _ _ _) rfl
        refine ⟨A', l + 1, c', rfl, ih (a + 1) hJ h3 A' (l + 1) c' _ (xss ++ [[(a : Int), r.getD a 0]]) (by omega) (he.trans (e1.trans (e2.trans eJ))) v3 ?_ (by omega) ?_⟩
        · refine Each.snoc (hE.mono (e1.trans (e2.trans eJ))) ⟨_, 2, rfl, ?_, by simp⟩
          exact Seg.mono (e2.trans eJ) (Seg.new' _ _ _)
        · rw [← hx, pairsFrom, if_pos hlt]; simp
      · refine ih (a + 1) hI h' A l c vs xss (by omega) he v hE (by omega) ?_
        rw [← hx, pairsFrom, if_neg hge]
  have e1 := Ext.upd hf (.cells (LM r))
  refine loop n.toNat 0 _ _ _ 0 0 [] [] (by omega) (Ext.refl _) (Vec.made hf5 (by simp)) (Each.nil _) (Nat.le_refl _) rfl

end Go.Proofs.Ytbppeajpjnlobaa

/- Results of schedules, as both tell them. -/
set_option linter.unusedVariables false
set_option linter.unusedSimpArgs false
namespace Go.Proofs.Ytbppeajpjnlobaa
open Go.HL

theorem S.l01Pairs.spec {n : Int} {r : List Int} (hr : r.length = 14) (h0 : 0 ≤ n) (h14 : n ≤ 14) {h : Heap} :
    ACalls Try.prog S.l01Pairs.id [.int .i64 n, .agg (LM r).toArray] h fun u h2 => Ext h h2 ∧ ∃ A c, u = .slice A (pairsOf n r).length c ∧ Tab h2 A (pairsOf n r) := by
  refine S.l01Pairs.step _ _ _ h fun b hf b5 hf5 => ?_
  have loop : ∀ (m a : Nat) (hI h' : Heap) (A : Option Addr) (l c : Nat) (vs : List Value) (xss : List (List Int)), (a : Int) + m = n → Ext (h.upd b (.cells (LM r))) hI → Vec hI h' A l c 1 vs → Each hI vs xss → l ≤ a → xss ++ pairsFrom r a m = pairsOf n r →
      S.l01Pairs.L0 (fun u h2 => Ext h h2 ∧ ∃ A c, u = .slice A (pairsOf n r).length c ∧ Tab h2 A (pairsOf n r)) (.int .i64 n) (.pointer (some ⟨b, 0, none⟩)) (.slice A l c) (.int .i64 a) h' := by
    intro m
    induction m with
    | zero =>
      intro a hI h' A l c vs xss ha he v hE hla hx
      refine S.l01Pairs.L0_step _ _ _ _ _ _ _ _ _ (dec_split (fun hc => by omega) (fun _ => ⟨(Ext.upd hf _).trans (he.trans v.ext), A, c, ?_, ?_⟩))
      · rw [← hx, pairsFrom, List.append_nil, ← hE.1, v.len, Nat.mul_one]
      · rw [← hx, pairsFrom, List.append_nil]; exact (hE.mono v.ext).tab v.seg
    | succ m ih =>
      intro a hI h' A l c vs xss ha he v hE hla hx
      have hget : ∀ h2, Ext (h.upd b (.cells (LM r))) h2 → h2.get b (0 + Int.toNat (a : Int) * 1) = some (.int .i64 (r.getD a 0)) := fun h2 e2 => e2.get (rd14n hr (fun i v hv => by simpa using hv) (by omega))
      refine S.l01Pairs.L0_step _ _ _ _ _ _ _ _ _ (dec_split (fun hc => ⟨⟨by omega, by omega⟩, _, hget _ (he.trans v.ext), ?_⟩) (fun hc => by omega))
      rw [wsucc (by omega)]
      refine dec_split (fun hlt => ⟨⟨by omega, by omega⟩, _, hget _ (he.trans v.ext), ?_⟩) (fun hge => ?_)
      · intro b14 hf14 b16 hf16
        obtain ⟨v1, f1⟩ := v.beside hf14 (.cells [.int .i64 a, .int .i64 (r.getD a 0)])
        obtain ⟨v2, f2⟩ := v1.beside hf16 (.cells [.slice (some ⟨b14, 0, none⟩) 2 2])
        have e1 := Ext.upd f1 (.cells [.int .i64 a, .int .i64 (r.getD a 0)])
        have e2 := Ext.upd f2 (.cells [.slice (some ⟨b14, 0, none⟩) 2 2])
        refine v2.append (m := 1) (news := [.slice (some ⟨b14, 0, none⟩) 2 2]) ?_ rfl (by simp [Value.oneCell']) (by omega) (by omega) rfl fun hJ h3 A' c' eJ v3 => ?_
        · exact Seg.row (Seg.new' _ _ _) rfl
        refine ⟨A', l + 1, c', rfl, ih (a + 1) hJ h3 A' (l + 1) c' _ (xss ++ [[(a : Int), r.getD a 0]]) (by omega) (he.trans (e1.trans (e2.trans eJ))) v3 ?_ (by omega) ?_⟩
        · refine Each.snoc (hE.mono (e1.trans (e2.trans eJ))) ⟨_, 2, rfl, ?_, by simp⟩
          exact Seg.mono (e2.trans eJ) (Seg.new' _ _ _)
        · rw [← hx, pairsFrom, if_pos hlt]; simp
      · refine ih (a + 1) hI h' A l c vs xss (by omega) he v hE (by omega) ?_
        rw [← hx, pairsFrom, if_neg hge]
  have e1 := Ext.upd hf (.cells (LM r))
  refine loop n.toNat 0 _ _ _ 0 0 [] [] (by omega) (Ext.refl _) (Vec.made hf5 (by simp)) (Each.nil _) (Nat.le_refl _) rfl


theorem I.Schedule.areResults.c1.spec {x : Int} {h : Heap} : ACalls Try.prog I.Schedule.areResults.c1.id [.int .i64 x] h fun u h2 => Ext h h2 ∧ u = .bool (!(decide (0 ≤ x) && decide (x ≤ 2))) := by
  refine I.Schedule.areResults.c1.step _ _ _ (I.between.spec.mono ?_)
  rintro u h2 ⟨rfl, rfl⟩
  exact ⟨_, rfl, Ext.refl _, rfl⟩

def resOk (x : Int) : Bool := decide (0 ≤ x) && decide (x ≤ 2)
def rowOk (n : Int) (r xs : List Int) : Bool := decide (xs.length = (pairsOf n r).length) && xs.all resOk
def rowsOk (n : Int) : List (List Int) → List (List Int) → Bool
  | _, [] => true
  | [], _ :: _ => false
  | r :: rs, xs :: xss => rowOk n r xs && rowsOk n rs xss
def resultsOk (n : Int) (rs xss : List (List Int)) : Bool := decide (xss.length ≤ rs.length) && rowsOk n rs xss

theorem rowsOk_step {n : Int} {rs xss : List (List Int)} {i : Nat} (hi : i < xss.length) (hl : xss.length ≤ rs.length) :
    rowsOk n (rs.drop i) (xss.drop i) = (rowOk n (rs.getD i []) (xss.getD i []) && rowsOk n (rs.drop (i + 1)) (xss.drop (i + 1))) := by
  have hi' : i < rs.length := by omega
  rw [List.drop_eq_getElem_cons hi, List.drop_eq_getElem_cons hi', rowsOk]
  simp [List.getD_eq_getElem?_getD, hi, hi']

theorem any_res (xs : List Int) : (xs.any fun x => !(decide (0 ≤ x) && decide (x ≤ 2))) = !xs.all resOk := by
  rw [List.not_all_eq_any_not]; rfl

theorem I.Schedule.areResults.spec {n : Int} {A B : Option Addr} {rs xss : List (List Int)} {l c m d : Nat} {h : Heap} (s : Rds h A rs) (hl : rs.length = l) (hb : l ≤ 40) (h0 : 0 ≤ n) (h14 : n ≤ 14) (x : Tab h B xss) (hm : xss.length = m) (hx : ∀ xs ∈ xss, xs.length ≤ 1048576) :
    ACalls Try.prog I.Schedule.areResults.id [.agg #[.int .i64 n, .slice A l c], .slice B m d] h fun u h2 => Ext h h2 ∧ u = .bool (resultsOk n rs xss) := by
  refine I.Schedule.areResults.step _ _ _ _ _ _ _ _ h fun b hf => ⟨A, l, c, by simp, dec_split (fun hc => ⟨Ext.upd hf _, ?_⟩) (fun hc => ?_)⟩
  · have : decide (xss.length ≤ rs.length) = false := by simp; omega
    rw [resultsOk, this]; rfl
  have hml : xss.length ≤ rs.length := by omega
  have e := Ext.upd hf (.cells [.int .i64 n, .slice A l c])
  have hn : (h.upd b (.cells [.int .i64 n, .slice A l c])).get b (0 + 0) = some (.int .i64 n) := by simp
  have hs : (h.upd b (.cells [.int .i64 n, .slice A l c])).get b (0 + 1) = some (.slice A l c) := by simp
  generalize h.upd b (.cells [.int .i64 n, .slice A l c]) = h1 at *
  have e0 : resultsOk n rs xss = rowsOk n rs xss := by rw [resultsOk, decide_eq_true hml]; rfl
  rw [e0]
  have loop : ∀ (k i : Nat) (h2 : Heap) (K : Value → Heap → Prop), i + k = m → Ext h1 h2 → (∀ h3, Ext h1 h3 → K (.bool (rowsOk n (rs.drop i) (xss.drop i))) h3) →
      I.Schedule.areResults.L0 K (.pointer (some ⟨b, 0, none⟩)) (.slice B m d) (.int .i64 m) (.int .i64 i) h2 := by
    intro k
    induction k with
    | zero =>
      intro i h2 K hi he hk
      refine I.Schedule.areResults.L0_step K _ _ _ _ _ _ _ _ (dec_split (fun hc => by omega) (fun _ => ?_))
      have := hk h2 he
      have e9 : xss.drop i = [] := List.drop_eq_nil_of_le (by omega)
      rw [e9] at this
      cases hd : rs.drop i <;> rw [hd] at this <;> exact this
    | succ k ih =>
      intro i h2 K hi he hk
      have hi' : i < xss.length := by omega
      rw [rowsOk_step hi' hml] at hk
      refine I.Schedule.areResults.L0_step K _ _ _ _ _ _ _ _ (dec_split (fun hc => ?_) (fun hc => by omega))
      refine x.rd (e.trans he) hm (by omega) (by omega) fun C d2 hC hd2 => ⟨A, l, c, he.get hs, ?_⟩
      refine s.rd (e.trans he) hl (by omega) (by omega) fun hr14 => ⟨n, he.get hn, (I.Round.pairs.spec hr14 h0 h14).mono ?_⟩
      rintro u h3 ⟨e3, P, cP, rfl, hP⟩
      rw [Int.toNat_natCast] at *
      have next : ∀ h4, Ext h1 h4 → rowOk n (rs.getD i []) (xss.getD i []) = true → I.Schedule.areResults.L0 K (.pointer (some ⟨b, 0, none⟩)) (.slice B m d) (.int .i64 m) (.int .i64 (IntKind.wrap .i64 (i + (1 : Int)))) h4 := by
        intro h4 e4 ho
        rw [wsucc (by omega)]
        refine ih (i + 1) h4 K (by omega) e4 fun h5 e5 => ?_
        have := hk h5 e5
        rwa [ho, Bool.true_and] at this
      have stop : ∀ h4, Ext h1 h4 → rowOk n (rs.getD i []) (xss.getD i []) = false → K (.bool false) h4 := by
        intro h4 e4 ho
        have := hk h4 e4
        rwa [ho, Bool.false_and] at this
      refine ⟨P, _, cP, rfl, fun k23 hk23 => ndec_split (fun hne => hk23 _ _ (bool_split (fun _ => stop _ (he.trans e3) ?_) (fun hh => by cases hh))) (fun heq => ?_)⟩
      · have : decide ((xss.getD i []).length = (pairsOf n (rs.getD i [])).length) = false := by simp only [decide_eq_false_iff_not]; omega
        rw [rowOk, this]; rfl
      · have hlen : decide ((xss.getD i []).length = (pairsOf n (rs.getD i [])).length) = true := by simp only [decide_eq_true_eq]; omega
        have hmem : xss.getD i [] ∈ xss := by rw [List.getD_eq_getElem?_getD, List.getElem?_eq_getElem hi']; exact List.getElem_mem hi'
        refine (slices.ContainsFunc_Sint64_int64.spec (hC.mono ((e.trans he).trans e3)) rfl (hx _ hmem) (fun h4 e4 y hy => I.Schedule.areResults.c1.spec)).mono ?_
        rintro u h4 ⟨e4, rfl⟩
        rw [any_res]
        refine ⟨_, rfl, hk23 _ _ (nbool_split (fun hh => stop _ ((he.trans e3).trans e4) (by rw [rowOk, hlen, hh]; rfl)) (fun hh => next _ ((he.trans e3).trans e4) (by rw [rowOk, hlen, hh]; rfl)))⟩
  exact loop m 0 h1 _ (by omega) (Ext.refl _) fun h3 e3 => ⟨e.trans e3, by simp⟩

end Go.Proofs.Ytbppeajpjnlobaa

/- The codes of schedules with results. -/
set_option linter.unusedVariables false
set_option linter.unusedSimpArgs false
namespace Go.Proofs.Ytbppeajpjnlobaa
open Go.HL

theorem S.l10Is.spec {n : Int} {A B : Option Addr} {rs xss : List (List Int)} {l c m d : Nat} {h : Heap} (s : Rds h A rs) (hl : rs.length = l) (hb : l ≤ 40) (h0 : 0 ≤ n) (h14 : n ≤ 14) (x : Tab h B xss) (hm : xss.length = m) (hx : ∀ xs ∈ xss, xs.length ≤ 1048576) :
    ACalls Try.prog S.l10Is.id [.agg #[.int .i64 n, .slice A l c], .slice B m d] h fun u h2 => Ext h h2 ∧ u = .bool (resultsOk n rs xss) := by
  refine S.l10Is.step _ _ _ _ _ _ _ _ h fun b hf => ⟨A, l, c, by simp, dec_split (fun hc => ⟨Ext.upd hf _, ?_⟩) (fun hc => ?_)⟩
  · have : decide (xss.length ≤ rs.length) = false := by simp; omega
    rw [resultsOk, this]; rfl
  have hml : xss.length ≤ rs.length := by omega
  have e := Ext.upd hf (.cells [.int .i64 n, .slice A l c])
  have hn : (h.upd b (.cells [.int .i64 n, .slice A l c])).get b (0 + 0) = some (.int .i64 n) := by simp
  have hs : (h.upd b (.cells [.int .i64 n, .slice A l c])).get b (0 + 1) = some (.slice A l c) := by simp
  generalize h.upd b (.cells [.int .i64 n, .slice A l c]) = h1 at *
  have e0 : resultsOk n rs xss = rowsOk n rs xss := by rw [resultsOk, decide_eq_true hml]; rfl
  rw [e0]
  -- the rows' own loop
  have inner : ∀ (i : Nat) (hi : i < xss.length) (K : Value → Heap → Prop) (k j : Nat) (h2 : Heap), j + k = (xss.getD i []).length → Ext h1 h2 →
      (∀ h3, Ext h1 h3 → ((xss.getD i []).drop j).all resOk = false → K (.bool false) h3) →
      (∀ h3, Ext h1 h3 → ((xss.getD i []).drop j).all resOk = true → S.l10Is.L0 K (.slice B m d) (.pointer (some ⟨b, 0, none⟩)) (.int .i64 ((i + 1 : Nat) : Int)) h3) →
      S.l10Is.L1 K (.slice B m d) (.pointer (some ⟨b, 0, none⟩)) (.int .i64 i) (.int .i64 j) h2 := by
    intro i hi K k
    induction k with
    | zero =>
      intro j h2 hj he hkf hkt
      refine S.l10Is.L1_step K _ _ _ _ _ _ _ _ (x.rd (e.trans he) hm (by omega) (by omega) fun C d2 hC hd2 => dec_split (fun hc => by rw [Int.toNat_natCast] at hc; omega) (fun _ => ?_))
      rw [wsucc (by omega)]
      exact hkt h2 he (by rw [List.drop_eq_nil_of_le (by omega)]; rfl)
    | succ k ih =>
      intro j h2 hj he hkf hkt
      have hj' : j < (xss.getD i []).length := by omega
      have hmem : xss.getD i [] ∈ xss := by rw [List.getD_eq_getElem?_getD, List.getElem?_eq_getElem hi]; exact List.getElem_mem hi
      have hbig := hx _ hmem
      refine S.l10Is.L1_step K _ _ _ _ _ _ _ _ (x.rd (e.trans he) hm (by omega) (by omega) fun C d2 hC hd2 => dec_split (fun hc => ?_) (fun hc => by rw [Int.toNat_natCast] at hc; omega))
      refine x.rd (e.trans he) hm (by omega) (by omega) fun C d2 hC hd2 => ?_
      rw [Int.toNat_natCast] at hC hd2 ⊢
      refine hC.rd (e.trans he) rfl (by omega) (by omega) (S.l01In.spec.mono ?_)
      rintro u h3 ⟨rfl, rfl⟩
      have e1 : (xss.getD i []).getD (Int.toNat j) 0 = (xss.getD i [])[j] := by rw [Int.toNat_natCast, List.getD_eq_getElem?_getD, List.getElem?_eq_getElem hj']; rfl
      rw [e1]
      rw [List.drop_eq_getElem_cons hj', List.all_cons] at hkf hkt
      refine ⟨_, rfl, nbool_split (fun hf => hkf h3 he (by rw [resOk, hf]; rfl)) (fun ht => ?_)⟩
      rw [wsucc (by omega)]
      have ho : resOk (xss.getD i [])[j] = true := ht
      rw [ho, Bool.true_and] at hkf hkt
      exact ih (j + 1) h3 (by omega) he hkf hkt
  have loop : ∀ (k i : Nat) (h2 : Heap) (K : Value → Heap → Prop), i + k = m → Ext h1 h2 → (∀ h3, Ext h1 h3 → K (.bool (rowsOk n (rs.drop i) (xss.drop i))) h3) →
      S.l10Is.L0 K (.slice B m d) (.pointer (some ⟨b, 0, none⟩)) (.int .i64 i) h2 := by
    intro k
    induction k with
    | zero =>
      intro i h2 K hi he hk
      refine S.l10Is.L0_step K _ _ _ _ _ _ _ (dec_split (fun hc => by omega) (fun _ => ?_))
      have := hk h2 he
      have e9 : xss.drop i = [] := List.drop_eq_nil_of_le (by omega)
      rw [e9] at this
      cases hd : rs.drop i <;> rw [hd] at this <;> exact this
    | succ k ih =>
      intro i h2 K hi he hk
      have hi' : i < xss.length := by omega
      rw [rowsOk_step hi' hml] at hk
      refine S.l10Is.L0_step K _ _ _ _ _ _ _ (dec_split (fun hc => ?_) (fun hc => by omega))
      -- the row is read again behind the call
      have hre : ∀ h4, Ext h1 h4 → ∀ {bb oo : Nat} {v : Value}, h2.get bb oo = some v → Ext h2 h4 → h4.get bb oo = some v := fun h4 _ bb oo v hg e4 => e4.get hg
      obtain ⟨vs, s1, s2, s3⟩ := x
      have hi2 : i < vs.length := by omega
      obtain ⟨bb, oo, hA, hgg⟩ := Seg.open s1 (by omega)
      obtain ⟨C, d2, hv, hC, hd2⟩ := s3 i vs[i] xss[i] (List.getElem?_eq_getElem hi2) (List.getElem?_eq_getElem hi')
      have hgi : ∀ h4, Ext h h4 → h4.get bb (oo + Int.toNat (i : Int) * 1) = some (.slice C xss[i].length d2) := fun h4 e4 => by
        rw [Int.toNat_natCast, Nat.mul_one, ← hv]
        exact e4.get (hgg i _ (List.getElem?_eq_getElem hi2))
      refine ⟨bb, oo, hA, ⟨by omega, by omega⟩, C, _, d2, hgi _ (e.trans he), n, he.get hn, A, l, c, he.get hs, ?_⟩
      refine s.rd (e.trans he) hl (by omega) (by omega) fun hr14 => (S.l01Pairs.spec hr14 h0 h14).mono ?_
      rintro u h3 ⟨e3, P, cP, rfl, hP⟩
      have ex : xss.getD i [] = xss[i] := by rw [List.getD_eq_getElem?_getD, List.getElem?_eq_getElem hi']; rfl
      rw [Int.toNat_natCast]
      refine ⟨P, _, cP, rfl, hgi _ ((e.trans he).trans e3), ndec_split (fun hne => ?_) (fun heq => ?_)⟩
      · have h5 := hk h3 (he.trans e3)
        have : decide (xss[i].length = (pairsOf n (rs.getD i [])).length) = false := by simp only [decide_eq_false_iff_not]; omega
        rw [ex, rowOk, this, Bool.false_and, Bool.false_and] at h5
        exact h5
      · have hlen : decide (xss[i].length = (pairsOf n (rs.getD i [])).length) = true := by simp only [decide_eq_true_eq]; omega
        refine inner i hi' K (xss.getD i []).length 0 h3 (by omega) (he.trans e3) (fun h4 e4 ho => ?_) (fun h4 e4 ho => ?_)
        · have h5 := hk h4 e4
          rw [rowOk] at h5
          rw [List.drop_zero] at ho
          rw [ho, Bool.and_false, Bool.false_and] at h5
          exact h5
        · refine ih (i + 1) h4 K (by omega) e4 fun h5 e5 => ?_
          have h6 := hk h5 e5
          rw [List.drop_zero] at ho
          rw [rowOk, ho, ex, hlen, Bool.true_and, Bool.true_and] at h6
          exact h6
  exact loop m 0 h1 _ (by omega) (Ext.refl _) fun h3 e3 => ⟨e.trans e3, by simp⟩

theorem I.always.spec {h : Heap} : ACalls Try.prog I.always.id [] h fun u h2 => Ext h h2 ∧ u = .bool true := I.always.step _ h ⟨Ext.refl _, rfl⟩
def hasTeam (n a : Int) : Bool := decide (0 ≤ a) && decide (a ≤ n - 1)
theorem I.Schedule.hasTeam.spec {n a : Int} {A : Option Addr} {l c : Nat} {h : Heap} (h0 : 0 ≤ n) (h14 : n ≤ 14) :
    ACalls Try.prog I.Schedule.hasTeam.id [.agg #[.int .i64 n, .slice A l c], .int .i64 a] h fun u h2 => Ext h h2 ∧ u = .bool (hasTeam n a) := by
  refine I.Schedule.hasTeam.step _ _ _ _ _ _ h fun b hf => ⟨n, by simp, ?_⟩
  rw [w64 (by omega) (by omega)]
  refine I.between.spec.mono ?_
  rintro u h2 ⟨rfl, rfl⟩
  exact ⟨_, rfl, Ext.upd hf _, rfl⟩

/-- The code of a schedule. -/
def schedCode (n : Int) (rs : List (List Int)) (right : Bool) : Int := if scheduleOk n rs then (if right then 0 else 2) else 1
theorem scheduleOk_facts {n : Int} {rs : List (List Int)} (h : scheduleOk n rs = true) : 2 ≤ n ∧ n ≤ 14 ∧ rs.length ≤ 40 ∧ ∀ r ∈ rs, roundOk n r = true := by
  simp only [scheduleOk, Bool.and_eq_true, decide_eq_true_eq, List.all_eq_true] at h
  exact ⟨h.1.1.1, h.1.1.2, h.1.2, h.2⟩

theorem I.scheduleCode.spec {n : Int} {A : Option Addr} {rs : List (List Int)} {l c : Nat} {f : FuncId} {caps : Array Value} {right : Bool} {h : Heap} (s : Rds h A rs) (hl : rs.length = l)
    (hr : scheduleOk n rs = true → ∀ h1, Ext h h1 → ACalls Try.prog f ([] ++ caps.toList) h1 fun u h2 => Ext h1 h2 ∧ u = .bool right) :
    ACalls Try.prog I.scheduleCode.id [.agg #[.int .i64 n, .slice A l c], .func (.func f) #[] caps] h fun u h2 => Ext h h2 ∧ u = .int .i64 (schedCode n rs right) := by
  refine I.scheduleCode.step _ _ _ _ _ _ _ h fun b hf => ⟨n, A, l, c, by simp [Heap.getN], ?_⟩
  have e := Ext.upd hf (.cells [.int .i64 n, .slice A l c])
  refine (I.IsSchedule.spec (s.mono e) hl).mono ?_
  rintro u h2 ⟨e2, rfl⟩
  refine ⟨_, rfl, nbool_split (fun hf => ⟨e.trans e2, by rw [schedCode, hf]; rfl⟩) (fun ht => (hr ht h2 (e.trans e2)).mono ?_)⟩
  rintro u h3 ⟨e3, rfl⟩
  have e4 := (e.trans e2).trans e3
  refine ⟨_, rfl, nbool_split (fun hf => ⟨e4, by rw [schedCode, ht, hf]; rfl⟩) (fun ht2 => ⟨e4, by rw [schedCode, ht, ht2]; rfl⟩)⟩

theorem I.resultsCode.spec {n : Int} {A B : Option Addr} {rs xss : List (List Int)} {l c m d : Nat} {f : FuncId} {caps : Array Value} {right : Bool} {h : Heap} (s : Rds h A rs) (hl : rs.length = l) (x : Tab h B xss) (hm : xss.length = m) (hx : ∀ xs ∈ xss, xs.length ≤ 1048576)
    (hr : scheduleOk n rs = true → ∀ h1, Ext h h1 → ACalls Try.prog f ([] ++ caps.toList) h1 fun u h2 => Ext h1 h2 ∧ u = .bool right) :
    ACalls Try.prog I.resultsCode.id [.agg #[.int .i64 n, .slice A l c], .slice B m d, .func (.func f) #[] caps] h fun u h2 => Ext h h2 ∧ u = .int .i64 (schedCode n rs (resultsOk n rs xss && right)) := by
  refine I.resultsCode.step _ _ _ _ _ _ _ _ _ _ h fun b5 hf5 b7 hf7 b9 hf9 => ?_
  have e5 := Ext.upd hf5 (.cells [.int .i64 n, .slice A l c])
  have e7 := Ext.upd hf7 (.cells [.slice B m d])
  have e9 := Ext.upd hf9 (.cells [.func (.func f) #[] caps])
  have n75 := fresh_ne hf7
  have n97 := fresh_ne hf9
  have n95 := fresh_ne (fresh_of_upd hf9)
  have g5 := (((h.upd b5 (.cells [.int .i64 n, .slice A l c])).upd b7 (.cells [.slice B m d])).upd b9 (.cells [.func (.func f) #[] caps]))
  have hg5 : (((h.upd b5 (.cells [.int .i64 n, .slice A l c])).upd b7 (.cells [.slice B m d])).upd b9 (.cells [.func (.func f) #[] caps])).getN b5 0 2 = some [.int .i64 n, .slice A l c] := by
    simp [Heap.getN, Ne.symm n75, Ne.symm n95]
  have hg7 : (((h.upd b5 (.cells [.int .i64 n, .slice A l c])).upd b7 (.cells [.slice B m d])).upd b9 (.cells [.func (.func f) #[] caps])).get b7 0 = some (.slice B m d) := by
    simp [Ne.symm n97]
  have hg9 : (((h.upd b5 (.cells [.int .i64 n, .slice A l c])).upd b7 (.cells [.slice B m d])).upd b9 (.cells [.func (.func f) #[] caps])).get b9 0 = some (.func (.func f) #[] caps) := by
    simp
  have e := (e5.trans e7).trans e9
  generalize (((h.upd b5 (.cells [.int .i64 n, .slice A l c])).upd b7 (.cells [.slice B m d])).upd b9 (.cells [.func (.func f) #[] caps])) = h1 at *
  refine ⟨n, A, l, c, hg5, (I.scheduleCode.spec (right := resultsOk n rs xss && right) (s.mono e) hl fun hok h2 e2 => ?_).mono ?_⟩
  · obtain ⟨k1, k2, k3, _⟩ := scheduleOk_facts hok
    refine I.resultsCode.c1.step _ _ _ _ _ _ _ _ ⟨n, A, l, c, e2.getN hg5, B, m, d, e2.get hg7, ?_⟩
    refine (I.Schedule.areResults.spec (s.mono (e.trans e2)) hl (by omega) (by omega) k2 (x.mono (e.trans e2)) hm hx).mono ?_
    rintro u h3 ⟨e3, rfl⟩
    refine ⟨_, rfl, fun k hk => bool_split (fun ht => ⟨f, caps, (e2.trans e3).get hg9, (hr hok h3 ((e.trans e2).trans e3)).mono ?_⟩) (fun hf => hk _ _ ⟨e3, by rw [hf]; rfl⟩)⟩
    rintro u h4 ⟨e4, rfl⟩
    exact ⟨_, rfl, hk _ _ ⟨e3.trans e4, by rw [ht]; rfl⟩⟩
  · rintro u h2 ⟨e2, rfl⟩
    exact ⟨_, rfl, e.trans e2, rfl⟩

theorem schedCode_zero {n : Int} {rs : List (List Int)} {r : Bool} : schedCode n rs r = 0 ↔ scheduleOk n rs = true ∧ r = true := by
  unfold schedCode
  cases scheduleOk n rs <;> cases r <;> simp

end Go.Proofs.Ytbppeajpjnlobaa

/- The reference's code; the meetings played, one after the other. -/
set_option linter.unusedVariables false
set_option linter.unusedSimpArgs false
namespace Go.Proofs.Ytbppeajpjnlobaa
open Go.HL

theorem S.l10Code.spec {n : Int} {A B T : Option Addr} {rs xss : List (List Int)} {teams : List Int} {l c m d q e0 : Nat} {h : Heap} (s : Rds h A rs) (hl : rs.length = l) (x : Tab h B xss) (hm : xss.length = m) (hx : ∀ xs ∈ xss, xs.length ≤ 1048576)
    (ts : Ints h T teams) (hq : teams.length = q) (hqb : q ≤ 1048576) :
    ACalls Try.prog S.l10Code.id [.agg #[.int .i64 n, .slice A l c], .slice B m d, .slice T q e0] h fun u h2 => Ext h h2 ∧ u = .int .i64 (schedCode n rs (resultsOk n rs xss && teams.all (hasTeam n))) := by
  refine S.l10Code.step _ _ _ _ _ _ _ _ _ _ _ h fun b hf => ?_
  have e := Ext.upd hf (.cells [.int .i64 n, .slice A l c])
  have hg : (h.upd b (.cells [.int .i64 n, .slice A l c])).getN b 0 2 = some [.int .i64 n, .slice A l c] := by simp [Heap.getN]
  have hn : (h.upd b (.cells [.int .i64 n, .slice A l c])).get b (0 + 0) = some (.int .i64 n) := by simp
  generalize h.upd b (.cells [.int .i64 n, .slice A l c]) = h1 at *
  refine ⟨n, A, l, c, hg, (S.l01Is.spec (s.mono e) hl).mono ?_⟩
  rintro u h2 ⟨e2, rfl⟩
  refine ⟨_, rfl, nbool_split (fun hf => ⟨e.trans e2, by rw [schedCode, hf]; rfl⟩) (fun ht => ?_)⟩
  obtain ⟨k1, k2, k3, _⟩ := scheduleOk_facts ht
  refine ⟨n, A, l, c, e2.getN hg, (S.l10Is.spec (s.mono (e.trans e2)) hl (by omega) (by omega) k2 (x.mono (e.trans e2)) hm hx).mono ?_⟩
  rintro u h3 ⟨e3, rfl⟩
  have e13 := e2.trans e3
  refine ⟨_, rfl, nbool_split (fun hf => ⟨e.trans e13, by rw [schedCode, ht, hf]; rfl⟩) (fun ht2 => ?_)⟩
  rw [ht2, Bool.true_and]
  have loop : ∀ (k i : Nat) (K : Value → Heap → Prop), i + k = q → (K (.int .i64 (schedCode n rs ((teams.drop i).all (hasTeam n)))) h3) → S.l10Code.L0 K (.slice T q e0) (.pointer (some ⟨b, 0, none⟩)) (.int .i64 i) h3 := by
    intro k
    induction k with
    | zero =>
      intro i K hi hk
      refine S.l10Code.L0_step K _ _ _ _ _ _ _ (dec_split (fun hc => by omega) (fun _ => ?_))
      rw [List.drop_eq_nil_of_le (by omega), schedCode, ht] at hk
      exact hk
    | succ k ih =>
      intro i K hi hk
      have hi' : i < teams.length := by omega
      refine S.l10Code.L0_step K _ _ _ _ _ _ _ (dec_split (fun hc => ?_) (fun hc => by omega))
      refine ts.rd (e.trans e13) hq (by omega) (by omega) ⟨n, e13.get hn, ?_⟩
      rw [w64 (by omega) (by omega)]
      refine S.l01In.spec.mono ?_
      rintro u h4 ⟨rfl, rfl⟩
      have e1 : teams.getD (Int.toNat i) 0 = teams[i] := by rw [Int.toNat_natCast, List.getD_eq_getElem?_getD, List.getElem?_eq_getElem hi']; rfl
      rw [e1]
      rw [List.drop_eq_getElem_cons hi', List.all_cons] at hk
      refine ⟨_, rfl, nbool_split (fun hf => ?_) (fun ht3 => ?_)⟩
      · have ho : hasTeam n teams[i] = false := hf
        rw [ho, Bool.false_and, schedCode, ht] at hk
        exact hk
      · have ho : hasTeam n teams[i] = true := ht3
        rw [ho, Bool.true_and] at hk
        rw [wsucc (by omega)]
        exact ih (i + 1) K (by omega) hk
  exact loop q 0 _ (by omega) ⟨e.trans e13, by simp⟩

/-! ### Changing state beside what is only read -/
structure Mut (σ : Type) where
  Inv : σ → Heap → Heap → Prop
  ext : ∀ s hI h, Inv s hI h → Ext hI h
  frame : ∀ s hI h, Inv s hI h → ∀ {f : FuncId} {args : List Value} {K : Value → Heap → Prop}, ACalls Try.prog f args hI K → ACalls Try.prog f args h fun u h2 => ∃ hJ, Inv s hJ h2 ∧ K u hJ
  beside : ∀ s hI h, Inv s hI h → ∀ {b : Nat} (k : Blk), h.fresh b → Inv s (hI.upd b k) (h.upd b k) ∧ hI.fresh b
/-- One block. -/
def Mut.block (b : Nat) : Mut (List Value) where
  Inv cs hI h := hI.fresh b ∧ h = hI.upd b (.cells cs)
  ext s hI h := fun ⟨hf, e⟩ => e ▸ Ext.upd hf _
  frame s hI h := fun ⟨hf, e⟩ {f args K} c => by
    subst e
    refine (c.frame hf _).mono ?_
    rintro u h2 ⟨hJ, rfl, hf2, hk⟩
    exact ⟨hJ, ⟨hf2, rfl⟩, hk⟩
  beside s hI h := fun ⟨hf, e⟩ {x} k hx => by
    subst e
    have hne := fresh_ne hx
    exact ⟨⟨fresh_upd hf hne _, upd_comm _ (Ne.symm hne) _ _⟩, fresh_of_upd hx⟩

/-- A meeting, as it is told to a function: round, team, other team, own points. -/
structure Ev where
  i : Int
  a : Int
  b : Int
  own : Int
def ownOf (x : Int) : Int := if x = 1 then 2 else if x = 2 then 0 else 1
def evRow (i : Int) : List (List Int) → List Int → List Ev
  | p :: ps, x :: xs => ⟨i, p.getD 0 0, p.getD 1 0, ownOf x⟩ :: ⟨i, p.getD 1 0, p.getD 0 0, 2 - ownOf x⟩ :: evRow i ps xs
  | _, _ => []
def evs (n : Int) : Nat → List (List Int) → List (List Int) → List Ev
  | i, r :: rs, xs :: xss => evRow i (pairsOf n r) xs ++ evs n (i + 1) rs xss
  | _, _, _ => []

theorem pairsFrom_two (r : List Int) : ∀ (m a : Nat), ∀ p ∈ pairsFrom r a m, p.length = 2
  | 0, a, p, hp => by simp [pairsFrom] at hp
  | m + 1, a, p, hp => by
    rw [pairsFrom] at hp
    split at hp
    · rcases List.mem_cons.1 hp with rfl | hp
      · rfl
      · exact pairsFrom_two r m (a + 1) p hp
    · exact pairsFrom_two r m (a + 1) p hp
theorem pairsFrom_len (r : List Int) : ∀ (m a : Nat), (pairsFrom r a m).length ≤ m
  | 0, a => by simp [pairsFrom]
  | m + 1, a => by
    rw [pairsFrom]
    have := pairsFrom_len r m (a + 1)
    split <;> simp <;> omega

end Go.Proofs.Ytbppeajpjnlobaa

/- The meetings played, one after the other: the program's own walk over them. -/
set_option linter.unusedVariables false
set_option linter.unusedSimpArgs false
namespace Go.Proofs.Ytbppeajpjnlobaa
open Go.HL

/-- What is asked of the function that is told of a meeting. -/
def Tells {σ : Type} (M : Mut σ) (stp : σ → Ev → σ) (f : FuncId) (caps : Array Value) (hI : Heap) (ev : Ev) : Prop :=
  ∀ s hJ h1, Ext hI hJ → M.Inv s hJ h1 → ACalls Try.prog f ([.int .i64 ev.i, .int .i64 ev.a, .int .i64 ev.b, .int .i64 ev.own] ++ caps.toList) h1 fun u h2 => u = undef ∧ ∃ hK, Ext hJ hK ∧ M.Inv (stp s ev) hK h2

theorem I.Schedule.games.spec {σ : Type} (M : Mut σ) (stp : σ → Ev → σ) {n : Int} {A B : Option Addr} {rs xss : List (List Int)} {l c m d : Nat} {f : FuncId} {caps : Array Value} {s0 : σ} {hI h : Heap} (hinv : M.Inv s0 hI h)
    (s : Rds hI A rs) (hl : rs.length = l) (x : Tab hI B xss) (hm : xss.length = m) (h0 : 0 ≤ n) (h14 : n ≤ 14) (hl40 : l ≤ 40) (hok : resultsOk n rs xss = true)
    (hcb : ∀ ev ∈ evs n 0 rs xss, Tells M stp f caps hI ev) :
    ACalls Try.prog I.Schedule.games.id [.agg #[.int .i64 n, .slice A l c], .slice B m d, .func (.func f) #[] caps] h fun u h2 => u = undef ∧ ∃ hK, Ext hI hK ∧ M.Inv ((evs n 0 rs xss).foldl stp s0) hK h2 := by
  refine I.Schedule.games.step _ _ _ _ _ _ _ _ _ _ h fun b hf => ?_
  obtain ⟨hinv1, hfI⟩ := M.beside _ _ _ hinv (.cells [.int .i64 n, .slice A l c]) hf
  have e := Ext.upd hfI (.cells [.int .i64 n, .slice A l c])
  have hn : (hI.upd b (.cells [.int .i64 n, .slice A l c])).get b (0 + 0) = some (.int .i64 n) := by simp
  have hs : (hI.upd b (.cells [.int .i64 n, .slice A l c])).get b (0 + 1) = some (.slice A l c) := by simp
  generalize hI.upd b (.cells [.int .i64 n, .slice A l c]) = hI1 at *
  generalize h.upd b (.cells [.int .i64 n, .slice A l c]) = h1 at *
  have hml : xss.length ≤ rs.length := by
    simp only [resultsOk, Bool.and_eq_true, decide_eq_true_eq] at hok; exact hok.1
  have hrows : rowsOk n rs xss = true := by simp only [resultsOk, Bool.and_eq_true] at hok; exact hok.2
  -- the meetings of one round
  have inner : ∀ (i : Nat) (ps : List (List Int)) (xs : List Int) (P C : Option Addr) (cP cC : Nat) (K : Value → Heap → Prop) (hps : ∀ p ∈ ps, p.length = 2) (hlen : ps.length = xs.length) (hbig : ps.length ≤ 14) (k j : Nat) (t : σ) (hJ h2 : Heap),
      j + k = ps.length → Ext hI1 hJ → M.Inv t hJ h2 → Tab hJ P ps → Ints hJ C xs → (∀ ev ∈ evRow i (ps.drop j) (xs.drop j), Tells M stp f caps hI ev) →
      (∀ hK h3, Ext hI1 hK → M.Inv ((evRow i (ps.drop j) (xs.drop j)).foldl stp t) hK h3 → I.Schedule.games.L0 K (.func (.func f) #[] caps) (.pointer (some ⟨b, 0, none⟩)) (.slice B m d) (.int .i64 m) (.int .i64 ((i + 1 : Nat) : Int)) h3) → i < 9223372036854775807 →
      I.Schedule.games.L1 K (.func (.func f) #[] caps) (.pointer (some ⟨b, 0, none⟩)) (.int .i64 i) (.slice C xs.length cC) (.slice B m d) (.int .i64 m) (.int .i64 i) (.slice P ps.length cP) (.int .i64 ps.length) (.int .i64 j) h2 := by
    intro i ps xs P C cP cC K hps hlen hbig k
    induction k with
    | zero =>
      intro j t hJ h2 hj he hi _ _ _ hk hib
      refine I.Schedule.games.L1_step K _ _ _ _ _ _ _ _ _ _ _ _ _ _ _ _ _ _ _ (dec_split (fun hc => by omega) (fun _ => ?_))
      rw [wsucc hib]
      refine hk hJ h2 he ?_
      rw [List.drop_eq_nil_of_le (by omega)]
      exact hi
    | succ k ih =>
      intro j t hJ h2 hj he hi hP hC hev hk hib
      have hj' : j < ps.length := by omega
      have hjx : j < xs.length := by omega
      refine I.Schedule.games.L1_step K _ _ _ _ _ _ _ _ _ _ _ _ _ _ _ _ _ _ _ (dec_split (fun hc => ?_) (fun hc => by omega))
      refine hP.rd (M.ext _ _ _ hi) rfl (by omega) (by omega) fun D dD hD _ => ?_
      refine hC.rd (M.ext _ _ _ hi) rfl (by omega) (by omega) ?_
      have e1 : ps.getD (Int.toNat j) [] = ps[j] := by rw [Int.toNat_natCast, List.getD_eq_getElem?_getD, List.getElem?_eq_getElem hj']; rfl
      have e2 : xs.getD (Int.toNat j) 0 = xs[j] := by rw [Int.toNat_natCast, List.getD_eq_getElem?_getD, List.getElem?_eq_getElem hjx]; rfl
      have e3 : ps[j].length = 2 := hps _ (List.getElem_mem hj')
      rw [e1] at hD ⊢
      rw [e2, e3]
      rw [List.drop_eq_getElem_cons hj', List.drop_eq_getElem_cons hjx, evRow] at hev hk
      have br : ∀ (own w : Int), ownOf xs[j] = own → w = 2 - own → ∃ b41 o42 : Nat, D = some ⟨b41, o42, none⟩ ∧ (0 ≤ (0 : Int) ∧ (0 : Int) < ((2 : Nat) : Int)) ∧ ∃ x43 : Int, h2.get b41 (o42 + Int.toNat (0 : Int) * 1) = some (.int .i64 x43) ∧
          ∃ b44 o45 : Nat, D = some ⟨b44, o45, none⟩ ∧ (0 ≤ (1 : Int) ∧ (1 : Int) < ((2 : Nat) : Int)) ∧ ∃ x46 : Int, h2.get b44 (o45 + Int.toNat (1 : Int) * 1) = some (.int .i64 x46) ∧
          ACalls Try.prog f ([.int .i64 i, .int .i64 x43, .int .i64 x46, .int .i64 own] ++ caps.toList) h2 fun v48 h47 => v48 = undef ∧
          ∃ b49 o50 : Nat, D = some ⟨b49, o50, none⟩ ∧ (0 ≤ (1 : Int) ∧ (1 : Int) < ((2 : Nat) : Int)) ∧ ∃ x51 : Int, h47.get b49 (o50 + Int.toNat (1 : Int) * 1) = some (.int .i64 x51) ∧
          ∃ b52 o53 : Nat, D = some ⟨b52, o53, none⟩ ∧ (0 ≤ (0 : Int) ∧ (0 : Int) < ((2 : Nat) : Int)) ∧ ∃ x54 : Int, h47.get b52 (o53 + Int.toNat (0 : Int) * 1) = some (.int .i64 x54) ∧
          ACalls Try.prog f ([.int .i64 i, .int .i64 x51, .int .i64 x54, .int .i64 w] ++ caps.toList) h47 fun v56 h55 => v56 = undef ∧
          I.Schedule.games.L1 K (.func (.func f) #[] caps) (.pointer (some ⟨b, 0, none⟩)) (.int .i64 i) (.slice C xs.length cC) (.slice B m d) (.int .i64 m) (.int .i64 i) (.slice P ps.length cP) (.int .i64 ps.length) (.int .i64 (IntKind.wrap .i64 (j + (1 : Int)))) h55 := by
        intro own w ho hw
        subst ho
        refine hD.rd (M.ext _ _ _ hi) e3 (by omega) (by omega) (hD.rd (M.ext _ _ _ hi) e3 (by omega) (by omega) ?_)
        refine (hev ⟨i, ps[j].getD 0 0, ps[j].getD 1 0, ownOf xs[j]⟩ (by simp) t hJ h2 (e.trans he) hi).mono ?_
        rintro u h3 ⟨rfl, hK, eK, hi3⟩
        refine ⟨rfl, (hD.mono eK).rd (M.ext _ _ _ hi3) e3 (by omega) (by omega) ((hD.mono eK).rd (M.ext _ _ _ hi3) e3 (by omega) (by omega) ?_)⟩
        rw [hw]
        refine (hev ⟨i, ps[j].getD 1 0, ps[j].getD 0 0, 2 - ownOf xs[j]⟩ (by simp) _ hK h3 (e.trans (he.trans eK)) hi3).mono ?_
        rintro u h4 ⟨rfl, hL, eL, hi4⟩
        refine ⟨rfl, ?_⟩
        rw [wsucc (by omega)]
        exact ih (j + 1) _ hL h4 (by omega) (he.trans (eK.trans eL)) hi4 (hP.mono (eK.trans eL)) (hC.mono (eK.trans eL)) (fun ev hv => hev ev (by simp [hv])) (fun hM h5 eM hi5 => hk hM h5 eM hi5) hib
      refine dec_split (fun h1x => br 2 _ (by simp [ownOf, h1x]) rfl) (fun h1x => dec_split (fun h2x => br 0 _ (by simp [ownOf, h1x, h2x]) rfl) (fun h2x => br 1 _ (by simp [ownOf, h1x, h2x]) rfl))
  have loop : ∀ (k i : Nat) (t : σ) (hJ h2 : Heap) (K : Value → Heap → Prop), i + k = m → Ext hI1 hJ → M.Inv t hJ h2 → (∀ ev ∈ evs n i (rs.drop i) (xss.drop i), Tells M stp f caps hI ev) → rowsOk n (rs.drop i) (xss.drop i) = true →
      (∀ hK h3, Ext hI1 hK → M.Inv ((evs n i (rs.drop i) (xss.drop i)).foldl stp t) hK h3 → K undef h3) →
      I.Schedule.games.L0 K (.func (.func f) #[] caps) (.pointer (some ⟨b, 0, none⟩)) (.slice B m d) (.int .i64 m) (.int .i64 i) h2 := by
    intro k
    induction k with
    | zero =>
      intro i t hJ h2 K hi he hv _ _ hk
      refine I.Schedule.games.L0_step K _ _ _ _ _ _ _ _ _ _ (dec_split (fun hc => by omega) (fun _ => hk hJ h2 he ?_))
      have e9 : xss.drop i = [] := List.drop_eq_nil_of_le (by omega)
      rw [e9]
      cases hd : rs.drop i <;> exact hv
    | succ k ih =>
      intro i t hJ h2 K hi he hv hev hro hk
      have hi' : i < xss.length := by omega
      have hir : i < rs.length := by omega
      refine I.Schedule.games.L0_step K _ _ _ _ _ _ _ _ _ _ (dec_split (fun hc => ?_) (fun hc => by omega))
      have eh := M.ext _ _ _ hv
      refine (x.mono (e.trans he)).rd eh hm (by omega) (by omega) fun C dC hC _ => ⟨A, l, c, eh.get (he.get hs), ?_⟩
      refine (s.mono (e.trans he)).rd eh hl (by omega) (by omega) fun hr14 => ⟨n, eh.get (he.get hn), ?_⟩
      refine (M.frame _ _ _ hv (I.Round.pairs.spec hr14 h0 h14)).mono ?_
      rintro u h3 ⟨hK, hv3, eK, P, cP, rfl, hP⟩
      have e1 : rs.getD (Int.toNat i) [] = rs[i] := by rw [Int.toNat_natCast, List.getD_eq_getElem?_getD, List.getElem?_eq_getElem hir]; rfl
      have e2 : xss.getD (Int.toNat i) [] = xss[i] := by rw [Int.toNat_natCast, List.getD_eq_getElem?_getD, List.getElem?_eq_getElem hi']; rfl
      rw [e1] at hP ⊢
      rw [e2] at hC ⊢
      rw [List.drop_eq_getElem_cons hi', List.drop_eq_getElem_cons hir, evs] at hev hk
      rw [List.drop_eq_getElem_cons hi', List.drop_eq_getElem_cons hir, rowsOk, Bool.and_eq_true] at hro
      have hlen : (pairsOf n rs[i]).length = xss[i].length := by
        have := hro.1
        simp only [rowOk, Bool.and_eq_true, decide_eq_true_eq] at this
        exact this.1.symm
      have hbig : (pairsOf n rs[i]).length ≤ 14 := by have := pairsFrom_len rs[i] n.toNat 0; unfold pairsOf; omega
      refine ⟨P, _, cP, rfl, inner i _ _ P C cP dC K (fun p hp => pairsFrom_two _ _ _ p hp) hlen hbig _ 0 t hK h3 (Nat.zero_add _) (he.trans eK) hv3 hP (hC.mono eK) (fun ev h => hev ev (by rw [List.mem_append]; exact .inl h)) (fun hL h4 eL hv4 => ?_) (by omega)⟩
      refine ih (i + 1) _ hL h4 K (by omega) eL hv4 (fun ev h => hev ev (by rw [List.mem_append]; exact .inr h)) hro.2 fun hM h5 eM hv5 => hk hM h5 eM ?_
      rw [List.foldl_append]
      exact hv5
  exact loop m 0 s0 hI1 h1 _ (by omega) (Ext.refl _) hinv1 (by simpa using hcb) (by simpa using hrows) fun hK h3 eK hv => ⟨rfl, hK, e.trans eK, by simpa using hv⟩

end Go.Proofs.Ytbppeajpjnlobaa

/- Sums over the meetings played: points. -/
set_option linter.unusedVariables false
set_option linter.unusedSimpArgs false
namespace Go.Proofs.Ytbppeajpjnlobaa
open Go.HL

/-- Numbers of all teams, in one block. -/
def mutInts (b : Nat) (n : Int) : Mut (List Int) where
  Inv xs hI h := (xs.length : Int) = n ∧ (Mut.block b).Inv (LM xs) hI h
  ext s hI h := fun ⟨_, i⟩ => (Mut.block b).ext _ _ _ i
  frame s hI h := fun ⟨hl, i⟩ {f args K} c => ((Mut.block b).frame _ _ _ i c).mono fun u h2 ⟨hJ, i2, k⟩ => ⟨hJ, ⟨hl, i2⟩, k⟩
  beside s hI h := fun ⟨hl, i⟩ {x} k hx => let ⟨i2, f⟩ := (Mut.block b).beside _ _ _ i k hx; ⟨⟨hl, i2⟩, f⟩

def addAt (g : Int → Int → Int) (xs : List Int) (ev : Ev) : List Int := xs.set ev.a.toNat (IntKind.wrap .i64 (xs.getD ev.a.toNat 0 + g ev.b ev.own))
def summedM (g : Int → Int → Int) (n : Int) (rs xss : List (List Int)) : List Int := (evs n 0 rs xss).foldl (addAt g) (List.replicate n.toNat 0)

theorem pairsFrom_mem {r : List Int} : ∀ {m a : Nat} {p : List Int}, p ∈ pairsFrom r a m → ∃ i : Nat, a ≤ i ∧ i < a + m ∧ p = [(i : Int), r.getD i 0] ∧ (i : Int) < r.getD i 0
  | 0, a, p, hp => by simp [pairsFrom] at hp
  | m + 1, a, p, hp => by
    rw [pairsFrom] at hp
    split at hp
    · rename_i hlt
      rcases List.mem_cons.1 hp with rfl | hp
      · exact ⟨a, by omega, by omega, rfl, hlt⟩
      · obtain ⟨i, h1, h2, h3⟩ := pairsFrom_mem hp
        exact ⟨i, by omega, by omega, h3⟩
    · obtain ⟨i, h1, h2, h3⟩ := pairsFrom_mem hp
      exact ⟨i, by omega, by omega, h3⟩
theorem round_place {n : Int} {r : List Int} (h : roundOk n r = true) {i : Nat} (hi : (i : Int) < n) : 0 ≤ r.getD i 0 ∧ r.getD i 0 < n ∧ r.getD (r.getD i 0).toNat 0 = i := by
  simp only [roundOk, Bool.and_eq_true, decide_eq_true_eq, List.all_eq_true] at h
  have hp := h.2 i (by simp [List.mem_range'_1]; omega)
  rw [placeOk, if_neg (by omega)] at hp
  simp only [Bool.and_eq_true, decide_eq_true_eq] at hp
  exact ⟨hp.1.1, by omega, hp.2⟩
theorem pairsOf_mem {n : Int} {r : List Int} (h : roundOk n r = true) (hn : 0 ≤ n) {p : List Int} (hp : p ∈ pairsOf n r) : p.length = 2 ∧ 0 ≤ p.getD 0 0 ∧ p.getD 0 0 < p.getD 1 0 ∧ p.getD 1 0 < n := by
  obtain ⟨i, h1, h2, rfl, h4⟩ := pairsFrom_mem hp
  obtain ⟨h5, h6, _⟩ := round_place (i := i) h (by omega)
  exact ⟨rfl, by simp, by simpa using h4, by simpa using h6⟩
def EvOk (n : Int) (ev : Ev) : Prop := 0 ≤ ev.a ∧ ev.a < n ∧ 0 ≤ ev.b ∧ ev.b < n ∧ 0 ≤ ev.own ∧ ev.own ≤ 2
theorem ownOf_range (x : Int) : 0 ≤ ownOf x ∧ ownOf x ≤ 2 := by
  unfold ownOf
  split
  · omega
  · split <;> omega
theorem evRow_ok {n : Int} (i : Int) : ∀ (ps : List (List Int)) (xs : List Int), (∀ p ∈ ps, 0 ≤ p.getD 0 0 ∧ p.getD 0 0 < p.getD 1 0 ∧ p.getD 1 0 < n) → ∀ ev ∈ evRow i ps xs, EvOk n ev
  | [], xs, _, ev, h => by simp [evRow] at h
  | p :: ps, [], _, ev, h => by simp [evRow] at h
  | p :: ps, x :: xs, hp, ev, h => by
    have h1 := hp p (by simp)
    have h2 := ownOf_range x
    rw [evRow] at h
    rcases List.mem_cons.1 h with rfl | h
    · refine ⟨?_, ?_, ?_, ?_, ?_, ?_⟩ <;> simp only <;> omega
    · rcases List.mem_cons.1 h with rfl | h
      · refine ⟨?_, ?_, ?_, ?_, ?_, ?_⟩ <;> simp only <;> omega
      · exact evRow_ok i ps xs (fun q hq => hp q (by simp [hq])) ev h
theorem evs_ok {n : Int} (hn : 0 ≤ n) : ∀ (i : Nat) (rs xss : List (List Int)), (∀ r ∈ rs, roundOk n r = true) → ∀ ev ∈ evs n i rs xss, EvOk n ev
  | i, [], xss, _, ev, h => by simp [evs] at h
  | i, r :: rs, [], _, ev, h => by simp [evs] at h
  | i, r :: rs, xs :: xss, hr, ev, h => by
    rw [evs, List.mem_append] at h
    rcases h with h | h
    · exact evRow_ok i _ _ (fun p hp => (pairsOf_mem (hr r (by simp)) hn hp).2) ev h
    · exact evs_ok hn (i + 1) rs xss (fun q hq => hr q (by simp [hq])) ev h

theorem I.Schedule.summed.c1.spec {g : Int → Int → Int} {n : Int} {bo bc bf : Nat} {fo : FuncId} {co : Array Value} {hI : Heap} (hc : hI.get bc 0 = some (.slice (some ⟨bo, 0, none⟩) n.toNat n.toNat)) (hf : hI.get bf 0 = some (.func (.func fo) #[] co))
    (hg : ∀ h1, Ext hI h1 → ∀ b own, 0 ≤ b → b < n → ACalls Try.prog fo ([.int .i64 b, .int .i64 own] ++ co.toList) h1 fun u h2 => Ext h1 h2 ∧ u = .int .i64 (g b own)) {ev : Ev} (hev : EvOk n ev) :
    Tells (mutInts bo n) (addAt g) I.Schedule.summed.c1.id #[.pointer (some ⟨bc, 0, none⟩), .pointer (some ⟨bf, 0, none⟩)] hI ev := by
  intro xs hJ h1 eJ hinv
  obtain ⟨hl, hfr, rfl⟩ := hinv
  obtain ⟨a0, a1, b0, b1, o0, o1⟩ := hev
  have hcb : ∀ hK, Ext hI hK → hK.fresh bo → ∀ ys : List Int, (hK.upd bo (.cells (LM ys))).get bc 0 = some (.slice (some ⟨bo, 0, none⟩) n.toNat n.toNat) := fun hK eK fK ys => (eK.trans (Ext.upd fK _)).get hc
  have hfb : ∀ hK, Ext hI hK → hK.fresh bo → ∀ ys : List Int, (hK.upd bo (.cells (LM ys))).get bf 0 = some (.func (.func fo) #[] co) := fun hK eK fK ys => (eK.trans (Ext.upd fK _)).get hf
  have hrd : ∀ hK : Heap, (hK.upd bo (.cells (LM xs))).get bo (0 + Int.toNat ev.a * 1) = some (.int .i64 (xs.getD ev.a.toNat 0)) := fun hK => by
    rw [get_upd, if_pos rfl, Nat.zero_add, Nat.mul_one]
    have : ev.a.toNat < xs.length := by omega
    simp [this, List.getD_eq_getElem?_getD]
  refine I.Schedule.summed.c1.step _ _ _ _ _ _ _ _ _ _ ⟨_, _, _, hcb hJ eJ hfr xs, bo, 0, rfl, ⟨a0, by omega⟩, _, hrd hJ, fo, co, hfb hJ eJ hfr xs, ?_⟩
  refine (ACalls.frame hfr _ (hg hJ eJ ev.b ev.own b0 b1)).mono ?_
  rintro u h2 ⟨hK, rfl, fK, eK, rfl⟩
  refine ⟨_, rfl, hcb hK (eJ.trans eK) fK xs, hrd hK, bo, 0, rfl, ⟨a0, by omega⟩, LM xs, by simp, by simp; omega, by simp [Value.oneCell'], rfl, hK, eK, ?_⟩
  refine ⟨by rw [addAt, List.length_set]; exact hl, fK, ?_⟩
  rw [upd_upd, Nat.zero_add, Nat.mul_one, splice_one _ _ _ (by simp; omega), addAt, LM, LM, ← List.map_set]

theorem I.Schedule.summed.spec {g : Int → Int → Int} {n : Int} {A B : Option Addr} {rs xss : List (List Int)} {l c m d : Nat} {fo : FuncId} {co : Array Value} {h : Heap} (s : Rds h A rs) (hl : rs.length = l) (x : Tab h B xss) (hm : xss.length = m)
    (hsok : scheduleOk n rs = true) (hok : resultsOk n rs xss = true)
    (hg : ∀ h1, Ext h h1 → ∀ b own, 0 ≤ b → b < n → ACalls Try.prog fo ([.int .i64 b, .int .i64 own] ++ co.toList) h1 fun u h2 => Ext h1 h2 ∧ u = .int .i64 (g b own)) :
    ACalls Try.prog I.Schedule.summed.id [.agg #[.int .i64 n, .slice A l c], .slice B m d, .func (.func fo) #[] co] h fun u h2 => Ext h h2 ∧ ∃ bo, h.fresh bo ∧ u = .slice (some ⟨bo, 0, none⟩) n.toNat n.toNat ∧ h2.own bo = some (.cells (LM (summedM g n rs xss))) := by
  obtain ⟨k1, k2, k3, k4⟩ := scheduleOk_facts hsok
  refine I.Schedule.summed.step _ _ _ _ _ _ _ _ _ _ h fun b5 hf5 b7 hf7 => ⟨n, ?_, rfl, by omega, by omega, by omega, fun b10 hf10 b12 hf12 => ?_⟩
  · simp [Ne.symm (fresh_ne hf7)]
  have n75 := fresh_ne hf7
  have n107 := fresh_ne hf10
  have n105 := fresh_ne (fresh_of_upd hf10)
  have n1210 := fresh_ne hf12
  have n127 := fresh_ne (fresh_of_upd hf12)
  have n125 := fresh_ne (fresh_of_upd (fresh_of_upd hf12))
  refine ⟨[.slice none 0 0], by simp, by simp, by simp [Value.oneCell'], n, A, l, c, ?_, ?_⟩
  · simp [Heap.getN, Ne.symm n75, Ne.symm n105, Ne.symm n125]
  -- what is only read
  have f5 : h.fresh b5 := hf5
  have f7 : (h.upd b5 (.cells [.int .i64 n, .slice A l c])).fresh b7 := hf7
  have f12 : ((h.upd b5 (.cells [.int .i64 n, .slice A l c])).upd b7 (.cells [.func (.func fo) #[] co])).fresh b12 := fresh_of_upd hf12
  have e5 := Ext.upd f5 (.cells [.int .i64 n, .slice A l c])
  have e7 := Ext.upd f7 (.cells [.func (.func fo) #[] co])
  have e12 := Ext.upd f12 (.cells [.slice (some ⟨b10, 0, none⟩) n.toNat n.toNat])
  have e := (e5.trans e7).trans e12
  have f10 : (((h.upd b5 (.cells [.int .i64 n, .slice A l c])).upd b7 (.cells [.func (.func fo) #[] co])).upd b12 (.cells [.slice (some ⟨b10, 0, none⟩) n.toNat n.toNat])).fresh b10 := fresh_upd hf10 n1210 _
  have hfr10 : h.fresh b10 := fresh_of_upd (fresh_of_upd hf10)
  have hinv : (mutInts b10 n).Inv (List.replicate n.toNat 0) (((h.upd b5 (.cells [.int .i64 n, .slice A l c])).upd b7 (.cells [.func (.func fo) #[] co])).upd b12 (.cells [.slice (some ⟨b10, 0, none⟩) n.toNat n.toNat]))
      (((((h.upd b5 (.cells [.int .i64 n, .slice A l c])).upd b7 (.cells [.func (.func fo) #[] co])).upd b10 (.cells (List.replicate n.toNat (.int .i64 0)))).upd b12 (.cells [.slice none 0 0])).upd b12 (.cells (splice [.slice none 0 0] 0 [.slice (some ⟨b10, 0, none⟩) n.toNat n.toNat]))) := by
    refine ⟨by simp; omega, f10, ?_⟩
    rw [upd_upd, upd_comm _ n1210]
    simp [splice, LM]
  have hc : (((h.upd b5 (.cells [.int .i64 n, .slice A l c])).upd b7 (.cells [.func (.func fo) #[] co])).upd b12 (.cells [.slice (some ⟨b10, 0, none⟩) n.toNat n.toNat])).get b12 0 = some (.slice (some ⟨b10, 0, none⟩) n.toNat n.toNat) := by simp
  have hff : (((h.upd b5 (.cells [.int .i64 n, .slice A l c])).upd b7 (.cells [.func (.func fo) #[] co])).upd b12 (.cells [.slice (some ⟨b10, 0, none⟩) n.toNat n.toNat])).get b7 0 = some (.func (.func fo) #[] co) := by simp [Ne.symm n127]
  refine (I.Schedule.games.spec (mutInts b10 n) (addAt g) hinv (s.mono e) hl (x.mono e) hm (by omega) k2 (by omega) hok (fun ev hev => I.Schedule.summed.c1.spec hc hff (fun h1 e1 => hg h1 (e.trans e1)) (evs_ok (by omega) 0 rs xss k4 ev hev))).mono ?_
  rintro u h2 ⟨rfl, hK, eK, hl2, fK, rfl⟩
  refine ⟨rfl, _, _, _, ((eK.trans (Ext.upd fK _)).get hc), (e.trans eK).trans (Ext.upd fK _), b10, hfr10, rfl, by simp [summedM]⟩

theorem I.Schedule.points.spec {n : Int} {A B : Option Addr} {rs xss : List (List Int)} {l c m d : Nat} {h : Heap} (s : Rds h A rs) (hl : rs.length = l) (x : Tab h B xss) (hm : xss.length = m)
    (hsok : scheduleOk n rs = true) (hok : resultsOk n rs xss = true) :
    ACalls Try.prog I.Schedule.points.id [.agg #[.int .i64 n, .slice A l c], .slice B m d] h fun u h2 => Ext h h2 ∧ ∃ bo, h.fresh bo ∧ u = .slice (some ⟨bo, 0, none⟩) n.toNat n.toNat ∧ h2.own bo = some (.cells (LM (summedM (fun _ own => own) n rs xss))) := by
  refine I.Schedule.points.step _ _ _ _ _ _ _ _ h fun b hf => ⟨n, A, l, c, by simp [Heap.getN], ?_⟩
  have e := Ext.upd hf (.cells [.int .i64 n, .slice A l c])
  refine (I.Schedule.summed.spec (s.mono e) hl (x.mono e) hm hsok hok (fun h1 e1 b own _ _ => I.Schedule.points.c1.step _ _ _ _ ⟨Ext.refl _, rfl⟩)).mono ?_
  rintro u h2 ⟨e2, bo, f2, rfl, ho⟩
  exact ⟨_, _, _, rfl, e.trans e2, bo, fresh_of_upd f2, rfl, ho⟩

end Go.Proofs.Ytbppeajpjnlobaa

/- Points, as the reference tells them. -/
set_option linter.unusedVariables false
set_option linter.unusedSimpArgs false
namespace Go.Proofs.Ytbppeajpjnlobaa
open Go.HL

theorem S.l10Won.spec {x : Int} {h : Heap} : ACalls Try.prog S.l10Won.id [.int .i64 x] h fun u h2 => h2 = h ∧ u = .tuple #[.int .i64 (ownOf x), .int .i64 (2 - ownOf x)] := by
  refine S.l10Won.step _ _ h (dec_split (fun h1 => ⟨rfl, by simp [ownOf, h1]⟩) (fun h1 => dec_split (fun h2 => ⟨rfl, by simp [ownOf, h1, h2]⟩) (fun h2 => ⟨rfl, by simp [ownOf, h1, h2]⟩)))

theorem mutInts_rd {bo : Nat} {n : Int} {xs : List Int} {hI h : Heap} (i : (mutInts bo n).Inv xs hI h) {a : Int} (h0 : 0 ≤ a) (h1 : a < n) {K : Int → Prop} (k : K (xs.getD a.toNat 0)) :
    ∃ b o : Nat, some (⟨bo, 0, none⟩ : Addr) = some ⟨b, o, none⟩ ∧ (0 ≤ a ∧ a < (n.toNat : Int)) ∧ ∃ x : Int, h.get b (o + Int.toNat a * 1) = some (.int .i64 x) ∧ K x := by
  obtain ⟨hl, hf, rfl⟩ := i
  refine ⟨bo, 0, rfl, ⟨h0, by omega⟩, _, ?_, k⟩
  rw [get_upd, if_pos rfl, Nat.zero_add, Nat.mul_one]
  have : a.toNat < xs.length := by omega
  simp [this, List.getD_eq_getElem?_getD]
theorem mutInts_wr {bo : Nat} {n : Int} {xs : List Int} {hI h : Heap} (i : (mutInts bo n).Inv xs hI h) {a : Int} (h0 : 0 ≤ a) (h1 : a < n) {v : Int} {K : Heap → Prop} (k : ∀ h2, (mutInts bo n).Inv (xs.set a.toNat v) hI h2 → K h2) :
    ∃ b o : Nat, some (⟨bo, 0, none⟩ : Addr) = some ⟨b, o, none⟩ ∧ (0 ≤ a ∧ a < (n.toNat : Int)) ∧ SStore h b (o + Int.toNat a * 1) [.int .i64 v] K := by
  obtain ⟨hl, hf, rfl⟩ := i
  refine ⟨bo, 0, rfl, ⟨h0, by omega⟩, LM xs, by simp, by simp; omega, by simp [Value.oneCell'], k _ ⟨by rw [List.length_set]; exact hl, hf, ?_⟩⟩
  rw [upd_upd, Nat.zero_add, Nat.mul_one, splice_one _ _ _ (by simp; omega), LM, LM, ← List.map_set]

theorem S.l10Points.spec {n : Int} {A B : Option Addr} {rs xss : List (List Int)} {l c m d q : Nat} {h : Heap} (s : Rds h A rs) (hl : rs.length = l) (x : Tab h B xss) (hm : xss.length = m) (hq : q ≤ m)
    (hsok : scheduleOk n rs = true) (hok : resultsOk n rs (xss.take q) = true) :
    ACalls Try.prog S.l10Points.id [.agg #[.int .i64 n, .slice A l c], .slice B m d, .int .i64 q] h fun u h2 => Ext h h2 ∧ ∃ bo, h.fresh bo ∧ u = .slice (some ⟨bo, 0, none⟩) n.toNat n.toNat ∧ h2.own bo = some (.cells (LM (summedM (fun _ own => own) n rs (xss.take q)))) := by
  obtain ⟨k1, k2, k3, k4⟩ := scheduleOk_facts hsok
  have h0 : 0 ≤ n := by omega
  refine S.l10Points.step _ _ _ _ _ _ _ _ _ h fun b hf => ⟨n, by simp, rfl, by omega, by omega, by omega, fun bo hfo => ?_⟩
  have e := Ext.upd hf (.cells [.int .i64 n, .slice A l c])
  have hn : (h.upd b (.cells [.int .i64 n, .slice A l c])).get b (0 + 0) = some (.int .i64 n) := by simp
  have hs : (h.upd b (.cells [.int .i64 n, .slice A l c])).get b (0 + 1) = some (.slice A l c) := by simp
  have hfo' := fresh_of_upd hfo
  generalize h.upd b (.cells [.int .i64 n, .slice A l c]) = hI1 at *
  have hinv1 : (mutInts bo n).Inv (List.replicate n.toNat 0) hI1 (hI1.upd bo (.cells (List.replicate n.toNat (.int .i64 0)))) := ⟨by simp; omega, hfo, by simp [LM]⟩
  generalize hI1.upd bo (.cells (List.replicate n.toNat (.int .i64 0))) = h1 at *
  have hml : (xss.take q).length ≤ rs.length := by
    simp only [resultsOk, Bool.and_eq_true, decide_eq_true_eq] at hok; exact hok.1
  have hrows : rowsOk n rs (xss.take q) = true := by simp only [resultsOk, Bool.and_eq_true] at hok; exact hok.2
  have hql : (xss.take q).length = q := by simp; omega
  have inner : ∀ (i : Nat) (hi : i < m) (hiq : i < q) (ps : List (List Int)) (P : Option Addr) (cP : Nat) (K : Value → Heap → Prop) (hps : ∀ p ∈ ps, p.length = 2 ∧ 0 ≤ p.getD 0 0 ∧ p.getD 0 0 < p.getD 1 0 ∧ p.getD 1 0 < n) (hlen : ps.length = (xss.getD i []).length) (hbig : ps.length ≤ 14) (k j : Nat) (t : List Int) (hJ h2 : Heap),
      j + k = ps.length → Ext hI1 hJ → (mutInts bo n).Inv t hJ h2 → Tab hJ P ps →
      (∀ hK h3, Ext hI1 hK → (mutInts bo n).Inv ((evRow i (ps.drop j) ((xss.getD i []).drop j)).foldl (addAt fun _ own => own) t) hK h3 → S.l10Points.L0 K (.slice B m d) (.int .i64 q) (.pointer (some ⟨b, 0, none⟩)) (.slice (some ⟨bo, 0, none⟩) n.toNat n.toNat) (.int .i64 ((i + 1 : Nat) : Int)) h3) →
      S.l10Points.L1 K (.slice B m d) (.int .i64 q) (.pointer (some ⟨b, 0, none⟩)) (.slice (some ⟨bo, 0, none⟩) n.toNat n.toNat) (.int .i64 i) (.slice P ps.length cP) (.int .i64 j) h2 := by
    intro i hi hiq ps P cP K hps hlen hbig k
    induction k with
    | zero =>
      intro j t hJ h2 hj he hv _ hk
      refine S.l10Points.L1_step K _ _ _ _ _ _ _ _ _ _ _ _ _ _ _ (dec_split (fun hc => by omega) (fun _ => ?_))
      rw [wsucc (by omega)]
      refine hk hJ h2 he ?_
      rw [List.drop_eq_nil_of_le (by omega)]
      exact hv
    | succ k ih =>
      intro j t hJ h2 hj he hv hP hk
      have hj' : j < ps.length := by omega
      have hjx : j < (xss.getD i []).length := by omega
      obtain ⟨p2, p3, p4, p5⟩ := hps _ (List.getElem_mem hj')
      have ev := (mutInts bo n).ext _ _ _ hv
      have e1 : ps.getD (Int.toNat j) [] = ps[j] := by rw [Int.toNat_natCast, List.getD_eq_getElem?_getD, List.getElem?_eq_getElem hj']; rfl
      have e2 : (xss.getD i []).getD (Int.toNat j) 0 = (xss.getD i [])[j] := by rw [Int.toNat_natCast, List.getD_eq_getElem?_getD, List.getElem?_eq_getElem hjx]; rfl
      have r2 : Int.toNat (0 : Int) = 0 := rfl
      have r3 : Int.toNat (1 : Int) = 1 := rfl
      refine S.l10Points.L1_step K _ _ _ _ _ _ _ _ _ _ _ _ _ _ _ (dec_split (fun hc => ?_) (fun hc => by omega))
      refine (x.mono (e.trans he)).rd ev hm (by omega) (by omega) fun C dC hC _ => ?_
      rw [Int.toNat_natCast i] at hC ⊢
      refine hC.rd ev rfl (by omega) (by omega) ?_
      rw [e2]
      refine ((mutInts bo n).frame _ _ _ hv (S.l10Won.spec (h := hJ))).mono ?_
      rintro u h3 ⟨hJ', hv3, rfl, rfl⟩
      have ev3 := (mutInts bo n).ext _ _ _ hv3
      refine ⟨_, _, rfl, hP.rd ev3 rfl (by omega) (by omega) fun D dD hD _ => ?_⟩
      rw [e1] at hD ⊢
      refine hD.rd ev3 rfl (by omega) (by omega) (hP.rd ev3 rfl (by omega) (by omega) fun D2 dD2 hD2 _ => ?_)
      rw [e1] at hD2 ⊢
      refine hD2.rd ev3 rfl (by omega) (by omega) (mutInts_rd hv3 p3 (by omega) (mutInts_wr hv3 p3 (by omega) fun h4 hv4 => ?_))
      have ev4 := (mutInts bo n).ext _ _ _ hv4
      refine hP.rd ev4 rfl (by omega) (by omega) fun D3 dD3 hD3 _ => ?_
      rw [e1] at hD3 ⊢
      refine hD3.rd ev4 rfl (by omega) (by omega) (hP.rd ev4 rfl (by omega) (by omega) fun D4 dD4 hD4 _ => ?_)
      rw [e1] at hD4 ⊢
      refine hD4.rd ev4 rfl (by omega) (by omega) (mutInts_rd hv4 (by omega) p5 (mutInts_wr hv4 (by omega) p5 fun h5 hv5 => ?_))
      rw [wsucc (by omega)]
      refine ih (j + 1) _ hJ' h5 (by omega) he hv5 hP fun hK h6 eK hv6 => hk hK h6 eK ?_
      rw [List.drop_eq_getElem_cons hj', List.drop_eq_getElem_cons hjx, evRow, List.foldl_cons, List.foldl_cons]
      exact hv6
  have loop : ∀ (k i : Nat) (t : List Int) (hJ h2 : Heap) (K : Value → Heap → Prop), i + k = q → Ext hI1 hJ → (mutInts bo n).Inv t hJ h2 → rowsOk n (rs.drop i) ((xss.take q).drop i) = true →
      (∀ hK h3, Ext hI1 hK → (mutInts bo n).Inv ((evs n i (rs.drop i) ((xss.take q).drop i)).foldl (addAt fun _ own => own) t) hK h3 → K (.slice (some ⟨bo, 0, none⟩) n.toNat n.toNat) h3) →
      S.l10Points.L0 K (.slice B m d) (.int .i64 q) (.pointer (some ⟨b, 0, none⟩)) (.slice (some ⟨bo, 0, none⟩) n.toNat n.toNat) (.int .i64 i) h2 := by
    intro k
    induction k with
    | zero =>
      intro i t hJ h2 K hi he hv _ hk
      refine S.l10Points.L0_step K _ _ _ _ _ _ _ _ _ _ _ (dec_split (fun hc => by omega) (fun _ => hk hJ h2 he ?_))
      have e9 : (xss.take q).drop i = [] := List.drop_eq_nil_of_le (by omega)
      rw [e9]
      cases hd : rs.drop i <;> exact hv
    | succ k ih =>
      intro i t hJ h2 K hi he hv hro hk
      have hi' : i < (xss.take q).length := by omega
      have hir : i < rs.length := by omega
      have ev := (mutInts bo n).ext _ _ _ hv
      refine S.l10Points.L0_step K _ _ _ _ _ _ _ _ _ _ _ (dec_split (fun hc => ⟨n, ev.get (he.get hn), A, l, c, ev.get (he.get hs), ?_⟩) (fun hc => by omega))
      refine (s.mono (e.trans he)).rd ev hl (by omega) (by omega) fun hr14 => ?_
      refine ((mutInts bo n).frame _ _ _ hv (S.l01Pairs.spec hr14 h0 k2)).mono ?_
      rintro u h3 ⟨hK, hv3, eK, P, cP, rfl, hP⟩
      have e1 : rs.getD (Int.toNat i) [] = rs[i] := by rw [Int.toNat_natCast, List.getD_eq_getElem?_getD, List.getElem?_eq_getElem hir]; rfl
      have e2 : xss.getD i [] = (xss.take q)[i] := by
        rw [List.getElem_take, List.getD_eq_getElem?_getD, List.getElem?_eq_getElem (by omega)]; rfl
      rw [e1] at hP ⊢
      rw [List.drop_eq_getElem_cons hi', List.drop_eq_getElem_cons hir, evs, ← e2] at hk
      rw [List.drop_eq_getElem_cons hi', List.drop_eq_getElem_cons hir, rowsOk, Bool.and_eq_true, ← e2] at hro
      have hlen : (pairsOf n rs[i]).length = (xss.getD i []).length := by
        have := hro.1
        simp only [rowOk, Bool.and_eq_true, decide_eq_true_eq] at this
        exact this.1.symm
      have hbig : (pairsOf n rs[i]).length ≤ 14 := by have := pairsFrom_len rs[i] n.toNat 0; unfold pairsOf; omega
      refine ⟨P, _, cP, rfl, inner i (by omega) (by omega) _ P cP K (fun p hp => pairsOf_mem (k4 _ (List.getElem_mem hir)) h0 hp) hlen hbig _ 0 t hK h3 (Nat.zero_add _) (he.trans eK) hv3 hP (fun hL h4 eL hv4 => ?_)⟩
      refine ih (i + 1) _ hL h4 K (by omega) eL hv4 hro.2 fun hM h5 eM hv5 => hk hM h5 eM ?_
      rw [List.foldl_append]
      exact hv5
  refine loop q 0 _ hI1 h1 _ (by omega) (Ext.refl _) hinv1 (by simpa using hrows) fun hK h3 eK hv => ?_
  obtain ⟨hl2, fK, rfl⟩ := hv
  exact ⟨(e.trans eK).trans (Ext.upd fK _), bo, hfo', rfl, by simp [summedM]⟩

end Go.Proofs.Ytbppeajpjnlobaa
