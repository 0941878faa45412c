/- Whatever the code, the law of results answers true: points of all teams are twice the meetings played, rankings have all teams, and the teams with the most points can be first when all rounds are played; no condition. -/
import Derived.Test.YthkbodgpcjcndaaKdx27
import Derived.Test.YthkbodgpcjcndaaKdx28
import Derived.Test.YthkbodgpcjcndaaKdx34
import Derived.Test.YthkbodgpcjcndaaKdx32
/- All formulas. -/

/- Numbers in a range, rounds and schedules: what the program and its reference say of them. -/
set_option linter.unusedVariables false
set_option linter.unusedSimpArgs false
namespace Go.Proofs.Ythkbodgpcjcndaa
open Go.HL

theorem I.between.spec {n low high : Int} {h : Heap} : ACalls Try.prog I.between.id [.int .i64 n, .int .i64 low, .int .i64 high] h fun u h' => h' = h ∧ u = .bool (decide (low ≤ n) && decide (n ≤ high)) := by
  refine I.between.step _ _ _ _ h fun k hk => dec_split (fun hc => hk _ _ ⟨rfl, ?_⟩) (fun hc => hk _ _ ⟨rfl, ?_⟩)
  · simp [hc]
  · simp [hc]
theorem S.l01In.spec {n low high : Int} {h : Heap} : ACalls Try.prog S.l01In.id [.int .i64 n, .int .i64 low, .int .i64 high] h fun u h' => h' = h ∧ u = .bool (decide (low ≤ n) && decide (n ≤ high)) := by
  refine S.l01In.step _ _ _ _ h fun k hk => dec_split (fun hc => hk _ _ ⟨rfl, ?_⟩) (fun hc => hk _ _ ⟨rfl, ?_⟩)
  · simp [hc]
  · simp [hc]

/-- What is asked of the place a of a round of n teams. -/
def placeOk (n : Int) (r : List Int) (a : Nat) : Bool :=
  if n ≤ a then decide (r.getD a 0 = 0) else decide (0 ≤ r.getD a 0) && decide (r.getD a 0 ≤ n - 1) && decide (r.getD (r.getD a 0).toNat 0 = a)
def roundOk (n : Int) (r : List Int) : Bool := decide (2 ≤ n) && decide (n ≤ 14) && (List.range' 0 14).all (placeOk n r)

theorem rd14 {h : Heap} {b : Nat} {r : List Int} (hr : r.length = 14) (hg : ∀ (i : Nat) (v : Value), (LM r)[i]? = some v → h.get b i = some v) {n : Int} (h0 : 0 ≤ n) (h1 : n < 14) : h.get b (0 + Int.toNat n * 1) = some (.int .i64 (r.getD n.toNat 0)) := by
  rw [Nat.zero_add, Nat.mul_one]
  refine hg _ _ ?_
  have : n.toNat < r.length := by omega
  simp [this, List.getD_eq_getElem?_getD]

theorem rd14n {h : Heap} {b : Nat} {r : List Int} (hr : r.length = 14) (hg : ∀ (i : Nat) (v : Value), (LM r)[i]? = some v → h.get b i = some v) {i : Nat} (h1 : i < 14) : h.get b (0 + Int.toNat (i : Int) * 1) = some (.int .i64 (r.getD i 0)) := rd14 hr hg (by omega) (by omega)

theorem I.IsRound.spec {n : Int} {r : List Int} (hr : r.length = 14) {h : Heap} : ACalls Try.prog I.IsRound.id [.int .i64 n, .agg (LM r).toArray] h fun u h' => Ext h h' ∧ u = .bool (roundOk n r) := by
  refine I.IsRound.step _ _ _ h fun b hf => I.between.spec.mono ?_
  rintro u h' ⟨rfl, rfl⟩
  refine ⟨_, rfl, nbool_split (fun hc => ⟨Ext.upd hf _, by simp only [roundOk, hc, Bool.false_and]⟩) (fun hc => ⟨r, hr, ?_, ?_⟩)⟩
  · have := getN_of (h := h.upd b (.cells (LM r))) (b := b) (o := 0) (n := 14) (vs := LM r) (by simp [hr]) (fun i v hv => by simpa using hv)
    exact this
  simp only [Bool.and_eq_true, decide_eq_true_eq] at hc
  have hg : ∀ (i : Nat) (v : Value), (LM r)[i]? = some v → (h.upd b (.cells (LM r))).get b i = some v := fun i v hv => by simpa using hv
  have he : Ext h (h.upd b (.cells (LM r))) := Ext.upd hf _
  have e0 : roundOk n r = (List.range' 0 14).all (placeOk n r) := by simp [roundOk, hc]
  rw [e0]
  generalize h.upd b (.cells (LM r)) = h1 at *
  have loop : ∀ (m i : Nat) (K : Value → Heap → Prop), i + m = 14 → K (.bool ((List.range' i m).all (placeOk n r))) h1 → I.IsRound.L0 K (.int .i64 n) (.pointer (some ⟨b, 0, none⟩)) (.agg (LM r).toArray) (.int .i64 i) h1 := by
    intro m
    induction m with
    | zero =>
      intro i K hi hk
      refine I.IsRound.L0_step K _ _ _ _ _ _ (dec_split (fun hc => by omega) (fun _ => ?_))
      simpa using hk
    | succ m ih =>
      intro i K hi hk
      have hi' : i < r.length := by omega
      have hgi : (LM r).toArray[Int.toNat (i : Int) * 1]? = some (.int .i64 (r.getD i 0)) := by simp [hi', List.getD_eq_getElem?_getD]
      rw [List.range'_succ, List.all_cons] at hk
      have next : placeOk n r i = true → I.IsRound.L0 K (.int .i64 n) (.pointer (some ⟨b, 0, none⟩)) (.agg (LM r).toArray) (.int .i64 (IntKind.wrap .i64 (i + (1 : Int)))) h1 := by
        intro hp
        rw [wsucc (by omega)]
        exact ih (i + 1) K (by omega) (by simpa [hp] using hk)
      have stop : placeOk n r i = false → K (.bool false) h1 := by
        intro hp
        simpa [hp] using hk
      refine I.IsRound.L0_step K _ _ _ _ _ _ (dec_split (fun hc1 => ⟨r.getD i 0, by rw [if_pos ⟨by omega, by omega⟩]; exact hgi, ?_⟩) (fun hc => by omega))
      intro k15 hk15
      refine dec_split (fun h15 => hk15 _ _ ?_) (fun h15 => hk15 _ _ ?_)
      · intro k18 hk18
        have hp : placeOk n r i = decide (r.getD i 0 = 0) := by simp [placeOk, h15]
        refine ndec_split (fun h0 => hk18 _ _ (bool_split (fun _ => stop (by rw [hp]; simpa using h0)) (fun hh => by cases hh)))
          (fun h0 => dec_split (fun hlt => by omega) (fun _ => hk18 _ _ (bool_split (fun hh => by cases hh) (fun _ => next (by rw [hp]; simpa using h0)))))
      · intro k18 hk18
        refine bool_split (fun hh => by cases hh) (fun _ => dec_split (fun hlt => ?_) (fun hlt => by omega))
        have hw : IntKind.wrap .i64 (n - (1 : Int)) = n - 1 := w64 (by omega) (by omega)
        rw [hw]
        refine I.between.spec.mono ?_
        rintro u h' ⟨rfl, rfl⟩
        have hp : placeOk n r i = (decide (0 ≤ r.getD i 0) && decide (r.getD i 0 ≤ n - 1) && decide (r.getD (r.getD i 0).toNat 0 = i)) := by rw [placeOk, if_neg h15]
        refine ⟨_, rfl, nbool_split (fun hh => hk18 _ _ (bool_split (fun _ => stop (by rw [hp, hh]; rfl)) (fun hh => by cases hh))) (fun hh => ?_)⟩
        rw [hh, Bool.true_and] at hp
        simp only [Bool.and_eq_true, decide_eq_true_eq] at hh
        refine ⟨⟨by omega, by omega⟩, _, rd14 hr hg hh.1 (by omega), hk18 _ _ (ndec_split (fun hne => stop (by rw [hp]; simpa using hne)) (fun heq => next (by rw [hp]; simpa using heq)))⟩
  exact loop 14 0 _ rfl ⟨he, rfl⟩

end Go.Proofs.Ythkbodgpcjcndaa

/- Rounds and schedules, as the reference and the library tell them. -/
set_option linter.unusedVariables false
set_option linter.unusedSimpArgs false
namespace Go.Proofs.Ythkbodgpcjcndaa
open Go.HL

theorem S.l01Round.spec {n : Int} {r : List Int} (hr : r.length = 14) {h : Heap} : ACalls Try.prog S.l01Round.id [.int .i64 n, .agg (LM r).toArray] h fun u h' => Ext h h' ∧ u = .bool (roundOk n r) := by
  refine S.l01Round.step _ _ _ h fun b hf => S.l01In.spec.mono ?_
  rintro u h' ⟨rfl, rfl⟩
  refine ⟨_, rfl, nbool_split (fun hc => ⟨Ext.upd hf _, by simp only [roundOk, hc, Bool.false_and]⟩) (fun hc => ?_)⟩
  simp only [Bool.and_eq_true, decide_eq_true_eq] at hc
  have hg : ∀ (i : Nat) (v : Value), (LM r)[i]? = some v → (h.upd b (.cells (LM r))).get b i = some v := fun i v hv => by simpa using hv
  have he : Ext h (h.upd b (.cells (LM r))) := Ext.upd hf _
  have e0 : roundOk n r = (List.range' 0 14).all (placeOk n r) := by simp [roundOk, hc]
  rw [e0]
  generalize h.upd b (.cells (LM r)) = h1 at *
  have loop : ∀ (m i : Nat) (K : Value → Heap → Prop), i + m = 14 → K (.bool ((List.range' i m).all (placeOk n r))) h1 → S.l01Round.L0 K (.int .i64 n) (.pointer (some ⟨b, 0, none⟩)) (.int .i64 i) h1 := by
    intro m
    induction m with
    | zero =>
      intro i K hi hk
      refine S.l01Round.L0_step K _ _ _ _ _ (dec_split (fun hc => by omega) (fun _ => ?_))
      simpa using hk
    | succ m ih =>
      intro i K hi hk
      rw [List.range'_succ, List.all_cons] at hk
      have next : placeOk n r i = true → S.l01Round.L0 K (.int .i64 n) (.pointer (some ⟨b, 0, none⟩)) (.int .i64 (IntKind.wrap .i64 (i + (1 : Int)))) h1 := by
        intro hp
        rw [wsucc (by omega)]
        exact ih (i + 1) K (by omega) (by simpa [hp] using hk)
      have stop : placeOk n r i = false → K (.bool false) h1 := by
        intro hp
        simpa [hp] using hk
      refine S.l01Round.L0_step K _ _ _ _ _ (dec_split (fun hc1 => ?_) (fun hc => by omega))
      intro k15 hk15
      refine dec_split (fun h15 => ⟨⟨by omega, by omega⟩, _, rd14n hr hg (by omega), hk15 _ _ ?_⟩) (fun h15 => hk15 _ _ ?_)
      · intro k18 hk18
        have hp : placeOk n r i = decide (r.getD i 0 = 0) := by simp [placeOk, h15]
        refine ndec_split (fun h0 => hk18 _ _ (bool_split (fun _ => stop (by rw [hp]; simpa using h0)) (fun hh => by cases hh)))
          (fun h0 => dec_split (fun hlt => by omega) (fun _ => hk18 _ _ (bool_split (fun hh => by cases hh) (fun _ => next (by rw [hp]; simpa using h0)))))
      · intro k18 hk18
        refine bool_split (fun hh => by cases hh) (fun _ => dec_split (fun hlt => ⟨⟨by omega, by omega⟩, _, rd14n hr hg (by omega), ?_⟩) (fun hlt => by omega))
        have hw : IntKind.wrap .i64 (n - (1 : Int)) = n - 1 := w64 (by omega) (by omega)
        rw [hw]
        refine S.l01In.spec.mono ?_
        rintro u h' ⟨rfl, rfl⟩
        have hp : placeOk n r i = (decide (0 ≤ r.getD i 0) && decide (r.getD i 0 ≤ n - 1) && decide (r.getD (r.getD i 0).toNat 0 = i)) := by rw [placeOk, if_neg h15]
        refine ⟨_, rfl, nbool_split (fun hh => hk18 _ _ (bool_split (fun _ => stop (by rw [hp, hh]; rfl)) (fun hh => by cases hh))) (fun hh => ?_)⟩
        simp only [Bool.and_eq_true, decide_eq_true_eq] at hh
        have hp2 : placeOk n r i = decide (r.getD (r.getD i 0).toNat 0 = i) := by rw [hp, decide_eq_true hh.1, decide_eq_true hh.2]; rfl
        refine ⟨⟨by omega, by omega⟩, _, rd14n hr hg (by omega), ⟨by omega, by omega⟩, _, rd14 hr hg (by omega) (by omega), hk18 _ _ (ndec_split (fun hne => stop (by rw [hp2]; simpa using hne)) (fun heq => next (by rw [hp2]; simpa using heq)))⟩
  exact loop 14 0 _ rfl ⟨he, rfl⟩

/-- The place of the first one. -/
def firstIdx {α : Type} (p : α → Bool) : Nat → List α → Int
  | _, [] => -1
  | i, x :: xs => if p x then i else firstIdx p (i + 1) xs
theorem firstIdx_any {α : Type} (p : α → Bool) : ∀ (i : Nat) (xs : List α), decide ((0 : Int) ≤ firstIdx p i xs) = xs.any p
  | i, [] => by simp [firstIdx]
  | i, x :: xs => by
    rw [firstIdx]
    cases hx : p x
    · simpa [hx] using firstIdx_any p (i + 1) xs
    · simp [hx]

theorem slices.IndexFunc_SI_Round_I_Round.spec {A : Option Addr} {rs : List (List Int)} {l c : Nat} {f : FuncId} {caps : Array Value} {p : List Int → Bool} {h : Heap} (s : Rds h A rs) (hl : rs.length = l) (hb : l ≤ 1048576)
    (hp : ∀ h1, Ext h h1 → ∀ r ∈ rs, ACalls Try.prog f ([.agg (LM r).toArray] ++ caps.toList) h1 fun u h2 => Ext h1 h2 ∧ u = .bool (p r)) :
    ACalls Try.prog slices.IndexFunc_SI_Round_I_Round.id [.slice A l c, .func (.func f) #[] caps] h fun u h2 => Ext h h2 ∧ u = .int .i64 (firstIdx p 0 rs) := by
  refine slices.IndexFunc_SI_Round_I_Round.step _ _ _ _ _ _ h ?_
  have loop : ∀ (m i : Nat) (h1 : Heap) (K : Value → Heap → Prop), i + m = l → Ext h h1 → (∀ h2, Ext h h2 → K (.int .i64 (firstIdx p i (rs.drop i))) h2) →
      slices.IndexFunc_SI_Round_I_Round.L0 K (.slice A l c) (.func (.func f) #[] caps) (.int .i64 l) (.int .i64 i) h1 := by
    intro m
    induction m with
    | zero =>
      intro i h1 K hi he hk
      refine slices.IndexFunc_SI_Round_I_Round.L0_step K _ _ _ _ _ _ _ _ (dec_split (fun hc => by omega) (fun _ => ?_))
      have := hk h1 he
      rwa [List.drop_eq_nil_of_le (by omega)] at this
    | succ m ih =>
      intro i h1 K hi he hk
      have hi' : i < rs.length := by omega
      refine slices.IndexFunc_SI_Round_I_Round.L0_step K _ _ _ _ _ _ _ _ (dec_split (fun hc => ?_) (fun hc => by omega))
      refine s.rd he hl (by omega) (by omega) fun _ => ?_
      have e1 : rs.getD (Int.toNat i) [] = rs[i] := by simp [List.getD_eq_getElem?_getD, hi']
      rw [e1]
      refine (hp h1 he _ (List.getElem_mem hi')).mono ?_
      rintro u h2 ⟨e2, rfl⟩
      rw [List.drop_eq_getElem_cons hi', firstIdx] at hk
      refine ⟨_, rfl, bool_split (fun ht => ?_) (fun hf => ?_)⟩
      · have := hk h2 (he.trans e2)
        rwa [if_pos ht] at this
      · rw [wsucc (by omega)]
        refine ih (i + 1) h2 K (by omega) (he.trans e2) fun h3 e3 => ?_
        have := hk h3 e3
        rwa [if_neg (by simp [hf])] at this
  exact loop l 0 h _ (by omega) (Ext.refl _) fun h2 e2 => ⟨e2, rfl⟩
theorem slices.ContainsFunc_SI_Round_I_Round.spec {A : Option Addr} {rs : List (List Int)} {l c : Nat} {f : FuncId} {caps : Array Value} {p : List Int → Bool} {h : Heap} (s : Rds h A rs) (hl : rs.length = l) (hb : l ≤ 1048576)
    (hp : ∀ h1, Ext h h1 → ∀ r ∈ rs, ACalls Try.prog f ([.agg (LM r).toArray] ++ caps.toList) h1 fun u h2 => Ext h1 h2 ∧ u = .bool (p r)) :
    ACalls Try.prog slices.ContainsFunc_SI_Round_I_Round.id [.slice A l c, .func (.func f) #[] caps] h fun u h2 => Ext h h2 ∧ u = .bool (rs.any p) := by
  refine slices.ContainsFunc_SI_Round_I_Round.step _ _ _ _ _ _ h ((slices.IndexFunc_SI_Round_I_Round.spec s hl hb hp).mono ?_)
  rintro u h2 ⟨e2, rfl⟩
  exact ⟨_, rfl, e2, by rw [firstIdx_any]⟩

theorem slices.IndexFunc_Sint64_int64.spec {A : Option Addr} {xs : List Int} {l c : Nat} {f : FuncId} {caps : Array Value} {p : Int → Bool} {h : Heap} (s : Ints h A xs) (hl : xs.length = l) (hb : l ≤ 1048576)
    (hp : ∀ h1, Ext h h1 → ∀ x ∈ xs, ACalls Try.prog f ([.int .i64 x] ++ caps.toList) h1 fun u h2 => Ext h1 h2 ∧ u = .bool (p x)) :
    ACalls Try.prog slices.IndexFunc_Sint64_int64.id [.slice A l c, .func (.func f) #[] caps] h fun u h2 => Ext h h2 ∧ u = .int .i64 (firstIdx p 0 xs) := by
  refine slices.IndexFunc_Sint64_int64.step _ _ _ _ _ _ h ?_
  have loop : ∀ (m i : Nat) (h1 : Heap) (K : Value → Heap → Prop), i + m = l → Ext h h1 → (∀ h2, Ext h h2 → K (.int .i64 (firstIdx p i (xs.drop i))) h2) →
      slices.IndexFunc_Sint64_int64.L0 K (.slice A l c) (.func (.func f) #[] caps) (.int .i64 l) (.int .i64 i) h1 := by
    intro m
    induction m with
    | zero =>
      intro i h1 K hi he hk
      refine slices.IndexFunc_Sint64_int64.L0_step K _ _ _ _ _ _ _ _ (dec_split (fun hc => by omega) (fun _ => ?_))
      have := hk h1 he
      rwa [List.drop_eq_nil_of_le (by omega)] at this
    | succ m ih =>
      intro i h1 K hi he hk
      have hi' : i < xs.length := by omega
      refine slices.IndexFunc_Sint64_int64.L0_step K _ _ _ _ _ _ _ _ (dec_split (fun hc => ?_) (fun hc => by omega))
      refine s.rd he hl (by omega) (by omega) ?_
      have e1 : xs.getD (Int.toNat i) 0 = xs[i] := by simp [List.getD_eq_getElem?_getD, hi']
      rw [e1]
      refine (hp h1 he _ (List.getElem_mem hi')).mono ?_
      rintro u h2 ⟨e2, rfl⟩
      rw [List.drop_eq_getElem_cons hi', firstIdx] at hk
      refine ⟨_, rfl, bool_split (fun ht => ?_) (fun hf => ?_)⟩
      · have := hk h2 (he.trans e2)
        rwa [if_pos ht] at this
      · rw [wsucc (by omega)]
        refine ih (i + 1) h2 K (by omega) (he.trans e2) fun h3 e3 => ?_
        have := hk h3 e3
        rwa [if_neg (by simp [hf])] at this
  exact loop l 0 h _ (by omega) (Ext.refl _) fun h2 e2 => ⟨e2, rfl⟩
theorem slices.ContainsFunc_Sint64_int64.spec {A : Option Addr} {xs : List Int} {l c : Nat} {f : FuncId} {caps : Array Value} {p : Int → Bool} {h : Heap} (s : Ints h A xs) (hl : xs.length = l) (hb : l ≤ 1048576)
    (hp : ∀ h1, Ext h h1 → ∀ x ∈ xs, ACalls Try.prog f ([.int .i64 x] ++ caps.toList) h1 fun u h2 => Ext h1 h2 ∧ u = .bool (p x)) :
    ACalls Try.prog slices.ContainsFunc_Sint64_int64.id [.slice A l c, .func (.func f) #[] caps] h fun u h2 => Ext h h2 ∧ u = .bool (xs.any p) := by
  refine slices.ContainsFunc_Sint64_int64.step _ _ _ _ _ _ h ((slices.IndexFunc_Sint64_int64.spec s hl hb hp).mono ?_)
  rintro u h2 ⟨e2, rfl⟩
  exact ⟨_, rfl, e2, by rw [firstIdx_any]⟩
theorem slices.Index_Sint64_int64.spec {A : Option Addr} {xs : List Int} {l c : Nat} {x : Int} {h hI : Heap} (s : Ints hI A xs) (e : Ext hI h) (hl : xs.length = l) (hb : l ≤ 1048576) :
    ACalls Try.prog slices.Index_Sint64_int64.id [.slice A l c, .int .i64 x] h fun u h2 => h2 = h ∧ u = .int .i64 (firstIdx (fun y => decide (x = y)) 0 xs) := by
  refine slices.Index_Sint64_int64.step _ _ _ _ _ h ?_
  have loop : ∀ (m i : Nat) (K : Value → Heap → Prop), i + m = l → (K (.int .i64 (firstIdx (fun y => decide (x = y)) i (xs.drop i))) h) →
      slices.Index_Sint64_int64.L0 K (.slice A l c) (.int .i64 x) (.int .i64 l) (.int .i64 i) h := by
    intro m
    induction m with
    | zero =>
      intro i K hi hk
      refine slices.Index_Sint64_int64.L0_step K _ _ _ _ _ _ _ (dec_split (fun hc => by omega) (fun _ => ?_))
      rwa [List.drop_eq_nil_of_le (by omega)] at hk
    | succ m ih =>
      intro i K hi hk
      have hi' : i < xs.length := by omega
      refine slices.Index_Sint64_int64.L0_step K _ _ _ _ _ _ _ (dec_split (fun hc => ?_) (fun hc => by omega))
      refine s.rd e hl (by omega) (by omega) ?_
      have e1 : xs.getD (Int.toNat i) 0 = xs[i] := by simp [List.getD_eq_getElem?_getD, hi']
      rw [e1]
      rw [List.drop_eq_getElem_cons hi', firstIdx] at hk
      refine dec_split (fun ht => ?_) (fun hf => ?_)
      · rwa [if_pos (by simpa using ht)] at hk
      · rw [wsucc (by omega)]
        refine ih (i + 1) K (by omega) ?_
        rwa [if_neg (by simpa using hf)] at hk
  exact loop l 0 _ (by omega) ⟨rfl, rfl⟩

end Go.Proofs.Ythkbodgpcjcndaa

/- Schedules, their pairs and their results. -/
set_option linter.unusedVariables false
set_option linter.unusedSimpArgs false
namespace Go.Proofs.Ythkbodgpcjcndaa
open Go.HL

def scheduleOk (n : Int) (rs : List (List Int)) : Bool := decide (2 ≤ n) && decide (n ≤ 14) && decide (rs.length ≤ 40) && rs.all (roundOk n)

theorem I.IsSchedule.c1.spec {n : Int} {r : List Int} (hr : r.length = 14) {h : Heap} {b : Nat} (hg : h.get b 0 = some (.int .i64 n)) :
    ACalls Try.prog I.IsSchedule.c1.id [.agg (LM r).toArray, .pointer (some ⟨b, 0, none⟩)] h fun u h2 => Ext h h2 ∧ u = .bool (!roundOk n r) := by
  refine I.IsSchedule.c1.step _ _ _ _ h fun b3 hf => ?_
  have e := Ext.upd hf (.cells (LM r))
  refine ⟨n, e.get hg, r, hr, getN_of (vs := LM r) (by simp [hr]) (fun i v hv => by simpa using hv), (I.IsRound.spec hr).mono ?_⟩
  rintro u h2 ⟨e2, rfl⟩
  exact ⟨_, rfl, e.trans e2, rfl⟩

theorem I.IsSchedule.spec {n : Int} {A : Option Addr} {rs : List (List Int)} {l c : Nat} {h : Heap} (s : Rds h A rs) (hl : rs.length = l) :
    ACalls Try.prog I.IsSchedule.id [.agg #[.int .i64 n, .slice A l c]] h fun u h2 => Ext h h2 ∧ u = .bool (scheduleOk n rs) := by
  refine I.IsSchedule.step _ _ _ _ _ h fun b hf => ⟨n, by simp, I.between.spec.mono ?_⟩
  rintro u h' ⟨rfl, rfl⟩
  have e := Ext.upd hf (.cells [.int .i64 n, .slice A l c])
  have hn : (h.upd b (.cells [.int .i64 n, .slice A l c])).get b 0 = some (.int .i64 n) := by simp
  have hs : (h.upd b (.cells [.int .i64 n, .slice A l c])).get b 1 = some (.slice A l c) := by simp
  generalize h.upd b (.cells [.int .i64 n, .slice A l c]) = h1 at *
  refine ⟨_, rfl, fun k9 hk9 => bool_split (fun ht => ⟨A, l, c, hs, hk9 _ _ ?_⟩) (fun ht => hk9 _ _ ?_)⟩
  · intro k13 hk13
    refine dec_split (fun hl40 => ⟨A, l, c, hs, ?_⟩) (fun hl40 => hk13 _ _ ⟨e, ?_⟩)
    · refine (slices.ContainsFunc_SI_Round_I_Round.spec (p := fun r => !roundOk n r) (s.mono e) hl (by omega) (fun h2 e2 r hr => I.IsSchedule.c1.spec (s.2 r hr) (e2.get hn))).mono ?_
      rintro u h2 ⟨e2, rfl⟩
      refine ⟨_, rfl, hk13 _ _ ⟨e.trans e2, ?_⟩⟩
      have : decide (rs.length ≤ 40) = true := by simp; omega
      rw [scheduleOk, ht, this, Bool.true_and, Bool.true_and, List.not_any_eq_all_not]
      simp
    · have : decide (rs.length ≤ 40) = false := by simp; omega
      rw [scheduleOk, this]; simp
  · intro k13 hk13
    refine bool_split (fun hh => by cases hh) (fun _ => hk13 _ _ ⟨e, ?_⟩)
    rw [scheduleOk, ht]; simp

theorem S.l01Is.spec {n : Int} {A : Option Addr} {rs : List (List Int)} {l c : Nat} {h : Heap} (s : Rds h A rs) (hl : rs.length = l) :
    ACalls Try.prog S.l01Is.id [.agg #[.int .i64 n, .slice A l c]] h fun u h2 => Ext h h2 ∧ u = .bool (scheduleOk n rs) := by
  refine S.l01Is.step _ _ _ _ _ h fun b hf => ⟨n, by simp, S.l01In.spec.mono ?_⟩
  rintro u h' ⟨rfl, rfl⟩
  have e := Ext.upd hf (.cells [.int .i64 n, .slice A l c])
  have hn : (h.upd b (.cells [.int .i64 n, .slice A l c])).get b (0 + 0) = some (.int .i64 n) := by simp
  have hs : (h.upd b (.cells [.int .i64 n, .slice A l c])).get b (0 + 1) = some (.slice A l c) := by simp
  generalize h.upd b (.cells [.int .i64 n, .slice A l c]) = h1 at *
  refine ⟨_, rfl, fun k9 hk9 => nbool_split (fun ht => hk9 _ _ (bool_split (fun _ => ⟨e, by rw [scheduleOk, ht]; simp⟩) (fun hh => by cases hh))) (fun ht => ⟨A, l, c, hs, hk9 _ _ (dec_split (fun h40 => ⟨e, ?_⟩) (fun h40 => ?_))⟩)⟩
  · have : decide (rs.length ≤ 40) = false := by simp; omega
    rw [scheduleOk, this]; simp
  have h40' : decide (rs.length ≤ 40) = true := by simp; omega
  rw [scheduleOk, ht, h40', Bool.true_and, Bool.true_and]
  have loop : ∀ (m i : Nat) (h2 : Heap) (K : Value → Heap → Prop), i + m = l → Ext h1 h2 → (∀ h3, Ext h1 h3 → K (.bool ((rs.drop i).all (roundOk n))) h3) → S.l01Is.L0 K (.pointer (some ⟨b, 0, none⟩)) (.int .i64 i) h2 := by
    intro m
    induction m with
    | zero =>
      intro i h2 K hi he hk
      refine S.l01Is.L0_step K _ _ _ _ ⟨A, l, c, he.get hs, dec_split (fun hc => by omega) (fun _ => ?_)⟩
      have := hk h2 he
      rwa [List.drop_eq_nil_of_le (by omega)] at this
    | succ m ih =>
      intro i h2 K hi he hk
      have hi' : i < rs.length := by omega
      refine S.l01Is.L0_step K _ _ _ _ ⟨A, l, c, he.get hs, dec_split (fun hc => ⟨n, he.get hn, A, l, c, he.get hs, ?_⟩) (fun hc => by omega)⟩
      refine s.rd (e.trans he) hl (by omega) (by omega) fun h14 => ?_
      have e1 : rs.getD (Int.toNat i) [] = rs[i] := by simp [List.getD_eq_getElem?_getD, hi']
      rw [e1] at h14 ⊢
      refine (S.l01Round.spec h14).mono ?_
      rintro u h3 ⟨e3, rfl⟩
      rw [List.drop_eq_getElem_cons hi', List.all_cons] at hk
      refine ⟨_, rfl, nbool_split (fun hf => ?_) (fun ht => ?_)⟩
      · have := hk h3 (he.trans e3)
        rwa [hf, Bool.false_and] at this
      · rw [wsucc (by omega)]
        refine ih (i + 1) h3 K (by omega) (he.trans e3) fun h4 e4 => ?_
        have := hk h4 e4
        rwa [ht, Bool.true_and] at this
  have := loop l 0 h1 (fun u h2 => Ext h h2 ∧ u = .bool (rs.all (roundOk n))) (by omega) (Ext.refl _) fun h3 e3 => ⟨e.trans e3, by simp⟩
  exact this

/-- The pairs of a round of n teams. -/
def pairsFrom (r : List Int) : Nat → Nat → List (List Int)
  | _, 0 => []
  | a, m + 1 => if (a : Int) < r.getD a 0 then [(a : Int), r.getD a 0] :: pairsFrom r (a + 1) m else pairsFrom r (a + 1) m
def pairsOf (n : Int) (r : List Int) : List (List Int) := pairsFrom r 0 n.toNat

/-- Rows that stand in a list. -/
def Each (h : Heap) (vs : List Value) (xss : List (List Int)) : Prop := vs.length = xss.length ∧ ∀ (i : Nat) (v : Value) (xs : List Int), vs[i]? = some v → xss[i]? = some xs → IsInts h v xs
theorem Each.nil (h : Heap) : Each h [] [] := ⟨rfl, fun i v xs a => by simp at a⟩
theorem Each.mono {h h' : Heap} {vs : List Value} {xss : List (List Int)} (e : Ext h h') (s : Each h vs xss) : Each h' vs xss := ⟨s.1, fun i v xs a b => (s.2 i v xs a b).mono e⟩
theorem Each.snoc {h : Heap} {vs : List Value} {xss : List (List Int)} {v : Value} {xs : List Int} (s : Each h vs xss) (hv : IsInts h v xs) : Each h (vs ++ [v]) (xss ++ [xs]) := by
  refine ⟨by simp [s.1], fun i u ys ha hb => ?_⟩
  rw [List.getElem?_append] at ha hb
  rw [s.1] at ha
  split at ha
  · rename_i hi; rw [if_pos hi] at hb; exact s.2 i u ys ha hb
  · rename_i hi
    rw [if_neg hi] at hb
    have hj : i - xss.length = 0 := by
      have := (List.getElem?_eq_some_iff.1 ha).1
      simp at this; omega
    rw [hj] at ha hb
    simp at ha hb
    subst ha hb
    exact hv
theorem Each.tab {h : Heap} {A : Option Addr} {vs : List Value} {xss : List (List Int)} (s : Each h vs xss) (hs : Seg h A vs) : Tab h A xss := ⟨vs, hs, s.1, s.2⟩

theorem I.Round.pairs.spec {n : Int} {r : List Int} (hr : r.length = 14) (h0 : 0 ≤ n) (h14 : n ≤ 14) {h : Heap} :
    ACalls Try.prog I.Round.pairs.id [.agg (LM r).toArray, .int .i64 n] h fun u h2 => Ext h h2 ∧ ∃ A c, u = .slice A (pairsOf n r).length c ∧ Tab h2 A (pairsOf n r) := by
  refine I.Round.pairs.step _ _ _ h fun b hf b5 hf5 => ?_
  have loop : ∀ (m a : Nat) (hI h' : Heap) (A : Option Addr) (l c : Nat) (vs : List Value) (xss : List (List Int)), (a : Int) + m = n → Ext (h.upd b (.cells (LM r))) hI → Vec hI h' A l c 1 vs → Each hI vs xss → l ≤ a → xss ++ pairsFrom r a m = pairsOf n r →
      I.Round.pairs.L0 (fun u h2 => Ext h h2 ∧ ∃ A c, u = .slice A (pairsOf n r).length c ∧ Tab h2 A (pairsOf n r)) (.pointer (some ⟨b, 0, none⟩)) (.slice A l c) (.int .i64 n) (.int .i64 a) h' := by
    intro m
    induction m with
    | zero =>
      intro a hI h' A l c vs xss ha he v hE hla hx
      refine I.Round.pairs.L0_step _ _ _ _ _ _ _ _ _ (dec_split (fun hc => by omega) (fun _ => ⟨(Ext.upd hf _).trans (he.trans v.ext), A, c, ?_, ?_⟩))
      · rw [← hx, pairsFrom, List.append_nil, ← hE.1, v.len, Nat.mul_one]
      · rw [← hx, pairsFrom, List.append_nil]; exact (hE.mono v.ext).tab v.seg
    | succ m ih =>
      intro a hI h' A l c vs xss ha he v hE hla hx
      have hget : ∀ h2, Ext (h.upd b (.cells (LM r))) h2 → h2.get b (0 + Int.toNat (a : Int) * 1) = some (.int .i64 (r.getD a 0)) := fun h2 e2 => e2.get (rd14n hr (fun i v hv => by simpa using hv) (by omega))
      refine I.Round.pairs.L0_step _ _ _ _ _ _ _ _ _ (dec_split (fun hc => ⟨⟨by omega, by omega⟩, _, hget _ (he.trans v.ext), ?_⟩) (fun hc => by omega))
      rw [wsucc (by omega)]
      refine dec_split (fun hlt => ⟨⟨by omega, by omega⟩, _, hget _ (he.trans v.ext), ?_⟩) (fun hge => ?_)
      · intro b14 hf14 b16 hf16
        obtain ⟨v1, f1⟩ := v.beside hf14 (.cells [.int .i64 a, .int .i64 (r.getD a 0)])
        obtain ⟨v2, f2⟩ := v1.beside hf16 (.cells [.slice (some ⟨b14, 0, none⟩) 2 2])
        have e1 := Ext.upd f1 (.cells [.int .i64 a, .int .i64 (r.getD a 0)])
        have e2 := Ext.upd f2 (.cells [.slice (some ⟨b14, 0, none⟩) 2 2])
        refine v2.append (m := 1) (news := [.slice (some ⟨b14, 0, none⟩) 2 2]) ?_ rfl (by simp [Value.oneCell']) (by omega) (by omega) rfl fun hJ h3 A' c' eJ v3 => ?_
        · exact Seg.row (Seg.new' _ _ _) rfl
        refine ⟨A', l + 1, c', rfl, ih (a + 1) hJ h3 A' (l + 1) c' _ (xss ++ [[(a : Int), r.getD a 0]]) (by omega) (he.trans (e1.trans (e2.trans eJ))) v3 ?_ (by omega) ?_⟩
        · refine Each.snoc (hE.mono (e1.trans (e2.trans eJ))) ⟨_, 2, rfl, ?_, by simp⟩
          exact Seg.mono (e2.trans eJ) (Seg.new' _ _ _)
        · rw [← hx, pairsFrom, if_pos hlt]; simp
      · refine ih (a + 1) hI h' A l c vs xss (by omega) he v hE (by omega) ?_
        rw [← hx, pairsFrom, if_neg hge]
  have e1 := Ext.upd hf (.cells (LM r))
  refine loop n.toNat 0 _ _ _ 0 0 [] [] (by omega) (Ext.refl _) (Vec.made hf5 (by simp)) (Each.nil _) (Nat.le_refl _) rfl

end Go.Proofs.Ythkbodgpcjcndaa

/- Results of schedules, as both tell them. -/
set_option linter.unusedVariables false
set_option linter.unusedSimpArgs false
namespace Go.Proofs.Ythkbodgpcjcndaa
open Go.HL

theorem S.l01Pairs.spec {n : Int} {r : List Int} (hr : r.length = 14) (h0 : 0 ≤ n) (h14 : n ≤ 14) {h : Heap} :
    ACalls Try.prog S.l01Pairs.id [.int .i64 n, .agg (LM r).toArray] h fun u h2 => Ext h h2 ∧ ∃ A c, u = .slice A (pairsOf n r).length c ∧ Tab h2 A (pairsOf n r) := by
  refine S.l01Pairs.step _ _ _ h fun b hf b5 hf5 => ?_
  have loop : ∀ (m a : Nat) (hI h' : Heap) (A : Option Addr) (l c : Nat) (vs : List Value) (xss : List (List Int)), (a : Int) + m = n → Ext (h.upd b (.cells (LM r))) hI → Vec hI h' A l c 1 vs → Each hI vs xss → l ≤ a → xss ++ pairsFrom r a m = pairsOf n r →
      S.l01Pairs.L0 (fun u h2 => Ext h h2 ∧ ∃ A c, u = .slice A (pairsOf n r).length c ∧ Tab h2 A (pairsOf n r)) (.int .i64 n) (.pointer (some ⟨b, 0, none⟩)) (.slice A l c) (.int .i64 a) h' := by
    intro m
    induction m with
    | zero =>
      intro a hI h' A l c vs xss ha he v hE hla hx
      refine S.l01Pairs.L0_step _ _ _ _ _ _ _ _ _ (dec_split (fun hc => by omega) (fun _ => ⟨(Ext.upd hf _).trans (he.trans v.ext), A, c, ?_, ?_⟩))
      · rw [← hx, pairsFrom, List.append_nil, ← hE.1, v.len, Nat.mul_one]
      · rw [← hx, pairsFrom, List.append_nil]; exact (hE.mono v.ext).tab v.seg
    | succ m ih =>
      intro a hI h' A l c vs xss ha he v hE hla hx
      have hget : ∀ h2, Ext (h.upd b (.cells (LM r))) h2 → h2.get b (0 + Int.toNat (a : Int) * 1) = some (.int .i64 (r.getD a 0)) := fun h2 e2 => e2.get (rd14n hr (fun i v hv => by simpa using hv) (by omega))
      refine S.l01Pairs.L0_step _ _ _ _ _ _ _ _ _ (dec_split (fun hc => ⟨⟨by omega, by omega⟩, _, hget _ (he.trans v.ext), ?_⟩) (fun hc => by omega))
      rw [wsucc (by omega)]
      refine dec_split (fun hlt => ⟨⟨by omega, by omega⟩, _, hget _ (he.trans v.ext), ?_⟩) (fun hge => ?_)
      · intro b14 hf14 b16 hf16
        obtain ⟨v1, f1⟩ := v.beside hf14 (.cells [.int .i64 a, .int .i64 (r.getD a 0)])
        obtain ⟨v2, f2⟩ := v1.beside hf16 (.cells [.slice (some ⟨b14, 0, none⟩) 2 2])
        have e1 := Ext.upd f1 (.cells [.int .i64 a, .int .i64 (r.getD a 0)])
        have e2 := Ext.upd f2 (.cells [.slice (some ⟨b14, 0, none⟩) 2 2])
        refine v2.append (m := 1) (news := [.slice (some ⟨b14, 0, none⟩) 2 2]) ?_ rfl (by simp [Value.oneCell']) (by omega) (by omega) rfl fun hJ h3 A' c' eJ v3 => ?_
        · exact Seg.row (Seg.new' _ _ _) rfl
        refine ⟨A', l + 1, c', rfl, ih (a + 1) hJ h3 A' (l + 1) c' _ (xss ++ [[(a : Int), r.getD a 0]]) (by omega) (he.trans (e1.trans (e2.trans eJ))) v3 ?_ (by omega) ?_⟩
        · refine Each.snoc (hE.mono (e1.trans (e2.trans eJ))) ⟨_, 2, rfl, ?_, by simp⟩
          exact Seg.mono (e2.trans eJ) (Seg.new' _ _ _)
        · rw [← hx, pairsFrom, if_pos hlt]; simp
      · refine ih (a + 1) hI h' A l c vs xss (by omega) he v hE (by omega) ?_
        rw [← hx, pairsFrom, if_neg hge]
  have e1 := Ext.upd hf (.cells (LM r))
  refine loop n.toNat 0 _ _ _ 0 0 [] [] (by omega) (Ext.refl _) (Vec.made hf5 (by simp)) (Each.nil _) (Nat.le_refl _) rfl


theorem I.Schedule.areResults.c1.spec {x : Int} {h : Heap} : ACalls Try.prog I.Schedule.areResults.c1.id [.int .i64 x] h fun u h2 => Ext h h2 ∧ u = .bool (!(decide (0 ≤ x) && decide (x ≤ 2))) := by
  refine I.Schedule.areResults.c1.step _ _ _ (I.between.spec.mono ?_)
  rintro u h2 ⟨rfl, rfl⟩
  exact ⟨_, rfl, Ext.refl _, rfl⟩

def resOk (x : Int) : Bool := decide (0 ≤ x) && decide (x ≤ 2)
def rowOk (n : Int) (r xs : List Int) : Bool := decide (xs.length = (pairsOf n r).length) && xs.all resOk
def rowsOk (n : Int) : List (List Int) → List (List Int) → Bool
  | _, [] => true
  | [], _ :: _ => false
  | r :: rs, xs :: xss => rowOk n r xs && rowsOk n rs xss
def resultsOk (n : Int) (rs xss : List (List Int)) : Bool := decide (xss.length ≤ rs.length) && rowsOk n rs xss

theorem rowsOk_step {n : Int} {rs xss : List (List Int)} {i : Nat} (hi : i < xss.length) (hl : xss.length ≤ rs.length) :
    rowsOk n (rs.drop i) (xss.drop i) = (rowOk n (rs.getD i []) (xss.getD i []) && rowsOk n (rs.drop (i + 1)) (xss.drop (i + 1))) := by
  have hi' : i < rs.length := by omega
  rw [List.drop_eq_getElem_cons hi, List.drop_eq_getElem_cons hi', rowsOk]
  simp [List.getD_eq_getElem?_getD, hi, hi']

theorem any_res (xs : List Int) : (xs.any fun x => !(decide (0 ≤ x) && decide (x ≤ 2))) = !xs.all resOk := by
  rw [List.not_all_eq_any_not]; rfl

theorem I.Schedule.areResults.spec {n : Int} {A B : Option Addr} {rs xss : List (List Int)} {l c m d : Nat} {h : Heap} (s : Rds h A rs) (hl : rs.length = l) (hb : l ≤ 40) (h0 : 0 ≤ n) (h14 : n ≤ 14) (x : Tab h B xss) (hm : xss.length = m) (hx : ∀ xs ∈ xss, xs.length ≤ 1048576) :
    ACalls Try.prog I.Schedule.areResults.id [.agg #[.int .i64 n, .slice A l c], .slice B m d] h fun u h2 => Ext h h2 ∧ u = .bool (resultsOk n rs xss) := by
  refine I.Schedule.areResults.step _ _ _ _ _ _ _ _ h fun b hf => ⟨A, l, c, by simp, dec_split (fun hc => ⟨Ext.upd hf _, ?_⟩) (fun hc => ?_)⟩
  · have : decide (xss.length ≤ rs.length) = false := by simp; omega
    rw [resultsOk, this]; rfl
  have hml : xss.length ≤ rs.length := by omega
  have e := Ext.upd hf (.cells [.int .i64 n, .slice A l c])
  have hn : (h.upd b (.cells [.int .i64 n, .slice A l c])).get b (0 + 0) = some (.int .i64 n) := by simp
  have hs : (h.upd b (.cells [.int .i64 n, .slice A l c])).get b (0 + 1) = some (.slice A l c) := by simp
  generalize h.upd b (.cells [.int .i64 n, .slice A l c]) = h1 at *
  have e0 : resultsOk n rs xss = rowsOk n rs xss := by rw [resultsOk, decide_eq_true hml]; rfl
  rw [e0]
  have loop : ∀ (k i : Nat) (h2 : Heap) (K : Value → Heap → Prop), i + k = m → Ext h1 h2 → (∀ h3, Ext h1 h3 → K (.bool (rowsOk n (rs.drop i) (xss.drop i))) h3) →
      I.Schedule.areResults.L0 K (.pointer (some ⟨b, 0, none⟩)) (.slice B m d) (.int .i64 m) (.int .i64 i) h2 := by
    intro k
    induction k with
    | zero =>
      intro i h2 K hi he hk
      refine I.Schedule.areResults.L0_step K _ _ _ _ _ _ _ _ (dec_split (fun hc => by omega) (fun _ => ?_))
      have := hk h2 he
      have e9 : xss.drop i = [] := List.drop_eq_nil_of_le (by omega)
      rw [e9] at this
      cases hd : rs.drop i <;> rw [hd] at this <;> exact this
    | succ k ih =>
      intro i h2 K hi he hk
      have hi' : i < xss.length := by omega
      rw [rowsOk_step hi' hml] at hk
      refine I.Schedule.areResults.L0_step K _ _ _ _ _ _ _ _ (dec_split (fun hc => ?_) (fun hc => by omega))
      refine x.rd (e.trans he) hm (by omega) (by omega) fun C d2 hC hd2 => ⟨A, l, c, he.get hs, ?_⟩
      refine s.rd (e.trans he) hl (by omega) (by omega) fun hr14 => ⟨n, he.get hn, (I.Round.pairs.spec hr14 h0 h14).mono ?_⟩
      rintro u h3 ⟨e3, P, cP, rfl, hP⟩
      rw [Int.toNat_natCast] at *
      have next : ∀ h4, Ext h1 h4 → rowOk n (rs.getD i []) (xss.getD i []) = true → I.Schedule.areResults.L0 K (.pointer (some ⟨b, 0, none⟩)) (.slice B m d) (.int .i64 m) (.int .i64 (IntKind.wrap .i64 (i + (1 : Int)))) h4 := by
        intro h4 e4 ho
        rw [wsucc (by omega)]
        refine ih (i + 1) h4 K (by omega) e4 fun h5 e5 => ?_
        have := hk h5 e5
        rwa [ho, Bool.true_and] at this
      have stop : ∀ h4, Ext h1 h4 → rowOk n (rs.getD i []) (xss.getD i []) = false → K (.bool false) h4 := by
        intro h4 e4 ho
        have := hk h4 e4
        rwa [ho, Bool.false_and] at this
      refine ⟨P, _, cP, rfl, fun k23 hk23 => ndec_split (fun hne => hk23 _ _ (bool_split (fun _ => stop _ (he.trans e3) ?_) (fun hh => by cases hh))) (fun heq => ?_)⟩
      · have : decide ((xss.getD i []).length = (pairsOf n (rs.getD i [])).length) = false := by simp only [decide_eq_false_iff_not]; omega
        rw [rowOk, this]; rfl
      · have hlen : decide ((xss.getD i []).length = (pairsOf n (rs.getD i [])).length) = true := by simp only [decide_eq_true_eq]; omega
        have hmem : xss.getD i [] ∈ xss := by rw [List.getD_eq_getElem?_getD, List.getElem?_eq_getElem hi']; exact List.getElem_mem hi'
        refine (slices.ContainsFunc_Sint64_int64.spec (hC.mono ((e.trans he).trans e3)) rfl (hx _ hmem) (fun h4 e4 y hy => I.Schedule.areResults.c1.spec)).mono ?_
        rintro u h4 ⟨e4, rfl⟩
        rw [any_res]
        refine ⟨_, rfl, hk23 _ _ (nbool_split (fun hh => stop _ ((he.trans e3).trans e4) (by rw [rowOk, hlen, hh]; rfl)) (fun hh => next _ ((he.trans e3).trans e4) (by rw [rowOk, hlen, hh]; rfl)))⟩
  exact loop m 0 h1 _ (by omega) (Ext.refl _) fun h3 e3 => ⟨e.trans e3, by simp⟩

end Go.Proofs.Ythkbodgpcjcndaa

/- The codes of schedules with results. -/
set_option linter.unusedVariables false
set_option linter.unusedSimpArgs false
namespace Go.Proofs.Ythkbodgpcjcndaa
open Go.HL

theorem S.l10Is.spec {n : Int} {A B : Option Addr} {rs xss : List (List Int)} {l c m d : Nat} {h : Heap} (s : Rds h A rs) (hl : rs.length = l) (hb : l ≤ 40) (h0 : 0 ≤ n) (h14 : n ≤ 14) (x : Tab h B xss) (hm : xss.length = m) (hx : ∀ xs ∈ xss, xs.length ≤ 1048576) :
    ACalls Try.prog S.l10Is.id [.agg #[.int .i64 n, .slice A l c], .slice B m d] h fun u h2 => Ext h h2 ∧ u = .bool (resultsOk n rs xss) := by
  refine S.l10Is.step _ _ _ _ _ _ _ _ h fun b hf => ⟨A, l, c, by simp, dec_split (fun hc => ⟨Ext.upd hf _, ?_⟩) (fun hc => ?_)⟩
  · have : decide (xss.length ≤ rs.length) = false := by simp; omega
    rw [resultsOk, this]; rfl
  have hml : xss.length ≤ rs.length := by omega
  have e := Ext.upd hf (.cells [.int .i64 n, .slice A l c])
  have hn : (h.upd b (.cells [.int .i64 n, .slice A l c])).get b (0 + 0) = some (.int .i64 n) := by simp
  have hs : (h.upd b (.cells [.int .i64 n, .slice A l c])).get b (0 + 1) = some (.slice A l c) := by simp
  generalize h.upd b (.cells [.int .i64 n, .slice A l c]) = h1 at *
  have e0 : resultsOk n rs xss = rowsOk n rs xss := by rw [resultsOk, decide_eq_true hml]; rfl
  rw [e0]
  -- the rows' own loop
  have inner : ∀ (i : Nat) (hi : i < xss.length) (K : Value → Heap → Prop) (k j : Nat) (h2 : Heap), j + k = (xss.getD i []).length → Ext h1 h2 →
      (∀ h3, Ext h1 h3 → ((xss.getD i []).drop j).all resOk = false → K (.bool false) h3) →
      (∀ h3, Ext h1 h3 → ((xss.getD i []).drop j).all resOk = true → S.l10Is.L0 K (.slice B m d) (.pointer (some ⟨b, 0, none⟩)) (.int .i64 ((i + 1 : Nat) : Int)) h3) →
      S.l10Is.L1 K (.slice B m d) (.pointer (some ⟨b, 0, none⟩)) (.int .i64 i) (.int .i64 j) h2 := by
    intro i hi K k
    induction k with
    | zero =>
      intro j h2 hj he hkf hkt
      refine S.l10Is.L1_step K _ _ _ _ _ _ _ _ (x.rd (e.trans he) hm (by omega) (by omega) fun C d2 hC hd2 => dec_split (fun hc => by rw [Int.toNat_natCast] at hc; omega) (fun _ => ?_))
      rw [wsucc (by omega)]
      exact hkt h2 he (by rw [List.drop_eq_nil_of_le (by omega)]; rfl)
    | succ k ih =>
      intro j h2 hj he hkf hkt
      have hj' : j < (xss.getD i []).length := by omega
      have hmem : xss.getD i [] ∈ xss := by rw [List.getD_eq_getElem?_getD, List.getElem?_eq_getElem hi]; exact List.getElem_mem hi
      have hbig := hx _ hmem
      refine S.l10Is.L1_step K _ _ _ _ _ _ _ _ (x.rd (e.trans he) hm (by omega) (by omega) fun C d2 hC hd2 => dec_split (fun hc => ?_) (fun hc => by rw [Int.toNat_natCast] at hc; omega))
      refine x.rd (e.trans he) hm (by omega) (by omega) fun C d2 hC hd2 => ?_
      rw [Int.toNat_natCast] at hC hd2 ⊢
      refine hC.rd (e.trans he) rfl (by omega) (by omega) (S.l01In.spec.mono ?_)
      rintro u h3 ⟨rfl, rfl⟩
      have e1 : (xss.getD i []).getD (Int.toNat j) 0 = (xss.getD i [])[j] := by rw [Int.toNat_natCast, List.getD_eq_getElem?_getD, List.getElem?_eq_getElem hj']; rfl
      rw [e1]
      rw [List.drop_eq_getElem_cons hj', List.all_cons] at hkf hkt
      refine ⟨_, rfl, nbool_split (fun hf => hkf h3 he (by rw [resOk, hf]; rfl)) (fun ht => ?_)⟩
      rw [wsucc (by omega)]
      have ho : resOk (xss.getD i [])[j] = true := ht
      rw [ho, Bool.true_and] at hkf hkt
      exact ih (j + 1) h3 (by omega) he hkf hkt
  have loop : ∀ (k i : Nat) (h2 : Heap) (K : Value → Heap → Prop), i + k = m → Ext h1 h2 → (∀ h3, Ext h1 h3 → K (.bool (rowsOk n (rs.drop i) (xss.drop i))) h3) →
      S.l10Is.L0 K (.slice B m d) (.pointer (some ⟨b, 0, none⟩)) (.int .i64 i) h2 := by
    intro k
    induction k with
    | zero =>
      intro i h2 K hi he hk
      refine S.l10Is.L0_step K _ _ _ _ _ _ _ (dec_split (fun hc => by omega) (fun _ => ?_))
      have := hk h2 he
      have e9 : xss.drop i = [] := List.drop_eq_nil_of_le (by omega)
      rw [e9] at this
      cases hd : rs.drop i <;> rw [hd] at this <;> exact this
    | succ k ih =>
      intro i h2 K hi he hk
      have hi' : i < xss.length := by omega
      rw [rowsOk_step hi' hml] at hk
      refine S.l10Is.L0_step K _ _ _ _ _ _ _ (dec_split (fun hc => ?_) (fun hc => by omega))
      -- the row is read again behind the call
      have hre : ∀ h4, Ext h1 h4 → ∀ {bb oo : Nat} {v : Value}, h2.get bb oo = some v → Ext h2 h4 → h4.get bb oo = some v := fun h4 _ bb oo v hg e4 => e4.get hg
      obtain ⟨vs, s1, s2, s3⟩ := x
      have hi2 : i < vs.length := by omega
      obtain ⟨bb, oo, hA, hgg⟩ := Seg.open s1 (by omega)
      obtain ⟨C, d2, hv, hC, hd2⟩ := s3 i vs[i] xss[i] (List.getElem?_eq_getElem hi2) (List.getElem?_eq_getElem hi')
      have hgi : ∀ h4, Ext h h4 → h4.get bb (oo + Int.toNat (i : Int) * 1) = some (.slice C xss[i].length d2) := fun h4 e4 => by
        rw [Int.toNat_natCast, Nat.mul_one, ← hv]
        exact e4.get (hgg i _ (List.getElem?_eq_getElem hi2))
      refine ⟨bb, oo, hA, ⟨by omega, by omega⟩, C, _, d2, hgi _ (e.trans he), n, he.get hn, A, l, c, he.get hs, ?_⟩
      refine s.rd (e.trans he) hl (by omega) (by omega) fun hr14 => (S.l01Pairs.spec hr14 h0 h14).mono ?_
      rintro u h3 ⟨e3, P, cP, rfl, hP⟩
      have ex : xss.getD i [] = xss[i] := by rw [List.getD_eq_getElem?_getD, List.getElem?_eq_getElem hi']; rfl
      rw [Int.toNat_natCast]
      refine ⟨P, _, cP, rfl, hgi _ ((e.trans he).trans e3), ndec_split (fun hne => ?_) (fun heq => ?_)⟩
      · have h5 := hk h3 (he.trans e3)
        have : decide (xss[i].length = (pairsOf n (rs.getD i [])).length) = false := by simp only [decide_eq_false_iff_not]; omega
        rw [ex, rowOk, this, Bool.false_and, Bool.false_and] at h5
        exact h5
      · have hlen : decide (xss[i].length = (pairsOf n (rs.getD i [])).length) = true := by simp only [decide_eq_true_eq]; omega
        refine inner i hi' K (xss.getD i []).length 0 h3 (by omega) (he.trans e3) (fun h4 e4 ho => ?_) (fun h4 e4 ho => ?_)
        · have h5 := hk h4 e4
          rw [rowOk] at h5
          rw [List.drop_zero] at ho
          rw [ho, Bool.and_false, Bool.false_and] at h5
          exact h5
        · refine ih (i + 1) h4 K (by omega) e4 fun h5 e5 => ?_
          have h6 := hk h5 e5
          rw [List.drop_zero] at ho
          rw [rowOk, ho, ex, hlen, Bool.true_and, Bool.true_and] at h6
          exact h6
  exact loop m 0 h1 _ (by omega) (Ext.refl _) fun h3 e3 => ⟨e.trans e3, by simp⟩

theorem I.always.spec {h : Heap} : ACalls Try.prog I.always.id [] h fun u h2 => Ext h h2 ∧ u = .bool true := I.always.step _ h ⟨Ext.refl _, rfl⟩
def hasTeam (n a : Int) : Bool := decide (0 ≤ a) && decide (a ≤ n - 1)
/-- The code of a schedule. -/
def schedCode (n : Int) (rs : List (List Int)) (right : Bool) : Int := if scheduleOk n rs then (if right then 0 else 2) else 1
theorem scheduleOk_facts {n : Int} {rs : List (List Int)} (h : scheduleOk n rs = true) : 2 ≤ n ∧ n ≤ 14 ∧ rs.length ≤ 40 ∧ ∀ r ∈ rs, roundOk n r = true := by
  simp only [scheduleOk, Bool.and_eq_true, decide_eq_true_eq, List.all_eq_true] at h
  exact ⟨h.1.1.1, h.1.1.2, h.1.2, h.2⟩

theorem I.scheduleCode.spec {n : Int} {A : Option Addr} {rs : List (List Int)} {l c : Nat} {f : FuncId} {caps : Array Value} {right : Bool} {h : Heap} (s : Rds h A rs) (hl : rs.length = l)
    (hr : scheduleOk n rs = true → ∀ h1, Ext h h1 → ACalls Try.prog f ([] ++ caps.toList) h1 fun u h2 => Ext h1 h2 ∧ u = .bool right) :
    ACalls Try.prog I.scheduleCode.id [.agg #[.int .i64 n, .slice A l c], .func (.func f) #[] caps] h fun u h2 => Ext h h2 ∧ u = .int .i64 (schedCode n rs right) := by
  refine I.scheduleCode.step _ _ _ _ _ _ _ h fun b hf => ⟨n, A, l, c, by simp [Heap.getN], ?_⟩
  have e := Ext.upd hf (.cells [.int .i64 n, .slice A l c])
  refine (I.IsSchedule.spec (s.mono e) hl).mono ?_
  rintro u h2 ⟨e2, rfl⟩
  refine ⟨_, rfl, nbool_split (fun hf => ⟨e.trans e2, by rw [schedCode, hf]; rfl⟩) (fun ht => (hr ht h2 (e.trans e2)).mono ?_)⟩
  rintro u h3 ⟨e3, rfl⟩
  have e4 := (e.trans e2).trans e3
  refine ⟨_, rfl, nbool_split (fun hf => ⟨e4, by rw [schedCode, ht, hf]; rfl⟩) (fun ht2 => ⟨e4, by rw [schedCode, ht, ht2]; rfl⟩)⟩

theorem I.resultsCode.spec {n : Int} {A B : Option Addr} {rs xss : List (List Int)} {l c m d : Nat} {f : FuncId} {caps : Array Value} {right : Bool} {h : Heap} (s : Rds h A rs) (hl : rs.length = l) (x : Tab h B xss) (hm : xss.length = m) (hx : ∀ xs ∈ xss, xs.length ≤ 1048576)
    (hr : scheduleOk n rs = true → ∀ h1, Ext h h1 → ACalls Try.prog f ([] ++ caps.toList) h1 fun u h2 => Ext h1 h2 ∧ u = .bool right) :
    ACalls Try.prog I.resultsCode.id [.agg #[.int .i64 n, .slice A l c], .slice B m d, .func (.func f) #[] caps] h fun u h2 => Ext h h2 ∧ u = .int .i64 (schedCode n rs (resultsOk n rs xss && right)) := by
  refine I.resultsCode.step _ _ _ _ _ _ _ _ _ _ h fun b5 hf5 b7 hf7 b9 hf9 => ?_
  have e5 := Ext.upd hf5 (.cells [.int .i64 n, .slice A l c])
  have e7 := Ext.upd hf7 (.cells [.slice B m d])
  have e9 := Ext.upd hf9 (.cells [.func (.func f) #[] caps])
  have n75 := fresh_ne hf7
  have n97 := fresh_ne hf9
  have n95 := fresh_ne (fresh_of_upd hf9)
  have g5 := (((h.upd b5 (.cells [.int .i64 n, .slice A l c])).upd b7 (.cells [.slice B m d])).upd b9 (.cells [.func (.func f) #[] caps]))
  have hg5 : (((h.upd b5 (.cells [.int .i64 n, .slice A l c])).upd b7 (.cells [.slice B m d])).upd b9 (.cells [.func (.func f) #[] caps])).getN b5 0 2 = some [.int .i64 n, .slice A l c] := by
    simp [Heap.getN, Ne.symm n75, Ne.symm n95]
  have hg7 : (((h.upd b5 (.cells [.int .i64 n, .slice A l c])).upd b7 (.cells [.slice B m d])).upd b9 (.cells [.func (.func f) #[] caps])).get b7 0 = some (.slice B m d) := by
    simp [Ne.symm n97]
  have hg9 : (((h.upd b5 (.cells [.int .i64 n, .slice A l c])).upd b7 (.cells [.slice B m d])).upd b9 (.cells [.func (.func f) #[] caps])).get b9 0 = some (.func (.func f) #[] caps) := by
    simp
  have e := (e5.trans e7).trans e9
  generalize (((h.upd b5 (.cells [.int .i64 n, .slice A l c])).upd b7 (.cells [.slice B m d])).upd b9 (.cells [.func (.func f) #[] caps])) = h1 at *
  refine ⟨n, A, l, c, hg5, (I.scheduleCode.spec (right := resultsOk n rs xss && right) (s.mono e) hl fun hok h2 e2 => ?_).mono ?_⟩
  · obtain ⟨k1, k2, k3, _⟩ := scheduleOk_facts hok
    refine I.resultsCode.c1.step _ _ _ _ _ _ _ _ ⟨n, A, l, c, e2.getN hg5, B, m, d, e2.get hg7, ?_⟩
    refine (I.Schedule.areResults.spec (s.mono (e.trans e2)) hl (by omega) (by omega) k2 (x.mono (e.trans e2)) hm hx).mono ?_
    rintro u h3 ⟨e3, rfl⟩
    refine ⟨_, rfl, fun k hk => bool_split (fun ht => ⟨f, caps, (e2.trans e3).get hg9, (hr hok h3 ((e.trans e2).trans e3)).mono ?_⟩) (fun hf => hk _ _ ⟨e3, by rw [hf]; rfl⟩)⟩
    rintro u h4 ⟨e4, rfl⟩
    exact ⟨_, rfl, hk _ _ ⟨e3.trans e4, by rw [ht]; rfl⟩⟩
  · rintro u h2 ⟨e2, rfl⟩
    exact ⟨_, rfl, e.trans e2, rfl⟩

theorem schedCode_zero {n : Int} {rs : List (List Int)} {r : Bool} : schedCode n rs r = 0 ↔ scheduleOk n rs = true ∧ r = true := by
  unfold schedCode
  cases scheduleOk n rs <;> cases r <;> simp

end Go.Proofs.Ythkbodgpcjcndaa

/- The reference's code; the meetings played, one after the other. -/
set_option linter.unusedVariables false
set_option linter.unusedSimpArgs false
namespace Go.Proofs.Ythkbodgpcjcndaa
open Go.HL

theorem S.l10Code.spec {n : Int} {A B T : Option Addr} {rs xss : List (List Int)} {teams : List Int} {l c m d q e0 : Nat} {h : Heap} (s : Rds h A rs) (hl : rs.length = l) (x : Tab h B xss) (hm : xss.length = m) (hx : ∀ xs ∈ xss, xs.length ≤ 1048576)
    (ts : Ints h T teams) (hq : teams.length = q) (hqb : q ≤ 1048576) :
    ACalls Try.prog S.l10Code.id [.agg #[.int .i64 n, .slice A l c], .slice B m d, .slice T q e0] h fun u h2 => Ext h h2 ∧ u = .int .i64 (schedCode n rs (resultsOk n rs xss && teams.all (hasTeam n))) := by
  refine S.l10Code.step _ _ _ _ _ _ _ _ _ _ _ h fun b hf => ?_
  have e := Ext.upd hf (.cells [.int .i64 n, .slice A l c])
  have hg : (h.upd b (.cells [.int .i64 n, .slice A l c])).getN b 0 2 = some [.int .i64 n, .slice A l c] := by simp [Heap.getN]
  have hn : (h.upd b (.cells [.int .i64 n, .slice A l c])).get b (0 + 0) = some (.int .i64 n) := by simp
  generalize h.upd b (.cells [.int .i64 n, .slice A l c]) = h1 at *
  refine ⟨n, A, l, c, hg, (S.l01Is.spec (s.mono e) hl).mono ?_⟩
  rintro u h2 ⟨e2, rfl⟩
  refine ⟨_, rfl, nbool_split (fun hf => ⟨e.trans e2, by rw [schedCode, hf]; rfl⟩) (fun ht => ?_)⟩
  obtain ⟨k1, k2, k3, _⟩ := scheduleOk_facts ht
  refine ⟨n, A, l, c, e2.getN hg, (S.l10Is.spec (s.mono (e.trans e2)) hl (by omega) (by omega) k2 (x.mono (e.trans e2)) hm hx).mono ?_⟩
  rintro u h3 ⟨e3, rfl⟩
  have e13 := e2.trans e3
  refine ⟨_, rfl, nbool_split (fun hf => ⟨e.trans e13, by rw [schedCode, ht, hf]; rfl⟩) (fun ht2 => ?_)⟩
  rw [ht2, Bool.true_and]
  have loop : ∀ (k i : Nat) (K : Value → Heap → Prop), i + k = q → (K (.int .i64 (schedCode n rs ((teams.drop i).all (hasTeam n)))) h3) → S.l10Code.L0 K (.slice T q e0) (.pointer (some ⟨b, 0, none⟩)) (.int .i64 i) h3 := by
    intro k
    induction k with
    | zero =>
      intro i K hi hk
      refine S.l10Code.L0_step K _ _ _ _ _ _ _ (dec_split (fun hc => by omega) (fun _ => ?_))
      rw [List.drop_eq_nil_of_le (by omega), schedCode, ht] at hk
      exact hk
    | succ k ih =>
      intro i K hi hk
      have hi' : i < teams.length := by omega
      refine S.l10Code.L0_step K _ _ _ _ _ _ _ (dec_split (fun hc => ?_) (fun hc => by omega))
      refine ts.rd (e.trans e13) hq (by omega) (by omega) ⟨n, e13.get hn, ?_⟩
      rw [w64 (by omega) (by omega)]
      refine S.l01In.spec.mono ?_
      rintro u h4 ⟨rfl, rfl⟩
      have e1 : teams.getD (Int.toNat i) 0 = teams[i] := by rw [Int.toNat_natCast, List.getD_eq_getElem?_getD, List.getElem?_eq_getElem hi']; rfl
      rw [e1]
      rw [List.drop_eq_getElem_cons hi', List.all_cons] at hk
      refine ⟨_, rfl, nbool_split (fun hf => ?_) (fun ht3 => ?_)⟩
      · have ho : hasTeam n teams[i] = false := hf
        rw [ho, Bool.false_and, schedCode, ht] at hk
        exact hk
      · have ho : hasTeam n teams[i] = true := ht3
        rw [ho, Bool.true_and] at hk
        rw [wsucc (by omega)]
        exact ih (i + 1) K (by omega) hk
  exact loop q 0 _ (by omega) ⟨e.trans e13, by simp⟩

/-! ### Changing state beside what is only read -/
structure Mut (σ : Type) where
  Inv : σ → Heap → Heap → Prop
  ext : ∀ s hI h, Inv s hI h → Ext hI h
  frame : ∀ s hI h, Inv s hI h → ∀ {f : FuncId} {args : List Value} {K : Value → Heap → Prop}, ACalls Try.prog f args hI K → ACalls Try.prog f args h fun u h2 => ∃ hJ, Inv s hJ h2 ∧ K u hJ
  beside : ∀ s hI h, Inv s hI h → ∀ {b : Nat} (k : Blk), h.fresh b → Inv s (hI.upd b k) (h.upd b k) ∧ hI.fresh b
/-- One block. -/
def Mut.block (b : Nat) : Mut (List Value) where
  Inv cs hI h := hI.fresh b ∧ h = hI.upd b (.cells cs)
  ext s hI h := fun ⟨hf, e⟩ => e ▸ Ext.upd hf _
  frame s hI h := fun ⟨hf, e⟩ {f args K} c => by
    subst e
    refine (c.frame hf _).mono ?_
    rintro u h2 ⟨hJ, rfl, hf2, hk⟩
    exact ⟨hJ, ⟨hf2, rfl⟩, hk⟩
  beside s hI h := fun ⟨hf, e⟩ {x} k hx => by
    subst e
    have hne := fresh_ne hx
    exact ⟨⟨fresh_upd hf hne _, upd_comm _ (Ne.symm hne) _ _⟩, fresh_of_upd hx⟩

/-- A meeting, as it is told to a function: round, team, other team, own points. -/
structure Ev where
  i : Int
  a : Int
  b : Int
  own : Int
def ownOf (x : Int) : Int := if x = 1 then 2 else if x = 2 then 0 else 1
def evRow (i : Int) : List (List Int) → List Int → List Ev
  | p :: ps, x :: xs => ⟨i, p.getD 0 0, p.getD 1 0, ownOf x⟩ :: ⟨i, p.getD 1 0, p.getD 0 0, 2 - ownOf x⟩ :: evRow i ps xs
  | _, _ => []
def evs (n : Int) : Nat → List (List Int) → List (List Int) → List Ev
  | i, r :: rs, xs :: xss => evRow i (pairsOf n r) xs ++ evs n (i + 1) rs xss
  | _, _, _ => []

theorem pairsFrom_two (r : List Int) : ∀ (m a : Nat), ∀ p ∈ pairsFrom r a m, p.length = 2
  | 0, a, p, hp => by simp [pairsFrom] at hp
  | m + 1, a, p, hp => by
    rw [pairsFrom] at hp
    split at hp
    · rcases List.mem_cons.1 hp with rfl | hp
      · rfl
      · exact pairsFrom_two r m (a + 1) p hp
    · exact pairsFrom_two r m (a + 1) p hp
theorem pairsFrom_len (r : List Int) : ∀ (m a : Nat), (pairsFrom r a m).length ≤ m
  | 0, a => by simp [pairsFrom]
  | m + 1, a => by
    rw [pairsFrom]
    have := pairsFrom_len r m (a + 1)
    split <;> simp <;> omega

end Go.Proofs.Ythkbodgpcjcndaa

/- The meetings played, one after the other: the program's own walk over them. -/
set_option linter.unusedVariables false
set_option linter.unusedSimpArgs false
namespace Go.Proofs.Ythkbodgpcjcndaa
open Go.HL

/-- What is asked of the function that is told of a meeting. -/
def Tells {σ : Type} (M : Mut σ) (stp : σ → Ev → σ) (f : FuncId) (caps : Array Value) (hI : Heap) (ev : Ev) : Prop :=
  ∀ s hJ h1, Ext hI hJ → M.Inv s hJ h1 → ACalls Try.prog f ([.int .i64 ev.i, .int .i64 ev.a, .int .i64 ev.b, .int .i64 ev.own] ++ caps.toList) h1 fun u h2 => u = undef ∧ ∃ hK, Ext hJ hK ∧ M.Inv (stp s ev) hK h2

theorem I.Schedule.games.spec {σ : Type} (M : Mut σ) (stp : σ → Ev → σ) {n : Int} {A B : Option Addr} {rs xss : List (List Int)} {l c m d : Nat} {f : FuncId} {caps : Array Value} {s0 : σ} {hI h : Heap} (hinv : M.Inv s0 hI h)
    (s : Rds hI A rs) (hl : rs.length = l) (x : Tab hI B xss) (hm : xss.length = m) (h0 : 0 ≤ n) (h14 : n ≤ 14) (hl40 : l ≤ 40) (hok : resultsOk n rs xss = true)
    (hcb : ∀ ev ∈ evs n 0 rs xss, Tells M stp f caps hI ev) :
    ACalls Try.prog I.Schedule.games.id [.agg #[.int .i64 n, .slice A l c], .slice B m d, .func (.func f) #[] caps] h fun u h2 => u = undef ∧ ∃ hK, Ext hI hK ∧ M.Inv ((evs n 0 rs xss).foldl stp s0) hK h2 := by
  refine I.Schedule.games.step _ _ _ _ _ _ _ _ _ _ h fun b hf => ?_
  obtain ⟨hinv1, hfI⟩ := M.beside _ _ _ hinv (.cells [.int .i64 n, .slice A l c]) hf
  have e := Ext.upd hfI (.cells [.int .i64 n, .slice A l c])
  have hn : (hI.upd b (.cells [.int .i64 n, .slice A l c])).get b (0 + 0) = some (.int .i64 n) := by simp
  have hs : (hI.upd b (.cells [.int .i64 n, .slice A l c])).get b (0 + 1) = some (.slice A l c) := by simp
  generalize hI.upd b (.cells [.int .i64 n, .slice A l c]) = hI1 at *
  generalize h.upd b (.cells [.int .i64 n, .slice A l c]) = h1 at *
  have hml : xss.length ≤ rs.length := by
    simp only [resultsOk, Bool.and_eq_true, decide_eq_true_eq] at hok; exact hok.1
  have hrows : rowsOk n rs xss = true := by simp only [resultsOk, Bool.and_eq_true] at hok; exact hok.2
  -- the meetings of one round
  have inner : ∀ (i : Nat) (ps : List (List Int)) (xs : List Int) (P C : Option Addr) (cP cC : Nat) (K : Value → Heap → Prop) (hps : ∀ p ∈ ps, p.length = 2) (hlen : ps.length = xs.length) (hbig : ps.length ≤ 14) (k j : Nat) (t : σ) (hJ h2 : Heap),
      j + k = ps.length → Ext hI1 hJ → M.Inv t hJ h2 → Tab hJ P ps → Ints hJ C xs → (∀ ev ∈ evRow i (ps.drop j) (xs.drop j), Tells M stp f caps hI ev) →
      (∀ hK h3, Ext hI1 hK → M.Inv ((evRow i (ps.drop j) (xs.drop j)).foldl stp t) hK h3 → I.Schedule.games.L0 K (.func (.func f) #[] caps) (.pointer (some ⟨b, 0, none⟩)) (.slice B m d) (.int .i64 m) (.int .i64 ((i + 1 : Nat) : Int)) h3) → i < 9223372036854775807 →
      I.Schedule.games.L1 K (.func (.func f) #[] caps) (.pointer (some ⟨b, 0, none⟩)) (.int .i64 i) (.slice C xs.length cC) (.slice B m d) (.int .i64 m) (.int .i64 i) (.slice P ps.length cP) (.int .i64 ps.length) (.int .i64 j) h2 := by
    intro i ps xs P C cP cC K hps hlen hbig k
    induction k with
    | zero =>
      intro j t hJ h2 hj he hi _ _ _ hk hib
      refine I.Schedule.games.L1_step K _ _ _ _ _ _ _ _ _ _ _ _ _ _ _ _ _ _ _ (dec_split (fun hc => by omega) (fun _ => ?_))
      rw [wsucc hib]
      refine hk hJ h2 he ?_
      rw [List.drop_eq_nil_of_le (by omega)]
      exact hi
    | succ k ih =>
      intro j t hJ h2 hj he hi hP hC hev hk hib
      have hj' : j < ps.length := by omega
      have hjx : j < xs.length := by omega
      refine I.Schedule.games.L1_step K _ _ _ _ _ _ _ _ _ _ _ _ _ _ _ _ _ _ _ (dec_split (fun hc => ?_) (fun hc => by omega))
      refine hP.rd (M.ext _ _ _ hi) rfl (by omega) (by omega) fun D dD hD _ => ?_
      refine hC.rd (M.ext _ _ _ hi) rfl (by omega) (by omega) ?_
      have e1 : ps.getD (Int.toNat j) [] = ps[j] := by rw [Int.toNat_natCast, List.getD_eq_getElem?_getD, List.getElem?_eq_getElem hj']; rfl
      have e2 : xs.getD (Int.toNat j) 0 = xs[j] := by rw [Int.toNat_natCast, List.getD_eq_getElem?_getD, List.getElem?_eq_getElem hjx]; rfl
      have e3 : ps[j].length = 2 := hps _ (List.getElem_mem hj')
      rw [e1] at hD ⊢
      rw [e2, e3]
      rw [List.drop_eq_getElem_cons hj', List.drop_eq_getElem_cons hjx, evRow] at hev hk
      have br : ∀ (own w : Int), ownOf xs[j] = own → w = 2 - own → ∃ b41 o42 : Nat, D = some ⟨b41, o42, none⟩ ∧ (0 ≤ (0 : Int) ∧ (0 : Int) < ((2 : Nat) : Int)) ∧ ∃ x43 : Int, h2.get b41 (o42 + Int.toNat (0 : Int) * 1) = some (.int .i64 x43) ∧
          ∃ b44 o45 : Nat, D = some ⟨b44, o45, none⟩ ∧ (0 ≤ (1 : Int) ∧ (1 : Int) < ((2 : Nat) : Int)) ∧ ∃ x46 : Int, h2.get b44 (o45 + Int.toNat (1 : Int) * 1) = some (.int .i64 x46) ∧
          ACalls Try.prog f ([.int .i64 i, .int .i64 x43, .int .i64 x46, .int .i64 own] ++ caps.toList) h2 fun v48 h47 => v48 = undef ∧
          ∃ b49 o50 : Nat, D = some ⟨b49, o50, none⟩ ∧ (0 ≤ (1 : Int) ∧ (1 : Int) < ((2 : Nat) : Int)) ∧ ∃ x51 : Int, h47.get b49 (o50 + Int.toNat (1 : Int) * 1) = some (.int .i64 x51) ∧
          ∃ b52 o53 : Nat, D = some ⟨b52, o53, none⟩ ∧ (0 ≤ (0 : Int) ∧ (0 : Int) < ((2 : Nat) : Int)) ∧ ∃ x54 : Int, h47.get b52 (o53 + Int.toNat (0 : Int) * 1) = some (.int .i64 x54) ∧
          ACalls Try.prog f ([.int .i64 i, .int .i64 x51, .int .i64 x54, .int .i64 w] ++ caps.toList) h47 fun v56 h55 => v56 = undef ∧
          I.Schedule.games.L1 K (.func (.func f) #[] caps) (.pointer (some ⟨b, 0, none⟩)) (.int .i64 i) (.slice C xs.length cC) (.slice B m d) (.int .i64 m) (.int .i64 i) (.slice P ps.length cP) (.int .i64 ps.length) (.int .i64 (IntKind.wrap .i64 (j + (1 : Int)))) h55 := by
        intro own w ho hw
        subst ho
        refine hD.rd (M.ext _ _ _ hi) e3 (by omega) (by omega) (hD.rd (M.ext _ _ _ hi) e3 (by omega) (by omega) ?_)
        refine (hev ⟨i, ps[j].getD 0 0, ps[j].getD 1 0, ownOf xs[j]⟩ (by simp) t hJ h2 (e.trans he) hi).mono ?_
        rintro u h3 ⟨rfl, hK, eK, hi3⟩
        refine ⟨rfl, (hD.mono eK).rd (M.ext _ _ _ hi3) e3 (by omega) (by omega) ((hD.mono eK).rd (M.ext _ _ _ hi3) e3 (by omega) (by omega) ?_)⟩
        rw [hw]
        refine (hev ⟨i, ps[j].getD 1 0, ps[j].getD 0 0, 2 - ownOf xs[j]⟩ (by simp) _ hK h3 (e.trans (he.trans eK)) hi3).mono ?_
        rintro u h4 ⟨rfl, hL, eL, hi4⟩
        refine ⟨rfl, ?_⟩
        rw [wsucc (by omega)]
        exact ih (j + 1) _ hL h4 (by omega) (he.trans (eK.trans eL)) hi4 (hP.mono (eK.trans eL)) (hC.mono (eK.trans eL)) (fun ev hv => hev ev (by simp [hv])) (fun hM h5 eM hi5 => hk hM h5 eM hi5) hib
      refine dec_split (fun h1x => br 2 _ (by simp [ownOf, h1x]) rfl) (fun h1x => dec_split (fun h2x => br 0 _ (by simp [ownOf, h1x, h2x]) rfl) (fun h2x => br 1 _ (by simp [ownOf, h1x, h2x]) rfl))
  have loop : ∀ (k i : Nat) (t : σ) (hJ h2 : Heap) (K : Value → Heap → Prop), i + k = m → Ext hI1 hJ → M.Inv t hJ h2 → (∀ ev ∈ evs n i (rs.drop i) (xss.drop i), Tells M stp f caps hI ev) → rowsOk n (rs.drop i) (xss.drop i) = true →
      (∀ hK h3, Ext hI1 hK → M.Inv ((evs n i (rs.drop i) (xss.drop i)).foldl stp t) hK h3 → K undef h3) →
      I.Schedule.games.L0 K (.func (.func f) #[] caps) (.pointer (some ⟨b, 0, none⟩)) (.slice B m d) (.int .i64 m) (.int .i64 i) h2 := by
    intro k
    induction k with
    | zero =>
      intro i t hJ h2 K hi he hv _ _ hk
      refine I.Schedule.games.L0_step K _ _ _ _ _ _ _ _ _ _ (dec_split (fun hc => by omega) (fun _ => hk hJ h2 he ?_))
      have e9 : xss.drop i = [] := List.drop_eq_nil_of_le (by omega)
      rw [e9]
      cases hd : rs.drop i <;> exact hv
    | succ k ih =>
      intro i t hJ h2 K hi he hv hev hro hk
      have hi' : i < xss.length := by omega
      have hir : i < rs.length := by omega
      refine I.Schedule.games.L0_step K _ _ _ _ _ _ _ _ _ _ (dec_split (fun hc => ?_) (fun hc => by omega))
      have eh := M.ext _ _ _ hv
      refine (x.mono (e.trans he)).rd eh hm (by omega) (by omega) fun C dC hC _ => ⟨A, l, c, eh.get (he.get hs), ?_⟩
      refine (s.mono (e.trans he)).rd eh hl (by omega) (by omega) fun hr14 => ⟨n, eh.get (he.get hn), ?_⟩
      refine (M.frame _ _ _ hv (I.Round.pairs.spec hr14 h0 h14)).mono ?_
      rintro u h3 ⟨hK, hv3, eK, P, cP, rfl, hP⟩
      have e1 : rs.getD (Int.toNat i) [] = rs[i] := by rw [Int.toNat_natCast, List.getD_eq_getElem?_getD, List.getElem?_eq_getElem hir]; rfl
      have e2 : xss.getD (Int.toNat i) [] = xss[i] := by rw [Int.toNat_natCast, List.getD_eq_getElem?_getD, List.getElem?_eq_getElem hi']; rfl
      rw [e1] at hP ⊢
      rw [e2] at hC ⊢
      rw [List.drop_eq_getElem_cons hi', List.drop_eq_getElem_cons hir, evs] at hev hk
      rw [List.drop_eq_getElem_cons hi', List.drop_eq_getElem_cons hir, rowsOk, Bool.and_eq_true] at hro
      have hlen : (pairsOf n rs[i]).length = xss[i].length := by
        have := hro.1
        simp only [rowOk, Bool.and_eq_true, decide_eq_true_eq] at this
        exact this.1.symm
      have hbig : (pairsOf n rs[i]).length ≤ 14 := by have := pairsFrom_len rs[i] n.toNat 0; unfold pairsOf; omega
      refine ⟨P, _, cP, rfl, inner i _ _ P C cP dC K (fun p hp => pairsFrom_two _ _ _ p hp) hlen hbig _ 0 t hK h3 (Nat.zero_add _) (he.trans eK) hv3 hP (hC.mono eK) (fun ev h => hev ev (by rw [List.mem_append]; exact .inl h)) (fun hL h4 eL hv4 => ?_) (by omega)⟩
      refine ih (i + 1) _ hL h4 K (by omega) eL hv4 (fun ev h => hev ev (by rw [List.mem_append]; exact .inr h)) hro.2 fun hM h5 eM hv5 => hk hM h5 eM ?_
      rw [List.foldl_append]
      exact hv5
  exact loop m 0 s0 hI1 h1 _ (by omega) (Ext.refl _) hinv1 (by simpa using hcb) (by simpa using hrows) fun hK h3 eK hv => ⟨rfl, hK, e.trans eK, by simpa using hv⟩

end Go.Proofs.Ythkbodgpcjcndaa

/- Sums over the meetings played: points. -/
set_option linter.unusedVariables false
set_option linter.unusedSimpArgs false
namespace Go.Proofs.Ythkbodgpcjcndaa
open Go.HL

/-- Numbers of all teams, in one block. -/
def mutInts (b : Nat) (n : Int) : Mut (List Int) where
  Inv xs hI h := (xs.length : Int) = n ∧ (Mut.block b).Inv (LM xs) hI h
  ext s hI h := fun ⟨_, i⟩ => (Mut.block b).ext _ _ _ i
  frame s hI h := fun ⟨hl, i⟩ {f args K} c => ((Mut.block b).frame _ _ _ i c).mono fun u h2 ⟨hJ, i2, k⟩ => ⟨hJ, ⟨hl, i2⟩, k⟩
  beside s hI h := fun ⟨hl, i⟩ {x} k hx => let ⟨i2, f⟩ := (Mut.block b).beside _ _ _ i k hx; ⟨⟨hl, i2⟩, f⟩

def addAt (g : Int → Int → Int) (xs : List Int) (ev : Ev) : List Int := xs.set ev.a.toNat (IntKind.wrap .i64 (xs.getD ev.a.toNat 0 + g ev.b ev.own))
def summedM (g : Int → Int → Int) (n : Int) (rs xss : List (List Int)) : List Int := (evs n 0 rs xss).foldl (addAt g) (List.replicate n.toNat 0)

theorem pairsFrom_mem {r : List Int} : ∀ {m a : Nat} {p : List Int}, p ∈ pairsFrom r a m → ∃ i : Nat, a ≤ i ∧ i < a + m ∧ p = [(i : Int), r.getD i 0] ∧ (i : Int) < r.getD i 0
  | 0, a, p, hp => by simp [pairsFrom] at hp
  | m + 1, a, p, hp => by
    rw [pairsFrom] at hp
    split at hp
    · rename_i hlt
      rcases List.mem_cons.1 hp with rfl | hp
      · exact ⟨a, by omega, by omega, rfl, hlt⟩
      · obtain ⟨i, h1, h2, h3⟩ := pairsFrom_mem hp
        exact ⟨i, by omega, by omega, h3⟩
    · obtain ⟨i, h1, h2, h3⟩ := pairsFrom_mem hp
      exact ⟨i, by omega, by omega, h3⟩
theorem round_place {n : Int} {r : List Int} (h : roundOk n r = true) {i : Nat} (hi : (i : Int) < n) : 0 ≤ r.getD i 0 ∧ r.getD i 0 < n ∧ r.getD (r.getD i 0).toNat 0 = i := by
  simp only [roundOk, Bool.and_eq_true, decide_eq_true_eq, List.all_eq_true] at h
  have hp := h.2 i (by simp [List.mem_range'_1]; omega)
  rw [placeOk, if_neg (by omega)] at hp
  simp only [Bool.and_eq_true, decide_eq_true_eq] at hp
  exact ⟨hp.1.1, by omega, hp.2⟩
theorem pairsOf_mem {n : Int} {r : List Int} (h : roundOk n r = true) (hn : 0 ≤ n) {p : List Int} (hp : p ∈ pairsOf n r) : p.length = 2 ∧ 0 ≤ p.getD 0 0 ∧ p.getD 0 0 < p.getD 1 0 ∧ p.getD 1 0 < n := by
  obtain ⟨i, h1, h2, rfl, h4⟩ := pairsFrom_mem hp
  obtain ⟨h5, h6, _⟩ := round_place (i := i) h (by omega)
  exact ⟨rfl, by simp, by simpa using h4, by simpa using h6⟩
def EvOk (n : Int) (ev : Ev) : Prop := 0 ≤ ev.a ∧ ev.a < n ∧ 0 ≤ ev.b ∧ ev.b < n ∧ 0 ≤ ev.own ∧ ev.own ≤ 2
theorem ownOf_range (x : Int) : 0 ≤ ownOf x ∧ ownOf x ≤ 2 := by
  unfold ownOf
  split
  · omega
  · split <;> omega
theorem evRow_ok {n : Int} (i : Int) : ∀ (ps : List (List Int)) (xs : List Int), (∀ p ∈ ps, 0 ≤ p.getD 0 0 ∧ p.getD 0 0 < p.getD 1 0 ∧ p.getD 1 0 < n) → ∀ ev ∈ evRow i ps xs, EvOk n ev
  | [], xs, _, ev, h => by simp [evRow] at h
  | p :: ps, [], _, ev, h => by simp [evRow] at h
  | p :: ps, x :: xs, hp, ev, h => by
    have h1 := hp p (by simp)
    have h2 := ownOf_range x
    rw [evRow] at h
    rcases List.mem_cons.1 h with rfl | h
    · refine ⟨?_, ?_, ?_, ?_, ?_, ?_⟩ <;> simp only <;> omega
    · rcases List.mem_cons.1 h with rfl | h
      · refine ⟨?_, ?_, ?_, ?_, ?_, ?_⟩ <;> simp only <;> omega
      · exact evRow_ok i ps xs (fun q hq => hp q (by simp [hq])) ev h
theorem evs_ok {n : Int} (hn : 0 ≤ n) : ∀ (i : Nat) (rs xss : List (List Int)), (∀ r ∈ rs, roundOk n r = true) → ∀ ev ∈ evs n i rs xss, EvOk n ev
  | i, [], xss, _, ev, h => by simp [evs] at h
  | i, r :: rs, [], _, ev, h => by simp [evs] at h
  | i, r :: rs, xs :: xss, hr, ev, h => by
    rw [evs, List.mem_append] at h
    rcases h with h | h
    · exact evRow_ok i _ _ (fun p hp => (pairsOf_mem (hr r (by simp)) hn hp).2) ev h
    · exact evs_ok hn (i + 1) rs xss (fun q hq => hr q (by simp [hq])) ev h

theorem I.Schedule.summed.c1.spec {g : Int → Int → Int} {n : Int} {bo bc bf : Nat} {fo : FuncId} {co : Array Value} {hI : Heap} (hc : hI.get bc 0 = some (.slice (some ⟨bo, 0, none⟩) n.toNat n.toNat)) (hf : hI.get bf 0 = some (.func (.func fo) #[] co))
    (hg : ∀ h1, Ext hI h1 → ∀ b own, 0 ≤ b → b < n → ACalls Try.prog fo ([.int .i64 b, .int .i64 own] ++ co.toList) h1 fun u h2 => Ext h1 h2 ∧ u = .int .i64 (g b own)) {ev : Ev} (hev : EvOk n ev) :
    Tells (mutInts bo n) (addAt g) I.Schedule.summed.c1.id #[.pointer (some ⟨bc, 0, none⟩), .pointer (some ⟨bf, 0, none⟩)] hI ev := by
  intro xs hJ h1 eJ hinv
  obtain ⟨hl, hfr, rfl⟩ := hinv
  obtain ⟨a0, a1, b0, b1, o0, o1⟩ := hev
  have hcb : ∀ hK, Ext hI hK → hK.fresh bo → ∀ ys : List Int, (hK.upd bo (.cells (LM ys))).get bc 0 = some (.slice (some ⟨bo, 0, none⟩) n.toNat n.toNat) := fun hK eK fK ys => (eK.trans (Ext.upd fK _)).get hc
  have hfb : ∀ hK, Ext hI hK → hK.fresh bo → ∀ ys : List Int, (hK.upd bo (.cells (LM ys))).get bf 0 = some (.func (.func fo) #[] co) := fun hK eK fK ys => (eK.trans (Ext.upd fK _)).get hf
  have hrd : ∀ hK : Heap, (hK.upd bo (.cells (LM xs))).get bo (0 + Int.toNat ev.a * 1) = some (.int .i64 (xs.getD ev.a.toNat 0)) := fun hK => by
    rw [get_upd, if_pos rfl, Nat.zero_add, Nat.mul_one]
    have : ev.a.toNat < xs.length := by omega
    simp [this, List.getD_eq_getElem?_getD]
  refine I.Schedule.summed.c1.step _ _ _ _ _ _ _ _ _ _ ⟨_, _, _, hcb hJ eJ hfr xs, bo, 0, rfl, ⟨a0, by omega⟩, _, hrd hJ, fo, co, hfb hJ eJ hfr xs, ?_⟩
  refine (ACalls.frame hfr _ (hg hJ eJ ev.b ev.own b0 b1)).mono ?_
  rintro u h2 ⟨hK, rfl, fK, eK, rfl⟩
  refine ⟨_, rfl, hcb hK (eJ.trans eK) fK xs, hrd hK, bo, 0, rfl, ⟨a0, by omega⟩, LM xs, by simp, by simp; omega, by simp [Value.oneCell'], rfl, hK, eK, ?_⟩
  refine ⟨by rw [addAt, List.length_set]; exact hl, fK, ?_⟩
  rw [upd_upd, Nat.zero_add, Nat.mul_one, splice_one _ _ _ (by simp; omega), addAt, LM, LM, ← List.map_set]

theorem I.Schedule.summed.spec {g : Int → Int → Int} {n : Int} {A B : Option Addr} {rs xss : List (List Int)} {l c m d : Nat} {fo : FuncId} {co : Array Value} {h : Heap} (s : Rds h A rs) (hl : rs.length = l) (x : Tab h B xss) (hm : xss.length = m)
    (hsok : scheduleOk n rs = true) (hok : resultsOk n rs xss = true)
    (hg : ∀ h1, Ext h h1 → ∀ b own, 0 ≤ b → b < n → ACalls Try.prog fo ([.int .i64 b, .int .i64 own] ++ co.toList) h1 fun u h2 => Ext h1 h2 ∧ u = .int .i64 (g b own)) :
    ACalls Try.prog I.Schedule.summed.id [.agg #[.int .i64 n, .slice A l c], .slice B m d, .func (.func fo) #[] co] h fun u h2 => Ext h h2 ∧ ∃ bo, h.fresh bo ∧ u = .slice (some ⟨bo, 0, none⟩) n.toNat n.toNat ∧ h2.own bo = some (.cells (LM (summedM g n rs xss))) := by
  obtain ⟨k1, k2, k3, k4⟩ := scheduleOk_facts hsok
  refine I.Schedule.summed.step _ _ _ _ _ _ _ _ _ _ h fun b5 hf5 b7 hf7 => ⟨n, ?_, rfl, by omega, by omega, by omega, fun b10 hf10 b12 hf12 => ?_⟩
  · simp [Ne.symm (fresh_ne hf7)]
  have n75 := fresh_ne hf7
  have n107 := fresh_ne hf10
  have n105 := fresh_ne (fresh_of_upd hf10)
  have n1210 := fresh_ne hf12
  have n127 := fresh_ne (fresh_of_upd hf12)
  have n125 := fresh_ne (fresh_of_upd (fresh_of_upd hf12))
  refine ⟨[.slice none 0 0], by simp, by simp, by simp [Value.oneCell'], n, A, l, c, ?_, ?_⟩
  · simp [Heap.getN, Ne.symm n75, Ne.symm n105, Ne.symm n125]
  -- what is only read
  have f5 : h.fresh b5 := hf5
  have f7 : (h.upd b5 (.cells [.int .i64 n, .slice A l c])).fresh b7 := hf7
  have f12 : ((h.upd b5 (.cells [.int .i64 n, .slice A l c])).upd b7 (.cells [.func (.func fo) #[] co])).fresh b12 := fresh_of_upd hf12
  have e5 := Ext.upd f5 (.cells [.int .i64 n, .slice A l c])
  have e7 := Ext.upd f7 (.cells [.func (.func fo) #[] co])
  have e12 := Ext.upd f12 (.cells [.slice (some ⟨b10, 0, none⟩) n.toNat n.toNat])
  have e := (e5.trans e7).trans e12
  have f10 : (((h.upd b5 (.cells [.int .i64 n, .slice A l c])).upd b7 (.cells [.func (.func fo) #[] co])).upd b12 (.cells [.slice (some ⟨b10, 0, none⟩) n.toNat n.toNat])).fresh b10 := fresh_upd hf10 n1210 _
  have hfr10 : h.fresh b10 := fresh_of_upd (fresh_of_upd hf10)
  have hinv : (mutInts b10 n).Inv (List.replicate n.toNat 0) (((h.upd b5 (.cells [.int .i64 n, .slice A l c])).upd b7 (.cells [.func (.func fo) #[] co])).upd b12 (.cells [.slice (some ⟨b10, 0, none⟩) n.toNat n.toNat]))
      (((((h.upd b5 (.cells [.int .i64 n, .slice A l c])).upd b7 (.cells [.func (.func fo) #[] co])).upd b10 (.cells (List.replicate n.toNat (.int .i64 0)))).upd b12 (.cells [.slice none 0 0])).upd b12 (.cells (splice [.slice none 0 0] 0 [.slice (some ⟨b10, 0, none⟩) n.toNat n.toNat]))) := by
    refine ⟨by simp; omega, f10, ?_⟩
    rw [upd_upd, upd_comm _ n1210]
    simp [splice, LM]
  have hc : (((h.upd b5 (.cells [.int .i64 n, .slice A l c])).upd b7 (.cells [.func (.func fo) #[] co])).upd b12 (.cells [.slice (some ⟨b10, 0, none⟩) n.toNat n.toNat])).get b12 0 = some (.slice (some ⟨b10, 0, none⟩) n.toNat n.toNat) := by simp
  have hff : (((h.upd b5 (.cells [.int .i64 n, .slice A l c])).upd b7 (.cells [.func (.func fo) #[] co])).upd b12 (.cells [.slice (some ⟨b10, 0, none⟩) n.toNat n.toNat])).get b7 0 = some (.func (.func fo) #[] co) := by simp [Ne.symm n127]
  refine (I.Schedule.games.spec (mutInts b10 n) (addAt g) hinv (s.mono e) hl (x.mono e) hm (by omega) k2 (by omega) hok (fun ev hev => I.Schedule.summed.c1.spec hc hff (fun h1 e1 => hg h1 (e.trans e1)) (evs_ok (by omega) 0 rs xss k4 ev hev))).mono ?_
  rintro u h2 ⟨rfl, hK, eK, hl2, fK, rfl⟩
  refine ⟨rfl, _, _, _, ((eK.trans (Ext.upd fK _)).get hc), (e.trans eK).trans (Ext.upd fK _), b10, hfr10, rfl, by simp [summedM]⟩

theorem I.Schedule.points.spec {n : Int} {A B : Option Addr} {rs xss : List (List Int)} {l c m d : Nat} {h : Heap} (s : Rds h A rs) (hl : rs.length = l) (x : Tab h B xss) (hm : xss.length = m)
    (hsok : scheduleOk n rs = true) (hok : resultsOk n rs xss = true) :
    ACalls Try.prog I.Schedule.points.id [.agg #[.int .i64 n, .slice A l c], .slice B m d] h fun u h2 => Ext h h2 ∧ ∃ bo, h.fresh bo ∧ u = .slice (some ⟨bo, 0, none⟩) n.toNat n.toNat ∧ h2.own bo = some (.cells (LM (summedM (fun _ own => own) n rs xss))) := by
  refine I.Schedule.points.step _ _ _ _ _ _ _ _ h fun b hf => ⟨n, A, l, c, by simp [Heap.getN], ?_⟩
  have e := Ext.upd hf (.cells [.int .i64 n, .slice A l c])
  refine (I.Schedule.summed.spec (s.mono e) hl (x.mono e) hm hsok hok (fun h1 e1 b own _ _ => I.Schedule.points.c1.step _ _ _ _ ⟨Ext.refl _, rfl⟩)).mono ?_
  rintro u h2 ⟨e2, bo, f2, rfl, ho⟩
  exact ⟨_, _, _, rfl, e.trans e2, bo, fresh_of_upd f2, rfl, ho⟩

end Go.Proofs.Ythkbodgpcjcndaa

/- Points, as the reference tells them. -/
set_option linter.unusedVariables false
set_option linter.unusedSimpArgs false
namespace Go.Proofs.Ythkbodgpcjcndaa
open Go.HL

theorem S.l10Won.spec {x : Int} {h : Heap} : ACalls Try.prog S.l10Won.id [.int .i64 x] h fun u h2 => h2 = h ∧ u = .tuple #[.int .i64 (ownOf x), .int .i64 (2 - ownOf x)] := by
  refine S.l10Won.step _ _ h (dec_split (fun h1 => ⟨rfl, by simp [ownOf, h1]⟩) (fun h1 => dec_split (fun h2 => ⟨rfl, by simp [ownOf, h1, h2]⟩) (fun h2 => ⟨rfl, by simp [ownOf, h1, h2]⟩)))

theorem mutInts_rd {bo : Nat} {n : Int} {xs : List Int} {hI h : Heap} (i : (mutInts bo n).Inv xs hI h) {a : Int} (h0 : 0 ≤ a) (h1 : a < n) {K : Int → Prop} (k : K (xs.getD a.toNat 0)) :
    ∃ b o : Nat, some (⟨bo, 0, none⟩ : Addr) = some ⟨b, o, none⟩ ∧ (0 ≤ a ∧ a < (n.toNat : Int)) ∧ ∃ x : Int, h.get b (o + Int.toNat a * 1) = some (.int .i64 x) ∧ K x := by
  obtain ⟨hl, hf, rfl⟩ := i
  refine ⟨bo, 0, rfl, ⟨h0, by omega⟩, _, ?_, k⟩
  rw [get_upd, if_pos rfl, Nat.zero_add, Nat.mul_one]
  have : a.toNat < xs.length := by omega
  simp [this, List.getD_eq_getElem?_getD]
theorem mutInts_wr {bo : Nat} {n : Int} {xs : List Int} {hI h : Heap} (i : (mutInts bo n).Inv xs hI h) {a : Int} (h0 : 0 ≤ a) (h1 : a < n) {v : Int} {K : Heap → Prop} (k : ∀ h2, (mutInts bo n).Inv (xs.set a.toNat v) hI h2 → K h2) :
    ∃ b o : Nat, some (⟨bo, 0, none⟩ : Addr) = some ⟨b, o, none⟩ ∧ (0 ≤ a ∧ a < (n.toNat : Int)) ∧ SStore h b (o + Int.toNat a * 1) [.int .i64 v] K := by
  obtain ⟨hl, hf, rfl⟩ := i
  refine ⟨bo, 0, rfl, ⟨h0, by omega⟩, LM xs, by simp, by simp; omega, by simp [Value.oneCell'], k _ ⟨by rw [List.length_set]; exact hl, hf, ?_⟩⟩
  rw [upd_upd, Nat.zero_add, Nat.mul_one, splice_one _ _ _ (by simp; omega), LM, LM, ← List.map_set]

theorem S.l10Points.spec {n : Int} {A B : Option Addr} {rs xss : List (List Int)} {l c m d q : Nat} {h : Heap} (s : Rds h A rs) (hl : rs.length = l) (x : Tab h B xss) (hm : xss.length = m) (hq : q ≤ m)
    (hsok : scheduleOk n rs = true) (hok : resultsOk n rs (xss.take q) = true) :
    ACalls Try.prog S.l10Points.id [.agg #[.int .i64 n, .slice A l c], .slice B m d, .int .i64 q] h fun u h2 => Ext h h2 ∧ ∃ bo, h.fresh bo ∧ u = .slice (some ⟨bo, 0, none⟩) n.toNat n.toNat ∧ h2.own bo = some (.cells (LM (summedM (fun _ own => own) n rs (xss.take q)))) := by
  obtain ⟨k1, k2, k3, k4⟩ := scheduleOk_facts hsok
  have h0 : 0 ≤ n := by omega
  refine S.l10Points.step _ _ _ _ _ _ _ _ _ h fun b hf => ⟨n, by simp, rfl, by omega, by omega, by omega, fun bo hfo => ?_⟩
  have e := Ext.upd hf (.cells [.int .i64 n, .slice A l c])
  have hn : (h.upd b (.cells [.int .i64 n, .slice A l c])).get b (0 + 0) = some (.int .i64 n) := by simp
  have hs : (h.upd b (.cells [.int .i64 n, .slice A l c])).get b (0 + 1) = some (.slice A l c) := by simp
  have hfo' := fresh_of_upd hfo
  generalize h.upd b (.cells [.int .i64 n, .slice A l c]) = hI1 at *
  have hinv1 : (mutInts bo n).Inv (List.replicate n.toNat 0) hI1 (hI1.upd bo (.cells (List.replicate n.toNat (.int .i64 0)))) := ⟨by simp; omega, hfo, by simp [LM]⟩
  generalize hI1.upd bo (.cells (List.replicate n.toNat (.int .i64 0))) = h1 at *
  have hml : (xss.take q).length ≤ rs.length := by
    simp only [resultsOk, Bool.and_eq_true, decide_eq_true_eq] at hok; exact hok.1
  have hrows : rowsOk n rs (xss.take q) = true := by simp only [resultsOk, Bool.and_eq_true] at hok; exact hok.2
  have hql : (xss.take q).length = q := by simp; omega
  have inner : ∀ (i : Nat) (hi : i < m) (hiq : i < q) (ps : List (List Int)) (P : Option Addr) (cP : Nat) (K : Value → Heap → Prop) (hps : ∀ p ∈ ps, p.length = 2 ∧ 0 ≤ p.getD 0 0 ∧ p.getD 0 0 < p.getD 1 0 ∧ p.getD 1 0 < n) (hlen : ps.length = (xss.getD i []).length) (hbig : ps.length ≤ 14) (k j : Nat) (t : List Int) (hJ h2 : Heap),
      j + k = ps.length → Ext hI1 hJ → (mutInts bo n).Inv t hJ h2 → Tab hJ P ps →
      (∀ hK h3, Ext hI1 hK → (mutInts bo n).Inv ((evRow i (ps.drop j) ((xss.getD i []).drop j)).foldl (addAt fun _ own => own) t) hK h3 → S.l10Points.L0 K (.slice B m d) (.int .i64 q) (.pointer (some ⟨b, 0, none⟩)) (.slice (some ⟨bo, 0, none⟩) n.toNat n.toNat) (.int .i64 ((i + 1 : Nat) : Int)) h3) →
      S.l10Points.L1 K (.slice B m d) (.int .i64 q) (.pointer (some ⟨b, 0, none⟩)) (.slice (some ⟨bo, 0, none⟩) n.toNat n.toNat) (.int .i64 i) (.slice P ps.length cP) (.int .i64 j) h2 := by
    intro i hi hiq ps P cP K hps hlen hbig k
    induction k with
    | zero =>
      intro j t hJ h2 hj he hv _ hk
      refine S.l10Points.L1_step K _ _ _ _ _ _ _ _ _ _ _ _ _ _ _ (dec_split (fun hc => by omega) (fun _ => ?_))
      rw [wsucc (by omega)]
      refine hk hJ h2 he ?_
      rw [List.drop_eq_nil_of_le (by omega)]
      exact hv
    | succ k ih =>
      intro j t hJ h2 hj he hv hP hk
      have hj' : j < ps.length := by omega
      have hjx : j < (xss.getD i []).length := by omega
      obtain ⟨p2, p3, p4, p5⟩ := hps _ (List.getElem_mem hj')
      have ev := (mutInts bo n).ext _ _ _ hv
      have e1 : ps.getD (Int.toNat j) [] = ps[j] := by rw [Int.toNat_natCast, List.getD_eq_getElem?_getD, List.getElem?_eq_getElem hj']; rfl
      have e2 : (xss.getD i []).getD (Int.toNat j) 0 = (xss.getD i [])[j] := by rw [Int.toNat_natCast, List.getD_eq_getElem?_getD, List.getElem?_eq_getElem hjx]; rfl
      have r2 : Int.toNat (0 : Int) = 0 := rfl
      have r3 : Int.toNat (1 : Int) = 1 := rfl
      refine S.l10Points.L1_step K _ _ _ _ _ _ _ _ _ _ _ _ _ _ _ (dec_split (fun hc => ?_) (fun hc => by omega))
      refine (x.mono (e.trans he)).rd ev hm (by omega) (by omega) fun C dC hC _ => ?_
      rw [Int.toNat_natCast i] at hC ⊢
      refine hC.rd ev rfl (by omega) (by omega) ?_
      rw [e2]
      refine ((mutInts bo n).frame _ _ _ hv (S.l10Won.spec (h := hJ))).mono ?_
      rintro u h3 ⟨hJ', hv3, rfl, rfl⟩
      have ev3 := (mutInts bo n).ext _ _ _ hv3
      refine ⟨_, _, rfl, hP.rd ev3 rfl (by omega) (by omega) fun D dD hD _ => ?_⟩
      rw [e1] at hD ⊢
      refine hD.rd ev3 rfl (by omega) (by omega) (hP.rd ev3 rfl (by omega) (by omega) fun D2 dD2 hD2 _ => ?_)
      rw [e1] at hD2 ⊢
      refine hD2.rd ev3 rfl (by omega) (by omega) (mutInts_rd hv3 p3 (by omega) (mutInts_wr hv3 p3 (by omega) fun h4 hv4 => ?_))
      have ev4 := (mutInts bo n).ext _ _ _ hv4
      refine hP.rd ev4 rfl (by omega) (by omega) fun D3 dD3 hD3 _ => ?_
      rw [e1] at hD3 ⊢
      refine hD3.rd ev4 rfl (by omega) (by omega) (hP.rd ev4 rfl (by omega) (by omega) fun D4 dD4 hD4 _ => ?_)
      rw [e1] at hD4 ⊢
      refine hD4.rd ev4 rfl (by omega) (by omega) (mutInts_rd hv4 (by omega) p5 (mutInts_wr hv4 (by omega) p5 fun h5 hv5 => ?_))
      rw [wsucc (by omega)]
      refine ih (j + 1) _ hJ' h5 (by omega) he hv5 hP fun hK h6 eK hv6 => hk hK h6 eK ?_
      rw [List.drop_eq_getElem_cons hj', List.drop_eq_getElem_cons hjx, evRow, List.foldl_cons, List.foldl_cons]
      exact hv6
  have loop : ∀ (k i : Nat) (t : List Int) (hJ h2 : Heap) (K : Value → Heap → Prop), i + k = q → Ext hI1 hJ → (mutInts bo n).Inv t hJ h2 → rowsOk n (rs.drop i) ((xss.take q).drop i) = true →
      (∀ hK h3, Ext hI1 hK → (mutInts bo n).Inv ((evs n i (rs.drop i) ((xss.take q).drop i)).foldl (addAt fun _ own => own) t) hK h3 → K (.slice (some ⟨bo, 0, none⟩) n.toNat n.toNat) h3) →
      S.l10Points.L0 K (.slice B m d) (.int .i64 q) (.pointer (some ⟨b, 0, none⟩)) (.slice (some ⟨bo, 0, none⟩) n.toNat n.toNat) (.int .i64 i) h2 := by
    intro k
    induction k with
    | zero =>
      intro i t hJ h2 K hi he hv _ hk
      refine S.l10Points.L0_step K _ _ _ _ _ _ _ _ _ _ _ (dec_split (fun hc => by omega) (fun _ => hk hJ h2 he ?_))
      have e9 : (xss.take q).drop i = [] := List.drop_eq_nil_of_le (by omega)
      rw [e9]
      cases hd : rs.drop i <;> exact hv
    | succ k ih =>
      intro i t hJ h2 K hi he hv hro hk
      have hi' : i < (xss.take q).length := by omega
      have hir : i < rs.length := by omega
      have ev := (mutInts bo n).ext _ _ _ hv
      refine S.l10Points.L0_step K _ _ _ _ _ _ _ _ _ _ _ (dec_split (fun hc => ⟨n, ev.get (he.get hn), A, l, c, ev.get (he.get hs), ?_⟩) (fun hc => by omega))
      refine (s.mono (e.trans he)).rd ev hl (by omega) (by omega) fun hr14 => ?_
      refine ((mutInts bo n).frame _ _ _ hv (S.l01Pairs.spec hr14 h0 k2)).mono ?_
      rintro u h3 ⟨hK, hv3, eK, P, cP, rfl, hP⟩
      have e1 : rs.getD (Int.toNat i) [] = rs[i] := by rw [Int.toNat_natCast, List.getD_eq_getElem?_getD, List.getElem?_eq_getElem hir]; rfl
      have e2 : xss.getD i [] = (xss.take q)[i] := by
        rw [List.getElem_take, List.getD_eq_getElem?_getD, List.getElem?_eq_getElem (by omega)]; rfl
      rw [e1] at hP ⊢
      rw [List.drop_eq_getElem_cons hi', List.drop_eq_getElem_cons hir, evs, ← e2] at hk
      rw [List.drop_eq_getElem_cons hi', List.drop_eq_getElem_cons hir, rowsOk, Bool.and_eq_true, ← e2] at hro
      have hlen : (pairsOf n rs[i]).length = (xss.getD i []).length := by
        have := hro.1
        simp only [rowOk, Bool.and_eq_true, decide_eq_true_eq] at this
        exact this.1.symm
      have hbig : (pairsOf n rs[i]).length ≤ 14 := by have := pairsFrom_len rs[i] n.toNat 0; unfold pairsOf; omega
      refine ⟨P, _, cP, rfl, inner i (by omega) (by omega) _ P cP K (fun p hp => pairsOf_mem (k4 _ (List.getElem_mem hir)) h0 hp) hlen hbig _ 0 t hK h3 (Nat.zero_add _) (he.trans eK) hv3 hP (fun hL h4 eL hv4 => ?_)⟩
      refine ih (i + 1) _ hL h4 K (by omega) eL hv4 hro.2 fun hM h5 eM hv5 => hk hM h5 eM ?_
      rw [List.foldl_append]
      exact hv5
  refine loop q 0 _ hI1 h1 _ (by omega) (Ext.refl _) hinv1 (by simpa using hrows) fun hK h3 eK hv => ?_
  obtain ⟨hl2, fK, rfl⟩ := hv
  exact ⟨(e.trans eK).trans (Ext.upd fK _), bo, hfo', rfl, by simp [summedM]⟩

end Go.Proofs.Ythkbodgpcjcndaa

/- A point is given, if need be by moving others: the reference's function. -/
set_option linter.unusedVariables false
set_option linter.unusedSimpArgs false
namespace Go.Proofs.Ythkbodgpcjcndaa
open Go.HL

/-- Met, by number of team. -/
def metB (met : List Bool) (b : Int) : Bool := met.getD b.toNat false
def tm (games : List (List Int)) (i : Nat) (k : Nat) : Int := (games.getD i []).getD k 0
def Both (games : List (List Int)) (met : List Bool) (i : Nat) : Prop := metB met (tm games i 0) = true ∧ metB met (tm games i 1) = true
def MetLe (met met' : List Bool) : Prop := met'.length = met.length ∧ ∀ b, metB met b = true → metB met' b = true
theorem MetLe.refl (met : List Bool) : MetLe met met := ⟨rfl, fun _ h => h⟩
theorem MetLe.trans {a b c : List Bool} (h : MetLe a b) (k : MetLe b c) : MetLe a c := ⟨k.1.trans h.1, fun x hx => k.2 x (h.2 x hx)⟩
theorem Both.mono {games : List (List Int)} {a b : List Bool} {i : Nat} (h : Both games a i) (k : MetLe a b) : Both games b i := ⟨k.2 _ h.1, k.2 _ h.2⟩

structure GiveT (games : List (List Int)) (n : Nat) (given room : List Int) (met : List Bool) (i : Nat) (given' room' : List Int) (met' : List Bool) : Prop where
  gl : given'.length = given.length
  rl : room'.length = room.length
  a : given'.getD i (-1) = tm games i 0 ∨ given'.getD i (-1) = tm games i 1
  b : ∀ x : Nat, x < n → room'.getD x 0 + ((given'.count (x : Int) : Nat) : Int) = room.getD x 0 + (((given.set i (-1)).count (x : Int) : Nat) : Int)
  c : ∀ x : Nat, x < n → 0 ≤ room'.getD x 0
  d : ∀ j, j < given.length → j ≠ i → given'.getD j (-1) = given.getD j (-1) ∨ (given.getD j (-1) ≠ -1 ∧ metB met (given.getD j (-1)) = false ∧ (given'.getD j (-1) = tm games j 0 ∨ given'.getD j (-1) = tm games j 1))
  e : MetLe met met'
structure GiveF (games : List (List Int)) (n : Nat) (given room : List Int) (met : List Bool) (i : Nat) (met' : List Bool) : Prop where
  e : MetLe met met'
  f : Both games met' i
  g : ∀ x : Nat, x < n → metB met' x = true → metB met x = false → room.getD x 0 = 0 ∧ ∀ j, j < given.length → given.getD j (-1) = (x : Int) → Both games met' j

theorem metB_set {met : List Bool} {b : Int} (h0 : 0 ≤ b) (hb : b.toNat < met.length) : metB (met.set b.toNat true) b = true := by unfold metB; rw [lget_set_self hb]
theorem metB_set_ne {met : List Bool} {b x : Int} (h0 : 0 ≤ b) (hx : 0 ≤ x) (hne : x ≠ b) (v : Bool) : metB (met.set b.toNat v) x = metB met x := by unfold metB; rw [lget_set_ne _ (by omega)]
theorem metLe_set (met : List Bool) (b : Int) : MetLe met (met.set b.toNat true) := by
  refine ⟨by simp, fun x hx => ?_⟩
  unfold metB at *
  by_cases h : b.toNat = x.toNat
  · have : x.toNat < met.length := by
      rcases Nat.lt_or_ge x.toNat met.length with h | h
      · exact h
      · rw [List.getD_eq_getElem?_getD, List.getElem?_eq_none h] at hx; cases hx
    rw [h, lget_set_self this]
  · rw [lget_set_ne _ h]; exact hx
/-- How many are not met. -/
def left (met : List Bool) : Nat := met.count false
theorem left_set {met : List Bool} {b : Int} (hb : b.toNat < met.length) (hm : metB met b = false) : left (met.set b.toNat true) + 1 = left met := by
  have := count_set' false true false met b.toNat hb
  unfold metB at hm
  rw [hm] at this
  simpa [left] using this
theorem left_le {met met' : List Bool} (h : MetLe met met') : left met' ≤ left met := by
  obtain ⟨hl, hm⟩ := h
  have key : ∀ (a b : List Bool), b.length = a.length → (∀ i, a.getD i false = true → b.getD i false = true) → b.count false ≤ a.count false := by
    intro a
    induction a with
    | nil => intro b hb _; have : b = [] := List.eq_nil_of_length_eq_zero (by simpa using hb); subst this; simp
    | cons x a ih =>
      intro b hb hi
      cases b with
      | nil => simp at hb
      | cons y b =>
        have h1 := ih b (by simpa using hb) (fun i hi' => by simpa using hi (i + 1) (by simpa using hi'))
        have h2 := hi 0
        simp only [List.getD_cons_zero] at h2
        simp only [List.count_cons]
        cases x <;> cases y <;> simp_all <;> omega
  refine key met met' hl fun i hi => ?_
  have := hm (i : Int)
  unfold metB at this
  simpa using this (by simpa using hi)

/-- The blocks that change; sg, sr, st: what stands behind the rows. -/
structure GMem (m : PMap) (bg br bm : Nat) (sg sr st : List Value) (given room : List Int) (met : List Bool) : Prop where
  g : m bg = some (LM given ++ sg)
  r : m br = some (LM room ++ sr)
  t : m bm = some (BL met ++ st)
  n1 : bg ≠ br
  n2 : bg ≠ bm
  n3 : br ≠ bm
def Same (m m' : PMap) (bg br bm : Nat) : Prop := ∀ x, x ≠ bg → x ≠ br → x ≠ bm → m' x = m x
theorem Same.refl (m : PMap) (bg br bm : Nat) : Same m m bg br bm := fun _ _ _ _ => rfl
theorem Same.trans {m1 m2 m3 : PMap} {bg br bm : Nat} (a : Same m1 m2 bg br bm) (b : Same m2 m3 bg br bm) : Same m1 m3 bg br bm := fun x h1 h2 h3 => (b x h1 h2 h3).trans (a x h1 h2 h3)
theorem GMem.putG {m : PMap} {bg br bm : Nat} {sg sr st : List Value} {given room : List Int} {met : List Bool} (M : GMem m bg br bm sg sr st given room met) (g : List Int) : GMem (m.put bg (LM g ++ sg)) bg br bm sg sr st g room met ∧ Same m (m.put bg (LM g ++ sg)) bg br bm :=
  ⟨⟨put_self _ _ _, by rw [put_ne _ _ M.n1.symm]; exact M.r, by rw [put_ne _ _ M.n2.symm]; exact M.t, M.n1, M.n2, M.n3⟩, fun x h1 _ _ => put_ne _ _ h1⟩
theorem GMem.putR {m : PMap} {bg br bm : Nat} {sg sr st : List Value} {given room : List Int} {met : List Bool} (M : GMem m bg br bm sg sr st given room met) (g : List Int) : GMem (m.put br (LM g ++ sr)) bg br bm sg sr st given g met ∧ Same m (m.put br (LM g ++ sr)) bg br bm :=
  ⟨⟨by rw [put_ne _ _ M.n1]; exact M.g, put_self _ _ _, by rw [put_ne _ _ M.n3.symm]; exact M.t, M.n1, M.n2, M.n3⟩, fun x _ h1 _ => put_ne _ _ h1⟩
theorem GMem.putT {m : PMap} {bg br bm : Nat} {sg sr st : List Value} {given room : List Int} {met : List Bool} (M : GMem m bg br bm sg sr st given room met) (g : List Bool) : GMem (m.put bm (BL g ++ st)) bg br bm sg sr st given room g ∧ Same m (m.put bm (BL g ++ st)) bg br bm :=
  ⟨⟨by rw [put_ne _ _ M.n2]; exact M.g, by rw [put_ne _ _ M.n3]; exact M.r, put_self _ _ _, M.n1, M.n2, M.n3⟩, fun x _ _ h1 => put_ne _ _ h1⟩

theorem over_rdB {hI : Heap} {m : PMap} {b l : Nat} {xs : List Bool} {sp : List Value} (hm : m b = some (BL xs ++ sp)) (hl : xs.length = l) {n : Int} (h0 : 0 ≤ n) (h1 : n < (l : Int)) {K : Bool → Prop} (k : K (metB xs n)) :
    ∃ b' o : Nat, some (⟨b, 0, none⟩ : Addr) = some ⟨b', o, none⟩ ∧ (0 ≤ n ∧ n < (l : Int)) ∧ ∃ x : Bool, (over hI m).get b' (o + Int.toNat n * 1) = some (.bool x) ∧ K x := by
  refine ⟨b, 0, rfl, ⟨h0, h1⟩, _, ?_, k⟩
  rw [over_get hm, Nat.zero_add, Nat.mul_one]
  have : n.toNat < xs.length := by omega
  rw [List.getElem?_append_left (by simpa using this)]
  simp [this, metB, List.getD_eq_getElem?_getD]

end Go.Proofs.Ythkbodgpcjcndaa

/- A point is given, if need be by moving others: the reference's function, walked. -/
set_option linter.unusedVariables false
set_option linter.unusedSimpArgs false
namespace Go.Proofs.Ythkbodgpcjcndaa
open Go.HL

theorem count_diff {given : List Int} {i : Nat} (hi : i < given.length) (b : Int) (x : Nat) : (((given.set i b).count (x : Int) : Nat) : Int) = (((given.set i (-1)).count (x : Int) : Nat) : Int) + (if b = (x : Int) then 1 else 0) := by
  have h1 := count_set' (x : Int) b (-1) given i hi
  have h2 := count_set' (x : Int) (-1) (-1) given i hi
  have h3 : ¬ ((-1 : Int) = (x : Int)) := by omega
  rw [if_neg h3] at h2
  split <;> simp_all <;> omega

/-- What a call leaves behind. -/
def GiveQ (games : List (List Int)) (n : Nat) (hI : Heap) (m : PMap) (bg br bm : Nat) (sg sr st : List Value) (given room : List Int) (met : List Bool) (i : Nat) (u : Value) (h2 : Heap) : Prop :=
  ∃ (r : Bool) (given' room' : List Int) (met' : List Bool) (m' : PMap), u = .bool r ∧ h2 = over hI m' ∧ Beside hI m' ∧ GMem m' bg br bm sg sr st given' room' met' ∧ Same m m' bg br bm ∧
    (r = true → GiveT games n given room met i given' room' met') ∧ (r = false → given' = given ∧ room' = room ∧ GiveF games n given room met i met')

theorem S.l10Give.spec {games : List (List Int)} {n L : Nat} {G : Option Addr} {cG : Nat} {hI : Heap} (hG : Tab hI G games) (hL : games.length = L) (hLb : L ≤ 2147483648)
    (htm : ∀ i, i < L → (games.getD i []).length = 2 ∧ ∀ k, k < 2 → 0 ≤ tm games i k ∧ tm games i k < n) {bg br bm cg cr cm : Nat} {sg sr st : List Value} :
    ∀ (N : Nat) (given room : List Int) (met : List Bool) (m : PMap) (i : Nat), left met < N → given.length = L → room.length = n → met.length = n → (∀ x, x < n → 0 ≤ room.getD x 0 ∧ room.getD x 0 ≤ 9223372036854775807) →
      (given.getD i (-1) = -1 ∨ metB met (given.getD i (-1)) = true) → i < L → GMem m bg br bm sg sr st given room met → Beside hI m →
      ACalls Try.prog S.l10Give.id [.slice G L cG, .slice (some ⟨bg, 0, none⟩) L cg, .slice (some ⟨br, 0, none⟩) n cr, .int .i64 i, .slice (some ⟨bm, 0, none⟩) n cm] (over hI m) (GiveQ games n hI m bg br bm sg sr st given room met i) := by
  intro N
  induction N with
  | zero => intro given room met m i hN; omega
  | succ N ihN =>
    intro given room met m i hN hgl hrl hml hroom hpre hi hM hB
    obtain ⟨hrow2, htr⟩ := htm i hi
    -- from team k on
    have loop0 : ∀ (kk k : Nat) (met1 : List Bool) (m1 : PMap), k + kk = 2 → GMem m1 bg br bm sg sr st given room met1 → Beside hI m1 → Same m m1 bg br bm → MetLe met met1 → (∀ q, q < k → metB met1 (tm games i q) = true) →
        (∀ x : Nat, x < n → metB met1 x = true → metB met x = false → room.getD x 0 = 0 ∧ ∀ j, j < given.length → given.getD j (-1) = (x : Int) → Both games met1 j) →
        S.l10Give.L0 (GiveQ games n hI m bg br bm sg sr st given room met i) (.slice G L cG) (.slice (some ⟨bg, 0, none⟩) L cg) (.slice (some ⟨br, 0, none⟩) n cr) (.int .i64 i) (.slice (some ⟨bm, 0, none⟩) n cm) (.int .i64 k) (over hI m1) := by
      intro kk
      induction kk with
      | zero =>
        intro k met1 m1 hk M1 B1 S1 le1 hdone hprop
        refine S.l10Give.L0_step _ _ _ _ _ _ _ _ _ _ _ _ _ _ _ _ (dec_split (fun hc => by omega) (fun _ => ?_))
        exact ⟨false, given, room, met1, m1, rfl, rfl, B1, M1, S1, fun h => (by cases h), fun _ => ⟨rfl, rfl, le1, ⟨hdone 0 (by omega), hdone 1 (by omega)⟩, hprop⟩⟩
      | succ kk ihk =>
        intro k met1 m1 hk M1 B1 S1 le1 hdone hprop
        obtain ⟨t0, t1⟩ := htr k (by omega)
        have hml1 : met1.length = n := le1.1.trans hml
        have hbn : (tm games i k).toNat < n := by omega
        have etm : ((tm games i k).toNat : Int) = tm games i k := by omega
        refine S.l10Give.L0_step _ _ _ _ _ _ _ _ _ _ _ _ _ _ _ _ (dec_split (fun hc => ?_) (fun hc => by omega))
        refine hG.rd (over_ext B1) hL (by omega) (by omega) fun D dD hD _ => ?_
        rw [Int.toNat_natCast i] at hD ⊢
        refine hD.rd (over_ext B1) rfl (by omega) (by omega) ?_
        rw [Int.toNat_natCast k]
        rw [show (games.getD i []).getD k 0 = tm games i k from rfl]
        refine over_rdB M1.t hml1 t0 t1 (bool_split (fun hmet => ?_) (fun hnot => ?_))
        · rw [wsucc (by omega)]
          refine ihk (k + 1) met1 m1 (by omega) M1 B1 S1 le1 (fun q hq => ?_) hprop
          by_cases hqk : q = k
          · rw [hqk]; exact hmet
          · exact hdone q (by omega)
        · -- it is met now
          have hbm : metB met (tm games i k) = false := by
            cases hh : metB met (tm games i k) with
            | false => rfl
            | true => rw [le1.2 _ hh] at hnot; cases hnot
          refine over_wr M1.t (by simp [hml1]) t0 t1 rfl ?_
          have eset : (BL met1).set (tm games i k).toNat (.bool true) = BL (met1.set (tm games i k).toNat true) := by rw [BL, BL, ← List.map_set]
          rw [eset]
          obtain ⟨M2, S2⟩ := M1.putT (met1.set (tm games i k).toNat true)
          have B2 := B1.put (b := bm) (by rw [M1.t]; simp) (BL (met1.set (tm games i k).toNat true) ++ st)
          have le2 := metLe_set met1 (tm games i k)
          have hin : metB (met1.set (tm games i k).toNat true) (tm games i k) = true := metB_set t0 (by omega)
          have hlt2 : left (met1.set (tm games i k).toNat true) < N := by
            have h1 := left_set (b := tm games i k) (by omega) hnot
            have h2 := left_le le1
            omega
          generalize hm2 : met1.set (tm games i k).toNat true = met2 at *
          generalize m1.put bm (BL met2 ++ st) = m2 at *
          have hml2 : met2.length = n := le2.1.trans hml1
          refine over_rd M2.r hrl t0 t1 (dec_split (fun hpos => ?_) (fun hzero => ?_))
          · -- there is room
            obtain ⟨r0, r1⟩ := hroom (tm games i k).toNat hbn
            refine over_rd M2.r hrl t0 t1 (over_wr M2.r (by simp [hrl]) t0 t1 rfl ?_)
            rw [w64 (by omega) (by omega)]
            have er : (LM room).set (tm games i k).toNat (.int .i64 (room.getD (tm games i k).toNat 0 - 1)) = LM (room.set (tm games i k).toNat (room.getD (tm games i k).toNat 0 - 1)) := by rw [LM, LM, ← List.map_set]
            rw [er]
            obtain ⟨M3, S3⟩ := M2.putR (room.set (tm games i k).toNat (room.getD (tm games i k).toNat 0 - 1))
            have B3 := B2.put (b := br) (by rw [M2.r]; simp) (LM (room.set (tm games i k).toNat (room.getD (tm games i k).toNat 0 - 1)) ++ sr)
            refine over_wr M3.g (by simp [hgl]) (by omega) (by omega) rfl ?_
            have eg : (LM given).set (Int.toNat i) (.int .i64 (tm games i k)) = LM (given.set i (tm games i k)) := by rw [LM, LM, ← List.map_set, Int.toNat_natCast]
            rw [eg]
            obtain ⟨M4, S4⟩ := M3.putG (given.set i (tm games i k))
            have B4 := B3.put (b := bg) (by rw [M3.g]; simp) (LM (given.set i (tm games i k)) ++ sg)
            refine ⟨true, _, _, _, _, rfl, rfl, B4, M4, (S1.trans S2).trans (S3.trans S4), fun _ => ?_, fun h => (by cases h)⟩
            refine { gl := by simp, rl := by simp, a := ?_, b := fun x hx => ?_, c := fun x hx => ?_, d := fun j hj hne => .inl (lget_set_ne _ (Ne.symm hne) _ _), e := le1.trans le2 }
            · rw [lget_set_self (by omega)]
              have : k = 0 ∨ k = 1 := by omega
              rcases this with rfl | rfl
              · exact .inl rfl
              · exact .inr rfl
            · rw [count_diff (by omega)]
              by_cases hxb : (tm games i k).toNat = x
              · subst hxb
                rw [lget_set_self (by omega), if_pos etm.symm]; omega
              · rw [lget_set_ne _ hxb, if_neg (by omega)]; omega
            · by_cases hxb : (tm games i k).toNat = x
              · subst hxb; rw [lget_set_self (by omega)]; omega
              · rw [lget_set_ne _ hxb]; exact (hroom x hx).1
          · -- no room: others are asked
            have hz : room.getD (tm games i k).toNat 0 = 0 := by have := (hroom _ hbn).1; omega
            have loop1 : ∀ (jj j : Nat) (met3 : List Bool) (m3 : PMap), j + jj = L → GMem m3 bg br bm sg sr st given room met3 → Beside hI m3 → Same m2 m3 bg br bm → MetLe met2 met3 →
                (∀ x : Nat, x < n → metB met3 x = true → metB met x = false → (x : Int) ≠ tm games i k → room.getD x 0 = 0 ∧ ∀ j', j' < given.length → given.getD j' (-1) = (x : Int) → Both games met3 j') →
                (∀ j', j' < j → given.getD j' (-1) = tm games i k → Both games met3 j') →
                S.l10Give.L1 (GiveQ games n hI m bg br bm sg sr st given room met i) (.slice G L cG) (.slice (some ⟨bg, 0, none⟩) L cg) (.slice (some ⟨br, 0, none⟩) n cr) (.int .i64 i) (.slice (some ⟨bm, 0, none⟩) n cm) (.int .i64 k) (.int .i64 (tm games i k)) (.int .i64 j) (over hI m3) := by
              intro jj
              induction jj with
              | zero =>
                intro j met3 m3 hj M3 B3 S3 le3 hp3 hd3
                refine S.l10Give.L1_step _ _ _ _ _ _ _ _ _ _ _ _ _ _ _ _ _ _ (dec_split (fun hc => by omega) (fun _ => ?_))
                rw [wsucc (by omega)]
                refine ihk (k + 1) met3 m3 (by omega) M3 B3 ((S1.trans S2).trans S3) (le1.trans (le2.trans le3)) (fun q hq => ?_) (fun x hx h1 h2 => ?_)
                · by_cases hqk : q = k
                  · rw [hqk]; exact le3.2 _ hin
                  · exact le3.2 _ (le2.2 _ (hdone q (by omega)))
                · by_cases hxb : (x : Int) = tm games i k
                  · have hxe : x = (tm games i k).toNat := by omega
                    refine ⟨by rw [hxe]; exact hz, fun j' hj' hgj => hd3 j' (by omega) (hgj.trans hxb)⟩
                  · exact hp3 x hx h1 h2 hxb
              | succ jj ihj =>
                intro j met3 m3 hj M3 B3 S3 le3 hp3 hd3
                have hml3 : met3.length = n := le3.1.trans hml2
                refine S.l10Give.L1_step _ _ _ _ _ _ _ _ _ _ _ _ _ _ _ _ _ _ (dec_split (fun hc => ?_) (fun hc => by omega))
                refine over_rd M3.g hgl (by omega) (by omega) ?_
                have ed : given.getD (Int.toNat j) 0 = given.getD j (-1) := by
                  have : j < given.length := by omega
                  simp [List.getD_eq_getElem?_getD, this]
                rw [ed]
                refine ndec_split (fun hne => ?_) (fun heq => ?_)
                · rw [wsucc (by omega)]
                  refine ihj (j + 1) met3 m3 (by omega) M3 B3 S3 le3 hp3 (fun j' hj' hg' => ?_)
                  by_cases hjj : j' = j
                  · rw [hjj] at hg'; exact absurd hg' hne
                  · exact hd3 j' (by omega) hg'
                · have hij : j ≠ i := by
                    intro e
                    rw [e] at heq
                    rcases hpre with h | h
                    · omega
                    · rw [heq, hbm] at h; cases h
                  have hl3 : left met3 < N := by have := left_le le3; omega
                  refine (ihN given room met3 m3 j hl3 hgl hrl hml3 hroom (.inr (by rw [heq]; exact le3.2 _ hin)) (by omega) M3 B3).mono ?_
                  rintro u h2 ⟨r, given', room', met4, m4, rfl, rfl, B4, M4, S4, hT, hF⟩
                  refine ⟨r, rfl, bool_split (fun hr => ?_) (fun hr => ?_)⟩
                  · have T := hT hr
                    have hgl' : given'.length = L := T.gl.trans hgl
                    refine over_wr M4.g (by simp [hgl']) (by omega) (by omega) rfl ?_
                    have eg : (LM given').set (Int.toNat i) (.int .i64 (tm games i k)) = LM (given'.set i (tm games i k)) := by rw [LM, LM, ← List.map_set, Int.toNat_natCast]
                    rw [eg]
                    obtain ⟨M5, S5⟩ := M4.putG (given'.set i (tm games i k))
                    have B5 := B4.put (b := bg) (by rw [M4.g]; simp) (LM (given'.set i (tm games i k)) ++ sg)
                    have hgi : given'.getD i (-1) = given.getD i (-1) := by
                      rcases T.d i (by omega) (Ne.symm hij) with h | ⟨h1, h2, _⟩
                      · exact h
                      · rcases hpre with h | h
                        · exact absurd h h1
                        · rw [(le1.trans (le2.trans le3)).2 _ h] at h2; cases h2
                    refine ⟨true, _, _, _, _, rfl, rfl, B5, M5, ((S1.trans S2).trans S3).trans (S4.trans S5), fun _ => ?_, fun h => (by cases h)⟩
                    refine { gl := by simp [T.gl], rl := T.rl, a := ?_, b := fun x hx => ?_, c := T.c, d := fun j' hj' hne => ?_, e := (le1.trans (le2.trans le3)).trans T.e }
                    · rw [lget_set_self (by omega)]
                      have : k = 0 ∨ k = 1 := by omega
                      rcases this with rfl | rfl
                      · exact .inl rfl
                      · exact .inr rfl
                    · have hb := T.b x hx
                      have c1 := count_set' (x : Int) (tm games i k) (-1) given' i (by omega)
                      have c2 := count_set' (x : Int) (-1) (-1) given j (by omega)
                      have c3 := count_set' (x : Int) (-1) (-1) given i (by omega)
                      rw [hgi] at c1
                      rw [heq] at c2
                      have h3 : ¬ ((-1 : Int) = (x : Int)) := by omega
                      rw [if_neg h3] at c2 c3
                      omega
                    · rw [lget_set_ne _ (Ne.symm hne)]
                      by_cases hjj : j' = j
                      · subst hjj
                        exact .inr ⟨by rw [heq]; omega, by rw [heq]; exact hbm, T.a⟩
                      · rcases T.d j' hj' hjj with h | ⟨h1, h2, h3⟩
                        · exact .inl h
                        · refine .inr ⟨h1, ?_, h3⟩
                          cases hh : metB met (given.getD j' (-1)) with
                          | false => rfl
                          | true => rw [(le1.trans (le2.trans le3)).2 _ hh] at h2; cases h2
                  · obtain ⟨rfl, rfl, F⟩ := hF hr
                    rw [wsucc (by omega)]
                    refine ihj (j + 1) met4 m4 (by omega) M4 B4 (S3.trans S4) (le3.trans F.e) (fun x hx h1 h2 hxb => ?_) (fun j' hj' hg' => ?_)
                    · cases hh : metB met3 x with
                      | true =>
                        obtain ⟨q1, q2⟩ := hp3 x hx hh h2 hxb
                        exact ⟨q1, fun j' hj' hg' => (q2 j' hj' hg').mono F.e⟩
                      | false => exact F.g x hx h1 hh
                    · by_cases hjj : j' = j
                      · rw [hjj]; exact F.f
                      · exact (hd3 j' (by omega) hg').mono F.e
            refine loop1 L 0 met2 m2 (by omega) M2 B2 (Same.refl _ _ _ _) (MetLe.refl _) (fun x hx h1 h2 hxb => ?_) (fun j' hj' => by omega)
            have hx1 : metB met1 x = true := by
              rw [← hm2, metB_set_ne t0 (by omega) hxb] at h1; exact h1
            obtain ⟨q1, q2⟩ := hprop x hx hx1 h2
            exact ⟨q1, fun j' hj' hg' => (q2 j' hj' hg').mono le2⟩
    refine S.l10Give.step _ _ _ _ _ _ _ _ _ _ _ _ _ _ _ (loop0 2 0 met m (by omega) hM hB (Same.refl _ _ _ _) (MetLe.refl _) (fun q hq => by omega) (fun x _ h1 h2 => by rw [h1] at h2; cases h2))

end Go.Proofs.Ythkbodgpcjcndaa

/- Whether a team can be first, as the reference tells it: the points and the meetings that are left. -/
set_option linter.unusedVariables false
set_option linter.unusedSimpArgs false
namespace Go.Proofs.Ythkbodgpcjcndaa
open Go.HL

def hasA (a : Int) (p : List Int) : Bool := decide (a = p.getD 0 0) || decide (a = p.getD 1 0)
def winPts (a : Int) (pts : List Int) (p : List Int) : List Int := if hasA a p then pts.set a.toNat (IntKind.wrap .i64 (pts.getD a.toNat 0 + 2)) else pts
def twice (p : List Int) : List (List Int) := [p, p]
def leftOf (a : Int) (ps : List (List Int)) : List (List Int) := ps.filter fun p => !hasA a p
def allPairs (n : Int) (rs : List (List Int)) : List (List Int) := rs.flatMap (pairsOf n)

theorem allPairs_cons (n : Int) (r : List Int) (rs : List (List Int)) : allPairs n (r :: rs) = pairsOf n r ++ allPairs n rs := by simp [allPairs]
theorem leftOf_app (a : Int) (ps qs : List (List Int)) : leftOf a (ps ++ qs) = leftOf a ps ++ leftOf a qs := by simp [leftOf]

theorem winPts_len (a : Int) (pts : List Int) (p : List Int) : (winPts a pts p).length = pts.length := by unfold winPts; split <;> simp
theorem fold_winPts_len (a : Int) : ∀ (ps : List (List Int)) (pts : List Int), (ps.foldl (winPts a) pts).length = pts.length
  | [], pts => rfl
  | p :: ps, pts => by rw [List.foldl_cons, fold_winPts_len a ps, winPts_len]

/-- The state of the first loops: points in a changing block, meetings in a growing list. -/
structure FSt (hI : Heap) (m : PMap) (h : Heap) (bp : Nat) (n : Int) (pts : List Int) (G : Option Addr) (l c : Nat) (gs : List (List Int)) (vs : List Value) : Prop where
  beside : Beside hI m
  cells : m bp = some (LM pts)
  plen : (pts.length : Int) = n
  vec : Vec (over hI m) h G l c 1 vs
  each : Each hI vs gs

theorem FSt.ext {hI : Heap} {m : PMap} {h : Heap} {bp : Nat} {n : Int} {pts : List Int} {G : Option Addr} {l c : Nat} {gs : List (List Int)} {vs : List Value} (s : FSt hI m h bp n pts G l c gs vs) : Ext hI h := (over_ext s.beside).trans s.vec.ext

/-- A new block that is only read, beneath it all. -/
theorem FSt.base {hI : Heap} {m : PMap} {h : Heap} {bp : Nat} {n : Int} {pts : List Int} {G : Option Addr} {l c : Nat} {gs : List (List Int)} {vs : List Value} (s : FSt hI m h bp n pts G l c gs vs) {b : Nat} (hf : h.fresh b) (k : Blk) :
    FSt (hI.upd b k) m (h.upd b k) bp n pts G l c gs vs ∧ hI.fresh b := by
  obtain ⟨v2, f2⟩ := s.vec.beside hf k
  have f3 := (over_fresh f2).1
  rw [over_base f2] at v2
  exact ⟨⟨s.beside.base f2 k, s.cells, s.plen, v2, s.each.mono (Ext.upd f3 k)⟩, f3⟩
/-- A call beside it all. -/
theorem FSt.call {hI : Heap} {m : PMap} {h : Heap} {bp : Nat} {n : Int} {pts : List Int} {G : Option Addr} {l c : Nat} {gs : List (List Int)} {vs : List Value} (s : FSt hI m h bp n pts G l c gs vs) {f : FuncId} {args : List Value} {R : Value → Heap → Prop}
    (cc : ACalls Try.prog f args hI fun u h2 => Ext hI h2 ∧ R u h2) : ACalls Try.prog f args h fun u h2 => ∃ hJ, Ext hI hJ ∧ FSt hJ m h2 bp n pts G l c gs vs ∧ R u hJ := by
  refine (s.vec.call (over_frame s.beside cc)).mono ?_
  rintro u h2 ⟨hV, v2, hJ, hb, rfl, e, r⟩
  exact ⟨hJ, e, ⟨hb, s.cells, s.plen, v2, s.each.mono e⟩, r⟩

theorem Each.app {h : Heap} : ∀ {ws : List Value} {yss : List (List Int)} {vs : List Value} {xss : List (List Int)}, Each h vs xss → Each h ws yss → Each h (vs ++ ws) (xss ++ yss) := by
  intro ws yss vs xss s t
  refine ⟨by simp [s.1, t.1], fun i u ys ha hb => ?_⟩
  rw [List.getElem?_append] at ha hb
  rw [s.1] at ha
  split at ha
  · rename_i hi; rw [if_pos hi] at hb; exact s.2 i u ys ha hb
  · rename_i hi; rw [if_neg hi] at hb; exact t.2 _ u ys ha hb
theorem FSt.append {hI : Heap} {m : PMap} {h : Heap} {bp : Nat} {n : Int} {pts : List Int} {G B : Option Addr} {l c q bytes : Nat} {gs gs2 : List (List Int)} {vs news z : List Value} {K : Value → Heap → Prop} (s : FSt hI m h bp n pts G l c gs vs)
    (hB : Row h B (q * 1) news) (hn : news.length = q * 1) (h1 : ∀ v ∈ news, v.oneCell' = true) (hb : (l + q) * bytes ≤ 140737488355328) (h63 : l + q ≤ 9223372036854775807) (hz : z.length = 1) (hE : Each hI news gs2)
    (k : ∀ hJ h' A' c', Ext hI hJ → FSt hJ m h' bp n pts A' (l + q) c' (gs ++ gs2) (vs ++ news) → K (.slice A' (l + q) c') h') : SAppend h 1 bytes z G l c B q K := by
  refine s.vec.append2 hB hn h1 hb h63 hz fun hV h' A' c' e v => ?_
  rcases e with rfl | ⟨x, kk, hf, rfl⟩
  · exact k hI h' A' c' (Ext.refl _) ⟨s.beside, s.cells, s.plen, v, s.each.app hE⟩
  · rw [over_base hf] at v
    have hx := Ext.upd (over_fresh hf).1 kk
    exact k _ h' A' c' hx ⟨s.beside.base hf kk, s.cells, s.plen, v, (s.each.app hE).mono hx⟩

/-- The growing list is done: it is only read from now on. -/
theorem FSt.freeze {hI : Heap} {m : PMap} {h : Heap} {bp : Nat} {n : Int} {pts : List Int} {G : Option Addr} {l c : Nat} {gs : List (List Int)} {vs : List Value} (s : FSt hI m h bp n pts G l c gs vs) :
    ∃ hK, Ext hI hK ∧ Beside hK m ∧ h = over hK m ∧ Tab hK G gs ∧ gs.length = l := by
  have hl : gs.length = l := by rw [← s.each.1, s.vec.len, Nat.mul_one]
  obtain ⟨hvl, ⟨rfl, rfl, rfl, e⟩ | ⟨x, sp, rfl, hx, e, _⟩⟩ := s.vec
  · have hv : vs = [] := List.eq_nil_of_length_eq_zero (by simpa using hvl)
    subst hv
    exact ⟨hI, Ext.refl _, s.beside, e, s.each.tab (Seg.nil_none _), hl⟩
  · rw [over_base hx] at e
    have e2 := Ext.upd (over_fresh hx).1 (.cells (vs ++ sp))
    exact ⟨_, e2, s.beside.base hx _, e, (s.each.mono e2).tab (Seg.new _ _ _ _), hl⟩

theorem S.l10First.inner {n a : Int} {A : Option Addr} {c0 l0 : Nat} {b bp : Nat} {hI1 : Heap} (a0 : 0 ≤ a) (an : a < n) (i : Nat) (hi40 : i ≤ 40) (ps : List (List Int)) (P : Option Addr) (cP : Nat) (K : Value → Heap → Prop) (hps : ∀ p ∈ ps, p.length = 2) (hbig : ps.length ≤ 14) :
    ∀ (k j : Nat) (pts : List Int) (G : Option Addr) (l c : Nat) (gs : List (List Int)) (vs : List Value) (hJ h2 : Heap) (m : PMap), j + k = ps.length → Ext hI1 hJ → FSt hJ m h2 bp n pts G l c gs vs → Tab hJ P ps → l ≤ 28 * i + 2 * j →
      (∀ (pts' : List Int) (G' : Option Addr) (l' c' : Nat) (gs' : List (List Int)) (vs' : List Value) (hK h3 : Heap) (m' : PMap), Ext hI1 hK → FSt hK m' h3 bp n pts' G' l' c' gs' vs' → l' ≤ 28 * (i + 1) → pts' = (ps.drop j).foldl (winPts a) pts → gs' = gs ++ (leftOf a (ps.drop j)).flatMap twice →
        S.l10First.L0 K (.int .i64 a) (.pointer (some ⟨b, 0, none⟩)) (.slice (some ⟨bp, 0, none⟩) n.toNat n.toNat) (.slice G' l' c') (.int .i64 ((i + 1 : Nat) : Int)) h3) →
      S.l10First.L1 K (.int .i64 a) (.pointer (some ⟨b, 0, none⟩)) (.slice (some ⟨bp, 0, none⟩) n.toNat n.toNat) (.slice G l c) (.int .i64 i) (.slice P ps.length cP) (.int .i64 j) h2 := by
  intro k
  induction k with
  | zero =>
    intro j pts G l c gs vs hJ h2 m hj he s hP hlb hk
    refine S.l10First.L1_step K _ _ _ _ _ _ _ _ _ _ _ _ _ _ _ (dec_split (fun hc => by omega) (fun _ => ?_))
    rw [wsucc (by omega)]
    refine hk pts G l c gs vs hJ h2 m he s (by omega) ?_ ?_
    · rw [List.drop_eq_nil_of_le (by omega)]; rfl
    · rw [List.drop_eq_nil_of_le (by omega)]; simp [leftOf]
  | succ k ih =>
    intro j pts G l c gs vs hJ h2 m hj he s hP hlb hk
    have hj' : j < ps.length := by omega
    have e1 : ps.getD (Int.toNat j) [] = ps[j] := by rw [Int.toNat_natCast, List.getD_eq_getElem?_getD, List.getElem?_eq_getElem hj']; rfl
    have e2 : ps[j].length = 2 := hps _ (List.getElem_mem hj')
    rw [List.drop_eq_getElem_cons hj'] at hk
    refine S.l10First.L1_step K _ _ _ _ _ _ _ _ _ _ _ _ _ _ _ (dec_split (fun hc k37 hk37 => ?_) (fun hc => by omega))
    have yes : hasA a ps[j] = true → k37 [.bool true] h2 := by
      intro hy
      refine hk37 _ _ (bool_split (fun _ => ?_) (fun hh => by cases hh))
      refine s.vec.under_rd (sp := []) (by rw [List.append_nil]; exact s.cells) (by have := s.plen; omega) a0 (by omega) (s.vec.under_wr (sp := []) (cs := LM pts) (by rw [List.append_nil]; exact s.cells) (by have := s.plen; simp; omega) a0 (by omega) rfl fun h3 v3 => ?_)
      have ew : (LM pts).set a.toNat (.int .i64 (IntKind.wrap .i64 (pts.getD a.toNat 0 + 2))) ++ [] = LM (winPts a pts ps[j]) := by rw [winPts, if_pos hy, List.append_nil, LM, LM, ← List.map_set]
      rw [ew] at v3
      rw [wsucc (by omega)]
      refine ih (j + 1) _ G l c gs vs hJ h3 _ (by omega) he ⟨s.beside.put (by rw [s.cells]; simp) _, put_self _ _ _, by rw [winPts_len]; exact s.plen, v3, s.each⟩ hP (by omega) fun pts' G' l' c' gs' vs' hK h4 m' eK s' hl' hp' hg' => hk pts' G' l' c' gs' vs' hK h4 m' eK s' hl' (by rw [List.foldl_cons]; exact hp') ?_
      rw [hg', leftOf, leftOf, List.filter_cons]
      simp [hy]
    have no : hasA a ps[j] = false → k37 [.bool false] h2 := by
      intro hno
      refine hk37 _ _ (bool_split (fun hh => by cases hh) (fun _ => ?_))
      refine hP.rd s.ext rfl (by omega) (by omega) fun D dD hD hdD => hP.rd s.ext rfl (by omega) (by omega) fun D2 dD2 hD2 hdD2 => ?_
      rw [e1] at hD hD2 hdD hdD2 ⊢
      intro b64 hf
      obtain ⟨s2, f2⟩ := s.base hf (.cells [.slice D ps[j].length dD, .slice D2 ps[j].length dD2])
      have eb := Ext.upd f2 (.cells [.slice D ps[j].length dD, .slice D2 ps[j].length dD2])
      have hseg : Seg (h2.upd b64 (.cells [.slice D ps[j].length dD, .slice D2 ps[j].length dD2])) (some ⟨b64, 0, none⟩) [.slice D ps[j].length dD, .slice D2 ps[j].length dD2] := Seg.new' _ _ _
      have hE : Each (hJ.upd b64 (.cells [.slice D ps[j].length dD, .slice D2 ps[j].length dD2])) [.slice D ps[j].length dD, .slice D2 ps[j].length dD2] (twice ps[j]) :=
        Each.app (Each.snoc (Each.nil _) ⟨D, dD, rfl, hD.mono eb, hdD⟩) (Each.snoc (Each.nil _) ⟨D2, dD2, rfl, hD2.mono eb, hdD2⟩)
      refine s2.append (q := 2) (hseg.row rfl) rfl (by simp [Value.oneCell']) (by omega) (by omega) rfl hE fun hK h3 A' c' eK s3 => ⟨_, _, _, rfl, ?_⟩
      rw [wsucc (by omega)]
      refine ih (j + 1) _ A' (l + 2) c' _ _ hK h3 m (by omega) (he.trans (eb.trans eK)) s3 (hP.mono (eb.trans eK)) (by omega) fun pts' G' l' c' gs' vs' hL h4 m' eL s' hl' hp' hg' => hk pts' G' l' c' gs' vs' hL h4 m' eL s' hl' ?_ ?_
      · rw [List.foldl_cons, winPts, hno]; exact hp'
      · rw [hg', leftOf, leftOf, List.filter_cons]
        simp [hno]
    refine hP.rd s.ext rfl (by omega) (by omega) fun D dD hD hdD => ?_
    rw [e1] at hD hdD ⊢
    refine hD.rd s.ext rfl (by omega) (by omega) (dec_split (fun hy => ?_) (fun hy => ?_))
    · rw [decide_eq_true hy]; exact yes (by rw [hasA]; simpa using .inl hy)
    · refine hP.rd s.ext rfl (by omega) (by omega) fun D2 dD2 hD2 hdD2 => ?_
      rw [e1] at hD2 hdD2 ⊢
      refine hD2.rd s.ext rfl (by omega) (by omega) ?_
      by_cases hy2 : a = ps[j].getD (Int.toNat 1) 0
      · rw [decide_eq_true hy2]; exact yes (by rw [hasA]; simpa using .inr hy2)
      · rw [decide_eq_false hy2]; exact no (by rw [hasA]; simpa using ⟨hy, hy2⟩)

theorem S.l10First.outer {n a : Int} {A : Option Addr} {rs : List (List Int)} {l0 c0 : Nat} {b bp : Nat} {hI1 : Heap} (a0 : 0 ≤ a) (an : a < n) (h14 : n ≤ 14) (hr : Rds hI1 A rs) (hl : rs.length = l0) (hl40 : l0 ≤ 40)
    (hn : hI1.get b (0 + 0) = some (.int .i64 n)) (hs : hI1.get b (0 + 1) = some (.slice A l0 c0)) (K : Value → Heap → Prop) :
    ∀ (k i : Nat) (pts : List Int) (G : Option Addr) (l c : Nat) (gs : List (List Int)) (vs : List Value) (hJ h2 : Heap) (m : PMap), i + k = l0 → Ext hI1 hJ → FSt hJ m h2 bp n pts G l c gs vs → l ≤ 28 * i →
      (∀ (pts' : List Int) (G' : Option Addr) (l' c' : Nat) (gs' : List (List Int)) (vs' : List Value) (hK h3 : Heap) (m' : PMap), Ext hI1 hK → FSt hK m' h3 bp n pts' G' l' c' gs' vs' → l' ≤ 28 * l0 → pts' = (allPairs n (rs.drop i)).foldl (winPts a) pts → gs' = gs ++ (leftOf a (allPairs n (rs.drop i))).flatMap twice →
        SAlloc h3 [] fun b69 h70 => S.l10First.L2 K (.int .i64 a) (.pointer (some ⟨b, 0, none⟩)) (.slice (some ⟨bp, 0, none⟩) n.toNat n.toNat) (.slice G' l' c') (.slice (some ⟨b69, 0, none⟩) 0 0) (.int .i64 0) h70) →
      S.l10First.L0 K (.int .i64 a) (.pointer (some ⟨b, 0, none⟩)) (.slice (some ⟨bp, 0, none⟩) n.toNat n.toNat) (.slice G l c) (.int .i64 i) h2 := by
  intro k
  induction k with
  | zero =>
    intro i pts G l c gs vs hJ h2 m hi he s hlb hk
    refine S.l10First.L0_step K _ _ _ _ _ _ _ _ _ _ _ ⟨A, l0, c0, s.ext.get (he.get hs), dec_split (fun hc => by omega) (fun _ => ?_)⟩
    have e9 : rs.drop i = [] := List.drop_eq_nil_of_le (by omega)
    refine hk pts G l c gs vs hJ h2 m he s (by omega) (by rw [e9]; rfl) (by rw [e9]; simp [allPairs, leftOf])
  | succ k ih =>
    intro i pts G l c gs vs hJ h2 m hi he s hlb hk
    have hir : i < rs.length := by omega
    rw [List.drop_eq_getElem_cons hir] at hk
    refine S.l10First.L0_step K _ _ _ _ _ _ _ _ _ _ _ ⟨A, l0, c0, s.ext.get (he.get hs), dec_split (fun hc => ⟨n, s.ext.get (he.get hn), A, l0, c0, s.ext.get (he.get hs), ?_⟩) (fun hc => by omega)⟩
    refine (hr.mono he).rd s.ext hl (by omega) (by omega) fun hr14 => ?_
    refine (s.call (S.l01Pairs.spec hr14 (by omega) h14)).mono ?_
    rintro u h3 ⟨hK, eK, s3, P, cP, rfl, hP⟩
    have e1 : rs.getD (Int.toNat i) [] = rs[i] := by rw [Int.toNat_natCast, List.getD_eq_getElem?_getD, List.getElem?_eq_getElem hir]; rfl
    rw [e1] at hP ⊢
    have hbig : (pairsOf n rs[i]).length ≤ 14 := by have := pairsFrom_len rs[i] n.toNat 0; unfold pairsOf; omega
    refine ⟨P, _, cP, rfl, S.l10First.inner (hI1 := hI1) (A := A) (c0 := c0) (l0 := l0) a0 an i (by omega) _ P cP K (fun p hp => pairsFrom_two _ _ _ p hp) hbig _ 0 pts G l c gs vs hK h3 m (Nat.zero_add _) (he.trans eK) s3 hP (by omega) fun pts' G' l' c' gs' vs' hL h4 m' eL s4 hl' hp' hg' => ?_⟩
    refine ih (i + 1) pts' G' l' c' gs' vs' hL h4 m' (by omega) eL s4 (by omega) fun pts2 G2 l2 c2 gs2 vs2 hM h5 m2 eM s5 hl2 hp2 hg2 => hk pts2 G2 l2 c2 gs2 vs2 hM h5 m2 eM s5 hl2 ?_ ?_
    · rw [hp2, hp', List.drop_zero, allPairs_cons, List.foldl_append]; rfl
    · rw [hg2, hg', List.drop_zero, allPairs_cons, leftOf_app, List.flatMap_append, List.append_assoc]; rfl

end Go.Proofs.Ythkbodgpcjcndaa

/- Whether a team can be first, as the reference tells it: the room of all teams. -/
set_option linter.unusedVariables false
set_option linter.unusedSimpArgs false
namespace Go.Proofs.Ythkbodgpcjcndaa
open Go.HL

def roomAt (a : Int) (pts : List Int) (x : Nat) : Int := IntKind.wrap .i64 (pts.getD a.toNat 0 - pts.getD x 0)
def roomsTo (a : Int) (pts : List Int) (k : Nat) : List Int := (List.range k).map (roomAt a pts)
theorem roomsTo_succ (a : Int) (pts : List Int) (k : Nat) : roomsTo a pts (k + 1) = roomsTo a pts k ++ [roomAt a pts k] := by simp [roomsTo, List.range_succ]
theorem roomsTo_len (a : Int) (pts : List Int) (k : Nat) : (roomsTo a pts k).length = k := by simp [roomsTo]
theorem roomsTo_get (a : Int) (pts : List Int) {k x : Nat} (h : x < k) : (roomsTo a pts k).getD x 0 = roomAt a pts x := by simp [roomsTo, List.getD_eq_getElem?_getD, h]

theorem S.l10First.rooms {n a : Int} {G : Option Addr} {gl gc : Nat} {b bp : Nat} {hI1 : Heap} {pts : List Int} (a0 : 0 ≤ a) (an : a < n) (h14 : n ≤ 14) (hn : hI1.get b (0 + 0) = some (.int .i64 n)) (K : Value → Heap → Prop) :
    ∀ (k x : Nat) (R : Option Addr) (l c : Nat) (hJ h2 : Heap) (m : PMap), (x : Int) + k = n → Ext hI1 hJ → Beside hJ m → m bp = some (LM pts) → (pts.length : Int) = n → Vec (over hJ m) h2 R l c 1 (LM (roomsTo a pts x)) →
      (∀ h3, Ext hI1 h3 → (∃ y : Nat, (y : Int) < n ∧ roomAt a pts y < 0) → K (.bool false) h3) → (∀ y : Nat, y < x → 0 ≤ roomAt a pts y) →
      (∀ (R' : Option Addr) (l' c' : Nat) (hK h3 : Heap), Ext hI1 hK → Beside hK m → Vec (over hK m) h3 R' l' c' 1 (LM (roomsTo a pts n.toNat)) → (∀ y : Nat, (y : Int) < n → 0 ≤ roomAt a pts y) →
        ((gl : Int) = (gl : Int) ∧ 0 ≤ (gl : Int) ∧ (gl : Int) * 8 ≤ 281474976710656 ∧ (gl : Int) ≤ 9223372036854775807 ∧ SAlloc h3 (List.replicate (Int.toNat (gl : Int)) (.int .i64 0)) fun b93 h94 => S.l10First.L3 K (.pointer (some ⟨b, 0, none⟩)) (.slice G gl gc) (.slice R' l' c') (.slice (some ⟨b93, 0, none⟩) (Int.toNat (gl : Int)) (Int.toNat (gl : Int))) (.int .i64 0) h94)) →
      S.l10First.L2 K (.int .i64 a) (.pointer (some ⟨b, 0, none⟩)) (.slice (some ⟨bp, 0, none⟩) n.toNat n.toNat) (.slice G gl gc) (.slice R l c) (.int .i64 x) h2 := by
  intro k
  induction k with
  | zero =>
    intro x R l c hJ h2 m hx he hB hm hpl v hno hyes hk
    have e1 := (over_ext hB).trans v.ext
    have ex : x = n.toNat := by omega
    subst ex
    refine S.l10First.L2_step K _ _ _ _ _ _ _ _ _ _ _ _ _ _ ⟨n, e1.get (he.get hn), dec_split (fun hc => by omega) (fun _ => ?_)⟩
    exact hk R l c hJ h2 he hB v (fun y hy => hyes y (by omega))
  | succ k ih =>
    intro x R l c hJ h2 m hx he hB hm hpl v hno hyes hk
    have e1 := (over_ext hB).trans v.ext
    have hll : l = x := by have := v.len; simp only [LM, List.length_map, roomsTo_len, Nat.mul_one] at this; exact this.symm
    refine S.l10First.L2_step K _ _ _ _ _ _ _ _ _ _ _ _ _ _ ⟨n, e1.get (he.get hn), dec_split (fun hc => ?_) (fun hc => by omega)⟩
    refine v.under_rd (sp := []) (by rw [List.append_nil]; exact hm) (by omega) a0 (by omega) (v.under_rd (sp := []) (by rw [List.append_nil]; exact hm) (by omega) (by omega) (by omega) ?_)
    rw [Int.toNat_natCast]
    intro b85 hf
    obtain ⟨v2, f2⟩ := v.beside hf (.cells [.int .i64 (roomAt a pts x)])
    have e2 := Ext.upd (over_fresh f2).1 (.cells [.int .i64 (roomAt a pts x)])
    have hB2 := hB.base f2 (.cells [.int .i64 (roomAt a pts x)])
    rw [over_base f2] at v2
    have hseg : Seg (h2.upd b85 (.cells [.int .i64 (roomAt a pts x)])) (some ⟨b85, 0, none⟩) [.int .i64 (roomAt a pts x)] := Seg.new' _ _ _
    refine v2.append2 (m := 1) (news := [.int .i64 (roomAt a pts x)]) (hseg.row rfl) rfl (by simp [Value.oneCell']) (by omega) (by omega) rfl fun hV h3 A' c' eV v3 => ⟨_, _, _, rfl, ?_⟩
    have hform : ∃ hK, Ext hI1 hK ∧ Beside hK m ∧ hV = over hK m := by
      rcases eV with rfl | ⟨y, kk, hfy, rfl⟩
      · exact ⟨_, he.trans e2, hB2, rfl⟩
      · exact ⟨_, (he.trans e2).trans (Ext.upd (over_fresh hfy).1 kk), hB2.base hfy kk, over_base hfy kk⟩
    obtain ⟨hK, eK, hBK, rfl⟩ := hform
    have er : LM (roomsTo a pts x) ++ [.int .i64 (roomAt a pts x)] = LM (roomsTo a pts (x + 1)) := by rw [roomsTo_succ]; simp [LM]
    rw [er] at v3
    have hint : Ints h3 A' (roomsTo a pts (x + 1)) := v3.seg
    refine hint.rd (Ext.refl _) (by rw [roomsTo_len]; omega) (by omega) (by omega) ?_
    rw [Int.toNat_natCast, roomsTo_get _ _ (by omega)]
    refine dec_split (fun hneg => hno _ (eK.trans ((over_ext hBK).trans v3.ext)) ⟨x, by omega, hneg⟩) (fun hpos => ?_)
    rw [wsucc (by omega)]
    refine ih (x + 1) A' (l + 1) c' hK h3 m (by omega) eK hBK hm hpl v3 hno (fun y hy => ?_) hk
    by_cases hyx : y = x
    · rw [hyx]; omega
    · exact hyes y (by omega)

end Go.Proofs.Ythkbodgpcjcndaa

/- Sharing out points: when it can be done. -/
set_option linter.unusedVariables false
set_option linter.unusedSimpArgs false
namespace Go.Proofs.Ythkbodgpcjcndaa
open Go.HL

/-- The points of the meetings can be shared out so that no team has more than it may. -/
def Feasible (games : List (List Int)) (n : Nat) (cap : List Int) : Prop :=
  ∃ f : List Int, f.length = games.length ∧ (∀ j, j < games.length → f.getD j (-1) = tm games j 0 ∨ f.getD j (-1) = tm games j 1) ∧ ∀ x : Nat, x < n → (((f.count (x : Int)) : Nat) : Int) ≤ cap.getD x 0

def sumTo (g : Nat → Nat) : Nat → Nat
  | 0 => 0
  | n + 1 => sumTo g n + g n
theorem sumTo_le {g g' : Nat → Nat} : ∀ (n : Nat), (∀ x, x < n → g x ≤ g' x) → sumTo g n ≤ sumTo g' n
  | 0, _ => Nat.le_refl _
  | n + 1, h => Nat.add_le_add (sumTo_le n fun x hx => h x (by omega)) (h n (by omega))
theorem sumTo_congr {g g' : Nat → Nat} (n : Nat) (h : ∀ x, x < n → g x = g' x) : sumTo g n = sumTo g' n :=
  Nat.le_antisymm (sumTo_le n fun x hx => Nat.le_of_eq (h x hx)) (sumTo_le n fun x hx => Nat.le_of_eq (h x hx).symm)
theorem sumTo_add (g g' : Nat → Nat) : ∀ n, sumTo (fun x => g x + g' x) n = sumTo g n + sumTo g' n
  | 0 => rfl
  | n + 1 => by simp only [sumTo, sumTo_add g g' n]; omega
/-- One of the teams below n that are met. -/
def inM (n : Nat) (met : List Bool) (y : Int) : Bool := decide (0 ≤ y) && decide (y < n) && metB met y
theorem sum_count (n : Nat) (met : List Bool) : ∀ (l : List Int), sumTo (fun x => if metB met (x : Int) then l.count (x : Int) else 0) n = l.countP (inM n met)
  | [] => by
    have : sumTo (fun x => if metB met (x : Int) then ([] : List Int).count (x : Int) else 0) n = sumTo (fun _ => 0) n := sumTo_congr n fun x _ => by simp
    rw [this]
    have z : ∀ k, sumTo (fun _ => 0) k = 0 := fun k => by induction k with | zero => rfl | succ k ih => simp [sumTo, ih]
    simp [z]
  | y :: l => by
    have h1 : sumTo (fun x => if metB met (x : Int) then (y :: l).count (x : Int) else 0) n = sumTo (fun x => (if metB met (x : Int) then l.count (x : Int) else 0) + (if metB met (x : Int) = true ∧ y = (x : Int) then 1 else 0)) n := by
      refine sumTo_congr n fun x _ => ?_
      rw [List.count_cons]
      by_cases hm : metB met (x : Int) = true
      · by_cases hy : y = (x : Int) <;> simp [hm, hy]
      · simp [hm]
    rw [h1, sumTo_add, sum_count n met l, List.countP_cons]
    congr 1
    -- the one that is y
    have one : ∀ k, sumTo (fun x => if metB met (x : Int) = true ∧ y = (x : Int) then 1 else 0) k = if inM k met y = true then 1 else 0 := by
      intro k
      induction k with
      | zero =>
        have : inM 0 met y = false := by
          unfold inM
          by_cases h0 : 0 ≤ y
          · have : ¬ (y < ((0 : Nat) : Int)) := by omega
            rw [decide_eq_false this, Bool.and_false, Bool.false_and]
          · rw [decide_eq_false h0, Bool.false_and, Bool.false_and]
        simp [sumTo, this]
      | succ k ih =>
        rw [sumTo, ih]
        by_cases hy : y = (k : Int)
        · subst hy
          have a1 : inM k met (k : Int) = false := by simp [inM]
          have a2 : inM (k + 1) met (k : Int) = metB met (k : Int) := by
            have : ((k : Int) < ((k + 1 : Nat) : Int)) := by omega
            rw [inM, decide_eq_true this, decide_eq_true (by omega : (0 : Int) ≤ (k : Int))]; rfl
          rw [a1, a2]; simp
        · have a3 : inM (k + 1) met y = inM k met y := by
            have : (y < ((k + 1 : Nat) : Int)) ↔ (y < (k : Int)) := by omega
            simp only [inM, this]
          rw [a3]; simp [hy]
    exact one n

theorem countP_range {p : Int → Bool} (d : Int) : ∀ (l : List Int), l.countP p = (List.range l.length).countP fun j => p (l.getD j d)
  | [] => rfl
  | y :: l => by
    rw [List.countP_cons, countP_range d l, List.length_cons, List.range_succ_eq_map, List.countP_cons, List.countP_map]
    rfl
theorem countP_lt {p q : Nat → Bool} {l : List Nat} {i : Nat} (h : ∀ j, p j = true → q j = true) (hi : i ∈ l) (hp : p i = false) (hq : q i = true) : l.countP p < l.countP q := by
  induction l with
  | nil => cases hi
  | cons y l ih =>
    rw [List.countP_cons, List.countP_cons]
    have hle : l.countP p ≤ l.countP q := List.countP_mono_left fun x _ hx => h x hx
    rcases List.mem_cons.1 hi with rfl | hi
    · rw [hp, hq]; simp; omega
    · have := ih hi
      by_cases hy : p y = true
      · rw [if_pos hy, if_pos (h y hy)]; omega
      · rw [if_neg hy]; omega

/-- The set of met teams is too full. -/
theorem stuck {games : List (List Int)} {n L : Nat} {cap given room : List Int} {met : List Bool} {i : Nat} (hL : games.length = L) (hgl : given.length = L) (hi : i < L) (hgi : given.getD i (-1) = -1) (hF : Both games met i)
    (hg : ∀ x : Nat, x < n → metB met x = true → room.getD x 0 = 0 ∧ ∀ j, j < given.length → given.getD j (-1) = (x : Int) → Both games met j)
    (hinv : ∀ x : Nat, x < n → room.getD x 0 + ((given.count (x : Int) : Nat) : Int) = cap.getD x 0)
    (htm : ∀ i, i < L → (games.getD i []).length = 2 ∧ ∀ k, k < 2 → 0 ≤ tm games i k ∧ tm games i k < n) : ¬ Feasible games n cap := by
  rintro ⟨f, hfl, hft, hfc⟩
  have h1 : f.countP (inM n met) ≤ given.countP (inM n met) := by
    rw [← sum_count, ← sum_count]
    refine sumTo_le n fun x hx => ?_
    by_cases hm : metB met (x : Int) = true
    · rw [if_pos hm, if_pos hm]
      have a1 := hfc x hx
      have a2 := hinv x hx
      have a3 := (hg x hx hm).1
      omega
    · rw [if_neg hm, if_neg hm]; exact Nat.le_refl _
  rw [countP_range (-1) f, countP_range (-1) given, hfl, hgl, hL] at h1
  let both : Nat → Bool := fun j => decide (j < L) && metB met (tm games j 0) && metB met (tm games j 1)
  have h2 : (List.range L).countP both ≤ (List.range L).countP fun j => inM n met (f.getD j (-1)) := by
    refine List.countP_mono_left fun j hj hb => ?_
    have hjL : j < L := by simpa using hj
    simp only [both, Bool.and_eq_true, decide_eq_true_eq] at hb
    obtain ⟨⟨_, b0⟩, b1⟩ := hb
    obtain ⟨_, ht⟩ := htm j hjL
    obtain ⟨t0, t1⟩ := ht 0 (by omega)
    obtain ⟨t2, t3⟩ := ht 1 (by omega)
    rcases hft j (by omega) with e | e
    · rw [e, inM, decide_eq_true t0, decide_eq_true t1, b0]; rfl
    · rw [e, inM, decide_eq_true t2, decide_eq_true t3, b1]; rfl
  have h3 : (List.range L).countP (fun j => decide (j < L) && inM n met (given.getD j (-1))) < (List.range L).countP both := by
    refine countP_lt (i := i) (fun j hj => ?_) (by simpa using hi) ?_ ?_
    · simp only [Bool.and_eq_true, decide_eq_true_eq, inM] at hj
      obtain ⟨hjL, ⟨hy0, hyn⟩, hm⟩ := hj
      have hx : (((given.getD j (-1)).toNat : Nat) : Int) = given.getD j (-1) := by omega
      have := (hg (given.getD j (-1)).toNat (by omega) (by rw [hx]; exact hm)).2 j (by omega) hx.symm
      simp only [both, decide_eq_true hjL, this.1, this.2, Bool.and_self]
    · rw [hgi]; simp [inM]
    · simp only [both, decide_eq_true hi, hF.1, hF.2, Bool.and_self]
  have h4 : (List.range L).countP (fun j => decide (j < L) && inM n met (given.getD j (-1))) = (List.range L).countP fun j => inM n met (given.getD j (-1)) := by
    refine List.countP_congr fun j hj => ?_
    have hjL : j < L := by simpa using hj
    rw [decide_eq_true hjL, Bool.true_and]
  omega

end Go.Proofs.Ythkbodgpcjcndaa

/- Whether a team can be first, as the reference tells it: all points that are left are given. -/
set_option linter.unusedVariables false
set_option linter.unusedSimpArgs false
namespace Go.Proofs.Ythkbodgpcjcndaa
open Go.HL

/-- No point is given yet: -1 at every place. -/
theorem S.l10First.clear {G : Option Addr} {gl gc : Nat} {b bg : Nat} {hI : Heap} {R : Option Addr} {rl rc : Nat} (hgl : gl ≤ 1048576) (K : Value → Heap → Prop) :
    ∀ (k i : Nat) (m : PMap), i + k = gl → Beside hI m → m bg = some (LM (List.replicate i (-1) ++ List.replicate k 0)) →
      (∀ m' : PMap, Beside hI m' → m' bg = some (LM (List.replicate gl (-1))) → (∀ x, x ≠ bg → m' x = m x) →
        S.l10First.L4 K (.pointer (some ⟨b, 0, none⟩)) (.slice G gl gc) (.slice R rl rc) (.slice (some ⟨bg, 0, none⟩) gl gl) (.int .i64 0) (over hI m')) →
      S.l10First.L3 K (.pointer (some ⟨b, 0, none⟩)) (.slice G gl gc) (.slice R rl rc) (.slice (some ⟨bg, 0, none⟩) gl gl) (.int .i64 i) (over hI m) := by
  intro k
  induction k with
  | zero =>
    intro i m hi hB hm hk
    have ei : i = gl := by omega
    subst ei
    refine S.l10First.L3_step K _ _ _ _ _ _ _ _ _ _ _ _ _ (dec_split (fun hc => by omega) (fun _ => ?_))
    exact hk m hB (by rw [hm]; simp) (fun _ _ => rfl)
  | succ k ih =>
    intro i m hi hB hm hk
    refine S.l10First.L3_step K _ _ _ _ _ _ _ _ _ _ _ _ _ (dec_split (fun hc => ?_) (fun hc => by omega))
    refine over_wr (sp := []) (by rw [List.append_nil]; exact hm) (by simp; omega) (by omega) (by omega) rfl ?_
    rw [wsucc (by omega), Int.toNat_natCast, List.append_nil]
    have e : (LM (List.replicate i (-1) ++ List.replicate (k + 1) 0)).set i (.int .i64 (-1)) = LM (List.replicate (i + 1) (-1) ++ List.replicate k 0) := by
      rw [LM, LM, ← List.map_set, List.set_append, if_neg (by simp), List.length_replicate, Nat.sub_self, List.replicate_succ (n := k), List.set_cons_zero, List.replicate_succ' (n := i), List.append_assoc]
      rfl
    rw [e]
    exact ih (i + 1) _ (by omega) (hB.put (by rw [hm]; simp) _) (put_self _ _ _) fun m' h1 h2 h3 => hk m' h1 h2 fun x hx => by rw [h3 x hx, put_ne _ _ hx]

/-- How the points are shared out when i of them are given. -/
structure Shared (games : List (List Int)) (n : Nat) (cap given room : List Int) (i : Nat) : Prop where
  gl : given.length = games.length
  rl : room.length = n
  done : ∀ j, j < i → given.getD j (-1) = tm games j 0 ∨ given.getD j (-1) = tm games j 1
  rest : ∀ j, i ≤ j → given.getD j (-1) = -1
  inv : ∀ x : Nat, x < n → room.getD x 0 + ((given.count (x : Int) : Nat) : Int) = cap.getD x 0
  pos : ∀ x : Nat, x < n → 0 ≤ room.getD x 0

theorem set_self {given : List Int} {i : Nat} (h : given.getD i (-1) = -1) : given.set i (-1) = given := by
  apply List.ext_getElem?
  intro j
  rw [List.getElem?_set]
  by_cases hij : i = j
  · subst hij
    rw [if_pos rfl]
    by_cases hl : i < given.length
    · rw [if_pos hl]
      rw [List.getD_eq_getElem?_getD, List.getElem?_eq_getElem hl] at h
      rw [List.getElem?_eq_getElem hl]
      exact congrArg some h.symm
    · rw [if_neg hl, List.getElem?_eq_none (by omega)]
  · rw [if_neg hij]

theorem Shared.step {games : List (List Int)} {n : Nat} {cap given room given' room' : List Int} {met met' : List Bool} {i : Nat} (s : Shared games n cap given room i) (t : GiveT games n given room met i given' room' met') (hm : ∀ b, metB met b = false) :
    Shared games n cap given' room' (i + 1) := by
  have hset := set_self (s.rest i (Nat.le_refl _))
  refine ⟨t.gl.trans s.gl, t.rl.trans s.rl, fun j hj => ?_, fun j hj => ?_, fun x hx => ?_, t.c⟩
  · by_cases hji : j = i
    · subst hji; exact t.a
    · have hd := s.done j (by omega)
      rcases Nat.lt_or_ge j given.length with hl | hl
      · rcases t.d j hl hji with h | h
        · rw [h]; exact hd
        · exact h.2.2
      · have e1 : given.getD j (-1) = -1 := by rw [List.getD_eq_getElem?_getD, List.getElem?_eq_none hl]; rfl
        have e2 : given'.getD j (-1) = -1 := by rw [List.getD_eq_getElem?_getD, List.getElem?_eq_none (by rw [t.gl]; exact hl)]; rfl
        rw [e2, ← e1]; exact hd
  · rcases Nat.lt_or_ge j given.length with hl | hl
    · rcases t.d j hl (by omega) with h | h
      · rw [h]; exact s.rest j (by omega)
      · exact absurd (s.rest j (by omega)) h.1
    · rw [List.getD_eq_getElem?_getD, List.getElem?_eq_none (by rw [t.gl]; exact hl)]; rfl
  · have := t.b x hx
    rw [hset] at this
    rw [this]; exact s.inv x hx
theorem Shared.all {games : List (List Int)} {n : Nat} {cap given room : List Int} (s : Shared games n cap given room games.length) : Feasible games n cap :=
  ⟨given, s.gl, s.done, fun x hx => by have := s.inv x hx; have := s.pos x hx; omega⟩

theorem S.l10First.share {n : Int} {games : List (List Int)} {cap : List Int} {G : Option Addr} {gl gc : Nat} {b bg br : Nat} {hI : Heap} {rc : Nat} {sr : List Value} (h0 : 0 ≤ n) (h14 : n ≤ 14) (hn : hI.get b (0 + 0) = some (.int .i64 n)) (hG : Tab hI G games) (hL : games.length = gl) (hgl : gl ≤ 1048576)
    (htm : ∀ i, i < gl → (games.getD i []).length = 2 ∧ ∀ k, k < 2 → 0 ≤ tm games i k ∧ tm games i k < n.toNat) (hcap : ∀ x : Nat, x < n.toNat → cap.getD x 0 ≤ 9223372036854775807) (hne : bg ≠ br) (K : Value → Heap → Prop) :
    ∀ (k i : Nat) (m : PMap) (given room : List Int), i + k = gl → Beside hI m → m bg = some (LM given) → m br = some (LM room ++ sr) → Shared games n.toNat cap given room i →
      (∀ m' : PMap, Beside hI m' → ∀ r : Bool, (r = true ↔ Feasible games n.toNat cap) → K (.bool r) (over hI m')) →
      S.l10First.L4 K (.pointer (some ⟨b, 0, none⟩)) (.slice G gl gc) (.slice (some ⟨br, 0, none⟩) n.toNat rc) (.slice (some ⟨bg, 0, none⟩) gl gl) (.int .i64 i) (over hI m) := by
  intro k
  induction k with
  | zero =>
    intro i m given room hi hB hg hr hs hk
    have ei : i = games.length := by omega
    refine S.l10First.L4_step K _ _ _ _ _ _ _ _ _ _ _ _ _ (dec_split (fun hc => by omega) (fun _ => ?_))
    subst ei
    exact hk m hB true ⟨fun _ => hs.all, fun _ => rfl⟩
  | succ k ih =>
    intro i m given room hi hB hg hr hs hk
    refine S.l10First.L4_step K _ _ _ _ _ _ _ _ _ _ _ _ _ (dec_split (fun hc => ⟨n, (over_ext hB).get hn, rfl, h0, by omega, by omega, fun bm hf => ?_⟩) (fun hc => by omega))
    have ecells : List.replicate n.toNat (Value.bool false) = BL (List.replicate n.toNat false) ++ [] := by simp [BL]
    rw [ecells, over_put]
    have hB2 := hB.new hf (BL (List.replicate n.toNat false) ++ [])
    have hmn := (over_fresh hf).2
    have n1 : bg ≠ bm := fun e => by rw [e] at hg; rw [hg] at hmn; cases hmn
    have n2 : br ≠ bm := fun e => by rw [e] at hr; rw [hr] at hmn; cases hmn
    have hM : GMem (m.put bm (BL (List.replicate n.toNat false) ++ [])) bg br bm [] sr [] given room (List.replicate n.toNat false) :=
      ⟨by rw [put_ne _ _ n1, List.append_nil]; exact hg, by rw [put_ne _ _ n2]; exact hr, put_self _ _ _, hne, n1, n2⟩
    have hmet : ∀ x, metB (List.replicate n.toNat false) x = false := fun x => by
      unfold metB
      rw [List.getD_eq_getElem?_getD, List.getElem?_replicate]
      split <;> rfl
    refine (S.l10Give.spec hG hL (by omega) htm (left (List.replicate n.toNat false) + 1) given room (List.replicate n.toNat false) _ i (Nat.lt_succ_self _) (hs.gl.trans hL) hs.rl (by simp) (fun x hx => ⟨hs.pos x hx, ?_⟩) (.inl (hs.rest i (Nat.le_refl _))) (by omega) hM hB2).mono ?_
    · have := hs.inv x hx
      have := hcap x hx
      omega
    rintro u h2 ⟨r, given', room', met', m', rfl, rfl, hB3, hM3, _, hT, hF⟩
    refine ⟨r, rfl, nbool_split (fun hr0 => ?_) (fun hr1 => ?_)⟩
    · obtain ⟨rfl, rfl, F⟩ := hF hr0
      refine hk m' hB3 false ⟨fun h => (by cases h), fun hfe => ?_⟩
      exact absurd hfe (stuck hL (hs.gl.trans hL) (by omega) (hs.rest i (Nat.le_refl _)) F.f (fun x hx hx2 => F.g x hx hx2 (hmet _)) hs.inv htm)
    · rw [wsucc (by omega)]
      have T := hT hr1
      exact ih (i + 1) m' given' room' (by omega) hB3 (by rw [hM3.g]; simp) hM3.r (hs.step T hmet) hk

end Go.Proofs.Ythkbodgpcjcndaa

/- Whether a team can be first, as the reference tells it, whole. -/
set_option linter.unusedVariables false
set_option linter.unusedSimpArgs false
namespace Go.Proofs.Ythkbodgpcjcndaa
open Go.HL

def leftGames (n a : Int) (m : Nat) (rs : List (List Int)) : List (List Int) := (leftOf a (allPairs n (rs.drop m))).flatMap twice
def endPts (n a : Int) (rs xss : List (List Int)) : List Int := (allPairs n (rs.drop xss.length)).foldl (winPts a) (summedM (fun _ own => own) n rs xss)
def FirstOk (n a : Int) (rs xss : List (List Int)) : Prop :=
  (∀ y : Nat, (y : Int) < n → 0 ≤ roomAt a (endPts n a rs xss) y) ∧ Feasible (leftGames n a xss.length rs) n.toNat (roomsTo a (endPts n a rs xss) n.toNat)

theorem summed_len (g : Int → Int → Int) (n : Int) (rs xss : List (List Int)) (h0 : 0 ≤ n) : ((summedM g n rs xss).length : Int) = n := by
  have : ∀ (evl : List Ev) (t : List Int), (evl.foldl (addAt g) t).length = t.length := by
    intro evl
    induction evl with
    | nil => intro t; rfl
    | cons e evl ih => intro t; rw [List.foldl_cons, ih, addAt, List.length_set]
  rw [summedM, this, List.length_replicate]; omega

theorem leftGames_mem {n a : Int} {m : Nat} {rs : List (List Int)} (h0 : 0 ≤ n) (hr : ∀ r ∈ rs, roundOk n r = true) {p : List Int} (hp : p ∈ leftGames n a m rs) : p.length = 2 ∧ 0 ≤ p.getD 0 0 ∧ p.getD 0 0 < p.getD 1 0 ∧ p.getD 1 0 < n := by
  simp only [leftGames, List.mem_flatMap, leftOf, List.mem_filter, allPairs, twice] at hp
  obtain ⟨q, ⟨⟨r, hrr, hq⟩, _⟩, hpq⟩ := hp
  have : p = q := by simpa using hpq
  subst this
  exact pairsOf_mem (hr r (List.mem_of_mem_drop hrr)) h0 hq
theorem leftGames_tm {n a : Int} {m : Nat} {rs : List (List Int)} (h0 : 0 ≤ n) (hr : ∀ r ∈ rs, roundOk n r = true) {L : Nat} (hL : (leftGames n a m rs).length = L) :
    ∀ i, i < L → ((leftGames n a m rs).getD i []).length = 2 ∧ ∀ k, k < 2 → 0 ≤ tm (leftGames n a m rs) i k ∧ tm (leftGames n a m rs) i k < n.toNat := by
  intro i hi
  have hi' : i < (leftGames n a m rs).length := by omega
  have e : (leftGames n a m rs).getD i [] = (leftGames n a m rs)[i] := by rw [List.getD_eq_getElem?_getD, List.getElem?_eq_getElem hi']; rfl
  obtain ⟨p1, p2, p3, p4⟩ := leftGames_mem h0 hr (List.getElem_mem hi')
  refine ⟨by rw [e]; exact p1, fun k hk => ?_⟩
  unfold tm
  rw [e]
  have : k = 0 ∨ k = 1 := by omega
  rcases this with rfl | rfl
  · omega
  · omega

theorem S.l10First.spec {n a : Int} {A B : Option Addr} {rs xss : List (List Int)} {l c m d : Nat} {h : Heap} (s : Rds h A rs) (hl : rs.length = l) (x : Tab h B xss) (hm : xss.length = m)
    (hsok : scheduleOk n rs = true) (hok : resultsOk n rs xss = true) (ha : hasTeam n a = true) :
    ACalls Try.prog S.l10First.id [.agg #[.int .i64 n, .slice A l c], .slice B m d, .int .i64 a] h fun u h2 => Ext h h2 ∧ ∃ r : Bool, u = .bool r ∧ (r = true ↔ FirstOk n a rs xss) := by
  obtain ⟨k1, k2, k3, k4⟩ := scheduleOk_facts hsok
  have h0 : 0 ≤ n := by omega
  simp only [hasTeam, Bool.and_eq_true, decide_eq_true_eq] at ha
  obtain ⟨a0, an⟩ := ha
  have hml : xss.length ≤ rs.length := by
    simp only [resultsOk, Bool.and_eq_true, decide_eq_true_eq] at hok; exact hok.1
  have hq : xss.take m = xss := by rw [List.take_of_length_le (by omega)]
  refine S.l10First.step _ _ _ _ _ _ _ _ _ h fun b hf => ⟨n, A, l, c, by simp [Heap.getN], ?_⟩
  have e := Ext.upd hf (.cells [.int .i64 n, .slice A l c])
  have hn : (h.upd b (.cells [.int .i64 n, .slice A l c])).get b (0 + 0) = some (.int .i64 n) := by simp
  have hs : (h.upd b (.cells [.int .i64 n, .slice A l c])).get b (0 + 1) = some (.slice A l c) := by simp
  generalize h.upd b (.cells [.int .i64 n, .slice A l c]) = h1 at *
  refine (S.l10Points.spec (q := m) (s.mono e) hl (x.mono e) hm (Nat.le_refl _) hsok (by rw [hq]; exact hok)).mono ?_
  rintro u h2 ⟨e2, bp, f2, rfl, ho⟩
  rw [hq] at ho
  obtain ⟨hI, eI, hB, rfl⟩ := carve e2 f2 ho
  refine ⟨_, _, _, rfl, fun b12 hf12 => ?_⟩
  have hst : FSt hI (only bp (LM (summedM (fun _ own => own) n rs xss))) ((over hI (only bp (LM (summedM (fun _ own => own) n rs xss)))).upd b12 (.cells [])) bp n (summedM (fun _ own => own) n rs xss) (some ⟨b12, 0, none⟩) 0 0 [] [] :=
    ⟨hB, only_self _ _, summed_len _ _ _ _ h0, Vec.made hf12 rfl, Each.nil _⟩
  refine S.l10First.outer (A := A) (c0 := c) a0 (by omega) k2 (s.mono (e.trans eI)) hl (by omega) (eI.get hn) (eI.get hs) _ (l - m) m _ _ 0 0 [] [] hI _ _ (by omega) (Ext.refl _) hst (by omega) ?_
  intro pts' G' l' c' gs' vs' hK h3 m' eK s3 hl' hp' hg' b69 hf69
  have epts : pts' = endPts n a rs xss := by rw [hp', endPts, hm]
  have egs : gs' = leftGames n a xss.length rs := by rw [hg', leftGames, hm, List.nil_append]
  have hplen := s3.plen
  have hcells := s3.cells
  obtain ⟨hF, eF, hBF, rfl, hTab, hglen⟩ := s3.freeze
  have hnF : hF.get b (0 + 0) = some (.int .i64 n) := eF.get (eK.get (eI.get hn))
  have eAll : Ext h hF := (e.trans eI).trans (eK.trans eF)
  refine S.l10First.rooms (hI1 := hF) (bp := bp) (pts := pts') a0 (by omega) k2 hnF _ n.toNat 0 (some ⟨b69, 0, none⟩) 0 0 hF _ m' (by omega) (Ext.refl _) hBF hcells hplen (Vec.made hf69 rfl) (fun h4 e4 ⟨y, hy, hneg⟩ => ?_) (fun y hy => by omega) ?_
  · exact ⟨eAll.trans e4, false, rfl, ⟨fun h => (by cases h), fun hfo => by have := hfo.1 y hy; rw [← epts] at this; omega⟩⟩
  intro R rl rc hR h4 eR hBR v hpos
  refine ⟨rfl, by omega, by omega, by omega, fun bg hfg => ?_⟩
  have hrl : rl = n.toNat := by have := v.len; simp only [LM, List.length_map, roomsTo_len, Nat.mul_one] at this; exact this.symm
  subst hrl
  obtain ⟨br, sr, rfl, hmx, rfl, hB5⟩ := Vec.thaw hBR v (by omega)
  rw [over_put, Int.toNat_natCast]
  have hmg := (over_fresh hfg).2
  have hne : bg ≠ br := fun e => by rw [e, put_self] at hmg; cases hmg
  have hB6 := hB5.new hfg (List.replicate l' (.int .i64 0))
  have hL : (leftGames n a xss.length rs).length = l' := by rw [← egs]; exact hglen
  rw [egs] at hTab
  refine S.l10First.clear (by omega) _ l' 0 _ (by omega) hB6 (by rw [put_self]; simp [LM]) fun m7 hB7 hm7 hs7 => ?_
  have hcap : ∀ x : Nat, x < n.toNat → (roomsTo a pts' n.toNat).getD x 0 ≤ 9223372036854775807 := fun x hx => by rw [roomsTo_get _ _ hx]; exact wrap_le _
  have hcap0 : ∀ x : Nat, x < n.toNat → 0 ≤ (roomsTo a pts' n.toNat).getD x 0 := fun x hx => by rw [roomsTo_get _ _ hx]; exact hpos x (by omega)
  refine S.l10First.share (games := leftGames n a xss.length rs) (cap := roomsTo a pts' n.toNat) (sr := sr) h0 k2 (eR.get hnF) (hTab.mono eR) hL (by omega) (leftGames_tm h0 k4 hL) hcap hne _ l' 0 m7 (List.replicate l' (-1)) (roomsTo a pts' n.toNat) (by omega) hB7 hm7 (by rw [hs7 br hne.symm, put_ne _ _ hne.symm, put_self]) ?_ ?_
  · refine ⟨by rw [List.length_replicate, hL], roomsTo_len _ _ _, fun j hj => by omega, fun j _ => ?_, fun x hx => ?_, hcap0⟩
    · rw [List.getD_eq_getElem?_getD, List.getElem?_replicate]; split <;> rfl
    · have : (List.replicate l' (-1 : Int)).count (x : Int) = 0 := by
        rw [List.count_replicate, if_neg (by simp)]
      rw [this]; simp
  · intro m8 hB8 r hr
    refine ⟨(eAll.trans eR).trans (over_ext hB8), r, rfl, hr.trans ?_⟩
    rw [FirstOk, ← epts]
    exact ⟨fun h => ⟨hpos, h⟩, fun h => h.2⟩

end Go.Proofs.Ythkbodgpcjcndaa

/- slices.Delete of one number in a changing block. -/
set_option linter.unusedVariables false
set_option linter.unusedSimpArgs false
namespace Go.Proofs.Ythkbodgpcjcndaa
open Go.HL

theorem slices.Delete_Sint64_int64.spec {hI : Heap} {m : PMap} {x l c : Nat} {row : List Int} {sp : List Value} {i j : Int} (hm : m x = some (LM row ++ sp)) (hl : row.length = l) (hsp : sp.length = c - l) (hlc : l ≤ c) (hb : l ≤ 1048576) (h0 : 0 ≤ i) (h1 : i < (l : Int)) (hj : j = i + 1) :
    ACalls Try.prog slices.Delete_Sint64_int64.id [.slice (some ⟨x, 0, none⟩) l c, .int .i64 i, .int .i64 j] (over hI m) fun u h2 =>
      u = .slice (some ⟨x, 0, none⟩) (l - 1) c ∧ ∃ sp', sp'.length = c - (l - 1) ∧ h2 = over hI (m.put x (LM (row.eraseIdx i.toNat) ++ sp')) := by
  subst hj
  refine slices.Delete_Sint64_int64.step _ _ _ _ _ _ _ ⟨_, _, _, slice_lohimx h0 (by omega) (by omega) (by omega), dec_split (fun hc => by omega) (fun _ => ?_)⟩
  refine ⟨_, _, _, slice_hi h0 (by omega), _, _, _, slice_lo (by omega) (by omega), ?_⟩
  -- the number that goes, and those before and behind it
  have hil : i.toNat < row.length := by omega
  have hsplit : row = row.take i.toNat ++ (row[i.toNat] :: row.drop (i.toNat + 1)) := by
    rw [← List.drop_eq_getElem_cons hil, List.take_append_drop]
  have herase : row.eraseIdx i.toNat = row.take i.toNat ++ row.drop (i.toNat + 1) := List.eraseIdx_eq_take_drop_succ _ _
  have ej : (i + 1).toNat = i.toNat + 1 := by omega
  have hgm : ∀ (k : Nat) (v : Value), (LM row ++ sp)[k]? = some v → (over hI m).get x (0 + k) = some v := fun k v hv => by rw [over_get hm, Nat.zero_add]; exact hv
  have hrow5 : Row (over hI m) (some ⟨x, 0, none⟩) (i.toNat * 1) (LM (row.take i.toNat)) := by
    show (over hI m).getN x 0 _ = _
    have := Seg.getN hgm (i := 0) (n := i.toNat) (by simp; omega)
    rw [Nat.mul_one]
    rw [Nat.zero_add] at this
    rw [this, List.drop_zero, List.take_append_of_le_length (by simp; omega), LM, ← List.map_take]
  have hrow6 : Row (over hI m) (some ⟨x, if c = (i + 1).toNat then 0 else 0 + (i + 1).toNat * 1, none⟩) ((l - (i + 1).toNat) * 1) (LM (row.drop (i.toNat + 1))) := by
    show (over hI m).getN x _ _ = _
    rw [ej, Nat.mul_one]
    by_cases hci : c = i.toNat + 1
    · have e0 : l - (i.toNat + 1) = 0 := by omega
      rw [e0, List.drop_eq_nil_of_le (by omega)]; rfl
    · rw [if_neg hci, Nat.mul_one]
      have := Seg.getN hgm (i := i.toNat + 1) (n := l - (i.toNat + 1)) (by simp; omega)
      rw [this, List.drop_append_of_le_length (by simp; omega), List.take_append_of_le_length (by simp; omega), List.take_of_length_le (by simp; omega), LM, ← List.map_drop]
  refine ⟨LM (row.take i.toNat), LM (row.drop (i.toNat + 1)), hrow5, hrow6, oneInts _, by rw [ej]; omega, by rw [ej]; omega, fun hroom => ?_, fun hg => by rw [ej] at hg; omega⟩
  -- behind the move: the last place is cleared
  have fin : ∀ (m2 : PMap), (∃ z, m2 x = some (LM (row.eraseIdx i.toNat) ++ [z] ++ sp)) → (∀ y, y ≠ x → m2 y = m y) →
      ∃ x10A : Option Addr, ∃ x10l : Nat, ∃ x10c : Nat, evalL.evalSlice 1 (some ⟨x, 0, none⟩) (i.toNat + (l - (i + 1).toNat)) c (some (.int .i64 ((i.toNat + (l - (i + 1).toNat) : Nat) : Int))) (some (.int .i64 (l : Int))) none = some (.slice x10A x10l x10c) ∧ SClear (over hI m2) [.int .i64 0] x10A x10l fun v12 h11 => v12 = undef ∧
        (Value.slice (some ⟨x, 0, none⟩) (i.toNat + (l - (i + 1).toNat)) c = .slice (some ⟨x, 0, none⟩) (l - 1) c ∧ ∃ sp', sp'.length = c - (l - 1) ∧ h11 = over hI (m.put x (LM (row.eraseIdx i.toNat) ++ sp'))) := by
    rintro m2 ⟨z, hm2⟩ hoth
    have e1 : i.toNat + (l - (i + 1).toNat) = l - 1 := by omega
    rw [e1]
    refine ⟨_, _, _, slice_lohi (by omega) (by omega) (by omega), fun h0 => by omega, fun _ => ⟨_, _, rfl, ?_⟩⟩
    rw [Int.toNat_natCast, Int.toNat_natCast, if_neg (by omega), Nat.zero_add, Nat.mul_one]
    have e2 : l - (l - 1) = 1 := by omega
    rw [e2]
    have hle : (LM (row.eraseIdx i.toNat)).length = l - 1 := by simp [List.length_eraseIdx, hil]; omega
    refine over_store hm2 (by simp [zrep, List.length_eraseIdx, hil]; omega) (by simp [zrep, Value.oneCell']) ⟨rfl, rfl, .int .i64 0 :: sp, by simp; omega, ?_⟩
    congr 1
    funext y
    by_cases hy : y = x
    · subst hy
      rw [put_self, put_self, ← hle, show zrep [Value.int .i64 0] 1 = [.int .i64 0] from rfl, splice_mid (LM (row.eraseIdx i.toNat)) [z] sp [.int .i64 0] rfl]
      simp
    · rw [put_ne _ _ hy, put_ne _ _ hy, hoth y hy]
  refine ⟨fun hz => ?_, fun hpos => ?_⟩
  · have hz' : l = i.toNat + 1 := by omega
    have := fin m ⟨.int .i64 row[i.toNat], ?_⟩ (fun _ _ => rfl)
    · obtain ⟨a1, a2, a3, h5, h6⟩ := this
      have e3 : i.toNat + (l - (i + 1).toNat) = i.toNat := by omega
      rw [e3] at h5 h6
      exact ⟨_, _, _, rfl, a1, a2, a3, h5, h6⟩
    · rw [hm, herase, List.drop_eq_nil_of_le (by omega), List.append_nil]
      congr 1
      congr 1
      have e4 : row.drop (i.toNat + 1) = [] := List.drop_eq_nil_of_le (by omega)
      rw [e4] at hsplit
      have : LM row = LM (row.take i.toNat ++ [row[i.toNat]]) := congrArg LM hsplit
      rw [this]; simp only [LM, List.map_append, List.map_cons, List.map_nil]
  · refine ⟨_, _, rfl, over_store hm (by simp; omega) (oneInts _) ?_⟩
    refine ⟨_, _, _, rfl, fin _ ⟨.int .i64 ((row.drop i.toNat).getD (l - i.toNat - 1) 0), ?_⟩ (fun y hy => put_ne _ _ hy)⟩
    rw [put_self, Nat.zero_add, Nat.mul_one, herase]
    congr 1
    -- row = p ++ (q :: t), t moves one place to the left; the last of q :: t stays
    have hlast := last_split (row.drop i.toNat) (l - i.toNat - 1) (by simp; omega)
    have hlm : LM row ++ sp = LM (row.take i.toNat) ++ LM ((row.drop i.toNat).take (l - i.toNat - 1)) ++ ([.int .i64 ((row.drop i.toNat).getD (l - i.toNat - 1) 0)] ++ sp) := by
      have : LM row = LM (row.take i.toNat ++ ((row.drop i.toNat).take (l - i.toNat - 1) ++ [(row.drop i.toNat).getD (l - i.toNat - 1) 0])) := by rw [← hlast, List.take_append_drop]
      rw [this]; simp [LM]
    rw [hlm]
    have hp : (LM (row.take i.toNat)).length = i.toNat := by simp; omega
    have := splice_mid (LM (row.take i.toNat)) (LM ((row.drop i.toNat).take (l - i.toNat - 1))) ([.int .i64 ((row.drop i.toNat).getD (l - i.toNat - 1) 0)] ++ sp) (LM (row.drop (i.toNat + 1))) (by simp; omega)
    rw [hp] at this
    rw [this]; simp [LM]

end Go.Proofs.Ythkbodgpcjcndaa

/- Owners of points: lists that change, each in a block of its own. -/
set_option linter.unusedVariables false
set_option linter.unusedSimpArgs false
namespace Go.Proofs.Ythkbodgpcjcndaa
open Go.HL

/-- A list of its own: none, or a block with spare places. -/
def RowAt (m : PMap) (v : Value) (row : List Int) (x : Option Nat) : Prop :=
  (x = none ∧ v = .slice none 0 0 ∧ row = []) ∨ ∃ b c sp, x = some b ∧ v = .slice (some ⟨b, 0, none⟩) row.length c ∧ m b = some (LM row ++ sp) ∧ sp.length = c - row.length ∧ row.length ≤ c
theorem RowAt.congr {m m' : PMap} {v : Value} {row : List Int} {x : Option Nat} (R : RowAt m v row x) (h : ∀ b, x = some b → m' b = m b) : RowAt m' v row x := by
  rcases R with R | ⟨b, c, sp, e1, e2, e3, e4, e5⟩
  · exact .inl R
  · exact .inr ⟨b, c, sp, e1, e2, by rw [h b e1]; exact e3, e4, e5⟩
/-- The slice that it is. -/
theorem RowAt.slice {m : PMap} {v : Value} {row : List Int} {x : Option Nat} (R : RowAt m v row x) (hI : Heap) : ∃ A c, v = .slice A row.length c ∧ Ints (over hI m) A row := by
  rcases R with ⟨_, rfl, rfl⟩ | ⟨b, c, sp, rfl, rfl, e3, e4, e5⟩
  · exact ⟨none, 0, rfl, Seg.nil_none _⟩
  · refine ⟨_, c, rfl, .inr ⟨b, 0, rfl, fun i v hv => ?_⟩⟩
    rw [over_get e3, Nat.zero_add, List.getElem?_append_left (List.getElem?_eq_some_iff.1 hv).1]
    exact hv

theorem RowAt.append {hI : Heap} {m : PMap} {v : Value} {row : List Int} {x : Option Nat} {t : Int} {B : Option Addr} {K : Value → Heap → Prop} (R : RowAt m v row x) (hB : Beside hI m) (hlen : row.length ≤ 1048576) (hRow : Row (over hI m) B (1 * 1) [.int .i64 t])
    (k : ∀ m1 b A' c', Beside hI m1 → (x = some b ∨ (over hI m).fresh b) → (∀ y, y ≠ b → m1 y = m y) → RowAt m1 (.slice A' (row.length + 1) c') (row ++ [t]) (some b) → K (.slice A' (row.length + 1) c') (over hI m1)) :
    ∃ A c, v = .slice A row.length c ∧ SAppend (over hI m) 1 8 [.int .i64 0] A row.length c B 1 K := by
  have new : ∀ (c' : Nat), row.length + 1 ≤ c' → SAlloc (over hI m) (LM row ++ [.int .i64 t] ++ zrep [.int .i64 0] (c' - (row.length + 1))) fun b h' => K (.slice (some ⟨b, 0, none⟩) (row.length + 1) c') h' := by
    intro c' hc' b hf
    rw [over_put]
    refine k _ b _ _ (hB.new hf _) (.inr hf) (fun y hy => put_ne _ _ hy) (.inr ⟨b, c', zrep [.int .i64 0] (c' - (row.length + 1)), rfl, by simp, by rw [put_self]; simp [LM], by rw [zrep_len]; simp, by simpa using hc'⟩)
  rcases R with ⟨rfl, rfl, rfl⟩ | ⟨b, c, sp, rfl, rfl, e3, e4, e5⟩
  · exact ⟨none, 0, rfl, [], _, ⟨rfl, rfl⟩, hRow, by simp [Value.oneCell'], by simp, by simp, fun h => by simp at h, fun _ => new⟩
  · refine ⟨_, c, rfl, LM row, _, ?_, hRow, by simp [Value.oneCell'], by omega, by omega, fun hroom => ⟨fun h => (by cases h), fun _ => ⟨b, 0, rfl, ?_⟩⟩, fun _ => new⟩
    · show (over hI m).getN b 0 _ = _
      refine getN_of (by simp) fun i v hv => ?_
      rw [over_get e3, Nat.zero_add, List.getElem?_append_left (List.getElem?_eq_some_iff.1 hv).1]
      exact hv
    · refine over_store e3 (by simp; omega) (by simp [Value.oneCell']) ?_
      have hsp : sp ≠ [] := fun e => by rw [e] at e4; simp at e4; omega
      obtain ⟨s0, sp', rfl⟩ := List.exists_cons_of_ne_nil hsp
      have ecut : splice (LM row ++ s0 :: sp') (0 + row.length * 1) [.int .i64 t] = LM (row ++ [t]) ++ sp' := by
        have := splice_mid (LM row) [s0] sp' [.int .i64 t] rfl
        rw [show (LM row).length = 0 + row.length * 1 by simp] at this
        rw [show LM row ++ s0 :: sp' = LM row ++ [s0] ++ sp' by simp, this]; simp [LM]
      rw [ecut]
      refine k _ b _ _ (hB.put (by rw [e3]; simp) _) (.inl rfl) (fun y hy => put_ne _ _ hy) (.inr ⟨b, c, sp', rfl, by simp, by rw [put_self], ?_, by simpa using hroom⟩)
      simp at e4 ⊢; omega

/-- The blocks that change. -/
structure OMem (m : PMap) (br bo bm : Nat) (sr st : List Value) (rows : List (List Int)) (room : List Int) (met : List Bool) : Prop where
  r : m br = some (LM room ++ sr)
  t : m bm = some (BL met ++ st)
  n1 : br ≠ bo
  n2 : br ≠ bm
  n3 : bo ≠ bm
  o : ∃ (os : List Value) (xs : Nat → Option Nat), m bo = some os ∧ os.length = rows.length ∧ (∀ j, j < rows.length → RowAt m (os.getD j undef) (rows.getD j []) (xs j)) ∧
    (∀ j b, j < rows.length → xs j = some b → b ≠ br ∧ b ≠ bo ∧ b ≠ bm) ∧ (∀ j j' b, j < rows.length → j' < rows.length → xs j = some b → xs j' = some b → j = j')

theorem OMem.putR {m : PMap} {br bo bm : Nat} {sr st : List Value} {rows : List (List Int)} {room : List Int} {met : List Bool} (M : OMem m br bo bm sr st rows room met) (room' : List Int) : OMem (m.put br (LM room' ++ sr)) br bo bm sr st rows room' met := by
  obtain ⟨os, xs, o1, o2, o3, o4, o5⟩ := M.o
  refine ⟨put_self _ _ _, by rw [put_ne _ _ M.n2.symm]; exact M.t, M.n1, M.n2, M.n3, os, xs, by rw [put_ne _ _ M.n1.symm]; exact o1, o2, fun j hj => (o3 j hj).congr fun b hb => put_ne _ _ (o4 j b hj hb).1, o4, o5⟩
theorem OMem.putT {m : PMap} {br bo bm : Nat} {sr st : List Value} {rows : List (List Int)} {room : List Int} {met : List Bool} (M : OMem m br bo bm sr st rows room met) (met' : List Bool) : OMem (m.put bm (BL met' ++ st)) br bo bm sr st rows room met' := by
  obtain ⟨os, xs, o1, o2, o3, o4, o5⟩ := M.o
  refine ⟨by rw [put_ne _ _ M.n2]; exact M.r, put_self _ _ _, M.n1, M.n2, M.n3, os, xs, by rw [put_ne _ _ M.n3]; exact o1, o2, fun j hj => (o3 j hj).congr fun b hb => put_ne _ _ (o4 j b hj hb).2.2, o4, o5⟩
/-- Another list of marks (a new block). -/
theorem OMem.mark {m : PMap} {br bo bm : Nat} {sr st : List Value} {rows : List (List Int)} {room : List Int} {met : List Bool} (M : OMem m br bo bm sr st rows room met) {b : Nat} (hb : m b = none) (met' : List Bool) (st' : List Value) : OMem (m.put b (BL met' ++ st')) br bo b sr st' rows room met' := by
  obtain ⟨os, xs, o1, o2, o3, o4, o5⟩ := M.o
  have hbr : br ≠ b := fun e => by have := M.r; rw [e, hb] at this; cases this
  have hbo : bo ≠ b := fun e => by rw [e, hb] at o1; cases o1
  have hx : ∀ j y, j < rows.length → xs j = some y → y ≠ b := by
    intro j y hj hy e
    rcases o3 j hj with ⟨h1, _⟩ | ⟨b', c, sp, h1, _, h3, _⟩
    · rw [h1] at hy; cases hy
    · rw [h1] at hy; cases hy; rw [e, hb] at h3; cases h3
  refine ⟨by rw [put_ne _ _ hbr]; exact M.r, put_self _ _ _, M.n1, hbr, hbo, os, xs, by rw [put_ne _ _ hbo]; exact o1, o2, fun j hj => (o3 j hj).congr fun y hy => put_ne _ _ (hx j y hj hy), fun j y hj hy => ⟨(o4 j y hj hy).1, (o4 j y hj hy).2.1, hx j y hj hy⟩, o5⟩

/-- The list of one meeting. -/
theorem OMem.row {m : PMap} {br bo bm : Nat} {sr st : List Value} {rows : List (List Int)} {room : List Int} {met : List Bool} (M : OMem m br bo bm sr st rows room met) (hI : Heap) {j : Nat} (hj : j < rows.length) :
    ∃ A c, (over hI m).get bo (0 + j * 1) = some (.slice A (rows.getD j []).length c) ∧ Ints (over hI m) A (rows.getD j []) := by
  obtain ⟨os, xs, o1, o2, o3, o4, o5⟩ := M.o
  obtain ⟨A, c, e1, e2⟩ := (o3 j hj).slice hI
  refine ⟨A, c, ?_, e2⟩
  rw [over_get o1, Nat.zero_add, Nat.mul_one, ← e1]
  have : j < os.length := by omega
  rw [List.getD_eq_getElem?_getD, List.getElem?_eq_getElem this]; rfl

/-- The list of one meeting is another one. -/
theorem OMem.renew {m m1 : PMap} {br bo bm : Nat} {sr st : List Value} {rows : List (List Int)} {room : List Int} {met : List Bool} {os : List Value} {xs : Nat → Option Nat} (M : OMem m br bo bm sr st rows room met)
    (o1 : m bo = some os) (o2 : os.length = rows.length) (o3 : ∀ j, j < rows.length → RowAt m (os.getD j undef) (rows.getD j []) (xs j)) (o4 : ∀ j b, j < rows.length → xs j = some b → b ≠ br ∧ b ≠ bo ∧ b ≠ bm) (o5 : ∀ j j' b, j < rows.length → j' < rows.length → xs j = some b → xs j' = some b → j = j')
    {g b : Nat} {v : Value} {row : List Int} (hg : g < rows.length) (hb : xs g = some b ∨ m b = none) (hoth : ∀ y, y ≠ b → m1 y = m y) (R : RowAt m1 v row (some b)) :
    OMem (m1.put bo (os.set g v)) br bo bm sr st (rows.set g row) room met := by
  have nb : b ≠ br ∧ b ≠ bo ∧ b ≠ bm := by
    rcases hb with h | h
    · exact o4 g b hg h
    · refine ⟨fun e => ?_, fun e => ?_, fun e => ?_⟩
      · have := M.r; rw [← e, h] at this; cases this
      · rw [← e, h] at o1; cases o1
      · have := M.t; rw [← e, h] at this; cases this
  have hx : ∀ j y, j < rows.length → j ≠ g → xs j = some y → y ≠ b := by
    intro j y hj hjg hy e
    subst e
    rcases hb with h | h
    · exact hjg (o5 j g y hj hg hy h)
    · rcases o3 j hj with ⟨h1, _⟩ | ⟨b', c, sp, h1, _, h3, _⟩
      · rw [h1] at hy; cases hy
      · rw [h1] at hy; cases hy; rw [h] at h3; cases h3
  refine ⟨by rw [put_ne _ _ M.n1, hoth _ nb.1.symm]; exact M.r, by rw [put_ne _ _ M.n3.symm, hoth _ nb.2.2.symm]; exact M.t, M.n1, M.n2, M.n3, os.set g v, fun j => if j = g then some b else xs j, put_self _ _ _, by simp [o2], fun j hj => ?_, fun j y hj hy => ?_, fun j j' y hj hj' hy hy' => ?_⟩
  · rw [List.length_set] at hj
    show RowAt _ _ _ (if j = g then some b else xs j)
    by_cases hjg : j = g
    · subst hjg
      rw [lget_set_self (by omega), lget_set_self hg, if_pos rfl]
      exact R.congr fun y hy => by cases hy; exact put_ne _ _ nb.2.1
    · rw [lget_set_ne _ (Ne.symm hjg), lget_set_ne _ (Ne.symm hjg), if_neg hjg]
      exact (o3 j hj).congr fun y hy => by rw [put_ne _ _ (o4 j y hj hy).2.1]; exact hoth y (hx j y hj hjg hy)
  · rw [List.length_set] at hj
    simp only at hy
    by_cases hjg : j = g
    · rw [if_pos hjg] at hy; cases hy; exact nb
    · rw [if_neg hjg] at hy; exact o4 j y hj hy
  · rw [List.length_set] at hj hj'
    simp only at hy hy'
    by_cases hjg : j = g
    · rw [if_pos hjg] at hy; cases hy
      by_cases hjg' : j' = g
      · rw [hjg, hjg']
      · rw [if_neg hjg'] at hy'; exact absurd rfl (hx j' _ hj' hjg' hy')
    · rw [if_neg hjg] at hy
      by_cases hjg' : j' = g
      · rw [if_pos hjg'] at hy'; cases hy'; exact absurd rfl (hx j _ hj hjg hy)
      · rw [if_neg hjg'] at hy'; exact o5 j j' y hj hj' hy hy'

/-- A team is appended to the owners of a meeting's points, as the program does it. -/
theorem OMem.push {hI : Heap} {m : PMap} {br bo bm cb co L cO : Nat} {sr st : List Value} {rows : List (List Int)} {room : List Int} {met : List Bool} {g : Int} {t : Int} {K : Heap → Prop} (M : OMem m br bo bm sr st rows room met) (hB : Beside hI m)
    (hc : hI.get cb co = some (.slice (some ⟨bo, 0, none⟩) L cO)) (hL : rows.length = L) (h0 : 0 ≤ g) (hg : g < (L : Int)) (hlen : (rows.getD g.toNat []).length ≤ 1048576)
    (k : ∀ hJ m', Ext hI hJ → Beside hJ m' → OMem m' br bo bm sr st (rows.set g.toNat (rows.getD g.toNat [] ++ [t])) room met → K (over hJ m')) :
    ∃ x40A : Option Addr, ∃ x40l x40c : Nat, (over hI m).get cb co = some (.slice x40A x40l x40c) ∧ ∃ x41A : Option Addr, ∃ x41l x41c : Nat, (over hI m).get cb co = some (.slice x41A x41l x41c) ∧
      ∃ b42 o43 : Nat, x41A = some ⟨b42, o43, none⟩ ∧ (0 ≤ g ∧ g < (x41l : Int)) ∧ ∃ x44A : Option Addr, ∃ x44l x44c : Nat, (over hI m).get b42 (o43 + Int.toNat g * 1) = some (.slice x44A x44l x44c) ∧
      SAlloc (over hI m) [.int .i64 t] fun b45 h46 => SAppend h46 1 8 [.int .i64 0] x44A x44l x44c (some ⟨b45, 0, none⟩) 1 fun v48 h47 => ∃ x49A : Option Addr, ∃ x49l x49c : Nat, v48 = .slice x49A x49l x49c ∧ h47.get cb co = some (.slice x40A x40l x40c) ∧
      ∃ b50 o51 : Nat, x40A = some ⟨b50, o51, none⟩ ∧ (0 ≤ g ∧ g < (x40l : Int)) ∧ SStore h47 b50 (o51 + Int.toNat g * 1) [.slice x49A x49l x49c] K := by
  obtain ⟨os, xs, o1, o2, o3, o4, o5⟩ := M.o
  have hgl : g.toNat < rows.length := by omega
  have hol : g.toNat < os.length := by omega
  have hcell := (over_ext hB).get hc
  obtain ⟨A, c, e1, e2⟩ := (o3 g.toNat hgl).slice hI
  refine ⟨_, _, _, hcell, _, _, _, hcell, bo, 0, rfl, ⟨h0, hg⟩, A, (rows.getD g.toNat []).length, c, ?_, fun b45 hf => ?_⟩
  · rw [over_get o1, Nat.zero_add, Nat.mul_one, ← e1, List.getD_eq_getElem?_getD, List.getElem?_eq_getElem hol]; rfl
  have hbase := over_base hf (.cells [.int .i64 t])
  have eI := Ext.upd (over_fresh hf).1 (.cells [.int .i64 t])
  have hB2 := hB.base hf (.cells [.int .i64 t])
  have hRow : Row (over (hI.upd b45 (.cells [.int .i64 t])) m) (some ⟨b45, 0, none⟩) (1 * 1) [.int .i64 t] := by rw [← hbase]; exact Seg.row (Seg.new' _ _ _) rfl
  rw [hbase]
  have key : ∀ m1 b A' c', Beside (hI.upd b45 (.cells [.int .i64 t])) m1 → (xs g.toNat = some b ∨ (over (hI.upd b45 (.cells [.int .i64 t])) m).fresh b) → (∀ y, y ≠ b → m1 y = m y) → RowAt m1 (.slice A' ((rows.getD g.toNat []).length + 1) c') (rows.getD g.toNat [] ++ [t]) (some b) →
      (fun (v48 : Value) (h47 : Heap) => ∃ x49A : Option Addr, ∃ x49l x49c : Nat, v48 = .slice x49A x49l x49c ∧ h47.get cb co = some (.slice (some ⟨bo, 0, none⟩) L cO) ∧
      ∃ b50 o51 : Nat, some (⟨bo, 0, none⟩ : Addr) = some ⟨b50, o51, none⟩ ∧ (0 ≤ g ∧ g < (L : Int)) ∧ SStore h47 b50 (o51 + Int.toNat g * 1) [.slice x49A x49l x49c] K) (.slice A' ((rows.getD g.toNat []).length + 1) c') (over (hI.upd b45 (.cells [.int .i64 t])) m1) := by
    intro m1 b A' c' hB1 hb hoth R
    have ho1 : m1 bo = some os := by
      by_cases hbb : bo = b
      · subst hbb
        rcases hb with h | h
        · exact absurd rfl (o4 _ _ hgl h).2.1
        · have := (over_fresh h).2; rw [o1] at this; cases this
      · rw [hoth _ hbb]; exact o1
    have M2 := M.renew o1 o2 o3 o4 o5 hgl (b := b) (hb.imp id fun h => (over_fresh h).2) hoth R
    refine ⟨_, _, _, rfl, (over_ext hB1).get (eI.get hc), bo, 0, rfl, ⟨h0, hg⟩, over_store ho1 (by simp; omega) (by simp [Value.oneCell']) ?_⟩
    rw [Nat.zero_add, Nat.mul_one, splice_one _ _ _ hol]
    exact k _ _ eI (hB1.put (by rw [ho1]; simp) _) M2
  obtain ⟨A2, c2, e3, happ⟩ := (o3 g.toNat hgl).append (t := t) (K := fun (v48 : Value) (h47 : Heap) => ∃ x49A : Option Addr, ∃ x49l x49c : Nat, v48 = .slice x49A x49l x49c ∧ h47.get cb co = some (.slice (some ⟨bo, 0, none⟩) L cO) ∧ ∃ b50 o51 : Nat, some (⟨bo, 0, none⟩ : Addr) = some ⟨b50, o51, none⟩ ∧ (0 ≤ g ∧ g < (L : Int)) ∧ SStore h47 b50 (o51 + Int.toNat g * 1) [.slice x49A x49l x49c] K) hB2 hlen hRow key
  have h12 := e1.symm.trans e3
  simp only [Value.slice.injEq] at h12
  rw [h12.1, h12.2.2]
  exact happ

end Go.Proofs.Ythkbodgpcjcndaa

/- A point is given, if need be by moving others: the program's function, walked. -/
set_option linter.unusedVariables false
set_option linter.unusedSimpArgs false
namespace Go.Proofs.Ythkbodgpcjcndaa
open Go.HL

/-- How many points a team has. -/
def cnt (rows : List (List Int)) (x : Int) : Nat := rows.flatten.count x
theorem cnt_set : ∀ (rows : List (List Int)) (g : Nat) (r : List Int) (x : Int), g < rows.length → cnt (rows.set g r) x + (rows.getD g []).count x = cnt rows x + r.count x
  | [], g, r, x, h => by simp at h
  | q :: rows, 0, r, x, h => by
    simp only [cnt, List.set_cons_zero, List.flatten_cons, List.count_append, List.getD_cons_zero]; omega
  | q :: rows, g + 1, r, x, h => by
    have := cnt_set rows g r x (by simpa using h)
    simp only [cnt, List.set_cons_succ, List.flatten_cons, List.count_append, List.getD_cons_succ] at this ⊢; omega
theorem firstIdx_mem (t : Int) : ∀ (i : Nat) (xs : List Int), t ∈ xs → ∃ k : Nat, k < xs.length ∧ firstIdx (fun y => decide (t = y)) i xs = ((i + k : Nat) : Int) ∧ xs.getD k 0 = t
  | i, [], h => by cases h
  | i, x :: xs, h => by
    rw [firstIdx]
    by_cases hx : t = x
    · exact ⟨0, by simp, by simp [hx], by simp [hx]⟩
    · obtain ⟨k, h1, h2, h3⟩ := firstIdx_mem t (i + 1) xs (by rcases List.mem_cons.1 h with h | h; exact absurd h hx; exact h)
      exact ⟨k + 1, by simpa using h1, by rw [if_neg (by simpa using hx), h2]; congr 1; omega, by simpa using h3⟩
theorem count_erase {xs : List Int} {k : Nat} (hk : k < xs.length) (x : Int) : (xs.eraseIdx k).count x + (if xs.getD k 0 = x then 1 else 0) = xs.count x := by
  induction xs generalizing k with
  | nil => simp at hk
  | cons y xs ih =>
    cases k with
    | zero => simp only [List.eraseIdx_zero, List.tail_cons, List.getD_cons_zero, List.count_cons, beq_iff_eq]
    | succ k =>
      have := ih (k := k) (by simpa using hk)
      simp only [List.eraseIdx_cons_succ, List.getD_cons_succ, List.count_cons] at this ⊢; omega

def OwnOk (games rows : List (List Int)) : Prop := ∀ j x, x ∈ rows.getD j [] → x = tm games j 0 ∨ x = tm games j 1
structure GT (games : List (List Int)) (n : Nat) (rows : List (List Int)) (room : List Int) (met : List Bool) (i : Nat) (rows' : List (List Int)) (room' : List Int) (met' : List Bool) : Prop where
  sl : rows'.length = rows.length
  rl : room'.length = room.length
  len : ∀ j, (rows'.getD j []).length = (rows.getD j []).length + (if j = i then 1 else 0)
  own : OwnOk games rows'
  b : ∀ x : Nat, x < n → room'.getD x 0 + ((cnt rows' (x : Int) : Nat) : Int) = room.getD x 0 + ((cnt rows (x : Int) : Nat) : Int)
  c : ∀ x : Nat, x < n → 0 ≤ room'.getD x 0
  d : ∀ j x, metB met x = true → (rows.getD j []).count x ≤ (rows'.getD j []).count x
  e : MetLe met met'
structure GF (games : List (List Int)) (n : Nat) (rows : List (List Int)) (room : List Int) (met : List Bool) (i : Nat) (met' : List Bool) : Prop where
  e : MetLe met met'
  f : Both games met' i
  g : ∀ x : Nat, x < n → metB met' x = true → metB met x = false → room.getD x 0 = 0 ∧ ∀ j, j < rows.length → (x : Int) ∈ rows.getD j [] → Both games met' j
def GQ2 (games : List (List Int)) (n : Nat) (hI : Heap) (br bo bm : Nat) (sr st : List Value) (rows : List (List Int)) (room : List Int) (met : List Bool) (i : Nat) (u : Value) (h2 : Heap) : Prop :=
  ∃ (r : Bool) (rows' : List (List Int)) (room' : List Int) (met' : List Bool) (hJ : Heap) (m' : PMap), u = .bool r ∧ h2 = over hJ m' ∧ Ext hI hJ ∧ Beside hJ m' ∧ OMem m' br bo bm sr st rows' room' met' ∧
    (r = true → GT games n rows room met i rows' room' met') ∧ (r = false → rows' = rows ∧ room' = room ∧ GF games n rows room met i met')

theorem row_set {rows : List (List Int)} {g j : Nat} {r : List Int} (hg : g < rows.length) : (rows.set g r).getD j [] = if j = g then r else rows.getD j [] := by
  by_cases h : j = g
  · subst h; rw [lget_set_self hg, if_pos rfl]
  · rw [lget_set_ne _ (Ne.symm h), if_neg h]

/-- The caps of the closure. -/
abbrev giveCaps (lb rb ob gb : Nat) : List Value := [.pointer (some ⟨lb, 0, none⟩), .pointer (some ⟨rb, 0, none⟩), .pointer (some ⟨ob, 0, none⟩), .pointer (some ⟨gb, 0, none⟩)]

theorem I.Schedule.canBeFirst.c1.spec {games : List (List Int)} {n L : Nat} {G : Option Addr} {cG : Nat} {hI0 : Heap} (hG : Tab hI0 G games) (hL : games.length = L) (hLb : L ≤ 1048576)
    (htm : ∀ i, i < L → (games.getD i []).length = 2 ∧ ∀ k, k < 2 → 0 ≤ tm games i k ∧ tm games i k < n) {lb rb ob gb bo br bm cr cO cm : Nat} {sr st : List Value}
    (hlc : hI0.get lb 0 = some (.slice G L cG)) (hrc : hI0.get rb 0 = some (.slice (some ⟨br, 0, none⟩) n cr)) (hoc : hI0.get ob 0 = some (.slice (some ⟨bo, 0, none⟩) L cO))
    (hgc : hI0.get gb 0 = some (.func (.func I.Schedule.canBeFirst.c1.id) #[] (giveCaps lb rb ob gb).toArray)) :
    ∀ (N : Nat) (rows : List (List Int)) (room : List Int) (met : List Bool) (hI : Heap) (m : PMap) (i : Nat), left met < N → Ext hI0 hI → rows.length = L → room.length = n → met.length = n → (∀ x, x < n → 0 ≤ room.getD x 0 ∧ room.getD x 0 ≤ 9223372036854775807) →
      OwnOk games rows → (∀ j, (rows.getD j []).length ≤ 2) → i < L → OMem m br bo bm sr st rows room met → Beside hI m →
      ACalls Try.prog I.Schedule.canBeFirst.c1.id [.int .i64 i, .slice (some ⟨bm, 0, none⟩) n cm, .pointer (some ⟨lb, 0, none⟩), .pointer (some ⟨rb, 0, none⟩), .pointer (some ⟨ob, 0, none⟩), .pointer (some ⟨gb, 0, none⟩)] (over hI m) (GQ2 games n hI br bo bm sr st rows room met i) := by
  intro N
  induction N with
  | zero => intro rows room met hI m i hN; omega
  | succ N ihN =>
    intro rows room met hI m i hN e0 hsl hrl hml hroom hown hlen hi hM hB
    obtain ⟨hrow2, htr⟩ := htm i hi
    have erd : rows.length = L := hsl
    refine I.Schedule.canBeFirst.c1.step _ _ _ _ _ _ _ _ _ _ _ _ _ _ ⟨_, _, _, (over_ext hB).get (e0.get hlc), (hG.mono e0).rd (over_ext hB) hL (by omega) (by omega) fun D dD hD hdD => ?_⟩
    rw [Int.toNat_natCast] at hD hdD ⊢
    rw [hrow2] at hdD ⊢
    have loop0 : ∀ (kk k : Nat) (met1 : List Bool) (hJ : Heap) (m1 : PMap), k + kk = 2 → Ext hI hJ → OMem m1 br bo bm sr st rows room met1 → Beside hJ m1 → MetLe met met1 → (∀ q, q < k → metB met1 (tm games i q) = true) →
        (∀ x : Nat, x < n → metB met1 x = true → metB met x = false → room.getD x 0 = 0 ∧ ∀ j, j < rows.length → j ≠ i → (x : Int) ∈ rows.getD j [] → Both games met1 j) →
        I.Schedule.canBeFirst.c1.L0 (GQ2 games n hI br bo bm sr st rows room met i) (.int .i64 i) (.slice (some ⟨bm, 0, none⟩) n cm) (.pointer (some ⟨rb, 0, none⟩)) (.pointer (some ⟨ob, 0, none⟩)) (.pointer (some ⟨gb, 0, none⟩)) (.slice D 2 dD) (.int .i64 ((2 : Nat) : Int)) (.int .i64 k) (over hJ m1) := by
      intro kk
      induction kk with
      | zero =>
        intro k met1 hJ m1 hk eJ M1 B1 le1 hdone hprop
        refine I.Schedule.canBeFirst.c1.L0_step _ _ _ _ _ _ _ _ _ _ _ _ _ _ _ _ _ (dec_split (fun hc => by omega) (fun _ => ?_))
        refine ⟨false, rows, room, met1, hJ, m1, rfl, rfl, eJ, B1, M1, fun h => (by cases h), fun _ => ⟨rfl, rfl, le1, ⟨hdone 0 (by omega), hdone 1 (by omega)⟩, fun x hx h1 h2 => ?_⟩⟩
        obtain ⟨p1, p2⟩ := hprop x hx h1 h2
        refine ⟨p1, fun j hj hjx => ?_⟩
        by_cases hji : j = i
        · rw [hji]; exact ⟨hdone 0 (by omega), hdone 1 (by omega)⟩
        · exact p2 j hj hji hjx
      | succ kk ihk =>
        intro k met1 hJ m1 hk eJ M1 B1 le1 hdone hprop
        obtain ⟨t0, t1⟩ := htr k (by omega)
        have hml1 : met1.length = n := le1.1.trans hml
        have hbn : (tm games i k).toNat < n := by omega
        have etm : ((tm games i k).toNat : Int) = tm games i k := by omega
        have eB := over_ext B1
        have e0J := e0.trans eJ
        refine I.Schedule.canBeFirst.c1.L0_step _ _ _ _ _ _ _ _ _ _ _ _ _ _ _ _ _ (dec_split (fun hc => ?_) (fun hc => by omega))
        refine (hD.mono eJ).rd eB (by rw [hrow2]) (by omega) (by omega) ?_
        rw [Int.toNat_natCast k]
        rw [show (games.getD i []).getD k 0 = tm games i k from rfl]
        refine over_rdB M1.t hml1 t0 t1 (bool_split (fun hmet => ?_) (fun hnot => ?_))
        · rw [wsucc (by omega)]
          refine ihk (k + 1) met1 hJ m1 (by omega) eJ M1 B1 le1 (fun q hq => ?_) hprop
          by_cases hqk : q = k
          · rw [hqk]; exact hmet
          · exact hdone q (by omega)
        · have hbm : metB met (tm games i k) = false := by
            cases hh : metB met (tm games i k) with
            | false => rfl
            | true => rw [le1.2 _ hh] at hnot; cases hnot
          refine over_wr M1.t (by simp [hml1]) t0 t1 rfl ?_
          have eset : (BL met1).set (tm games i k).toNat (.bool true) = BL (met1.set (tm games i k).toNat true) := by rw [BL, BL, ← List.map_set]
          rw [eset]
          have M2 := M1.putT (met1.set (tm games i k).toNat true)
          have B2 := B1.put (b := bm) (by rw [M1.t]; simp) (BL (met1.set (tm games i k).toNat true) ++ st)
          have le2 := metLe_set met1 (tm games i k)
          have hin : metB (met1.set (tm games i k).toNat true) (tm games i k) = true := metB_set t0 (by omega)
          have hlt2 : left (met1.set (tm games i k).toNat true) < N := by
            have h1 := left_set (b := tm games i k) (by omega) hnot
            have h2 := left_le le1
            omega
          generalize hm2 : met1.set (tm games i k).toNat true = met2 at *
          generalize m1.put bm (BL met2 ++ st) = m2 at *
          have hml2 : met2.length = n := le2.1.trans hml1
          have eB2 := over_ext B2
          refine ⟨_, _, _, eB2.get (e0J.get hrc), over_rd M2.r hrl t0 t1 (dec_split (fun hpos => ?_) (fun hzero => ?_))⟩
          · obtain ⟨r0, r1⟩ := hroom (tm games i k).toNat hbn
            refine ⟨_, _, _, eB2.get (e0J.get hrc), over_rd M2.r hrl t0 t1 (over_wr M2.r (by simp [hrl]) t0 t1 rfl ?_)⟩
            rw [w64 (by omega) (by omega)]
            have er : (LM room).set (tm games i k).toNat (.int .i64 (room.getD (tm games i k).toNat 0 - 1)) = LM (room.set (tm games i k).toNat (room.getD (tm games i k).toNat 0 - 1)) := by rw [LM, LM, ← List.map_set]
            rw [er]
            have M3 := M2.putR (room.set (tm games i k).toNat (room.getD (tm games i k).toNat 0 - 1))
            have B3 := B2.put (b := br) (by rw [M2.r]; simp) (LM (room.set (tm games i k).toNat (room.getD (tm games i k).toNat 0 - 1)) ++ sr)
            refine M3.push B3 (e0J.get hoc) hsl (by omega) (by omega) (by have := hlen i; rw [Int.toNat_natCast]; omega) fun hK m4 eK B4 M4 => ?_
            rw [Int.toNat_natCast] at M4
            have hil : i < rows.length := by omega
            refine ⟨true, _, _, _, hK, m4, rfl, rfl, eJ.trans eK, B4, M4, fun _ => ?_, fun h => (by cases h)⟩
            refine { sl := by simp, rl := by simp, len := fun j => ?_, own := fun j x hx => ?_, b := fun x hx => ?_, c := fun x hx => ?_, d := fun j x hx => ?_, e := le1.trans le2 }
            · rw [row_set hil]
              by_cases hji : j = i
              · rw [if_pos hji, if_pos hji, hji]; simp
              · rw [if_neg hji, if_neg hji]; omega
            · rw [row_set hil] at hx
              by_cases hji : j = i
              · subst hji
                rw [if_pos rfl] at hx
                rcases List.mem_append.1 hx with hx | hx
                · exact hown j x hx
                · have : x = tm games j k := by simpa using hx
                  have hk2 : k = 0 ∨ k = 1 := by omega
                  rcases hk2 with rfl | rfl
                  · exact .inl this
                  · exact .inr this
              · rw [if_neg hji] at hx; exact hown j x hx
            · have hcs := cnt_set rows i (rows.getD i [] ++ [tm games i k]) (x : Int) hil
              rw [List.count_append, List.count_singleton] at hcs
              by_cases hxb : (tm games i k).toNat = x
              · subst hxb
                rw [lget_set_self (by omega)]
                rw [if_pos (by simp [etm])] at hcs
                omega
              · rw [lget_set_ne _ hxb]
                rw [if_neg (by simp; omega)] at hcs
                omega
            · by_cases hxb : (tm games i k).toNat = x
              · subst hxb; rw [lget_set_self (by omega)]; omega
              · rw [lget_set_ne _ hxb]; exact (hroom x hx).1
            · rw [row_set hil]
              by_cases hji : j = i
              · rw [if_pos hji, hji, List.count_append]; omega
              · rw [if_neg hji]; exact Nat.le_refl _
          · have hz : room.getD (tm games i k).toNat 0 = 0 := by have := (hroom _ hbn).1; omega
            refine ⟨_, _, _, eB2.get (e0J.get hoc), ?_⟩
            have loop1 : ∀ (jj j : Nat) (met3 : List Bool) (hK : Heap) (m3 : PMap), j + jj = L → Ext hI hK → OMem m3 br bo bm sr st rows room met3 → Beside hK m3 → MetLe met2 met3 →
                (∀ x : Nat, x < n → metB met3 x = true → metB met x = false → (x : Int) ≠ tm games i k → room.getD x 0 = 0 ∧ ∀ j', j' < rows.length → j' ≠ i → (x : Int) ∈ rows.getD j' [] → Both games met3 j') →
                (∀ j', j' < j → j' ≠ i → tm games i k ∈ rows.getD j' [] → Both games met3 j') →
                I.Schedule.canBeFirst.c1.L1 (GQ2 games n hI br bo bm sr st rows room met i) (.int .i64 i) (.slice (some ⟨bm, 0, none⟩) n cm) (.pointer (some ⟨rb, 0, none⟩)) (.pointer (some ⟨ob, 0, none⟩)) (.pointer (some ⟨gb, 0, none⟩)) (.int .i64 (tm games i k)) (.slice D 2 dD) (.int .i64 ((2 : Nat) : Int)) (.int .i64 k) (.slice (some ⟨bo, 0, none⟩) L cO) (.int .i64 L) (.int .i64 j) (over hK m3) := by
              intro jj
              induction jj with
              | zero =>
                intro j met3 hK m3 hj eK M3 B3 le3 hp3 hd3
                refine I.Schedule.canBeFirst.c1.L1_step _ _ _ _ _ _ _ _ _ _ _ _ _ _ _ _ _ _ _ _ _ _ _ (dec_split (fun hc => by omega) (fun _ => ?_))
                rw [wsucc (by omega)]
                refine ihk (k + 1) met3 hK m3 (by omega) eK M3 B3 (le1.trans (le2.trans le3)) (fun q hq => ?_) (fun x hx h1 h2 => ?_)
                · by_cases hqk : q = k
                  · rw [hqk]; exact le3.2 _ hin
                  · exact le3.2 _ (le2.2 _ (hdone q (by omega)))
                · by_cases hxb : (x : Int) = tm games i k
                  · have hxe : x = (tm games i k).toNat := by omega
                    refine ⟨by rw [hxe]; exact hz, fun j' hj' hji hgj => hd3 j' (by omega) hji (hxb ▸ hgj)⟩
                  · exact hp3 x hx h1 h2 hxb
              | succ jj ihj =>
                intro j met3 hK m3 hj eK M3 B3 le3 hp3 hd3
                have hml3 : met3.length = n := le3.1.trans hml2
                have e0K := e0.trans eK
                have hjl : j < rows.length := by omega
                have next : (j ≠ i → tm games i k ∈ rows.getD j [] → Both games met3 j) →
                    I.Schedule.canBeFirst.c1.L1 (GQ2 games n hI br bo bm sr st rows room met i) (.int .i64 i) (.slice (some ⟨bm, 0, none⟩) n cm) (.pointer (some ⟨rb, 0, none⟩)) (.pointer (some ⟨ob, 0, none⟩)) (.pointer (some ⟨gb, 0, none⟩)) (.int .i64 (tm games i k)) (.slice D 2 dD) (.int .i64 ((2 : Nat) : Int)) (.int .i64 k) (.slice (some ⟨bo, 0, none⟩) L cO) (.int .i64 L) (.int .i64 (IntKind.wrap .i64 ((j : Int) + 1))) (over hK m3) := by
                  intro hb
                  rw [wsucc (by omega)]
                  refine ihj (j + 1) met3 hK m3 (by omega) eK M3 B3 le3 hp3 fun j' hj' hji hg' => ?_
                  by_cases hjj : j' = j
                  · rw [hjj] at hji hg' ⊢; exact hb hji hg'
                  · exact hd3 j' (by omega) hji hg'
                refine I.Schedule.canBeFirst.c1.L1_step _ _ _ _ _ _ _ _ _ _ _ _ _ _ _ _ _ _ _ _ _ _ _ (dec_split (fun hc => ?_) (fun hc => by omega))
                obtain ⟨A5, c5, g5, i5⟩ := M3.row hK hjl
                refine ⟨bo, 0, rfl, ⟨by omega, by omega⟩, A5, _, c5, by rw [Int.toNat_natCast]; exact g5, ?_⟩
                refine (slices.Index_Sint64_int64.spec i5 (Ext.refl _) rfl (by have := hlen j; omega)).mono ?_
                rintro u h5 ⟨rfl, rfl⟩
                refine ⟨_, rfl, fun k73 hk73 => ?_⟩
                rw [firstIdx_any]
                have hany : (rows.getD j []).any (fun y => decide (tm games i k = y)) = decide (tm games i k ∈ rows.getD j []) := by
                  rw [Bool.eq_iff_iff, List.any_eq_true, decide_eq_true_eq]
                  exact ⟨fun ⟨y, hy, he⟩ => by rw [of_decide_eq_true he]; exact hy, fun h => ⟨_, h, decide_eq_true rfl⟩⟩
                rw [hany]
                refine dec_split (fun hmem => hk73 _ _ fun k76 hk76 => ?_) (fun hnm => hk73 _ _ fun k76 hk76 => ?_)
                · refine ndec_split (fun hne => ?_) (fun heq => ?_)
                  · have hji : j ≠ i := by omega
                    refine ⟨_, _, (over_ext B3).get (e0K.get hgc), ?_⟩
                    have hl3 : left met3 < N := by have := left_le le3; omega
                    refine (ihN rows room met3 hK m3 j hl3 e0K hsl hrl hml3 hroom hown hlen (by omega) M3 B3).mono ?_
                    rintro u h6 ⟨r, rows6, room6, met6, hL6, m6, rfl, rfl, e6, B6, M6, hT, hF⟩
                    refine ⟨r, rfl, hk76 _ _ (bool_split (fun hr => ?_) (fun hr => ?_))⟩
                    · have T := hT hr
                      have e0L := e0K.trans e6
                      have eB6 := over_ext B6
                      have hsl6 : rows6.length = L := T.sl.trans hsl
                      have hj6 : j < rows6.length := by omega
                      have hi6 : i < rows6.length := by omega
                      have hcell := eB6.get (e0L.get hoc)
                      obtain ⟨A7, c7, g7, i7⟩ := M6.row hL6 hj6
                      have hlen6 : (rows6.getD j []).length ≤ 3 := by have h1 := T.len j; have := hlen j; rw [if_pos rfl] at h1; omega
                      have ht6 : tm games i k ∈ rows6.getD j [] := by
                        have := T.d j (tm games i k) (le3.2 _ hin)
                        have hp := List.count_pos_iff.2 hmem
                        exact List.count_pos_iff.1 (by omega)
                      obtain ⟨q, hq1, hq2, hq3⟩ := firstIdx_mem _ 0 _ ht6
                      rw [Nat.zero_add] at hq2
                      have hg7 : (over hL6 m6).get bo (0 + Int.toNat (j : Int) * 1) = some (.slice A7 (rows6.getD j []).length c7) := by rw [Int.toNat_natCast]; exact g7
                      refine ⟨_, _, _, hcell, _, _, _, hcell, bo, 0, rfl, ⟨by omega, by omega⟩, A7, _, c7, hg7, _, _, _, hcell, bo, 0, rfl, ⟨by omega, by omega⟩, A7, _, c7, hg7, _, _, _, hcell, bo, 0, rfl, ⟨by omega, by omega⟩, A7, _, c7, hg7, ?_⟩
                      refine (slices.Index_Sint64_int64.spec i7 (Ext.refl _) rfl (by omega)).mono ?_
                      rintro u h8 ⟨rfl, rfl⟩
                      refine ⟨_, rfl, hcell, hcell, hg7, hcell, hg7, ?_⟩
                      refine (slices.Index_Sint64_int64.spec i7 (Ext.refl _) rfl (by omega)).mono ?_
                      rintro u h8 ⟨rfl, rfl⟩
                      refine ⟨_, rfl, hcell, hcell, hg7, ?_⟩
                      rw [hq2, w64 (by omega) (by omega)]
                      -- the list of the meeting that gives its point away
                      obtain ⟨os, xs, o1, o2, o3, o4, o5⟩ := M6.o
                      have hjo : j < os.length := by omega
                      rcases o3 j hj6 with ⟨_, _, hnil⟩ | ⟨b9, c9, sp9, x9, v9, m9, l9, le9⟩
                      · rw [hnil] at ht6; cases ht6
                      have ev9 : os.getD j undef = .slice A7 (rows6.getD j []).length c7 := by
                        have := g7
                        rw [over_get o1, Nat.zero_add, Nat.mul_one] at this
                        rw [List.getD_eq_getElem?_getD, this]; rfl
                      rw [v9] at ev9
                      simp only [Value.slice.injEq] at ev9
                      obtain ⟨rfl, _, rfl⟩ := ev9
                      refine (slices.Delete_Sint64_int64.spec m9 rfl l9 le9 (by omega) (by omega) (by omega) rfl).mono ?_
                      rintro u h10 ⟨rfl, sp10, l10, rfl⟩
                      rw [Int.toNat_natCast]
                      have B10 := B6.put (b := b9) (by rw [m9]; simp) (LM ((rows6.getD j []).eraseIdx q) ++ sp10)
                      have hel : ((rows6.getD j []).eraseIdx q).length = (rows6.getD j []).length - 1 := by rw [List.length_eraseIdx, if_pos hq1]
                      have n9 := o4 j b9 hj6 x9
                      have R10 : RowAt (m6.put b9 (LM ((rows6.getD j []).eraseIdx q) ++ sp10)) (.slice (some ⟨b9, 0, none⟩) ((rows6.getD j []).length - 1) c9) ((rows6.getD j []).eraseIdx q) (some b9) :=
                        .inr ⟨b9, c9, sp10, rfl, by rw [hel], put_self _ _ _, by rw [hel]; exact l10, by rw [hel]; omega⟩
                      have M10 := M6.renew o1 o2 o3 o4 o5 hj6 (.inl x9) (fun y hy => put_ne _ _ hy) R10
                      have ho10 : (m6.put b9 (LM ((rows6.getD j []).eraseIdx q) ++ sp10)) bo = some os := by rw [put_ne _ _ n9.2.1.symm]; exact o1
                      refine ⟨_, _, _, rfl, (over_ext B10).get (e0L.get hoc), bo, 0, rfl, ⟨by omega, by omega⟩, over_store ho10 (by simp; omega) (by simp [Value.oneCell']) ?_⟩
                      rw [Nat.zero_add, Nat.mul_one, Int.toNat_natCast, splice_one _ _ _ hjo]
                      have B11 := B10.put (b := bo) (by rw [ho10]; simp) (os.set j (.slice (some ⟨b9, 0, none⟩) ((rows6.getD j []).length - 1) c9))
                      have hi10 : (rows6.set j ((rows6.getD j []).eraseIdx q)).getD i [] = rows6.getD i [] := by rw [row_set hj6, if_neg (Ne.symm hji)]
                      have hlen10 : (rows6.getD i []).length ≤ 3 := by have h1 := T.len i; have := hlen i; rw [if_neg (Ne.symm hji)] at h1; omega
                      refine M10.push B11 (e0L.get hoc) (by rw [List.length_set]; exact hsl6) (by omega) (by omega) (by rw [Int.toNat_natCast, hi10]; omega) fun hK12 m12 e12 B12 M12 => ?_
                      rw [Int.toNat_natCast, hi10] at M12
                      have hi10l : i < (rows6.set j ((rows6.getD j []).eraseIdx q)).length := by rw [List.length_set]; exact hi6
                      refine ⟨true, _, _, _, hK12, m12, rfl, rfl, (eK.trans e6).trans e12, B12, M12, fun _ => ?_, fun h => (by cases h)⟩
                      have rw12 : ∀ j', ((rows6.set j ((rows6.getD j []).eraseIdx q)).set i (rows6.getD i [] ++ [tm games i k])).getD j' [] = if j' = i then rows6.getD i [] ++ [tm games i k] else if j' = j then (rows6.getD j []).eraseIdx q else rows6.getD j' [] := fun j' => by
                        rw [row_set hi10l, row_set hj6]
                      refine { sl := by simp [T.sl], rl := T.rl, len := fun j' => ?_, own := fun j' x hx => ?_, b := fun x hx => ?_, c := T.c, d := fun j' x hx => ?_, e := (le1.trans (le2.trans le3)).trans T.e }
                      · rw [rw12]
                        have h1 := T.len j'
                        by_cases a1 : j' = i
                        · subst a1
                          rw [if_pos rfl, if_pos rfl, List.length_append]
                          rw [if_neg (Ne.symm hji)] at h1
                          rw [List.length_singleton]; omega
                        · rw [if_neg a1, if_neg a1]
                          by_cases a2 : j' = j
                          · subst a2
                            rw [if_pos rfl] at h1
                            rw [if_pos rfl, hel]; omega
                          · rw [if_neg a2] at h1
                            rw [if_neg a2]; omega
                      · rw [rw12] at hx
                        by_cases a1 : j' = i
                        · subst a1
                          rw [if_pos rfl] at hx
                          rcases List.mem_append.1 hx with hx | hx
                          · exact T.own _ x hx
                          · have : x = tm games j' k := by simpa using hx
                            have hk2 : k = 0 ∨ k = 1 := by omega
                            rcases hk2 with rfl | rfl
                            · exact .inl this
                            · exact .inr this
                        · rw [if_neg a1] at hx
                          by_cases a2 : j' = j
                          · subst a2
                            rw [if_pos rfl] at hx
                            exact T.own _ x (List.mem_of_mem_eraseIdx hx)
                          · rw [if_neg a2] at hx
                            exact T.own _ x hx
                      · have h1 := T.b x hx
                        have h2 := cnt_set rows6 j ((rows6.getD j []).eraseIdx q) (x : Int) hj6
                        have h3 := cnt_set _ i (rows6.getD i [] ++ [tm games i k]) (x : Int) hi10l
                        have h4 := count_erase hq1 (x : Int)
                        rw [hi10, List.count_append, List.count_singleton] at h3
                        rw [hq3] at h4
                        by_cases hxt : tm games i k = (x : Int)
                        · rw [if_pos hxt] at h4
                          rw [if_pos (by simpa using hxt)] at h3
                          omega
                        · rw [if_neg hxt] at h4
                          rw [if_neg (by simpa using hxt)] at h3
                          omega
                      · have h1 := T.d j' x ((le1.trans (le2.trans le3)).2 _ hx)
                        have hxt : ¬ (tm games i k = x) := fun e => by rw [e, hx] at hbm; cases hbm
                        have h4 := count_erase hq1 x
                        rw [hq3, if_neg hxt] at h4
                        rw [rw12]
                        by_cases a1 : j' = i
                        · rw [if_pos a1, List.count_append]; rw [a1] at h1 ⊢; omega
                        · rw [if_neg a1]
                          by_cases a2 : j' = j
                          · rw [if_pos a2]; rw [a2] at h1 ⊢; omega
                          · rw [if_neg a2]; exact h1
                    · obtain ⟨rfl, rfl, F⟩ := hF hr
                      rw [wsucc (by omega)]
                      refine ihj (j + 1) met6 hL6 m6 (by omega) (eK.trans e6) M6 B6 (le3.trans F.e) (fun x hx h1 h2 hxb => ?_) (fun j' hj' hji' hg' => ?_)
                      · cases hh : metB met3 x with
                        | true =>
                          obtain ⟨q1, q2⟩ := hp3 x hx hh h2 hxb
                          exact ⟨q1, fun j' hj' hji' hg' => (q2 j' hj' hji' hg').mono F.e⟩
                        | false =>
                          obtain ⟨q1, q2⟩ := F.g x hx h1 hh
                          exact ⟨q1, fun j' hj' _ hg' => q2 j' hj' hg'⟩
                      · by_cases hjj : j' = j
                        · rw [hjj]; exact F.f
                        · exact (hd3 j' (by omega) hji' hg').mono F.e
                  · have hji : j = i := by omega
                    exact hk76 _ _ (bool_split (fun h => by cases h) (fun _ => next fun h => absurd hji h))
                · refine bool_split (fun h => by cases h) (fun _ => hk76 _ _ (bool_split (fun h => by cases h) (fun _ => next fun _ h => absurd h hnm)))
            refine loop1 L 0 met2 hJ m2 (by omega) eJ M2 B2 (MetLe.refl _) (fun x hx h1 h2 hxb => ?_) (fun j' hj' => by omega)
            have hx1 : metB met1 x = true := by
              rw [← hm2, metB_set_ne t0 (by omega) hxb] at h1; exact h1
            obtain ⟨q1, q2⟩ := hprop x hx hx1 h2
            exact ⟨q1, fun j' hj' hji hg' => (q2 j' hj' hji hg').mono le2⟩
    exact loop0 2 0 met hI m rfl (Ext.refl _) hM hB (MetLe.refl _) (fun q hq => by omega) (fun x _ h1 h2 => by rw [h1] at h2; cases h2)

end Go.Proofs.Ythkbodgpcjcndaa

/- The program's owners and the reference's points: the same question. -/
set_option linter.unusedVariables false
set_option linter.unusedSimpArgs false
namespace Go.Proofs.Ythkbodgpcjcndaa
open Go.HL

theorem twice_len (gs : List (List Int)) : (gs.flatMap twice).length = 2 * gs.length := by
  rw [List.flatMap_def, length_flatten2 _ (by simp [twice]), List.length_map]
theorem twice_tm (gs : List (List Int)) (i q : Nat) : tm (gs.flatMap twice) i q = tm gs (i / 2) q := by
  unfold tm
  have e : i = 2 * (i / 2) + i % 2 := by omega
  have h2 : i % 2 < 2 := by omega
  conv => lhs; rw [e]
  rw [List.flatMap_def, getD_flatten2 _ _ (by simp [twice]) _ _ h2]
  congr 1
  by_cases hi : i / 2 < gs.length
  · have : (gs.map twice).getD (i / 2) [] = twice gs[i / 2] := by simp [List.getD_eq_getElem?_getD, hi]
    rw [this, List.getD_eq_getElem?_getD (l := gs), List.getElem?_eq_getElem hi]
    rcases (by omega : i % 2 = 0 ∨ i % 2 = 1) with h | h <;> rw [h] <;> rfl
  · have e1 : (gs.map twice).getD (i / 2) [] = [] := by rw [List.getD_eq_getElem?_getD, List.getElem?_eq_none (by simp; omega)]; rfl
    have e2 : gs.getD (i / 2) [] = [] := by rw [List.getD_eq_getElem?_getD, List.getElem?_eq_none (by omega)]; rfl
    rw [e1, e2]; rfl

/-- The owners of a meeting's points; -1 for none yet. -/
def pad (r : List Int) : List Int := r ++ List.replicate (2 - r.length) (-1)
theorem pad_len {r : List Int} (h : r.length ≤ 2) : (pad r).length = 2 := by simp [pad]; omega
theorem pad_count (r : List Int) (x : Nat) : (pad r).count (x : Int) = r.count (x : Int) := by
  rw [pad, List.count_append, List.count_replicate, if_neg (by simp), Nat.add_zero]
theorem pad_map_count (x : Nat) : ∀ rows : List (List Int), ((rows.map pad).flatten).count (x : Int) = cnt rows (x : Int)
  | [] => rfl
  | r :: rows => by
    have := pad_map_count x rows
    unfold cnt at *
    rw [List.map_cons, List.flatten_cons, List.flatten_cons, List.count_append, List.count_append, this, pad_count]
theorem pad_get {rows : List (List Int)} {j : Nat} (hj : j < rows.length) : (rows.map pad).getD j [] = pad (rows.getD j []) := by simp [List.getD_eq_getElem?_getD, hj]

/-- How far the owners are known: all points before meeting i, and k of its own. -/
structure Sh2 (games : List (List Int)) (n : Nat) (cap : List Int) (rows : List (List Int)) (room : List Int) (i k : Nat) : Prop where
  sl : rows.length = games.length
  rl : room.length = n
  len : ∀ j, j < games.length → (rows.getD j []).length = if j < i then 2 else if j = i then k else 0
  own : OwnOk games rows
  inv : ∀ x : Nat, x < n → room.getD x 0 + ((cnt rows (x : Int) : Nat) : Int) = cap.getD x 0
  pos : ∀ x : Nat, x < n → 0 ≤ room.getD x 0
theorem Sh2.le2 {games : List (List Int)} {n : Nat} {cap : List Int} {rows : List (List Int)} {room : List Int} {i k : Nat} (s : Sh2 games n cap rows room i k) (hk : k ≤ 2) : ∀ j, (rows.getD j []).length ≤ 2 := by
  intro j
  by_cases hj : j < games.length
  · rw [s.len j hj]; split
    · omega
    · split <;> omega
  · rw [List.getD_eq_getElem?_getD, List.getElem?_eq_none (by rw [s.sl]; omega)]; simp
theorem Sh2.step {games : List (List Int)} {n : Nat} {cap : List Int} {rows rows' : List (List Int)} {room room' : List Int} {met met' : List Bool} {i k : Nat} (s : Sh2 games n cap rows room i k) (t : GT games n rows room met i rows' room' met') : Sh2 games n cap rows' room' i (k + 1) := by
  refine ⟨t.sl.trans s.sl, t.rl.trans s.rl, fun j hj => ?_, t.own, fun x hx => by rw [t.b x hx]; exact s.inv x hx, t.c⟩
  rw [t.len j, s.len j hj]
  by_cases h1 : j < i
  · rw [if_pos h1, if_pos h1, if_neg (by omega)]
  · rw [if_neg h1, if_neg h1]
    by_cases h2 : j = i
    · rw [if_pos h2, if_pos h2, if_pos h2]
    · rw [if_neg h2, if_neg h2, if_neg h2]
theorem Sh2.next {games : List (List Int)} {n : Nat} {cap : List Int} {rows : List (List Int)} {room : List Int} {i : Nat} (s : Sh2 games n cap rows room i 2) : Sh2 games n cap rows room (i + 1) 0 := by
  refine ⟨s.sl, s.rl, fun j hj => ?_, s.own, s.inv, s.pos⟩
  rw [s.len j hj]
  by_cases h1 : j < i
  · rw [if_pos h1, if_pos (by omega)]
  · by_cases h2 : j = i
    · rw [if_neg h1, if_pos h2, if_pos (by omega)]
    · rw [if_neg h1, if_neg h2, if_neg (by omega)]; split <;> rfl
theorem Sh2.all {games : List (List Int)} {n : Nat} {cap : List Int} {rows : List (List Int)} {room : List Int} (s : Sh2 games n cap rows room games.length 0) : Feasible (games.flatMap twice) n cap := by
  have h2 : ∀ r ∈ rows, r.length = 2 := by
    intro r hr
    obtain ⟨j, hj, e⟩ := List.getElem_of_mem hr
    have := s.len j (by rw [← s.sl]; exact hj)
    rw [if_pos (by rw [← s.sl]; exact hj), List.getD_eq_getElem?_getD, List.getElem?_eq_getElem hj] at this
    rw [← e]; exact this
  refine ⟨rows.flatten, by rw [length_flatten2 _ h2, twice_len, s.sl], fun j hj => ?_, fun x hx => by have := s.inv x hx; have := s.pos x hx; unfold cnt at *; omega⟩
  rw [twice_len] at hj
  rw [twice_tm, twice_tm]
  have e : j = 2 * (j / 2) + j % 2 := by omega
  have hl : (rows.getD (j / 2) []).length = 2 := by rw [s.len _ (by omega), if_pos (by omega)]
  conv => lhs; lhs; rw [e]
  conv => rhs; lhs; rw [e]
  rw [getD_flatten2 _ _ h2 _ _ (by omega)]
  refine s.own (j / 2) _ ?_
  exact getD_mem (by omega)
/-- The program is stuck only where the points cannot be shared out. -/
theorem Sh2.cannot {games : List (List Int)} {n : Nat} {cap : List Int} {rows : List (List Int)} {room : List Int} {met met' : List Bool} {i k : Nat} (s : Sh2 games n cap rows room i k) (hk : k < 2) (hi : i < games.length) (hm : ∀ b, metB met b = false) (F : GF games n rows room met i met')
    (htm : ∀ i, i < games.length → (games.getD i []).length = 2 ∧ ∀ k, k < 2 → 0 ≤ tm games i k ∧ tm games i k < n) : ¬ Feasible (games.flatMap twice) n cap := by
  have hle := s.le2 (Nat.le_of_lt hk)
  have hle' : ∀ r ∈ rows.map pad, r.length = 2 := by
    intro r hr
    obtain ⟨q, hq, rfl⟩ := List.mem_map.1 hr
    obtain ⟨j, hj, e⟩ := List.getElem_of_mem hq
    have := hle j
    rw [List.getD_eq_getElem?_getD, List.getElem?_eq_getElem hj] at this
    exact pad_len (by rw [← e]; exact this)
  have hrl : (rows.getD i []).length = k := by rw [s.len i hi, if_neg (by omega), if_pos rfl]
  have hgl : ((rows.map pad).flatten).length = 2 * games.length := by rw [length_flatten2 _ hle', List.length_map, s.sl]
  refine stuck (by rw [twice_len]) hgl (i := 2 * i + k) (by omega) ?_ ?_ (room := room) (met := met') ?_ (fun x hx => by rw [pad_map_count]; exact s.inv x hx) ?_
  · rw [getD_flatten2 _ _ hle' _ _ hk, pad_get (by rw [s.sl]; exact hi), pad, List.getD_eq_getElem?_getD, List.getElem?_append_right (by omega), hrl, Nat.sub_self, List.getElem?_replicate, if_pos (by omega)]; rfl
  · have : (2 * i + k) / 2 = i := by omega
    exact ⟨by rw [twice_tm, this]; exact F.f.1, by rw [twice_tm, this]; exact F.f.2⟩
  · intro x hx hx2
    obtain ⟨h1, h2⟩ := F.g x hx hx2 (hm _)
    refine ⟨h1, fun j hj hgj => ?_⟩
    rw [hgl] at hj
    have e : j = 2 * (j / 2) + j % 2 := by omega
    have hjl : j / 2 < rows.length := by rw [s.sl]; omega
    rw [e, getD_flatten2 _ _ hle' _ _ (by omega), pad_get hjl] at hgj
    have hmem : (x : Int) ∈ rows.getD (j / 2) [] := by
      rw [pad, List.getD_eq_getElem?_getD] at hgj
      rcases Nat.lt_or_ge (j % 2) (rows.getD (j / 2) []).length with hlt | hge
      · rw [List.getElem?_append_left hlt, List.getElem?_eq_getElem hlt] at hgj
        have : (rows.getD (j / 2) [])[j % 2] = (x : Int) := hgj
        rw [← this]; exact List.getElem_mem _
      · rw [List.getElem?_append_right hge, List.getElem?_replicate] at hgj
        split at hgj
        · have : (-1 : Int) = (x : Int) := hgj
          omega
        · have : (-1 : Int) = (x : Int) := hgj
          omega
    have := h2 (j / 2) hjl hmem
    exact ⟨by rw [twice_tm]; exact this.1, by rw [twice_tm]; exact this.2⟩
  · intro j hj
    have hj2 : j / 2 < games.length := by omega
    obtain ⟨h1, h2⟩ := htm (j / 2) hj2
    refine ⟨?_, fun q hq => by rw [twice_tm]; exact h2 q hq⟩
    have e : j = 2 * (j / 2) + j % 2 := by omega
    rw [e, List.flatMap_def, getD_flatten2 _ _ (by simp [twice]) _ _ (by omega)]
    have : (games.map twice).getD (j / 2) [] = twice games[j / 2] := by simp [List.getD_eq_getElem?_getD, hj2]
    rw [this]
    rw [List.getD_eq_getElem?_getD, List.getElem?_eq_getElem hj2] at h1
    rcases (by omega : j % 2 = 0 ∨ j % 2 = 1) with h | h <;> rw [h] <;> exact h1

/-! ### Points are few -/
def InB (B : Int) (t : List Int) : Prop := ∀ x, 0 ≤ t.getD x 0 ∧ t.getD x 0 ≤ B
theorem InB.set {B C : Int} {t : List Int} (h : InB B t) (hBC : B ≤ C) {i : Nat} {v : Int} (h0 : 0 ≤ v) (h1 : v ≤ C) : InB C (t.set i v) := by
  intro x
  by_cases hx : i = x
  · subst hx
    by_cases hi : i < t.length
    · rw [lget_set_self hi]; exact ⟨h0, h1⟩
    · rw [List.getD_eq_getElem?_getD, List.getElem?_eq_none (by simp; omega)]
      exact ⟨Int.le_refl _, by show 0 ≤ C; omega⟩
  · rw [lget_set_ne _ hx]; have := h x; omega
theorem InB.adds {g : Int → Int → Int} : ∀ (evl : List Ev) (B : Int) (t : List Int), (∀ ev ∈ evl, 0 ≤ g ev.b ev.own ∧ g ev.b ev.own ≤ 1000000) → InB B t → B + 1000000 * evl.length ≤ 9223372036854775807 → InB (B + 1000000 * evl.length) (evl.foldl (addAt g) t)
  | [], B, t, _, h, _ => by simpa using h
  | ev :: evl, B, t, hg, h, hb => by
    have h1 := hg ev (by simp)
    have h2 := h ev.a.toNat
    rw [List.length_cons] at hb ⊢
    have ih := InB.adds evl (B + 1000000) (addAt g t ev) (fun e he => hg e (by simp [he])) ?_ (by omega)
    · have e : B + 1000000 + 1000000 * (evl.length : Int) = B + 1000000 * ((evl.length + 1 : Nat) : Int) := by omega
      rw [e] at ih; exact ih
    · refine h.set (by omega) ?_ ?_ <;> rw [w64 (by omega) (by omega)] <;> omega
theorem InB.wins {a : Int} : ∀ (ps : List (List Int)) (B : Int) (t : List Int), InB B t → B + 2 * ps.length ≤ 9223372036854775807 → InB (B + 2 * ps.length) (ps.foldl (winPts a) t)
  | [], B, t, h, _ => by simpa using h
  | p :: ps, B, t, h, hb => by
    rw [List.length_cons] at hb ⊢
    have ih := InB.wins (a := a) ps (B + 2) (winPts a t p) ?_ (by omega)
    · have e : B + 2 + 2 * (ps.length : Int) = B + 2 * ((ps.length + 1 : Nat) : Int) := by omega
      rw [e] at ih; exact ih
    · have h2 := h a.toNat
      unfold winPts
      split
      · refine h.set (by omega) ?_ ?_ <;> rw [w64 (by omega) (by omega)] <;> omega
      · intro x; have := h x; omega
theorem evRow_len (i : Int) : ∀ (ps : List (List Int)) (xs : List Int), (evRow i ps xs).length ≤ 2 * ps.length
  | [], xs => by simp [evRow]
  | p :: ps, [] => by simp [evRow]
  | p :: ps, x :: xs => by have := evRow_len i ps xs; rw [evRow]; simp only [List.length_cons]; omega
theorem evs_len (n : Int) : ∀ (i : Nat) (rs xss : List (List Int)), (evs n i rs xss).length ≤ 2 * n.toNat * rs.length
  | i, [], xss => by simp [evs]
  | i, r :: rs, [] => by simp [evs]
  | i, r :: rs, xs :: xss => by
    have h1 := evs_len n (i + 1) rs xss
    have h2 := evRow_len i (pairsOf n r) xs
    have h3 := pairsFrom_len r n.toNat 0
    rw [evs, List.length_append, List.length_cons, Nat.mul_add, Nat.mul_one]
    unfold pairsOf at *
    omega
theorem allPairs_len (n : Int) : ∀ (rs : List (List Int)), (allPairs n rs).length ≤ n.toNat * rs.length
  | [] => by simp [allPairs]
  | r :: rs => by
    have h1 := allPairs_len n rs
    have h3 := pairsFrom_len r n.toNat 0
    rw [allPairs_cons, List.length_append, List.length_cons, Nat.mul_add, Nat.mul_one]
    unfold pairsOf at *
    omega
theorem InB.zero (n : Nat) : InB 0 (List.replicate n 0) := by
  intro x
  rw [List.getD_eq_getElem?_getD, List.getElem?_replicate]
  split <;> simp
theorem summed_InB {n : Int} {rs xss : List (List Int)} (hs : scheduleOk n rs = true) : InB 1120000000 (summedM (fun _ own => own) n rs xss) := by
  obtain ⟨k1, k2, k3, k4⟩ := scheduleOk_facts hs
  have h1 := evs_len n 0 rs xss
  have h2 : 2 * n.toNat * rs.length ≤ 28 * 40 := Nat.mul_le_mul (by omega) k3
  have := InB.adds (g := fun _ own => own) (evs n 0 rs xss) 0 _ (fun ev hev => by have := evs_ok (by omega) 0 rs xss k4 ev hev; unfold EvOk at this; omega) (InB.zero n.toNat) (by omega)
  intro x
  have := this x
  unfold summedM
  omega
theorem endPts_InB {n a : Int} {rs xss : List (List Int)} (hs : scheduleOk n rs = true) : InB 1120001120 (endPts n a rs xss) := by
  obtain ⟨k1, k2, k3, k4⟩ := scheduleOk_facts hs
  have h1 := allPairs_len n (rs.drop xss.length)
  have h2 : n.toNat * (rs.drop xss.length).length ≤ 14 * 40 := Nat.mul_le_mul (by omega) (by rw [List.length_drop]; omega)
  have := InB.wins (a := a) (allPairs n (rs.drop xss.length)) _ _ (summed_InB (xss := xss) hs) (by omega)
  intro x
  have := this x
  unfold endPts
  omega
theorem roomAt_eq {B a : Int} {pts : List Int} (h : InB B pts) (hB : B ≤ 9223372036854775807) (y : Nat) : roomAt a pts y = pts.getD a.toNat 0 - pts.getD y 0 := by
  have := h a.toNat; have := h y
  unfold roomAt; exact w64 (by omega) (by omega)

end Go.Proofs.Ythkbodgpcjcndaa

/- Second and third numbers, as both tell them. -/
set_option linter.unusedVariables false
set_option linter.unusedSimpArgs false
namespace Go.Proofs.Ythkbodgpcjcndaa
open Go.HL

def ptsOf (n : Int) (rs xss : List (List Int)) : List Int := summedM (fun _ own => own) n rs xss
def gOf (third : Bool) (pts : List Int) (b own : Int) : Int := if third then IntKind.wrap .i64 (own * pts.getD b.toNat 0) else pts.getD b.toNat 0
def numsOf (third : Bool) (n : Int) (rs xss : List (List Int)) : List Int := summedM (gOf third (ptsOf n rs xss)) n rs xss

theorem I.Schedule.second.spec {n : Int} {A B : Option Addr} {rs xss : List (List Int)} {l c m d : Nat} {h : Heap} (s : Rds h A rs) (hl : rs.length = l) (x : Tab h B xss) (hm : xss.length = m)
    (hsok : scheduleOk n rs = true) (hok : resultsOk n rs xss = true) :
    ACalls Try.prog I.Schedule.second.id [.agg #[.int .i64 n, .slice A l c], .slice B m d] h fun u h2 => Ext h h2 ∧ ∃ bo, h.fresh bo ∧ u = .slice (some ⟨bo, 0, none⟩) n.toNat n.toNat ∧ h2.own bo = some (.cells (LM (numsOf false n rs xss))) := by
  obtain ⟨k1, k2, k3, k4⟩ := scheduleOk_facts hsok
  refine I.Schedule.second.step _ _ _ _ _ _ _ _ h fun b hf => ⟨n, A, l, c, by simp [Heap.getN], ?_⟩
  have e := Ext.upd hf (.cells [.int .i64 n, .slice A l c])
  have hg : (h.upd b (.cells [.int .i64 n, .slice A l c])).getN b 0 2 = some [.int .i64 n, .slice A l c] := by simp [Heap.getN]
  generalize h.upd b (.cells [.int .i64 n, .slice A l c]) = h1 at *
  refine (I.Schedule.points.spec (s.mono e) hl (x.mono e) hm hsok hok).mono ?_
  rintro u h2 ⟨e2, bo, f2, rfl, ho⟩
  refine ⟨_, _, _, rfl, fun b11 hf11 => ⟨[.slice none 0 0], Heap.upd_own_self _ _ _, by simp, by simp [Value.oneCell'], ?_⟩⟩
  rw [upd_upd]
  have ev : splice [Value.slice none 0 0] 0 [.slice (some ⟨bo, 0, none⟩) n.toNat n.toNat] = [.slice (some ⟨bo, 0, none⟩) n.toNat n.toNat] := by simp [splice]
  rw [ev]
  have e3 := Ext.upd hf11 (.cells [.slice (some ⟨bo, 0, none⟩) n.toNat n.toNat])
  have hc : (h2.upd b11 (.cells [.slice (some ⟨bo, 0, none⟩) n.toNat n.toNat])).get b11 0 = some (.slice (some ⟨bo, 0, none⟩) n.toNat n.toNat) := by simp
  have hp := (own_ints ho).mono e3
  have hpl := summed_len (fun _ own => own) n rs xss (by omega)
  generalize h2.upd b11 (.cells [.slice (some ⟨bo, 0, none⟩) n.toNat n.toNat]) = h3 at *
  have e123 := (e.trans e2).trans e3
  refine ⟨n, A, l, c, (e2.trans e3).getN hg, (I.Schedule.summed.spec (g := gOf false (ptsOf n rs xss)) (s.mono e123) hl (x.mono e123) hm hsok hok (fun h4 e4 y own hy0 hy1 => ?_)).mono ?_⟩
  · refine I.Schedule.second.c1.step _ _ _ _ _ _ ⟨_, _, _, e4.get hc, hp.rd e4 (by omega) hy0 (by omega) ⟨Ext.refl _, rfl⟩⟩
  · rintro u h4 ⟨e4, bq, f4, rfl, hq⟩
    exact ⟨_, _, _, rfl, e123.trans e4, bq, e123.fresh f4, rfl, hq⟩

theorem I.Schedule.third.spec {n : Int} {A B : Option Addr} {rs xss : List (List Int)} {l c m d : Nat} {h : Heap} (s : Rds h A rs) (hl : rs.length = l) (x : Tab h B xss) (hm : xss.length = m)
    (hsok : scheduleOk n rs = true) (hok : resultsOk n rs xss = true) :
    ACalls Try.prog I.Schedule.third.id [.agg #[.int .i64 n, .slice A l c], .slice B m d] h fun u h2 => Ext h h2 ∧ ∃ bo, h.fresh bo ∧ u = .slice (some ⟨bo, 0, none⟩) n.toNat n.toNat ∧ h2.own bo = some (.cells (LM (numsOf true n rs xss))) := by
  obtain ⟨k1, k2, k3, k4⟩ := scheduleOk_facts hsok
  refine I.Schedule.third.step _ _ _ _ _ _ _ _ h fun b hf => ⟨n, A, l, c, by simp [Heap.getN], ?_⟩
  have e := Ext.upd hf (.cells [.int .i64 n, .slice A l c])
  have hg : (h.upd b (.cells [.int .i64 n, .slice A l c])).getN b 0 2 = some [.int .i64 n, .slice A l c] := by simp [Heap.getN]
  generalize h.upd b (.cells [.int .i64 n, .slice A l c]) = h1 at *
  refine (I.Schedule.points.spec (s.mono e) hl (x.mono e) hm hsok hok).mono ?_
  rintro u h2 ⟨e2, bo, f2, rfl, ho⟩
  refine ⟨_, _, _, rfl, fun b11 hf11 => ⟨[.slice none 0 0], Heap.upd_own_self _ _ _, by simp, by simp [Value.oneCell'], ?_⟩⟩
  rw [upd_upd]
  have ev : splice [Value.slice none 0 0] 0 [.slice (some ⟨bo, 0, none⟩) n.toNat n.toNat] = [.slice (some ⟨bo, 0, none⟩) n.toNat n.toNat] := by simp [splice]
  rw [ev]
  have e3 := Ext.upd hf11 (.cells [.slice (some ⟨bo, 0, none⟩) n.toNat n.toNat])
  have hc : (h2.upd b11 (.cells [.slice (some ⟨bo, 0, none⟩) n.toNat n.toNat])).get b11 0 = some (.slice (some ⟨bo, 0, none⟩) n.toNat n.toNat) := by simp
  have hp := (own_ints ho).mono e3
  have hpl := summed_len (fun _ own => own) n rs xss (by omega)
  generalize h2.upd b11 (.cells [.slice (some ⟨bo, 0, none⟩) n.toNat n.toNat]) = h3 at *
  have e123 := (e.trans e2).trans e3
  refine ⟨n, A, l, c, (e2.trans e3).getN hg, (I.Schedule.summed.spec (g := gOf true (ptsOf n rs xss)) (s.mono e123) hl (x.mono e123) hm hsok hok (fun h4 e4 y own hy0 hy1 => ?_)).mono ?_⟩
  · refine I.Schedule.third.c1.step _ _ _ _ _ _ ⟨_, _, _, e4.get hc, hp.rd e4 (by omega) hy0 (by omega) ⟨Ext.refl _, rfl⟩⟩
  · rintro u h4 ⟨e4, bq, f4, rfl, hq⟩
    exact ⟨_, _, _, rfl, e123.trans e4, bq, e123.fresh f4, rfl, hq⟩

theorem gOf_mul {n : Int} {rs xss : List (List Int)} (hs : scheduleOk n rs = true) (third : Bool) (b own : Int) :
    IntKind.wrap .i64 ((if third then own else 1) * (ptsOf n rs xss).getD b.toNat 0) = gOf third (ptsOf n rs xss) b own := by
  have := summed_InB (xss := xss) hs b.toNat
  unfold gOf
  cases third with
  | true => rfl
  | false =>
    simp only [Bool.false_eq_true, if_false]
    unfold ptsOf
    rw [Int.one_mul, w64 (by omega) (by omega)]

theorem S.l10Sums.spec {n : Int} {A B : Option Addr} {rs xss : List (List Int)} {l c m d : Nat} {third : Bool} {h : Heap} (s : Rds h A rs) (hl : rs.length = l) (x : Tab h B xss) (hm : xss.length = m)
    (hsok : scheduleOk n rs = true) (hok : resultsOk n rs xss = true) :
    ACalls Try.prog S.l10Sums.id [.agg #[.int .i64 n, .slice A l c], .slice B m d, .bool third] h fun u h2 => Ext h h2 ∧ ∃ bo, h.fresh bo ∧ u = .slice (some ⟨bo, 0, none⟩) n.toNat n.toNat ∧ h2.own bo = some (.cells (LM (numsOf third n rs xss))) := by
  obtain ⟨k1, k2, k3, k4⟩ := scheduleOk_facts hsok
  have h0 : 0 ≤ n := by omega
  have hq : xss.take m = xss := by rw [List.take_of_length_le (by omega)]
  refine S.l10Sums.step _ _ _ _ _ _ _ _ _ h fun b hf => ⟨n, A, l, c, by simp [Heap.getN], n, by simp, rfl, by omega, by omega, by omega, ?_⟩
  have e0 := Ext.upd hf (.cells [.int .i64 n, .slice A l c])
  have hn0 : (h.upd b (.cells [.int .i64 n, .slice A l c])).get b (0 + 0) = some (.int .i64 n) := by simp
  have hs0 : (h.upd b (.cells [.int .i64 n, .slice A l c])).get b (0 + 1) = some (.slice A l c) := by simp
  generalize h.upd b (.cells [.int .i64 n, .slice A l c]) = h1 at *
  refine (S.l10Points.spec (q := m) (s.mono e0) hl (x.mono e0) hm (Nat.le_refl _) hsok (by rw [hq]; exact hok)).mono ?_
  rintro u hI1 ⟨e1, bp, f1, rfl, hpo⟩
  rw [hq] at hpo
  have hp : Ints hI1 (some ⟨bp, 0, none⟩) (ptsOf n rs xss) := own_ints hpo
  have hpl : ((ptsOf n rs xss).length : Int) = n := summed_len _ n rs xss h0
  have e := e0.trans e1
  have hn := e1.get hn0
  have hs := e1.get hs0
  refine ⟨_, _, _, rfl, hn, rfl, by omega, by omega, by omega, fun bo hfo => ?_⟩
  have hfo' := e.fresh hfo
  have hinv1 : (mutInts bo n).Inv (List.replicate n.toNat 0) hI1 (hI1.upd bo (.cells (List.replicate n.toNat (.int .i64 0)))) := ⟨by simp; omega, hfo, by simp [LM]⟩
  generalize hI1.upd bo (.cells (List.replicate n.toNat (.int .i64 0))) = h2' at *
  have hml : xss.length ≤ rs.length := by
    simp only [resultsOk, Bool.and_eq_true, decide_eq_true_eq] at hok; exact hok.1
  have hrows : rowsOk n rs xss = true := by simp only [resultsOk, Bool.and_eq_true] at hok; exact hok.2
  have inner : ∀ (i : Nat) (hi : i < m) (ps : List (List Int)) (P : Option Addr) (cP : Nat) (K : Value → Heap → Prop) (hps : ∀ p ∈ ps, p.length = 2 ∧ 0 ≤ p.getD 0 0 ∧ p.getD 0 0 < p.getD 1 0 ∧ p.getD 1 0 < n) (hlen : ps.length = (xss.getD i []).length) (hbig : ps.length ≤ 14) (k j : Nat) (t : List Int) (hJ h2 : Heap),
      j + k = ps.length → Ext hI1 hJ → (mutInts bo n).Inv t hJ h2 → Tab hJ P ps →
      (∀ hK h3, Ext hI1 hK → (mutInts bo n).Inv ((evRow i (ps.drop j) ((xss.getD i []).drop j)).foldl (addAt (gOf third (ptsOf n rs xss))) t) hK h3 → S.l10Sums.L0 K (.slice B m d) (.bool third) (.pointer (some ⟨b, 0, none⟩)) (.slice (some ⟨bp, 0, none⟩) n.toNat n.toNat) (.slice (some ⟨bo, 0, none⟩) n.toNat n.toNat) (.int .i64 ((i + 1 : Nat) : Int)) h3) →
      S.l10Sums.L1 K (.slice B m d) (.bool third) (.pointer (some ⟨b, 0, none⟩)) (.slice (some ⟨bp, 0, none⟩) n.toNat n.toNat) (.slice (some ⟨bo, 0, none⟩) n.toNat n.toNat) (.int .i64 i) (.slice P ps.length cP) (.int .i64 j) h2 := by
    intro i hi ps P cP K hps hlen hbig k
    induction k with
    | zero =>
      intro j t hJ h2 hj he hv _ hk
      refine S.l10Sums.L1_step K _ _ _ _ _ _ _ _ _ _ _ _ _ _ _ _ _ _ (dec_split (fun hc => by omega) (fun _ => ?_))
      rw [wsucc (by omega)]
      refine hk hJ h2 he ?_
      rw [List.drop_eq_nil_of_le (by omega)]
      exact hv
    | succ k ih =>
      intro j t hJ h2 hj he hv hP hk
      have hj' : j < ps.length := by omega
      have hjx : j < (xss.getD i []).length := by omega
      obtain ⟨p2, p3, p4, p5⟩ := hps _ (List.getElem_mem hj')
      have ev := (mutInts bo n).ext _ _ _ hv
      have e1' : ps.getD (Int.toNat j) [] = ps[j] := by rw [Int.toNat_natCast, List.getD_eq_getElem?_getD, List.getElem?_eq_getElem hj']; rfl
      have e2' : (xss.getD i []).getD (Int.toNat j) 0 = (xss.getD i [])[j] := by rw [Int.toNat_natCast, List.getD_eq_getElem?_getD, List.getElem?_eq_getElem hjx]; rfl
      have r2 : Int.toNat (0 : Int) = 0 := rfl
      have r3 : Int.toNat (1 : Int) = 1 := rfl
      refine S.l10Sums.L1_step K _ _ _ _ _ _ _ _ _ _ _ _ _ _ _ _ _ _ (dec_split (fun hc => ?_) (fun hc => by omega))
      refine hP.rd ev rfl (by omega) (by omega) fun D dD hD _ => ?_
      rw [e1'] at hD ⊢
      refine hD.rd ev rfl (by omega) (by omega) (hP.rd ev rfl (by omega) (by omega) fun D2 dD2 hD2 _ => ?_)
      rw [e1'] at hD2 ⊢
      refine hD2.rd ev rfl (by omega) (by omega) fun k51 hk51 => ?_
      -- behind the two factors
      have go : ∀ hJ' h3, Ext hI1 hJ' → (mutInts bo n).Inv t hJ' h3 → Tab hJ' P ps → k51 [.int .i64 (if third then ownOf (xss.getD i [])[j] else 1), .int .i64 (if third then 2 - ownOf (xss.getD i [])[j] else 1)] h3 := by
        intro hJ' h3 he3 hv3 hP3
        have ev3 := (mutInts bo n).ext _ _ _ hv3
        have q1 : 0 ≤ ps[j].getD 1 0 := by omega
        have q2 : ps[j].getD 1 0 < (n.toNat : Int) := by omega
        have q3 : ps[j].getD 0 0 < n := by omega
        have q4 : ps[j].getD 0 0 < (n.toNat : Int) := by omega
        refine hk51 _ _ _ (mutInts_rd hv3 p3 q3 ((hp.mono he3).rd ev3 (by omega) q1 q2 (mutInts_wr hv3 p3 q3 fun h4 hv4 => ?_)))
        have ev4 := (mutInts bo n).ext _ _ _ hv4
        refine mutInts_rd hv4 q1 p5 ((hp.mono he3).rd ev4 (by omega) p3 q4 (mutInts_wr hv4 q1 p5 fun h5 hv5 => ?_))
        rw [wsucc (by omega)]
        refine ih (j + 1) _ hJ' h5 (by omega) he3 hv5 hP3 fun hK h6 eK hv6 => hk hK h6 eK ?_
        rw [List.drop_eq_getElem_cons hj', List.drop_eq_getElem_cons hjx, evRow, List.foldl_cons, List.foldl_cons]
        rw [gOf_mul hsok, gOf_mul hsok] at hv6
        exact hv6
      refine bool_split (fun ht => ?_) (fun ht => ?_)
      · subst ht
        refine (x.mono (e.trans he)).rd ev hm (by omega) (by omega) fun C dC hC _ => ?_
        rw [Int.toNat_natCast i] at hC ⊢
        refine hC.rd ev rfl (by omega) (by omega) ?_
        rw [e2']
        refine ((mutInts bo n).frame _ _ _ hv (S.l10Won.spec (h := hJ))).mono ?_
        rintro u h3 ⟨hJ', hv3, rfl, rfl⟩
        exact ⟨_, _, rfl, go _ _ he hv3 hP⟩
      · subst ht
        exact go _ _ he hv hP
  have loop : ∀ (k i : Nat) (t : List Int) (hJ h2 : Heap) (K : Value → Heap → Prop), i + k = m → Ext hI1 hJ → (mutInts bo n).Inv t hJ h2 → rowsOk n (rs.drop i) (xss.drop i) = true →
      (∀ hK h3, Ext hI1 hK → (mutInts bo n).Inv ((evs n i (rs.drop i) (xss.drop i)).foldl (addAt (gOf third (ptsOf n rs xss))) t) hK h3 → K (.slice (some ⟨bo, 0, none⟩) n.toNat n.toNat) h3) →
      S.l10Sums.L0 K (.slice B m d) (.bool third) (.pointer (some ⟨b, 0, none⟩)) (.slice (some ⟨bp, 0, none⟩) n.toNat n.toNat) (.slice (some ⟨bo, 0, none⟩) n.toNat n.toNat) (.int .i64 i) h2 := by
    intro k
    induction k with
    | zero =>
      intro i t hJ h2 K hi he hv _ hk
      refine S.l10Sums.L0_step K _ _ _ _ _ _ _ _ _ _ _ _ _ _ (dec_split (fun hc => by omega) (fun _ => hk hJ h2 he ?_))
      have e9 : xss.drop i = [] := List.drop_eq_nil_of_le (by omega)
      rw [e9]
      cases hd : rs.drop i <;> exact hv
    | succ k ih =>
      intro i t hJ h2 K hi he hv hro hk
      have hi' : i < xss.length := by omega
      have hir : i < rs.length := by omega
      have ev := (mutInts bo n).ext _ _ _ hv
      refine S.l10Sums.L0_step K _ _ _ _ _ _ _ _ _ _ _ _ _ _ (dec_split (fun hc => ⟨n, ev.get (he.get hn), A, l, c, ev.get (he.get hs), ?_⟩) (fun hc => by omega))
      refine (s.mono (e.trans he)).rd ev hl (by omega) (by omega) fun hr14 => ?_
      refine ((mutInts bo n).frame _ _ _ hv (S.l01Pairs.spec hr14 h0 k2)).mono ?_
      rintro u h3 ⟨hK, hv3, eK, P, cP, rfl, hP⟩
      have e1' : rs.getD (Int.toNat i) [] = rs[i] := by rw [Int.toNat_natCast, List.getD_eq_getElem?_getD, List.getElem?_eq_getElem hir]; rfl
      have e2' : xss.getD i [] = xss[i] := by rw [List.getD_eq_getElem?_getD, List.getElem?_eq_getElem hi']; rfl
      rw [e1'] at hP ⊢
      rw [List.drop_eq_getElem_cons hi', List.drop_eq_getElem_cons hir, evs, ← e2'] at hk
      rw [List.drop_eq_getElem_cons hi', List.drop_eq_getElem_cons hir, rowsOk, Bool.and_eq_true, ← e2'] at hro
      have hlen : (pairsOf n rs[i]).length = (xss.getD i []).length := by
        have := hro.1
        simp only [rowOk, Bool.and_eq_true, decide_eq_true_eq] at this
        exact this.1.symm
      have hbig : (pairsOf n rs[i]).length ≤ 14 := by have := pairsFrom_len rs[i] n.toNat 0; unfold pairsOf; omega
      refine ⟨P, _, cP, rfl, inner i (by omega) _ P cP K (fun p hp => pairsOf_mem (k4 _ (List.getElem_mem hir)) h0 hp) hlen hbig _ 0 t hK h3 (Nat.zero_add _) (he.trans eK) hv3 hP (fun hL h4 eL hv4 => ?_)⟩
      refine ih (i + 1) _ hL h4 K (by omega) eL hv4 hro.2 fun hM h5 eM hv5 => hk hM h5 eM ?_
      rw [List.foldl_append]
      exact hv5
  refine loop m 0 _ hI1 h2' _ (by omega) (Ext.refl _) hinv1 (by simpa using hrows) fun hK h3 eK hv => ?_
  obtain ⟨hl2, fK, rfl⟩ := hv
  exact ⟨(e.trans eK).trans (Ext.upd fK _), bo, hfo', rfl, by simp [numsOf, summedM]⟩

end Go.Proofs.Ythkbodgpcjcndaa

/- Rankings, as both tell them: one insertion sort. -/
set_option linter.unusedVariables false
set_option linter.unusedSimpArgs false
namespace Go.Proofs.Ythkbodgpcjcndaa
open Go.HL

/-- A number is put into a sorted list, given backwards. -/
def insL (lt : Int → Int → Bool) (x : Int) : List Int → List Int
  | [] => [x]
  | y :: ys => if lt x y then y :: insL lt x ys else x :: y :: ys
def revSort (lt : Int → Int → Bool) (xs : List Int) : List Int := xs.foldl (fun rp x => insL lt x rp) []
def sortL (lt : Int → Int → Bool) (xs : List Int) : List Int := (revSort lt xs).reverse
theorem insL_len (lt : Int → Int → Bool) (x : Int) : ∀ ys, (insL lt x ys).length = ys.length + 1
  | [] => rfl
  | y :: ys => by rw [insL]; split <;> simp [insL_len lt x ys]
theorem revSort_snoc (lt : Int → Int → Bool) (xs : List Int) (x : Int) : revSort lt (xs ++ [x]) = insL lt x (revSort lt xs) := by simp [revSort]
theorem revSort_len (lt : Int → Int → Bool) (xs : List Int) : (revSort lt xs).length = xs.length := by
  have : ∀ (xs rp : List Int), (xs.foldl (fun rp x => insL lt x rp) rp).length = rp.length + xs.length := by
    intro xs
    induction xs with
    | nil => intro rp; rfl
    | cons x xs ih => intro rp; rw [List.foldl_cons, ih, insL_len, List.length_cons]; omega
  rw [revSort, this]; simp
theorem sortL_len (lt : Int → Int → Bool) (xs : List Int) : (sortL lt xs).length = xs.length := by rw [sortL, List.length_reverse, revSort_len]
theorem insL_mem (lt : Int → Int → Bool) (x z : Int) : ∀ ys, z ∈ insL lt x ys ↔ z = x ∨ z ∈ ys
  | [] => by simp [insL]
  | y :: ys => by
    rw [insL]; split
    · simp only [List.mem_cons, insL_mem lt x z ys]
      exact ⟨fun h => h.elim (fun h => .inr (.inl h)) (fun h => h.elim .inl fun h => .inr (.inr h)), fun h => h.elim (fun h => .inr (.inl h)) (fun h => h.elim .inl fun h => .inr (.inr h))⟩
    · simp
theorem revSort_mem (lt : Int → Int → Bool) (z : Int) : ∀ xs, z ∈ revSort lt xs ↔ z ∈ xs := by
  have : ∀ (xs rp : List Int), z ∈ xs.foldl (fun rp x => insL lt x rp) rp ↔ z ∈ rp ∨ z ∈ xs := by
    intro xs
    induction xs with
    | nil => intro rp; simp
    | cons x xs ih => intro rp; rw [List.foldl_cons, ih, insL_mem, List.mem_cons]; exact ⟨fun h => h.elim (fun h => h.elim (fun h => .inr (.inl h)) .inl) (fun h => .inr (.inr h)), fun h => h.elim (fun h => .inl (.inr h)) (fun h => h.elim (fun h => .inl (.inl h)) .inr)⟩
  intro xs; rw [revSort, this]; simp
theorem sortL_mem (lt : Int → Int → Bool) (z : Int) (xs : List Int) : z ∈ sortL lt xs ↔ z ∈ xs := by rw [sortL, List.mem_reverse, revSort_mem]

theorem mid_get {p q : List Int} {x d : Int} {j : Nat} (h : j = p.length) : (p ++ x :: q).getD j d = x := by subst h; simp [List.getD_eq_getElem?_getD]
theorem mid_set {p q : List Int} {x y : Int} {j : Nat} (h : j = p.length) : (p ++ x :: q).set j y = p ++ y :: q := by subst h; rw [List.set_append, if_neg (by omega), Nat.sub_self, List.set_cons_zero]

/-- What is asked of a comparison. -/
def Cmps (f : FuncId) (caps : Array Value) (lt : Int → Int → Bool) (hI : Heap) (xs : List Int) : Prop :=
  ∀ hJ, Ext hI hJ → ∀ x ∈ xs, ∀ y ∈ xs, ACalls Try.prog f ([.int .i64 x, .int .i64 y] ++ caps.toList) hJ fun u h2 => Ext hJ h2 ∧ ∃ c : Int, u = .int .i64 c ∧ (c < 0 ↔ lt x y = true)

theorem slices.insertionSortCmpFunc_int64.spec {f : FuncId} {caps : Array Value} {lt : Int → Int → Bool} {hI : Heap} {m : PMap} {b l c : Nat} {xs : List Int} {sp : List Value} (hB : Beside hI m) (hm : m b = some (LM xs ++ sp)) (hl : xs.length = l) (hlb : l ≤ 1000000) (hc : Cmps f caps lt hI xs) :
    ACalls Try.prog slices.insertionSortCmpFunc_int64.id [.slice (some ⟨b, 0, none⟩) l c, .int .i64 0, .int .i64 l, .func (.func f) #[] caps] (over hI m) fun u h2 => u = undef ∧ ∃ hJ m', Ext hI hJ ∧ h2 = over hJ m' ∧ Beside hJ m' ∧ m' b = some (LM (sortL lt xs) ++ sp) ∧ ∀ y, y ≠ b → m' y = m y := by
  refine slices.insertionSortCmpFunc_int64.step _ _ _ _ _ _ _ _ _ ?_
  rw [w64 (by omega) (by omega)]
  have key : ∀ (q i : Nat) (hJ : Heap) (m1 : PMap), i + q = l → Ext hI hJ → Beside hJ m1 → m1 b = some (LM ((revSort lt (xs.take i)).reverse ++ xs.drop i) ++ sp) → (∀ y, y ≠ b → m1 y = m y) →
      slices.insertionSortCmpFunc_int64.L0 (fun u h2 => u = undef ∧ ∃ hJ m', Ext hI hJ ∧ h2 = over hJ m' ∧ Beside hJ m' ∧ m' b = some (LM (sortL lt xs) ++ sp) ∧ ∀ y, y ≠ b → m' y = m y) (.slice (some ⟨b, 0, none⟩) l c) (.int .i64 0) (.int .i64 l) (.func (.func f) #[] caps) (.int .i64 i) (over hJ m1) := by
    intro q
    induction q with
    | zero =>
      intro i hJ m1 hi eJ hB1 hm1 ho
      refine slices.insertionSortCmpFunc_int64.L0_step _ _ _ _ _ _ _ _ _ _ (dec_split (fun hc => by omega) (fun _ => ⟨rfl, hJ, m1, eJ, rfl, hB1, ?_, ho⟩))
      rw [hm1, List.drop_eq_nil_of_le (by omega), List.append_nil, List.take_of_length_le (by omega)]; rfl
    | succ q ih =>
      intro i hJ m1 hi eJ hB1 hm1 ho
      have hi' : i < xs.length := by omega
      refine slices.insertionSortCmpFunc_int64.L0_step _ _ _ _ _ _ _ _ _ _ (dec_split (fun _ => ?_) (fun hc => by omega))
      -- one number goes to its place
      have inner : ∀ (rp moved : List Int) (hK : Heap) (m2 : PMap), rp.length + moved.length = i → insL lt xs[i] (revSort lt (xs.take i)) = moved.reverse ++ insL lt xs[i] rp → (∀ y ∈ rp, y ∈ xs) → Ext hI hK → Beside hK m2 → m2 b = some (LM (rp.reverse ++ xs[i] :: (moved ++ xs.drop (i + 1))) ++ sp) → (∀ y, y ≠ b → m2 y = m y) →
          slices.insertionSortCmpFunc_int64.L1 (fun u h2 => u = undef ∧ ∃ hJ m', Ext hI hJ ∧ h2 = over hJ m' ∧ Beside hJ m' ∧ m' b = some (LM (sortL lt xs) ++ sp) ∧ ∀ y, y ≠ b → m' y = m y) (.slice (some ⟨b, 0, none⟩) l c) (.int .i64 0) (.int .i64 l) (.func (.func f) #[] caps) (.int .i64 i) (.int .i64 (rp.length : Int)) (over hK m2) := by
        intro rp
        have hlenT : ∀ (rp moved : List Int), rp.length + moved.length = i → (rp.reverse ++ xs[i] :: (moved ++ xs.drop (i + 1))).length = l := fun rp moved h => by simp; omega
        have done : ∀ (rp moved : List Int) (hK : Heap) (m2 : PMap), rp.length + moved.length = i → insL lt xs[i] (revSort lt (xs.take i)) = moved.reverse ++ xs[i] :: rp → Ext hI hK → Beside hK m2 → m2 b = some (LM (rp.reverse ++ xs[i] :: (moved ++ xs.drop (i + 1))) ++ sp) → (∀ y, y ≠ b → m2 y = m y) →
            slices.insertionSortCmpFunc_int64.L0 (fun u h2 => u = undef ∧ ∃ hJ m', Ext hI hJ ∧ h2 = over hJ m' ∧ Beside hJ m' ∧ m' b = some (LM (sortL lt xs) ++ sp) ∧ ∀ y, y ≠ b → m' y = m y) (.slice (some ⟨b, 0, none⟩) l c) (.int .i64 0) (.int .i64 l) (.func (.func f) #[] caps) (.int .i64 (IntKind.wrap .i64 ((i : Int) + 1))) (over hK m2) := by
          intro rp moved hK m2 hlen hins eK hB2 hm2 ho2
          rw [wsucc (by omega)]
          refine ih (i + 1) hK m2 (by omega) eK hB2 ?_ ho2
          rw [hm2, List.take_succ_eq_append_getElem hi', revSort_snoc, hins]
          simp
        induction rp with
        | nil =>
          intro moved hK m2 hlen hins hmem eK hB2 hm2 ho2
          refine slices.insertionSortCmpFunc_int64.L1_step _ _ _ _ _ _ _ _ _ _ _ fun k18 hk18 => dec_split (fun hc => by simp at hc) (fun _ => hk18 _ _ (bool_split (fun h => by cases h) (fun _ => ?_)))
          exact done [] moved hK m2 hlen hins eK hB2 hm2 ho2
        | cons y rp ihr =>
          intro moved hK m2 hlen hins hmem eK hB2 hm2 ho2
          have hlt := hlenT (y :: rp) moved hlen
          simp only [List.length_cons] at hlen
          have hw : IntKind.wrap .i64 (((y :: rp).length : Int) - 1) = (rp.length : Int) := by rw [List.length_cons, w64 (by omega) (by omega)]; omega
          have er : (y :: rp).reverse ++ xs[i] :: (moved ++ xs.drop (i + 1)) = rp.reverse ++ y :: (xs[i] :: (moved ++ xs.drop (i + 1))) := by simp
          have g1 : ((y :: rp).reverse ++ xs[i] :: (moved ++ xs.drop (i + 1))).getD ((y :: rp).length : Int).toNat 0 = xs[i] := mid_get (by simp)
          have g2 : ((y :: rp).reverse ++ xs[i] :: (moved ++ xs.drop (i + 1))).getD (rp.length : Int).toNat 0 = y := by rw [er]; exact mid_get (by simp)
          have b1 : (0 : Int) ≤ ((y :: rp).length : Int) := by omega
          have b2 : ((y :: rp).length : Int) < (l : Int) := by rw [List.length_cons]; omega
          have b3 : (rp.length : Int) < (l : Int) := by omega
          refine slices.insertionSortCmpFunc_int64.L1_step _ _ _ _ _ _ _ _ _ _ _ fun k18 hk18 => dec_split (fun _ => ?_) (fun hc => by simp at hc)
          rw [hw] at hk18 ⊢
          refine over_rd hm2 hlt b1 b2 (over_rd hm2 hlt (by omega) b3 ?_)
          rw [g1, g2]
          refine (over_frame hB2 (hc hK eK xs[i] (List.getElem_mem hi') y (hmem y (by simp)))).mono ?_
          rintro u h5 ⟨hL, hBL, rfl, eL, cv, rfl, hcv⟩
          refine ⟨cv, rfl, hk18 _ _ (dec_split (fun hneg => ?_) (fun hpos => ?_))⟩
          · have hlt' := hcv.1 hneg
            rw [insL, if_pos hlt'] at hins
            refine over_rd hm2 hlt (by omega) b3 (over_rd hm2 hlt b1 b2 (over_wr hm2 (by simpa using hlt) b1 b2 rfl ?_))
            rw [g1, g2]
            have es1 : (LM ((y :: rp).reverse ++ xs[i] :: (moved ++ xs.drop (i + 1)))).set ((y :: rp).length : Int).toNat (.int .i64 y) = LM (rp.reverse ++ y :: (y :: (moved ++ xs.drop (i + 1)))) := by
              rw [LM, LM, ← List.map_set, mid_set (by simp)]; simp
            rw [es1]
            refine over_wr (put_self _ _ _) (by simp; omega) (by omega) b3 rfl ?_
            have es2 : (LM (rp.reverse ++ y :: (y :: (moved ++ xs.drop (i + 1))))).set (rp.length : Int).toNat (.int .i64 xs[i]) = LM (rp.reverse ++ xs[i] :: ((y :: moved) ++ xs.drop (i + 1))) := by
              rw [LM, LM, ← List.map_set, mid_set (by simp)]; simp
            rw [es2]
            refine ihr (y :: moved) hL _ (by simp only [List.length_cons]; omega) ?_ (fun z hz => hmem z (by simp [hz])) (eK.trans eL) ((hBL.put (by rw [hm2]; simp) _).put (by rw [put_self]; simp) _) (put_self _ _ _) (fun z hz => by rw [put_ne _ _ hz, put_ne _ _ hz]; exact ho2 z hz)
            rw [hins]; simp
          · have hno : ¬ lt xs[i] y = true := fun h => hpos (hcv.2 h)
            rw [insL, if_neg hno] at hins
            exact done (y :: rp) moved hL m2 (by simp only [List.length_cons]; omega) hins (eK.trans eL) hBL hm2 ho2
      have hrl : (revSort lt (xs.take i)).length = i := by rw [revSort_len, List.length_take]; omega
      have := inner (revSort lt (xs.take i)) [] hJ m1 (by simp [hrl]) (by simp) (fun y hy => List.mem_of_mem_take ((revSort_mem lt y _).1 hy)) eJ hB1 (by rw [hm1, List.drop_eq_getElem_cons hi']; simp) ho
      rw [hrl] at this
      exact this
  rcases Nat.eq_zero_or_pos l with h0 | hpos
  · -- nothing to sort
    have e0 : xs = [] := List.eq_nil_of_length_eq_zero (by omega)
    subst e0
    refine slices.insertionSortCmpFunc_int64.L0_step _ _ _ _ _ _ _ _ _ _ (dec_split (fun hc => by omega) (fun _ => ⟨rfl, hI, m, Ext.refl _, rfl, hB, hm, fun _ _ => rfl⟩))
  · have := key (l - 1) 1 hI m (by omega) (Ext.refl _) hB ?_ (fun _ _ => rfl)
    · exact this
    · rw [hm]
      obtain ⟨x, xs', rfl⟩ := List.exists_cons_of_length_pos (l := xs) (by omega)
      simp [revSort, insL]

theorem slices.SortStableFunc_Sint64_int64.spec {f : FuncId} {caps : Array Value} {lt : Int → Int → Bool} {hI : Heap} {m : PMap} {b l c : Nat} {xs : List Int} {sp : List Value} (hB : Beside hI m) (hm : m b = some (LM xs ++ sp)) (hl : xs.length = l) (hlb : l ≤ 19) (hc : Cmps f caps lt hI xs) :
    ACalls Try.prog slices.SortStableFunc_Sint64_int64.id [.slice (some ⟨b, 0, none⟩) l c, .func (.func f) #[] caps] (over hI m) fun u h2 => u = undef ∧ ∃ hJ m', Ext hI hJ ∧ h2 = over hJ m' ∧ Beside hJ m' ∧ m' b = some (LM (sortL lt xs) ++ sp) ∧ ∀ y, y ≠ b → m' y = m y := by
  refine slices.SortStableFunc_Sint64_int64.step _ _ _ _ _ _ _ ?_
  refine slices.stableCmpFunc_int64.step _ _ _ _ _ _ _ _ (slices.stableCmpFunc_int64.L0_step _ _ _ _ _ _ _ _ _ _ _ (dec_split (fun hc => by omega) (fun _ => ?_)))
  refine (slices.insertionSortCmpFunc_int64.spec hB hm hl (by omega) hc).mono ?_
  rintro u h2 ⟨rfl, hJ, m', eJ, rfl, hBJ, hmJ, ho⟩
  refine ⟨rfl, slices.stableCmpFunc_int64.L1_step _ _ _ _ _ _ _ _ _ (dec_split (fun hc => by omega) (fun _ => ⟨rfl, rfl, hJ, m', eJ, rfl, hBJ, hmJ, ho⟩))⟩

def cmp3 (x y : Int) : Int := if x < y then -1 else if y < x then 1 else 0
theorem cmp.Compare_int64.spec {x y : Int} {h : Heap} : ACalls Try.prog cmp.Compare_int64.id [.int .i64 x, .int .i64 y] h fun u h2 => h2 = h ∧ u = .int .i64 (cmp3 x y) := by
  refine cmp.Compare_int64.step _ _ _ _ (cmp.isNaN_int64.step _ _ _ ⟨_, rfl, cmp.isNaN_int64.step _ _ _ ⟨_, rfl, ndec_split (fun h => absurd rfl h) (fun _ => ndec_split (fun h => absurd rfl h) (fun _ => ?_))⟩⟩)
  refine dec_split (fun h1 => ⟨rfl, by rw [cmp3, if_pos h1]⟩) (fun h1 => dec_split (fun h2 => ⟨rfl, by rw [cmp3, if_neg h1, if_pos h2]⟩) (fun h2 => ⟨rfl, by rw [cmp3, if_neg h1, if_neg h2]⟩))
def orL : List Int → Int
  | [] => 0
  | x :: xs => if x = 0 then orL xs else x
theorem cmp.Or_int.spec {A : Option Addr} {xs : List Int} {l c : Nat} {h : Heap} (s : Ints h A xs) (hl : xs.length = l) (hb : l ≤ 1048576) : ACalls Try.prog cmp.Or_int.id [.slice A l c] h fun u h2 => h2 = h ∧ u = .int .i64 (orL xs) := by
  refine cmp.Or_int.step _ _ _ _ _ ?_
  have loop : ∀ (k i : Nat), i + k = l → orL (xs.drop i) = orL xs → cmp.Or_int.L0 (fun u h2 => h2 = h ∧ u = .int .i64 (orL xs)) (.int .i64 0) (.slice A l c) (.int .i64 l) (.int .i64 i) h := by
    intro k
    induction k with
    | zero =>
      intro i hi he
      refine cmp.Or_int.L0_step _ _ _ _ _ _ _ _ (dec_split (fun hc => by omega) (fun _ => ⟨rfl, ?_⟩))
      rw [List.drop_eq_nil_of_le (by omega)] at he
      rw [← he]; rfl
    | succ k ih =>
      intro i hi he
      have hi' : i < xs.length := by omega
      have e1 : xs.getD (Int.toNat i) 0 = xs[i] := by simp [List.getD_eq_getElem?_getD, hi']
      rw [List.drop_eq_getElem_cons hi', orL] at he
      refine cmp.Or_int.L0_step _ _ _ _ _ _ _ _ (dec_split (fun hc => s.rd (Ext.refl _) hl (by omega) (by omega) ?_) (fun hc => by omega))
      rw [e1]
      refine ndec_split (fun hne => ⟨rfl, ?_⟩) (fun h0 => ?_)
      · rw [if_neg hne] at he; rw [he]
      · rw [if_pos h0] at he
        rw [wsucc (by omega)]
        exact ih (i + 1) (by omega) he
  exact loop l 0 (by omega) rfl

/-- Is a team ahead of another one? -/
def ahead (pts sec thr : List Int) (a b : Int) : Bool :=
  decide (pts.getD b.toNat 0 < pts.getD a.toNat 0) || (decide (pts.getD a.toNat 0 = pts.getD b.toNat 0) && (decide (sec.getD b.toNat 0 < sec.getD a.toNat 0) || (decide (sec.getD a.toNat 0 = sec.getD b.toNat 0) && decide (thr.getD b.toNat 0 < thr.getD a.toNat 0))))
theorem cmp_ahead (p q r p' q' r' : Int) : orL [cmp3 p' p, cmp3 q' q, cmp3 r' r] < 0 ↔ (decide (p' < p) || (decide (p = p') && (decide (q' < q) || (decide (q = q') && decide (r' < r))))) = true := by
  simp only [orL, cmp3, Bool.or_eq_true, Bool.and_eq_true, decide_eq_true_eq]
  repeat' split
  all_goals (constructor <;> intro h <;> omega)

theorem I.Schedule.ranking.c1.spec {n : Nat} {pts sec thr : List Int} {P S T : Option Addr} {bp bs bt cp cs ct : Nat} {hI : Heap} (hp : Ints hI P pts) (hs : Ints hI S sec) (ht : Ints hI T thr) (lp : pts.length = n) (ls : sec.length = n) (lt : thr.length = n)
    (gp : hI.get bp 0 = some (.slice P n cp)) (gs : hI.get bs 0 = some (.slice S n cs)) (gt : hI.get bt 0 = some (.slice T n ct)) {xs : List Int} (hx : ∀ x ∈ xs, 0 ≤ x ∧ x < n) :
    Cmps I.Schedule.ranking.c1.id #[.pointer (some ⟨bp, 0, none⟩), .pointer (some ⟨bs, 0, none⟩), .pointer (some ⟨bt, 0, none⟩)] (ahead pts sec thr) hI xs := by
  intro hJ eJ a ha b hb
  obtain ⟨a0, a1⟩ := hx a ha
  obtain ⟨b0, b1⟩ := hx b hb
  have Gp := eJ.get gp
  have Gs := eJ.get gs
  have Gt := eJ.get gt
  refine I.Schedule.ranking.c1.step _ _ _ _ _ _ _ _ _ _ ⟨_, _, _, Gp, hp.rd eJ lp b0 b1 ⟨_, _, _, Gp, hp.rd eJ lp a0 a1 ⟨_, _, _, Gs, ?_⟩⟩⟩
  -- the reads that are told again behind the calls
  have rdx : ∀ {X : Option Addr} {ys : List Int}, Ints hI X ys → ys.length = n → ∀ {z : Int}, 0 ≤ z → z < (n : Int) → ∃ w o : Nat, X = some ⟨w, o, none⟩ ∧ (0 ≤ z ∧ z < (n : Int)) ∧ hJ.get w (o + Int.toNat z * 1) = some (.int .i64 (ys.getD z.toNat 0)) := by
    intro X ys hX hl z z0 z1
    obtain ⟨w, o, e1, e2, v, e3, e4⟩ := hX.rd eJ hl z0 z1 (K := fun v => v = ys.getD z.toNat 0) rfl
    exact ⟨w, o, e1, e2, by rw [e3, e4]⟩
  obtain ⟨w1, o1, q1, q2, q3⟩ := rdx hs ls b0 b1
  obtain ⟨w2, o2, r1, r2, r3⟩ := rdx hs ls a0 a1
  obtain ⟨w3, o3, s1, s2, s3⟩ := rdx ht lt b0 b1
  obtain ⟨w4, o4, t1, t2, t3⟩ := rdx ht lt a0 a1
  refine ⟨w1, o1, q1, q2, _, q3, _, _, _, Gs, w2, o2, r1, r2, _, r3, _, _, _, Gt, w3, o3, s1, s2, _, s3, _, _, _, Gt, w4, o4, t1, t2, _, t3, cmp.Compare_int64.spec.mono ?_⟩
  rintro u h2 ⟨rfl, rfl⟩
  refine ⟨_, rfl, Gs, q3, Gs, r3, Gt, s3, Gt, t3, cmp.Compare_int64.spec.mono ?_⟩
  rintro u h2 ⟨rfl, rfl⟩
  refine ⟨_, rfl, Gt, s3, Gt, t3, cmp.Compare_int64.spec.mono ?_⟩
  rintro u h2 ⟨rfl, rfl⟩
  refine ⟨_, rfl, fun b39 hf39 => ?_⟩
  have hor : Ints (h2.upd b39 (.cells [.int .i64 (cmp3 (pts.getD b.toNat 0) (pts.getD a.toNat 0)), .int .i64 (cmp3 (sec.getD b.toNat 0) (sec.getD a.toNat 0)), .int .i64 (cmp3 (thr.getD b.toNat 0) (thr.getD a.toNat 0))])) (some ⟨b39, 0, none⟩) [cmp3 (pts.getD b.toNat 0) (pts.getD a.toNat 0), cmp3 (sec.getD b.toNat 0) (sec.getD a.toNat 0), cmp3 (thr.getD b.toNat 0) (thr.getD a.toNat 0)] := Seg.new' _ _ _
  refine (cmp.Or_int.spec hor rfl (by simp)).mono ?_
  rintro u h3 ⟨rfl, rfl⟩
  exact ⟨_, rfl, Ext.upd hf39 _, _, rfl, cmp_ahead _ _ _ _ _ _⟩

end Go.Proofs.Ythkbodgpcjcndaa

/- The numbers 0 to n - 1; the round in which all are free; rankings. -/
set_option linter.unusedVariables false
set_option linter.unusedSimpArgs false
namespace Go.Proofs.Ythkbodgpcjcndaa
open Go.HL

def seqI (n : Nat) : List Int := (List.range n).map fun (j : Nat) => (j : Int)
theorem seqI_len (n : Nat) : (seqI n).length = n := by simp [seqI]
theorem seqI_succ (n : Nat) : seqI (n + 1) = seqI n ++ [(n : Int)] := by simp [seqI, List.range_succ]
theorem seqI_mem {n : Nat} {x : Int} (h : x ∈ seqI n) : 0 ≤ x ∧ x < n := by
  simp only [seqI, List.mem_map, List.mem_range] at h
  obtain ⟨j, hj, rfl⟩ := h; omega

theorem seqI_nodup (n : Nat) : (seqI n).Nodup := by
  unfold seqI List.Nodup
  rw [List.pairwise_map]
  refine List.Pairwise.imp (R := fun a b => a < b) (fun {a b} h => ?_) List.pairwise_lt_range
  omega

/-- All free. -/
def freeTo (k : Nat) : List Int := (List.range k).map (fun (a : Nat) => (a : Int)) ++ List.replicate (14 - k) 0
theorem freeTo_len {k : Nat} (h : k ≤ 14) : (freeTo k).length = 14 := by simp [freeTo]; omega
theorem freeTo_set {k : Nat} (h : k < 14) : (freeTo k).set k (k : Int) = freeTo (k + 1) := by
  unfold freeTo
  have e : 14 - k = (14 - (k + 1)) + 1 := by omega
  rw [List.set_append, if_neg (by simp), List.length_map, List.length_range, Nat.sub_self, e, List.replicate_succ, List.set_cons_zero, List.range_succ, List.map_append, List.append_assoc]
  rfl
theorem freeTo_get {k i : Nat} (h : i < k) : (freeTo k).getD i 0 = (i : Int) := by
  unfold freeTo
  rw [List.getD_eq_getElem?_getD, List.getElem?_append_left (by simpa using h), List.getElem?_map, List.getElem?_range h]; rfl
theorem freeTo_get0 {k i : Nat} (h : k ≤ i) : (freeTo k).getD i 0 = 0 := by
  unfold freeTo
  rw [List.getD_eq_getElem?_getD, List.getElem?_append_right (by simpa using h), List.getElem?_replicate]
  split <;> rfl

/-- A result's variable and a round beneath: both blocks change. -/
theorem alloc14 {hI : Heap} {m : PMap} (hB : Beside hI m) {K : Nat → Heap → Prop} (k : ∀ b, m b = none → hI.fresh b → Beside hI (m.put b (LM (List.replicate 14 0))) → K b (over hI (m.put b (LM (List.replicate 14 0))))) : SAlloc (over hI m) (List.replicate 14 (.int .i64 0)) K := by
  intro b hf
  rw [over_put]
  exact k b (over_fresh hf).2 (over_fresh hf).1 (hB.new hf _)

/-- A ranking of all teams. -/
structure Ranks (n : Nat) (p : List Int) : Prop where
  len : p.length = n
  rng : ∀ i, i < n → 0 ≤ p.getD i 0 ∧ p.getD i 0 < n
  inj : ∀ i j, i < n → j < n → p.getD i 0 = p.getD j 0 → i = j

end Go.Proofs.Ythkbodgpcjcndaa

/- Rankings, as both tell them, whole. -/
set_option linter.unusedVariables false
set_option linter.unusedSimpArgs false
namespace Go.Proofs.Ythkbodgpcjcndaa
open Go.HL

theorem I.numbersFrom.spec {high : Int} {k : Nat} {h : Heap} (hk : (k : Int) = high + 1) (hb : k ≤ 1048576) :
    ACalls Try.prog I.numbersFrom.id [.int .i64 0, .int .i64 high] h fun u h2 => Ext h h2 ∧ ∃ A c, u = .slice A k c ∧ ResO h h2 A (seqI k) := by
  refine I.numbersFrom.step _ _ _ _ fun b3 hf3 => ?_
  have loop : ∀ (q i : Nat) (A : Option Addr) (l c : Nat) (hI h' : Heap), i + q = k → Ext h hI → Vec hI h' A l c 1 (LM (seqI i)) →
      I.numbersFrom.L0 (fun u h2 => Ext h h2 ∧ ∃ A c, u = .slice A k c ∧ ResO h h2 A (seqI k)) (.int .i64 high) (.slice A l c) (.int .i64 i) h' := by
    intro q
    induction q with
    | zero =>
      intro i A l c hI h' hi he v
      have ei : i = k := by omega
      subst ei
      have hl := v.len
      rw [LM, List.length_map, seqI_len, Nat.mul_one] at hl
      refine I.numbersFrom.L0_step _ _ _ _ _ _ _ (dec_split (fun hc => by omega) (fun _ => ⟨he.trans v.ext, A, c, by rw [hl], Vec.reso v he⟩))
    | succ q ih =>
      intro i A l c hI h' hi he v
      have hl := v.len
      rw [LM, List.length_map, seqI_len, Nat.mul_one] at hl
      refine I.numbersFrom.L0_step _ _ _ _ _ _ _ (dec_split (fun hc => ?_) (fun hc => by omega))
      intro b9 hf9
      obtain ⟨v4, f4⟩ := v.beside hf9 (.cells [.int .i64 (i : Int)])
      have e4 := Ext.upd f4 (.cells [.int .i64 (i : Int)])
      refine v4.append (m := 1) (news := [.int .i64 (i : Int)]) (Seg.row (Seg.new' _ _ _) rfl) rfl (by simp [Value.oneCell']) (by omega) (by omega) rfl fun hK h5 A' c' eK v5 => ⟨_, _, _, rfl, ?_⟩
      rw [wsucc (by omega)]
      refine ih (i + 1) A' (l + 1) c' hK h5 (by omega) (he.trans (e4.trans eK)) ?_
      have : LM (seqI (i + 1)) = LM (seqI i) ++ [.int .i64 (i : Int)] := by rw [seqI_succ]; simp [LM]
      rw [this]; exact v5
  exact loop k 0 _ 0 0 h _ (by omega) (Ext.refl _) (by simpa [seqI] using Vec.made (l := 0) (sz := 1) (cs := []) hf3 rfl)

def rankOf (n : Int) (rs xss : List (List Int)) : List Int := sortL (ahead (ptsOf n rs xss) (numsOf false n rs xss) (numsOf true n rs xss)) (seqI n.toNat)
theorem rankOf_len (n : Int) (rs xss : List (List Int)) : (rankOf n rs xss).length = n.toNat := by rw [rankOf, sortL_len, seqI_len]

theorem I.Schedule.ranking.spec {n : Int} {A B : Option Addr} {rs xss : List (List Int)} {l c m d : Nat} {h : Heap} (s : Rds h A rs) (hl : rs.length = l) (x : Tab h B xss) (hm : xss.length = m)
    (hsok : scheduleOk n rs = true) (hok : resultsOk n rs xss = true) :
    ACalls Try.prog I.Schedule.ranking.id [.agg #[.int .i64 n, .slice A l c], .slice B m d] h fun u h2 => Ext h h2 ∧ ∃ R cR, u = .slice R n.toNat cR ∧ Ints h2 R (rankOf n rs xss) := by
  obtain ⟨k1, k2, k3, k4⟩ := scheduleOk_facts hsok
  have h0 : 0 ≤ n := by omega
  refine I.Schedule.ranking.step _ _ _ _ _ _ _ _ h fun b4 hf4 => ?_
  have e4 := Ext.upd hf4 (.cells [.int .i64 n, .slice A l c])
  have hg4 : (h.upd b4 (.cells [.int .i64 n, .slice A l c])).getN b4 0 2 = some [.int .i64 n, .slice A l c] := by simp [Heap.getN]
  have hn4 : (h.upd b4 (.cells [.int .i64 n, .slice A l c])).get b4 0 = some (.int .i64 n) := by simp
  generalize h.upd b4 (.cells [.int .i64 n, .slice A l c]) = h1 at *
  refine ⟨n, A, l, c, hg4, n, A, l, c, hg4, n, A, l, c, hg4, (I.Schedule.points.spec (s.mono e4) hl (x.mono e4) hm hsok hok).mono ?_⟩
  rintro u h2 ⟨e2, bp, _, rfl, hp⟩
  refine ⟨_, _, _, rfl, e2.getN hg4, e2.getN hg4, (I.Schedule.second.spec (s.mono (e4.trans e2)) hl (x.mono (e4.trans e2)) hm hsok hok).mono ?_⟩
  rintro u h3 ⟨e3, bs, _, rfl, hs⟩
  have e13 := e2.trans e3
  refine ⟨_, _, _, rfl, e13.getN hg4, (I.Schedule.third.spec (s.mono (e4.trans e13)) hl (x.mono (e4.trans e13)) hm hsok hok).mono ?_⟩
  rintro u h5 ⟨e5, bt, _, rfl, ht⟩
  have e15 := e13.trans e5
  refine ⟨_, _, _, rfl, ?_⟩
  have ip := (own_ints hp).mono (e3.trans e5)
  have is := (own_ints hs).mono e5
  have it := own_ints ht
  have eall := e4.trans e15
  have gn := e15.get hn4
  -- the three variables
  intro v1 hv1 v2 hv2 v3 hv3
  have n21 := fresh_ne hv2
  have n32 := fresh_ne hv3
  have n31 := fresh_ne (fresh_of_upd hv3)
  refine ⟨[.slice none 0 0], by simp [n21.symm, n31.symm], by simp, by simp [Value.oneCell'], [.slice none 0 0], by simp [n32.symm, n21, n32], by simp, by simp [Value.oneCell'], [.slice none 0 0], by simp [n31, n32], by simp, by simp [Value.oneCell'], ?_⟩
  have es : ∀ y : Value, splice [Value.slice none 0 0] 0 [y] = [y] := fun y => by simp [splice]
  rw [es, es, es]
  have f1 := hv1
  have f2 : (h5.upd v1 (.cells [.slice (some ⟨bp, 0, none⟩) n.toNat n.toNat])).fresh v2 := fresh_upd (fresh_of_upd hv2) n21.symm _
  have f3 : ((h5.upd v1 (.cells [.slice (some ⟨bp, 0, none⟩) n.toNat n.toNat])).upd v2 (.cells [.slice (some ⟨bs, 0, none⟩) n.toNat n.toNat])).fresh v3 := fresh_upd (fresh_upd (fresh_of_upd (fresh_of_upd hv3)) n31.symm _) n32.symm _
  have eh : ((((((h5.upd v1 (.cells [.slice none 0 0])).upd v2 (.cells [.slice none 0 0])).upd v3 (.cells [.slice none 0 0])).upd v1 (.cells [.slice (some ⟨bp, 0, none⟩) n.toNat n.toNat])).upd v2 (.cells [.slice (some ⟨bs, 0, none⟩) n.toNat n.toNat])).upd v3 (.cells [.slice (some ⟨bt, 0, none⟩) n.toNat n.toNat])) =
      ((h5.upd v1 (.cells [.slice (some ⟨bp, 0, none⟩) n.toNat n.toNat])).upd v2 (.cells [.slice (some ⟨bs, 0, none⟩) n.toNat n.toNat])).upd v3 (.cells [.slice (some ⟨bt, 0, none⟩) n.toNat n.toNat]) := by
    unfold Heap.upd
    congr 1; funext y
    by_cases y3 : y = v3
    · simp [y3]
    · by_cases y2 : y = v2
      · subst y2; simp [y3]
      · by_cases y1 : y = v1
        · subst y1; simp [y3, y2]
        · simp [y1, y2, y3]
  rw [eh]
  have ev := ((Ext.upd f1 (.cells [.slice (some ⟨bp, 0, none⟩) n.toNat n.toNat])).trans (Ext.upd f2 (.cells [.slice (some ⟨bs, 0, none⟩) n.toNat n.toNat]))).trans (Ext.upd f3 (.cells [.slice (some ⟨bt, 0, none⟩) n.toNat n.toNat]))
  have G1 : (((h5.upd v1 (.cells [.slice (some ⟨bp, 0, none⟩) n.toNat n.toNat])).upd v2 (.cells [.slice (some ⟨bs, 0, none⟩) n.toNat n.toNat])).upd v3 (.cells [.slice (some ⟨bt, 0, none⟩) n.toNat n.toNat])).get v1 0 = some (.slice (some ⟨bp, 0, none⟩) n.toNat n.toNat) := by simp [n21.symm, n31.symm]
  have G2 : (((h5.upd v1 (.cells [.slice (some ⟨bp, 0, none⟩) n.toNat n.toNat])).upd v2 (.cells [.slice (some ⟨bs, 0, none⟩) n.toNat n.toNat])).upd v3 (.cells [.slice (some ⟨bt, 0, none⟩) n.toNat n.toNat])).get v2 0 = some (.slice (some ⟨bs, 0, none⟩) n.toNat n.toNat) := by simp [n32.symm]
  have G3 : (((h5.upd v1 (.cells [.slice (some ⟨bp, 0, none⟩) n.toNat n.toNat])).upd v2 (.cells [.slice (some ⟨bs, 0, none⟩) n.toNat n.toNat])).upd v3 (.cells [.slice (some ⟨bt, 0, none⟩) n.toNat n.toNat])).get v3 0 = some (.slice (some ⟨bt, 0, none⟩) n.toNat n.toNat) := by simp
  generalize ((h5.upd v1 (.cells [.slice (some ⟨bp, 0, none⟩) n.toNat n.toNat])).upd v2 (.cells [.slice (some ⟨bs, 0, none⟩) n.toNat n.toNat])).upd v3 (.cells [.slice (some ⟨bt, 0, none⟩) n.toNat n.toNat]) = h6 at *
  refine ⟨n, ev.get gn, ?_⟩
  rw [w64 (by omega) (by omega)]
  refine (I.numbersFrom.spec (k := n.toNat) (by omega) (by omega)).mono ?_
  rintro u h7 ⟨e7, R, cR, rfl, hR⟩
  have hlen : 0 < (seqI n.toNat).length := by rw [seqI_len]; omega
  rcases hR with ⟨_, hnil⟩ | ⟨br, sp, rfl, hfr, hor⟩
  · rw [hnil] at hlen; simp at hlen
  obtain ⟨hI, eI, hB, rfl⟩ := carve e7 hfr hor
  refine ⟨_, _, _, rfl, ?_⟩
  have pl : (ptsOf n rs xss).length = n.toNat := by have := summed_len (fun _ own => own) n rs xss h0; unfold ptsOf; omega
  have sl : ∀ t, (numsOf t n rs xss).length = n.toNat := fun t => by have := summed_len (gOf t (ptsOf n rs xss)) n rs xss h0; unfold numsOf; omega
  have eIv := ev.trans eI
  have hcmp := I.Schedule.ranking.c1.spec (n := n.toNat) (pts := ptsOf n rs xss) (sec := numsOf false n rs xss) (thr := numsOf true n rs xss) (ip.mono eIv) (is.mono eIv) (it.mono eIv) pl (sl _) (sl _) (eI.get G1) (eI.get G2) (eI.get G3) (xs := seqI n.toNat) (fun z hz => seqI_mem hz)
  refine (slices.SortStableFunc_Sint64_int64.spec (sp := sp) hB (only_self _ _) (seqI_len _) (by omega) hcmp).mono ?_
  rintro u h8 ⟨rfl, hJ, m', eJ, rfl, hBJ, hmJ, _⟩
  exact ⟨rfl, (eall.trans eIv).trans (eJ.trans (over_ext hBJ)), _, cR, rfl, seg_own (over_own hmJ)⟩

theorem S.l10Ranking.spec {n : Int} {A B : Option Addr} {rs xss : List (List Int)} {l c m d : Nat} {h : Heap} (s : Rds h A rs) (hl : rs.length = l) (x : Tab h B xss) (hm : xss.length = m)
    (hsok : scheduleOk n rs = true) (hok : resultsOk n rs xss = true) :
    ACalls Try.prog S.l10Ranking.id [.agg #[.int .i64 n, .slice A l c], .slice B m d] h fun u h2 => Ext h h2 ∧ ∃ R cR, u = .slice R n.toNat cR ∧ Ints h2 R (rankOf n rs xss) := by
  obtain ⟨k1, k2, k3, k4⟩ := scheduleOk_facts hsok
  have h0 : 0 ≤ n := by omega
  have hq : xss.take m = xss := by rw [List.take_of_length_le (by omega)]
  refine S.l10Ranking.step _ _ _ _ _ _ _ _ h fun b4 hf4 => ?_
  have e4 := Ext.upd hf4 (.cells [.int .i64 n, .slice A l c])
  have hg4 : (h.upd b4 (.cells [.int .i64 n, .slice A l c])).getN b4 0 2 = some [.int .i64 n, .slice A l c] := by simp [Heap.getN]
  have hn4 : (h.upd b4 (.cells [.int .i64 n, .slice A l c])).get b4 (0 + 0) = some (.int .i64 n) := by simp
  generalize h.upd b4 (.cells [.int .i64 n, .slice A l c]) = h1 at *
  refine ⟨n, A, l, c, hg4, n, A, l, c, hg4, n, A, l, c, hg4, (S.l10Points.spec (q := m) (s.mono e4) hl (x.mono e4) hm (Nat.le_refl _) hsok (by rw [hq]; exact hok)).mono ?_⟩
  rintro u h2 ⟨e2, bp, _, rfl, hp⟩
  rw [hq] at hp
  refine ⟨_, _, _, rfl, e2.getN hg4, e2.getN hg4, (S.l10Sums.spec (third := false) (s.mono (e4.trans e2)) hl (x.mono (e4.trans e2)) hm hsok hok).mono ?_⟩
  rintro u h3 ⟨e3, bs, _, rfl, hs⟩
  have e13 := e2.trans e3
  refine ⟨_, _, _, rfl, e13.getN hg4, (S.l10Sums.spec (third := true) (s.mono (e4.trans e13)) hl (x.mono (e4.trans e13)) hm hsok hok).mono ?_⟩
  rintro u h5 ⟨e5, bt, _, rfl, ht⟩
  have e15 := e13.trans e5
  refine ⟨_, _, _, rfl, fun b21 hf21 => ?_⟩
  have ip : Ints h5 (some ⟨bp, 0, none⟩) (ptsOf n rs xss) := (own_ints hp).mono (e3.trans e5)
  have is := (own_ints hs).mono e5
  have it := own_ints ht
  have eall := e4.trans e15
  have gn := e15.get hn4
  have pl : (ptsOf n rs xss).length = n.toNat := by have := summed_len (fun _ own => own) n rs xss h0; unfold ptsOf; omega
  have sl : ∀ t, (numsOf t n rs xss).length = n.toNat := fun t => by have := summed_len (gOf t (ptsOf n rs xss)) n rs xss h0; unfold numsOf; omega
  generalize hP : ptsOf n rs xss = pts at *
  generalize hS : numsOf false n rs xss = sec at *
  generalize hT : numsOf true n rs xss = thr at *
  have pl' : sec.length = n.toNat := by rw [← hS]; exact sl _
  have tl' : thr.length = n.toNat := by rw [← hT]; exact sl _
  have hrank : rankOf n rs xss = sortL (ahead pts sec thr) (seqI n.toNat) := by rw [rankOf, hP, hS, hT]
  rw [hrank]
  have loop : ∀ (q a : Nat) (C : Option Addr) (lc cc : Nat) (hI h' : Heap), (a : Int) + q = n → Ext h5 hI → Vec hI h' C lc cc 1 (LM (sortL (ahead pts sec thr) (seqI a))) →
      S.l10Ranking.L0 (fun u h2 => Ext h h2 ∧ ∃ R cR, u = .slice R n.toNat cR ∧ Ints h2 R (sortL (ahead pts sec thr) (seqI n.toNat))) (.pointer (some ⟨b4, 0, none⟩)) (.slice (some ⟨bp, 0, none⟩) n.toNat n.toNat) (.slice (some ⟨bs, 0, none⟩) n.toNat n.toNat) (.slice (some ⟨bt, 0, none⟩) n.toNat n.toNat) (.slice C lc cc) (.int .i64 a) h' := by
    intro q
    induction q with
    | zero =>
      intro a C lc cc hI h' ha he v
      have ea : a = n.toNat := by omega
      have hl := v.len
      rw [LM, List.length_map, sortL_len, seqI_len, Nat.mul_one] at hl
      refine S.l10Ranking.L0_step _ _ _ _ _ _ _ _ _ _ _ _ _ _ _ _ _ ⟨n, (he.trans v.ext).get gn, dec_split (fun hc => by omega) (fun _ => ⟨(eall.trans he).trans v.ext, C, cc, by rw [← ea, hl], ?_⟩)⟩
      rw [← ea]; exact v.seg
    | succ q ih =>
      intro a C lc cc hI h' ha he v
      have hl := v.len
      rw [LM, List.length_map, sortL_len, seqI_len, Nat.mul_one] at hl
      subst hl
      refine S.l10Ranking.L0_step _ _ _ _ _ _ _ _ _ _ _ _ _ _ _ _ _ ⟨n, (he.trans v.ext).get gn, dec_split (fun hc => ?_) (fun hc => by omega)⟩
      intro b31 hf31
      obtain ⟨v4, f4⟩ := v.beside hf31 (.cells [.int .i64 (a : Int)])
      have e6 := Ext.upd f4 (.cells [.int .i64 (a : Int)])
      refine v4.append (m := 1) (news := [.int .i64 (a : Int)]) (Seg.row (Seg.new' _ _ _) rfl) rfl (by simp [Value.oneCell']) (by omega) (by omega) rfl fun hK h6 A' c' eK v5 => ⟨_, _, _, rfl, ?_⟩
      have eIK := he.trans (e6.trans eK)
      -- from place to place
      have inner : ∀ (rp moved : List Int) (g : Int) (h7 : Heap), rp.length + moved.length = a → insL (ahead pts sec thr) (a : Int) (revSort (ahead pts sec thr) (seqI a)) = moved.reverse ++ insL (ahead pts sec thr) (a : Int) rp → (∀ y ∈ rp, 0 ≤ y ∧ y < a) → Vec hK h7 A' (a + 1) c' 1 (LM (rp.reverse ++ g :: moved)) →
          S.l10Ranking.L1 (fun u h2 => Ext h h2 ∧ ∃ R cR, u = .slice R n.toNat cR ∧ Ints h2 R (sortL (ahead pts sec thr) (seqI n.toNat))) (.pointer (some ⟨b4, 0, none⟩)) (.slice (some ⟨bp, 0, none⟩) n.toNat n.toNat) (.slice (some ⟨bs, 0, none⟩) n.toNat n.toNat) (.slice (some ⟨bt, 0, none⟩) n.toNat n.toNat) (.slice A' (a + 1) c') (.int .i64 a) (.int .i64 (rp.length : Int)) h7 := by
        intro rp
        have done : ∀ (rp moved : List Int) (g : Int) (h7 : Heap), rp.length + moved.length = a → insL (ahead pts sec thr) (a : Int) (revSort (ahead pts sec thr) (seqI a)) = moved.reverse ++ (a : Int) :: rp → Vec hK h7 A' (a + 1) c' 1 (LM (rp.reverse ++ g :: moved)) →
            ∃ w o : Nat, A' = some ⟨w, o, none⟩ ∧ (0 ≤ (rp.length : Int) ∧ (rp.length : Int) < ((a + 1 : Nat) : Int)) ∧ SStore h7 w (o + Int.toNat (rp.length : Int) * 1) [.int .i64 (a : Int)] fun h8 =>
              S.l10Ranking.L0 (fun u h2 => Ext h h2 ∧ ∃ R cR, u = .slice R n.toNat cR ∧ Ints h2 R (sortL (ahead pts sec thr) (seqI n.toNat))) (.pointer (some ⟨b4, 0, none⟩)) (.slice (some ⟨bp, 0, none⟩) n.toNat n.toNat) (.slice (some ⟨bs, 0, none⟩) n.toNat n.toNat) (.slice (some ⟨bt, 0, none⟩) n.toNat n.toNat) (.slice A' (a + 1) c') (.int .i64 (IntKind.wrap .i64 ((a : Int) + 1))) h8 := by
          intro rp moved g h7 hlen hins v7
          refine Vec.put v7 (by omega) (by omega) rfl fun h8 v8 => ?_
          rw [wsucc (by omega)]
          refine ih (a + 1) A' (a + 1) c' hK h8 (by omega) eIK ?_
          have e8 : (LM (rp.reverse ++ g :: moved)).set (rp.length : Int).toNat (.int .i64 (a : Int)) = LM (sortL (ahead pts sec thr) (seqI (a + 1))) := by
            rw [LM, LM, ← List.map_set, mid_set (by simp), sortL, seqI_succ, revSort_snoc, hins]
            simp
          rw [e8] at v8
          exact v8
        induction rp with
        | nil =>
          intro moved g h7 hlen hins hmem v7
          refine S.l10Ranking.L1_step _ _ _ _ _ _ _ _ _ _ _ _ _ _ _ _ _ _ (dec_split (fun hc => by simp at hc) (fun _ => ?_))
          exact done [] moved g h7 hlen hins v7
        | cons y rp ihr =>
          intro moved g h7 hlen hins hmem v7
          simp only [List.length_cons] at hlen
          obtain ⟨y0, y1⟩ := hmem y (by simp)
          have e7 := eIK.trans v7.ext
          have hw : IntKind.wrap .i64 (((y :: rp).length : Int) - 1) = (rp.length : Int) := by rw [List.length_cons, w64 (by omega) (by omega)]; omega
          have hlt : ((y :: rp).reverse ++ g :: moved).length = a + 1 := by simp; omega
          have er : (y :: rp).reverse ++ g :: moved = rp.reverse ++ y :: (g :: moved) := by simp
          have g2 : ((y :: rp).reverse ++ g :: moved).getD (rp.length : Int).toNat 0 = y := by rw [er]; exact mid_get (by simp)
          have i7 : Ints h7 A' ((y :: rp).reverse ++ g :: moved) := v7.seg
          have a0 : (0 : Int) ≤ (a : Int) := by omega
          have a1 : (a : Int) < (n.toNat : Int) := by omega
          have y1' : y < (n.toNat : Int) := by omega
          refine S.l10Ranking.L1_step _ _ _ _ _ _ _ _ _ _ _ _ _ _ _ _ _ _ (dec_split (fun _ => ?_) (fun hc => by simp at hc))
          rw [hw]
          refine i7.rd (Ext.refl _) hlt (by omega) (by omega) ?_
          rw [g2]
          refine ip.rd e7 pl a0 a1 (ip.rd e7 pl y0 y1' fun k53 hk53 => ?_)
          rw [Int.toNat_natCast]
          have fin : ∀ r : Bool, ahead pts sec thr (a : Int) y = r → k53 [.bool r] h7 := by
            intro r hr
            refine hk53 _ _ (nbool_split (fun hf => ?_) (fun ht => ?_))
            · have hno : ¬ ahead pts sec thr (a : Int) y = true := by rw [hr, hf]; simp
              rw [insL, if_neg hno] at hins
              exact done (y :: rp) moved g h7 (by simp only [List.length_cons]; omega) hins v7
            · have hyes : ahead pts sec thr (a : Int) y = true := by rw [hr, ht]
              rw [insL, if_pos hyes] at hins
              refine Vec.put v7 (by omega) (by simp only [List.length_cons]; omega) rfl fun h8 v8 => ?_
              refine ihr (y :: moved) y h8 (by simp only [List.length_cons]; omega) (by rw [hins]; simp) (fun z hz => hmem z (by simp [hz])) ?_
              have e8 : (LM ((y :: rp).reverse ++ g :: moved)).set ((y :: rp).length : Int).toNat (.int .i64 y) = LM (rp.reverse ++ y :: (y :: moved)) := by
                rw [LM, LM, ← List.map_set, mid_set (by simp)]; simp
              rw [e8] at v8
              exact v8
          have hah : ahead pts sec thr (a : Int) y = (decide (pts.getD y.toNat 0 < pts.getD a 0) || (decide (pts.getD a 0 = pts.getD y.toNat 0) && (decide (sec.getD y.toNat 0 < sec.getD a 0) || (decide (sec.getD a 0 = sec.getD y.toNat 0) && decide (thr.getD y.toNat 0 < thr.getD a 0))))) := rfl
          refine dec_split (fun h1 => fin true (by rw [hah, decide_eq_true h1]; rfl)) (fun h1 => ?_)
          rw [decide_eq_false h1, Bool.false_or] at hah
          refine ip.rd e7 pl a0 a1 (ip.rd e7 pl y0 y1' ?_)
          rw [Int.toNat_natCast]
          refine dec_split (fun h2 => ?_) (fun h2 => fin false (by rw [hah, decide_eq_false h2]; rfl))
          rw [decide_eq_true h2, Bool.true_and] at hah
          refine is.rd e7 pl' a0 a1 (is.rd e7 pl' y0 y1' ?_)
          rw [Int.toNat_natCast]
          refine dec_split (fun h3 => fin true (by rw [hah, decide_eq_true h3]; rfl)) (fun h3 => ?_)
          rw [decide_eq_false h3, Bool.false_or] at hah
          refine is.rd e7 pl' a0 a1 (is.rd e7 pl' y0 y1' ?_)
          rw [Int.toNat_natCast]
          refine dec_split (fun h4 => ?_) (fun h4 => fin false (by rw [hah, decide_eq_false h4]; rfl))
          rw [decide_eq_true h4, Bool.true_and] at hah
          refine it.rd e7 tl' a0 a1 (it.rd e7 tl' y0 y1' ?_)
          rw [Int.toNat_natCast]
          exact fin _ hah
      have hrl : (revSort (ahead pts sec thr) (seqI a)).length = a := by rw [revSort_len, seqI_len]
      have := inner (revSort (ahead pts sec thr) (seqI a)) [] (a : Int) h6 (by simp [hrl]) (by simp) (fun y hy => seqI_mem ((revSort_mem _ y _).1 hy)) (by simpa [sortL, LM] using v5)
      rw [hrl] at this
      exact this
  exact loop n.toNat 0 _ 0 0 h5 _ (by omega) (Ext.refl _) (by simpa [seqI, sortL, revSort] using Vec.made (l := 0) (sz := 1) (cs := []) hf21 rfl)

end Go.Proofs.Ythkbodgpcjcndaa

/- Rankings have all teams, each once. -/
set_option linter.unusedVariables false
set_option linter.unusedSimpArgs false
namespace Go.Proofs.Ythkbodgpcjcndaa
open Go.HL

theorem insL_perm (lt : Int → Int → Bool) (x : Int) : ∀ ys, (insL lt x ys).Perm (x :: ys)
  | [] => List.Perm.refl _
  | y :: ys => by
    rw [insL]; split
    · exact ((insL_perm lt x ys).cons y).trans (List.Perm.swap x y ys)
    · exact List.Perm.refl _
theorem sortL_perm (lt : Int → Int → Bool) (xs : List Int) : (sortL lt xs).Perm xs := by
  have : ∀ (xs rp : List Int), (xs.foldl (fun rp x => insL lt x rp) rp).Perm (rp ++ xs) := by
    intro xs
    induction xs with
    | nil => intro rp; simp
    | cons x xs ih =>
      intro rp
      rw [List.foldl_cons]
      refine (ih _).trans ?_
      refine ((insL_perm lt x rp).append_right xs).trans ?_
      exact (List.perm_middle (a := x) (l₁ := rp) (l₂ := xs)).symm
  refine (List.reverse_perm _).trans ?_
  have h := this xs []
  rwa [List.nil_append] at h
theorem rankOf_ranks {n : Int} {rs xss : List (List Int)} (h0 : 0 ≤ n) : Ranks n.toNat (rankOf n rs xss) := by
  have hl := rankOf_len n rs xss
  refine ⟨hl, fun i hi => ?_, fun i j hi hj he => ?_⟩
  · have hm := getD_mem (l := rankOf n rs xss) (d := 0) (q := i) (by omega)
    have := seqI_mem ((sortL_mem _ _ _).1 hm)
    omega
  · have hnd : (rankOf n rs xss).Nodup := (sortL_perm _ _).nodup_iff.2 (seqI_nodup _)
    unfold List.Nodup at hnd
    rw [List.pairwise_iff_getElem] at hnd
    have hi' : i < (rankOf n rs xss).length := by omega
    have hj' : j < (rankOf n rs xss).length := by omega
    rw [List.getD_eq_getElem?_getD, List.getD_eq_getElem?_getD, List.getElem?_eq_getElem hi', List.getElem?_eq_getElem hj'] at he
    rcases Nat.lt_trichotomy i j with h | h | h
    · exact absurd he (hnd i j hi' hj' h)
    · exact h
    · exact absurd he.symm (hnd j i hj' hi' h)
theorem rankOf_onto {n : Int} {rs xss : List (List Int)} {x : Nat} (hx : x < n.toNat) : ∃ i, i < n.toNat ∧ ((rankOf n rs xss).getD i 0).toNat = x := by
  have hm : (x : Int) ∈ rankOf n rs xss := (sortL_mem _ _ _).2 (by simp only [seqI, List.mem_map, List.mem_range]; exact ⟨x, hx, rfl⟩)
  obtain ⟨i, hi, e⟩ := List.getElem_of_mem hm
  refine ⟨i, by rw [rankOf_len] at hi; exact hi, ?_⟩
  rw [List.getD_eq_getElem?_getD, List.getElem?_eq_getElem hi]
  show ((rankOf n rs xss)[i]).toNat = x
  rw [e]; rfl
end Go.Proofs.Ythkbodgpcjcndaa

/- Whether a team can be first, as the program tells it: points and meetings that are left. -/
set_option linter.unusedVariables false
set_option linter.unusedSimpArgs false
namespace Go.Proofs.Ythkbodgpcjcndaa
open Go.HL

/-- The state of the first loops. -/
structure ISt (hJ : Heap) (m : PMap) (bp lb : Nat) (n : Int) (pts : List Int) (gs : List (List Int)) : Prop where
  beside : Beside hJ m
  cells : m bp = some (LM pts)
  plen : (pts.length : Int) = n
  list : ∃ vs x, CellVec m lb vs x ∧ Each hJ vs gs ∧ x ≠ some bp
  ne : bp ≠ lb
theorem ISt.base {hJ : Heap} {m : PMap} {bp lb : Nat} {n : Int} {pts : List Int} {gs : List (List Int)} (s : ISt hJ m bp lb n pts gs) {b : Nat} (hf : (over hJ m).fresh b) (k : Blk) :
    ISt (hJ.upd b k) m bp lb n pts gs ∧ Ext hJ (hJ.upd b k) ∧ (over hJ m).upd b k = over (hJ.upd b k) m := by
  have e := Ext.upd (over_fresh hf).1 k
  obtain ⟨vs, x, h1, h2, h3⟩ := s.list
  exact ⟨⟨s.beside.base hf k, s.cells, s.plen, ⟨vs, x, h1, h2.mono e, h3⟩, s.ne⟩, e, over_base hf k⟩
theorem ISt.call {hJ : Heap} {m : PMap} {bp lb : Nat} {n : Int} {pts : List Int} {gs : List (List Int)} (s : ISt hJ m bp lb n pts gs) {f : FuncId} {args : List Value} {R : Value → Heap → Prop}
    (cc : ACalls Try.prog f args hJ fun u h2 => Ext hJ h2 ∧ R u h2) : ACalls Try.prog f args (over hJ m) fun u h2 => ∃ hK, h2 = over hK m ∧ Ext hJ hK ∧ ISt hK m bp lb n pts gs ∧ R u hK := by
  refine (over_frame s.beside cc).mono ?_
  rintro u h2 ⟨hK, hb, rfl, e, r⟩
  obtain ⟨vs, x, h1, h2, h3⟩ := s.list
  exact ⟨hK, rfl, e, ⟨hb, s.cells, s.plen, ⟨vs, x, h1, h2.mono e, h3⟩, s.ne⟩, r⟩

theorem I.Schedule.canBeFirst.inner {n a : Int} {hI0 : Heap} {R : Option Addr} {rl rc bs bp lb : Nat} (a0 : 0 ≤ a) (an : a < n) (ps : List (List Int)) (P : Option Addr) (cP i : Nat) (hi : i ≤ 40) (K : Value → Heap → Prop) (hps : ∀ p ∈ ps, p.length = 2) (hbig : ps.length ≤ 14) :
    ∀ (k j : Nat) (pts : List Int) (gs : List (List Int)) (hJ : Heap) (m : PMap), j + k = ps.length → Ext hI0 hJ → ISt hJ m bp lb n pts gs → Tab hJ P ps → gs.length ≤ 14 * i + j →
      (∀ (pts' : List Int) (gs' : List (List Int)) (hK : Heap) (m' : PMap), Ext hI0 hK → ISt hK m' bp lb n pts' gs' → gs'.length ≤ 14 * (i + 1) → pts' = (ps.drop j).foldl (winPts a) pts → gs' = gs ++ leftOf a (ps.drop j) →
        I.Schedule.canBeFirst.L0 K (.int .i64 a) (.pointer (some ⟨bs, 0, none⟩)) (.slice (some ⟨bp, 0, none⟩) n.toNat n.toNat) (.pointer (some ⟨lb, 0, none⟩)) (.slice R rl rc) (.int .i64 rl) (.int .i64 ((i + 1 : Nat) : Int)) (over hK m')) →
      I.Schedule.canBeFirst.L1 K (.int .i64 a) (.pointer (some ⟨bs, 0, none⟩)) (.slice (some ⟨bp, 0, none⟩) n.toNat n.toNat) (.pointer (some ⟨lb, 0, none⟩)) (.slice R rl rc) (.int .i64 rl) (.int .i64 i) (.slice P ps.length cP) (.int .i64 ps.length) (.int .i64 j) (over hJ m) := by
  intro k
  induction k with
  | zero =>
    intro j pts gs hJ m hj he s hP hlb hk
    refine I.Schedule.canBeFirst.L1_step K _ _ _ _ _ _ _ _ _ _ _ _ _ _ _ _ _ _ _ (dec_split (fun hc => by omega) (fun _ => ?_))
    rw [wsucc (by omega)]
    refine hk pts gs hJ m he s (by omega) ?_ ?_
    · rw [List.drop_eq_nil_of_le (by omega)]; rfl
    · rw [List.drop_eq_nil_of_le (by omega)]; simp [leftOf]
  | succ k ih =>
    intro j pts gs hJ m hj he s hP hlb hk
    have hj' : j < ps.length := by omega
    have e1 : ps.getD (Int.toNat j) [] = ps[j] := by rw [Int.toNat_natCast, List.getD_eq_getElem?_getD, List.getElem?_eq_getElem hj']; rfl
    have e2 : ps[j].length = 2 := hps _ (List.getElem_mem hj')
    rw [List.drop_eq_getElem_cons hj'] at hk
    have eB := over_ext s.beside
    refine I.Schedule.canBeFirst.L1_step K _ _ _ _ _ _ _ _ _ _ _ _ _ _ _ _ _ _ _ (dec_split (fun hc => ?_) (fun hc => by omega))
    refine hP.rd eB rfl (by omega) (by omega) fun D dD hD hdD => ?_
    rw [e1] at hD hdD ⊢
    refine hD.rd eB rfl (by omega) (by omega) fun k55 hk55 => ?_
    have yes : hasA a ps[j] = true → k55 [.bool true] (over hJ m) := by
      intro hy
      refine hk55 _ _ (bool_split (fun _ => ?_) (fun hh => by cases hh))
      refine over_rd (sp := []) (by rw [List.append_nil]; exact s.cells) (by have := s.plen; omega) a0 (by omega) (over_wr (sp := []) (cs := LM pts) (by rw [List.append_nil]; exact s.cells) (by have := s.plen; simp; omega) a0 (by omega) rfl ?_)
      have ew : (LM pts).set a.toNat (.int .i64 (IntKind.wrap .i64 (pts.getD a.toNat 0 + 2))) ++ [] = LM (winPts a pts ps[j]) := by rw [winPts, if_pos hy, List.append_nil, LM, LM, ← List.map_set]
      rw [ew, wsucc (by omega)]
      obtain ⟨vs, x, h1, h2, h3⟩ := s.list
      refine ih (j + 1) _ gs hJ _ (by omega) he ⟨s.beside.put (by rw [s.cells]; simp) _, put_self _ _ _, by rw [winPts_len]; exact s.plen, ⟨vs, x, h1.congr (put_ne _ _ s.ne.symm) (fun b hb => put_ne _ _ (fun e => h3 (by rw [hb, e]))), h2, h3⟩, s.ne⟩ hP (by omega) fun pts' gs' hK m' eK s' hl' hp' hg' => hk pts' gs' hK m' eK s' hl' (by rw [List.foldl_cons]; exact hp') ?_
      rw [hg', leftOf, leftOf, List.filter_cons]
      simp [hy]
    have no : hasA a ps[j] = false → k55 [.bool false] (over hJ m) := by
      intro hno
      refine hk55 _ _ (bool_split (fun hh => by cases hh) (fun _ => ?_))
      obtain ⟨vs, x, h1, h2, h3⟩ := s.list
      have hvl : vs.length = gs.length := h2.1
      refine h1.push s.beside (by omega) (by omega) rfl rfl fun hK m' x' eK hB' C' hoth hx' => ?_
      have hx'p : x' ≠ some bp := by
        rcases hx' with h | ⟨b, h, hb⟩
        · rw [h]; exact h3
        · intro e; rw [h] at e; cases e; rw [s.cells] at hb; cases hb
      rw [wsucc (by omega)]
      refine ih (j + 1) pts (gs ++ [ps[j]]) hK m' (by omega) (he.trans eK) ⟨hB', by rw [hoth bp s.ne h3 hx'p]; exact s.cells, s.plen, ⟨_, x', C', (h2.mono eK).snoc ⟨D, dD, rfl, hD.mono eK, hdD⟩, hx'p⟩, s.ne⟩ (hP.mono eK) (by simp; omega) fun pts' gs' hL m2 eL s' hl' hp' hg' => hk pts' gs' hL m2 eL s' hl' ?_ ?_
      · rw [List.foldl_cons, winPts, hno]; exact hp'
      · rw [hg', leftOf, leftOf, List.filter_cons]
        simp [hno]
    refine dec_split (fun hy => yes (by rw [hasA, Bool.or_eq_true]; exact .inl (decide_eq_true hy.symm))) (fun hy => ?_)
    refine hD.rd eB rfl (by omega) (by omega) ?_
    by_cases hy2 : ps[j].getD (Int.toNat 1) 0 = a
    · rw [decide_eq_true hy2]; exact yes (by rw [hasA, Bool.or_eq_true]; exact .inr (decide_eq_true hy2.symm))
    · rw [decide_eq_false hy2]
      refine no ?_
      rw [hasA, Bool.or_eq_false_iff]
      exact ⟨decide_eq_false fun e => hy e.symm, decide_eq_false fun e => hy2 e.symm⟩

theorem I.Schedule.canBeFirst.outer {n a : Int} {hI0 : Heap} {R : Option Addr} {rs : List (List Int)} {rl rc bs bp lb : Nat} (a0 : 0 ≤ a) (an : a < n) (h14 : n ≤ 14) (hr : Rds hI0 R rs) (hl : rs.length = rl) (hl40 : rl ≤ 40) (hn : hI0.get bs (0 + 0) = some (.int .i64 n)) (K : Value → Heap → Prop) :
    ∀ (k i : Nat) (pts : List Int) (gs : List (List Int)) (hJ : Heap) (m : PMap), i + k = rl → Ext hI0 hJ → ISt hJ m bp lb n pts gs → gs.length ≤ 14 * i →
      (∀ (pts' : List Int) (gs' : List (List Int)) (hK : Heap) (m' : PMap), Ext hI0 hK → ISt hK m' bp lb n pts' gs' → gs'.length ≤ 14 * rl → pts' = (allPairs n (rs.drop i)).foldl (winPts a) pts → gs' = gs ++ leftOf a (allPairs n (rs.drop i)) →
        SAlloc (over hK m') [] fun b74 h75 => SAlloc h75 [.slice none 0 0] fun b76 h77 => SStore h77 b76 0 [.slice (some ⟨b74, 0, none⟩) 0 0] fun h78 => I.Schedule.canBeFirst.L2 K (.int .i64 a) (.pointer (some ⟨bs, 0, none⟩)) (.slice (some ⟨bp, 0, none⟩) n.toNat n.toNat) (.pointer (some ⟨lb, 0, none⟩)) (.pointer (some ⟨b76, 0, none⟩)) (.slice (some ⟨bp, 0, none⟩) n.toNat n.toNat) (.int .i64 n.toNat) (.int .i64 0) h78) →
      I.Schedule.canBeFirst.L0 K (.int .i64 a) (.pointer (some ⟨bs, 0, none⟩)) (.slice (some ⟨bp, 0, none⟩) n.toNat n.toNat) (.pointer (some ⟨lb, 0, none⟩)) (.slice R rl rc) (.int .i64 rl) (.int .i64 i) (over hJ m) := by
  intro k
  induction k with
  | zero =>
    intro i pts gs hJ m hi he s hlb hk
    refine I.Schedule.canBeFirst.L0_step K _ _ _ _ _ _ _ _ _ _ _ _ _ _ (dec_split (fun hc => by omega) (fun _ => ?_))
    have e9 : rs.drop i = [] := List.drop_eq_nil_of_le (by omega)
    exact hk pts gs hJ m he s (by omega) (by rw [e9]; rfl) (by rw [e9]; simp [allPairs, leftOf])
  | succ k ih =>
    intro i pts gs hJ m hi he s hlb hk
    have hir : i < rs.length := by omega
    rw [List.drop_eq_getElem_cons hir] at hk
    refine I.Schedule.canBeFirst.L0_step K _ _ _ _ _ _ _ _ _ _ _ _ _ _ (dec_split (fun hc => ?_) (fun hc => by omega))
    refine (hr.mono he).rd (over_ext s.beside) hl (by omega) (by omega) fun hr14 => ?_
    have e1 : rs.getD (Int.toNat i) [] = rs[i] := by rw [Int.toNat_natCast, List.getD_eq_getElem?_getD, List.getElem?_eq_getElem hir]; rfl
    rw [e1] at hr14 ⊢
    intro b30 hf30
    refine ⟨by simpa using hr14, List.replicate 14 (.int .i64 0), Heap.upd_own_self _ _ _, by simp; omega, oneInts _, rs[i], hr14, ?_, ?_⟩
    · rw [upd_upd]
      refine getN_of (by simpa using hr14) fun q v hv => ?_
      rw [Nat.zero_add, get_upd, if_pos rfl]
      have : splice (List.replicate 14 (.int .i64 0)) 0 (List.map (Value.int .i64) rs[i]) = List.map (Value.int .i64) rs[i] := by simp [splice, hr14]
      rw [this]; exact hv
    rw [upd_upd]
    obtain ⟨s2, e2, e3⟩ := s.base hf30 (.cells (splice (List.replicate 14 (.int .i64 0)) 0 (List.map (Value.int .i64) rs[i])))
    rw [e3]
    refine ⟨n, (over_ext s2.beside).get ((he.trans e2).get hn), (s2.call (I.Round.pairs.spec hr14 (by omega) h14)).mono ?_⟩
    rintro u h3 ⟨hK, rfl, eK, s3, P, cP, rfl, hP⟩
    have hbig : (pairsOf n rs[i]).length ≤ 14 := by have := pairsFrom_len rs[i] n.toNat 0; unfold pairsOf; omega
    refine ⟨P, _, cP, rfl, I.Schedule.canBeFirst.inner (hI0 := hI0) a0 an _ P cP i (by omega) K (fun p hp => pairsFrom_two _ _ _ p hp) hbig _ 0 pts gs hK m (Nat.zero_add _) ((he.trans e2).trans eK) s3 hP (by omega) fun pts' gs' hL m' eL s4 hl' hp' hg' => ?_⟩
    refine ih (i + 1) pts' gs' hL m' (by omega) eL s4 (by omega) fun pts2 gs2 hM m2 eM s5 hl2 hp2 hg2 => hk pts2 gs2 hM m2 eM s5 hl2 ?_ ?_
    · rw [hp2, hp', List.drop_zero, allPairs_cons, List.foldl_append]; rfl
    · rw [hg2, hg', List.drop_zero, allPairs_cons, leftOf_app, List.append_assoc]; rfl

end Go.Proofs.Ythkbodgpcjcndaa
