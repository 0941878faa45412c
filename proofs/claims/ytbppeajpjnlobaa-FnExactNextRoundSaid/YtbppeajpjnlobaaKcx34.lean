/- For every schedule and results, NextRound of the program answers as NextRound of the reference does, and changes nothing; no condition. -/
import Derived.Test.YtbppeajpjnlobaaKcx31
import Derived.Test.YtbppeajpjnlobaaKcx33
/- A point is given, if need be by moving others: the reference's function. -/
set_option linter.unusedVariables false
set_option linter.unusedSimpArgs false
namespace Go.Proofs.Ytbppeajpjnlobaa
open Go.HL

/-- Met, by number of team. -/
def metB (met : List Bool) (b : Int) : Bool := met.getD b.toNat false
def tm (games : List (List Int)) (i : Nat) (k : Nat) : Int := (games.getD i []).getD k 0
def Both (games : List (List Int)) (met : List Bool) (i : Nat) : Prop := metB met (tm games i 0) = true ∧ metB met (tm games i 1) = true
def MetLe (met met' : List Bool) : Prop := met'.length = met.length ∧ ∀ b, metB met b = true → metB met' b = true
theorem MetLe.refl (met : List Bool) : MetLe met met := ⟨rfl, fun _ h => h⟩
theorem MetLe.trans {a b c : List Bool} (h : MetLe a b) (k : MetLe b c) : MetLe a c := ⟨k.1.trans h.1, fun x hx => k.2 x (h.2 x hx)⟩
theorem Both.mono {games : List (List Int)} {a b : List Bool} {i : Nat} (h : Both games a i) (k : MetLe a b) : Both games b i := ⟨k.2 _ h.1, k.2 _ h.2⟩

structure GiveT (games : List (List Int)) (n : Nat) (given room : List Int) (met : List Bool) (i : Nat) (given' room' : List Int) (met' : List Bool) : Prop where
  gl : given'.length = given.length
  rl : room'.length = room.length
  a : given'.getD i (-1) = tm games i 0 ∨ given'.getD i (-1) = tm games i 1
  b : ∀ x : Nat, x < n → room'.getD x 0 + ((given'.count (x : Int) : Nat) : Int) = room.getD x 0 + (((given.set i (-1)).count (x : Int) : Nat) : Int)
  c : ∀ x : Nat, x < n → 0 ≤ room'.getD x 0
  d : ∀ j, j < given.length → j ≠ i → given'.getD j (-1) = given.getD j (-1) ∨ (given.getD j (-1) ≠ -1 ∧ metB met (given.getD j (-1)) = false ∧ (given'.getD j (-1) = tm games j 0 ∨ given'.getD j (-1) = tm games j 1))
  e : MetLe met met'
structure GiveF (games : List (List Int)) (n : Nat) (given room : List Int) (met : List Bool) (i : Nat) (met' : List Bool) : Prop where
  e : MetLe met met'
  f : Both games met' i
  g : ∀ x : Nat, x < n → metB met' x = true → metB met x = false → room.getD x 0 = 0 ∧ ∀ j, j < given.length → given.getD j (-1) = (x : Int) → Both games met' j

theorem metB_set {met : List Bool} {b : Int} (h0 : 0 ≤ b) (hb : b.toNat < met.length) : metB (met.set b.toNat true) b = true := by unfold metB; rw [lget_set_self hb]
theorem metB_set_ne {met : List Bool} {b x : Int} (h0 : 0 ≤ b) (hx : 0 ≤ x) (hne : x ≠ b) (v : Bool) : metB (met.set b.toNat v) x = metB met x := by unfold metB; rw [lget_set_ne _ (by omega)]
theorem metLe_set (met : List Bool) (b : Int) : MetLe met (met.set b.toNat true) := by
  refine ⟨by simp, fun x hx => ?_⟩
  unfold metB at *
  by_cases h : b.toNat = x.toNat
  · have : x.toNat < met.length := by
      rcases Nat.lt_or_ge x.toNat met.length with h | h
      · exact h
      · rw [List.getD_eq_getElem?_getD, List.getElem?_eq_none h] at hx; cases hx
    rw [h, lget_set_self this]
  · rw [lget_set_ne _ h]; exact hx
/-- How many are not met. -/
def left (met : List Bool) : Nat := met.count false
theorem left_set {met : List Bool} {b : Int} (hb : b.toNat < met.length) (hm : metB met b = false) : left (met.set b.toNat true) + 1 = left met := by
  have := count_set' false true false met b.toNat hb
  unfold metB at hm
  rw [hm] at this
  simpa [left] using this
theorem left_le {met met' : List Bool} (h : MetLe met met') : left met' ≤ left met := by
  obtain ⟨hl, hm⟩ := h
  have key : ∀ (a b : List Bool), b.length = a.length → (∀ i, a.getD i false = true → b.getD i false = true) → b.count false ≤ a.count false := by
    intro a
    induction a with
    | nil => intro b hb _; have : b = [] := List.eq_nil_of_length_eq_zero (by simpa using hb); subst this; simp
    | cons x a ih =>
      intro b hb hi
      cases b with
      | nil => simp at hb
      | cons y b =>
        have h1 := ih b (by simpa using hb) (fun i hi' => by simpa using hi (i + 1) (by simpa using hi'))
        have h2 := hi 0
        simp only [List.getD_cons_zero] at h2
        simp only [List.count_cons]
        cases x <;> cases y <;> simp_all <;> omega
  refine key met met' hl fun i hi => ?_
  have := hm (i : Int)
  unfold metB at this
  simpa using this (by simpa using hi)

/-- The blocks that change; sg, sr, st: what stands behind the rows. -/
structure GMem (m : PMap) (bg br bm : Nat) (sg sr st : List Value) (given room : List Int) (met : List Bool) : Prop where
  g : m bg = some (LM given ++ sg)
  r : m br = some (LM room ++ sr)
  t : m bm = some (BL met ++ st)
  n1 : bg ≠ br
  n2 : bg ≠ bm
  n3 : br ≠ bm
def Same (m m' : PMap) (bg br bm : Nat) : Prop := ∀ x, x ≠ bg → x ≠ br → x ≠ bm → m' x = m x
theorem Same.refl (m : PMap) (bg br bm : Nat) : Same m m bg br bm := fun _ _ _ _ => rfl
theorem Same.trans {m1 m2 m3 : PMap} {bg br bm : Nat} (a : Same m1 m2 bg br bm) (b : Same m2 m3 bg br bm) : Same m1 m3 bg br bm := fun x h1 h2 h3 => (b x h1 h2 h3).trans (a x h1 h2 h3)
theorem GMem.putG {m : PMap} {bg br bm : Nat} {sg sr st : List Value} {given room : List Int} {met : List Bool} (M : GMem m bg br bm sg sr st given room met) (g : List Int) : GMem (m.put bg (LM g ++ sg)) bg br bm sg sr st g room met ∧ Same m (m.put bg (LM g ++ sg)) bg br bm :=
  ⟨⟨put_self _ _ _, by rw [put_ne _ _ M.n1.symm]; exact M.r, by rw [put_ne _ _ M.n2.symm]; exact M.t, M.n1, M.n2, M.n3⟩, fun x h1 _ _ => put_ne _ _ h1⟩
theorem GMem.putR {m : PMap} {bg br bm : Nat} {sg sr st : List Value} {given room : List Int} {met : List Bool} (M : GMem m bg br bm sg sr st given room met) (g : List Int) : GMem (m.put br (LM g ++ sr)) bg br bm sg sr st given g met ∧ Same m (m.put br (LM g ++ sr)) bg br bm :=
  ⟨⟨by rw [put_ne _ _ M.n1]; exact M.g, put_self _ _ _, by rw [put_ne _ _ M.n3.symm]; exact M.t, M.n1, M.n2, M.n3⟩, fun x _ h1 _ => put_ne _ _ h1⟩
theorem GMem.putT {m : PMap} {bg br bm : Nat} {sg sr st : List Value} {given room : List Int} {met : List Bool} (M : GMem m bg br bm sg sr st given room met) (g : List Bool) : GMem (m.put bm (BL g ++ st)) bg br bm sg sr st given room g ∧ Same m (m.put bm (BL g ++ st)) bg br bm :=
  ⟨⟨by rw [put_ne _ _ M.n2]; exact M.g, by rw [put_ne _ _ M.n3]; exact M.r, put_self _ _ _, M.n1, M.n2, M.n3⟩, fun x _ _ h1 => put_ne _ _ h1⟩

theorem over_rdB {hI : Heap} {m : PMap} {b l : Nat} {xs : List Bool} {sp : List Value} (hm : m b = some (BL xs ++ sp)) (hl : xs.length = l) {n : Int} (h0 : 0 ≤ n) (h1 : n < (l : Int)) {K : Bool → Prop} (k : K (metB xs n)) :
    ∃ b' o : Nat, some (⟨b, 0, none⟩ : Addr) = some ⟨b', o, none⟩ ∧ (0 ≤ n ∧ n < (l : Int)) ∧ ∃ x : Bool, (over hI m).get b' (o + Int.toNat n * 1) = some (.bool x) ∧ K x := by
  refine ⟨b, 0, rfl, ⟨h0, h1⟩, _, ?_, k⟩
  rw [over_get hm, Nat.zero_add, Nat.mul_one]
  have : n.toNat < xs.length := by omega
  rw [List.getElem?_append_left (by simpa using this)]
  simp [this, metB, List.getD_eq_getElem?_getD]

end Go.Proofs.Ytbppeajpjnlobaa

/- A point is given, if need be by moving others: the reference's function, walked. -/
set_option linter.unusedVariables false
set_option linter.unusedSimpArgs false
namespace Go.Proofs.Ytbppeajpjnlobaa
open Go.HL

theorem count_diff {given : List Int} {i : Nat} (hi : i < given.length) (b : Int) (x : Nat) : (((given.set i b).count (x : Int) : Nat) : Int) = (((given.set i (-1)).count (x : Int) : Nat) : Int) + (if b = (x : Int) then 1 else 0) := by
  have h1 := count_set' (x : Int) b (-1) given i hi
  have h2 := count_set' (x : Int) (-1) (-1) given i hi
  have h3 : ¬ ((-1 : Int) = (x : Int)) := by omega
  rw [if_neg h3] at h2
  split <;> simp_all <;> omega

/-- What a call leaves behind. -/
def GiveQ (games : List (List Int)) (n : Nat) (hI : Heap) (m : PMap) (bg br bm : Nat) (sg sr st : List Value) (given room : List Int) (met : List Bool) (i : Nat) (u : Value) (h2 : Heap) : Prop :=
  ∃ (r : Bool) (given' room' : List Int) (met' : List Bool) (m' : PMap), u = .bool r ∧ h2 = over hI m' ∧ Beside hI m' ∧ GMem m' bg br bm sg sr st given' room' met' ∧ Same m m' bg br bm ∧
    (r = true → GiveT games n given room met i given' room' met') ∧ (r = false → given' = given ∧ room' = room ∧ GiveF games n given room met i met')

theorem S.l10Give.spec {games : List (List Int)} {n L : Nat} {G : Option Addr} {cG : Nat} {hI : Heap} (hG : Tab hI G games) (hL : games.length = L) (hLb : L ≤ 2147483648)
    (htm : ∀ i, i < L → (games.getD i []).length = 2 ∧ ∀ k, k < 2 → 0 ≤ tm games i k ∧ tm games i k < n) {bg br bm cg cr cm : Nat} {sg sr st : List Value} :
    ∀ (N : Nat) (given room : List Int) (met : List Bool) (m : PMap) (i : Nat), left met < N → given.length = L → room.length = n → met.length = n → (∀ x, x < n → 0 ≤ room.getD x 0 ∧ room.getD x 0 ≤ 9223372036854775807) →
      (given.getD i (-1) = -1 ∨ metB met (given.getD i (-1)) = true) → i < L → GMem m bg br bm sg sr st given room met → Beside hI m →
      ACalls Try.prog S.l10Give.id [.slice G L cG, .slice (some ⟨bg, 0, none⟩) L cg, .slice (some ⟨br, 0, none⟩) n cr, .int .i64 i, .slice (some ⟨bm, 0, none⟩) n cm] (over hI m) (GiveQ games n hI m bg br bm sg sr st given room met i) := by
  intro N
  induction N with
  | zero => intro given room met m i hN; omega
  | succ N ihN =>
    intro given room met m i hN hgl hrl hml hroom hpre hi hM hB
    obtain ⟨hrow2, htr⟩ := htm i hi
    -- from team k on
    have loop0 : ∀ (kk k : Nat) (met1 : List Bool) (m1 : PMap), k + kk = 2 → GMem m1 bg br bm sg sr st given room met1 → Beside hI m1 → Same m m1 bg br bm → MetLe met met1 → (∀ q, q < k → metB met1 (tm games i q) = true) →
        (∀ x : Nat, x < n → metB met1 x = true → metB met x = false → room.getD x 0 = 0 ∧ ∀ j, j < given.length → given.getD j (-1) = (x : Int) → Both games met1 j) →
        S.l10Give.L0 (GiveQ games n hI m bg br bm sg sr st given room met i) (.slice G L cG) (.slice (some ⟨bg, 0, none⟩) L cg) (.slice (some ⟨br, 0, none⟩) n cr) (.int .i64 i) (.slice (some ⟨bm, 0, none⟩) n cm) (.int .i64 k) (over hI m1) := by
      intro kk
      induction kk with
      | zero =>
        intro k met1 m1 hk M1 B1 S1 le1 hdone hprop
        refine S.l10Give.L0_step _ _ _ _ _ _ _ _ _ _ _ _ _ _ _ _ (dec_split (fun hc => by omega) (fun _ => ?_))
        exact ⟨false, given, room, met1, m1, rfl, rfl, B1, M1, S1, fun h => (by cases h), fun _ => ⟨rfl, rfl, le1, ⟨hdone 0 (by omega), hdone 1 (by omega)⟩, hprop⟩⟩
      | succ kk ihk =>
        intro k met1 m1 hk M1 B1 S1 le1 hdone hprop
        obtain ⟨t0, t1⟩ := htr k (by omega)
        have hml1 : met1.length = n := le1.1.trans hml
        have hbn : (tm games i k).toNat < n := by omega
        have etm : ((tm games i k).toNat : Int) = tm games i k := by omega
        refine S.l10Give.L0_step _ _ _ _ _ _ _ _ _ _ _ _ _ _ _ _ (dec_split (fun hc => ?_) (fun hc => by omega))
        refine hG.rd (over_ext B1) hL (by omega) (by omega) fun D dD hD _ => ?_
        rw [Int.toNat_natCast i] at hD ⊢
        refine hD.rd (over_ext B1) rfl (by omega) (by omega) ?_
        rw [Int.toNat_natCast k]
        rw [show (games.getD i []).getD k 0 = tm games i k from rfl]
        refine over_rdB M1.t hml1 t0 t1 (bool_split (fun hmet => ?_) (fun hnot => ?_))
        · rw [wsucc (by omega)]
          refine ihk (k + 1) met1 m1 (by omega) M1 B1 S1 le1 (fun q hq => ?_) hprop
          by_cases hqk : q = k
          · rw [hqk]; exact hmet
          · exact hdone q (by omega)
        · -- it is met now
          have hbm : metB met (tm games i k) = false := by
            cases hh : metB met (tm games i k) with
            | false => rfl
            | true => rw [le1.2 _ hh] at hnot; cases hnot
          refine over_wr M1.t (by simp [hml1]) t0 t1 rfl ?_
          have eset : (BL met1).set (tm games i k).toNat (.bool true) = BL (met1.set (tm games i k).toNat true) := by rw [BL, BL, ← List.map_set]
          rw [eset]
          obtain ⟨M2, S2⟩ := M1.putT (met1.set (tm games i k).toNat true)
          have B2 := B1.put (b := bm) (by rw [M1.t]; simp) (BL (met1.set (tm games i k).toNat true) ++ st)
          have le2 := metLe_set met1 (tm games i k)
          have hin : metB (met1.set (tm games i k).toNat true) (tm games i k) = true := metB_set t0 (by omega)
          have hlt2 : left (met1.set (tm games i k).toNat true) < N := by
            have h1 := left_set (b := tm games i k) (by omega) hnot
            have h2 := left_le le1
            omega
          generalize hm2 : met1.set (tm games i k).toNat true = met2 at *
          generalize m1.put bm (BL met2 ++ st) = m2 at *
          have hml2 : met2.length = n := le2.1.trans hml1
          refine over_rd M2.r hrl t0 t1 (dec_split (fun hpos => ?_) (fun hzero => ?_))
          · -- there is room
            obtain ⟨r0, r1⟩ := hroom (tm games i k).toNat hbn
            refine over_rd M2.r hrl t0 t1 (over_wr M2.r (by simp [hrl]) t0 t1 rfl ?_)
            rw [w64 (by omega) (by omega)]
            have er : (LM room).set (tm games i k).toNat (.int .i64 (room.getD (tm games i k).toNat 0 - 1)) = LM (room.set (tm games i k).toNat (room.getD (tm games i k).toNat 0 - 1)) := by rw [LM, LM, ← List.map_set]
            rw [er]
            obtain ⟨M3, S3⟩ := M2.putR (room.set (tm games i k).toNat (room.getD (tm games i k).toNat 0 - 1))
            have B3 := B2.put (b := br) (by rw [M2.r]; simp) (LM (room.set (tm games i k).toNat (room.getD (tm games i k).toNat 0 - 1)) ++ sr)
            refine over_wr M3.g (by simp [hgl]) (by omega) (by omega) rfl ?_
            have eg : (LM given).set (Int.toNat i) (.int .i64 (tm games i k)) = LM (given.set i (tm games i k)) := by rw [LM, LM, ← List.map_set, Int.toNat_natCast]
            rw [eg]
            obtain ⟨M4, S4⟩ := M3.putG (given.set i (tm games i k))
            have B4 := B3.put (b := bg) (by rw [M3.g]; simp) (LM (given.set i (tm games i k)) ++ sg)
            refine ⟨true, _, _, _, _, rfl, rfl, B4, M4, (S1.trans S2).trans (S3.trans S4), fun _ => ?_, fun h => (by cases h)⟩
            refine { gl := by simp, rl := by simp, a := ?_, b := fun x hx => ?_, c := fun x hx => ?_, d := fun j hj hne => .inl (lget_set_ne _ (Ne.symm hne) _ _), e := le1.trans le2 }
            · rw [lget_set_self (by omega)]
              have : k = 0 ∨ k = 1 := by omega
              rcases this with rfl | rfl
              · exact .inl rfl
              · exact .inr rfl
            · rw [count_diff (by omega)]
              by_cases hxb : (tm games i k).toNat = x
              · subst hxb
                rw [lget_set_self (by omega), if_pos etm.symm]; omega
              · rw [lget_set_ne _ hxb, if_neg (by omega)]; omega
            · by_cases hxb : (tm games i k).toNat = x
              · subst hxb; rw [lget_set_self (by omega)]; omega
              · rw [lget_set_ne _ hxb]; exact (hroom x hx).1
          · -- no room: others are asked
            have hz : room.getD (tm games i k).toNat 0 = 0 := by have := (hroom _ hbn).1; omega
            have loop1 : ∀ (jj j : Nat) (met3 : List Bool) (m3 : PMap), j + jj = L → GMem m3 bg br bm sg sr st given room met3 → Beside hI m3 → Same m2 m3 bg br bm → MetLe met2 met3 →
                (∀ x : Nat, x < n → metB met3 x = true → metB met x = false → (x : Int) ≠ tm games i k → room.getD x 0 = 0 ∧ ∀ j', j' < given.length → given.getD j' (-1) = (x : Int) → Both games met3 j') →
                (∀ j', j' < j → given.getD j' (-1) = tm games i k → Both games met3 j') →
                S.l10Give.L1 (GiveQ games n hI m bg br bm sg sr st given room met i) (.slice G L cG) (.slice (some ⟨bg, 0, none⟩) L cg) (.slice (some ⟨br, 0, none⟩) n cr) (.int .i64 i) (.slice (some ⟨bm, 0, none⟩) n cm) (.int .i64 k) (.int .i64 (tm games i k)) (.int .i64 j) (over hI m3) := by
              intro jj
              induction jj with
              | zero =>
                intro j met3 m3 hj M3 B3 S3 le3 hp3 hd3
                refine S.l10Give.L1_step _ _ _ _ _ _ _ _ _ _ _ _ _ _ _ _ _ _ (dec_split (fun hc => by omega) (fun _ => ?_))
                rw [wsucc (by omega)]
                refine ihk (k + 1) met3 m3 (by omega) M3 B3 ((S1.trans S2).trans S3) (le1.trans (le2.trans le3)) (fun q hq => ?_) (fun x hx h1 h2 => ?_)
                · by_cases hqk : q = k
                  · rw [hqk]; exact le3.2 _ hin
                  · exact le3.2 _ (le2.2 _ (hdone q (by omega)))
                · by_cases hxb : (x : Int) = tm games i k
                  · have hxe : x = (tm games i k).toNat := by omega
                    refine ⟨by rw [hxe]; exact hz, fun j' hj' hgj => hd3 j' (by omega) (hgj.trans hxb)⟩
                  · exact hp3 x hx h1 h2 hxb
              | succ jj ihj =>
                intro j met3 m3 hj M3 B3 S3 le3 hp3 hd3
                have hml3 : met3.length = n := le3.1.trans hml2
                refine S.l10Give.L1_step _ _ _ _ _ _ _ _ _ _ _ _ _ _ _ _ _ _ (dec_split (fun hc => ?_) (fun hc => by omega))
                refine over_rd M3.g hgl (by omega) (by omega) ?_
                have ed : given.getD (Int.toNat j) 0 = given.getD j (-1) := by
                  have : j < given.length := by omega
                  simp [List.getD_eq_getElem?_getD, this]
                rw [ed]
                refine ndec_split (fun hne => ?_) (fun heq => ?_)
                · rw [wsucc (by omega)]
                  refine ihj (j + 1) met3 m3 (by omega) M3 B3 S3 le3 hp3 (fun j' hj' hg' => ?_)
                  by_cases hjj : j' = j
                  · rw [hjj] at hg'; exact absurd hg' hne
                  · exact hd3 j' (by omega) hg'
                · have hij : j ≠ i := by
                    intro e
                    rw [e] at heq
                    rcases hpre with h | h
                    · omega
                    · rw [heq, hbm] at h; cases h
                  have hl3 : left met3 < N := by have := left_le le3; omega
                  refine (ihN given room met3 m3 j hl3 hgl hrl hml3 hroom (.inr (by rw [heq]; exact le3.2 _ hin)) (by omega) M3 B3).mono ?_
                  rintro u h2 ⟨r, given', room', met4, m4, rfl, rfl, B4, M4, S4, hT, hF⟩
                  refine ⟨r, rfl, bool_split (fun hr => ?_) (fun hr => ?_)⟩
                  · have T := hT hr
                    have hgl' : given'.length = L := T.gl.trans hgl
                    refine over_wr M4.g (by simp [hgl']) (by omega) (by omega) rfl ?_
                    have eg : (LM given').set (Int.toNat i) (.int .i64 (tm games i k)) = LM (given'.set i (tm games i k)) := by rw [LM, LM, ← List.map_set, Int.toNat_natCast]
                    rw [eg]
                    obtain ⟨M5, S5⟩ := M4.putG (given'.set i (tm games i k))
                    have B5 := B4.put (b := bg) (by rw [M4.g]; simp) (LM (given'.set i (tm games i k)) ++ sg)
                    have hgi : given'.getD i (-1) = given.getD i (-1) := by
                      rcases T.d i (by omega) (Ne.symm hij) with h | ⟨h1, h2, _⟩
                      · exact h
                      · rcases hpre with h | h
                        · exact absurd h h1
                        · rw [(le1.trans (le2.trans le3)).2 _ h] at h2; cases h2
                    refine ⟨true, _, _, _, _, rfl, rfl, B5, M5, ((S1.trans S2).trans S3).trans (S4.trans S5), fun _ => ?_, fun h => (by cases h)⟩
                    refine { gl := by simp [T.gl], rl := T.rl, a := ?_, b := fun x hx => ?_, c := T.c, d := fun j' hj' hne => ?_, e := (le1.trans (le2.trans le3)).trans T.e }
                    · rw [lget_set_self (by omega)]
                      have : k = 0 ∨ k = 1 := by omega
                      rcases this with rfl | rfl
                      · exact .inl rfl
                      · exact .inr rfl
                    · have hb := T.b x hx
                      have c1 := count_set' (x : Int) (tm games i k) (-1) given' i (by omega)
                      have c2 := count_set' (x : Int) (-1) (-1) given j (by omega)
                      have c3 := count_set' (x : Int) (-1) (-1) given i (by omega)
                      rw [hgi] at c1
                      rw [heq] at c2
                      have h3 : ¬ ((-1 : Int) = (x : Int)) := by omega
                      rw [if_neg h3] at c2 c3
                      omega
                    · rw [lget_set_ne _ (Ne.symm hne)]
                      by_cases hjj : j' = j
                      · subst hjj
                        exact .inr ⟨by rw [heq]; omega, by rw [heq]; exact hbm, T.a⟩
                      · rcases T.d j' hj' hjj with h | ⟨h1, h2, h3⟩
                        · exact .inl h
                        · refine .inr ⟨h1, ?_, h3⟩
                          cases hh : metB met (given.getD j' (-1)) with
                          | false => rfl
                          | true => rw [(le1.trans (le2.trans le3)).2 _ hh] at h2; cases h2
                  · obtain ⟨rfl, rfl, F⟩ := hF hr
                    rw [wsucc (by omega)]
                    refine ihj (j + 1) met4 m4 (by omega) M4 B4 (S3.trans S4) (le3.trans F.e) (fun x hx h1 h2 hxb => ?_) (fun j' hj' hg' => ?_)
                    · cases hh : metB met3 x with
                      | true =>
                        obtain ⟨q1, q2⟩ := hp3 x hx hh h2 hxb
                        exact ⟨q1, fun j' hj' hg' => (q2 j' hj' hg').mono F.e⟩
                      | false => exact F.g x hx h1 hh
                    · by_cases hjj : j' = j
                      · rw [hjj]; exact F.f
                      · exact (hd3 j' (by omega) hg').mono F.e
            refine loop1 L 0 met2 m2 (by omega) M2 B2 (Same.refl _ _ _ _) (MetLe.refl _) (fun x hx h1 h2 hxb => ?_) (fun j' hj' => by omega)
            have hx1 : metB met1 x = true := by
              rw [← hm2, metB_set_ne t0 (by omega) hxb] at h1; exact h1
            obtain ⟨q1, q2⟩ := hprop x hx hx1 h2
            exact ⟨q1, fun j' hj' hg' => (q2 j' hj' hg').mono le2⟩
    refine S.l10Give.step _ _ _ _ _ _ _ _ _ _ _ _ _ _ _ (loop0 2 0 met m (by omega) hM hB (Same.refl _ _ _ _) (MetLe.refl _) (fun q hq => by omega) (fun x _ h1 h2 => by rw [h1] at h2; cases h2))

end Go.Proofs.Ytbppeajpjnlobaa

/- Whether a team can be first, as the reference tells it: the points and the meetings that are left. -/
set_option linter.unusedVariables false
set_option linter.unusedSimpArgs false
namespace Go.Proofs.Ytbppeajpjnlobaa
open Go.HL

def hasA (a : Int) (p : List Int) : Bool := decide (a = p.getD 0 0) || decide (a = p.getD 1 0)
def winPts (a : Int) (pts : List Int) (p : List Int) : List Int := if hasA a p then pts.set a.toNat (IntKind.wrap .i64 (pts.getD a.toNat 0 + 2)) else pts
def twice (p : List Int) : List (List Int) := [p, p]
def leftOf (a : Int) (ps : List (List Int)) : List (List Int) := ps.filter fun p => !hasA a p
def allPairs (n : Int) (rs : List (List Int)) : List (List Int) := rs.flatMap (pairsOf n)

theorem allPairs_cons (n : Int) (r : List Int) (rs : List (List Int)) : allPairs n (r :: rs) = pairsOf n r ++ allPairs n rs := by simp [allPairs]
theorem leftOf_app (a : Int) (ps qs : List (List Int)) : leftOf a (ps ++ qs) = leftOf a ps ++ leftOf a qs := by simp [leftOf]

theorem winPts_len (a : Int) (pts : List Int) (p : List Int) : (winPts a pts p).length = pts.length := by unfold winPts; split <;> simp
theorem fold_winPts_len (a : Int) : ∀ (ps : List (List Int)) (pts : List Int), (ps.foldl (winPts a) pts).length = pts.length
  | [], pts => rfl
  | p :: ps, pts => by rw [List.foldl_cons, fold_winPts_len a ps, winPts_len]

/-- The state of the first loops: points in a changing block, meetings in a growing list. -/
structure FSt (hI : Heap) (m : PMap) (h : Heap) (bp : Nat) (n : Int) (pts : List Int) (G : Option Addr) (l c : Nat) (gs : List (List Int)) (vs : List Value) : Prop where
  beside : Beside hI m
  cells : m bp = some (LM pts)
  plen : (pts.length : Int) = n
  vec : Vec (over hI m) h G l c 1 vs
  each : Each hI vs gs

theorem FSt.ext {hI : Heap} {m : PMap} {h : Heap} {bp : Nat} {n : Int} {pts : List Int} {G : Option Addr} {l c : Nat} {gs : List (List Int)} {vs : List Value} (s : FSt hI m h bp n pts G l c gs vs) : Ext hI h := (over_ext s.beside).trans s.vec.ext

/-- A new block that is only read, beneath it all. -/
theorem FSt.base {hI : Heap} {m : PMap} {h : Heap} {bp : Nat} {n : Int} {pts : List Int} {G : Option Addr} {l c : Nat} {gs : List (List Int)} {vs : List Value} (s : FSt hI m h bp n pts G l c gs vs) {b : Nat} (hf : h.fresh b) (k : Blk) :
    FSt (hI.upd b k) m (h.upd b k) bp n pts G l c gs vs ∧ hI.fresh b := by
  obtain ⟨v2, f2⟩ := s.vec.beside hf k
  have f3 := (over_fresh f2).1
  rw [over_base f2] at v2
  exact ⟨⟨s.beside.base f2 k, s.cells, s.plen, v2, s.each.mono (Ext.upd f3 k)⟩, f3⟩
/-- A call beside it all. -/
theorem FSt.call {hI : Heap} {m : PMap} {h : Heap} {bp : Nat} {n : Int} {pts : List Int} {G : Option Addr} {l c : Nat} {gs : List (List Int)} {vs : List Value} (s : FSt hI m h bp n pts G l c gs vs) {f : FuncId} {args : List Value} {R : Value → Heap → Prop}
    (cc : ACalls Try.prog f args hI fun u h2 => Ext hI h2 ∧ R u h2) : ACalls Try.prog f args h fun u h2 => ∃ hJ, Ext hI hJ ∧ FSt hJ m h2 bp n pts G l c gs vs ∧ R u hJ := by
  refine (s.vec.call (over_frame s.beside cc)).mono ?_
  rintro u h2 ⟨hV, v2, hJ, hb, rfl, e, r⟩
  exact ⟨hJ, e, ⟨hb, s.cells, s.plen, v2, s.each.mono e⟩, r⟩

theorem Each.app {h : Heap} : ∀ {ws : List Value} {yss : List (List Int)} {vs : List Value} {xss : List (List Int)}, Each h vs xss → Each h ws yss → Each h (vs ++ ws) (xss ++ yss) := by
  intro ws yss vs xss s t
  refine ⟨by simp [s.1, t.1], fun i u ys ha hb => ?_⟩
  rw [List.getElem?_append] at ha hb
  rw [s.1] at ha
  split at ha
  · rename_i hi; rw [if_pos hi] at hb; exact s.2 i u ys ha hb
  · rename_i hi; rw [if_neg hi] at hb; exact t.2 _ u ys ha hb
theorem FSt.append {hI : Heap} {m : PMap} {h : Heap} {bp : Nat} {n : Int} {pts : List Int} {G B : Option Addr} {l c q bytes : Nat} {gs gs2 : List (List Int)} {vs news z : List Value} {K : Value → Heap → Prop} (s : FSt hI m h bp n pts G l c gs vs)
    (hB : Row h B (q * 1) news) (hn : news.length = q * 1) (h1 : ∀ v ∈ news, v.oneCell' = true) (hb : (l + q) * bytes ≤ 140737488355328) (h63 : l + q ≤ 9223372036854775807) (hz : z.length = 1) (hE : Each hI news gs2)
    (k : ∀ hJ h' A' c', Ext hI hJ → FSt hJ m h' bp n pts A' (l + q) c' (gs ++ gs2) (vs ++ news) → K (.slice A' (l + q) c') h') : SAppend h 1 bytes z G l c B q K := by
  refine s.vec.append2 hB hn h1 hb h63 hz fun hV h' A' c' e v => ?_
  rcases e with rfl | ⟨x, kk, hf, rfl⟩
  · exact k hI h' A' c' (Ext.refl _) ⟨s.beside, s.cells, s.plen, v, s.each.app hE⟩
  · rw [over_base hf] at v
    have hx := Ext.upd (over_fresh hf).1 kk
    exact k _ h' A' c' hx ⟨s.beside.base hf kk, s.cells, s.plen, v, (s.each.app hE).mono hx⟩

/-- The growing list is done: it is only read from now on. -/
theorem FSt.freeze {hI : Heap} {m : PMap} {h : Heap} {bp : Nat} {n : Int} {pts : List Int} {G : Option Addr} {l c : Nat} {gs : List (List Int)} {vs : List Value} (s : FSt hI m h bp n pts G l c gs vs) :
    ∃ hK, Ext hI hK ∧ Beside hK m ∧ h = over hK m ∧ Tab hK G gs ∧ gs.length = l := by
  have hl : gs.length = l := by rw [← s.each.1, s.vec.len, Nat.mul_one]
  obtain ⟨hvl, ⟨rfl, rfl, rfl, e⟩ | ⟨x, sp, rfl, hx, e, _⟩⟩ := s.vec
  · have hv : vs = [] := List.eq_nil_of_length_eq_zero (by simpa using hvl)
    subst hv
    exact ⟨hI, Ext.refl _, s.beside, e, s.each.tab (Seg.nil_none _), hl⟩
  · rw [over_base hx] at e
    have e2 := Ext.upd (over_fresh hx).1 (.cells (vs ++ sp))
    exact ⟨_, e2, s.beside.base hx _, e, (s.each.mono e2).tab (Seg.new _ _ _ _), hl⟩

theorem S.l10First.inner {n a : Int} {A : Option Addr} {c0 l0 : Nat} {b bp : Nat} {hI1 : Heap} (a0 : 0 ≤ a) (an : a < n) (i : Nat) (hi40 : i ≤ 40) (ps : List (List Int)) (P : Option Addr) (cP : Nat) (K : Value → Heap → Prop) (hps : ∀ p ∈ ps, p.length = 2) (hbig : ps.length ≤ 14) :
    ∀ (k j : Nat) (pts : List Int) (G : Option Addr) (l c : Nat) (gs : List (List Int)) (vs : List Value) (hJ h2 : Heap) (m : PMap), j + k = ps.length → Ext hI1 hJ → FSt hJ m h2 bp n pts G l c gs vs → Tab hJ P ps → l ≤ 28 * i + 2 * j →
      (∀ (pts' : List Int) (G' : Option Addr) (l' c' : Nat) (gs' : List (List Int)) (vs' : List Value) (hK h3 : Heap) (m' : PMap), Ext hI1 hK → FSt hK m' h3 bp n pts' G' l' c' gs' vs' → l' ≤ 28 * (i + 1) → pts' = (ps.drop j).foldl (winPts a) pts → gs' = gs ++ (leftOf a (ps.drop j)).flatMap twice →
        S.l10First.L0 K (.int .i64 a) (.pointer (some ⟨b, 0, none⟩)) (.slice (some ⟨bp, 0, none⟩) n.toNat n.toNat) (.slice G' l' c') (.int .i64 ((i + 1 : Nat) : Int)) h3) →
      S.l10First.L1 K (.int .i64 a) (.pointer (some ⟨b, 0, none⟩)) (.slice (some ⟨bp, 0, none⟩) n.toNat n.toNat) (.slice G l c) (.int .i64 i) (.slice P ps.length cP) (.int .i64 j) h2 := by
  intro k
  induction k with
  | zero =>
    intro j pts G l c gs vs hJ h2 m hj he s hP hlb hk
    refine S.l10First.L1_step K _ _ _ _ _ _ _ _ _ _ _ _ _ _ _ (dec_split (fun hc => by omega) (fun _ => ?_))
    rw [wsucc (by omega)]
    refine hk pts G l c gs vs hJ h2 m he s (by omega) ?_ ?_
    · rw [List.drop_eq_nil_of_le (by omega)]; rfl
    · rw [List.drop_eq_nil_of_le (by omega)]; simp [leftOf]
  | succ k ih =>
    intro j pts G l c gs vs hJ h2 m hj he s hP hlb hk
    have hj' : j < ps.length := by omega
    have e1 : ps.getD (Int.toNat j) [] = ps[j] := by rw [Int.toNat_natCast, List.getD_eq_getElem?_getD, List.getElem?_eq_getElem hj']; rfl
    have e2 : ps[j].length = 2 := hps _ (List.getElem_mem hj')
    rw [List.drop_eq_getElem_cons hj'] at hk
    refine S.l10First.L1_step K _ _ _ _ _ _ _ _ _ _ _ _ _ _ _ (dec_split (fun hc k37 hk37 => ?_) (fun hc => by omega))
    have yes : hasA a ps[j] = true → k37 [.bool true] h2 := by
      intro hy
      refine hk37 _ _ (bool_split (fun _ => ?_) (fun hh => by cases hh))
      refine s.vec.under_rd (sp := []) (by rw [List.append_nil]; exact s.cells) (by have := s.plen; omega) a0 (by omega) (s.vec.under_wr (sp := []) (cs := LM pts) (by rw [List.append_nil]; exact s.cells) (by have := s.plen; simp; omega) a0 (by omega) rfl fun h3 v3 => ?_)
      have ew : (LM pts).set a.toNat (.int .i64 (IntKind.wrap .i64 (pts.getD a.toNat 0 + 2))) ++ [] = LM (winPts a pts ps[j]) := by rw [winPts, if_pos hy, List.append_nil, LM, LM, ← List.map_set]
      rw [ew] at v3
      rw [wsucc (by omega)]
      refine ih (j + 1) _ G l c gs vs hJ h3 _ (by omega) he ⟨s.beside.put (by rw [s.cells]; simp) _, put_self _ _ _, by rw [winPts_len]; exact s.plen, v3, s.each⟩ hP (by omega) fun pts' G' l' c' gs' vs' hK h4 m' eK s' hl' hp' hg' => hk pts' G' l' c' gs' vs' hK h4 m' eK s' hl' (by rw [List.foldl_cons]; exact hp') ?_
      rw [hg', leftOf, leftOf, List.filter_cons]
      simp [hy]
    have no : hasA a ps[j] = false → k37 [.bool false] h2 := by
      intro hno
      refine hk37 _ _ (bool_split (fun hh => by cases hh) (fun _ => ?_))
      refine hP.rd s.ext rfl (by omega) (by omega) fun D dD hD hdD => hP.rd s.ext rfl (by omega) (by omega) fun D2 dD2 hD2 hdD2 => ?_
      rw [e1] at hD hD2 hdD hdD2 ⊢
      intro b64 hf
      obtain ⟨s2, f2⟩ := s.base hf (.cells [.slice D ps[j].length dD, .slice D2 ps[j].length dD2])
      have eb := Ext.upd f2 (.cells [.slice D ps[j].length dD, .slice D2 ps[j].length dD2])
      have hseg : Seg (h2.upd b64 (.cells [.slice D ps[j].length dD, .slice D2 ps[j].length dD2])) (some ⟨b64, 0, none⟩) [.slice D ps[j].length dD, .slice D2 ps[j].length dD2] := Seg.new' _ _ _
      have hE : Each (hJ.upd b64 (.cells [.slice D ps[j].length dD, .slice D2 ps[j].length dD2])) [.slice D ps[j].length dD, .slice D2 ps[j].length dD2] (twice ps[j]) :=
        Each.app (Each.snoc (Each.nil _) ⟨D, dD, rfl, hD.mono eb, hdD⟩) (Each.snoc (Each.nil _) ⟨D2, dD2, rfl, hD2.mono eb, hdD2⟩)
      refine s2.append (q := 2) (hseg.row rfl) rfl (by simp [Value.oneCell']) (by omega) (by omega) rfl hE fun hK h3 A' c' eK s3 => ⟨_, _, _, rfl, ?_⟩
      rw [wsucc (by omega)]
      refine ih (j + 1) _ A' (l + 2) c' _ _ hK h3 m (by omega) (he.trans (eb.trans eK)) s3 (hP.mono (eb.trans eK)) (by omega) fun pts' G' l' c' gs' vs' hL h4 m' eL s' hl' hp' hg' => hk pts' G' l' c' gs' vs' hL h4 m' eL s' hl' ?_ ?_
      · rw [List.foldl_cons, winPts, hno]; exact hp'
      · rw [hg', leftOf, leftOf, List.filter_cons]
        simp [hno]
    refine hP.rd s.ext rfl (by omega) (by omega) fun D dD hD hdD => ?_
    rw [e1] at hD hdD ⊢
    refine hD.rd s.ext rfl (by omega) (by omega) (dec_split (fun hy => ?_) (fun hy => ?_))
    · rw [decide_eq_true hy]; exact yes (by rw [hasA]; simpa using .inl hy)
    · refine hP.rd s.ext rfl (by omega) (by omega) fun D2 dD2 hD2 hdD2 => ?_
      rw [e1] at hD2 hdD2 ⊢
      refine hD2.rd s.ext rfl (by omega) (by omega) ?_
      by_cases hy2 : a = ps[j].getD (Int.toNat 1) 0
      · rw [decide_eq_true hy2]; exact yes (by rw [hasA]; simpa using .inr hy2)
      · rw [decide_eq_false hy2]; exact no (by rw [hasA]; simpa using ⟨hy, hy2⟩)

theorem S.l10First.outer {n a : Int} {A : Option Addr} {rs : List (List Int)} {l0 c0 : Nat} {b bp : Nat} {hI1 : Heap} (a0 : 0 ≤ a) (an : a < n) (h14 : n ≤ 14) (hr : Rds hI1 A rs) (hl : rs.length = l0) (hl40 : l0 ≤ 40)
    (hn : hI1.get b (0 + 0) = some (.int .i64 n)) (hs : hI1.get b (0 + 1) = some (.slice A l0 c0)) (K : Value → Heap → Prop) :
    ∀ (k i : Nat) (pts : List Int) (G : Option Addr) (l c : Nat) (gs : List (List Int)) (vs : List Value) (hJ h2 : Heap) (m : PMap), i + k = l0 → Ext hI1 hJ → FSt hJ m h2 bp n pts G l c gs vs → l ≤ 28 * i →
      (∀ (pts' : List Int) (G' : Option Addr) (l' c' : Nat) (gs' : List (List Int)) (vs' : List Value) (hK h3 : Heap) (m' : PMap), Ext hI1 hK → FSt hK m' h3 bp n pts' G' l' c' gs' vs' → l' ≤ 28 * l0 → pts' = (allPairs n (rs.drop i)).foldl (winPts a) pts → gs' = gs ++ (leftOf a (allPairs n (rs.drop i))).flatMap twice →
        SAlloc h3 [] fun b69 h70 => S.l10First.L2 K (.int .i64 a) (.pointer (some ⟨b, 0, none⟩)) (.slice (some ⟨bp, 0, none⟩) n.toNat n.toNat) (.slice G' l' c') (.slice (some ⟨b69, 0, none⟩) 0 0) (.int .i64 0) h70) →
      S.l10First.L0 K (.int .i64 a) (.pointer (some ⟨b, 0, none⟩)) (.slice (some ⟨bp, 0, none⟩) n.toNat n.toNat) (.slice G l c) (.int .i64 i) h2 := by
  intro k
  induction k with
  | zero =>
    intro i pts G l c gs vs hJ h2 m hi he s hlb hk
    refine S.l10First.L0_step K _ _ _ _ _ _ _ _ _ _ _ ⟨A, l0, c0, s.ext.get (he.get hs), dec_split (fun hc => by omega) (fun _ => ?_)⟩
    have e9 : rs.drop i = [] := List.drop_eq_nil_of_le (by omega)
    refine hk pts G l c gs vs hJ h2 m he s (by omega) (by rw [e9]; rfl) (by rw [e9]; simp [allPairs, leftOf])
  | succ k ih =>
    intro i pts G l c gs vs hJ h2 m hi he s hlb hk
    have hir : i < rs.length := by omega
    rw [List.drop_eq_getElem_cons hir] at hk
    refine S.l10First.L0_step K _ _ _ _ _ _ _ _ _ _ _ ⟨A, l0, c0, s.ext.get (he.get hs), dec_split (fun hc => ⟨n, s.ext.get (he.get hn), A, l0, c0, s.ext.get (he.get hs), ?_⟩) (fun hc => by omega)⟩
    refine (hr.mono he).rd s.ext hl (by omega) (by omega) fun hr14 => ?_
    refine (s.call (S.l01Pairs.spec hr14 (by omega) h14)).mono ?_
    rintro u h3 ⟨hK, eK, s3, P, cP, rfl, hP⟩
    have e1 : rs.getD (Int.toNat i) [] = rs[i] := by rw [Int.toNat_natCast, List.getD_eq_getElem?_getD, List.getElem?_eq_getElem hir]; rfl
    rw [e1] at hP ⊢
    have hbig : (pairsOf n rs[i]).length ≤ 14 := by have := pairsFrom_len rs[i] n.toNat 0; unfold pairsOf; omega
    refine ⟨P, _, cP, rfl, S.l10First.inner (hI1 := hI1) (A := A) (c0 := c0) (l0 := l0) a0 an i (by omega) _ P cP K (fun p hp => pairsFrom_two _ _ _ p hp) hbig _ 0 pts G l c gs vs hK h3 m (Nat.zero_add _) (he.trans eK) s3 hP (by omega) fun pts' G' l' c' gs' vs' hL h4 m' eL s4 hl' hp' hg' => ?_⟩
    refine ih (i + 1) pts' G' l' c' gs' vs' hL h4 m' (by omega) eL s4 (by omega) fun pts2 G2 l2 c2 gs2 vs2 hM h5 m2 eM s5 hl2 hp2 hg2 => hk pts2 G2 l2 c2 gs2 vs2 hM h5 m2 eM s5 hl2 ?_ ?_
    · rw [hp2, hp', List.drop_zero, allPairs_cons, List.foldl_append]; rfl
    · rw [hg2, hg', List.drop_zero, allPairs_cons, leftOf_app, List.flatMap_append, List.append_assoc]; rfl

end Go.Proofs.Ytbppeajpjnlobaa

/- Whether a team can be first, as the reference tells it: the room of all teams. -/
set_option linter.unusedVariables false
set_option linter.unusedSimpArgs false
namespace Go.Proofs.Ytbppeajpjnlobaa
open Go.HL

def roomAt (a : Int) (pts : List Int) (x : Nat) : Int := IntKind.wrap .i64 (pts.getD a.toNat 0 - pts.getD x 0)
def roomsTo (a : Int) (pts : List Int) (k : Nat) : List Int := (List.range k).map (roomAt a pts)
theorem roomsTo_succ (a : Int) (pts : List Int) (k : Nat) : roomsTo a pts (k + 1) = roomsTo a pts k ++ [roomAt a pts k] := by simp [roomsTo, List.range_succ]
theorem roomsTo_len (a : Int) (pts : List Int) (k : Nat) : (roomsTo a pts k).length = k := by simp [roomsTo]
theorem roomsTo_get (a : Int) (pts : List Int) {k x : Nat} (h : x < k) : (roomsTo a pts k).getD x 0 = roomAt a pts x := by simp [roomsTo, List.getD_eq_getElem?_getD, h]

theorem S.l10First.rooms {n a : Int} {G : Option Addr} {gl gc : Nat} {b bp : Nat} {hI1 : Heap} {pts : List Int} (a0 : 0 ≤ a) (an : a < n) (h14 : n ≤ 14) (hn : hI1.get b (0 + 0) = some (.int .i64 n)) (K : Value → Heap → Prop) :
    ∀ (k x : Nat) (R : Option Addr) (l c : Nat) (hJ h2 : Heap) (m : PMap), (x : Int) + k = n → Ext hI1 hJ → Beside hJ m → m bp = some (LM pts) → (pts.length : Int) = n → Vec (over hJ m) h2 R l c 1 (LM (roomsTo a pts x)) →
      (∀ h3, Ext hI1 h3 → (∃ y : Nat, (y : Int) < n ∧ roomAt a pts y < 0) → K (.bool false) h3) → (∀ y : Nat, y < x → 0 ≤ roomAt a pts y) →
      (∀ (R' : Option Addr) (l' c' : Nat) (hK h3 : Heap), Ext hI1 hK → Beside hK m → Vec (over hK m) h3 R' l' c' 1 (LM (roomsTo a pts n.toNat)) → (∀ y : Nat, (y : Int) < n → 0 ≤ roomAt a pts y) →
        ((gl : Int) = (gl : Int) ∧ 0 ≤ (gl : Int) ∧ (gl : Int) * 8 ≤ 281474976710656 ∧ (gl : Int) ≤ 9223372036854775807 ∧ SAlloc h3 (List.replicate (Int.toNat (gl : Int)) (.int .i64 0)) fun b93 h94 => S.l10First.L3 K (.pointer (some ⟨b, 0, none⟩)) (.slice G gl gc) (.slice R' l' c') (.slice (some ⟨b93, 0, none⟩) (Int.toNat (gl : Int)) (Int.toNat (gl : Int))) (.int .i64 0) h94)) →
      S.l10First.L2 K (.int .i64 a) (.pointer (some ⟨b, 0, none⟩)) (.slice (some ⟨bp, 0, none⟩) n.toNat n.toNat) (.slice G gl gc) (.slice R l c) (.int .i64 x) h2 := by
  intro k
  induction k with
  | zero =>
    intro x R l c hJ h2 m hx he hB hm hpl v hno hyes hk
    have e1 := (over_ext hB).trans v.ext
    have ex : x = n.toNat := by omega
    subst ex
    refine S.l10First.L2_step K _ _ _ _ _ _ _ _ _ _ _ _ _ _ ⟨n, e1.get (he.get hn), dec_split (fun hc => by omega) (fun _ => ?_)⟩
    exact hk R l c hJ h2 he hB v (fun y hy => hyes y (by omega))
  | succ k ih =>
    intro x R l c hJ h2 m hx he hB hm hpl v hno hyes hk
    have e1 := (over_ext hB).trans v.ext
    have hll : l = x := by have := v.len; simp only [LM, List.length_map, roomsTo_len, Nat.mul_one] at this; exact this.symm
    refine S.l10First.L2_step K _ _ _ _ _ _ _ _ _ _ _ _ _ _ ⟨n, e1.get (he.get hn), dec_split (fun hc => ?_) (fun hc => by omega)⟩
    refine v.under_rd (sp := []) (by rw [List.append_nil]; exact hm) (by omega) a0 (by omega) (v.under_rd (sp := []) (by rw [List.append_nil]; exact hm) (by omega) (by omega) (by omega) ?_)
    rw [Int.toNat_natCast]
    intro b85 hf
    obtain ⟨v2, f2⟩ := v.beside hf (.cells [.int .i64 (roomAt a pts x)])
    have e2 := Ext.upd (over_fresh f2).1 (.cells [.int .i64 (roomAt a pts x)])
    have hB2 := hB.base f2 (.cells [.int .i64 (roomAt a pts x)])
    rw [over_base f2] at v2
    have hseg : Seg (h2.upd b85 (.cells [.int .i64 (roomAt a pts x)])) (some ⟨b85, 0, none⟩) [.int .i64 (roomAt a pts x)] := Seg.new' _ _ _
    refine v2.append2 (m := 1) (news := [.int .i64 (roomAt a pts x)]) (hseg.row rfl) rfl (by simp [Value.oneCell']) (by omega) (by omega) rfl fun hV h3 A' c' eV v3 => ⟨_, _, _, rfl, ?_⟩
    have hform : ∃ hK, Ext hI1 hK ∧ Beside hK m ∧ hV = over hK m := by
      rcases eV with rfl | ⟨y, kk, hfy, rfl⟩
      · exact ⟨_, he.trans e2, hB2, rfl⟩
      · exact ⟨_, (he.trans e2).trans (Ext.upd (over_fresh hfy).1 kk), hB2.base hfy kk, over_base hfy kk⟩
    obtain ⟨hK, eK, hBK, rfl⟩ := hform
    have er : LM (roomsTo a pts x) ++ [.int .i64 (roomAt a pts x)] = LM (roomsTo a pts (x + 1)) := by rw [roomsTo_succ]; simp [LM]
    rw [er] at v3
    have hint : Ints h3 A' (roomsTo a pts (x + 1)) := v3.seg
    refine hint.rd (Ext.refl _) (by rw [roomsTo_len]; omega) (by omega) (by omega) ?_
    rw [Int.toNat_natCast, roomsTo_get _ _ (by omega)]
    refine dec_split (fun hneg => hno _ (eK.trans ((over_ext hBK).trans v3.ext)) ⟨x, by omega, hneg⟩) (fun hpos => ?_)
    rw [wsucc (by omega)]
    refine ih (x + 1) A' (l + 1) c' hK h3 m (by omega) eK hBK hm hpl v3 hno (fun y hy => ?_) hk
    by_cases hyx : y = x
    · rw [hyx]; omega
    · exact hyes y (by omega)

end Go.Proofs.Ytbppeajpjnlobaa

/- Sharing out points: when it can be done. -/
set_option linter.unusedVariables false
set_option linter.unusedSimpArgs false
namespace Go.Proofs.Ytbppeajpjnlobaa
open Go.HL

/-- The points of the meetings can be shared out so that no team has more than it may. -/
def Feasible (games : List (List Int)) (n : Nat) (cap : List Int) : Prop :=
  ∃ f : List Int, f.length = games.length ∧ (∀ j, j < games.length → f.getD j (-1) = tm games j 0 ∨ f.getD j (-1) = tm games j 1) ∧ ∀ x : Nat, x < n → (((f.count (x : Int)) : Nat) : Int) ≤ cap.getD x 0

def sumTo (g : Nat → Nat) : Nat → Nat
  | 0 => 0
  | n + 1 => sumTo g n + g n
theorem sumTo_le {g g' : Nat → Nat} : ∀ (n : Nat), (∀ x, x < n → g x ≤ g' x) → sumTo g n ≤ sumTo g' n
  | 0, _ => Nat.le_refl _
  | n + 1, h => Nat.add_le_add (sumTo_le n fun x hx => h x (by omega)) (h n (by omega))
theorem sumTo_congr {g g' : Nat → Nat} (n : Nat) (h : ∀ x, x < n → g x = g' x) : sumTo g n = sumTo g' n :=
  Nat.le_antisymm (sumTo_le n fun x hx => Nat.le_of_eq (h x hx)) (sumTo_le n fun x hx => Nat.le_of_eq (h x hx).symm)
theorem sumTo_add (g g' : Nat → Nat) : ∀ n, sumTo (fun x => g x + g' x) n = sumTo g n + sumTo g' n
  | 0 => rfl
  | n + 1 => by simp only [sumTo, sumTo_add g g' n]; omega
/-- One of the teams below n that are met. -/
def inM (n : Nat) (met : List Bool) (y : Int) : Bool := decide (0 ≤ y) && decide (y < n) && metB met y
theorem sum_count (n : Nat) (met : List Bool) : ∀ (l : List Int), sumTo (fun x => if metB met (x : Int) then l.count (x : Int) else 0) n = l.countP (inM n met)
  | [] => by
    have : sumTo (fun x => if metB met (x : Int) then ([] : List Int).count (x : Int) else 0) n = sumTo (fun _ => 0) n := sumTo_congr n fun x _ => by simp
    rw [this]
    have z : ∀ k, sumTo (fun _ => 0) k = 0 := fun k => by induction k with | zero => rfl | succ k ih => simp [sumTo, ih]
    simp [z]
  | y :: l => by
    have h1 : sumTo (fun x => if metB met (x : Int) then (y :: l).count (x : Int) else 0) n = sumTo (fun x => (if metB met (x : Int) then l.count (x : Int) else 0) + (if metB met (x : Int) = true ∧ y = (x : Int) then 1 else 0)) n := by
      refine sumTo_congr n fun x _ => ?_
      rw [List.count_cons]
      by_cases hm : metB met (x : Int) = true
      · by_cases hy : y = (x : Int) <;> simp [hm, hy]
      · simp [hm]
    rw [h1, sumTo_add, sum_count n met l, List.countP_cons]
    congr 1
    -- the one that is y
    have one : ∀ k, sumTo (fun x => if metB met (x : Int) = true ∧ y = (x : Int) then 1 else 0) k = if inM k met y = true then 1 else 0 := by
      intro k
      induction k with
      | zero =>
        have : inM 0 met y = false := by
          unfold inM
          by_cases h0 : 0 ≤ y
          · have : ¬ (y < ((0 : Nat) : Int)) := by omega
            rw [decide_eq_false this, Bool.and_false, Bool.false_and]
          · rw [decide_eq_false h0, Bool.false_and, Bool.false_and]
        simp [sumTo, this]
      | succ k ih =>
        rw [sumTo, ih]
        by_cases hy : y = (k : Int)
        · subst hy
          have a1 : inM k met (k : Int) = false := by simp [inM]
          have a2 : inM (k + 1) met (k : Int) = metB met (k : Int) := by
            have : ((k : Int) < ((k + 1 : Nat) : Int)) := by omega
            rw [inM, decide_eq_true this, decide_eq_true (by omega : (0 : Int) ≤ (k : Int))]; rfl
          rw [a1, a2]; simp
        · have a3 : inM (k + 1) met y = inM k met y := by
            have : (y < ((k + 1 : Nat) : Int)) ↔ (y < (k : Int)) := by omega
            simp only [inM, this]
          rw [a3]; simp [hy]
    exact one n

theorem countP_range {p : Int → Bool} (d : Int) : ∀ (l : List Int), l.countP p = (List.range l.length).countP fun j => p (l.getD j d)
  | [] => rfl
  | y :: l => by
    rw [List.countP_cons, countP_range d l, List.length_cons, List.range_succ_eq_map, List.countP_cons, List.countP_map]
    rfl
theorem countP_lt {p q : Nat → Bool} {l : List Nat} {i : Nat} (h : ∀ j, p j = true → q j = true) (hi : i ∈ l) (hp : p i = false) (hq : q i = true) : l.countP p < l.countP q := by
  induction l with
  | nil => cases hi
  | cons y l ih =>
    rw [List.countP_cons, List.countP_cons]
    have hle : l.countP p ≤ l.countP q := List.countP_mono_left fun x _ hx => h x hx
    rcases List.mem_cons.1 hi with rfl | hi
    · rw [hp, hq]; simp; omega
    · have := ih hi
      by_cases hy : p y = true
      · rw [if_pos hy, if_pos (h y hy)]; omega
      · rw [if_neg hy]; omega

/-- The set of met teams is too full. -/
theorem stuck {games : List (List Int)} {n L : Nat} {cap given room : List Int} {met : List Bool} {i : Nat} (hL : games.length = L) (hgl : given.length = L) (hi : i < L) (hgi : given.getD i (-1) = -1) (hF : Both games met i)
    (hg : ∀ x : Nat, x < n → metB met x = true → room.getD x 0 = 0 ∧ ∀ j, j < given.length → given.getD j (-1) = (x : Int) → Both games met j)
    (hinv : ∀ x : Nat, x < n → room.getD x 0 + ((given.count (x : Int) : Nat) : Int) = cap.getD x 0)
    (htm : ∀ i, i < L → (games.getD i []).length = 2 ∧ ∀ k, k < 2 → 0 ≤ tm games i k ∧ tm games i k < n) : ¬ Feasible games n cap := by
  rintro ⟨f, hfl, hft, hfc⟩
  have h1 : f.countP (inM n met) ≤ given.countP (inM n met) := by
    rw [← sum_count, ← sum_count]
    refine sumTo_le n fun x hx => ?_
    by_cases hm : metB met (x : Int) = true
    · rw [if_pos hm, if_pos hm]
      have a1 := hfc x hx
      have a2 := hinv x hx
      have a3 := (hg x hx hm).1
      omega
    · rw [if_neg hm, if_neg hm]; exact Nat.le_refl _
  rw [countP_range (-1) f, countP_range (-1) given, hfl, hgl, hL] at h1
  let both : Nat → Bool := fun j => decide (j < L) && metB met (tm games j 0) && metB met (tm games j 1)
  have h2 : (List.range L).countP both ≤ (List.range L).countP fun j => inM n met (f.getD j (-1)) := by
    refine List.countP_mono_left fun j hj hb => ?_
    have hjL : j < L := by simpa using hj
    simp only [both, Bool.and_eq_true, decide_eq_true_eq] at hb
    obtain ⟨⟨_, b0⟩, b1⟩ := hb
    obtain ⟨_, ht⟩ := htm j hjL
    obtain ⟨t0, t1⟩ := ht 0 (by omega)
    obtain ⟨t2, t3⟩ := ht 1 (by omega)
    rcases hft j (by omega) with e | e
    · rw [e, inM, decide_eq_true t0, decide_eq_true t1, b0]; rfl
    · rw [e, inM, decide_eq_true t2, decide_eq_true t3, b1]; rfl
  have h3 : (List.range L).countP (fun j => decide (j < L) && inM n met (given.getD j (-1))) < (List.range L).countP both := by
    refine countP_lt (i := i) (fun j hj => ?_) (by simpa using hi) ?_ ?_
    · simp only [Bool.and_eq_true, decide_eq_true_eq, inM] at hj
      obtain ⟨hjL, ⟨hy0, hyn⟩, hm⟩ := hj
      have hx : (((given.getD j (-1)).toNat : Nat) : Int) = given.getD j (-1) := by omega
      have := (hg (given.getD j (-1)).toNat (by omega) (by rw [hx]; exact hm)).2 j (by omega) hx.symm
      simp only [both, decide_eq_true hjL, this.1, this.2, Bool.and_self]
    · rw [hgi]; simp [inM]
    · simp only [both, decide_eq_true hi, hF.1, hF.2, Bool.and_self]
  have h4 : (List.range L).countP (fun j => decide (j < L) && inM n met (given.getD j (-1))) = (List.range L).countP fun j => inM n met (given.getD j (-1)) := by
    refine List.countP_congr fun j hj => ?_
    have hjL : j < L := by simpa using hj
    rw [decide_eq_true hjL, Bool.true_and]
  omega

end Go.Proofs.Ytbppeajpjnlobaa

/- Whether a team can be first, as the reference tells it: all points that are left are given. -/
set_option linter.unusedVariables false
set_option linter.unusedSimpArgs false
namespace Go.Proofs.Ytbppeajpjnlobaa
open Go.HL

/-- No point is given yet: -1 at every place. -/
theorem S.l10First.clear {G : Option Addr} {gl gc : Nat} {b bg : Nat} {hI : Heap} {R : Option Addr} {rl rc : Nat} (hgl : gl ≤ 1048576) (K : Value → Heap → Prop) :
    ∀ (k i : Nat) (m : PMap), i + k = gl → Beside hI m → m bg = some (LM (List.replicate i (-1) ++ List.replicate k 0)) →
      (∀ m' : PMap, Beside hI m' → m' bg = some (LM (List.replicate gl (-1))) → (∀ x, x ≠ bg → m' x = m x) →
        S.l10First.L4 K (.pointer (some ⟨b, 0, none⟩)) (.slice G gl gc) (.slice R rl rc) (.slice (some ⟨bg, 0, none⟩) gl gl) (.int .i64 0) (over hI m')) →
      S.l10First.L3 K (.pointer (some ⟨b, 0, none⟩)) (.slice G gl gc) (.slice R rl rc) (.slice (some ⟨bg, 0, none⟩) gl gl) (.int .i64 i) (over hI m) := by
  intro k
  induction k with
  | zero =>
    intro i m hi hB hm hk
    have ei : i = gl := by omega
    subst ei
    refine S.l10First.L3_step K _ _ _ _ _ _ _ _ _ _ _ _ _ (dec_split (fun hc => by omega) (fun _ => ?_))
    exact hk m hB (by rw [hm]; simp) (fun _ _ => rfl)
  | succ k ih =>
    intro i m hi hB hm hk
    refine S.l10First.L3_step K _ _ _ _ _ _ _ _ _ _ _ _ _ (dec_split (fun hc => ?_) (fun hc => by omega))
    refine over_wr (sp := []) (by rw [List.append_nil]; exact hm) (by simp; omega) (by omega) (by omega) rfl ?_
    rw [wsucc (by omega), Int.toNat_natCast, List.append_nil]
    have e : (LM (List.replicate i (-1) ++ List.replicate (k + 1) 0)).set i (.int .i64 (-1)) = LM (List.replicate (i + 1) (-1) ++ List.replicate k 0) := by
      rw [LM, LM, ← List.map_set, List.set_append, if_neg (by simp), List.length_replicate, Nat.sub_self, List.replicate_succ (n := k), List.set_cons_zero, List.replicate_succ' (n := i), List.append_assoc]
      rfl
    rw [e]
    exact ih (i + 1) _ (by omega) (hB.put (by rw [hm]; simp) _) (put_self _ _ _) fun m' h1 h2 h3 => hk m' h1 h2 fun x hx => by rw [h3 x hx, put_ne _ _ hx]

/-- How the points are shared out when i of them are given. -/
structure Shared (games : List (List Int)) (n : Nat) (cap given room : List Int) (i : Nat) : Prop where
  gl : given.length = games.length
  rl : room.length = n
  done : ∀ j, j < i → given.getD j (-1) = tm games j 0 ∨ given.getD j (-1) = tm games j 1
  rest : ∀ j, i ≤ j → given.getD j (-1) = -1
  inv : ∀ x : Nat, x < n → room.getD x 0 + ((given.count (x : Int) : Nat) : Int) = cap.getD x 0
  pos : ∀ x : Nat, x < n → 0 ≤ room.getD x 0

theorem set_self {given : List Int} {i : Nat} (h : given.getD i (-1) = -1) : given.set i (-1) = given := by
  apply List.ext_getElem?
  intro j
  rw [List.getElem?_set]
  by_cases hij : i = j
  · subst hij
    rw [if_pos rfl]
    by_cases hl : i < given.length
    · rw [if_pos hl]
      rw [List.getD_eq_getElem?_getD, List.getElem?_eq_getElem hl] at h
      rw [List.getElem?_eq_getElem hl]
      exact congrArg some h.symm
    · rw [if_neg hl, List.getElem?_eq_none (by omega)]
  · rw [if_neg hij]

theorem Shared.step {games : List (List Int)} {n : Nat} {cap given room given' room' : List Int} {met met' : List Bool} {i : Nat} (s : Shared games n cap given room i) (t : GiveT games n given room met i given' room' met') (hm : ∀ b, metB met b = false) :
    Shared games n cap given' room' (i + 1) := by
  have hset := set_self (s.rest i (Nat.le_refl _))
  refine ⟨t.gl.trans s.gl, t.rl.trans s.rl, fun j hj => ?_, fun j hj => ?_, fun x hx => ?_, t.c⟩
  · by_cases hji : j = i
    · subst hji; exact t.a
    · have hd := s.done j (by omega)
      rcases Nat.lt_or_ge j given.length with hl | hl
      · rcases t.d j hl hji with h | h
        · rw [h]; exact hd
        · exact h.2.2
      · have e1 : given.getD j (-1) = -1 := by rw [List.getD_eq_getElem?_getD, List.getElem?_eq_none hl]; rfl
        have e2 : given'.getD j (-1) = -1 := by rw [List.getD_eq_getElem?_getD, List.getElem?_eq_none (by rw [t.gl]; exact hl)]; rfl
        rw [e2, ← e1]; exact hd
  · rcases Nat.lt_or_ge j given.length with hl | hl
    · rcases t.d j hl (by omega) with h | h
      · rw [h]; exact s.rest j (by omega)
      · exact absurd (s.rest j (by omega)) h.1
    · rw [List.getD_eq_getElem?_getD, List.getElem?_eq_none (by rw [t.gl]; exact hl)]; rfl
  · have := t.b x hx
    rw [hset] at this
    rw [this]; exact s.inv x hx
theorem Shared.all {games : List (List Int)} {n : Nat} {cap given room : List Int} (s : Shared games n cap given room games.length) : Feasible games n cap :=
  ⟨given, s.gl, s.done, fun x hx => by have := s.inv x hx; have := s.pos x hx; omega⟩

theorem S.l10First.share {n : Int} {games : List (List Int)} {cap : List Int} {G : Option Addr} {gl gc : Nat} {b bg br : Nat} {hI : Heap} {rc : Nat} {sr : List Value} (h0 : 0 ≤ n) (h14 : n ≤ 14) (hn : hI.get b (0 + 0) = some (.int .i64 n)) (hG : Tab hI G games) (hL : games.length = gl) (hgl : gl ≤ 1048576)
    (htm : ∀ i, i < gl → (games.getD i []).length = 2 ∧ ∀ k, k < 2 → 0 ≤ tm games i k ∧ tm games i k < n.toNat) (hcap : ∀ x : Nat, x < n.toNat → cap.getD x 0 ≤ 9223372036854775807) (hne : bg ≠ br) (K : Value → Heap → Prop) :
    ∀ (k i : Nat) (m : PMap) (given room : List Int), i + k = gl → Beside hI m → m bg = some (LM given) → m br = some (LM room ++ sr) → Shared games n.toNat cap given room i →
      (∀ m' : PMap, Beside hI m' → ∀ r : Bool, (r = true ↔ Feasible games n.toNat cap) → K (.bool r) (over hI m')) →
      S.l10First.L4 K (.pointer (some ⟨b, 0, none⟩)) (.slice G gl gc) (.slice (some ⟨br, 0, none⟩) n.toNat rc) (.slice (some ⟨bg, 0, none⟩) gl gl) (.int .i64 i) (over hI m) := by
  intro k
  induction k with
  | zero =>
    intro i m given room hi hB hg hr hs hk
    have ei : i = games.length := by omega
    refine S.l10First.L4_step K _ _ _ _ _ _ _ _ _ _ _ _ _ (dec_split (fun hc => by omega) (fun _ => ?_))
    subst ei
    exact hk m hB true ⟨fun _ => hs.all, fun _ => rfl⟩
  | succ k ih =>
    intro i m given room hi hB hg hr hs hk
    refine S.l10First.L4_step K _ _ _ _ _ _ _ _ _ _ _ _ _ (dec_split (fun hc => ⟨n, (over_ext hB).get hn, rfl, h0, by omega, by omega, fun bm hf => ?_⟩) (fun hc => by omega))
    have ecells : List.replicate n.toNat (Value.bool false) = BL (List.replicate n.toNat false) ++ [] := by simp [BL]
    rw [ecells, over_put]
    have hB2 := hB.new hf (BL (List.replicate n.toNat false) ++ [])
    have hmn := (over_fresh hf).2
    have n1 : bg ≠ bm := fun e => by rw [e] at hg; rw [hg] at hmn; cases hmn
    have n2 : br ≠ bm := fun e => by rw [e] at hr; rw [hr] at hmn; cases hmn
    have hM : GMem (m.put bm (BL (List.replicate n.toNat false) ++ [])) bg br bm [] sr [] given room (List.replicate n.toNat false) :=
      ⟨by rw [put_ne _ _ n1, List.append_nil]; exact hg, by rw [put_ne _ _ n2]; exact hr, put_self _ _ _, hne, n1, n2⟩
    have hmet : ∀ x, metB (List.replicate n.toNat false) x = false := fun x => by
      unfold metB
      rw [List.getD_eq_getElem?_getD, List.getElem?_replicate]
      split <;> rfl
    refine (S.l10Give.spec hG hL (by omega) htm (left (List.replicate n.toNat false) + 1) given room (List.replicate n.toNat false) _ i (Nat.lt_succ_self _) (hs.gl.trans hL) hs.rl (by simp) (fun x hx => ⟨hs.pos x hx, ?_⟩) (.inl (hs.rest i (Nat.le_refl _))) (by omega) hM hB2).mono ?_
    · have := hs.inv x hx
      have := hcap x hx
      omega
    rintro u h2 ⟨r, given', room', met', m', rfl, rfl, hB3, hM3, _, hT, hF⟩
    refine ⟨r, rfl, nbool_split (fun hr0 => ?_) (fun hr1 => ?_)⟩
    · obtain ⟨rfl, rfl, F⟩ := hF hr0
      refine hk m' hB3 false ⟨fun h => (by cases h), fun hfe => ?_⟩
      exact absurd hfe (stuck hL (hs.gl.trans hL) (by omega) (hs.rest i (Nat.le_refl _)) F.f (fun x hx hx2 => F.g x hx hx2 (hmet _)) hs.inv htm)
    · rw [wsucc (by omega)]
      have T := hT hr1
      exact ih (i + 1) m' given' room' (by omega) hB3 (by rw [hM3.g]; simp) hM3.r (hs.step T hmet) hk

end Go.Proofs.Ytbppeajpjnlobaa

/- Whether a team can be first, as the reference tells it, whole. -/
set_option linter.unusedVariables false
set_option linter.unusedSimpArgs false
namespace Go.Proofs.Ytbppeajpjnlobaa
open Go.HL

def leftGames (n a : Int) (m : Nat) (rs : List (List Int)) : List (List Int) := (leftOf a (allPairs n (rs.drop m))).flatMap twice
def endPts (n a : Int) (rs xss : List (List Int)) : List Int := (allPairs n (rs.drop xss.length)).foldl (winPts a) (summedM (fun _ own => own) n rs xss)
def FirstOk (n a : Int) (rs xss : List (List Int)) : Prop :=
  (∀ y : Nat, (y : Int) < n → 0 ≤ roomAt a (endPts n a rs xss) y) ∧ Feasible (leftGames n a xss.length rs) n.toNat (roomsTo a (endPts n a rs xss) n.toNat)

theorem summed_len (g : Int → Int → Int) (n : Int) (rs xss : List (List Int)) (h0 : 0 ≤ n) : ((summedM g n rs xss).length : Int) = n := by
  have : ∀ (evl : List Ev) (t : List Int), (evl.foldl (addAt g) t).length = t.length := by
    intro evl
    induction evl with
    | nil => intro t; rfl
    | cons e evl ih => intro t; rw [List.foldl_cons, ih, addAt, List.length_set]
  rw [summedM, this, List.length_replicate]; omega

theorem leftGames_mem {n a : Int} {m : Nat} {rs : List (List Int)} (h0 : 0 ≤ n) (hr : ∀ r ∈ rs, roundOk n r = true) {p : List Int} (hp : p ∈ leftGames n a m rs) : p.length = 2 ∧ 0 ≤ p.getD 0 0 ∧ p.getD 0 0 < p.getD 1 0 ∧ p.getD 1 0 < n := by
  simp only [leftGames, List.mem_flatMap, leftOf, List.mem_filter, allPairs, twice] at hp
  obtain ⟨q, ⟨⟨r, hrr, hq⟩, _⟩, hpq⟩ := hp
  have : p = q := by simpa using hpq
  subst this
  exact pairsOf_mem (hr r (List.mem_of_mem_drop hrr)) h0 hq
theorem leftGames_tm {n a : Int} {m : Nat} {rs : List (List Int)} (h0 : 0 ≤ n) (hr : ∀ r ∈ rs, roundOk n r = true) {L : Nat} (hL : (leftGames n a m rs).length = L) :
    ∀ i, i < L → ((leftGames n a m rs).getD i []).length = 2 ∧ ∀ k, k < 2 → 0 ≤ tm (leftGames n a m rs) i k ∧ tm (leftGames n a m rs) i k < n.toNat := by
  intro i hi
  have hi' : i < (leftGames n a m rs).length := by omega
  have e : (leftGames n a m rs).getD i [] = (leftGames n a m rs)[i] := by rw [List.getD_eq_getElem?_getD, List.getElem?_eq_getElem hi']; rfl
  obtain ⟨p1, p2, p3, p4⟩ := leftGames_mem h0 hr (List.getElem_mem hi')
  refine ⟨by rw [e]; exact p1, fun k hk => ?_⟩
  unfold tm
  rw [e]
  have : k = 0 ∨ k = 1 := by omega
  rcases this with rfl | rfl
  · omega
  · omega

theorem S.l10First.spec {n a : Int} {A B : Option Addr} {rs xss : List (List Int)} {l c m d : Nat} {h : Heap} (s : Rds h A rs) (hl : rs.length = l) (x : Tab h B xss) (hm : xss.length = m)
    (hsok : scheduleOk n rs = true) (hok : resultsOk n rs xss = true) (ha : hasTeam n a = true) :
    ACalls Try.prog S.l10First.id [.agg #[.int .i64 n, .slice A l c], .slice B m d, .int .i64 a] h fun u h2 => Ext h h2 ∧ ∃ r : Bool, u = .bool r ∧ (r = true ↔ FirstOk n a rs xss) := by
  obtain ⟨k1, k2, k3, k4⟩ := scheduleOk_facts hsok
  have h0 : 0 ≤ n := by omega
  simp only [hasTeam, Bool.and_eq_true, decide_eq_true_eq] at ha
  obtain ⟨a0, an⟩ := ha
  have hml : xss.length ≤ rs.length := by
    simp only [resultsOk, Bool.and_eq_true, decide_eq_true_eq] at hok; exact hok.1
  have hq : xss.take m = xss := by rw [List.take_of_length_le (by omega)]
  refine S.l10First.step _ _ _ _ _ _ _ _ _ h fun b hf => ⟨n, A, l, c, by simp [Heap.getN], ?_⟩
  have e := Ext.upd hf (.cells [.int .i64 n, .slice A l c])
  have hn : (h.upd b (.cells [.int .i64 n, .slice A l c])).get b (0 + 0) = some (.int .i64 n) := by simp
  have hs : (h.upd b (.cells [.int .i64 n, .slice A l c])).get b (0 + 1) = some (.slice A l c) := by simp
  generalize h.upd b (.cells [.int .i64 n, .slice A l c]) = h1 at *
  refine (S.l10Points.spec (q := m) (s.mono e) hl (x.mono e) hm (Nat.le_refl _) hsok (by rw [hq]; exact hok)).mono ?_
  rintro u h2 ⟨e2, bp, f2, rfl, ho⟩
  rw [hq] at ho
  obtain ⟨hI, eI, hB, rfl⟩ := carve e2 f2 ho
  refine ⟨_, _, _, rfl, fun b12 hf12 => ?_⟩
  have hst : FSt hI (only bp (LM (summedM (fun _ own => own) n rs xss))) ((over hI (only bp (LM (summedM (fun _ own => own) n rs xss)))).upd b12 (.cells [])) bp n (summedM (fun _ own => own) n rs xss) (some ⟨b12, 0, none⟩) 0 0 [] [] :=
    ⟨hB, only_self _ _, summed_len _ _ _ _ h0, Vec.made hf12 rfl, Each.nil _⟩
  refine S.l10First.outer (A := A) (c0 := c) a0 (by omega) k2 (s.mono (e.trans eI)) hl (by omega) (eI.get hn) (eI.get hs) _ (l - m) m _ _ 0 0 [] [] hI _ _ (by omega) (Ext.refl _) hst (by omega) ?_
  intro pts' G' l' c' gs' vs' hK h3 m' eK s3 hl' hp' hg' b69 hf69
  have epts : pts' = endPts n a rs xss := by rw [hp', endPts, hm]
  have egs : gs' = leftGames n a xss.length rs := by rw [hg', leftGames, hm, List.nil_append]
  have hplen := s3.plen
  have hcells := s3.cells
  obtain ⟨hF, eF, hBF, rfl, hTab, hglen⟩ := s3.freeze
  have hnF : hF.get b (0 + 0) = some (.int .i64 n) := eF.get (eK.get (eI.get hn))
  have eAll : Ext h hF := (e.trans eI).trans (eK.trans eF)
  refine S.l10First.rooms (hI1 := hF) (bp := bp) (pts := pts') a0 (by omega) k2 hnF _ n.toNat 0 (some ⟨b69, 0, none⟩) 0 0 hF _ m' (by omega) (Ext.refl _) hBF hcells hplen (Vec.made hf69 rfl) (fun h4 e4 ⟨y, hy, hneg⟩ => ?_) (fun y hy => by omega) ?_
  · exact ⟨eAll.trans e4, false, rfl, ⟨fun h => (by cases h), fun hfo => by have := hfo.1 y hy; rw [← epts] at this; omega⟩⟩
  intro R rl rc hR h4 eR hBR v hpos
  refine ⟨rfl, by omega, by omega, by omega, fun bg hfg => ?_⟩
  have hrl : rl = n.toNat := by have := v.len; simp only [LM, List.length_map, roomsTo_len, Nat.mul_one] at this; exact this.symm
  subst hrl
  obtain ⟨br, sr, rfl, hmx, rfl, hB5⟩ := Vec.thaw hBR v (by omega)
  rw [over_put, Int.toNat_natCast]
  have hmg := (over_fresh hfg).2
  have hne : bg ≠ br := fun e => by rw [e, put_self] at hmg; cases hmg
  have hB6 := hB5.new hfg (List.replicate l' (.int .i64 0))
  have hL : (leftGames n a xss.length rs).length = l' := by rw [← egs]; exact hglen
  rw [egs] at hTab
  refine S.l10First.clear (by omega) _ l' 0 _ (by omega) hB6 (by rw [put_self]; simp [LM]) fun m7 hB7 hm7 hs7 => ?_
  have hcap : ∀ x : Nat, x < n.toNat → (roomsTo a pts' n.toNat).getD x 0 ≤ 9223372036854775807 := fun x hx => by rw [roomsTo_get _ _ hx]; exact wrap_le _
  have hcap0 : ∀ x : Nat, x < n.toNat → 0 ≤ (roomsTo a pts' n.toNat).getD x 0 := fun x hx => by rw [roomsTo_get _ _ hx]; exact hpos x (by omega)
  refine S.l10First.share (games := leftGames n a xss.length rs) (cap := roomsTo a pts' n.toNat) (sr := sr) h0 k2 (eR.get hnF) (hTab.mono eR) hL (by omega) (leftGames_tm h0 k4 hL) hcap hne _ l' 0 m7 (List.replicate l' (-1)) (roomsTo a pts' n.toNat) (by omega) hB7 hm7 (by rw [hs7 br hne.symm, put_ne _ _ hne.symm, put_self]) ?_ ?_
  · refine ⟨by rw [List.length_replicate, hL], roomsTo_len _ _ _, fun j hj => by omega, fun j _ => ?_, fun x hx => ?_, hcap0⟩
    · rw [List.getD_eq_getElem?_getD, List.getElem?_replicate]; split <;> rfl
    · have : (List.replicate l' (-1 : Int)).count (x : Int) = 0 := by
        rw [List.count_replicate, if_neg (by simp)]
      rw [this]; simp
  · intro m8 hB8 r hr
    refine ⟨(eAll.trans eR).trans (over_ext hB8), r, rfl, hr.trans ?_⟩
    rw [FirstOk, ← epts]
    exact ⟨fun h => ⟨hpos, h⟩, fun h => h.2⟩

end Go.Proofs.Ytbppeajpjnlobaa

/- slices.Delete of one number in a changing block. -/
set_option linter.unusedVariables false
set_option linter.unusedSimpArgs false
namespace Go.Proofs.Ytbppeajpjnlobaa
open Go.HL

theorem slices.Delete_Sint64_int64.spec {hI : Heap} {m : PMap} {x l c : Nat} {row : List Int} {sp : List Value} {i j : Int} (hm : m x = some (LM row ++ sp)) (hl : row.length = l) (hsp : sp.length = c - l) (hlc : l ≤ c) (hb : l ≤ 1048576) (h0 : 0 ≤ i) (h1 : i < (l : Int)) (hj : j = i + 1) :
    ACalls Try.prog slices.Delete_Sint64_int64.id [.slice (some ⟨x, 0, none⟩) l c, .int .i64 i, .int .i64 j] (over hI m) fun u h2 =>
      u = .slice (some ⟨x, 0, none⟩) (l - 1) c ∧ ∃ sp', sp'.length = c - (l - 1) ∧ h2 = over hI (m.put x (LM (row.eraseIdx i.toNat) ++ sp')) := by
  subst hj
  refine slices.Delete_Sint64_int64.step _ _ _ _ _ _ _ ⟨_, _, _, slice_lohimx h0 (by omega) (by omega) (by omega), dec_split (fun hc => by omega) (fun _ => ?_)⟩
  refine ⟨_, _, _, slice_hi h0 (by omega), _, _, _, slice_lo (by omega) (by omega), ?_⟩
  -- the number that goes, and those before and behind it
  have hil : i.toNat < row.length := by omega
  have hsplit : row = row.take i.toNat ++ (row[i.toNat] :: row.drop (i.toNat + 1)) := by
    rw [← List.drop_eq_getElem_cons hil, List.take_append_drop]
  have herase : row.eraseIdx i.toNat = row.take i.toNat ++ row.drop (i.toNat + 1) := List.eraseIdx_eq_take_drop_succ _ _
  have ej : (i + 1).toNat = i.toNat + 1 := by omega
  have hgm : ∀ (k : Nat) (v : Value), (LM row ++ sp)[k]? = some v → (over hI m).get x (0 + k) = some v := fun k v hv => by rw [over_get hm, Nat.zero_add]; exact hv
  have hrow5 : Row (over hI m) (some ⟨x, 0, none⟩) (i.toNat * 1) (LM (row.take i.toNat)) := by
    show (over hI m).getN x 0 _ = _
    have := Seg.getN hgm (i := 0) (n := i.toNat) (by simp; omega)
    rw [Nat.mul_one]
    rw [Nat.zero_add] at this
    rw [this, List.drop_zero, List.take_append_of_le_length (by simp; omega), LM, ← List.map_take]
  have hrow6 : Row (over hI m) (some ⟨x, if c = (i + 1).toNat then 0 else 0 + (i + 1).toNat * 1, none⟩) ((l - (i + 1).toNat) * 1) (LM (row.drop (i.toNat + 1))) := by
    show (over hI m).getN x _ _ = _
    rw [ej, Nat.mul_one]
    by_cases hci : c = i.toNat + 1
    · have e0 : l - (i.toNat + 1) = 0 := by omega
      rw [e0, List.drop_eq_nil_of_le (by omega)]; rfl
    · rw [if_neg hci, Nat.mul_one]
      have := Seg.getN hgm (i := i.toNat + 1) (n := l - (i.toNat + 1)) (by simp; omega)
      rw [this, List.drop_append_of_le_length (by simp; omega), List.take_append_of_le_length (by simp; omega), List.take_of_length_le (by simp; omega), LM, ← List.map_drop]
  refine ⟨LM (row.take i.toNat), LM (row.drop (i.toNat + 1)), hrow5, hrow6, oneInts _, by rw [ej]; omega, by rw [ej]; omega, fun hroom => ?_, fun hg => by rw [ej] at hg; omega⟩
  -- behind the move: the last place is cleared
  have fin : ∀ (m2 : PMap), (∃ z, m2 x = some (LM (row.eraseIdx i.toNat) ++ [z] ++ sp)) → (∀ y, y ≠ x → m2 y = m y) →
      ∃ x10A : Option Addr, ∃ x10l : Nat, ∃ x10c : Nat, evalL.evalSlice 1 (some ⟨x, 0, none⟩) (i.toNat + (l - (i + 1).toNat)) c (some (.int .i64 ((i.toNat + (l - (i + 1).toNat) : Nat) : Int))) (some (.int .i64 (l : Int))) none = some (.slice x10A x10l x10c) ∧ SClear (over hI m2) [.int .i64 0] x10A x10l fun v12 h11 => v12 = undef ∧
        (Value.slice (some ⟨x, 0, none⟩) (i.toNat + (l - (i + 1).toNat)) c = .slice (some ⟨x, 0, none⟩) (l - 1) c ∧ ∃ sp', sp'.length = c - (l - 1) ∧ h11 = over hI (m.put x (LM (row.eraseIdx i.toNat) ++ sp'))) := by
    rintro m2 ⟨z, hm2⟩ hoth
    have e1 : i.toNat + (l - (i + 1).toNat) = l - 1 := by omega
    rw [e1]
    refine ⟨_, _, _, slice_lohi (by omega) (by omega) (by omega), fun h0 => by omega, fun _ => ⟨_, _, rfl, ?_⟩⟩
    rw [Int.toNat_natCast, Int.toNat_natCast, if_neg (by omega), Nat.zero_add, Nat.mul_one]
    have e2 : l - (l - 1) = 1 := by omega
    rw [e2]
    have hle : (LM (row.eraseIdx i.toNat)).length = l - 1 := by simp [List.length_eraseIdx, hil]; omega
    refine over_store hm2 (by simp [zrep, List.length_eraseIdx, hil]; omega) (by simp [zrep, Value.oneCell']) ⟨rfl, rfl, .int .i64 0 :: sp, by simp; omega, ?_⟩
    congr 1
    funext y
    by_cases hy : y = x
    · subst hy
      rw [put_self, put_self, ← hle, show zrep [Value.int .i64 0] 1 = [.int .i64 0] from rfl, splice_mid (LM (row.eraseIdx i.toNat)) [z] sp [.int .i64 0] rfl]
      simp
    · rw [put_ne _ _ hy, put_ne _ _ hy, hoth y hy]
  refine ⟨fun hz => ?_, fun hpos => ?_⟩
  · have hz' : l = i.toNat + 1 := by omega
    have := fin m ⟨.int .i64 row[i.toNat], ?_⟩ (fun _ _ => rfl)
    · obtain ⟨a1, a2, a3, h5, h6⟩ := this
      have e3 : i.toNat + (l - (i + 1).toNat) = i.toNat := by omega
      rw [e3] at h5 h6
      exact ⟨_, _, _, rfl, a1, a2, a3, h5, h6⟩
    · rw [hm, herase, List.drop_eq_nil_of_le (by omega), List.append_nil]
      congr 1
      congr 1
      have e4 : row.drop (i.toNat + 1) = [] := List.drop_eq_nil_of_le (by omega)
      rw [e4] at hsplit
      have : LM row = LM (row.take i.toNat ++ [row[i.toNat]]) := congrArg LM hsplit
      rw [this]; simp only [LM, List.map_append, List.map_cons, List.map_nil]
  · refine ⟨_, _, rfl, over_store hm (by simp; omega) (oneInts _) ?_⟩
    refine ⟨_, _, _, rfl, fin _ ⟨.int .i64 ((row.drop i.toNat).getD (l - i.toNat - 1) 0), ?_⟩ (fun y hy => put_ne _ _ hy)⟩
    rw [put_self, Nat.zero_add, Nat.mul_one, herase]
    congr 1
    -- row = p ++ (q :: t), t moves one place to the left; the last of q :: t stays
    have hlast := last_split (row.drop i.toNat) (l - i.toNat - 1) (by simp; omega)
    have hlm : LM row ++ sp = LM (row.take i.toNat) ++ LM ((row.drop i.toNat).take (l - i.toNat - 1)) ++ ([.int .i64 ((row.drop i.toNat).getD (l - i.toNat - 1) 0)] ++ sp) := by
      have : LM row = LM (row.take i.toNat ++ ((row.drop i.toNat).take (l - i.toNat - 1) ++ [(row.drop i.toNat).getD (l - i.toNat - 1) 0])) := by rw [← hlast, List.take_append_drop]
      rw [this]; simp [LM]
    rw [hlm]
    have hp : (LM (row.take i.toNat)).length = i.toNat := by simp; omega
    have := splice_mid (LM (row.take i.toNat)) (LM ((row.drop i.toNat).take (l - i.toNat - 1))) ([.int .i64 ((row.drop i.toNat).getD (l - i.toNat - 1) 0)] ++ sp) (LM (row.drop (i.toNat + 1))) (by simp; omega)
    rw [hp] at this
    rw [this]; simp [LM]

end Go.Proofs.Ytbppeajpjnlobaa

/- Owners of points: lists that change, each in a block of its own. -/
set_option linter.unusedVariables false
set_option linter.unusedSimpArgs false
namespace Go.Proofs.Ytbppeajpjnlobaa
open Go.HL

/-- A list of its own: none, or a block with spare places. -/
def RowAt (m : PMap) (v : Value) (row : List Int) (x : Option Nat) : Prop :=
  (x = none ∧ v = .slice none 0 0 ∧ row = []) ∨ ∃ b c sp, x = some b ∧ v = .slice (some ⟨b, 0, none⟩) row.length c ∧ m b = some (LM row ++ sp) ∧ sp.length = c - row.length ∧ row.length ≤ c
theorem RowAt.congr {m m' : PMap} {v : Value} {row : List Int} {x : Option Nat} (R : RowAt m v row x) (h : ∀ b, x = some b → m' b = m b) : RowAt m' v row x := by
  rcases R with R | ⟨b, c, sp, e1, e2, e3, e4, e5⟩
  · exact .inl R
  · exact .inr ⟨b, c, sp, e1, e2, by rw [h b e1]; exact e3, e4, e5⟩
/-- The slice that it is. -/
theorem RowAt.slice {m : PMap} {v : Value} {row : List Int} {x : Option Nat} (R : RowAt m v row x) (hI : Heap) : ∃ A c, v = .slice A row.length c ∧ Ints (over hI m) A row := by
  rcases R with ⟨_, rfl, rfl⟩ | ⟨b, c, sp, rfl, rfl, e3, e4, e5⟩
  · exact ⟨none, 0, rfl, Seg.nil_none _⟩
  · refine ⟨_, c, rfl, .inr ⟨b, 0, rfl, fun i v hv => ?_⟩⟩
    rw [over_get e3, Nat.zero_add, List.getElem?_append_left (List.getElem?_eq_some_iff.1 hv).1]
    exact hv

theorem RowAt.append {hI : Heap} {m : PMap} {v : Value} {row : List Int} {x : Option Nat} {t : Int} {B : Option Addr} {K : Value → Heap → Prop} (R : RowAt m v row x) (hB : Beside hI m) (hlen : row.length ≤ 1048576) (hRow : Row (over hI m) B (1 * 1) [.int .i64 t])
    (k : ∀ m1 b A' c', Beside hI m1 → (x = some b ∨ (over hI m).fresh b) → (∀ y, y ≠ b → m1 y = m y) → RowAt m1 (.slice A' (row.length + 1) c') (row ++ [t]) (some b) → K (.slice A' (row.length + 1) c') (over hI m1)) :
    ∃ A c, v = .slice A row.length c ∧ SAppend (over hI m) 1 8 [.int .i64 0] A row.length c B 1 K := by
  have new : ∀ (c' : Nat), row.length + 1 ≤ c' → SAlloc (over hI m) (LM row ++ [.int .i64 t] ++ zrep [.int .i64 0] (c' - (row.length + 1))) fun b h' => K (.slice (some ⟨b, 0, none⟩) (row.length + 1) c') h' := by
    intro c' hc' b hf
    rw [over_put]
    refine k _ b _ _ (hB.new hf _) (.inr hf) (fun y hy => put_ne _ _ hy) (.inr ⟨b, c', zrep [.int .i64 0] (c' - (row.length + 1)), rfl, by simp, by rw [put_self]; simp [LM], by rw [zrep_len]; simp, by simpa using hc'⟩)
  rcases R with ⟨rfl, rfl, rfl⟩ | ⟨b, c, sp, rfl, rfl, e3, e4, e5⟩
  · exact ⟨none, 0, rfl, [], _, ⟨rfl, rfl⟩, hRow, by simp [Value.oneCell'], by simp, by simp, fun h => by simp at h, fun _ => new⟩
  · refine ⟨_, c, rfl, LM row, _, ?_, hRow, by simp [Value.oneCell'], by omega, by omega, fun hroom => ⟨fun h => (by cases h), fun _ => ⟨b, 0, rfl, ?_⟩⟩, fun _ => new⟩
    · show (over hI m).getN b 0 _ = _
      refine getN_of (by simp) fun i v hv => ?_
      rw [over_get e3, Nat.zero_add, List.getElem?_append_left (List.getElem?_eq_some_iff.1 hv).1]
      exact hv
    · refine over_store e3 (by simp; omega) (by simp [Value.oneCell']) ?_
      have hsp : sp ≠ [] := fun e => by rw [e] at e4; simp at e4; omega
      obtain ⟨s0, sp', rfl⟩ := List.exists_cons_of_ne_nil hsp
      have ecut : splice (LM row ++ s0 :: sp') (0 + row.length * 1) [.int .i64 t] = LM (row ++ [t]) ++ sp' := by
        have := splice_mid (LM row) [s0] sp' [.int .i64 t] rfl
        rw [show (LM row).length = 0 + row.length * 1 by simp] at this
        rw [show LM row ++ s0 :: sp' = LM row ++ [s0] ++ sp' by simp, this]; simp [LM]
      rw [ecut]
      refine k _ b _ _ (hB.put (by rw [e3]; simp) _) (.inl rfl) (fun y hy => put_ne _ _ hy) (.inr ⟨b, c, sp', rfl, by simp, by rw [put_self], ?_, by simpa using hroom⟩)
      simp at e4 ⊢; omega

/-- The blocks that change. -/
structure OMem (m : PMap) (br bo bm : Nat) (sr st : List Value) (rows : List (List Int)) (room : List Int) (met : List Bool) : Prop where
  r : m br = some (LM room ++ sr)
  t : m bm = some (BL met ++ st)
  n1 : br ≠ bo
  n2 : br ≠ bm
  n3 : bo ≠ bm
  o : ∃ (os : List Value) (xs : Nat → Option Nat), m bo = some os ∧ os.length = rows.length ∧ (∀ j, j < rows.length → RowAt m (os.getD j undef) (rows.getD j []) (xs j)) ∧
    (∀ j b, j < rows.length → xs j = some b → b ≠ br ∧ b ≠ bo ∧ b ≠ bm) ∧ (∀ j j' b, j < rows.length → j' < rows.length → xs j = some b → xs j' = some b → j = j')

theorem OMem.putR {m : PMap} {br bo bm : Nat} {sr st : List Value} {rows : List (List Int)} {room : List Int} {met : List Bool} (M : OMem m br bo bm sr st rows room met) (room' : List Int) : OMem (m.put br (LM room' ++ sr)) br bo bm sr st rows room' met := by
  obtain ⟨os, xs, o1, o2, o3, o4, o5⟩ := M.o
  refine ⟨put_self _ _ _, by rw [put_ne _ _ M.n2.symm]; exact M.t, M.n1, M.n2, M.n3, os, xs, by rw [put_ne _ _ M.n1.symm]; exact o1, o2, fun j hj => (o3 j hj).congr fun b hb => put_ne _ _ (o4 j b hj hb).1, o4, o5⟩
theorem OMem.putT {m : PMap} {br bo bm : Nat} {sr st : List Value} {rows : List (List Int)} {room : List Int} {met : List Bool} (M : OMem m br bo bm sr st rows room met) (met' : List Bool) : OMem (m.put bm (BL met' ++ st)) br bo bm sr st rows room met' := by
  obtain ⟨os, xs, o1, o2, o3, o4, o5⟩ := M.o
  refine ⟨by rw [put_ne _ _ M.n2]; exact M.r, put_self _ _ _, M.n1, M.n2, M.n3, os, xs, by rw [put_ne _ _ M.n3]; exact o1, o2, fun j hj => (o3 j hj).congr fun b hb => put_ne _ _ (o4 j b hj hb).2.2, o4, o5⟩
/-- Another list of marks (a new block). -/
theorem OMem.mark {m : PMap} {br bo bm : Nat} {sr st : List Value} {rows : List (List Int)} {room : List Int} {met : List Bool} (M : OMem m br bo bm sr st rows room met) {b : Nat} (hb : m b = none) (met' : List Bool) (st' : List Value) : OMem (m.put b (BL met' ++ st')) br bo b sr st' rows room met' := by
  obtain ⟨os, xs, o1, o2, o3, o4, o5⟩ := M.o
  have hbr : br ≠ b := fun e => by have := M.r; rw [e, hb] at this; cases this
  have hbo : bo ≠ b := fun e => by rw [e, hb] at o1; cases o1
  have hx : ∀ j y, j < rows.length → xs j = some y → y ≠ b := by
    intro j y hj hy e
    rcases o3 j hj with ⟨h1, _⟩ | ⟨b', c, sp, h1, _, h3, _⟩
    · rw [h1] at hy; cases hy
    · rw [h1] at hy; cases hy; rw [e, hb] at h3; cases h3
  refine ⟨by rw [put_ne _ _ hbr]; exact M.r, put_self _ _ _, M.n1, hbr, hbo, os, xs, by rw [put_ne _ _ hbo]; exact o1, o2, fun j hj => (o3 j hj).congr fun y hy => put_ne _ _ (hx j y hj hy), fun j y hj hy => ⟨(o4 j y hj hy).1, (o4 j y hj hy).2.1, hx j y hj hy⟩, o5⟩

/-- The list of one meeting. -/
theorem OMem.row {m : PMap} {br bo bm : Nat} {sr st : List Value} {rows : List (List Int)} {room : List Int} {met : List Bool} (M : OMem m br bo bm sr st rows room met) (hI : Heap) {j : Nat} (hj : j < rows.length) :
    ∃ A c, (over hI m).get bo (0 + j * 1) = some (.slice A (rows.getD j []).length c) ∧ Ints (over hI m) A (rows.getD j []) := by
  obtain ⟨os, xs, o1, o2, o3, o4, o5⟩ := M.o
  obtain ⟨A, c, e1, e2⟩ := (o3 j hj).slice hI
  refine ⟨A, c, ?_, e2⟩
  rw [over_get o1, Nat.zero_add, Nat.mul_one, ← e1]
  have : j < os.length := by omega
  rw [List.getD_eq_getElem?_getD, List.getElem?_eq_getElem this]; rfl

/-- The list of one meeting is another one. -/
theorem OMem.renew {m m1 : PMap} {br bo bm : Nat} {sr st : List Value} {rows : List (List Int)} {room : List Int} {met : List Bool} {os : List Value} {xs : Nat → Option Nat} (M : OMem m br bo bm sr st rows room met)
    (o1 : m bo = some os) (o2 : os.length = rows.length) (o3 : ∀ j, j < rows.length → RowAt m (os.getD j undef) (rows.getD j []) (xs j)) (o4 : ∀ j b, j < rows.length → xs j = some b → b ≠ br ∧ b ≠ bo ∧ b ≠ bm) (o5 : ∀ j j' b, j < rows.length → j' < rows.length → xs j = some b → xs j' = some b → j = j')
    {g b : Nat} {v : Value} {row : List Int} (hg : g < rows.length) (hb : xs g = some b ∨ m b = none) (hoth : ∀ y, y ≠ b → m1 y = m y) (R : RowAt m1 v row (some b)) :
    OMem (m1.put bo (os.set g v)) br bo bm sr st (rows.set g row) room met := by
  have nb : b ≠ br ∧ b ≠ bo ∧ b ≠ bm := by
    rcases hb with h | h
    · exact o4 g b hg h
    · refine ⟨fun e => ?_, fun e => ?_, fun e => ?_⟩
      · have := M.r; rw [← e, h] at this; cases this
      · rw [← e, h] at o1; cases o1
      · have := M.t; rw [← e, h] at this; cases this
  have hx : ∀ j y, j < rows.length → j ≠ g → xs j = some y → y ≠ b := by
    intro j y hj hjg hy e
    subst e
    rcases hb with h | h
    · exact hjg (o5 j g y hj hg hy h)
    · rcases o3 j hj with ⟨h1, _⟩ | ⟨b', c, sp, h1, _, h3, _⟩
      · rw [h1] at hy; cases hy
      · rw [h1] at hy; cases hy; rw [h] at h3; cases h3
  refine ⟨by rw [put_ne _ _ M.n1, hoth _ nb.1.symm]; exact M.r, by rw [put_ne _ _ M.n3.symm, hoth _ nb.2.2.symm]; exact M.t, M.n1, M.n2, M.n3, os.set g v, fun j => if j = g then some b else xs j, put_self _ _ _, by simp [o2], fun j hj => ?_, fun j y hj hy => ?_, fun j j' y hj hj' hy hy' => ?_⟩
  · rw [List.length_set] at hj
    show RowAt _ _ _ (if j = g then some b else xs j)
    by_cases hjg : j = g
    · subst hjg
      rw [lget_set_self (by omega), lget_set_self hg, if_pos rfl]
      exact R.congr fun y hy => by cases hy; exact put_ne _ _ nb.2.1
    · rw [lget_set_ne _ (Ne.symm hjg), lget_set_ne _ (Ne.symm hjg), if_neg hjg]
      exact (o3 j hj).congr fun y hy => by rw [put_ne _ _ (o4 j y hj hy).2.1]; exact hoth y (hx j y hj hjg hy)
  · rw [List.length_set] at hj
    simp only at hy
    by_cases hjg : j = g
    · rw [if_pos hjg] at hy; cases hy; exact nb
    · rw [if_neg hjg] at hy; exact o4 j y hj hy
  · rw [List.length_set] at hj hj'
    simp only at hy hy'
    by_cases hjg : j = g
    · rw [if_pos hjg] at hy; cases hy
      by_cases hjg' : j' = g
      · rw [hjg, hjg']
      · rw [if_neg hjg'] at hy'; exact absurd rfl (hx j' _ hj' hjg' hy')
    · rw [if_neg hjg] at hy
      by_cases hjg' : j' = g
      · rw [if_pos hjg'] at hy'; cases hy'; exact absurd rfl (hx j _ hj hjg hy)
      · rw [if_neg hjg'] at hy'; exact o5 j j' y hj hj' hy hy'

/-- A team is appended to the owners of a meeting's points, as the program does it. -/
theorem OMem.push {hI : Heap} {m : PMap} {br bo bm cb co L cO : Nat} {sr st : List Value} {rows : List (List Int)} {room : List Int} {met : List Bool} {g : Int} {t : Int} {K : Heap → Prop} (M : OMem m br bo bm sr st rows room met) (hB : Beside hI m)
    (hc : hI.get cb co = some (.slice (some ⟨bo, 0, none⟩) L cO)) (hL : rows.length = L) (h0 : 0 ≤ g) (hg : g < (L : Int)) (hlen : (rows.getD g.toNat []).length ≤ 1048576)
    (k : ∀ hJ m', Ext hI hJ → Beside hJ m' → OMem m' br bo bm sr st (rows.set g.toNat (rows.getD g.toNat [] ++ [t])) room met → K (over hJ m')) :
    ∃ x40A : Option Addr, ∃ x40l x40c : Nat, (over hI m).get cb co = some (.slice x40A x40l x40c) ∧ ∃ x41A : Option Addr, ∃ x41l x41c : Nat, (over hI m).get cb co = some (.slice x41A x41l x41c) ∧
      ∃ b42 o43 : Nat, x41A = some ⟨b42, o43, none⟩ ∧ (0 ≤ g ∧ g < (x41l : Int)) ∧ ∃ x44A : Option Addr, ∃ x44l x44c : Nat, (over hI m).get b42 (o43 + Int.toNat g * 1) = some (.slice x44A x44l x44c) ∧
      SAlloc (over hI m) [.int .i64 t] fun b45 h46 => SAppend h46 1 8 [.int .i64 0] x44A x44l x44c (some ⟨b45, 0, none⟩) 1 fun v48 h47 => ∃ x49A : Option Addr, ∃ x49l x49c : Nat, v48 = .slice x49A x49l x49c ∧ h47.get cb co = some (.slice x40A x40l x40c) ∧
      ∃ b50 o51 : Nat, x40A = some ⟨b50, o51, none⟩ ∧ (0 ≤ g ∧ g < (x40l : Int)) ∧ SStore h47 b50 (o51 + Int.toNat g * 1) [.slice x49A x49l x49c] K := by
  obtain ⟨os, xs, o1, o2, o3, o4, o5⟩ := M.o
  have hgl : g.toNat < rows.length := by omega
  have hol : g.toNat < os.length := by omega
  have hcell := (over_ext hB).get hc
  obtain ⟨A, c, e1, e2⟩ := (o3 g.toNat hgl).slice hI
  refine ⟨_, _, _, hcell, _, _, _, hcell, bo, 0, rfl, ⟨h0, hg⟩, A, (rows.getD g.toNat []).length, c, ?_, fun b45 hf => ?_⟩
  · rw [over_get o1, Nat.zero_add, Nat.mul_one, ← e1, List.getD_eq_getElem?_getD, List.getElem?_eq_getElem hol]; rfl
  have hbase := over_base hf (.cells [.int .i64 t])
  have eI := Ext.upd (over_fresh hf).1 (.cells [.int .i64 t])
  have hB2 := hB.base hf (.cells [.int .i64 t])
  have hRow : Row (over (hI.upd b45 (.cells [.int .i64 t])) m) (some ⟨b45, 0, none⟩) (1 * 1) [.int .i64 t] := by rw [← hbase]; exact Seg.row (Seg.new' _ _ _) rfl
  rw [hbase]
  have key : ∀ m1 b A' c', Beside (hI.upd b45 (.cells [.int .i64 t])) m1 → (xs g.toNat = some b ∨ (over (hI.upd b45 (.cells [.int .i64 t])) m).fresh b) → (∀ y, y ≠ b → m1 y = m y) → RowAt m1 (.slice A' ((rows.getD g.toNat []).length + 1) c') (rows.getD g.toNat [] ++ [t]) (some b) →
      (fun (v48 : Value) (h47 : Heap) => ∃ x49A : Option Addr, ∃ x49l x49c : Nat, v48 = .slice x49A x49l x49c ∧ h47.get cb co = some (.slice (some ⟨bo, 0, none⟩) L cO) ∧
      ∃ b50 o51 : Nat, some (⟨bo, 0, none⟩ : Addr) = some ⟨b50, o51, none⟩ ∧ (0 ≤ g ∧ g < (L : Int)) ∧ SStore h47 b50 (o51 + Int.toNat g * 1) [.slice x49A x49l x49c] K) (.slice A' ((rows.getD g.toNat []).length + 1) c') (over (hI.upd b45 (.cells [.int .i64 t])) m1) := by
    intro m1 b A' c' hB1 hb hoth R
    have ho1 : m1 bo = some os := by
      by_cases hbb : bo = b
      · subst hbb
        rcases hb with h | h
        · exact absurd rfl (o4 _ _ hgl h).2.1
        · have := (over_fresh h).2; rw [o1] at this; cases this
      · rw [hoth _ hbb]; exact o1
    have M2 := M.renew o1 o2 o3 o4 o5 hgl (b := b) (hb.imp id fun h => (over_fresh h).2) hoth R
    refine ⟨_, _, _, rfl, (over_ext hB1).get (eI.get hc), bo, 0, rfl, ⟨h0, hg⟩, over_store ho1 (by simp; omega) (by simp [Value.oneCell']) ?_⟩
    rw [Nat.zero_add, Nat.mul_one, splice_one _ _ _ hol]
    exact k _ _ eI (hB1.put (by rw [ho1]; simp) _) M2
  obtain ⟨A2, c2, e3, happ⟩ := (o3 g.toNat hgl).append (t := t) (K := fun (v48 : Value) (h47 : Heap) => ∃ x49A : Option Addr, ∃ x49l x49c : Nat, v48 = .slice x49A x49l x49c ∧ h47.get cb co = some (.slice (some ⟨bo, 0, none⟩) L cO) ∧ ∃ b50 o51 : Nat, some (⟨bo, 0, none⟩ : Addr) = some ⟨b50, o51, none⟩ ∧ (0 ≤ g ∧ g < (L : Int)) ∧ SStore h47 b50 (o51 + Int.toNat g * 1) [.slice x49A x49l x49c] K) hB2 hlen hRow key
  have h12 := e1.symm.trans e3
  simp only [Value.slice.injEq] at h12
  rw [h12.1, h12.2.2]
  exact happ

end Go.Proofs.Ytbppeajpjnlobaa

/- A point is given, if need be by moving others: the program's function, walked. -/
set_option linter.unusedVariables false
set_option linter.unusedSimpArgs false
namespace Go.Proofs.Ytbppeajpjnlobaa
open Go.HL

/-- How many points a team has. -/
def cnt (rows : List (List Int)) (x : Int) : Nat := rows.flatten.count x
theorem cnt_set : ∀ (rows : List (List Int)) (g : Nat) (r : List Int) (x : Int), g < rows.length → cnt (rows.set g r) x + (rows.getD g []).count x = cnt rows x + r.count x
  | [], g, r, x, h => by simp at h
  | q :: rows, 0, r, x, h => by
    simp only [cnt, List.set_cons_zero, List.flatten_cons, List.count_append, List.getD_cons_zero]; omega
  | q :: rows, g + 1, r, x, h => by
    have := cnt_set rows g r x (by simpa using h)
    simp only [cnt, List.set_cons_succ, List.flatten_cons, List.count_append, List.getD_cons_succ] at this ⊢; omega
theorem firstIdx_mem (t : Int) : ∀ (i : Nat) (xs : List Int), t ∈ xs → ∃ k : Nat, k < xs.length ∧ firstIdx (fun y => decide (t = y)) i xs = ((i + k : Nat) : Int) ∧ xs.getD k 0 = t
  | i, [], h => by cases h
  | i, x :: xs, h => by
    rw [firstIdx]
    by_cases hx : t = x
    · exact ⟨0, by simp, by simp [hx], by simp [hx]⟩
    · obtain ⟨k, h1, h2, h3⟩ := firstIdx_mem t (i + 1) xs (by rcases List.mem_cons.1 h with h | h; exact absurd h hx; exact h)
      exact ⟨k + 1, by simpa using h1, by rw [if_neg (by simpa using hx), h2]; congr 1; omega, by simpa using h3⟩
theorem count_erase {xs : List Int} {k : Nat} (hk : k < xs.length) (x : Int) : (xs.eraseIdx k).count x + (if xs.getD k 0 = x then 1 else 0) = xs.count x := by
  induction xs generalizing k with
  | nil => simp at hk
  | cons y xs ih =>
    cases k with
    | zero => simp only [List.eraseIdx_zero, List.tail_cons, List.getD_cons_zero, List.count_cons, beq_iff_eq]
    | succ k =>
      have := ih (k := k) (by simpa using hk)
      simp only [List.eraseIdx_cons_succ, List.getD_cons_succ, List.count_cons] at this ⊢; omega

def OwnOk (games rows : List (List Int)) : Prop := ∀ j x, x ∈ rows.getD j [] → x = tm games j 0 ∨ x = tm games j 1
structure GT (games : List (List Int)) (n : Nat) (rows : List (List Int)) (room : List Int) (met : List Bool) (i : Nat) (rows' : List (List Int)) (room' : List Int) (met' : List Bool) : Prop where
  sl : rows'.length = rows.length
  rl : room'.length = room.length
  len : ∀ j, (rows'.getD j []).length = (rows.getD j []).length + (if j = i then 1 else 0)
  own : OwnOk games rows'
  b : ∀ x : Nat, x < n → room'.getD x 0 + ((cnt rows' (x : Int) : Nat) : Int) = room.getD x 0 + ((cnt rows (x : Int) : Nat) : Int)
  c : ∀ x : Nat, x < n → 0 ≤ room'.getD x 0
  d : ∀ j x, metB met x = true → (rows.getD j []).count x ≤ (rows'.getD j []).count x
  e : MetLe met met'
structure GF (games : List (List Int)) (n : Nat) (rows : List (List Int)) (room : List Int) (met : List Bool) (i : Nat) (met' : List Bool) : Prop where
  e : MetLe met met'
  f : Both games met' i
  g : ∀ x : Nat, x < n → metB met' x = true → metB met x = false → room.getD x 0 = 0 ∧ ∀ j, j < rows.length → (x : Int) ∈ rows.getD j [] → Both games met' j
def GQ2 (games : List (List Int)) (n : Nat) (hI : Heap) (br bo bm : Nat) (sr st : List Value) (rows : List (List Int)) (room : List Int) (met : List Bool) (i : Nat) (u : Value) (h2 : Heap) : Prop :=
  ∃ (r : Bool) (rows' : List (List Int)) (room' : List Int) (met' : List Bool) (hJ : Heap) (m' : PMap), u = .bool r ∧ h2 = over hJ m' ∧ Ext hI hJ ∧ Beside hJ m' ∧ OMem m' br bo bm sr st rows' room' met' ∧
    (r = true → GT games n rows room met i rows' room' met') ∧ (r = false → rows' = rows ∧ room' = room ∧ GF games n rows room met i met')

theorem row_set {rows : List (List Int)} {g j : Nat} {r : List Int} (hg : g < rows.length) : (rows.set g r).getD j [] = if j = g then r else rows.getD j [] := by
  by_cases h : j = g
  · subst h; rw [lget_set_self hg, if_pos rfl]
  · rw [lget_set_ne _ (Ne.symm h), if_neg h]

/-- The caps of the closure. -/
abbrev giveCaps (lb rb ob gb : Nat) : List Value := [.pointer (some ⟨lb, 0, none⟩), .pointer (some ⟨rb, 0, none⟩), .pointer (some ⟨ob, 0, none⟩), .pointer (some ⟨gb, 0, none⟩)]

theorem I.Schedule.canBeFirst.c1.spec {games : List (List Int)} {n L : Nat} {G : Option Addr} {cG : Nat} {hI0 : Heap} (hG : Tab hI0 G games) (hL : games.length = L) (hLb : L ≤ 1048576)
    (htm : ∀ i, i < L → (games.getD i []).length = 2 ∧ ∀ k, k < 2 → 0 ≤ tm games i k ∧ tm games i k < n) {lb rb ob gb bo br bm cr cO cm : Nat} {sr st : List Value}
    (hlc : hI0.get lb 0 = some (.slice G L cG)) (hrc : hI0.get rb 0 = some (.slice (some ⟨br, 0, none⟩) n cr)) (hoc : hI0.get ob 0 = some (.slice (some ⟨bo, 0, none⟩) L cO))
    (hgc : hI0.get gb 0 = some (.func (.func I.Schedule.canBeFirst.c1.id) #[] (giveCaps lb rb ob gb).toArray)) :
    ∀ (N : Nat) (rows : List (List Int)) (room : List Int) (met : List Bool) (hI : Heap) (m : PMap) (i : Nat), left met < N → Ext hI0 hI → rows.length = L → room.length = n → met.length = n → (∀ x, x < n → 0 ≤ room.getD x 0 ∧ room.getD x 0 ≤ 9223372036854775807) →
      OwnOk games rows → (∀ j, (rows.getD j []).length ≤ 2) → i < L → OMem m br bo bm sr st rows room met → Beside hI m →
      ACalls Try.prog I.Schedule.canBeFirst.c1.id [.int .i64 i, .slice (some ⟨bm, 0, none⟩) n cm, .pointer (some ⟨lb, 0, none⟩), .pointer (some ⟨rb, 0, none⟩), .pointer (some ⟨ob, 0, none⟩), .pointer (some ⟨gb, 0, none⟩)] (over hI m) (GQ2 games n hI br bo bm sr st rows room met i) := by
  intro N
  induction N with
  | zero => intro rows room met hI m i hN; omega
  | succ N ihN =>
    intro rows room met hI m i hN e0 hsl hrl hml hroom hown hlen hi hM hB
    obtain ⟨hrow2, htr⟩ := htm i hi
    have erd : rows.length = L := hsl
    refine I.Schedule.canBeFirst.c1.step _ _ _ _ _ _ _ _ _ _ _ _ _ _ ⟨_, _, _, (over_ext hB).get (e0.get hlc), (hG.mono e0).rd (over_ext hB) hL (by omega) (by omega) fun D dD hD hdD => ?_⟩
    rw [Int.toNat_natCast] at hD hdD ⊢
    rw [hrow2] at hdD ⊢
    have loop0 : ∀ (kk k : Nat) (met1 : List Bool) (hJ : Heap) (m1 : PMap), k + kk = 2 → Ext hI hJ → OMem m1 br bo bm sr st rows room met1 → Beside hJ m1 → MetLe met met1 → (∀ q, q < k → metB met1 (tm games i q) = true) →
        (∀ x : Nat, x < n → metB met1 x = true → metB met x = false → room.getD x 0 = 0 ∧ ∀ j, j < rows.length → j ≠ i → (x : Int) ∈ rows.getD j [] → Both games met1 j) →
        I.Schedule.canBeFirst.c1.L0 (GQ2 games n hI br bo bm sr st rows room met i) (.int .i64 i) (.slice (some ⟨bm, 0, none⟩) n cm) (.pointer (some ⟨rb, 0, none⟩)) (.pointer (some ⟨ob, 0, none⟩)) (.pointer (some ⟨gb, 0, none⟩)) (.slice D 2 dD) (.int .i64 ((2 : Nat) : Int)) (.int .i64 k) (over hJ m1) := by
      intro kk
      induction kk with
      | zero =>
        intro k met1 hJ m1 hk eJ M1 B1 le1 hdone hprop
        refine I.Schedule.canBeFirst.c1.L0_step _ _ _ _ _ _ _ _ _ _ _ _ _ _ _ _ _ (dec_split (fun hc => by omega) (fun _ => ?_))
        refine ⟨false, rows, room, met1, hJ, m1, rfl, rfl, eJ, B1, M1, fun h => (by cases h), fun _ => ⟨rfl, rfl, le1, ⟨hdone 0 (by omega), hdone 1 (by omega)⟩, fun x hx h1 h2 => ?_⟩⟩
        obtain ⟨p1, p2⟩ := hprop x hx h1 h2
        refine ⟨p1, fun j hj hjx => ?_⟩
        by_cases hji : j = i
        · rw [hji]; exact ⟨hdone 0 (by omega), hdone 1 (by omega)⟩
        · exact p2 j hj hji hjx
      | succ kk ihk =>
        intro k met1 hJ m1 hk eJ M1 B1 le1 hdone hprop
        obtain ⟨t0, t1⟩ := htr k (by omega)
        have hml1 : met1.length = n := le1.1.trans hml
        have hbn : (tm games i k).toNat < n := by omega
        have etm : ((tm games i k).toNat : Int) = tm games i k := by omega
        have eB := over_ext B1
        have e0J := e0.trans eJ
        refine I.Schedule.canBeFirst.c1.L0_step _ _ _ _ _ _ _ _ _ _ _ _ _ _ _ _ _ (dec_split (fun hc => ?_) (fun hc => by omega))
        refine (hD.mono eJ).rd eB (by rw [hrow2]) (by omega) (by omega) ?_
        rw [Int.toNat_natCast k]
        rw [show (games.getD i []).getD k 0 = tm games i k from rfl]
        refine over_rdB M1.t hml1 t0 t1 (bool_split (fun hmet => ?_) (fun hnot => ?_))
        · rw [wsucc (by omega)]
          refine ihk (k + 1) met1 hJ m1 (by omega) eJ M1 B1 le1 (fun q hq => ?_) hprop
          by_cases hqk : q = k
          · rw [hqk]; exact hmet
          · exact hdone q (by omega)
        · have hbm : metB met (tm games i k) = false := by
            cases hh : metB met (tm games i k) with
            | false => rfl
            | true => rw [le1.2 _ hh] at hnot; cases hnot
          refine over_wr M1.t (by simp [hml1]) t0 t1 rfl ?_
          have eset : (BL met1).set (tm games i k).toNat (.bool true) = BL (met1.set (tm games i k).toNat true) := by rw [BL, BL, ← List.map_set]
          rw [eset]
          have M2 := M1.putT (met1.set (tm games i k).toNat true)
          have B2 := B1.put (b := bm) (by rw [M1.t]; simp) (BL (met1.set (tm games i k).toNat true) ++ st)
          have le2 := metLe_set met1 (tm games i k)
          have hin : metB (met1.set (tm games i k).toNat true) (tm games i k) = true := metB_set t0 (by omega)
          have hlt2 : left (met1.set (tm games i k).toNat true) < N := by
            have h1 := left_set (b := tm games i k) (by omega) hnot
            have h2 := left_le le1
            omega
          generalize hm2 : met1.set (tm games i k).toNat true = met2 at *
          generalize m1.put bm (BL met2 ++ st) = m2 at *
          have hml2 : met2.length = n := le2.1.trans hml1
          have eB2 := over_ext B2
          refine ⟨_, _, _, eB2.get (e0J.get hrc), over_rd M2.r hrl t0 t1 (dec_split (fun hpos => ?_) (fun hzero => ?_))⟩
          · obtain ⟨r0, r1⟩ := hroom (tm games i k).toNat hbn
            refine ⟨_, _, _, eB2.get (e0J.get hrc), over_rd M2.r hrl t0 t1 (over_wr M2.r (by simp [hrl]) t0 t1 rfl ?_)⟩
            rw [w64 (by omega) (by omega)]
            have er : (LM room).set (tm games i k).toNat (.int .i64 (room.getD (tm games i k).toNat 0 - 1)) = LM (room.set (tm games i k).toNat (room.getD (tm games i k).toNat 0 - 1)) := by rw [LM, LM, ← List.map_set]
            rw [er]
            have M3 := M2.putR (room.set (tm games i k).toNat (room.getD (tm games i k).toNat 0 - 1))
            have B3 := B2.put (b := br) (by rw [M2.r]; simp) (LM (room.set (tm games i k).toNat (room.getD (tm games i k).toNat 0 - 1)) ++ sr)
            refine M3.push B3 (e0J.get hoc) hsl (by omega) (by omega) (by have := hlen i; rw [Int.toNat_natCast]; omega) fun hK m4 eK B4 M4 => ?_
            rw [Int.toNat_natCast] at M4
            have hil : i < rows.length := by omega
            refine ⟨true, _, _, _, hK, m4, rfl, rfl, eJ.trans eK, B4, M4, fun _ => ?_, fun h => (by cases h)⟩
            refine { sl := by simp, rl := by simp, len := fun j => ?_, own := fun j x hx => ?_, b := fun x hx => ?_, c := fun x hx => ?_, d := fun j x hx => ?_, e := le1.trans le2 }
            · rw [row_set hil]
              by_cases hji : j = i
              · rw [if_pos hji, if_pos hji, hji]; simp
              · rw [if_neg hji, if_neg hji]; omega
            · rw [row_set hil] at hx
              by_cases hji : j = i
              · subst hji
                rw [if_pos rfl] at hx
                rcases List.mem_append.1 hx with hx | hx
                · exact hown j x hx
                · have : x = tm games j k := by simpa using hx
                  have hk2 : k = 0 ∨ k = 1 := by omega
                  rcases hk2 with rfl | rfl
                  · exact .inl this
                  · exact .inr this
              · rw [if_neg hji] at hx; exact hown j x hx
            · have hcs := cnt_set rows i (rows.getD i [] ++ [tm games i k]) (x : Int) hil
              rw [List.count_append, List.count_singleton] at hcs
              by_cases hxb : (tm games i k).toNat = x
              · subst hxb
                rw [lget_set_self (by omega)]
                rw [if_pos (by simp [etm])] at hcs
                omega
              · rw [lget_set_ne _ hxb]
                rw [if_neg (by simp; omega)] at hcs
                omega
            · by_cases hxb : (tm games i k).toNat = x
              · subst hxb; rw [lget_set_self (by omega)]; omega
              · rw [lget_set_ne _ hxb]; exact (hroom x hx).1
            · rw [row_set hil]
              by_cases hji : j = i
              · rw [if_pos hji, hji, List.count_append]; omega
              · rw [if_neg hji]; exact Nat.le_refl _
          · have hz : room.getD (tm games i k).toNat 0 = 0 := by have := (hroom _ hbn).1; omega
            refine ⟨_, _, _, eB2.get (e0J.get hoc), ?_⟩
            have loop1 : ∀ (jj j : Nat) (met3 : List Bool) (hK : Heap) (m3 : PMap), j + jj = L → Ext hI hK → OMem m3 br bo bm sr st rows room met3 → Beside hK m3 → MetLe met2 met3 →
                (∀ x : Nat, x < n → metB met3 x = true → metB met x = false → (x : Int) ≠ tm games i k → room.getD x 0 = 0 ∧ ∀ j', j' < rows.length → j' ≠ i → (x : Int) ∈ rows.getD j' [] → Both games met3 j') →
                (∀ j', j' < j → j' ≠ i → tm games i k ∈ rows.getD j' [] → Both games met3 j') →
                I.Schedule.canBeFirst.c1.L1 (GQ2 games n hI br bo bm sr st rows room met i) (.int .i64 i) (.slice (some ⟨bm, 0, none⟩) n cm) (.pointer (some ⟨rb, 0, none⟩)) (.pointer (some ⟨ob, 0, none⟩)) (.pointer (some ⟨gb, 0, none⟩)) (.int .i64 (tm games i k)) (.slice D 2 dD) (.int .i64 ((2 : Nat) : Int)) (.int .i64 k) (.slice (some ⟨bo, 0, none⟩) L cO) (.int .i64 L) (.int .i64 j) (over hK m3) := by
              intro jj
              induction jj with
              | zero =>
                intro j met3 hK m3 hj eK M3 B3 le3 hp3 hd3
                refine I.Schedule.canBeFirst.c1.L1_step _ _ _ _ _ _ _ _ _ _ _ _ _ _ _ _ _ _ _ _ _ _ _ (dec_split (fun hc => by omega) (fun _ => ?_))
                rw [wsucc (by omega)]
                refine ihk (k + 1) met3 hK m3 (by omega) eK M3 B3 (le1.trans (le2.trans le3)) (fun q hq => ?_) (fun x hx h1 h2 => ?_)
                · by_cases hqk : q = k
                  · rw [hqk]; exact le3.2 _ hin
                  · exact le3.2 _ (le2.2 _ (hdone q (by omega)))
                · by_cases hxb : (x : Int) = tm games i k
                  · have hxe : x = (tm games i k).toNat := by omega
                    refine ⟨by rw [hxe]; exact hz, fun j' hj' hji hgj => hd3 j' (by omega) hji (hxb ▸ hgj)⟩
                  · exact hp3 x hx h1 h2 hxb
              | succ jj ihj =>
                intro j met3 hK m3 hj eK M3 B3 le3 hp3 hd3
                have hml3 : met3.length = n := le3.1.trans hml2
                have e0K := e0.trans eK
                have hjl : j < rows.length := by omega
                have next : (j ≠ i → tm games i k ∈ rows.getD j [] → Both games met3 j) →
                    I.Schedule.canBeFirst.c1.L1 (GQ2 games n hI br bo bm sr st rows room met i) (.int .i64 i) (.slice (some ⟨bm, 0, none⟩) n cm) (.pointer (some ⟨rb, 0, none⟩)) (.pointer (some ⟨ob, 0, none⟩)) (.pointer (some ⟨gb, 0, none⟩)) (.int .i64 (tm games i k)) (.slice D 2 dD) (.int .i64 ((2 : Nat) : Int)) (.int .i64 k) (.slice (some ⟨bo, 0, none⟩) L cO) (.int .i64 L) (.int .i64 (IntKind.wrap .i64 ((j : Int) + 1))) (over hK m3) := by
                  intro hb
                  rw [wsucc (by omega)]
                  refine ihj (j + 1) met3 hK m3 (by omega) eK M3 B3 le3 hp3 fun j' hj' hji hg' => ?_
                  by_cases hjj : j' = j
                  · rw [hjj] at hji hg' ⊢; exact hb hji hg'
                  · exact hd3 j' (by omega) hji hg'
                refine I.Schedule.canBeFirst.c1.L1_step _ _ _ _ _ _ _ _ _ _ _ _ _ _ _ _ _ _ _ _ _ _ _ (dec_split (fun hc => ?_) (fun hc => by omega))
                obtain ⟨A5, c5, g5, i5⟩ := M3.row hK hjl
                refine ⟨bo, 0, rfl, ⟨by omega, by omega⟩, A5, _, c5, by rw [Int.toNat_natCast]; exact g5, ?_⟩
                refine (slices.Index_Sint64_int64.spec i5 (Ext.refl _) rfl (by have := hlen j; omega)).mono ?_
                rintro u h5 ⟨rfl, rfl⟩
                refine ⟨_, rfl, fun k73 hk73 => ?_⟩
                rw [firstIdx_any]
                have hany : (rows.getD j []).any (fun y => decide (tm games i k = y)) = decide (tm games i k ∈ rows.getD j []) := by
                  rw [Bool.eq_iff_iff, List.any_eq_true, decide_eq_true_eq]
                  exact ⟨fun ⟨y, hy, he⟩ => by rw [of_decide_eq_true he]; exact hy, fun h => ⟨_, h, decide_eq_true rfl⟩⟩
                rw [hany]
                refine dec_split (fun hmem => hk73 _ _ fun k76 hk76 => ?_) (fun hnm => hk73 _ _ fun k76 hk76 => ?_)
                · refine ndec_split (fun hne => ?_) (fun heq => ?_)
                  · have hji : j ≠ i := by omega
                    refine ⟨_, _, (over_ext B3).get (e0K.get hgc), ?_⟩
                    have hl3 : left met3 < N := by have := left_le le3; omega
                    refine (ihN rows room met3 hK m3 j hl3 e0K hsl hrl hml3 hroom hown hlen (by omega) M3 B3).mono ?_
                    rintro u h6 ⟨r, rows6, room6, met6, hL6, m6, rfl, rfl, e6, B6, M6, hT, hF⟩
                    refine ⟨r, rfl, hk76 _ _ (bool_split (fun hr => ?_) (fun hr => ?_))⟩
                    · have T := hT hr
                      have e0L := e0K.trans e6
                      have eB6 := over_ext B6
                      have hsl6 : rows6.length = L := T.sl.trans hsl
                      have hj6 : j < rows6.length := by omega
                      have hi6 : i < rows6.length := by omega
                      have hcell := eB6.get (e0L.get hoc)
                      obtain ⟨A7, c7, g7, i7⟩ := M6.row hL6 hj6
                      have hlen6 : (rows6.getD j []).length ≤ 3 := by have h1 := T.len j; have := hlen j; rw [if_pos rfl] at h1; omega
                      have ht6 : tm games i k ∈ rows6.getD j [] := by
                        have := T.d j (tm games i k) (le3.2 _ hin)
                        have hp := List.count_pos_iff.2 hmem
                        exact List.count_pos_iff.1 (by omega)
                      obtain ⟨q, hq1, hq2, hq3⟩ := firstIdx_mem _ 0 _ ht6
                      rw [Nat.zero_add] at hq2
                      have hg7 : (over hL6 m6).get bo (0 + Int.toNat (j : Int) * 1) = some (.slice A7 (rows6.getD j []).length c7) := by rw [Int.toNat_natCast]; exact g7
                      refine ⟨_, _, _, hcell, _, _, _, hcell, bo, 0, rfl, ⟨by omega, by omega⟩, A7, _, c7, hg7, _, _, _, hcell, bo, 0, rfl, ⟨by omega, by omega⟩, A7, _, c7, hg7, _, _, _, hcell, bo, 0, rfl, ⟨by omega, by omega⟩, A7, _, c7, hg7, ?_⟩
                      refine (slices.Index_Sint64_int64.spec i7 (Ext.refl _) rfl (by omega)).mono ?_
                      rintro u h8 ⟨rfl, rfl⟩
                      refine ⟨_, rfl, hcell, hcell, hg7, hcell, hg7, ?_⟩
                      refine (slices.Index_Sint64_int64.spec i7 (Ext.refl _) rfl (by omega)).mono ?_
                      rintro u h8 ⟨rfl, rfl⟩
                      refine ⟨_, rfl, hcell, hcell, hg7, ?_⟩
                      rw [hq2, w64 (by omega) (by omega)]
                      -- the list of the meeting that gives its point away
                      obtain ⟨os, xs, o1, o2, o3, o4, o5⟩ := M6.o
                      have hjo : j < os.length := by omega
                      rcases o3 j hj6 with ⟨_, _, hnil⟩ | ⟨b9, c9, sp9, x9, v9, m9, l9, le9⟩
                      · rw [hnil] at ht6; cases ht6
                      have ev9 : os.getD j undef = .slice A7 (rows6.getD j []).length c7 := by
                        have := g7
                        rw [over_get o1, Nat.zero_add, Nat.mul_one] at this
                        rw [List.getD_eq_getElem?_getD, this]; rfl
                      rw [v9] at ev9
                      simp only [Value.slice.injEq] at ev9
                      obtain ⟨rfl, _, rfl⟩ := ev9
                      refine (slices.Delete_Sint64_int64.spec m9 rfl l9 le9 (by omega) (by omega) (by omega) rfl).mono ?_
                      rintro u h10 ⟨rfl, sp10, l10, rfl⟩
                      rw [Int.toNat_natCast]
                      have B10 := B6.put (b := b9) (by rw [m9]; simp) (LM ((rows6.getD j []).eraseIdx q) ++ sp10)
                      have hel : ((rows6.getD j []).eraseIdx q).length = (rows6.getD j []).length - 1 := by rw [List.length_eraseIdx, if_pos hq1]
                      have n9 := o4 j b9 hj6 x9
                      have R10 : RowAt (m6.put b9 (LM ((rows6.getD j []).eraseIdx q) ++ sp10)) (.slice (some ⟨b9, 0, none⟩) ((rows6.getD j []).length - 1) c9) ((rows6.getD j []).eraseIdx q) (some b9) :=
                        .inr ⟨b9, c9, sp10, rfl, by rw [hel], put_self _ _ _, by rw [hel]; exact l10, by rw [hel]; omega⟩
                      have M10 := M6.renew o1 o2 o3 o4 o5 hj6 (.inl x9) (fun y hy => put_ne _ _ hy) R10
                      have ho10 : (m6.put b9 (LM ((rows6.getD j []).eraseIdx q) ++ sp10)) bo = some os := by rw [put_ne _ _ n9.2.1.symm]; exact o1
                      refine ⟨_, _, _, rfl, (over_ext B10).get (e0L.get hoc), bo, 0, rfl, ⟨by omega, by omega⟩, over_store ho10 (by simp; omega) (by simp [Value.oneCell']) ?_⟩
                      rw [Nat.zero_add, Nat.mul_one, Int.toNat_natCast, splice_one _ _ _ hjo]
                      have B11 := B10.put (b := bo) (by rw [ho10]; simp) (os.set j (.slice (some ⟨b9, 0, none⟩) ((rows6.getD j []).length - 1) c9))
                      have hi10 : (rows6.set j ((rows6.getD j []).eraseIdx q)).getD i [] = rows6.getD i [] := by rw [row_set hj6, if_neg (Ne.symm hji)]
                      have hlen10 : (rows6.getD i []).length ≤ 3 := by have h1 := T.len i; have := hlen i; rw [if_neg (Ne.symm hji)] at h1; omega
                      refine M10.push B11 (e0L.get hoc) (by rw [List.length_set]; exact hsl6) (by omega) (by omega) (by rw [Int.toNat_natCast, hi10]; omega) fun hK12 m12 e12 B12 M12 => ?_
                      rw [Int.toNat_natCast, hi10] at M12
                      have hi10l : i < (rows6.set j ((rows6.getD j []).eraseIdx q)).length := by rw [List.length_set]; exact hi6
                      refine ⟨true, _, _, _, hK12, m12, rfl, rfl, (eK.trans e6).trans e12, B12, M12, fun _ => ?_, fun h => (by cases h)⟩
                      have rw12 : ∀ j', ((rows6.set j ((rows6.getD j []).eraseIdx q)).set i (rows6.getD i [] ++ [tm games i k])).getD j' [] = if j' = i then rows6.getD i [] ++ [tm games i k] else if j' = j then (rows6.getD j []).eraseIdx q else rows6.getD j' [] := fun j' => by
                        rw [row_set hi10l, row_set hj6]
                      refine { sl := by simp [T.sl], rl := T.rl, len := fun j' => ?_, own := fun j' x hx => ?_, b := fun x hx => ?_, c := T.c, d := fun j' x hx => ?_, e := (le1.trans (le2.trans le3)).trans T.e }
                      · rw [rw12]
                        have h1 := T.len j'
                        by_cases a1 : j' = i
                        · subst a1
                          rw [if_pos rfl, if_pos rfl, List.length_append]
                          rw [if_neg (Ne.symm hji)] at h1
                          rw [List.length_singleton]; omega
                        · rw [if_neg a1, if_neg a1]
                          by_cases a2 : j' = j
                          · subst a2
                            rw [if_pos rfl] at h1
                            rw [if_pos rfl, hel]; omega
                          · rw [if_neg a2] at h1
                            rw [if_neg a2]; omega
                      · rw [rw12] at hx
                        by_cases a1 : j' = i
                        · subst a1
                          rw [if_pos rfl] at hx
                          rcases List.mem_append.1 hx with hx | hx
                          · exact T.own _ x hx
                          · have : x = tm games j' k := by simpa using hx
                            have hk2 : k = 0 ∨ k = 1 := by omega
                            rcases hk2 with rfl | rfl
                            · exact .inl this
                            · exact .inr this
                        · rw [if_neg a1] at hx
                          by_cases a2 : j' = j
                          · subst a2
                            rw [if_pos rfl] at hx
                            exact T.own _ x (List.mem_of_mem_eraseIdx hx)
                          · rw [if_neg a2] at hx
                            exact T.own _ x hx
                      · have h1 := T.b x hx
                        have h2 := cnt_set rows6 j ((rows6.getD j []).eraseIdx q) (x : Int) hj6
                        have h3 := cnt_set _ i (rows6.getD i [] ++ [tm games i k]) (x : Int) hi10l
                        have h4 := count_erase hq1 (x : Int)
                        rw [hi10, List.count_append, List.count_singleton] at h3
                        rw [hq3] at h4
                        by_cases hxt : tm games i k = (x : Int)
                        · rw [if_pos hxt] at h4
                          rw [if_pos (by simpa using hxt)] at h3
                          omega
                        · rw [if_neg hxt] at h4
                          rw [if_neg (by simpa using hxt)] at h3
                          omega
                      · have h1 := T.d j' x ((le1.trans (le2.trans le3)).2 _ hx)
                        have hxt : ¬ (tm games i k = x) := fun e => by rw [e, hx] at hbm; cases hbm
                        have h4 := count_erase hq1 x
                        rw [hq3, if_neg hxt] at h4
                        rw [rw12]
                        by_cases a1 : j' = i
                        · rw [if_pos a1, List.count_append]; rw [a1] at h1 ⊢; omega
                        · rw [if_neg a1]
                          by_cases a2 : j' = j
                          · rw [if_pos a2]; rw [a2] at h1 ⊢; omega
                          · rw [if_neg a2]; exact h1
                    · obtain ⟨rfl, rfl, F⟩ := hF hr
                      rw [wsucc (by omega)]
                      refine ihj (j + 1) met6 hL6 m6 (by omega) (eK.trans e6) M6 B6 (le3.trans F.e) (fun x hx h1 h2 hxb => ?_) (fun j' hj' hji' hg' => ?_)
                      · cases hh : metB met3 x with
                        | true =>
                          obtain ⟨q1, q2⟩ := hp3 x hx hh h2 hxb
                          exact ⟨q1, fun j' hj' hji' hg' => (q2 j' hj' hji' hg').mono F.e⟩
                        | false =>
                          obtain ⟨q1, q2⟩ := F.g x hx h1 hh
                          exact ⟨q1, fun j' hj' _ hg' => q2 j' hj' hg'⟩
                      · by_cases hjj : j' = j
                        · rw [hjj]; exact F.f
                        · exact (hd3 j' (by omega) hji' hg').mono F.e
                  · have hji : j = i := by omega
                    exact hk76 _ _ (bool_split (fun h => by cases h) (fun _ => next fun h => absurd hji h))
                · refine bool_split (fun h => by cases h) (fun _ => hk76 _ _ (bool_split (fun h => by cases h) (fun _ => next fun _ h => absurd h hnm)))
            refine loop1 L 0 met2 hJ m2 (by omega) eJ M2 B2 (MetLe.refl _) (fun x hx h1 h2 hxb => ?_) (fun j' hj' => by omega)
            have hx1 : metB met1 x = true := by
              rw [← hm2, metB_set_ne t0 (by omega) hxb] at h1; exact h1
            obtain ⟨q1, q2⟩ := hprop x hx hx1 h2
            exact ⟨q1, fun j' hj' hji hg' => (q2 j' hj' hji hg').mono le2⟩
    exact loop0 2 0 met hI m rfl (Ext.refl _) hM hB (MetLe.refl _) (fun q hq => by omega) (fun x _ h1 h2 => by rw [h1] at h2; cases h2)

end Go.Proofs.Ytbppeajpjnlobaa

/- The program's owners and the reference's points: the same question. -/
set_option linter.unusedVariables false
set_option linter.unusedSimpArgs false
namespace Go.Proofs.Ytbppeajpjnlobaa
open Go.HL

theorem twice_len (gs : List (List Int)) : (gs.flatMap twice).length = 2 * gs.length := by
  rw [List.flatMap_def, length_flatten2 _ (by simp [twice]), List.length_map]
theorem twice_tm (gs : List (List Int)) (i q : Nat) : tm (gs.flatMap twice) i q = tm gs (i / 2) q := by
  unfold tm
  have e : i = 2 * (i / 2) + i % 2 := by omega
  have h2 : i % 2 < 2 := by omega
  conv => lhs; rw [e]
  rw [List.flatMap_def, getD_flatten2 _ _ (by simp [twice]) _ _ h2]
  congr 1
  by_cases hi : i / 2 < gs.length
  · have : (gs.map twice).getD (i / 2) [] = twice gs[i / 2] := by simp [List.getD_eq_getElem?_getD, hi]
    rw [this, List.getD_eq_getElem?_getD (l := gs), List.getElem?_eq_getElem hi]
    rcases (by omega : i % 2 = 0 ∨ i % 2 = 1) with h | h <;> rw [h] <;> rfl
  · have e1 : (gs.map twice).getD (i / 2) [] = [] := by rw [List.getD_eq_getElem?_getD, List.getElem?_eq_none (by simp; omega)]; rfl
    have e2 : gs.getD (i / 2) [] = [] := by rw [List.getD_eq_getElem?_getD, List.getElem?_eq_none (by omega)]; rfl
    rw [e1, e2]; rfl

/-- The owners of a meeting's points; -1 for none yet. -/
def pad (r : List Int) : List Int := r ++ List.replicate (2 - r.length) (-1)
theorem pad_len {r : List Int} (h : r.length ≤ 2) : (pad r).length = 2 := by simp [pad]; omega
theorem pad_count (r : List Int) (x : Nat) : (pad r).count (x : Int) = r.count (x : Int) := by
  rw [pad, List.count_append, List.count_replicate, if_neg (by simp), Nat.add_zero]
theorem pad_map_count (x : Nat) : ∀ rows : List (List Int), ((rows.map pad).flatten).count (x : Int) = cnt rows (x : Int)
  | [] => rfl
  | r :: rows => by
    have := pad_map_count x rows
    unfold cnt at *
    rw [List.map_cons, List.flatten_cons, List.flatten_cons, List.count_append, List.count_append, this, pad_count]
theorem pad_get {rows : List (List Int)} {j : Nat} (hj : j < rows.length) : (rows.map pad).getD j [] = pad (rows.getD j []) := by simp [List.getD_eq_getElem?_getD, hj]

/-- How far the owners are known: all points before meeting i, and k of its own. -/
structure Sh2 (games : List (List Int)) (n : Nat) (cap : List Int) (rows : List (List Int)) (room : List Int) (i k : Nat) : Prop where
  sl : rows.length = games.length
  rl : room.length = n
  len : ∀ j, j < games.length → (rows.getD j []).length = if j < i then 2 else if j = i then k else 0
  own : OwnOk games rows
  inv : ∀ x : Nat, x < n → room.getD x 0 + ((cnt rows (x : Int) : Nat) : Int) = cap.getD x 0
  pos : ∀ x : Nat, x < n → 0 ≤ room.getD x 0
theorem Sh2.le2 {games : List (List Int)} {n : Nat} {cap : List Int} {rows : List (List Int)} {room : List Int} {i k : Nat} (s : Sh2 games n cap rows room i k) (hk : k ≤ 2) : ∀ j, (rows.getD j []).length ≤ 2 := by
  intro j
  by_cases hj : j < games.length
  · rw [s.len j hj]; split
    · omega
    · split <;> omega
  · rw [List.getD_eq_getElem?_getD, List.getElem?_eq_none (by rw [s.sl]; omega)]; simp
theorem Sh2.step {games : List (List Int)} {n : Nat} {cap : List Int} {rows rows' : List (List Int)} {room room' : List Int} {met met' : List Bool} {i k : Nat} (s : Sh2 games n cap rows room i k) (t : GT games n rows room met i rows' room' met') : Sh2 games n cap rows' room' i (k + 1) := by
  refine ⟨t.sl.trans s.sl, t.rl.trans s.rl, fun j hj => ?_, t.own, fun x hx => by rw [t.b x hx]; exact s.inv x hx, t.c⟩
  rw [t.len j, s.len j hj]
  by_cases h1 : j < i
  · rw [if_pos h1, if_pos h1, if_neg (by omega)]
  · rw [if_neg h1, if_neg h1]
    by_cases h2 : j = i
    · rw [if_pos h2, if_pos h2, if_pos h2]
    · rw [if_neg h2, if_neg h2, if_neg h2]
theorem Sh2.next {games : List (List Int)} {n : Nat} {cap : List Int} {rows : List (List Int)} {room : List Int} {i : Nat} (s : Sh2 games n cap rows room i 2) : Sh2 games n cap rows room (i + 1) 0 := by
  refine ⟨s.sl, s.rl, fun j hj => ?_, s.own, s.inv, s.pos⟩
  rw [s.len j hj]
  by_cases h1 : j < i
  · rw [if_pos h1, if_pos (by omega)]
  · by_cases h2 : j = i
    · rw [if_neg h1, if_pos h2, if_pos (by omega)]
    · rw [if_neg h1, if_neg h2, if_neg (by omega)]; split <;> rfl
theorem Sh2.all {games : List (List Int)} {n : Nat} {cap : List Int} {rows : List (List Int)} {room : List Int} (s : Sh2 games n cap rows room games.length 0) : Feasible (games.flatMap twice) n cap := by
  have h2 : ∀ r ∈ rows, r.length = 2 := by
    intro r hr
    obtain ⟨j, hj, e⟩ := List.getElem_of_mem hr
    have := s.len j (by rw [← s.sl]; exact hj)
    rw [if_pos (by rw [← s.sl]; exact hj), List.getD_eq_getElem?_getD, List.getElem?_eq_getElem hj] at this
    rw [← e]; exact this
  refine ⟨rows.flatten, by rw [length_flatten2 _ h2, twice_len, s.sl], fun j hj => ?_, fun x hx => by have := s.inv x hx; have := s.pos x hx; unfold cnt at *; omega⟩
  rw [twice_len] at hj
  rw [twice_tm, twice_tm]
  have e : j = 2 * (j / 2) + j % 2 := by omega
  have hl : (rows.getD (j / 2) []).length = 2 := by rw [s.len _ (by omega), if_pos (by omega)]
  conv => lhs; lhs; rw [e]
  conv => rhs; lhs; rw [e]
  rw [getD_flatten2 _ _ h2 _ _ (by omega)]
  refine s.own (j / 2) _ ?_
  exact getD_mem (by omega)
/-- The program is stuck only where the points cannot be shared out. -/
theorem Sh2.cannot {games : List (List Int)} {n : Nat} {cap : List Int} {rows : List (List Int)} {room : List Int} {met met' : List Bool} {i k : Nat} (s : Sh2 games n cap rows room i k) (hk : k < 2) (hi : i < games.length) (hm : ∀ b, metB met b = false) (F : GF games n rows room met i met')
    (htm : ∀ i, i < games.length → (games.getD i []).length = 2 ∧ ∀ k, k < 2 → 0 ≤ tm games i k ∧ tm games i k < n) : ¬ Feasible (games.flatMap twice) n cap := by
  have hle := s.le2 (Nat.le_of_lt hk)
  have hle' : ∀ r ∈ rows.map pad, r.length = 2 := by
    intro r hr
    obtain ⟨q, hq, rfl⟩ := List.mem_map.1 hr
    obtain ⟨j, hj, e⟩ := List.getElem_of_mem hq
    have := hle j
    rw [List.getD_eq_getElem?_getD, List.getElem?_eq_getElem hj] at this
    exact pad_len (by rw [← e]; exact this)
  have hrl : (rows.getD i []).length = k := by rw [s.len i hi, if_neg (by omega), if_pos rfl]
  have hgl : ((rows.map pad).flatten).length = 2 * games.length := by rw [length_flatten2 _ hle', List.length_map, s.sl]
  refine stuck (by rw [twice_len]) hgl (i := 2 * i + k) (by omega) ?_ ?_ (room := room) (met := met') ?_ (fun x hx => by rw [pad_map_count]; exact s.inv x hx) ?_
  · rw [getD_flatten2 _ _ hle' _ _ hk, pad_get (by rw [s.sl]; exact hi), pad, List.getD_eq_getElem?_getD, List.getElem?_append_right (by omega), hrl, Nat.sub_self, List.getElem?_replicate, if_pos (by omega)]; rfl
  · have : (2 * i + k) / 2 = i := by omega
    exact ⟨by rw [twice_tm, this]; exact F.f.1, by rw [twice_tm, this]; exact F.f.2⟩
  · intro x hx hx2
    obtain ⟨h1, h2⟩ := F.g x hx hx2 (hm _)
    refine ⟨h1, fun j hj hgj => ?_⟩
    rw [hgl] at hj
    have e : j = 2 * (j / 2) + j % 2 := by omega
    have hjl : j / 2 < rows.length := by rw [s.sl]; omega
    rw [e, getD_flatten2 _ _ hle' _ _ (by omega), pad_get hjl] at hgj
    have hmem : (x : Int) ∈ rows.getD (j / 2) [] := by
      rw [pad, List.getD_eq_getElem?_getD] at hgj
      rcases Nat.lt_or_ge (j % 2) (rows.getD (j / 2) []).length with hlt | hge
      · rw [List.getElem?_append_left hlt, List.getElem?_eq_getElem hlt] at hgj
        have : (rows.getD (j / 2) [])[j % 2] = (x : Int) := hgj
        rw [← this]; exact List.getElem_mem _
      · rw [List.getElem?_append_right hge, List.getElem?_replicate] at hgj
        split at hgj
        · have : (-1 : Int) = (x : Int) := hgj
          omega
        · have : (-1 : Int) = (x : Int) := hgj
          omega
    have := h2 (j / 2) hjl hmem
    exact ⟨by rw [twice_tm]; exact this.1, by rw [twice_tm]; exact this.2⟩
  · intro j hj
    have hj2 : j / 2 < games.length := by omega
    obtain ⟨h1, h2⟩ := htm (j / 2) hj2
    refine ⟨?_, fun q hq => by rw [twice_tm]; exact h2 q hq⟩
    have e : j = 2 * (j / 2) + j % 2 := by omega
    rw [e, List.flatMap_def, getD_flatten2 _ _ (by simp [twice]) _ _ (by omega)]
    have : (games.map twice).getD (j / 2) [] = twice games[j / 2] := by simp [List.getD_eq_getElem?_getD, hj2]
    rw [this]
    rw [List.getD_eq_getElem?_getD, List.getElem?_eq_getElem hj2] at h1
    rcases (by omega : j % 2 = 0 ∨ j % 2 = 1) with h | h <;> rw [h] <;> exact h1

/-! ### Points are few -/
def InB (B : Int) (t : List Int) : Prop := ∀ x, 0 ≤ t.getD x 0 ∧ t.getD x 0 ≤ B
theorem InB.set {B C : Int} {t : List Int} (h : InB B t) (hBC : B ≤ C) {i : Nat} {v : Int} (h0 : 0 ≤ v) (h1 : v ≤ C) : InB C (t.set i v) := by
  intro x
  by_cases hx : i = x
  · subst hx
    by_cases hi : i < t.length
    · rw [lget_set_self hi]; exact ⟨h0, h1⟩
    · rw [List.getD_eq_getElem?_getD, List.getElem?_eq_none (by simp; omega)]
      exact ⟨Int.le_refl _, by show 0 ≤ C; omega⟩
  · rw [lget_set_ne _ hx]; have := h x; omega
theorem InB.adds {g : Int → Int → Int} : ∀ (evl : List Ev) (B : Int) (t : List Int), (∀ ev ∈ evl, 0 ≤ g ev.b ev.own ∧ g ev.b ev.own ≤ 1000000) → InB B t → B + 1000000 * evl.length ≤ 9223372036854775807 → InB (B + 1000000 * evl.length) (evl.foldl (addAt g) t)
  | [], B, t, _, h, _ => by simpa using h
  | ev :: evl, B, t, hg, h, hb => by
    have h1 := hg ev (by simp)
    have h2 := h ev.a.toNat
    rw [List.length_cons] at hb ⊢
    have ih := InB.adds evl (B + 1000000) (addAt g t ev) (fun e he => hg e (by simp [he])) ?_ (by omega)
    · have e : B + 1000000 + 1000000 * (evl.length : Int) = B + 1000000 * ((evl.length + 1 : Nat) : Int) := by omega
      rw [e] at ih; exact ih
    · refine h.set (by omega) ?_ ?_ <;> rw [w64 (by omega) (by omega)] <;> omega
theorem InB.wins {a : Int} : ∀ (ps : List (List Int)) (B : Int) (t : List Int), InB B t → B + 2 * ps.length ≤ 9223372036854775807 → InB (B + 2 * ps.length) (ps.foldl (winPts a) t)
  | [], B, t, h, _ => by simpa using h
  | p :: ps, B, t, h, hb => by
    rw [List.length_cons] at hb ⊢
    have ih := InB.wins (a := a) ps (B + 2) (winPts a t p) ?_ (by omega)
    · have e : B + 2 + 2 * (ps.length : Int) = B + 2 * ((ps.length + 1 : Nat) : Int) := by omega
      rw [e] at ih; exact ih
    · have h2 := h a.toNat
      unfold winPts
      split
      · refine h.set (by omega) ?_ ?_ <;> rw [w64 (by omega) (by omega)] <;> omega
      · intro x; have := h x; omega
theorem evRow_len (i : Int) : ∀ (ps : List (List Int)) (xs : List Int), (evRow i ps xs).length ≤ 2 * ps.length
  | [], xs => by simp [evRow]
  | p :: ps, [] => by simp [evRow]
  | p :: ps, x :: xs => by have := evRow_len i ps xs; rw [evRow]; simp only [List.length_cons]; omega
theorem evs_len (n : Int) : ∀ (i : Nat) (rs xss : List (List Int)), (evs n i rs xss).length ≤ 2 * n.toNat * rs.length
  | i, [], xss => by simp [evs]
  | i, r :: rs, [] => by simp [evs]
  | i, r :: rs, xs :: xss => by
    have h1 := evs_len n (i + 1) rs xss
    have h2 := evRow_len i (pairsOf n r) xs
    have h3 := pairsFrom_len r n.toNat 0
    rw [evs, List.length_append, List.length_cons, Nat.mul_add, Nat.mul_one]
    unfold pairsOf at *
    omega
theorem allPairs_len (n : Int) : ∀ (rs : List (List Int)), (allPairs n rs).length ≤ n.toNat * rs.length
  | [] => by simp [allPairs]
  | r :: rs => by
    have h1 := allPairs_len n rs
    have h3 := pairsFrom_len r n.toNat 0
    rw [allPairs_cons, List.length_append, List.length_cons, Nat.mul_add, Nat.mul_one]
    unfold pairsOf at *
    omega
theorem InB.zero (n : Nat) : InB 0 (List.replicate n 0) := by
  intro x
  rw [List.getD_eq_getElem?_getD, List.getElem?_replicate]
  split <;> simp
theorem summed_InB {n : Int} {rs xss : List (List Int)} (hs : scheduleOk n rs = true) : InB 1120000000 (summedM (fun _ own => own) n rs xss) := by
  obtain ⟨k1, k2, k3, k4⟩ := scheduleOk_facts hs
  have h1 := evs_len n 0 rs xss
  have h2 : 2 * n.toNat * rs.length ≤ 28 * 40 := Nat.mul_le_mul (by omega) k3
  have := InB.adds (g := fun _ own => own) (evs n 0 rs xss) 0 _ (fun ev hev => by have := evs_ok (by omega) 0 rs xss k4 ev hev; unfold EvOk at this; omega) (InB.zero n.toNat) (by omega)
  intro x
  have := this x
  unfold summedM
  omega
theorem endPts_InB {n a : Int} {rs xss : List (List Int)} (hs : scheduleOk n rs = true) : InB 1120001120 (endPts n a rs xss) := by
  obtain ⟨k1, k2, k3, k4⟩ := scheduleOk_facts hs
  have h1 := allPairs_len n (rs.drop xss.length)
  have h2 : n.toNat * (rs.drop xss.length).length ≤ 14 * 40 := Nat.mul_le_mul (by omega) (by rw [List.length_drop]; omega)
  have := InB.wins (a := a) (allPairs n (rs.drop xss.length)) _ _ (summed_InB (xss := xss) hs) (by omega)
  intro x
  have := this x
  unfold endPts
  omega
theorem roomAt_eq {B a : Int} {pts : List Int} (h : InB B pts) (hB : B ≤ 9223372036854775807) (y : Nat) : roomAt a pts y = pts.getD a.toNat 0 - pts.getD y 0 := by
  have := h a.toNat; have := h y
  unfold roomAt; exact w64 (by omega) (by omega)

end Go.Proofs.Ytbppeajpjnlobaa

/- Whether a team can be first, as the program tells it: points and meetings that are left. -/
set_option linter.unusedVariables false
set_option linter.unusedSimpArgs false
namespace Go.Proofs.Ytbppeajpjnlobaa
open Go.HL

/-- The state of the first loops. -/
structure ISt (hJ : Heap) (m : PMap) (bp lb : Nat) (n : Int) (pts : List Int) (gs : List (List Int)) : Prop where
  beside : Beside hJ m
  cells : m bp = some (LM pts)
  plen : (pts.length : Int) = n
  list : ∃ vs x, CellVec m lb vs x ∧ Each hJ vs gs ∧ x ≠ some bp
  ne : bp ≠ lb
theorem ISt.base {hJ : Heap} {m : PMap} {bp lb : Nat} {n : Int} {pts : List Int} {gs : List (List Int)} (s : ISt hJ m bp lb n pts gs) {b : Nat} (hf : (over hJ m).fresh b) (k : Blk) :
    ISt (hJ.upd b k) m bp lb n pts gs ∧ Ext hJ (hJ.upd b k) ∧ (over hJ m).upd b k = over (hJ.upd b k) m := by
  have e := Ext.upd (over_fresh hf).1 k
  obtain ⟨vs, x, h1, h2, h3⟩ := s.list
  exact ⟨⟨s.beside.base hf k, s.cells, s.plen, ⟨vs, x, h1, h2.mono e, h3⟩, s.ne⟩, e, over_base hf k⟩
theorem ISt.call {hJ : Heap} {m : PMap} {bp lb : Nat} {n : Int} {pts : List Int} {gs : List (List Int)} (s : ISt hJ m bp lb n pts gs) {f : FuncId} {args : List Value} {R : Value → Heap → Prop}
    (cc : ACalls Try.prog f args hJ fun u h2 => Ext hJ h2 ∧ R u h2) : ACalls Try.prog f args (over hJ m) fun u h2 => ∃ hK, h2 = over hK m ∧ Ext hJ hK ∧ ISt hK m bp lb n pts gs ∧ R u hK := by
  refine (over_frame s.beside cc).mono ?_
  rintro u h2 ⟨hK, hb, rfl, e, r⟩
  obtain ⟨vs, x, h1, h2, h3⟩ := s.list
  exact ⟨hK, rfl, e, ⟨hb, s.cells, s.plen, ⟨vs, x, h1, h2.mono e, h3⟩, s.ne⟩, r⟩

theorem I.Schedule.canBeFirst.inner {n a : Int} {hI0 : Heap} {R : Option Addr} {rl rc bs bp lb : Nat} (a0 : 0 ≤ a) (an : a < n) (ps : List (List Int)) (P : Option Addr) (cP i : Nat) (hi : i ≤ 40) (K : Value → Heap → Prop) (hps : ∀ p ∈ ps, p.length = 2) (hbig : ps.length ≤ 14) :
    ∀ (k j : Nat) (pts : List Int) (gs : List (List Int)) (hJ : Heap) (m : PMap), j + k = ps.length → Ext hI0 hJ → ISt hJ m bp lb n pts gs → Tab hJ P ps → gs.length ≤ 14 * i + j →
      (∀ (pts' : List Int) (gs' : List (List Int)) (hK : Heap) (m' : PMap), Ext hI0 hK → ISt hK m' bp lb n pts' gs' → gs'.length ≤ 14 * (i + 1) → pts' = (ps.drop j).foldl (winPts a) pts → gs' = gs ++ leftOf a (ps.drop j) →
        I.Schedule.canBeFirst.L0 K (.int .i64 a) (.pointer (some ⟨bs, 0, none⟩)) (.slice (some ⟨bp, 0, none⟩) n.toNat n.toNat) (.pointer (some ⟨lb, 0, none⟩)) (.slice R rl rc) (.int .i64 rl) (.int .i64 ((i + 1 : Nat) : Int)) (over hK m')) →
      I.Schedule.canBeFirst.L1 K (.int .i64 a) (.pointer (some ⟨bs, 0, none⟩)) (.slice (some ⟨bp, 0, none⟩) n.toNat n.toNat) (.pointer (some ⟨lb, 0, none⟩)) (.slice R rl rc) (.int .i64 rl) (.int .i64 i) (.slice P ps.length cP) (.int .i64 ps.length) (.int .i64 j) (over hJ m) := by
  intro k
  induction k with
  | zero =>
    intro j pts gs hJ m hj he s hP hlb hk
    refine I.Schedule.canBeFirst.L1_step K _ _ _ _ _ _ _ _ _ _ _ _ _ _ _ _ _ _ _ (dec_split (fun hc => by omega) (fun _ => ?_))
    rw [wsucc (by omega)]
    refine hk pts gs hJ m he s (by omega) ?_ ?_
    · rw [List.drop_eq_nil_of_le (by omega)]; rfl
    · rw [List.drop_eq_nil_of_le (by omega)]; simp [leftOf]
  | succ k ih =>
    intro j pts gs hJ m hj he s hP hlb hk
    have hj' : j < ps.length := by omega
    have e1 : ps.getD (Int.toNat j) [] = ps[j] := by rw [Int.toNat_natCast, List.getD_eq_getElem?_getD, List.getElem?_eq_getElem hj']; rfl
    have e2 : ps[j].length = 2 := hps _ (List.getElem_mem hj')
    rw [List.drop_eq_getElem_cons hj'] at hk
    have eB := over_ext s.beside
    refine I.Schedule.canBeFirst.L1_step K _ _ _ _ _ _ _ _ _ _ _ _ _ _ _ _ _ _ _ (dec_split (fun hc => ?_) (fun hc => by omega))
    refine hP.rd eB rfl (by omega) (by omega) fun D dD hD hdD => ?_
    rw [e1] at hD hdD ⊢
    refine hD.rd eB rfl (by omega) (by omega) fun k55 hk55 => ?_
    have yes : hasA a ps[j] = true → k55 [.bool true] (over hJ m) := by
      intro hy
      refine hk55 _ _ (bool_split (fun _ => ?_) (fun hh => by cases hh))
      refine over_rd (sp := []) (by rw [List.append_nil]; exact s.cells) (by have := s.plen; omega) a0 (by omega) (over_wr (sp := []) (cs := LM pts) (by rw [List.append_nil]; exact s.cells) (by have := s.plen; simp; omega) a0 (by omega) rfl ?_)
      have ew : (LM pts).set a.toNat (.int .i64 (IntKind.wrap .i64 (pts.getD a.toNat 0 + 2))) ++ [] = LM (winPts a pts ps[j]) := by rw [winPts, if_pos hy, List.append_nil, LM, LM, ← List.map_set]
      rw [ew, wsucc (by omega)]
      obtain ⟨vs, x, h1, h2, h3⟩ := s.list
      refine ih (j + 1) _ gs hJ _ (by omega) he ⟨s.beside.put (by rw [s.cells]; simp) _, put_self _ _ _, by rw [winPts_len]; exact s.plen, ⟨vs, x, h1.congr (put_ne _ _ s.ne.symm) (fun b hb => put_ne _ _ (fun e => h3 (by rw [hb, e]))), h2, h3⟩, s.ne⟩ hP (by omega) fun pts' gs' hK m' eK s' hl' hp' hg' => hk pts' gs' hK m' eK s' hl' (by rw [List.foldl_cons]; exact hp') ?_
      rw [hg', leftOf, leftOf, List.filter_cons]
      simp [hy]
    have no : hasA a ps[j] = false → k55 [.bool false] (over hJ m) := by
      intro hno
      refine hk55 _ _ (bool_split (fun hh => by cases hh) (fun _ => ?_))
      obtain ⟨vs, x, h1, h2, h3⟩ := s.list
      have hvl : vs.length = gs.length := h2.1
      refine h1.push s.beside (by omega) (by omega) rfl rfl fun hK m' x' eK hB' C' hoth hx' => ?_
      have hx'p : x' ≠ some bp := by
        rcases hx' with h | ⟨b, h, hb⟩
        · rw [h]; exact h3
        · intro e; rw [h] at e; cases e; rw [s.cells] at hb; cases hb
      rw [wsucc (by omega)]
      refine ih (j + 1) pts (gs ++ [ps[j]]) hK m' (by omega) (he.trans eK) ⟨hB', by rw [hoth bp s.ne h3 hx'p]; exact s.cells, s.plen, ⟨_, x', C', (h2.mono eK).snoc ⟨D, dD, rfl, hD.mono eK, hdD⟩, hx'p⟩, s.ne⟩ (hP.mono eK) (by simp; omega) fun pts' gs' hL m2 eL s' hl' hp' hg' => hk pts' gs' hL m2 eL s' hl' ?_ ?_
      · rw [List.foldl_cons, winPts, hno]; exact hp'
      · rw [hg', leftOf, leftOf, List.filter_cons]
        simp [hno]
    refine dec_split (fun hy => yes (by rw [hasA, Bool.or_eq_true]; exact .inl (decide_eq_true hy.symm))) (fun hy => ?_)
    refine hD.rd eB rfl (by omega) (by omega) ?_
    by_cases hy2 : ps[j].getD (Int.toNat 1) 0 = a
    · rw [decide_eq_true hy2]; exact yes (by rw [hasA, Bool.or_eq_true]; exact .inr (decide_eq_true hy2.symm))
    · rw [decide_eq_false hy2]
      refine no ?_
      rw [hasA, Bool.or_eq_false_iff]
      exact ⟨decide_eq_false fun e => hy e.symm, decide_eq_false fun e => hy2 e.symm⟩

theorem I.Schedule.canBeFirst.outer {n a : Int} {hI0 : Heap} {R : Option Addr} {rs : List (List Int)} {rl rc bs bp lb : Nat} (a0 : 0 ≤ a) (an : a < n) (h14 : n ≤ 14) (hr : Rds hI0 R rs) (hl : rs.length = rl) (hl40 : rl ≤ 40) (hn : hI0.get bs (0 + 0) = some (.int .i64 n)) (K : Value → Heap → Prop) :
    ∀ (k i : Nat) (pts : List Int) (gs : List (List Int)) (hJ : Heap) (m : PMap), i + k = rl → Ext hI0 hJ → ISt hJ m bp lb n pts gs → gs.length ≤ 14 * i →
      (∀ (pts' : List Int) (gs' : List (List Int)) (hK : Heap) (m' : PMap), Ext hI0 hK → ISt hK m' bp lb n pts' gs' → gs'.length ≤ 14 * rl → pts' = (allPairs n (rs.drop i)).foldl (winPts a) pts → gs' = gs ++ leftOf a (allPairs n (rs.drop i)) →
        SAlloc (over hK m') [] fun b74 h75 => SAlloc h75 [.slice none 0 0] fun b76 h77 => SStore h77 b76 0 [.slice (some ⟨b74, 0, none⟩) 0 0] fun h78 => I.Schedule.canBeFirst.L2 K (.int .i64 a) (.pointer (some ⟨bs, 0, none⟩)) (.slice (some ⟨bp, 0, none⟩) n.toNat n.toNat) (.pointer (some ⟨lb, 0, none⟩)) (.pointer (some ⟨b76, 0, none⟩)) (.slice (some ⟨bp, 0, none⟩) n.toNat n.toNat) (.int .i64 n.toNat) (.int .i64 0) h78) →
      I.Schedule.canBeFirst.L0 K (.int .i64 a) (.pointer (some ⟨bs, 0, none⟩)) (.slice (some ⟨bp, 0, none⟩) n.toNat n.toNat) (.pointer (some ⟨lb, 0, none⟩)) (.slice R rl rc) (.int .i64 rl) (.int .i64 i) (over hJ m) := by
  intro k
  induction k with
  | zero =>
    intro i pts gs hJ m hi he s hlb hk
    refine I.Schedule.canBeFirst.L0_step K _ _ _ _ _ _ _ _ _ _ _ _ _ _ (dec_split (fun hc => by omega) (fun _ => ?_))
    have e9 : rs.drop i = [] := List.drop_eq_nil_of_le (by omega)
    exact hk pts gs hJ m he s (by omega) (by rw [e9]; rfl) (by rw [e9]; simp [allPairs, leftOf])
  | succ k ih =>
    intro i pts gs hJ m hi he s hlb hk
    have hir : i < rs.length := by omega
    rw [List.drop_eq_getElem_cons hir] at hk
    refine I.Schedule.canBeFirst.L0_step K _ _ _ _ _ _ _ _ _ _ _ _ _ _ (dec_split (fun hc => ?_) (fun hc => by omega))
    refine (hr.mono he).rd (over_ext s.beside) hl (by omega) (by omega) fun hr14 => ?_
    have e1 : rs.getD (Int.toNat i) [] = rs[i] := by rw [Int.toNat_natCast, List.getD_eq_getElem?_getD, List.getElem?_eq_getElem hir]; rfl
    rw [e1] at hr14 ⊢
    intro b30 hf30
    refine ⟨by simpa using hr14, List.replicate 14 (.int .i64 0), Heap.upd_own_self _ _ _, by simp; omega, oneInts _, rs[i], hr14, ?_, ?_⟩
    · rw [upd_upd]
      refine getN_of (by simpa using hr14) fun q v hv => ?_
      rw [Nat.zero_add, get_upd, if_pos rfl]
      have : splice (List.replicate 14 (.int .i64 0)) 0 (List.map (Value.int .i64) rs[i]) = List.map (Value.int .i64) rs[i] := by simp [splice, hr14]
      rw [this]; exact hv
    rw [upd_upd]
    obtain ⟨s2, e2, e3⟩ := s.base hf30 (.cells (splice (List.replicate 14 (.int .i64 0)) 0 (List.map (Value.int .i64) rs[i])))
    rw [e3]
    refine ⟨n, (over_ext s2.beside).get ((he.trans e2).get hn), (s2.call (I.Round.pairs.spec hr14 (by omega) h14)).mono ?_⟩
    rintro u h3 ⟨hK, rfl, eK, s3, P, cP, rfl, hP⟩
    have hbig : (pairsOf n rs[i]).length ≤ 14 := by have := pairsFrom_len rs[i] n.toNat 0; unfold pairsOf; omega
    refine ⟨P, _, cP, rfl, I.Schedule.canBeFirst.inner (hI0 := hI0) a0 an _ P cP i (by omega) K (fun p hp => pairsFrom_two _ _ _ p hp) hbig _ 0 pts gs hK m (Nat.zero_add _) ((he.trans e2).trans eK) s3 hP (by omega) fun pts' gs' hL m' eL s4 hl' hp' hg' => ?_⟩
    refine ih (i + 1) pts' gs' hL m' (by omega) eL s4 (by omega) fun pts2 gs2 hM m2 eM s5 hl2 hp2 hg2 => hk pts2 gs2 hM m2 eM s5 hl2 ?_ ?_
    · rw [hp2, hp', List.drop_zero, allPairs_cons, List.foldl_append]; rfl
    · rw [hg2, hg', List.drop_zero, allPairs_cons, leftOf_app, List.append_assoc]; rfl

end Go.Proofs.Ytbppeajpjnlobaa

/- Whether a team can be first, as the program tells it: rooms, and all points given. -/
set_option linter.unusedVariables false
set_option linter.unusedSimpArgs false
namespace Go.Proofs.Ytbppeajpjnlobaa
open Go.HL

theorem ISt.freeze {hJ : Heap} {m : PMap} {bp lb : Nat} {n : Int} {pts : List Int} {gs : List (List Int)} (s : ISt hJ m bp lb n pts gs) :
    ∃ hF m' G c, Ext hJ hF ∧ Beside hF m' ∧ over hJ m = over hF m' ∧ hF.get lb 0 = some (.slice G gs.length c) ∧ Tab hF G gs ∧ m' bp = some (LM pts) := by
  obtain ⟨vs, x, C, hE, hx⟩ := s.list
  obtain ⟨v, e1, e2⟩ := C.cell
  obtain ⟨f1, f2, f3⟩ := over_freeze s.beside e1
  have hlen := hE.1
  rcases e2 with ⟨rfl, rfl, rfl⟩ | ⟨y, c, sp, rfl, rfl, e3, e4, e5⟩
  · refine ⟨_, _, none, 0, f3, f2, f1, by rw [get_upd, if_pos rfl]; simp at hlen; simp [← hlen], (hE.mono f3).tab (Seg.nil_none _), ?_⟩
    rw [del_ne _ s.ne]; exact s.cells
  · have hyl : y ≠ lb := fun e => C.ne (by rw [e])
    have e3' : (PMap.del m lb) y = some (vs ++ sp) := by rw [del_ne _ hyl]; exact e3
    obtain ⟨g1, g2, g3⟩ := over_freeze f2 e3'
    refine ⟨_, _, some ⟨y, 0, none⟩, c, f3.trans g3, g2, f1.trans g1, g3.get (by rw [get_upd, if_pos rfl, ← hlen]; rfl), (hE.mono (f3.trans g3)).tab (Seg.new _ _ _ _), ?_⟩
    have hby : bp ≠ y := fun e => hx (by rw [e])
    rw [del_ne _ hby, del_ne _ s.ne]; exact s.cells

theorem I.Schedule.canBeFirst.rooms {n a : Int} {hI0 : Heap} {bs bp lb rb : Nat} {pts : List Int} (a0 : 0 ≤ a) (an : a < n) (h14 : n ≤ 14) (hpl : (pts.length : Int) = n) (hrp : rb ≠ bp) (K : Value → Heap → Prop) :
    ∀ (k x : Nat) (hJ : Heap) (m : PMap) (y : Option Nat), (x : Int) + k = n → Ext hI0 hJ → Beside hJ m → m bp = some (LM pts) → CellVec m rb (LM (roomsTo a pts x)) y → y ≠ some bp →
      (∀ hK m', Ext hI0 hK → Beside hK m' → (∃ y : Nat, (y : Int) < n ∧ pts.getD a.toNat 0 < pts.getD y 0) → K (.bool false) (over hK m')) → (∀ y : Nat, y < x → pts.getD y 0 ≤ pts.getD a.toNat 0) →
      (∀ (hK : Heap) (m' : PMap) (y' : Option Nat), Ext hI0 hK → Beside hK m' → CellVec m' rb (LM (roomsTo a pts n.toNat)) y' → (∀ y : Nat, (y : Int) < n → pts.getD y 0 ≤ pts.getD a.toNat 0) →
        ∃ x104A : Option Addr, ∃ x104l : Nat, ∃ x104c : Nat, (over hK m').get lb 0 = some (.slice x104A x104l x104c) ∧ (x104l : Int) = (x104l : Int) ∧ 0 ≤ (x104l : Int) ∧ (x104l : Int) * 24 ≤ 281474976710656 ∧ (x104l : Int) ≤ 9223372036854775807 ∧
        SAlloc (over hK m') (List.replicate (Int.toNat (x104l : Int)) (.slice none 0 0)) fun b105 h106 => SAlloc h106 [.slice none 0 0] fun b107 h108 => SStore h108 b107 0 [.slice (some ⟨b105, 0, none⟩) (Int.toNat (x104l : Int)) (Int.toNat (x104l : Int))] fun h109 => SAlloc h109 [.nilFunc] fun b110 h111 =>
        SStore h111 b110 0 [.func (.func I.Schedule.canBeFirst.c1.id) #[] (#[.pointer (some ⟨lb, 0, none⟩), .pointer (some ⟨rb, 0, none⟩), .pointer (some ⟨b107, 0, none⟩), .pointer (some ⟨b110, 0, none⟩)])] fun h112 =>
        ∃ x113A : Option Addr, ∃ x113l : Nat, ∃ x113c : Nat, h112.get lb 0 = some (.slice x113A x113l x113c) ∧ I.Schedule.canBeFirst.L3 K (.pointer (some ⟨bs, 0, none⟩)) (.pointer (some ⟨b110, 0, none⟩)) (.int .i64 (x113l : Int)) (.int .i64 0) h112) →
      I.Schedule.canBeFirst.L2 K (.int .i64 a) (.pointer (some ⟨bs, 0, none⟩)) (.slice (some ⟨bp, 0, none⟩) n.toNat n.toNat) (.pointer (some ⟨lb, 0, none⟩)) (.pointer (some ⟨rb, 0, none⟩)) (.slice (some ⟨bp, 0, none⟩) n.toNat n.toNat) (.int .i64 n.toNat) (.int .i64 x) (over hJ m) := by
  intro k
  induction k with
  | zero =>
    intro x hJ m y hx he hB hm C hy hno hyes hk
    have ex : x = n.toNat := by omega
    subst ex
    refine I.Schedule.canBeFirst.L2_step K _ _ _ _ _ _ _ _ _ _ _ _ _ _ _ _ (dec_split (fun hc => by omega) (fun _ => ?_))
    exact hk hJ m y he hB C (fun z hz => hyes z (by omega))
  | succ k ih =>
    intro x hJ m y hx he hB hm C hy hno hyes hk
    refine I.Schedule.canBeFirst.L2_step K _ _ _ _ _ _ _ _ _ _ _ _ _ _ _ _ (dec_split (fun hc => ?_) (fun hc => by omega))
    have hm0 : m bp = some (LM pts ++ []) := by rw [List.append_nil]; exact hm
    refine over_rd hm0 (by omega) (by omega) (by omega) (over_rd hm0 (by omega) a0 (by omega) (dec_split (fun hlt => ?_) (fun hge => ?_)))
    · rw [Int.toNat_natCast] at hlt
      exact hno hJ m he hB ⟨x, by omega, hlt⟩
    · obtain ⟨A, l, c, hg, hs⟩ := C.push (bytes := 8) (z := [.int .i64 0]) (u := .int .i64 (roomAt a pts x)) (K := fun h103 => I.Schedule.canBeFirst.L2 K (.int .i64 a) (.pointer (some ⟨bs, 0, none⟩)) (.slice (some ⟨bp, 0, none⟩) n.toNat n.toNat) (.pointer (some ⟨lb, 0, none⟩)) (.pointer (some ⟨rb, 0, none⟩)) (.slice (some ⟨bp, 0, none⟩) n.toNat n.toNat) (.int .i64 n.toNat) (.int .i64 (IntKind.wrap .i64 ((x : Int) + 1))) h103)
        hB (by rw [LM, List.length_map, roomsTo_len]; omega) (by omega) rfl rfl (fun hK m' x' eK hB' C' hoth hx' => by
          rw [wsucc (by omega)]
          have hx'p : x' ≠ some bp := by
            rcases hx' with h | ⟨b, h, hb⟩
            · rw [h]; exact hy
            · intro e; rw [h] at e; cases e; rw [hm] at hb; cases hb
          refine ih (x + 1) hK m' x' (by omega) (he.trans eK) hB' (by rw [hoth bp hrp.symm hy hx'p]; exact hm) ?_ hx'p hno (fun z hz => ?_) hk
          · rw [roomsTo_succ]
            have : LM (roomsTo a pts x ++ [roomAt a pts x]) = LM (roomsTo a pts x) ++ [.int .i64 (roomAt a pts x)] := by simp [LM]
            rw [this]; exact C'
          · by_cases hzx : z = x
            · rw [hzx]; rw [Int.toNat_natCast] at hge; omega
            · exact hyes z (by omega))
      refine ⟨A, l, c, hg, over_rd hm0 (by omega) a0 (by omega) ?_⟩
      rw [Int.toNat_natCast]
      exact hs

/-- The owners' memory without marks. -/
structure ORows (m : PMap) (br bo : Nat) (sr : List Value) (rows : List (List Int)) (room : List Int) : Prop where
  r : m br = some (LM room ++ sr)
  n1 : br ≠ bo
  o : ∃ (os : List Value) (xs : Nat → Option Nat), m bo = some os ∧ os.length = rows.length ∧ (∀ j, j < rows.length → RowAt m (os.getD j undef) (rows.getD j []) (xs j)) ∧
    (∀ j b, j < rows.length → xs j = some b → b ≠ br ∧ b ≠ bo) ∧ (∀ j j' b, j < rows.length → j' < rows.length → xs j = some b → xs j' = some b → j = j')
theorem OMem.rows {m : PMap} {br bo bm : Nat} {sr st : List Value} {rows : List (List Int)} {room : List Int} {met : List Bool} (M : OMem m br bo bm sr st rows room met) : ORows m br bo sr rows room :=
  let ⟨os, xs, o1, o2, o3, o4, o5⟩ := M.o
  ⟨M.r, M.n1, os, xs, o1, o2, o3, fun j b hj hb => ⟨(o4 j b hj hb).1, (o4 j b hj hb).2.1⟩, o5⟩
theorem ORows.mark {m : PMap} {br bo : Nat} {sr : List Value} {rows : List (List Int)} {room : List Int} (M : ORows m br bo sr rows room) {b : Nat} (hb : m b = none) (met' : List Bool) (st' : List Value) : OMem (m.put b (BL met' ++ st')) br bo b sr st' rows room met' := by
  obtain ⟨os, xs, o1, o2, o3, o4, o5⟩ := M.o
  have hbr : br ≠ b := fun e => by have := M.r; rw [e, hb] at this; cases this
  have hbo : bo ≠ b := fun e => by rw [e, hb] at o1; cases o1
  have hx : ∀ j y, j < rows.length → xs j = some y → y ≠ b := by
    intro j y hj hy e
    rcases o3 j hj with ⟨h1, _⟩ | ⟨b', c, sp, h1, _, h3, _⟩
    · rw [h1] at hy; cases hy
    · rw [h1] at hy; cases hy; rw [e, hb] at h3; cases h3
  exact ⟨by rw [put_ne _ _ hbr]; exact M.r, put_self _ _ _, M.n1, hbr, hbo, os, xs, by rw [put_ne _ _ hbo]; exact o1, o2, fun j hj => (o3 j hj).congr fun y hy => put_ne _ _ (hx j y hj hy), fun j y hj hy => ⟨(o4 j y hj hy).1, (o4 j y hj hy).2, hx j y hj hy⟩, o5⟩

theorem I.Schedule.canBeFirst.share {n : Int} {games : List (List Int)} {cap : List Int} {G : Option Addr} {L cG : Nat} {hI0 : Heap} {bs lb rb ob gb br bo cr cO : Nat} {sr : List Value} (h0 : 0 ≤ n) (h14 : n ≤ 14) (hn : hI0.get bs (0 + 0) = some (.int .i64 n)) (hG : Tab hI0 G games) (hL : games.length = L) (hLb : L ≤ 1048576)
    (htm : ∀ i, i < L → (games.getD i []).length = 2 ∧ ∀ k, k < 2 → 0 ≤ tm games i k ∧ tm games i k < n.toNat) (hcap : ∀ x : Nat, x < n.toNat → cap.getD x 0 ≤ 9223372036854775807)
    (hlc : hI0.get lb 0 = some (.slice G L cG)) (hrc : hI0.get rb 0 = some (.slice (some ⟨br, 0, none⟩) n.toNat cr)) (hoc : hI0.get ob 0 = some (.slice (some ⟨bo, 0, none⟩) L cO))
    (hgc : hI0.get gb 0 = some (.func (.func I.Schedule.canBeFirst.c1.id) #[] (giveCaps lb rb ob gb).toArray)) (K : Value → Heap → Prop)
    (hk : ∀ (hJ : Heap) (m' : PMap), Ext hI0 hJ → Beside hJ m' → ∀ r : Bool, (r = true ↔ Feasible (games.flatMap twice) n.toNat cap) → K (.bool r) (over hJ m')) :
    ∀ (k i : Nat) (hJ : Heap) (m : PMap) (rows : List (List Int)) (room : List Int), i + k = L → Ext hI0 hJ → Beside hJ m → ORows m br bo sr rows room → Sh2 games n.toNat cap rows room i 0 →
      I.Schedule.canBeFirst.L3 K (.pointer (some ⟨bs, 0, none⟩)) (.pointer (some ⟨gb, 0, none⟩)) (.int .i64 L) (.int .i64 i) (over hJ m) := by
  intro k
  induction k with
  | zero =>
    intro i hJ m rows room hi he hB hO hs
    have ei : i = games.length := by omega
    subst ei
    refine I.Schedule.canBeFirst.L3_step K _ _ _ _ _ _ _ (dec_split (fun hc => by omega) (fun _ => ?_))
    exact hk hJ m he hB true ⟨fun _ => hs.all, fun _ => rfl⟩
  | succ k ih =>
    intro i hJ m rows room hi he hB hO hs
    have hig : i < games.length := by omega
    refine I.Schedule.canBeFirst.L3_step K _ _ _ _ _ _ _ (dec_split (fun _ => ?_) (fun hc => by omega))
    have two : ∀ (qq q : Nat) (hJ : Heap) (m : PMap) (rows : List (List Int)) (room : List Int), q + qq = 2 → Ext hI0 hJ → Beside hJ m → ORows m br bo sr rows room → Sh2 games n.toNat cap rows room i q →
        I.Schedule.canBeFirst.L4 K (.pointer (some ⟨bs, 0, none⟩)) (.pointer (some ⟨gb, 0, none⟩)) (.int .i64 i) (.int .i64 L) (.int .i64 i) (.int .i64 q) (over hJ m) := by
      intro qq
      induction qq with
      | zero =>
        intro q hJ m rows room hq he hB hO hs
        have eq2 : q = 2 := by omega
        subst eq2
        refine I.Schedule.canBeFirst.L4_step K _ _ _ _ _ _ _ _ _ (dec_split (fun hc => by omega) (fun _ => ?_))
        rw [wsucc (by omega)]
        exact ih (i + 1) hJ m rows room (by omega) he hB hO hs.next
      | succ qq ihq =>
        intro q hJ m rows room hq he hB hO hs
        refine I.Schedule.canBeFirst.L4_step K _ _ _ _ _ _ _ _ _ (dec_split (fun _ => ?_) (fun hc => by omega))
        have eB := over_ext hB
        refine ⟨_, _, eB.get (he.get hgc), n, eB.get (he.get hn), rfl, h0, by omega, by omega, rfl, h0, by omega, by omega, fun bm hf => ?_⟩
        have ecells : List.replicate n.toNat (Value.bool false) = BL (List.replicate n.toNat false) ++ [] := by simp [BL]
        rw [ecells, over_put]
        have hB2 := hB.new hf (BL (List.replicate n.toNat false) ++ [])
        have hM := hO.mark (over_fresh hf).2 (List.replicate n.toNat false) []
        have hmet : ∀ x, metB (List.replicate n.toNat false) x = false := fun x => by
          unfold metB
          rw [List.getD_eq_getElem?_getD, List.getElem?_replicate]
          split <;> rfl
        refine (I.Schedule.canBeFirst.c1.spec hG hL hLb htm hlc hrc hoc hgc (left (List.replicate n.toNat false) + 1) rows room (List.replicate n.toNat false) hJ _ i (Nat.lt_succ_self _) he (hs.sl.trans hL) hs.rl (by simp) (fun x hx => ⟨hs.pos x hx, ?_⟩) hs.own (hs.le2 (by omega)) (by omega) hM hB2).mono ?_
        · have := hs.inv x hx
          have := hcap x hx
          omega
        rintro u h2 ⟨r, rows', room', met', hK, m', rfl, rfl, eK, hB3, hM3, hT, hF⟩
        refine ⟨r, rfl, nbool_split (fun hr0 => ?_) (fun hr1 => ?_)⟩
        · obtain ⟨rfl, rfl, F⟩ := hF hr0
          exact hk hK m' (he.trans eK) hB3 false ⟨fun h => (by cases h), fun hfe => absurd hfe (hs.cannot (by omega) hig hmet F (fun j hj => htm j (by omega)))⟩
        · rw [wsucc (by omega)]
          exact ihq (q + 1) hK m' rows' room' (by omega) (he.trans eK) hB3 hM3.rows (hs.step (hT hr1))
    exact two 2 0 hJ m rows room rfl he hB hO hs

end Go.Proofs.Ytbppeajpjnlobaa

/- Whether a team can be first, as the program tells it, whole. -/
set_option linter.unusedVariables false
set_option linter.unusedSimpArgs false
namespace Go.Proofs.Ytbppeajpjnlobaa
open Go.HL

theorem I.Schedule.canBeFirst.spec {n a : Int} {A B : Option Addr} {rs xss : List (List Int)} {l c m d : Nat} {h : Heap} (s : Rds h A rs) (hl : rs.length = l) (hlc : l ≤ c) (x : Tab h B xss) (hm : xss.length = m)
    (hsok : scheduleOk n rs = true) (hok : resultsOk n rs xss = true) (ha : hasTeam n a = true) :
    ACalls Try.prog I.Schedule.canBeFirst.id [.agg #[.int .i64 n, .slice A l c], .slice B m d, .int .i64 a] h fun u h2 => Ext h h2 ∧ ∃ r : Bool, u = .bool r ∧ (r = true ↔ FirstOk n a rs xss) := by
  obtain ⟨k1, k2, k3, k4⟩ := scheduleOk_facts hsok
  have h0 : 0 ≤ n := by omega
  simp only [hasTeam, Bool.and_eq_true, decide_eq_true_eq] at ha
  obtain ⟨a0, an⟩ := ha
  have hml : xss.length ≤ rs.length := by
    simp only [resultsOk, Bool.and_eq_true, decide_eq_true_eq] at hok; exact hok.1
  refine I.Schedule.canBeFirst.step _ _ _ _ _ _ _ _ _ h fun b hf => ⟨n, A, l, c, by simp [Heap.getN], ?_⟩
  have e := Ext.upd hf (.cells [.int .i64 n, .slice A l c])
  have hn : (h.upd b (.cells [.int .i64 n, .slice A l c])).get b (0 + 0) = some (.int .i64 n) := by simp
  have hs : (h.upd b (.cells [.int .i64 n, .slice A l c])).get b 1 = some (.slice A l c) := by simp
  generalize h.upd b (.cells [.int .i64 n, .slice A l c]) = h1 at *
  refine (I.Schedule.points.spec (s.mono e) hl (x.mono e) hm hsok hok).mono ?_
  rintro u h2 ⟨e2, bp, f2, rfl, ho⟩
  obtain ⟨hI, eI, hB, rfl⟩ := carve e2 f2 ho
  refine ⟨_, _, _, rfl, fun b12 hf12 => ?_⟩
  rw [over_put]
  intro lb hfl
  rw [over_put]
  have hm1 := (over_fresh hf12).2
  have hm2 := (over_fresh hfl).2
  have nb : bp ≠ b12 := fun e => by rw [← e, only_self] at hm1; cases hm1
  have nl : lb ≠ b12 := fun e => by rw [e, put_self] at hm2; cases hm2
  have nbl : bp ≠ lb := fun e => by rw [← e, put_ne _ _ nb, only_self] at hm2; cases hm2
  have hB1 := hB.new hf12 []
  have hB2 := hB1.new hfl [.slice none 0 0]
  refine over_store (put_self _ _ _) (by simp) (by simp [Value.oneCell']) ?_
  have hB3 := hB2.put (b := lb) (by rw [put_self]; simp) (splice [.slice none 0 0] 0 [.slice (some ⟨b12, 0, none⟩) 0 0])
  have eh := over_ext hB3
  obtain ⟨A', hsl, hrs⟩ := Rds.drop (s.mono (e.trans eI)) hl hlc (m := m) (by omega)
  refine ⟨A, l, c, eh.get (eI.get hs), A', _, _, hsl, ?_⟩
  have hst : ISt hI ((((only bp (LM (summedM (fun _ own => own) n rs xss))).put b12 []).put lb [.slice none 0 0]).put lb (splice [.slice none 0 0] 0 [.slice (some ⟨b12, 0, none⟩) 0 0])) bp lb n (summedM (fun _ own => own) n rs xss) [] := by
    refine ⟨hB3, by rw [put_ne _ _ nbl, put_ne _ _ nbl, put_ne _ _ nb, only_self], summed_len _ _ _ _ h0, ⟨[], some b12, ⟨⟨_, ?_, .inr ⟨b12, 0, [], rfl, rfl, ?_, rfl, Nat.le_refl _⟩⟩, fun e => nl (by cases e; rfl)⟩, Each.nil _, fun e => nb (by cases e; rfl)⟩, nbl⟩
    · rw [put_self]; simp [splice]
    · rw [put_ne _ _ nl.symm, put_ne _ _ nl.symm, put_self]; rfl
  refine I.Schedule.canBeFirst.outer (R := A') (rc := c - m) a0 (by omega) k2 hrs (by rw [List.length_drop]; omega) (by omega) (eI.get hn) _ (l - m) 0 _ [] hI _ (by omega) (Ext.refl _) hst (by simp) ?_
  intro pts' gs' hK m' eK s3 hl' hp' hg' b74 hf74
  have epts : pts' = endPts n a rs xss := by rw [hp', endPts, hm, List.drop_zero]
  have egs : gs' = leftOf a (allPairs n (rs.drop m)) := by rw [hg', List.nil_append, List.drop_zero]
  have hplen := s3.plen
  have hinb := endPts_InB (a := a) (xss := xss) hsok
  rw [← epts] at hinb
  obtain ⟨hF, m4, G, cG, eF, hBF, eov, hlc4, hTab, hbp4⟩ := s3.freeze
  rw [eov] at hf74 ⊢
  have hnF : hF.get b (0 + 0) = some (.int .i64 n) := eF.get (eK.get (eI.get hn))
  have eAll : Ext h hF := (e.trans eI).trans (eK.trans eF)
  rw [over_put]
  intro rb hfr
  rw [over_put]
  have hr1 := (over_fresh hf74).2
  have hr2 := (over_fresh hfr).2
  have n1 : bp ≠ b74 := fun e => by rw [← e, hbp4] at hr1; cases hr1
  have n2 : rb ≠ b74 := fun e => by rw [e, put_self] at hr2; cases hr2
  have n3 : rb ≠ bp := fun e => by rw [e, put_ne _ _ n1, hbp4] at hr2; cases hr2
  have hB5 := hBF.new hf74 []
  have hB6 := hB5.new hfr [.slice none 0 0]
  refine over_store (put_self _ _ _) (by simp) (by simp [Value.oneCell']) ?_
  have hB7 := hB6.put (b := rb) (by rw [put_self]; simp) (splice [.slice none 0 0] 0 [.slice (some ⟨b74, 0, none⟩) 0 0])
  refine I.Schedule.canBeFirst.rooms (hI0 := hF) (pts := pts') a0 (by omega) k2 hplen n3 _ n.toNat 0 hF _ (some b74) (by omega) (Ext.refl _) hB7 (by rw [put_ne _ _ n3.symm, put_ne _ _ n3.symm, put_ne _ _ n1]; exact hbp4) ?_ (fun e => n1 (by cases e; rfl)) ?_ (fun y hy => by omega) ?_
  · refine ⟨⟨_, ?_, .inr ⟨b74, 0, [], rfl, rfl, ?_, rfl, Nat.le_refl _⟩⟩, fun e => n2 (by cases e; rfl)⟩
    · rw [put_self]; simp [splice, roomsTo]
    · rw [put_ne _ _ n2.symm, put_ne _ _ n2.symm, put_self]; rfl
  · intro hL m8 eL hB8 ⟨y, hy, hlt⟩
    refine ⟨eAll.trans (eL.trans (over_ext hB8)), false, rfl, ⟨fun h => (by cases h), fun hfo => ?_⟩⟩
    have := hfo.1 y hy
    rw [← epts, roomAt_eq hinb (by omega)] at this
    omega
  intro hL m8 y8 eL hB8 C8 hpos
  -- the rooms are there; nothing of them is a variable any more
  have eB8 := over_ext hB8
  have hLg : gs'.length ≤ 560 := by omega
  refine ⟨G, _, cG, eB8.get (eL.get hlc4), rfl, by omega, by omega, by omega, fun bo hfo => ?_⟩
  obtain ⟨v8, v81, v82⟩ := C8.cell
  obtain ⟨z1, z2, z3⟩ := over_freeze hB8 v81
  rcases v82 with ⟨_, _, hnil⟩ | ⟨br, cr, sr, rfl, rfl, v83, v84, v85⟩
  · have := congrArg List.length hnil
    simp [roomsTo] at this; omega
  have hbrb : br ≠ rb := fun e => C8.ne (by rw [e])
  have elen : (LM (roomsTo a pts' n.toNat)).length = n.toNat := by rw [LM, List.length_map, roomsTo_len]
  have hrc8 : (hL.upd rb (.cells [.slice (some ⟨br, 0, none⟩) n.toNat cr])).get rb 0 = some (.slice (some ⟨br, 0, none⟩) n.toNat cr) := by rw [get_upd, if_pos rfl]; rfl
  rw [elen] at z1 z2 z3
  rw [z1] at hfo ⊢
  have hbr9 : (PMap.del m8 rb) br = some (LM (roomsTo a pts' n.toNat) ++ sr) := by rw [del_ne _ hbrb]; exact v83
  generalize hL.upd rb (.cells [.slice (some ⟨br, 0, none⟩) n.toNat cr]) = hM at *
  generalize PMap.del m8 rb = m9 at *
  rw [over_put, Int.toNat_natCast]
  have hbo1 := (over_fresh hfo).2
  have nbo : br ≠ bo := fun e => by rw [← e, hbr9] at hbo1; cases hbo1
  have hB10 := z2.new hfo (List.replicate gs'.length (.slice none 0 0))
  have hm10 : (m9.put bo (List.replicate gs'.length (.slice none 0 0))) br = some (LM (roomsTo a pts' n.toNat) ++ sr) := by rw [put_ne _ _ nbo]; exact hbr9
  have hbo10 := put_self m9 bo (List.replicate gs'.length (Value.slice none 0 0))
  generalize m9.put bo (List.replicate gs'.length (.slice none 0 0)) = m10 at *
  intro ob hfob
  refine ⟨[.slice none 0 0], Heap.upd_own_self _ _ _, by simp, by simp [Value.oneCell'], ?_⟩
  rw [upd_upd, over_base hfob]
  have eOb := Ext.upd (over_fresh hfob).1 (.cells (splice [.slice none 0 0] 0 [.slice (some ⟨bo, 0, none⟩) gs'.length gs'.length]))
  have hB11 := hB10.base hfob (.cells (splice [.slice none 0 0] 0 [.slice (some ⟨bo, 0, none⟩) gs'.length gs'.length]))
  have hoc : (hM.upd ob (.cells (splice [.slice none 0 0] 0 [.slice (some ⟨bo, 0, none⟩) gs'.length gs'.length]))).get ob 0 = some (.slice (some ⟨bo, 0, none⟩) gs'.length gs'.length) := by rw [get_upd, if_pos rfl]; simp [splice]
  generalize hM.upd ob (.cells (splice [.slice none 0 0] 0 [.slice (some ⟨bo, 0, none⟩) gs'.length gs'.length])) = hN at *
  intro gb hfgb
  refine ⟨[.nilFunc], Heap.upd_own_self _ _ _, by simp, by simp [Value.oneCell'], ?_⟩
  rw [upd_upd, over_base hfgb]
  have eGb := Ext.upd (over_fresh hfgb).1 (.cells (splice [.nilFunc] 0 [.func (.func I.Schedule.canBeFirst.c1.id) #[] (#[.pointer (some ⟨lb, 0, none⟩), .pointer (some ⟨rb, 0, none⟩), .pointer (some ⟨ob, 0, none⟩), .pointer (some ⟨gb, 0, none⟩)])]))
  have hB12 := hB11.base hfgb (.cells (splice [.nilFunc] 0 [.func (.func I.Schedule.canBeFirst.c1.id) #[] (#[.pointer (some ⟨lb, 0, none⟩), .pointer (some ⟨rb, 0, none⟩), .pointer (some ⟨ob, 0, none⟩), .pointer (some ⟨gb, 0, none⟩)])]))
  have hgc : (hN.upd gb (.cells (splice [.nilFunc] 0 [.func (.func I.Schedule.canBeFirst.c1.id) #[] (#[.pointer (some ⟨lb, 0, none⟩), .pointer (some ⟨rb, 0, none⟩), .pointer (some ⟨ob, 0, none⟩), .pointer (some ⟨gb, 0, none⟩)])]))).get gb 0 = some (.func (.func I.Schedule.canBeFirst.c1.id) #[] (giveCaps lb rb ob gb).toArray) := by rw [get_upd, if_pos rfl]; simp [splice]
  generalize hN.upd gb (.cells (splice [.nilFunc] 0 [.func (.func I.Schedule.canBeFirst.c1.id) #[] (#[.pointer (some ⟨lb, 0, none⟩), .pointer (some ⟨rb, 0, none⟩), .pointer (some ⟨ob, 0, none⟩), .pointer (some ⟨gb, 0, none⟩)])])) = hO at *
  have eLO := (z3.trans eOb).trans eGb
  have hlcO := eLO.get (eL.get hlc4)
  refine ⟨_, _, _, (over_ext hB12).get hlcO, ?_⟩
  have hcap : ∀ x : Nat, x < n.toNat → (roomsTo a pts' n.toNat).getD x 0 ≤ 9223372036854775807 := fun x hx => by rw [roomsTo_get _ _ hx]; exact wrap_le _
  have hpos2 : ∀ y : Nat, (y : Int) < n → 0 ≤ roomAt a pts' y := fun y hy => by
    have := hpos y hy
    rw [roomAt_eq hinb (by omega)]; omega
  have htm : ∀ i, i < gs'.length → (gs'.getD i []).length = 2 ∧ ∀ k, k < 2 → 0 ≤ tm gs' i k ∧ tm gs' i k < n.toNat := by
    intro i hi
    have hmem := getD_mem (d := []) hi
    have hall : ∀ p ∈ gs', p.length = 2 ∧ 0 ≤ p.getD 0 0 ∧ p.getD 0 0 < p.getD 1 0 ∧ p.getD 1 0 < n := by
      intro p hp
      refine leftGames_mem (a := a) (m := m) h0 k4 ?_
      rw [egs] at hp
      rw [leftGames, List.mem_flatMap]
      exact ⟨p, hp, by simp [twice]⟩
    obtain ⟨p1, p2, p3, p4⟩ := hall _ hmem
    refine ⟨p1, fun k hk => ?_⟩
    unfold tm
    rcases (by omega : k = 0 ∨ k = 1) with rfl | rfl <;> omega
  refine I.Schedule.canBeFirst.share (games := gs') (cap := roomsTo a pts' n.toNat) (sr := sr) h0 k2 (eLO.get (eL.get hnF)) ((hTab.mono eL).mono eLO) rfl (by omega) htm hcap hlcO ((eOb.trans eGb).get hrc8) (eGb.get hoc) hgc _ ?_ gs'.length 0 hO m10 (List.replicate gs'.length []) (roomsTo a pts' n.toNat) (by omega) (Ext.refl _) hB12 ?_ ?_
  · intro hP m11 eP hB13 r hr
    refine ⟨(eAll.trans eL).trans (eLO.trans (eP.trans (over_ext hB13))), r, rfl, hr.trans ?_⟩
    rw [FirstOk, leftGames, hm, ← epts, egs]
    exact ⟨fun h => ⟨hpos2, h⟩, fun h => h.2⟩
  · refine ⟨hm10, nbo, _, fun _ => none, hbo10, by simp, fun j hj => ?_, fun j b hj hb => (by cases hb), fun j j' b hj hj' hb => (by cases hb)⟩
    rw [List.length_replicate] at hj
    refine .inl ⟨rfl, ?_, ?_⟩
    · simp [List.getD_eq_getElem?_getD, hj]
    · simp [List.getD_eq_getElem?_getD, hj]
  · have hnil : ∀ j, (List.replicate gs'.length ([] : List Int)).getD j [] = [] := fun j => by
      rw [List.getD_eq_getElem?_getD, List.getElem?_replicate]; split <;> rfl
    refine ⟨by simp, roomsTo_len _ _ _, fun j hj => ?_, fun j x hx => (by rw [hnil] at hx; cases hx), fun x hx => ?_, fun x hx => by rw [roomsTo_get _ _ hx]; exact hpos2 x (by omega)⟩
    · rw [hnil, if_neg (by omega)]; split <;> rfl
    · have : cnt (List.replicate gs'.length []) (x : Int) = 0 := by simp [cnt]
      rw [this]; simp

end Go.Proofs.Ytbppeajpjnlobaa

/- The laws' own functions: copies and comparisons of rounds and schedules. -/
set_option linter.unusedVariables false
set_option linter.unusedSimpArgs false
namespace Go.Proofs.Ytbppeajpjnlobaa
open Go.HL

theorem L.szInt64SS.spec {A : Option Addr} {xss : List (List Int)} {l c : Nat} {left : Int} {h : Heap} (s : TabW h A xss) (hl : xss.length = l) (hlb : l ≤ 9223372036854775807) (hb : ∀ xs ∈ xss, xs.length ≤ 9223372036854775807) (h0 : 0 ≤ left) (h1 : left ≤ 1048576) :
    ACalls Try.prog L.szInt64SS.id [.slice A l c, .int .i64 left] h fun u h2 => h2 = h ∧ ∃ r : Int, u = .int .i64 r ∧ r ≤ 1048576 ∧ (0 ≤ r → xss.length ≤ 1048576 ∧ ∀ xs ∈ xss, xs.length ≤ 1048576) := by
  refine L.szInt64SS.step _ _ _ _ _ h ?_
  rw [w64 (by omega) (by omega)]
  refine dec_split (fun hc => ⟨rfl, -1, rfl, by omega, fun h => by omega⟩) (fun hc => ?_)
  have loop : ∀ (m i : Nat) (lf : Int), i + m = l → 0 ≤ lf → lf ≤ 1048576 → (∀ xs ∈ xss.take i, xs.length ≤ 1048576) →
      L.szInt64SS.L0 (fun u h2 => h2 = h ∧ ∃ r : Int, u = .int .i64 r ∧ r ≤ 1048576 ∧ (0 ≤ r → xss.length ≤ 1048576 ∧ ∀ xs ∈ xss, xs.length ≤ 1048576)) (.slice A l c) (.int .i64 lf) (.int .i64 i) h := by
    intro m
    induction m with
    | zero =>
      intro i lf hi f0 f1 hd
      refine L.szInt64SS.L0_step _ _ _ _ _ _ _ (dec_split (fun hc => by omega) (fun _ => ⟨rfl, lf, rfl, f1, fun _ => ⟨by omega, fun xs hx => hd xs ?_⟩⟩))
      rw [List.take_of_length_le (by omega)]; exact hx
    | succ m ih =>
      intro i lf hi f0 f1 hd
      have hi' : i < xss.length := by omega
      refine L.szInt64SS.L0_step _ _ _ _ _ _ _ (dec_split (fun hc => ?_) (fun hc => by omega))
      refine s.rd (Ext.refl _) hl (by omega) (by omega) fun D d hD hd2 => ?_
      have e1 : xss.getD (Int.toNat i) [] = xss[i] := by simp [List.getD_eq_getElem?_getD, hi']
      rw [e1]
      have hxb := hb _ (List.getElem_mem hi')
      refine L.szInt64S.spec f0 f1 hxb ⟨_, rfl, dec_split (fun hn => ⟨rfl, -1, rfl, by omega, fun h => by omega⟩) (fun hn => ?_)⟩
      rw [wsucc (by omega)]
      have hle : ¬ (lf < (xss[i].length : Int)) := fun hlt => by rw [if_pos hlt] at hn; omega
      rw [if_neg hle]
      refine ih (i + 1) _ (by omega) (by omega) (by omega) fun xs hx => ?_
      rw [List.take_succ_eq_append_getElem hi'] at hx
      rcases List.mem_append.1 hx with hx | hx
      · exact hd xs hx
      · have : xs = xss[i] := by simpa using hx
        rw [this]; omega
  exact loop l 0 _ (by omega) (by omega) (by omega) (fun xs hx => by simp at hx)

theorem L.toRound.spec {r : List Int} (hr : r.length = 14) {h : Heap} : ACalls Try.prog L.toRound.id [.agg (LM r).toArray] h fun u h2 => Ext h h2 ∧ u = .agg (LM r).toArray := by
  refine L.toRound.step _ _ h fun b2 hf2 => ?_
  have e2 := Ext.upd hf2 (.cells (LM r))
  have hg : ∀ (i : Nat) (v : Value), (LM r)[i]? = some v → (h.upd b2 (.cells (LM r))).get b2 i = some v := fun i v hv => by simpa using hv
  generalize h.upd b2 (.cells (LM r)) = h1 at *
  rw [← over_noM h1]
  have hB0 := beside_noM h1
  generalize noM = m0 at hB0 ⊢
  intro b4 hf4
  rw [over_put]
  have hB1 := hB0.new hf4 (List.replicate 14 (.int .i64 0))
  have hm4 := put_self m0 b4 (List.replicate 14 (Value.int .i64 0))
  generalize m0.put b4 (List.replicate 14 (.int .i64 0)) = m1 at *
  intro b6 hf6
  rw [over_put]
  have h46 : b4 ≠ b6 := fun e => by have := (over_fresh hf6).2; rw [← e, hm4] at this; cases this
  have hB2 := hB1.new hf6 (List.replicate 14 (.int .i64 0))
  have hm6 := put_self m1 b6 (List.replicate 14 (Value.int .i64 0))
  have hm4' : (m1.put b6 (List.replicate 14 (.int .i64 0))) b4 = some (List.replicate 14 (.int .i64 0)) := by rw [put_ne _ _ h46]; exact hm4
  generalize m1.put b6 (List.replicate 14 (.int .i64 0)) = m2 at *
  have loop : ∀ (k i : Nat) (m : PMap), i + k = 14 → Beside h1 m → m b4 = some (List.replicate 14 (.int .i64 0)) → m b6 = some (LM (r.take i ++ List.replicate k 0) ++ []) →
      L.toRound.L0 (fun u h2 => Ext h h2 ∧ u = .agg (LM r).toArray) (.pointer (some ⟨b2, 0, none⟩)) (.pointer (some ⟨b4, 0, none⟩)) (.pointer (some ⟨b6, 0, none⟩)) (.int .i64 i) (over h1 m) := by
    intro k
    induction k with
    | zero =>
      intro i m hi hB h4 h6
      refine L.toRound.L0_step _ _ _ _ _ _ _ _ _ (dec_split (fun hc => by omega) (fun _ => ⟨r, hr, ?_, by simpa using hr, ?_⟩))
      · refine getN_of (by simpa using hr) fun q v hv => ?_
        rw [over_get h6, Nat.zero_add, List.append_nil, List.replicate_zero, List.append_nil, List.take_of_length_le (by omega)]; exact hv
      · have es : splice (List.replicate 14 (.int .i64 0)) 0 (List.map (Value.int .i64) r) = LM r := by simp [splice, hr]
        refine over_store h4 (by simp; omega) (oneInts _) ⟨LM r, ?_, ?_, rfl⟩
        · refine getN_of (by simpa using hr) fun q v hv => ?_
          rw [over_get (put_self _ _ _), Nat.zero_add, es]; exact hv
        · exact e2.trans (over_ext (hB.put (by rw [h4]; simp) _))
    | succ k ih =>
      intro i m hi hB h4 h6
      refine L.toRound.L0_step _ _ _ _ _ _ _ _ _ (dec_split (fun hc => ⟨⟨by omega, by omega⟩, r.getD i 0, ?_, ⟨by omega, by omega⟩, ?_⟩) (fun hc => by omega))
      · refine (over_ext hB).get ?_
        rw [Nat.zero_add, Nat.mul_one, Int.toNat_natCast]
        refine hg _ _ ?_
        have : i < r.length := by omega
        simp [this, List.getD_eq_getElem?_getD]
      · refine over_store (by rw [h6]) (by simp; omega) (by simp [Value.oneCell']) ?_
        rw [wsucc (by omega), Int.toNat_natCast, Nat.zero_add, Nat.mul_one, splice_one _ _ _ (by simp; omega)]
        refine ih (i + 1) _ (by omega) (hB.put (by rw [h6]; simp) _) (by rw [put_ne _ _ h46]; exact h4) ?_
        rw [put_self, List.append_nil, List.append_nil, LM, ← List.map_set, fill_step (by omega)]
  exact loop 14 0 m2 rfl hB2 hm4' (by rw [hm6]; simp [LM])

theorem L.toRoundS.spec {A : Option Addr} {rs : List (List Int)} {l c : Nat} {h : Heap} (s : RdsW h A rs) (hl : rs.length = l) (hb : l ≤ 1048576) :
    ACalls Try.prog L.toRoundS.id [.slice A l c] h fun u h2 => Ext h h2 ∧ ∃ B, u = .slice B l l ∧ Rds h2 B rs := by
  refine L.toRoundS.step _ _ _ _ h ⟨rfl, by omega, by omega, by omega, fun b hf => ?_⟩
  rw [Int.toNat_natCast]
  have loop : ∀ (k i : Nat) (hI h' : Heap), i + k = l → Ext h hI → Vec hI h' (some ⟨b, 0, none⟩) l l 14 (LM (rs.take i).flatten ++ List.replicate (k * 14) (.int .i64 0)) →
      L.toRoundS.L0 (fun u h2 => Ext h h2 ∧ ∃ B, u = .slice B l l ∧ Rds h2 B rs) (.slice A l c) (.slice (some ⟨b, 0, none⟩) l l) (.int .i64 i) h' := by
    intro k
    induction k with
    | zero =>
      intro i hI h' hi he v
      refine L.toRoundS.L0_step _ _ _ _ _ _ _ _ _ (dec_split (fun hc => by omega) (fun _ => ⟨he.trans v.ext, _, rfl, ?_, s.all⟩))
      have := v.seg
      rw [Nat.zero_mul, List.replicate_zero, List.append_nil, List.take_of_length_le (by omega)] at this
      exact this
    | succ k ih =>
      intro i hI h' hi he v
      have hi' : i < rs.length := by omega
      refine L.toRoundS.L0_step _ _ _ _ _ _ _ _ _ (dec_split (fun hc => ?_) (fun hc => by omega))
      refine (s.mono he).rd v.ext hl (by omega) (by omega) fun h14 => ?_
      have e1 : rs.getD (Int.toNat i) [] = rs[i] := by simp [List.getD_eq_getElem?_getD, hi']
      rw [e1] at h14 ⊢
      refine (v.call (L.toRound.spec h14)).mono ?_
      rintro u h2 ⟨hJ, v2, eJ, rfl⟩
      have hfl : (LM (rs.take i).flatten).length = i * 14 := by
        have : ∀ (qs : List (List Int)), (∀ q ∈ qs, q.length = 14) → qs.flatten.length = qs.length * 14 := by
          intro qs
          induction qs with
          | nil => intro _; rfl
          | cons q qs ih => intro hq; rw [List.flatten_cons, List.length_append, ih (fun x hx => hq x (by simp [hx])), hq q (by simp), List.length_cons]; omega
        rw [LM, List.length_map, this _ (fun q hq => s.all q (List.mem_of_mem_take hq)), List.length_take]; omega
      have hone : ∀ v ∈ List.map (Value.int .i64) rs[i], v.oneCell' = true := by
        intro v hv
        simp only [List.mem_map] at hv
        obtain ⟨x, _, rfl⟩ := hv
        rfl
      obtain ⟨b', eb, hs⟩ := v2.store (i := i * 14) (vs := List.map (Value.int .i64) rs[i]) (by rw [List.length_append, hfl, List.length_replicate, List.length_map, h14]; omega) (by rw [List.length_append, List.length_replicate]; omega) hone
      refine ⟨rs[i], h14, rfl, b', 0, eb, ⟨by omega, by omega⟩, by simpa using h14, ?_⟩
      rw [Nat.zero_add, Int.toNat_natCast]
      refine hs fun h3 v3 => ?_
      rw [wsucc (by omega)]
      refine ih (i + 1) hJ h3 (by omega) (he.trans eJ) ?_
      have e2 : splice (LM (rs.take i).flatten ++ List.replicate ((k + 1) * 14) (.int .i64 0)) (i * 14) (List.map (Value.int .i64) rs[i]) = LM (rs.take (i + 1)).flatten ++ List.replicate (k * 14) (.int .i64 0) := by
        unfold splice
        rw [← hfl, List.take_left, List.drop_append, List.drop_eq_nil_of_le (by omega), List.nil_append, List.drop_replicate, List.take_succ_eq_append_getElem hi']
        have e3 : (k + 1) * 14 - ((LM (rs.take i).flatten).length + (List.map (Value.int .i64) rs[i]).length - (LM (rs.take i).flatten).length) = k * 14 := by rw [List.length_map, List.length_map, h14]; omega
        rw [e3]; simp only [LM, List.flatten_append, List.map_append, List.flatten_cons, List.flatten_nil, List.append_nil, List.append_assoc]
      rw [e2] at v3
      exact v3
  refine loop l 0 h _ (by omega) (Ext.refl _) ?_
  have := Vec.made (l := l) (sz := 14) (cs := zrep (List.replicate 14 (Value.int .i64 0)) l) hf (by rw [zrep_row]; simp)
  rw [zrep_row] at this ⊢
  simpa using this

end Go.Proofs.Ytbppeajpjnlobaa

/- The laws' own functions: copies of schedules, and comparisons of what is equal. -/
set_option linter.unusedVariables false
set_option linter.unusedSimpArgs false
namespace Go.Proofs.Ytbppeajpjnlobaa
open Go.HL

theorem L.toSchedule.spec {n : Int} {A : Option Addr} {rs : List (List Int)} {l c : Nat} {h : Heap} (s : RdsW h A rs) (hl : rs.length = l) (hb : l ≤ 1048576) :
    ACalls Try.prog L.toSchedule.id [.agg #[.int .i64 n, .slice A l c]] h fun u h2 => Ext h h2 ∧ ∃ B, u = .agg #[.int .i64 n, .slice B l l] ∧ Rds h2 B rs := by
  refine L.toSchedule.step _ _ _ _ _ h fun b3 hf3 => ?_
  have e3 := Ext.upd hf3 (.cells [.int .i64 n, .slice A l c])
  have hn : (h.upd b3 (.cells [.int .i64 n, .slice A l c])).get b3 0 = some (.int .i64 n) := by simp
  have hs : (h.upd b3 (.cells [.int .i64 n, .slice A l c])).get b3 1 = some (.slice A l c) := by simp
  generalize h.upd b3 (.cells [.int .i64 n, .slice A l c]) = h1 at *
  rw [← over_noM h1]
  have hB0 := beside_noM h1
  generalize noM = m0 at hB0 ⊢
  intro b5 hf5
  rw [over_put]
  have hB1 := hB0.new hf5 [.int .i64 0, .slice none 0 0]
  have hm5 := put_self m0 b5 [Value.int .i64 0, .slice none 0 0]
  generalize m0.put b5 [.int .i64 0, .slice none 0 0] = m1 at *
  intro b7 hf7
  rw [over_put]
  have h57 : b5 ≠ b7 := fun e => by have := (over_fresh hf7).2; rw [← e, hm5] at this; cases this
  have hB2 := hB1.new hf7 [.int .i64 0, .slice none 0 0]
  have hm7 := put_self m1 b7 [Value.int .i64 0, .slice none 0 0]
  have hm5' : (m1.put b7 [.int .i64 0, .slice none 0 0]) b5 = some [.int .i64 0, .slice none 0 0] := by rw [put_ne _ _ h57]; exact hm5
  generalize m1.put b7 [.int .i64 0, .slice none 0 0] = m2 at *
  refine ⟨n, (over_ext hB2).get hn, over_store hm7 (by simp) (by simp [Value.oneCell']) ?_⟩
  have hB3 := hB2.put (b := b7) (by rw [hm7]; simp) (splice [.int .i64 0, .slice none 0 0] 0 [.int .i64 n])
  have hm7' := put_self m2 b7 (splice [Value.int .i64 0, .slice none 0 0] 0 [.int .i64 n])
  have hm5'' : (m2.put b7 (splice [.int .i64 0, .slice none 0 0] 0 [.int .i64 n])) b5 = some [.int .i64 0, .slice none 0 0] := by rw [put_ne _ _ h57]; exact hm5'
  generalize m2.put b7 (splice [.int .i64 0, .slice none 0 0] 0 [.int .i64 n]) = m3 at *
  refine ⟨A, l, c, (over_ext hB3).get hs, (over_frame hB3 (L.toRoundS.spec (s.mono e3) hl hb)).mono ?_⟩
  rintro u h2 ⟨hJ, hBJ, rfl, eJ, B, rfl, hR⟩
  refine ⟨B, l, l, rfl, over_store hm7' (by simp [splice]) (by simp [Value.oneCell']) ?_⟩
  have ev : splice (splice [Value.int .i64 0, .slice none 0 0] 0 [.int .i64 n]) 1 [.slice B l l] = [.int .i64 n, .slice B l l] := by simp [splice]
  rw [ev]
  have hB4 := hBJ.put (b := b7) (by rw [hm7']; simp) [.int .i64 n, .slice B l l]
  refine ⟨n, B, l, l, ?_, rfl, over_store (cs := [.int .i64 0, .slice none 0 0]) (by rw [put_ne _ _ h57]; exact hm5'') (by simp) (by simp [Value.oneCell']) ?_⟩
  · refine getN_of rfl fun q v hv => ?_
    rw [over_get (put_self _ _ _), Nat.zero_add]; exact hv
  · have hB5 := hB4.put (b := b5) (by rw [put_ne _ _ h57, hm5'']; simp) (splice [.int .i64 0, .slice none 0 0] 0 [.int .i64 n, .slice B l l])
    refine ⟨[.int .i64 n, .slice B l l], ?_, (e3.trans eJ).trans (over_ext hB5), B, rfl, hR.mono (over_ext hB5)⟩
    refine getN_of rfl fun q v hv => ?_
    rw [over_get (put_self _ _ _), Nat.zero_add]; exact hv

theorem L.eqRound.spec {r : List Int} (hr : r.length = 14) {h : Heap} : ACalls Try.prog L.eqRound.id [.agg (LM r).toArray, .agg (LM r).toArray] h fun u h2 => Ext h h2 ∧ u = .bool true := by
  refine L.eqRound.step _ _ _ h fun b3 hf3 b5 hf5 => ?_
  have h53 := fresh_ne hf5
  have hg3 : ∀ (i : Nat) (v : Value), (LM r)[i]? = some v → ((h.upd b3 (.cells (LM r))).upd b5 (.cells (LM r))).get b3 i = some v := fun i v hv => by rw [get_upd, if_neg h53.symm, get_upd, if_pos rfl]; exact hv
  have hg5 : ∀ (i : Nat) (v : Value), (LM r)[i]? = some v → ((h.upd b3 (.cells (LM r))).upd b5 (.cells (LM r))).get b5 i = some v := fun i v hv => by rw [get_upd, if_pos rfl]; exact hv
  have e := (Ext.upd hf3 (.cells (LM r))).trans (Ext.upd hf5 (.cells (LM r)))
  have loop : ∀ (k i : Nat), i + k = 14 → L.eqRound.L0 (fun u h2 => Ext h h2 ∧ u = .bool true) (.pointer (some ⟨b3, 0, none⟩)) (.pointer (some ⟨b5, 0, none⟩)) (.int .i64 i) ((h.upd b3 (.cells (LM r))).upd b5 (.cells (LM r))) := by
    intro k
    induction k with
    | zero => intro i hi; exact L.eqRound.L0_step _ _ _ _ _ _ _ (dec_split (fun hc => by omega) (fun _ => ⟨e, rfl⟩))
    | succ k ih =>
      intro i hi
      refine L.eqRound.L0_step _ _ _ _ _ _ _ (dec_split (fun hc => ⟨⟨by omega, by omega⟩, _, rd14n hr hg3 (by omega), ⟨by omega, by omega⟩, _, rd14n hr hg5 (by omega), ndec_split (fun hne => absurd rfl hne) (fun _ => ?_)⟩) (fun hc => by omega))
      rw [wsucc (by omega)]
      exact ih (i + 1) (by omega)
  exact loop 14 0 rfl

theorem L.eqRoundS.spec {A B : Option Addr} {rs : List (List Int)} {l c d : Nat} {h : Heap} (s : Rds h A rs) (t : Rds h B rs) (hl : rs.length = l) (hb : l ≤ 1048576) :
    ACalls Try.prog L.eqRoundS.id [.slice A l c, .slice B l d] h fun u h2 => Ext h h2 ∧ u = .bool true := by
  refine L.eqRoundS.step _ _ _ _ _ _ _ h (ndec_split (fun hne => absurd rfl hne) (fun _ => ?_))
  have loop : ∀ (k i : Nat) (h1 : Heap), i + k = l → Ext h h1 → L.eqRoundS.L0 (fun u h2 => Ext h h2 ∧ u = .bool true) (.slice A l c) (.slice B l d) (.int .i64 i) h1 := by
    intro k
    induction k with
    | zero => intro i h1 hi e; exact L.eqRoundS.L0_step _ _ _ _ _ _ _ _ _ (dec_split (fun hc => by omega) (fun _ => ⟨e, rfl⟩))
    | succ k ih =>
      intro i h1 hi e
      refine L.eqRoundS.L0_step _ _ _ _ _ _ _ _ _ (dec_split (fun hc => s.rd e hl (by omega) (by omega) fun h14 => t.rd e hl (by omega) (by omega) fun _ => ?_) (fun hc => by omega))
      refine (L.eqRound.spec h14).mono ?_
      rintro u h2 ⟨e2, rfl⟩
      refine ⟨_, rfl, nbool_split (fun h => by cases h) (fun _ => ?_)⟩
      rw [wsucc (by omega)]
      exact ih (i + 1) h2 (by omega) (e.trans e2)
  exact loop l 0 h (by omega) (Ext.refl _)

theorem L.eqSchedule.spec {n : Int} {A B : Option Addr} {rs : List (List Int)} {l c d : Nat} {h : Heap} (s : Rds h A rs) (t : Rds h B rs) (hl : rs.length = l) (hb : l ≤ 1048576) :
    ACalls Try.prog L.eqSchedule.id [.agg #[.int .i64 n, .slice A l c], .agg #[.int .i64 n, .slice B l d]] h fun u h2 => Ext h h2 ∧ u = .bool true := by
  refine L.eqSchedule.step _ _ _ _ _ _ _ _ _ h fun b5 hf5 b7 hf7 => ?_
  have h75 := fresh_ne hf7
  have e := (Ext.upd hf5 (.cells [.int .i64 n, .slice A l c])).trans (Ext.upd hf7 (.cells [.int .i64 n, .slice B l d]))
  refine ⟨n, by simp [h75.symm], n, by simp, ndec_split (fun hne => absurd rfl hne) (fun _ => ⟨A, l, c, by simp [h75.symm], B, l, d, by simp, (L.eqRoundS.spec (s.mono e) (t.mono e) hl hb).mono ?_⟩)⟩
  rintro u h2 ⟨e2, rfl⟩
  exact ⟨_, rfl, nbool_split (fun h => by cases h) (fun _ => ⟨e.trans e2, rfl⟩)⟩

theorem L.eqInt64S.spec {A B : Option Addr} {xs : List Int} {l c d : Nat} {h : Heap} (s : Ints h A xs) (t : Ints h B xs) (hl : xs.length = l) (hb : l ≤ 1048576) :
    ACalls Try.prog L.eqInt64S.id [.slice A l c, .slice B l d] h fun u h2 => h2 = h ∧ u = .bool true := by
  refine L.eqInt64S.step _ _ _ _ _ _ _ h (ndec_split (fun hne => absurd rfl hne) (fun _ => ?_))
  have loop : ∀ (k i : Nat), i + k = l → L.eqInt64S.L0 (fun u h2 => h2 = h ∧ u = .bool true) (.slice A l c) (.slice B l d) (.int .i64 i) h := by
    intro k
    induction k with
    | zero => intro i hi; exact L.eqInt64S.L0_step _ _ _ _ _ _ _ _ _ (dec_split (fun hc => by omega) (fun _ => ⟨rfl, rfl⟩))
    | succ k ih =>
      intro i hi
      refine L.eqInt64S.L0_step _ _ _ _ _ _ _ _ _ (dec_split (fun hc => s.rd (Ext.refl _) hl (by omega) (by omega) (t.rd (Ext.refl _) hl (by omega) (by omega) (ndec_split (fun hne => absurd rfl hne) (fun _ => ?_)))) (fun hc => by omega))
      rw [wsucc (by omega)]
      exact ih (i + 1) (by omega)
  exact loop l 0 (by omega)

theorem L.eqInt64SS.spec {A B : Option Addr} {xss : List (List Int)} {l c d : Nat} {h : Heap} (s : Tab h A xss) (t : Tab h B xss) (hl : xss.length = l) (hb : l ≤ 1048576) (hx : ∀ xs ∈ xss, xs.length ≤ 1048576) :
    ACalls Try.prog L.eqInt64SS.id [.slice A l c, .slice B l d] h fun u h2 => h2 = h ∧ u = .bool true := by
  refine L.eqInt64SS.step _ _ _ _ _ _ _ h (ndec_split (fun hne => absurd rfl hne) (fun _ => ?_))
  have loop : ∀ (k i : Nat), i + k = l → L.eqInt64SS.L0 (fun u h2 => h2 = h ∧ u = .bool true) (.slice A l c) (.slice B l d) (.int .i64 i) h := by
    intro k
    induction k with
    | zero => intro i hi; exact L.eqInt64SS.L0_step _ _ _ _ _ _ _ _ _ (dec_split (fun hc => by omega) (fun _ => ⟨rfl, rfl⟩))
    | succ k ih =>
      intro i hi
      refine L.eqInt64SS.L0_step _ _ _ _ _ _ _ _ _ (dec_split (fun hc => s.rd (Ext.refl _) hl (by omega) (by omega) fun C dC hC _ => t.rd (Ext.refl _) hl (by omega) (by omega) fun D dD hD _ => ?_) (fun hc => by omega))
      have hi' : i < xss.length := by omega
      have e1 : xss.getD (Int.toNat i) [] = xss[i] := by simp [List.getD_eq_getElem?_getD, hi']
      rw [e1] at hC hD ⊢
      refine (L.eqInt64S.spec hC hD rfl (hx _ (List.getElem_mem hi'))).mono ?_
      rintro u h2 ⟨rfl, rfl⟩
      refine ⟨_, rfl, nbool_split (fun h => by cases h) (fun _ => ?_)⟩
      rw [wsucc (by omega)]
      exact ih (i + 1) (by omega)
  exact loop l 0 (by omega)

end Go.Proofs.Ytbppeajpjnlobaa
