/- For every schedule and results, NextRound of the program answers as NextRound of the reference does, and changes nothing; no condition. -/
import Derived.Test.YtbppeajpjnlobaaKcx31
import Derived.Test.YtbppeajpjnlobaaKcx35
import Derived.Test.YtbppeajpjnlobaaKcx34
/- Tables of meetings, as both tell them. -/
set_option linter.unusedVariables false
set_option linter.unusedSimpArgs false
namespace Go.Proofs.Ytbppeajpjnlobaa
open Go.HL

theorem I.square.own {n : Nat} {h : Heap} (h1 : 1 ≤ n) (hn : n ≤ 1000) :
    ACalls Try.prog I.square.id [.int .i64 n] h fun u h2 => Ext h h2 ∧ ∃ b c sp bs, u = .slice (some ⟨b, 0, none⟩) n c ∧ TabOx h h2 b sp bs (List.replicate n (List.replicate n 0)) := by
  refine I.square.step _ _ _ fun b2 hf2 => ?_
  have hrow : ∀ j, j < n → (List.replicate n (List.replicate n (0 : Int))).getD j [] = List.replicate n 0 := fun j hj => by simp [List.getD_eq_getElem?_getD, hj]
  have loop : ∀ (q i : Nat) (A : Option Addr) (l c : Nat) (hI h' : Heap) (bs : Nat → Nat), i + q = n → Ext h hI → Vec hI h' A l c 1 (topOf bs (List.replicate n (List.replicate n 0)) i) →
      (∀ j, j < i → hI.own (bs j) = some (.cells (LM (List.replicate n 0))) ∧ h.fresh (bs j)) → (∀ j j', j < i → j' < i → bs j = bs j' → j = j') →
      I.square.L0 (fun u h2 => Ext h h2 ∧ ∃ b c sp bs, u = .slice (some ⟨b, 0, none⟩) n c ∧ TabOx h h2 b sp bs (List.replicate n (List.replicate n 0))) (.int .i64 n) (.slice A l c) (.int .i64 n) (.int .i64 i) h' := by
    intro q
    induction q with
    | zero =>
      intro i A l c hI h' bs hi he v hr hinj
      have ei : i = n := by omega
      subst ei
      have hl := v.len
      rw [topOf_len, Nat.mul_one] at hl
      refine I.square.L0_step _ _ _ _ _ _ _ _ (dec_split (fun hc => by omega) (fun _ => ⟨he.trans v.ext, ?_⟩))
      obtain ⟨_, ⟨_, e0, _⟩ | ⟨y, sp, rfl, hfy, rfl, hsp, _⟩⟩ := v
      · omega
      · refine ⟨y, c, sp, bs, by rw [hl], ?_, fun j hj => ?_, he.fresh hfy, fun j hj => (hr j (by simpa using hj)).2, fun j hj e => ?_, fun j j' hj hj' hb => hinj j j' (by simpa using hj) (by simpa using hj') hb⟩
        · rw [List.length_replicate]; exact Heap.upd_own_self _ _ _
        · rw [List.length_replicate] at hj
          rw [hrow j hj]
          exact (Ext.upd hfy _).own _ _ (hr j hj).1
        · rw [List.length_replicate] at hj
          have := (hr j hj).1
          rw [e, hfy.1] at this; cases this
    | succ q ih =>
      intro i A l c hI h' bs hi he v hr hinj
      have hl := v.len
      rw [topOf_len, Nat.mul_one] at hl
      refine I.square.L0_step _ _ _ _ _ _ _ _ (dec_split (fun hc => ?_) (fun hc => by omega))
      refine ⟨rfl, by omega, by omega, by omega, fun b9 hf9 b11 hf11 => ?_⟩
      rw [Int.toNat_natCast] at hf11 ⊢
      obtain ⟨v4, f4⟩ := v.beside hf9 (.cells (List.replicate n (.int .i64 0)))
      obtain ⟨v5, f5⟩ := v4.beside hf11 (.cells [.slice (some ⟨b9, 0, none⟩) n n])
      have e4 := Ext.upd f4 (.cells (List.replicate n (.int .i64 0)))
      have e5 := Ext.upd f5 (.cells [.slice (some ⟨b9, 0, none⟩) n n])
      refine v5.append (m := 1) (news := [.slice (some ⟨b9, 0, none⟩) n n]) (Seg.row (Seg.new' _ _ _) rfl) rfl (by simp [Value.oneCell']) (by omega) (by omega) rfl fun hK h6 A' c' eK v6 => ⟨_, _, _, rfl, ?_⟩
      rw [wsucc (by omega)]
      have hold : ∀ j, j < i → bs j ≠ b9 := fun j hj e => by have := (hr j hj).1; rw [e, f4.1] at this; cases this
      refine ih (i + 1) A' (l + 1) c' hK h6 (fun j => if j = i then b9 else bs j) (by omega) (he.trans ((e4.trans e5).trans eK)) ?_ (fun j hj => ?_) (fun j j' hj hj' hb => ?_)
      · rw [topOf_succ, topOf_congr _ (bs := fun j => if j = i then b9 else bs j) (bs' := bs) (fun j hj => if_neg (by omega)), if_pos rfl, hrow i (by omega), List.length_replicate]
        exact v6
      · by_cases hji : j = i
        · rw [if_pos hji]
          refine ⟨(e5.trans eK).own _ _ ?_, he.fresh f4⟩
          rw [Heap.upd_own_self]; simp [LM]
        · rw [if_neg hji]
          obtain ⟨q1, q2⟩ := hr j (by omega)
          exact ⟨((e4.trans e5).trans eK).own _ _ q1, q2⟩
      · by_cases hji : j = i
        · rw [if_pos hji] at hb
          by_cases hji' : j' = i
          · omega
          · rw [if_neg hji'] at hb; exact absurd hb.symm (hold j' (by omega))
        · rw [if_neg hji] at hb
          by_cases hji' : j' = i
          · rw [if_pos hji'] at hb; exact absurd hb (hold j (by omega))
          · rw [if_neg hji'] at hb; exact hinj j j' (by omega) (by omega) hb
  exact loop n 0 _ 0 0 h _ (fun _ => 0) (by omega) (Ext.refl _) (by simpa [topOf] using Vec.made (l := 0) (sz := 1) (cs := []) hf2 rfl) (fun j hj => by omega) (fun j j' hj => by omega)

/-- In how many rounds two teams meet. -/
def metN (rs : List (List Int)) (a b : Nat) : Nat := rs.countP fun r => decide (r.getD a 0 = (b : Int)) && !decide (r.getD a 0 = (a : Int))
def metRow (n : Nat) (rs : List (List Int)) (a : Nat) : List Int := (List.range n).map fun b => ((metN rs a b : Nat) : Int)
def meetTab (n : Nat) (rs : List (List Int)) : List (List Int) := (List.range n).map fun a => metRow n rs a
theorem metRow_len (n : Nat) (rs : List (List Int)) (a : Nat) : (metRow n rs a).length = n := by simp [metRow]
theorem metRow_get {n : Nat} (rs : List (List Int)) (a : Nat) {b : Nat} (hb : b < n) : (metRow n rs a).getD b 0 = ((metN rs a b : Nat) : Int) := by simp [metRow, List.getD_eq_getElem?_getD, hb]
theorem meetTab_len (n : Nat) (rs : List (List Int)) : (meetTab n rs).length = n := by simp [meetTab]
theorem meetTab_get {n : Nat} (rs : List (List Int)) {a : Nat} (ha : a < n) : (meetTab n rs).getD a [] = metRow n rs a := by simp [meetTab, List.getD_eq_getElem?_getD, ha]
theorem metN_le (rs : List (List Int)) (a b : Nat) : metN rs a b ≤ rs.length := List.countP_le_length
theorem metN_snoc (rs : List (List Int)) (r : List Int) (a b : Nat) : metN (rs ++ [r]) a b = metN rs a b + (if r.getD a 0 = (b : Int) ∧ ¬ r.getD a 0 = (a : Int) then 1 else 0) := by
  rw [metN, metN, List.countP_append]
  congr 1
  by_cases h1 : r.getD a 0 = (b : Int) <;> by_cases h2 : r.getD a 0 = (a : Int) <;> simp [h1, h2]
theorem metRow_free {n : Nat} {rs : List (List Int)} {r : List Int} {a : Nat} (h : r.getD a 0 = (a : Int)) : metRow n (rs ++ [r]) a = metRow n rs a := by
  unfold metRow
  refine List.map_congr_left fun b _ => ?_
  rw [metN_snoc, if_neg (fun hh => hh.2 h)]; simp
theorem metRow_meet {n : Nat} {rs : List (List Int)} {r : List Int} {a : Nat} (h : ¬ r.getD a 0 = (a : Int)) (h0 : 0 ≤ r.getD a 0) (h1 : r.getD a 0 < n) :
    metRow n (rs ++ [r]) a = (metRow n rs a).set (r.getD a 0).toNat ((metRow n rs a).getD (r.getD a 0).toNat 0 + 1) := by
  have hb : (r.getD a 0).toNat < n := by omega
  rw [metRow_get rs a hb]
  apply List.ext_getElem?
  intro b
  rcases Nat.lt_or_ge b n with hbn | hbn
  · by_cases e : (r.getD a 0).toNat = b
    · rw [List.getElem?_set, if_pos e, if_pos (by rw [metRow_len]; omega)]
      simp only [metRow, List.getElem?_map, List.getElem?_range hbn, Option.map_some]
      rw [metN_snoc, if_pos ⟨by omega, h⟩, e]; simp
    · rw [List.getElem?_set, if_neg e]
      simp only [metRow, List.getElem?_map, List.getElem?_range hbn, Option.map_some]
      rw [metN_snoc, if_neg (fun hh => e (by omega))]; simp
  · rw [List.getElem?_eq_none (by rw [metRow_len]; exact hbn), List.getElem?_eq_none (by rw [List.length_set, metRow_len]; exact hbn)]

theorem round_get {n : Int} {r : List Int} (h : roundOk n r = true) {i : Nat} (hi : (i : Int) < n) : 0 ≤ r.getD i 0 ∧ r.getD i 0 < n := by
  simp only [roundOk, Bool.and_eq_true, decide_eq_true_eq, List.all_eq_true] at h
  have hp := h.2 i (by simp [List.mem_range'_1]; omega)
  rw [placeOk, if_neg (by omega)] at hp
  simp only [Bool.and_eq_true, decide_eq_true_eq] at hp
  exact ⟨hp.1.1, by omega⟩

theorem I.Schedule.meetings.spec {n : Int} {A : Option Addr} {rs : List (List Int)} {l c : Nat} {h : Heap} (s : Rds h A rs) (hl : rs.length = l) (hl40 : l ≤ 40) (n1 : 1 ≤ n) (n14 : n ≤ 14) (hok : ∀ r ∈ rs, roundOk n r = true) :
    ACalls Try.prog I.Schedule.meetings.id [.agg #[.int .i64 n, .slice A l c]] h fun u h2 => Ext h h2 ∧ ∃ b c, u = .slice (some ⟨b, 0, none⟩) n.toNat c ∧ Tab h2 (some ⟨b, 0, none⟩) (meetTab n.toNat rs) := by
  refine I.Schedule.meetings.step _ _ _ _ _ h fun b3 hf3 => ⟨n, by simp, ?_⟩
  have e3 := Ext.upd hf3 (.cells [.int .i64 n, .slice A l c])
  have hn3 : (h.upd b3 (.cells [.int .i64 n, .slice A l c])).get b3 (0 + 0) = some (.int .i64 n) := by simp
  have hs3 : (h.upd b3 (.cells [.int .i64 n, .slice A l c])).get b3 1 = some (.slice A l c) := by simp
  generalize h.upd b3 (.cells [.int .i64 n, .slice A l c]) = h1 at *
  have en : ((n.toNat : Nat) : Int) = n := by omega
  have hsq := I.square.own (n := n.toNat) (h := h1) (by omega) (by omega)
  rw [en] at hsq
  refine hsq.mono ?_
  rintro u h2 ⟨e2, b, cc, sp, bs, rfl, hT⟩
  obtain ⟨hI, m0, eI, hB0, rfl, t0⟩ := hT.carve e2
  refine ⟨_, _, _, rfl, A, l, c, (over_ext hB0).get (eI.get hs3), ?_⟩
  have sI := s.mono (e3.trans eI)
  have hnI := eI.get hn3
  have t0' : TabX m0 b sp bs (meetTab n.toNat (rs.take 0)) := by
    have : meetTab n.toNat (rs.take 0) = List.replicate n.toNat (List.replicate n.toNat 0) := by
      rw [List.take_zero]
      apply List.ext_getElem?
      intro i
      rw [meetTab, List.getElem?_map, List.getElem?_replicate]
      rcases Nat.lt_or_ge i n.toNat with hi | hi
      · rw [List.getElem?_range hi, if_pos hi, Option.map_some]
        congr 1
        apply List.ext_getElem?
        intro j
        rw [metRow, List.getElem?_map, List.getElem?_replicate]
        rcases Nat.lt_or_ge j n.toNat with hj | hj
        · rw [List.getElem?_range hj, if_pos hj]; rfl
        · rw [List.getElem?_eq_none (by simpa using hj), if_neg (by omega)]; rfl
      · rw [List.getElem?_eq_none (by simpa using hi), if_neg (by omega)]; rfl
    rw [this]; exact t0
  have loop : ∀ (q i : Nat) (hJ : Heap) (m : PMap), i + q = l → Ext hI hJ → Beside hJ m → TabX m b sp bs (meetTab n.toNat (rs.take i)) →
      I.Schedule.meetings.L0 (fun u h2 => Ext h h2 ∧ ∃ b c, u = .slice (some ⟨b, 0, none⟩) n.toNat c ∧ Tab h2 (some ⟨b, 0, none⟩) (meetTab n.toNat rs)) (.pointer (some ⟨b3, 0, none⟩)) (.slice (some ⟨b, 0, none⟩) n.toNat cc) (.slice A l c) (.int .i64 l) (.int .i64 i) (over hJ m) := by
    intro q
    induction q with
    | zero =>
      intro i hJ m hi eJ hB t
      refine I.Schedule.meetings.L0_step _ _ _ _ _ _ _ _ _ _ _ _ (dec_split (fun hc => by omega) (fun _ => ⟨(e3.trans eI).trans (eJ.trans (over_ext hB)), b, cc, rfl, ?_⟩))
      have := t.tab (hI := hJ)
      rw [List.take_of_length_le (by omega)] at this
      exact this
    | succ q ih =>
      intro i hJ m hi eJ hB t
      have hir : i < rs.length := by omega
      refine I.Schedule.meetings.L0_step _ _ _ _ _ _ _ _ _ _ _ _ (dec_split (fun hc => ?_) (fun hc => by omega))
      refine (sI.mono eJ).rd (over_ext hB) hl (by omega) (by omega) fun hr14 => ?_
      have e1 : rs.getD (Int.toNat i) [] = rs[i] := by rw [Int.toNat_natCast, List.getD_eq_getElem?_getD, List.getElem?_eq_getElem hir]; rfl
      rw [e1] at hr14 ⊢
      have hrok := hok _ (List.getElem_mem hir)
      intro b19 hf19
      refine ⟨by simpa using hr14, List.replicate 14 (.int .i64 0), Heap.upd_own_self _ _ _, by simp; omega, oneInts _, ?_⟩
      have es : splice (List.replicate 14 (.int .i64 0)) 0 (List.map (Value.int .i64) rs[i]) = LM rs[i] := by simp [splice, hr14]
      rw [upd_upd, es, over_base hf19]
      have eK := Ext.upd (over_fresh hf19).1 (.cells (LM rs[i]))
      have hBK := hB.base hf19 (.cells (LM rs[i]))
      have hgr : ∀ (j : Nat) (v : Value), (LM rs[i])[j]? = some v → (hJ.upd b19 (.cells (LM rs[i]))).get b19 j = some v := fun j v hv => by rw [get_upd, if_pos rfl]; exact hv
      generalize hJ.upd b19 (.cells (LM rs[i])) = hK at *
      refine ⟨n, (over_ext hBK).get ((eJ.trans eK).get hnI), ?_⟩
      -- team by team
      have inner : ∀ (k a : Nat) (m1 : PMap), a + k = n.toNat → Beside hK m1 → TabX m1 b sp bs ((List.range n.toNat).map fun x => metRow n.toNat (rs.take (if x < a then i + 1 else i)) x) →
          I.Schedule.meetings.L1 (fun u h2 => Ext h h2 ∧ ∃ b c, u = .slice (some ⟨b, 0, none⟩) n.toNat c ∧ Tab h2 (some ⟨b, 0, none⟩) (meetTab n.toNat rs)) (.pointer (some ⟨b3, 0, none⟩)) (.slice (some ⟨b, 0, none⟩) n.toNat cc) (.pointer (some ⟨b19, 0, none⟩)) (.slice A l c) (.int .i64 l) (.int .i64 i) (.int .i64 n) (.int .i64 a) (over hK m1) := by
        intro k
        induction k with
        | zero =>
          intro a m1 ha hB1 t1
          refine I.Schedule.meetings.L1_step _ _ _ _ _ _ _ _ _ _ _ _ _ _ _ _ (dec_split (fun hc => by omega) (fun _ => ?_))
          rw [wsucc (by omega)]
          refine ih (i + 1) hK m1 (by omega) (eJ.trans eK) hB1 ?_
          have : ((List.range n.toNat).map fun x => metRow n.toNat (rs.take (if x < a then i + 1 else i)) x) = meetTab n.toNat (rs.take (i + 1)) := by
            unfold meetTab
            refine List.map_congr_left fun x hx => ?_
            rw [if_pos (by simp at hx; omega)]
          rw [← this]; exact t1
        | succ k ihk =>
          intro a m1 ha hB1 t1
          obtain ⟨g0, g1⟩ := round_get hrok (i := a) (by omega)
          have rd : (0 ≤ (a : Int) ∧ (a : Int) < 14) ∧ (over hK m1).get b19 (0 + Int.toNat (a : Int) * 1) = some (.int .i64 (rs[i].getD a 0)) := ⟨⟨by omega, by omega⟩, (over_ext hB1).get (rd14n hr14 hgr (by omega))⟩
          have hlen : ((List.range n.toNat).map fun x => metRow n.toNat (rs.take (if x < a then i + 1 else i)) x).length = n.toNat := by simp
          have hrow : ((List.range n.toNat).map fun x => metRow n.toNat (rs.take (if x < a then i + 1 else i)) x).getD a [] = metRow n.toNat (rs.take i) a := by
            have : a < n.toNat := by omega
            simp [List.getD_eq_getElem?_getD, this]
          have hnext : ((List.range n.toNat).map fun x => metRow n.toNat (rs.take (if x < a + 1 then i + 1 else i)) x) = ((List.range n.toNat).map fun x => metRow n.toNat (rs.take (if x < a then i + 1 else i)) x).set a (metRow n.toNat (rs.take (i + 1)) a) := by
            apply List.ext_getElem?
            intro x
            rcases Nat.lt_or_ge x n.toNat with hx | hx
            · rw [List.getElem?_set]
              simp only [List.getElem?_map, List.getElem?_range hx, Option.map_some]
              by_cases hxa : a = x
              · subst hxa; rw [if_pos rfl, if_pos (show a < a + 1 by omega), if_pos (by rw [hlen]; exact hx)]
              · rw [if_neg hxa]
                by_cases hlt : x < a
                · rw [if_pos (by omega), if_pos hlt]
                · rw [if_neg (by omega), if_neg hlt]
            · rw [List.getElem?_eq_none (by simpa using hx), List.getElem?_eq_none (by rw [List.length_set, hlen]; exact hx)]
          have etake : rs.take (i + 1) = rs.take i ++ [rs[i]] := List.take_succ_eq_append_getElem hir
          refine I.Schedule.meetings.L1_step _ _ _ _ _ _ _ _ _ _ _ _ _ _ _ _ (dec_split (fun hc => ⟨rd.1, _, rd.2, ?_⟩) (fun hc => by omega))
          refine ndec_split (fun hne => ?_) (fun heq => ?_)
          · refine t1.rdRow hlen (by omega) (by omega) ⟨rd.1, _, rd.2, ?_⟩
            have hm1 : m1 (bs a) = some (LM (metRow n.toNat (rs.take i) a) ++ []) := by rw [List.append_nil, ← hrow]; exact t1.row a (by rw [hlen]; omega)
            rw [Int.toNat_natCast, hrow, metRow_len]
            refine over_rd hm1 (metRow_len _ _ _) g0 (by omega) (over_wr (cs := LM (metRow n.toNat (rs.take i) a)) hm1 (by simp [metRow_len]) g0 (by omega) rfl ?_)
            have hbig : (metRow n.toNat (rs.take i) a).getD (rs[i].getD a 0).toNat 0 ≤ 40 ∧ 0 ≤ (metRow n.toNat (rs.take i) a).getD (rs[i].getD a 0).toNat 0 := by
              rw [metRow_get _ _ (by omega)]
              have := metN_le (rs.take i) a (rs[i].getD a 0).toNat
              rw [List.length_take] at this; omega
            rw [wsucc (by omega), w64 (by omega) (by omega), List.append_nil]
            have es2 : (LM (metRow n.toNat (rs.take i) a)).set (rs[i].getD a 0).toNat (.int .i64 ((metRow n.toNat (rs.take i) a).getD (rs[i].getD a 0).toNat 0 + 1)) = LM (metRow n.toNat (rs.take (i + 1)) a) := by
              rw [LM, LM, ← List.map_set, etake, metRow_meet hne g0 (by omega)]
            rw [es2]
            refine ihk (a + 1) _ (by omega) (hB1.put (by rw [hm1]; simp) _) ?_
            rw [hnext]
            exact t1.set (by rw [hlen]; omega) (by rw [hrow, metRow_len, metRow_len])
          · rw [wsucc (by omega)]
            refine ihk (a + 1) m1 (by omega) hB1 ?_
            rw [hnext, etake, metRow_free heq]
            have : ((List.range n.toNat).map fun x => metRow n.toNat (rs.take (if x < a then i + 1 else i)) x).set a (metRow n.toNat (rs.take i) a) = ((List.range n.toNat).map fun x => metRow n.toNat (rs.take (if x < a then i + 1 else i)) x) := by
              rw [← hrow]
              apply List.ext_getElem?
              intro x
              rw [List.getElem?_set]
              by_cases hxa : a = x
              · subst hxa
                have : a < ((List.range n.toNat).map fun x => metRow n.toNat (rs.take (if x < a then i + 1 else i)) x).length := by rw [hlen]; omega
                rw [if_pos rfl, if_pos this, List.getD_eq_getElem?_getD, List.getElem?_eq_getElem this]; rfl
              · rw [if_neg hxa]
            rw [this, ] at *
            exact t1
      have := inner n.toNat 0 m (by omega) hBK (by simpa [meetTab] using t)
      exact this
  exact loop l 0 hI m0 (by omega) (Ext.refl _) hB0 t0'

end Go.Proofs.Ytbppeajpjnlobaa

/- Rounds one after the other: the program's search. -/
set_option linter.unusedVariables false
set_option linter.unusedSimpArgs false
namespace Go.Proofs.Ytbppeajpjnlobaa
open Go.HL

/-- All free. -/
def freeTo (k : Nat) : List Int := (List.range k).map (fun (a : Nat) => (a : Int)) ++ List.replicate (14 - k) 0
theorem freeTo_len {k : Nat} (h : k ≤ 14) : (freeTo k).length = 14 := by simp [freeTo]; omega
theorem freeTo_set {k : Nat} (h : k < 14) : (freeTo k).set k (k : Int) = freeTo (k + 1) := by
  unfold freeTo
  have e : 14 - k = (14 - (k + 1)) + 1 := by omega
  rw [List.set_append, if_neg (by simp), List.length_map, List.length_range, Nat.sub_self, e, List.replicate_succ, List.set_cons_zero, List.range_succ, List.map_append, List.append_assoc]
  rfl
theorem freeTo_get {k i : Nat} (h : i < k) : (freeTo k).getD i 0 = (i : Int) := by
  unfold freeTo
  rw [List.getD_eq_getElem?_getD, List.getElem?_append_left (by simpa using h), List.getElem?_map, List.getElem?_range h]; rfl
theorem freeTo_get0 {k i : Nat} (h : k ≤ i) : (freeTo k).getD i 0 = 0 := by
  unfold freeTo
  rw [List.getD_eq_getElem?_getD, List.getElem?_append_right (by simpa using h), List.getElem?_replicate]
  split <;> rfl

/-- A result's variable and a round beneath: both blocks change. -/
theorem alloc14 {hI : Heap} {m : PMap} (hB : Beside hI m) {K : Nat → Heap → Prop} (k : ∀ b, m b = none → hI.fresh b → Beside hI (m.put b (LM (List.replicate 14 0))) → K b (over hI (m.put b (LM (List.replicate 14 0))))) : SAlloc (over hI m) (List.replicate 14 (.int .i64 0)) K := by
  intro b hf
  rw [over_put]
  exact k b (over_fresh hf).2 (over_fresh hf).1 (hB.new hf _)

theorem I.free.spec {n : Int} (h0 : 0 ≤ n) (h14 : n ≤ 14) {h : Heap} : ACalls Try.prog I.free.id [.int .i64 n] h fun u h2 => Ext h h2 ∧ u = .agg (LM (freeTo n.toNat)).toArray := by
  refine I.free.step _ _ _ ?_
  rw [← over_noM h]
  refine alloc14 (beside_noM h) fun b2 _ _ hB1 => alloc14 hB1 fun b4 hn4 _ hB2 => ⟨rfl, ?_⟩
  have n42 : b4 ≠ b2 := fun e => by rw [e, put_self] at hn4; cases hn4
  refine over_st14 (put_self _ _ _) rfl (r := List.replicate 14 0) rfl ?_
  have loop : ∀ (q a : Nat) (m : PMap), a + q = n.toNat → Beside h m → m b2 = some (LM (List.replicate 14 0)) → m b4 = some (LM (freeTo a)) →
      I.free.L0 (fun u h2 => Ext (over h noM) h2 ∧ u = .agg (LM (freeTo n.toNat)).toArray) (.pointer (some ⟨b2, 0, none⟩)) (.pointer (some ⟨b4, 0, none⟩)) (.int .i64 n) (.int .i64 a) (over h m) := by
    intro q
    induction q with
    | zero =>
      intro a m ha hB hm2 hm4
      have ea : a = n.toNat := by omega
      subst ea
      have hl : (freeTo n.toNat).length = 14 := freeTo_len (by omega)
      refine I.free.L0_step _ _ _ _ _ _ _ _ (dec_split (fun hc => by omega) (fun _ => ⟨freeTo n.toNat, hl, over_all14 hm4 hl, by simpa using hl, over_st14 hm2 rfl hl ⟨LM (freeTo n.toNat), over_all14 (put_self _ _ _) hl, ?_, rfl⟩⟩))
      rw [over_noM]
      exact over_ext (hB.put (by rw [hm2]; simp) _)
    | succ q ih =>
      intro a m ha hB hm2 hm4
      refine I.free.L0_step _ _ _ _ _ _ _ _ (dec_split (fun hc => over_wr14 hm4 (freeTo_len (by omega)) (by omega) (by omega) ?_) (fun hc => by omega))
      rw [wsucc (by omega), Int.toNat_natCast, freeTo_set (by omega)]
      exact ih (a + 1) _ (by omega) (hB.put (by rw [hm4]; simp) _) (by rw [put_ne _ _ n42.symm]; exact hm2) (put_self _ _ _)
  exact loop n.toNat 0 _ (by omega) (hB2.put (by rw [put_self]; simp) _) (by rw [put_ne _ _ n42.symm, put_ne _ _ n42.symm, put_self]) (by rw [put_self]; rfl)

/-- A round with other numbers. -/
def renTo (p r : List Int) : Nat → List Int
  | 0 => List.replicate 14 0
  | k + 1 => (renTo p r k).set (p.getD k 0).toNat (p.getD (r.getD k 0).toNat 0)
theorem renTo_len (p r : List Int) : ∀ k, (renTo p r k).length = 14
  | 0 => by simp [renTo]
  | k + 1 => by rw [renTo, List.length_set, renTo_len p r k]

theorem I.Round.renumbered.spec {n : Int} {r p : List Int} {P : Option Addr} {cp : Nat} (hr : r.length = 14) (h0 : 0 ≤ n) (h14 : n ≤ 14) {h : Heap} (hp : Ints h P p) (hpl : p.length = n.toNat)
    (hpr : ∀ i : Nat, (i : Int) < n → 0 ≤ p.getD i 0 ∧ p.getD i 0 < n) (hrr : ∀ i : Nat, (i : Int) < n → 0 ≤ r.getD i 0 ∧ r.getD i 0 < n) :
    ACalls Try.prog I.Round.renumbered.id [.agg (LM r).toArray, .int .i64 n, .slice P n.toNat cp] h fun u h2 => Ext h h2 ∧ u = .agg (LM (renTo p r n.toNat)).toArray := by
  refine I.Round.renumbered.step _ _ _ _ _ _ _ fun b4 hf4 => ?_
  have e4 := Ext.upd hf4 (.cells (LM r))
  have hg4 : ∀ (i : Nat) (v : Value), (LM r)[i]? = some v → (h.upd b4 (.cells (LM r))).get b4 i = some v := fun i v hv => by rw [get_upd, if_pos rfl]; exact hv
  have hp4 := hp.mono e4
  generalize h.upd b4 (.cells (LM r)) = h1 at *
  rw [← over_noM h1]
  refine alloc14 (beside_noM h1) fun b6 _ _ hB1 => alloc14 hB1 fun b8 hn8 _ hB2 => ⟨rfl, ?_⟩
  have n86 : b8 ≠ b6 := fun e => by rw [e, put_self] at hn8; cases hn8
  refine over_st14 (put_self _ _ _) rfl (r := List.replicate 14 0) rfl ?_
  have loop : ∀ (q a : Nat) (m : PMap), a + q = n.toNat → Beside h1 m → m b6 = some (LM (List.replicate 14 0)) → m b8 = some (LM (renTo p r a)) →
      I.Round.renumbered.L0 (fun u h2 => Ext h h2 ∧ u = .agg (LM (renTo p r n.toNat)).toArray) (.slice P n.toNat cp) (.pointer (some ⟨b4, 0, none⟩)) (.pointer (some ⟨b6, 0, none⟩)) (.pointer (some ⟨b8, 0, none⟩)) (.int .i64 n) (.int .i64 a) (over h1 m) := by
    intro q
    induction q with
    | zero =>
      intro a m ha hB hm6 hm8
      have ea : a = n.toNat := by omega
      subst ea
      have hl := renTo_len p r n.toNat
      refine I.Round.renumbered.L0_step _ _ _ _ _ _ _ _ _ _ _ _ _ (dec_split (fun hc => by omega) (fun _ => ⟨_, hl, over_all14 hm8 hl, by simpa using hl, over_st14 hm6 rfl hl ⟨LM (renTo p r n.toNat), over_all14 (put_self _ _ _) hl, e4.trans (over_ext (hB.put (by rw [hm6]; simp) _)), rfl⟩⟩))
    | succ q ih =>
      intro a m ha hB hm6 hm8
      obtain ⟨p0, p1⟩ := hpr a (by omega)
      obtain ⟨r0, r1⟩ := hrr a (by omega)
      refine I.Round.renumbered.L0_step _ _ _ _ _ _ _ _ _ _ _ _ _ (dec_split (fun hc => hp4.rd (over_ext hB) hpl (by omega) (by omega) ?_) (fun hc => by omega))
      rw [Int.toNat_natCast]
      refine ⟨⟨by omega, by omega⟩, _, (over_ext hB).get (by have := rd14n hr hg4 (i := a) (by omega); rw [Int.toNat_natCast] at this; exact this), hp4.rd (over_ext hB) hpl r0 (by omega) (over_wr14 hm8 (renTo_len _ _ _) p0 (by omega) ?_)⟩
      rw [wsucc (by omega)]
      exact ih (a + 1) _ (by omega) (hB.put (by rw [hm8]; simp) _) (by rw [put_ne _ _ n86.symm]; exact hm6) (put_self _ _ _)
  exact loop n.toNat 0 _ (by omega) (hB2.put (by rw [put_self]; simp) _) (by rw [put_ne _ _ n86.symm, put_ne _ _ n86.symm, put_self]) (by rw [put_self]; rfl)

/-! ### The search -/
/-- All ways to go on with a round from a place on, in order. -/
def enumR (bad : Nat → Nat → Bool) (n : Nat) : Nat → List Int → Nat → List (List Int)
  | 0, _, _ => []
  | f + 1, now, a => if a < n then
      (if now.getD a 0 = (a : Int) then (List.range' (a + 1) (n - (a + 1))).flatMap fun b => if now.getD b 0 = (b : Int) ∧ bad a b = false then enumR bad n f ((now.set a (b : Int)).set b (a : Int)) (a + 1) else []
       else enumR bad n f now (a + 1))
    else [now]
/-- A function is called for all of them till it says false. -/
def runTo {σ : Type} (stp : σ → List Int → σ × Bool) : σ → List (List Int) → σ × Bool
  | s, [] => (s, true)
  | s, x :: xs => if (stp s x).2 then runTo stp (stp s x).1 xs else ((stp s x).1, false)
theorem runTo_append {σ : Type} (stp : σ → List Int → σ × Bool) : ∀ (xs ys : List (List Int)) (s : σ), runTo stp s (xs ++ ys) = if (runTo stp s xs).2 then runTo stp (runTo stp s xs).1 ys else runTo stp s xs
  | [], ys, s => by simp [runTo]
  | x :: xs, ys, s => by
    rw [List.cons_append, runTo, runTo]
    by_cases h : (stp s x).2 = true
    · rw [if_pos h, if_pos h, runTo_append stp xs ys]
    · rw [if_neg h, if_neg h]
      simp
/-- A round of n teams, so far. -/
def Good (n : Nat) (x : List Int) : Prop := x.length = 14 ∧ ∀ i, i < n → 0 ≤ x.getD i 0 ∧ x.getD i 0 < n
theorem Good.set2 {n : Nat} {x : List Int} (h : Good n x) {a b : Nat} (ha : a < n) (hb : b < n) : Good n ((x.set a (b : Int)).set b (a : Int)) := by
  refine ⟨by rw [List.length_set, List.length_set]; exact h.1, fun i hi => ?_⟩
  by_cases hbi : b = i
  · subst hbi
    by_cases hbl : b < x.length
    · rw [lget_set_self (by rw [List.length_set]; exact hbl)]; omega
    · rw [List.getD_eq_getElem?_getD, List.getElem?_eq_none (by rw [List.length_set, List.length_set]; omega)]
      exact ⟨Int.le_refl _, by show (0 : Int) < n; omega⟩
  · rw [lget_set_ne _ hbi]
    by_cases hai : a = i
    · subst hai
      by_cases hal : a < x.length
      · rw [lget_set_self hal]; omega
      · rw [List.getD_eq_getElem?_getD, List.getElem?_eq_none (by rw [List.length_set]; omega)]
        exact ⟨Int.le_refl _, by show (0 : Int) < n; omega⟩
    · rw [lget_set_ne _ hai]; exact h.2 i hi
theorem unset2 {x : List Int} {a b : Nat} (hab : a ≠ b) (ha : a < x.length) (hb : b < x.length) (xa : x.getD a 0 = (a : Int)) (xb : x.getD b 0 = (b : Int)) : ((((x.set a (b : Int)).set b (a : Int)).set a (a : Int)).set b (b : Int)) = x := by
  apply List.ext_getElem?
  intro i
  rw [List.getElem?_set, List.getElem?_set, List.getElem?_set, List.getElem?_set]
  simp only [List.length_set]
  by_cases h1 : b = i
  · subst h1
    rw [if_pos rfl, if_pos hb]
    rw [List.getD_eq_getElem?_getD, List.getElem?_eq_getElem hb] at xb
    rw [List.getElem?_eq_getElem hb]
    exact congrArg some xb.symm
  · rw [if_neg h1]
    by_cases h2 : a = i
    · subst h2
      rw [if_pos rfl, if_pos ha]
      rw [List.getD_eq_getElem?_getD, List.getElem?_eq_getElem ha] at xa
      rw [List.getElem?_eq_getElem ha]
      exact congrArg some xa.symm
    · rw [if_neg h2, if_neg h1, if_neg h2]

theorem I.Round.meet.mem {hI : Heap} {m : PMap} {b : Nat} {r : List Int} {x y : Int} {K : Value → Heap → Prop} (hm : m b = some (LM r)) (hr : r.length = 14) (x0 : 0 ≤ x) (x1 : x < 14) (y0 : 0 ≤ y) (y1 : y < 14)
    (k : K undef (over hI ((m.put b (LM (r.set x.toNat y))).put b (LM ((r.set x.toNat y).set y.toNat x))))) : ACalls Try.prog I.Round.meet.id [.pointer (some ⟨b, 0, none⟩), .int .i64 x, .int .i64 y] (over hI m) K :=
  I.Round.meet.step _ _ _ _ _ _ (over_wr14 hm hr x0 x1 (over_wr14 (put_self _ _ _) (by rw [List.length_set]; exact hr) y0 y1 k))

abbrev roundCaps (bn bw bf bm bp : Nat) : List Value := [.pointer (some ⟨bn, 0, none⟩), .pointer (some ⟨bw, 0, none⟩), .pointer (some ⟨bf, 0, none⟩), .pointer (some ⟨bm, 0, none⟩), .pointer (some ⟨bp, 0, none⟩)]

/-- What is asked of the function that is called for all rounds: C, the blocks that it may change; St, what stands there. -/
structure Visits {σ : Type} (n : Nat) (C : Nat → Prop) (St : σ → PMap → Prop) (stp : σ → List Int → σ × Bool) (f : FuncId) (caps : Array Value) (hI : Heap) : Prop where
  cong : ∀ s m m', (∀ y, C y → m' y = m y) → St s m → St s m'
  call : ∀ s x hJ m, Good n x → Ext hI hJ → Beside hJ m → St s m → ACalls Try.prog f ([.agg (LM x).toArray] ++ caps.toList) (over hJ m) fun u h2 => u = .bool (stp s x).2 ∧ ∃ hK m', Ext hJ hK ∧ h2 = over hK m' ∧ Beside hK m' ∧ St (stp s x).1 m' ∧ ∀ y, m y ≠ none → ¬ C y → m' y = m y

/-- What the search leaves behind. -/
def RQ {σ : Type} (C : Nat → Prop) (St : σ → PMap → Prop) (bw : Nat) (now : List Int) (hJ : Heap) (m : PMap) (R : σ × Bool) (u : Value) (h2 : Heap) : Prop :=
  u = .bool R.2 ∧ ∃ hK m', Ext hJ hK ∧ h2 = over hK m' ∧ Beside hK m' ∧ St R.1 m' ∧ (R.2 = true → m' bw = some (LM now)) ∧ m' bw ≠ none ∧ ∀ y, m y ≠ none → ¬ C y → y ≠ bw → m' y = m y
def badOf (tab : List (List Int)) (i k : Nat) : Bool := decide (0 < (tab.getD i []).getD k 0)

theorem I.rounds.c1.walk {σ : Type} {n : Nat} {C : Nat → Prop} {St : σ → PMap → Prop} {stp : σ → List Int → σ × Bool} {f : FuncId} {caps : Array Value} {hI0 : Heap} (V : Visits n C St stp f caps hI0) (n14 : n ≤ 14) {T : Option Addr} {cT : Nat} {tab : List (List Int)} {bn bw bf bm bp : Nat}
    (hT : Tab hI0 T tab) (tl : tab.length = n) (trl : ∀ i, i < n → (tab.getD i []).length = n) (gn : hI0.get bn 0 = some (.int .i64 n)) (gf : hI0.get bf 0 = some (.func (.func f) #[] caps)) (gm : hI0.get bm 0 = some (.slice T n cT)) (gp : hI0.get bp 0 = some (.func (.func I.rounds.c1.id) #[] (roundCaps bn bw bf bm bp).toArray)) (hbw : ¬ C bw) :
    ∀ (q : Nat) (now : List Int) (a : Nat) (s : σ) (hJ : Heap) (m : PMap), a ≤ n → n < a + q → Good n now → Ext hI0 hJ → Beside hJ m → m bw = some (LM now) → St s m →
      I.rounds.c1.L0 (RQ C St bw now hJ m (runTo stp s (enumR (badOf tab) n q now a))) (.int .i64 a) (.pointer (some ⟨bn, 0, none⟩)) (.pointer (some ⟨bw, 0, none⟩)) (.pointer (some ⟨bf, 0, none⟩)) (.pointer (some ⟨bm, 0, none⟩)) (.pointer (some ⟨bp, 0, none⟩)) (over hJ m) := by
  intro q
  induction q with
  | zero => intro now a s hJ m ha hq; omega
  | succ q ih =>
    intro now a s hJ m ha hq hG eJ hB hm hs
    refine I.rounds.c1.L0_step _ _ _ _ _ _ _ _ _ _ _ _ _ ⟨n, (over_ext hB).get (eJ.get gn), fun k15 hk15 => ?_⟩
    refine dec_split (fun hlt => ?_) (fun hge => ?_)
    · have han : a < n := by omega
      refine over_rd14 hm hG.1 (by omega) (by omega) (hk15 _ _ ?_)
      rw [Int.toNat_natCast]
      refine ndec_split (fun hne => ?_) (fun hfa => ⟨n, (over_ext hB).get (eJ.get gn), dec_split (fun he => by omega) (fun _ => ?_)⟩)
      · rw [wsucc (by omega), enumR, if_pos han, if_neg hne]
        exact ih now (a + 1) s hJ m (by omega) (by omega) hG eJ hB hm hs
      rw [wsucc (by omega), enumR, if_pos han, if_pos hfa]
      -- partner by partner
      have partners : ∀ (k b : Nat) (s : σ) (hK : Heap) (m1 : PMap), b + k = n → a < b → Ext hJ hK → Beside hK m1 → m1 bw = some (LM now) → St s m1 → (∀ y, m y ≠ none → ¬ C y → y ≠ bw → m1 y = m y) →
          ∀ (R : σ × Bool), R = runTo stp s ((List.range' b k).flatMap fun b => if now.getD b 0 = (b : Int) ∧ badOf tab a b = false then enumR (badOf tab) n q ((now.set a (b : Int)).set b (a : Int)) (a + 1) else []) →
          I.rounds.c1.L1 (RQ C St bw now hJ m R) (.int .i64 a) (.pointer (some ⟨bn, 0, none⟩)) (.pointer (some ⟨bw, 0, none⟩)) (.pointer (some ⟨bm, 0, none⟩)) (.pointer (some ⟨bp, 0, none⟩)) (.int .i64 b) (over hK m1) := by
        intro k
        induction k with
        | zero =>
          intro b s hK m1 hb hab eK hB1 hm1 hs1 ho R hR
          refine I.rounds.c1.L1_step _ _ _ _ _ _ _ _ _ _ _ _ ⟨n, (over_ext hB1).get (eK.get (eJ.get gn)), dec_split (fun hc => by omega) (fun _ => ?_)⟩
          have : R = (s, true) := hR
          subst this
          exact ⟨rfl, hK, m1, eK, rfl, hB1, hs1, fun _ => hm1, by rw [hm1]; simp, ho⟩
        | succ k ihk =>
          intro b s hK m1 hb hab eK hB1 hm1 hs1 ho R hR
          have e0K := eJ.trans eK
          rw [List.range'_succ, List.flatMap_cons] at hR
          refine I.rounds.c1.L1_step _ _ _ _ _ _ _ _ _ _ _ _ ⟨n, (over_ext hB1).get (e0K.get gn), dec_split (fun hc => over_rd14 hm1 hG.1 (by omega) (by omega) fun k34 hk34 => ?_) (fun hc => by omega)⟩
          rw [Int.toNat_natCast]
          have no : ¬ (now.getD b 0 = (b : Int) ∧ badOf tab a b = false) → k34 [.bool true] (over hK m1) := by
            intro hno
            refine hk34 _ _ (bool_split (fun _ => ?_) (fun h => by cases h))
            rw [wsucc (by omega)]
            rw [if_neg hno, List.nil_append] at hR
            exact ihk (b + 1) s hK m1 (by omega) (by omega) eK hB1 hm1 hs1 ho R hR
          have yes : (now.getD b 0 = (b : Int) ∧ badOf tab a b = false) → k34 [.bool false] (over hK m1) := by
            intro hyes
            refine hk34 _ _ (bool_split (fun h => by cases h) (fun _ => ?_))
            rw [if_pos hyes, runTo_append] at hR
            refine I.Round.meet.mem hm1 hG.1 (by omega) (by omega) (by omega) (by omega) ⟨rfl, ?_⟩
            rw [Int.toNat_natCast, Int.toNat_natCast]
            have hB2 := (hB1.put (b := bw) (by rw [hm1]; simp) (LM (now.set a (b : Int)))).put (b := bw) (by rw [put_self]; simp) (LM ((now.set a (b : Int)).set b (a : Int)))
            refine ⟨_, _, (over_ext hB2).get (e0K.get gp), ?_⟩
            rw [wsucc (by omega)]
            have hs2 := V.cong s m1 ((m1.put bw (LM (now.set a (b : Int)))).put bw (LM ((now.set a (b : Int)).set b (a : Int)))) (fun y hy => by
              have : y ≠ bw := fun e => hbw (e ▸ hy)
              rw [put_ne _ _ this, put_ne _ _ this]) hs1
            refine (I.rounds.c1.step _ _ _ _ _ _ _ _ _ _ _ _ _ (ih ((now.set a (b : Int)).set b (a : Int)) (a + 1) s hK _ (by omega) (by omega) (hG.set2 han (by omega)) e0K hB2 (put_self _ _ _) hs2)).mono ?_
            rintro u h5 ⟨rfl, hL, m3, eL, rfl, hB3, hs3, hret, hbn, ho3⟩
            have ho3' : ∀ y, m y ≠ none → ¬ C y → y ≠ bw → m3 y = m y := fun y hy hC hyb => by
              have h1 := ho y hy hC hyb
              have h2 := ho3 y (by rw [put_ne _ _ hyb, put_ne _ _ hyb, h1]; exact hy) hC hyb
              rw [h2, put_ne _ _ hyb, put_ne _ _ hyb, h1]
            refine ⟨_, rfl, nbool_split (fun hf => ?_) (fun ht => ?_)⟩
            · rw [if_neg (by rw [hf]; simp)] at hR
              subst hR
              exact ⟨by rw [hf], hL, m3, eK.trans eL, rfl, hB3, hs3, fun h => (by rw [hf] at h; cases h), hbn, ho3'⟩
            · rw [if_pos ht] at hR
              have hm3 := hret ht
              have hl2 : ((now.set a (b : Int)).set b (a : Int)).length = 14 := by rw [List.length_set, List.length_set]; exact hG.1
              have hx := over_wr14 (hI := hL) (n := (a : Int)) (v := (a : Int)) (K := fun h50 => (0 ≤ (b : Int) ∧ (b : Int) < 14) ∧ SStore h50 bw (0 + Int.toNat (b : Int) * 1) [.int .i64 (b : Int)] fun h51 => I.rounds.c1.L1 (RQ C St bw now hJ m R) (.int .i64 a) (.pointer (some ⟨bn, 0, none⟩)) (.pointer (some ⟨bw, 0, none⟩)) (.pointer (some ⟨bm, 0, none⟩)) (.pointer (some ⟨bp, 0, none⟩)) (.int .i64 (IntKind.wrap .i64 ((b : Int) + 1))) h51) hm3 hl2 (by omega) (by omega) ?_
              · exact hx
              refine over_wr14 (put_self _ _ _) (by rw [List.length_set]; exact hl2) (by omega) (by omega) ?_
              rw [Int.toNat_natCast, Int.toNat_natCast, unset2 (by omega) (by rw [hG.1]; omega) (by rw [hG.1]; omega) hfa hyes.1, wsucc (by omega)]
              have hB4 := (hB3.put (b := bw) hbn (LM (((now.set a (b : Int)).set b (a : Int)).set a (a : Int)))).put (b := bw) (by rw [put_self]; simp) (LM now)
              refine ihk (b + 1) _ hL _ (by omega) (by omega) (eK.trans eL) hB4 (put_self _ _ _) (V.cong _ m3 _ (fun y hy => ?_) hs3) (fun y hy hC hyb => by rw [put_ne _ _ hyb, put_ne _ _ hyb]; exact ho3' y hy hC hyb) R hR
              have : y ≠ bw := fun e => hbw (e ▸ hy)
              rw [put_ne _ _ this, put_ne _ _ this]
          refine ndec_split (fun hne => no fun h => hne h.1) (fun heq => ?_)
          refine ⟨_, _, _, (over_ext hB1).get (e0K.get gm), (hT.mono e0K).rd (over_ext hB1) tl (by omega) (by omega) fun D dD hD _ => ?_⟩
          rw [Int.toNat_natCast, trl a han] at *
          refine hD.rd (over_ext hB1) (trl a han) (by omega) (by omega) ?_
          rw [Int.toNat_natCast]
          by_cases hb0 : 0 < (tab.getD a []).getD b 0
          · rw [decide_eq_true hb0]; exact no fun h => by rw [badOf, decide_eq_true hb0] at h; cases h.2
          · rw [decide_eq_false hb0]; exact yes ⟨heq, decide_eq_false hb0⟩
      exact partners (n - (a + 1)) (a + 1) s hJ m (by omega) (by omega) (Ext.refl _) hB hm hs (fun y _ _ _ => rfl) _ rfl
    · have ea : a = n := by omega
      subst ea
      refine hk15 _ _ (bool_split (fun h => by cases h) (fun _ => ⟨a, (over_ext hB).get (eJ.get gn), dec_split (fun _ => ?_) (fun hne => absurd rfl hne)⟩))
      refine ⟨_, _, (over_ext hB).get (eJ.get gf), now, hG.1, over_all14 hm hG.1, (V.call s now hJ m hG eJ hB hs).mono ?_⟩
      rintro u h2 ⟨rfl, hK, m', eK, rfl, hBK, hsK, hoK⟩
      have he : enumR (badOf tab) a (q + 1) now a = [now] := by rw [enumR, if_neg (Nat.lt_irrefl _)]
      have hr : runTo stp s [now] = stp s now := by
        rw [runTo]
        by_cases h : (stp s now).2 = true
        · rw [if_pos h, runTo]; exact Prod.ext rfl h.symm
        · rw [if_neg h]
          have : (stp s now).2 = false := by simpa using h
          exact Prod.ext rfl this.symm
      have hmb : m' bw = some (LM now) := by rw [hoK bw (by rw [hm]; simp) hbw]; exact hm
      rw [he, hr]
      exact ⟨_, rfl, rfl, hK, m', eK, rfl, hBK, hsK, fun _ => hmb, by rw [hmb]; simp, fun y hy hC _ => hoK y hy hC⟩

end Go.Proofs.Ytbppeajpjnlobaa

/- Who has met whom, as the reference tells it. -/
set_option linter.unusedVariables false
set_option linter.unusedSimpArgs false
namespace Go.Proofs.Ytbppeajpjnlobaa
open Go.HL

theorem replicate_row (n : Nat) : metRow n [] 0 = List.replicate n 0 := by
  apply List.ext_getElem?
  intro j
  rw [metRow, List.getElem?_map, List.getElem?_replicate]
  rcases Nat.lt_or_ge j n with hj | hj
  · rw [List.getElem?_range hj, if_pos hj]; rfl
  · rw [List.getElem?_eq_none (by simpa using hj), if_neg (by omega)]; rfl
theorem metRow_nil (n a : Nat) : metRow n [] a = List.replicate n 0 := by rw [← replicate_row n]; rfl

/-- A changing block beneath a growing list changes no more. -/
theorem Vec.settle {hI h : Heap} {m : PMap} {A : Option Addr} {l c sz b : Nat} {cs vs : List Value} (hB : Beside hI m) (v : Vec (over hI m) h A l c sz vs) (hm : m b = some cs) (hno : ∀ y, y ≠ b → m y = none) :
    Vec (hI.upd b (.cells cs)) h A l c sz vs ∧ Ext hI (hI.upd b (.cells cs)) := by
  obtain ⟨f1, f2, f3⟩ := over_freeze hB hm
  have : PMap.del m b = noM := by
    funext y
    by_cases hy : y = b
    · subst hy; simp [PMap.del, noM]
    · rw [del_ne _ hy, hno y hy]; rfl
  rw [f1, this, over_noM] at v
  exact ⟨v, f3⟩

theorem S.l01Meetings.spec {n : Int} {A : Option Addr} {rs : List (List Int)} {l c : Nat} {h : Heap} (s : Rds h A rs) (hl : rs.length = l) (hl40 : l ≤ 40) (n0 : 0 ≤ n) (n14 : n ≤ 14) (hok : ∀ r ∈ rs, roundOk n r = true) :
    ACalls Try.prog S.l01Meetings.id [.agg #[.int .i64 n, .slice A l c]] h fun u h2 => Ext h h2 ∧ ∃ B c, u = .slice B n.toNat c ∧ Tab h2 B (meetTab n.toNat rs) := by
  refine S.l01Meetings.step _ _ _ _ _ h fun b3 hf3 => ?_
  have e3 := Ext.upd hf3 (.cells [.int .i64 n, .slice A l c])
  have hn3 : (h.upd b3 (.cells [.int .i64 n, .slice A l c])).get b3 (0 + 0) = some (.int .i64 n) := by simp
  have hs3 : (h.upd b3 (.cells [.int .i64 n, .slice A l c])).get b3 (0 + 1) = some (.slice A l c) := by simp
  generalize h.upd b3 (.cells [.int .i64 n, .slice A l c]) = h1 at *
  intro b5 hf5
  have hS1 := s.mono e3
  have loop : ∀ (q a : Nat) (B : Option Addr) (lb cb : Nat) (hI h' : Heap) (vs : List Value), (a : Int) + q = n → Ext h1 hI → Vec hI h' B lb cb 1 vs → Each hI vs ((List.range a).map fun x => metRow n.toNat rs x) →
      S.l01Meetings.L0 (fun u h2 => Ext h h2 ∧ ∃ B c, u = .slice B n.toNat c ∧ Tab h2 B (meetTab n.toNat rs)) (.pointer (some ⟨b3, 0, none⟩)) (.slice B lb cb) (.int .i64 a) h' := by
    intro q
    induction q with
    | zero =>
      intro a B lb cb hI h' vs ha he v hE
      have ea : a = n.toNat := by omega
      have hlv := v.len
      have hlE := hE.1
      rw [List.length_map, List.length_range] at hlE
      refine S.l01Meetings.L0_step _ _ _ _ _ _ _ _ ⟨n, (he.trans v.ext).get hn3, dec_split (fun hc => by omega) (fun _ => ⟨(e3.trans he).trans v.ext, B, cb, by congr 1; omega, ?_⟩)⟩
      have := (hE.mono v.ext).tab v.seg
      rw [ea] at this
      exact this
    | succ q ih =>
      intro a B lb cb hI h' vs ha he v hE
      have hlv := v.len
      have hlE := hE.1
      rw [List.length_map, List.length_range] at hlE
      refine S.l01Meetings.L0_step _ _ _ _ _ _ _ _ ⟨n, (he.trans v.ext).get hn3, dec_split (fun hc => ?_) (fun hc => by omega)⟩
      refine ⟨n, (he.trans v.ext).get hn3, rfl, n0, by omega, by omega, fun b13 hf13 => ?_⟩
      obtain ⟨v4, f4⟩ := v.beside hf13 (.cells (LM (metRow n.toNat (rs.take 0) a)))
      have ez : List.replicate n.toNat (Value.int .i64 0) = LM (metRow n.toNat (rs.take 0) a) := by rw [List.take_zero, metRow_nil]; simp [LM]
      rw [ez]
      -- the row is one changing block beneath the list
      have hB0 : Beside hI (only b13 (LM (metRow n.toNat (rs.take 0) a))) := fun y hy => by
        have : y = b13 := by
          by_cases e : y = b13
          · exact e
          · simp [only, e] at hy
        subst this; exact f4
      have hov : hI.upd b13 (.cells (LM (metRow n.toNat (rs.take 0) a))) = over hI (only b13 (LM (metRow n.toNat (rs.take 0) a))) := by
        rw [show only b13 (LM (metRow n.toNat (rs.take 0) a)) = noM.put b13 (LM (metRow n.toNat (rs.take 0) a)) from rfl, ← over_put, over_noM]
      rw [hov] at v4
      have inner : ∀ (k i : Nat) (m : PMap) (h6 : Heap), i + k = l → Beside hI m → m b13 = some (LM (metRow n.toNat (rs.take i) a)) → (∀ y, y ≠ b13 → m y = none) → Vec (over hI m) h6 B lb cb 1 vs →
          S.l01Meetings.L1 (fun u h2 => Ext h h2 ∧ ∃ B c, u = .slice B n.toNat c ∧ Tab h2 B (meetTab n.toNat rs)) (.pointer (some ⟨b3, 0, none⟩)) (.slice B lb cb) (.int .i64 a) (.slice (some ⟨b13, 0, none⟩) n.toNat n.toNat) (.int .i64 i) h6 := by
        intro k
        induction k with
        | zero =>
          intro i m h6 hi hB hm hno v6
          have e6 := (over_ext hB).trans v6.ext
          refine S.l01Meetings.L1_step _ _ _ _ _ _ _ _ _ _ _ _ ⟨A, l, c, (he.trans e6).get hs3, dec_split (fun hc => by omega) (fun _ => ?_)⟩
          obtain ⟨v7, e7⟩ := Vec.settle hB v6 hm hno
          have er : rs.take i = rs := List.take_of_length_le (by omega)
          rw [er] at v7 e7
          have hown : (hI.upd b13 (.cells (LM (metRow n.toNat rs a)))).own b13 = some (.cells (LM (metRow n.toNat rs a))) := Heap.upd_own_self _ _ _
          generalize hI.upd b13 (.cells (LM (metRow n.toNat rs a))) = hJ at *
          intro b32 hf32
          obtain ⟨v8, f8⟩ := v7.beside hf32 (.cells [.slice (some ⟨b13, 0, none⟩) n.toNat n.toNat])
          have e8 := Ext.upd f8 (.cells [.slice (some ⟨b13, 0, none⟩) n.toNat n.toNat])
          refine v8.append (m := 1) (news := [.slice (some ⟨b13, 0, none⟩) n.toNat n.toNat]) (Seg.row (Seg.new' _ _ _) rfl) rfl (by simp [Value.oneCell']) (by omega) (by omega) rfl fun hK h9 A' c' eK v9 => ⟨_, _, _, rfl, ?_⟩
          rw [wsucc (by omega)]
          refine ih (a + 1) A' (lb + 1) c' hK h9 _ (by omega) (he.trans (e7.trans (e8.trans eK))) v9 ?_
          rw [List.range_succ, List.map_append]
          refine (hE.mono (e7.trans (e8.trans eK))).snoc ⟨some ⟨b13, 0, none⟩, n.toNat, by rw [metRow_len], ?_, by rw [metRow_len]; exact Nat.le_refl _⟩
          exact seg_own' ((e8.trans eK).own _ _ hown)
        | succ k ihk =>
          intro i m h6 hi hB hm hno v6
          have e6 := (over_ext hB).trans v6.ext
          have hir : i < rs.length := by omega
          have hr14 := hS1.2 _ (List.getElem_mem hir)
          have hrok := hok _ (List.getElem_mem hir)
          obtain ⟨g0, g1⟩ := round_get hrok (i := a) (by omega)
          have etake : rs.take (i + 1) = rs.take i ++ [rs[i]] := List.take_succ_eq_append_getElem hir
          refine S.l01Meetings.L1_step _ _ _ _ _ _ _ _ _ _ _ _ ⟨A, l, c, (he.trans e6).get hs3, dec_split (fun hc => ⟨A, l, c, (he.trans e6).get hs3, ?_⟩) (fun hc => by omega)⟩
          -- one cell of a round
          obtain ⟨f1, f2⟩ := flatten_at hS1.2 i hir
          obtain ⟨bb, oo, ea, hgg⟩ := Seg.open hS1.1 (by simp only [LM, List.length_map]; omega)
          have hcell : h6.get bb ((oo + Int.toNat (i : Int) * 14) + Int.toNat (a : Int) * 1) = some (.int .i64 (rs[i].getD a 0)) := by
            rw [Int.toNat_natCast, Int.toNat_natCast, Nat.mul_one]
            refine (he.trans e6).get ?_
            have e7 : rs.flatten[i * 14 + a]? = some (rs[i].getD a 0) := by
              have : (((rs.flatten.drop (i * 14)).take 14))[a]? = rs[i][a]? := by rw [f1]
              rw [List.getElem?_take, if_pos (by omega), List.getElem?_drop] at this
              have ha14 : a < rs[i].length := by omega
              rw [this, List.getD_eq_getElem?_getD, List.getElem?_eq_getElem ha14]; rfl
            have := hgg (i * 14 + a) (.int .i64 (rs[i].getD a 0)) (by rw [LM, List.getElem?_map, e7]; rfl)
            rw [← this]; congr 1; omega
          refine ⟨bb, oo, ea, ⟨by omega, by omega⟩, ⟨by omega, by omega⟩, _, hcell, ?_⟩
          have hm0 : m b13 = some (LM (metRow n.toNat (rs.take i) a) ++ []) := by rw [List.append_nil]; exact hm
          refine ndec_split (fun hne => ?_) (fun heq => ?_)
          · refine v6.under_rd hm0 (metRow_len _ _ _) g0 (by omega) (v6.under_wr (cs := LM (metRow n.toNat (rs.take i) a)) hm0 (by simp [metRow_len]) g0 (by omega) rfl fun h7 v7 => ?_)
            have hbig : (metRow n.toNat (rs.take i) a).getD (rs[i].getD a 0).toNat 0 ≤ 40 ∧ 0 ≤ (metRow n.toNat (rs.take i) a).getD (rs[i].getD a 0).toNat 0 := by
              rw [metRow_get _ _ (by omega)]
              have := metN_le (rs.take i) a (rs[i].getD a 0).toNat
              rw [List.length_take] at this; omega
            rw [w64 (by omega) (by omega), List.append_nil] at v7
            have es2 : (LM (metRow n.toNat (rs.take i) a)).set (rs[i].getD a 0).toNat (.int .i64 ((metRow n.toNat (rs.take i) a).getD (rs[i].getD a 0).toNat 0 + 1)) = LM (metRow n.toNat (rs.take (i + 1)) a) := by
              rw [LM, LM, ← List.map_set, etake, metRow_meet hne g0 (by omega)]
            rw [es2] at v7
            rw [wsucc (by omega)]
            exact ihk (i + 1) _ h7 (by omega) (hB.put (by rw [hm]; simp) _) (put_self _ _ _) (fun y hy => by rw [put_ne _ _ hy]; exact hno y hy) v7
          · rw [wsucc (by omega)]
            refine ihk (i + 1) m h6 (by omega) hB ?_ hno v6
            rw [hm, etake, metRow_free heq]
      exact inner l 0 _ _ (by omega) hB0 (only_self _ _) (fun y hy => by simp [only, hy]) v4
  exact loop n.toNat 0 _ 0 0 h1 _ [] (by omega) (Ext.refl _) (Vec.made hf5 (by simp)) (Each.nil _)

/-- Lists of truth values that stand in a list. -/
def EachB (h : Heap) (vs : List Value) (xss : List (List Bool)) : Prop := vs.length = xss.length ∧ ∀ (i : Nat) (v : Value) (xs : List Bool), vs[i]? = some v → xss[i]? = some xs → IsBools h v xs
theorem EachB.nil (h : Heap) : EachB h [] [] := ⟨rfl, fun i v xs a => by simp at a⟩
theorem EachB.mono {h h' : Heap} {vs : List Value} {xss : List (List Bool)} (e : Ext h h') (s : EachB h vs xss) : EachB h' vs xss := ⟨s.1, fun i v xs a b => (s.2 i v xs a b).mono e⟩
theorem EachB.snoc {h : Heap} {vs : List Value} {xss : List (List Bool)} {v : Value} {xs : List Bool} (s : EachB h vs xss) (hv : IsBools h v xs) : EachB h (vs ++ [v]) (xss ++ [xs]) := by
  refine ⟨by simp [s.1], fun i u ys ha hb => ?_⟩
  rw [List.getElem?_append] at ha hb
  rw [s.1] at ha
  split at ha
  · rename_i hi; rw [if_pos hi] at hb; exact s.2 i u ys ha hb
  · rename_i hi
    rw [if_neg hi] at hb
    have hj : i - xss.length = 0 := by
      have := (List.getElem?_eq_some_iff.1 ha).1
      simp at this; omega
    rw [hj] at ha hb
    simp at ha hb
    subst ha hb
    exact hv
theorem EachB.tab {h : Heap} {A : Option Addr} {vs : List Value} {xss : List (List Bool)} (s : EachB h vs xss) (hs : Seg h A vs) : TabB h A xss := ⟨vs, hs, s.1, s.2⟩

def metBTab (n : Nat) (rs : List (List Int)) : List (List Bool) := (List.range n).map fun a => (List.range n).map fun b => decide (0 < ((metN rs a b : Nat) : Int))
theorem metBTab_get {n : Nat} (rs : List (List Int)) {a : Nat} (ha : a < n) : (metBTab n rs).getD a [] = (List.range n).map fun b => decide (0 < ((metN rs a b : Nat) : Int)) := by simp [metBTab, List.getD_eq_getElem?_getD, ha]
theorem metBTab_len (n : Nat) (rs : List (List Int)) : (metBTab n rs).length = n := by simp [metBTab]

theorem S.l02Met.spec {n : Int} {A : Option Addr} {rs : List (List Int)} {l c : Nat} {h : Heap} (s : Rds h A rs) (hl : rs.length = l) (hl40 : l ≤ 40) (n0 : 0 ≤ n) (n14 : n ≤ 14) (hok : ∀ r ∈ rs, roundOk n r = true) :
    ACalls Try.prog S.l02Met.id [.agg #[.int .i64 n, .slice A l c]] h fun u h2 => Ext h h2 ∧ ∃ B c, u = .slice B n.toNat c ∧ TabB h2 B (metBTab n.toNat rs) := by
  refine S.l02Met.step _ _ _ _ _ h fun b3 hf3 => ⟨n, A, l, c, by simp [Heap.getN], ?_⟩
  have e3 := Ext.upd hf3 (.cells [.int .i64 n, .slice A l c])
  refine (S.l01Meetings.spec (s.mono e3) hl hl40 n0 n14 hok).mono ?_
  rintro u h1 ⟨e1, T, cT, rfl, hT⟩
  refine ⟨_, _, _, rfl, fun b10 hf10 => ?_⟩
  have tl : (meetTab n.toNat rs).length = n.toNat := meetTab_len _ _
  have loop : ∀ (q a : Nat) (B : Option Addr) (lb cb : Nat) (hI h' : Heap) (vs : List Value), a + q = n.toNat → Ext h1 hI → Vec hI h' B lb cb 1 vs → EachB hI vs ((List.range a).map fun a => (List.range n.toNat).map fun b => decide (0 < ((metN rs a b : Nat) : Int))) →
      S.l02Met.L0 (fun u h2 => Ext h h2 ∧ ∃ B c, u = .slice B n.toNat c ∧ TabB h2 B (metBTab n.toNat rs)) (.slice T n.toNat cT) (.slice B lb cb) (.int .i64 a) h' := by
    intro q
    induction q with
    | zero =>
      intro a B lb cb hI h' vs ha he v hE
      have ea : a = n.toNat := by omega
      have hlv := v.len
      have hlE := hE.1
      rw [List.length_map, List.length_range] at hlE
      refine S.l02Met.L0_step _ _ _ _ _ _ _ _ _ (dec_split (fun hc => by omega) (fun _ => ⟨(e3.trans (e1.trans he)).trans v.ext, B, cb, by congr 1; omega, ?_⟩))
      have := (hE.mono v.ext).tab v.seg
      rw [ea] at this
      exact this
    | succ q ih =>
      intro a B lb cb hI h' vs ha he v hE
      have hlv := v.len
      have hlE := hE.1
      rw [List.length_map, List.length_range] at hlE
      refine S.l02Met.L0_step _ _ _ _ _ _ _ _ _ (dec_split (fun hc => ?_) (fun hc => by omega))
      intro b16 hf16
      -- the row grows over the list
      have inner : ∀ (k x : Nat) (R : Option Addr) (lr cr : Nat) (hJ hA h6 : Heap), x + k = n.toNat → Ext hI hJ → Vec hJ hA B lb cb 1 vs → Vec hA h6 R lr cr 1 (BM ((List.range x).map fun b => decide (0 < ((metN rs a b : Nat) : Int)))) →
          S.l02Met.L1 (fun u h2 => Ext h h2 ∧ ∃ B c, u = .slice B n.toNat c ∧ TabB h2 B (metBTab n.toNat rs)) (.slice T n.toNat cT) (.slice B lb cb) (.int .i64 a) (.slice R lr cr) (.int .i64 x) h6 := by
        intro k
        induction k with
        | zero =>
          intro x R lr cr hJ hA h6 hx eJ vA v6
          have ex : x = n.toNat := by omega
          subst ex
          have hlr := v6.len
          rw [BM, List.length_map, List.length_map, List.length_range, Nat.mul_one] at hlr
          have hle := v6.le
          refine S.l02Met.L1_step _ _ _ _ _ _ _ _ _ _ _ _ _ (dec_split (fun hc => by omega) (fun _ => ?_))
          have hseg := v6.seg
          -- the row is done
          have fin : ∃ hK, Ext hJ hK ∧ Vec hK h6 B lb cb 1 vs ∧ Bools hK R ((List.range n.toNat).map fun b => decide (0 < ((metN rs a b : Nat) : Int))) := by
            obtain ⟨hvl, ⟨rfl, h00, rfl, rfl⟩ | ⟨y, sp, rfl, hy, rfl, h11, h12⟩⟩ := v6
            · have : (List.range n.toNat) = [] := by rw [← hlr] at h00; rw [h00]; rfl
              rw [this]
              exact ⟨hJ, Ext.refl _, vA, Seg.nil_none _⟩
            · obtain ⟨vB, fB⟩ := vA.beside hy (.cells (BM ((List.range n.toNat).map fun b => decide (0 < ((metN rs a b : Nat) : Int))) ++ sp))
              exact ⟨_, Ext.upd fB _, vB, Seg.new _ _ _ _⟩
          obtain ⟨hK, eK, vK, hR⟩ := fin
          intro b35 hf35
          obtain ⟨v8, f8⟩ := vK.beside hf35 (.cells [.slice R lr cr])
          have e8 := Ext.upd f8 (.cells [.slice R lr cr])
          refine v8.append (m := 1) (news := [.slice R lr cr]) (Seg.row (Seg.new' _ _ _) rfl) rfl (by simp [Value.oneCell']) (by omega) (by omega) rfl fun hL h9 A' c' eL v9 => ⟨_, _, _, rfl, ?_⟩
          rw [wsucc (by omega)]
          refine ih (a + 1) A' (lb + 1) c' hL h9 _ (by omega) (he.trans (eJ.trans (eK.trans (e8.trans eL)))) v9 ?_
          rw [List.range_succ, List.map_append]
          refine (hE.mono (eJ.trans (eK.trans (e8.trans eL)))).snoc ⟨R, cr, by rw [List.length_map, List.length_range, hlr], hR.mono (e8.trans eL), by rw [List.length_map, List.length_range]; omega⟩
        | succ k ihk =>
          intro x R lr cr hJ hA h6 hx eJ vA v6
          have hlr := v6.len
          rw [BM, List.length_map, List.length_map, List.length_range, Nat.mul_one] at hlr
          refine S.l02Met.L1_step _ _ _ _ _ _ _ _ _ _ _ _ _ (dec_split (fun hc => ?_) (fun hc => by omega))
          refine hT.rd ((he.trans eJ).trans (vA.ext.trans v6.ext)) tl (by omega) (by omega) fun D dD hD _ => ?_
          rw [Int.toNat_natCast, meetTab_get _ (by omega)] at hD ⊢
          rw [metRow_len]
          refine hD.rd ((he.trans eJ).trans (vA.ext.trans v6.ext)) (metRow_len _ _ _) (by omega) (by omega) ?_
          rw [Int.toNat_natCast, metRow_get _ _ (by omega)]
          intro b30 hf30
          obtain ⟨v7, f7⟩ := v6.beside hf30 (.cells [.bool (decide (0 < ((metN rs a x : Nat) : Int)))])
          obtain ⟨vA7, fA7⟩ := vA.beside f7 (.cells [.bool (decide (0 < ((metN rs a x : Nat) : Int)))])
          have e7 := Ext.upd fA7 (.cells [.bool (decide (0 < ((metN rs a x : Nat) : Int)))])
          refine v7.append2 (m := 1) (news := [.bool (decide (0 < ((metN rs a x : Nat) : Int)))]) (Seg.row (Seg.new' _ _ _) rfl) rfl (by simp [Value.oneCell']) (by omega) (by omega) rfl fun hL h9 A' c' eL v9 => ⟨_, _, _, rfl, ?_⟩
          rw [wsucc (by omega)]
          have hx' : BM ((List.range (x + 1)).map fun b => decide (0 < ((metN rs a b : Nat) : Int))) = BM ((List.range x).map fun b => decide (0 < ((metN rs a b : Nat) : Int))) ++ [.bool (decide (0 < ((metN rs a x : Nat) : Int)))] := by rw [List.range_succ]; simp [BM]
          rcases eL with rfl | ⟨y, kk, hy, rfl⟩
          · exact ihk (x + 1) A' (lr + 1) c' _ _ h9 (by omega) (eJ.trans e7) vA7 (by rw [hx']; exact v9)
          · obtain ⟨vA8, fA8⟩ := vA7.beside hy kk
            exact ihk (x + 1) A' (lr + 1) c' _ _ h9 (by omega) (eJ.trans (e7.trans (Ext.upd fA8 kk))) vA8 (by rw [hx']; exact v9)
      exact inner n.toNat 0 _ 0 0 hI h' _ (by omega) (Ext.refl _) v (by simpa [BM] using Vec.made (l := 0) (sz := 1) (cs := []) hf16 rfl)
  exact loop n.toNat 0 _ 0 0 h1 _ [] (by omega) (Ext.refl _) (Vec.made hf10 (by simp)) (EachB.nil _)

end Go.Proofs.Ytbppeajpjnlobaa

/- Rounds one after the other: the program's search, whole; the reference's. -/
set_option linter.unusedVariables false
set_option linter.unusedSimpArgs false
namespace Go.Proofs.Ytbppeajpjnlobaa
open Go.HL

theorem Visits.mono {σ : Type} {n : Nat} {C : Nat → Prop} {St : σ → PMap → Prop} {stp : σ → List Int → σ × Bool} {f : FuncId} {caps : Array Value} {hI hJ : Heap} (V : Visits n C St stp f caps hI) (e : Ext hI hJ) : Visits n C St stp f caps hJ :=
  ⟨V.cong, fun s x hK m hG eK hB hs => V.call s x hK m hG (e.trans eK) hB hs⟩

theorem I.rounds.spec {σ : Type} {n : Nat} {C : Nat → Prop} {St : σ → PMap → Prop} {stp : σ → List Int → σ × Bool} {f : FuncId} {caps : Array Value} {hJ : Heap} {m : PMap} (V : Visits n C St stp f caps hJ) (n14 : n ≤ 14) {T : Option Addr} {cT : Nat} {tab : List (List Int)}
    (hT : Tab hJ T tab) (tl : tab.length = n) (trl : ∀ i, i < n → (tab.getD i []).length = n) (hB : Beside hJ m) {s : σ} (hs : St s m) (hC : ∀ y, C y → m y ≠ none) :
    ACalls Try.prog I.rounds.id [.int .i64 n, .slice T n cT, .func (.func f) #[] caps] (over hJ m) fun u h2 => u = .bool (runTo stp s (enumR (badOf tab) n (n + 1) (freeTo n) 0)).2 ∧ ∃ hK m', Ext hJ hK ∧ h2 = over hK m' ∧ Beside hK m' ∧
      St (runTo stp s (enumR (badOf tab) n (n + 1) (freeTo n) 0)).1 m' ∧ ∀ y, m y ≠ none → ¬ C y → m' y = m y := by
  refine I.rounds.step _ _ _ _ _ _ _ _ fun b4 hf4 => ?_
  rw [over_base hf4]
  have e4 := Ext.upd (over_fresh hf4).1 (.cells [.int .i64 (n : Int)])
  have hB4 := hB.base hf4 (.cells [.int .i64 (n : Int)])
  have g4 : (hJ.upd b4 (.cells [.int .i64 (n : Int)])).get b4 0 = some (.int .i64 (n : Int)) := by simp
  generalize hJ.upd b4 (.cells [.int .i64 (n : Int)]) = h1 at *
  intro b6 hf6
  rw [over_base hf6]
  have e6 := Ext.upd (over_fresh hf6).1 (.cells [.slice T n cT])
  have hB6 := hB4.base hf6 (.cells [.slice T n cT])
  have g6 : (h1.upd b6 (.cells [.slice T n cT])).get b6 0 = some (.slice T n cT) := by simp
  generalize h1.upd b6 (.cells [.slice T n cT]) = h2 at *
  intro b8 hf8
  rw [over_base hf8]
  have e8 := Ext.upd (over_fresh hf8).1 (.cells [.func (.func f) #[] caps])
  have hB8 := hB6.base hf8 (.cells [.func (.func f) #[] caps])
  have g8 : (h2.upd b8 (.cells [.func (.func f) #[] caps])).get b8 0 = some (.func (.func f) #[] caps) := by simp
  generalize h2.upd b8 (.cells [.func (.func f) #[] caps]) = h3 at *
  refine ⟨n, (over_ext hB8).get ((e6.trans e8).get g4), (over_frame hB8 (I.free.spec (n := (n : Int)) (by omega) (by omega))).mono ?_⟩
  rintro u h5 ⟨h6, hB9, rfl, e9, rfl⟩
  rw [Int.toNat_natCast]
  have hl := freeTo_len n14
  refine ⟨_, hl, rfl, alloc14 hB9 fun b14 hm14 _ hB10 => ⟨by simpa using hl, over_st14 (put_self _ _ _) rfl hl ?_⟩⟩
  have hB11 := hB10.put (b := b14) (by rw [put_self]; simp) (LM (freeTo n))
  have hm11 := put_self (m.put b14 (LM (List.replicate 14 0))) b14 (LM (freeTo n))
  have hm11' : ∀ y, y ≠ b14 → ((m.put b14 (LM (List.replicate 14 0))).put b14 (LM (freeTo n))) y = m y := fun y hy => by rw [put_ne _ _ hy, put_ne _ _ hy]
  generalize (m.put b14 (LM (List.replicate 14 0))).put b14 (LM (freeTo n)) = m1 at *
  have hbC : ¬ C b14 := fun h => hC b14 h hm14
  intro b17 hf17
  refine ⟨[.nilFunc], Heap.upd_own_self _ _ _, by simp, by simp [Value.oneCell'], ?_⟩
  have es : splice [Value.nilFunc] 0 [.func (.func I.rounds.c1.id) #[] (#[.pointer (some ⟨b4, 0, none⟩), .pointer (some ⟨b14, 0, none⟩), .pointer (some ⟨b8, 0, none⟩), .pointer (some ⟨b6, 0, none⟩), .pointer (some ⟨b17, 0, none⟩)])] = [.func (.func I.rounds.c1.id) #[] (roundCaps b4 b14 b8 b6 b17).toArray] := by simp [splice]
  rw [upd_upd, es, over_base hf17]
  have e17 := Ext.upd (over_fresh hf17).1 (.cells [.func (.func I.rounds.c1.id) #[] (roundCaps b4 b14 b8 b6 b17).toArray])
  have hB17 := hB11.base hf17 (.cells [.func (.func I.rounds.c1.id) #[] (roundCaps b4 b14 b8 b6 b17).toArray])
  have g17 : (h6.upd b17 (.cells [.func (.func I.rounds.c1.id) #[] (roundCaps b4 b14 b8 b6 b17).toArray])).get b17 0 = some (.func (.func I.rounds.c1.id) #[] (roundCaps b4 b14 b8 b6 b17).toArray) := by simp
  generalize h6.upd b17 (.cells [.func (.func I.rounds.c1.id) #[] (roundCaps b4 b14 b8 b6 b17).toArray]) = h7 at *
  have e917 := e9.trans e17
  have eall := ((e4.trans e6).trans e8).trans e917
  refine ⟨_, _, (over_ext hB17).get g17, ?_⟩
  have hG : Good n (freeTo n) := ⟨hl, fun i hi => by rw [freeTo_get hi]; omega⟩
  refine (I.rounds.c1.step _ _ _ _ _ _ _ _ _ _ _ _ _ (I.rounds.c1.walk (V.mono eall) n14 (hT.mono eall) tl trl (((e6.trans e8).trans e917).get g4) (e917.get g8) ((e8.trans e917).get g6) g17 hbC (n + 1) (freeTo n) 0 s h7 m1 (by omega) (by omega) hG (Ext.refl _) hB17 hm11 (V.cong s m m1 (fun y hy => hm11' y fun e => hbC (e ▸ hy)) hs))).mono ?_
  rintro u h8 ⟨rfl, hK, m', eK, rfl, hBK, hsK, _, _, ho⟩
  refine ⟨_, rfl, rfl, hK, m', eall.trans eK, rfl, hBK, hsK, fun y hy hCy => ?_⟩
  have hyb : y ≠ b14 := fun e => by rw [e] at hy; exact hy hm14
  rw [ho y (by rw [hm11' y hyb]; exact hy) hCy hyb, hm11' y hyb]

theorem S.l01Free.spec {n : Int} (h0 : 0 ≤ n) (h14 : n ≤ 14) {h : Heap} : ACalls Try.prog S.l01Free.id [.int .i64 n] h fun u h2 => Ext h h2 ∧ u = .agg (LM (freeTo n.toNat)).toArray := by
  refine S.l01Free.step _ _ _ ?_
  rw [← over_noM h]
  refine alloc14 (beside_noM h) fun b2 _ _ hB1 => alloc14 hB1 fun b4 hn4 _ hB2 => ⟨rfl, ?_⟩
  have n42 : b4 ≠ b2 := fun e => by rw [e, put_self] at hn4; cases hn4
  refine over_st14 (put_self _ _ _) rfl (r := List.replicate 14 0) rfl ?_
  have loop : ∀ (q a : Nat) (m : PMap), a + q = n.toNat → Beside h m → m b2 = some (LM (List.replicate 14 0)) → m b4 = some (LM (freeTo a)) →
      S.l01Free.L0 (fun u h2 => Ext (over h noM) h2 ∧ u = .agg (LM (freeTo n.toNat)).toArray) (.int .i64 n) (.pointer (some ⟨b2, 0, none⟩)) (.pointer (some ⟨b4, 0, none⟩)) (.int .i64 a) (over h m) := by
    intro q
    induction q with
    | zero =>
      intro a m ha hB hm2 hm4
      have ea : a = n.toNat := by omega
      subst ea
      have hl : (freeTo n.toNat).length = 14 := freeTo_len (by omega)
      refine S.l01Free.L0_step _ _ _ _ _ _ _ _ (dec_split (fun hc => by omega) (fun _ => ⟨freeTo n.toNat, hl, over_all14 hm4 hl, by simpa using hl, over_st14 hm2 rfl hl ⟨LM (freeTo n.toNat), over_all14 (put_self _ _ _) hl, ?_, rfl⟩⟩))
      rw [over_noM]
      exact over_ext (hB.put (by rw [hm2]; simp) _)
    | succ q ih =>
      intro a m ha hB hm2 hm4
      refine S.l01Free.L0_step _ _ _ _ _ _ _ _ (dec_split (fun hc => over_wr14 hm4 (freeTo_len (by omega)) (by omega) (by omega) ?_) (fun hc => by omega))
      rw [wsucc (by omega), Int.toNat_natCast, freeTo_set (by omega)]
      exact ih (a + 1) _ (by omega) (hB.put (by rw [hm4]; simp) _) (by rw [put_ne _ _ n42.symm]; exact hm2) (put_self _ _ _)
  exact loop n.toNat 0 _ (by omega) (hB2.put (by rw [put_self]; simp) _) (by rw [put_ne _ _ n42.symm, put_ne _ _ n42.symm, put_self]) (by rw [put_self]; rfl)

/-! ### The reference's search -/
/-- The round of the teams is the round of their places. -/
def Mirrors (n : Nat) (p now r : List Int) : Prop :=
  r.length = 14 ∧ (∀ i, i < n → r.getD (p.getD i 0).toNat 0 = p.getD (now.getD i 0).toNat 0) ∧ ∀ x, (∀ i, i < n → (p.getD i 0).toNat ≠ x) → r.getD x 0 = 0
/-- A ranking of all teams. -/
structure Ranks (n : Nat) (p : List Int) : Prop where
  len : p.length = n
  rng : ∀ i, i < n → 0 ≤ p.getD i 0 ∧ p.getD i 0 < n
  inj : ∀ i j, i < n → j < n → p.getD i 0 = p.getD j 0 → i = j

theorem renTo_get {n : Nat} {p now : List Int} (hp : Ranks n p) (n14 : n ≤ 14) : ∀ k, k ≤ n → (∀ i, i < k → (renTo p now k).getD (p.getD i 0).toNat 0 = p.getD (now.getD i 0).toNat 0) ∧ ∀ x, (∀ i, i < k → (p.getD i 0).toNat ≠ x) → (renTo p now k).getD x 0 = 0
  | 0, _ => ⟨fun i hi => by omega, fun x _ => by rw [renTo, List.getD_eq_getElem?_getD, List.getElem?_replicate]; split <;> rfl⟩
  | k + 1, hk => by
    obtain ⟨h1, h2⟩ := renTo_get hp n14 k (by omega)
    obtain ⟨q0, q1⟩ := hp.rng k (by omega)
    refine ⟨fun i hi => ?_, fun x hx => ?_⟩
    · rw [renTo]
      by_cases hik : i = k
      · subst hik
        rw [lget_set_self (by rw [renTo_len]; omega)]
      · obtain ⟨r0, r1⟩ := hp.rng i (by omega)
        have hne : (p.getD k 0).toNat ≠ (p.getD i 0).toNat := fun e => hik (hp.inj i k (by omega) (by omega) (by omega))
        rw [lget_set_ne _ hne]
        exact h1 i (by omega)
    · rw [renTo, lget_set_ne _ (hx k (by omega))]
      exact h2 x fun i hi => hx i (by omega)
theorem mirror_eq {n : Nat} {p now r : List Int} (hp : Ranks n p) (n14 : n ≤ 14) (hm : Mirrors n p now r) : r = renTo p now n := by
  obtain ⟨hl, h1, h2⟩ := hm
  obtain ⟨k1, k2⟩ := renTo_get (now := now) hp n14 n (Nat.le_refl _)
  have key : ∀ x, r.getD x 0 = (renTo p now n).getD x 0 := by
    intro x
    by_cases h : ∃ i, i < n ∧ (p.getD i 0).toNat = x
    · obtain ⟨i, hi, rfl⟩ := h
      rw [h1 i hi, k1 i hi]
    · have : ∀ i, i < n → (p.getD i 0).toNat ≠ x := fun i hi e => h ⟨i, hi, e⟩
      rw [h2 x this, k2 x this]
  apply List.ext_getElem
  · rw [hl, renTo_len]
  · intro x hx1 hx2
    have := key x
    rw [List.getD_eq_getElem?_getD, List.getD_eq_getElem?_getD, List.getElem?_eq_getElem hx1, List.getElem?_eq_getElem hx2] at this
    exact this
theorem mirror_free {n : Nat} {p now r : List Int} (hp : Ranks n p) (hG : Good n now) (hm : Mirrors n p now r) {i : Nat} (hi : i < n) : r.getD (p.getD i 0).toNat 0 = p.getD i 0 ↔ now.getD i 0 = (i : Int) := by
  obtain ⟨g0, g1⟩ := hG.2 i hi
  rw [hm.2.1 i hi]
  refine ⟨fun h => ?_, fun h => by rw [h, Int.toNat_natCast]⟩
  have := hp.inj _ _ (by omega) hi h
  omega
theorem mirror_set {n : Nat} {p now r : List Int} (hp : Ranks n p) (n14 : n ≤ 14) (hG : Good n now) (hm : Mirrors n p now r) {a b : Nat} (ha : a < n) (hb : b < n) (hab : a ≠ b) :
    Mirrors n p ((now.set a (b : Int)).set b (a : Int)) ((r.set (p.getD a 0).toNat (p.getD b 0)).set (p.getD b 0).toNat (p.getD a 0)) := by
  obtain ⟨hl, h1, h2⟩ := hm
  obtain ⟨a0, a1⟩ := hp.rng a ha
  obtain ⟨b0, b1⟩ := hp.rng b hb
  have hne : (p.getD a 0).toNat ≠ (p.getD b 0).toNat := fun e => hab (hp.inj a b ha hb (by omega))
  refine ⟨by rw [List.length_set, List.length_set]; exact hl, fun i hi => ?_, fun x hx => ?_⟩
  · obtain ⟨i0, i1⟩ := hp.rng i hi
    by_cases hib : i = b
    · subst hib
      rw [lget_set_self (by rw [List.length_set]; omega), lget_set_self (by rw [List.length_set, hG.1]; omega), Int.toNat_natCast]
    · have hnb : (p.getD b 0).toNat ≠ (p.getD i 0).toNat := fun e => hib (hp.inj i b hi hb (by omega))
      rw [lget_set_ne _ hnb, lget_set_ne _ (Ne.symm hib)]
      by_cases hia : i = a
      · subst hia
        rw [lget_set_self (by omega), lget_set_self (by rw [hG.1]; omega), Int.toNat_natCast]
      · have hna : (p.getD a 0).toNat ≠ (p.getD i 0).toNat := fun e => hia (hp.inj i a hi ha (by omega))
        rw [lget_set_ne _ hna, lget_set_ne _ (Ne.symm hia)]
        exact h1 i hi
  · rw [lget_set_ne _ (hx b hb), lget_set_ne _ (hx a ha)]
    exact h2 x hx

/-- The first one that is found, renumbered. -/
def nextAns (p : List Int) (n : Nat) : List (List Int) → List Int × Bool
  | [] => (List.replicate 14 0, false)
  | x :: _ => (renTo p x n, true)
theorem nextAns_append (p : List Int) (n : Nat) (xs ys : List (List Int)) : nextAns p n (xs ++ ys) = if (nextAns p n xs).2 then nextAns p n xs else nextAns p n ys := by
  cases xs <;> simp [nextAns]
theorem nextAns_len (p : List Int) (n : Nat) (xs : List (List Int)) : (nextAns p n xs).1.length = 14 := by
  cases xs
  · simp [nextAns]
  · simp [nextAns, renTo_len]

theorem enumR_fuel (bad : Nat → Nat → Bool) (n : Nat) : ∀ (q q' : Nat) (now : List Int) (a : Nat), n < a + q → n < a + q' → a ≤ n → enumR bad n q now a = enumR bad n q' now a
  | 0, q', now, a, h, _, ha => by omega
  | q + 1, 0, now, a, _, h, ha => by omega
  | q + 1, q' + 1, now, a, h, h', ha => by
    rw [enumR, enumR]
    by_cases han : a < n
    · rw [if_pos han, if_pos han]
      by_cases hf : now.getD a 0 = (a : Int)
      · rw [if_pos hf, if_pos hf, List.flatMap_def, List.flatMap_def]
        refine congrArg List.flatten (List.map_congr_left fun b hb => ?_)
        split
        · exact enumR_fuel bad n q q' _ (a + 1) (by omega) (by omega) (by omega)
        · rfl
      · rw [if_neg hf, if_neg hf]
        exact enumR_fuel bad n q q' now (a + 1) (by omega) (by omega) (by omega)
    · rw [if_neg han, if_neg han]
theorem enumR_skip (bad : Nat → Nat → Bool) (n q : Nat) (now : List Int) (a : Nat) (han : a < n) (hq : n < a + q) (ht : now.getD a 0 ≠ (a : Int)) : enumR bad n q now a = enumR bad n q now (a + 1) := by
  cases q with
  | zero => omega
  | succ q =>
    rw [enumR, if_pos han, if_neg ht]
    exact enumR_fuel bad n q (q + 1) now (a + 1) (by omega) (by omega) (by omega)

theorem S.l10Next.spec {n : Nat} (n14 : n ≤ 14) {M P : Option Addr} {cM cP : Nat} {tab : List (List Bool)} {p : List Int} {bad : Nat → Nat → Bool} {hI0 : Heap} (hM : TabB hI0 M tab) (ml : tab.length = n) (mrl : ∀ i, i < n → (tab.getD i []).length = n) (hP : Ints hI0 P p) (hp : Ranks n p)
    (hbad : ∀ i k, i < n → k < n → bad i k = (tab.getD (p.getD i 0).toNat []).getD (p.getD k 0).toNat false) :
    ∀ (q : Nat) (now r : List Int) (a : Nat) (h : Heap), a ≤ n → n < a + q → Good n now → Mirrors n p now r → (∀ i, i < a → now.getD i 0 ≠ (i : Int)) → Ext hI0 h →
      ACalls Try.prog S.l10Next.id [.slice M n cM, .slice P n cP, .agg (LM r).toArray] h fun u h2 => Ext h h2 ∧ u = .tuple #[.agg (LM (nextAns p n (enumR bad n q now a)).1).toArray, .bool (nextAns p n (enumR bad n q now a)).2] := by
  intro q
  induction q with
  | zero => intro now r a h ha hq; omega
  | succ q ih =>
    intro now r a h ha hq hG hMi htaken eh
    refine S.l10Next.step _ _ _ _ _ _ _ _ _ fun b4 hf4 => ?_
    have hr14 : r.length = 14 := hMi.1
    have e4 := Ext.upd hf4 (.cells (LM r))
    have hg4 : ∀ (i : Nat) (v : Value), (LM r)[i]? = some v → (h.upd b4 (.cells (LM r))).get b4 i = some v := fun i v hv => by rw [get_upd, if_pos rfl]; exact hv
    have hN4 : (h.upd b4 (.cells (LM r))).getN b4 0 14 = some (List.map (Value.int .i64) r) := getN_of (by simpa using hr14) fun i v hv => by rw [Nat.zero_add]; exact hg4 i v hv
    have e0 := eh.trans e4
    generalize h.upd b4 (.cells (LM r)) = h1 at *
    rw [← over_noM h1]
    refine alloc14 (beside_noM h1) fun b6 _ _ hB1 => ?_
    have hm6 := put_self noM b6 (LM (List.replicate 14 0))
    generalize noM.put b6 (LM (List.replicate 14 0)) = m1 at *
    -- the answer is written
    have ret : ∀ (hJ : Heap) (x : List Int) (K : Value → Heap → Prop), x.length = 14 → Beside hJ m1 → (∀ h2, Ext hJ h2 → K (.agg (LM x).toArray) h2) → (List.map (Value.int .i64) x).length = 14 ∧ SStore (over hJ m1) b6 0 (List.map (Value.int .i64) x) fun h25 => ∃ r26 : List Value, h25.getN b6 0 14 = some r26 ∧ K (.agg r26.toArray) h25 := by
      intro hJ x K hx hB hk
      exact ⟨by simpa using hx, over_st14 hm6 rfl hx ⟨LM x, over_all14 (put_self _ _ _) hx, hk _ (over_ext (hB.put (by rw [hm6]; simp) _))⟩⟩
    have rdr : ∀ hJ, Ext h1 hJ → Beside hJ m1 → ∀ {i : Nat}, i < n → (0 ≤ p.getD i 0 ∧ p.getD i 0 < 14) ∧ (over hJ m1).get b4 (0 + Int.toNat (p.getD i 0) * 1) = some (.int .i64 (r.getD (p.getD i 0).toNat 0)) := by
      intro hJ eJ hB i hi
      obtain ⟨p0, p1⟩ := hp.rng i hi
      exact ⟨⟨p0, by omega⟩, (over_ext hB).get (eJ.get (rd14 hr14 hg4 p0 (by omega)))⟩
    -- place by place, till one is free
    have main : ∀ (d i : Nat), i + d = n → (∀ j, j < i → now.getD j 0 ≠ (j : Int)) → (a ≤ i → enumR bad n (q + 1) now a = enumR bad n (q + 1) now i) →
        S.l10Next.L0 (fun u h2 => Ext h h2 ∧ u = .tuple #[.agg (LM (nextAns p n (enumR bad n (q + 1) now a)).1).toArray, .bool (nextAns p n (enumR bad n (q + 1) now a)).2]) (.slice M n cM) (.slice P n cP) (.pointer (some ⟨b4, 0, none⟩)) (.pointer (some ⟨b6, 0, none⟩)) (.int .i64 i) (over h1 m1) := by
      intro d
      induction d with
      | zero =>
        intro i hi hta hen
        have ei : i = n := by omega
        subst ei
        refine S.l10Next.L0_step _ _ _ _ _ _ _ _ _ _ _ _ _ fun k14 hk14 => dec_split (fun hc => by omega) (fun _ => hk14 _ _ (bool_split (fun h => by cases h) (fun _ => dec_split (fun _ => ?_) (fun hne => absurd rfl hne))))
        have he : enumR bad i (q + 1) now a = [now] := by rw [hen ha, enumR, if_neg (Nat.lt_irrefl _)]
        have hr : r = renTo p now i := mirror_eq hp n14 hMi
        refine ⟨r, hr14, (over_ext hB1).getN hN4, ?_⟩
        obtain ⟨q1, q2⟩ := ret h1 r (fun v h25 => Ext h h25 ∧ Value.tuple #[v, .bool true] = .tuple #[.agg (LM (nextAns p i (enumR bad i (q + 1) now a)).1).toArray, .bool (nextAns p i (enumR bad i (q + 1) now a)).2]) hr14 hB1 (fun h2 e2 => ⟨e4.trans e2, by rw [he, nextAns, ← hr]⟩)
        exact ⟨q1, q2⟩
      | succ d ihd =>
        intro i hi hta hen
        have hin : i < n := by omega
        obtain ⟨p0, p1⟩ := hp.rng i hin
        refine S.l10Next.L0_step _ _ _ _ _ _ _ _ _ _ _ _ _ fun k14 hk14 => dec_split (fun hc => ?_) (fun hc => by omega)
        obtain ⟨rr1, rr2⟩ := rdr h1 (Ext.refl _) hB1 hin
        refine (hP.mono e0).rd (over_ext hB1) hp.len (by omega) (by omega) ?_
        rw [Int.toNat_natCast]
        refine ⟨rr1, _, rr2, (hP.mono e0).rd (over_ext hB1) hp.len (by omega) (by omega) ?_⟩
        rw [Int.toNat_natCast]
        refine hk14 _ _ (nbool_split ?_ ?_)
        · intro hf
          have hne : now.getD i 0 ≠ (i : Int) := fun e => (of_decide_eq_false hf) ((mirror_free hp hG hMi hin).2 e)
          rw [wsucc (by omega)]
          refine ihd (i + 1) (by omega) (fun j hj => ?_) (fun hai => ?_)
          · by_cases hji : j = i
            · rw [hji]; exact hne
            · exact hta j (by omega)
          · by_cases h : a ≤ i
            · rw [hen h]; exact enumR_skip bad n (q + 1) now i hin (by omega) hne
            · have : a = i + 1 := by omega
              rw [this]
        · intro ht
          have hfree : now.getD i 0 = (i : Int) := (mirror_free hp hG hMi hin).1 (of_decide_eq_true ht)
          have hai : a ≤ i := by
            rcases Nat.lt_or_ge i a with h | h
            · exact absurd hfree (htaken i h)
            · exact h
          have he := hen hai
          have he2 : enumR bad n (q + 1) now i = (List.range' (i + 1) (n - (i + 1))).flatMap fun b => if now.getD b 0 = (b : Int) ∧ bad i b = false then enumR bad n q ((now.set i (b : Int)).set b (i : Int)) (i + 1) else [] := by rw [enumR, if_pos hin, if_pos hfree]
          rw [he2] at he
          refine dec_split (fun hc => by omega) (fun _ => (hP.mono e0).rd (over_ext hB1) hp.len (by omega) (by omega) ?_)
          rw [Int.toNat_natCast, wsucc (by omega)]
          rw [he]
          -- partner by partner
          have partners : ∀ (k b : Nat) (hJ : Heap), b + k = n → i < b → Ext h1 hJ → Beside hJ m1 → ∀ (R : List Int × Bool), R = nextAns p n ((List.range' b k).flatMap fun b => if now.getD b 0 = (b : Int) ∧ bad i b = false then enumR bad n q ((now.set i (b : Int)).set b (i : Int)) (i + 1) else []) →
              S.l10Next.L1 (fun u h2 => Ext h h2 ∧ u = .tuple #[.agg (LM R.1).toArray, .bool R.2]) (.slice M n cM) (.slice P n cP) (.pointer (some ⟨b4, 0, none⟩)) (.pointer (some ⟨b6, 0, none⟩)) (.int .i64 (p.getD i 0)) (.int .i64 b) (over hJ m1) := by
            intro k
            induction k with
            | zero =>
              intro b hJ hb hib eJ hB R hR
              have hR' : R = (List.replicate 14 0, false) := hR
              subst hR'
              refine S.l10Next.L1_step _ _ _ _ _ _ _ _ _ _ _ _ _ _ (dec_split (fun hc => by omega) (fun _ => ?_))
              obtain ⟨q1, q2⟩ := ret hJ (List.replicate 14 0) (fun v h67 => Ext h h67 ∧ Value.tuple #[v, .bool false] = .tuple #[.agg (LM (List.replicate 14 0)).toArray, .bool false]) rfl hB (fun h2 e2 => ⟨(e4.trans eJ).trans e2, rfl⟩)
              exact ⟨q1, q2⟩
            | succ k ihk =>
              intro b hJ hb hib eJ hB R hR
              have hbn : b < n := by omega
              obtain ⟨b0, b1⟩ := hp.rng b hbn
              have e0J := e0.trans eJ
              rw [List.range'_succ, List.flatMap_cons] at hR
              obtain ⟨rr1, rr2⟩ := rdr hJ eJ hB hbn
              refine S.l10Next.L1_step _ _ _ _ _ _ _ _ _ _ _ _ _ _ (dec_split (fun hc => (hP.mono e0J).rd (over_ext hB) hp.len (by omega) (by omega) ?_) (fun hc => by omega))
              rw [Int.toNat_natCast]
              refine ⟨rr1, _, rr2, fun k41 hk41 => ?_⟩
              have no : ¬ (now.getD b 0 = (b : Int) ∧ bad i b = false) → k41 [.bool true] (over hJ m1) := by
                intro hno
                refine hk41 _ _ (bool_split (fun _ => ?_) (fun h => by cases h))
                rw [wsucc (by omega)]
                rw [if_neg hno, List.nil_append] at hR
                exact ihk (b + 1) hJ (by omega) (by omega) eJ hB R hR
              have yes : (now.getD b 0 = (b : Int) ∧ bad i b = false) → k41 [.bool false] (over hJ m1) := by
                intro hyes
                refine hk41 _ _ (bool_split (fun h => by cases h) (fun _ => ?_))
                rw [if_pos hyes, nextAns_append] at hR
                refine ⟨r, hr14, (over_ext hB).getN (eJ.getN hN4), alloc14 hB fun b51 hn51 hf51 hB2 => ⟨by simpa using hr14, over_st14 (put_self _ _ _) rfl hr14 ?_⟩⟩
                have n516 : b51 ≠ b6 := fun e => by rw [e, hm6] at hn51; cases hn51
                refine over_wr14 (put_self _ _ _) hr14 p0 (by omega) (over_wr14 (put_self _ _ _) (by rw [List.length_set]; exact hr14) b0 (by omega) ?_)
                have hl2 : ((r.set (p.getD i 0).toNat (p.getD b 0)).set (p.getD b 0).toNat (p.getD i 0)).length = 14 := by rw [List.length_set, List.length_set]; exact hr14
                refine ⟨_, hl2, over_all14 (put_self _ _ _) hl2, ?_⟩
                -- the copy is only read from here on
                have hmput : ∀ X Y Z W : List Value, ((((m1.put b51 X).put b51 Y).put b51 Z).put b51 W) = m1.put b51 W := fun X Y Z W => by
                  funext y
                  by_cases hy : y = b51
                  · subst hy; rw [put_self, put_self]
                  · rw [put_ne _ _ hy, put_ne _ _ hy, put_ne _ _ hy, put_ne _ _ hy, put_ne _ _ hy]
                rw [hmput, ← over_put]
                have hov : (over hJ m1).fresh b51 := by
                  refine ⟨?_, hf51.2⟩
                  show (match m1 b51 with | some cs => some (Blk.cells cs) | none => hJ.own b51) = none
                  rw [hn51]; exact hf51.1
                rw [over_base hov]
                have eK := Ext.upd hf51 (.cells (LM ((r.set (p.getD i 0).toNat (p.getD b 0)).set (p.getD b 0).toNat (p.getD i 0))))
                have hBK := hB.base hov (.cells (LM ((r.set (p.getD i 0).toNat (p.getD b 0)).set (p.getD b 0).toNat (p.getD i 0))))
                generalize hJ.upd b51 (.cells (LM ((r.set (p.getD i 0).toNat (p.getD b 0)).set (p.getD b 0).toNat (p.getD i 0)))) = hK at *
                have hG2 := hG.set2 hin hbn
                have hMi2 := mirror_set hp n14 hG hMi hin hbn (by omega)
                have hta2 : ∀ j, j < i + 1 → ((now.set i (b : Int)).set b (i : Int)).getD j 0 ≠ (j : Int) := by
                  intro j hj
                  have hjb : b ≠ j := by omega
                  rw [lget_set_ne _ hjb]
                  by_cases hji : i = j
                  · subst hji; rw [lget_set_self (by rw [hG.1]; omega)]; omega
                  · rw [lget_set_ne _ hji]; exact hta j (by omega)
                refine (over_frame hBK (ih ((now.set i (b : Int)).set b (i : Int)) _ (i + 1) hK (by omega) (by omega) hG2 hMi2 hta2 (e0J.trans eK))).mono ?_
                rintro u h57 ⟨hL, hBL, rfl, eL, rfl⟩
                have hnl := nextAns_len p n (enumR bad n q ((now.set i (b : Int)).set b (i : Int)) (i + 1))
                refine ⟨_, hnl, _, rfl, alloc14 hBL fun b61 hn61 hf61 hB61 => ⟨by simpa using hnl, over_st14 (put_self _ _ _) rfl hnl ?_⟩⟩
                have hmput2 : ∀ X Y : List Value, ((m1.put b61 X).put b61 Y) = m1.put b61 Y := fun X Y => by
                  funext y
                  by_cases hy : y = b61
                  · subst hy; rw [put_self, put_self]
                  · rw [put_ne _ _ hy, put_ne _ _ hy, put_ne _ _ hy]
                rw [hmput2, ← over_put]
                have hov2 : (over hL m1).fresh b61 := by
                  refine ⟨?_, hf61.2⟩
                  show (match m1 b61 with | some cs => some (Blk.cells cs) | none => hL.own b61) = none
                  rw [hn61]; exact hf61.1
                rw [over_base hov2]
                have eN := Ext.upd hf61 (.cells (LM (nextAns p n (enumR bad n q ((now.set i (b : Int)).set b (i : Int)) (i + 1))).1))
                have hBN := hBL.base hov2 (.cells (LM (nextAns p n (enumR bad n q ((now.set i (b : Int)).set b (i : Int)) (i + 1))).1))
                have gN : (hL.upd b61 (.cells (LM (nextAns p n (enumR bad n q ((now.set i (b : Int)).set b (i : Int)) (i + 1))).1))).getN b61 0 14 = some (List.map (Value.int .i64) (nextAns p n (enumR bad n q ((now.set i (b : Int)).set b (i : Int)) (i + 1))).1) := getN_of (by simpa using hnl) fun y v hv => by rw [Nat.zero_add, get_upd, if_pos rfl]; exact hv
                generalize hL.upd b61 (.cells (LM (nextAns p n (enumR bad n q ((now.set i (b : Int)).set b (i : Int)) (i + 1))).1)) = hN at *
                have eJN := (eJ.trans eK).trans (eL.trans eN)
                refine bool_split (fun ht => ?_) (fun hf => ?_)
                · rw [if_pos ht] at hR
                  subst hR
                  refine ⟨_, hnl, (over_ext hBN).getN gN, ?_⟩
                  obtain ⟨q1, q2⟩ := ret hN _ (fun v h65 => Ext h h65 ∧ Value.tuple #[v, .bool true] = .tuple #[.agg (LM (nextAns p n (enumR bad n q ((now.set i (b : Int)).set b (i : Int)) (i + 1))).1).toArray, .bool (nextAns p n (enumR bad n q ((now.set i (b : Int)).set b (i : Int)) (i + 1))).2]) hnl hBN (fun h2 e2 => ⟨(e4.trans eJN).trans e2, by rw [ht]⟩)
                  exact ⟨q1, q2⟩
                · rw [if_neg (by rw [hf]; simp)] at hR
                  rw [wsucc (by omega)]
                  exact ihk (b + 1) hN (by omega) (by omega) eJN hBN R hR
              refine nbool_split (fun hf => ?_) (fun ht => ?_)
              · have hne : ¬ now.getD b 0 = (b : Int) := fun e => (of_decide_eq_false hf) ((mirror_free hp hG hMi hbn).2 e)
                exact no fun h => hne h.1
              · have hfb : now.getD b 0 = (b : Int) := (mirror_free hp hG hMi hbn).1 (of_decide_eq_true ht)
                refine (hM.mono e0J).rd (over_ext hB) ml p0 (by omega) fun D dD hD _ => ?_
                have hml := mrl (p.getD i 0).toNat (by omega)
                rw [hml]
                refine hD.rd (over_ext hB) hml b0 (by omega) ?_
                rw [← hbad i b hin hbn]
                cases hbd : bad i b with
                | true => exact no fun h => by rw [hbd] at h; cases h.2
                | false => exact yes ⟨hfb, hbd⟩
          exact partners (n - (i + 1)) (i + 1) h1 (by omega) (by omega) (Ext.refl _) hB1 _ rfl
    exact main n 0 (by omega) (fun j hj => by omega) (fun h => by rw [show a = 0 by omega])

end Go.Proofs.Ytbppeajpjnlobaa

/- Second and third numbers, as both tell them. -/
set_option linter.unusedVariables false
set_option linter.unusedSimpArgs false
namespace Go.Proofs.Ytbppeajpjnlobaa
open Go.HL

def ptsOf (n : Int) (rs xss : List (List Int)) : List Int := summedM (fun _ own => own) n rs xss
def gOf (third : Bool) (pts : List Int) (b own : Int) : Int := if third then IntKind.wrap .i64 (own * pts.getD b.toNat 0) else pts.getD b.toNat 0
def numsOf (third : Bool) (n : Int) (rs xss : List (List Int)) : List Int := summedM (gOf third (ptsOf n rs xss)) n rs xss

theorem I.Schedule.second.spec {n : Int} {A B : Option Addr} {rs xss : List (List Int)} {l c m d : Nat} {h : Heap} (s : Rds h A rs) (hl : rs.length = l) (x : Tab h B xss) (hm : xss.length = m)
    (hsok : scheduleOk n rs = true) (hok : resultsOk n rs xss = true) :
    ACalls Try.prog I.Schedule.second.id [.agg #[.int .i64 n, .slice A l c], .slice B m d] h fun u h2 => Ext h h2 ∧ ∃ bo, h.fresh bo ∧ u = .slice (some ⟨bo, 0, none⟩) n.toNat n.toNat ∧ h2.own bo = some (.cells (LM (numsOf false n rs xss))) := by
  obtain ⟨k1, k2, k3, k4⟩ := scheduleOk_facts hsok
  refine I.Schedule.second.step _ _ _ _ _ _ _ _ h fun b hf => ⟨n, A, l, c, by simp [Heap.getN], ?_⟩
  have e := Ext.upd hf (.cells [.int .i64 n, .slice A l c])
  have hg : (h.upd b (.cells [.int .i64 n, .slice A l c])).getN b 0 2 = some [.int .i64 n, .slice A l c] := by simp [Heap.getN]
  generalize h.upd b (.cells [.int .i64 n, .slice A l c]) = h1 at *
  refine (I.Schedule.points.spec (s.mono e) hl (x.mono e) hm hsok hok).mono ?_
  rintro u h2 ⟨e2, bo, f2, rfl, ho⟩
  refine ⟨_, _, _, rfl, fun b11 hf11 => ⟨[.slice none 0 0], Heap.upd_own_self _ _ _, by simp, by simp [Value.oneCell'], ?_⟩⟩
  rw [upd_upd]
  have ev : splice [Value.slice none 0 0] 0 [.slice (some ⟨bo, 0, none⟩) n.toNat n.toNat] = [.slice (some ⟨bo, 0, none⟩) n.toNat n.toNat] := by simp [splice]
  rw [ev]
  have e3 := Ext.upd hf11 (.cells [.slice (some ⟨bo, 0, none⟩) n.toNat n.toNat])
  have hc : (h2.upd b11 (.cells [.slice (some ⟨bo, 0, none⟩) n.toNat n.toNat])).get b11 0 = some (.slice (some ⟨bo, 0, none⟩) n.toNat n.toNat) := by simp
  have hp := (own_ints ho).mono e3
  have hpl := summed_len (fun _ own => own) n rs xss (by omega)
  generalize h2.upd b11 (.cells [.slice (some ⟨bo, 0, none⟩) n.toNat n.toNat]) = h3 at *
  have e123 := (e.trans e2).trans e3
  refine ⟨n, A, l, c, (e2.trans e3).getN hg, (I.Schedule.summed.spec (g := gOf false (ptsOf n rs xss)) (s.mono e123) hl (x.mono e123) hm hsok hok (fun h4 e4 y own hy0 hy1 => ?_)).mono ?_⟩
  · refine I.Schedule.second.c1.step _ _ _ _ _ _ ⟨_, _, _, e4.get hc, hp.rd e4 (by omega) hy0 (by omega) ⟨Ext.refl _, rfl⟩⟩
  · rintro u h4 ⟨e4, bq, f4, rfl, hq⟩
    exact ⟨_, _, _, rfl, e123.trans e4, bq, e123.fresh f4, rfl, hq⟩

theorem I.Schedule.third.spec {n : Int} {A B : Option Addr} {rs xss : List (List Int)} {l c m d : Nat} {h : Heap} (s : Rds h A rs) (hl : rs.length = l) (x : Tab h B xss) (hm : xss.length = m)
    (hsok : scheduleOk n rs = true) (hok : resultsOk n rs xss = true) :
    ACalls Try.prog I.Schedule.third.id [.agg #[.int .i64 n, .slice A l c], .slice B m d] h fun u h2 => Ext h h2 ∧ ∃ bo, h.fresh bo ∧ u = .slice (some ⟨bo, 0, none⟩) n.toNat n.toNat ∧ h2.own bo = some (.cells (LM (numsOf true n rs xss))) := by
  obtain ⟨k1, k2, k3, k4⟩ := scheduleOk_facts hsok
  refine I.Schedule.third.step _ _ _ _ _ _ _ _ h fun b hf => ⟨n, A, l, c, by simp [Heap.getN], ?_⟩
  have e := Ext.upd hf (.cells [.int .i64 n, .slice A l c])
  have hg : (h.upd b (.cells [.int .i64 n, .slice A l c])).getN b 0 2 = some [.int .i64 n, .slice A l c] := by simp [Heap.getN]
  generalize h.upd b (.cells [.int .i64 n, .slice A l c]) = h1 at *
  refine (I.Schedule.points.spec (s.mono e) hl (x.mono e) hm hsok hok).mono ?_
  rintro u h2 ⟨e2, bo, f2, rfl, ho⟩
  refine ⟨_, _, _, rfl, fun b11 hf11 => ⟨[.slice none 0 0], Heap.upd_own_self _ _ _, by simp, by simp [Value.oneCell'], ?_⟩⟩
  rw [upd_upd]
  have ev : splice [Value.slice none 0 0] 0 [.slice (some ⟨bo, 0, none⟩) n.toNat n.toNat] = [.slice (some ⟨bo, 0, none⟩) n.toNat n.toNat] := by simp [splice]
  rw [ev]
  have e3 := Ext.upd hf11 (.cells [.slice (some ⟨bo, 0, none⟩) n.toNat n.toNat])
  have hc : (h2.upd b11 (.cells [.slice (some ⟨bo, 0, none⟩) n.toNat n.toNat])).get b11 0 = some (.slice (some ⟨bo, 0, none⟩) n.toNat n.toNat) := by simp
  have hp := (own_ints ho).mono e3
  have hpl := summed_len (fun _ own => own) n rs xss (by omega)
  generalize h2.upd b11 (.cells [.slice (some ⟨bo, 0, none⟩) n.toNat n.toNat]) = h3 at *
  have e123 := (e.trans e2).trans e3
  refine ⟨n, A, l, c, (e2.trans e3).getN hg, (I.Schedule.summed.spec (g := gOf true (ptsOf n rs xss)) (s.mono e123) hl (x.mono e123) hm hsok hok (fun h4 e4 y own hy0 hy1 => ?_)).mono ?_⟩
  · refine I.Schedule.third.c1.step _ _ _ _ _ _ ⟨_, _, _, e4.get hc, hp.rd e4 (by omega) hy0 (by omega) ⟨Ext.refl _, rfl⟩⟩
  · rintro u h4 ⟨e4, bq, f4, rfl, hq⟩
    exact ⟨_, _, _, rfl, e123.trans e4, bq, e123.fresh f4, rfl, hq⟩

theorem gOf_mul {n : Int} {rs xss : List (List Int)} (hs : scheduleOk n rs = true) (third : Bool) (b own : Int) :
    IntKind.wrap .i64 ((if third then own else 1) * (ptsOf n rs xss).getD b.toNat 0) = gOf third (ptsOf n rs xss) b own := by
  have := summed_InB (xss := xss) hs b.toNat
  unfold gOf
  cases third with
  | true => rfl
  | false =>
    simp only [Bool.false_eq_true, if_false]
    unfold ptsOf
    rw [Int.one_mul, w64 (by omega) (by omega)]

theorem S.l10Sums.spec {n : Int} {A B : Option Addr} {rs xss : List (List Int)} {l c m d : Nat} {third : Bool} {h : Heap} (s : Rds h A rs) (hl : rs.length = l) (x : Tab h B xss) (hm : xss.length = m)
    (hsok : scheduleOk n rs = true) (hok : resultsOk n rs xss = true) :
    ACalls Try.prog S.l10Sums.id [.agg #[.int .i64 n, .slice A l c], .slice B m d, .bool third] h fun u h2 => Ext h h2 ∧ ∃ bo, h.fresh bo ∧ u = .slice (some ⟨bo, 0, none⟩) n.toNat n.toNat ∧ h2.own bo = some (.cells (LM (numsOf third n rs xss))) := by
  obtain ⟨k1, k2, k3, k4⟩ := scheduleOk_facts hsok
  have h0 : 0 ≤ n := by omega
  have hq : xss.take m = xss := by rw [List.take_of_length_le (by omega)]
  refine S.l10Sums.step _ _ _ _ _ _ _ _ _ h fun b hf => ⟨n, A, l, c, by simp [Heap.getN], n, by simp, rfl, by omega, by omega, by omega, ?_⟩
  have e0 := Ext.upd hf (.cells [.int .i64 n, .slice A l c])
  have hn0 : (h.upd b (.cells [.int .i64 n, .slice A l c])).get b (0 + 0) = some (.int .i64 n) := by simp
  have hs0 : (h.upd b (.cells [.int .i64 n, .slice A l c])).get b (0 + 1) = some (.slice A l c) := by simp
  generalize h.upd b (.cells [.int .i64 n, .slice A l c]) = h1 at *
  refine (S.l10Points.spec (q := m) (s.mono e0) hl (x.mono e0) hm (Nat.le_refl _) hsok (by rw [hq]; exact hok)).mono ?_
  rintro u hI1 ⟨e1, bp, f1, rfl, hpo⟩
  rw [hq] at hpo
  have hp : Ints hI1 (some ⟨bp, 0, none⟩) (ptsOf n rs xss) := own_ints hpo
  have hpl : ((ptsOf n rs xss).length : Int) = n := summed_len _ n rs xss h0
  have e := e0.trans e1
  have hn := e1.get hn0
  have hs := e1.get hs0
  refine ⟨_, _, _, rfl, hn, rfl, by omega, by omega, by omega, fun bo hfo => ?_⟩
  have hfo' := e.fresh hfo
  have hinv1 : (mutInts bo n).Inv (List.replicate n.toNat 0) hI1 (hI1.upd bo (.cells (List.replicate n.toNat (.int .i64 0)))) := ⟨by simp; omega, hfo, by simp [LM]⟩
  generalize hI1.upd bo (.cells (List.replicate n.toNat (.int .i64 0))) = h2' at *
  have hml : xss.length ≤ rs.length := by
    simp only [resultsOk, Bool.and_eq_true, decide_eq_true_eq] at hok; exact hok.1
  have hrows : rowsOk n rs xss = true := by simp only [resultsOk, Bool.and_eq_true] at hok; exact hok.2
  have inner : ∀ (i : Nat) (hi : i < m) (ps : List (List Int)) (P : Option Addr) (cP : Nat) (K : Value → Heap → Prop) (hps : ∀ p ∈ ps, p.length = 2 ∧ 0 ≤ p.getD 0 0 ∧ p.getD 0 0 < p.getD 1 0 ∧ p.getD 1 0 < n) (hlen : ps.length = (xss.getD i []).length) (hbig : ps.length ≤ 14) (k j : Nat) (t : List Int) (hJ h2 : Heap),
      j + k = ps.length → Ext hI1 hJ → (mutInts bo n).Inv t hJ h2 → Tab hJ P ps →
      (∀ hK h3, Ext hI1 hK → (mutInts bo n).Inv ((evRow i (ps.drop j) ((xss.getD i []).drop j)).foldl (addAt (gOf third (ptsOf n rs xss))) t) hK h3 → S.l10Sums.L0 K (.slice B m d) (.bool third) (.pointer (some ⟨b, 0, none⟩)) (.slice (some ⟨bp, 0, none⟩) n.toNat n.toNat) (.slice (some ⟨bo, 0, none⟩) n.toNat n.toNat) (.int .i64 ((i + 1 : Nat) : Int)) h3) →
      S.l10Sums.L1 K (.slice B m d) (.bool third) (.pointer (some ⟨b, 0, none⟩)) (.slice (some ⟨bp, 0, none⟩) n.toNat n.toNat) (.slice (some ⟨bo, 0, none⟩) n.toNat n.toNat) (.int .i64 i) (.slice P ps.length cP) (.int .i64 j) h2 := by
    intro i hi ps P cP K hps hlen hbig k
    induction k with
    | zero =>
      intro j t hJ h2 hj he hv _ hk
      refine S.l10Sums.L1_step K _ _ _ _ _ _ _ _ _ _ _ _ _ _ _ _ _ _ (dec_split (fun hc => by omega) (fun _ => ?_))
      rw [wsucc (by omega)]
      refine hk hJ h2 he ?_
      rw [List.drop_eq_nil_of_le (by omega)]
      exact hv
    | succ k ih =>
      intro j t hJ h2 hj he hv hP hk
      have hj' : j < ps.length := by omega
      have hjx : j < (xss.getD i []).length := by omega
      obtain ⟨p2, p3, p4, p5⟩ := hps _ (List.getElem_mem hj')
      have ev := (mutInts bo n).ext _ _ _ hv
      have e1' : ps.getD (Int.toNat j) [] = ps[j] := by rw [Int.toNat_natCast, List.getD_eq_getElem?_getD, List.getElem?_eq_getElem hj']; rfl
      have e2' : (xss.getD i []).getD (Int.toNat j) 0 = (xss.getD i [])[j] := by rw [Int.toNat_natCast, List.getD_eq_getElem?_getD, List.getElem?_eq_getElem hjx]; rfl
      have r2 : Int.toNat (0 : Int) = 0 := rfl
      have r3 : Int.toNat (1 : Int) = 1 := rfl
      refine S.l10Sums.L1_step K _ _ _ _ _ _ _ _ _ _ _ _ _ _ _ _ _ _ (dec_split (fun hc => ?_) (fun hc => by omega))
      refine hP.rd ev rfl (by omega) (by omega) fun D dD hD _ => ?_
      rw [e1'] at hD ⊢
      refine hD.rd ev rfl (by omega) (by omega) (hP.rd ev rfl (by omega) (by omega) fun D2 dD2 hD2 _ => ?_)
      rw [e1'] at hD2 ⊢
      refine hD2.rd ev rfl (by omega) (by omega) fun k51 hk51 => ?_
      -- behind the two factors
      have go : ∀ hJ' h3, Ext hI1 hJ' → (mutInts bo n).Inv t hJ' h3 → Tab hJ' P ps → k51 [.int .i64 (if third then ownOf (xss.getD i [])[j] else 1), .int .i64 (if third then 2 - ownOf (xss.getD i [])[j] else 1)] h3 := by
        intro hJ' h3 he3 hv3 hP3
        have ev3 := (mutInts bo n).ext _ _ _ hv3
        have q1 : 0 ≤ ps[j].getD 1 0 := by omega
        have q2 : ps[j].getD 1 0 < (n.toNat : Int) := by omega
        have q3 : ps[j].getD 0 0 < n := by omega
        have q4 : ps[j].getD 0 0 < (n.toNat : Int) := by omega
        refine hk51 _ _ _ (mutInts_rd hv3 p3 q3 ((hp.mono he3).rd ev3 (by omega) q1 q2 (mutInts_wr hv3 p3 q3 fun h4 hv4 => ?_)))
        have ev4 := (mutInts bo n).ext _ _ _ hv4
        refine mutInts_rd hv4 q1 p5 ((hp.mono he3).rd ev4 (by omega) p3 q4 (mutInts_wr hv4 q1 p5 fun h5 hv5 => ?_))
        rw [wsucc (by omega)]
        refine ih (j + 1) _ hJ' h5 (by omega) he3 hv5 hP3 fun hK h6 eK hv6 => hk hK h6 eK ?_
        rw [List.drop_eq_getElem_cons hj', List.drop_eq_getElem_cons hjx, evRow, List.foldl_cons, List.foldl_cons]
        rw [gOf_mul hsok, gOf_mul hsok] at hv6
        exact hv6
      refine bool_split (fun ht => ?_) (fun ht => ?_)
      · subst ht
        refine (x.mono (e.trans he)).rd ev hm (by omega) (by omega) fun C dC hC _ => ?_
        rw [Int.toNat_natCast i] at hC ⊢
        refine hC.rd ev rfl (by omega) (by omega) ?_
        rw [e2']
        refine ((mutInts bo n).frame _ _ _ hv (S.l10Won.spec (h := hJ))).mono ?_
        rintro u h3 ⟨hJ', hv3, rfl, rfl⟩
        exact ⟨_, _, rfl, go _ _ he hv3 hP⟩
      · subst ht
        exact go _ _ he hv hP
  have loop : ∀ (k i : Nat) (t : List Int) (hJ h2 : Heap) (K : Value → Heap → Prop), i + k = m → Ext hI1 hJ → (mutInts bo n).Inv t hJ h2 → rowsOk n (rs.drop i) (xss.drop i) = true →
      (∀ hK h3, Ext hI1 hK → (mutInts bo n).Inv ((evs n i (rs.drop i) (xss.drop i)).foldl (addAt (gOf third (ptsOf n rs xss))) t) hK h3 → K (.slice (some ⟨bo, 0, none⟩) n.toNat n.toNat) h3) →
      S.l10Sums.L0 K (.slice B m d) (.bool third) (.pointer (some ⟨b, 0, none⟩)) (.slice (some ⟨bp, 0, none⟩) n.toNat n.toNat) (.slice (some ⟨bo, 0, none⟩) n.toNat n.toNat) (.int .i64 i) h2 := by
    intro k
    induction k with
    | zero =>
      intro i t hJ h2 K hi he hv _ hk
      refine S.l10Sums.L0_step K _ _ _ _ _ _ _ _ _ _ _ _ _ _ (dec_split (fun hc => by omega) (fun _ => hk hJ h2 he ?_))
      have e9 : xss.drop i = [] := List.drop_eq_nil_of_le (by omega)
      rw [e9]
      cases hd : rs.drop i <;> exact hv
    | succ k ih =>
      intro i t hJ h2 K hi he hv hro hk
      have hi' : i < xss.length := by omega
      have hir : i < rs.length := by omega
      have ev := (mutInts bo n).ext _ _ _ hv
      refine S.l10Sums.L0_step K _ _ _ _ _ _ _ _ _ _ _ _ _ _ (dec_split (fun hc => ⟨n, ev.get (he.get hn), A, l, c, ev.get (he.get hs), ?_⟩) (fun hc => by omega))
      refine (s.mono (e.trans he)).rd ev hl (by omega) (by omega) fun hr14 => ?_
      refine ((mutInts bo n).frame _ _ _ hv (S.l01Pairs.spec hr14 h0 k2)).mono ?_
      rintro u h3 ⟨hK, hv3, eK, P, cP, rfl, hP⟩
      have e1' : rs.getD (Int.toNat i) [] = rs[i] := by rw [Int.toNat_natCast, List.getD_eq_getElem?_getD, List.getElem?_eq_getElem hir]; rfl
      have e2' : xss.getD i [] = xss[i] := by rw [List.getD_eq_getElem?_getD, List.getElem?_eq_getElem hi']; rfl
      rw [e1'] at hP ⊢
      rw [List.drop_eq_getElem_cons hi', List.drop_eq_getElem_cons hir, evs, ← e2'] at hk
      rw [List.drop_eq_getElem_cons hi', List.drop_eq_getElem_cons hir, rowsOk, Bool.and_eq_true, ← e2'] at hro
      have hlen : (pairsOf n rs[i]).length = (xss.getD i []).length := by
        have := hro.1
        simp only [rowOk, Bool.and_eq_true, decide_eq_true_eq] at this
        exact this.1.symm
      have hbig : (pairsOf n rs[i]).length ≤ 14 := by have := pairsFrom_len rs[i] n.toNat 0; unfold pairsOf; omega
      refine ⟨P, _, cP, rfl, inner i (by omega) _ P cP K (fun p hp => pairsOf_mem (k4 _ (List.getElem_mem hir)) h0 hp) hlen hbig _ 0 t hK h3 (Nat.zero_add _) (he.trans eK) hv3 hP (fun hL h4 eL hv4 => ?_)⟩
      refine ih (i + 1) _ hL h4 K (by omega) eL hv4 hro.2 fun hM h5 eM hv5 => hk hM h5 eM ?_
      rw [List.foldl_append]
      exact hv5
  refine loop m 0 _ hI1 h2' _ (by omega) (Ext.refl _) hinv1 (by simpa using hrows) fun hK h3 eK hv => ?_
  obtain ⟨hl2, fK, rfl⟩ := hv
  exact ⟨(e.trans eK).trans (Ext.upd fK _), bo, hfo', rfl, by simp [numsOf, summedM]⟩

end Go.Proofs.Ytbppeajpjnlobaa

/- Rankings, as both tell them: one insertion sort. -/
set_option linter.unusedVariables false
set_option linter.unusedSimpArgs false
namespace Go.Proofs.Ytbppeajpjnlobaa
open Go.HL

/-- A number is put into a sorted list, given backwards. -/
def insL (lt : Int → Int → Bool) (x : Int) : List Int → List Int
  | [] => [x]
  | y :: ys => if lt x y then y :: insL lt x ys else x :: y :: ys
def revSort (lt : Int → Int → Bool) (xs : List Int) : List Int := xs.foldl (fun rp x => insL lt x rp) []
def sortL (lt : Int → Int → Bool) (xs : List Int) : List Int := (revSort lt xs).reverse
theorem insL_len (lt : Int → Int → Bool) (x : Int) : ∀ ys, (insL lt x ys).length = ys.length + 1
  | [] => rfl
  | y :: ys => by rw [insL]; split <;> simp [insL_len lt x ys]
theorem revSort_snoc (lt : Int → Int → Bool) (xs : List Int) (x : Int) : revSort lt (xs ++ [x]) = insL lt x (revSort lt xs) := by simp [revSort]
theorem revSort_len (lt : Int → Int → Bool) (xs : List Int) : (revSort lt xs).length = xs.length := by
  have : ∀ (xs rp : List Int), (xs.foldl (fun rp x => insL lt x rp) rp).length = rp.length + xs.length := by
    intro xs
    induction xs with
    | nil => intro rp; rfl
    | cons x xs ih => intro rp; rw [List.foldl_cons, ih, insL_len, List.length_cons]; omega
  rw [revSort, this]; simp
theorem sortL_len (lt : Int → Int → Bool) (xs : List Int) : (sortL lt xs).length = xs.length := by rw [sortL, List.length_reverse, revSort_len]
theorem insL_mem (lt : Int → Int → Bool) (x z : Int) : ∀ ys, z ∈ insL lt x ys ↔ z = x ∨ z ∈ ys
  | [] => by simp [insL]
  | y :: ys => by
    rw [insL]; split
    · simp only [List.mem_cons, insL_mem lt x z ys]
      exact ⟨fun h => h.elim (fun h => .inr (.inl h)) (fun h => h.elim .inl fun h => .inr (.inr h)), fun h => h.elim (fun h => .inr (.inl h)) (fun h => h.elim .inl fun h => .inr (.inr h))⟩
    · simp
theorem revSort_mem (lt : Int → Int → Bool) (z : Int) : ∀ xs, z ∈ revSort lt xs ↔ z ∈ xs := by
  have : ∀ (xs rp : List Int), z ∈ xs.foldl (fun rp x => insL lt x rp) rp ↔ z ∈ rp ∨ z ∈ xs := by
    intro xs
    induction xs with
    | nil => intro rp; simp
    | cons x xs ih => intro rp; rw [List.foldl_cons, ih, insL_mem, List.mem_cons]; exact ⟨fun h => h.elim (fun h => h.elim (fun h => .inr (.inl h)) .inl) (fun h => .inr (.inr h)), fun h => h.elim (fun h => .inl (.inr h)) (fun h => h.elim (fun h => .inl (.inl h)) .inr)⟩
  intro xs; rw [revSort, this]; simp
theorem sortL_mem (lt : Int → Int → Bool) (z : Int) (xs : List Int) : z ∈ sortL lt xs ↔ z ∈ xs := by rw [sortL, List.mem_reverse, revSort_mem]

theorem mid_get {p q : List Int} {x d : Int} {j : Nat} (h : j = p.length) : (p ++ x :: q).getD j d = x := by subst h; simp [List.getD_eq_getElem?_getD]
theorem mid_set {p q : List Int} {x y : Int} {j : Nat} (h : j = p.length) : (p ++ x :: q).set j y = p ++ y :: q := by subst h; rw [List.set_append, if_neg (by omega), Nat.sub_self, List.set_cons_zero]

/-- What is asked of a comparison. -/
def Cmps (f : FuncId) (caps : Array Value) (lt : Int → Int → Bool) (hI : Heap) (xs : List Int) : Prop :=
  ∀ hJ, Ext hI hJ → ∀ x ∈ xs, ∀ y ∈ xs, ACalls Try.prog f ([.int .i64 x, .int .i64 y] ++ caps.toList) hJ fun u h2 => Ext hJ h2 ∧ ∃ c : Int, u = .int .i64 c ∧ (c < 0 ↔ lt x y = true)

theorem slices.insertionSortCmpFunc_int64.spec {f : FuncId} {caps : Array Value} {lt : Int → Int → Bool} {hI : Heap} {m : PMap} {b l c : Nat} {xs : List Int} {sp : List Value} (hB : Beside hI m) (hm : m b = some (LM xs ++ sp)) (hl : xs.length = l) (hlb : l ≤ 1000000) (hc : Cmps f caps lt hI xs) :
    ACalls Try.prog slices.insertionSortCmpFunc_int64.id [.slice (some ⟨b, 0, none⟩) l c, .int .i64 0, .int .i64 l, .func (.func f) #[] caps] (over hI m) fun u h2 => u = undef ∧ ∃ hJ m', Ext hI hJ ∧ h2 = over hJ m' ∧ Beside hJ m' ∧ m' b = some (LM (sortL lt xs) ++ sp) ∧ ∀ y, y ≠ b → m' y = m y := by
  refine slices.insertionSortCmpFunc_int64.step _ _ _ _ _ _ _ _ _ ?_
  rw [w64 (by omega) (by omega)]
  have key : ∀ (q i : Nat) (hJ : Heap) (m1 : PMap), i + q = l → Ext hI hJ → Beside hJ m1 → m1 b = some (LM ((revSort lt (xs.take i)).reverse ++ xs.drop i) ++ sp) → (∀ y, y ≠ b → m1 y = m y) →
      slices.insertionSortCmpFunc_int64.L0 (fun u h2 => u = undef ∧ ∃ hJ m', Ext hI hJ ∧ h2 = over hJ m' ∧ Beside hJ m' ∧ m' b = some (LM (sortL lt xs) ++ sp) ∧ ∀ y, y ≠ b → m' y = m y) (.slice (some ⟨b, 0, none⟩) l c) (.int .i64 0) (.int .i64 l) (.func (.func f) #[] caps) (.int .i64 i) (over hJ m1) := by
    intro q
    induction q with
    | zero =>
      intro i hJ m1 hi eJ hB1 hm1 ho
      refine slices.insertionSortCmpFunc_int64.L0_step _ _ _ _ _ _ _ _ _ _ (dec_split (fun hc => by omega) (fun _ => ⟨rfl, hJ, m1, eJ, rfl, hB1, ?_, ho⟩))
      rw [hm1, List.drop_eq_nil_of_le (by omega), List.append_nil, List.take_of_length_le (by omega)]; rfl
    | succ q ih =>
      intro i hJ m1 hi eJ hB1 hm1 ho
      have hi' : i < xs.length := by omega
      refine slices.insertionSortCmpFunc_int64.L0_step _ _ _ _ _ _ _ _ _ _ (dec_split (fun _ => ?_) (fun hc => by omega))
      -- one number goes to its place
      have inner : ∀ (rp moved : List Int) (hK : Heap) (m2 : PMap), rp.length + moved.length = i → insL lt xs[i] (revSort lt (xs.take i)) = moved.reverse ++ insL lt xs[i] rp → (∀ y ∈ rp, y ∈ xs) → Ext hI hK → Beside hK m2 → m2 b = some (LM (rp.reverse ++ xs[i] :: (moved ++ xs.drop (i + 1))) ++ sp) → (∀ y, y ≠ b → m2 y = m y) →
          slices.insertionSortCmpFunc_int64.L1 (fun u h2 => u = undef ∧ ∃ hJ m', Ext hI hJ ∧ h2 = over hJ m' ∧ Beside hJ m' ∧ m' b = some (LM (sortL lt xs) ++ sp) ∧ ∀ y, y ≠ b → m' y = m y) (.slice (some ⟨b, 0, none⟩) l c) (.int .i64 0) (.int .i64 l) (.func (.func f) #[] caps) (.int .i64 i) (.int .i64 (rp.length : Int)) (over hK m2) := by
        intro rp
        have hlenT : ∀ (rp moved : List Int), rp.length + moved.length = i → (rp.reverse ++ xs[i] :: (moved ++ xs.drop (i + 1))).length = l := fun rp moved h => by simp; omega
        have done : ∀ (rp moved : List Int) (hK : Heap) (m2 : PMap), rp.length + moved.length = i → insL lt xs[i] (revSort lt (xs.take i)) = moved.reverse ++ xs[i] :: rp → Ext hI hK → Beside hK m2 → m2 b = some (LM (rp.reverse ++ xs[i] :: (moved ++ xs.drop (i + 1))) ++ sp) → (∀ y, y ≠ b → m2 y = m y) →
            slices.insertionSortCmpFunc_int64.L0 (fun u h2 => u = undef ∧ ∃ hJ m', Ext hI hJ ∧ h2 = over hJ m' ∧ Beside hJ m' ∧ m' b = some (LM (sortL lt xs) ++ sp) ∧ ∀ y, y ≠ b → m' y = m y) (.slice (some ⟨b, 0, none⟩) l c) (.int .i64 0) (.int .i64 l) (.func (.func f) #[] caps) (.int .i64 (IntKind.wrap .i64 ((i : Int) + 1))) (over hK m2) := by
          intro rp moved hK m2 hlen hins eK hB2 hm2 ho2
          rw [wsucc (by omega)]
          refine ih (i + 1) hK m2 (by omega) eK hB2 ?_ ho2
          rw [hm2, List.take_succ_eq_append_getElem hi', revSort_snoc, hins]
          simp
        induction rp with
        | nil =>
          intro moved hK m2 hlen hins hmem eK hB2 hm2 ho2
          refine slices.insertionSortCmpFunc_int64.L1_step _ _ _ _ _ _ _ _ _ _ _ fun k18 hk18 => dec_split (fun hc => by simp at hc) (fun _ => hk18 _ _ (bool_split (fun h => by cases h) (fun _ => ?_)))
          exact done [] moved hK m2 hlen hins eK hB2 hm2 ho2
        | cons y rp ihr =>
          intro moved hK m2 hlen hins hmem eK hB2 hm2 ho2
          have hlt := hlenT (y :: rp) moved hlen
          simp only [List.length_cons] at hlen
          have hw : IntKind.wrap .i64 (((y :: rp).length : Int) - 1) = (rp.length : Int) := by rw [List.length_cons, w64 (by omega) (by omega)]; omega
          have er : (y :: rp).reverse ++ xs[i] :: (moved ++ xs.drop (i + 1)) = rp.reverse ++ y :: (xs[i] :: (moved ++ xs.drop (i + 1))) := by simp
          have g1 : ((y :: rp).reverse ++ xs[i] :: (moved ++ xs.drop (i + 1))).getD ((y :: rp).length : Int).toNat 0 = xs[i] := mid_get (by simp)
          have g2 : ((y :: rp).reverse ++ xs[i] :: (moved ++ xs.drop (i + 1))).getD (rp.length : Int).toNat 0 = y := by rw [er]; exact mid_get (by simp)
          have b1 : (0 : Int) ≤ ((y :: rp).length : Int) := by omega
          have b2 : ((y :: rp).length : Int) < (l : Int) := by rw [List.length_cons]; omega
          have b3 : (rp.length : Int) < (l : Int) := by omega
          refine slices.insertionSortCmpFunc_int64.L1_step _ _ _ _ _ _ _ _ _ _ _ fun k18 hk18 => dec_split (fun _ => ?_) (fun hc => by simp at hc)
          rw [hw] at hk18 ⊢
          refine over_rd hm2 hlt b1 b2 (over_rd hm2 hlt (by omega) b3 ?_)
          rw [g1, g2]
          refine (over_frame hB2 (hc hK eK xs[i] (List.getElem_mem hi') y (hmem y (by simp)))).mono ?_
          rintro u h5 ⟨hL, hBL, rfl, eL, cv, rfl, hcv⟩
          refine ⟨cv, rfl, hk18 _ _ (dec_split (fun hneg => ?_) (fun hpos => ?_))⟩
          · have hlt' := hcv.1 hneg
            rw [insL, if_pos hlt'] at hins
            refine over_rd hm2 hlt (by omega) b3 (over_rd hm2 hlt b1 b2 (over_wr hm2 (by simpa using hlt) b1 b2 rfl ?_))
            rw [g1, g2]
            have es1 : (LM ((y :: rp).reverse ++ xs[i] :: (moved ++ xs.drop (i + 1)))).set ((y :: rp).length : Int).toNat (.int .i64 y) = LM (rp.reverse ++ y :: (y :: (moved ++ xs.drop (i + 1)))) := by
              rw [LM, LM, ← List.map_set, mid_set (by simp)]; simp
            rw [es1]
            refine over_wr (put_self _ _ _) (by simp; omega) (by omega) b3 rfl ?_
            have es2 : (LM (rp.reverse ++ y :: (y :: (moved ++ xs.drop (i + 1))))).set (rp.length : Int).toNat (.int .i64 xs[i]) = LM (rp.reverse ++ xs[i] :: ((y :: moved) ++ xs.drop (i + 1))) := by
              rw [LM, LM, ← List.map_set, mid_set (by simp)]; simp
            rw [es2]
            refine ihr (y :: moved) hL _ (by simp only [List.length_cons]; omega) ?_ (fun z hz => hmem z (by simp [hz])) (eK.trans eL) ((hBL.put (by rw [hm2]; simp) _).put (by rw [put_self]; simp) _) (put_self _ _ _) (fun z hz => by rw [put_ne _ _ hz, put_ne _ _ hz]; exact ho2 z hz)
            rw [hins]; simp
          · have hno : ¬ lt xs[i] y = true := fun h => hpos (hcv.2 h)
            rw [insL, if_neg hno] at hins
            exact done (y :: rp) moved hL m2 (by simp only [List.length_cons]; omega) hins (eK.trans eL) hBL hm2 ho2
      have hrl : (revSort lt (xs.take i)).length = i := by rw [revSort_len, List.length_take]; omega
      have := inner (revSort lt (xs.take i)) [] hJ m1 (by simp [hrl]) (by simp) (fun y hy => List.mem_of_mem_take ((revSort_mem lt y _).1 hy)) eJ hB1 (by rw [hm1, List.drop_eq_getElem_cons hi']; simp) ho
      rw [hrl] at this
      exact this
  rcases Nat.eq_zero_or_pos l with h0 | hpos
  · -- nothing to sort
    have e0 : xs = [] := List.eq_nil_of_length_eq_zero (by omega)
    subst e0
    refine slices.insertionSortCmpFunc_int64.L0_step _ _ _ _ _ _ _ _ _ _ (dec_split (fun hc => by omega) (fun _ => ⟨rfl, hI, m, Ext.refl _, rfl, hB, hm, fun _ _ => rfl⟩))
  · have := key (l - 1) 1 hI m (by omega) (Ext.refl _) hB ?_ (fun _ _ => rfl)
    · exact this
    · rw [hm]
      obtain ⟨x, xs', rfl⟩ := List.exists_cons_of_length_pos (l := xs) (by omega)
      simp [revSort, insL]

theorem slices.SortStableFunc_Sint64_int64.spec {f : FuncId} {caps : Array Value} {lt : Int → Int → Bool} {hI : Heap} {m : PMap} {b l c : Nat} {xs : List Int} {sp : List Value} (hB : Beside hI m) (hm : m b = some (LM xs ++ sp)) (hl : xs.length = l) (hlb : l ≤ 19) (hc : Cmps f caps lt hI xs) :
    ACalls Try.prog slices.SortStableFunc_Sint64_int64.id [.slice (some ⟨b, 0, none⟩) l c, .func (.func f) #[] caps] (over hI m) fun u h2 => u = undef ∧ ∃ hJ m', Ext hI hJ ∧ h2 = over hJ m' ∧ Beside hJ m' ∧ m' b = some (LM (sortL lt xs) ++ sp) ∧ ∀ y, y ≠ b → m' y = m y := by
  refine slices.SortStableFunc_Sint64_int64.step _ _ _ _ _ _ _ ?_
  refine slices.stableCmpFunc_int64.step _ _ _ _ _ _ _ _ (slices.stableCmpFunc_int64.L0_step _ _ _ _ _ _ _ _ _ _ _ (dec_split (fun hc => by omega) (fun _ => ?_)))
  refine (slices.insertionSortCmpFunc_int64.spec hB hm hl (by omega) hc).mono ?_
  rintro u h2 ⟨rfl, hJ, m', eJ, rfl, hBJ, hmJ, ho⟩
  refine ⟨rfl, slices.stableCmpFunc_int64.L1_step _ _ _ _ _ _ _ _ _ (dec_split (fun hc => by omega) (fun _ => ⟨rfl, rfl, hJ, m', eJ, rfl, hBJ, hmJ, ho⟩))⟩

def cmp3 (x y : Int) : Int := if x < y then -1 else if y < x then 1 else 0
theorem cmp.Compare_int64.spec {x y : Int} {h : Heap} : ACalls Try.prog cmp.Compare_int64.id [.int .i64 x, .int .i64 y] h fun u h2 => h2 = h ∧ u = .int .i64 (cmp3 x y) := by
  refine cmp.Compare_int64.step _ _ _ _ (cmp.isNaN_int64.step _ _ _ ⟨_, rfl, cmp.isNaN_int64.step _ _ _ ⟨_, rfl, ndec_split (fun h => absurd rfl h) (fun _ => ndec_split (fun h => absurd rfl h) (fun _ => ?_))⟩⟩)
  refine dec_split (fun h1 => ⟨rfl, by rw [cmp3, if_pos h1]⟩) (fun h1 => dec_split (fun h2 => ⟨rfl, by rw [cmp3, if_neg h1, if_pos h2]⟩) (fun h2 => ⟨rfl, by rw [cmp3, if_neg h1, if_neg h2]⟩))
def orL : List Int → Int
  | [] => 0
  | x :: xs => if x = 0 then orL xs else x
theorem cmp.Or_int.spec {A : Option Addr} {xs : List Int} {l c : Nat} {h : Heap} (s : Ints h A xs) (hl : xs.length = l) (hb : l ≤ 1048576) : ACalls Try.prog cmp.Or_int.id [.slice A l c] h fun u h2 => h2 = h ∧ u = .int .i64 (orL xs) := by
  refine cmp.Or_int.step _ _ _ _ _ ?_
  have loop : ∀ (k i : Nat), i + k = l → orL (xs.drop i) = orL xs → cmp.Or_int.L0 (fun u h2 => h2 = h ∧ u = .int .i64 (orL xs)) (.int .i64 0) (.slice A l c) (.int .i64 l) (.int .i64 i) h := by
    intro k
    induction k with
    | zero =>
      intro i hi he
      refine cmp.Or_int.L0_step _ _ _ _ _ _ _ _ (dec_split (fun hc => by omega) (fun _ => ⟨rfl, ?_⟩))
      rw [List.drop_eq_nil_of_le (by omega)] at he
      rw [← he]; rfl
    | succ k ih =>
      intro i hi he
      have hi' : i < xs.length := by omega
      have e1 : xs.getD (Int.toNat i) 0 = xs[i] := by simp [List.getD_eq_getElem?_getD, hi']
      rw [List.drop_eq_getElem_cons hi', orL] at he
      refine cmp.Or_int.L0_step _ _ _ _ _ _ _ _ (dec_split (fun hc => s.rd (Ext.refl _) hl (by omega) (by omega) ?_) (fun hc => by omega))
      rw [e1]
      refine ndec_split (fun hne => ⟨rfl, ?_⟩) (fun h0 => ?_)
      · rw [if_neg hne] at he; rw [he]
      · rw [if_pos h0] at he
        rw [wsucc (by omega)]
        exact ih (i + 1) (by omega) he
  exact loop l 0 (by omega) rfl

/-- Is a team ahead of another one? -/
def ahead (pts sec thr : List Int) (a b : Int) : Bool :=
  decide (pts.getD b.toNat 0 < pts.getD a.toNat 0) || (decide (pts.getD a.toNat 0 = pts.getD b.toNat 0) && (decide (sec.getD b.toNat 0 < sec.getD a.toNat 0) || (decide (sec.getD a.toNat 0 = sec.getD b.toNat 0) && decide (thr.getD b.toNat 0 < thr.getD a.toNat 0))))
theorem cmp_ahead (p q r p' q' r' : Int) : orL [cmp3 p' p, cmp3 q' q, cmp3 r' r] < 0 ↔ (decide (p' < p) || (decide (p = p') && (decide (q' < q) || (decide (q = q') && decide (r' < r))))) = true := by
  simp only [orL, cmp3, Bool.or_eq_true, Bool.and_eq_true, decide_eq_true_eq]
  repeat' split
  all_goals (constructor <;> intro h <;> omega)

theorem I.Schedule.ranking.c1.spec {n : Nat} {pts sec thr : List Int} {P S T : Option Addr} {bp bs bt cp cs ct : Nat} {hI : Heap} (hp : Ints hI P pts) (hs : Ints hI S sec) (ht : Ints hI T thr) (lp : pts.length = n) (ls : sec.length = n) (lt : thr.length = n)
    (gp : hI.get bp 0 = some (.slice P n cp)) (gs : hI.get bs 0 = some (.slice S n cs)) (gt : hI.get bt 0 = some (.slice T n ct)) {xs : List Int} (hx : ∀ x ∈ xs, 0 ≤ x ∧ x < n) :
    Cmps I.Schedule.ranking.c1.id #[.pointer (some ⟨bp, 0, none⟩), .pointer (some ⟨bs, 0, none⟩), .pointer (some ⟨bt, 0, none⟩)] (ahead pts sec thr) hI xs := by
  intro hJ eJ a ha b hb
  obtain ⟨a0, a1⟩ := hx a ha
  obtain ⟨b0, b1⟩ := hx b hb
  have Gp := eJ.get gp
  have Gs := eJ.get gs
  have Gt := eJ.get gt
  refine I.Schedule.ranking.c1.step _ _ _ _ _ _ _ _ _ _ ⟨_, _, _, Gp, hp.rd eJ lp b0 b1 ⟨_, _, _, Gp, hp.rd eJ lp a0 a1 ⟨_, _, _, Gs, ?_⟩⟩⟩
  -- the reads that are told again behind the calls
  have rdx : ∀ {X : Option Addr} {ys : List Int}, Ints hI X ys → ys.length = n → ∀ {z : Int}, 0 ≤ z → z < (n : Int) → ∃ w o : Nat, X = some ⟨w, o, none⟩ ∧ (0 ≤ z ∧ z < (n : Int)) ∧ hJ.get w (o + Int.toNat z * 1) = some (.int .i64 (ys.getD z.toNat 0)) := by
    intro X ys hX hl z z0 z1
    obtain ⟨w, o, e1, e2, v, e3, e4⟩ := hX.rd eJ hl z0 z1 (K := fun v => v = ys.getD z.toNat 0) rfl
    exact ⟨w, o, e1, e2, by rw [e3, e4]⟩
  obtain ⟨w1, o1, q1, q2, q3⟩ := rdx hs ls b0 b1
  obtain ⟨w2, o2, r1, r2, r3⟩ := rdx hs ls a0 a1
  obtain ⟨w3, o3, s1, s2, s3⟩ := rdx ht lt b0 b1
  obtain ⟨w4, o4, t1, t2, t3⟩ := rdx ht lt a0 a1
  refine ⟨w1, o1, q1, q2, _, q3, _, _, _, Gs, w2, o2, r1, r2, _, r3, _, _, _, Gt, w3, o3, s1, s2, _, s3, _, _, _, Gt, w4, o4, t1, t2, _, t3, cmp.Compare_int64.spec.mono ?_⟩
  rintro u h2 ⟨rfl, rfl⟩
  refine ⟨_, rfl, Gs, q3, Gs, r3, Gt, s3, Gt, t3, cmp.Compare_int64.spec.mono ?_⟩
  rintro u h2 ⟨rfl, rfl⟩
  refine ⟨_, rfl, Gt, s3, Gt, t3, cmp.Compare_int64.spec.mono ?_⟩
  rintro u h2 ⟨rfl, rfl⟩
  refine ⟨_, rfl, fun b39 hf39 => ?_⟩
  have hor : Ints (h2.upd b39 (.cells [.int .i64 (cmp3 (pts.getD b.toNat 0) (pts.getD a.toNat 0)), .int .i64 (cmp3 (sec.getD b.toNat 0) (sec.getD a.toNat 0)), .int .i64 (cmp3 (thr.getD b.toNat 0) (thr.getD a.toNat 0))])) (some ⟨b39, 0, none⟩) [cmp3 (pts.getD b.toNat 0) (pts.getD a.toNat 0), cmp3 (sec.getD b.toNat 0) (sec.getD a.toNat 0), cmp3 (thr.getD b.toNat 0) (thr.getD a.toNat 0)] := Seg.new' _ _ _
  refine (cmp.Or_int.spec hor rfl (by simp)).mono ?_
  rintro u h3 ⟨rfl, rfl⟩
  exact ⟨_, rfl, Ext.upd hf39 _, _, rfl, cmp_ahead _ _ _ _ _ _⟩

end Go.Proofs.Ytbppeajpjnlobaa

/- Rankings, as both tell them, whole. -/
set_option linter.unusedVariables false
set_option linter.unusedSimpArgs false
namespace Go.Proofs.Ytbppeajpjnlobaa
open Go.HL

def seqI (n : Nat) : List Int := (List.range n).map fun (j : Nat) => (j : Int)
theorem seqI_len (n : Nat) : (seqI n).length = n := by simp [seqI]
theorem seqI_succ (n : Nat) : seqI (n + 1) = seqI n ++ [(n : Int)] := by simp [seqI, List.range_succ]
theorem seqI_mem {n : Nat} {x : Int} (h : x ∈ seqI n) : 0 ≤ x ∧ x < n := by
  simp only [seqI, List.mem_map, List.mem_range] at h
  obtain ⟨j, hj, rfl⟩ := h; omega

theorem I.numbersFrom.spec {high : Int} {k : Nat} {h : Heap} (hk : (k : Int) = high + 1) (hb : k ≤ 1048576) :
    ACalls Try.prog I.numbersFrom.id [.int .i64 0, .int .i64 high] h fun u h2 => Ext h h2 ∧ ∃ A c, u = .slice A k c ∧ ResO h h2 A (seqI k) := by
  refine I.numbersFrom.step _ _ _ _ fun b3 hf3 => ?_
  have loop : ∀ (q i : Nat) (A : Option Addr) (l c : Nat) (hI h' : Heap), i + q = k → Ext h hI → Vec hI h' A l c 1 (LM (seqI i)) →
      I.numbersFrom.L0 (fun u h2 => Ext h h2 ∧ ∃ A c, u = .slice A k c ∧ ResO h h2 A (seqI k)) (.int .i64 high) (.slice A l c) (.int .i64 i) h' := by
    intro q
    induction q with
    | zero =>
      intro i A l c hI h' hi he v
      have ei : i = k := by omega
      subst ei
      have hl := v.len
      rw [LM, List.length_map, seqI_len, Nat.mul_one] at hl
      refine I.numbersFrom.L0_step _ _ _ _ _ _ _ (dec_split (fun hc => by omega) (fun _ => ⟨he.trans v.ext, A, c, by rw [hl], Vec.reso v he⟩))
    | succ q ih =>
      intro i A l c hI h' hi he v
      have hl := v.len
      rw [LM, List.length_map, seqI_len, Nat.mul_one] at hl
      refine I.numbersFrom.L0_step _ _ _ _ _ _ _ (dec_split (fun hc => ?_) (fun hc => by omega))
      intro b9 hf9
      obtain ⟨v4, f4⟩ := v.beside hf9 (.cells [.int .i64 (i : Int)])
      have e4 := Ext.upd f4 (.cells [.int .i64 (i : Int)])
      refine v4.append (m := 1) (news := [.int .i64 (i : Int)]) (Seg.row (Seg.new' _ _ _) rfl) rfl (by simp [Value.oneCell']) (by omega) (by omega) rfl fun hK h5 A' c' eK v5 => ⟨_, _, _, rfl, ?_⟩
      rw [wsucc (by omega)]
      refine ih (i + 1) A' (l + 1) c' hK h5 (by omega) (he.trans (e4.trans eK)) ?_
      have : LM (seqI (i + 1)) = LM (seqI i) ++ [.int .i64 (i : Int)] := by rw [seqI_succ]; simp [LM]
      rw [this]; exact v5
  exact loop k 0 _ 0 0 h _ (by omega) (Ext.refl _) (by simpa [seqI] using Vec.made (l := 0) (sz := 1) (cs := []) hf3 rfl)

def rankOf (n : Int) (rs xss : List (List Int)) : List Int := sortL (ahead (ptsOf n rs xss) (numsOf false n rs xss) (numsOf true n rs xss)) (seqI n.toNat)
theorem rankOf_len (n : Int) (rs xss : List (List Int)) : (rankOf n rs xss).length = n.toNat := by rw [rankOf, sortL_len, seqI_len]

theorem I.Schedule.ranking.spec {n : Int} {A B : Option Addr} {rs xss : List (List Int)} {l c m d : Nat} {h : Heap} (s : Rds h A rs) (hl : rs.length = l) (x : Tab h B xss) (hm : xss.length = m)
    (hsok : scheduleOk n rs = true) (hok : resultsOk n rs xss = true) :
    ACalls Try.prog I.Schedule.ranking.id [.agg #[.int .i64 n, .slice A l c], .slice B m d] h fun u h2 => Ext h h2 ∧ ∃ R cR, u = .slice R n.toNat cR ∧ Ints h2 R (rankOf n rs xss) := by
  obtain ⟨k1, k2, k3, k4⟩ := scheduleOk_facts hsok
  have h0 : 0 ≤ n := by omega
  refine I.Schedule.ranking.step _ _ _ _ _ _ _ _ h fun b4 hf4 => ?_
  have e4 := Ext.upd hf4 (.cells [.int .i64 n, .slice A l c])
  have hg4 : (h.upd b4 (.cells [.int .i64 n, .slice A l c])).getN b4 0 2 = some [.int .i64 n, .slice A l c] := by simp [Heap.getN]
  have hn4 : (h.upd b4 (.cells [.int .i64 n, .slice A l c])).get b4 0 = some (.int .i64 n) := by simp
  generalize h.upd b4 (.cells [.int .i64 n, .slice A l c]) = h1 at *
  refine ⟨n, A, l, c, hg4, n, A, l, c, hg4, n, A, l, c, hg4, (I.Schedule.points.spec (s.mono e4) hl (x.mono e4) hm hsok hok).mono ?_⟩
  rintro u h2 ⟨e2, bp, _, rfl, hp⟩
  refine ⟨_, _, _, rfl, e2.getN hg4, e2.getN hg4, (I.Schedule.second.spec (s.mono (e4.trans e2)) hl (x.mono (e4.trans e2)) hm hsok hok).mono ?_⟩
  rintro u h3 ⟨e3, bs, _, rfl, hs⟩
  have e13 := e2.trans e3
  refine ⟨_, _, _, rfl, e13.getN hg4, (I.Schedule.third.spec (s.mono (e4.trans e13)) hl (x.mono (e4.trans e13)) hm hsok hok).mono ?_⟩
  rintro u h5 ⟨e5, bt, _, rfl, ht⟩
  have e15 := e13.trans e5
  refine ⟨_, _, _, rfl, ?_⟩
  have ip := (own_ints hp).mono (e3.trans e5)
  have is := (own_ints hs).mono e5
  have it := own_ints ht
  have eall := e4.trans e15
  have gn := e15.get hn4
  -- the three variables
  intro v1 hv1 v2 hv2 v3 hv3
  have n21 := fresh_ne hv2
  have n32 := fresh_ne hv3
  have n31 := fresh_ne (fresh_of_upd hv3)
  refine ⟨[.slice none 0 0], by simp [n21.symm, n31.symm], by simp, by simp [Value.oneCell'], [.slice none 0 0], by simp [n32.symm, n21, n32], by simp, by simp [Value.oneCell'], [.slice none 0 0], by simp [n31, n32], by simp, by simp [Value.oneCell'], ?_⟩
  have es : ∀ y : Value, splice [Value.slice none 0 0] 0 [y] = [y] := fun y => by simp [splice]
  rw [es, es, es]
  have f1 := hv1
  have f2 : (h5.upd v1 (.cells [.slice (some ⟨bp, 0, none⟩) n.toNat n.toNat])).fresh v2 := fresh_upd (fresh_of_upd hv2) n21.symm _
  have f3 : ((h5.upd v1 (.cells [.slice (some ⟨bp, 0, none⟩) n.toNat n.toNat])).upd v2 (.cells [.slice (some ⟨bs, 0, none⟩) n.toNat n.toNat])).fresh v3 := fresh_upd (fresh_upd (fresh_of_upd (fresh_of_upd hv3)) n31.symm _) n32.symm _
  have eh : ((((((h5.upd v1 (.cells [.slice none 0 0])).upd v2 (.cells [.slice none 0 0])).upd v3 (.cells [.slice none 0 0])).upd v1 (.cells [.slice (some ⟨bp, 0, none⟩) n.toNat n.toNat])).upd v2 (.cells [.slice (some ⟨bs, 0, none⟩) n.toNat n.toNat])).upd v3 (.cells [.slice (some ⟨bt, 0, none⟩) n.toNat n.toNat])) =
      ((h5.upd v1 (.cells [.slice (some ⟨bp, 0, none⟩) n.toNat n.toNat])).upd v2 (.cells [.slice (some ⟨bs, 0, none⟩) n.toNat n.toNat])).upd v3 (.cells [.slice (some ⟨bt, 0, none⟩) n.toNat n.toNat]) := by
    unfold Heap.upd
    congr 1; funext y
    by_cases y3 : y = v3
    · simp [y3]
    · by_cases y2 : y = v2
      · subst y2; simp [y3]
      · by_cases y1 : y = v1
        · subst y1; simp [y3, y2]
        · simp [y1, y2, y3]
  rw [eh]
  have ev := ((Ext.upd f1 (.cells [.slice (some ⟨bp, 0, none⟩) n.toNat n.toNat])).trans (Ext.upd f2 (.cells [.slice (some ⟨bs, 0, none⟩) n.toNat n.toNat]))).trans (Ext.upd f3 (.cells [.slice (some ⟨bt, 0, none⟩) n.toNat n.toNat]))
  have G1 : (((h5.upd v1 (.cells [.slice (some ⟨bp, 0, none⟩) n.toNat n.toNat])).upd v2 (.cells [.slice (some ⟨bs, 0, none⟩) n.toNat n.toNat])).upd v3 (.cells [.slice (some ⟨bt, 0, none⟩) n.toNat n.toNat])).get v1 0 = some (.slice (some ⟨bp, 0, none⟩) n.toNat n.toNat) := by simp [n21.symm, n31.symm]
  have G2 : (((h5.upd v1 (.cells [.slice (some ⟨bp, 0, none⟩) n.toNat n.toNat])).upd v2 (.cells [.slice (some ⟨bs, 0, none⟩) n.toNat n.toNat])).upd v3 (.cells [.slice (some ⟨bt, 0, none⟩) n.toNat n.toNat])).get v2 0 = some (.slice (some ⟨bs, 0, none⟩) n.toNat n.toNat) := by simp [n32.symm]
  have G3 : (((h5.upd v1 (.cells [.slice (some ⟨bp, 0, none⟩) n.toNat n.toNat])).upd v2 (.cells [.slice (some ⟨bs, 0, none⟩) n.toNat n.toNat])).upd v3 (.cells [.slice (some ⟨bt, 0, none⟩) n.toNat n.toNat])).get v3 0 = some (.slice (some ⟨bt, 0, none⟩) n.toNat n.toNat) := by simp
  generalize ((h5.upd v1 (.cells [.slice (some ⟨bp, 0, none⟩) n.toNat n.toNat])).upd v2 (.cells [.slice (some ⟨bs, 0, none⟩) n.toNat n.toNat])).upd v3 (.cells [.slice (some ⟨bt, 0, none⟩) n.toNat n.toNat]) = h6 at *
  refine ⟨n, ev.get gn, ?_⟩
  rw [w64 (by omega) (by omega)]
  refine (I.numbersFrom.spec (k := n.toNat) (by omega) (by omega)).mono ?_
  rintro u h7 ⟨e7, R, cR, rfl, hR⟩
  have hlen : 0 < (seqI n.toNat).length := by rw [seqI_len]; omega
  rcases hR with ⟨_, hnil⟩ | ⟨br, sp, rfl, hfr, hor⟩
  · rw [hnil] at hlen; simp at hlen
  obtain ⟨hI, eI, hB, rfl⟩ := carve e7 hfr hor
  refine ⟨_, _, _, rfl, ?_⟩
  have pl : (ptsOf n rs xss).length = n.toNat := by have := summed_len (fun _ own => own) n rs xss h0; unfold ptsOf; omega
  have sl : ∀ t, (numsOf t n rs xss).length = n.toNat := fun t => by have := summed_len (gOf t (ptsOf n rs xss)) n rs xss h0; unfold numsOf; omega
  have eIv := ev.trans eI
  have hcmp := I.Schedule.ranking.c1.spec (n := n.toNat) (pts := ptsOf n rs xss) (sec := numsOf false n rs xss) (thr := numsOf true n rs xss) (ip.mono eIv) (is.mono eIv) (it.mono eIv) pl (sl _) (sl _) (eI.get G1) (eI.get G2) (eI.get G3) (xs := seqI n.toNat) (fun z hz => seqI_mem hz)
  refine (slices.SortStableFunc_Sint64_int64.spec (sp := sp) hB (only_self _ _) (seqI_len _) (by omega) hcmp).mono ?_
  rintro u h8 ⟨rfl, hJ, m', eJ, rfl, hBJ, hmJ, _⟩
  exact ⟨rfl, (eall.trans eIv).trans (eJ.trans (over_ext hBJ)), _, cR, rfl, seg_own (over_own hmJ)⟩

theorem S.l10Ranking.spec {n : Int} {A B : Option Addr} {rs xss : List (List Int)} {l c m d : Nat} {h : Heap} (s : Rds h A rs) (hl : rs.length = l) (x : Tab h B xss) (hm : xss.length = m)
    (hsok : scheduleOk n rs = true) (hok : resultsOk n rs xss = true) :
    ACalls Try.prog S.l10Ranking.id [.agg #[.int .i64 n, .slice A l c], .slice B m d] h fun u h2 => Ext h h2 ∧ ∃ R cR, u = .slice R n.toNat cR ∧ Ints h2 R (rankOf n rs xss) := by
  obtain ⟨k1, k2, k3, k4⟩ := scheduleOk_facts hsok
  have h0 : 0 ≤ n := by omega
  have hq : xss.take m = xss := by rw [List.take_of_length_le (by omega)]
  refine S.l10Ranking.step _ _ _ _ _ _ _ _ h fun b4 hf4 => ?_
  have e4 := Ext.upd hf4 (.cells [.int .i64 n, .slice A l c])
  have hg4 : (h.upd b4 (.cells [.int .i64 n, .slice A l c])).getN b4 0 2 = some [.int .i64 n, .slice A l c] := by simp [Heap.getN]
  have hn4 : (h.upd b4 (.cells [.int .i64 n, .slice A l c])).get b4 (0 + 0) = some (.int .i64 n) := by simp
  generalize h.upd b4 (.cells [.int .i64 n, .slice A l c]) = h1 at *
  refine ⟨n, A, l, c, hg4, n, A, l, c, hg4, n, A, l, c, hg4, (S.l10Points.spec (q := m) (s.mono e4) hl (x.mono e4) hm (Nat.le_refl _) hsok (by rw [hq]; exact hok)).mono ?_⟩
  rintro u h2 ⟨e2, bp, _, rfl, hp⟩
  rw [hq] at hp
  refine ⟨_, _, _, rfl, e2.getN hg4, e2.getN hg4, (S.l10Sums.spec (third := false) (s.mono (e4.trans e2)) hl (x.mono (e4.trans e2)) hm hsok hok).mono ?_⟩
  rintro u h3 ⟨e3, bs, _, rfl, hs⟩
  have e13 := e2.trans e3
  refine ⟨_, _, _, rfl, e13.getN hg4, (S.l10Sums.spec (third := true) (s.mono (e4.trans e13)) hl (x.mono (e4.trans e13)) hm hsok hok).mono ?_⟩
  rintro u h5 ⟨e5, bt, _, rfl, ht⟩
  have e15 := e13.trans e5
  refine ⟨_, _, _, rfl, fun b21 hf21 => ?_⟩
  have ip : Ints h5 (some ⟨bp, 0, none⟩) (ptsOf n rs xss) := (own_ints hp).mono (e3.trans e5)
  have is := (own_ints hs).mono e5
  have it := own_ints ht
  have eall := e4.trans e15
  have gn := e15.get hn4
  have pl : (ptsOf n rs xss).length = n.toNat := by have := summed_len (fun _ own => own) n rs xss h0; unfold ptsOf; omega
  have sl : ∀ t, (numsOf t n rs xss).length = n.toNat := fun t => by have := summed_len (gOf t (ptsOf n rs xss)) n rs xss h0; unfold numsOf; omega
  generalize hP : ptsOf n rs xss = pts at *
  generalize hS : numsOf false n rs xss = sec at *
  generalize hT : numsOf true n rs xss = thr at *
  have pl' : sec.length = n.toNat := by rw [← hS]; exact sl _
  have tl' : thr.length = n.toNat := by rw [← hT]; exact sl _
  have hrank : rankOf n rs xss = sortL (ahead pts sec thr) (seqI n.toNat) := by rw [rankOf, hP, hS, hT]
  rw [hrank]
  have loop : ∀ (q a : Nat) (C : Option Addr) (lc cc : Nat) (hI h' : Heap), (a : Int) + q = n → Ext h5 hI → Vec hI h' C lc cc 1 (LM (sortL (ahead pts sec thr) (seqI a))) →
      S.l10Ranking.L0 (fun u h2 => Ext h h2 ∧ ∃ R cR, u = .slice R n.toNat cR ∧ Ints h2 R (sortL (ahead pts sec thr) (seqI n.toNat))) (.pointer (some ⟨b4, 0, none⟩)) (.slice (some ⟨bp, 0, none⟩) n.toNat n.toNat) (.slice (some ⟨bs, 0, none⟩) n.toNat n.toNat) (.slice (some ⟨bt, 0, none⟩) n.toNat n.toNat) (.slice C lc cc) (.int .i64 a) h' := by
    intro q
    induction q with
    | zero =>
      intro a C lc cc hI h' ha he v
      have ea : a = n.toNat := by omega
      have hl := v.len
      rw [LM, List.length_map, sortL_len, seqI_len, Nat.mul_one] at hl
      refine S.l10Ranking.L0_step _ _ _ _ _ _ _ _ _ _ _ _ _ _ _ _ _ ⟨n, (he.trans v.ext).get gn, dec_split (fun hc => by omega) (fun _ => ⟨(eall.trans he).trans v.ext, C, cc, by rw [← ea, hl], ?_⟩)⟩
      rw [← ea]; exact v.seg
    | succ q ih =>
      intro a C lc cc hI h' ha he v
      have hl := v.len
      rw [LM, List.length_map, sortL_len, seqI_len, Nat.mul_one] at hl
      subst hl
      refine S.l10Ranking.L0_step _ _ _ _ _ _ _ _ _ _ _ _ _ _ _ _ _ ⟨n, (he.trans v.ext).get gn, dec_split (fun hc => ?_) (fun hc => by omega)⟩
      intro b31 hf31
      obtain ⟨v4, f4⟩ := v.beside hf31 (.cells [.int .i64 (a : Int)])
      have e6 := Ext.upd f4 (.cells [.int .i64 (a : Int)])
      refine v4.append (m := 1) (news := [.int .i64 (a : Int)]) (Seg.row (Seg.new' _ _ _) rfl) rfl (by simp [Value.oneCell']) (by omega) (by omega) rfl fun hK h6 A' c' eK v5 => ⟨_, _, _, rfl, ?_⟩
      have eIK := he.trans (e6.trans eK)
      -- from place to place
      have inner : ∀ (rp moved : List Int) (g : Int) (h7 : Heap), rp.length + moved.length = a → insL (ahead pts sec thr) (a : Int) (revSort (ahead pts sec thr) (seqI a)) = moved.reverse ++ insL (ahead pts sec thr) (a : Int) rp → (∀ y ∈ rp, 0 ≤ y ∧ y < a) → Vec hK h7 A' (a + 1) c' 1 (LM (rp.reverse ++ g :: moved)) →
          S.l10Ranking.L1 (fun u h2 => Ext h h2 ∧ ∃ R cR, u = .slice R n.toNat cR ∧ Ints h2 R (sortL (ahead pts sec thr) (seqI n.toNat))) (.pointer (some ⟨b4, 0, none⟩)) (.slice (some ⟨bp, 0, none⟩) n.toNat n.toNat) (.slice (some ⟨bs, 0, none⟩) n.toNat n.toNat) (.slice (some ⟨bt, 0, none⟩) n.toNat n.toNat) (.slice A' (a + 1) c') (.int .i64 a) (.int .i64 (rp.length : Int)) h7 := by
        intro rp
        have done : ∀ (rp moved : List Int) (g : Int) (h7 : Heap), rp.length + moved.length = a → insL (ahead pts sec thr) (a : Int) (revSort (ahead pts sec thr) (seqI a)) = moved.reverse ++ (a : Int) :: rp → Vec hK h7 A' (a + 1) c' 1 (LM (rp.reverse ++ g :: moved)) →
            ∃ w o : Nat, A' = some ⟨w, o, none⟩ ∧ (0 ≤ (rp.length : Int) ∧ (rp.length : Int) < ((a + 1 : Nat) : Int)) ∧ SStore h7 w (o + Int.toNat (rp.length : Int) * 1) [.int .i64 (a : Int)] fun h8 =>
              S.l10Ranking.L0 (fun u h2 => Ext h h2 ∧ ∃ R cR, u = .slice R n.toNat cR ∧ Ints h2 R (sortL (ahead pts sec thr) (seqI n.toNat))) (.pointer (some ⟨b4, 0, none⟩)) (.slice (some ⟨bp, 0, none⟩) n.toNat n.toNat) (.slice (some ⟨bs, 0, none⟩) n.toNat n.toNat) (.slice (some ⟨bt, 0, none⟩) n.toNat n.toNat) (.slice A' (a + 1) c') (.int .i64 (IntKind.wrap .i64 ((a : Int) + 1))) h8 := by
          intro rp moved g h7 hlen hins v7
          refine Vec.put v7 (by omega) (by omega) rfl fun h8 v8 => ?_
          rw [wsucc (by omega)]
          refine ih (a + 1) A' (a + 1) c' hK h8 (by omega) eIK ?_
          have e8 : (LM (rp.reverse ++ g :: moved)).set (rp.length : Int).toNat (.int .i64 (a : Int)) = LM (sortL (ahead pts sec thr) (seqI (a + 1))) := by
            rw [LM, LM, ← List.map_set, mid_set (by simp), sortL, seqI_succ, revSort_snoc, hins]
            simp
          rw [e8] at v8
          exact v8
        induction rp with
        | nil =>
          intro moved g h7 hlen hins hmem v7
          refine S.l10Ranking.L1_step _ _ _ _ _ _ _ _ _ _ _ _ _ _ _ _ _ _ (dec_split (fun hc => by simp at hc) (fun _ => ?_))
          exact done [] moved g h7 hlen hins v7
        | cons y rp ihr =>
          intro moved g h7 hlen hins hmem v7
          simp only [List.length_cons] at hlen
          obtain ⟨y0, y1⟩ := hmem y (by simp)
          have e7 := eIK.trans v7.ext
          have hw : IntKind.wrap .i64 (((y :: rp).length : Int) - 1) = (rp.length : Int) := by rw [List.length_cons, w64 (by omega) (by omega)]; omega
          have hlt : ((y :: rp).reverse ++ g :: moved).length = a + 1 := by simp; omega
          have er : (y :: rp).reverse ++ g :: moved = rp.reverse ++ y :: (g :: moved) := by simp
          have g2 : ((y :: rp).reverse ++ g :: moved).getD (rp.length : Int).toNat 0 = y := by rw [er]; exact mid_get (by simp)
          have i7 : Ints h7 A' ((y :: rp).reverse ++ g :: moved) := v7.seg
          have a0 : (0 : Int) ≤ (a : Int) := by omega
          have a1 : (a : Int) < (n.toNat : Int) := by omega
          have y1' : y < (n.toNat : Int) := by omega
          refine S.l10Ranking.L1_step _ _ _ _ _ _ _ _ _ _ _ _ _ _ _ _ _ _ (dec_split (fun _ => ?_) (fun hc => by simp at hc))
          rw [hw]
          refine i7.rd (Ext.refl _) hlt (by omega) (by omega) ?_
          rw [g2]
          refine ip.rd e7 pl a0 a1 (ip.rd e7 pl y0 y1' fun k53 hk53 => ?_)
          rw [Int.toNat_natCast]
          have fin : ∀ r : Bool, ahead pts sec thr (a : Int) y = r → k53 [.bool r] h7 := by
            intro r hr
            refine hk53 _ _ (nbool_split (fun hf => ?_) (fun ht => ?_))
            · have hno : ¬ ahead pts sec thr (a : Int) y = true := by rw [hr, hf]; simp
              rw [insL, if_neg hno] at hins
              exact done (y :: rp) moved g h7 (by simp only [List.length_cons]; omega) hins v7
            · have hyes : ahead pts sec thr (a : Int) y = true := by rw [hr, ht]
              rw [insL, if_pos hyes] at hins
              refine Vec.put v7 (by omega) (by simp only [List.length_cons]; omega) rfl fun h8 v8 => ?_
              refine ihr (y :: moved) y h8 (by simp only [List.length_cons]; omega) (by rw [hins]; simp) (fun z hz => hmem z (by simp [hz])) ?_
              have e8 : (LM ((y :: rp).reverse ++ g :: moved)).set ((y :: rp).length : Int).toNat (.int .i64 y) = LM (rp.reverse ++ y :: (y :: moved)) := by
                rw [LM, LM, ← List.map_set, mid_set (by simp)]; simp
              rw [e8] at v8
              exact v8
          have hah : ahead pts sec thr (a : Int) y = (decide (pts.getD y.toNat 0 < pts.getD a 0) || (decide (pts.getD a 0 = pts.getD y.toNat 0) && (decide (sec.getD y.toNat 0 < sec.getD a 0) || (decide (sec.getD a 0 = sec.getD y.toNat 0) && decide (thr.getD y.toNat 0 < thr.getD a 0))))) := rfl
          refine dec_split (fun h1 => fin true (by rw [hah, decide_eq_true h1]; rfl)) (fun h1 => ?_)
          rw [decide_eq_false h1, Bool.false_or] at hah
          refine ip.rd e7 pl a0 a1 (ip.rd e7 pl y0 y1' ?_)
          rw [Int.toNat_natCast]
          refine dec_split (fun h2 => ?_) (fun h2 => fin false (by rw [hah, decide_eq_false h2]; rfl))
          rw [decide_eq_true h2, Bool.true_and] at hah
          refine is.rd e7 pl' a0 a1 (is.rd e7 pl' y0 y1' ?_)
          rw [Int.toNat_natCast]
          refine dec_split (fun h3 => fin true (by rw [hah, decide_eq_true h3]; rfl)) (fun h3 => ?_)
          rw [decide_eq_false h3, Bool.false_or] at hah
          refine is.rd e7 pl' a0 a1 (is.rd e7 pl' y0 y1' ?_)
          rw [Int.toNat_natCast]
          refine dec_split (fun h4 => ?_) (fun h4 => fin false (by rw [hah, decide_eq_false h4]; rfl))
          rw [decide_eq_true h4, Bool.true_and] at hah
          refine it.rd e7 tl' a0 a1 (it.rd e7 tl' y0 y1' ?_)
          rw [Int.toNat_natCast]
          exact fin _ hah
      have hrl : (revSort (ahead pts sec thr) (seqI a)).length = a := by rw [revSort_len, seqI_len]
      have := inner (revSort (ahead pts sec thr) (seqI a)) [] (a : Int) h6 (by simp [hrl]) (by simp) (fun y hy => seqI_mem ((revSort_mem _ y _).1 hy)) (by simpa [sortL, LM] using v5)
      rw [hrl] at this
      exact this
  exact loop n.toNat 0 _ 0 0 h5 _ (by omega) (Ext.refl _) (by simpa [seqI, sortL, revSort] using Vec.made (l := 0) (sz := 1) (cs := []) hf21 rfl)

end Go.Proofs.Ytbppeajpjnlobaa

/- The next round, as both tell it. -/
set_option linter.unusedVariables false
set_option linter.unusedSimpArgs false
namespace Go.Proofs.Ytbppeajpjnlobaa
open Go.HL

theorem insL_perm (lt : Int → Int → Bool) (x : Int) : ∀ ys, (insL lt x ys).Perm (x :: ys)
  | [] => List.Perm.refl _
  | y :: ys => by
    rw [insL]; split
    · exact ((insL_perm lt x ys).cons y).trans (List.Perm.swap x y ys)
    · exact List.Perm.refl _
theorem sortL_perm (lt : Int → Int → Bool) (xs : List Int) : (sortL lt xs).Perm xs := by
  have : ∀ (xs rp : List Int), (xs.foldl (fun rp x => insL lt x rp) rp).Perm (rp ++ xs) := by
    intro xs
    induction xs with
    | nil => intro rp; simp
    | cons x xs ih =>
      intro rp
      rw [List.foldl_cons]
      refine (ih _).trans ?_
      refine ((insL_perm lt x rp).append_right xs).trans ?_
      exact (List.perm_middle (a := x) (l₁ := rp) (l₂ := xs)).symm
  refine (List.reverse_perm _).trans ?_
  have h := this xs []
  rwa [List.nil_append] at h
theorem seqI_nodup (n : Nat) : (seqI n).Nodup := by
  unfold seqI List.Nodup
  rw [List.pairwise_map]
  refine List.Pairwise.imp (R := fun a b => a < b) (fun {a b} h => ?_) List.pairwise_lt_range
  omega
theorem rankOf_ranks {n : Int} {rs xss : List (List Int)} (h0 : 0 ≤ n) : Ranks n.toNat (rankOf n rs xss) := by
  have hl := rankOf_len n rs xss
  refine ⟨hl, fun i hi => ?_, fun i j hi hj he => ?_⟩
  · have hm := getD_mem (l := rankOf n rs xss) (d := 0) (q := i) (by omega)
    have := seqI_mem ((sortL_mem _ _ _).1 hm)
    omega
  · have hnd : (rankOf n rs xss).Nodup := (sortL_perm _ _).nodup_iff.2 (seqI_nodup _)
    unfold List.Nodup at hnd
    rw [List.pairwise_iff_getElem] at hnd
    have hi' : i < (rankOf n rs xss).length := by omega
    have hj' : j < (rankOf n rs xss).length := by omega
    rw [List.getD_eq_getElem?_getD, List.getD_eq_getElem?_getD, List.getElem?_eq_getElem hi', List.getElem?_eq_getElem hj'] at he
    rcases Nat.lt_trichotomy i j with h | h | h
    · exact absurd he (hnd i j hi' hj' h)
    · exact h
    · exact absurd he.symm (hnd j i hj' hi' h)
theorem rankOf_onto {n : Int} {rs xss : List (List Int)} {x : Nat} (hx : x < n.toNat) : ∃ i, i < n.toNat ∧ ((rankOf n rs xss).getD i 0).toNat = x := by
  have hm : (x : Int) ∈ rankOf n rs xss := (sortL_mem _ _ _).2 (by simp only [seqI, List.mem_map, List.mem_range]; exact ⟨x, hx, rfl⟩)
  obtain ⟨i, hi, e⟩ := List.getElem_of_mem hm
  refine ⟨i, by rw [rankOf_len] at hi; exact hi, ?_⟩
  rw [List.getD_eq_getElem?_getD, List.getElem?_eq_getElem hi]
  show ((rankOf n rs xss)[i]).toNat = x
  rw [e]; rfl
theorem mirror_start {n : Int} {rs xss : List (List Int)} (h0 : 0 ≤ n) (n14 : n ≤ 14) : Mirrors n.toNat (rankOf n rs xss) (freeTo n.toNat) (freeTo n.toNat) := by
  have hR := rankOf_ranks (n := n) (rs := rs) (xss := xss) h0
  refine ⟨freeTo_len (by omega), fun i hi => ?_, fun x hx => ?_⟩
  · obtain ⟨p0, p1⟩ := hR.rng i hi
    rw [freeTo_get (by omega), freeTo_get hi, Int.toNat_natCast]; omega
  · rcases Nat.lt_or_ge x n.toNat with h | h
    · obtain ⟨i, hi, e⟩ := rankOf_onto (n := n) (rs := rs) (xss := xss) h
      exact absurd e (hx i hi)
    · exact freeTo_get0 h

/-- Meetings by places. -/
def placedRow (n : Nat) (rs : List (List Int)) (p : List Int) (i k : Nat) : List Int := (List.range n).map fun x => if x < k then ((metN rs (p.getD i 0).toNat (p.getD x 0).toNat : Nat) : Int) else 0
def placedTab (n : Nat) (rs : List (List Int)) (p : List Int) : List (List Int) := (List.range n).map fun i => placedRow n rs p i n
def nextList (n : Int) (rs xss : List (List Int)) : List (List Int) := enumR (badOf (placedTab n.toNat rs (rankOf n rs xss))) n.toNat (n.toNat + 1) (freeTo n.toNat) 0
def nextCode (n : Int) (rs xss : List (List Int)) : Int := if schedCode n rs (resultsOk n rs xss) = 0 ∧ Int.tmod n 2 = 1 then 5 else schedCode n rs (resultsOk n rs xss)
/-- What NextRound answers. -/
def RoundAns (n : Int) (rs xss : List (List Int)) (r : List Int) (code : Int) : Prop :=
  (nextCode n rs xss = 0 → r = (nextAns (rankOf n rs xss) n.toNat (nextList n rs xss)).1 ∧ code = (if (nextAns (rankOf n rs xss) n.toNat (nextList n rs xss)).2 then 0 else 4)) ∧
  (nextCode n rs xss ≠ 0 → r = List.replicate 14 0 ∧ code = nextCode n rs xss)
theorem RoundAns.eq {n : Int} {rs xss : List (List Int)} {r r' : List Int} {code code' : Int} (h : RoundAns n rs xss r code) (k : RoundAns n rs xss r' code') : r = r' ∧ code = code' := by
  by_cases h0 : nextCode n rs xss = 0
  · exact ⟨(h.1 h0).1.trans (k.1 h0).1.symm, (h.1 h0).2.trans (k.1 h0).2.symm⟩
  · exact ⟨(h.2 h0).1.trans (k.2 h0).1.symm, (h.2 h0).2.trans (k.2 h0).2.symm⟩

theorem Ext.upd_new {h h' : Heap} {b : Nat} (e : Ext h h') (hf : h.fresh b) (k : Blk) : Ext h (h'.upd b k) := by
  refine ⟨fun x k' hx => ?_, e.ro, fun x hx hn o => ?_⟩
  · have : x ≠ b := fun e2 => by rw [e2, hf.1] at hx; cases hx
    rw [Heap.upd_own_ne _ _ this]; exact e.own x k' hx
  · by_cases hxb : x = b
    · rw [hxb]; exact hf.2 o
    · rw [Heap.upd_own_ne _ _ hxb] at hn; exact e.new x hx hn o
/-- The answer's variable is written at the end. -/
theorem ret14 {h0 h : Heap} {b : Nat} {x : List Int} {K : Value → Heap → Prop} (e : Ext h0 h) (hf : h0.fresh b) (ho : h.own b = some (.cells (List.replicate 14 (.int .i64 0)))) (hx : x.length = 14) (hk : ∀ h2, Ext h0 h2 → K (.agg (LM x).toArray) h2) :
    (List.map (Value.int .i64) x).length = 14 ∧ SStore h b 0 (List.map (Value.int .i64) x) fun h2 => ∃ r : List Value, h2.getN b 0 14 = some r ∧ K (.agg r.toArray) h2 := by
  have es : splice (List.replicate 14 (.int .i64 0)) 0 (List.map (Value.int .i64) x) = LM x := by simp [splice, hx]
  refine ⟨by simpa using hx, _, ho, by simp; omega, oneInts _, LM x, ?_, ?_⟩
  · rw [es]
    refine getN_of (by simpa using hx) fun q v hv => ?_
    rw [Nat.zero_add, get_upd, if_pos rfl]; exact hv
  · exact hk _ (Ext.upd_new e hf _)

theorem S.NextRound.spec {n : Int} {A B : Option Addr} {rs xss : List (List Int)} {l c m d : Nat} {h : Heap} (s : Rds h A rs) (hl : rs.length = l) (x : Tab h B xss) (hm : xss.length = m) (hx : ∀ xs ∈ xss, xs.length ≤ 1048576) :
    ACalls Try.prog S.NextRound.id [.agg #[.int .i64 n, .slice A l c], .slice B m d] h fun u h2 => Ext h h2 ∧ ∃ r code, u = .tuple #[.agg (LM r).toArray, .int .i64 code] ∧ r.length = 14 ∧ RoundAns n rs xss r code := by
  refine S.NextRound.step _ _ _ _ _ _ _ _ h fun b4 hf4 => ?_
  have e4 := Ext.upd hf4 (.cells [.int .i64 n, .slice A l c])
  have hg4 : (h.upd b4 (.cells [.int .i64 n, .slice A l c])).getN b4 0 2 = some [.int .i64 n, .slice A l c] := by simp [Heap.getN]
  have hn4 : (h.upd b4 (.cells [.int .i64 n, .slice A l c])).get b4 0 = some (.int .i64 n) := by simp
  generalize h.upd b4 (.cells [.int .i64 n, .slice A l c]) = h1 at *
  intro b6 hf6
  have e6 := Ext.upd hf6 (.cells (List.replicate 14 (.int .i64 0)))
  have hf6' := e4.fresh hf6
  have ho6 : (h1.upd b6 (.cells (List.replicate 14 (.int .i64 0)))).own b6 = some (.cells (List.replicate 14 (.int .i64 0))) := Heap.upd_own_self _ _ _
  generalize h1.upd b6 (.cells (List.replicate 14 (.int .i64 0))) = h2 at *
  have e46 := e4.trans e6
  refine ⟨n, A, l, c, e6.getN hg4, (S.l10Code.spec (s.mono e46) hl (x.mono e46) hm hx (teams := []) (Seg.nil_none _) rfl (by simp)).mono ?_⟩
  rintro u h3 ⟨e3, rfl⟩
  rw [List.all_nil, Bool.and_true]
  have e63 := e6.trans e3
  have ho3 := e3.own _ _ ho6
  refine ⟨_, rfl, fun k13 hk13 => ?_⟩
  -- the code that is answered
  have key : ∀ (c1 : Int), nextCode n rs xss = c1 → k13 [.int .i64 c1] h3 := by
    intro c1 hc1
    refine hk13 _ _ (ndec_split (fun hne => ?_) (fun h0 => ?_))
    · exact ret14 (x := List.replicate 14 0) (K := fun v h20 => Ext h h20 ∧ ∃ r code, Value.tuple #[v, .int .i64 c1] = .tuple #[.agg (LM r).toArray, .int .i64 code] ∧ r.length = 14 ∧ RoundAns n rs xss r code) (e4.trans e63) hf6' ho3 rfl (fun h20 e20 => ⟨e20, _, _, rfl, rfl, fun h => absurd (hc1.symm.trans h) hne, fun _ => ⟨rfl, hc1.symm⟩⟩)
    · have hsc : schedCode n rs (resultsOk n rs xss) = 0 := by
        rw [h0, nextCode] at hc1
        by_cases h : schedCode n rs (resultsOk n rs xss) = 0 ∧ Int.tmod n 2 = 1
        · exact h.1
        · rw [if_neg h] at hc1; exact hc1
      obtain ⟨hok, hr⟩ := schedCode_zero.1 hsc
      obtain ⟨k1, k2, k3, k4⟩ := scheduleOk_facts hok
      have en : ((n.toNat : Nat) : Int) = n := by omega
      have e03 := e4.trans e63
      refine ⟨n, A, l, c, e63.getN hg4, n, A, l, c, e63.getN hg4, n, e63.get hn4, (S.l02Met.spec (s.mono e03) hl (by omega) (by omega) k2 k4).mono ?_⟩
      rintro u h5 ⟨e5, M, cM, rfl, hM⟩
      have e65 := e63.trans e5
      refine ⟨_, _, _, rfl, e65.getN hg4, e65.get hn4, (S.l10Ranking.spec (s.mono (e4.trans e65)) hl (x.mono (e4.trans e65)) hm hok hr).mono ?_⟩
      rintro u h7 ⟨e7, R, cR, rfl, hR⟩
      have e67 := e65.trans e7
      refine ⟨_, _, _, rfl, e67.get hn4, (S.l01Free.spec (n := n) (by omega) k2).mono ?_⟩
      rintro u h9 ⟨e9, rfl⟩
      have hfl : (freeTo n.toNat).length = 14 := freeTo_len (by omega)
      have hranks := rankOf_ranks (n := n) (rs := rs) (xss := xss) (by omega)
      have hG : Good n.toNat (freeTo n.toNat) := ⟨hfl, fun i hi => by rw [freeTo_get hi]; omega⟩
      refine ⟨_, hfl, rfl, (S.l10Next.spec (n := n.toNat) (bad := badOf (placedTab n.toNat rs (rankOf n rs xss))) (by omega) (hM.mono (e7.trans e9)) (metBTab_len _ _) (fun i hi => by rw [metBTab_get _ hi]; simp) (hR.mono e9) hranks (fun i k hi hk => ?_) (n.toNat + 1) (freeTo n.toNat) (freeTo n.toNat) 0 h9 (by omega) (by omega) hG (mirror_start (by omega) k2) (fun i hi => by omega) (Ext.refl _)).mono ?_⟩
      · obtain ⟨pi0, pi1⟩ := hranks.rng i hi
        obtain ⟨pk0, pk1⟩ := hranks.rng k hk
        rw [metBTab_get _ (by omega)]
        have hi' : ((rankOf n rs xss).getD i 0).toNat < n.toNat := by omega
        have hk' : ((rankOf n rs xss).getD k 0).toNat < n.toNat := by omega
        have e1 : (placedTab n.toNat rs (rankOf n rs xss)).getD i [] = placedRow n.toNat rs (rankOf n rs xss) i n.toNat := by simp [placedTab, List.getD_eq_getElem?_getD, hi]
        have e2 : (placedRow n.toNat rs (rankOf n rs xss) i n.toNat).getD k 0 = ((metN rs ((rankOf n rs xss).getD i 0).toNat ((rankOf n rs xss).getD k 0).toNat : Nat) : Int) := by
          simp only [placedRow, List.getD_eq_getElem?_getD, List.getElem?_map, List.getElem?_range hk, Option.map_some, Option.getD_some]
          rw [if_pos hk]
        unfold badOf
        rw [e1, e2]
        simp only [List.getD_eq_getElem?_getD, List.getElem?_map] at hk' ⊢
        rw [List.getElem?_range hk']; rfl
      · rintro u h11 ⟨e11, rfl⟩
        have hnl := nextAns_len (rankOf n rs xss) n.toNat (nextList n rs xss)
        have e611 := (e67.trans e9).trans e11
        have ho11 := (((e3.trans e5).trans e7).trans (e9.trans e11)).own _ _ ho6
        refine ⟨_, hnl, _, rfl, by simpa using hnl, oneInts _, by simpa using hnl, oneInts _, fun b40 hf40 => ?_⟩
        have e40 := Ext.upd hf40 (.cells (List.map (Value.int .i64) (nextAns (rankOf n rs xss) n.toNat (nextList n rs xss)).1))
        have g40 : (h11.upd b40 (.cells (List.map (Value.int .i64) (nextAns (rankOf n rs xss) n.toNat (nextList n rs xss)).1))).getN b40 0 14 = some (List.map (Value.int .i64) (nextAns (rankOf n rs xss) n.toNat (nextList n rs xss)).1) := getN_of (by simpa using hnl) fun q v hv => by rw [Nat.zero_add, get_upd, if_pos rfl]; exact hv
        have ho12 := e40.own _ _ ho11
        have eall := (e4.trans e611).trans e40
        have hans : ∀ (r : List Int) (code : Int), r = (nextAns (rankOf n rs xss) n.toNat (nextList n rs xss)).1 → code = (if (nextAns (rankOf n rs xss) n.toNat (nextList n rs xss)).2 then 0 else 4) → RoundAns n rs xss r code := by
          intro r code hr' hcode
          exact ⟨fun _ => ⟨hr', hcode⟩, fun h => absurd (hc1.trans h0) h⟩
        refine nbool_split (fun hf => ?_) (fun ht => ?_)
        · have hz : (nextAns (rankOf n rs xss) n.toNat (nextList n rs xss)).1 = List.replicate 14 0 := by
            cases hE : nextList n rs xss with
            | nil => rfl
            | cons y ys =>
              have : (nextAns (rankOf n rs xss) n.toNat (nextList n rs xss)).2 = true := by rw [hE]; rfl
              have hf' : (nextAns (rankOf n rs xss) n.toNat (nextList n rs xss)).2 = false := hf
              rw [this] at hf'; cases hf'
          exact ret14 (x := List.replicate 14 0) (K := fun v h42 => Ext h h42 ∧ ∃ r code, Value.tuple #[v, .int .i64 4] = .tuple #[.agg (LM r).toArray, .int .i64 code] ∧ r.length = 14 ∧ RoundAns n rs xss r code) eall hf6' ho12 rfl (fun h20 e20 => ⟨e20, _, _, rfl, rfl, hans _ _ hz.symm (by
            have hf' : (nextAns (rankOf n rs xss) n.toNat (nextList n rs xss)).2 = false := hf
            rw [hf']; rfl)⟩)
        · refine ⟨_, hnl, g40, ?_⟩
          exact ret14 (K := fun v h45 => Ext h h45 ∧ ∃ r code, Value.tuple #[v, .int .i64 0] = .tuple #[.agg (LM r).toArray, .int .i64 code] ∧ r.length = 14 ∧ RoundAns n rs xss r code) eall hf6' ho12 hnl (fun h20 e20 => ⟨e20, _, _, rfl, hnl, hans _ _ rfl (by
            have ht' : (nextAns (rankOf n rs xss) n.toNat (nextList n rs xss)).2 = true := ht
            rw [ht']; rfl)⟩)
  intro k14 hk14
  refine dec_split (fun h0 => ⟨n, e63.get hn4, by omega, hk14 _ _ (bool_split (fun ht => ?_) (fun hf => ?_))⟩) (fun hne => hk14 _ _ (bool_split (fun h => by cases h) (fun _ => ?_)))
  · exact key 5 (by rw [nextCode, if_pos ⟨h0, of_decide_eq_true ht⟩])
  · exact key _ (by rw [nextCode, if_neg (fun h => (of_decide_eq_false hf) h.2)])
  · exact key _ (by rw [nextCode, if_neg (fun h => hne h.1)])

end Go.Proofs.Ytbppeajpjnlobaa

/- The next round, as the program tells it; the law. -/
set_option linter.unusedVariables false
set_option linter.unusedSimpArgs false
namespace Go.Proofs.Ytbppeajpjnlobaa
open Go.HL

/-- What the first round that is found leaves behind. -/
def FoundSt (p : List Int) (n bo bf : Nat) (s : Option (List Int)) (m : PMap) : Prop :=
  m bo = some (LM (match s with | none => List.replicate 14 0 | some x => renTo p x n)) ∧ m bf = some [.bool s.isSome]
def foundStp (s : Option (List Int)) (x : List Int) : Option (List Int) × Bool := (some x, false)
theorem found_run (xs : List (List Int)) : (runTo foundStp none xs).1 = xs.head? := by
  cases xs <;> simp [runTo, foundStp]

theorem I.NextRound.visits {n : Nat} (n14 : n ≤ 14) {hI : Heap} {bs br bo bf cR : Nat} {R : Option Addr} {p : List Int} (gs : hI.get bs (0 + 0) = some (.int .i64 n)) (gr : hI.get br 0 = some (.slice R n cR)) (hR : Ints hI R p) (hp : Ranks n p) (hne : bo ≠ bf) :
    Visits n (fun y => y = bo ∨ y = bf) (FoundSt p n bo bf) foundStp I.NextRound.c1.id #[.pointer (some ⟨bs, 0, none⟩), .pointer (some ⟨br, 0, none⟩), .pointer (some ⟨bo, 0, none⟩), .pointer (some ⟨bf, 0, none⟩)] hI := by
  refine ⟨fun s m m' hc ⟨h1, h2⟩ => ⟨(hc bo (.inl rfl)).trans h1, (hc bf (.inr rfl)).trans h2⟩, fun s x hJ m hG eJ hB hs => ?_⟩
  obtain ⟨h1, h2⟩ := hs
  have hx := hG.1
  refine I.NextRound.c1.step _ _ _ _ _ _ _ _ _ _ _ fun b6 hf6 => ?_
  have e6 := Ext.upd (over_fresh hf6).1 (.cells (LM x))
  have hB6 := hB.base hf6 (.cells (LM x))
  rw [show List.map (Value.int .i64) x = LM x from rfl, over_base hf6]
  have g6 : (hJ.upd b6 (.cells (LM x))).getN b6 0 14 = some (List.map (Value.int .i64) x) := getN_of (by simpa using hx) fun q v hv => by rw [Nat.zero_add, get_upd, if_pos rfl]; exact hv
  generalize hJ.upd b6 (.cells (LM x)) = h7 at *
  have e07 := eJ.trans e6
  refine ⟨x, hx, (over_ext hB6).getN g6, n, (over_ext hB6).get (e07.get gs), _, _, _, (over_ext hB6).get (e07.get gr), ?_⟩
  have hren := I.Round.renumbered.spec (n := (n : Int)) (r := x) (p := p) (P := R) (cp := cR) hx (by omega) (by omega) (hR.mono e07) (by rw [Int.toNat_natCast]; exact hp.len) (fun i hi => hp.rng i (by omega)) (fun i hi => hG.2 i (by omega))
  rw [Int.toNat_natCast] at hren
  refine (over_frame hB6 hren).mono ?_
  rintro u h11 ⟨hK, hBK, rfl, eK, rfl⟩
  have hrl := renTo_len p x n
  refine ⟨_, hrl, rfl, by simpa using hrl, over_st14 h1 (by cases s <;> simp [renTo_len]) hrl ?_⟩
  have h2' : (m.put bo (LM (renTo p x n))) bf = some [.bool s.isSome] := by rw [put_ne _ _ hne.symm]; exact h2
  refine over_store h2' (by simp) (by simp [Value.oneCell']) ⟨rfl, hK, _, e6.trans eK, rfl, (hBK.put (by rw [h1]; simp) _).put (by rw [h2']; simp) _, ⟨?_, ?_⟩, fun y hy hC => ?_⟩
  · rw [put_ne _ _ hne, put_self]; rfl
  · rw [put_self]; simp [splice, foundStp]
  · have y1 : y ≠ bo := fun e => hC (.inl e)
    have y2 : y ≠ bf := fun e => hC (.inr e)
    rw [put_ne _ _ y2, put_ne _ _ y1]

theorem placedRow_len (n : Nat) (rs : List (List Int)) (p : List Int) (i k : Nat) : (placedRow n rs p i k).length = n := by simp [placedRow]
theorem placedRow_set {n : Nat} (rs : List (List Int)) (p : List Int) (i : Nat) {k : Nat} (hk : k < n) : (placedRow n rs p i k).set k ((metN rs (p.getD i 0).toNat (p.getD k 0).toNat : Nat) : Int) = placedRow n rs p i (k + 1) := by
  apply List.ext_getElem?
  intro x
  rw [List.getElem?_set]
  rcases Nat.lt_or_ge x n with hx | hx
  · simp only [placedRow, List.getElem?_map, List.getElem?_range hx, Option.map_some, List.length_map, List.length_range]
    by_cases hkx : k = x
    · subst hkx; rw [if_pos rfl, if_pos hx, if_pos (by omega)]
    · rw [if_neg hkx]
      by_cases h : x < k
      · rw [if_pos h, if_pos (by omega)]
      · rw [if_neg h, if_neg (by omega)]
  · have h1 : (placedRow n rs p i k)[x]? = none := List.getElem?_eq_none (by rw [placedRow_len]; exact hx)
    have h2 : (placedRow n rs p i (k + 1))[x]? = none := List.getElem?_eq_none (by rw [placedRow_len]; exact hx)
    rw [h2, if_neg (by omega), h1]
theorem placedRow_zero (n : Nat) (rs : List (List Int)) (p : List Int) (i : Nat) : placedRow n rs p i 0 = List.replicate n 0 := by
  apply List.ext_getElem?
  intro x
  rw [List.getElem?_replicate]
  rcases Nat.lt_or_ge x n with hx | hx
  · simp only [placedRow, List.getElem?_map, List.getElem?_range hx, Option.map_some]
    rw [if_neg (by omega), if_pos hx]
  · rw [List.getElem?_eq_none (by rw [placedRow_len]; exact hx), if_neg (by omega)]

theorem I.NextRound.spec {n : Int} {A B : Option Addr} {rs xss : List (List Int)} {l c m d : Nat} {h : Heap} (s : Rds h A rs) (hl : rs.length = l) (x : Tab h B xss) (hm : xss.length = m) (hx : ∀ xs ∈ xss, xs.length ≤ 1048576) :
    ACalls Try.prog I.NextRound.id [.agg #[.int .i64 n, .slice A l c], .slice B m d] h fun u h2 => Ext h h2 ∧ ∃ r code, u = .tuple #[.agg (LM r).toArray, .int .i64 code] ∧ r.length = 14 ∧ RoundAns n rs xss r code := by
  refine I.NextRound.step _ _ _ _ _ _ _ _ h fun b4 hf4 => ?_
  have e4 := Ext.upd hf4 (.cells [.int .i64 n, .slice A l c])
  have hg4 : (h.upd b4 (.cells [.int .i64 n, .slice A l c])).getN b4 0 2 = some [.int .i64 n, .slice A l c] := by simp [Heap.getN]
  have hn4 : (h.upd b4 (.cells [.int .i64 n, .slice A l c])).get b4 0 = some (.int .i64 n) := by simp
  generalize h.upd b4 (.cells [.int .i64 n, .slice A l c]) = h1 at *
  intro b6 hf6
  have e6 := Ext.upd hf6 (.cells (List.replicate 14 (.int .i64 0)))
  have hf6' := e4.fresh hf6
  have ho6 : (h1.upd b6 (.cells (List.replicate 14 (.int .i64 0)))).own b6 = some (.cells (List.replicate 14 (.int .i64 0))) := Heap.upd_own_self _ _ _
  generalize h1.upd b6 (.cells (List.replicate 14 (.int .i64 0))) = h2 at *
  have e46 := e4.trans e6
  refine ⟨n, A, l, c, e6.getN hg4, (I.resultsCode.spec (right := true) (s.mono e46) hl (x.mono e46) hm hx fun _ h1 _ => I.always.spec).mono ?_⟩
  rintro u h3 ⟨e3, rfl⟩
  rw [Bool.and_true]
  have e63 := e6.trans e3
  have ho3 := e3.own _ _ ho6
  refine ⟨_, rfl, fun k13 hk13 => ?_⟩
  have key : ∀ (c1 : Int), nextCode n rs xss = c1 → k13 [.int .i64 c1] h3 := by
    intro c1 hc1
    refine hk13 _ _ (ndec_split (fun hne => ?_) (fun h0 => ?_))
    · exact ret14 (x := List.replicate 14 0) (K := fun v h20 => Ext h h20 ∧ ∃ r code, Value.tuple #[v, .int .i64 c1] = .tuple #[.agg (LM r).toArray, .int .i64 code] ∧ r.length = 14 ∧ RoundAns n rs xss r code) (e4.trans e63) hf6' ho3 rfl (fun h20 e20 => ⟨e20, _, _, rfl, rfl, fun h => absurd (hc1.symm.trans h) hne, fun _ => ⟨rfl, hc1.symm⟩⟩)
    · have hsc : schedCode n rs (resultsOk n rs xss) = 0 := by
        rw [h0, nextCode] at hc1
        by_cases h : schedCode n rs (resultsOk n rs xss) = 0 ∧ Int.tmod n 2 = 1
        · exact h.1
        · rw [if_neg h] at hc1; exact hc1
      obtain ⟨hok, hr⟩ := schedCode_zero.1 hsc
      obtain ⟨k1, k2, k3, k4⟩ := scheduleOk_facts hok
      have en : ((n.toNat : Nat) : Int) = n := by omega
      have e03 := e4.trans e63
      refine ⟨n, A, l, c, e63.getN hg4, n, A, l, c, e63.getN hg4, n, e63.get hn4, (I.Schedule.ranking.spec (s.mono e03) hl (x.mono e03) hm hok hr).mono ?_⟩
      rintro u h5 ⟨e5, R, cR, rfl, hR⟩
      have e65 := e63.trans e5
      refine ⟨_, _, _, rfl, e65.getN hg4, e65.get hn4, (I.Schedule.meetings.spec (s.mono (e4.trans e65)) hl (by omega) (by omega) k2 k4).mono ?_⟩
      rintro u h7 ⟨e7, bM, cM, rfl, hM⟩
      have e67 := e65.trans e7
      have hsq := I.square.own (n := n.toNat) (h := h7) (by omega) (by omega)
      rw [en] at hsq
      refine ⟨_, _, _, rfl, e67.get hn4, hsq.mono ?_⟩
      rintro u h9 ⟨e9, bP, cP, sp, bs, rfl, hT⟩
      obtain ⟨hI, m0, eI, hB0, rfl, t0⟩ := hT.carve e9
      refine ⟨_, _, _, rfl, fun b36 hf36 => ?_⟩
      rw [over_base hf36]
      have e36 := Ext.upd (over_fresh hf36).1 (.cells [.slice R n.toNat cR])
      have hB36 := hB0.base hf36 (.cells [.slice R n.toNat cR])
      have g36 : (hI.upd b36 (.cells [.slice R n.toNat cR])).get b36 0 = some (.slice R n.toNat cR) := by simp
      generalize hI.upd b36 (.cells [.slice R n.toNat cR]) = hI2 at *
      have e72 := eI.trans e36
      have hMI := hM.mono e72
      have hRI := hR.mono (e7.trans e72)
      have hranks := rankOf_ranks (n := n) (rs := rs) (xss := xss) (by omega)
      generalize hpk : rankOf n rs xss = p at *
      refine ⟨_, _, _, (over_ext hB36).get g36, ?_⟩
      have hgn : hI2.get b4 (0 + 0) = some (.int .i64 n) := e72.get (e67.get hn4)
      have hol : hI2.own b6 = some (.cells (List.replicate 14 (.int .i64 0))) := (((e3.trans e5).trans e7).trans e72).own _ _ ho6
      have eH : Ext h hI2 := (e4.trans e67).trans e72
      have hplaced : ∀ i, i < n.toNat → (placedTab n.toNat rs p).getD i [] = placedRow n.toNat rs p i n.toNat := fun i hi => by simp [placedTab, List.getD_eq_getElem?_getD, hi]
      -- the search
      have search : ∀ (m1 : PMap), Beside hI2 m1 → TabX m1 bP sp bs (placedTab n.toNat rs p) →
          SAlloc (over hI2 m1) (List.replicate 14 (.int .i64 0)) fun b81 h82 => SAlloc h82 [.bool false] fun b83 h84 => ([.int .i64 0, .int .i64 0, .int .i64 0, .int .i64 0, .int .i64 0, .int .i64 0, .int .i64 0, .int .i64 0, .int .i64 0, .int .i64 0, .int .i64 0, .int .i64 0, .int .i64 0, .int .i64 0] : List Value).length = 14 ∧
            SStore h84 b81 0 [.int .i64 0, .int .i64 0, .int .i64 0, .int .i64 0, .int .i64 0, .int .i64 0, .int .i64 0, .int .i64 0, .int .i64 0, .int .i64 0, .int .i64 0, .int .i64 0, .int .i64 0, .int .i64 0] fun h85 => SStore h85 b83 0 [.bool false] fun h86 =>
            ∃ x87 : Int, h86.get b4 (0 + 0) = some (.int .i64 x87) ∧ ACalls Try.prog I.rounds.id ([.int .i64 x87, .slice (some ⟨bP, 0, none⟩) n.toNat cP, .func (.func I.NextRound.c1.id) #[] (#[.pointer (some ⟨b4, 0, none⟩), .pointer (some ⟨b36, 0, none⟩), .pointer (some ⟨b81, 0, none⟩), .pointer (some ⟨b83, 0, none⟩)])]) h86 fun v89 h88 =>
            ∃ x90 : Bool, v89 = .bool x90 ∧ ∃ x91 : Bool, h88.get b83 0 = some (.bool x91) ∧
            (((!x91) = true → ([.int .i64 0, .int .i64 0, .int .i64 0, .int .i64 0, .int .i64 0, .int .i64 0, .int .i64 0, .int .i64 0, .int .i64 0, .int .i64 0, .int .i64 0, .int .i64 0, .int .i64 0, .int .i64 0] : List Value).length = 14 ∧
              SStore h88 b6 0 [.int .i64 0, .int .i64 0, .int .i64 0, .int .i64 0, .int .i64 0, .int .i64 0, .int .i64 0, .int .i64 0, .int .i64 0, .int .i64 0, .int .i64 0, .int .i64 0, .int .i64 0, .int .i64 0] fun h92 => ∃ r93 : List Value, h92.getN b6 0 14 = some r93 ∧
                (fun u h2 => Ext h h2 ∧ ∃ r code, u = Value.tuple #[.agg (LM r).toArray, .int .i64 code] ∧ r.length = 14 ∧ RoundAns n rs xss r code) (.tuple #[.agg r93.toArray, .int .i64 4]) h92) ∧
             ((!x91) = false → ∃ x94 : List Int, x94.length = 14 ∧ h88.getN b81 0 14 = some (List.map (Value.int .i64) x94) ∧ (List.map (Value.int .i64) x94).length = 14 ∧ SStore h88 b6 0 (List.map (Value.int .i64) x94) fun h95 => ∃ r96 : List Value, h95.getN b6 0 14 = some r96 ∧
                (fun u h2 => Ext h h2 ∧ ∃ r code, u = Value.tuple #[.agg (LM r).toArray, .int .i64 code] ∧ r.length = 14 ∧ RoundAns n rs xss r code) (.tuple #[.agg r96.toArray, .int .i64 0]) h95)) := by
        intro m1 hB1 t1
        have hTab : Tab (over hI2 m1) (some ⟨bP, 0, none⟩) (placedTab n.toNat rs p) := t1.tab
        have eB := over_ext hB1
        have hgn' := eB.get hgn
        have g36' := eB.get g36
        have hRI' := hRI.mono eB
        have hol' := eB.own _ _ hol
        have eH' := eH.trans eB
        generalize over hI2 m1 = hF at *
        rw [← over_noM hF]
        refine alloc14 (beside_noM hF) fun b81 hn81 _ hB81 b83 hf83 => ?_
        rw [over_put]
        have hm81 := put_self noM b81 (LM (List.replicate 14 0))
        have n83 : b81 ≠ b83 := fun e => by have := (over_fresh hf83).2; rw [← e, hm81] at this; cases this
        have hB83 := hB81.new hf83 [.bool false]
        refine ⟨rfl, over_st14 (by rw [put_ne _ _ n83]; exact hm81) rfl (r := List.replicate 14 0) rfl ?_⟩
        have hB84 := hB83.put (b := b81) (by rw [put_ne _ _ n83, hm81]; simp) (LM (List.replicate 14 0))
        refine over_store (cs := [.bool false]) (by rw [put_ne _ _ n83.symm, put_self]) (by simp) (by simp [Value.oneCell']) ?_
        have hB85 := hB84.put (b := b83) (by rw [put_ne _ _ n83.symm, put_self]; simp) (splice [.bool false] 0 [.bool false])
        have hst : FoundSt p n.toNat b81 b83 none ((((noM.put b81 (LM (List.replicate 14 0))).put b83 [.bool false]).put b81 (LM (List.replicate 14 0))).put b83 (splice [.bool false] 0 [.bool false])) := ⟨by rw [put_ne _ _ n83, put_self], by rw [put_self]; simp [splice]⟩
        generalize ((((noM.put b81 (LM (List.replicate 14 0))).put b83 [.bool false]).put b81 (LM (List.replicate 14 0))).put b83 (splice [.bool false] 0 [.bool false])) = m2 at *
        refine ⟨n, (over_ext hB85).get hgn', ?_⟩
        have hV := I.NextRound.visits (n := n.toNat) (bs := b4) (br := b36) (bo := b81) (bf := b83) (cR := cR) (R := R) (p := p) (by omega) (by rw [en]; exact hgn') g36' hRI' hranks n83
        have hrd := I.rounds.spec (n := n.toNat) (cT := cP) hV (by omega) hTab (by simp [placedTab]) (fun i hi => by rw [hplaced i hi, placedRow_len]) hB85 hst (fun y hy => by
          rcases hy with rfl | rfl
          · rw [hst.1]; simp
          · rw [hst.2]; simp)
        rw [en] at hrd
        refine hrd.mono ?_
        rintro u h88 ⟨rfl, hK, m', eK, rfl, hBK, hsK, _⟩
        have hE : enumR (badOf (placedTab n.toNat rs p)) n.toNat (n.toNat + 1) (freeTo n.toNat) 0 = nextList n rs xss := by rw [nextList, hpk]
        rw [hE, found_run] at hsK
        have hbK := over_ext hBK
        refine ⟨_, rfl, (nextList n rs xss).head?.isSome, by rw [over_get hsK.2]; rfl, ?_⟩
        have ho88 := hbK.own _ _ (eK.own _ _ hol')
        have e88 := eH'.trans (eK.trans hbK)
        have hans : ∀ (r : List Int) (code : Int), r = (nextAns p n.toNat (nextList n rs xss)).1 → code = (if (nextAns p n.toNat (nextList n rs xss)).2 then 0 else 4) → RoundAns n rs xss r code := by
          intro r code hr' hcode
          refine ⟨fun _ => ⟨by rw [hpk]; exact hr', by rw [hpk]; exact hcode⟩, fun h => absurd (hc1.trans h0) h⟩
        cases hL : nextList n rs xss with
        | nil =>
          rw [hL] at hans
          exact nbool_split (fun _ => ret14 (x := List.replicate 14 0) (K := fun v h92 => Ext h h92 ∧ ∃ r code, Value.tuple #[v, .int .i64 4] = .tuple #[.agg (LM r).toArray, .int .i64 code] ∧ r.length = 14 ∧ RoundAns n rs xss r code) e88 hf6' ho88 rfl (fun h20 e20 => ⟨e20, _, _, rfl, rfl, hans _ _ rfl rfl⟩)) (fun h => by cases h)
        | cons y ys =>
          rw [hL] at hans hsK
          have hrl := renTo_len p y n.toNat
          refine nbool_split (fun h => by cases h) (fun _ => ⟨renTo p y n.toNat, hrl, over_all14 hsK.1 hrl, ?_⟩)
          exact ret14 (K := fun v h95 => Ext h h95 ∧ ∃ r code, Value.tuple #[v, .int .i64 0] = .tuple #[.agg (LM r).toArray, .int .i64 code] ∧ r.length = 14 ∧ RoundAns n rs xss r code) e88 hf6' ho88 hrl (fun h20 e20 => ⟨e20, _, _, rfl, hrl, hans _ _ rfl rfl⟩)
      -- the table by places
      have loop : ∀ (q i : Nat) (m1 : PMap), i + q = n.toNat → Beside hI2 m1 → TabX m1 bP sp bs ((List.range n.toNat).map fun y => placedRow n.toNat rs p y (if y < i then n.toNat else 0)) →
          I.NextRound.L0 (fun u h2 => Ext h h2 ∧ ∃ r code, u = Value.tuple #[.agg (LM r).toArray, .int .i64 code] ∧ r.length = 14 ∧ RoundAns n rs xss r code) (.pointer (some ⟨b4, 0, none⟩)) (.pointer (some ⟨b6, 0, none⟩)) (.pointer (some ⟨b36, 0, none⟩)) (.slice (some ⟨bM, 0, none⟩) n.toNat cM) (.slice (some ⟨bP, 0, none⟩) n.toNat cP) (.slice R n.toNat cR) (.int .i64 n.toNat) (.int .i64 i) (over hI2 m1) := by
        intro q
        induction q with
        | zero =>
          intro i m1 hi hB1 t1
          have ei : i = n.toNat := by omega
          subst ei
          refine I.NextRound.L0_step _ _ _ _ _ _ _ _ _ _ _ _ _ _ _ _ _ _ _ (dec_split (fun hc => by omega) (fun _ => ?_))
          refine search m1 hB1 ?_
          have : placedTab n.toNat rs p = (List.range n.toNat).map fun y => placedRow n.toNat rs p y (if y < n.toNat then n.toNat else 0) := by
            unfold placedTab
            refine List.map_congr_left fun y hy => ?_
            rw [if_pos (by simpa using hy)]
          rw [this]; exact t1
        | succ q ih =>
          intro i m1 hi hB1 t1
          have hin : i < n.toNat := by omega
          obtain ⟨p0, p1⟩ := hranks.rng i hin
          refine I.NextRound.L0_step _ _ _ _ _ _ _ _ _ _ _ _ _ _ _ _ _ _ _ (dec_split (fun hc => hRI.rd (over_ext hB1) hranks.len (by omega) (by omega) ⟨_, _, _, (over_ext hB1).get g36, ?_⟩) (fun hc => by omega))
          rw [Int.toNat_natCast]
          have inner : ∀ (k y : Nat) (m2 : PMap), y + k = n.toNat → Beside hI2 m2 → TabX m2 bP sp bs ((List.range n.toNat).map fun z => placedRow n.toNat rs p z (if z < i then n.toNat else if z = i then y else 0)) →
              I.NextRound.L1 (fun u h2 => Ext h h2 ∧ ∃ r code, u = Value.tuple #[.agg (LM r).toArray, .int .i64 code] ∧ r.length = 14 ∧ RoundAns n rs xss r code) (.pointer (some ⟨b4, 0, none⟩)) (.pointer (some ⟨b6, 0, none⟩)) (.pointer (some ⟨b36, 0, none⟩)) (.slice (some ⟨bM, 0, none⟩) n.toNat cM) (.slice (some ⟨bP, 0, none⟩) n.toNat cP) (.int .i64 i) (.int .i64 (p.getD i 0)) (.slice R n.toNat cR) (.int .i64 n.toNat) (.int .i64 i) (.slice R n.toNat cR) (.int .i64 n.toNat) (.int .i64 y) (over hI2 m2) := by
            intro k
            induction k with
            | zero =>
              intro y m2 hy hB2 t2
              have ey : y = n.toNat := by omega
              subst ey
              refine I.NextRound.L1_step _ _ _ _ _ _ _ _ _ _ _ _ _ _ _ _ _ _ _ _ _ _ _ _ _ _ (dec_split (fun hc => by omega) (fun _ => ?_))
              rw [wsucc (by omega)]
              refine ih (i + 1) m2 (by omega) hB2 ?_
              have : ((List.range n.toNat).map fun z => placedRow n.toNat rs p z (if z < i + 1 then n.toNat else 0)) = (List.range n.toNat).map fun z => placedRow n.toNat rs p z (if z < i then n.toNat else if z = i then n.toNat else 0) := by
                refine List.map_congr_left fun z _ => ?_
                by_cases h1 : z < i
                · rw [if_pos h1, if_pos (by omega)]
                · by_cases h2 : z = i
                  · rw [if_pos (by omega), if_neg h1, if_pos h2]
                  · rw [if_neg (by omega), if_neg h1, if_neg h2]
              rw [this]; exact t2
            | succ k ihk =>
              intro y m2 hy hB2 t2
              have hyn : y < n.toNat := by omega
              obtain ⟨y0, y1⟩ := hranks.rng y hyn
              have hlen : ((List.range n.toNat).map fun z => placedRow n.toNat rs p z (if z < i then n.toNat else if z = i then y else 0)).length = n.toNat := by simp
              have hrow : ((List.range n.toNat).map fun z => placedRow n.toNat rs p z (if z < i then n.toNat else if z = i then y else 0)).getD i [] = placedRow n.toNat rs p i y := by
                simp only [List.getD_eq_getElem?_getD, List.getElem?_map, List.getElem?_range hin, Option.map_some, Option.getD_some]
                rw [if_neg (Nat.lt_irrefl _)]; simp
              have eB2 := over_ext hB2
              refine I.NextRound.L1_step _ _ _ _ _ _ _ _ _ _ _ _ _ _ _ _ _ _ _ _ _ _ _ _ _ _ (dec_split (fun hc => hRI.rd eB2 hranks.len (by omega) (by omega) ?_) (fun hc => by omega))
              rw [Int.toNat_natCast]
              refine t2.rdRow hlen (by omega) (by omega) (hMI.rd eB2 (meetTab_len _ _) p0 (by omega) fun D dD hD _ => ?_)
              rw [meetTab_get _ (by omega)] at hD ⊢
              rw [metRow_len, Int.toNat_natCast i, hrow, placedRow_len]
              refine hD.rd eB2 (metRow_len _ _ _) y0 (by omega) ?_
              rw [metRow_get _ _ (by omega)]
              have hm2 : m2 (bs i) = some (LM (placedRow n.toNat rs p i y) ++ []) := by rw [List.append_nil, ← hrow]; exact t2.row i (by rw [hlen]; exact hin)
              refine over_wr (cs := LM (placedRow n.toNat rs p i y)) hm2 (by simp [placedRow_len]) (by omega) (by omega) rfl ?_
              rw [wsucc (by omega), Int.toNat_natCast, List.append_nil]
              have es2 : (LM (placedRow n.toNat rs p i y)).set y (.int .i64 ((metN rs (p.getD i 0).toNat (p.getD y 0).toNat : Nat) : Int)) = LM (placedRow n.toNat rs p i (y + 1)) := by
                rw [LM, LM, ← List.map_set, placedRow_set _ _ _ hyn]
              rw [es2]
              refine ihk (y + 1) _ (by omega) (hB2.put (by rw [hm2]; simp) _) ?_
              have : ((List.range n.toNat).map fun z => placedRow n.toNat rs p z (if z < i then n.toNat else if z = i then y + 1 else 0)) = ((List.range n.toNat).map fun z => placedRow n.toNat rs p z (if z < i then n.toNat else if z = i then y else 0)).set i (placedRow n.toNat rs p i (y + 1)) := by
                apply List.ext_getElem?
                intro z
                rcases Nat.lt_or_ge z n.toNat with hz | hz
                · rw [List.getElem?_set]
                  simp only [List.getElem?_map, List.getElem?_range hz, Option.map_some]
                  by_cases hiz : i = z
                  · subst hiz; simp only [Nat.lt_irrefl, if_false, if_true, hlen, hz]
                  · rw [if_neg hiz]
                    by_cases hlt : z < i
                    · rw [if_pos hlt, if_pos hlt]
                    · rw [if_neg hlt, if_neg hlt, if_neg (Ne.symm hiz), if_neg (Ne.symm hiz)]
                · rw [List.getElem?_eq_none (by simpa using hz), List.getElem?_eq_none (by rw [List.length_set, hlen]; exact hz)]
              rw [this]
              exact t2.set (by rw [hlen]; exact hin) (by rw [hrow, placedRow_len, placedRow_len])
          refine inner n.toNat 0 m1 (by omega) hB1 ?_
          have : ((List.range n.toNat).map fun z => placedRow n.toNat rs p z (if z < i then n.toNat else if z = i then 0 else 0)) = (List.range n.toNat).map fun y => placedRow n.toNat rs p y (if y < i then n.toNat else 0) := by
            refine List.map_congr_left fun z _ => ?_
            by_cases h1 : z < i
            · rw [if_pos h1, if_pos h1]
            · rw [if_neg h1, if_neg h1]; split <;> rfl
          rw [this]; exact t1
      refine loop n.toNat 0 m0 (by omega) hB36 ?_
      have : ((List.range n.toNat).map fun y => placedRow n.toNat rs p y (if y < 0 then n.toNat else 0)) = List.replicate n.toNat (List.replicate n.toNat 0) := by
        apply List.ext_getElem?
        intro z
        rw [List.getElem?_replicate]
        rcases Nat.lt_or_ge z n.toNat with hz | hz
        · simp only [List.getElem?_map, List.getElem?_range hz, Option.map_some]
          rw [if_neg (by omega), if_pos hz, placedRow_zero]
        · rw [List.getElem?_eq_none (by simpa using hz), if_neg (by omega)]
      rw [this]; exact t0
  intro k14 hk14
  refine dec_split (fun h0 => ⟨n, e63.get hn4, by omega, hk14 _ _ (bool_split (fun ht => ?_) (fun hf => ?_))⟩) (fun hne => hk14 _ _ (bool_split (fun h => by cases h) (fun _ => ?_)))
  · exact key 5 (by rw [nextCode, if_pos ⟨h0, of_decide_eq_true ht⟩])
  · exact key _ (by rw [nextCode, if_neg (fun h => (of_decide_eq_false hf) h.2)])
  · exact key _ (by rw [nextCode, if_neg (fun h => hne h.1)])

end Go.Proofs.Ytbppeajpjnlobaa

/- The law of NextRound. -/
set_option linter.unusedVariables false
set_option linter.unusedSimpArgs false
namespace Go.Proofs.Ytbppeajpjnlobaa
open Go.HL

theorem st14_new {h : Heap} {b : Nat} {x : List Int} {k : Heap → Prop} (hf : h.fresh b) (hx : x.length = 14) (hk : k (h.upd b (.cells (LM x)))) :
    (List.map (Value.int .i64) x).length = 14 ∧ SStore (h.upd b (.cells (List.replicate 14 (.int .i64 0)))) b 0 (List.map (Value.int .i64) x) k := by
  refine ⟨by simpa using hx, _, Heap.upd_own_self _ _ _, by simp; omega, oneInts _, ?_⟩
  rw [upd_upd]
  have es : splice (List.replicate 14 (.int .i64 0)) 0 (List.map (Value.int .i64) x) = LM x := by simp [splice, hx]
  rw [es]; exact hk

theorem L.FnExactNextRound.spec {n : Int} {A B : Option Addr} {rs xss : List (List Int)} {l c m d : Nat} {h : Heap} (s : RdsW h A rs) (hl : rs.length = l) (hlb : l ≤ 9223372036854775807) (x : TabW h B xss) (hm : xss.length = m) (hmb : m ≤ 9223372036854775807) (hxb : ∀ xs ∈ xss, xs.length ≤ 9223372036854775807) :
    ACalls Try.prog L.FnExactNextRound.id [.agg #[.int .i64 n, .slice A l c], .slice B m d] h fun u h2 => Ext h h2 ∧ u = .bool true := by
  refine L.FnExactNextRound.step _ _ _ _ _ _ _ _ h fun b5 hf5 => ?_
  have e5 := Ext.upd hf5 (.cells [.int .i64 n, .slice A l c])
  have hg5 : (h.upd b5 (.cells [.int .i64 n, .slice A l c])).getN b5 0 2 = some [.int .i64 n, .slice A l c] := by simp [Heap.getN]
  generalize h.upd b5 (.cells [.int .i64 n, .slice A l c]) = h1 at *
  refine ⟨n, A, l, c, hg5, L.szSchedule.spec (by omega) (by omega) hlb fun h2 e2 => ⟨_, rfl, dec_split (fun _ => ⟨e5.trans e2, rfl⟩) (fun hc => ?_)⟩⟩
  have hl20 : l ≤ 1048576 := by
    rcases Nat.lt_or_ge 1048576 l with h | h
    · have h' : (1048576 : Int) < (l : Int) := by omega
      rw [if_pos h'] at hc; omega
    · exact h
  have hn20 : ¬ (1048576 : Int) < (l : Int) := by omega
  rw [if_neg hn20] at hc ⊢
  have e := e5.trans e2
  refine (L.szInt64SS.spec (x.mono e) hm hmb hxb (by omega) (by omega)).mono ?_
  rintro u h3 ⟨rfl, r, rfl, hr1, hr2⟩
  refine ⟨_, rfl, dec_split (fun _ => ⟨e, rfl⟩) (fun hc2 => ?_)⟩
  obtain ⟨hm20, hx20⟩ := hr2 (by omega)
  refine ⟨n, A, l, c, e2.getN hg5, (L.toSchedule.spec (s.mono e) hl hl20).mono ?_⟩
  rintro u h4 ⟨e4, P, rfl, hP⟩
  refine ⟨_, _, _, _, rfl, L.toInt64SS.spec (x.mono (e.trans e4)) hm (by omega) hx20 fun Q h6 e6 hQ => ⟨_, _, _, rfl, (S.NextRound.spec (hP.mono e6) hl hQ hm hx20).mono ?_⟩⟩
  rintro u h7' ⟨e7', w0, w1, rfl, hwl, hw⟩
  refine ⟨w0, hwl, w1, rfl, fun b27 hf27 => ?_⟩
  refine st14_new hf27 hwl ?_
  have e27 := Ext.upd hf27 (.cells (LM w0))
  have hg27 : (h7'.upd b27 (.cells (LM w0))).getN b27 0 14 = some (List.map (Value.int .i64) w0) := getN_of (by simpa using hwl) fun q v hv => by rw [Nat.zero_add, get_upd, if_pos rfl]; exact hv
  have e7 := e7'.trans e27
  generalize h7'.upd b27 (.cells (LM w0)) = h7 at *
  have e37 := (e4.trans e6).trans e7
  refine ⟨n, A, l, c, (e2.trans e37).getN hg5, (L.toSchedule.spec (s.mono (e.trans e37)) hl hl20).mono ?_⟩
  rintro u h8 ⟨e8, P2, rfl, hP2⟩
  refine ⟨_, _, _, _, rfl, fun b34 hf34 => ⟨rfl, [.int .i64 0, .slice none 0 0], Heap.upd_own_self _ _ _, by simp, by simp [Value.oneCell'], ?_⟩⟩
  rw [upd_upd]
  have ev : splice [Value.int .i64 0, .slice none 0 0] 0 [.int .i64 n, .slice P2 l l] = [.int .i64 n, .slice P2 l l] := by simp [splice]
  rw [ev]
  have e9 := Ext.upd hf34 (.cells [.int .i64 n, .slice P2 l l])
  have hg34 : (h8.upd b34 (.cells [.int .i64 n, .slice P2 l l])).getN b34 0 2 = some [.int .i64 n, .slice P2 l l] := by simp [Heap.getN]
  generalize h8.upd b34 (.cells [.int .i64 n, .slice P2 l l]) = h9 at *
  have e39 := (e37.trans e8).trans e9
  refine L.toInt64SS.spec (x.mono (e.trans e39)) hm (by omega) hx20 fun Q2 h10 e10 hQ2 => ⟨_, _, _, rfl, n, P2, l, l, e10.getN hg34, (I.NextRound.spec (hP2.mono (e9.trans e10)) hl hQ2 hm hx20).mono ?_⟩
  rintro u h11' ⟨e11', g0, g1, rfl, hgl, hg⟩
  obtain ⟨rfl, rfl⟩ := hg.eq hw
  refine ⟨g0, hgl, g1, rfl, fun b48 hf48 => ?_⟩
  refine st14_new hf48 hgl ?_
  have e48 := Ext.upd hf48 (.cells (LM g0))
  have hg48 : (h11'.upd b48 (.cells (LM g0))).getN b48 0 14 = some (List.map (Value.int .i64) g0) := getN_of (by simpa using hgl) fun q v hv => by rw [Nat.zero_add, get_upd, if_pos rfl]; exact hv
  have e11a := e11'.trans e48
  generalize h11'.upd b48 (.cells (LM g0)) = h11b at *
  refine ⟨g0, hgl, hg48, g0, hgl, ((((e8.trans e9).trans e10).trans e11a)).getN hg27, (L.eqRound.spec hgl).mono ?_⟩
  rintro u h11 ⟨e11c, rfl⟩
  have e11 := e11a.trans e11c
  have e311 := (e39.trans e10).trans e11
  refine ⟨_, rfl, fun k56 hk56 => nbool_split (fun h => by cases h) (fun _ => hk56 _ _ (bool_split (fun h => by simp at h) (fun _ => ?_)))⟩
  refine ⟨n, P2, l, l, (e10.trans e11).getN hg34, n, A, l, c, (e2.trans e311).getN hg5, (L.toSchedule.spec (s.mono (e.trans e311)) hl hl20).mono ?_⟩
  rintro u h12 ⟨e12, P3, rfl, hP3⟩
  refine ⟨_, _, _, _, rfl, ((e10.trans e11).trans e12).getN hg34, (L.eqSchedule.spec (hP2.mono (((e9.trans e10).trans e11).trans e12)) hP3 hl hl20).mono ?_⟩
  rintro u h13 ⟨e13, rfl⟩
  refine ⟨_, rfl, nbool_split (fun h => by cases h) (fun _ => ?_)⟩
  have e313 := (e311.trans e12).trans e13
  refine L.toInt64SS.spec (x.mono (e.trans e313)) hm (by omega) hx20 fun Q3 h14 e14 hQ3 => ⟨_, _, _, rfl, (L.eqInt64SS.spec (hQ2.mono (((e11.trans e12).trans e13).trans e14)) hQ3 hm (by omega) hx20).mono ?_⟩
  rintro u h15 ⟨rfl, rfl⟩
  exact ⟨_, rfl, nbool_split (fun h => by cases h) (fun _ => ⟨(e.trans e313).trans e14, rfl⟩)⟩

end Go.Proofs.Ytbppeajpjnlobaa
