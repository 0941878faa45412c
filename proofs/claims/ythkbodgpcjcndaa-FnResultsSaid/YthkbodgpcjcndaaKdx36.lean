/- Whatever the code, the law of results answers true: points of all teams are twice the meetings played, rankings have all teams, and the teams with the most points can be first when all rounds are played; no condition. -/
import Derived.Test.YthkbodgpcjcndaaKdx35
import Derived.Test.YthkbodgpcjcndaaKdx34
/- Whether a team can be first, as the program tells it: rooms, and all points given. -/
set_option linter.unusedVariables false
set_option linter.unusedSimpArgs false
namespace Go.Proofs.Ythkbodgpcjcndaa
open Go.HL

theorem ISt.freeze {hJ : Heap} {m : PMap} {bp lb : Nat} {n : Int} {pts : List Int} {gs : List (List Int)} (s : ISt hJ m bp lb n pts gs) :
    ∃ hF m' G c, Ext hJ hF ∧ Beside hF m' ∧ over hJ m = over hF m' ∧ hF.get lb 0 = some (.slice G gs.length c) ∧ Tab hF G gs ∧ m' bp = some (LM pts) := by
  obtain ⟨vs, x, C, hE, hx⟩ := s.list
  obtain ⟨v, e1, e2⟩ := C.cell
  obtain ⟨f1, f2, f3⟩ := over_freeze s.beside e1
  have hlen := hE.1
  rcases e2 with ⟨rfl, rfl, rfl⟩ | ⟨y, c, sp, rfl, rfl, e3, e4, e5⟩
  · refine ⟨_, _, none, 0, f3, f2, f1, by rw [get_upd, if_pos rfl]; simp at hlen; simp [← hlen], (hE.mono f3).tab (Seg.nil_none _), ?_⟩
    rw [del_ne _ s.ne]; exact s.cells
  · have hyl : y ≠ lb := fun e => C.ne (by rw [e])
    have e3' : (PMap.del m lb) y = some (vs ++ sp) := by rw [del_ne _ hyl]; exact e3
    obtain ⟨g1, g2, g3⟩ := over_freeze f2 e3'
    refine ⟨_, _, some ⟨y, 0, none⟩, c, f3.trans g3, g2, f1.trans g1, g3.get (by rw [get_upd, if_pos rfl, ← hlen]; rfl), (hE.mono (f3.trans g3)).tab (Seg.new _ _ _ _), ?_⟩
    have hby : bp ≠ y := fun e => hx (by rw [e])
    rw [del_ne _ hby, del_ne _ s.ne]; exact s.cells

theorem I.Schedule.canBeFirst.rooms {n a : Int} {hI0 : Heap} {bs bp lb rb : Nat} {pts : List Int} (a0 : 0 ≤ a) (an : a < n) (h14 : n ≤ 14) (hpl : (pts.length : Int) = n) (hrp : rb ≠ bp) (K : Value → Heap → Prop) :
    ∀ (k x : Nat) (hJ : Heap) (m : PMap) (y : Option Nat), (x : Int) + k = n → Ext hI0 hJ → Beside hJ m → m bp = some (LM pts) → CellVec m rb (LM (roomsTo a pts x)) y → y ≠ some bp →
      (∀ hK m', Ext hI0 hK → Beside hK m' → (∃ y : Nat, (y : Int) < n ∧ pts.getD a.toNat 0 < pts.getD y 0) → K (.bool false) (over hK m')) → (∀ y : Nat, y < x → pts.getD y 0 ≤ pts.getD a.toNat 0) →
      (∀ (hK : Heap) (m' : PMap) (y' : Option Nat), Ext hI0 hK → Beside hK m' → CellVec m' rb (LM (roomsTo a pts n.toNat)) y' → (∀ y : Nat, (y : Int) < n → pts.getD y 0 ≤ pts.getD a.toNat 0) →
        ∃ x104A : Option Addr, ∃ x104l : Nat, ∃ x104c : Nat, (over hK m').get lb 0 = some (.slice x104A x104l x104c) ∧ (x104l : Int) = (x104l : Int) ∧ 0 ≤ (x104l : Int) ∧ (x104l : Int) * 24 ≤ 281474976710656 ∧ (x104l : Int) ≤ 9223372036854775807 ∧
        SAlloc (over hK m') (List.replicate (Int.toNat (x104l : Int)) (.slice none 0 0)) fun b105 h106 => SAlloc h106 [.slice none 0 0] fun b107 h108 => SStore h108 b107 0 [.slice (some ⟨b105, 0, none⟩) (Int.toNat (x104l : Int)) (Int.toNat (x104l : Int))] fun h109 => SAlloc h109 [.nilFunc] fun b110 h111 =>
        SStore h111 b110 0 [.func (.func I.Schedule.canBeFirst.c1.id) #[] (#[.pointer (some ⟨lb, 0, none⟩), .pointer (some ⟨rb, 0, none⟩), .pointer (some ⟨b107, 0, none⟩), .pointer (some ⟨b110, 0, none⟩)])] fun h112 =>
        ∃ x113A : Option Addr, ∃ x113l : Nat, ∃ x113c : Nat, h112.get lb 0 = some (.slice x113A x113l x113c) ∧ I.Schedule.canBeFirst.L3 K (.pointer (some ⟨bs, 0, none⟩)) (.pointer (some ⟨b110, 0, none⟩)) (.int .i64 (x113l : Int)) (.int .i64 0) h112) →
      I.Schedule.canBeFirst.L2 K (.int .i64 a) (.pointer (some ⟨bs, 0, none⟩)) (.slice (some ⟨bp, 0, none⟩) n.toNat n.toNat) (.pointer (some ⟨lb, 0, none⟩)) (.pointer (some ⟨rb, 0, none⟩)) (.slice (some ⟨bp, 0, none⟩) n.toNat n.toNat) (.int .i64 n.toNat) (.int .i64 x) (over hJ m) := by
  intro k
  induction k with
  | zero =>
    intro x hJ m y hx he hB hm C hy hno hyes hk
    have ex : x = n.toNat := by omega
    subst ex
    refine I.Schedule.canBeFirst.L2_step K _ _ _ _ _ _ _ _ _ _ _ _ _ _ _ _ (dec_split (fun hc => by omega) (fun _ => ?_))
    exact hk hJ m y he hB C (fun z hz => hyes z (by omega))
  | succ k ih =>
    intro x hJ m y hx he hB hm C hy hno hyes hk
    refine I.Schedule.canBeFirst.L2_step K _ _ _ _ _ _ _ _ _ _ _ _ _ _ _ _ (dec_split (fun hc => ?_) (fun hc => by omega))
    have hm0 : m bp = some (LM pts ++ []) := by rw [List.append_nil]; exact hm
    refine over_rd hm0 (by omega) (by omega) (by omega) (over_rd hm0 (by omega) a0 (by omega) (dec_split (fun hlt => ?_) (fun hge => ?_)))
    · rw [Int.toNat_natCast] at hlt
      exact hno hJ m he hB ⟨x, by omega, hlt⟩
    · obtain ⟨A, l, c, hg, hs⟩ := C.push (bytes := 8) (z := [.int .i64 0]) (u := .int .i64 (roomAt a pts x)) (K := fun h103 => I.Schedule.canBeFirst.L2 K (.int .i64 a) (.pointer (some ⟨bs, 0, none⟩)) (.slice (some ⟨bp, 0, none⟩) n.toNat n.toNat) (.pointer (some ⟨lb, 0, none⟩)) (.pointer (some ⟨rb, 0, none⟩)) (.slice (some ⟨bp, 0, none⟩) n.toNat n.toNat) (.int .i64 n.toNat) (.int .i64 (IntKind.wrap .i64 ((x : Int) + 1))) h103)
        hB (by rw [LM, List.length_map, roomsTo_len]; omega) (by omega) rfl rfl (fun hK m' x' eK hB' C' hoth hx' => by
          rw [wsucc (by omega)]
          have hx'p : x' ≠ some bp := by
            rcases hx' with h | ⟨b, h, hb⟩
            · rw [h]; exact hy
            · intro e; rw [h] at e; cases e; rw [hm] at hb; cases hb
          refine ih (x + 1) hK m' x' (by omega) (he.trans eK) hB' (by rw [hoth bp hrp.symm hy hx'p]; exact hm) ?_ hx'p hno (fun z hz => ?_) hk
          · rw [roomsTo_succ]
            have : LM (roomsTo a pts x ++ [roomAt a pts x]) = LM (roomsTo a pts x) ++ [.int .i64 (roomAt a pts x)] := by simp [LM]
            rw [this]; exact C'
          · by_cases hzx : z = x
            · rw [hzx]; rw [Int.toNat_natCast] at hge; omega
            · exact hyes z (by omega))
      refine ⟨A, l, c, hg, over_rd hm0 (by omega) a0 (by omega) ?_⟩
      rw [Int.toNat_natCast]
      exact hs

/-- The owners' memory without marks. -/
structure ORows (m : PMap) (br bo : Nat) (sr : List Value) (rows : List (List Int)) (room : List Int) : Prop where
  r : m br = some (LM room ++ sr)
  n1 : br ≠ bo
  o : ∃ (os : List Value) (xs : Nat → Option Nat), m bo = some os ∧ os.length = rows.length ∧ (∀ j, j < rows.length → RowAt m (os.getD j undef) (rows.getD j []) (xs j)) ∧
    (∀ j b, j < rows.length → xs j = some b → b ≠ br ∧ b ≠ bo) ∧ (∀ j j' b, j < rows.length → j' < rows.length → xs j = some b → xs j' = some b → j = j')
theorem OMem.rows {m : PMap} {br bo bm : Nat} {sr st : List Value} {rows : List (List Int)} {room : List Int} {met : List Bool} (M : OMem m br bo bm sr st rows room met) : ORows m br bo sr rows room :=
  let ⟨os, xs, o1, o2, o3, o4, o5⟩ := M.o
  ⟨M.r, M.n1, os, xs, o1, o2, o3, fun j b hj hb => ⟨(o4 j b hj hb).1, (o4 j b hj hb).2.1⟩, o5⟩
theorem ORows.mark {m : PMap} {br bo : Nat} {sr : List Value} {rows : List (List Int)} {room : List Int} (M : ORows m br bo sr rows room) {b : Nat} (hb : m b = none) (met' : List Bool) (st' : List Value) : OMem (m.put b (BL met' ++ st')) br bo b sr st' rows room met' := by
  obtain ⟨os, xs, o1, o2, o3, o4, o5⟩ := M.o
  have hbr : br ≠ b := fun e => by have := M.r; rw [e, hb] at this; cases this
  have hbo : bo ≠ b := fun e => by rw [e, hb] at o1; cases o1
  have hx : ∀ j y, j < rows.length → xs j = some y → y ≠ b := by
    intro j y hj hy e
    rcases o3 j hj with ⟨h1, _⟩ | ⟨b', c, sp, h1, _, h3, _⟩
    · rw [h1] at hy; cases hy
    · rw [h1] at hy; cases hy; rw [e, hb] at h3; cases h3
  exact ⟨by rw [put_ne _ _ hbr]; exact M.r, put_self _ _ _, M.n1, hbr, hbo, os, xs, by rw [put_ne _ _ hbo]; exact o1, o2, fun j hj => (o3 j hj).congr fun y hy => put_ne _ _ (hx j y hj hy), fun j y hj hy => ⟨(o4 j y hj hy).1, (o4 j y hj hy).2, hx j y hj hy⟩, o5⟩

theorem I.Schedule.canBeFirst.share {n : Int} {games : List (List Int)} {cap : List Int} {G : Option Addr} {L cG : Nat} {hI0 : Heap} {bs lb rb ob gb br bo cr cO : Nat} {sr : List Value} (h0 : 0 ≤ n) (h14 : n ≤ 14) (hn : hI0.get bs (0 + 0) = some (.int .i64 n)) (hG : Tab hI0 G games) (hL : games.length = L) (hLb : L ≤ 1048576)
    (htm : ∀ i, i < L → (games.getD i []).length = 2 ∧ ∀ k, k < 2 → 0 ≤ tm games i k ∧ tm games i k < n.toNat) (hcap : ∀ x : Nat, x < n.toNat → cap.getD x 0 ≤ 9223372036854775807)
    (hlc : hI0.get lb 0 = some (.slice G L cG)) (hrc : hI0.get rb 0 = some (.slice (some ⟨br, 0, none⟩) n.toNat cr)) (hoc : hI0.get ob 0 = some (.slice (some ⟨bo, 0, none⟩) L cO))
    (hgc : hI0.get gb 0 = some (.func (.func I.Schedule.canBeFirst.c1.id) #[] (giveCaps lb rb ob gb).toArray)) (K : Value → Heap → Prop)
    (hk : ∀ (hJ : Heap) (m' : PMap), Ext hI0 hJ → Beside hJ m' → ∀ r : Bool, (r = true ↔ Feasible (games.flatMap twice) n.toNat cap) → K (.bool r) (over hJ m')) :
    ∀ (k i : Nat) (hJ : Heap) (m : PMap) (rows : List (List Int)) (room : List Int), i + k = L → Ext hI0 hJ → Beside hJ m → ORows m br bo sr rows room → Sh2 games n.toNat cap rows room i 0 →
      I.Schedule.canBeFirst.L3 K (.pointer (some ⟨bs, 0, none⟩)) (.pointer (some ⟨gb, 0, none⟩)) (.int .i64 L) (.int .i64 i) (over hJ m) := by
  intro k
  induction k with
  | zero =>
    intro i hJ m rows room hi he hB hO hs
    have ei : i = games.length := by omega
    subst ei
    refine I.Schedule.canBeFirst.L3_step K _ _ _ _ _ _ _ (dec_split (fun hc => by omega) (fun _ => ?_))
    exact hk hJ m he hB true ⟨fun _ => hs.all, fun _ => rfl⟩
  | succ k ih =>
    intro i hJ m rows room hi he hB hO hs
    have hig : i < games.length := by omega
    refine I.Schedule.canBeFirst.L3_step K _ _ _ _ _ _ _ (dec_split (fun _ => ?_) (fun hc => by omega))
    have two : ∀ (qq q : Nat) (hJ : Heap) (m : PMap) (rows : List (List Int)) (room : List Int), q + qq = 2 → Ext hI0 hJ → Beside hJ m → ORows m br bo sr rows room → Sh2 games n.toNat cap rows room i q →
        I.Schedule.canBeFirst.L4 K (.pointer (some ⟨bs, 0, none⟩)) (.pointer (some ⟨gb, 0, none⟩)) (.int .i64 i) (.int .i64 L) (.int .i64 i) (.int .i64 q) (over hJ m) := by
      intro qq
      induction qq with
      | zero =>
        intro q hJ m rows room hq he hB hO hs
        have eq2 : q = 2 := by omega
        subst eq2
        refine I.Schedule.canBeFirst.L4_step K _ _ _ _ _ _ _ _ _ (dec_split (fun hc => by omega) (fun _ => ?_))
        rw [wsucc (by omega)]
        exact ih (i + 1) hJ m rows room (by omega) he hB hO hs.next
      | succ qq ihq =>
        intro q hJ m rows room hq he hB hO hs
        refine I.Schedule.canBeFirst.L4_step K _ _ _ _ _ _ _ _ _ (dec_split (fun _ => ?_) (fun hc => by omega))
        have eB := over_ext hB
        refine ⟨_, _, eB.get (he.get hgc), n, eB.get (he.get hn), rfl, h0, by omega, by omega, rfl, h0, by omega, by omega, fun bm hf => ?_⟩
        have ecells : List.replicate n.toNat (Value.bool false) = BL (List.replicate n.toNat false) ++ [] := by simp [BL]
        rw [ecells, over_put]
        have hB2 := hB.new hf (BL (List.replicate n.toNat false) ++ [])
        have hM := hO.mark (over_fresh hf).2 (List.replicate n.toNat false) []
        have hmet : ∀ x, metB (List.replicate n.toNat false) x = false := fun x => by
          unfold metB
          rw [List.getD_eq_getElem?_getD, List.getElem?_replicate]
          split <;> rfl
        refine (I.Schedule.canBeFirst.c1.spec hG hL hLb htm hlc hrc hoc hgc (left (List.replicate n.toNat false) + 1) rows room (List.replicate n.toNat false) hJ _ i (Nat.lt_succ_self _) he (hs.sl.trans hL) hs.rl (by simp) (fun x hx => ⟨hs.pos x hx, ?_⟩) hs.own (hs.le2 (by omega)) (by omega) hM hB2).mono ?_
        · have := hs.inv x hx
          have := hcap x hx
          omega
        rintro u h2 ⟨r, rows', room', met', hK, m', rfl, rfl, eK, hB3, hM3, hT, hF⟩
        refine ⟨r, rfl, nbool_split (fun hr0 => ?_) (fun hr1 => ?_)⟩
        · obtain ⟨rfl, rfl, F⟩ := hF hr0
          exact hk hK m' (he.trans eK) hB3 false ⟨fun h => (by cases h), fun hfe => absurd hfe (hs.cannot (by omega) hig hmet F (fun j hj => htm j (by omega)))⟩
        · rw [wsucc (by omega)]
          exact ihq (q + 1) hK m' rows' room' (by omega) (he.trans eK) hB3 hM3.rows (hs.step (hT hr1))
    exact two 2 0 hJ m rows room rfl he hB hO hs

end Go.Proofs.Ythkbodgpcjcndaa

/- Whether a team can be first, as the program tells it, whole. -/
set_option linter.unusedVariables false
set_option linter.unusedSimpArgs false
namespace Go.Proofs.Ythkbodgpcjcndaa
open Go.HL

theorem I.Schedule.canBeFirst.spec {n a : Int} {A B : Option Addr} {rs xss : List (List Int)} {l c m d : Nat} {h : Heap} (s : Rds h A rs) (hl : rs.length = l) (hlc : l ≤ c) (x : Tab h B xss) (hm : xss.length = m)
    (hsok : scheduleOk n rs = true) (hok : resultsOk n rs xss = true) (ha : hasTeam n a = true) :
    ACalls Try.prog I.Schedule.canBeFirst.id [.agg #[.int .i64 n, .slice A l c], .slice B m d, .int .i64 a] h fun u h2 => Ext h h2 ∧ ∃ r : Bool, u = .bool r ∧ (r = true ↔ FirstOk n a rs xss) := by
  obtain ⟨k1, k2, k3, k4⟩ := scheduleOk_facts hsok
  have h0 : 0 ≤ n := by omega
  simp only [hasTeam, Bool.and_eq_true, decide_eq_true_eq] at ha
  obtain ⟨a0, an⟩ := ha
  have hml : xss.length ≤ rs.length := by
    simp only [resultsOk, Bool.and_eq_true, decide_eq_true_eq] at hok; exact hok.1
  refine I.Schedule.canBeFirst.step _ _ _ _ _ _ _ _ _ h fun b hf => ⟨n, A, l, c, by simp [Heap.getN], ?_⟩
  have e := Ext.upd hf (.cells [.int .i64 n, .slice A l c])
  have hn : (h.upd b (.cells [.int .i64 n, .slice A l c])).get b (0 + 0) = some (.int .i64 n) := by simp
  have hs : (h.upd b (.cells [.int .i64 n, .slice A l c])).get b 1 = some (.slice A l c) := by simp
  generalize h.upd b (.cells [.int .i64 n, .slice A l c]) = h1 at *
  refine (I.Schedule.points.spec (s.mono e) hl (x.mono e) hm hsok hok).mono ?_
  rintro u h2 ⟨e2, bp, f2, rfl, ho⟩
  obtain ⟨hI, eI, hB, rfl⟩ := carve e2 f2 ho
  refine ⟨_, _, _, rfl, fun b12 hf12 => ?_⟩
  rw [over_put]
  intro lb hfl
  rw [over_put]
  have hm1 := (over_fresh hf12).2
  have hm2 := (over_fresh hfl).2
  have nb : bp ≠ b12 := fun e => by rw [← e, only_self] at hm1; cases hm1
  have nl : lb ≠ b12 := fun e => by rw [e, put_self] at hm2; cases hm2
  have nbl : bp ≠ lb := fun e => by rw [← e, put_ne _ _ nb, only_self] at hm2; cases hm2
  have hB1 := hB.new hf12 []
  have hB2 := hB1.new hfl [.slice none 0 0]
  refine over_store (put_self _ _ _) (by simp) (by simp [Value.oneCell']) ?_
  have hB3 := hB2.put (b := lb) (by rw [put_self]; simp) (splice [.slice none 0 0] 0 [.slice (some ⟨b12, 0, none⟩) 0 0])
  have eh := over_ext hB3
  obtain ⟨A', hsl, hrs⟩ := Rds.drop (s.mono (e.trans eI)) hl hlc (m := m) (by omega)
  refine ⟨A, l, c, eh.get (eI.get hs), A', _, _, hsl, ?_⟩
  have hst : ISt hI ((((only bp (LM (summedM (fun _ own => own) n rs xss))).put b12 []).put lb [.slice none 0 0]).put lb (splice [.slice none 0 0] 0 [.slice (some ⟨b12, 0, none⟩) 0 0])) bp lb n (summedM (fun _ own => own) n rs xss) [] := by
    refine ⟨hB3, by rw [put_ne _ _ nbl, put_ne _ _ nbl, put_ne _ _ nb, only_self], summed_len _ _ _ _ h0, ⟨[], some b12, ⟨⟨_, ?_, .inr ⟨b12, 0, [], rfl, rfl, ?_, rfl, Nat.le_refl _⟩⟩, fun e => nl (by cases e; rfl)⟩, Each.nil _, fun e => nb (by cases e; rfl)⟩, nbl⟩
    · rw [put_self]; simp [splice]
    · rw [put_ne _ _ nl.symm, put_ne _ _ nl.symm, put_self]; rfl
  refine I.Schedule.canBeFirst.outer (R := A') (rc := c - m) a0 (by omega) k2 hrs (by rw [List.length_drop]; omega) (by omega) (eI.get hn) _ (l - m) 0 _ [] hI _ (by omega) (Ext.refl _) hst (by simp) ?_
  intro pts' gs' hK m' eK s3 hl' hp' hg' b74 hf74
  have epts : pts' = endPts n a rs xss := by rw [hp', endPts, hm, List.drop_zero]
  have egs : gs' = leftOf a (allPairs n (rs.drop m)) := by rw [hg', List.nil_append, List.drop_zero]
  have hplen := s3.plen
  have hinb := endPts_InB (a := a) (xss := xss) hsok
  rw [← epts] at hinb
  obtain ⟨hF, m4, G, cG, eF, hBF, eov, hlc4, hTab, hbp4⟩ := s3.freeze
  rw [eov] at hf74 ⊢
  have hnF : hF.get b (0 + 0) = some (.int .i64 n) := eF.get (eK.get (eI.get hn))
  have eAll : Ext h hF := (e.trans eI).trans (eK.trans eF)
  rw [over_put]
  intro rb hfr
  rw [over_put]
  have hr1 := (over_fresh hf74).2
  have hr2 := (over_fresh hfr).2
  have n1 : bp ≠ b74 := fun e => by rw [← e, hbp4] at hr1; cases hr1
  have n2 : rb ≠ b74 := fun e => by rw [e, put_self] at hr2; cases hr2
  have n3 : rb ≠ bp := fun e => by rw [e, put_ne _ _ n1, hbp4] at hr2; cases hr2
  have hB5 := hBF.new hf74 []
  have hB6 := hB5.new hfr [.slice none 0 0]
  refine over_store (put_self _ _ _) (by simp) (by simp [Value.oneCell']) ?_
  have hB7 := hB6.put (b := rb) (by rw [put_self]; simp) (splice [.slice none 0 0] 0 [.slice (some ⟨b74, 0, none⟩) 0 0])
  refine I.Schedule.canBeFirst.rooms (hI0 := hF) (pts := pts') a0 (by omega) k2 hplen n3 _ n.toNat 0 hF _ (some b74) (by omega) (Ext.refl _) hB7 (by rw [put_ne _ _ n3.symm, put_ne _ _ n3.symm, put_ne _ _ n1]; exact hbp4) ?_ (fun e => n1 (by cases e; rfl)) ?_ (fun y hy => by omega) ?_
  · refine ⟨⟨_, ?_, .inr ⟨b74, 0, [], rfl, rfl, ?_, rfl, Nat.le_refl _⟩⟩, fun e => n2 (by cases e; rfl)⟩
    · rw [put_self]; simp [splice, roomsTo]
    · rw [put_ne _ _ n2.symm, put_ne _ _ n2.symm, put_self]; rfl
  · intro hL m8 eL hB8 ⟨y, hy, hlt⟩
    refine ⟨eAll.trans (eL.trans (over_ext hB8)), false, rfl, ⟨fun h => (by cases h), fun hfo => ?_⟩⟩
    have := hfo.1 y hy
    rw [← epts, roomAt_eq hinb (by omega)] at this
    omega
  intro hL m8 y8 eL hB8 C8 hpos
  -- the rooms are there; nothing of them is a variable any more
  have eB8 := over_ext hB8
  have hLg : gs'.length ≤ 560 := by omega
  refine ⟨G, _, cG, eB8.get (eL.get hlc4), rfl, by omega, by omega, by omega, fun bo hfo => ?_⟩
  obtain ⟨v8, v81, v82⟩ := C8.cell
  obtain ⟨z1, z2, z3⟩ := over_freeze hB8 v81
  rcases v82 with ⟨_, _, hnil⟩ | ⟨br, cr, sr, rfl, rfl, v83, v84, v85⟩
  · have := congrArg List.length hnil
    simp [roomsTo] at this; omega
  have hbrb : br ≠ rb := fun e => C8.ne (by rw [e])
  have elen : (LM (roomsTo a pts' n.toNat)).length = n.toNat := by rw [LM, List.length_map, roomsTo_len]
  have hrc8 : (hL.upd rb (.cells [.slice (some ⟨br, 0, none⟩) n.toNat cr])).get rb 0 = some (.slice (some ⟨br, 0, none⟩) n.toNat cr) := by rw [get_upd, if_pos rfl]; rfl
  rw [elen] at z1 z2 z3
  rw [z1] at hfo ⊢
  have hbr9 : (PMap.del m8 rb) br = some (LM (roomsTo a pts' n.toNat) ++ sr) := by rw [del_ne _ hbrb]; exact v83
  generalize hL.upd rb (.cells [.slice (some ⟨br, 0, none⟩) n.toNat cr]) = hM at *
  generalize PMap.del m8 rb = m9 at *
  rw [over_put, Int.toNat_natCast]
  have hbo1 := (over_fresh hfo).2
  have nbo : br ≠ bo := fun e => by rw [← e, hbr9] at hbo1; cases hbo1
  have hB10 := z2.new hfo (List.replicate gs'.length (.slice none 0 0))
  have hm10 : (m9.put bo (List.replicate gs'.length (.slice none 0 0))) br = some (LM (roomsTo a pts' n.toNat) ++ sr) := by rw [put_ne _ _ nbo]; exact hbr9
  have hbo10 := put_self m9 bo (List.replicate gs'.length (Value.slice none 0 0))
  generalize m9.put bo (List.replicate gs'.length (.slice none 0 0)) = m10 at *
  intro ob hfob
  refine ⟨[.slice none 0 0], Heap.upd_own_self _ _ _, by simp, by simp [Value.oneCell'], ?_⟩
  rw [upd_upd, over_base hfob]
  have eOb := Ext.upd (over_fresh hfob).1 (.cells (splice [.slice none 0 0] 0 [.slice (some ⟨bo, 0, none⟩) gs'.length gs'.length]))
  have hB11 := hB10.base hfob (.cells (splice [.slice none 0 0] 0 [.slice (some ⟨bo, 0, none⟩) gs'.length gs'.length]))
  have hoc : (hM.upd ob (.cells (splice [.slice none 0 0] 0 [.slice (some ⟨bo, 0, none⟩) gs'.length gs'.length]))).get ob 0 = some (.slice (some ⟨bo, 0, none⟩) gs'.length gs'.length) := by rw [get_upd, if_pos rfl]; simp [splice]
  generalize hM.upd ob (.cells (splice [.slice none 0 0] 0 [.slice (some ⟨bo, 0, none⟩) gs'.length gs'.length])) = hN at *
  intro gb hfgb
  refine ⟨[.nilFunc], Heap.upd_own_self _ _ _, by simp, by simp [Value.oneCell'], ?_⟩
  rw [upd_upd, over_base hfgb]
  have eGb := Ext.upd (over_fresh hfgb).1 (.cells (splice [.nilFunc] 0 [.func (.func I.Schedule.canBeFirst.c1.id) #[] (#[.pointer (some ⟨lb, 0, none⟩), .pointer (some ⟨rb, 0, none⟩), .pointer (some ⟨ob, 0, none⟩), .pointer (some ⟨gb, 0, none⟩)])]))
  have hB12 := hB11.base hfgb (.cells (splice [.nilFunc] 0 [.func (.func I.Schedule.canBeFirst.c1.id) #[] (#[.pointer (some ⟨lb, 0, none⟩), .pointer (some ⟨rb, 0, none⟩), .pointer (some ⟨ob, 0, none⟩), .pointer (some ⟨gb, 0, none⟩)])]))
  have hgc : (hN.upd gb (.cells (splice [.nilFunc] 0 [.func (.func I.Schedule.canBeFirst.c1.id) #[] (#[.pointer (some ⟨lb, 0, none⟩), .pointer (some ⟨rb, 0, none⟩), .pointer (some ⟨ob, 0, none⟩), .pointer (some ⟨gb, 0, none⟩)])]))).get gb 0 = some (.func (.func I.Schedule.canBeFirst.c1.id) #[] (giveCaps lb rb ob gb).toArray) := by rw [get_upd, if_pos rfl]; simp [splice]
  generalize hN.upd gb (.cells (splice [.nilFunc] 0 [.func (.func I.Schedule.canBeFirst.c1.id) #[] (#[.pointer (some ⟨lb, 0, none⟩), .pointer (some ⟨rb, 0, none⟩), .pointer (some ⟨ob, 0, none⟩), .pointer (some ⟨gb, 0, none⟩)])])) = hO at *
  have eLO := (z3.trans eOb).trans eGb
  have hlcO := eLO.get (eL.get hlc4)
  refine ⟨_, _, _, (over_ext hB12).get hlcO, ?_⟩
  have hcap : ∀ x : Nat, x < n.toNat → (roomsTo a pts' n.toNat).getD x 0 ≤ 9223372036854775807 := fun x hx => by rw [roomsTo_get _ _ hx]; exact wrap_le _
  have hpos2 : ∀ y : Nat, (y : Int) < n → 0 ≤ roomAt a pts' y := fun y hy => by
    have := hpos y hy
    rw [roomAt_eq hinb (by omega)]; omega
  have htm : ∀ i, i < gs'.length → (gs'.getD i []).length = 2 ∧ ∀ k, k < 2 → 0 ≤ tm gs' i k ∧ tm gs' i k < n.toNat := by
    intro i hi
    have hmem := getD_mem (d := []) hi
    have hall : ∀ p ∈ gs', p.length = 2 ∧ 0 ≤ p.getD 0 0 ∧ p.getD 0 0 < p.getD 1 0 ∧ p.getD 1 0 < n := by
      intro p hp
      refine leftGames_mem (a := a) (m := m) h0 k4 ?_
      rw [egs] at hp
      rw [leftGames, List.mem_flatMap]
      exact ⟨p, hp, by simp [twice]⟩
    obtain ⟨p1, p2, p3, p4⟩ := hall _ hmem
    refine ⟨p1, fun k hk => ?_⟩
    unfold tm
    rcases (by omega : k = 0 ∨ k = 1) with rfl | rfl <;> omega
  refine I.Schedule.canBeFirst.share (games := gs') (cap := roomsTo a pts' n.toNat) (sr := sr) h0 k2 (eLO.get (eL.get hnF)) ((hTab.mono eL).mono eLO) rfl (by omega) htm hcap hlcO ((eOb.trans eGb).get hrc8) (eGb.get hoc) hgc _ ?_ gs'.length 0 hO m10 (List.replicate gs'.length []) (roomsTo a pts' n.toNat) (by omega) (Ext.refl _) hB12 ?_ ?_
  · intro hP m11 eP hB13 r hr
    refine ⟨(eAll.trans eL).trans (eLO.trans (eP.trans (over_ext hB13))), r, rfl, hr.trans ?_⟩
    rw [FirstOk, leftGames, hm, ← epts, egs]
    exact ⟨fun h => ⟨hpos2, h⟩, fun h => h.2⟩
  · refine ⟨hm10, nbo, _, fun _ => none, hbo10, by simp, fun j hj => ?_, fun j b hj hb => (by cases hb), fun j j' b hj hj' hb => (by cases hb)⟩
    rw [List.length_replicate] at hj
    refine .inl ⟨rfl, ?_, ?_⟩
    · simp [List.getD_eq_getElem?_getD, hj]
    · simp [List.getD_eq_getElem?_getD, hj]
  · have hnil : ∀ j, (List.replicate gs'.length ([] : List Int)).getD j [] = [] := fun j => by
      rw [List.getD_eq_getElem?_getD, List.getElem?_replicate]; split <;> rfl
    refine ⟨by simp, roomsTo_len _ _ _, fun j hj => ?_, fun j x hx => (by rw [hnil] at hx; cases hx), fun x hx => ?_, fun x hx => by rw [roomsTo_get _ _ hx]; exact hpos2 x (by omega)⟩
    · rw [hnil, if_neg (by omega)]; split <;> rfl
    · have : cnt (List.replicate gs'.length []) (x : Int) = 0 := by simp [cnt]
      rw [this]; simp

end Go.Proofs.Ythkbodgpcjcndaa

/- FirstTeams, as both tell it, and its law. -/
set_option linter.unusedVariables false
set_option linter.unusedSimpArgs false
namespace Go.Proofs.Ythkbodgpcjcndaa
open Go.HL

open Classical in
noncomputable def firstList (n : Int) (rs xss : List (List Int)) : Nat → List Int
  | 0 => []
  | k + 1 => firstList n rs xss k ++ (if FirstOk n (k : Int) rs xss then [(k : Int)] else [])
theorem firstList_len (n : Int) (rs xss : List (List Int)) : ∀ k, (firstList n rs xss k).length ≤ k
  | 0 => Nat.le_refl _
  | k + 1 => by
    have := firstList_len n rs xss k
    rw [firstList, List.length_append]
    split <;> simp <;> omega
/-- What FirstTeams answers. -/
def TeamsAns (n : Int) (rs xss : List (List Int)) (xs : List Int) (code : Int) : Prop :=
  code = schedCode n rs (resultsOk n rs xss) ∧ (code = 0 → xs = firstList n rs xss n.toNat) ∧ (code ≠ 0 → xs = [])
theorem TeamsAns.eq {n : Int} {rs xss : List (List Int)} {xs xs' : List Int} {code code' : Int} (h : TeamsAns n rs xss xs code) (k : TeamsAns n rs xss xs' code') : xs = xs' ∧ code = code' := by
  have hc : code = code' := h.1.trans k.1.symm
  subst hc
  by_cases h0 : code = 0
  · exact ⟨(h.2.1 h0).trans (k.2.1 h0).symm, rfl⟩
  · exact ⟨(h.2.2 h0).trans (k.2.2 h0).symm, rfl⟩
theorem TeamsAns.len {n : Int} {rs xss : List (List Int)} {xs : List Int} {code : Int} (h : TeamsAns n rs xss xs code) : xs.length ≤ 14 := by
  by_cases h0 : code = 0
  · have h1 := h.1
    rw [h0] at h1
    obtain ⟨hok, _⟩ := schedCode_zero.1 h1.symm
    obtain ⟨k1, k2, _, _⟩ := scheduleOk_facts hok
    have := firstList_len n rs xss n.toNat
    rw [h.2.1 h0]; omega
  · rw [h.2.2 h0]; simp

theorem I.FirstTeams.spec {n : Int} {A B : Option Addr} {rs xss : List (List Int)} {l c m d : Nat} {h : Heap} (s : Rds h A rs) (hl : rs.length = l) (hlc : l ≤ c) (x : Tab h B xss) (hm : xss.length = m) (hx : ∀ xs ∈ xss, xs.length ≤ 1048576) :
    ACalls Try.prog I.FirstTeams.id [.agg #[.int .i64 n, .slice A l c], .slice B m d] h fun u h2 => Ext h h2 ∧ ∃ C xs cc code, u = .tuple #[.slice C xs.length cc, .int .i64 code] ∧ TeamsAns n rs xss xs code ∧ ResO h h2 C xs := by
  refine I.FirstTeams.step _ _ _ _ _ _ _ _ h fun b4 hf4 => ?_
  have e := Ext.upd hf4 (.cells [.int .i64 n, .slice A l c])
  have hg4 : (h.upd b4 (.cells [.int .i64 n, .slice A l c])).getN b4 0 2 = some [.int .i64 n, .slice A l c] := by simp [Heap.getN]
  have hn4 : (h.upd b4 (.cells [.int .i64 n, .slice A l c])).get b4 0 = some (.int .i64 n) := by simp
  generalize h.upd b4 (.cells [.int .i64 n, .slice A l c]) = h1 at *
  refine ⟨n, A, l, c, hg4, (I.resultsCode.spec (right := true) (s.mono e) hl (x.mono e) hm hx fun hok h2 e2 => I.always.spec).mono ?_⟩
  rintro u h2 ⟨e2, rfl⟩
  rw [Bool.and_true]
  refine ⟨_, rfl, ndec_split (fun hne => ⟨e.trans e2, none, [], 0, _, rfl, ⟨rfl, fun h => absurd h hne, fun _ => rfl⟩, .inl ⟨rfl, rfl⟩⟩) (fun h0 => ?_)⟩
  obtain ⟨hok, hr⟩ := schedCode_zero.1 h0
  obtain ⟨k1, k2, k3, k4⟩ := scheduleOk_facts hok
  intro b11 hf11
  have e12 := e.trans e2
  have loop : ∀ (k a : Nat) (C : Option Addr) (lc cc : Nat) (hI h' : Heap), (a : Int) + k = n → Ext h2 hI → Vec hI h' C lc cc 1 (LM (firstList n rs xss a)) →
      I.FirstTeams.L0 (fun u h2 => Ext h h2 ∧ ∃ C xs cc code, u = .tuple #[.slice C xs.length cc, .int .i64 code] ∧ TeamsAns n rs xss xs code ∧ ResO h h2 C xs) (.slice B m d) (.pointer (some ⟨b4, 0, none⟩)) (.slice C lc cc) (.int .i64 n) (.int .i64 a) h' := by
    intro k
    induction k with
    | zero =>
      intro a C lc cc hI h' ha he v
      have ea : a = n.toNat := by omega
      refine I.FirstTeams.L0_step _ _ _ _ _ _ _ _ _ _ _ _ (dec_split (fun hc => by omega) (fun _ => ⟨(e12.trans he).trans v.ext, C, firstList n rs xss a, cc, 0, ?_, ⟨h0.symm, fun _ => by rw [ea], fun h => absurd rfl h⟩, Vec.reso v (e12.trans he)⟩))
      have := v.len
      rw [LM, List.length_map, Nat.mul_one] at this
      rw [this]
    | succ k ih =>
      intro a C lc cc hI h' ha he v
      have hlen : lc ≤ 14 := by
        have h1 := v.len
        have h2 := firstList_len n rs xss a
        rw [LM, List.length_map, Nat.mul_one] at h1; omega
      refine I.FirstTeams.L0_step _ _ _ _ _ _ _ _ _ _ _ _ (dec_split (fun hc => ?_) (fun hc => by omega))
      have eh := he.trans v.ext
      refine ⟨n, A, l, c, (e2.trans eh).getN hg4, (v.call (I.Schedule.canBeFirst.spec (a := (a : Int)) (s.mono (e12.trans he)) hl hlc (x.mono (e12.trans he)) hm hok hr ?_)).mono ?_⟩
      · simp only [hasTeam, Bool.and_eq_true, decide_eq_true_eq]; omega
      rintro u h3 ⟨hJ, v3, eJ, r, rfl, hiff⟩
      refine ⟨r, rfl, bool_split (fun hr1 => ?_) (fun hr0 => ?_)⟩
      · intro b25 hf25
        obtain ⟨v4, f4⟩ := v3.beside hf25 (.cells [.int .i64 (a : Int)])
        have e4 := Ext.upd f4 (.cells [.int .i64 (a : Int)])
        refine v4.append (m := 1) (news := [.int .i64 (a : Int)]) (Seg.row (Seg.new' _ _ _) rfl) rfl (by simp [Value.oneCell']) (by omega) (by omega) rfl fun hK h5 A' c' eK v5 => ⟨_, _, _, rfl, ?_⟩
        rw [wsucc (by omega)]
        refine ih (a + 1) A' (lc + 1) c' hK h5 (by omega) ((he.trans eJ).trans (e4.trans eK)) ?_
        rw [firstList, if_pos (hiff.1 hr1)]
        have : LM (firstList n rs xss a ++ [(a : Int)]) = LM (firstList n rs xss a) ++ [.int .i64 (a : Int)] := by simp [LM]
        rw [this]; exact v5
      · rw [wsucc (by omega)]
        refine ih (a + 1) C lc cc hJ h3 (by omega) (he.trans eJ) ?_
        have hno : ¬ FirstOk n (a : Int) rs xss := fun hf => by rw [hiff.2 hf] at hr0; cases hr0
        rw [firstList, if_neg hno, List.append_nil]; exact v3
  refine ⟨n, ((e2.trans (Ext.upd hf11 _)).get hn4), loop n.toNat 0 _ 0 0 h2 _ (by omega) (Ext.refl _) (by simpa [firstList] using Vec.made (l := 0) (sz := 1) (cs := []) hf11 rfl)⟩

theorem S.FirstTeams.spec {n : Int} {A B : Option Addr} {rs xss : List (List Int)} {l c m d : Nat} {h : Heap} (s : Rds h A rs) (hl : rs.length = l) (x : Tab h B xss) (hm : xss.length = m) (hx : ∀ xs ∈ xss, xs.length ≤ 1048576) :
    ACalls Try.prog S.FirstTeams.id [.agg #[.int .i64 n, .slice A l c], .slice B m d] h fun u h2 => Ext h h2 ∧ ∃ C xs cc code, u = .tuple #[.slice C xs.length cc, .int .i64 code] ∧ TeamsAns n rs xss xs code ∧ ResO h h2 C xs := by
  refine S.FirstTeams.step _ _ _ _ _ _ _ _ h fun b4 hf4 => ?_
  have e := Ext.upd hf4 (.cells [.int .i64 n, .slice A l c])
  have hg4 : (h.upd b4 (.cells [.int .i64 n, .slice A l c])).getN b4 0 2 = some [.int .i64 n, .slice A l c] := by simp [Heap.getN]
  have hn4 : (h.upd b4 (.cells [.int .i64 n, .slice A l c])).get b4 (0 + 0) = some (.int .i64 n) := by simp
  generalize h.upd b4 (.cells [.int .i64 n, .slice A l c]) = h1 at *
  refine ⟨n, A, l, c, hg4, (S.l10Code.spec (s.mono e) hl (x.mono e) hm hx (teams := []) (Seg.nil_none _) rfl (by simp)).mono ?_⟩
  rintro u h2 ⟨e2, rfl⟩
  rw [List.all_nil, Bool.and_true]
  refine ⟨_, rfl, ndec_split (fun hne => ⟨e.trans e2, none, [], 0, _, rfl, ⟨rfl, fun h => absurd h hne, fun _ => rfl⟩, .inl ⟨rfl, rfl⟩⟩) (fun h0 => ?_)⟩
  obtain ⟨hok, hr⟩ := schedCode_zero.1 h0
  obtain ⟨k1, k2, k3, k4⟩ := scheduleOk_facts hok
  intro b11 hf11
  have e12 := e.trans e2
  have loop : ∀ (k a : Nat) (C : Option Addr) (lc cc : Nat) (hI h' : Heap), (a : Int) + k = n → Ext h2 hI → Vec hI h' C lc cc 1 (LM (firstList n rs xss a)) →
      S.FirstTeams.L0 (fun u h2 => Ext h h2 ∧ ∃ C xs cc code, u = .tuple #[.slice C xs.length cc, .int .i64 code] ∧ TeamsAns n rs xss xs code ∧ ResO h h2 C xs) (.slice B m d) (.pointer (some ⟨b4, 0, none⟩)) (.slice C lc cc) (.int .i64 a) h' := by
    intro k
    induction k with
    | zero =>
      intro a C lc cc hI h' ha he v
      have ea : a = n.toNat := by omega
      refine S.FirstTeams.L0_step _ _ _ _ _ _ _ _ _ _ _ ⟨n, (e2.trans (he.trans v.ext)).get hn4, dec_split (fun hc => by omega) (fun _ => ⟨(e12.trans he).trans v.ext, C, firstList n rs xss a, cc, 0, ?_, ⟨h0.symm, fun _ => by rw [ea], fun h => absurd rfl h⟩, Vec.reso v (e12.trans he)⟩)⟩
      have := v.len
      rw [LM, List.length_map, Nat.mul_one] at this
      rw [this]
    | succ k ih =>
      intro a C lc cc hI h' ha he v
      have hlen : lc ≤ 14 := by
        have h1 := v.len
        have h2 := firstList_len n rs xss a
        rw [LM, List.length_map, Nat.mul_one] at h1; omega
      have eh := he.trans v.ext
      refine S.FirstTeams.L0_step _ _ _ _ _ _ _ _ _ _ _ ⟨n, (e2.trans eh).get hn4, dec_split (fun hc => ?_) (fun hc => by omega)⟩
      refine ⟨n, A, l, c, (e2.trans eh).getN hg4, (v.call (S.l10First.spec (a := (a : Int)) (s.mono (e12.trans he)) hl (x.mono (e12.trans he)) hm hok hr ?_)).mono ?_⟩
      · simp only [hasTeam, Bool.and_eq_true, decide_eq_true_eq]; omega
      rintro u h3 ⟨hJ, v3, eJ, r, rfl, hiff⟩
      refine ⟨r, rfl, bool_split (fun hr1 => ?_) (fun hr0 => ?_)⟩
      · intro b25 hf25
        obtain ⟨v4, f4⟩ := v3.beside hf25 (.cells [.int .i64 (a : Int)])
        have e4 := Ext.upd f4 (.cells [.int .i64 (a : Int)])
        refine v4.append (m := 1) (news := [.int .i64 (a : Int)]) (Seg.row (Seg.new' _ _ _) rfl) rfl (by simp [Value.oneCell']) (by omega) (by omega) rfl fun hK h5 A' c' eK v5 => ⟨_, _, _, rfl, ?_⟩
        rw [wsucc (by omega)]
        refine ih (a + 1) A' (lc + 1) c' hK h5 (by omega) ((he.trans eJ).trans (e4.trans eK)) ?_
        rw [firstList, if_pos (hiff.1 hr1)]
        have : LM (firstList n rs xss a ++ [(a : Int)]) = LM (firstList n rs xss a) ++ [.int .i64 (a : Int)] := by simp [LM]
        rw [this]; exact v5
      · rw [wsucc (by omega)]
        refine ih (a + 1) C lc cc hJ h3 (by omega) (he.trans eJ) ?_
        have hno : ¬ FirstOk n (a : Int) rs xss := fun hf => by rw [hiff.2 hf] at hr0; cases hr0
        rw [firstList, if_neg hno, List.append_nil]; exact v3
  exact loop n.toNat 0 _ 0 0 h2 _ (by omega) (Ext.refl _) (by simpa [firstList] using Vec.made (l := 0) (sz := 1) (cs := []) hf11 rfl)

end Go.Proofs.Ythkbodgpcjcndaa

/- Plain laws of results: points are twice the meetings played; rankings go down by points; somebody can be first. -/
set_option linter.unusedVariables false
set_option linter.unusedSimpArgs false
namespace Go.Proofs.Ythkbodgpcjcndaa
open Go.HL

/-! ### The sum of the points -/
theorem sum_set (v : Int) : ∀ (l : List Int) (i : Nat), i < l.length → (l.set i v).sum = l.sum - l.getD i 0 + v
  | [], i, h => by simp at h
  | y :: l, 0, h => by simp only [List.set_cons_zero, List.sum_cons, List.getD_cons_zero]; omega
  | y :: l, i + 1, h => by
    have := sum_set v l i (by simpa using h)
    simp only [List.set_cons_succ, List.sum_cons, List.getD_cons_succ]; omega
theorem addAt_len (g : Int → Int → Int) (t : List Int) (ev : Ev) : (addAt g t ev).length = t.length := by simp [addAt]
theorem adds_sum {n : Int} : ∀ (evl : List Ev) (B : Int) (t : List Int), (∀ ev ∈ evl, EvOk n ev) → (t.length : Int) = n → InB B t → B + 1000000 * evl.length ≤ 9223372036854775807 →
    (evl.foldl (addAt fun _ own => own) t).sum = t.sum + (evl.map Ev.own).sum
  | [], B, t, _, _, _, _ => by simp
  | ev :: evl, B, t, hg, hl, h, hb => by
    obtain ⟨g1, g2, g3, g4, g5, g6⟩ := hg ev (by simp)
    have h2 := h ev.a.toNat
    rw [List.length_cons] at hb
    have hw : IntKind.wrap .i64 (t.getD ev.a.toNat 0 + ev.own) = t.getD ev.a.toNat 0 + ev.own := w64 (by omega) (by omega)
    have ih := adds_sum (n := n) evl (B + 1000000) (addAt (fun _ own => own) t ev) (fun e he => hg e (by simp [he])) (by rw [addAt_len]; exact hl) ?_ (by omega)
    · rw [List.foldl_cons, ih, List.map_cons, List.sum_cons, addAt, sum_set _ _ _ (by omega), hw]; omega
    · refine h.set (by omega) ?_ ?_ <;> rw [hw] <;> omega
theorem evRow_sum (i : Int) : ∀ (ps : List (List Int)) (xs : List Int), ps.length = xs.length → ((evRow i ps xs).map Ev.own).sum = 2 * xs.length
  | [], [], _ => by simp [evRow]
  | [], x :: xs, h => by simp at h
  | p :: ps, [], h => by simp at h
  | p :: ps, x :: xs, h => by
    have := evRow_sum i ps xs (by simpa using h)
    simp only [evRow, List.map_cons, List.sum_cons, this, List.length_cons]; omega
/-- The meetings played. -/
def gamesOf (xss : List (List Int)) : Nat := (xss.map List.length).sum
theorem evs_sum (n : Int) : ∀ (i : Nat) (rs xss : List (List Int)), xss.length ≤ rs.length → rowsOk n rs xss = true → ((evs n i rs xss).map Ev.own).sum = 2 * gamesOf xss
  | i, rs, [], _, _ => by cases rs <;> simp [evs, gamesOf]
  | i, [], xs :: xss, h, _ => by simp at h
  | i, r :: rs, xs :: xss, h, ho => by
    rw [rowsOk] at ho
    simp only [rowOk, Bool.and_eq_true, decide_eq_true_eq] at ho
    have h1 := evs_sum n (i + 1) rs xss (by simpa using h) ho.2
    have h2 := evRow_sum i (pairsOf n r) xs ho.1.1.symm
    rw [evs, List.map_append, List.sum_append, h1, h2, gamesOf, gamesOf, List.map_cons, List.sum_cons]; omega
theorem sum_zeros (n : Nat) : (List.replicate n (0 : Int)).sum = 0 := by
  induction n with
  | zero => rfl
  | succ n ih => rw [List.replicate_succ, List.sum_cons, ih]; rfl
theorem pts_sum {n : Int} {rs xss : List (List Int)} (hs : scheduleOk n rs = true) (hr : resultsOk n rs xss = true) : (ptsOf n rs xss).sum = 2 * gamesOf xss := by
  obtain ⟨k1, k2, k3, k4⟩ := scheduleOk_facts hs
  simp only [resultsOk, Bool.and_eq_true, decide_eq_true_eq] at hr
  have h1 := evs_len n 0 rs xss
  have h2 : 2 * n.toNat * rs.length ≤ 28 * 40 := Nat.mul_le_mul (by omega) k3
  rw [ptsOf, summedM, adds_sum (n := n) _ 0 _ (fun ev hev => evs_ok (by omega) 0 rs xss k4 ev hev) (by rw [List.length_replicate]; omega) (InB.zero _) (by omega), evs_sum n 0 rs xss hr.1 hr.2, sum_zeros]; omega

/-! ### Rankings -/
def Chain (lt : Int → Int → Bool) : List Int → Prop
  | a :: b :: l => lt a b = false ∧ Chain lt (b :: l)
  | _ => True
theorem insL_chain {lt : Int → Int → Bool} (ha : ∀ x y, lt x y = true → lt y x = false) (x : Int) : ∀ ys, Chain lt ys → Chain lt (insL lt x ys)
  | [], _ => trivial
  | [y], _ => by
    rw [insL]; split
    · rename_i h; exact ⟨ha _ _ h, trivial⟩
    · rename_i h; exact ⟨by simpa using h, trivial⟩
  | y :: z :: ys, hc => by
    have ih := insL_chain ha x (z :: ys) hc.2
    rw [insL]; split
    · rename_i h
      rw [insL] at ih ⊢
      split at ih
      · rename_i h2; rw [if_pos h2]; exact ⟨hc.1, ih⟩
      · rename_i h2; rw [if_neg h2]; exact ⟨ha _ _ h, ih⟩
    · rename_i h; exact ⟨by simpa using h, hc⟩
theorem revSort_chain {lt : Int → Int → Bool} (ha : ∀ x y, lt x y = true → lt y x = false) (xs : List Int) : Chain lt (revSort lt xs) := by
  have : ∀ (xs rp : List Int), Chain lt rp → Chain lt (xs.foldl (fun rp x => insL lt x rp) rp) := by
    intro xs
    induction xs with
    | nil => intro rp h; exact h
    | cons x xs ih => intro rp h; rw [List.foldl_cons]; exact ih _ (insL_chain ha x _ h)
  exact this xs [] trivial
theorem chain_get {lt : Int → Int → Bool} : ∀ (l : List Int) (i : Nat), Chain lt l → i + 1 < l.length → lt (l.getD i 0) (l.getD (i + 1) 0) = false
  | [], i, _, h => by simp at h
  | [a], i, _, h => by simp at h
  | a :: b :: l, 0, hc, _ => hc.1
  | a :: b :: l, i + 1, hc, h => chain_get (b :: l) i hc.2 (by simpa using h)
theorem rev_get (l : List Int) {i : Nat} (h : i < l.length) : l.reverse.getD i 0 = l.getD (l.length - 1 - i) 0 := by
  rw [List.getD_eq_getElem?_getD, List.getD_eq_getElem?_getD, List.getElem?_reverse h]
theorem ahead_asym (p s t : List Int) (x y : Int) (h : ahead p s t x y = true) : ahead p s t y x = false := by
  cases h2 : ahead p s t y x with
  | false => rfl
  | true =>
    simp only [ahead, Bool.or_eq_true, Bool.and_eq_true, decide_eq_true_eq] at h h2
    omega
/-- Points go down along the ranking. -/
theorem rank_down {n : Int} {rs xss : List (List Int)} {i : Nat} (hi : i + 1 < n.toNat) :
    (ptsOf n rs xss).getD ((rankOf n rs xss).getD (i + 1) 0).toNat 0 ≤ (ptsOf n rs xss).getD ((rankOf n rs xss).getD i 0).toNat 0 := by
  have hl := rankOf_len n rs xss
  have hc := revSort_chain (lt := ahead (ptsOf n rs xss) (numsOf false n rs xss) (numsOf true n rs xss)) (fun x y => ahead_asym _ _ _ x y) (seqI n.toNat)
  have hrl := revSort_len (ahead (ptsOf n rs xss) (numsOf false n rs xss) (numsOf true n rs xss)) (seqI n.toNat)
  rw [seqI_len] at hrl
  have h1 := chain_get _ (n.toNat - 1 - (i + 1)) hc (by omega)
  rw [rankOf, sortL, rev_get _ (by omega), rev_get _ (by omega), hrl]
  have e : n.toNat - 1 - (i + 1) + 1 = n.toNat - 1 - i := by omega
  rw [e] at h1
  simp only [ahead, Bool.or_eq_false_iff, Bool.and_eq_false_iff, decide_eq_false_iff_not] at h1
  omega
theorem rank_top {n : Int} {rs xss : List (List Int)} : ∀ (i : Nat), i < n.toNat → (ptsOf n rs xss).getD ((rankOf n rs xss).getD i 0).toNat 0 ≤ (ptsOf n rs xss).getD ((rankOf n rs xss).getD 0 0).toNat 0
  | 0, _ => Int.le_refl _
  | i + 1, h => Int.le_trans (rank_down h) (rank_top i (by omega))

/-! ### Who can be first -/
theorem win_other {a : Int} {y : Nat} (hy : y ≠ a.toNat) : ∀ (ps : List (List Int)) (pts : List Int), (ps.foldl (winPts a) pts).getD y 0 = pts.getD y 0
  | [], pts => rfl
  | p :: ps, pts => by
    rw [List.foldl_cons, win_other hy ps, winPts]
    split
    · exact lget_set_ne _ (Ne.symm hy) _ _
    · rfl
theorem win_self {a : Int} : ∀ (ps : List (List Int)) (B : Int) (pts : List Int), InB B pts → B + 2 * ps.length ≤ 9223372036854775807 → a.toNat < pts.length →
    (ps.foldl (winPts a) pts).getD a.toNat 0 = pts.getD a.toNat 0 + 2 * ps.countP (hasA a)
  | [], B, pts, _, _, _ => by simp
  | p :: ps, B, pts, h, hb, hl => by
    rw [List.length_cons] at hb
    have h2 := h a.toNat
    rw [List.foldl_cons, List.countP_cons]
    by_cases hp : hasA a p = true
    · have hw : IntKind.wrap .i64 (pts.getD a.toNat 0 + 2) = pts.getD a.toNat 0 + 2 := w64 (by omega) (by omega)
      have e : winPts a pts p = pts.set a.toNat (pts.getD a.toNat 0 + 2) := by rw [winPts, if_pos hp, hw]
      rw [if_pos hp, e, win_self ps (B + 2) _ (h.set (by omega) (by omega) (by omega)) (by omega) (by rw [List.length_set]; exact hl), lget_set_self hl]; omega
    · have e : winPts a pts p = pts := by rw [winPts, if_neg hp]
      rw [if_neg hp, e, win_self ps B pts h (by omega) hl]; omega
theorem end_other {n a : Int} {rs xss : List (List Int)} {y : Nat} (hy : y ≠ a.toNat) : (endPts n a rs xss).getD y 0 = (ptsOf n rs xss).getD y 0 := win_other hy _ _
theorem end_self {n a : Int} {rs xss : List (List Int)} (hs : scheduleOk n rs = true) (a0 : 0 ≤ a) (an : a < n) : (endPts n a rs xss).getD a.toNat 0 = (ptsOf n rs xss).getD a.toNat 0 + 2 * (allPairs n (rs.drop xss.length)).countP (hasA a) := by
  obtain ⟨k1, k2, k3, k4⟩ := scheduleOk_facts hs
  have h1 := allPairs_len n (rs.drop xss.length)
  have h2 : n.toNat * (rs.drop xss.length).length ≤ 14 * 40 := Nat.mul_le_mul (by omega) (by rw [List.length_drop]; omega)
  have h3 := summed_len (fun _ own => own) n rs xss (by omega)
  exact win_self _ _ _ (summed_InB hs) (by omega) (by omega)
theorem dbl_countP (P : List Int → Bool) : ∀ gs : List (List Int), (gs.flatMap twice).countP P = 2 * gs.countP P
  | [] => rfl
  | g :: gs => by
    rw [List.flatMap_cons, List.countP_append, dbl_countP P gs, List.countP_cons, twice, List.countP_cons, List.countP_cons, List.countP_nil]; omega
/-- The greatest of some numbers. -/
theorem exists_max (f : Nat → Int) : ∀ n : Nat, 0 < n → ∃ a, a < n ∧ ∀ y, y < n → f y ≤ f a
  | 0, h => absurd h (Nat.lt_irrefl _)
  | 1, _ => by
    refine ⟨0, by omega, fun y hy => ?_⟩
    have : y = 0 := by omega
    subst this; exact Int.le_refl _
  | n + 2, _ => by
    obtain ⟨a, ha, hm⟩ := exists_max f (n + 1) (by omega)
    by_cases h : f (n + 1) ≤ f a
    · refine ⟨a, by omega, fun y hy => ?_⟩
      rcases Nat.lt_or_ge y (n + 1) with h1 | h1
      · exact hm y h1
      · have : y = n + 1 := by omega
        subst this; exact h
    · refine ⟨n + 1, by omega, fun y hy => ?_⟩
      rcases Nat.lt_or_ge y (n + 1) with h1 | h1
      · have := hm y h1; omega
      · have : y = n + 1 := by omega
        subst this; exact Int.le_refl _
theorem some_first {n : Int} {rs xss : List (List Int)} (hs : scheduleOk n rs = true) : ∃ a : Nat, a < n.toNat ∧ FirstOk n (a : Int) rs xss := by
  obtain ⟨k1, k2, k3, k4⟩ := scheduleOk_facts hs
  let all := allPairs n (rs.drop xss.length)
  let lead : Nat → List Int → Bool := fun x p => decide (p.getD 0 0 = (x : Int))
  obtain ⟨a, ha, hmax⟩ := exists_max (fun x => (ptsOf n rs xss).getD x 0 + 2 * (all.countP (lead x) : Int)) n.toNat (by omega)
  have hEnd := endPts_InB (n := n) (a := (a : Int)) (rs := rs) (xss := xss) hs
  have hself : (endPts n (a : Int) rs xss).getD a 0 = (ptsOf n rs xss).getD a 0 + 2 * (all.countP (hasA (a : Int)) : Int) := by
    have := end_self (n := n) (a := (a : Int)) (rs := rs) (xss := xss) hs (by omega) (by omega)
    rwa [Int.toNat_natCast] at this
  have hle : all.countP (lead a) ≤ all.countP (hasA a) := List.countP_mono_left fun p _ hp => by
    have hp' : p.getD 0 0 = (a : Int) := of_decide_eq_true hp
    rw [hasA, hp', decide_eq_true rfl, Bool.true_or]
  have hroom : ∀ y : Nat, roomAt (a : Int) (endPts n a rs xss) y = (endPts n a rs xss).getD a 0 - (endPts n a rs xss).getD y 0 := fun y => by
    rw [roomAt_eq hEnd (by omega), Int.toNat_natCast]
  have hall : ∀ y : Nat, y < n.toNat → 0 ≤ roomAt (a : Int) (endPts n a rs xss) y := by
    intro y hy
    rw [hroom]
    by_cases e : y = a
    · subst e; omega
    · have h1 := end_other (n := n) (a := (a : Int)) (rs := rs) (xss := xss) (y := y) (by rw [Int.toNat_natCast]; exact e)
      have h2 := hmax y hy
      rw [h1, hself]
      omega
  refine ⟨a, ha, fun y hy => hall y (by omega), (leftGames n a xss.length rs).map fun p => p.getD 0 0, by simp, fun j hj => .inl ?_, fun x hx => ?_⟩
  · simp [List.getD_eq_getElem?_getD, hj, tm]
  · rw [roomsTo_get _ _ hx]
    have hc : ((leftGames n a xss.length rs).map fun p => p.getD 0 0).count (x : Int) = 2 * (all.filter fun p => !hasA (a : Int) p).countP (lead x) := by
      rw [List.count, List.countP_map, leftGames, dbl_countP, leftOf]
      congr 1
    rw [hc]
    by_cases e : x = a
    · subst e
      have : (all.filter fun p => !hasA x p).countP (lead x) = 0 := by
        rw [List.countP_eq_zero]
        intro p hp hl
        have h1 := (List.mem_filter.1 hp).2
        have hp' : p.getD 0 0 = (x : Int) := of_decide_eq_true hl
        rw [hasA, hp', decide_eq_true rfl, Bool.true_or] at h1
        exact absurd h1 (by simp)
      rw [this]
      exact hall x hx
    · have h1 : (all.filter fun p => !hasA a p).countP (lead x) ≤ all.countP (lead x) := List.Sublist.countP_le (List.filter_sublist)
      have h2 := end_other (n := n) (a := (a : Int)) (rs := rs) (xss := xss) (y := x) (by rw [Int.toNat_natCast]; exact e)
      have h3 := hmax x hx
      rw [hroom, h2, hself]
      omega
theorem firstList_mem (n : Int) (rs xss : List (List Int)) (z : Int) : ∀ k, z ∈ firstList n rs xss k ↔ ∃ a : Nat, a < k ∧ z = (a : Int) ∧ FirstOk n (a : Int) rs xss
  | 0 => ⟨fun h => (by cases h), fun ⟨a, h, _⟩ => (by omega)⟩
  | k + 1 => by
    rw [firstList, List.mem_append, firstList_mem n rs xss z k]
    constructor
    · rintro (⟨a, h1, h2, h3⟩ | h)
      · exact ⟨a, by omega, h2, h3⟩
      · split at h
        · rename_i hf; exact ⟨k, by omega, by simpa using h, hf⟩
        · cases h
    · rintro ⟨a, h1, h2, h3⟩
      by_cases e : a = k
      · subst e; right; rw [if_pos h3]; simp [h2]
      · exact .inl ⟨a, by omega, h2, h3⟩
theorem firstList_ne {n : Int} {rs xss : List (List Int)} (hs : scheduleOk n rs = true) : firstList n rs xss n.toNat ≠ [] := by
  obtain ⟨a, ha, hf⟩ := some_first (xss := xss) hs
  intro h
  have := (firstList_mem n rs xss (a : Int) n.toNat).2 ⟨a, ha, rfl, hf⟩
  rw [h] at this; cases this
/-- When all rounds are played, the teams with the most points are first. -/
theorem first_end {n : Int} {rs xss : List (List Int)} (hs : scheduleOk n rs = true) (he : xss.length = rs.length) {a : Nat} (ha : a < n.toNat) :
    (a : Int) ∈ firstList n rs xss n.toNat ↔ (ptsOf n rs xss).getD a 0 = (ptsOf n rs xss).getD ((rankOf n rs xss).getD 0 0).toNat 0 := by
  obtain ⟨k1, k2, k3, k4⟩ := scheduleOk_facts hs
  have hdrop : rs.drop xss.length = [] := by rw [he]; exact List.drop_length
  have hend : endPts n (a : Int) rs xss = ptsOf n rs xss := by rw [endPts, hdrop]; rfl
  have hleft : leftGames n (a : Int) xss.length rs = [] := by rw [leftGames, hdrop]; rfl
  have hEnd := endPts_InB (n := n) (a := (a : Int)) (rs := rs) (xss := xss) hs
  have hroom : ∀ y : Nat, roomAt (a : Int) (ptsOf n rs xss) y = (ptsOf n rs xss).getD a 0 - (ptsOf n rs xss).getD y 0 := fun y => by
    rw [hend] at hEnd
    rw [roomAt_eq hEnd (by omega), Int.toNat_natCast]
  have hR := rankOf_ranks (n := n) (rs := rs) (xss := xss) (by omega)
  rw [firstList_mem]
  constructor
  · rintro ⟨b, hb, e, hf⟩
    have : a = b := by omega
    subst this
    obtain ⟨r0, r1⟩ := hR.rng 0 (by omega)
    have h1 := hf.1 ((rankOf n rs xss).getD 0 0).toNat (by omega)
    rw [hend, hroom] at h1
    obtain ⟨i, hi, ei⟩ := rankOf_onto (n := n) (rs := rs) (xss := xss) ha
    have h2 := rank_top (rs := rs) (xss := xss) i hi
    rw [ei] at h2
    omega
  · intro h
    have hge : ∀ y : Nat, (y : Int) < n → 0 ≤ roomAt (a : Int) (ptsOf n rs xss) y := by
      intro y hy
      rw [hroom, h]
      obtain ⟨i, hi, ei⟩ := rankOf_onto (n := n) (rs := rs) (xss := xss) (x := y) (by omega)
      have h2 := rank_top (rs := rs) (xss := xss) i hi
      rw [ei] at h2
      omega
    refine ⟨a, ha, rfl, by rw [hend]; exact hge, ?_⟩
    rw [hleft, hend]
    refine ⟨[], rfl, fun j hj => by simp at hj, fun x hx => ?_⟩
    rw [roomsTo_get _ _ hx]
    simpa using hge x (by omega)

end Go.Proofs.Ythkbodgpcjcndaa

/- What the functions on results answer, as both tell it. -/
set_option linter.unusedVariables false
set_option linter.unusedSimpArgs false
namespace Go.Proofs.Ythkbodgpcjcndaa
open Go.HL

/-- A list, or nothing with a code. -/
abbrev ListK (h : Heap) (f : List Int) (n : Int) (rs xss : List (List Int)) (u : Value) (h2 : Heap) : Prop :=
  Ext h h2 ∧ ∃ (C : Option Addr) (xs : List Int) (cc : Nat) (code : Int), u = .tuple #[.slice C xs.length cc, .int .i64 code] ∧ code = schedCode n rs (resultsOk n rs xss) ∧ (code = 0 → xs = f) ∧ (code ≠ 0 → xs = []) ∧ Ints h2 C xs
theorem pts_len {n : Int} {rs xss : List (List Int)} (h0 : 0 ≤ n) : (ptsOf n rs xss).length = n.toNat := by have := summed_len (fun _ own => own) n rs xss h0; unfold ptsOf; omega
theorem nums_len {t : Bool} {n : Int} {rs xss : List (List Int)} (h0 : 0 ≤ n) : (numsOf t n rs xss).length = n.toNat := by have := summed_len (gOf t (ptsOf n rs xss)) n rs xss h0; unfold numsOf; omega

theorem I.RankingOf.spec {n : Int} {A B : Option Addr} {rs xss : List (List Int)} {l c m d : Nat} {h : Heap} (s : Rds h A rs) (hl : rs.length = l) (x : Tab h B xss) (hm : xss.length = m) (hx : ∀ xs ∈ xss, xs.length ≤ 1048576) :
    ACalls Try.prog I.RankingOf.id [.agg #[.int .i64 n, .slice A l c], .slice B m d] h (ListK h (rankOf n rs xss) n rs xss) := by
  refine I.RankingOf.step _ _ _ _ _ _ _ _ h fun b4 hf4 => ?_
  have e := Ext.upd hf4 (.cells [.int .i64 n, .slice A l c])
  have hg4 : (h.upd b4 (.cells [.int .i64 n, .slice A l c])).getN b4 0 2 = some [.int .i64 n, .slice A l c] := by simp [Heap.getN]
  generalize h.upd b4 (.cells [.int .i64 n, .slice A l c]) = h1 at *
  refine ⟨n, A, l, c, hg4, (I.resultsCode.spec (right := true) (s.mono e) hl (x.mono e) hm hx fun hok h2 e2 => I.always.spec).mono ?_⟩
  rintro u h2 ⟨e2, rfl⟩
  rw [Bool.and_true]
  refine ⟨_, rfl, ndec_split (fun hne => ⟨e.trans e2, none, [], 0, _, rfl, rfl, fun h => absurd h hne, fun _ => rfl, Seg.nil_none _⟩) (fun h0 => ?_)⟩
  obtain ⟨hok, hr⟩ := schedCode_zero.1 h0
  obtain ⟨k1, k2, k3, k4⟩ := scheduleOk_facts hok
  have hlen : (rankOf n rs xss).length = n.toNat := rankOf_len n rs xss
  refine ⟨n, A, l, c, e2.getN hg4, (I.Schedule.ranking.spec (s.mono (e.trans e2)) hl (x.mono (e.trans e2)) hm hok hr).mono ?_⟩
  rintro u h3 ⟨e3, R, cR, rfl, ho⟩
  exact ⟨_, _, _, rfl, (e.trans e2).trans e3, R, rankOf n rs xss, cR, 0, by rw [hlen], h0.symm, fun _ => rfl, fun h => absurd rfl h, ho⟩

theorem S.RankingOf.spec {n : Int} {A B : Option Addr} {rs xss : List (List Int)} {l c m d : Nat} {h : Heap} (s : Rds h A rs) (hl : rs.length = l) (x : Tab h B xss) (hm : xss.length = m) (hx : ∀ xs ∈ xss, xs.length ≤ 1048576) :
    ACalls Try.prog S.RankingOf.id [.agg #[.int .i64 n, .slice A l c], .slice B m d] h (ListK h (rankOf n rs xss) n rs xss) := by
  refine S.RankingOf.step _ _ _ _ _ _ _ _ h fun b4 hf4 => ?_
  have e := Ext.upd hf4 (.cells [.int .i64 n, .slice A l c])
  have hg4 : (h.upd b4 (.cells [.int .i64 n, .slice A l c])).getN b4 0 2 = some [.int .i64 n, .slice A l c] := by simp [Heap.getN]
  generalize h.upd b4 (.cells [.int .i64 n, .slice A l c]) = h1 at *
  refine ⟨n, A, l, c, hg4, (S.l10Code.spec (teams := []) (s.mono e) hl (x.mono e) hm hx (Seg.nil_none _) rfl (Nat.zero_le _)).mono ?_⟩
  rintro u h2 ⟨e2, rfl⟩
  rw [List.all_nil, Bool.and_true]
  refine ⟨_, rfl, ndec_split (fun hne => ⟨e.trans e2, none, [], 0, _, rfl, rfl, fun h => absurd h hne, fun _ => rfl, Seg.nil_none _⟩) (fun h0 => ?_)⟩
  obtain ⟨hok, hr⟩ := schedCode_zero.1 h0
  obtain ⟨k1, k2, k3, k4⟩ := scheduleOk_facts hok
  have hlen : (rankOf n rs xss).length = n.toNat := rankOf_len n rs xss
  refine ⟨n, A, l, c, e2.getN hg4, (S.l10Ranking.spec (s.mono (e.trans e2)) hl (x.mono (e.trans e2)) hm hok hr).mono ?_⟩
  rintro u h3 ⟨e3, R, cR, rfl, ho⟩
  exact ⟨_, _, _, rfl, (e.trans e2).trans e3, R, rankOf n rs xss, cR, 0, by rw [hlen], h0.symm, fun _ => rfl, fun h => absurd rfl h, ho⟩

theorem I.PointsOf.spec {n : Int} {A B : Option Addr} {rs xss : List (List Int)} {l c m d : Nat} {h : Heap} (s : Rds h A rs) (hl : rs.length = l) (x : Tab h B xss) (hm : xss.length = m) (hx : ∀ xs ∈ xss, xs.length ≤ 1048576) :
    ACalls Try.prog I.PointsOf.id [.agg #[.int .i64 n, .slice A l c], .slice B m d] h (ListK h (ptsOf n rs xss) n rs xss) := by
  refine I.PointsOf.step _ _ _ _ _ _ _ _ h fun b4 hf4 => ?_
  have e := Ext.upd hf4 (.cells [.int .i64 n, .slice A l c])
  have hg4 : (h.upd b4 (.cells [.int .i64 n, .slice A l c])).getN b4 0 2 = some [.int .i64 n, .slice A l c] := by simp [Heap.getN]
  generalize h.upd b4 (.cells [.int .i64 n, .slice A l c]) = h1 at *
  refine ⟨n, A, l, c, hg4, (I.resultsCode.spec (right := true) (s.mono e) hl (x.mono e) hm hx fun hok h2 e2 => I.always.spec).mono ?_⟩
  rintro u h2 ⟨e2, rfl⟩
  rw [Bool.and_true]
  refine ⟨_, rfl, ndec_split (fun hne => ⟨e.trans e2, none, [], 0, _, rfl, rfl, fun h => absurd h hne, fun _ => rfl, Seg.nil_none _⟩) (fun h0 => ?_)⟩
  obtain ⟨hok, hr⟩ := schedCode_zero.1 h0
  obtain ⟨k1, k2, k3, k4⟩ := scheduleOk_facts hok
  have hlen : (ptsOf n rs xss).length = n.toNat := pts_len (by omega)
  refine ⟨n, A, l, c, e2.getN hg4, (I.Schedule.points.spec (s.mono (e.trans e2)) hl (x.mono (e.trans e2)) hm hok hr).mono ?_⟩
  rintro u h3 ⟨e3, bo, _, rfl, ho⟩
  exact ⟨_, _, _, rfl, (e.trans e2).trans e3, some ⟨bo, 0, none⟩, ptsOf n rs xss, n.toNat, 0, by rw [hlen], h0.symm, fun _ => rfl, fun h => absurd rfl h, own_ints ho⟩

theorem S.PointsOf.spec {n : Int} {A B : Option Addr} {rs xss : List (List Int)} {l c m d : Nat} {h : Heap} (s : Rds h A rs) (hl : rs.length = l) (x : Tab h B xss) (hm : xss.length = m) (hx : ∀ xs ∈ xss, xs.length ≤ 1048576) :
    ACalls Try.prog S.PointsOf.id [.agg #[.int .i64 n, .slice A l c], .slice B m d] h (ListK h (ptsOf n rs xss) n rs xss) := by
  refine S.PointsOf.step _ _ _ _ _ _ _ _ h fun b4 hf4 => ?_
  have e := Ext.upd hf4 (.cells [.int .i64 n, .slice A l c])
  have hg4 : (h.upd b4 (.cells [.int .i64 n, .slice A l c])).getN b4 0 2 = some [.int .i64 n, .slice A l c] := by simp [Heap.getN]
  generalize h.upd b4 (.cells [.int .i64 n, .slice A l c]) = h1 at *
  refine ⟨n, A, l, c, hg4, (S.l10Code.spec (teams := []) (s.mono e) hl (x.mono e) hm hx (Seg.nil_none _) rfl (Nat.zero_le _)).mono ?_⟩
  rintro u h2 ⟨e2, rfl⟩
  rw [List.all_nil, Bool.and_true]
  refine ⟨_, rfl, ndec_split (fun hne => ⟨e.trans e2, none, [], 0, _, rfl, rfl, fun h => absurd h hne, fun _ => rfl, Seg.nil_none _⟩) (fun h0 => ?_)⟩
  obtain ⟨hok, hr⟩ := schedCode_zero.1 h0
  obtain ⟨k1, k2, k3, k4⟩ := scheduleOk_facts hok
  have hlen : (ptsOf n rs xss).length = n.toNat := pts_len (by omega)
  have hq : xss.take m = xss := by rw [List.take_of_length_le (by omega)]
  refine ⟨n, A, l, c, e2.getN hg4, (S.l10Points.spec (q := m) (s.mono (e.trans e2)) hl (x.mono (e.trans e2)) hm (Nat.le_refl _) hok (by rw [hq]; exact hr)).mono ?_⟩
  rintro u h3 ⟨e3, bo, _, rfl, ho⟩
  rw [hq] at ho
  exact ⟨_, _, _, rfl, (e.trans e2).trans e3, some ⟨bo, 0, none⟩, ptsOf n rs xss, n.toNat, 0, by rw [hlen], h0.symm, fun _ => rfl, fun h => absurd rfl h, own_ints ho⟩

theorem I.SecondNumbers.spec {n : Int} {A B : Option Addr} {rs xss : List (List Int)} {l c m d : Nat} {h : Heap} (s : Rds h A rs) (hl : rs.length = l) (x : Tab h B xss) (hm : xss.length = m) (hx : ∀ xs ∈ xss, xs.length ≤ 1048576) :
    ACalls Try.prog I.SecondNumbers.id [.agg #[.int .i64 n, .slice A l c], .slice B m d] h (ListK h (numsOf false n rs xss) n rs xss) := by
  refine I.SecondNumbers.step _ _ _ _ _ _ _ _ h fun b4 hf4 => ?_
  have e := Ext.upd hf4 (.cells [.int .i64 n, .slice A l c])
  have hg4 : (h.upd b4 (.cells [.int .i64 n, .slice A l c])).getN b4 0 2 = some [.int .i64 n, .slice A l c] := by simp [Heap.getN]
  generalize h.upd b4 (.cells [.int .i64 n, .slice A l c]) = h1 at *
  refine ⟨n, A, l, c, hg4, (I.resultsCode.spec (right := true) (s.mono e) hl (x.mono e) hm hx fun hok h2 e2 => I.always.spec).mono ?_⟩
  rintro u h2 ⟨e2, rfl⟩
  rw [Bool.and_true]
  refine ⟨_, rfl, ndec_split (fun hne => ⟨e.trans e2, none, [], 0, _, rfl, rfl, fun h => absurd h hne, fun _ => rfl, Seg.nil_none _⟩) (fun h0 => ?_)⟩
  obtain ⟨hok, hr⟩ := schedCode_zero.1 h0
  obtain ⟨k1, k2, k3, k4⟩ := scheduleOk_facts hok
  have hlen : (numsOf false n rs xss).length = n.toNat := nums_len (by omega)
  refine ⟨n, A, l, c, e2.getN hg4, (I.Schedule.second.spec (s.mono (e.trans e2)) hl (x.mono (e.trans e2)) hm hok hr).mono ?_⟩
  rintro u h3 ⟨e3, bo, _, rfl, ho⟩
  exact ⟨_, _, _, rfl, (e.trans e2).trans e3, some ⟨bo, 0, none⟩, numsOf false n rs xss, n.toNat, 0, by rw [hlen], h0.symm, fun _ => rfl, fun h => absurd rfl h, own_ints ho⟩

theorem S.SecondNumbers.spec {n : Int} {A B : Option Addr} {rs xss : List (List Int)} {l c m d : Nat} {h : Heap} (s : Rds h A rs) (hl : rs.length = l) (x : Tab h B xss) (hm : xss.length = m) (hx : ∀ xs ∈ xss, xs.length ≤ 1048576) :
    ACalls Try.prog S.SecondNumbers.id [.agg #[.int .i64 n, .slice A l c], .slice B m d] h (ListK h (numsOf false n rs xss) n rs xss) := by
  refine S.SecondNumbers.step _ _ _ _ _ _ _ _ h fun b4 hf4 => ?_
  have e := Ext.upd hf4 (.cells [.int .i64 n, .slice A l c])
  have hg4 : (h.upd b4 (.cells [.int .i64 n, .slice A l c])).getN b4 0 2 = some [.int .i64 n, .slice A l c] := by simp [Heap.getN]
  generalize h.upd b4 (.cells [.int .i64 n, .slice A l c]) = h1 at *
  refine ⟨n, A, l, c, hg4, (S.l10Code.spec (teams := []) (s.mono e) hl (x.mono e) hm hx (Seg.nil_none _) rfl (Nat.zero_le _)).mono ?_⟩
  rintro u h2 ⟨e2, rfl⟩
  rw [List.all_nil, Bool.and_true]
  refine ⟨_, rfl, ndec_split (fun hne => ⟨e.trans e2, none, [], 0, _, rfl, rfl, fun h => absurd h hne, fun _ => rfl, Seg.nil_none _⟩) (fun h0 => ?_)⟩
  obtain ⟨hok, hr⟩ := schedCode_zero.1 h0
  obtain ⟨k1, k2, k3, k4⟩ := scheduleOk_facts hok
  have hlen : (numsOf false n rs xss).length = n.toNat := nums_len (by omega)
  refine ⟨n, A, l, c, e2.getN hg4, (S.l10Sums.spec (third := false) (s.mono (e.trans e2)) hl (x.mono (e.trans e2)) hm hok hr).mono ?_⟩
  rintro u h3 ⟨e3, bo, _, rfl, ho⟩
  exact ⟨_, _, _, rfl, (e.trans e2).trans e3, some ⟨bo, 0, none⟩, numsOf false n rs xss, n.toNat, 0, by rw [hlen], h0.symm, fun _ => rfl, fun h => absurd rfl h, own_ints ho⟩

theorem I.ThirdNumbers.spec {n : Int} {A B : Option Addr} {rs xss : List (List Int)} {l c m d : Nat} {h : Heap} (s : Rds h A rs) (hl : rs.length = l) (x : Tab h B xss) (hm : xss.length = m) (hx : ∀ xs ∈ xss, xs.length ≤ 1048576) :
    ACalls Try.prog I.ThirdNumbers.id [.agg #[.int .i64 n, .slice A l c], .slice B m d] h (ListK h (numsOf true n rs xss) n rs xss) := by
  refine I.ThirdNumbers.step _ _ _ _ _ _ _ _ h fun b4 hf4 => ?_
  have e := Ext.upd hf4 (.cells [.int .i64 n, .slice A l c])
  have hg4 : (h.upd b4 (.cells [.int .i64 n, .slice A l c])).getN b4 0 2 = some [.int .i64 n, .slice A l c] := by simp [Heap.getN]
  generalize h.upd b4 (.cells [.int .i64 n, .slice A l c]) = h1 at *
  refine ⟨n, A, l, c, hg4, (I.resultsCode.spec (right := true) (s.mono e) hl (x.mono e) hm hx fun hok h2 e2 => I.always.spec).mono ?_⟩
  rintro u h2 ⟨e2, rfl⟩
  rw [Bool.and_true]
  refine ⟨_, rfl, ndec_split (fun hne => ⟨e.trans e2, none, [], 0, _, rfl, rfl, fun h => absurd h hne, fun _ => rfl, Seg.nil_none _⟩) (fun h0 => ?_)⟩
  obtain ⟨hok, hr⟩ := schedCode_zero.1 h0
  obtain ⟨k1, k2, k3, k4⟩ := scheduleOk_facts hok
  have hlen : (numsOf true n rs xss).length = n.toNat := nums_len (by omega)
  refine ⟨n, A, l, c, e2.getN hg4, (I.Schedule.third.spec (s.mono (e.trans e2)) hl (x.mono (e.trans e2)) hm hok hr).mono ?_⟩
  rintro u h3 ⟨e3, bo, _, rfl, ho⟩
  exact ⟨_, _, _, rfl, (e.trans e2).trans e3, some ⟨bo, 0, none⟩, numsOf true n rs xss, n.toNat, 0, by rw [hlen], h0.symm, fun _ => rfl, fun h => absurd rfl h, own_ints ho⟩

theorem S.ThirdNumbers.spec {n : Int} {A B : Option Addr} {rs xss : List (List Int)} {l c m d : Nat} {h : Heap} (s : Rds h A rs) (hl : rs.length = l) (x : Tab h B xss) (hm : xss.length = m) (hx : ∀ xs ∈ xss, xs.length ≤ 1048576) :
    ACalls Try.prog S.ThirdNumbers.id [.agg #[.int .i64 n, .slice A l c], .slice B m d] h (ListK h (numsOf true n rs xss) n rs xss) := by
  refine S.ThirdNumbers.step _ _ _ _ _ _ _ _ h fun b4 hf4 => ?_
  have e := Ext.upd hf4 (.cells [.int .i64 n, .slice A l c])
  have hg4 : (h.upd b4 (.cells [.int .i64 n, .slice A l c])).getN b4 0 2 = some [.int .i64 n, .slice A l c] := by simp [Heap.getN]
  generalize h.upd b4 (.cells [.int .i64 n, .slice A l c]) = h1 at *
  refine ⟨n, A, l, c, hg4, (S.l10Code.spec (teams := []) (s.mono e) hl (x.mono e) hm hx (Seg.nil_none _) rfl (Nat.zero_le _)).mono ?_⟩
  rintro u h2 ⟨e2, rfl⟩
  rw [List.all_nil, Bool.and_true]
  refine ⟨_, rfl, ndec_split (fun hne => ⟨e.trans e2, none, [], 0, _, rfl, rfl, fun h => absurd h hne, fun _ => rfl, Seg.nil_none _⟩) (fun h0 => ?_)⟩
  obtain ⟨hok, hr⟩ := schedCode_zero.1 h0
  obtain ⟨k1, k2, k3, k4⟩ := scheduleOk_facts hok
  have hlen : (numsOf true n rs xss).length = n.toNat := nums_len (by omega)
  refine ⟨n, A, l, c, e2.getN hg4, (S.l10Sums.spec (third := true) (s.mono (e.trans e2)) hl (x.mono (e.trans e2)) hm hok hr).mono ?_⟩
  rintro u h3 ⟨e3, bo, _, rfl, ho⟩
  exact ⟨_, _, _, rfl, (e.trans e2).trans e3, some ⟨bo, 0, none⟩, numsOf true n rs xss, n.toNat, 0, by rw [hlen], h0.symm, fun _ => rfl, fun h => absurd rfl h, own_ints ho⟩

abbrev GoodK (h : Heap) (n : Int) (rs xss : List (List Int)) (u : Value) (h2 : Heap) : Prop :=
  Ext h h2 ∧ ∃ (r : Bool) (code : Int), u = .tuple #[.bool r, .int .i64 code] ∧ code = schedCode n rs true ∧ (code = 0 → r = resultsOk n rs xss) ∧ (code ≠ 0 → r = false)
theorem I.AreResults.spec {n : Int} {A B : Option Addr} {rs xss : List (List Int)} {l c m d : Nat} {h : Heap} (s : Rds h A rs) (hl : rs.length = l) (x : Tab h B xss) (hm : xss.length = m) (hx : ∀ xs ∈ xss, xs.length ≤ 1048576) :
    ACalls Try.prog I.AreResults.id [.agg #[.int .i64 n, .slice A l c], .slice B m d] h (GoodK h n rs xss) := by
  refine I.AreResults.step _ _ _ _ _ _ _ _ h fun b4 hf4 => ?_
  have e := Ext.upd hf4 (.cells [.int .i64 n, .slice A l c])
  have hg4 : (h.upd b4 (.cells [.int .i64 n, .slice A l c])).getN b4 0 2 = some [.int .i64 n, .slice A l c] := by simp [Heap.getN]
  generalize h.upd b4 (.cells [.int .i64 n, .slice A l c]) = h1 at *
  refine ⟨n, A, l, c, hg4, (I.scheduleCode.spec (right := true) (s.mono e) hl fun hok h2 e2 => I.always.spec).mono ?_⟩
  rintro u h2 ⟨e2, rfl⟩
  refine ⟨_, rfl, ndec_split (fun hne => ⟨e.trans e2, false, _, rfl, rfl, fun h => absurd h hne, fun _ => rfl⟩) (fun h0 => ?_)⟩
  obtain ⟨hok, _⟩ := schedCode_zero.1 h0
  obtain ⟨k1, k2, k3, k4⟩ := scheduleOk_facts hok
  refine ⟨n, A, l, c, e2.getN hg4, (I.Schedule.areResults.spec (s.mono (e.trans e2)) hl (by omega) (by omega) k2 (x.mono (e.trans e2)) hm hx).mono ?_⟩
  rintro u h3 ⟨e3, rfl⟩
  exact ⟨_, rfl, (e.trans e2).trans e3, _, 0, rfl, h0.symm, fun _ => rfl, fun h => absurd rfl h⟩
theorem S.AreResults.spec {n : Int} {A B : Option Addr} {rs xss : List (List Int)} {l c m d : Nat} {h : Heap} (s : Rds h A rs) (hl : rs.length = l) (x : Tab h B xss) (hm : xss.length = m) (hx : ∀ xs ∈ xss, xs.length ≤ 1048576) :
    ACalls Try.prog S.AreResults.id [.agg #[.int .i64 n, .slice A l c], .slice B m d] h (GoodK h n rs xss) := by
  refine S.AreResults.step _ _ _ _ _ _ _ _ h fun b4 hf4 => ?_
  have e := Ext.upd hf4 (.cells [.int .i64 n, .slice A l c])
  have hg4 : (h.upd b4 (.cells [.int .i64 n, .slice A l c])).getN b4 0 2 = some [.int .i64 n, .slice A l c] := by simp [Heap.getN]
  generalize h.upd b4 (.cells [.int .i64 n, .slice A l c]) = h1 at *
  refine ⟨n, A, l, c, hg4, (S.l01Is.spec (s.mono e) hl).mono ?_⟩
  rintro u h2 ⟨e2, rfl⟩
  refine ⟨_, rfl, nbool_split (fun hf => ⟨e.trans e2, false, 1, rfl, by rw [schedCode, hf]; rfl, fun h => absurd h (by decide), fun _ => rfl⟩) (fun hok => ?_)⟩
  obtain ⟨k1, k2, k3, k4⟩ := scheduleOk_facts hok
  refine ⟨n, A, l, c, e2.getN hg4, (S.l10Is.spec (s.mono (e.trans e2)) hl (by omega) (by omega) k2 (x.mono (e.trans e2)) hm hx).mono ?_⟩
  rintro u h3 ⟨e3, rfl⟩
  exact ⟨_, rfl, (e.trans e2).trans e3, _, 0, rfl, by rw [schedCode, hok]; rfl, fun _ => rfl, fun h => absurd rfl h⟩

theorem L.likeInts.spec {A B : Option Addr} {xs : List Int} {l c d : Nat} {h : Heap} (s : Ints h A xs) (t : Ints h B xs) (hl : xs.length = l) (hb : l ≤ 1048576) :
    ACalls Try.prog L.likeInts.id [.slice A l c, .slice B l d] h fun u h2 => h2 = h ∧ u = .bool true := by
  refine L.likeInts.step _ _ _ _ _ _ _ h (ndec_split (fun hne => absurd rfl hne) (fun _ => ?_))
  have loop : ∀ (k i : Nat), i + k = l → L.likeInts.L0 (fun u h2 => h2 = h ∧ u = .bool true) (.slice A l c) (.slice B l d) (.int .i64 i) h := by
    intro k
    induction k with
    | zero => intro i hi; exact L.likeInts.L0_step _ _ _ _ _ _ _ _ _ (dec_split (fun hc => by omega) (fun _ => ⟨rfl, rfl⟩))
    | succ k ih =>
      intro i hi
      refine L.likeInts.L0_step _ _ _ _ _ _ _ _ _ (dec_split (fun hc => s.rd (Ext.refl _) hl (by omega) hc (t.rd (Ext.refl _) hl (by omega) hc (ndec_split (fun hne => absurd rfl hne) (fun _ => ?_)))) (fun hc => by omega))
      rw [wsucc (by omega)]
      exact ih (i + 1) (by omega)
  exact loop l 0 (by omega)
theorem L.hasInt.spec {A : Option Addr} {xs : List Int} {x : Int} {l c : Nat} {h : Heap} (s : Ints h A xs) (hl : xs.length = l) (hb : l ≤ 1048576) :
    ACalls Try.prog L.hasInt.id [.slice A l c, .int .i64 x] h fun u h2 => h2 = h ∧ u = .bool (decide (x ∈ xs)) := by
  refine L.hasInt.step _ _ _ _ _ h ?_
  have loop : ∀ (k i : Nat), i + k = l → x ∉ xs.take i → L.hasInt.L0 (fun u h2 => h2 = h ∧ u = .bool (decide (x ∈ xs))) (.slice A l c) (.int .i64 x) (.int .i64 i) h := by
    intro k
    induction k with
    | zero =>
      intro i hi hn
      rw [List.take_of_length_le (by omega)] at hn
      exact L.hasInt.L0_step _ _ _ _ _ _ _ (dec_split (fun hc => by omega) (fun _ => ⟨rfl, by rw [decide_eq_false hn]⟩))
    | succ k ih =>
      intro i hi hn
      have hii : i < xs.length := by omega
      have hg : xs.getD i 0 = xs[i] := by rw [List.getD_eq_getElem?_getD, List.getElem?_eq_getElem hii]; rfl
      refine L.hasInt.L0_step _ _ _ _ _ _ _ (dec_split (fun hc => s.rd (Ext.refl _) hl (by omega) hc ?_) (fun hc => by omega))
      rw [Int.toNat_natCast]
      refine dec_split (fun he => ⟨rfl, ?_⟩) (fun hne => ?_)
      · rw [decide_eq_true (by rw [← he]; exact getD_mem hii)]
      · rw [wsucc (by omega)]
        refine ih (i + 1) (by omega) fun hm => ?_
        rw [List.take_succ_eq_append_getElem hii] at hm
        rcases List.mem_append.1 hm with h1 | h1
        · exact hn h1
        · have : x = xs[i] := by simpa using h1
          exact hne (by rw [hg, this])
  exact loop l 0 (by omega) (by simp)
theorem L.sum.spec {A : Option Addr} {xs : List Int} {l c : Nat} {h : Heap} (s : Ints h A xs) (hl : xs.length = l) (hb : l ≤ 1048576) (h0 : ∀ x ∈ xs, 0 ≤ x ∧ x ≤ 2147483648) :
    ACalls Try.prog L.sum.id [.slice A l c] h fun u h2 => h2 = h ∧ u = .int .i64 xs.sum := by
  refine L.sum.step _ _ _ _ h ?_
  have loop : ∀ (k i : Nat), i + k = l → 0 ≤ (xs.take i).sum → (xs.take i).sum ≤ i * 2147483648 → L.sum.L0 (fun u h2 => h2 = h ∧ u = .int .i64 xs.sum) (.slice A l c) (.int .i64 (xs.take i).sum) (.int .i64 i) h := by
    intro k
    induction k with
    | zero =>
      intro i hi _ _
      exact L.sum.L0_step _ _ _ _ _ _ _ (dec_split (fun hc => by omega) (fun _ => ⟨rfl, by rw [List.take_of_length_le (by omega)]⟩))
    | succ k ih =>
      intro i hi g0 g1
      have hii : i < xs.length := by omega
      have hg : xs.getD i 0 = xs[i] := by rw [List.getD_eq_getElem?_getD, List.getElem?_eq_getElem hii]; rfl
      have hb2 := h0 _ (List.getElem_mem hii)
      have es : (xs.take (i + 1)).sum = (xs.take i).sum + xs.getD i 0 := by rw [List.take_succ_eq_append_getElem hii, List.sum_append, hg]; simp
      refine L.sum.L0_step _ _ _ _ _ _ _ (dec_split (fun hc => s.rd (Ext.refl _) hl (by omega) hc ?_) (fun hc => by omega))
      rw [Int.toNat_natCast, w64 (by omega) (by omega), wsucc (by omega), ← es]
      exact ih (i + 1) (by omega) (by omega) (by omega)
  have := loop l 0 (by omega) (by simp) (by simp)
  simpa using this

end Go.Proofs.Ythkbodgpcjcndaa

/- The reference's source of numbers, and what it draws first. -/
set_option linter.unusedVariables false
set_option linter.unusedSimpArgs false
namespace Go.Proofs.Ythkbodgpcjcndaa
open Go.HL

/-- A source of numbers, in a changing block. -/
def SrcAt (hI : Heap) (m : PMap) (b : Nat) : Prop :=
  ∃ A l c q x zs, m b = some [.slice A l c, .int .i64 q, .int .u64 x] ∧ 0 ≤ q ∧ BytesW hI A zs ∧ zs.length = l ∧ l ≤ 9223372036854775807
theorem SrcAt.mono {hI hJ : Heap} {m : PMap} {b : Nat} (s : SrcAt hI m b) (e : Ext hI hJ) : SrcAt hJ m b :=
  let ⟨A, l, c, q, x, zs, h1, h2, h3, h4⟩ := s
  ⟨A, l, c, q, x, zs, h1, h2, h3.mono e, h4⟩
theorem SrcAt.congr {hI : Heap} {m m' : PMap} {b : Nat} (s : SrcAt hI m b) (e : m' b = m b) : SrcAt hI m' b :=
  let ⟨A, l, c, q, x, zs, h1, h2⟩ := s
  ⟨A, l, c, q, x, zs, e.trans h1, h2⟩
theorem SrcAt.some {hI : Heap} {m : PMap} {b : Nat} (s : SrcAt hI m b) : m b ≠ none := by
  obtain ⟨A, l, c, q, x, zs, h1, _⟩ := s
  rw [h1]; simp
/-- What a drawing call leaves: the source has gone on; all other changing blocks are as they were. -/
def Drew (hI : Heap) (m : PMap) (b : Nat) (R : Heap → PMap → Prop) (h2 : Heap) : Prop :=
  ∃ hJ m', Ext hI hJ ∧ Beside hJ m' ∧ h2 = over hJ m' ∧ SrcAt hJ m' b ∧ (∀ y, y ≠ b → m y ≠ none → m' y = m y) ∧ R hJ m'

theorem band_le (x : Int) : ((BitVec.ofInt (IntKind.bits .u64) x &&& BitVec.ofInt (IntKind.bits .u64) (16777215 : Int)).toNat : Int) ≤ 16777215 := by
  rw [BitVec.toNat_and]
  have h : (BitVec.ofInt (IntKind.bits .u64) (16777215 : Int)).toNat = 16777215 := by decide
  rw [h]
  have := Nat.and_le_right (n := (BitVec.ofInt (IntKind.bits .u64) x).toNat) (m := 16777215)
  omega
theorem u64_id {n : Int} (h0 : 0 ≤ n) (h1 : n < 18446744073709551616) : IntKind.wrap .u64 n = n := by
  have : IntKind.u64.wrap n = n % 18446744073709551616 := by simp [IntKind.wrap, IntKind.bits, IntKind.signed]
  rw [this]; omega

theorem S.l01Next.spec {hI : Heap} {m : PMap} {b : Nat} {n : Int} (hB : Beside hI m) (s : SrcAt hI m b) :
    ACalls Try.prog S.l01Next.id [.pointer (some ⟨b, 0, none⟩), .int .i64 n] (over hI m) fun u h2 => ∃ r, u = .int .i64 r ∧ 0 ≤ r ∧ (1 ≤ n → r < n) ∧ (n < 1 → r = 0) ∧ Drew hI m b (fun hJ _ => hJ = hI) h2 := by
  have hsome := s.some
  obtain ⟨A, l, c, q, x, zs, hm, q0, hz, hl, hlb⟩ := s
  refine S.l01Next.step _ _ _ _ _ (dec_split (fun hc => ?_) (fun hc => ?_))
  · exact ⟨0, rfl, Int.le_refl _, fun h => by omega, fun _ => rfl, hI, m, Ext.refl _, hB, rfl, ⟨A, l, c, q, x, zs, hm, q0, hz, hl, hlb⟩, fun _ _ _ => rfl, rfl⟩
  · have fin : ∀ (t : Int) (m' : PMap), 0 ≤ t → Beside hI m' → SrcAt hI m' b → (∀ y, y ≠ b → m' y = m y) → ∃ r, Value.int .i64 (Int.tmod t n) = .int .i64 r ∧ 0 ≤ r ∧ (1 ≤ n → r < n) ∧ (n < 1 → r = 0) ∧ Drew hI m b (fun hJ _ => hJ = hI) (over hI m') := by
      intro t m' t0 hB' hs' hk
      exact ⟨_, rfl, Int.tmod_nonneg _ t0, fun _ => Int.tmod_lt_of_pos _ (by omega), fun h => absurd h hc, hI, m', Ext.refl _, hB', rfl, hs', fun y hy _ => hk y hy, rfl⟩
    refine ⟨x, by rw [over_get hm]; rfl, over_store hm (by simp) (by simp [Value.oneCell']) ?_⟩
    generalize hx : IntKind.wrap .u64 (IntKind.wrap .u64 (x * 6364136223846793005) + 1442695040888963407) = x2
    have es : splice [Value.slice A l c, .int .i64 q, .int .u64 x] (0 + 2) [.int .u64 x2] = [.slice A l c, .int .i64 q, .int .u64 x2] := by simp [splice]
    rw [es]
    have hm2 : (m.put b [.slice A l c, .int .i64 q, .int .u64 x2]) b = some [.slice A l c, .int .i64 q, .int .u64 x2] := put_self _ _ _
    have hB2 := hB.put hsome [.slice A l c, .int .i64 q, .int .u64 x2]
    have hk2 : ∀ y, y ≠ b → (m.put b [.slice A l c, .int .i64 q, .int .u64 x2]) y = m y := fun y hy => put_ne _ _ hy
    generalize m.put b [.slice A l c, .int .i64 q, .int .u64 x2] = m2 at *
    have g0 : (over hI m2).get b (0 + 0) = some (.slice A l c) := by rw [over_get hm2]; rfl
    have g1 : (over hI m2).get b (0 + 1) = some (.int .i64 q) := by rw [over_get hm2]; rfl
    refine ⟨x2, by rw [over_get hm2]; rfl, by omega, q, g1, A, l, c, g0, dec_split (fun hq => ?_) (fun hq => ?_)⟩
    · refine ⟨A, l, c, g0, q, g1, hz.rd (over_ext hB2) hl q0 hq fun z z0 z1 => ⟨q, g1, over_store hm2 (by simp) (by simp [Value.oneCell']) ?_⟩⟩
      have es3 : splice [Value.slice A l c, .int .i64 q, .int .u64 x2] (0 + 1) [.int .i64 (IntKind.wrap .i64 (q + 1))] = [.slice A l c, .int .i64 (q + 1), .int .u64 x2] := by rw [w64 (by omega) (by omega)]; simp [splice]
      rw [es3]
      refine ⟨by omega, ?_⟩
      generalize hy : ((BitVec.ofInt (IntKind.bits .u64) _ &&& BitVec.ofInt (IntKind.bits .u64) (16777215 : Int)).toNat : Int) = y
      have y1 : y ≤ 16777215 := by rw [← hy]; exact band_le _
      have y0 : 0 ≤ y := by rw [← hy]; exact Int.natCast_nonneg _
      rw [u64_id y0 (by omega), w64 (n := y) (by omega) (by omega), w64 (n := z) (by omega) (by omega), w64 (by omega) (by omega)]
      exact fin _ _ (by omega) (hB2.put (by rw [hm2]; simp) _) ⟨A, l, c, q + 1, x2, zs, put_self _ _ _, by omega, hz, hl, hlb⟩ (fun y hy => (put_ne _ _ hy).trans (hk2 y hy))
    · refine ⟨by omega, ?_⟩
      generalize hy : ((BitVec.ofInt (IntKind.bits .u64) _ &&& BitVec.ofInt (IntKind.bits .u64) (16777215 : Int)).toNat : Int) = y
      have y1 : y ≤ 16777215 := by rw [← hy]; exact band_le _
      have y0 : 0 ≤ y := by rw [← hy]; exact Int.natCast_nonneg _
      rw [u64_id y0 (by omega), w64 (n := y) (by omega) (by omega)]
      exact fin _ _ y0 hB2 ⟨A, l, c, q, x2, zs, hm2, q0, hz, hl, hlb⟩ hk2

theorem S.l01Pick.spec {hI : Heap} {m : PMap} {b : Nat} {A : Option Addr} {xs : List Int} {l c : Nat} (hB : Beside hI m) (s : SrcAt hI m b) (hx : Ints hI A xs) (hl : xs.length = l) (hpos : 0 < l) :
    ACalls Try.prog S.l01Pick.id [.pointer (some ⟨b, 0, none⟩), .slice A l c] (over hI m) fun u h2 => ∃ r, u = .int .i64 r ∧ r ∈ xs ∧ Drew hI m b (fun hJ _ => hJ = hI) h2 := by
  refine S.l01Pick.step _ _ _ _ _ _ _ ((S.l01Next.spec hB s).mono ?_)
  rintro u h2 ⟨r, rfl, r0, r1, _, hJ, m', e, hB', rfl, s', hk, rfl⟩
  refine ⟨r, rfl, hx.rd (over_ext hB') hl r0 (r1 (by omega)) ⟨_, rfl, ?_, hJ, m', e, hB', rfl, s', hk, rfl⟩⟩
  exact getD_mem (by have := r1 (by omega); omega)
theorem S.l01Near.spec {hI : Heap} {m : PMap} {b : Nat} {n : Int} (hB : Beside hI m) (s : SrcAt hI m b) :
    ACalls Try.prog S.l01Near.id [.pointer (some ⟨b, 0, none⟩), .int .i64 n] (over hI m) fun u h2 => ∃ r, u = .int .i64 r ∧ Drew hI m b (fun _ _ => True) h2 := by
  refine S.l01Near.step _ _ _ _ _ ((S.l01Next.spec hB s).mono ?_)
  rintro u h2 ⟨r, rfl, r0, r1, _, hJ, m', e, hB', rfl, s', hk, rfl⟩
  refine ⟨r, rfl, dec_split (fun hc b6 hf6 => ?_) (fun hc => ?_)⟩
  · rw [over_base hf6]
    have hf := (over_fresh hf6).1
    have e6 := Ext.upd hf (.cells (LM [-1, IntKind.wrap .i64 (n + 1), 1099511627776, -4611686018427387904]))
    refine (S.l01Pick.spec (xs := [-1, IntKind.wrap .i64 (n + 1), 1099511627776, -4611686018427387904]) (hB'.base hf6 _) (s'.mono e6) (Seg.new' _ _ _) rfl (Nat.zero_lt_succ 3)).mono ?_
    rintro u h3 ⟨r3, rfl, _, hK, m3, e3, hB3, rfl, s3, hk3, rfl⟩
    exact ⟨_, rfl, _, rfl, _, m3, e.trans e6, hB3, rfl, s3, fun y hy hm => (hk3 y hy (by rw [hk y hy hm]; exact hm)).trans (hk y hy hm), trivial⟩
  · refine (S.l01Next.spec hB' s').mono ?_
    rintro u h3 ⟨r3, rfl, _, _, _, hK, m3, e3, hB3, rfl, s3, hk3, rfl⟩
    exact ⟨_, rfl, _, rfl, _, m3, e, hB3, rfl, s3, fun y hy hm => (hk3 y hy (by rw [hk y hy hm]; exact hm)).trans (hk y hy hm), trivial⟩

/-- A new source. -/
theorem S.l01From.spec {A : Option Addr} {zs : List Int} {l c : Nat} {hI : Heap} {m : PMap} (hB0 : Beside hI m) (hz : BytesW hI A zs) (hl : zs.length = l) (hlb : l ≤ 9223372036854775807) :
    ACalls Try.prog S.l01From.id [.slice A l c] (over hI m) fun u h2 => ∃ b m', u = .pointer (some ⟨b, 0, none⟩) ∧ m b = none ∧ Beside hI m' ∧ h2 = over hI m' ∧ SrcAt hI m' b ∧ ∀ y, y ≠ b → m' y = m y := by
  refine S.l01From.step _ _ _ _ _ (over_alloc hB0 fun b2 hn2 hf2 hB2 => ?_)
  have loop : ∀ (k i : Nat) (x : Int) (m1 : PMap), i + k = l → Beside hI m1 → m1 b2 = some [.slice A l c, .int .i64 0, .int .u64 x] → (∀ y, y ≠ b2 → m1 y = m y) →
      S.l01From.L0 (fun u h2 => ∃ b m', u = .pointer (some ⟨b, 0, none⟩) ∧ m b = none ∧ Beside hI m' ∧ h2 = over hI m' ∧ SrcAt hI m' b ∧ ∀ y, y ≠ b → m' y = m y) (.slice A l c) (.pointer (some ⟨b2, 0, none⟩)) (.int .i64 i) (over hI m1) := by
    intro k
    induction k with
    | zero =>
      intro i x m1 hi hB hm ho
      refine S.l01From.L0_step _ _ _ _ _ _ _ _ fun k8 hk8 => dec_split (fun hc => by omega) (fun _ => hk8 _ _ (bool_split (fun h => by cases h) (fun _ => ⟨b2, m1, rfl, hn2, hB, rfl, ⟨A, l, c, 0, x, zs, hm, Int.le_refl _, hz, hl, hlb⟩, ho⟩)))
    | succ k ih =>
      intro i x m1 hi hB hm ho
      refine S.l01From.L0_step _ _ _ _ _ _ _ _ fun k8 hk8 => dec_split (fun hc => hk8 _ _ (bool_split (fun _ => ?_) (fun _ => ?_))) (fun hc => absurd hc (by omega))
      · refine ⟨x, by rw [over_get hm]; rfl, hz.rd (over_ext hB) hl (by omega) hc fun z _ _ => over_store hm (by simp) (by simp [Value.oneCell']) ?_⟩
        generalize hx2 : IntKind.wrap .u64 _ = x2
        have es : splice [Value.slice A l c, .int .i64 0, .int .u64 x] (0 + 2) [.int .u64 x2] = [.slice A l c, .int .i64 0, .int .u64 x2] := by simp [splice]
        rw [es, wsucc (by omega)]
        exact ih (i + 1) x2 _ (by omega) (hB.put (by rw [hm]; simp) _) (put_self _ _ _) fun y hy => (put_ne _ _ hy).trans (ho y hy)
      · exact ⟨b2, m1, rfl, hn2, hB, rfl, ⟨A, l, c, 0, x, zs, hm, Int.le_refl _, hz, hl, hlb⟩, ho⟩
  exact loop l 0 _ _ (by omega) hB2 (put_self _ _ _) fun y hy => put_ne _ _ hy

end Go.Proofs.Ythkbodgpcjcndaa

/- The round in which all are free, as the reference makes it. -/
set_option linter.unusedVariables false
set_option linter.unusedSimpArgs false
namespace Go.Proofs.Ythkbodgpcjcndaa
open Go.HL

theorem S.l01Free.spec {n : Int} (h0 : 0 ≤ n) (h14 : n ≤ 14) {h : Heap} : ACalls Try.prog S.l01Free.id [.int .i64 n] h fun u h2 => Ext h h2 ∧ u = .agg (LM (freeTo n.toNat)).toArray := by
  refine S.l01Free.step _ _ _ ?_
  rw [← over_noM h]
  refine alloc14 (beside_noM h) fun b2 _ _ hB1 => alloc14 hB1 fun b4 hn4 _ hB2 => ⟨rfl, ?_⟩
  have n42 : b4 ≠ b2 := fun e => by rw [e, put_self] at hn4; cases hn4
  refine over_st14 (put_self _ _ _) rfl (r := List.replicate 14 0) rfl ?_
  have loop : ∀ (q a : Nat) (m : PMap), a + q = n.toNat → Beside h m → m b2 = some (LM (List.replicate 14 0)) → m b4 = some (LM (freeTo a)) →
      S.l01Free.L0 (fun u h2 => Ext (over h noM) h2 ∧ u = .agg (LM (freeTo n.toNat)).toArray) (.int .i64 n) (.pointer (some ⟨b2, 0, none⟩)) (.pointer (some ⟨b4, 0, none⟩)) (.int .i64 a) (over h m) := by
    intro q
    induction q with
    | zero =>
      intro a m ha hB hm2 hm4
      have ea : a = n.toNat := by omega
      subst ea
      have hl : (freeTo n.toNat).length = 14 := freeTo_len (by omega)
      refine S.l01Free.L0_step _ _ _ _ _ _ _ _ (dec_split (fun hc => by omega) (fun _ => ⟨freeTo n.toNat, hl, over_all14 hm4 hl, by simpa using hl, over_st14 hm2 rfl hl ⟨LM (freeTo n.toNat), over_all14 (put_self _ _ _) hl, ?_, rfl⟩⟩))
      rw [over_noM]
      exact over_ext (hB.put (by rw [hm2]; simp) _)
    | succ q ih =>
      intro a m ha hB hm2 hm4
      refine S.l01Free.L0_step _ _ _ _ _ _ _ _ (dec_split (fun hc => over_wr14 hm4 (freeTo_len (by omega)) (by omega) (by omega) ?_) (fun hc => by omega))
      rw [wsucc (by omega), Int.toNat_natCast, freeTo_set (by omega)]
      exact ih (a + 1) _ (by omega) (hB.put (by rw [hm4]; simp) _) (by rw [put_ne _ _ n42.symm]; exact hm2) (put_self _ _ _)
  exact loop n.toNat 0 _ (by omega) (hB2.put (by rw [put_self]; simp) _) (by rw [put_ne _ _ n42.symm, put_ne _ _ n42.symm, put_self]) (by rw [put_self]; rfl)

end Go.Proofs.Ythkbodgpcjcndaa

/- What the reference draws: orders, rounds. -/
set_option linter.unusedVariables false
set_option linter.unusedSimpArgs false
namespace Go.Proofs.Ythkbodgpcjcndaa
open Go.HL

theorem S.l01Own.spec {A : Option Addr} {xs : List Int} {l c : Nat} {h : Heap} (s : Ints h A xs) (hl : xs.length = l) (hb : l ≤ 1048576) :
    ACalls Try.prog S.l01Own.id [.slice A l c] h fun u h2 => Ext h h2 ∧ ∃ B c2, u = .slice B l c2 ∧ OwnV h h2 B l c2 1 (LM xs) := by
  refine S.l01Own.step _ _ _ _ _ ?_
  rw [← over_noM h]
  refine over_alloc (beside_noM h) fun b hm hf hB => ?_
  have V : VAt (noM.put b []) (some ⟨b, 0, none⟩) 0 0 1 [] := VAt.made rfl
  refine V.append hB ((s.mono (over_ext hB)).row (by simp [hl])) (by simp [hl]) (oneInts _) (by omega) (by omega) rfl fun m' A' c' b1 b2 b3 b4 => ⟨A', l, c', by rw [Nat.zero_add], ?_⟩
  rw [Nat.zero_add] at b2
  rw [over_noM]
  exact ⟨over_ext b1, A', c', rfl, b2.ownv b1 (Ext.refl _)⟩

theorem ins_perm (xs : List Int) (k : Nat) (v : Int) : (xs.take k ++ [v] ++ xs.drop k).Perm (xs ++ [v]) := by
  have h1 : (xs.take k ++ [v] ++ xs.drop k).Perm (v :: (xs.take k ++ xs.drop k)) := by
    rw [List.append_assoc]; exact List.perm_middle
  rw [List.take_append_drop] at h1
  exact h1.trans (List.perm_append_singleton v xs).symm

/-- The numbers 0 to n - 1 in any order. -/
theorem S.l01DrawOrder.spec {hI : Heap} {m : PMap} {b : Nat} {n : Int} (hB : Beside hI m) (s : SrcAt hI m b) (hn : n ≤ 1000) :
    ACalls Try.prog S.l01DrawOrder.id [.pointer (some ⟨b, 0, none⟩), .int .i64 n] (over hI m) fun u h2 => ∃ A c xs, u = .slice A n.toNat c ∧ xs.Perm (seqI n.toNat) ∧ Drew hI m b (fun _ m' => VAt m' A n.toNat c 1 (LM xs) ∧ ∀ y, m y ≠ none → A ≠ some ⟨y, 0, none⟩) h2 := by
  refine S.l01DrawOrder.step _ _ _ _ _ (over_alloc hB fun b3 hm3 hf3 hB3 => ?_)
  have hsome := s.some
  have n3 : b ≠ b3 := fun e => hsome (by rw [e]; exact hm3)
  have loop : ∀ (k i : Nat) (A : Option Addr) (c : Nat) (xs : List Int) (hJ : Heap) (m' : PMap), i + k = n.toNat → Ext hI hJ → Beside hJ m' → SrcAt hJ m' b → (∀ y, y ≠ b → m y ≠ none → m' y = m y) → VAt m' A i c 1 (LM xs) → (∀ y, m y ≠ none → A ≠ some ⟨y, 0, none⟩) → A ≠ none → xs.Perm (seqI i) →
      S.l01DrawOrder.L0 (fun u h2 => ∃ A c xs, u = .slice A n.toNat c ∧ xs.Perm (seqI n.toNat) ∧ Drew hI m b (fun _ m' => VAt m' A n.toNat c 1 (LM xs) ∧ ∀ y, m y ≠ none → A ≠ some ⟨y, 0, none⟩) h2) (.pointer (some ⟨b, 0, none⟩)) (.int .i64 n) (.slice A i c) (.int .i64 i) (over hJ m') := by
    intro k
    induction k with
    | zero =>
      intro i A c xs hJ m' hi e hB' s' hk V hA _ hp
      have ei : i = n.toNat := by omega
      subst ei
      exact S.l01DrawOrder.L0_step _ _ _ _ _ _ _ _ _ (dec_split (fun hc => by omega) (fun _ => ⟨A, c, xs, rfl, hp, hJ, m', e, hB', rfl, s', hk, V, hA⟩))
    | succ k ih =>
      intro i A c xs hJ m' hi e hB' s' hk V hA hA0 hp
      have hxl : xs.length = i := by have := V.len; simpa using this
      refine S.l01DrawOrder.L0_step _ _ _ _ _ _ _ _ _ (dec_split (fun hc => ?_) (fun hc => by omega))
      rw [wsucc (by omega)]
      refine (S.l01Next.spec hB' s').mono ?_
      rintro u h2 ⟨r, rfl, r0, r1, _, hK, m1, e1, hB1, rfl, s1, hk1, rfl⟩
      have r2 := r1 (by omega)
      obtain ⟨hVl, ⟨rfl, _⟩ | ⟨ba, sp, rfl, hm, hsp, hle⟩⟩ := V
      · exact absurd rfl hA0
      have hba : ba ≠ b := fun e2 => by
        obtain ⟨_, _, _, _, _, _, h1, _⟩ := s'
        exact hA b hsome (by rw [e2])
      have V : VAt m' (some ⟨ba, 0, none⟩) i c 1 (LM xs) := ⟨hVl, .inr ⟨ba, sp, rfl, hm, hsp, hle⟩⟩
      have V1 : VAt m1 (some ⟨ba, 0, none⟩) i c 1 (LM xs) := V.congr fun y hy => by cases hy; exact hk1 _ hba (by rw [hm]; simp)
      have hS : Ints (over hK m1) (some ⟨ba, 0, none⟩) xs := V1.ints
      refine ⟨r, rfl, _, _, _, slice_hi r0 (by omega), _, _, _, slice_lo r0 (by omega), ?_⟩
      have hS1 : Ints (over hK m1) (some ⟨ba, 0, none⟩) (xs.take r.toNat) := by
        have := (V1.shrink (k := r.toNat) (by omega)).seg (hI := hK)
        rw [Nat.mul_one, ← List.map_take] at this; exact this
      refine (S.l01Own.spec hS1 (by rw [List.length_take]; omega) (by omega)).mono ?_
      rintro u h3 ⟨e3, B, cB, rfl, o⟩
      obtain ⟨hL, m2, eL, hB2, rfl, V2, hk2, hB2n⟩ := o.under_take hB1 e3
      refine ⟨_, _, _, rfl, ?_⟩
      refine V2.push hB2 rfl (by simp [Value.oneCell']) (by omega) (by omega) rfl fun hM m3 A3 c3 eM hB3 V3 hk3 hA3 => ⟨_, _, _, rfl, ?_⟩
      -- the rest of the old list
      have hm1 : m1 ba = some (LM xs ++ sp) := by rw [hk1 ba hba (by rw [hm]; simp)]; exact hm
      have hm2 : m2 ba = some (LM xs ++ sp) := by rw [hk2 ba (by rw [hm1]; simp)]; exact hm1
      have hm3 : m3 ba = some (LM xs ++ sp) := by rw [hk3 ba (by rw [hm2]; simp) (hB2n ba (by rw [hm1]; simp))]; exact hm2
      have hR : Row (over hM m3) (some ⟨ba, if c = r.toNat then 0 else 0 + r.toNat * 1, none⟩) ((i - r.toNat) * 1) (LM (xs.drop r.toNat)) := by
        rw [Nat.mul_one]
        by_cases hcr : c = r.toNat
        · have h0 : i - r.toNat = 0 := by omega
          have h1 : xs.drop r.toNat = [] := List.drop_eq_nil_of_le (by omega)
          rw [h0, h1]; rfl
        · rw [if_neg hcr, Nat.zero_add, Nat.mul_one]
          refine getN_of (by simp [hxl]) fun q v hv => ?_
          rw [over_get hm3, List.getElem?_append_left]
          · rw [List.getElem?_map, List.getElem?_drop] at hv
            rw [List.getElem?_map]; exact hv
          · have := (List.getElem?_eq_some_iff.1 hv).1
            simp at this ⊢; omega
      refine V3.append hB3 hR (by simp [hxl]) (oneInts _) (by omega) (by omega) rfl fun m4 A4 c4 hB4 V4 hk4 hA4 => ⟨A4, i + 1, c4, by congr 1; omega, ?_⟩
      have hne4 : ∀ y, m y ≠ none → m1 y ≠ none := fun y hy => by
        by_cases hyb : y = b
        · rw [hyb]; exact s1.some
        · rw [hk1 y hyb (by rw [hk y hyb hy]; exact hy), hk y hyb hy]; exact hy
      have hB3n : ∀ y, m1 y ≠ none → A3 ≠ some ⟨y, 0, none⟩ := fun y hy => by
        rcases hA3 with rfl | ⟨z, rfl, hz⟩
        · exact hB2n y hy
        · intro h; cases h; exact hy (by rw [← hk2 y hy]; exact hz)
      have hm12 : ∀ y, m1 y ≠ none → m3 y = m1 y := fun y hy => by rw [hk3 y (by rw [hk2 y hy]; exact hy) (hB2n y hy), hk2 y hy]
      have hm14 : ∀ y, m1 y ≠ none → m4 y = m1 y := fun y hy => by rw [hk4 y (by rw [hm12 y hy]; exact hy) (hB3n y hy), hm12 y hy]
      have hB4n : ∀ y, m1 y ≠ none → A4 ≠ some ⟨y, 0, none⟩ := fun y hy => by
        rcases hA4 with rfl | ⟨z, rfl, hz⟩
        · exact hB3n y hy
        · intro h; cases h; exact hy (by rw [← hm12 y hy]; exact hz)
      refine ih (i + 1) A4 c4 (xs.take r.toNat ++ [(i : Int)] ++ xs.drop r.toNat) hM m4 (by omega) (e.trans (eL.trans eM)) hB4 ((s1.mono (eL.trans eM)).congr (hm14 b s1.some)) (fun y hyb hy => ?_) ?_ (fun y hy => hB4n y (hne4 y hy)) ?_ ?_
      · rw [hm14 y (hne4 y hy), hk1 y hyb (by rw [hk y hyb hy]; exact hy), hk y hyb hy]
      · have e5 : r.toNat + 1 + (i - r.toNat) = i + 1 := by omega
        rw [e5] at V4
        simpa [LM] using V4
      · obtain ⟨_, ⟨_, q0, _⟩ | ⟨z, _, h1, _⟩⟩ := V4
        · omega
        · rw [h1]; simp
      · refine (ins_perm xs r.toNat i).trans ?_
        rw [seqI_succ]
        exact hp.append_right _
  have V0 : VAt (m.put b3 []) (some ⟨b3, 0, none⟩) 0 0 1 (LM []) := VAt.made rfl
  by_cases hn0 : n ≤ 0
  · have e0 : n.toNat = 0 := by omega
    have := loop 0 0 (some ⟨b3, 0, none⟩) 0 [] hI (m.put b3 []) (by omega) (Ext.refl _) hB3 (s.congr (put_ne _ _ n3)) (fun y _ hy => put_ne _ _ fun e => hy (by rw [e]; exact hm3)) V0 (fun y hy h => hy (by cases h; exact hm3)) (by simp) (List.Perm.refl _)
    exact this
  · exact loop n.toNat 0 (some ⟨b3, 0, none⟩) 0 [] hI (m.put b3 []) (by omega) (Ext.refl _) hB3 (s.congr (put_ne _ _ n3)) (fun y _ hy => put_ne _ _ fun e => hy (by rw [e]; exact hm3)) V0 (fun y hy h => hy (by cases h; exact hm3)) (by simp) (List.Perm.refl _)

end Go.Proofs.Ythkbodgpcjcndaa

/- What the reference draws: rounds. -/
set_option linter.unusedVariables false
set_option linter.unusedSimpArgs false
namespace Go.Proofs.Ythkbodgpcjcndaa
open Go.HL

/-- A row of fourteen numbers that are teams, as far as there are teams. -/
def Fit (n : Int) (r : List Int) : Prop := r.length = 14 ∧ ∀ i : Nat, (i : Int) < n → 0 ≤ r.getD i 0 ∧ r.getD i 0 < n
theorem Fit.set {n v : Int} {r : List Int} (h : Fit n r) (v0 : 0 ≤ v) (v1 : v < n) (k : Nat) : Fit n (r.set k v) := by
  refine ⟨by rw [List.length_set]; exact h.1, fun i hi => ?_⟩
  by_cases hk : k = i
  · subst hk
    by_cases hl : k < r.length
    · rw [lget_set_self hl]; exact ⟨v0, v1⟩
    · rw [List.getD_eq_getElem?_getD, List.getElem?_eq_none (by simp; omega)]
      exact ⟨Int.le_refl _, by show 0 < n; omega⟩
  · rw [lget_set_ne _ hk]; exact h.2 i hi
theorem fit_free {n : Int} (h0 : 0 ≤ n) (h14 : n ≤ 14) : Fit n (freeTo n.toNat) :=
  ⟨freeTo_len (by omega), fun i hi => by rw [freeTo_get (by omega)]; omega⟩

theorem S.l01Made.spec {n : Int} {A : Option Addr} {ps : List (List Int)} {l c : Nat} {h : Heap} (h0 : 0 ≤ n) (h14 : n ≤ 14) (t : Tab h A ps) (hl : ps.length = l) (hlb : l ≤ 1048576) (hp : ∀ p ∈ ps, p.length = 2 ∧ ∀ k : Nat, k < 2 → 0 ≤ p.getD k 0 ∧ p.getD k 0 < n) :
    ACalls Try.prog S.l01Made.id [.int .i64 n, .slice A l c] h fun u h2 => Ext h h2 ∧ ∃ r, u = .agg (LM r).toArray ∧ Fit n r := by
  refine S.l01Made.step _ _ _ _ _ _ ?_
  rw [← over_noM h]
  refine alloc14 (beside_noM h) fun b3 _ _ hB1 => (S.l01Free.spec h0 h14).mono ?_
  rintro u h5 ⟨e5, rfl⟩
  obtain ⟨hJ, eJ, hBJ, rfl⟩ := Ext.under hB1 e5
  have hfl := (fit_free h0 h14).1
  refine ⟨freeTo n.toNat, hfl, rfl, alloc14 hBJ fun b8 hn8 _ hB2 => ⟨by simpa using hfl, ?_⟩⟩
  have n83 : b8 ≠ b3 := fun e => by rw [e, put_self] at hn8; cases hn8
  refine over_st14 (put_self _ _ _) rfl hfl ?_
  have loop : ∀ (q i : Nat) (r : List Int) (m : PMap), i + q = l → Beside hJ m → m b3 = some (LM (List.replicate 14 0)) → m b8 = some (LM r) → Fit n r →
      S.l01Made.L0 (fun u h2 => Ext (over h noM) h2 ∧ ∃ r, u = .agg (LM r).toArray ∧ Fit n r) (.slice A l c) (.pointer (some ⟨b3, 0, none⟩)) (.pointer (some ⟨b8, 0, none⟩)) (.int .i64 i) (over hJ m) := by
    intro q
    induction q with
    | zero =>
      intro i r m hi hB hm3 hm8 hr
      refine S.l01Made.L0_step _ _ _ _ _ _ _ _ _ _ (dec_split (fun hc => by omega) (fun _ => ⟨r, hr.1, over_all14 hm8 hr.1, by simpa using hr.1, over_st14 hm3 rfl hr.1 ⟨LM r, over_all14 (put_self _ _ _) hr.1, ?_, r, rfl, hr⟩⟩))
      rw [over_noM]
      exact eJ.trans (over_ext (hB.put (by rw [hm3]; simp) _))
    | succ q ih =>
      intro i r m hi hB hm3 hm8 hr
      have hii : i < ps.length := by omega
      obtain ⟨p2, pr⟩ := hp _ (getD_mem (d := []) hii)
      have eB := eJ.trans (over_ext hB)
      refine S.l01Made.L0_step _ _ _ _ _ _ _ _ _ _ (dec_split (fun hc => ?_) (fun hc => by omega))
      refine t.rd eB hl (by omega) hc fun D dD hD _ => ?_
      rw [Int.toNat_natCast] at hD ⊢
      rw [p2]
      refine hD.rd eB p2 (n := 0) (by omega) (by omega) (t.rd eB hl (by omega) hc fun D2 dD2 hD2 _ => ?_)
      rw [Int.toNat_natCast] at hD2 ⊢
      rw [p2]
      obtain ⟨a0, a1⟩ := pr 0 (by omega)
      obtain ⟨c0, c1⟩ := pr 1 (by omega)
      refine hD2.rd eB p2 (n := 1) (by omega) (by omega) ?_
      refine over_wr14 hm8 hr.1 a0 (by show (ps.getD i []).getD 0 0 < 14; omega) ?_
      have hB2 := hB.put (b := b8) (by rw [hm8]; simp) (LM (r.set (((ps.getD i []).getD (Int.toNat 0) 0).toNat) ((ps.getD i []).getD (Int.toNat 1) 0)))
      have hr2 : Fit n (r.set (((ps.getD i []).getD (Int.toNat 0) 0).toNat) ((ps.getD i []).getD (Int.toNat 1) 0)) := hr.set c0 c1 _
      have eB2 := eJ.trans (over_ext hB2)
      refine t.rd eB2 hl (by omega) hc fun D3 dD3 hD3 _ => ?_
      rw [Int.toNat_natCast] at hD3 ⊢
      rw [p2]
      refine hD3.rd eB2 p2 (n := 1) (by omega) (by omega) (t.rd eB2 hl (by omega) hc fun D4 dD4 hD4 _ => ?_)
      rw [Int.toNat_natCast] at hD4 ⊢
      rw [p2]
      refine hD4.rd eB2 p2 (n := 0) (by omega) (by omega) ?_
      refine over_wr14 (put_self _ _ _) hr2.1 c0 (by show (ps.getD i []).getD 1 0 < 14; omega) ?_
      rw [wsucc (by omega)]
      exact ih (i + 1) _ _ (by omega) (hB2.put (by rw [put_self]; simp) _) (by rw [put_ne _ _ n83.symm, put_ne _ _ n83.symm]; exact hm3) (put_self _ _ _) (hr2.set a0 a1 _)
  exact loop l 0 _ _ (by omega) (hB2.put (by rw [put_self]; simp) _) (by rw [put_ne _ _ n83.symm, put_ne _ _ n83.symm, put_self]) (put_self _ _ _) (fit_free h0 h14)

theorem tab_of {hI : Heap} {m : PMap} {A : Option Addr} {l c : Nat} {vs : List Value} {ps : List (List Int)} (hB : Beside hI m) (V : VAt m A l c 1 vs) (E : Each hI vs ps) : Tab (over hI m) A ps :=
  ⟨vs, V.seg, E.1, fun i v xs a b => (E.2 i v xs a b).mono (over_ext hB)⟩
theorem S.l01DrawRound.spec {hI : Heap} {m : PMap} {b : Nat} {n : Int} (hB : Beside hI m) (s : SrcAt hI m b) (h0 : 0 ≤ n) (h14 : n ≤ 14) :
    ACalls Try.prog S.l01DrawRound.id [.pointer (some ⟨b, 0, none⟩), .int .i64 n] (over hI m) fun u h2 => ∃ r, u = .agg (LM r).toArray ∧ Fit n r ∧ Drew hI m b (fun _ _ => True) h2 := by
  refine S.l01DrawRound.step _ _ _ _ _ (alloc14 hB fun b3 hn3 hf3 hB1 => ?_)
  have hsome := s.some
  have n3 : b ≠ b3 := fun e => hsome (by rw [e]; exact hn3)
  have hm13 : (m.put b3 (LM (List.replicate 14 0))) b3 = some (LM (List.replicate 14 0)) := put_self _ _ _
  have hk1 : ∀ y, m y ≠ none → (m.put b3 (LM (List.replicate 14 0))) y = m y := fun y hy => put_ne _ _ fun e => hy (by rw [e]; exact hn3)
  have s1 : SrcAt hI (m.put b3 (LM (List.replicate 14 0))) b := s.congr (put_ne _ _ n3)
  generalize m.put b3 (LM (List.replicate 14 0)) = m1 at *
  refine (S.l01DrawOrder.spec hB1 s1 (by omega)).mono ?_
  rintro u h2 ⟨O, cO, xs, rfl, hp, hJ, m2, e2, hB2, rfl, s2, hk2, VO, hO⟩
  obtain ⟨hJ2, m3, e3, hB3, eq3, hOs, hk3⟩ := VO.freeze hB2
  rw [eq3]
  have hk13 : ∀ y, y ≠ b → m1 y ≠ none → m3 y = m1 y := fun y hy hm => (hk3 y (hO y hm)).trans (hk2 y hy hm)
  have s3 : SrcAt hJ2 m3 b := (s2.mono e3).congr (hk3 b (hO b s1.some))
  have hxl : xs.length = n.toNat := by rw [hp.length_eq, seqI_len]
  have hxr : ∀ i : Nat, i < n.toNat → 0 ≤ xs.getD i 0 ∧ xs.getD i 0 < n := fun i hi => by
    have := seqI_mem (hp.mem_iff.1 (getD_mem (l := xs) (d := 0) (q := i) (by omega)))
    omega
  refine ⟨_, _, _, rfl, over_alloc hB3 fun b8 hn8 hf8 hB4 => ?_⟩
  have hk4 : ∀ y, m3 y ≠ none → (m3.put b8 []) y = m3 y := fun y hy => put_ne _ _ fun e => hy (by rw [e]; exact hn8)
  have V4 : VAt (m3.put b8 []) (some ⟨b8, 0, none⟩) 0 0 1 [] := VAt.made rfl
  have hA4 : ∀ y, m1 y ≠ none → (some ⟨b8, 0, none⟩ : Option Addr) ≠ some ⟨y, 0, none⟩ := fun y hy h => by
    cases h
    by_cases hyb : b8 = b
    · exact s3.some (by rw [← hyb]; exact hn8)
    · exact hy (by rw [← hk13 b8 hyb hy]; exact hn8)
  have s4 : SrcAt hJ2 (m3.put b8 []) b := s3.congr (hk4 b s3.some)
  have hk14 : ∀ y, y ≠ b → m1 y ≠ none → (m3.put b8 []) y = m1 y := fun y hy hm => by rw [hk4 y (by rw [hk13 y hy hm]; exact hm), hk13 y hy hm]
  generalize m3.put b8 [] = m4 at *
  refine (S.l01Next.spec hB4 s4).mono ?_
  rintro u h5 ⟨r5, rfl, _, _, _, hJ5, m5, e5, hB5, rfl, s5, hk5, rfl⟩
  refine ⟨r5, rfl, ?_⟩
  have hstart : ∀ y, y ≠ b → m1 y ≠ none → m5 y = m1 y := fun y hy hm => by rw [hk5 y hy (by rw [hk14 y hy hm]; exact hm), hk14 y hy hm]
  have V5 : VAt m5 (some ⟨b8, 0, none⟩) 0 0 1 [] := V4.congr fun y hy => by
    cases hy
    exact hk5 b8 (fun e => hA4 b s1.some (by rw [e])) (by
      obtain ⟨_, ⟨h, _⟩ | ⟨z, sp, h, hz, _⟩⟩ := V4
      · cases h
      · cases h; rw [hz]; simp)
  have last : ∀ (A : Option Addr) (l c : Nat) (vs : List Value) (ps : List (List Int)) (hK : Heap) (mm : PMap), l ≤ 1000 → Ext hJ5 hK → Beside hK mm → SrcAt hK mm b → (∀ y, y ≠ b → m1 y ≠ none → mm y = m1 y) → VAt mm A l c 1 vs → Each hK vs ps → (∀ p ∈ ps, p.length = 2 ∧ ∀ k : Nat, k < 2 → 0 ≤ p.getD k 0 ∧ p.getD k 0 < n) →
      ACalls Try.prog S.l01Made.id [.int .i64 n, .slice A l c] (over hK mm) fun v41 h40 => ∃ x42 : List Int, x42.length = 14 ∧ v41 = .agg (List.map (Value.int .i64) x42).toArray ∧ (List.map (Value.int .i64) x42).length = 14 ∧ SStore h40 b3 0 (List.map (Value.int .i64) x42) fun h43 => ∃ r44 : List Value, h43.getN b3 0 14 = some r44 ∧ (∃ r, Value.agg r44.toArray = .agg (LM r).toArray ∧ Fit n r ∧ Drew hI m b (fun _ _ => True) h43) := by
    intro A l c vs ps hK mm hl e hBm sm hkm V E hps
    refine (S.l01Made.spec h0 h14 (tab_of hBm V E) (by have := V.len; have := E.1; omega) (by omega) hps).mono ?_
    rintro u h6 ⟨e6, r, rfl, hr⟩
    obtain ⟨hL, eL, hBL, rfl⟩ := Ext.under hBm e6
    have hm3 : mm b3 = some (LM (List.replicate 14 0)) := by rw [hkm b3 n3.symm (by rw [hm13]; simp)]; exact hm13
    refine ⟨r, hr.1, rfl, by simpa using hr.1, over_st14 hm3 rfl hr.1 ⟨LM r, over_all14 (put_self _ _ _) hr.1, r, rfl, hr, hL, _, ((e2.trans e3).trans (e5.trans e)).trans eL, hBL.put (by rw [hm3]; simp) _, rfl, (sm.mono eL).congr (put_ne _ _ n3), fun y hy hm => ?_, trivial⟩⟩
    rw [put_ne _ _ (fun e => hm (by rw [e]; exact hn3)), hkm y hy (by rw [hk1 y hm]; exact hm), hk1 y hm]
  have loop : ∀ (q i : Nat) (A : Option Addr) (l c : Nat) (vs : List Value) (ps : List (List Int)) (hK : Heap) (mm : PMap) (few : Bool), n.toNat ≤ i + 2 * q → l ≤ i → i ≤ 100 → Ext hJ5 hK → Beside hK mm → SrcAt hK mm b → (∀ y, y ≠ b → m1 y ≠ none → mm y = m1 y) → VAt mm A l c 1 vs → (∀ y, m1 y ≠ none → A ≠ some ⟨y, 0, none⟩) → Each hK vs ps → (∀ p ∈ ps, p.length = 2 ∧ ∀ k : Nat, k < 2 → 0 ≤ p.getD k 0 ∧ p.getD k 0 < n) →
      S.l01DrawRound.L0 (fun u h2 => ∃ r, u = .agg (LM r).toArray ∧ Fit n r ∧ Drew hI m b (fun _ _ => True) h2) (.pointer (some ⟨b, 0, none⟩)) (.int .i64 n) (.pointer (some ⟨b3, 0, none⟩)) (.slice O n.toNat cO) (.slice A l c) (.bool few) (.int .i64 i) (over hK mm) := by
    intro q
    induction q with
    | zero =>
      intro i A l c vs ps hK mm few hi hli hi2 e hBm sm hkm V hA E hps
      refine S.l01DrawRound.L0_step _ _ _ _ _ _ _ _ _ _ _ _ _ _ _ (dec_split (fun hc => ?_) (fun hc => last A l c vs ps hK mm (by omega) e hBm sm hkm V E hps))
      rw [wsucc (by omega)] at hc; omega
    | succ q ih =>
      intro i A l c vs ps hK mm few hi hli hi2 e hBm sm hkm V hA E hps
      refine S.l01DrawRound.L0_step _ _ _ _ _ _ _ _ _ _ _ _ _ _ _ (dec_split (fun hc => ?_) (fun hc => last A l c vs ps hK mm (by omega) e hBm sm hkm V E hps))
      rw [wsucc (by omega)] at hc ⊢
      have e2' : IntKind.wrap .i64 ((i : Int) + 2) = ((i + 2 : Nat) : Int) := by rw [w64 (by omega) (by omega)]; omega
      rw [e2']
      intro k21 hk21
      -- behind the question whether the pair is taken
      have on : ∀ (hL : Heap) (mm' : PMap) (x25 : Bool), Ext hK hL → Beside hL mm' → SrcAt hL mm' b → (∀ y, y ≠ b → mm y ≠ none → mm' y = mm y) → k21 [.bool x25] (over hL mm') := by
        intro hL mm' x25 eL hBL sL hkL
        have VL : VAt mm' A l c 1 vs := V.congr fun y hy => by
          obtain ⟨_, ⟨h, _⟩ | ⟨z, sp, h, hz, _⟩⟩ := V
          · rw [h] at hy; cases hy
          · rw [h] at hy; cases hy
            exact hkL _ (fun e => hA b s1.some (by rw [h, e])) (by rw [hz]; simp)
        have hkmL : ∀ y, y ≠ b → m1 y ≠ none → mm' y = m1 y := fun y hy hm => by rw [hkL y hy (by rw [hkm y hy hm]; exact hm), hkm y hy hm]
        refine hk21 _ _ (bool_split (fun _ => ?_) (fun _ => ih (i + 2) A l c vs ps hL mm' few (by omega) (by omega) (by omega) (e.trans eL) hBL sL hkmL VL hA (Each.mono eL E) hps))
        have hOL : Ints hL O xs := hOs.mono ((e5.trans e).trans eL)
        refine hOL.rd (over_ext hBL) hxl (by omega) (by omega) (hOL.rd (over_ext hBL) hxl (by omega) (by omega) ?_)
        rw [Int.toNat_natCast, Int.toNat_natCast]
        refine base_alloc hBL fun b33 hf33 hm33 e33 hB33 => ?_
        refine VL.push hB33 rfl (by simp [Value.oneCell']) (by omega) (by omega) rfl fun hM m' A' c' eM hBM VM hkM hA' => ⟨_, _, _, rfl, ?_⟩
        have hin : i + 1 < n.toNat := by omega
        have hnew : IsInts hM (.slice (some ⟨b33, 0, none⟩) 2 2) [xs.getD i 0, xs.getD (i + 1) 0] := ⟨some ⟨b33, 0, none⟩, 2, rfl, Ints.mono eM (Seg.new' _ _ _), Nat.le_refl _⟩
        have hneL : ∀ y, m1 y ≠ none → mm' y ≠ none := fun y hy => by
          by_cases hyb : y = b
          · rw [hyb]; exact sL.some
          · rw [hkmL y hyb hy]; exact hy
        refine ih (i + 2) A' (l + 1) c' _ (ps ++ [[xs.getD i 0, xs.getD (i + 1) 0]]) hM m' few (by omega) (by omega) (by omega) (((e.trans eL).trans e33).trans eM) hBM ((sL.mono (e33.trans eM)).congr (hkM b sL.some (hA b s1.some))) (fun y hy hm => by rw [hkM y (hneL y hm) (hA y hm), hkmL y hy hm]) VM (fun y hy => ?_) ((Each.mono ((eL.trans e33).trans eM) E).snoc hnew) (fun p hp => ?_)
        · rcases hA' with rfl | ⟨z, rfl, hz⟩
          · exact hA y hy
          · intro h; cases h; exact hneL y hy hz
        · rcases List.mem_append.1 hp with hp | hp
          · exact hps p hp
          · have : p = [xs.getD i 0, xs.getD (i + 1) 0] := by simpa using hp
            subst this
            refine ⟨rfl, fun k hk => ?_⟩
            obtain rfl | rfl : k = 0 ∨ k = 1 := by omega
            · exact hxr i (by omega)
            · exact hxr (i + 1) (by omega)
      refine nbool_split (fun _ => on hK mm true (Ext.refl _) hBm sm fun _ _ _ => rfl) (fun _ => (S.l01Next.spec hBm sm).mono ?_)
      rintro u h22 ⟨r, rfl, _, _, _, hL, mm', eL, hBL, rfl, sL, hkL, rfl⟩
      exact ⟨r, rfl, on _ mm' _ (Ext.refl _) hBL sL hkL⟩
  exact loop n.toNat 0 _ 0 0 [] [] _ m5 _ (by omega) (by omega) (by omega) (Ext.refl _) hB5 s5 hstart V5 hA4 (Each.nil _) (fun p hp => by cases hp)

end Go.Proofs.Ythkbodgpcjcndaa

/- Schedules that the reference makes: circles, renumbered and reordered ones, copies. -/
set_option linter.unusedVariables false
set_option linter.unusedSimpArgs false
namespace Go.Proofs.Ythkbodgpcjcndaa
open Go.HL

theorem Rds.rd1 {hI h : Heap} {A : Option Addr} {rs : List (List Int)} {l : Nat} (s : Rds hI A rs) (e : Ext hI h) (hl : rs.length = l) {n a : Int} (n0 : 0 ≤ n) (n1 : n < (l : Int)) (a0 : 0 ≤ a) (a1 : a < 14) {K : Int → Prop} (k : K ((rs.getD n.toNat []).getD a.toNat 0)) :
    ∃ b o : Nat, A = some ⟨b, o, none⟩ ∧ (0 ≤ n ∧ n < (l : Int)) ∧ (0 ≤ a ∧ a < 14) ∧ ∃ x : Int, h.get b ((o + Int.toNat n * 14) + Int.toNat a * 1) = some (.int .i64 x) ∧ K x := by
  obtain ⟨b, o, e1, e2, x, hx, hg, rfl⟩ := s.rd e hl n0 n1 (K := fun x => x = rs.getD n.toNat []) fun _ => rfl
  refine ⟨b, o, e1, e2, ⟨a0, a1⟩, _, ?_, k⟩
  have hlt : a.toNat < (rs.getD n.toNat []).length := by omega
  rw [Nat.mul_one]
  refine Heap.getN_get hg _ _ ?_
  have e3 : (rs.getD n.toNat []).getD a.toNat 0 = (rs.getD n.toNat [])[a.toNat] := by rw [List.getD_eq_getElem?_getD, List.getElem?_eq_getElem hlt]; rfl
  rw [e3, List.getElem?_map, List.getElem?_eq_getElem hlt]; rfl

/-- A round more, in a struct's field. -/
theorem roundPush {hI : Heap} {m : PMap} {bo : Nat} {n : Int} {A : Option Addr} {l c : Nat} {rs : List (List Int)} {r : List Int} {K : Heap → Prop} (hB : Beside hI m) (hbo : m bo = some [.int .i64 n, .slice A l c]) (V : VAt m A l c 14 (LM rs.flatten)) (hA : A ≠ some ⟨bo, 0, none⟩) (hr : r.length = 14) (hl : l ≤ 1000)
    (k : ∀ hJ m' A' c', Ext hI hJ → Beside hJ m' → m' bo = some [.int .i64 n, .slice A' (l + 1) c'] → VAt m' A' (l + 1) c' 14 (LM (rs ++ [r]).flatten) → A' ≠ some ⟨bo, 0, none⟩ → (∀ y, y ≠ bo → m y ≠ none → A ≠ some ⟨y, 0, none⟩ → m' y = m y) → (∀ y, m y ≠ none → A ≠ some ⟨y, 0, none⟩ → A' ≠ some ⟨y, 0, none⟩) → K (over hJ m')) :
    SAlloc (over hI m) (List.map (Value.int .i64) r ++ []) fun b34 h35 => SAppend h35 14 112 (List.replicate 14 (.int .i64 0)) A l c (some ⟨b34, 0, none⟩) 1 fun v37 h36 => ∃ x38A : Option Addr, ∃ x38l : Nat, ∃ x38c : Nat, v37 = .slice x38A x38l x38c ∧ SStore h36 bo (0 + 1) [.slice x38A x38l x38c] K := by
  refine V.push hB (by simp [hr]) (by rw [List.append_nil]; exact oneInts r) (by omega) (by omega) rfl fun hJ m' A' c' e hB' V' hk hA' => ⟨_, _, _, rfl, ?_⟩
  have hbo' : m' bo = some [.int .i64 n, .slice A l c] := by rw [hk bo (by rw [hbo]; simp) hA]; exact hbo
  have hnA' : A' ≠ some ⟨bo, 0, none⟩ := by
    rcases hA' with rfl | ⟨z, rfl, hz⟩
    · exact hA
    · intro h; cases h; rw [hbo] at hz; cases hz
  refine over_store hbo' (by simp) (by simp [Value.oneCell']) ?_
  have es : splice [Value.int .i64 n, .slice A l c] (0 + 1) [.slice A' (l + 1) c'] = [.int .i64 n, .slice A' (l + 1) c'] := by simp [splice]
  rw [es]
  refine k hJ _ A' c' e (hB'.put (by rw [hbo']; simp) _) (put_self _ _ _) ?_ hnA' (fun y hy hm hAy => (put_ne _ _ hy).trans (hk y hm hAy)) (fun y hm hAy => ?_)
  · have : VAt m' A' (l + 1) c' 14 (LM (rs ++ [r]).flatten) := by
      rw [List.append_nil] at V'
      simpa [LM] using V'
    exact this.congr fun y hy => put_ne _ _ fun e => hnA' (by rw [hy, e])
  · rcases hA' with rfl | ⟨z, rfl, hz⟩
    · exact hAy
    · intro h; cases h; exact hm hz

/-- A struct of a number and rounds that is made: its block, the rounds', the result's. -/
structure Made (hI : Heap) (m : PMap) (bx bo : Nat) (n : Int) (A : Option Addr) (l c : Nat) (rs : List (List Int)) : Prop where
  beside : Beside hI m
  res : m bx = some [.int .i64 0, .slice none 0 0]
  out : m bo = some [.int .i64 n, .slice A l c]
  vec : VAt m A l c 14 (LM rs.flatten)
  no : A ≠ some ⟨bo, 0, none⟩
  nx : A ≠ some ⟨bx, 0, none⟩
  ne : bo ≠ bx
  len : rs.length = l
theorem Made.push {hI : Heap} {m : PMap} {bx bo : Nat} {n : Int} {A : Option Addr} {l c : Nat} {rs : List (List Int)} {r : List Int} {K : Heap → Prop} (M : Made hI m bx bo n A l c rs) (hr : r.length = 14) (hl : l ≤ 1000)
    (k : ∀ hJ m' A' c', Ext hI hJ → Made hJ m' bx bo n A' (l + 1) c' (rs ++ [r]) → K (over hJ m')) :
    SAlloc (over hI m) (List.map (Value.int .i64) r ++ []) fun b34 h35 => SAppend h35 14 112 (List.replicate 14 (.int .i64 0)) A l c (some ⟨b34, 0, none⟩) 1 fun v37 h36 => ∃ x38A : Option Addr, ∃ x38l : Nat, ∃ x38c : Nat, v37 = .slice x38A x38l x38c ∧ SStore h36 bo (0 + 1) [.slice x38A x38l x38c] K :=
  roundPush M.beside M.out M.vec M.no hr hl fun hJ m' A' c' e hB hbo V hno hk hAk => k hJ m' A' c' e ⟨hB, by rw [hk bx M.ne.symm (by rw [M.res]; simp) M.nx]; exact M.res, hbo, V, hno, hAk bx (by rw [M.res]; simp) M.nx, M.ne, by simp [M.len]⟩
/-- Something else changes or is made. -/
theorem Made.other {hI hJ : Heap} {m m' : PMap} {bx bo : Nat} {n : Int} {A : Option Addr} {l c : Nat} {rs : List (List Int)} (M : Made hI m bx bo n A l c rs) (hB : Beside hJ m') (h : ∀ y, m y ≠ none → (y = bx ∨ y = bo ∨ A = some ⟨y, 0, none⟩) → m' y = m y) : Made hJ m' bx bo n A l c rs :=
  ⟨hB, (h bx (by rw [M.res]; simp) (.inl rfl)).trans M.res, (h bo (by rw [M.out]; simp) (.inr (.inl rfl))).trans M.out, M.vec.congr fun y hy => h y (by
    obtain ⟨_, ⟨e, _⟩ | ⟨z, sp, e, hz, _⟩⟩ := M.vec
    · rw [e] at hy; cases hy
    · rw [e] at hy; cases hy; rw [hz]; simp) (.inr (.inr hy)), M.no, M.nx, M.ne, M.len⟩
/-- It is handed back. -/
theorem Made.back {h0 hI : Heap} {m : PMap} {bx bo : Nat} {n : Int} {A : Option Addr} {l c : Nat} {rs : List (List Int)} {K : Value → Heap → Prop} (M : Made hI m bx bo n A l c rs) (e : Ext h0 hI)
    (k : ∀ h2, Ext h0 h2 → OwnV h0 h2 A l c 14 (LM rs.flatten) → K (.agg #[.int .i64 n, .slice A l c]) h2) :
    ∃ x48 : Int, ∃ x49A : Option Addr, ∃ x49l : Nat, ∃ x49c : Nat, (over hI m).getN bo 0 2 = some [.int .i64 x48, .slice x49A x49l x49c] ∧ ([.int .i64 x48, .slice x49A x49l x49c] : List Value).length = 2 ∧ SStore (over hI m) bx 0 [.int .i64 x48, .slice x49A x49l x49c] fun h50 => ∃ r51 : List Value, h50.getN bx 0 2 = some r51 ∧ K (.agg r51.toArray) h50 := by
  refine ⟨n, A, l, c, over_all M.out rfl, rfl, over_st M.res rfl (by simp [Value.oneCell']) ⟨_, over_all (put_self _ _ _) rfl, ?_⟩⟩
  have hB := M.beside.put (b := bx) (by rw [M.res]; simp) [.int .i64 n, .slice A l c]
  refine k _ (e.trans (over_ext hB)) ((M.vec.congr fun y hy => put_ne _ _ fun e => M.nx (by rw [hy, e])).ownv hB e)

/-- A schedule that is handed back, its rounds in a block of their own. -/
def SchedQ (h0 h2 : Heap) (n : Int) (P : List (List Int) → Prop) (u : Value) : Prop :=
  ∃ (A : Option Addr) (c : Nat) (rs : List (List Int)), u = .agg #[.int .i64 n, .slice A rs.length c] ∧ OwnV h0 h2 A rs.length c 14 (LM rs.flatten) ∧ P rs
abbrev SchedK (h0 : Heap) (n : Int) (P : List (List Int) → Prop) (u : Value) (h2 : Heap) : Prop := Ext h0 h2 ∧ SchedQ h0 h2 n P u

theorem S.l01Circle.spec {n : Int} {h : Heap} (n1 : 1 ≤ n) (n14 : n ≤ 14) :
    ACalls Try.prog S.l01Circle.id [.int .i64 n] h (SchedK h n fun rs => (∀ r ∈ rs, Fit n r) ∧ (rs.length : Int) = n - 1 + Int.tmod n 2) := by
  have hmod : 0 ≤ Int.tmod n 2 ∧ Int.tmod n 2 < 2 := ⟨Int.tmod_nonneg _ (by omega), Int.tmod_lt_of_pos _ (by omega)⟩
  have hev : Int.tmod n 2 = 0 → 2 ≤ n := fun h => by
    rcases (by omega : n = 1 ∨ 2 ≤ n) with rfl | h2
    · exact absurd h (by decide)
    · exact h2
  have hm : IntKind.wrap .i64 (IntKind.wrap .i64 (n - 1) + Int.tmod n 2) = n - 1 + Int.tmod n 2 := by rw [w64 (n := n - 1) (by omega) (by omega), w64 (by omega) (by omega)]
  refine S.l01Circle.step _ _ _ ?_
  rw [hm, ← over_noM h]
  generalize hM : n - 1 + Int.tmod n 2 = M
  have hMn : M ≤ n := by
    rcases (by omega : Int.tmod n 2 = 0 ∨ Int.tmod n 2 = 1) with h | h <;> omega
  have hM1 : 1 ≤ M := by
    rcases (by omega : Int.tmod n 2 = 0 ∨ Int.tmod n 2 = 1) with h | h
    · have := hev h; omega
    · omega
  refine over_alloc (beside_noM h) fun b2 _ _ hB2 => ⟨by omega, over_alloc hB2 fun b4 hn4 _ hB4 => over_alloc hB4 fun b6 hn6 _ hB6 => ⟨rfl, over_st (put_self _ _ _) rfl (by simp [Value.oneCell']) ?_⟩⟩
  have n42 : b4 ≠ b2 := fun e => by rw [e, put_self] at hn4; cases hn4
  have n64 : b6 ≠ b4 := fun e => by rw [e, put_self] at hn6; cases hn6
  have n62 : b6 ≠ b2 := fun e => by rw [e, put_ne _ _ n42.symm, put_self] at hn6; cases hn6
  have M0 : Made h ((((noM.put b2 [.int .i64 0, .slice none 0 0]).put b4 []).put b6 [.int .i64 0, .slice none 0 0]).put b6 [.int .i64 n, .slice (some ⟨b4, 0, none⟩) 0 0]) b2 b6 n (some ⟨b4, 0, none⟩) 0 0 [] :=
    ⟨hB6.put (by rw [put_self]; simp) _, by rw [put_ne _ _ n62.symm, put_ne _ _ n62.symm, put_ne _ _ n42.symm, put_self], put_self _ _ _, ⟨rfl, .inr ⟨b4, [], rfl, by rw [put_ne _ _ n64.symm, put_ne _ _ n64.symm, put_self]; rfl, rfl, Nat.le_refl _⟩⟩, by simpa using n64.symm, by simpa using n42, n62, rfl⟩
  generalize (((noM.put b2 [.int .i64 0, .slice none 0 0]).put b4 []).put b6 [.int .i64 0, .slice none 0 0]).put b6 [.int .i64 n, .slice (some ⟨b4, 0, none⟩) 0 0] = m0 at *
  have loop : ∀ (q i : Nat) (A : Option Addr) (c : Nat) (rs : List (List Int)) (hJ : Heap) (m : PMap), (i : Int) + q = M → Ext h hJ → Made hJ m b2 b6 n A i c rs → (∀ r ∈ rs, Fit n r) →
      S.l01Circle.L0 (SchedK (over h noM) n (fun rs => (∀ r ∈ rs, Fit n r) ∧ (rs.length : Int) = M)) (.int .i64 n) (.pointer (some ⟨b2, 0, none⟩)) (.int .i64 M) (.pointer (some ⟨b6, 0, none⟩)) (.int .i64 i) (over hJ m) := by
    intro q
    induction q with
    | zero =>
      intro i A c rs hJ m hi e Ma hr
      refine S.l01Circle.L0_step _ _ _ _ _ _ _ _ _ (dec_split (fun hc => by omega) (fun _ => Ma.back e fun h2 e2 o => ?_))
      have hl := Ma.len
      rw [over_noM]
      exact ⟨e2, A, c, rs, by rw [hl], by rw [hl]; exact o, hr, by omega⟩
    | succ q ih =>
      intro i A c rs hJ m hi e Ma hr
      refine S.l01Circle.L0_step _ _ _ _ _ _ _ _ _ (dec_split (fun hc => (S.l01Free.spec (by omega) n14).mono ?_) (fun hc => by omega))
      rintro u h15 ⟨e15, rfl⟩
      obtain ⟨hK, eK, hBK, rfl⟩ := Ext.under Ma.beside e15
      have hfit := fit_free (n := n) (by omega) n14
      refine ⟨_, hfit.1, rfl, alloc14 hBK fun b18 hn18 _ hB18 => ⟨by simpa using hfit.1, over_st14 (put_self _ _ _) rfl hfit.1 ?_⟩⟩
      have hk18 : ∀ y, m y ≠ none → y ≠ b18 := fun y hy e => hy (by rw [e]; exact hn18)
      -- the teams one after the other
      have inner : ∀ (p a : Nat) (r : List Int) (m' : PMap), (a : Int) + p = M → Beside hK m' → m' b18 = some (LM r) → (∀ y, m y ≠ none → m' y = m y) → Fit n r →
          S.l01Circle.L1 (SchedK (over h noM) n (fun rs => (∀ r ∈ rs, Fit n r) ∧ (rs.length : Int) = M)) (.int .i64 n) (.pointer (some ⟨b2, 0, none⟩)) (.int .i64 M) (.pointer (some ⟨b6, 0, none⟩)) (.int .i64 i) (.pointer (some ⟨b18, 0, none⟩)) (.int .i64 a) (over hK m') := by
        have done : ∀ (r : List Int) (m' : PMap), Beside hK m' → (∀ y, m y ≠ none → m' y = m y) → m' b18 = some (LM r) → Fit n r → ∃ x32A : Option Addr, ∃ x32l : Nat, ∃ x32c : Nat, (over hK m').get b6 (0 + 1) = some (.slice x32A x32l x32c) ∧
            ∃ x33 : List Int, x33.length = 14 ∧ (over hK m').getN b18 0 14 = some (List.map (Value.int .i64) x33) ∧ (List.map (Value.int .i64) x33).length = 14 ∧ SAlloc (over hK m') ((List.map (Value.int .i64) x33) ++ []) fun b34 h35 => SAppend h35 14 112 (List.replicate 14 (.int .i64 0)) x32A x32l x32c (some ⟨b34, 0, none⟩) 1 fun v37 h36 => ∃ x38A : Option Addr, ∃ x38l : Nat, ∃ x38c : Nat, v37 = .slice x38A x38l x38c ∧
              SStore h36 b6 (0 + 1) [.slice x38A x38l x38c] fun h39 => S.l01Circle.L0 (SchedK (over h noM) n (fun rs => (∀ r ∈ rs, Fit n r) ∧ (rs.length : Int) = M)) (.int .i64 n) (.pointer (some ⟨b2, 0, none⟩)) (.int .i64 M) (.pointer (some ⟨b6, 0, none⟩)) (.int .i64 (IntKind.wrap .i64 ((i : Int) + 1))) h39 := by
          intro r m' hB' hk' hm' hr'
          have Ma' : Made hK m' b2 b6 n A i c rs := Ma.other hB' fun y hy _ => hk' y hy
          refine ⟨A, i, c, by rw [over_get Ma'.out]; rfl, r, hr'.1, over_all14 hm' hr'.1, by simpa using hr'.1, Ma'.push hr'.1 (by omega) fun hL mL A' c' eL ML => ?_⟩
          rw [wsucc (by omega)]
          exact ih (i + 1) A' c' (rs ++ [r]) hL mL (by omega) ((e.trans eK).trans eL) ML fun x hx => by
            rcases List.mem_append.1 hx with hx | hx
            · exact hr x hx
            · have : x = r := by simpa using hx
              rw [this]; exact hr'
        intro p
        induction p with
        | zero =>
          intro a r m' ha hB' hm' hk' hr'
          refine S.l01Circle.L1_step _ _ _ _ _ _ _ _ _ _ _ _ (dec_split (fun hc => by omega) (fun _ => ⟨by omega, dec_split (fun h2 => ?_) (fun _ => done r m' hB' hk' hm' hr')⟩))
          have hn2 := hev h2
          rw [w64 (n := n - 1) (by omega) (by omega)]
          refine over_wr14 hm' hr'.1 (by omega) (by omega) ?_
          have hr2 : Fit n (r.set (Int.toNat (i : Int)) (n - 1)) := hr'.set (by omega) (by omega) _
          refine over_wr14 (put_self _ _ _) hr2.1 (by omega) (by omega) ?_
          have hr3 : Fit n ((r.set (Int.toNat (i : Int)) (n - 1)).set (n - 1).toNat (i : Int)) := hr2.set (by omega) (by omega) _
          exact done _ _ ((hB'.put (by rw [hm']; simp) _).put (by rw [put_self]; simp) _) (fun y hy => by rw [put_ne _ _ (hk18 y hy), put_ne _ _ (hk18 y hy)]; exact hk' y hy) (put_self _ _ _) hr3
        | succ p ihp =>
          intro a r m' ha hB' hm' hk' hr'
          refine S.l01Circle.L1_step _ _ _ _ _ _ _ _ _ _ _ _ (dec_split (fun hc => ⟨by omega, over_wr14 hm' hr'.1 (by omega) (by omega) ?_⟩) (fun hc => by omega))
          rw [w64 (n := 2 * (i : Int)) (by omega) (by omega), w64 (n := 2 * (i : Int) + M) (by omega) (by omega), w64 (n := 2 * (i : Int) + M - (a : Int)) (by omega) (by omega), wsucc (by omega)]
          have t0 : 0 ≤ Int.tmod (2 * (i : Int) + M - (a : Int)) M := Int.tmod_nonneg _ (by omega)
          have t1 : Int.tmod (2 * (i : Int) + M - (a : Int)) M < M := Int.tmod_lt_of_pos _ (by omega)
          exact ihp (a + 1) _ _ (by omega) (hB'.put (by rw [hm']; simp) _) (put_self _ _ _) (fun y hy => by rw [put_ne _ _ (hk18 y hy)]; exact hk' y hy) (hr'.set t0 (by omega) _)
      exact inner M.toNat 0 _ _ (by omega) (hB18.put (by rw [put_self]; simp) _) (put_self _ _ _) (fun y hy => by rw [put_ne _ _ (hk18 y hy), put_ne _ _ (hk18 y hy)]) hfit
  have := loop M.toNat 0 _ 0 [] h m0 (by omega) (Ext.refl _) M0 (fun r hr => by cases hr)
  rw [over_noM] at this ⊢
  exact this

end Go.Proofs.Ythkbodgpcjcndaa

/- Schedules that the reference makes out of others. -/
set_option linter.unusedVariables false
set_option linter.unusedSimpArgs false
namespace Go.Proofs.Ythkbodgpcjcndaa
open Go.HL

theorem fit_zero (n : Int) : Fit n (List.replicate 14 0) := by
  refine ⟨rfl, fun i hi => ?_⟩
  rw [List.getD_eq_getElem?_getD, List.getElem?_replicate]
  split <;> simp <;> omega

/-- The start of a struct that is made. -/
theorem madeStart {hI : Heap} {m : PMap} {n : Int} {b6 : Nat} {K : Heap → Nat → Nat → Prop} (hB : Beside hI m) (h6 : m b6 = some [.int .i64 0, .slice none 0 0])
    (k : ∀ b9 b11 m', (∀ y, m y ≠ none → m' y = m y) → Made hI m' b6 b11 n (some ⟨b9, 0, none⟩) 0 0 [] → K (over hI m') b9 b11) :
    SAlloc (over hI m) [] fun b9 h10 => SAlloc h10 [.int .i64 0, .slice none 0 0] fun b11 h12 => ([.int .i64 n, .slice (some ⟨b9, 0, none⟩) 0 0] : List Value).length = 2 ∧ SStore h12 b11 0 [.int .i64 n, .slice (some ⟨b9, 0, none⟩) 0 0] fun h13 => K h13 b9 b11 := by
  refine over_alloc hB fun b9 hn9 _ hB9 => over_alloc hB9 fun b11 hn11 _ hB11 => ⟨rfl, over_st (put_self _ _ _) rfl (by simp [Value.oneCell']) ?_⟩
  have n96 : b9 ≠ b6 := fun e => by rw [e, h6] at hn9; cases hn9
  have n119 : b11 ≠ b9 := fun e => by rw [e, put_self] at hn11; cases hn11
  have n116 : b11 ≠ b6 := fun e => by rw [e, put_ne _ _ n96.symm, h6] at hn11; cases hn11
  refine k b9 b11 _ (fun y hy => ?_) ⟨hB11.put (by rw [put_self]; simp) _, by rw [put_ne _ _ n116.symm, put_ne _ _ n116.symm, put_ne _ _ n96.symm]; exact h6, put_self _ _ _, ⟨rfl, .inr ⟨b9, [], rfl, by rw [put_ne _ _ n119.symm, put_ne _ _ n119.symm, put_self]; rfl, rfl, Nat.le_refl _⟩⟩, by simpa using n119.symm, by simpa using n96, n116, rfl⟩
  have h9 : y ≠ b9 := fun e => hy (by rw [e]; exact hn9)
  have h11 : y ≠ b11 := fun e => by rw [e] at hy h9; rw [put_ne _ _ h9] at hn11; exact hy hn11
  rw [put_ne _ _ h11, put_ne _ _ h11, put_ne _ _ h9]

theorem S.l01Renamed.spec {n : Int} {A P : Option Addr} {rs : List (List Int)} {ps : List Int} {l c d : Nat} {h : Heap} (s : Rds h A rs) (hl : rs.length = l) (hl1 : l ≤ 1000) (n0 : 0 ≤ n) (n14 : n ≤ 14) (hf : ∀ r ∈ rs, Fit n r) (hp : Ints h P ps) (hpl : ps.length = n.toNat) (hpr : ∀ x ∈ ps, 0 ≤ x ∧ x < n) :
    ACalls Try.prog S.l01Renamed.id [.agg #[.int .i64 n, .slice A l c], .slice P n.toNat d] h (SchedK h n fun rs' => (∀ r ∈ rs', Fit n r) ∧ rs'.length = l) := by
  refine S.l01Renamed.step _ _ _ _ _ _ _ _ _ fun b4 hf4 => ?_
  have e4 := Ext.upd hf4 (.cells [.int .i64 n, .slice A l c])
  have g0 : (h.upd b4 (.cells [.int .i64 n, .slice A l c])).get b4 0 = some (.int .i64 n) := by simp
  have g1 : (h.upd b4 (.cells [.int .i64 n, .slice A l c])).get b4 1 = some (.slice A l c) := by simp
  generalize h.upd b4 (.cells [.int .i64 n, .slice A l c]) = h1 at *
  rw [← over_noM h1]
  refine over_alloc (beside_noM h1) fun b6 _ _ hB6 => ⟨n, (over_ext hB6).get g0, madeStart hB6 (put_self _ _ _) fun b9 b11 m0 _ M0 => ?_⟩
  have loop : ∀ (q i : Nat) (C : Option Addr) (cc : Nat) (rs' : List (List Int)) (hJ : Heap) (m : PMap), i + q = l → Ext h1 hJ → Made hJ m b6 b11 n C i cc rs' → (∀ r ∈ rs', Fit n r) →
      S.l01Renamed.L0 (SchedK h n fun rs' => (∀ r ∈ rs', Fit n r) ∧ rs'.length = l) (.slice P n.toNat d) (.pointer (some ⟨b4, 0, none⟩)) (.pointer (some ⟨b6, 0, none⟩)) (.pointer (some ⟨b11, 0, none⟩)) (.int .i64 i) (over hJ m) := by
    intro q
    induction q with
    | zero =>
      intro i C cc rs' hJ m hi e Ma hr
      have eB := over_ext Ma.beside
      refine S.l01Renamed.L0_step _ _ _ _ _ _ _ _ _ _ _ _ ⟨A, l, c, eB.get (e.get g1), dec_split (fun hc => by omega) (fun _ => Ma.back (K := SchedK h n fun rs' => (∀ r ∈ rs', Fit n r) ∧ rs'.length = l) (e4.trans e) fun h2 e2 o => ?_)⟩
      have hl' := Ma.len
      exact ⟨e2, C, cc, rs', by rw [hl'], by rw [hl']; exact o, hr, by omega⟩
    | succ q ih =>
      intro i C cc rs' hJ m hi e Ma hr
      have eB := over_ext Ma.beside
      refine S.l01Renamed.L0_step _ _ _ _ _ _ _ _ _ _ _ _ ⟨A, l, c, eB.get (e.get g1), dec_split (fun hc => alloc14 Ma.beside fun b21 hn21 _ hB21 => ⟨rfl, over_st14 (put_self _ _ _) rfl (r := List.replicate 14 0) rfl ?_⟩) (fun hc => by omega)⟩
      have hk21 : ∀ y, m y ≠ none → y ≠ b21 := fun y hy e => hy (by rw [e]; exact hn21)
      have hii : i < rs.length := by omega
      have hfi := hf _ (getD_mem (d := []) hii)
      have inner : ∀ (p a : Nat) (r : List Int) (m' : PMap), (a : Int) + p = n → Beside hJ m' → m' b21 = some (LM r) → (∀ y, m y ≠ none → m' y = m y) → Fit n r →
          S.l01Renamed.L1 (SchedK h n fun rs' => (∀ r ∈ rs', Fit n r) ∧ rs'.length = l) (.slice P n.toNat d) (.pointer (some ⟨b4, 0, none⟩)) (.pointer (some ⟨b6, 0, none⟩)) (.pointer (some ⟨b11, 0, none⟩)) (.int .i64 i) (.pointer (some ⟨b21, 0, none⟩)) (.int .i64 a) (over hJ m') := by
        intro p
        induction p with
        | zero =>
          intro a r m' ha hB' hm' hk' hr'
          have eB' := e.trans (over_ext hB')
          have Ma' : Made hJ m' b6 b11 n C i cc rs' := Ma.other hB' fun y hy _ => hk' y hy
          refine S.l01Renamed.L1_step _ _ _ _ _ _ _ _ _ _ _ _ _ _ _ ⟨n, eB'.get g0, dec_split (fun hc => by omega) (fun _ => ⟨C, i, cc, by rw [over_get Ma'.out]; rfl, r, hr'.1, over_all14 hm' hr'.1, by simpa using hr'.1, Ma'.push hr'.1 (by omega) fun hL mL C' c' eL ML => ?_⟩)⟩
          rw [wsucc (by omega)]
          exact ih (i + 1) C' c' (rs' ++ [r]) hL mL (by omega) (e.trans eL) ML fun x hx => by
            rcases List.mem_append.1 hx with hx | hx
            · exact hr x hx
            · have : x = r := by simpa using hx
              rw [this]; exact hr'
        | succ p ihp =>
          intro a r m' ha hB' hm' hk' hr'
          have eB' := e.trans (over_ext hB')
          have eh' := e4.trans eB'
          obtain ⟨f0, f1⟩ := hfi.2 a (by omega)
          have hpa := hpr _ (getD_mem (l := ps) (q := a) (d := 0) (by omega))
          have hpb := hpr _ (getD_mem (l := ps) (q := ((rs.getD i []).getD a 0).toNat) (d := 0) (by omega))
          refine S.l01Renamed.L1_step _ _ _ _ _ _ _ _ _ _ _ _ _ _ _ ⟨n, eB'.get g0, dec_split (fun hc => hp.rd eh' hpl (by omega) (by omega) ⟨A, l, c, eB'.get g1, Rds.rd1 s eh' hl (by omega) (by omega) (by omega) (by omega) ?_⟩) (fun hc => by omega)⟩
          rw [Int.toNat_natCast, Int.toNat_natCast]
          refine hp.rd eh' hpl f0 (by omega) (over_wr14 hm' hr'.1 hpa.1 (by omega) ?_)
          rw [wsucc (by omega)]
          exact ihp (a + 1) _ _ (by omega) (hB'.put (by rw [hm']; simp) _) (put_self _ _ _) (fun y hy => by rw [put_ne _ _ (hk21 y hy)]; exact hk' y hy) (hr'.set hpb.1 hpb.2 _)
      exact inner n.toNat 0 _ _ (by omega) (hB21.put (by rw [put_self]; simp) _) (put_self _ _ _) (fun y hy => by rw [put_ne _ _ (hk21 y hy), put_ne _ _ (hk21 y hy)]) (fit_zero n)
  exact loop l 0 _ 0 [] h1 m0 (by omega) (Ext.refl _) M0 (fun r hr => by cases hr)

theorem S.l01Reordered.spec {n : Int} {A Q : Option Addr} {rs : List (List Int)} {qs : List Int} {l c k d : Nat} {h : Heap} {G : List Int → Prop} (s : Rds h A rs) (hl : rs.length = l) (hG : ∀ r ∈ rs, G r) (hq : Ints h Q qs) (hql : qs.length = k) (hk1 : k ≤ 1000) (hqr : ∀ x ∈ qs, 0 ≤ x ∧ x < (l : Int)) :
    ACalls Try.prog S.l01Reordered.id [.agg #[.int .i64 n, .slice A l c], .slice Q k d] h (SchedK h n fun rs' => (∀ r ∈ rs', G r) ∧ rs'.length = k) := by
  refine S.l01Reordered.step _ _ _ _ _ _ _ _ _ fun b4 hf4 => ?_
  have e4 := Ext.upd hf4 (.cells [.int .i64 n, .slice A l c])
  have g0 : (h.upd b4 (.cells [.int .i64 n, .slice A l c])).get b4 0 = some (.int .i64 n) := by simp
  have g1 : (h.upd b4 (.cells [.int .i64 n, .slice A l c])).get b4 1 = some (.slice A l c) := by simp
  generalize h.upd b4 (.cells [.int .i64 n, .slice A l c]) = h1 at *
  rw [← over_noM h1]
  refine over_alloc (beside_noM h1) fun b6 _ _ hB6 => ⟨n, (over_ext hB6).get g0, madeStart hB6 (put_self _ _ _) fun b9 b11 m0 _ M0 => ?_⟩
  have loop : ∀ (q i : Nat) (C : Option Addr) (cc : Nat) (rs' : List (List Int)) (hJ : Heap) (m : PMap), i + q = k → Ext h1 hJ → Made hJ m b6 b11 n C i cc rs' → (∀ r ∈ rs', G r) →
      S.l01Reordered.L0 (SchedK h n fun rs' => (∀ r ∈ rs', G r) ∧ rs'.length = k) (.slice Q k d) (.pointer (some ⟨b4, 0, none⟩)) (.pointer (some ⟨b6, 0, none⟩)) (.pointer (some ⟨b11, 0, none⟩)) (.int .i64 i) (over hJ m) := by
    intro q
    induction q with
    | zero =>
      intro i C cc rs' hJ m hi e Ma hr
      refine S.l01Reordered.L0_step _ _ _ _ _ _ _ _ _ _ _ _ (dec_split (fun hc => by omega) (fun _ => Ma.back (K := SchedK h n fun rs' => (∀ r ∈ rs', G r) ∧ rs'.length = k) (e4.trans e) fun h2 e2 o => ?_))
      have hl' := Ma.len
      exact ⟨e2, C, cc, rs', by rw [hl'], by rw [hl']; exact o, hr, by omega⟩
    | succ q ih =>
      intro i C cc rs' hJ m hi e Ma hr
      have eB := e.trans (over_ext Ma.beside)
      have hqi := hqr _ (getD_mem (l := qs) (q := i) (d := 0) (by omega))
      refine S.l01Reordered.L0_step _ _ _ _ _ _ _ _ _ _ _ _ (dec_split (fun hc => ⟨C, i, cc, by rw [over_get Ma.out]; rfl, A, l, c, eB.get g1, hq.rd (e4.trans eB) hql (by omega) hc ?_⟩) (fun hc => by omega))
      rw [Int.toNat_natCast]
      refine s.rd (e4.trans eB) hl hqi.1 hqi.2 fun hx => ⟨by simpa using hx, by simpa using hx, Ma.push hx (by omega) fun hL mL C' c' eL ML => ?_⟩
      rw [wsucc (by omega)]
      refine ih (i + 1) C' c' _ hL mL (by omega) (e.trans eL) ML fun x hx => ?_
      rcases List.mem_append.1 hx with hx | hx
      · exact hr x hx
      · have : x = rs.getD (qs.getD i 0).toNat [] := by simpa using hx
        rw [this]; exact hG _ (getD_mem (by omega))
  exact loop k 0 _ 0 [] h1 m0 (by omega) (Ext.refl _) M0 (fun r hr => by cases hr)

theorem S.l01Copy.spec {n : Int} {A : Option Addr} {rs : List (List Int)} {l c : Nat} {h : Heap} (s : Rds h A rs) (hl : rs.length = l) (hl1 : l ≤ 1000) :
    ACalls Try.prog S.l01Copy.id [.agg #[.int .i64 n, .slice A l c]] h (SchedK h n fun rs' => rs' = rs) := by
  refine S.l01Copy.step _ _ _ _ _ _ fun b3 hf3 => ?_
  have e3 := Ext.upd hf3 (.cells [.int .i64 n, .slice A l c])
  have g0 : (h.upd b3 (.cells [.int .i64 n, .slice A l c])).get b3 0 = some (.int .i64 n) := by simp
  have g1 : (h.upd b3 (.cells [.int .i64 n, .slice A l c])).get b3 1 = some (.slice A l c) := by simp
  generalize h.upd b3 (.cells [.int .i64 n, .slice A l c]) = h1 at *
  rw [← over_noM h1]
  refine over_alloc (beside_noM h1) fun b5 _ _ hB5 => ⟨n, (over_ext hB5).get g0, A, l, c, (over_ext hB5).get g1, over_alloc hB5 fun b9 hn9 _ hB9 => ?_⟩
  have n95 : b9 ≠ b5 := fun e => by rw [e, put_self] at hn9; cases hn9
  have V : VAt ((noM.put b5 [.int .i64 0, .slice none 0 0]).put b9 []) (some ⟨b9, 0, none⟩) 0 0 14 [] := VAt.made rfl
  have hfl : (LM rs.flatten).length = l * 14 := by rw [LM, List.length_map, flat_len14 s.2, hl]
  refine V.append hB9 ((s.1.mono (e3.trans (over_ext hB9))).row hfl) hfl (oneInts _) (by omega) (by omega) rfl fun m' A' c' b1 b2 b3' b4 => ⟨A', l, c', by rw [Nat.zero_add], (over_ext b1).get g0, rfl, ?_⟩
  have hm5 : m' b5 = some [.int .i64 0, .slice none 0 0] := by rw [b3' b5 (by rw [put_ne _ _ n95.symm, put_self]; simp) (by simpa using n95), put_ne _ _ n95.symm, put_self]
  have hA5 : A' ≠ some ⟨b5, 0, none⟩ := by
    rcases b4 with rfl | ⟨y, rfl, hy⟩
    · simpa using n95
    · intro h; cases h; rw [put_ne _ _ n95.symm, put_self] at hy; cases hy
  refine over_st hm5 rfl (by simp [Value.oneCell']) ⟨_, over_all (put_self _ _ _) rfl, ?_⟩
  rw [Nat.zero_add, List.nil_append] at b2
  have hB' := b1.put (b := b5) (by rw [hm5]; simp) [.int .i64 n, .slice A' l c']
  exact ⟨e3.trans (over_ext hB'), A', c', rs, by rw [hl], by rw [hl]; exact (b2.congr fun y hy => put_ne _ _ fun e => hA5 (by rw [hy, e])).ownv hB' e3, rfl⟩

end Go.Proofs.Ythkbodgpcjcndaa

/- Round robins that the reference draws. -/
set_option linter.unusedVariables false
set_option linter.unusedSimpArgs false
namespace Go.Proofs.Ythkbodgpcjcndaa
open Go.HL

/-- A schedule that is drawn. -/
abbrev DrewK (hI : Heap) (m : PMap) (b : Nat) (P : Int → List (List Int) → Prop) (u : Value) (h2 : Heap) : Prop :=
  ∃ (n : Int) (A : Option Addr) (c : Nat) (rs : List (List Int)), u = .agg #[.int .i64 n, .slice A rs.length c] ∧ P n rs ∧ Drew hI m b (fun _ m' => VAt m' A rs.length c 14 (LM rs.flatten) ∧ ∀ y, m y ≠ none → A ≠ some ⟨y, 0, none⟩) h2

/-- A variable that holds a schedule whose rounds are its own. -/
structure XAt (hJ : Heap) (m0 m : PMap) (b bx : Nat) (n : Int) (A : Option Addr) (c : Nat) (rs : List (List Int)) : Prop where
  beside : Beside hJ m
  src : SrcAt hJ m b
  keep : ∀ y, y ≠ b → m0 y ≠ none → m y = m0 y
  cell : m bx = some [.int .i64 n, .slice A rs.length c]
  vec : VAt m A rs.length c 14 (LM rs.flatten)
  nA : ∀ y, m0 y ≠ none → A ≠ some ⟨y, 0, none⟩
  nx : A ≠ some ⟨bx, 0, none⟩
  n0 : m0 bx = none
  nb : m0 b ≠ none

section
variable {hI hJ hK h2 : Heap} {m0 m m' : PMap} {b bx : Nat} {n n' : Int} {A A' : Option Addr} {c c' : Nat} {rs rs' : List (List Int)}
theorem XAt.le (X : XAt hJ m0 m b bx n A c rs) : ∀ y, m0 y ≠ none → m y ≠ none := fun y hy => by
  by_cases hyb : y = b
  · rw [hyb]; exact X.src.some
  · rw [X.keep y hyb hy]; exact hy
theorem XAt.xb (X : XAt hJ m0 m b bx n A c rs) : bx ≠ b := fun e => X.nb (by rw [← e]; exact X.n0)
theorem XAt.drew {R : Heap → PMap → Prop} (X : XAt hJ m0 m b bx n A c rs) (D : Drew hJ m b R h2) : ∃ hK m', Ext hJ hK ∧ h2 = over hK m' ∧ XAt hK m0 m' b bx n A c rs ∧ (∀ y, y ≠ b → m y ≠ none → m' y = m y) ∧ R hK m' := by
  obtain ⟨hK, m', e, hB, rfl, s, hk, r⟩ := D
  refine ⟨hK, m', e, rfl, ⟨hB, s, fun y hy hm => by rw [hk y hy (X.le y hm), X.keep y hy hm], (hk bx X.xb (by rw [X.cell]; simp)).trans X.cell, X.vec.congr fun y hy => ?_, X.nA, X.nx, X.n0, X.nb⟩, hk, r⟩
  obtain ⟨_, ⟨h, _⟩ | ⟨z, sp, h, hz, _⟩⟩ := X.vec
  · rw [h] at hy; cases hy
  · rw [h] at hy; cases hy
    exact hk _ (fun e => X.nA b X.nb (by rw [h, e])) (by rw [hz]; simp)
theorem XAt.getN (X : XAt hJ m0 m b bx n A c rs) : (over hJ m).getN bx 0 2 = some [.int .i64 n, .slice A rs.length c] := over_all X.cell rfl
theorem XAt.get0 (X : XAt hJ m0 m b bx n A c rs) : (over hJ m).get bx 0 = some (.int .i64 n) := by rw [over_get X.cell]; rfl
theorem XAt.get1 (X : XAt hJ m0 m b bx n A c rs) : (over hJ m).get bx 1 = some (.slice A rs.length c) := by rw [over_get X.cell]; rfl
/-- Something new beside it. -/
theorem XAt.beyond (X : XAt hJ m0 m b bx n A c rs) (e : Ext hJ hK) (hB : Beside hK m') (hk : ∀ y, m y ≠ none → m' y = m y) : XAt hK m0 m' b bx n A c rs :=
  ⟨hB, (X.src.mono e).congr (hk b X.src.some), fun y hy hm => by rw [hk y (X.le y hm), X.keep y hy hm], (hk bx (by rw [X.cell]; simp)).trans X.cell, X.vec.keep hk, X.nA, X.nx, X.n0, X.nb⟩
/-- Another schedule is put in. -/
theorem XAt.assign {K : Heap → Prop} (X : XAt hJ m0 m b bx n A c rs) (e : Ext hJ hK) (hB : Beside hK m') (hk : ∀ y, m y ≠ none → m' y = m y) (V : VAt m' A' rs'.length c' 14 (LM rs'.flatten)) (hA : ∀ y, m y ≠ none → A' ≠ some ⟨y, 0, none⟩)
    (k : ∀ m'', XAt hK m0 m'' b bx n' A' c' rs' → K (over hK m'')) : ([.int .i64 n', .slice A' rs'.length c'] : List Value).length = 2 ∧ SStore (over hK m') bx 0 [.int .i64 n', .slice A' rs'.length c'] K := by
  have hc : m' bx = some [.int .i64 n, .slice A rs.length c] := (hk bx (by rw [X.cell]; simp)).trans X.cell
  have hx : A' ≠ some ⟨bx, 0, none⟩ := hA bx (by rw [X.cell]; simp)
  refine ⟨rfl, over_st hc rfl (by simp [Value.oneCell']) (k _ ⟨hB.put (by rw [hc]; simp) _, ((X.src.mono e).congr (hk b X.src.some)).congr (put_ne _ _ X.xb.symm), fun y hy hm => ?_, put_self _ _ _, V.congr fun y hy => put_ne _ _ fun e => hx (by rw [hy, e]), fun y hm => hA y (X.le y hm), hx, X.n0, X.nb⟩)⟩
  rw [put_ne _ _ (fun e => hm (by rw [e]; exact X.n0)), hk y (X.le y hm), X.keep y hy hm]
/-- It is handed back. -/
theorem XAt.back {b2 : Nat} {P : Int → List (List Int) → Prop} (X : XAt hJ (m.put b2 [.int .i64 0, .slice none 0 0]) m' b bx n A c rs) (hn2 : m b2 = none) (hmb : m b ≠ none) (e : Ext hI hJ) (p : P n rs) :
    ([.int .i64 n, .slice A rs.length c] : List Value).length = 2 ∧ SStore (over hJ m') b2 0 [.int .i64 n, .slice A rs.length c] fun h48 => ∃ r49 : List Value, h48.getN b2 0 2 = some r49 ∧ DrewK hI m b P (.agg r49.toArray) h48 := by
  have n2b : b2 ≠ b := fun e => hmb (by rw [← e]; exact hn2)
  have h2 : m' b2 = some [.int .i64 0, .slice none 0 0] := by rw [X.keep b2 n2b (by rw [put_self]; simp), put_self]
  have hA2 : A ≠ some ⟨b2, 0, none⟩ := X.nA b2 (by rw [put_self]; simp)
  have h0 : ∀ y, m y ≠ none → y ≠ b2 := fun y hy e => hy (by rw [e]; exact hn2)
  refine ⟨rfl, over_st h2 rfl (by simp [Value.oneCell']) ⟨_, over_all (put_self _ _ _) rfl, n, A, c, rs, rfl, p, hJ, _, e, X.beside.put (by rw [h2]; simp) _, rfl, X.src.congr (put_ne _ _ n2b.symm), fun y hy hm => ?_, X.vec.congr fun y hy => put_ne _ _ fun e => hA2 (by rw [hy, e]), fun y hm => X.nA y (by rw [put_ne _ _ (h0 y hm)]; exact hm)⟩⟩
  rw [put_ne _ _ (h0 y hm), X.keep y hy (by rw [put_ne _ _ (h0 y hm)]; exact hm), put_ne _ _ (h0 y hm)]
/-- A variable for a schedule that a call has handed back. -/
theorem XAt.start {K : Nat → Heap → Prop} (hB : Beside hJ m) (s : SrcAt hJ m b) (hk : ∀ y, y ≠ b → m0 y ≠ none → m y = m0 y) (hb : m0 b ≠ none) (V : VAt m A rs.length c 14 (LM rs.flatten)) (hA : ∀ y, m0 y ≠ none → A ≠ some ⟨y, 0, none⟩)
    (k : ∀ bx m', (∀ y, m y ≠ none → m' y = m y) → XAt hJ m0 m' b bx n A c rs → K bx (over hJ m')) :
    SAlloc (over hJ m) [.int .i64 0, .slice none 0 0] fun b13 h14 => ([.int .i64 n, .slice A rs.length c] : List Value).length = 2 ∧ SStore h14 b13 0 [.int .i64 n, .slice A rs.length c] fun h15 => K b13 h15 := by
  refine over_alloc hB fun bx hnx hfx hBx => ⟨rfl, over_st (put_self _ _ _) rfl (by simp [Value.oneCell']) ?_⟩
  have hle : ∀ y, m0 y ≠ none → m y ≠ none := fun y hy => by
    by_cases hyb : y = b
    · rw [hyb]; exact s.some
    · rw [hk y hyb hy]; exact hy
  have hne : ∀ y, m y ≠ none → y ≠ bx := fun y hy e => hy (by rw [e]; exact hnx)
  have hAx : A ≠ some ⟨bx, 0, none⟩ := fun h => by
    obtain ⟨_, ⟨e, _⟩ | ⟨z, sp, e, hz, _⟩⟩ := V
    · rw [e] at h; cases h
    · rw [e] at h; cases h; rw [hnx] at hz; cases hz
  have hk2 : ∀ y, m y ≠ none → ((m.put bx [.int .i64 0, .slice none 0 0]).put bx [.int .i64 n, .slice A rs.length c]) y = m y := fun y hy => by rw [put_ne _ _ (hne y hy), put_ne _ _ (hne y hy)]
  refine k bx _ hk2 ⟨hBx.put (by rw [put_self]; simp) _, s.congr (hk2 b s.some), fun y hy hm => by rw [hk2 y (hle y hm), hk y hy hm], put_self _ _ _, V.keep hk2, hA, hAx, ?_, hb⟩
  cases h : m0 bx with
  | none => rfl
  | some cs => exact absurd hnx (hle bx (by rw [h]; simp))
end

theorem S.l01DrawRobin.spec {hI : Heap} {m : PMap} {b : Nat} (hB : Beside hI m) (s : SrcAt hI m b) :
    ACalls Try.prog S.l01DrawRobin.id [.pointer (some ⟨b, 0, none⟩)] (over hI m) (DrewK hI m b fun n rs => 2 ≤ n ∧ n ≤ 14 ∧ (∀ r ∈ rs, Fit n r) ∧ rs.length ≤ 14) := by
  refine S.l01DrawRobin.step _ _ _ _ (over_alloc hB fun b2 hn2 hf2 hB2 => base_alloc hB2 fun b4 hf4 hn4 e4 hB4 => ?_)
  have hsome := s.some
  have n2 : b ≠ b2 := fun e => hsome (by rw [e]; exact hn2)
  have s2 : SrcAt hI (m.put b2 [.int .i64 0, .slice none 0 0]) b := s.congr (put_ne _ _ n2)
  have hb0 : (m.put b2 [.int .i64 0, .slice none 0 0]) b ≠ none := s2.some
  refine (S.l01Pick.spec (xs := [2, 3, 4, 4, 5, 6, 6, 7, 8, 8, 9, 10, 12, 14]) hB4 (s2.mono e4) (Seg.new' _ _ _) rfl (Nat.zero_lt_succ 13)).mono ?_
  rintro u h6 ⟨r, rfl, hr, hJ, m1, e1, hB1, rfl, s1, hk1, rfl⟩
  have hr2 : 2 ≤ r ∧ r ≤ 14 := by
    simp only [List.mem_cons, List.not_mem_nil, or_false] at hr
    omega
  refine ⟨r, rfl, (S.l01Circle.spec (by omega) hr2.2).mono ?_⟩
  rintro u h9 ⟨e9, A, c, rs, rfl, o, hfit, hlen⟩
  have hmod : Int.tmod r 2 < 2 := Int.tmod_lt_of_pos _ (by omega)
  have hmod0 : 0 ≤ Int.tmod r 2 := Int.tmod_nonneg _ (by omega)
  have hl14 : rs.length ≤ 14 := by
    have hp : Int.tmod r 2 = 0 ∨ r ≤ 13 := by
      rcases (by omega : r ≤ 13 ∨ r = 14) with h | rfl
      · exact .inr h
      · exact .inl (by decide)
    omega
  obtain ⟨hK, m3, eK, hB3, rfl, V3, hk3, hA3⟩ := o.under_take hB1 e9
  have hk13 : ∀ y, y ≠ b → (m.put b2 [.int .i64 0, .slice none 0 0]) y ≠ none → m3 y = (m.put b2 [.int .i64 0, .slice none 0 0]) y := fun y hy hm => by rw [hk3 y (by rw [hk1 y hy hm]; exact hm), hk1 y hy hm]
  have hle1 : ∀ y, (m.put b2 [.int .i64 0, .slice none 0 0]) y ≠ none → m1 y ≠ none := fun y hm => by
    by_cases hyb : y = b
    · rw [hyb]; exact s1.some
    · rw [hk1 y hyb hm]; exact hm
  refine ⟨r, A, rs.length, c, rfl, XAt.start hB3 ((s1.mono eK).congr (hk3 b s1.some)) hk13 hb0 V3 (fun y hm => hA3 y (hle1 y hm)) fun b13 m4 _ X4 => ?_⟩
  intro k16 hk16
  -- the second part
  have second : ∀ (hL : Heap) (m' : PMap) (A : Option Addr) (c : Nat) (rs : List (List Int)), Ext hK hL → XAt hL (m.put b2 [.int .i64 0, .slice none 0 0]) m' b b13 r A c rs → (∀ x ∈ rs, Fit r x) → rs.length ≤ 14 → k16 [] (over hL m') := by
    intro hL m' A c rs eL X hfit hl14
    have eall : Ext hI hL := (e4.trans eK).trans eL
    refine hk16 _ ((S.l01Next.spec X.beside X.src).mono ?_)
    rintro u h32 ⟨r3, rfl, _, _, _, D⟩
    obtain ⟨hM, m5, eM, rfl, X5, _, _⟩ := X.drew D
    refine ⟨r3, rfl, dec_split (fun hc => ⟨r, A, rs.length, c, X5.getN, A, rs.length, c, X5.get1, (S.l01DrawOrder.spec X5.beside X5.src (by omega)).mono ?_⟩) (fun hc => ⟨r, A, rs.length, c, X5.getN, X5.back hn2 hsome (eall.trans eM) ⟨hr2.1, hr2.2, hfit, hl14⟩⟩)⟩
    rintro u h38 ⟨Q, cQ, qs, rfl, hq, D⟩
    rw [Int.toNat_natCast] at hq D ⊢
    obtain ⟨hN, m6, eN, rfl, X6, hk6, VQ, _⟩ := X5.drew D
    refine ⟨Q, _, cQ, rfl, X6.getN, (S.l01Reordered.spec (G := Fit r) (X6.vec.rds fun x hx => (hfit x hx).1) rfl hfit VQ.ints (by rw [hq.length_eq, seqI_len]) (by omega) (fun x hx => seqI_mem (hq.mem_iff.1 hx))).mono ?_⟩
    rintro u h41 ⟨e41, A', c', rs', rfl, o', hf', hl'⟩
    obtain ⟨hO, m7, eO, hB7, rfl, V7, hk7, hA7⟩ := o'.under_take X6.beside e41
    refine ⟨r, A', rs'.length, c', rfl, X6.assign eO hB7 hk7 V7 hA7 fun m8 X8 => ⟨r, A', rs'.length, c', X8.getN, X8.back hn2 hsome (((eall.trans eM).trans eN).trans eO) ⟨hr2.1, hr2.2, hf', by omega⟩⟩⟩
  refine (S.l01Next.spec X4.beside X4.src).mono ?_
  rintro u h17 ⟨r3, rfl, _, _, _, D⟩
  obtain ⟨hM, m5, eM, rfl, X5, _, _⟩ := X4.drew D
  refine ⟨r3, rfl, dec_split (fun hc => ⟨r, A, rs.length, c, X5.getN, r, X5.get0, (S.l01DrawOrder.spec X5.beside X5.src (by omega)).mono ?_⟩) (fun hc => second hM m5 A c rs eM X5 hfit hl14)⟩
  rintro u h23 ⟨Q, cQ, qs, rfl, hq, D⟩
  obtain ⟨hN, m6, eN, rfl, X6, hk6, VQ, _⟩ := X5.drew D
  refine ⟨Q, _, cQ, rfl, X6.getN, (S.l01Renamed.spec (X6.vec.rds fun x hx => (hfit x hx).1) rfl (by omega) (by omega) hr2.2 hfit VQ.ints (by rw [hq.length_eq, seqI_len]) (fun x hx => by have := seqI_mem (hq.mem_iff.1 hx); omega)).mono ?_⟩
  rintro u h26 ⟨e26, A', c', rs', rfl, o', hf', hl'⟩
  obtain ⟨hO, m7, eO, hB7, rfl, V7, hk7, hA7⟩ := o'.under_take X6.beside e26
  exact ⟨r, A', rs'.length, c', rfl, X6.assign eO hB7 hk7 V7 hA7 fun m8 X8 => second hO m8 A' c' rs' ((eM.trans eN).trans eO) X8 hf' (by omega)⟩

end Go.Proofs.Ythkbodgpcjcndaa

/- Schedules that the reference draws. -/
set_option linter.unusedVariables false
set_option linter.unusedSimpArgs false
namespace Go.Proofs.Ythkbodgpcjcndaa
open Go.HL

theorem flat_take14 : ∀ {rs : List (List Int)} (_ : ∀ r ∈ rs, r.length = 14) (k : Nat), (rs.take k).flatten = rs.flatten.take (k * 14)
  | [], _, k => by simp
  | r :: rs, h, 0 => by simp
  | r :: rs, h, k + 1 => by
    have hr : r.length = 14 := h r (by simp)
    have ih := flat_take14 (rs := rs) (fun r hr => h r (by simp [hr])) k
    have e : (k + 1) * 14 = r.length + k * 14 := by rw [hr]; omega
    rw [List.take_succ_cons, List.flatten_cons, ih, List.flatten_cons, e, List.take_length_add_append]
theorem VAt.slice_hi {m : PMap} {A : Option Addr} {l c sz : Nat} {vs : List Value} (V : VAt m A l c sz vs) {r : Int} (r0 : 0 ≤ r) (r1 : r ≤ (l : Int)) :
    evalL.evalSlice sz A l c none (some (.int .i64 r)) none = some (.slice A r.toNat c) := by
  obtain ⟨_, ⟨rfl, rfl, rfl⟩ | ⟨b, sp, rfl, _, _, hle⟩⟩ := V
  · have : r = 0 := by omega
    subst this
    simp [evalL.evalSlice, evalL.bound]
  · exact Go.HL.slice_hi r0 (by omega)

section
variable {hI hJ hK h2 : Heap} {m0 m m' : PMap} {b bx : Nat} {n n' : Int} {A A' B : Option Addr} {c c' q : Nat} {rs rs' rs2 : List (List Int)}
/-- Only the variable's cell and its rounds' block change. -/
theorem XAt.with (X : XAt hJ m0 m b bx n A c rs) (hB : Beside hJ m') (hk : ∀ y, y ≠ bx → m y ≠ none → A ≠ some ⟨y, 0, none⟩ → m' y = m y) (hc : m' bx = some [.int .i64 n, .slice A' rs'.length c']) (V : VAt m' A' rs'.length c' 14 (LM rs'.flatten)) (hA : A' = A ∨ ∃ y, A' = some ⟨y, 0, none⟩ ∧ m y = none) : XAt hJ m0 m' b bx n A' c' rs' := by
  have hAm : ∀ y, m0 y ≠ none → A' ≠ some ⟨y, 0, none⟩ := fun y hy => by
    rcases hA with rfl | ⟨z, rfl, hz⟩
    · exact X.nA y hy
    · intro h; cases h; exact X.le y hy hz
  have hAx : A' ≠ some ⟨bx, 0, none⟩ := by
    rcases hA with rfl | ⟨z, rfl, hz⟩
    · exact X.nx
    · intro h; cases h; rw [X.cell] at hz; cases hz
  have hne : ∀ y, m0 y ≠ none → y ≠ bx := fun y hy e => hy (by rw [e]; exact X.n0)
  exact ⟨hB, X.src.congr (hk b X.xb.symm X.src.some (X.nA b X.nb)), fun y hy hm => by rw [hk y (hne y hm) (X.le y hm) (X.nA y hm), X.keep y hy hm], hc, V, hAm, hAx, X.n0, X.nb⟩
theorem XAt.append {K : Heap → Prop} (X : XAt hJ m0 m b bx n A c rs) (hR : Row (over hJ m) B (q * 14) (LM rs2.flatten)) (hq : rs2.length = q) (h2 : ∀ r ∈ rs2, r.length = 14) (hl : rs.length + q ≤ 1000)
    (k : ∀ m' A' c', XAt hJ m0 m' b bx n A' c' (rs ++ rs2) → K (over hJ m')) :
    SAppend (over hJ m) 14 112 (List.replicate 14 (.int .i64 0)) A rs.length c B q fun v h69 => ∃ x71A : Option Addr, ∃ x71l : Nat, ∃ x71c : Nat, v = .slice x71A x71l x71c ∧ SStore h69 bx 1 [.slice x71A x71l x71c] K := by
  have hfl : (LM rs2.flatten).length = q * 14 := by rw [LM, List.length_map, flat_len14 h2, hq]
  refine X.vec.append X.beside hR hfl (oneInts _) (by omega) (by omega) rfl fun m' A' c' hB' V' hk hA' => ⟨_, _, _, rfl, ?_⟩
  have hc : m' bx = some [.int .i64 n, .slice A rs.length c] := (hk bx (by rw [X.cell]; simp) X.nx).trans X.cell
  refine over_store hc (by simp) (by simp [Value.oneCell']) ?_
  have es : splice [Value.int .i64 n, .slice A rs.length c] 1 [.slice A' (rs.length + q) c'] = [.int .i64 n, .slice A' (rs.length + q) c'] := by simp [splice]
  have el : rs.length + q = (rs ++ rs2).length := by simp [hq]
  have hAx : A' ≠ some ⟨bx, 0, none⟩ := by
    rcases hA' with rfl | ⟨z, rfl, hz⟩
    · exact X.nx
    · intro h; cases h; rw [X.cell] at hz; cases hz
  rw [es]
  refine k _ A' c' (X.with (hB'.put (by rw [hc]; simp) _) (fun y hy hm hAy => (put_ne _ _ hy).trans (hk y hm hAy)) (by rw [put_self, el]) ?_ hA')
  rw [← el]
  have : VAt m' A' (rs.length + q) c' 14 (LM (rs ++ rs2).flatten) := by simpa [LM] using V'
  exact this.congr fun y hy => put_ne _ _ fun e => hAx (by rw [hy, e])
theorem XAt.push {K : Heap → Prop} {r : List Int} (X : XAt hJ m0 m b bx n A c rs) (hr : r.length = 14) (hl : rs.length + 1 ≤ 1000)
    (k : ∀ hK m' A' c', Ext hJ hK → XAt hK m0 m' b bx n A' c' (rs ++ [r]) → K (over hK m')) :
    SAlloc (over hJ m) (List.map (Value.int .i64) r ++ []) fun b34 h35 => SAppend h35 14 112 (List.replicate 14 (.int .i64 0)) A rs.length c (some ⟨b34, 0, none⟩) 1 fun v37 h36 => ∃ x38A : Option Addr, ∃ x38l : Nat, ∃ x38c : Nat, v37 = .slice x38A x38l x38c ∧ SStore h36 bx (0 + 1) [.slice x38A x38l x38c] K := by
  refine base_alloc X.beside fun b34 hf hm e hB => ?_
  refine (X.beyond e hB fun _ _ => rfl).append (rs2 := [r]) ?_ rfl (by simpa using hr) hl fun m' A' c' X' => k _ m' A' c' e X'
  refine (over_ext hB).getN (getN_of (by simp [hr]) fun q v hv => ?_)
  rw [Nat.zero_add, get_upd, if_pos rfl]
  simpa using hv
theorem XAt.trunc {K : Heap → Prop} (X : XAt hJ m0 m b bx n A c rs) (h14 : ∀ r ∈ rs, r.length = 14) {r : Int} (r0 : 0 ≤ r) (r1 : r ≤ (rs.length : Int))
    (k : ∀ m', XAt hJ m0 m' b bx n A c (rs.take r.toNat) → K (over hJ m')) : SStore (over hJ m) bx 1 [.slice A r.toNat c] K := by
  refine over_store X.cell (by simp) (by simp [Value.oneCell']) ?_
  have es : splice [Value.int .i64 n, .slice A rs.length c] 1 [.slice A r.toNat c] = [.int .i64 n, .slice A r.toNat c] := by simp [splice]
  have el : (rs.take r.toNat).length = r.toNat := by rw [List.length_take]; omega
  rw [es]
  refine k _ (X.with (X.beside.put (by rw [X.cell]; simp) _) (fun y hy _ _ => put_ne _ _ hy) (by rw [put_self, el]) ?_ (.inl rfl))
  rw [el]
  have := X.vec.shrink (k := r.toNat) (by omega)
  rw [← List.map_take, ← flat_take14 h14] at this
  exact this.congr fun y hy => put_ne _ _ fun e => X.nx (by rw [hy, e])
end

def DrawnOk (n : Int) (rs : List (List Int)) : Prop := 2 ≤ n ∧ n ≤ 14 ∧ (∀ r ∈ rs, Fit n r) ∧ rs.length ≤ 40
theorem S.l01Draw.spec {hI : Heap} {m : PMap} {b : Nat} (hB : Beside hI m) (s : SrcAt hI m b) :
    ACalls Try.prog S.l01Draw.id [.pointer (some ⟨b, 0, none⟩)] (over hI m) (DrewK hI m b DrawnOk) := by
  refine S.l01Draw.step _ _ _ _ (over_alloc hB fun b2 hn2 hf2 hB2 => ?_)
  have hsome := s.some
  have n2 : b ≠ b2 := fun e => hsome (by rw [e]; exact hn2)
  have s2 : SrcAt hI (m.put b2 [.int .i64 0, .slice none 0 0]) b := s.congr (put_ne _ _ n2)
  have hb0 : (m.put b2 [.int .i64 0, .slice none 0 0]) b ≠ none := s2.some
  refine (S.l01DrawRobin.spec hB2 s2).mono ?_
  rintro u h4 ⟨n, A, c, rs, rfl, ⟨k2, k14, hfit, hl14⟩, hJ, m1, e1, hB1, rfl, s1, hk1, V1, hA1⟩
  refine ⟨n, A, rs.length, c, rfl, XAt.start hB1 s1 hk1 hb0 V1 hA1 fun b8 m4 _ X => (S.l01Next.spec X.beside X.src).mono ?_⟩
  rintro u h11 ⟨r, rfl, _, _, _, D⟩
  obtain ⟨hK, m5, eK, rfl, X5, _, rfl⟩ := X.drew D
  have e15 : Ext hI hK := e1.trans eK
  refine ⟨r, rfl, dec_split (fun _ => ⟨n, A, rs.length, c, X5.getN, X5.back hn2 hsome e15 ⟨k2, k14, hfit, by omega⟩⟩) (fun _ => dec_split (fun _ => ?_) (fun _ => dec_split (fun _ => ?_) (fun _ => ?_)))⟩
  · -- rounds taken out or put in
    refine ⟨A, rs.length, c, X5.get1, A, rs.length, c, X5.get1, (S.l01Next.spec X5.beside X5.src).mono ?_⟩
    rw [wsucc (by omega)]
    rintro u h20 ⟨r2, rfl, r20, r21, _, D⟩
    obtain ⟨hL, m6, eL, rfl, X6, _, _⟩ := X5.drew D
    have r22 := r21 (by omega)
    refine ⟨r2, rfl, X6.get1, A, r2.toNat, c, VAt.slice_hi X6.vec r20 (by omega), X6.trunc (fun x hx => (hfit x hx).1) r20 (by omega) fun m7 X7 => (S.l01Next.spec X7.beside X7.src).mono ?_⟩
    rintro u h25 ⟨r3, rfl, r30, r31, _, D⟩
    obtain ⟨hM, m8, eM, rfl, X8, _, _⟩ := X7.drew D
    have r32 := r31 (by omega)
    refine ⟨r3, rfl, ?_⟩
    have loop : ∀ (k : Nat) (hJ : Heap) (mm : PMap) (A : Option Addr) (c : Nat) (rs : List (List Int)), rs.length + k ≤ 40 → Ext hI hJ → XAt hJ (m.put b2 [.int .i64 0, .slice none 0 0]) mm b b8 n A c rs → (∀ r ∈ rs, Fit n r) →
        S.l01Draw.L0 (DrewK hI m b DrawnOk) (.pointer (some ⟨b, 0, none⟩)) (.pointer (some ⟨b2, 0, none⟩)) (.pointer (some ⟨b8, 0, none⟩)) (.int .i64 k) (over hJ mm) := by
      intro k
      induction k with
      | zero =>
        intro hJ mm A c rs hk e X hf
        exact S.l01Draw.L0_step _ _ _ _ _ _ _ _ _ (dec_split (fun hc => by omega) (fun _ => ⟨n, A, rs.length, c, X.getN, X.back hn2 hsome e ⟨k2, k14, hf, by omega⟩⟩))
      | succ k ih =>
        intro hJ mm A c rs hk e X hf
        refine S.l01Draw.L0_step _ _ _ _ _ _ _ _ _ (dec_split (fun hc => ⟨A, rs.length, c, X.get1, n, X.get0, (S.l01DrawRound.spec X.beside X.src (by omega) k14).mono ?_⟩) (fun hc => by omega))
        rintro u h35 ⟨x, rfl, hx, D⟩
        obtain ⟨hN, m9, eN, rfl, X9, _, _⟩ := X.drew D
        refine ⟨x, hx.1, rfl, X9.get1, by simpa using hx.1, by simpa using hx.1, X9.push hx.1 (by omega) fun hO m10 A' c' eO X10 => ?_⟩
        have ek : IntKind.wrap .i64 (((k + 1 : Nat) : Int) - 1) = (k : Int) := by rw [w64 (by omega) (by omega)]; omega
        rw [ek]
        refine ih hO m10 A' c' (rs ++ [x]) (by rw [List.length_append, List.length_singleton]; omega) ((e.trans eN).trans eO) X10 fun y hy => ?_
        rcases List.mem_append.1 hy with hy | hy
        · exact hf y hy
        · have : y = x := by simpa using hy
          rw [this]; exact hx
    have e3 : r3 = (r3.toNat : Int) := by omega
    rw [e3]
    exact loop r3.toNat hM m8 A c (rs.take r2.toNat) (by rw [List.length_take]; omega) ((e15.trans eL).trans eM) X8 fun x hx => hfit x (List.mem_of_mem_take hx)
  · -- with the same teams renumbered
    refine ⟨A, rs.length, c, X5.get1, fun k49 hk49 => ?_⟩
    have both : ∀ (hL : Heap) (m' : PMap) (x53 : Bool), Ext hK hL → XAt hL (m.put b2 [.int .i64 0, .slice none 0 0]) m' b b8 n A c rs → k49 [.bool x53] (over hL m') := by
      intro hL m' x53 eL X
      refine hk49 _ _ (bool_split (fun _ => ?_) (fun _ => ⟨n, A, rs.length, c, X.getN, X.back hn2 hsome (e15.trans eL) ⟨k2, k14, hfit, by omega⟩⟩))
      refine ⟨n, A, rs.length, c, X.getN, n, X.get0, (S.l01DrawOrder.spec X.beside X.src (by omega)).mono ?_⟩
      rintro u h58 ⟨Q, cQ, qs, rfl, hq, D⟩
      obtain ⟨hN, m6, eN, rfl, X6, hk6, VQ, _⟩ := X.drew D
      refine ⟨Q, _, cQ, rfl, X6.getN, (S.l01Renamed.spec (X6.vec.rds fun x hx => (hfit x hx).1) rfl (by omega) (by omega) k14 hfit VQ.ints (by rw [hq.length_eq, seqI_len]) (fun x hx => by have := seqI_mem (hq.mem_iff.1 hx); omega)).mono ?_⟩
      rintro u h61 ⟨e61, A', c', rs', rfl, o', hf', hl'⟩
      obtain ⟨hO, m7, eO, hB7, rfl, V7, hk7, hA7⟩ := o'.under_take X6.beside e61
      have X7 := X6.beyond eO hB7 hk7
      refine ⟨n, A', rs'.length, c', rfl, rfl, by simp [Value.oneCell'], rfl, by simp [Value.oneCell'], base_alloc hB7 fun b65 hf65 hm65 e65 hB65 => ?_⟩
      have X8 := X7.beyond e65 hB65 fun _ _ => rfl
      have g65 : (over (hO.upd b65 (.cells [.int .i64 n, .slice A' rs'.length c'])) m7).get b65 1 = some (.slice A' rs'.length c') := (over_ext hB65).get (by simp)
      refine ⟨A, rs.length, c, X8.get1, A', rs'.length, c', g65, X8.append (rs2 := rs') ((V7.seg (hI := hO.upd b65 (.cells [.int .i64 n, .slice A' rs'.length c']))).row V7.len) rfl (fun x hx => (hf' x hx).1) (by omega) fun m9 A9 c9 X9 => ⟨n, A9, (rs ++ rs').length, c9, X9.getN, X9.back hn2 hsome ((((e15.trans eL).trans eN).trans eO).trans e65) ⟨k2, k14, fun x hx => ?_, by rw [List.length_append]; omega⟩⟩⟩
      rcases List.mem_append.1 hx with hx | hx
      · exact hfit x hx
      · exact hf' x hx
    refine dec_split (fun _ => (S.l01Next.spec X5.beside X5.src).mono ?_) (fun _ => both hK m5 _ (Ext.refl _) X5)
    rintro u h50 ⟨r2, rfl, _, _, _, D⟩
    obtain ⟨hL, m6, eL, rfl, X6, _, _⟩ := X5.drew D
    exact ⟨r2, rfl, both hL m6 _ eL X6⟩
  · -- any rounds
    refine (S.l01Next.spec X5.beside X5.src).mono ?_
    rintro u h81 ⟨r2, rfl, r20, r21, _, D⟩
    obtain ⟨hL, m6, eL, rfl, X6, _, _⟩ := X5.drew D
    have r22 := r21 (by omega)
    refine ⟨r2, rfl, ?_⟩
    rw [w64 (n := 2 + r2) (by omega) (by omega)]
    refine over_alloc X6.beside fun b84 hn84 _ hB84 => ?_
    have hk84 : ∀ y, m6 y ≠ none → (m6.put b84 []) y = m6 y := fun y hy => put_ne _ _ fun e => hy (by rw [e]; exact hn84)
    refine XAt.start (m0 := m.put b2 [.int .i64 0, .slice none 0 0]) (rs := []) hB84 (X6.src.congr (hk84 b X6.src.some)) (fun y hy hm => by rw [hk84 y (X6.le y hm), X6.keep y hy hm]) hb0 (VAt.made (b := b84) (cs := []) rfl) (fun y hm h => by cases h; exact X6.le _ hm hn84) fun b86 m7 _ X7 => base_alloc X7.beside fun b89 hf89 hm89 e89 hB89 => ?_
    have X8 := X7.beyond e89 hB89 fun _ _ => rfl
    refine (S.l01Pick.spec (xs := [4, 10, 41]) X8.beside X8.src (Seg.new' _ _ _) rfl (Nat.zero_lt_succ 2)).mono ?_
    rintro u h91 ⟨r3, rfl, hr3, D⟩
    obtain ⟨hM, m9, eM, rfl, X9, _, _⟩ := X8.drew D
    have r3b : 1 ≤ r3 ∧ r3 ≤ 41 := by
      simp only [List.mem_cons, List.not_mem_nil, or_false] at hr3
      omega
    refine ⟨r3, rfl, (S.l01Next.spec X9.beside X9.src).mono ?_⟩
    rintro u h94 ⟨r4, rfl, r40, r41, _, D⟩
    obtain ⟨hN, m10, eN, rfl, X10, _, _⟩ := X9.drew D
    have r42 := r41 (by omega)
    refine ⟨r4, rfl, ?_⟩
    have loop : ∀ (k : Nat) (hJ : Heap) (mm : PMap) (A : Option Addr) (c : Nat) (rs : List (List Int)), rs.length + k ≤ 40 → Ext hI hJ → XAt hJ (m.put b2 [.int .i64 0, .slice none 0 0]) mm b b86 (2 + r2) A c rs → (∀ r ∈ rs, Fit (2 + r2) r) →
        S.l01Draw.L1 (DrewK hI m b DrawnOk) (.pointer (some ⟨b, 0, none⟩)) (.pointer (some ⟨b2, 0, none⟩)) (.pointer (some ⟨b86, 0, none⟩)) (.int .i64 k) (over hJ mm) := by
      intro k
      induction k with
      | zero =>
        intro hJ mm A c rs hk e X hf
        exact S.l01Draw.L1_step _ _ _ _ _ _ _ _ _ (dec_split (fun hc => by omega) (fun _ => ⟨2 + r2, A, rs.length, c, X.getN, X.back hn2 hsome e ⟨by omega, by omega, hf, by omega⟩⟩))
      | succ k ih =>
        intro hJ mm A c rs hk e X hf
        refine S.l01Draw.L1_step _ _ _ _ _ _ _ _ _ (dec_split (fun hc => ⟨A, rs.length, c, X.get1, 2 + r2, X.get0, (S.l01DrawRound.spec X.beside X.src (by omega) (by omega)).mono ?_⟩) (fun hc => by omega))
        rintro u h35 ⟨x, rfl, hx, D⟩
        obtain ⟨hN, m9, eN, rfl, X9, _, _⟩ := X.drew D
        refine ⟨x, hx.1, rfl, X9.get1, by simpa using hx.1, by simpa using hx.1, X9.push hx.1 (by omega) fun hO m10 A' c' eO X10 => ?_⟩
        have ek : IntKind.wrap .i64 (((k + 1 : Nat) : Int) - 1) = (k : Int) := by rw [w64 (by omega) (by omega)]; omega
        rw [ek]
        refine ih hO m10 A' c' (rs ++ [x]) (by rw [List.length_append, List.length_singleton]; omega) ((e.trans eN).trans eO) X10 fun y hy => ?_
        rcases List.mem_append.1 hy with hy | hy
        · exact hf y hy
        · have : y = x := by simpa using hy
          rw [this]; exact hx
    have e4 : r4 = (r4.toNat : Int) := by omega
    rw [e4]
    exact loop r4.toNat hN m10 _ 0 [] (by rw [List.length_nil]; omega) ((((e15.trans eL).trans e89).trans eM).trans eN) X10 (fun x hx => by cases hx)

end Go.Proofs.Ythkbodgpcjcndaa

/- Schedules that the reference draws, seldom none. -/
set_option linter.unusedVariables false
set_option linter.unusedSimpArgs false
namespace Go.Proofs.Ythkbodgpcjcndaa
open Go.HL

/-- A schedule that is drawn, only to be read. -/
abbrev BadK (hI : Heap) (m : PMap) (b : Nat) (u : Value) (h2 : Heap) : Prop :=
  ∃ (n : Int) (A : Option Addr) (c : Nat) (rs : List (List Int)), u = .agg #[.int .i64 n, .slice A rs.length c] ∧ rs.length ≤ 60 ∧ rs.length ≤ c ∧ Drew hI m b (fun hJ _ => Rds hJ A rs) h2

section
variable {hI hJ hK h2 : Heap} {m0 m m' : PMap} {b bx : Nat} {n n' : Int} {A A' B : Option Addr} {c c' q : Nat} {rs rs' rs2 : List (List Int)}
theorem drewK_bad {P : Int → List (List Int) → Prop} {u : Value} (D : DrewK hI m b P u h2) (hP : ∀ n rs, P n rs → (∀ r ∈ rs, r.length = 14) ∧ rs.length ≤ 60) (hmb : m b ≠ none) : BadK hI m b u h2 := by
  obtain ⟨n, A, c, rs, rfl, p, hJ, m1, e, hB, rfl, s, hk, V, hA⟩ := D
  obtain ⟨h14, hl⟩ := hP n rs p
  have hle := V.le
  obtain ⟨hK, m2, eK, hBK, eq, hS, hk2⟩ := V.freeze hB
  exact ⟨n, A, c, rs, rfl, hl, hle, hK, m2, e.trans eK, hBK, eq, (s.mono eK).congr (hk2 b (hA b hmb)), fun y hy hm => (hk2 y (hA y hm)).trans (hk y hy hm), hS, h14⟩
theorem XAt.backR {b2 : Nat} (X : XAt hJ (m.put b2 [.int .i64 0, .slice none 0 0]) m' b bx n A c rs) (hn2 : m b2 = none) (hmb : m b ≠ none) (e : Ext hI hJ) (h14 : ∀ r ∈ rs, r.length = 14) (hl : rs.length ≤ 60) :
    ([.int .i64 n, .slice A rs.length c] : List Value).length = 2 ∧ SStore (over hJ m') b2 0 [.int .i64 n, .slice A rs.length c] fun h48 => ∃ r49 : List Value, h48.getN b2 0 2 = some r49 ∧ BadK hI m b (.agg r49.toArray) h48 := by
  obtain ⟨h1, cs, q1, q2, q3, r, q4, q5⟩ := X.back (P := fun _ rs => (∀ r ∈ rs, r.length = 14) ∧ rs.length ≤ 60) hn2 hmb e ⟨h14, hl⟩
  exact ⟨h1, cs, q1, q2, q3, r, q4, drewK_bad q5 (fun _ _ h => h) hmb⟩
theorem XAt.setN {K : Heap → Prop} (X : XAt hJ m0 m b bx n A c rs) (k : ∀ m', XAt hJ m0 m' b bx n' A c rs → K (over hJ m')) : SStore (over hJ m) bx 0 [.int .i64 n'] K := by
  refine over_store X.cell (by simp) (by simp [Value.oneCell']) ?_
  have es : splice [Value.int .i64 n, .slice A rs.length c] 0 [.int .i64 n'] = [.int .i64 n', .slice A rs.length c] := by simp [splice]
  rw [es]
  have hne : ∀ y, m0 y ≠ none → y ≠ bx := fun y hy e => hy (by rw [e]; exact X.n0)
  exact k _ ⟨X.beside.put (by rw [X.cell]; simp) _, X.src.congr (put_ne _ _ X.xb.symm), fun y hy hm => by rw [put_ne _ _ (hne y hm), X.keep y hy hm], put_self _ _ _, X.vec.congr fun y hy => put_ne _ _ fun e => X.nx (by rw [hy, e]), X.nA, X.nx, X.n0, X.nb⟩
/-- The first round is written anew. -/
theorem XAt.set0 {K : Heap → Prop} {r r0 : List Int} {rest : List (List Int)} (X : XAt hJ m0 m b bx n A c (r0 :: rest)) (h0 : r0.length = 14) (hr : r.length = 14) (k : ∀ m', XAt hJ m0 m' b bx n A c (r :: rest) → K (over hJ m')) :
    ∃ b50 o51 : Nat, A = some ⟨b50, o51, none⟩ ∧ (0 ≤ (0 : Int) ∧ (0 : Int) < ((r0 :: rest).length : Int)) ∧ (List.map (Value.int .i64) r).length = 14 ∧ SStore (over hJ m) b50 (o51 + Int.toNat 0 * 14) (List.map (Value.int .i64) r) K := by
  obtain ⟨hl, ⟨h, h1, _⟩ | ⟨z, sp, hz, hm, hsp, hle⟩⟩ := X.vec
  · simp at h1
  · refine ⟨z, 0, hz, ⟨by omega, by simp⟩, by simpa using hr, over_store hm (by simp [h0, hr]) (oneInts _) ?_⟩
    have es : splice (LM (r0 :: rest).flatten ++ sp) (0 + Int.toNat 0 * 14) (List.map (Value.int .i64) r) = LM (r :: rest).flatten ++ sp := by
      have e1 : LM (r0 :: rest).flatten ++ sp = [] ++ LM r0 ++ (LM rest.flatten ++ sp) := by simp [LM]
      have e2 := splice_mid [] (LM r0) (LM rest.flatten ++ sp) (List.map (Value.int .i64) r) (by simp [h0, hr])
      rw [e1]
      show splice ([] ++ LM r0 ++ (LM rest.flatten ++ sp)) ([] : List Value).length (List.map (Value.int .i64) r) = _
      rw [e2]; simp [LM]
    rw [es]
    have hzx : z ≠ bx := fun e => X.nx (by rw [hz, e])
    have hzb : z ≠ b := fun e => X.nA b X.nb (by rw [hz, e])
    have el : (r :: rest).length = (r0 :: rest).length := rfl
    refine k _ ⟨X.beside.put (by rw [hm]; simp) _, X.src.congr (put_ne _ _ hzb.symm), fun y hy hm2 => ?_, (put_ne _ _ hzx.symm).trans X.cell, ⟨?_, .inr ⟨z, sp, hz, put_self _ _ _, hsp, hle⟩⟩, X.nA, X.nx, X.n0, X.nb⟩
    · rw [put_ne _ _ (fun e => X.nA y hm2 (by rw [hz, e])), X.keep y hy hm2]
    · have := X.vec.len; simp [LM, h0, hr] at this ⊢; omega
end

theorem S.l01Bad.spec {hI : Heap} {m : PMap} {b : Nat} {n : Int} {A : Option Addr} {rs : List (List Int)} {l c : Nat} (hB : Beside hI m) (s : SrcAt hI m b) (hr : Rds hI A rs) (hl : rs.length = l) (hl60 : l ≤ 50) (hlc : l ≤ c) (n0 : 0 ≤ n) (n14 : n ≤ 14) :
    ACalls Try.prog S.l01Bad.id [.pointer (some ⟨b, 0, none⟩), .agg #[.int .i64 n, .slice A l c]] (over hI m) (BadK hI m b) := by
  refine S.l01Bad.step _ _ _ _ _ _ _ _ (base_alloc hB fun b4 hf4 hn4 e4 hB4 => ?_)
  have hr4 := Rds.mono e4 hr
  have s4 := s.mono e4
  have g4 : ∀ {hJ : Heap}, Ext (hI.upd b4 (.cells [.int .i64 n, .slice A l c])) hJ → hJ.getN b4 0 2 = some [.int .i64 n, .slice A l c] := fun e => e.getN (by simp [Heap.getN])
  generalize hI.upd b4 (.cells [.int .i64 n, .slice A l c]) = hI4 at *
  refine over_alloc hB4 fun b6 hn6 hf6 hB6 => ?_
  have hsome := s.some
  have n6 : b ≠ b6 := fun e => hsome (by rw [e]; exact hn6)
  have s6 : SrcAt hI4 (m.put b6 [.int .i64 0, .slice none 0 0]) b := s4.congr (put_ne _ _ n6)
  have hb0 : (m.put b6 [.int .i64 0, .slice none 0 0]) b ≠ none := s6.some
  refine ⟨n, A, l, c, g4 (over_ext hB6), (S.l01Copy.spec (hr4.mono (over_ext hB6)) hl (by omega)).mono ?_⟩
  rintro u h10 ⟨e10, A1, c1, rs1, rfl, o, rfl⟩
  obtain ⟨hJ, m1, eJ, hB1, rfl, V1, hk1, hA1⟩ := o.under_take hB6 e10
  refine ⟨n, A1, rs1.length, c1, rfl, XAt.start hB1 ((s6.mono eJ).congr (hk1 b s6.some)) (fun y _ hm => hk1 y hm) hb0 V1 hA1 fun b14 m2 _ X => (S.l01Next.spec X.beside X.src).mono ?_⟩
  rintro u h17 ⟨r, rfl, _, _, _, D⟩
  obtain ⟨hK, m3, eK, rfl, X3, _, rfl⟩ := X.drew D
  have e43 : Ext hI hK := e4.trans eJ
  -- the schedule itself
  have same : ∀ (hL : Heap) (m' : PMap) (rs' : List (List Int)) (A' : Option Addr) (c' : Nat), Ext hK hL → XAt hL (m.put b6 [.int .i64 0, .slice none 0 0]) m' b b14 n A' c' rs' → ∃ x57 : Int, ∃ x58A : Option Addr, ∃ x58l : Nat, ∃ x58c : Nat, (over hL m').getN b4 0 2 = some [.int .i64 x57, .slice x58A x58l x58c] ∧ ([.int .i64 x57, .slice x58A x58l x58c] : List Value).length = 2 ∧ SStore (over hL m') b6 0 [.int .i64 x57, .slice x58A x58l x58c] fun h59 => ∃ r60 : List Value, h59.getN b6 0 2 = some r60 ∧ BadK hI m b (.agg r60.toArray) h59 := by
    intro hL m' rs' A' c' eL X
    have n6b : b6 ≠ b := n6.symm
    have h6 : m' b6 = some [.int .i64 0, .slice none 0 0] := by rw [X.keep b6 n6b (by rw [put_self]; simp), put_self]
    have h0 : ∀ y, m y ≠ none → y ≠ b6 := fun y hy e => hy (by rw [e]; exact hn6)
    refine ⟨n, A, l, c, g4 ((eJ.trans eL).trans (over_ext X.beside)), rfl, over_st h6 rfl (by simp [Value.oneCell']) ⟨_, over_all (put_self _ _ _) rfl, n, A, c, rs1, by rw [hl], by omega, by omega, hL, _, e43.trans eL, X.beside.put (by rw [h6]; simp) _, rfl, X.src.congr (put_ne _ _ n6), fun y hy hm => ?_, hr4.mono (eJ.trans eL)⟩⟩
    rw [put_ne _ _ (h0 y hm), X.keep y hy (by rw [put_ne _ _ (h0 y hm)]; exact hm), put_ne _ _ (h0 y hm)]
  have h14 := hr.2
  refine ⟨r, rfl, dec_split (fun _ => ?_) (fun _ => dec_split (fun _ => ?_) (fun _ => dec_split (fun _ => ?_) (fun _ => same hK m3 _ _ _ (Ext.refl _) X3)))⟩
  · refine ⟨n, Ext.get (eJ.trans (over_ext X3.beside)) (Heap.getN_get (g4 (Ext.refl _)) 0 _ rfl), base_alloc X3.beside fun b21 hf21 hm21 e21 hB21 => ?_⟩
    have X4 := X3.beyond e21 hB21 fun _ _ => rfl
    refine (S.l01Pick.spec (xs := [1, 15, 0, -1, IntKind.wrap .i64 (n + 1)]) X4.beside X4.src (Seg.new' _ _ _) rfl (Nat.zero_lt_succ 4)).mono ?_
    rintro u h23 ⟨r2, rfl, _, D⟩
    obtain ⟨hL, m5, eL, rfl, X5, _, _⟩ := X4.drew D
    refine ⟨r2, rfl, X5.setN fun m6 X6 => ⟨r2, A1, rs1.length, c1, X6.getN, X6.backR hn6 hsome ((e43.trans e21).trans eL) h14 (by omega)⟩⟩
  · refine ⟨A1, rs1.length, c1, X3.get1, dec_split (fun hpos => ?_) (fun _ => same hK m3 _ _ _ (Ext.refl _) X3)⟩
    cases rs1 with
    | nil => simp at hpos
    | cons r0 rest =>
      have hr0 : r0.length = 14 := h14 r0 (by simp)
      refine ⟨A1, _, c1, X3.get1, (X3.vec.rds h14).rd (Ext.refl _) rfl (n := 0) (by omega) (by simp) fun hx => ?_⟩
      have e0 : (r0 :: rest).getD (Int.toNat 0) [] = r0 := rfl
      rw [e0]
      refine over_alloc X3.beside fun b36 hn36 _ hB36 => ⟨by simpa using hr0, over_st14 (put_self _ _ _) rfl hr0 ?_⟩
      have hk36 : ∀ y, m3 y ≠ none → y ≠ b36 := fun y hy e => hy (by rw [e]; exact hn36)
      have X4 : XAt hK (m.put b6 [.int .i64 0, .slice none 0 0]) ((m3.put b36 (List.replicate 14 (.int .i64 0))).put b36 (LM r0)) b b14 n A1 c1 (r0 :: rest) :=
        X3.beyond (Ext.refl _) (hB36.put (by rw [put_self]; simp) _) fun y hy => by rw [put_ne _ _ (hk36 y hy), put_ne _ _ (hk36 y hy)]
      have n36b : b36 ≠ b := fun e => hk36 b X3.src.some e.symm
      refine (S.l01Next.spec X4.beside X4.src).mono ?_
      rintro u h39 ⟨r2, rfl, r20, r21, _, D⟩
      obtain ⟨hL, m5, eL, rfl, X5, hk5, _⟩ := X4.drew D
      have h36 : m5 b36 = some (LM r0) := by rw [hk5 b36 n36b (by rw [put_self]; simp), put_self]
      refine ⟨r2, rfl, base_alloc X5.beside fun b42 hf42 hm42 e42 hB42 => ?_⟩
      have X6 := X5.beyond e42 hB42 fun _ _ => rfl
      refine (S.l01Pick.spec (xs := [1, 0, -1, 14]) X6.beside X6.src (Seg.new' _ _ _) rfl (Nat.zero_lt_succ 3)).mono ?_
      rintro u h44 ⟨r3, rfl, _, D⟩
      obtain ⟨hM, m7, eM, rfl, X7, hk7, _⟩ := X6.drew D
      have h36' : m7 b36 = some (LM r0) := by rw [hk7 b36 n36b (by rw [h36]; simp)]; exact h36
      refine ⟨r3, rfl, over_wr14 h36' hr0 r20 (r21 (by omega)) ?_⟩
      have n36x : b36 ≠ b14 := fun e => by rw [e] at hn36; rw [X3.cell] at hn36; cases hn36
      have hA36 : A1 ≠ some ⟨b36, 0, none⟩ := fun h => by
        obtain ⟨_, ⟨h1, _⟩ | ⟨z, sp, h1, hz, _⟩⟩ := X3.vec
        · rw [h1] at h; cases h
        · rw [h1] at h; cases h; rw [hn36] at hz; cases hz
      have n36k : ∀ y, (m.put b6 [.int .i64 0, .slice none 0 0]) y ≠ none → y ≠ b36 := fun y hy => hk36 y (X3.le y hy)
      have X8 : XAt hM (m.put b6 [.int .i64 0, .slice none 0 0]) (m7.put b36 (LM (r0.set r2.toNat r3))) b b14 n A1 c1 (r0 :: rest) :=
        ⟨X7.beside.put (by rw [h36']; simp) _, X7.src.congr (put_ne _ _ n36b.symm), fun y hy hm => by rw [put_ne _ _ (n36k y hm), X7.keep y hy hm], (put_ne _ _ n36x.symm).trans X7.cell, X7.vec.congr fun y hy => put_ne _ _ fun e => hA36 (by rw [hy, e]), X7.nA, X7.nx, X7.n0, X7.nb⟩
      have hset : (r0.set r2.toNat r3).length = 14 := by rw [List.length_set]; exact hr0
      refine ⟨A1, _, c1, X8.get1, r0.set r2.toNat r3, hset, over_all14 (put_self _ _ _) hset, X8.set0 hr0 hset fun m9 X9 => ⟨n, A1, _, c1, X9.getN, X9.backR hn6 hsome (((e43.trans eL).trans e42).trans eM) (fun x hx => ?_) (by simp at hl ⊢; omega)⟩⟩
      rcases List.mem_cons.1 hx with rfl | hx
      · exact hset
      · exact h14 x (by simp [hx])
  · have loop : ∀ (k : Nat) (hL : Heap) (m' : PMap) (A' : Option Addr) (c' : Nat) (rs' : List (List Int)), 41 ≤ rs'.length + k → rs'.length ≤ 50 → Ext hK hL → XAt hL (m.put b6 [.int .i64 0, .slice none 0 0]) m' b b14 n A' c' rs' → (∀ x ∈ rs', x.length = 14) →
        S.l01Bad.L0 (BadK hI m b) (.pointer (some ⟨b4, 0, none⟩)) (.pointer (some ⟨b6, 0, none⟩)) (.pointer (some ⟨b14, 0, none⟩)) (over hL m') := by
      intro k
      induction k with
      | zero =>
        intro hL m' A' c' rs' hk hl50 eL X h14'
        exact S.l01Bad.L0_step _ _ _ _ _ _ _ _ ⟨A', rs'.length, c', X.get1, dec_split (fun hc => by omega) (fun _ => ⟨n, A', rs'.length, c', X.getN, X.backR hn6 hsome (e43.trans eL) h14' (by omega)⟩)⟩
      | succ k ih =>
        intro hL m' A' c' rs' hk hl50 eL X h14'
        refine S.l01Bad.L0_step _ _ _ _ _ _ _ _ ⟨A', rs'.length, c', X.get1, dec_split (fun hc => ⟨A', rs'.length, c', X.get1, n, Ext.get ((eJ.trans eL).trans (over_ext X.beside)) (Heap.getN_get (g4 (Ext.refl _)) 0 _ rfl), (S.l01Free.spec n0 n14).mono ?_⟩) (fun _ => ⟨n, A', rs'.length, c', X.getN, X.backR hn6 hsome (e43.trans eL) h14' (by omega)⟩)⟩
        rintro u h68 ⟨e68, rfl⟩
        obtain ⟨hM, eM, hBM, rfl⟩ := Ext.under X.beside e68
        have X2 := X.beyond eM hBM fun _ _ => rfl
        have hfl : (freeTo n.toNat).length = 14 := freeTo_len (by omega)
        refine ⟨_, hfl, rfl, X2.get1, by simpa using hfl, by simpa using hfl, X2.push hfl (by omega) fun hN m3 A3 c3 eN X3 => ?_⟩
        refine ih hN m3 A3 c3 _ (by rw [List.length_append, List.length_singleton]; omega) (by rw [List.length_append, List.length_singleton]; omega) ((eL.trans eM).trans eN) X3 fun x hx => ?_
        rcases List.mem_append.1 hx with hx | hx
        · exact h14' x hx
        · have : x = freeTo n.toNat := by simpa using hx
          rw [this]; exact hfl
    exact loop 41 hK m3 A1 c1 rs1 (by omega) (by omega) (Ext.refl _) X3 h14

end Go.Proofs.Ythkbodgpcjcndaa

/- Schedules with results, as the reference draws them. -/
set_option linter.unusedVariables false
set_option linter.unusedSimpArgs false
namespace Go.Proofs.Ythkbodgpcjcndaa
open Go.HL

section
variable {hI hJ hK h2 : Heap} {m0 m m' : PMap} {b bx : Nat} {n n' : Int} {A A' B O : Option Addr} {c c' q : Nat} {rs rs' rs2 : List (List Int)} {vs : List Value}
/-- The variable changes no more. -/
theorem XAt.freeze (X : XAt hJ m0 m b bx n A c rs) : ∃ hK m', Ext hJ hK ∧ Beside hK m' ∧ over hJ m = over hK m' ∧ SrcAt hK m' b ∧ (∀ y, y ≠ b → m0 y ≠ none → m' y = m0 y) ∧ hK.getN bx 0 2 = some [.int .i64 n, .slice A rs.length c] ∧ Seg hK A (LM rs.flatten) := by
  obtain ⟨hK, m1, eK, hBK, eq, hS, hk⟩ := X.vec.freeze X.beside
  have hbx : m1 bx = some [.int .i64 n, .slice A rs.length c] := (hk bx X.nx).trans X.cell
  obtain ⟨f1, f2, f3⟩ := over_freeze hBK hbx
  have hne : ∀ y, m0 y ≠ none → y ≠ bx := fun y hy e => hy (by rw [e]; exact X.n0)
  refine ⟨_, _, eK.trans f3, f2, eq.trans f1, ((X.src.mono eK).mono f3).congr ((del_ne _ X.xb.symm).trans (hk b (X.nA b X.nb))), fun y hy hm => by rw [del_ne _ (hne y hm), hk y (X.nA y hm), X.keep y hy hm], ?_, hS.mono f3⟩
  exact getN_of rfl fun q v hv => by rw [Nat.zero_add, get_upd, if_pos rfl]; exact hv

theorem XAt.assign2 {K : Heap → Prop} (X : XAt hJ m0 m b bx n A c rs) (V : VAt m A' rs'.length c' 14 (LM rs'.flatten)) (hA0 : ∀ y, m0 y ≠ none → A' ≠ some ⟨y, 0, none⟩) (hx : A' ≠ some ⟨bx, 0, none⟩)
    (k : ∀ m'', XAt hJ m0 m'' b bx n' A' c' rs' → K (over hJ m'')) : ([.int .i64 n', .slice A' rs'.length c'] : List Value).length = 2 ∧ SStore (over hJ m) bx 0 [.int .i64 n', .slice A' rs'.length c'] K := by
  refine ⟨rfl, over_st X.cell rfl (by simp [Value.oneCell']) (k _ ⟨X.beside.put (by rw [X.cell]; simp) _, X.src.congr (put_ne _ _ X.xb.symm), fun y hy hm => ?_, put_self _ _ _, V.congr fun y hy => put_ne _ _ fun e => hx (by rw [hy, e]), hA0, hx, X.n0, X.nb⟩)⟩
  rw [put_ne _ _ (fun e => hm (by rw [e]; exact X.n0)), X.keep y hy hm]

/-- Rows of results, in changing blocks. -/
def RowsAt (m0 m : PMap) (O : Option Addr) (vs : List Value) : Prop :=
  ∀ v ∈ vs, ∃ R l c xs, v = .slice R l c ∧ VAt m R l c 1 (LM xs) ∧ l ≤ 1000 ∧ (∀ y, m0 y ≠ none → R ≠ some ⟨y, 0, none⟩) ∧ ∀ y, O = some ⟨y, 0, none⟩ → R ≠ some ⟨y, 0, none⟩
theorem RowsAt.keep (T : RowsAt m0 m O vs) (h : ∀ y, m y ≠ none → m0 y = none → O ≠ some ⟨y, 0, none⟩ → m' y = m y) : RowsAt m0 m' O vs := fun v hv => by
  obtain ⟨R, l, c, xs, e1, V, h1, h2, h3⟩ := T v hv
  refine ⟨R, l, c, xs, e1, V.congr fun y hy => ?_, h1, h2, h3⟩
  have hm : m y ≠ none := by
    obtain ⟨_, ⟨e, _⟩ | ⟨z, sp, e, hz, _⟩⟩ := V
    · rw [e] at hy; cases hy
    · rw [e] at hy; cases hy; rw [hz]; simp
  refine h y hm ?_ fun e => h3 y e hy
  cases h0 : m0 y with
  | none => rfl
  | some cs => exact absurd hy (h2 y (by rw [h0]; simp))
theorem RowsAt.each (T : RowsAt m0 m O vs) : ∃ xss, Each (over hJ m) vs xss ∧ ∀ xs ∈ xss, xs.length ≤ 1000 := by
  induction vs with
  | nil => exact ⟨[], Each.nil _, fun xs h => by cases h⟩
  | cons v vs ih =>
    obtain ⟨xss, E, hb⟩ := ih fun w hw => T w (by simp [hw])
    obtain ⟨R, l, c, xs, rfl, V, h1, _, _⟩ := T v (by simp)
    have hl : xs.length = l := by have := V.len; simpa using this
    refine ⟨xs :: xss, ⟨by simp [E.1], fun i w ys ha hb2 => ?_⟩, fun ys hy => ?_⟩
    · cases i with
      | zero =>
        simp at ha hb2
        subst ha hb2
        exact ⟨R, c, by rw [hl], V.ints, by have := V.le; omega⟩
      | succ i => exact E.2 i w ys (by simpa using ha) (by simpa using hb2)
    · rcases List.mem_cons.1 hy with rfl | hy
      · omega
      · exact hb ys hy
end

abbrev GivenK (hI : Heap) (m : PMap) (b : Nat) (u : Value) (h2 : Heap) : Prop :=
  ∃ (n : Int) (A : Option Addr) (c : Nat) (rs : List (List Int)) (O : Option Addr) (l d : Nat) (vs : List Value), u = .tuple #[.agg #[.int .i64 n, .slice A rs.length c], .slice O l d] ∧ DrawnOk n rs ∧ rs.length ≤ c ∧ l ≤ 50 ∧
    Drew hI m b (fun hJ m' => Rds hJ A rs ∧ VAt m' O l d 1 vs ∧ (∀ y, m y ≠ none → O ≠ some ⟨y, 0, none⟩) ∧ RowsAt m m' O vs) h2

theorem S.l10DrawOf.spec {hI : Heap} {m : PMap} {b : Nat} (hB : Beside hI m) (s : SrcAt hI m b) :
    ACalls Try.prog S.l10DrawOf.id [.pointer (some ⟨b, 0, none⟩)] (over hI m) (GivenK hI m b) := by
  refine S.l10DrawOf.step _ _ _ _ (over_alloc hB fun b2 hn2 hf2 hB2 => ?_)
  have hsome := s.some
  have n2 : b ≠ b2 := fun e => hsome (by rw [e]; exact hn2)
  have s2 : SrcAt hI (m.put b2 [.int .i64 0, .slice none 0 0]) b := s.congr (put_ne _ _ n2)
  have h02 : ∀ y, m y ≠ none → y ≠ b2 := fun y hy e => hy (by rw [e]; exact hn2)
  have hm2 : (m.put b2 [.int .i64 0, .slice none 0 0]) b2 = some [.int .i64 0, .slice none 0 0] := put_self _ _ _
  have hmk : ∀ y, m y ≠ none → (m.put b2 [.int .i64 0, .slice none 0 0]) y = m y := fun y hy => put_ne _ _ (h02 y hy)
  generalize m.put b2 [.int .i64 0, .slice none 0 0] = m1 at *
  have hb0 : m1 b ≠ none := s2.some
  refine (S.l01DrawRobin.spec hB2 s2).mono ?_
  rintro u h4 ⟨n, A, c, rs, rfl, ⟨k2, k14, hfit, hl14⟩, hJ, m3, e1, hB1, rfl, s1, hk1, V1, hA1⟩
  refine ⟨n, A, rs.length, c, rfl, XAt.start hB1 s1 hk1 hb0 V1 hA1 fun b8 m4 _ X => (S.l01Next.spec X.beside X.src).mono ?_⟩
  rintro u h11 ⟨r, rfl, _, _, _, D⟩
  obtain ⟨hK, m5, eK, rfl, X5, _, rfl⟩ := X.drew D
  -- the loops
  have loops : ∀ (hL : Heap) (n : Int) (A : Option Addr) (c : Nat) (rs : List (List Int)) (played : Nat), Ext hI hL → hL.getN b8 0 2 = some [.int .i64 n, .slice A rs.length c] → Rds hL A rs → rs.length ≤ c → DrawnOk n rs → played ≤ rs.length →
      ∀ (k i : Nat) (hJ : Heap) (mm : PMap) (O : Option Addr) (l d : Nat) (vs : List Value), i + k = played → l ≤ i → Ext hL hJ → Beside hJ mm → SrcAt hJ mm b → (∀ y, y ≠ b → m1 y ≠ none → mm y = m1 y) → VAt mm O l d 1 vs → (∀ y, m1 y ≠ none → O ≠ some ⟨y, 0, none⟩) → RowsAt m1 mm O vs →
        S.l10DrawOf.L0 (GivenK hI m b) (.pointer (some ⟨b, 0, none⟩)) (.pointer (some ⟨b2, 0, none⟩)) (.pointer (some ⟨b8, 0, none⟩)) (.int .i64 played) (.slice O l d) (.int .i64 i) (over hJ mm) := by
    intro hL n A c rs played eL g8 hR hrc ok hpl k
    have g80 : ∀ {hJ : Heap}, Ext hL hJ → hJ.get b8 (0 + 0) = some (.int .i64 n) := fun e => e.get (Heap.getN_get g8 0 _ rfl)
    have g81 : ∀ {hJ : Heap}, Ext hL hJ → hJ.get b8 (0 + 1) = some (.slice A rs.length c) := fun e => e.get (Heap.getN_get g8 1 _ rfl)
    induction k with
    | zero =>
      intro i hJ mm O l d vs hi hli e hBm sm hkm V hO T
      refine S.l10DrawOf.L0_step _ _ _ _ _ _ _ _ _ _ _ _ _ (dec_split (fun hc => by omega) (fun _ => ⟨n, A, rs.length, c, (e.trans (over_ext hBm)).getN g8, rfl, ?_⟩))
      have h2 : mm b2 = some [.int .i64 0, .slice none 0 0] := by rw [hkm b2 n2.symm (by rw [hm2]; simp)]; exact hm2
      refine over_st h2 rfl (by simp [Value.oneCell']) ⟨_, over_all (put_self _ _ _) rfl, n, A, c, rs, O, l, d, vs, rfl, ok, hrc, by have := ok.2.2.2; omega, hJ, _, eL.trans e, hBm.put (by rw [h2]; simp) _, rfl, sm.congr (put_ne _ _ n2), fun y hy hm => ?_, hR.mono e, ?_, fun y hy => hO y (by rw [hmk y hy]; exact hy), ?_⟩
      · rw [put_ne _ _ (h02 y hm), hkm y hy (by rw [hmk y hm]; exact hm), hmk y hm]
      · exact V.congr fun y hy => put_ne _ _ fun e => hO b2 (by rw [hm2]; simp) (by rw [hy, e])
      · intro v hv
        obtain ⟨R, l', c', xs, e1, V', h1, h3, h4⟩ := T v hv
        exact ⟨R, l', c', xs, e1, V'.congr fun y hy => put_ne _ _ fun e => h3 b2 (by rw [hm2]; simp) (by rw [hy, e]), h1, fun y hy => h3 y (by rw [hmk y hy]; exact hy), h4⟩
    | succ k ih =>
      intro i hJ mm O l d vs hi hli e hBm sm hkm V hO T
      refine S.l10DrawOf.L0_step _ _ _ _ _ _ _ _ _ _ _ _ _ (dec_split (fun hc => over_alloc hBm fun b48 hn48 hf48 hB48 => ?_) (fun hc => by omega))
      have eB := e.trans (over_ext hB48)
      have hle : ∀ y, m1 y ≠ none → mm y ≠ none := fun y hy => by
        by_cases hyb : y = b
        · rw [hyb]; exact sm.some
        · rw [hkm y hyb hy]; exact hy
      have hne48 : ∀ y, mm y ≠ none → y ≠ b48 := fun y hy e => hy (by rw [e]; exact hn48)
      refine ⟨n, g80 eB, A, rs.length, c, g81 eB, hR.rd eB rfl (by omega) (by omega) fun hx => ?_⟩
      rw [Int.toNat_natCast] at hx ⊢
      refine (S.l01Pairs.spec hx (by have := ok.1; omega) ok.2.1).mono ?_
      rintro u h55 ⟨e55, P, cP, rfl, _⟩
      obtain ⟨hN, eN, hBN, rfl⟩ := Ext.under hB48 e55
      have hpl2 : (pairsOf n (rs.getD i [])).length ≤ 14 := by
        have := pairsFrom_len (rs.getD i []) n.toNat 0
        have := ok.2.1
        unfold pairsOf; omega
      refine ⟨P, _, cP, rfl, ?_⟩
      -- a row
      have inner : ∀ (p : Nat) (hM : Heap) (mn : PMap) (R : Option Addr) (lr cr : Nat) (row : List Int), lr + p ≤ 14 → Ext hN hM → Beside hM mn → SrcAt hM mn b → (∀ y, y ≠ b → mm y ≠ none → mn y = mm y) → VAt mn R lr cr 1 (LM row) → (∀ y, mm y ≠ none → R ≠ some ⟨y, 0, none⟩) →
          S.l10DrawOf.L1 (GivenK hI m b) (.pointer (some ⟨b, 0, none⟩)) (.pointer (some ⟨b2, 0, none⟩)) (.pointer (some ⟨b8, 0, none⟩)) (.int .i64 played) (.slice O l d) (.int .i64 i) (.slice R lr cr) (.int .i64 p) (over hM mn) := by
        intro p
        induction p with
        | zero =>
          intro hM mn R lr cr row hp eM hBn sn hkn VR hRn
          refine S.l10DrawOf.L1_step _ _ _ _ _ _ _ _ _ _ _ _ _ _ _ _ _ (dec_split (fun hc => by omega) (fun _ => ?_))
          have hOb : ∀ y, O = some ⟨y, 0, none⟩ → y ≠ b := fun y hy e => hO b hb0 (by rw [hy, e])
          have hOm : ∀ y, O = some ⟨y, 0, none⟩ → mm y ≠ none := fun y hy => by
            obtain ⟨_, ⟨h, _⟩ | ⟨z, sp, h, hz, _⟩⟩ := V
            · rw [h] at hy; cases hy
            · rw [h] at hy; cases hy; rw [hz]; simp
          have Vn : VAt mn O l d 1 vs := V.congr fun y hy => hkn y (hOb y hy) (hOm y hy)
          have Tn : RowsAt m1 mn O vs := T.keep fun y hy h0 _ => hkn y (fun e => hb0 (by rw [← e]; exact h0)) hy
          have hlen : ∀ y, mm y ≠ none → mn y ≠ none := fun y hy => by
            by_cases hyb : y = b
            · rw [hyb]; exact sn.some
            · rw [hkn y hyb hy]; exact hy
          refine Vn.push hBn rfl (by simp [Value.oneCell']) (by have := ok.2.2.2; omega) (by have := ok.2.2.2; omega) rfl fun hQ mq O' d' eQ hBq Vq hkq hO' => ⟨_, _, _, rfl, ?_⟩
          rw [wsucc (by have := ok.2.2.2; omega)]
          have hOn' : ∀ y, m1 y ≠ none → O' ≠ some ⟨y, 0, none⟩ := fun y hy => by
            rcases hO' with rfl | ⟨z, rfl, hz⟩
            · exact hO y hy
            · intro h; cases h; exact hlen y (hle y hy) hz
          have hRO : ∀ y, O = some ⟨y, 0, none⟩ → R ≠ some ⟨y, 0, none⟩ := fun y hy => hRn y (hOm y hy)
          have hRq : VAt mq R lr cr 1 (LM row) := by
            refine VR.congr fun y hy => ?_
            have hmy : mn y ≠ none := by
              obtain ⟨_, ⟨h, _⟩ | ⟨z, sp, h, hz, _⟩⟩ := VR
              · rw [h] at hy; cases hy
              · rw [h] at hy; cases hy; rw [hz]; simp
            exact hkq y hmy fun h => hRO y h hy
          have hnew : ∀ (R' : Option Addr), (∀ y, R' = some ⟨y, 0, none⟩ → mn y ≠ none) → (∀ y, O = some ⟨y, 0, none⟩ → R' ≠ some ⟨y, 0, none⟩) → ∀ y, O' = some ⟨y, 0, none⟩ → R' ≠ some ⟨y, 0, none⟩ := fun R' h1 h2 y hy => by
            rcases hO' with rfl | ⟨z, rfl, hz⟩
            · exact h2 y hy
            · cases hy; intro h; exact h1 _ h hz
          refine ih (i + 1) hQ mq O' (l + 1) d' _ (by omega) (by omega) ((e.trans (eN.trans eM)).trans eQ) hBq ((sn.mono eQ).congr (hkq b sn.some (hO b hb0))) (fun y hy hm => ?_) Vq hOn' fun v hv => ?_
          · rw [hkq y (hlen y (hle y hm)) (hO y hm), hkn y hy (hle y hm), hkm y hy hm]
          · rcases List.mem_append.1 hv with hv | hv
            · obtain ⟨R', l', c', xs, e1, V', h1, h3, h4⟩ := Tn v hv
              have hmem : ∀ y, R' = some ⟨y, 0, none⟩ → mn y ≠ none := fun y hy => by
                obtain ⟨_, ⟨h, _⟩ | ⟨z, sp, h, hz, _⟩⟩ := V'
                · rw [h] at hy; cases hy
                · rw [h] at hy; cases hy; rw [hz]; simp
              exact ⟨R', l', c', xs, e1, V'.congr fun y hy => hkq y (hmem y hy) fun h => h4 y h hy, h1, h3, hnew R' hmem h4⟩
            · have : v = .slice R lr cr := by simpa using hv
              refine ⟨R, lr, cr, row, this, hRq, by omega, fun y hy => hRn y (hle y hy), hnew R (fun y hy => ?_) hRO⟩
              obtain ⟨_, ⟨h, _⟩ | ⟨z, sp, h, hz, _⟩⟩ := VR
              · rw [h] at hy; cases hy
              · rw [h] at hy; cases hy; rw [hz]; simp
        | succ p ihp =>
          intro hM mn R lr cr row hp eM hBn sn hkn VR hRn
          refine S.l10DrawOf.L1_step _ _ _ _ _ _ _ _ _ _ _ _ _ _ _ _ _ (dec_split (fun hc => base_alloc hBn fun b67 hf67 hm67 e67 hB67 => ?_) (fun hc => by omega))
          refine (S.l01Pick.spec (xs := [0, 1, 1, 2]) hB67 (sn.mono e67) (Seg.new' _ _ _) rfl (Nat.zero_lt_succ 3)).mono ?_
          rintro u h69 ⟨x, rfl, _, hQ, mq, eQ, hBq, rfl, sq, hkq, _⟩
          have hRb : ∀ y, R = some ⟨y, 0, none⟩ → y ≠ b := fun y hy e => hRn b sm.some (by rw [hy, e])
          have hRm : ∀ y, R = some ⟨y, 0, none⟩ → mn y ≠ none := fun y hy => by
            obtain ⟨_, ⟨h, _⟩ | ⟨z, sp, h, hz, _⟩⟩ := VR
            · rw [h] at hy; cases hy
            · rw [h] at hy; cases hy; rw [hz]; simp
          have VRq : VAt mq R lr cr 1 (LM row) := VR.congr fun y hy => hkq y (hRb y hy) (hRm y hy)
          have hlenq : ∀ y, mm y ≠ none → mq y ≠ none := fun y hy => by
            by_cases hyb : y = b
            · rw [hyb]; exact sq.some
            · rw [hkq y hyb (by rw [hkn y hyb hy]; exact hy), hkn y hyb hy]; exact hy
          refine ⟨x, rfl, VRq.push hBq rfl (by simp [Value.oneCell']) (by omega) (by omega) rfl fun hS ms R' cr' eS hBs Vs hks hR' => ⟨_, _, _, rfl, ?_⟩⟩
          have ek : IntKind.wrap .i64 (((p + 1 : Nat) : Int) - 1) = (p : Int) := by rw [w64 (by omega) (by omega)]; omega
          rw [ek]
          refine ihp hS ms R' (lr + 1) cr' (row ++ [x]) (by omega) (((eM.trans e67).trans eQ).trans eS) hBs ((sq.mono eS).congr (hks b sq.some (hRn b sm.some))) (fun y hy hm => ?_) (by simpa [LM] using Vs) fun y hy => ?_
          · rw [hks y (hlenq y hm) (hRn y hm), hkq y hy (by rw [hkn y hy hm]; exact hm), hkn y hy hm]
          · rcases hR' with rfl | ⟨z, rfl, hz⟩
            · exact hRn y hy
            · intro h; cases h; exact hlenq y hy hz
      exact inner _ hN _ (some ⟨b48, 0, none⟩) 0 0 [] (by omega) (Ext.refl _) hBN ((sm.mono eN).congr (put_ne _ _ (hne48 b sm.some))) (fun y _ hy => put_ne _ _ (hne48 y hy)) (VAt.made (cs := []) rfl) fun y hy h => by cases h; exact hne48 _ hy rfl
  -- the number of rounds that are played
  have rest : ∀ (hL : Heap) (m' : PMap) (n : Int) (A : Option Addr) (c : Nat) (rs : List (List Int)), Ext hI hL → XAt hL m1 m' b b8 n A c rs → DrawnOk n rs → (∃ x35A : Option Addr, ∃ x35l : Nat, ∃ x35c : Nat, (over hL m').get b8 1 = some (.slice x35A x35l x35c) ∧ ACalls Try.prog S.l01Next.id ([.pointer (some ⟨b, 0, none⟩), .int .i64 (IntKind.wrap .i64 ((x35l : Int) + (1 : Int)))]) (over hL m') fun v37 h36 => ∃ x38 : Int, v37 = .int .i64 x38 ∧ SAlloc h36 ([]) fun b39 h40 => S.l10DrawOf.L0 (GivenK hI m b) (.pointer (some ⟨b, 0, none⟩)) (.pointer (some ⟨b2, 0, none⟩)) (.pointer (some ⟨b8, 0, none⟩)) (.int .i64 x38) (.slice (some ⟨b39, 0, none⟩) 0 0) (.int .i64 0) h40) := by
    intro hL m' n A c rs eL X ok
    refine ⟨A, rs.length, c, X.get1, ?_⟩
    rw [wsucc (by have := ok.2.2.2; omega)]
    refine (S.l01Next.spec X.beside X.src).mono ?_
    rintro u h36 ⟨r, rfl, r0, r1, _, D⟩
    have r2 := r1 (by omega)
    obtain ⟨hM, mm, eM, rfl, X2, _, _⟩ := X.drew D
    have hrc := X2.vec.le
    obtain ⟨hN, m7, eN, hBN, eq, s7, hk7, g8, hS⟩ := X2.freeze
    rw [eq]
    refine ⟨r, rfl, over_alloc hBN fun b39 hn39 _ hB39 => ?_⟩
    have hne39 : ∀ y, m7 y ≠ none → y ≠ b39 := fun y hy e => hy (by rw [e]; exact hn39)
    have hle7 : ∀ y, m1 y ≠ none → m7 y ≠ none := fun y hy => by
      by_cases hyb : y = b
      · rw [hyb]; exact s7.some
      · rw [hk7 y hyb hy]; exact hy
    have er : r = (r.toNat : Int) := by omega
    rw [er]
    exact loops hN n A c rs r.toNat ((eL.trans eM).trans eN) g8 ⟨hS, fun x hx => (ok.2.2.1 x hx).1⟩ hrc ok (by omega) r.toNat 0 hN _ (some ⟨b39, 0, none⟩) 0 0 [] (by omega) (by omega) (Ext.refl _) hB39 (s7.congr (put_ne _ _ (hne39 b s7.some))) (fun y hy hm => by rw [put_ne _ _ (hne39 y (hle7 y hm)), hk7 y hy hm]) (VAt.made rfl) (fun y hy h => by cases h; exact hne39 _ (hle7 _ hy) rfl) (fun v hv => by cases hv)
  have mid : ∀ (k19 : List Value → Heap → Prop), (∀ h34 : Heap, (∃ x35A : Option Addr, ∃ x35l : Nat, ∃ x35c : Nat, h34.get b8 1 = some (.slice x35A x35l x35c) ∧ ACalls Try.prog S.l01Next.id ([.pointer (some ⟨b, 0, none⟩), .int .i64 (IntKind.wrap .i64 ((x35l : Int) + (1 : Int)))]) h34 fun v37 h36 => ∃ x38 : Int, v37 = .int .i64 x38 ∧ SAlloc h36 ([]) fun b39 h40 => S.l10DrawOf.L0 (GivenK hI m b) (.pointer (some ⟨b, 0, none⟩)) (.pointer (some ⟨b2, 0, none⟩)) (.pointer (some ⟨b8, 0, none⟩)) (.int .i64 x38) (.slice (some ⟨b39, 0, none⟩) 0 0) (.int .i64 0) h40) → k19 [] h34) → ∀ (hL : Heap) (m' : PMap) (n : Int) (A : Option Addr) (c : Nat) (rs : List (List Int)), Ext hI hL → XAt hL m1 m' b b8 n A c rs → DrawnOk n rs → (∃ x20A : Option Addr, ∃ x20l : Nat, ∃ x20c : Nat, (over hL m').get b8 1 = some (.slice x20A x20l x20c) ∧ ∀ k21 : List Value → Heap → Prop, (∀ (h26 : Heap) (x25 : Bool), ((x25 = true → ∃ x27A : Option Addr, ∃ x27l : Nat, ∃ x27c : Nat, h26.get b8 1 = some (.slice x27A x27l x27c) ∧ ∃ x28A : Option Addr, ∃ x28l : Nat, ∃ x28c : Nat, h26.get b8 1 = some (.slice x28A x28l x28c) ∧ ACalls Try.prog S.l01Next.id ([.pointer (some ⟨b, 0, none⟩), .int .i64 (x28l : Int)]) h26 fun v30 h29 => ∃ x31 : Int, v30 = .int .i64 x31 ∧ h29.get b8 1 = some (.slice x27A x27l x27c) ∧ ∃ x32A : Option Addr, ∃ x32l : Nat, ∃ x32c : Nat, evalL.evalSlice 14 x27A x27l x27c none (some (.int .i64 (IntKind.wrap .i64 ((1 : Int) + x31)))) none = some (.slice x32A x32l x32c) ∧ SStore h29 b8 1 [.slice x32A x32l x32c] fun h33 => k19 [] h33) ∧ (x25 = false → k19 [] h26)) → k21 [.bool x25] h26) →
      (((decide ((1 : Int) < (x20l : Int))) = true → ACalls Try.prog S.l01Next.id ([.pointer (some ⟨b, 0, none⟩), .int .i64 2]) (over hL m') fun v23 h22 => ∃ x24 : Int, v23 = .int .i64 x24 ∧ k21 [.bool (decide (x24 = (0 : Int)))] h22) ∧ ((decide ((1 : Int) < (x20l : Int))) = false → k21 [.bool false] (over hL m')))) := by
    intro k19 hk19 hL m' n A c rs eL X ok
    refine ⟨A, rs.length, c, X.get1, fun k21 hk21 => dec_split (fun hlt => (S.l01Next.spec X.beside X.src).mono ?_) (fun _ => hk21 _ _ (bool_split (fun h => by cases h) (fun _ => hk19 _ (rest hL m' n A c rs eL X ok))))⟩
    rintro u h22 ⟨r, rfl, _, _, _, D⟩
    obtain ⟨hM, m7, eM, rfl, X7, _, _⟩ := X.drew D
    refine ⟨r, rfl, hk21 _ _ (bool_split (fun _ => ?_) (fun _ => hk19 _ (rest hM m7 n A c rs (eL.trans eM) X7 ok)))⟩
    refine ⟨A, rs.length, c, X7.get1, A, rs.length, c, X7.get1, (S.l01Next.spec X7.beside X7.src).mono ?_⟩
    rintro u h29 ⟨q, rfl, q0, q1, _, D⟩
    have q2 := q1 (by omega)
    obtain ⟨hN, m9, eN, rfl, X9, _, _⟩ := X7.drew D
    have h40 := ok.2.2.2
    refine ⟨q, rfl, X9.get1, ?_⟩
    rw [w64 (n := 1 + q) (by omega) (by omega)]
    refine ⟨A, (1 + q).toNat, c, VAt.slice_hi X9.vec (by omega) (by omega), X9.trunc (fun x hx => (ok.2.2.1 x hx).1) (by omega) (by omega) fun mt Xt => hk19 _ (rest hN mt n A c _ ((eL.trans eM).trans eN) Xt ⟨ok.1, ok.2.1, fun x hx => ok.2.2.1 x (List.mem_of_mem_take hx), by rw [List.length_take]; omega⟩)⟩
  have e15 : Ext hI hK := e1.trans eK
  refine ⟨r, rfl, dec_split (fun _ => (S.l01Draw.spec X5.beside X5.src).mono ?_) (fun _ => dec_split (fun _ => base_alloc X5.beside fun b86 hf86 hm86 e86 hB86 => ?_) (fun _ k118 hk118 => mid k118 hk118 hK m5 n A c rs e15 X5 ⟨k2, k14, hfit, by omega⟩))⟩
  · rintro u h14 ⟨n', A', c', rs', rfl, ok, D⟩
    obtain ⟨hM, m7, eM, rfl, X7, hk7, V7, hA7⟩ := X5.drew D
    refine ⟨n', A', rs'.length, c', rfl, ?_⟩
    exact X7.assign2 V7 (fun y hy => hA7 y (X5.le y hy)) (hA7 b8 (by rw [X5.cell]; simp)) fun m8 X8 k19 hk19 => mid k19 hk19 hM m8 n' A' c' rs' (e15.trans eM) X8 ok
  · have X6 := X5.beyond e86 hB86 fun _ _ => rfl
    refine (S.l01Pick.spec (xs := [4, 4, 5, 6, 6]) X6.beside X6.src (Seg.new' _ _ _) rfl (Nat.zero_lt_succ 4)).mono ?_
    rintro u h88 ⟨r2, rfl, hr2, D⟩
    obtain ⟨hM, m7, eM, rfl, X7, _, _⟩ := X6.drew D
    have r2b : 4 ≤ r2 ∧ r2 ≤ 6 := by
      simp only [List.mem_cons, List.not_mem_nil, or_false] at hr2
      omega
    refine ⟨r2, rfl, (S.l01Circle.spec (by omega) (by omega)).mono ?_⟩
    rintro u h91 ⟨e91, A', c', rs', rfl, o', hf', hl'⟩
    obtain ⟨hO, m8, eO, hB8, rfl, V8, hk8, hA8⟩ := o'.under_take X7.beside e91
    have hmod : Int.tmod r2 2 < 2 := Int.tmod_lt_of_pos _ (by omega)
    exact ⟨r2, A', rs'.length, c', rfl, X7.assign eO hB8 hk8 V8 hA8 fun m9 X9 k96 hk96 => mid k96 hk96 hO m9 r2 A' c' rs' (((e15.trans e86).trans eM).trans eO) X9 ⟨by omega, by omega, hf', by omega⟩⟩

end Go.Proofs.Ythkbodgpcjcndaa

/- Schedules with results and a team, as the reference draws them. -/
set_option linter.unusedVariables false
set_option linter.unusedSimpArgs false
namespace Go.Proofs.Ythkbodgpcjcndaa
open Go.HL

theorem base_alloc_st {hI : Heap} {m : PMap} {cs vs : List Value} (hB : Beside hI m) (hc : cs.length = 2) (hv : vs.length = 2) (h1 : ∀ v ∈ vs, v.oneCell' = true) {K : Nat → Heap → Prop}
    (k : ∀ b, hI.fresh b → m b = none → Ext hI (hI.upd b (.cells vs)) → Beside (hI.upd b (.cells vs)) m → K b (over (hI.upd b (.cells vs)) m)) :
    SAlloc (over hI m) cs fun b h' => vs.length = 2 ∧ SStore h' b 0 vs (K b) := by
  intro b hf
  refine ⟨hv, cs, Heap.upd_own_self _ _ _, by omega, h1, ?_⟩
  have es : splice cs 0 vs = vs := by simp [splice, hc, hv]
  rw [upd_upd, es, over_base hf]
  exact k b (over_fresh hf).1 (over_fresh hf).2 (Ext.upd (over_fresh hf).1 _) (hB.base hf _)

theorem splice_row {xs : List Int} {sp : List Value} {k : Nat} {v : Int} (hk : k < (LM xs ++ sp).length) : ∃ xs' sp', splice (LM xs ++ sp) k [.int .i64 v] = LM xs' ++ sp' ∧ xs'.length = xs.length ∧ sp'.length = sp.length := by
  rw [splice_one _ _ _ hk, List.set_append]
  split
  · refine ⟨xs.set k v, sp, by rw [LM, LM, List.map_set], by simp, rfl⟩
  · exact ⟨xs, sp.set (k - (LM xs).length) (.int .i64 v), rfl, rfl, by simp⟩

/-- A number of a row is written. -/
theorem RowsAt.wr {hI : Heap} {m0 m : PMap} {O : Option Addr} {vs : List Value} {K : Heap → Prop} (T : RowsAt m0 m O vs) (hB : Beside hI m) {R : Option Addr} {l c : Nat} (hv : (Value.slice R l c) ∈ vs) {k v : Int} (k0 : 0 ≤ k) (k1 : k < (l : Int))
    (h : ∀ m', Beside hI m' → RowsAt m0 m' O vs → (∀ y, m0 y ≠ none → m' y = m y) → (∀ y, O = some ⟨y, 0, none⟩ → m' y = m y) → K (over hI m')) :
    ∃ b54 o55 : Nat, R = some ⟨b54, o55, none⟩ ∧ (0 ≤ k ∧ k < (l : Int)) ∧ SStore (over hI m) b54 (o55 + Int.toNat k * 1) [.int .i64 v] K := by
  obtain ⟨R', l', c', xs, e1, V, h1, h2, h3⟩ := T _ hv
  cases e1
  obtain ⟨hl, ⟨_, q, _⟩ | ⟨z, sp, hz, hm, hsp, hle⟩⟩ := V
  · omega
  · have hxl : xs.length = l := by simpa using hl
    refine ⟨z, 0, hz, ⟨k0, k1⟩, over_store hm (by simp; omega) (by simp [Value.oneCell']) ?_⟩
    rw [Nat.zero_add, Nat.mul_one]
    refine h _ (hB.put (by rw [hm]; simp) _) (fun w hw => ?_) (fun y hy => put_ne _ _ fun e => h2 y hy (by rw [hz, e])) (fun y hy => put_ne _ _ fun e => h3 y hy (by rw [hz, e]))
    obtain ⟨R2, l2, c2, xs2, e2, V2, g1, g2, g3⟩ := T w hw
    by_cases hR : R2 = some ⟨z, 0, none⟩
    · obtain ⟨hl2, ⟨q, _⟩ | ⟨z2, sp2, hz2, hm2, hsp2, hle2⟩⟩ := V2
      · rw [q] at hR; cases hR
      · have ez : z2 = z := by rw [hR] at hz2; cases hz2; rfl
        subst ez
        have eq : LM xs ++ sp = LM xs2 ++ sp2 := by rw [hm] at hm2; exact Option.some.inj hm2
        obtain ⟨xs', sp', f1, f2, f3⟩ := splice_row (xs := xs2) (sp := sp2) (k := k.toNat) (v := v) (by rw [← eq]; simp; omega)
        rw [eq, f1]
        exact ⟨R2, l2, c2, xs', e2, ⟨by simp [f2]; simpa using hl2, .inr ⟨z2, sp', hz2, put_self _ _ _, by rw [f3]; exact hsp2, hle2⟩⟩, g1, g2, g3⟩
    · exact ⟨R2, l2, c2, xs2, e2, V2.congr fun y hy => put_ne _ _ fun e => hR (by rw [hy, e]), g1, g2, g3⟩

/-- What is drawn. -/
abbrev WithK (h : Heap) (u : Value) (h2 : Heap) : Prop :=
  Ext h h2 ∧ ∃ (n : Int) (A : Option Addr) (c : Nat) (rs : List (List Int)) (B : Option Addr) (d : Nat) (xss : List (List Int)) (a : Int), u = .tuple #[.agg #[.int .i64 n, .slice A rs.length c], .slice B xss.length d, .int .i64 a] ∧
    rs.length ≤ 60 ∧ rs.length ≤ c ∧ Rds h2 A rs ∧ Tab h2 B xss ∧ xss.length ≤ 60 ∧ ∀ xs ∈ xss, xs.length ≤ 1000

theorem S.l10With.spec {Z : Option Addr} {zs : List Int} {lz cz : Nat} {h : Heap} (hz : BytesW h Z zs) (hl : zs.length = lz) (hlb : lz ≤ 9223372036854775807) :
    ACalls Try.prog S.l10With.id [.slice Z lz cz] h (WithK h) := by
  refine S.l10With.step _ _ _ _ _ ?_
  rw [← over_noM h]
  refine over_alloc (beside_noM h) fun b2 _ hf2 hB2 => (S.l01From.spec hB2 hz hl hlb).mono ?_
  rintro u h4 ⟨b, m1, rfl, hnb, hB1, rfl, s1, hk1⟩
  have n2 : b ≠ b2 := fun e => by rw [e, put_self] at hnb; cases hnb
  have hm2 : m1 b2 = some [.int .i64 0, .slice none 0 0] := by rw [hk1 b2 n2.symm, put_self]
  refine ⟨b, 0, rfl, (S.l10DrawOf.spec hB1 s1).mono ?_⟩
  rintro u h7 ⟨n, A, c, rs, O, l, d, vs, rfl, ok, hrc, hl50, hJ, m2, e2, hB2', rfl, s2, hk2, hR, V, hO, T⟩
  refine ⟨n, A, rs.length, c, O, l, d, rfl, base_alloc_st hB2' rfl rfl (by simp [Value.oneCell']) fun b12 hf12 hn12 e12 hB12 => ?_⟩
  have g12 : (hJ.upd b12 (.cells [.int .i64 n, .slice A rs.length c])).getN b12 0 2 = some [.int .i64 n, .slice A rs.length c] := by simp [Heap.getN]
  have hR12 := Rds.mono e12 hR
  have s12 := s2.mono e12
  have eh := e2.trans e12
  generalize hJ.upd b12 (.cells [.int .i64 n, .slice A rs.length c]) = hK at *
  have h22 : m2 b2 = some [.int .i64 0, .slice none 0 0] := by rw [hk2 b2 n2.symm (by rw [hm2]; simp)]; exact hm2
  -- the end
  have fin : ∀ (a : Int) (hL : Heap) (mm : PMap) (O : Option Addr) (l d : Nat) (vs : List Value), Ext hK hL → Beside hL mm → SrcAt hL mm b → mm b2 = some [.int .i64 0, .slice none 0 0] → VAt mm O l d 1 vs → l ≤ 60 → (∀ y, m1 y ≠ none → O ≠ some ⟨y, 0, none⟩) → RowsAt m1 mm O vs →
      ∃ x73 : Int, ∃ x74A : Option Addr, ∃ x74l : Nat, ∃ x74c : Nat, (over hL mm).getN b12 0 2 = some [.int .i64 x73, .slice x74A x74l x74c] ∧ ACalls Try.prog S.l01Bad.id ([.pointer (some ⟨b, 0, none⟩), .agg #[.int .i64 x73, .slice x74A x74l x74c]]) (over hL mm) fun v76 h75 => ∃ x77 : Int, ∃ x78A : Option Addr, ∃ x78l : Nat, ∃ x78c : Nat, v76 = .agg #[.int .i64 x77, .slice x78A x78l x78c] ∧ ([.int .i64 x77, .slice x78A x78l x78c] : List Value).length = 2 ∧
        SStore h75 b2 0 [.int .i64 x77, .slice x78A x78l x78c] fun h79 => ∃ r80 : List Value, h79.getN b2 0 2 = some r80 ∧ WithK (over h noM) (.tuple #[.agg r80.toArray, .slice O l d, .int .i64 a]) h79 := by
    intro a hL mm O l d vs eL hBm sm h2m V hl60 hO T
    refine ⟨n, A, rs.length, c, (over_ext hBm).getN (eL.getN g12), (S.l01Bad.spec hBm sm (hR12.mono eL) rfl (by have := ok.2.2.2; omega) hrc (by have := ok.1; omega) ok.2.1).mono ?_⟩
    rintro u h75 ⟨n', A', c', rs', rfl, hr60, hrc', hM, m3, eM, hBM, rfl, s3, hk3, hR'⟩
    have h23 : m3 b2 = some [.int .i64 0, .slice none 0 0] := by rw [hk3 b2 n2.symm (by rw [h2m]; simp)]; exact h2m
    refine ⟨n', A', rs'.length, c', rfl, rfl, over_st h23 rfl (by simp [Value.oneCell']) ⟨_, over_all (put_self _ _ _) rfl, ?_⟩⟩
    have hB' := hBM.put (b := b2) (by rw [h23]; simp) [.int .i64 n', .slice A' rs'.length c']
    have hkk : ∀ (R : Option Addr) (lr cr : Nat) (ws : List Value), VAt mm R lr cr 1 ws → (∀ y, m1 y ≠ none → R ≠ some ⟨y, 0, none⟩) → VAt (m3.put b2 [.int .i64 n', .slice A' rs'.length c']) R lr cr 1 ws := fun R lr cr ws VR hR => VR.congr fun y hy => by
      have hy2 : y ≠ b2 := fun e => hR b2 (by rw [hm2]; simp) (by rw [hy, e])
      have hyb : y ≠ b := fun e => hR b s1.some (by rw [hy, e])
      have hym : mm y ≠ none := by
        obtain ⟨_, ⟨q, _⟩ | ⟨z, sp, q, hz, _⟩⟩ := VR
        · rw [q] at hy; cases hy
        · rw [q] at hy; cases hy; rw [hz]; simp
      rw [put_ne _ _ hy2, hk3 y hyb hym]
    have T' : RowsAt m1 (m3.put b2 [.int .i64 n', .slice A' rs'.length c']) O vs := fun v hv => by
      obtain ⟨R, lr, cr, xs, e1, VR, g1, g2, g3⟩ := T v hv
      exact ⟨R, lr, cr, xs, e1, hkk R lr cr _ VR g2, g1, g2, g3⟩
    have V' := hkk O l d vs V hO
    obtain ⟨xss, E, hb⟩ := T'.each (hJ := hM)
    have hxl : xss.length = l := by have h1 := E.1; have h2 := V'.len; omega
    rw [over_noM]
    refine ⟨(eh.trans (eL.trans eM)).trans (over_ext hB'), n', A', c', rs', O, d, xss, a, by rw [hxl], hr60, hrc', hR'.mono (over_ext hB'), ?_, by omega, hb⟩
    exact ⟨vs, V'.seg, E.1, E.2⟩
  refine ⟨n, (over_ext hB12).get (Heap.getN_get g12 0 _ rfl), (S.l01Near.spec hB12 s12).mono ?_⟩
  rintro u h16 ⟨a, rfl, hL, m3, eL, hB3, rfl, s3, hk3, _⟩
  refine ⟨a, rfl, (S.l01Next.spec hB3 s3).mono ?_⟩
  rintro u h19 ⟨r, rfl, _, _, _, hM, m4, eM, hB4, rfl, s4, hk4, _⟩
  have hk24 : ∀ y, y ≠ b → m2 y ≠ none → m4 y = m2 y := fun y hy hm => by rw [hk4 y hy (by rw [hk3 y hy hm]; exact hm), hk3 y hy hm]
  have h24 : m4 b2 = some [.int .i64 0, .slice none 0 0] := by rw [hk24 b2 n2.symm (by rw [h22]; simp)]; exact h22
  have mem : ∀ {R : Option Addr} {lr cr : Nat} {ws : List Value}, VAt m2 R lr cr 1 ws → ∀ y, R = some ⟨y, 0, none⟩ → m2 y ≠ none := fun VR y hy => by
    obtain ⟨_, ⟨q, _⟩ | ⟨z, sp, q, hz, _⟩⟩ := VR
    · rw [q] at hy; cases hy
    · rw [q] at hy; cases hy; rw [hz]; simp
  have V4 : VAt m4 O l d 1 vs := V.congr fun y hy => hk24 y (fun e => hO b s1.some (by rw [hy, e])) (mem V y hy)
  have T4 : RowsAt m1 m4 O vs := T.keep fun y hy h0 _ => hk24 y (fun e => s1.some (by rw [← e]; exact h0)) hy
  have e4 : Ext hK hM := eL.trans eM
  refine ⟨r, rfl, dec_split (fun _ => ?_) (fun _ => dec_split (fun _ k37 hk37 => ?_) (fun _ => fin a hM m4 O l d vs e4 hB4 s4 h24 V4 (by omega) hO T4))⟩
  · refine over_alloc hB4 fun b22 hn22 _ hB22 => ?_
    have hne : ∀ y, m4 y ≠ none → y ≠ b22 := fun y hy e => hy (by rw [e]; exact hn22)
    have hk5 : ∀ y, m4 y ≠ none → (m4.put b22 [.int .i64 0]) y = m4 y := fun y hy => put_ne _ _ (hne y hy)
    have hle : ∀ y, m1 y ≠ none → m4 y ≠ none := fun y hy => by
      by_cases hyb : y = b
      · rw [hyb]; exact s4.some
      · rw [hk24 y hyb (by rw [hk2 y hyb hy]; exact hy), hk2 y hyb hy]; exact hy
    have hm5 : (m4.put b22 [.int .i64 0]) b22 = some (LM [0]) := put_self _ _ _
    have V5 : VAt (m4.put b22 [.int .i64 0]) O l d 1 vs := V4.keep hk5
    have T5 : RowsAt m1 (m4.put b22 [.int .i64 0]) O vs := T4.keep fun y hy _ _ => hk5 y hy
    have s5 : SrcAt hM (m4.put b22 [.int .i64 0]) b := s4.congr (hk5 b s4.some)
    have h25 : (m4.put b22 [.int .i64 0]) b2 = some [.int .i64 0, .slice none 0 0] := (hk5 b2 (by rw [h24]; simp)).trans h24
    have hle5 : ∀ y, m1 y ≠ none → (m4.put b22 [.int .i64 0]) y ≠ none := fun y hy => by rw [hk5 y (hle y hy)]; exact hle y hy
    have hO22 : O ≠ some ⟨b22, 0, none⟩ := fun h => by
      obtain ⟨_, ⟨q, _⟩ | ⟨z, sp, q, hz, _⟩⟩ := V4
      · rw [q] at h; cases h
      · rw [q] at h; cases h; rw [hn22] at hz; cases hz
    have h122 : m1 b22 = none := by
      cases h : m1 b22 with
      | none => rfl
      | some cs => exact absurd hn22 (hle b22 (by rw [h]; simp))
    generalize m4.put b22 [.int .i64 0] = m5 at *
    refine V5.push hB22 rfl (by simp [Value.oneCell']) (by omega) (by omega) rfl fun hQ mq O' d' eQ hBq Vq hkq hO' => ⟨_, _, _, rfl, ?_⟩
    have hOn' : ∀ y, m1 y ≠ none → O' ≠ some ⟨y, 0, none⟩ := fun y hy => by
      rcases hO' with rfl | ⟨z, rfl, hz⟩
      · exact hO y hy
      · intro h; cases h; exact hle5 y hy hz
    have hnew : ∀ (R' : Option Addr), (∀ y, R' = some ⟨y, 0, none⟩ → m5 y ≠ none) → (∀ y, O = some ⟨y, 0, none⟩ → R' ≠ some ⟨y, 0, none⟩) → ∀ y, O' = some ⟨y, 0, none⟩ → R' ≠ some ⟨y, 0, none⟩ := fun R' h1 h2 y hy => by
      rcases hO' with rfl | ⟨z, rfl, hz⟩
      · exact h2 y hy
      · cases hy; intro h; exact h1 _ h hz
    refine fin a hQ mq O' (l + 1) d' _ (e4.trans eQ) hBq ((s5.mono eQ).congr (hkq b s5.some (hO b s1.some))) ((hkq b2 (by rw [h25]; simp) (hO b2 (by rw [hm2]; simp))).trans h25) Vq (by omega) hOn' fun v hv => ?_
    rcases List.mem_append.1 hv with hv | hv
    · obtain ⟨R', l', c', xs, e1, V', h1, h3, h4⟩ := T5 v hv
      have hmem : ∀ y, R' = some ⟨y, 0, none⟩ → m5 y ≠ none := fun y hy => by
        obtain ⟨_, ⟨h, _⟩ | ⟨z, sp, h, hz, _⟩⟩ := V'
        · rw [h] at hy; cases hy
        · rw [h] at hy; cases hy; rw [hz]; simp
      exact ⟨R', l', c', xs, e1, V'.congr fun y hy => hkq y (hmem y hy) fun h => h4 y h hy, h1, h3, hnew R' hmem h4⟩
    · have ev : v = .slice (some ⟨b22, 0, none⟩) 1 1 := by simpa using hv
      refine ⟨some ⟨b22, 0, none⟩, 1, 1, [0], ev, ⟨rfl, .inr ⟨b22, [], rfl, ?_, rfl, Nat.le_refl _⟩⟩, by omega, fun y hy h => by cases h; exact hy h122, hnew _ (fun y hy => by cases hy; rw [hm5]; simp) fun y hy h => by cases h; exact hO22 hy⟩
      rw [hkq b22 (by rw [hm5]; simp) hO22, hm5]; rfl
  · refine dec_split (fun hpos => ?_) (fun _ => hk37 _ _ (bool_split (fun h => by cases h) (fun _ => fin a hM m4 O l d vs e4 hB4 s4 h24 V4 (by omega) hO T4)))
    have V4' := V4
    obtain ⟨hvl, ⟨_, q, _⟩ | ⟨z, sp, hz, hm, hsp, hle⟩⟩ := V4
    · omega
    · cases vs with
      | nil => simp at hvl; omega
      | cons v0 rest =>
        obtain ⟨R, lr, cr, xs, e1, VR, g1, g2, g3⟩ := T4 v0 (by simp)
        have rd : ∀ {hX : Heap} {mx : PMap}, VAt mx O l d 1 (v0 :: rest) → (over hX mx).get z (0 + Int.toNat 0 * 1) = some v0 := fun Vx => by
          obtain ⟨_, ⟨q, _⟩ | ⟨z', sp', hz', hm', _⟩⟩ := Vx
          · rw [q] at hz; cases hz
          · rw [hz] at hz'; cases hz'; rw [over_get hm']; rfl
        refine ⟨z, 0, hz, ⟨by omega, hpos⟩, R, lr, cr, by rw [rd V4', e1], hk37 _ _ (bool_split (fun hlr => ?_) (fun _ => fin a hM m4 O l d _ e4 hB4 s4 h24 V4' (by omega) hO T4))⟩
        have hlr' : (0 : Int) < (lr : Int) := of_decide_eq_true hlr
        refine ⟨z, 0, hz, ⟨by omega, hpos⟩, R, lr, cr, by rw [rd V4', e1], (S.l01Next.spec hB4 s4).mono ?_⟩
        rintro u h46 ⟨q, rfl, q0, q1, _, hN, m5, eN, hB5, rfl, s5, hk5, _⟩
        refine ⟨q, rfl, base_alloc hB5 fun b49 hf49 hm49 e49 hB49 => ?_⟩
        refine (S.l01Pick.spec (xs := [3, -1]) hB49 (s5.mono e49) (Seg.new' _ _ _) rfl (Nat.zero_lt_succ 1)).mono ?_
        rintro u h51 ⟨w, rfl, _, hP, m6, eP, hB6, rfl, s6, hk6, _⟩
        have hk46 : ∀ y, y ≠ b → m4 y ≠ none → m6 y = m4 y := fun y hy hm => by rw [hk6 y hy (by rw [hk5 y hy hm]; exact hm), hk5 y hy hm]
        have mem4 : ∀ y, O = some ⟨y, 0, none⟩ → m4 y ≠ none := fun y hy => by rw [hz] at hy; cases hy; rw [hm]; simp
        have V6 : VAt m6 O l d 1 (v0 :: rest) := V4'.congr fun y hy => hk46 y (fun e => hO b s1.some (by rw [hy, e])) (mem4 y hy)
        have T6 : RowsAt m1 m6 O (v0 :: rest) := T4.keep fun y hy h0 _ => hk46 y (fun e => s1.some (by rw [← e]; exact h0)) hy
        have h26 : m6 b2 = some [.int .i64 0, .slice none 0 0] := (hk46 b2 n2.symm (by rw [h24]; simp)).trans h24
        refine ⟨w, rfl, T6.wr hB6 (l := lr) (c := cr) (by rw [e1]; simp) q0 (q1 (by omega)) fun m7 hB7 T7 hk7 hk7O => ?_⟩
        exact fin a hP m7 O l d _ (((e4.trans eN).trans e49).trans eP) hB7 (s6.congr (hk7 b s1.some)) ((hk7 b2 (by rw [hm2]; simp)).trans h26) (V6.congr hk7O) (by omega) hO T7

/-- A schedule with results. -/
abbrev SchedResK (h : Heap) (u : Value) (h2 : Heap) : Prop :=
  Ext h h2 ∧ ∃ (n : Int) (A : Option Addr) (c : Nat) (rs : List (List Int)) (B : Option Addr) (d : Nat) (xss : List (List Int)), u = .tuple #[.agg #[.int .i64 n, .slice A rs.length c], .slice B xss.length d] ∧
    rs.length ≤ 60 ∧ rs.length ≤ c ∧ Rds h2 A rs ∧ Tab h2 B xss ∧ xss.length ≤ 60 ∧ ∀ xs ∈ xss, xs.length ≤ 1000
theorem S.l10Draw.spec {Z : Option Addr} {zs : List Int} {lz cz : Nat} {h : Heap} (hz : BytesW h Z zs) (hl : zs.length = lz) (hlb : lz ≤ 9223372036854775807) :
    ACalls Try.prog S.l10Draw.id [.slice Z lz cz] h (SchedResK h) := by
  refine S.l10Draw.step _ _ _ _ _ ?_
  rw [← over_noM h]
  refine over_alloc (beside_noM h) fun b2 _ hf2 hB2 => (over_frame hB2 (S.l10With.spec hz hl hlb)).mono ?_
  rintro u h4 ⟨hJ, hBJ, rfl, eJ, n, A, c, rs, B, d, xss, a, rfl, h60, hc, hR, hT, hx60, hx⟩
  refine ⟨n, A, rs.length, c, B, xss.length, d, a, rfl, base_alloc_st hBJ rfl rfl (by simp [Value.oneCell']) fun b10 hf10 hn10 e10 hB10 => ?_⟩
  refine ⟨n, A, rs.length, c, (over_ext hB10).getN (by simp [Heap.getN]), rfl, over_st (put_self _ _ _) rfl (by simp [Value.oneCell']) ⟨_, over_all (put_self _ _ _) rfl, ?_⟩⟩
  have e := e10.trans (over_ext (hB10.put (b := b2) (by rw [put_self]; simp) [.int .i64 n, .slice A rs.length c]))
  rw [over_noM]
  exact ⟨eJ.trans e, n, A, c, rs, B, d, xss, rfl, h60, hc, hR.mono e, hT.mono e, hx60, hx⟩
theorem S.DrawRankingOf.spec {Z : Option Addr} {zs : List Int} {lz cz : Nat} {h : Heap} (hz : BytesW h Z zs) (hl : zs.length = lz) (hlb : lz ≤ 9223372036854775807) :
    ACalls Try.prog S.DrawRankingOf.id [.slice Z lz cz] h (SchedResK h) := by
  refine S.DrawRankingOf.step _ _ _ _ _ ?_
  rw [← over_noM h]
  refine over_alloc (beside_noM h) fun b2 _ hf2 hB2 => (over_frame hB2 (S.l10Draw.spec hz hl hlb)).mono ?_
  rintro u h4 ⟨hJ, hBJ, rfl, eJ, n, A, c, rs, B, d, xss, rfl, h60, hc, hR, hT, hx60, hx⟩
  refine ⟨n, A, rs.length, c, B, xss.length, d, rfl, rfl, over_st (put_self _ _ _) rfl (by simp [Value.oneCell']) ⟨_, over_all (put_self _ _ _) rfl, ?_⟩⟩
  have e := over_ext (hBJ.put (b := b2) (by rw [put_self]; simp) [.int .i64 n, .slice A rs.length c])
  rw [over_noM]
  exact ⟨eJ.trans e, n, A, c, rs, B, d, xss, rfl, h60, hc, hR.mono e, hT.mono e, hx60, hx⟩

end Go.Proofs.Ythkbodgpcjcndaa

/- The law of results: its loops, and pairs of answers that agree. -/
set_option linter.unusedVariables false
set_option linter.unusedSimpArgs false
namespace Go.Proofs.Ythkbodgpcjcndaa
open Go.HL

def lstOf (n : Int) (rs xss : List (List Int)) (f : List Int) : List Int := if schedCode n rs (resultsOk n rs xss) = 0 then f else []
/-- Two answers agree. -/
theorem pairStep {fI fS : FuncId} {F : List Int} {n : Int} {rs xss : List (List Int)} {h : Heap} {b10 : Nat} {A B : Option Addr} {l c m d : Nat} (g : h.getN b10 0 2 = some [.int .i64 n, .slice A l c]) (hl : (lstOf n rs xss F).length ≤ 1000)
    (hi : ∀ h1, Ext h h1 → ACalls Try.prog fI [.agg #[.int .i64 n, .slice A l c], .slice B m d] h1 (ListK h1 F n rs xss)) (hs : ∀ h1, Ext h h1 → ACalls Try.prog fS [.agg #[.int .i64 n, .slice A l c], .slice B m d] h1 (ListK h1 F n rs xss))
    {P : Option Addr → Nat → Nat → Int → Heap → Prop} {Kf : Heap → Prop} (k : ∀ h2 C cc, Ext h h2 → Ints h2 C (lstOf n rs xss F) → P C (lstOf n rs xss F).length cc (schedCode n rs (resultsOk n rs xss)) h2) :
    ∃ x13 : Int, ∃ x14A : Option Addr, ∃ x14l : Nat, ∃ x14c : Nat, h.getN b10 0 2 = some [.int .i64 x13, .slice x14A x14l x14c] ∧ ACalls Try.prog fI ([.agg #[.int .i64 x13, .slice x14A x14l x14c], .slice B m d]) h fun v16 h15 => ∃ x17A : Option Addr, ∃ x17l : Nat, ∃ x17c : Nat, ∃ x18 : Int, v16 = .tuple #[.slice x17A x17l x17c, .int .i64 x18] ∧
      ∃ x19 : Int, ∃ x20A : Option Addr, ∃ x20l : Nat, ∃ x20c : Nat, h15.getN b10 0 2 = some [.int .i64 x19, .slice x20A x20l x20c] ∧ ACalls Try.prog fS ([.agg #[.int .i64 x19, .slice x20A x20l x20c], .slice B m d]) h15 fun v22 h21 => ∃ x23A : Option Addr, ∃ x23l : Nat, ∃ x23c : Nat, ∃ x24 : Int, v22 = .tuple #[.slice x23A x23l x23c, .int .i64 x24] ∧
        ∀ k25 : List Value → Heap → Prop, (∀ (h30 : Heap) (x29 : Bool), ((x29 = true → Kf h30) ∧ (x29 = false → P x17A x17l x17c x18 h30)) → k25 [.bool x29] h30) →
          (((!decide (x18 = x24)) = true → k25 [.bool true] h21) ∧ ((!decide (x18 = x24)) = false → ACalls Try.prog L.likeInts.id ([.slice x17A x17l x17c, .slice x23A x23l x23c]) h21 fun v27 h26 => ∃ x28 : Bool, v27 = .bool x28 ∧ k25 [.bool (!x28)] h26)) := by
  have ans : ∀ (xs : List Int) (code : Int), code = schedCode n rs (resultsOk n rs xss) → (code = 0 → xs = F) → (code ≠ 0 → xs = []) → xs = lstOf n rs xss F := by
    intro xs code hc h0 h1
    subst hc
    unfold lstOf
    split
    · rename_i h; exact h0 h
    · rename_i h; exact h1 h
  refine ⟨n, A, l, c, g, (hi h (Ext.refl _)).mono ?_⟩
  rintro u h15 ⟨e1, C, xs, cc, code, rfl, hc, h0, h1, hI⟩
  have hx := ans xs code hc h0 h1
  subst hx
  refine ⟨C, _, cc, code, rfl, n, A, l, c, e1.getN g, (hs h15 e1).mono ?_⟩
  rintro u h21 ⟨e2, C2, xs2, cc2, code2, rfl, hc2, h02, h12, hI2⟩
  have hx2 := ans xs2 code2 hc2 h02 h12
  subst hx2
  refine ⟨C2, _, cc2, code2, rfl, fun k25 hk25 => ndec_split (fun hne => absurd (hc.trans hc2.symm) hne) (fun _ => (L.likeInts.spec (hI.mono e2) hI2 rfl (by omega)).mono ?_)⟩
  rintro u h26 ⟨rfl, rfl⟩
  refine ⟨true, rfl, hk25 _ _ (bool_split (fun h => by cases h) (fun _ => ?_))⟩
  rw [hc]
  exact k _ C cc (e1.trans e2) (hI.mono e2)

section
variable {n : Int} {rs xss : List (List Int)} {h h0 : Heap} {b10 : Nat} {A B R P F : Option Addr} {c d cR cP cF : Nat}
abbrev TrueK (h : Heap) (u : Value) (h2 : Heap) : Prop := Ext h h2 ∧ u = .bool true

theorem results_L2 (hs : scheduleOk n rs = true) (he : xss.length = rs.length) (g : h0.getN b10 0 2 = some [.int .i64 n, .slice A rs.length c]) (hR : Ints h0 R (rankOf n rs xss)) (hP : Ints h0 P (ptsOf n rs xss)) (hF : Ints h0 F (firstList n rs xss n.toNat)) :
    ∀ (k a : Nat) (hx : Heap), a + k = n.toNat → Ext h0 hx → Ext h hx → L.FnResults.L2 (TrueK h) (.pointer (some ⟨b10, 0, none⟩)) (.slice R n.toNat cR) (.slice P n.toNat cP) (.slice F (firstList n rs xss n.toNat).length cF) (.int .i64 a) hx := by
  obtain ⟨k1, k2, k3, k4⟩ := scheduleOk_facts hs
  have rl := rankOf_len n rs xss
  have pl := pts_len (n := n) (rs := rs) (xss := xss) (by omega)
  have hRk := rankOf_ranks (n := n) (rs := rs) (xss := xss) (by omega)
  have fl := firstList_len n rs xss n.toNat
  intro k
  induction k with
  | zero =>
    intro a hx ha e0 e
    exact L.FnResults.L2_step _ _ _ _ _ _ _ _ _ _ _ _ _ _ ⟨n, e0.get (Heap.getN_get g 0 _ rfl), dec_split (fun hc => by omega) (fun _ => ⟨e, rfl⟩)⟩
  | succ k ih =>
    intro a hx ha e0 e
    obtain ⟨r0, r1⟩ := hRk.rng 0 (by omega)
    refine L.FnResults.L2_step _ _ _ _ _ _ _ _ _ _ _ _ _ _ ⟨n, e0.get (Heap.getN_get g 0 _ rfl), dec_split (fun hc => ?_) (fun hc => by omega)⟩
    obtain ⟨b1, o1, p1, p2, v1, p3, rfl⟩ := hP.rd e0 pl (n := (a : Int)) (by omega) (by omega) (K := fun v => v = (ptsOf n rs xss).getD a 0) rfl
    obtain ⟨b2, o2, q1, q2, v2, q3, rfl⟩ := hR.rd e0 rl (n := 0) (by omega) (by omega) (K := fun v => v = (rankOf n rs xss).getD 0 0) rfl
    obtain ⟨b3, o3, s1, s2, v3, s3, rfl⟩ := hP.rd e0 pl (n := (rankOf n rs xss).getD 0 0) r0 (by omega) (K := fun v => v = (ptsOf n rs xss).getD ((rankOf n rs xss).getD 0 0).toNat 0) rfl
    refine ⟨b1, o1, p1, p2, _, p3, b2, o2, q1, q2, _, q3, b3, o3, s1, s2, _, s3, (L.hasInt.spec (hF.mono e0) rfl (by omega)).mono ?_⟩
    rintro u h2 ⟨rfl, rfl⟩
    refine ⟨_, rfl, p3, q3, s3, nbool_split (fun hf => ?_) (fun _ => ?_)⟩
    · have := first_end (xss := xss) hs he (a := a) (by omega)
      by_cases hm : (a : Int) ∈ firstList n rs xss n.toNat
      · rw [decide_eq_true hm, decide_eq_true (this.1 hm)] at hf; cases hf
      · rw [decide_eq_false hm, decide_eq_false (fun h => hm (this.2 h))] at hf; cases hf
    · rw [wsucc (by omega)]
      exact ih (a + 1) _ (by omega) e0 e

theorem results_L1 (hs : scheduleOk n rs = true) (hr : resultsOk n rs xss = true) (hx60 : xss.length ≤ 60) (hx1 : ∀ xs ∈ xss, xs.length ≤ 1000) (g : h0.getN b10 0 2 = some [.int .i64 n, .slice A rs.length c]) (hB : Tab h0 B xss) (hR : Ints h0 R (rankOf n rs xss)) (hP : Ints h0 P (ptsOf n rs xss)) (hF : Ints h0 F (firstList n rs xss n.toNat)) :
    ∀ (k i : Nat) (hx : Heap), i + k = xss.length → Ext h0 hx → Ext h hx → gamesOf (xss.take i) ≤ i * 1000 → L.FnResults.L1 (TrueK h) (.pointer (some ⟨b10, 0, none⟩)) (.slice B xss.length d) (.slice R n.toNat cR) (.slice P n.toNat cP) (.slice F (firstList n rs xss n.toNat).length cF) (.int .i64 (gamesOf (xss.take i))) (.int .i64 i) hx := by
  obtain ⟨k1, k2, k3, k4⟩ := scheduleOk_facts hs
  have pl := pts_len (n := n) (rs := rs) (xss := xss) (by omega)
  intro k
  induction k with
  | zero =>
    intro i hx hi e0 e hg
    have ht : xss.take i = xss := List.take_of_length_le (by omega)
    rw [ht] at hg ⊢
    refine L.FnResults.L1_step _ _ _ _ _ _ _ _ _ _ _ _ _ _ _ _ _ _ (dec_split (fun hc => by omega) (fun _ => (L.sum.spec (hP.mono e0) pl (by omega) fun x hxm => ?_).mono ?_))
    · obtain ⟨i, hi, rfl⟩ := List.getElem_of_mem hxm
      have := (show InB 1120000000 (ptsOf n rs xss) from summed_InB hs) i
      rw [List.getD_eq_getElem?_getD, List.getElem?_eq_getElem hi] at this
      have h2 : (some (ptsOf n rs xss)[i]).getD 0 = (ptsOf n rs xss)[i] := rfl
      rw [h2] at this; omega
    · rintro u h195 ⟨rfl, rfl⟩
      have hsum := pts_sum hs hr
      have hne := firstList_ne (xss := xss) hs
      have hlen : (firstList n rs xss n.toNat).length ≠ 0 := fun h => hne (List.eq_nil_of_length_eq_zero h)
      refine ⟨_, rfl, fun k198 hk198 => ?_⟩
      rw [w64 (n := 2 * (gamesOf xss : Int)) (by omega) (by omega)]
      refine ndec_split (fun hne => absurd hsum hne) (fun _ => hk198 _ _ (bool_split (fun h => absurd (of_decide_eq_true h) (by omega)) (fun _ => ⟨A, rs.length, c, e0.get (Heap.getN_get g 1 _ rfl), dec_split (fun he => ?_) (fun _ => ⟨e, rfl⟩)⟩)))
      exact results_L2 hs (by omega) g hR hP hF n.toNat 0 _ (by omega) e0 e
  | succ k ih =>
    intro i hx hi e0 e hg
    have hii : i < xss.length := by omega
    have hgd : xss.getD i [] = xss[i] := by rw [List.getD_eq_getElem?_getD, List.getElem?_eq_getElem hii]; rfl
    have hl1 := hx1 _ (List.getElem_mem hii)
    have es : gamesOf (xss.take (i + 1)) = gamesOf (xss.take i) + (xss.getD i []).length := by
      rw [gamesOf, gamesOf, List.take_succ_eq_append_getElem hii, List.map_append, List.sum_append, hgd]; simp
    refine L.FnResults.L1_step _ _ _ _ _ _ _ _ _ _ _ _ _ _ _ _ _ _ (dec_split (fun hc => hB.rd e0 rfl (by omega) hc fun D dD _ _ => ?_) (fun hc => by omega))
    rw [Int.toNat_natCast, wsucc (by omega)]
    have ew : IntKind.wrap .i64 ((gamesOf (xss.take i) : Int) + ((xss.getD i []).length : Int)) = (gamesOf (xss.take (i + 1)) : Int) := by rw [es, w64 (by rw [hgd]; omega) (by rw [hgd]; omega)]; omega
    rw [ew]
    exact ih (i + 1) hx (by omega) e0 e (by rw [es, hgd]; omega)

theorem results_L0 (hs : scheduleOk n rs = true) (hr : resultsOk n rs xss = true) (hx60 : xss.length ≤ 60) (hx1 : ∀ xs ∈ xss, xs.length ≤ 1000) (g : h0.getN b10 0 2 = some [.int .i64 n, .slice A rs.length c]) (hB : Tab h0 B xss) (hR : Ints h0 R (rankOf n rs xss)) (hP : Ints h0 P (ptsOf n rs xss)) (hF : Ints h0 F (firstList n rs xss n.toNat)) (e : Ext h h0) {b147 : Nat} :
    ∀ (k i : Nat) (m : PMap) (met : List Bool), i + k = n.toNat → Beside h0 m → m b147 = some (BL met) → met.length = n.toNat → (∀ j, i ≤ j → j < n.toNat → met.getD ((rankOf n rs xss).getD j 0).toNat false = false) →
      L.FnResults.L0 (TrueK h) (.pointer (some ⟨b10, 0, none⟩)) (.slice B xss.length d) (.slice R n.toNat cR) (.slice P n.toNat cP) (.slice F (firstList n rs xss n.toNat).length cF) (.slice (some ⟨b147, 0, none⟩) n.toNat n.toNat) (.int .i64 i) (over h0 m) := by
  obtain ⟨k1, k2, k3, k4⟩ := scheduleOk_facts hs
  have rl := rankOf_len n rs xss
  have pl := pts_len (n := n) (rs := rs) (xss := xss) (by omega)
  have hRk := rankOf_ranks (n := n) (rs := rs) (xss := xss) (by omega)
  intro k
  induction k with
  | zero =>
    intro i m met hi hBm hm hml hfree
    have eB := over_ext hBm
    refine L.FnResults.L0_step _ _ _ _ _ _ _ _ _ _ _ _ _ _ _ _ _ _ _ _ (dec_split (fun hc => by omega) (fun _ => ?_))
    exact results_L1 hs hr hx60 hx1 g hB hR hP hF xss.length 0 _ (by omega) eB (e.trans eB) (by simp [gamesOf])
  | succ k ih =>
    intro i m met hi hBm hm hml hfree
    have eB := over_ext hBm
    obtain ⟨r0, r1⟩ := hRk.rng i (by omega)
    have hmi := hfree i (Nat.le_refl _) (by omega)
    refine L.FnResults.L0_step _ _ _ _ _ _ _ _ _ _ _ _ _ _ _ _ _ _ _ _ (dec_split (fun hc => hR.rd eB rl (by omega) hc ?_) (fun hc => by omega))
    rw [Int.toNat_natCast]
    have hlt : ((rankOf n rs xss).getD i 0).toNat < met.length := by omega
    refine ⟨b147, 0, rfl, ⟨r0, by omega⟩, met.getD ((rankOf n rs xss).getD i 0).toNat false, ?_, fun k163 hk163 => ?_⟩
    · rw [over_get hm, Nat.zero_add, Nat.mul_one, BL, List.getElem?_map, List.getElem?_eq_getElem hlt]
      have e7 : met.getD ((rankOf n rs xss).getD i 0).toNat false = met[((rankOf n rs xss).getD i 0).toNat] := by rw [List.getD_eq_getElem?_getD (l := met), List.getElem?_eq_getElem hlt]; rfl
      rw [e7]; rfl
    · have on : ∀ x : Bool, x = false → k163 [.bool x] (over h0 m) := by
        intro x hx
        refine hk163 _ _ (bool_split (fun h => by rw [hx] at h; cases h) (fun _ => hR.rd eB rl (by omega) hc ?_))
        rw [Int.toNat_natCast]
        refine ⟨b147, 0, rfl, ⟨r0, by omega⟩, over_store hm (by rw [BL, List.length_map, List.length_singleton]; omega) (by simp [Value.oneCell']) ?_⟩
        have es : splice (BL met) (0 + ((rankOf n rs xss).getD i 0).toNat * 1) [.bool true] = BL (met.set ((rankOf n rs xss).getD i 0).toNat true) := by
          rw [Nat.zero_add, Nat.mul_one, splice_one _ _ _ (by simpa using hlt), BL, BL, List.map_set]
        rw [es, wsucc (by omega)]
        refine ih (i + 1) _ _ (by omega) (hBm.put (by rw [hm]; simp) _) (put_self _ _ _) (by rw [List.length_set]; exact hml) fun j hj hjn => ?_
        rw [lget_set_ne _ (fun he => ?_)]
        · exact hfree j (by omega) hjn
        · obtain ⟨s0, s1⟩ := hRk.rng j hjn
          have := hRk.inj i j (by omega) hjn (by omega)
          omega
      refine bool_split (fun h => by rw [hmi] at h; cases h) (fun _ => dec_split (fun hpos => ?_) (fun _ => on _ rfl))
      have e1 : IntKind.wrap .i64 ((i : Int) - 1) = ((i - 1 : Nat) : Int) := by rw [w64 (by omega) (by omega)]; omega
      rw [e1]
      obtain ⟨q0, q1⟩ := hRk.rng (i - 1) (by omega)
      refine hR.rd eB rl (by omega) hc ?_
      rw [Int.toNat_natCast]
      refine hP.rd eB pl r0 (by omega) (hR.rd eB rl (by omega) (by omega) ?_)
      rw [Int.toNat_natCast]
      refine hP.rd eB pl q0 (by omega) (on _ (decide_eq_false ?_))
      have := rank_down (n := n) (rs := rs) (xss := xss) (i := i - 1) (by omega)
      have ei : i - 1 + 1 = i := by omega
      rw [ei] at this
      omega
end

end Go.Proofs.Ythkbodgpcjcndaa

/- The law of results, whole. -/
set_option linter.unusedVariables false
set_option linter.unusedSimpArgs false
namespace Go.Proofs.Ythkbodgpcjcndaa
open Go.HL

theorem teams_listI {n : Int} {A B : Option Addr} {rs xss : List (List Int)} {l c m d : Nat} {h : Heap} (s : Rds h A rs) (hl : rs.length = l) (hlc : l ≤ c) (x : Tab h B xss) (hm : xss.length = m) (hx : ∀ xs ∈ xss, xs.length ≤ 1048576) :
    ACalls Try.prog I.FirstTeams.id [.agg #[.int .i64 n, .slice A l c], .slice B m d] h (ListK h (firstList n rs xss n.toNat) n rs xss) := by
  refine (I.FirstTeams.spec s hl hlc x hm hx).mono ?_
  rintro u h2 ⟨e, C, xs, cc, code, rfl, ⟨a1, a2, a3⟩, r⟩
  exact ⟨e, C, xs, cc, code, rfl, a1, a2, a3, r.ints⟩
theorem teams_listS {n : Int} {A B : Option Addr} {rs xss : List (List Int)} {l c m d : Nat} {h : Heap} (s : Rds h A rs) (hl : rs.length = l) (x : Tab h B xss) (hm : xss.length = m) (hx : ∀ xs ∈ xss, xs.length ≤ 1048576) :
    ACalls Try.prog S.FirstTeams.id [.agg #[.int .i64 n, .slice A l c], .slice B m d] h (ListK h (firstList n rs xss n.toNat) n rs xss) := by
  refine (S.FirstTeams.spec s hl x hm hx).mono ?_
  rintro u h2 ⟨e, C, xs, cc, code, rfl, ⟨a1, a2, a3⟩, r⟩
  exact ⟨e, C, xs, cc, code, rfl, a1, a2, a3, r.ints⟩

theorem L.FnResults.spec {Z : Option Addr} {zs : List Int} {lz cz : Nat} {h : Heap} (hz : BytesW h Z zs) (hzl : zs.length = lz) (hlb : lz ≤ 9223372036854775807) :
    ACalls Try.prog L.FnResults.id [.slice Z lz cz] h (TrueK h) := by
  refine L.FnResults.step _ _ _ _ _ (L.big.step _ _ _ _ _ ⟨_, rfl, dec_split (fun _ => ⟨Ext.refl _, rfl⟩) (fun _ => (S.DrawRankingOf.spec hz hzl hlb).mono ?_)⟩)
  rintro u h5 ⟨e5, n, A, c, rs, B, d, xss, rfl, h60, hrc, hR5, hT5, hx60, hx1⟩
  refine ⟨n, A, rs.length, c, B, xss.length, d, rfl, ?_⟩
  rw [← over_noM h5]
  refine base_alloc_st (beside_noM h5) rfl rfl (by simp [Value.oneCell']) fun b10 hf10 _ e10 _ => ?_
  rw [over_noM]
  have g : (h5.upd b10 (.cells [.int .i64 n, .slice A rs.length c])).getN b10 0 2 = some [.int .i64 n, .slice A rs.length c] := by simp [Heap.getN]
  have hR := Rds.mono e10 hR5
  have hT := Tab.mono e10 hT5
  have e := e5.trans e10
  generalize h5.upd b10 (.cells [.int .i64 n, .slice A rs.length c]) = h0 at *
  have hx2 : ∀ xs ∈ xss, xs.length ≤ 1048576 := fun xs h => by have := hx1 xs h; omega
  -- the lists are short
  have h14 : ∀ (f : List Int), (scheduleOk n rs = true → f.length ≤ 1000) → (lstOf n rs xss f).length ≤ 1000 := fun f hf => by
    unfold lstOf; split
    · rename_i h; exact hf (schedCode_zero.1 h).1
    · exact Nat.zero_le _
  refine pairStep (F := rankOf n rs xss) g (h14 _ (fun hok => by rw [rankOf_len]; have := (scheduleOk_facts hok).2.1; omega)) (fun h1 e1 => I.RankingOf.spec (hR.mono e1) rfl (hT.mono e1) rfl hx2) (fun h1 e1 => S.RankingOf.spec (hR.mono e1) rfl (hT.mono e1) rfl hx2) fun q1 C1 c1 f1 hC1 => ?_
  refine pairStep (F := ptsOf n rs xss) (f1.getN g) (h14 _ (fun hok => by obtain ⟨k1, k2, _, _⟩ := scheduleOk_facts hok; rw [pts_len (by omega)]; omega)) (fun h1 e1 => I.PointsOf.spec (hR.mono (f1.trans e1)) rfl (hT.mono (f1.trans e1)) rfl hx2) (fun h1 e1 => S.PointsOf.spec (hR.mono (f1.trans e1)) rfl (hT.mono (f1.trans e1)) rfl hx2) fun q2 C2 c2 f2 hC2 => ?_
  have t2 := f1.trans f2
  refine pairStep (F := numsOf false n rs xss) (t2.getN g) (h14 _ (fun hok => by obtain ⟨k1, k2, _, _⟩ := scheduleOk_facts hok; rw [nums_len (by omega)]; omega)) (fun h1 e1 => I.SecondNumbers.spec (hR.mono (t2.trans e1)) rfl (hT.mono (t2.trans e1)) rfl hx2) (fun h1 e1 => S.SecondNumbers.spec (hR.mono (t2.trans e1)) rfl (hT.mono (t2.trans e1)) rfl hx2) fun q3 C3 c3 f3 hC3 => ?_
  have t3 := t2.trans f3
  refine pairStep (F := numsOf true n rs xss) (t3.getN g) (h14 _ (fun hok => by obtain ⟨k1, k2, _, _⟩ := scheduleOk_facts hok; rw [nums_len (by omega)]; omega)) (fun h1 e1 => I.ThirdNumbers.spec (hR.mono (t3.trans e1)) rfl (hT.mono (t3.trans e1)) rfl hx2) (fun h1 e1 => S.ThirdNumbers.spec (hR.mono (t3.trans e1)) rfl (hT.mono (t3.trans e1)) rfl hx2) fun q4 C4 c4 f4 hC4 => ?_
  have t4 := t3.trans f4
  refine pairStep (F := firstList n rs xss n.toNat) (t4.getN g) (h14 _ (fun hok => by have h1 := firstList_len n rs xss n.toNat; have := (scheduleOk_facts hok).2.1; omega)) (fun h1 e1 => teams_listI (hR.mono (t4.trans e1)) rfl hrc (hT.mono (t4.trans e1)) rfl hx2) (fun h1 e1 => teams_listS (hR.mono (t4.trans e1)) rfl (hT.mono (t4.trans e1)) rfl hx2) fun q5 C5 c5 f5 hC5 => ?_
  have t5 := t4.trans f5
  refine ⟨n, A, rs.length, c, t5.getN g, (I.AreResults.spec (hR.mono t5) rfl (hT.mono t5) rfl hx2).mono ?_⟩
  rintro u q6 ⟨f6, ok1, code1, rfl, a1, a2, a3⟩
  have t6 := t5.trans f6
  refine ⟨ok1, code1, rfl, n, A, rs.length, c, t6.getN g, (S.AreResults.spec (hR.mono t6) rfl (hT.mono t6) rfl hx2).mono ?_⟩
  rintro u q7 ⟨f7, ok2, code2, rfl, b1, b2, b3⟩
  have t7 := t6.trans f7
  have hcc : code1 = code2 := a1.trans b1.symm
  have hok12 : ok1 = ok2 := by
    by_cases h0 : code1 = 0
    · rw [a2 h0, b2 (hcc ▸ h0)]
    · rw [a3 h0, b3 (hcc ▸ h0)]
  have ee : Ext h q7 := e.trans t7
  refine ⟨ok2, code2, rfl, fun k115 hk115 => ndec_split (fun hne => absurd hcc hne) (fun _ => hk115 _ _ (bool_split (fun hf => by rw [hok12] at hf; simp at hf) (fun _ => ?_)))⟩
  generalize hsc : schedCode n rs (resultsOk n rs xss) = sc at *
  refine ndec_split (fun hne => ?_) (fun h0 => ?_)
  · have hl0 : lstOf n rs xss (rankOf n rs xss) = [] := by unfold lstOf; rw [hsc, if_neg hne]
    rw [hl0]
    have dt : decide (sc = sc) = true := decide_eq_true rfl
    rw [dt]
    refine fun k118 hk118 => dec_split (fun _ => hk118 _ _ fun k121 hk121 => bool_split (fun _ => hk121 _ _ fun k124 hk124 => bool_split (fun _ => hk124 _ _ fun k127 hk127 => bool_split (fun _ => hk127 _ _ ⟨ee, rfl⟩) (fun h => by cases h)) (fun h => by cases h)) (fun h => by cases h)) (fun hne => absurd rfl hne)
  · subst h0
    obtain ⟨hok, hr⟩ := schedCode_zero.1 hsc
    obtain ⟨k1, k2, k3, k4⟩ := scheduleOk_facts hok
    have ls : ∀ f, lstOf n rs xss f = f := fun f => by unfold lstOf; rw [hsc, if_pos rfl]
    rw [ls] at hC1 hC2 hC5
    rw [ls, ls, ls]
    have hc0 : code1 = 0 := by rw [a1, schedCode, hok]; rfl
    have hokT : ok1 = true := by rw [a2 hc0, hr]
    have rl := rankOf_len n rs xss
    have pl := pts_len (n := n) (rs := rs) (xss := xss) (by omega)
    have gn : q7.get b10 0 = some (.int .i64 n) := t7.get (Heap.getN_get g 0 _ rfl)
    refine fun k130 hk130 => ndec_split (fun hne => absurd rfl hne) (fun _ => hk130 _ _ fun k133 hk133 => ndec_split (fun hne => absurd rfl hne) (fun _ => hk133 _ _ fun k136 hk136 => ndec_split (fun hne => absurd rfl hne) (fun _ => hk136 _ _ fun k139 hk139 => ndec_split (fun hne => absurd rfl hne) (fun _ => hk139 _ _ fun k142 hk142 => nbool_split (fun hf => by rw [hokT] at hf; cases hf) (fun _ => ⟨n, gn, hk142 _ _ (ndec_split (fun hne => absurd (by rw [rl]; omega) hne) (fun _ => ⟨n, gn, rfl, by omega, by omega, by omega, ?_⟩))⟩)))))
    rw [← over_noM q7, rl, pl]
    refine over_alloc (beside_noM q7) fun b147 _ _ hB147 => ?_
    exact results_L0 hok hr hx60 hx1 (t7.getN g) (hT.mono t7) (hC1.mono (((((f2.trans f3).trans f4).trans f5).trans f6).trans f7)) (hC2.mono ((((f3.trans f4).trans f5).trans f6).trans f7)) (hC5.mono (f6.trans f7)) ee n.toNat 0 _ (List.replicate n.toNat false) (by omega) hB147 (by rw [put_self]; simp [BL]) (by simp) (fun j _ _ => by rw [List.getD_eq_getElem?_getD, List.getElem?_replicate]; split <;> rfl)

end Go.Proofs.Ythkbodgpcjcndaa
