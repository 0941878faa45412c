/- Whatever the code, the law of results answers true: points of all teams are twice the meetings played, rankings have all teams, and the teams with the most points can be first when all rounds are played; no condition. -/
import Derived.Test.YthkbodgpcjcndaaKdx31
/- Blocks of a call's own: lists that grow, tables, what is handed back, marks. -/
set_option linter.unusedVariables false
set_option linter.unusedSimpArgs false
namespace Go.HL

theorem count_set' {α : Type} [DecidableEq α] (x v d : α) : ∀ (l : List α) (i : Nat), i < l.length → (l.set i v).count x + (if l.getD i d = x then 1 else 0) = l.count x + (if v = x then 1 else 0)
  | [], i, h => by simp at h
  | y :: l, 0, h => by
    simp only [List.set_cons_zero, List.count_cons, List.getD_cons_zero, beq_iff_eq]
    omega
  | y :: l, i + 1, h => by
    have := count_set' x v d l i (by simpa using h)
    simp only [List.set_cons_succ, List.count_cons, List.getD_cons_succ, beq_iff_eq] at this ⊢
    omega
theorem lget_set_self {α : Type} {l : List α} {i : Nat} (h : i < l.length) (v d : α) : (l.set i v).getD i d = v := by simp [List.getD_eq_getElem?_getD, h]
theorem lget_set_ne {α : Type} (l : List α) {i j : Nat} (h : i ≠ j) (v d : α) : (l.set i v).getD j d = l.getD j d := by simp [List.getD_eq_getElem?_getD, List.getElem?_set, h]
abbrev BL (bs : List Bool) : List Value := List.map Value.bool bs
def only (b : Nat) (cs : List Value) : PMap := fun x => if x = b then some cs else none
theorem only_self (b : Nat) (cs : List Value) : only b cs b = some cs := by simp [only]
/-- A new block is one that changes from now on. -/
theorem carve {h h2 : Heap} {b : Nat} {cs : List Value} (e : Ext h h2) (hf : h.fresh b) (ho : h2.own b = some (.cells cs)) : ∃ hI, Ext h hI ∧ Beside hI (only b cs) ∧ h2 = over hI (only b cs) := by
  refine ⟨{ h2 with own := fun x => if x = b then none else h2.own x }, ⟨fun x k hx => ?_, e.ro, fun x hx hn o => ?_⟩, fun x hx => ?_, ?_⟩
  · have : x ≠ b := fun e2 => by rw [e2, hf.1] at hx; cases hx
    simp only [if_neg this]; exact e.own x k hx
  · by_cases hxb : x = b
    · rw [hxb]; exact hf.2 o
    · simp only [if_neg hxb] at hn; exact e.new x hx hn o
  · have hxb : x = b := by
      by_cases hxb : x = b
      · exact hxb
      · simp [only, hxb] at hx
    subst hxb
    exact ⟨by simp, fun o => by show h2.ro x o = none; rw [e.ro]; exact hf.2 o⟩
  · cases h2 with
    | mk own ro =>
      unfold over
      congr 1
      funext x
      by_cases hxb : x = b
      · subst hxb; simp only [only, if_pos]; exact ho
      · simp only [only, if_neg hxb]
theorem wrap_le (x : Int) : IntKind.wrap .i64 x ≤ 9223372036854775807 := by rw [IntKind.wrap_i64]; omega
/-- A list that has grown is a block that changes from now on. -/
theorem Vec.thaw {hI h : Heap} {m : PMap} {R : Option Addr} {l c : Nat} {cs : List Value} (hB : Beside hI m) (v : Vec (over hI m) h R l c 1 cs) (hpos : 0 < l) :
    ∃ x sp, R = some ⟨x, 0, none⟩ ∧ m x = none ∧ h = over hI (m.put x (cs ++ sp)) ∧ Beside hI (m.put x (cs ++ sp)) := by
  obtain ⟨hl, ⟨rfl, rfl, rfl, rfl⟩ | ⟨x, sp, rfl, hx, rfl, h1, h2⟩⟩ := v
  · omega
  · exact ⟨x, sp, rfl, (over_fresh hx).2, over_put _ _ _, hB.new hx _⟩
theorem bound_none (d y : Nat) : evalL.bound none d y = some d := rfl
theorem bound_int {k : IntKind} {n : Int} {d y : Nat} (h0 : 0 ≤ n) (h1 : n ≤ (y : Int)) : evalL.bound (some (.int k n)) d y = some n.toNat := by
  unfold evalL.bound; simp only; rw [if_pos ⟨h0, h1⟩]
theorem slice_lohimx {sz b o l c : Nat} {i j k : Int} (h0 : 0 ≤ i) (h1 : i ≤ j) (h2 : j ≤ k) (h3 : k ≤ (c : Int)) :
    evalL.evalSlice sz (some ⟨b, o, none⟩) l c (some (.int .i64 i)) (some (.int .i64 j)) (some (.int .i64 k)) = some (.slice (some ⟨b, if k.toNat = i.toNat then o else o + i.toNat * sz, none⟩) (j.toNat - i.toNat) (k.toNat - i.toNat)) := by
  unfold evalL.evalSlice
  rw [bound_int (by omega) h3, Option.bind_some]
  simp only [Option.isSome_some, Option.isNone_some, Bool.and_false, Bool.false_eq_true, if_false]
  rw [bound_int (by omega) (by omega), Option.bind_some, bound_int h0 (by omega), Option.bind_some]
theorem slice_hi {sz b o l c : Nat} {j : Int} (h1 : 0 ≤ j) (h2 : j ≤ (c : Int)) :
    evalL.evalSlice sz (some ⟨b, o, none⟩) l c none (some (.int .i64 j)) none = some (.slice (some ⟨b, o, none⟩) j.toNat c) := by
  unfold evalL.evalSlice
  rw [bound_none, Option.bind_some]
  simp only [Option.isSome_none, Bool.false_and, Bool.false_eq_true, if_false]
  rw [bound_int h1 h2, Option.bind_some, bound_none, Option.bind_some]
  simp
theorem slice_lo {sz b o l c : Nat} {i : Int} (h1 : 0 ≤ i) (h2 : i ≤ (l : Int)) :
    evalL.evalSlice sz (some ⟨b, o, none⟩) l c (some (.int .i64 i)) none none = some (.slice (some ⟨b, if c = i.toNat then o else o + i.toNat * sz, none⟩) (l - i.toNat) (c - i.toNat)) := by
  unfold evalL.evalSlice
  rw [bound_none, Option.bind_some]
  simp only [Option.isSome_none, Bool.false_and, Bool.false_eq_true, if_false]
  rw [bound_none, Option.bind_some, bound_int h1 h2, Option.bind_some]
theorem slice_lohi {sz b o l c : Nat} {i j : Int} (h0 : 0 ≤ i) (h1 : i ≤ j) (h2 : j ≤ (c : Int)) :
    evalL.evalSlice sz (some ⟨b, o, none⟩) l c (some (.int .i64 i)) (some (.int .i64 j)) none = some (.slice (some ⟨b, if c = i.toNat then o else o + i.toNat * sz, none⟩) (j.toNat - i.toNat) (c - i.toNat)) := by
  unfold evalL.evalSlice
  rw [bound_none, Option.bind_some]
  simp only [Option.isSome_none, Bool.false_and, Bool.false_eq_true, if_false]
  rw [bound_int (by omega) h2, Option.bind_some, bound_int h0 (by omega), Option.bind_some]
theorem over_store {hI : Heap} {m : PMap} {b o : Nat} {cs vs : List Value} {K : Heap → Prop} (hm : m b = some cs) (ho : o + vs.length ≤ cs.length) (h1 : ∀ v ∈ vs, v.oneCell' = true) (k : K (over hI (m.put b (splice cs o vs)))) : SStore (over hI m) b o vs K :=
  ⟨cs, over_own hm, ho, h1, by rw [over_put]; exact k⟩
theorem splice_mid (p q r vs : List Value) (h : vs.length = q.length) : splice (p ++ q ++ r) p.length vs = p ++ vs ++ r := by
  have e : p ++ q ++ r = p ++ (q ++ r) := List.append_assoc _ _ _
  unfold splice
  rw [e, List.take_left, h, List.drop_append, List.drop_eq_nil_of_le (by omega), List.nil_append, Nat.add_sub_cancel_left, List.drop_left]
theorem last_split (ys : List Int) (k : Nat) (h : ys.length = k + 1) : ys = ys.take k ++ [ys.getD k 0] := by
  have hk : k < ys.length := by omega
  have h6 : ys.drop k = [ys.getD k 0] := by
    rw [List.drop_eq_getElem_cons hk, List.drop_eq_nil_of_le (by omega), List.getD_eq_getElem?_getD, List.getElem?_eq_getElem hk]; rfl
  rw [← h6, List.take_append_drop]
theorem oneInts (xs : List Int) : ∀ v ∈ LM xs, v.oneCell' = true := by
  intro v hv
  simp only [LM, List.mem_map] at hv
  obtain ⟨x, _, rfl⟩ := hv
  rfl
theorem getD_flatten2 {α : Type} (d : α) : ∀ (rs : List (List α)), (∀ r ∈ rs, r.length = 2) → ∀ (j k : Nat), k < 2 → rs.flatten.getD (2 * j + k) d = (rs.getD j []).getD k d
  | [], _, j, k, _ => by simp
  | r :: rs, h, 0, k, hk => by
    have hr : r.length = 2 := h r (by simp)
    rw [List.flatten_cons, Nat.mul_zero, Nat.zero_add, List.getD_cons_zero, List.getD_eq_getElem?_getD, List.getD_eq_getElem?_getD, List.getElem?_append_left (by omega)]
  | r :: rs, h, j + 1, k, hk => by
    have hr : r.length = 2 := h r (by simp)
    rw [List.getD_cons_succ, ← getD_flatten2 d rs (fun r hr => h r (by simp [hr])) j k hk, List.flatten_cons, List.getD_eq_getElem?_getD, List.getD_eq_getElem?_getD, List.getElem?_append_right (by omega)]
    congr 2; omega
theorem length_flatten2 {α : Type} : ∀ (rs : List (List α)), (∀ r ∈ rs, r.length = 2) → rs.flatten.length = 2 * rs.length
  | [], _ => rfl
  | r :: rs, h => by
    rw [List.flatten_cons, List.length_append, length_flatten2 rs (fun r hr => h r (by simp [hr])), h r (by simp), List.length_cons]; omega
theorem getD_mem {α : Type} {l : List α} {q : Nat} {d : α} (h : q < l.length) : l.getD q d ∈ l := by
  rw [List.getD_eq_getElem?_getD, List.getElem?_eq_getElem h]; exact List.getElem_mem h
/-- A list that grows, in a block of its own. -/
def VecAt (m : PMap) (v : Value) (vs : List Value) (x : Option Nat) : Prop :=
  (x = none ∧ v = .slice none 0 0 ∧ vs = []) ∨ ∃ b c sp, x = some b ∧ v = .slice (some ⟨b, 0, none⟩) vs.length c ∧ m b = some (vs ++ sp) ∧ sp.length = c - vs.length ∧ vs.length ≤ c
theorem VecAt.congr {m m' : PMap} {v : Value} {vs : List Value} {x : Option Nat} (R : VecAt m v vs x) (h : ∀ b, x = some b → m' b = m b) : VecAt m' v vs x := by
  rcases R with R | ⟨b, c, sp, e1, e2, e3, e4, e5⟩
  · exact .inl R
  · exact .inr ⟨b, c, sp, e1, e2, by rw [h b e1]; exact e3, e4, e5⟩
/-- A variable that holds such a list. -/
structure CellVec (m : PMap) (lb : Nat) (vs : List Value) (x : Option Nat) : Prop where
  cell : ∃ v, m lb = some [v] ∧ VecAt m v vs x
  ne : x ≠ some lb
theorem CellVec.congr {m m' : PMap} {lb : Nat} {vs : List Value} {x : Option Nat} (C : CellVec m lb vs x) (h1 : m' lb = m lb) (h2 : ∀ b, x = some b → m' b = m b) : CellVec m' lb vs x :=
  let ⟨v, e1, e2⟩ := C.cell
  ⟨⟨v, h1.trans e1, e2.congr h2⟩, C.ne⟩
theorem CellVec.push {hI : Heap} {m : PMap} {lb bytes : Nat} {vs z : List Value} {x : Option Nat} {u : Value} {K : Heap → Prop} (C : CellVec m lb vs x) (hB : Beside hI m) (hlen : vs.length ≤ 1048576) (hb : bytes ≤ 64) (hu : u.oneCell' = true) (hz : z.length = 1)
    (k : ∀ hJ m' x', Ext hI hJ → Beside hJ m' → CellVec m' lb (vs ++ [u]) x' → (∀ y, y ≠ lb → x ≠ some y → x' ≠ some y → m' y = m y) → (x' = x ∨ ∃ b, x' = some b ∧ m b = none) → K (over hJ m')) :
    ∃ A l c, (over hI m).get lb 0 = some (.slice A l c) ∧ SAlloc (over hI m) [u] fun b h69 => SAppend h69 1 bytes z A l c (some ⟨b, 0, none⟩) 1 fun v h70 => ∃ A2 : Option Addr, ∃ l2 c2 : Nat, v = .slice A2 l2 c2 ∧ SStore h70 lb 0 [.slice A2 l2 c2] K := by
  obtain ⟨v, e1, e2⟩ := C.cell
  have fin : ∀ (b : Nat) (hf : (over hI m).fresh b) (m1 : PMap) (y c' : Nat) (sp' : List Value), Beside (hI.upd b (.cells [u])) m1 → (x = some y ∨ (over (hI.upd b (.cells [u])) m).fresh y) → (∀ y', y' ≠ y → m1 y' = m y') → m1 y = some ((vs ++ [u]) ++ sp') → sp'.length = c' - (vs.length + 1) → vs.length + 1 ≤ c' →
      ∃ A2 : Option Addr, ∃ l2 c2 : Nat, (Value.slice (some ⟨y, 0, none⟩) (vs.length + 1) c') = .slice A2 l2 c2 ∧ SStore (over (hI.upd b (.cells [u])) m1) lb 0 [.slice A2 l2 c2] K := by
    intro b hf m1 y c' sp' hB1 hy hoth hm1 hsp hc'
    have hyl : lb ≠ y := fun e => by
      rcases hy with h | h
      · exact C.ne (by rw [h, e])
      · have := (over_fresh h).2; rw [← e, e1] at this; cases this
    have hml : m1 lb = some [v] := by rw [hoth lb hyl]; exact e1
    refine ⟨_, _, _, rfl, over_store hml (by simp) (by simp [Value.oneCell']) ?_⟩
    have es : splice [v] 0 [Value.slice (some ⟨y, 0, none⟩) (vs.length + 1) c'] = [Value.slice (some ⟨y, 0, none⟩) (vs.length + 1) c'] := by simp [splice]
    rw [es]
    refine k _ _ (some y) (Ext.upd (over_fresh hf).1 _) (hB1.put (by rw [hml]; simp) _) ⟨⟨_, put_self _ _ _, .inr ⟨y, c', sp', rfl, by simp, by rw [put_ne _ _ hyl.symm]; exact hm1, by simpa using hsp, by simpa using hc'⟩⟩, fun e => hyl (by cases e; rfl)⟩ (fun y' h1 h2 h3 => ?_) ?_
    · rw [put_ne _ _ h1, hoth y' (fun e => h3 (by rw [e]))]
    · rcases hy with h | h
      · exact .inl h.symm
      · exact .inr ⟨y, rfl, (over_fresh h).2⟩
  have new : ∀ (b : Nat) (hf : (over hI m).fresh b) (c' : Nat), vs.length + 1 ≤ c' → SAlloc (over (hI.upd b (.cells [u])) m) (vs ++ [u] ++ zrep z (c' - (vs.length + 1))) fun y h' =>
      ∃ A2 : Option Addr, ∃ l2 c2 : Nat, (Value.slice (some ⟨y, 0, none⟩) (vs.length + 1) c') = .slice A2 l2 c2 ∧ SStore h' lb 0 [.slice A2 l2 c2] K := by
    intro b hf c' hc' y hfy
    rw [over_put]
    exact fin b hf _ y c' (zrep z (c' - (vs.length + 1))) ((hB.base hf _).new hfy _) (.inr hfy) (fun y' hy' => put_ne _ _ hy') (put_self _ _ _) (by rw [zrep_len, hz]; omega) hc'
  have hbound : ∀ q : Nat, q ≤ 1048577 → q * bytes ≤ 140737488355328 := fun q hq => Nat.le_trans (Nat.mul_le_mul hq hb) (by decide)
  rcases e2 with ⟨rfl, rfl, rfl⟩ | ⟨y, c, sp, rfl, rfl, e3, e4, e5⟩
  · refine ⟨none, 0, 0, by rw [over_get e1]; rfl, fun b hf => ?_⟩
    rw [over_base hf]
    refine ⟨[], [u], ⟨by simp, rfl⟩, Seg.row (by rw [← over_base hf]; exact Seg.new' _ _ _) rfl, by simpa using hu, hbound _ (by omega), by omega, fun h => by omega, fun _ c' hc' => ?_⟩
    exact new b hf c' hc'
  · refine ⟨_, _, c, by rw [over_get e1]; rfl, fun b hf => ?_⟩
    rw [over_base hf]
    refine ⟨vs, [u], ?_, Seg.row (by rw [← over_base hf]; exact Seg.new' _ _ _) rfl, by simpa using hu, hbound _ (by omega), by omega, fun hroom => ⟨fun h => by omega, fun _ => ⟨y, 0, rfl, ?_⟩⟩, fun _ c' hc' => new b hf c' hc'⟩
    · show (over _ m).getN y 0 _ = _
      refine getN_of (by simp) fun i w hw => ?_
      rw [over_get e3, Nat.zero_add, List.getElem?_append_left (List.getElem?_eq_some_iff.1 hw).1]
      exact hw
    · refine over_store e3 (by simp; omega) (by simpa using hu) ?_
      have hsp : sp ≠ [] := fun e => by rw [e] at e4; simp at e4; omega
      obtain ⟨s0, sp', rfl⟩ := List.exists_cons_of_ne_nil hsp
      have ecut : splice (vs ++ s0 :: sp') (0 + vs.length * 1) [u] = (vs ++ [u]) ++ sp' := by
        have := splice_mid vs [s0] sp' [u] rfl
        rw [Nat.zero_add, Nat.mul_one, show vs ++ s0 :: sp' = vs ++ [s0] ++ sp' by simp, this]
      rw [ecut]
      exact fin b hf _ y c sp' ((hB.base hf _).put (by rw [e3]; simp) _) (.inl rfl) (fun y' hy' => put_ne _ _ hy') (put_self _ _ _) (by simp at e4 ⊢; omega) hroom
def PMap.del (m : PMap) (b : Nat) : PMap := fun x => if x = b then none else m x
theorem del_ne (m : PMap) {b x : Nat} (h : x ≠ b) : (PMap.del m b) x = m x := by simp [PMap.del, h]
/-- A changing block changes no more. -/
theorem over_freeze {hI : Heap} {m : PMap} {b : Nat} {cs : List Value} (hB : Beside hI m) (hm : m b = some cs) :
    over hI m = over (hI.upd b (.cells cs)) (PMap.del m b) ∧ Beside (hI.upd b (.cells cs)) (PMap.del m b) ∧ Ext hI (hI.upd b (.cells cs)) := by
  refine ⟨?_, fun x hx => ?_, Ext.upd (hB b (by rw [hm]; simp)) _⟩
  · unfold over Heap.upd PMap.del
    congr 1; funext x
    by_cases hx : x = b
    · subst hx; simp [hm]
    · simp [hx]
  · have hxb : x ≠ b := fun e => by subst e; simp [PMap.del] at hx
    rw [del_ne _ hxb] at hx
    exact fresh_upd (hB x hx) hxb.symm _
theorem slice_lo_nil {sz l c : Nat} {i : Int} (h1 : 0 ≤ i) (h2 : i ≤ (l : Int)) (h3 : l ≤ c) :
    evalL.evalSlice sz none l c (some (.int .i64 i)) none none = some (.slice none (l - i.toNat) (c - i.toNat)) := by
  unfold evalL.evalSlice
  rw [bound_none, Option.bind_some]
  simp only [Option.isSome_none, Bool.false_and, Bool.false_eq_true, if_false]
  rw [bound_none, Option.bind_some, bound_int h1 h2, Option.bind_some]
/-- The rounds from one on. -/
theorem Rds.drop {h : Heap} {A : Option Addr} {rs : List (List Int)} {l c m : Nat} (s : Rds h A rs) (hl : rs.length = l) (hlc : l ≤ c) (hm : m ≤ l) :
    ∃ A', evalL.evalSlice 14 A l c (some (.int .i64 m)) none none = some (.slice A' (l - m) (c - m)) ∧ Rds h A' (rs.drop m) := by
  have h14 : ∀ r ∈ rs.drop m, r.length = 14 := fun r hr => s.2 r (List.mem_of_mem_drop hr)
  have hfl : ∀ (rs : List (List Int)), (∀ r ∈ rs, r.length = 14) → ∀ m, m ≤ rs.length → (rs.drop m).flatten = (rs.flatten).drop (m * 14) := by
    intro rs
    induction rs with
    | nil => intro _ m _; simp
    | cons r rs ih =>
      intro hr m hm
      cases m with
      | zero => simp
      | succ m =>
        have e : (m + 1) * 14 = r.length + m * 14 := by rw [hr r (by simp)]; omega
        have e2 : r.drop (r.length + m * 14) = [] := List.drop_eq_nil_of_le (by omega)
        rw [List.drop_succ_cons, List.flatten_cons, e, List.drop_append, e2, List.nil_append, Nat.add_sub_cancel_left]
        exact ih (fun q hq => hr q (by simp [hq])) m (by simpa using hm)
  obtain ⟨hseg, hall⟩ := s
  rcases hseg with ⟨rfl, hnil⟩ | ⟨b, o, rfl, hg⟩
  · refine ⟨none, by rw [slice_lo_nil (by omega) (by omega) hlc, Int.toNat_natCast], .inl ⟨rfl, ?_⟩, h14⟩
    rw [hfl rs hall m (by omega)]
    have : rs.flatten = [] := by simpa using hnil
    rw [this]; simp
  · refine ⟨_, by rw [slice_lo (by omega) (by omega), Int.toNat_natCast], ?_, h14⟩
    rw [hfl rs hall m (by omega), LM, List.map_drop]
    by_cases hc : c = m
    · rw [if_pos hc]
      refine .inr ⟨b, o, rfl, fun i v hv => ?_⟩
      have hlen : (LM rs.flatten).length ≤ m * 14 := by
        have e0 : rs.drop m = [] := List.drop_eq_nil_of_le (by omega)
        have e1 := hfl rs hall m (by omega)
        rw [e0] at e1
        have := congrArg List.length e1
        rw [List.length_drop, List.flatten_nil, List.length_nil] at this
        rw [LM, List.length_map]; omega
      rw [← LM, List.drop_eq_nil_of_le hlen] at hv
      cases hv
    · rw [if_neg hc]
      refine .inr ⟨b, _, rfl, fun i v hv => ?_⟩
      rw [List.getElem?_drop] at hv
      have := hg _ v hv
      rw [← this]; congr 1; omega
def noM : PMap := fun _ => none
theorem over_noM (h : Heap) : over h noM = h := by unfold over noM; rfl
theorem beside_noM (h : Heap) : Beside h noM := fun b hb => absurd rfl hb
theorem zrep_row (n : Nat) : zrep (List.replicate 14 (Value.int .i64 0)) n = List.replicate (n * 14) (.int .i64 0) := by
  rw [zrep_eq]
  induction n with
  | zero => rfl
  | succ n ih => rw [List.replicate_succ, List.flatten_cons, ih, List.replicate_append_replicate]; congr 1; omega
/-- A table in blocks of its own: b the table's, bs the rows'. -/
def topOf (bs : Nat → Nat) (xss : List (List Int)) (k : Nat) : List Value := (List.range k).map fun j => .slice (some ⟨bs j, 0, none⟩) (xss.getD j []).length (xss.getD j []).length
theorem topOf_succ (bs : Nat → Nat) (xss : List (List Int)) (k : Nat) : topOf bs xss (k + 1) = topOf bs xss k ++ [.slice (some ⟨bs k, 0, none⟩) (xss.getD k []).length (xss.getD k []).length] := by simp [topOf, List.range_succ]
theorem topOf_len (bs : Nat → Nat) (xss : List (List Int)) (k : Nat) : (topOf bs xss k).length = k := by simp [topOf]
theorem topOf_congr {bs bs' : Nat → Nat} (xss : List (List Int)) {k : Nat} (h : ∀ j, j < k → bs j = bs' j) : topOf bs xss k = topOf bs' xss k := by
  unfold topOf
  refine List.map_congr_left fun j hj => ?_
  rw [h j (by simpa using hj)]
structure TabO (h0 h : Heap) (b : Nat) (bs : Nat → Nat) (xss : List (List Int)) : Prop where
  top : h.own b = some (.cells (topOf bs xss xss.length))
  row : ∀ j, j < xss.length → h.own (bs j) = some (.cells (LM (xss.getD j [])))
  fb : h0.fresh b
  fr : ∀ j, j < xss.length → h0.fresh (bs j)
  ne : ∀ j, j < xss.length → bs j ≠ b
  inj : ∀ i j, i < xss.length → j < xss.length → bs i = bs j → i = j
theorem seg_own {h : Heap} {b : Nat} {cs sp : List Value} (ho : h.own b = some (.cells (cs ++ sp))) : Seg h (some ⟨b, 0, none⟩) cs := by
  refine .inr ⟨b, 0, rfl, fun i v hv => ?_⟩
  unfold Heap.get
  rw [ho, Nat.zero_add]
  simp only
  rw [List.getElem?_append_left (List.getElem?_eq_some_iff.1 hv).1]; exact hv
theorem seg_own' {h : Heap} {b : Nat} {cs : List Value} (ho : h.own b = some (.cells cs)) : Seg h (some ⟨b, 0, none⟩) cs := seg_own (sp := []) (by rw [List.append_nil]; exact ho)
theorem TabO.tab {h0 h : Heap} {b : Nat} {bs : Nat → Nat} {xss : List (List Int)} (t : TabO h0 h b bs xss) : Tab h (some ⟨b, 0, none⟩) xss := by
  refine ⟨topOf bs xss xss.length, seg_own' t.top, topOf_len _ _ _, fun i v xs hv hx => ?_⟩
  have hi : i < xss.length := (List.getElem?_eq_some_iff.1 hx).1
  have e1 : xss.getD i [] = xs := by rw [List.getD_eq_getElem?_getD, hx]; rfl
  rw [topOf, List.getElem?_map, List.getElem?_range hi] at hv
  cases hv
  show IsInts h (.slice (some ⟨bs i, 0, none⟩) (xss.getD i []).length (xss.getD i []).length) xs
  rw [e1]
  refine ⟨_, _, rfl, ?_, Nat.le_refl _⟩
  have := t.row i hi
  rw [e1] at this
  exact seg_own' this
theorem TabO.mono {h0 h h' : Heap} {b : Nat} {bs : Nat → Nat} {xss : List (List Int)} (t : TabO h0 h b bs xss) (e : Ext h h') : TabO h0 h' b bs xss :=
  ⟨e.own _ _ t.top, fun j hj => e.own _ _ (t.row j hj), t.fb, t.fr, t.ne, t.inj⟩
def marks (k : Int) (l : Nat) : List Int := (List.range l).map fun (j : Nat) => k + (j : Int)
theorem marks_len (k : Int) (l : Nat) : (marks k l).length = l := by simp [marks]
theorem marks_succ (k : Int) (l : Nat) : marks k (l + 1) = marks k l ++ [k + l] := by simp [marks, List.range_succ]
theorem marks_get (k : Int) {l i : Nat} (h : i < l) : (marks k l).getD i 0 = k + i := by simp [marks, List.getD_eq_getElem?_getD, h]
/-- One more place is marked. -/
theorem mark_step {xs : List Int} {k : Int} {i : Nat} (hi : i < xs.length) : (LM (marks k i ++ xs.drop i)).set i (.int .i64 (k + i)) = LM (marks k (i + 1) ++ xs.drop (i + 1)) := by
  rw [LM, LM, ← List.map_set, List.set_append, if_neg (by rw [marks_len]; omega), marks_len, Nat.sub_self, List.drop_eq_getElem_cons hi, List.set_cons_zero, marks_succ, List.append_assoc]
  rfl
/-- A table whose rows change. -/
structure TabM (hI : Heap) (m : PMap) (b : Nat) (bs : Nat → Nat) (xss : List (List Int)) : Prop where
  top : m b = some (topOf bs xss xss.length)
  row : ∀ j, j < xss.length → m (bs j) = some (LM (xss.getD j []))
  ne : ∀ j, j < xss.length → bs j ≠ b
  inj : ∀ i j, i < xss.length → j < xss.length → bs i = bs j → i = j
def sumLen (xss : List (List Int)) : Nat → Nat
  | 0 => 0
  | k + 1 => sumLen xss k + (xss.getD k []).length
theorem sumLen_le {xss : List (List Int)} {B : Nat} (h : ∀ xs ∈ xss, xs.length ≤ B) : ∀ k, k ≤ xss.length → sumLen xss k ≤ k * B
  | 0, _ => by simp [sumLen]
  | k + 1, hk => by
    have := sumLen_le h k (by omega)
    have h2 : (xss.getD k []).length ≤ B := h _ (getD_mem (by omega))
    rw [sumLen, Nat.add_mul]; omega
/-- A list of numbers that a call hands back: none, or a block of its own. -/
def ResO (h0 h : Heap) (A : Option Addr) (xs : List Int) : Prop := (A = none ∧ xs = []) ∨ ∃ b sp, A = some ⟨b, 0, none⟩ ∧ h0.fresh b ∧ h.own b = some (.cells (LM xs ++ sp))
theorem ResO.ints {h0 h : Heap} {A : Option Addr} {xs : List Int} (r : ResO h0 h A xs) : Ints h A xs := by
  rcases r with ⟨rfl, rfl⟩ | ⟨b, sp, rfl, _, ho⟩
  · exact Seg.nil_none _
  · exact seg_own ho
theorem ResO.mono {h0 h h' : Heap} {A : Option Addr} {xs : List Int} (r : ResO h0 h A xs) (e : Ext h h') : ResO h0 h' A xs :=
  r.imp id fun ⟨b, sp, e1, e2, e3⟩ => ⟨b, sp, e1, e2, e.own _ _ e3⟩
theorem ResO.base {h0 h1 h : Heap} {A : Option Addr} {xs : List Int} (r : ResO h1 h A xs) (e : Ext h0 h1) : ResO h0 h A xs :=
  r.imp id fun ⟨b, sp, e1, e2, e3⟩ => ⟨b, sp, e1, e.fresh e2, e3⟩
theorem Vec.reso {h0 hI h : Heap} {A : Option Addr} {l c : Nat} {xs : List Int} (v : Vec hI h A l c 1 (LM xs)) (e : Ext h0 hI) : ResO h0 h A xs := by
  obtain ⟨hl, ⟨rfl, rfl, _, rfl⟩ | ⟨b, sp, rfl, hf, rfl, _⟩⟩ := v
  · exact .inl ⟨rfl, by simpa using hl⟩
  · exact .inr ⟨b, sp, rfl, e.fresh hf, Heap.upd_own_self _ _ _⟩
open Classical in
/-- Some new blocks change from now on. -/
theorem carveS (S : Nat → Prop) {h0 h : Heap} (e : Ext h0 h) (hf : ∀ b, S b → h0.fresh b) (ho : ∀ b, S b → ∃ cs, h.own b = some (.cells cs)) :
    ∃ hI m, Ext h0 hI ∧ Beside hI m ∧ h = over hI m ∧ ∀ b cs, S b → h.own b = some (.cells cs) → m b = some cs := by
  refine ⟨{ h with own := fun x => if S x then none else h.own x }, fun x => if S x then (match h.own x with | some (.cells cs) => some cs | _ => none) else none, ⟨fun x k hx => ?_, e.ro, fun x hx hn o => ?_⟩, fun x hx => ?_, ?_, fun b cs hb hcs => ?_⟩
  · have : ¬ S x := fun hs => by have := (hf x hs).1; rw [hx] at this; cases this
    simp only [if_neg this]; exact e.own x k hx
  · by_cases hs : S x
    · simp only [if_pos hs] at hn; exact absurd rfl hn
    · simp only [if_neg hs] at hn; exact e.new x hx hn o
  · have hs : S x := by
      by_cases hs : S x
      · exact hs
      · simp only [if_neg hs] at hx; exact absurd rfl hx
    exact ⟨by simp [hs], fun o => by show h.ro x o = none; rw [e.ro]; exact (hf x hs).2 o⟩
  · cases h with
    | mk own ro =>
      unfold over
      congr 1
      funext x
      by_cases hs : S x
      · obtain ⟨cs, hcs⟩ := ho x hs
        simp only at hcs
        simp only [if_pos hs, hcs]
      · simp only [if_neg hs]
  · simp only [if_pos hb, hcs]
theorem flat_len14 {rs : List (List Int)} (h : ∀ r ∈ rs, r.length = 14) : rs.flatten.length = rs.length * 14 := by
  induction rs with
  | nil => rfl
  | cons q qs ih => rw [List.flatten_cons, List.length_append, ih (fun x hx => h x (by simp [hx])), h q (by simp), List.length_cons]; omega
theorem own_ints {h : Heap} {b : Nat} {xs : List Int} (ho : h.own b = some (.cells (LM xs))) : Ints h (some ⟨b, 0, none⟩) xs := by
  refine .inr ⟨b, 0, rfl, fun i v hv => ?_⟩
  unfold Heap.get
  rw [ho, Nat.zero_add]; exact hv

end Go.HL
