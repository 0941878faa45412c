/- Whatever the code, the law of results answers true: points of all teams are twice the meetings played, rankings have all teams, and the teams with the most points can be first when all rounds are played; no condition. -/
import Derived.Test.YthkbodgpcjcndaaKdx25
/- What slices and rows of a heap hold, told by lists; frames of calls. -/
set_option linter.unusedVariables false
set_option linter.unusedSimpArgs false
namespace Go.HL

/-! ### A heap grows -/
structure Ext (h h' : Heap) : Prop where
  own : ∀ b k, h.own b = some k → h'.own b = some k
  ro : h'.ro = h.ro
  new : ∀ b, h.own b = none → h'.own b ≠ none → ∀ o, h.ro b o = none

section
variable {h h' h1 h2 h3 hI : Heap} {A : Option Addr} {b o l c sz : Nat} {k : Blk} {v : Value} {cs vs : List Value}

theorem Ext.refl (h : Heap) : Ext h h := ⟨fun _ _ e => e, rfl, fun _ e n => absurd e n⟩
theorem Ext.trans (a : Ext h1 h2) (e : Ext h2 h3) : Ext h1 h3 := by
  refine ⟨fun b k hb => e.own b k (a.own b k hb), e.ro.trans a.ro, fun b hn hs o => ?_⟩
  cases h2b : h2.own b with
  | none => have := e.new b h2b hs o; rwa [a.ro] at this
  | some k => exact a.new b hn (by simp [h2b]) o
theorem Ext.get (e : Ext h h') (g : h.get b o = some v) : h'.get b o = some v := by
  unfold Heap.get at g ⊢
  cases hb : h.own b with
  | some k => rw [e.own b k hb]; rw [hb] at g; cases k <;> exact g
  | none =>
    rw [hb] at g
    cases hb' : h'.own b with
    | none => simp only at g ⊢; rw [e.ro]; exact g
    | some k => have := e.new b hb (by simp [hb']) o; simp only at g; rw [this] at g; cases g
theorem Ext.fresh (e : Ext h h') (f : h'.fresh b) : h.fresh b := by
  refine ⟨?_, fun o => by rw [← e.ro]; exact f.2 o⟩
  cases hb : h.own b with
  | none => rfl
  | some k => have := e.own b k hb; rw [f.1] at this; cases this
theorem Ext.upd (hf : h.fresh b) (k : Blk) : Ext h (h.upd b k) := by
  refine ⟨fun x k' hx => ?_, rfl, fun x hx hn o => ?_⟩
  · have : x ≠ b := fun e => by subst e; rw [hf.1] at hx; cases hx
    rw [Heap.upd_own_ne _ _ this]; exact hx
  · by_cases e : x = b
    · subst e; exact hf.2 o
    · rw [Heap.upd_own_ne _ _ e] at hn; exact absurd hx hn
theorem Ext.upd2 (e : Ext h h') (hf : h'.fresh b) (k : Blk) : Ext (h.upd b k) (h'.upd b k) := by
  refine ⟨fun x k' hx => ?_, e.ro, fun x hx hn o => ?_⟩
  · by_cases hxb : x = b
    · subst hxb; rw [Heap.upd_own_self] at hx ⊢; exact hx
    · rw [Heap.upd_own_ne _ _ hxb] at hx ⊢; exact e.own x k' hx
  · by_cases hxb : x = b
    · subst hxb; rw [Heap.upd_own_self] at hx; cases hx
    · rw [Heap.upd_own_ne _ _ hxb] at hx hn; exact e.new x hx hn o
theorem fresh_upd (hf : h.fresh b) {x : Nat} (hx : x ≠ b) (k : Blk) : (h.upd x k).fresh b := ⟨by rw [Heap.upd_own_ne _ _ (Ne.symm hx)]; exact hf.1, hf.2⟩
theorem fresh_ne (hf : (h.upd b k).fresh o) : o ≠ b := fun e => by subst e; have := hf.1; rw [Heap.upd_own_self] at this; cases this
theorem fresh_of_upd (hf : (h.upd b k).fresh o) : h.fresh o := by
  have := fresh_ne hf
  refine ⟨?_, hf.2⟩
  have h1 := hf.1
  rwa [Heap.upd_own_ne _ _ this] at h1
theorem upd_upd (h : Heap) (b : Nat) (k k' : Blk) : (h.upd b k).upd b k' = h.upd b k' := by
  unfold Heap.upd; congr 1; funext x; by_cases hx : x = b <;> simp [hx]
theorem upd_comm (h : Heap) {b x : Nat} (hx : b ≠ x) (k k' : Blk) : (h.upd b k).upd x k' = (h.upd x k').upd b k := by
  unfold Heap.upd; congr 1; funext y
  by_cases h1 : y = b
  · subst h1; simp [hx]
  · simp [h1]
theorem get_upd_self {i : Nat} : (h.upd b (.cells cs)).get b i = cs[i]? := by unfold Heap.get; rw [Heap.upd_own_self]
theorem Ext.getN (e : Ext h h') : ∀ {n o : Nat} {vs : List Value}, h.getN b o n = some vs → h'.getN b o n = some vs
  | 0, o, vs, g => g
  | n + 1, o, vs, g => by
    simp only [Heap.getN] at g ⊢
    split at g
    · rename_i v ws h1 h2
      rw [e.get h1, e.getN h2]
      exact g
    · cases g

/-! ### A call beside a block that it does not know -/
theorem Rel.drop {w : World} (hf : h.fresh b) (r : Rel (h.upd b k) w) : Rel h w := by
  refine ⟨fun x ds hx => r.cells x ds ?_, fun x ob hx => r.obj x ob ?_, r.ro, fun x hx o => r.dis x ?_ o⟩
  · have : x ≠ b := fun e => by subst e; rw [hf.1] at hx; cases hx
    rw [Heap.upd_own_ne _ _ this]; exact hx
  · have : x ≠ b := fun e => by subst e; rw [hf.1] at hx; cases hx
    rw [Heap.upd_own_ne _ _ this]; exact hx
  · have : x ≠ b := fun e => by subst e; exact absurd hf.1 hx
    rw [Heap.upd_own_ne _ _ this]; exact hx

theorem ACalls.frame {P : Program} {f : FuncId} {args : List Value} {K : Value → Heap → Prop} (hf : hI.fresh b) (k : Blk) (cc : ACalls P f args hI K) :
    ACalls P f args (hI.upd b k) fun v h' => ∃ hJ, h' = hJ.upd b k ∧ hJ.fresh b ∧ K v hJ := by
  refine ⟨cc.1, fun w r => (cc.2 w (r.drop hf)).mono ?_⟩
  rintro e w' ⟨v, h', rfl, r', f', hk⟩
  have hlt : b < w.heap.size := r.lt (by rw [Heap.upd_own_self]; simp)
  obtain ⟨k1, k2⟩ := f'.keep b hlt hf.1
  have hfr : h'.fresh b := ⟨k2, fun o => by rw [f'.ro]; exact hf.2 o⟩
  refine ⟨v, h'.upd b k, rfl, ?_, ?_, h', rfl, hfr, hk⟩
  · refine ⟨fun x ds hx => ?_, fun x ob hx => ?_, r'.ro, fun x hx o => ?_⟩
    · by_cases hxb : x = b
      · subst hxb
        rw [Heap.upd_own_self] at hx; cases hx
        obtain ⟨e, he⟩ := r.cells x ds (Heap.upd_own_self _ _ _)
        exact ⟨e, k1.trans he⟩
      · rw [Heap.upd_own_ne _ _ hxb] at hx; exact r'.cells x ds hx
    · by_cases hxb : x = b
      · subst hxb
        rw [Heap.upd_own_self] at hx; cases hx
        obtain ⟨e1, e2⟩ := r.obj x ob (Heap.upd_own_self _ _ _)
        exact ⟨k1.trans e1, e2⟩
      · rw [Heap.upd_own_ne _ _ hxb] at hx; exact r'.obj x ob hx
    · by_cases hxb : x = b
      · subst hxb; exact hfr.2 o
      · rw [Heap.upd_own_ne _ _ hxb] at hx; exact r'.dis x hx o
  · refine ⟨f'.os, f'.tape, f'.output, f'.size, fun x hx hn => ?_, f'.ro⟩
    have hxb : x ≠ b := fun e => by subst e; rw [Heap.upd_own_self] at hn; cases hn
    rw [Heap.upd_own_ne _ _ hxb] at hn
    obtain ⟨q1, q2⟩ := f'.keep x hx hn
    exact ⟨q1, by rw [Heap.upd_own_ne _ _ hxb]; exact q2⟩

/-! ### Cells in a row -/
def Seg (h : Heap) (A : Option Addr) (cs : List Value) : Prop :=
  (A = none ∧ cs = []) ∨ ∃ b o, A = some ⟨b, o, none⟩ ∧ ∀ (i : Nat) (v : Value), cs[i]? = some v → h.get b (o + i) = some v
theorem Seg.mono (e : Ext h h') (s : Seg h A cs) : Seg h' A cs := by
  rcases s with s | ⟨b, o, e1, e2⟩
  · exact .inl s
  · exact .inr ⟨b, o, e1, fun i v hv => e.get (e2 i v hv)⟩
theorem Seg.nil_none (h : Heap) : Seg h none [] := .inl ⟨rfl, rfl⟩
theorem Seg.open (s : Seg h A cs) (hn : 0 < cs.length) : ∃ b o, A = some ⟨b, o, none⟩ ∧ ∀ (i : Nat) (v : Value), cs[i]? = some v → h.get b (o + i) = some v := by
  rcases s with ⟨_, rfl⟩ | s
  · simp at hn
  · exact s
theorem getN_of : ∀ {n o : Nat} {vs : List Value}, vs.length = n → (∀ (i : Nat) (v : Value), vs[i]? = some v → h.get b (o + i) = some v) → h.getN b o n = some vs
  | 0, o, vs, hl, hg => by have : vs = [] := List.eq_nil_of_length_eq_zero hl; subst this; rfl
  | n + 1, o, vs, hl, hg => by
    cases vs with
    | nil => simp at hl
    | cons v vs =>
      have h1 : h.get b o = some v := hg 0 v rfl
      have h2 : h.getN b (o + 1) n = some vs := getN_of (by simpa using hl) fun i u hu => by
        have := hg (i + 1) u (by simpa using hu)
        rw [← this]; congr 1; omega
      simp only [Heap.getN, h1, h2]
theorem Seg.row (s : Seg h A cs) {n : Nat} (hn : cs.length = n) : Row h A n cs := by
  rcases s with ⟨rfl, rfl⟩ | ⟨b, o, rfl, hg⟩
  · exact ⟨hn.symm, rfl⟩
  · exact getN_of hn hg
/-- n cells of a row, from i on. -/
theorem Seg.getN (hg : ∀ (i : Nat) (v : Value), cs[i]? = some v → h.get b (o + i) = some v) {i n : Nat} (hi : i + n ≤ cs.length) : h.getN b (o + i) n = some ((cs.drop i).take n) := by
  refine getN_of (by simp; omega) fun j v hv => ?_
  rw [List.getElem?_take] at hv
  split at hv
  · rw [List.getElem?_drop] at hv
    have := hg _ v hv
    rw [← this]; congr 1; omega
  · cases hv
theorem Seg.sub {o' : Nat} (hg : ∀ (i : Nat) (v : Value), cs[i]? = some v → h.get b (o + i) = some v) (j n : Nat) (ho : o' = o + j) : Seg h (some ⟨b, o', none⟩) ((cs.drop j).take n) := by
  refine .inr ⟨b, o', rfl, fun i v hv => ?_⟩
  rw [List.getElem?_take] at hv
  split at hv
  · rw [List.getElem?_drop] at hv
    have := hg _ v hv
    rw [ho, ← this]; congr 1; omega
  · cases hv
theorem Seg.new (h : Heap) (b : Nat) (cs sp : List Value) : Seg (h.upd b (.cells (cs ++ sp))) (some ⟨b, 0, none⟩) cs := by
  refine .inr ⟨b, 0, rfl, fun i v hv => ?_⟩
  rw [get_upd_self, Nat.zero_add, List.getElem?_append_left (List.getElem?_eq_some_iff.1 hv).1]
  exact hv
theorem Seg.new' (h : Heap) (b : Nat) (cs : List Value) : Seg (h.upd b (.cells cs)) (some ⟨b, 0, none⟩) cs := by
  have := Seg.new h b cs []; rwa [List.append_nil] at this

/-! ### A list that grows -/
def Vec (hI h : Heap) (A : Option Addr) (l c sz : Nat) (cs : List Value) : Prop :=
  cs.length = l * sz ∧ ((A = none ∧ l = 0 ∧ c = 0 ∧ h = hI) ∨ ∃ b sp, A = some ⟨b, 0, none⟩ ∧ hI.fresh b ∧ h = hI.upd b (.cells (cs ++ sp)) ∧ sp.length = (c - l) * sz ∧ l ≤ c)
theorem Vec.ext (v : Vec hI h A l c sz cs) : Ext hI h := by
  obtain ⟨_, ⟨_, _, _, rfl⟩ | ⟨b, sp, _, hf, rfl, _⟩⟩ := v
  · exact Ext.refl _
  · exact Ext.upd hf _
theorem Vec.seg (v : Vec hI h A l c sz cs) : Seg h A cs := by
  obtain ⟨hl, ⟨rfl, rfl, _, rfl⟩ | ⟨b, sp, rfl, hf, rfl, _⟩⟩ := v
  · have : cs = [] := List.eq_nil_of_length_eq_zero (by simpa using hl)
    subst this; exact Seg.nil_none _
  · exact Seg.new _ _ _ _
theorem Vec.len (v : Vec hI h A l c sz cs) : cs.length = l * sz := v.1
theorem Vec.le (v : Vec hI h A l c sz cs) : l ≤ c := by
  obtain ⟨hl, ⟨rfl, rfl, rfl, rfl⟩ | ⟨b, sp, rfl, hf, rfl, _, h2⟩⟩ := v
  · exact Nat.le_refl _
  · exact h2
theorem Vec.nilV (h : Heap) (sz : Nat) : Vec h h none 0 0 sz [] := ⟨by simp, .inl ⟨rfl, rfl, rfl, rfl⟩⟩
theorem Vec.made (hf : h.fresh b) (hl : cs.length = l * sz) : Vec h (h.upd b (.cells cs)) (some ⟨b, 0, none⟩) l l sz cs :=
  ⟨hl, .inr ⟨b, [], rfl, hf, by simp, by simp, Nat.le_refl _⟩⟩
/-- Something else is made beside it. -/
theorem Vec.beside (v : Vec hI h A l c sz cs) (hf : h.fresh b) (k : Blk) : Vec (hI.upd b k) (h.upd b k) A l c sz cs ∧ hI.fresh b := by
  obtain ⟨hl, ⟨rfl, rfl, rfl, rfl⟩ | ⟨x, sp, rfl, hx, rfl, h1, h2⟩⟩ := v
  · exact ⟨⟨hl, .inl ⟨rfl, rfl, rfl, rfl⟩⟩, hf⟩
  · have hne := fresh_ne hf
    exact ⟨⟨hl, .inr ⟨x, sp, rfl, fresh_upd hx hne _, upd_comm _ (Ne.symm hne) _ _, h1, h2⟩⟩, fresh_of_upd hf⟩
/-- A call beside it. -/
theorem Vec.call {P : Program} {f : FuncId} {args : List Value} {K : Value → Heap → Prop} (v : Vec hI h A l c sz cs) (cc : ACalls P f args hI K) :
    ACalls P f args h fun u h' => ∃ hJ, Vec hJ h' A l c sz cs ∧ K u hJ := by
  obtain ⟨hl, ⟨rfl, rfl, rfl, rfl⟩ | ⟨x, sp, rfl, hx, rfl, h1, h2⟩⟩ := v
  · exact cc.mono fun u h' hk => ⟨h', ⟨hl, .inl ⟨rfl, rfl, rfl, rfl⟩⟩, hk⟩
  · refine (cc.frame hx _).mono ?_
    rintro u h' ⟨hJ, rfl, hfr, hk⟩
    exact ⟨hJ, ⟨hl, .inr ⟨x, sp, rfl, hfr, rfl, h1, h2⟩⟩, hk⟩
/-- Whoever knows less of the base. -/
theorem splice_len (cs vs : List Value) {i : Nat} (hi : i + vs.length ≤ cs.length) : (splice cs i vs).length = cs.length := by
  simp only [splice, List.length_append, List.length_take, List.length_drop]; omega
theorem splice_one (cs : List Value) (i : Nat) (v : Value) (hi : i < cs.length) : splice cs i [v] = cs.set i v := by
  unfold splice
  rw [List.set_eq_take_append_cons_drop, if_pos hi]
  simp
theorem splice_app (cs sp vs : List Value) {i : Nat} (hi : i + vs.length ≤ cs.length) : splice (cs ++ sp) i vs = splice cs i vs ++ sp := by
  unfold splice
  rw [List.take_append_of_le_length (by omega), List.drop_append_of_le_length (by omega)]
  simp
theorem Vec.store (v : Vec hI h A l c sz cs) {i : Nat} (hi : i + vs.length ≤ cs.length) (hpos : 0 < cs.length) (h1 : ∀ v ∈ vs, v.oneCell' = true) :
    ∃ b, A = some ⟨b, 0, none⟩ ∧ ∀ {K : Heap → Prop}, (∀ h', Vec hI h' A l c sz (splice cs i vs) → K h') → SStore h b i vs K := by
  obtain ⟨hl, ⟨rfl, rfl, rfl, rfl⟩ | ⟨x, sp, rfl, hx, rfl, h2, h3⟩⟩ := v
  · simp at hl; subst hl; simp at hpos
  · refine ⟨x, rfl, fun {K} k => ⟨_, Heap.upd_own_self _ _ _, by simp; omega, h1, ?_⟩⟩
    rw [upd_upd, splice_app _ _ _ hi]
    exact k _ ⟨by rw [splice_len _ _ hi]; exact hl, .inr ⟨x, sp, rfl, hx, rfl, h2, h3⟩⟩
theorem zrep_len (z : List Value) (n : Nat) : (zrep z n).length = n * z.length := by rw [zrep_eq]; simp
theorem Vec.append2 {bytes m : Nat} {z news : List Value} {B : Option Addr} {K : Value → Heap → Prop} (v : Vec hI h A l c sz cs) (hB : Row h B (m * sz) news) (hnews : news.length = m * sz) (h1 : ∀ v ∈ news, v.oneCell' = true)
    (hb : (l + m) * bytes ≤ 140737488355328) (h63 : l + m ≤ 9223372036854775807) (hz : z.length = sz)
    (k : ∀ hJ h' A' c', (hJ = hI ∨ ∃ x kk, hI.fresh x ∧ hJ = hI.upd x kk) → Vec hJ h' A' (l + m) c' sz (cs ++ news) → K (.slice A' (l + m) c') h') : SAppend h sz bytes z A l c B m K := by
  have hseg := v.seg
  have hext : h = hI ∨ ∃ x kk, hI.fresh x ∧ h = hI.upd x kk := by
    obtain ⟨_, ⟨_, _, _, e⟩ | ⟨x, sp, _, hf, e, _⟩⟩ := v
    · exact .inl e
    · exact .inr ⟨x, _, hf, e⟩
  have hlen := v.len
  refine ⟨cs, news, hseg.row hlen, hB, h1, hb, h63, fun hroom => ?_, fun hg c' hc' b hf => ?_⟩
  · obtain ⟨hl, ⟨rfl, rfl, rfl, rfl⟩ | ⟨x, sp, rfl, hx, rfl, h2, h3⟩⟩ := v
    · have hm : m = 0 := by omega
      subst hm
      have hn : news = [] := List.eq_nil_of_length_eq_zero (by simpa using hnews)
      subst hn
      refine ⟨fun _ => ?_, fun h => absurd h (by omega)⟩
      have := k h h none 0 (.inl rfl) ⟨by simpa using hl, .inl ⟨rfl, rfl, rfl, rfl⟩⟩
      simpa using this
    · refine ⟨fun hm => ?_, fun hm => ⟨x, 0, rfl, _, Heap.upd_own_self _ _ _, ?_, h1, ?_⟩⟩
      · subst hm
        have hn : news = [] := List.eq_nil_of_length_eq_zero (by simpa using hnews)
        subst hn
        exact k hI _ _ c (.inl rfl) ⟨by simpa using hl, .inr ⟨x, sp, rfl, hx, by simp, by simpa using h2, h3⟩⟩
      · have : (c - l) * sz = (c - (l + m)) * sz + m * sz := by rw [← Nat.add_mul]; congr 1; omega
        simp; omega
      · have hs : (c - l) * sz = (c - (l + m)) * sz + m * sz := by rw [← Nat.add_mul]; congr 1; omega
        have e1 : splice (cs ++ sp) (0 + l * sz) news = (cs ++ news) ++ sp.drop news.length := by
          unfold splice
          rw [Nat.zero_add, ← hl, List.take_left, List.drop_append]
          simp
        rw [upd_upd, e1]
        exact k hI _ _ c (.inl rfl) ⟨by simp [hl, hnews, Nat.add_mul], .inr ⟨x, sp.drop news.length, rfl, hx, rfl, by simp [h2, hnews]; omega, hroom⟩⟩
  · exact k h _ _ c' hext ⟨by simp [hlen, hnews, Nat.add_mul], .inr ⟨b, zrep z (c' - (l + m)), rfl, hf, rfl, by rw [zrep_len, hz], hc'⟩⟩

theorem Vec.append {bytes m : Nat} {z news : List Value} {B : Option Addr} {K : Value → Heap → Prop} (v : Vec hI h A l c sz cs) (hB : Row h B (m * sz) news) (hnews : news.length = m * sz) (h1 : ∀ v ∈ news, v.oneCell' = true)
    (hb : (l + m) * bytes ≤ 140737488355328) (h63 : l + m ≤ 9223372036854775807) (hz : z.length = sz)
    (k : ∀ hJ h' A' c', Ext hI hJ → Vec hJ h' A' (l + m) c' sz (cs ++ news) → K (.slice A' (l + m) c') h') : SAppend h sz bytes z A l c B m K :=
  v.append2 hB hnews h1 hb h63 hz fun hJ h' A' c' e => k hJ h' A' c' (by
    rcases e with rfl | ⟨x, kk, hf, rfl⟩
    · exact Ext.refl _
    · exact Ext.upd hf _)

theorem w64 {n : Int} (h0 : -9223372036854775808 ≤ n) (h1 : n ≤ 9223372036854775807) : IntKind.wrap .i64 n = n := by
  rw [IntKind.wrap_i64]; omega

end
end Go.HL
