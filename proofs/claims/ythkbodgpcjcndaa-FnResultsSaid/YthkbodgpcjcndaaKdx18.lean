/- Whatever the code, the law of results answers true: points of all teams are twice the meetings played, rankings have all teams, and the teams with the most points can be first when all rounds are played; no condition. -/
import Derived.Test.YthkbodgpcjcndaaKdx17
/- Regions whose order is open, VIII: the one order comes to where it is wanted. -/
set_option linter.unusedVariables false
set_option linter.unusedSimpArgs false
namespace Go.HL
open Classical
section
variable {P : Program} {ops : Array Oper} {a0 : Array Value} {h0 : Heap} {w0 : World} {K : List Value → Heap → Prop}
variable {D : Nat → Prop} {done pres prebs : List Nat} {rest r : List FI} {V : Nat → Value} {c : Nat → Nat} {t : List Value} {h : Heap} {a : Act} {w : World}

theorem mem_execs {it : FI} {i : Nat} (hi : i ∈ it.exec) : ∀ {r : List FI}, it ∈ r → i ∈ execs r := fun hr => by
  simp only [execs, List.mem_flatMap]; exact ⟨it, hr, hi⟩

/-- A new variable with its first value, both made by the machine already. -/
theorem Sim.passBox (f : Fine ops) {j k : Nat} (hDj : D j) (hDk : D k) (s : Sim P ops a0 h0 w0 K D done pres prebs (.abox j k :: r) V c t h a w) :
    ∃ t' h', Sim P ops a0 h0 w0 K D (done ++ [j, k]) pres prebs r V c t' h' a w := by
  obtain ⟨oj, ok, hj, hk, h1⟩ := s.sem
  have hit := s.items
  simp only [itemsB, Bool.and_eq_true] at hit
  obtain ⟨⟨⟨⟨hbx, hrd⟩, hpj⟩, hpk⟩, hrest⟩ := hit
  obtain ⟨oj', ok', e, ty, d, x, hj', hk', opj, opk, dj, dk, gj, gk, hx, hord, hne, hoth⟩ := boxI_parts hbx
  rw [hj] at hj'; cases hj'
  rw [hk] at hk'; cases hk'
  have hdd : dstOf ops j = some d := by simp [dstOf, hj, dj]
  have hdk : dstOf ops k = none := by simp [dstOf, hk, dk]
  have hje : j ∈ execs (.abox j k :: r) := by simp [execs, FI.exec]
  have hke : k ∈ execs (.abox j k :: r) := by simp [execs, FI.exec]
  have hlin : linB (Region.before ops) ((done ++ [j, k]) ++ execs r) = true := by have := s.lin; simpa [execs, FI.exec] using this
  have hnj : j ∉ execs r := fun hh => (linB_app hlin j (by simp) j hh).2 rfl
  have hnk : k ∉ execs r := fun hh => (linB_app hlin k (by simp) k hh).2 rfl
  obtain ⟨i, i', z, hi, hi', hz, hsz, hdef, hvs, hone, hs⟩ := boxThen_facts opj opk h1
  have hbox : ∃ k', BoxOk P ops a0 V c D h w j k' ∧ k' = k := by
    rcases s.early j hje hDj with ⟨o', ho', hf, _⟩ | ⟨_, rr, hr⟩ | ⟨k', hk', hb⟩ | ⟨j', hj', hDj'⟩
    · rw [hj] at ho'; cases ho'; rw [opj] at hf; cases hf
    · rcases List.mem_cons.1 hr with e | hr
      · cases e
      · exact absurd (mem_execs (by simp [FI.exec]) hr) hnj
    · rcases List.mem_cons.1 hk' with e | hk'
      · cases e; exact ⟨k, hb, rfl⟩
      · exact absurd (mem_execs (by simp [FI.exec]) hk') hnj
    · rcases List.mem_cons.1 hj' with e | hj'
      · injection e with e1 e2; exact absurd e2 hne
      · exact absurd (mem_execs (by simp [FI.exec]) hj') hnj
  obtain ⟨k', ⟨oj', ok', e', ty', d', x', ii, zz, bp, hV, hfr, _, hcell⟩, rfl⟩ := hbox
  have b1 := bp.hj; rw [hj] at b1; cases b1
  have b2 := bp.hk; rw [hk] at b2; cases b2
  have b3 := bp.opj; rw [opj] at b3; cases b3
  have b4 := bp.opk; rw [opk] at b4; cases b4
  have hw := hcell hDk
  rw [hdd] at hrd
  have hxl : ∀ y, x = .tmp y → y ∈ looks ops k' := fun y hy => by
    subst hy
    simp only [looks, hk, Oper.looksAt, opk, List.mem_append]
    exact .inl (by simp [Op.operands])
  have hle : Le (ev t x) (opv ops a0 V k' x) := by
    cases x with
    | tmp y => exact s.seeT f.uniq hke (hxl y rfl) (ready_but hrd y (hxl y rfl) (fun e => hx (by simpa using e)))
    | _ => exact Le.refl _
  have heq := hle.eq hdef
  have hk1 := hs (c j) hfr
  have hw' : w.heap[c j]? = some (.cells (ev t x).cells.toList.toArray e (0, 0)) := by rw [heq]; simpa using hw
  refine ⟨_, _, s.shift (it := .abox j k') hrest (putF_length _ _ _) (fun y => ?_) (s.rel.add hfr _ e hw') (s.fra.updH (s.cge j hje hDj (by simp [allocI, hj, opj, isAllocOp]) (wantV_none _ _ _ hj gj))) (fun op ρ u he => evalL_fresh hfr _ op ρ u he) (fun q hq hDq haq hwq hfq => ?_) (fun m hm => ?_) (fun m hm _ => ?_) hk1⟩
  · have h2 := s.putT f hj (v := .pointer (some ⟨c j, 0, none⟩)) (by rw [hV]; exact Le.refl _) y
    have h3 : cur ops a0 V (· ∈ done ++ (FI.abox j k').exec) y = cur ops a0 V (· ∈ done ++ [j]) y := by
      have : done ++ (FI.abox j k').exec = (done ++ [j]) ++ [k'] := by simp [FI.exec]
      rw [this]
      exact cur_add (fun m hm => by simp at hm; subst hm; rw [hdk]; simp)
    rw [h3]
    exact h2
  · have hqi : c q ≠ c j := fun e => by
      have := s.cinj q j (by rw [execs_cons]; simp [hq]) hje hDq hDj haq (by simp [allocI, hj, opj, isAllocOp]) hwq (wantV_none _ _ _ hj gj) e
      subst this
      exact hnj hq
    refine ⟨?_, hfq.2⟩
    rw [Heap.upd_own_ne _ _ hqi]
    exact hfq.1
  · simp only [FI.exec, List.mem_cons, List.not_mem_nil, or_false] at hm
    rcases hm with rfl | rfl
    · exact .inl hDj
    · exact .inl hDk
  · simp only [FI.exec, List.mem_cons, List.not_mem_nil, or_false] at hm
    rcases hm with rfl | rfl
    · exact hDj
    · exact hDk

def FI.presOf : FI → List Nat → List Nat
  | .pre i, l => i :: l
  | _, l => l
def FI.prebsOf : FI → List Nat → List Nat
  | .preb _ k, l => k :: l
  | _, l => l

/-- The one order passes its next item, if the machine has done what is loud in it. -/
theorem Sim.next (f : Fine ops) {it : FI} (s : Sim P ops a0 h0 w0 K D done pres prebs (it :: r) V c t h a w) (hd : ∀ m, m ∈ it.exec → lightI ops m = false → D m) :
    ∃ V' t' h', Sim P ops a0 h0 w0 K D (done ++ it.exec) (it.presOf pres) (it.prebsOf prebs) r V' c t' h' a w := by
  cases it with
  | split x => obtain ⟨t', s'⟩ := s.passSplit; exact ⟨V, t', h, by simpa [FI.exec, FI.presOf, FI.prebsOf] using s'⟩
  | forget mk => obtain ⟨t', s'⟩ := s.passForget; exact ⟨V, t', h, by simpa [FI.exec, FI.presOf, FI.prebsOf] using s'⟩
  | pre i => obtain ⟨t', s'⟩ := s.passPre f; exact ⟨V, t', h, by simpa [FI.exec, FI.presOf, FI.prebsOf] using s'⟩
  | preb j k => obtain ⟨t', s'⟩ := s.passPreb f; exact ⟨V, t', h, by simpa [FI.exec, FI.presOf, FI.prebsOf] using s'⟩
  | abox j k =>
    have hb := s.items
    simp only [itemsB, Bool.and_eq_true] at hb
    obtain ⟨oj', ok', e, ty, d, x, hj', hk', opj, opk, _⟩ := boxI_parts hb.1.1.1.1
    have l1 : lightI ops j = false := by simp [lightI, hj', opj, isLight]
    have l2 : lightI ops k = false := by simp [lightI, hk', opk, isLight]
    obtain ⟨t', h', s'⟩ := s.passBox f (hd j (by simp [FI.exec]) l1) (hd k (by simp [FI.exec]) l2)
    exact ⟨V, t', h', s'⟩
  | op i rr =>
    cases hl : lightI ops i with
    | true => obtain ⟨V', t', s'⟩ := s.passLight f hl; exact ⟨V', t', h, s'⟩
    | false =>
      have hD := hd i (by simp [FI.exec]) hl
      cases ha : allocI ops i with
      | true => obtain ⟨t', h', s'⟩ := s.passAlloc f ha hD; exact ⟨V, t', h', s'⟩
      | false =>
        exfalso
        have hie : i ∈ execs (.op i rr :: r) := by simp [execs, FI.exec]
        have hlin : linB (Region.before ops) ((done ++ [i]) ++ execs r) = true := by have := s.lin; simpa [execs, FI.exec] using this
        have hnr : i ∉ execs r := fun hh => (linB_app hlin i (by simp) i hh).2 rfl
        rcases s.early i hie hD with ⟨o', ho', hf, _⟩ | ⟨⟨o', ho', hal, _⟩, _⟩ | ⟨k, hk, _⟩ | ⟨j, hj, _⟩
        · simp only [lightI, ho'] at hl; rw [free_light hf] at hl; cases hl
        · simp only [allocI, ho'] at ha; rw [hal] at ha; cases ha
        · rcases List.mem_cons.1 hk with e | hk
          · cases e
          · exact hnr (mem_execs (by simp [FI.exec]) hk)
        · rcases List.mem_cons.1 hj with e | hj
          · cases e
          · exact hnr (mem_execs (by simp [FI.exec]) hj)

/-- The one order goes on till G. -/
theorem Sim.till (f : Fine ops) (G : List Nat → List Nat → List Nat → List FI → Prop) (W : List Nat → List Nat → List Nat → List FI → Prop)
    (hW : ∀ done pres prebs it r, itemsB ops (Region.before ops) done pres prebs (it :: r) = true → W done pres prebs (it :: r) → G done pres prebs (it :: r) ∨
      ((∀ m, m ∈ it.exec → lightI ops m = false → D m) ∧ W (done ++ it.exec) (it.presOf pres) (it.prebsOf prebs) r))
    (hnil : ∀ done pres prebs, W done pres prebs [] → G done pres prebs []) :
    ∀ (rest : List FI) {done pres prebs : List Nat} {V : Nat → Value} {t : List Value} {h : Heap}, Sim P ops a0 h0 w0 K D done pres prebs rest V c t h a w → W done pres prebs rest →
      ∃ done' pres' prebs' rest' V' t' h', Sim P ops a0 h0 w0 K D done' pres' prebs' rest' V' c t' h' a w ∧ G done' pres' prebs' rest'
  | [], done, pres, prebs, V, t, h, s, hw => ⟨done, pres, prebs, [], V, t, h, s, hnil _ _ _ hw⟩
  | it :: r, done, pres, prebs, V, t, h, s, hw => by
    rcases hW _ _ _ _ _ s.items hw with hg | ⟨hd, hw'⟩
    · exact ⟨done, pres, prebs, it :: r, V, t, h, s, hg⟩
    · obtain ⟨V', t', h', s'⟩ := s.next f hd
      exact Sim.till f G W hW hnil r s' hw'

/-! ### Where a gate stands -/
theorem gate_mono {B : Array Nat} {i : Nat} {done done' : List Nat} (h : gateB ops B i (done ++ done') = true) : gateB ops B i done = true := by
  simp only [gateB, List.all_append, Bool.and_eq_true] at h; exact h.1
theorem gate_op {B : Array Nat} {i : Nat} {rr : List Nat} (hf : freeI ops i = false) (ha : allocI ops i = false) : ∀ (F : List FI) {done pres prebs : List Nat}, itemsB ops B done pres prebs F = true → FI.op i rr ∈ F → gateB ops B i done = true
  | [], _, _, _, _, hm => by cases hm
  | it :: r, done, pres, prebs, hb, hm => by
    rcases List.mem_cons.1 hm with rfl | hm'
    · simp only [itemsB, Bool.and_eq_true, hf, ha, Bool.false_or, cond_false] at hb
      exact hb.1.1.2
    · cases it <;> simp only [itemsB, Bool.and_eq_true] at hb
      · exact gate_mono (gate_op hf ha r hb.2 hm')
      · exact gate_op hf ha r hb.2 hm'
      · exact gate_op hf ha r hb.2 hm'
      · exact gate_mono (gate_op hf ha r hb.2 hm')
      · exact gate_op hf ha r hb hm'
      · exact gate_op hf ha r hb hm'
theorem gate_pre {B : Array Nat} {i : Nat} : ∀ (F : List FI) {done pres prebs : List Nat}, itemsB ops B done pres prebs F = true → FI.pre i ∈ F → gateB ops B i done = true
  | [], _, _, _, _, hm => by cases hm
  | it :: r, done, pres, prebs, hb, hm => by
    rcases List.mem_cons.1 hm with rfl | hm'
    · simp only [itemsB, Bool.and_eq_true] at hb
      exact hb.1.1.2
    · cases it <;> simp only [itemsB, Bool.and_eq_true] at hb
      · exact gate_mono (gate_pre r hb.2 hm')
      · exact gate_pre r hb.2 hm'
      · exact gate_pre r hb.2 hm'
      · exact gate_mono (gate_pre r hb.2 hm')
      · exact gate_pre r hb hm'
      · exact gate_pre r hb hm'
theorem gate_preb {B : Array Nat} {j k : Nat} : ∀ (F : List FI) {done pres prebs : List Nat}, itemsB ops B done pres prebs F = true → FI.preb j k ∈ F → gateB ops B k done = true
  | [], _, _, _, _, hm => by cases hm
  | it :: r, done, pres, prebs, hb, hm => by
    rcases List.mem_cons.1 hm with rfl | hm'
    · simp only [itemsB, Bool.and_eq_true] at hb
      exact hb.1.2
    · cases it <;> simp only [itemsB, Bool.and_eq_true] at hb
      · exact gate_mono (gate_preb r hb.2 hm')
      · exact gate_preb r hb.2 hm'
      · exact gate_preb r hb.2 hm'
      · exact gate_mono (gate_preb r hb.2 hm')
      · exact gate_preb r hb hm'
      · exact gate_preb r hb hm'
/-- What an item asks of the items ahead of it. -/
theorem pre_of_op {B : Array Nat} {i : Nat} {rr : List Nat} (hf : freeI ops i = false) (ha : allocI ops i = true) : ∀ (F : List FI) {done pres prebs : List Nat}, itemsB ops B done pres prebs F = true → FI.op i rr ∈ F → i ∈ pres ∨ FI.pre i ∈ F
  | [], _, _, _, _, hm => by cases hm
  | it :: r, done, pres, prebs, hb, hm => by
    rcases List.mem_cons.1 hm with rfl | hm'
    · simp only [itemsB, Bool.and_eq_true, hf, ha, Bool.false_or, cond_true] at hb
      exact .inl (by simpa using hb.1.1.2)
    · cases it <;> simp only [itemsB, Bool.and_eq_true] at hb
      · exact (pre_of_op hf ha r hb.2 hm').imp id (List.mem_cons_of_mem _)
      · rcases pre_of_op hf ha r hb.2 hm' with h | h
        · rcases List.mem_cons.1 h with rfl | h
          · exact .inr (by simp)
          · exact .inl h
        · exact .inr (List.mem_cons_of_mem _ h)
      · exact (pre_of_op hf ha r hb.2 hm').imp id (List.mem_cons_of_mem _)
      · exact (pre_of_op hf ha r hb.2 hm').imp id (List.mem_cons_of_mem _)
      · exact (pre_of_op hf ha r hb hm').imp id (List.mem_cons_of_mem _)
      · exact (pre_of_op hf ha r hb hm').imp id (List.mem_cons_of_mem _)
theorem pre_of_box {B : Array Nat} {j k : Nat} : ∀ (F : List FI) {done pres prebs : List Nat}, itemsB ops B done pres prebs F = true → FI.abox j k ∈ F →
    boxI ops B j k = true ∧ (j ∈ pres ∨ FI.pre j ∈ F) ∧ (k ∈ prebs ∨ ∃ j', FI.preb j' k ∈ F)
  | [], _, _, _, _, hm => by cases hm
  | it :: r, done, pres, prebs, hb, hm => by
    rcases List.mem_cons.1 hm with rfl | hm'
    · simp only [itemsB, Bool.and_eq_true] at hb
      exact ⟨hb.1.1.1.1, .inl (by simpa using hb.1.1.2), .inl (by simpa using hb.1.2)⟩
    · have go : ∀ {done pres' prebs' : List Nat}, itemsB ops B done pres' prebs' r = true → (∀ x, x ∈ pres' → x ∈ pres ∨ FI.pre x ∈ it :: r) → (∀ x, x ∈ prebs' → x ∈ prebs ∨ ∃ j', FI.preb j' x ∈ it :: r) →
          boxI ops B j k = true ∧ (j ∈ pres ∨ FI.pre j ∈ it :: r) ∧ (k ∈ prebs ∨ ∃ j', FI.preb j' k ∈ it :: r) := by
        intro done pres' prebs' hb' h1 h2
        obtain ⟨g1, g2, g3⟩ := pre_of_box r hb' hm'
        refine ⟨g1, ?_, ?_⟩
        · rcases g2 with g | g
          · exact h1 j g
          · exact .inr (List.mem_cons_of_mem _ g)
        · rcases g3 with g | ⟨j', g⟩
          · exact h2 k g
          · exact .inr ⟨j', List.mem_cons_of_mem _ g⟩
      cases it <;> simp only [itemsB, Bool.and_eq_true] at hb
      · exact go hb.2 (fun _ h => .inl h) (fun _ h => .inl h)
      · rename_i i
        refine go hb.2 (fun x h => ?_) (fun _ h => .inl h)
        rcases List.mem_cons.1 h with rfl | h
        · exact .inr (by simp)
        · exact .inl h
      · rename_i j' k'
        refine go hb.2 (fun _ h => .inl h) (fun x h => ?_)
        rcases List.mem_cons.1 h with rfl | h
        · exact .inr ⟨j', by simp⟩
        · exact .inl h
      · exact go hb.2 (fun _ h => .inl h) (fun _ h => .inl h)
      · exact go hb (fun _ h => .inl h) (fun _ h => .inl h)
      · exact go hb (fun _ h => .inl h) (fun _ h => .inl h)

end
end Go.HL
