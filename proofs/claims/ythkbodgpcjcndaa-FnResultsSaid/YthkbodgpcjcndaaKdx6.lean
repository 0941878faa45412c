/- Whatever the code, the law of results answers true: points of all teams are twice the meetings played, rankings have all teams, and the teams with the most points can be first when all rounds are played; no condition. -/
import Derived.Test.YthkbodgpcjcndaaKdx5
/- The machine does what the operations over a sub-heap say: soundness of semX. -/
set_option linter.unusedVariables false
set_option linter.unusedSimpArgs false
namespace Go.HL

theorem args_def {ρ ρ' : Operand → Value} (hρ : ∀ x, Le (ρ x) (ρ' x)) {l : List Operand} (h : l.all (fun x => isDef (ρ x)) = true) : l.map ρ' = l.map ρ :=
  map_def hρ l h

theorem le_def {ρ ρ' : Operand → Value} (hρ : ∀ x, Le (ρ x) (ρ' x)) {x : Operand} {v : Value} (h : ρ x = v) (hd : isDef v = true) : ρ' x = v := by
  have := (hρ x).eq (by rw [h]; exact hd)
  rw [← this, h]

theorem alloc_done {P : Program} {o : Oper} {a : Act} {h : Heap} {w : World} {K : Value → Heap → Prop} {Q : Exit → Act → World → Prop} (r : Rel h w) {cs : List Value} {mk : Nat → Value}
    (s : SAlloc h cs fun b h' => K (mk b) h') {e : TypeId} (hr : (execOp a.eval o).run P w = .ok (.value (mk w.heap.size)) { w with heap := w.heap.push (.cells cs.toArray e) }) :
    o.wp P a w (Done o a h w K) Q := by
  refine wp_value hr ?_
  obtain ⟨r', f'⟩ := r.alloc cs e
  exact ⟨_, _, _, rfl, Le.refl _, r', f', s _ (r.fresh (Nat.le_refl _))⟩

theorem partsCells_eq {ρ : Operand → Value} : ∀ (ps : List (Nat × Operand)), (ps.flatMap fun p => (ρ p.2).cells.toList) = partsCells ρ ps
  | [] => rfl
  | p :: ps => by simp [partsCells, partsCells_eq ps]

theorem partsOk_mem {ρ : Operand → Value} {size : Nat} : ∀ {ps : List (Nat × Operand)}, partsOk ρ size ps → ∀ p ∈ ps, (ρ p.2).cells.size = size
  | [], _, p, hp => by cases hp
  | q :: ps, h, p, hp => by
    rcases List.mem_cons.1 hp with rfl | hp
    · simpa using h.1
    · exact partsOk_mem h.2 p hp

theorem run_append_at {P : Program} (w : World) {t ty e : TypeId} {i : TypeInfo} (ht : P.underlying t = some (.slice e)) (hi : P.info? e = some i)
    {b o l c : Nat} {x : Addr} {m d : Nat} {news : List Value} (hl : news.length = m * i.size) (hnews : ∀ j u, news[j]? = some u → w.cell? (x.add j) = some u) (hroom : l + m ≤ c)
    {w' : World} (hst : (storeCells ⟨b, o + l * i.size, none⟩ news).run P w = .ok () w') :
    (Builtin.append_ #[t, t] ty #[.slice (some ⟨b, o, none⟩) l c, .slice (some x) m d]).run P w = .ok (.slice (some ⟨b, o, none⟩) (l + m) c) w' := by
  have hf := run_firstCells_some (P := P) w i.size m x m d news hl hnews
  simp [Builtin.append_, run_underlying ht, sizeOf, typeInfo, hi, Builtin.lenOf, hroom, hf, add_plain, hst]

theorem run_append_none {P : Program} (w : World) {t ty e : TypeId} {i : TypeInfo} (ht : P.underlying t = some (.slice e)) (hi : P.info? e = some i)
    {A B : Option Addr} {l c d : Nat} (hroom : l ≤ c) (hB : (Builtin.firstCells i.size 0 (.slice B 0 d)).run P w = .ok #[] w) :
    (Builtin.append_ #[t, t] ty #[.slice A l c, .slice B 0 d]).run P w = .ok (.slice A l c) w := by
  cases A with
  | none => simp [Builtin.append_, run_underlying ht, sizeOf, typeInfo, hi, Builtin.lenOf, hroom, hB]
  | some a => simp [Builtin.append_, run_underlying ht, sizeOf, typeInfo, hi, Builtin.lenOf, hroom, hB, storeCells]

/-- What the first n elements of a slice are, to the machine. -/
theorem run_first {P : Program} {h : Heap} {w : World} (r : Rel h w) {A : Option Addr} {size n len cap : Nat} {vs : List Value} (hr : Row h A (n * size) vs) :
    (Builtin.firstCells size n (.slice A len cap)).run P w = .ok vs.toArray w := by
  obtain ⟨hl, hc⟩ := hr.cells r
  cases A with
  | none =>
    have : vs = [] := hr.2
    subst this
    simp [Builtin.firstCells]
  | some b => exact run_firstCells_some w size n b len cap vs hl (hc b rfl).2

theorem run_append_new {P : Program} {h : Heap} {w : World} (r : Rel h w) {t ty e : TypeId} {i : TypeInfo} {z : Value} (ht : P.underlying t = some (.slice e)) (hi : P.info? e = some i)
    (hz : i.zero = some z) {A B : Option Addr} {l c m d : Nat} {old news : List Value} (hA : Row h A (l * i.size) old) (hB : Row h B (m * i.size) news)
    (hg : c < l + m) (h63 : l + m ≤ 9223372036854775807) (hb : (l + m) * i.bytes ≤ 140737488355328) :
    (Builtin.append_ #[t, t] ty #[.slice A l c, .slice B m d]).run P w =
      .ok (.slice (some ⟨w.heap.size, 0, none⟩) (l + m) (grownCap w (l + m) c e))
        (w.drew.alloc (.cells (old.toArray ++ news.toArray ++ Builtin.zeroCells z.cells (grownCap w (l + m) c e - (l + m))) e)) := by
  have hn : ¬ (l + m ≤ c) := by omega
  have h63' : ¬ (9223372036854775807 < ((l : Int) + (m : Int))) := by omega
  have hfit := growslice_fits (old := c) hg hb
  have h48' : ¬ (281474976710656 < Builtin.nextslicecap (l + m) c * i.bytes) := by omega
  have rd : Rel h w.drew := r.drawn _
  have hf := run_first (P := P) rd (len := m) (cap := d) hB
  have hfo := run_first (P := P) rd (len := l) (cap := c) hA
  simp [Builtin.append_, run_underlying ht, sizeOf, typeInfo, zeroValue, hi, hz, Builtin.lenOf, hn, h63', h48', Question.forced, hf, hfo, newRow, grownCap]
  congr 2
  apply Array.ext'
  simp

theorem zeroCells_eq (z : Array Value) (n : Nat) : Builtin.zeroCells z n = ((List.replicate n z.toList).flatten).toArray := rangeMap_eq z n

/-- append, whole. -/
theorem run_SAppend {P : Program} {h : Heap} {w : World} (r : Rel h w) {t ty e : TypeId} {i : TypeInfo} {z : Value} (ht : P.underlying t = some (.slice e)) (hi : P.info? e = some i)
    (hz : i.zero = some z) {A B : Option Addr} {l c m d : Nat} {K : Value → Heap → Prop}
    (s : SAppend h i.size i.bytes z.cells.toList A l c B m K) :
    ∃ v w' h', (Builtin.append_ #[t, t] ty #[.slice A l c, .slice B m d]).run P w = .ok v w' ∧ Rel h' w' ∧ Fra h h' w w' ∧ K v h' := by
  obtain ⟨old, news, hA, hB, h1, hb, h63, hin, hnew⟩ := s
  by_cases hroom : l + m ≤ c
  · obtain ⟨k0, k1⟩ := hin hroom
    rcases Nat.eq_zero_or_pos m with rfl | hm
    · have hf := run_first (P := P) r (len := 0) (cap := d) (size := i.size) (n := 0) hB
      have hnil : news = [] := List.eq_nil_of_length_eq_zero (by simpa using (hB.cells r).1)
      subst hnil
      exact ⟨_, w, h, run_append_none w ht hi (by omega) hf, r, Fra.refl h w, k0 rfl⟩
    · obtain ⟨b, o, rfl, st⟩ := k1 hm
      obtain ⟨w', h', hst, r', f', k'⟩ := run_SStore (P := P) r st
      obtain ⟨hl, hc⟩ := hB.cells r
      cases B with
      | none =>
        simp only [Row] at hB
        obtain ⟨hz0, rfl⟩ := hB
        have hs0 : i.size = 0 := by
          rcases Nat.mul_eq_zero.1 hz0 with h | h
          · omega
          · exact h
        refine ⟨_, w', h', ?_, r', f', k'⟩
        have hf : (Builtin.firstCells i.size m (.slice none m d)).run P w = .ok #[] w := by simp [Builtin.firstCells]
        simp only [storeCells, Sem.run_pure] at hst
        cases hst
        simp [Builtin.append_, run_underlying ht, sizeOf, typeInfo, hi, Builtin.lenOf, hroom, hf, storeCells]
      | some x => exact ⟨_, w', h', run_append_at w ht hi hl (hc x rfl).2 hroom hst, r', f', k'⟩
  · have hr := run_append_new (P := P) r (ty := ty) (c := c) (d := d) ht hi hz hA hB (by omega) h63 hb
    have rd : Rel h w.drew := r.drawn _
    obtain ⟨r', f'⟩ := rd.alloc (old ++ news ++ (List.replicate (grownCap w (l + m) c e - (l + m)) z.cells.toList).flatten) e
    have k := hnew (by omega) (grownCap w (l + m) c e) (grownCap_ge w (l + m) c e) w.heap.size (r.fresh (Nat.le_refl _))
    simp only [zrep_eq] at k
    have e1 : (old.toArray ++ news.toArray ++ Builtin.zeroCells z.cells (grownCap w (l + m) c e - (l + m))) = (old ++ news ++ (List.replicate (grownCap w (l + m) c e - (l + m)) z.cells.toList).flatten).toArray := by
      rw [zeroCells_eq]; apply Array.ext'; simp
    rw [e1] at hr
    exact ⟨_, _, _, hr, r', Fra.trans ((Fra.refl h w).drawn _) f', k⟩

theorem run_SCopy {P : Program} {h : Heap} {w : World} (r : Rel h w) {t t' ty e : TypeId} {i : TypeInfo} (ht : P.underlying t = some (.slice e)) (hi : P.info? e = some i)
    {A B : Option Addr} {l c m d : Nat} {K : Value → Heap → Prop} (s : SCopy h i.size A l B m K) :
    ∃ v w' h', (Builtin.copy_ #[t, t'] ty #[.slice A l c, .slice B m d]).run P w = .ok v w' ∧ Rel h' w' ∧ Fra h h' w w' ∧ K v h' := by
  obtain ⟨news, hB, h1, k0, k1⟩ := s
  have hf := run_first (P := P) r (len := m) (cap := d) hB
  have hmin : Nat.min m l = min m l := rfl
  rcases Nat.eq_zero_or_pos (min m l) with hm | hm
  · have hnil : news = [] := List.eq_nil_of_length_eq_zero (by rw [(hB.cells r).1, hm, Nat.zero_mul])
    subst hnil
    refine ⟨_, w, h, ?_, r, Fra.refl h w, k0 hm⟩
    rw [hm] at hf
    cases A with
    | none => simp [Builtin.copy_, run_underlying ht, Builtin.lenOf, hmin, hm, sizeOf, typeInfo, hi, hf, goInt]
    | some x => simp [Builtin.copy_, run_underlying ht, Builtin.lenOf, hmin, hm, sizeOf, typeInfo, hi, hf, goInt, storeCells]
  · obtain ⟨b, o, rfl, st⟩ := k1 hm
    obtain ⟨w', h', hst, r', f', k'⟩ := run_SStore (P := P) r st
    refine ⟨_, w', h', ?_, r', f', k'⟩
    simp [Builtin.copy_, run_underlying ht, Builtin.lenOf, hmin, sizeOf, typeInfo, hi, hf, goInt, hst]

theorem run_SClear {P : Program} {h : Heap} {w : World} (r : Rel h w) {t ty e : TypeId} {i : TypeInfo} {z : Value} (ht : P.underlying t = some (.slice e)) (hi : P.info? e = some i)
    (hz : i.zero = some z) {A : Option Addr} {l c : Nat} {K : Value → Heap → Prop} (s : SClear h z.cells.toList A l K) :
    ∃ w' h', (Builtin.clear_ #[t] ty #[.slice A l c]).run P w = .ok (.tuple #[]) w' ∧ Rel h' w' ∧ Fra h h' w w' ∧ K undef h' := by
  obtain ⟨k0, k1⟩ := s
  simp only [zrep_eq] at k1
  rcases Nat.eq_zero_or_pos l with rfl | hl
  · refine ⟨w, h, ?_, r, Fra.refl h w, k0 rfl⟩
    cases A <;> simp [Builtin.clear_, run_underlying ht]
  · obtain ⟨b, o, rfl, st⟩ := k1 hl
    obtain ⟨w', h', hst, r', f', k'⟩ := run_SStore (P := P) r st
    refine ⟨w', h', ?_, r', f', k'⟩
    have hl0 : l ≠ 0 := by omega
    cases l with
    | zero => omega
    | succ n => simp [Builtin.clear_, run_underlying ht, zeroValue, typeInfo, hi, hz, zeroCells_eq, hst]

theorem run_buildSlice {P : Program} {ρ ρ' : Operand → Value} {dst : Option Tmp} {ty : TypeId} {pos : String} {after : Array Edge} {guard : Option (Nat × Bool)} {t e : TypeId} {len : Nat} {parts : Array (Nat × Operand)} {i : TypeInfo} {z : Value}
    (hc : ((parts.toList.map (·.1) == List.range len) && parts.toList.all (fun p => isDef (ρ p.2)) && decide (len * i.size ≤ 16777216) && (z.cells.toList.length == i.size)) = true)
    (hp : partsOk ρ i.size parts.toList) (ht : P.underlying t = some (.slice e)) (hi : P.info? e = some i) (hz : i.zero = some z) (hρ : ∀ x, Le (ρ x) (ρ' x)) (w : World) :
    (execOp ρ' ⟨dst, .buildSlice t len parts, ty, pos, after, guard⟩).run P w =
      .ok (.value (.slice (some ⟨w.heap.size, 0, none⟩) len len)) { w with heap := w.heap.push (.cells (partsCells ρ parts.toList).toArray e) } := by
  simp only [Bool.and_eq_true, beq_iff_eq, decide_eq_true_eq] at hc
  obtain ⟨⟨⟨hk, hd⟩, hlim⟩, hzs⟩ := hc
  have hval : parts.map (fun (p : Nat × Operand) => (p.1, ρ' p.2)) = ((parts.toList.map fun p => (p.1, ρ p.2))).toArray := by
    apply Array.ext'
    simp only [Array.toList_map]
    refine List.map_congr_left fun p hpm => ?_
    rw [(hρ p.2).eq (List.all_eq_true.1 hd p hpm)]
  have hpl : parts.toList.length = len := by
    have := congrArg List.length hk
    simpa using this
  have hf := fill_parts i.size (parts.toList.map fun p => (p.1, ρ p.2)) 0 (((List.replicate len z.cells.toList).flatten).toArray)
    (by simp only [List.map_map, List.length_map]; rw [hpl, ← List.range_eq_range', ← hk]; rfl)
    (fun p hpm => by
      obtain ⟨q, hq, rfl⟩ := List.mem_map.1 hpm
      exact partsOk_mem hp q hq)
    (by simp [hpl]; rw [show z.cells.size = i.size by simpa using hzs]; exact Nat.le_refl _)
  have hcell : (((List.replicate len z.cells.toList).flatten).toArray.toList.take (0 * i.size) ++ ((parts.toList.map fun p => (p.1, ρ p.2)).flatMap fun p => p.2.cells.toList) ++
      ((List.replicate len z.cells.toList).flatten).toArray.toList.drop ((0 + (parts.toList.map fun p => (p.1, ρ p.2)).length) * i.size)) = partsCells ρ parts.toList := by
    rw [Nat.zero_mul, List.take_zero, List.nil_append, List.drop_eq_nil_of_le (by simp [hpl]; rw [show z.cells.size = i.size by simpa using hzs]; exact Nat.le_refl _), List.append_nil, List.flatMap_map, partsCells_eq]
  rw [hcell] at hf
  have hrng : ((Array.range (len * i.size)).map (z.cells[· % z.cells.size]!)) = ((List.replicate len z.cells.toList).flatten).toArray := rangeMap_eq' z.cells len _ (by rw [show z.cells.size = i.size by simpa using hzs])
  have hlim' : ¬ (16777216 < len * i.size) := by omega
  by_cases h0 : len * i.size = 0
  · have hemp : ((List.replicate len z.cells.toList).flatten).toArray = #[] := by
      apply Array.eq_empty_of_size_eq_zero
      simp
      rw [show z.cells.size = i.size by simpa using hzs]
      exact h0
    rw [hemp] at hf
    simp only [execOp, hval, Instr.buildSlice, Sem.run_bind, run_underlying ht, Result.andThen_ok, sizeOf, typeInfo, run_program, hi, Sem.run_pure, h0]
    have hr0 : (Array.range 0 : Array Nat) = #[] := rfl
    simp [hf, newRow, hr0]
  · have hr0 : ((Array.range (len * i.size)).map fun x => z.cells[x % z.cells.size]!) = ((List.replicate len z.cells.toList).flatten).toArray := hrng
    simp only [execOp, hval, Instr.buildSlice, Sem.run_bind, run_underlying ht, Result.andThen_ok, sizeOf, typeInfo, run_program, hi, Sem.run_pure]
    simp [hlim', h0, zeroValue, typeInfo, hi, hz, hr0, hf, newRow]

theorem semX_sound {P : Program} {o : Oper} {a : Act} {ρ : Operand → Value} {h : Heap} {w : World} {K : Value → Heap → Prop} {Q : Exit → Act → World → Prop}
    (s : semX P o.op ρ h K) (hρ : ∀ x, Le (ρ x) (a.eval x)) (r : Rel h w) : o.wp P a w (Done o a h w K) Q := by
  obtain ⟨dst, op, ty, pos, after, guard⟩ := o
  simp only at s
  cases op <;> try (simp [semX] at s; done)
  case alloc e =>
    simp only [semX] at s
    split at s <;> try (exact s.elim)
    rename_i i hi
    split at s <;> try (exact s.elim)
    rename_i z hz
    exact alloc_done r s (e := e) (by simp [execOp, Instr.alloc, zeroValue, typeInfo, hi, hz, newVar, newRow])
  case box e x =>
    simp only [semX] at s
    cases hd : isDef (ρ x) with
    | false => simp [hd] at s
    | true =>
      simp only [hd, cond_true] at s
      have hx := (hρ x).eq hd
      exact alloc_done r s (e := e) (by simp [execOp, Instr.box, newVar, newRow, ← hx])
  case store t ad x =>
    simp only [semX] at s
    cases hd : isDef (ρ x) with
    | false => simp [hd] at s
    | true =>
      simp only [hd, cond_true] at s
      have hx := (hρ x).eq hd
      split at s <;> try (exact s.elim)
      rename_i b o ha
      split at s <;> try (exact s.elim)
      rename_i i hi
      obtain ⟨hl', st⟩ := sizeOk_size s
      obtain ⟨w', h', hst, r', f', k'⟩ := run_SStore (P := P) r st
      have ha' := le_def hρ ha rfl
      unfold Oper.wp
      have hr : (execOp a.eval ⟨dst, .store t ad x, ty, pos, after, guard⟩).run P w = .ok .skip w' := by
        simp [execOp, Instr.storeAt, ha', Instr.sureAddr, storeVar, sizeOf, typeInfo, hi, ← hx, hl', hst]
      rw [hr]
      exact Done.of_store r' f' k'
  case makeSlice t l c =>
    simp only [semX] at s
    split at s <;> try (exact s.elim)
    rename_i e ht
    split at s <;> try (exact s.elim)
    rename_i i hi
    split at s <;> try (exact s.elim)
    rename_i z k n k' m hz hl hc
    cases hs : (z.cells.toList.length == i.size) with
    | false => simp only [hs, cond_false] at s
    | true =>
      simp only [hs, cond_true] at s
      obtain ⟨rfl, h0, h1, h2, st⟩ := s
      rw [zrep_eq] at st
      have hl' := le_def hρ hl rfl
      have hc' := le_def hρ hc rfl
      have hm := run_make (P := P) ht hi hz (by simpa using hs) (k := k) (k' := k') h0 h1 h2 w
      exact alloc_done r st (e := e) (by simp only [execOp, hl', hc', Sem.run_bind, hm, Result.andThen_ok]; rfl)
  case buildSlice t len parts =>
    simp only [semX] at s
    split at s <;> try (exact s.elim)
    rename_i e ht
    split at s <;> try (exact s.elim)
    rename_i i hi
    split at s <;> try (exact s.elim)
    rename_i z hz
    cases hc : ((parts.toList.map (·.1) == List.range len) && parts.toList.all (fun p => isDef (ρ p.2)) && decide (len * i.size ≤ 16777216) && (z.cells.toList.length == i.size)) with
    | false => simp only [hc, cond_false] at s
    | true =>
      have hc0 := hc
      simp only [hc, cond_true] at s
      obtain ⟨hp, st⟩ := partsThen_ok s
      exact alloc_done r st (e := e) (run_buildSlice hc0 hp ht hi hz hρ w)
  case call c =>
    obtain ⟨callee, args, argTypes⟩ := c
    cases callee
    case value f =>
      simp only [semX] at s
      split at s <;> try (exact s.elim)
      rename_i fid first caps hf
      cases hd : args.toList.all (fun x => isDef (ρ x)) with
      | false => simp [hd] at s
      | true =>
        simp only [hd, cond_true] at s
        obtain ⟨⟨fn, hfn, hb, hn⟩, hc⟩ := s
        have hf' := le_def hρ hf rfl
        have ha := args_def hρ hd
        have hargs : args.map a.eval = (args.toList.map ρ).toArray := by
          apply Array.ext'
          simp only [Array.toList_map]
          exact ha
        unfold Oper.wp
        have hr : (execOp a.eval ⟨dst, .call ⟨.value f, args, argTypes⟩, ty, pos, after, guard⟩).run P w = .ok (.enter fid (first ++ (args.toList.map ρ).toArray ++ caps)) w := by
          have hn' : fn.name ≠ "runtime.NumGoroutine" := by simpa using hn
          have hb' : fn.body ≠ none := by intro e; simp [e] at hb
          simp [execOp, resolve, hargs, hf', Deferred.ofValue, invoke, callFunc, hfn, hb', hn']
        rw [hr]
        refine (show Calls P fid (first ++ (args.toList.map ρ).toArray ++ caps) w _ from ?_)
        have hl : (first.toList ++ args.toList.map ρ ++ caps.toList).toArray = first ++ (args.toList.map ρ).toArray ++ caps := by
          apply Array.ext'; simp
        rw [← hl]
        refine (hc w r).mono fun e w' ⟨v, h', he, r', f', k'⟩ => ?_
        subst he
        exact ⟨v, v, h', rfl, Le.refl v, r', f', k'⟩
    case invoke => simp [semX] at s
    case builtin b =>
      cases b <;> try (simp [semX] at s; done)
      case append =>
        simp only [semX] at s
        split at s <;> try (exact s.elim)
        rename_i sx x t t' hx htt
        have hx' : args = #[sx, x] := by rw [← Array.toList_inj]; simpa using hx
        have ht' : argTypes = #[t, t'] := by rw [← Array.toList_inj]; simpa using htt
        subst hx' ht'
        cases hteq : (t == t') with
        | false => simp [hteq] at s
        | true =>
          simp only [hteq, cond_true] at s
          have : t = t' := by simpa using hteq
          subst this
          split at s <;> try (exact s.elim)
          rename_i e ht
          split at s <;> try (exact s.elim)
          rename_i i hi
          split at s <;> try (exact s.elim)
          rename_i z A l c B m d hz hs1 hx1
          cases hzs : (z.cells.toList.length == i.size) with
          | false => simp only [hzs, cond_false] at s
          | true =>
            simp only [hzs, cond_true] at s
            obtain ⟨v, w', h', hr, r', f', k'⟩ := run_SAppend (P := P) r (ty := ty) (d := d) ht hi hz s
            refine wp_value (v := v) (w' := w') ?_ ⟨v, v, h', rfl, Le.refl v, r', f', k'⟩
            simp [execOp, resolve, invoke, builtin, le_def hρ hs1 rfl, le_def hρ hx1 rfl, hr]
      case copy =>
        simp only [semX] at s
        split at s <;> try (exact s.elim)
        rename_i sx x t t' hx htt
        have hx' : args = #[sx, x] := by rw [← Array.toList_inj]; simpa using hx
        have ht' : argTypes = #[t, t'] := by rw [← Array.toList_inj]; simpa using htt
        subst hx' ht'
        split at s <;> try (exact s.elim)
        rename_i e ht
        split at s <;> try (exact s.elim)
        rename_i i hi
        split at s <;> try (exact s.elim)
        rename_i A l c B m d hs1 hx1
        obtain ⟨v, w', h', hr, r', f', k'⟩ := run_SCopy (P := P) r (t' := t') (ty := ty) (c := c) (d := d) ht hi s
        refine wp_value (v := v) (w' := w') ?_ ⟨v, v, h', rfl, Le.refl v, r', f', k'⟩
        simp [execOp, resolve, invoke, builtin, le_def hρ hs1 rfl, le_def hρ hx1 rfl, hr]
      case clear =>
        simp only [semX] at s
        split at s <;> try (exact s.elim)
        rename_i sx t hx htt
        have hx' : args = #[sx] := by rw [← Array.toList_inj]; simpa using hx
        have ht' : argTypes = #[t] := by rw [← Array.toList_inj]; simpa using htt
        subst hx' ht'
        split at s <;> try (exact s.elim)
        rename_i e ht
        split at s <;> try (exact s.elim)
        rename_i i hi
        split at s <;> try (exact s.elim)
        rename_i z A l c hz hs1
        obtain ⟨w', h', hr, r', f', k'⟩ := run_SClear (P := P) r (ty := ty) (c := c) ht hi hz s
        refine wp_value (v := .tuple #[]) (w' := w') ?_ ⟨undef, .tuple #[], h', rfl, Le.refl _, r', f', k'⟩
        simp [execOp, resolve, invoke, builtin, le_def hρ hs1 rfl, hr]

end Go.HL
