/- Whatever the code, the law of results answers true: points of all teams are twice the meetings played, rankings have all teams, and the teams with the most points can be first when all rounds are played; no condition. -/
import Derived.Test.YthkbodgpcjcndaaKdx4
import Derived.Laws.Append
import Derived.Laws.CopyRow
import Derived.Laws.MakeOwn
/- The operations that make or write memory, and the calls, over a sub-heap; and that the machine does what they say. -/
set_option linter.unusedVariables false
set_option linter.unusedSimpArgs false
namespace Go.HL

/-- A call returns, whatever the world beside the sub-heap. -/
def ACalls (P : Program) (f : FuncId) (args : List Value) (h : Heap) (K : Value → Heap → Prop) : Prop :=
  (∃ fn, P.funcs[f]? = some fn ∧ fn.body.isNone = false ∧ (fn.name == "runtime.NumGoroutine") = false) ∧
  ∀ w, Rel h w → Calls P f args.toArray w fun e w' => ∃ v h', e = .returned v ∧ Rel h' w' ∧ Fra h h' w w' ∧ K v h'

theorem ACalls.mono {P : Program} {f : FuncId} {args : List Value} {h : Heap} {K K' : Value → Heap → Prop} (c : ACalls P f args h K) (hk : ∀ v h', K v h' → K' v h') : ACalls P f args h K' :=
  ⟨c.1, fun w r => (c.2 w r).mono fun e w' ⟨v, h', he, r', f', k⟩ => ⟨v, h', he, r', f', hk _ _ k⟩⟩

def SAlloc (h : Heap) (cs : List Value) (K : Nat → Heap → Prop) : Prop := ∀ b, h.fresh b → K b (h.upd b (.cells cs))
def SStore (h : Heap) (b o : Nat) (vs : List Value) (K : Heap → Prop) : Prop :=
  ∃ cs, h.own b = some (.cells cs) ∧ o + vs.length ≤ cs.length ∧ (∀ v ∈ vs, v.oneCell' = true) ∧ K (h.upd b (.cells (splice cs o vs)))
/-- The n cells at an address. -/
def Row (h : Heap) (A : Option Addr) (n : Nat) (vs : List Value) : Prop :=
  match A with
  | none => n = 0 ∧ vs = []
  | some ⟨b, o, none⟩ => h.getN b o n = some vs
  | _ => False
/-- n elements that are zero. -/
def zrep (z : List Value) (n : Nat) : List Value :=
  match z with
  | [v] => List.replicate n v
  | vs => (List.replicate n vs).flatten
theorem zrep_eq (z : List Value) (n : Nat) : zrep z n = (List.replicate n z).flatten := by
  unfold zrep
  split
  · induction n with
    | zero => rfl
    | succ n ih => rw [List.replicate_succ, List.replicate_succ, List.flatten_cons, ← ih]; rfl
  · rfl

def SAppend (h : Heap) (size bytes : Nat) (z : List Value) (A : Option Addr) (l c : Nat) (B : Option Addr) (m : Nat) (K : Value → Heap → Prop) : Prop :=
  ∃ old news, Row h A (l * size) old ∧ Row h B (m * size) news ∧ (∀ v ∈ news, v.oneCell' = true) ∧ (l + m) * bytes ≤ 140737488355328 ∧ l + m ≤ 9223372036854775807 ∧
    (l + m ≤ c → (m = 0 → K (.slice A l c) h) ∧ (0 < m → ∃ b o, A = some ⟨b, o, none⟩ ∧ SStore h b (o + l * size) news fun h' => K (.slice A (l + m) c) h')) ∧
    (c < l + m → ∀ c', l + m ≤ c' → SAlloc h (old ++ news ++ zrep z (c' - (l + m))) fun b h' => K (.slice (some ⟨b, 0, none⟩) (l + m) c') h')
def SCopy (h : Heap) (size : Nat) (A : Option Addr) (l : Nat) (B : Option Addr) (m : Nat) (K : Value → Heap → Prop) : Prop :=
  ∃ news, Row h B (min m l * size) news ∧ (∀ v ∈ news, v.oneCell' = true) ∧
    (min m l = 0 → K (.int .i64 0) h) ∧ (0 < min m l → ∃ b o, A = some ⟨b, o, none⟩ ∧ SStore h b o news fun h' => K (.int .i64 (min m l : Nat)) h')
def SClear (h : Heap) (z : List Value) (A : Option Addr) (l : Nat) (K : Value → Heap → Prop) : Prop :=
  (l = 0 → K undef h) ∧ (0 < l → ∃ b o, A = some ⟨b, o, none⟩ ∧ SStore h b o (zrep z l) fun h' => K undef h')

def partsCells (ρ : Operand → Value) : List (Nat × Operand) → List Value
  | [] => []
  | p :: ps => (ρ p.2).cells.toList ++ partsCells ρ ps
/-- A value of n cells; then p. -/
def sizeOk (v : Value) (n : Nat) (p : Prop) : Prop :=
  match v with
  | .agg cs => cs.toList.length = n ∧ p
  | _ => bif n == 1 then p else False
theorem sizeOk_size {v : Value} {n : Nat} {p : Prop} (h : sizeOk v n p) : v.cells.size = n ∧ p := by
  unfold sizeOk at h
  split at h
  · exact ⟨by simpa [Value.cells] using h.1, h.2⟩
  · rename_i hv
    cases hn : n == 1 with
    | false => simp only [hn, cond_false] at h
    | true =>
      have hn' : n = 1 := by simpa using hn
      simp only [hn, cond_true] at h
      refine ⟨?_, h⟩
      subst hn'
      cases v <;> first | rfl | exact absurd rfl (hv _)
def partsThen (ρ : Operand → Value) (size : Nat) (p : Prop) : List (Nat × Operand) → Prop
  | [] => p
  | q :: ps => sizeOk (ρ q.2) size (partsThen ρ size p ps)
def partsOk (ρ : Operand → Value) (size : Nat) : List (Nat × Operand) → Prop
  | [] => True
  | p :: ps => (ρ p.2).cells.toList.length = size ∧ partsOk ρ size ps
theorem partsThen_ok {ρ : Operand → Value} {size : Nat} {p : Prop} : ∀ {ps : List (Nat × Operand)}, partsThen ρ size p ps → partsOk ρ size ps ∧ p
  | [], h => ⟨trivial, h⟩
  | q :: ps, h => by
    obtain ⟨h1, h2⟩ := sizeOk_size h
    obtain ⟨h3, h4⟩ := partsThen_ok h2
    exact ⟨⟨by simpa using h1, h3⟩, h4⟩
def semX (P : Program) (op : Op) (ρ : Operand → Value) (h : Heap) (K : Value → Heap → Prop) : Prop :=
  match op with
  | .alloc e => match P.info? e with
    | some i => match i.zero with
      | some z => SAlloc h z.cells.toList fun b h' => K (.pointer (some ⟨b, 0, none⟩)) h'
      | none => False
    | none => False
  | .box e x => bif isDef (ρ x) then SAlloc h (ρ x).cells.toList fun b h' => K (.pointer (some ⟨b, 0, none⟩)) h' else False
  | .store t a x => bif isDef (ρ x) then match ρ a with
      | .pointer (some ⟨b, o, none⟩) => match P.info? t with
        | some i => sizeOk (ρ x) i.size (SStore h b o (ρ x).cells.toList fun h' => K undef h')
        | none => False
      | _ => False
    else False
  | .makeSlice t l c => match P.underlying t with
    | some (.slice e) => match P.info? e with
      | some i => match i.zero, ρ l, ρ c with
        | some z, .int _ n, .int _ m => bif z.cells.toList.length == i.size then
            n = m ∧ 0 ≤ n ∧ n * i.bytes ≤ 281474976710656 ∧ n ≤ 9223372036854775807 ∧ SAlloc h (zrep z.cells.toList n.toNat) fun b h' => K (.slice (some ⟨b, 0, none⟩) n.toNat n.toNat) h'
          else False
        | _, _, _ => False
      | none => False
    | _ => False
  | .buildSlice t len parts => match P.underlying t with
    | some (.slice e) => match P.info? e with
      | some i => match i.zero with
        | some z => bif (parts.toList.map (·.1) == List.range len) && parts.toList.all (fun p => isDef (ρ p.2)) && decide (len * i.size ≤ 16777216) && (z.cells.toList.length == i.size) then
            partsThen ρ i.size (SAlloc h (partsCells ρ parts.toList) fun b h' => K (.slice (some ⟨b, 0, none⟩) len len) h') parts.toList
          else False
        | none => False
      | none => False
    | _ => False
  | .call { callee := .value f, args, argTypes } => match ρ f with
    | .func (.func fid) first caps => bif args.toList.all (fun x => isDef (ρ x)) then ACalls P fid (first.toList ++ args.toList.map ρ ++ caps.toList) h K else False
    | _ => False
  | .call { callee := .builtin .append, args, argTypes } => match args.toList, argTypes.toList with
    | [s, x], [t, t'] => bif t == t' then match P.underlying t with
        | some (.slice e) => match P.info? e with
          | some i => match i.zero, ρ s, ρ x with
            | some z, .slice A l c, .slice B m _ => bif z.cells.toList.length == i.size then SAppend h i.size i.bytes z.cells.toList A l c B m K else False
            | _, _, _ => False
          | none => False
        | _ => False
      else False
    | _, _ => False
  | .call { callee := .builtin .copy, args, argTypes } => match args.toList, argTypes.toList with
    | [s, x], [t, t'] => match P.underlying t with
      | some (.slice e) => match P.info? e with
        | some i => match ρ s, ρ x with
          | .slice A l _, .slice B m _ => SCopy h i.size A l B m K
          | _, _ => False
        | none => False
      | _ => False
    | _, _ => False
  | .call { callee := .builtin .clear, args, argTypes } => match args.toList, argTypes.toList with
    | [s], [t] => match P.underlying t with
      | some (.slice e) => match P.info? e with
        | some i => match i.zero, ρ s with
          | some z, .slice A l _ => SClear h z.cells.toList A l K
          | _, _ => False
        | none => False
      | _ => False
    | _, _ => False
  | _ => False

/-! ### The machine does it -/
/-- What an operation's end must show. -/
def Done (o : Oper) (a : Act) (h : Heap) (w : World) (K : Value → Heap → Prop) : Act → World → Prop :=
  fun a' w' => ∃ v v' h', a' = a.put o.dst v' ∧ Le v v' ∧ Rel h' w' ∧ Fra h h' w w' ∧ K v h'

theorem wp_value {P : Program} {o : Oper} {a : Act} {w w' : World} {v : Value} {next : Act → World → Prop} {Q : Exit → Act → World → Prop}
    (hr : (execOp a.eval o).run P w = .ok (.value v) w') (hn : next (a.put o.dst v) w') : o.wp P a w next Q := by
  unfold Oper.wp
  rw [hr]
  exact hn

theorem Row.cells {h : Heap} {w : World} (r : Rel h w) {A : Option Addr} {n : Nat} {vs : List Value} (hr : Row h A n vs) :
    vs.length = n ∧ ∀ a, A = some a → a.spot = none ∧ ∀ j v, vs[j]? = some v → w.cell? (a.add j) = some v := by
  unfold Row at hr
  split at hr
  · obtain ⟨rfl, rfl⟩ := hr
    exact ⟨rfl, fun a h => by cases h⟩
  · rename_i b o
    refine ⟨Heap.getN_length hr, fun a ha => ?_⟩
    cases ha
    refine ⟨rfl, fun j v hj => ?_⟩
    rw [add_plain]
    exact r.get (Heap.getN_get hr j v hj)
  · cases hr

theorem setRow_eq (w : World) (g : Nat) (cs : Array Value) : (w.setRow g cs).tape = w.tape := rfl

/-- A store of some cells. -/
theorem run_SStore {P : Program} {h : Heap} {w : World} (r : Rel h w) {b o : Nat} {vs : List Value} {K : Heap → Prop} (s : SStore h b o vs K) :
    ∃ w' h', (storeCells ⟨b, o, none⟩ vs).run P w = .ok () w' ∧ Rel h' w' ∧ Fra h h' w w' ∧ K h' := by
  obtain ⟨cs, hb, hl, h1, hk⟩ := s
  obtain ⟨e, he⟩ := r.cells b cs hb
  have hs := run_storeCells_at P b o e vs 0 cs.toArray w he (by simpa using hl) h1
  simp only [Nat.add_zero] at hs
  refine ⟨_, _, hs, ?_, ?_, hk⟩
  · exact r.write hb (setRow_heap w b cs.toArray _ e (0, 0) he) (fun x hx => setRow_other w b x _ hx)
  · refine ⟨rfl, rfl, rfl, by simp, fun x hx hn => ?_, rfl⟩
    have hxb : x ≠ b := fun e => by subst e; rw [hb] at hn; cases hn
    exact ⟨setRow_other w b x _ hxb, by rw [Heap.upd_own_ne _ _ hxb]; exact hn⟩

theorem replicate_flatten_get {α : Type} [Inhabited α] (z : List α) (hz : 0 < z.length) : ∀ (n i : Nat), i < n * z.length → (List.replicate n z).flatten[i]? = z[i % z.length]?
  | 0, i, h => by simp at h
  | n + 1, i, h => by
    rw [List.replicate_succ, List.flatten_cons]
    by_cases hi : i < z.length
    · rw [List.getElem?_append_left hi, Nat.mod_eq_of_lt hi]
    · rw [List.getElem?_append_right (by omega), replicate_flatten_get z hz n (i - z.length) (by rw [Nat.add_mul, Nat.one_mul] at h; omega)]
      congr 1
      exact (Nat.mod_eq_sub_mod (by omega)).symm

theorem rangeMap_eq (z : Array Value) (n : Nat) : ((Array.range (n * z.size)).map (z[· % z.size]!)) = ((List.replicate n z.toList).flatten).toArray := by
  apply Array.ext'
  apply List.ext_getElem?
  intro i
  rcases Nat.eq_zero_or_pos z.size with h0 | h0
  · have : z = #[] := Array.eq_empty_of_size_eq_zero h0
    subst this
    simp
  · by_cases hi : i < n * z.size
    · rw [show (List.replicate n z.toList).flatten.toArray.toList = (List.replicate n z.toList).flatten from rfl, replicate_flatten_get z.toList (by simpa using h0) n i (by simpa using hi)]
      have hm : i % z.size < z.size := Nat.mod_lt _ h0
      simp [hi, hm]
    · have h1 : ((List.replicate n z.toList).flatten).length = n * z.size := by simp
      rw [List.getElem?_eq_none (by simp; omega), List.getElem?_eq_none (by simp; omega)]

theorem rangeMap_eq' (z : Array Value) (n m : Nat) (h : m = n * z.size) : ((Array.range m).map (z[· % z.size]!)) = ((List.replicate n z.toList).flatten).toArray := by
  subst h; exact rangeMap_eq z n

/-- What stands behind a store of cells, as the operation's end. -/
theorem Done.of_store {o : Oper} {a : Act} {h : Heap} {w : World} {K : Value → Heap → Prop} {v : Value} {w' : World} {h' : Heap} (r : Rel h' w') (f : Fra h h' w w') (k : K v h') :
    Done o a h w K (a.put o.dst v) w' := ⟨v, v, h', rfl, Le.refl v, r, f, k⟩

theorem run_make {P : Program} {t e : TypeId} {i : TypeInfo} {z : Value} (ht : P.underlying t = some (.slice e)) (hi : P.info? e = some i) (hz : i.zero = some z) (hs : z.cells.size = i.size)
    {k k' : IntKind} {n : Int} (h0 : 0 ≤ n) (h1 : n * i.bytes ≤ 281474976710656) (h2 : n ≤ 9223372036854775807) (w : World) :
    (Instr.makeSlice t (.int k n) (.int k' n)).run P w =
      .ok (.slice (some ⟨w.heap.size, 0, none⟩) n.toNat n.toNat) (w.alloc (.cells ((List.replicate n.toNat z.cells.toList).flatten).toArray e)) := by
  rw [Go.run_make w t e i z ht hi hz k k' n n h0 (Int.le_refl _) (by rw [Int.mul_comm]; exact h1) h2]
  rw [madeCells, rangeMap_eq' z.cells n.toNat _ (by rw [hs])]

theorem fill_parts (size : Nat) : ∀ (ps : List (Nat × Value)) (k : Nat) (cells : Array Value), ps.map (·.1) = List.range' k ps.length → (∀ p ∈ ps, p.2.cells.size = size) →
    (k + ps.length) * size ≤ cells.size →
    Instr.fill (fun i => some (i * size, size)) cells ps = some ((cells.toList.take (k * size) ++ (ps.flatMap fun p => p.2.cells.toList) ++ cells.toList.drop ((k + ps.length) * size)).toArray)
  | [], k, cells, _, _, hl => by
    simp [Instr.fill]
  | p :: ps, k, cells, hk, hs, hl => by
    obtain ⟨i, v⟩ := p
    simp only [List.map_cons, List.length_cons, List.range'_succ, List.cons.injEq] at hk
    obtain ⟨rfl, hk⟩ := hk
    have hv : v.cells.size = size := hs (i, v) (by simp)
    have hle : (i + 1) * size ≤ cells.size := by
      refine Nat.le_trans (Nat.mul_le_mul_right _ ?_) hl
      simp
    have hfit : ¬ (v.cells.size ≠ size || decide (i * size + v.cells.size > cells.size)) = true := by
      rw [Nat.add_mul, Nat.one_mul] at hle
      simp [hv]
      omega
    unfold Instr.fill
    simp only
    rw [if_neg (by simpa using hfit)]
    have hfold : v.cells.zipIdx.foldl (fun cs (x : Value × Nat) => cs.setIfInBounds (i * size + x.2) x.1) cells = (splice cells.toList (i * size) v.cells.toList).toArray :=
      fold_splice' (i * size) v cells (by rw [Nat.add_mul, Nat.one_mul] at hle; simp [hv]; omega)
    rw [hfold]
    rw [fill_parts size ps (i + 1) _ (by simpa using hk) (fun p hp => hs p (by simp [hp])) (by
      have e0 : (i + 1 + ps.length) * size ≤ cells.size := by
        have : i + 1 + ps.length = i + (ps.length + 1) := by omega
        rw [this]; simpa using hl
      have hlen : (splice cells.toList (i * size) v.cells.toList).length = cells.size := by
        rw [Nat.add_mul, Nat.one_mul] at hle
        simp [splice, hv]; omega
      simpa [hlen] using e0)]
    congr 2
    have hvl : v.cells.toList.length = size := by simpa using hv
    have hil : i * size ≤ cells.toList.length := by
      rw [Nat.add_mul, Nat.one_mul] at hle
      simp; omega
    have htl : (cells.toList.take (i * size)).length = i * size := List.length_take_of_le hil
    have e3 : (splice cells.toList (i * size) v.cells.toList).take ((i + 1) * size) = cells.toList.take (i * size) ++ v.cells.toList := by
      unfold splice
      rw [List.take_left' (by rw [List.length_append, htl, hvl, Nat.add_mul, Nat.one_mul])]
    have e4 : (splice cells.toList (i * size) v.cells.toList).drop ((i + 1 + ps.length) * size) = cells.toList.drop ((i + (ps.length + 1)) * size) := by
      unfold splice
      have h5 : (cells.toList.take (i * size) ++ v.cells.toList).length = i * size + size := by rw [List.length_append, htl, hvl]
      rw [List.drop_append, h5, List.drop_eq_nil_of_le (by rw [h5, Nat.add_mul, Nat.add_mul]; omega), List.nil_append, List.drop_drop]
      congr 1
      rw [hvl]
      have : (i + 1 + ps.length) * size = i * size + size + ps.length * size := by rw [Nat.add_mul, Nat.add_mul, Nat.one_mul]
      have h6 : (i + (ps.length + 1)) * size = i * size + size + ps.length * size := by rw [Nat.add_mul, Nat.add_mul, Nat.one_mul]; omega
      omega
    simp only [e3, e4, List.flatMap_cons, List.append_assoc, List.length_cons]

end Go.HL
