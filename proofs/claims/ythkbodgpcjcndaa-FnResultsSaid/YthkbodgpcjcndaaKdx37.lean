/- Whatever the code, the law of results answers true: points of all teams are twice the meetings played, rankings have all teams, and the teams with the most points can be first when all rounds are played; no condition. -/
import Derived.Test.YthkbodgpcjcndaaKdx32
import Derived.ProofKit
import Derived.Deep.Slices
import Derived.OpenShut
/- From a call over a sub-heap to a statement's row: the world as a heap, what arguments read as, what stands behind the call. -/
set_option linter.unusedVariables false
set_option linter.unusedSimpArgs false
namespace Go.HL
open Go.ChangeShapes Go.WideShapes Go.Deep

/-- All that a world holds, to be read alone. -/
def ofWorld (W : World) : Heap := ⟨fun _ => none, fun b o => W.cell? ⟨b, o, none⟩⟩
theorem ofWorld_rel (W : World) : Rel (ofWorld W) W := ⟨fun b cs h => (by cases h), fun b o h => (by cases h), fun b o v h => h, fun b h => absurd rfl h⟩
theorem ofWorld_get (W : World) (b o : Nat) : (ofWorld W).get b o = W.cell? ⟨b, o, none⟩ := rfl
theorem below_of_fra {W W' : World} {h' : Heap} (f : Fra (ofWorld W) h' W W') : Go.RowKit.Below W.heap.size W W' :=
  ⟨f.os, f.tape, f.output, f.size, fun k hk => (f.keep k hk rfl).1⟩
theorem spot_of {W : World} {a : Addr} {v : Value} (h : W.cell? a = some v) : a = ⟨a.block, a.off, none⟩ := by
  obtain ⟨b, o, s⟩ := a
  cases s with
  | none => rfl
  | some s =>
    unfold World.cell? at h
    simp only [Option.isSome_some, if_true] at h
    split at h <;> cases h
theorem add_zero' (a : Addr) : a.add 0 = a := by simp [Addr.add]

/-- The field of a struct type. -/
def fld (P : Program) (t : TypeId) (i : Nat) : Field := match P.underlying t with
  | some (.struct fs) => match fs[i]? with
    | some f => f
    | none => default
  | _ => default

section
variable {H : Type} {enc : TypeId × Value → H} {P : Program} {W : World} {held : Bool} {fuel : Nat} {cs : List Value} {x : DataW H × List MemPlace} {t e q : TypeId}

theorem read_ints (ht : P.underlying t = some (.slice e)) (he : P.underlying e = some (.int .i64)) (hc : P.cellsOf e = 1) (h : DataW.trod enc P W 0 (fun _ => true) held fuel t cs = some x) :
    ∃ A xs c, cs = [.slice A xs.length c] ∧ IntsW (ofWorld W) A xs ∧ xs.length ≤ c ∧ c ≤ 9223372036854775807 := by
  rcases open_ints ht he hc h with ⟨rfl, _⟩ | ⟨a, len, cap, zs, rfl, _, hl, hm, hz, _, hcell, _⟩
  · exact ⟨none, [], 0, rfl, .inl rfl, Nat.le_refl _, by omega⟩
  · have hz' : zs.length = cap := by simpa using hz
    have hlen : (zs.take len).length = len := by rw [List.length_take]; omega
    refine ⟨some a, zs.take len, cap, by rw [hlen], ?_, by omega, hm⟩
    rcases Nat.eq_zero_or_pos len with h0 | hpos
    · subst h0; exact .inl rfl
    · have hs := spot_of (hcell 0 (by omega))
      rw [add_zero'] at hs
      refine .inr (.inr ⟨a.block, a.off, by rw [← hs], fun i v hv => ?_⟩)
      have hi : i < (zs.take len).length := by simpa using (List.getElem?_eq_some_iff.1 hv).1
      have := hcell i (by omega)
      rw [hs, add_plain] at this
      rw [ofWorld_get, this]
      rw [LM, List.getElem?_map, List.getElem?_take, if_pos (by omega), List.getElem?_eq_getElem (by omega)] at hv
      rw [List.getD_eq_getElem?_getD, List.getElem?_eq_getElem (by omega)]
      exact hv

theorem read_tab (ht : P.underlying t = some (.slice e)) (he : P.underlying e = some (.slice q)) (hq : P.underlying q = some (.int .i64)) (ce : P.cellsOf e = 1) (cq : P.cellsOf q = 1) (h : DataW.trod enc P W 0 (fun _ => true) held fuel t cs = some x) :
    ∃ A xss c, cs = [.slice A xss.length c] ∧ TabW (ofWorld W) A xss ∧ xss.length ≤ c ∧ c ≤ 9223372036854775807 ∧ ∀ xs ∈ xss, xs.length ≤ 9223372036854775807 := by
  rcases open_slice1 ht ce h with ⟨rfl, _⟩ | ⟨a, len, cap, m, n, V, D, Pl, rfl, _, hl, hm, hmm, _, hx⟩
  · exact ⟨none, [], 0, rfl, .inl rfl, Nat.le_refl _, by omega, fun xs hx => by cases hx⟩
  · have hmm' : m = cap := by simpa using hmm
    obtain ⟨R, hR⟩ := choose_lt (α := List Int) (n := len) (p := fun i xs => IsIntsW (ofWorld W) (V i) xs ∧ xs.length ≤ 9223372036854775807) (fun i hi => by
      obtain ⟨h1, h2⟩ := hx i (by omega)
      obtain ⟨A, xs, c, e1, e2, e3, e4⟩ := read_ints he hq cq h2
      have e5 : V i = .slice A xs.length c := by simpa using e1
      exact ⟨xs, ⟨A, c, e5, e2, e3⟩, by omega⟩)
    refine ⟨some a, (List.range len).map R, cap, by simp, ?_, by simpa using hl, hm, fun xs hxs => ?_⟩
    · rcases Nat.eq_zero_or_pos len with h0 | hpos
      · subst h0; exact .inl rfl
      · have hs := spot_of (hx 0 (by omega)).1
        rw [add_zero'] at hs
        refine .inr ⟨(List.range len).map V, .inr ⟨a.block, a.off, by rw [← hs], fun i v hv => ?_⟩, by simp, fun i v xs hv hxs => ?_⟩
        · have hi : i < len := by simpa using (List.getElem?_eq_some_iff.1 hv).1
          have := (hx i (by omega)).1
          rw [hs, add_plain] at this
          rw [ofWorld_get, this]
          rw [List.getElem?_map, List.getElem?_range hi] at hv
          exact hv
        · have hi : i < len := by simpa using (List.getElem?_eq_some_iff.1 hv).1
          rw [List.getElem?_map, List.getElem?_range hi] at hv hxs
          cases hv; cases hxs
          exact (hR i hi).1
    · simp only [List.mem_map, List.mem_range] at hxs
      obtain ⟨i, hi, rfl⟩ := hxs
      exact (hR i hi).2

theorem flat_at {α : Type} {m : Nat} (hm : 0 < m) : ∀ {rs : List (List α)} (_ : ∀ r ∈ rs, r.length = m) (j : Nat), rs.flatten[j]? = (rs[j / m]?).bind fun r => r[j % m]?
  | [], _, j => by simp
  | r :: rs, h, j => by
    have hr : r.length = m := h r (by simp)
    rw [List.flatten_cons, List.getElem?_append]
    split
    · rename_i hj
      have h1 : j / m = 0 := Nat.div_eq_of_lt (by omega)
      have h2 : j % m = j := Nat.mod_eq_of_lt (by omega)
      rw [h1, h2]; rfl
    · rename_i hj
      have ih := flat_at hm (rs := rs) (fun q hq => h q (by simp [hq])) (j - r.length)
      rw [ih]
      have h1 : j / m = (j - r.length) / m + 1 := by rw [hr, Nat.div_eq_sub_div hm (by omega)]
      have h2 : j % m = (j - r.length) % m := by rw [hr, Nat.mod_eq_sub_mod (by omega)]
      rw [h1, h2]; rfl

theorem read_rds (ht : P.underlying t = some (.slice e)) (he : P.underlying e = some (.array 14 q)) (hq : P.underlying q = some (.int .i64)) (ce : P.cellsOf e = 14) (cq : P.cellsOf q = 1) (h : DataW.trod enc P W 0 (fun _ => true) held fuel t cs = some x) :
    ∃ A rs c, cs = [.slice A rs.length c] ∧ RdsW (ofWorld W) A rs ∧ rs.length ≤ c ∧ c ≤ 9223372036854775807 := by
  rcases open_slice ht h with ⟨rfl, _⟩ | ⟨a, len, cap, m, n, D, Pl, rfl, _, hl, hm, hmm, _, hx⟩
  · exact ⟨none, [], 0, rfl, .inl rfl, Nat.le_refl _, by omega⟩
  · have hmm' : m = cap := by simpa using hmm
    rw [ce] at hx
    obtain ⟨R, hR⟩ := choose_lt (α := List Int) (n := len) (p := fun i r => r.length = 14 ∧ ∀ k, k < 14 → W.cell? ((a.add (i * 14)).add k) = some (.int .i64 (r.getD k 0))) (fun i hi => by
      obtain ⟨cs', h1, h2⟩ := hx i (by omega)
      obtain ⟨_, hlen, hcell⟩ := World.cells?_some h1
      obtain ⟨xs, m', _, _, _, hxl, hxs⟩ := DataW.trod_array he h2
      rw [cq] at hxs
      obtain ⟨Z, hZ⟩ := choose_lt (α := Int) (n := 14) (p := fun k z => cs'[k]? = some (.int .i64 z)) (fun k hk => by
        have h3 := hxs k hk
        rw [Nat.mul_one, List.getElem?_eq_getElem (by omega)] at h3
        obtain ⟨z, e1, _, _⟩ := DataW.trod_int hq h3
        have h4 : k < cs'.length := by omega
        rw [List.drop_eq_getElem_cons h4] at e1
        have h5 : cs'[k] = .int .i64 z := by
          rw [List.take_succ_cons, List.take_zero] at e1
          exact (List.cons.inj e1).1
        exact ⟨z, by rw [List.getElem?_eq_getElem h4, h5]⟩)
      refine ⟨(List.range 14).map Z, by simp, fun k hk => ?_⟩
      rw [hcell k hk, hZ k hk]
      simp [List.getD_eq_getElem?_getD, hk])
    refine ⟨some a, (List.range len).map R, cap, by simp, ?_, by simpa using hl, hm⟩
    rcases Nat.eq_zero_or_pos len with h0 | hpos
    · subst h0; exact .inl rfl
    · have hs := spot_of ((hR 0 hpos).2 0 (by omega))
      rw [Nat.zero_mul, add_zero', add_zero'] at hs
      have h14 : ∀ r ∈ (List.range len).map R, r.length = 14 := by
        intro r hr
        simp only [List.mem_map, List.mem_range] at hr
        obtain ⟨i, hi, rfl⟩ := hr
        exact (hR i hi).1
      refine .inr ⟨.inr ⟨a.block, a.off, by rw [← hs], fun j v hv => ?_⟩, h14⟩
      rw [LM, List.getElem?_map, flat_at (by omega) h14] at hv
      rcases Nat.lt_or_ge (j / 14) len with hi | hi
      · rw [List.getElem?_map, List.getElem?_range hi] at hv
        have hk : j % 14 < 14 := Nat.mod_lt _ (by omega)
        have hc := (hR (j / 14) hi).2 (j % 14) hk
        have hl14 := (hR (j / 14) hi).1
        simp only [Option.map_some, Option.bind_some] at hv
        rw [List.getElem?_eq_getElem (by omega)] at hv
        rw [List.getD_eq_getElem?_getD, List.getElem?_eq_getElem (by omega)] at hc
        rw [hs, add_plain, add_plain] at hc
        rw [ofWorld_get]
        have e1 : a.off + j = a.off + j / 14 * 14 + j % 14 := by omega
        rw [e1, hc]
        exact hv
      · rw [List.getElem?_eq_none (by simpa using hi)] at hv
        cases hv

/-- A schedule by value. -/
theorem read_sched {f0 f1 : Field} {r : Reach} {b0 : Nat} {v : Value} {d : DataW H} {p : List MemPlace} (hs : P.underlying t = some (.struct #[f0, f1])) (hC : P.cellsOf t = 2) (o0 : f0.offset = 0) (o1 : f1.offset = 1) (c0 : P.cellsOf f0.type = 1) (c1 : P.cellsOf f1.type = 1)
    (u0 : P.underlying f0.type = some (.int .i64)) (ht : P.underlying f1.type = some (.slice e)) (he : P.underlying e = some (.array 14 q)) (hq : P.underlying q = some (.int .i64)) (ce : P.cellsOf e = 14) (cq : P.cellsOf q = 1)
    (hv : Value.okWide P W r b0 t v) (h : DataW.Trod enc P W 0 (fun _ => true) held t v d p) :
    ∃ n A rs c, v = .agg #[.int .i64 n, .slice A rs.length c] ∧ RdsW (ofWorld W) A rs ∧ rs.length ≤ c ∧ c ≤ 9223372036854775807 := by
  obtain ⟨cs, rfl, hsz⟩ := okWide_struct hs hv
  obtain ⟨fuel, hf⟩ := h
  obtain ⟨y0, y1, n, _, hl, h0, h1⟩ := trod_struct2 hs hf
  rw [o0, c0] at h0
  rw [o1, c1] at h1
  have hl2 : cs.toList.length = 2 := by simpa [Value.cells, hC] using hl
  have hcells : (Value.agg cs).cells.toList = cs.toList := rfl
  rw [hcells] at h0 h1
  match hcs : cs.toList, hl2 with
  | [v0, v1], _ =>
    rw [hcs] at h0 h1
    obtain ⟨z, e0, _, _⟩ := DataW.trod_int u0 h0
    obtain ⟨A, rs, c, e1, e2, e3, e4⟩ := read_rds ht he hq ce cq h1
    have e0' : v0 = .int .i64 z := by simpa using e0
    have e1' : v1 = .slice A rs.length c := by simpa using e1
    refine ⟨z, A, rs, c, ?_, e2, e3, e4⟩
    have : cs = #[v0, v1] := by rw [← Array.toArray_toList (xs := cs), hcs]
    rw [this, e0', e1']

/-- What the row asks behind a call that answers true and leaves all that was there. -/
theorem post_below {f : Func} {s : ChangeSpec} {W W' : World} {args : Array Value} {v : Value} {ds gs : List (DataW H)} {before pa pv : List MemPlace}
    (hW : DataW.Whole enc P f.params.toList s.vars false W args.toList ds gs before) (hb : Go.RowKit.Below W.heap.size W W')
    (hres : DataW.TrodAll enc P W' W.heap.size (fun _ => false) false f.resultTypes.toList (v.resultList f.resultTypes.size) (s.fn H (ds ++ gs)).results [])
    (hargs : DataW.TrodAll enc P W' 0 (fun b => decide (b < W.heap.size)) true f.params.toList args.toList (s.fn H (ds ++ gs)).args pa)
    (hvars : DataW.TrodVars enc P W' (fun b => decide (b < W.heap.size)) s.vars (s.fn H (ds ++ gs)).vars pv) :
    s.post enc P f false true false false W args v W' :=
  ⟨ds, gs, before, [], pa, pv, hW, hres, hargs, hvars, hb.frame _, fun h => by cases h⟩

end
end Go.HL
