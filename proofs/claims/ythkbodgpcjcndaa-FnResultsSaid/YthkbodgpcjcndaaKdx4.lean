/- Whatever the code, the law of results answers true: points of all teams are twice the meetings played, rankings have all teams, and the teams with the most points can be first when all rounds are played; no condition. -/
import Derived.Test.YthkbodgpcjcndaaKdx3
/- What an operation that changes nothing gives, the machine gives: soundness of evalL. -/
set_option linter.unusedVariables false
set_option linter.unusedSimpArgs false
namespace Go.HL

theorem eqGuard_plain {P : Program} {op : BinOp} {t : TypeId} {x y : Operand} {a b : Value} (w : World)
    (h : (∀ k n, a ≠ .agg k → b ≠ .agg n → True) ∧ (a ≠ .nilIface) ∧ ∀ k, a ≠ .agg k) : (eqGuard op t x y a b).run P w = .ok () w := by
  unfold eqGuard
  cases op <;> simp <;> (split <;> simp_all)

theorem run_binOp {P : Program} {op : BinOp} {t : TypeId} {x y v : Value} (hok : binOk P t x y = true) (e : evalBin op x y = some v) (w : World) :
    (binOp op t x y).run P w = .ok v w := by
  unfold evalBin at e
  split at e
  · rename_i k a k' b
    cases hs : isShift op with
    | true =>
      simp only [hs, cond_true, evalShift] at e
      split at e
      · cases e
      · rename_i hb
        cases op <;> simp [isShift] at hs <;> simp at e <;> subst e <;> simp [binOp, Op.shift, hb]
    | false =>
      simp only [hs, cond_false] at e
      cases hk : decide (k = k') with
      | false => simp [hk] at e
      | true =>
        simp only [hk, cond_true] at e
        have hk' : k = k' := of_decide_eq_true hk
        subst hk'
        cases op <;> simp [isShift] at hs <;> simp only [evalInt, Option.some.injEq] at e <;>
          first
          | (subst e; simp [binOp, Op.intArith, Op.intBits, Op.intCmp]; done)
          | (subst e; simp [binOp, Op.intArith, Op.intBits, Op.intCmp, bne]; rfl)
          | (subst e; simp [binOp, Op.intArith, Op.intBits, Op.intCmp, bne, BEq.beq]; done)
          | (split at e
             · cases e
             · rename_i hb; cases e; simp [binOp, Op.intDiv, hb])
  · rename_i a b
    cases op <;> simp only [evalStr, Option.some.injEq] at e <;>
      first
      | (cases e; done)
      | (subst e; simp [binOp, Op.stringOp]; done)
      | (split at e
         · rename_i hb; cases e; simp only [binOp, Op.stringOp]; rw [if_neg (by rw [show (IntKind.i64.max : Int) = 9223372036854775807 from rfl]; omega)]; rfl
         · cases e)
  · rename_i A l c l' c'
    simp only [binOk] at hok
    cases hu : P.underlying t with
    | none => simp [hu] at hok
    | some d =>
      cases d <;> simp [hu] at hok
      have he : (Op.equal t (.slice A l c) (.slice none l' c')).run P w = .ok A.isNone w := by
        unfold Op.equal
        rw [show Op.maxDepth = 9999 + 1 from rfl, Op.equalIn, Sem.run_bind, run_underlying hu]
        cases A <;> simp
      cases op <;> simp only [Option.some.injEq, reduceCtorEq] at e <;> subst e
      · simp only [binOp, Sem.run_bind, he, Result.andThen_ok, Sem.run_pure]
      · simp only [binOp, Sem.run_bind, he, Result.andThen_ok, Sem.run_pure]
  · rename_i a b
    simp only [binOk] at hok
    cases hu : P.underlying t with
    | none => simp [hu] at hok
    | some d =>
      cases d <;> simp [hu] at hok
      have he : (Op.equal t (.bool a) (.bool b)).run P w = .ok (a == b) w := by
        unfold Op.equal
        rw [show Op.maxDepth = 9999 + 1 from rfl, Op.equalIn, Sem.run_bind, run_underlying hu]
        simp
      cases op <;> simp only [Option.some.injEq, reduceCtorEq] at e <;> subst e
      · simp only [binOp, Sem.run_bind, he, Result.andThen_ok, Sem.run_pure]
      · simp only [binOp, Sem.run_bind, he, Result.andThen_ok, Sem.run_pure]
  · cases e

theorem run_bound {P : Program} {v : Value} {d y n : Nat} (w : World) (code : BoundsCode) (e : evalL.bound (some v) d y = some n) :
    (Instr.sliceBound v y code).run P w = .ok n w := by
  unfold evalL.bound at e
  cases v <;> simp at e
  rename_i k i
  obtain ⟨h1, rfl⟩ := e
  simp [Instr.sliceBound, asIntOf, h1]

theorem run_sliceBounds {P : Program} {b : Bool} {l c m hh ll : Nat} {lo hi mx : Option Value} (w : World) (h1 : evalL.bound mx c c = some m)
    (h2 : (if mx.isSome && hi.isNone then none else evalL.bound hi l m) = some hh) (h3 : evalL.bound lo 0 hh = some ll) :
    (Instr.sliceBounds b l c lo hi mx).run P w = .ok (ll, hh, m) w := by
  unfold Instr.sliceBounds
  cases mx with
  | none =>
    have e1 : c = m := by simpa [evalL.bound] using h1
    subst e1
    cases hi with
    | none =>
      have e2 : l = hh := by simpa [evalL.bound] using h2
      subst e2
      cases lo with
      | none =>
        have e3 : 0 = ll := by simpa [evalL.bound] using h3
        subst e3
        simp
      | some v => simp [run_bound (P := P) w _ h3]
    | some u =>
      have h2' : evalL.bound (some u) l c = some hh := by simpa using h2
      cases lo with
      | none =>
        have e3 : 0 = ll := by simpa [evalL.bound] using h3
        subst e3
        simp [run_bound (P := P) w _ h2']
      | some v => simp [run_bound (P := P) w _ h2', run_bound (P := P) w _ h3]
  | some x =>
    cases hi with
    | none => simp at h2
    | some u =>
      have h2' : evalL.bound (some u) l m = some hh := by simpa using h2
      cases lo with
      | none =>
        have e3 : 0 = ll := by simpa [evalL.bound] using h3
        subst e3
        simp [run_bound (P := P) w _ h1, run_bound (P := P) w _ h2']
      | some v => simp [run_bound (P := P) w _ h1, run_bound (P := P) w _ h2', run_bound (P := P) w _ h3]

theorem slice_addr (b o n : Nat) (c : Prop) [Decidable c] : (if c then (some ⟨b, o, none⟩ : Option Addr) else (some ⟨b, o, none⟩ : Option Addr).map (·.add n)) = some ⟨b, if c then o else o + n, none⟩ := by
  split
  · rfl
  · simp [add_plain]

theorem fold_splice (off : Nat) (vs : List Value) (cs : Array Value) (hl : off + vs.length ≤ cs.size) :
    vs.zipIdx.foldl (fun cs (x : Value × Nat) => cs.setIfInBounds (off + x.2) x.1) cs = (splice cs.toList off vs).toArray := by
  have key : ∀ (l : List Value) (j : Nat) (cs : Array Value), off + j + l.length ≤ cs.size →
      (l.zipIdx j).foldl (fun cs (x : Value × Nat) => cs.setIfInBounds (off + x.2) x.1) cs = (splice cs.toList (off + j) l).toArray := by
    intro l
    induction l with
    | nil => intro j cs _; simp [splice]
    | cons u l ih =>
      intro j cs hlen
      simp only [List.length_cons] at hlen
      rw [List.zipIdx_cons, List.foldl_cons, ih (j + 1) _ (by simp; omega)]
      apply Array.ext'
      simp only [splice, Array.toList_setIfInBounds]
      apply List.ext_getElem?
      intro q
      simp only [List.getElem?_append, List.length_append, List.length_take, List.length_set, List.getElem?_take, List.getElem?_drop, List.getElem?_set, Array.length_toList, List.length_cons]
      have e1 : min (off + (j + 1)) cs.size = off + (j + 1) := by omega
      have e2 : min (off + j) cs.size = off + j := by omega
      simp only [e1, e2]
      by_cases h1 : q < off + j
      · rw [if_pos (by omega), if_pos (by omega), if_pos (by omega), if_neg (by omega), if_pos (by omega), if_pos (by omega), if_pos (by omega)]
      · by_cases h2 : q = off + j
        · subst h2
          rw [if_pos (by omega), if_pos (by omega), if_pos (by omega), if_pos rfl, if_pos (by omega), if_pos (by omega), if_neg (by omega)]
          simp
        · by_cases h3 : q < off + j + (l.length + 1)
          · rw [if_pos (by omega), if_neg (by omega), if_pos (by omega), if_neg (by omega)]
            rw [show q - (off + j) = (q - (off + (j + 1))) + 1 by omega, List.getElem?_cons_succ]
          · rw [if_neg (by omega), if_neg (by omega), if_neg (by omega)]
            congr 1
            omega
  simpa using key vs 0 cs (by simpa using hl)

theorem fold_splice' (off : Nat) (v : Value) (cs : Array Value) (hl : off + v.cells.toList.length ≤ cs.size) :
    v.cells.zipIdx.foldl (fun cs (x : Value × Nat) => cs.setIfInBounds (off + x.2) x.1) cs = (splice cs.toList off v.cells.toList).toArray := by
  rw [← Array.foldl_toList, Array.toList_zipIdx]
  exact fold_splice off v.cells.toList cs hl

theorem fillL_sound (place : Nat → Option (Nat × Nat)) : ∀ (ps : List (Nat × Value)) (cells : List Value) {r : List Value}, fillL place cells ps = some r → Instr.fill place cells.toArray ps = some r.toArray
  | [], cells, r, h => by simp only [fillL, Option.some.injEq] at h; subst h; rfl
  | (i, v) :: ps, cells, r, h => by
    simp only [fillL] at h
    unfold Instr.fill
    cases hp : place i with
    | none => simp [hp] at h
    | some q =>
      obtain ⟨off, size⟩ := q
      simp only [hp] at h ⊢
      cases hc : (v.cells.toList.length == size && decide (off + size ≤ cells.length)) with
      | false => simp only [hc, cond_false, reduceCtorEq] at h
      | true =>
        simp only [hc, cond_true] at h
        simp only [Bool.and_eq_true, beq_iff_eq, decide_eq_true_eq] at hc
        have h1 : v.cells.size = size := by simpa using hc.1
        rw [if_neg (by simp [h1]; omega)]
        rw [show v.cells.zipIdx.foldl (fun cs (x : Value × Nat) => cs.setIfInBounds (off + x.2) x.1) cells.toArray = (splice cells off v.cells.toList).toArray from
          fold_splice' off v cells.toArray (by simp [h1]; omega)]
        exact fillL_sound place ps _ h

theorem evalBuild_sound {P : Program} {t : TypeId} {parts : List (Nat × Value)} {v : Value} (e : evalBuild P t parts = some v) : ∃ cs, P.built t parts = some cs ∧ v = .agg cs := by
  unfold evalBuild at e
  unfold Program.built
  cases hi : P.info? t with
  | none => simp [hi] at e
  | some it =>
    simp only [hi] at e
    cases hz : it.zero with
    | none => simp [hz] at e
    | some z =>
      simp only [hz] at e
      cases hu : P.underlying t with
      | none => simp [hu] at e
      | some d =>
        cases d <;> simp only [hu, reduceCtorEq] at e
        case array n el =>
          cases hie : P.info? el with
          | none => simp [hie] at e
          | some ie =>
            simp only [hie, Option.map_eq_some_iff] at e
            obtain ⟨cs, h1, rfl⟩ := e
            have := fillL_sound _ _ _ h1
            exact ⟨cs.toArray, by simp only [hz, hie]; simpa using this, rfl⟩
        case struct fields =>
          cases hp : fields.toList.mapM (fun f => (P.info? f.type).map fun i => (f.offset, i.size)) with
          | none => simp [hp] at e
          | some places =>
            simp only [hp, Option.map_eq_some_iff] at e
            obtain ⟨cs, h1, rfl⟩ := e
            have := fillL_sound _ _ _ h1
            refine ⟨cs.toArray, ?_, rfl⟩
            simp only [hz, hp]
            rw [← this]
            simp

theorem evalL_sound {P : Program} {o : Oper} {ρ : Operand → Value} {h : Heap} {w : World} {v : Value} (e : evalL P o.op ρ h = some v) (r : Rel h w) :
    (execOp ρ o).run P w = .ok (.value v) w := by
  obtain ⟨dst, op, ty, pos, after, guard⟩ := o
  simp only at e
  cases op <;> try (simp [evalL] at e; done)
  case move x => simp only [evalL, Option.some.injEq] at e; subst e; rfl
  case assign x => simp only [evalL, Option.some.injEq] at e; subst e; rfl
  case pick c a b =>
    simp only [evalL] at e
    cases hc : ρ c <;> simp [hc] at e
    rename_i x
    subst e
    cases x <;> simp [execOp, hc, asBool]
  case load t a =>
    simp only [evalL] at e
    split at e
    · rename_i b o ha
      simp [execOp, Instr.loadAt, ha, Instr.sureAddr, run_loadVar r e]
    · cases e
  case binOp op t x y yt =>
    simp only [evalL] at e
    cases hok : binOk P t (ρ x) (ρ y) with
    | false => simp [hok] at e
    | true =>
      simp only [hok, cond_true] at e
      have hg : (eqGuard op t x y (ρ x) (ρ y)).run P w = .ok () w := by
        refine eqGuard_plain w ⟨fun _ _ _ _ => trivial, ?_, ?_⟩
        · intro hx; simp [hx, evalBin] at e
        · intro k hx; simp [hx, evalBin] at e
      simp [execOp, hg, run_binOp hok e]
  case unOp op t x =>
    simp only [evalL, evalUn] at e
    split at e <;> simp at e <;> subst e <;> rename_i hx <;> simp [execOp, hx, Op.unary, Op.intArith]
  case convert s d x =>
    simp only [evalL] at e
    split at e <;> simp at e
    subst e
    rename_i k k' k'' n hs hd hx
    simp [execOp, convert, run_underlying hs, run_underlying hd, hx, Conv.intToInt]
  case makeFunc fn first captured =>
    simp only [evalL] at e
    cases hd : (first.toList ++ captured.toList).all (fun x => isDef (ρ x)) with
    | false => simp [hd] at e
    | true =>
      simp only [hd, cond_true, Option.some.injEq] at e
      subst e
      have h1 : first.map ρ = (first.toList.map ρ).toArray := by rw [← Array.toList_inj]; simp
      have h2 : captured.map ρ = (captured.toList.map ρ).toArray := by rw [← Array.toList_inj]; simp
      simp [execOp, Instr.makeFunc, ← h1, ← h2]
  case build t parts =>
    simp only [evalL] at e
    cases hd : parts.toList.all (fun p => isDef (ρ p.2)) with
    | false => simp only [hd, cond_false, reduceCtorEq] at e
    | true =>
      simp only [hd, cond_true] at e
      obtain ⟨cs, h1, rfl⟩ := evalBuild_sound e
      have h2 : (parts.map fun (p : Nat × Operand) => (p.1, ρ p.2)).toList = parts.toList.map fun p => (p.1, ρ p.2) := by simp
      have h3 := run_build w t (parts.map fun (p : Nat × Operand) => (p.1, ρ p.2)) cs (by rw [h2]; exact h1)
      simp only [execOp, Sem.run_bind, h3, Result.andThen_ok, Sem.run_pure]
  case fieldAddr s x f =>
    simp only [evalL] at e
    split at e
    · rename_i fs b o hs hx
      cases hf : fs[f]? with
      | none => simp [hf] at e
      | some fd =>
        cases hi : P.info? fd.type with
        | none => simp [hf, hi] at e
        | some i =>
          cases hz : (i.size != 0) with
          | false => simp [hf, hi, hz] at e
          | true =>
            simp only [hf, hi, hz, cond_true, Option.some.injEq] at e
            subst e
            have hz' : i.size ≠ 0 := by simpa using hz
            simp [execOp, Instr.fieldAt, run_underlying hs, hf, hx, Instr.sureAddr, fieldPlace, sizeOf, typeInfo, hi, hz', add_plain]
    · cases e
  case field s x f =>
    simp only [evalL] at e
    split at e
    · rename_i fs cs hs hx
      cases hf : fs[f]? with
      | none => simp [hf] at e
      | some fd =>
        simp only [hf] at e
        simp [execOp, Instr.field, run_underlying hs, hf, hx, asAgg, run_part e]
    · cases e
  case indexAddr t x i =>
    simp only [evalL] at e
    split at e
    · rename_i el k n ht hi
      split at e
      · rename_i ie A l c hie hx
        split at e
        · rename_i b o
          split at e <;> simp at e
          subst e
          rename_i hn
          simp [execOp, Instr.indexAt, hi, asIntOf, run_underlying ht, hx, hn, sizeOf, typeInfo, hie, add_plain]
        · cases e
      · cases e
    · rename_i len el k n ht hi
      split at e
      · rename_i ie b o hie hx
        split at e <;> simp at e
        subst e
        rename_i hn
        simp [execOp, Instr.indexAt, hi, asIntOf, run_underlying ht, hx, Instr.sureAddr, hn, sizeOf, typeInfo, hie, add_plain]
      · cases e
    · cases e
  case index t x i =>
    simp only [evalL] at e
    split at e
    · rename_i s k n ht hx hi
      split at e <;> simp at e
      subst e
      rename_i hn
      have h1 : n.toNat < s.size := by omega
      have h2 : s[n.toNat]? = some (s.data.toList.getD n.toNat 0) := by
        have h3 : n.toNat < s.data.size := h1
        simp [getElem?_def, h1, h3, List.getD_eq_getElem?_getD]
        rfl
      simp only [execOp, Instr.index, hi, asIntOf, Sem.run_bind, Sem.run_pure, Result.andThen_ok, run_underlying ht, hx, hn.1, h2, if_true]
      simp
    · rename_i len el cs k n ht hx hi
      split at e <;> try (cases e; done)
      rename_i hn
      split at e <;> try (cases e; done)
      rename_i ie hie
      simp [execOp, Instr.index, hi, asIntOf, run_underlying ht, hx, hn, sizeOf, typeInfo, hie, run_part e]
    · cases e
  case extract x i =>
    simp only [evalL] at e
    split at e
    · rename_i vs hx
      have : vs[i]? = some v := by simpa using e
      simp [execOp, Instr.extract, hx, this]
    · cases e
  case nilCheck x =>
    simp only [evalL] at e
    split at e <;> simp at e <;> subst e <;> rename_i hx <;> simp [execOp, hx]
  case slice t x lo hi mx =>
    simp only [evalL] at e
    split at e
    · rename_i el A l c ht hx
      cases hie : P.info? el with
      | none => simp [hie] at e
      | some ie =>
        simp only [hie, evalL.evalSlice, Option.bind_eq_some_iff] at e
        obtain ⟨m, h1, hh, h2, ll, h3, h4⟩ := e
        have hb := run_sliceBounds (P := P) (b := true) w h1 h2 h3
        split at h4
        · rename_i b o
          simp only [Option.some.injEq] at h4
          subst h4
          simp [execOp, Instr.sliceAt, Instr.slice, run_underlying ht, hx, hb, sizeOf, typeInfo, hie, add_plain]
          split <;> simp_all
        · simp only [Option.some.injEq] at h4
          subst h4
          simp [execOp, Instr.sliceAt, Instr.slice, run_underlying ht, hx, hb, sizeOf, typeInfo, hie]
        · cases h4
    · rename_i s ht hx
      split at e
      · simp only [evalL.evalSub, Option.bind_eq_some_iff] at e
        obtain ⟨hh, h2, ll, h3, h4⟩ := e
        have hb := run_sliceBounds (P := P) (b := false) (l := s.size) (c := s.size) (mx := none) w rfl (by simpa using h2) h3
        simp only [Option.some.injEq] at h4
        subst h4
        simp [execOp, Instr.sliceAt, Instr.slice, run_underlying ht, hx, hb]
      · cases e
    · cases e
  case call c =>
    obtain ⟨callee, args, argTypes⟩ := c
    cases callee <;> try (simp [evalL] at e; done)
    rename_i b
    cases b <;> try (simp [evalL] at e; done)
    case max =>
      simp only [evalL] at e
      split at e <;> try (simp at e; done)
      rename_i x y hx
      have hx' : args = #[x, y] := by rw [← Array.toList_inj]; simpa using hx
      subst hx'
      split at e <;> simp at e
      subst e
      rename_i hxv hyv
      simp [execOp, resolve, invoke, builtin, Builtin.max_, Builtin.max2, hxv, hyv]
    case min =>
      simp only [evalL] at e
      split at e <;> try (simp at e; done)
      rename_i x y hx
      have hx' : args = #[x, y] := by rw [← Array.toList_inj]; simpa using hx
      subst hx'
      split at e <;> simp at e
      subst e
      rename_i hxv hyv
      simp [execOp, resolve, invoke, builtin, Builtin.min_, Builtin.min2, hxv, hyv]
    all_goals
      simp only [evalL] at e
      split at e <;> try (simp at e; done)
      rename_i x t hx ht
      have hx' : args = #[x] := by rw [← Array.toList_inj]; simpa using hx
      have ht' : argTypes = #[t] := by rw [← Array.toList_inj]; simpa using ht
      subst hx' ht'
    · split at e <;> simp at e
      subst e
      rename_i hu hxv
      simp [execOp, resolve, invoke, builtin, Builtin.cap_, run_underlying hu, hxv, goInt]
    · split at e
      · rename_i hu hxv
        simp at e; subst e
        simp [execOp, resolve, invoke, builtin, Builtin.len_, run_underlying hu, hxv, goInt]
      · rename_i hu hxv
        simp at e; subst e
        simp [execOp, resolve, invoke, builtin, Builtin.len_, run_underlying hu, hxv, goInt]
      · rename_i hu
        simp at e; subst e
        simp [execOp, resolve, invoke, builtin, Builtin.len_, run_underlying hu, goInt]
      · cases e

end Go.HL
