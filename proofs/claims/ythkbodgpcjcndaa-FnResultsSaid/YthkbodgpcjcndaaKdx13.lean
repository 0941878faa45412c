/- Whatever the code, the law of results answers true: points of all teams are twice the meetings played, rankings have all teams, and the teams with the most points can be first when all rounds are played; no condition. -/
import Derived.Test.YthkbodgpcjcndaaKdx12
/- Regions whose order is open, III: the checks, and the state of a run half done. -/
set_option linter.unusedVariables false
set_option linter.unusedSimpArgs false
namespace Go.HL

def ordB (B : Array Nat) (i j : Nat) : Bool := (B.getD j 0).testBit i
def looks (ops : Array Oper) (j : Nat) : List Tmp := match ops[j]? with | some o => o.looksAt ops | none => []
def lightI (ops : Array Oper) (i : Nat) : Bool := match ops[i]? with | some o => isLight o.op | none => true
def freeI (ops : Array Oper) (i : Nat) : Bool := match ops[i]? with | some o => isFree o.op | none => false
def loadI (ops : Array Oper) (i : Nat) : Bool := match ops[i]? with | some o => isLoad o.op | none => false
def allocI (ops : Array Oper) (i : Nat) : Bool := match ops[i]? with | some o => isAllocOp o.op | none => false
def srcOf (ops : Array Oper) (x : Nat) : Option Nat := (List.range ops.size).find? fun p => dstOf ops p == some x

/-- No later one is ahead of an earlier one; none stands twice. -/
def linB (B : Array Nat) : List Nat → Bool
  | [] => true
  | i :: l => !ordB B i i && l.all (fun j => !ordB B j i && j != i) && linB B l
def uniqB (ops : Array Oper) (B : Array Nat) : Bool :=
  (List.range ops.size).all fun j => (List.range ops.size).all fun p => p == j || match dstOf ops p with
    | some d => (dstOf ops j != some d) && (!(looks ops j).contains d || ordB B p j || ordB B j p)
    | none => true
def guardB (ops : Array Oper) (B : Array Nat) : Bool :=
  (List.range ops.size).all fun j => match ops[j]? with
    | some o => match o.guard with
      | some (g, _) => ordB B g j && (dstOf ops g).isSome
      | none => true
    | none => true
def edgesB (ops : Array Oper) (B : Array Nat) : Bool :=
  (List.range ops.size).all fun j => match ops[j]? with
    | some o => o.after.toList.all fun e => !Region.binds .any e || (Nat.blt e.on ops.size && ordB B e.on j)
    | none => true
def boxI (ops : Array Oper) (B : Array Nat) (j k : Nat) : Bool :=
  match ops[j]?, ops[k]? with
  | some oj, some ok => match oj.op, ok.op, oj.dst, ok.dst, oj.guard, ok.guard with
    | .alloc _, .store _ (.tmp d) x, some d', none, none, none => d == d' && (match x with | .tmp y => y != d | _ => true) && ordB B j k && j != k &&
        (List.range ops.size).all fun m => m == k || !(looks ops m).contains d
    | _, _, _, _, _, _ => false
  | _, _ => false
def gateB (ops : Array Oper) (B : Array Nat) (i : Nat) (done : List Nat) : Bool := done.all fun m => lightI ops m || ordB B m i
def readyB (ops : Array Oper) (B : Array Nat) (i : Nat) (but : Option Nat) (done : List Nat) : Bool :=
  (looks ops i).all fun x => some x == but || (match srcOf ops x with | some p => !ordB B p i || done.contains p | none => true)
def stableB (ops : Array Oper) (B : Array Nat) (m : Nat) (done : List Nat) : Bool :=
  (looks ops m).all fun x => done.all fun p => dstOf ops p != some x || ordB B p m
def itemsB (ops : Array Oper) (B : Array Nat) : List Nat → List Nat → List Nat → List FI → Bool
  | _, _, _, [] => true
  | done, pres, prebs, .op i rr :: r => readyB ops B i none done && (freeI ops i || (bif allocI ops i then pres.contains i else gateB ops B i done)) &&
      (lightI ops i || allocI ops i || done.all fun m => !loadI ops m || ordB B m i || (rr.contains m && stableB ops B m done)) && itemsB ops B (done ++ [i]) pres prebs r
  | done, pres, prebs, .pre i :: r => readyB ops B i none done && gateB ops B i done && allocI ops i && itemsB ops B done (i :: pres) prebs r
  | done, pres, prebs, .preb j k :: r => boxI ops B j k && readyB ops B k (dstOf ops j) done && gateB ops B k done && itemsB ops B done pres (k :: prebs) r
  | done, pres, prebs, .abox j k :: r => boxI ops B j k && readyB ops B k (dstOf ops j) done && pres.contains j && prebs.contains k && itemsB ops B (done ++ [j, k]) pres prebs r
  | done, pres, prebs, .split _ :: r => itemsB ops B done pres prebs r
  | done, pres, prebs, .forget _ :: r => itemsB ops B done pres prebs r
def okF (ops : Array Oper) (F : List FI) : Bool :=
  let B := Region.before ops
  linB B (execs F) && (execs F).all (fun i => decide (i < ops.size)) && (List.range ops.size).all (fun i => (execs F).contains i) && uniqB ops B && guardB ops B && edgesB ops B && Region.noSelect ops &&
    itemsB ops B [] [] [] F
def drawOk (ops : Array Oper) (its : Its) : Bool := match its.toF ops with | some F => okF ops F | none => false

/-! ### Orders -/
theorem linB_lt {B : Array Nat} : ∀ {l : List Nat}, linB B l = true → ∀ i, i ∈ l → ordB B i i = false
  | [], _, i, hi => by cases hi
  | x :: l, h, i, hi => by
    simp only [linB, Bool.and_eq_true, Bool.not_eq_true'] at h
    rcases List.mem_cons.1 hi with rfl | hi
    · exact h.1.1
    · exact linB_lt h.2 i hi
theorem linB_app {B : Array Nat} : ∀ {l r : List Nat}, linB B (l ++ r) = true → ∀ i, i ∈ l → ∀ j, j ∈ r → ordB B j i = false ∧ j ≠ i
  | [], r, h, i, hi, _, _ => by cases hi
  | x :: l, r, h, i, hi, j, hj => by
    simp only [List.cons_append, linB, Bool.and_eq_true, Bool.not_eq_true', List.all_eq_true, bne_iff_ne, ne_eq] at h
    rcases List.mem_cons.1 hi with rfl | hi
    · exact h.1.2 j (by simp [hj])
    · exact linB_app h.2 i hi j hj
theorem linB_anti {B : Array Nat} : ∀ {l : List Nat}, linB B l = true → ∀ i, i ∈ l → ∀ j, j ∈ l → ordB B i j = true → ordB B j i = false
  | [], _, i, hi, _, _, _ => by cases hi
  | x :: l, h, i, hi, j, hj, ho => by
    have h0 := h
    simp only [linB, Bool.and_eq_true, Bool.not_eq_true', List.all_eq_true, bne_iff_ne, ne_eq] at h
    rcases List.mem_cons.1 hi with e1 | hi1
    · rcases List.mem_cons.1 hj with e2 | hj1
      · rw [e1, e2, h.1.1] at ho; cases ho
      · rw [e1]; exact (h.1.2 j hj1).1
    · rcases List.mem_cons.1 hj with e2 | hj1
      · rw [e2, (h.1.2 i hi1).1] at ho; cases ho
      · exact linB_anti h.2 i hi1 j hj1 ho

/-- What is done hangs on nothing that is not. -/
theorem before_closed {ops : Array Oper} {D : Nat → Prop} (hD : ∀ j o, ops[j]? = some o → D j → ∀ e ∈ o.after, Region.binds .any e = true → D e.on) :
    ∀ i j, ordB (Region.before ops) i j = true → D j → D i := by
  intro i
  have inner : ∀ (acc : Array Nat) (l : List Edge) (s : Nat), (∀ j < acc.size, D j → (acc.getD j 0).testBit i = true → D i) → (∀ e ∈ l, Region.binds .any e = true → D e.on) →
      (s.testBit i = true → D i) → ((l.foldl (fun s e => if Region.binds .any e then s ||| 2 ^ e.on ||| acc.getD e.on 0 else s) s).testBit i = true → D i) := by
    intro acc l
    induction l with
    | nil => intro s _ _ hs; exact hs
    | cons e l ih =>
      intro s hacc hl hs
      rw [List.foldl_cons]
      refine ih _ hacc (fun e' he' => hl e' (by simp [he'])) ?_
      split
      · rename_i hb
        have he := hl e (by simp) hb
        intro ht
        rw [Nat.testBit_or, Nat.testBit_or, Bool.or_eq_true, Bool.or_eq_true] at ht
        rcases ht with (ht | ht) | ht
        · exact hs ht
        · rw [Nat.testBit_two_pow] at ht
          have : e.on = i := by simpa using ht
          exact this ▸ he
        · rcases Nat.lt_or_ge e.on acc.size with h | h
          · exact hacc e.on h he ht
          · rw [Array.getD_eq_getD_getElem?, Array.getElem?_eq_none h] at ht
            simp at ht
      · exact hs
  have outer : ∀ (l : List Oper) (acc : Array Nat), (∀ q, l[q]? = ops[acc.size + q]?) → (∀ j < acc.size, D j → (acc.getD j 0).testBit i = true → D i) →
      ∀ j, D j → ((l.foldl (fun acc o => acc.push (o.after.foldl (fun s e => if Region.binds .any e then s ||| 2 ^ e.on ||| acc.getD e.on 0 else s) 0)) acc).getD j 0).testBit i = true → D i := by
    intro l
    induction l with
    | nil =>
      intro acc _ hacc j hj ht
      rcases Nat.lt_or_ge j acc.size with h | h
      · exact hacc j h hj ht
      · rw [List.foldl_nil, Array.getD_eq_getD_getElem?, Array.getElem?_eq_none h] at ht
        simp at ht
    | cons o l ih =>
      intro acc hq hacc j hj ht
      rw [List.foldl_cons] at ht
      refine ih _ (fun q => ?_) ?_ j hj ht
      · have := hq (q + 1)
        rw [List.getElem?_cons_succ] at this
        rw [this, Array.size_push]
        congr 1; omega
      · intro q hqs hDq hb
        rw [Array.size_push] at hqs
        by_cases hlt : q < acc.size
        · have : (acc.push (o.after.foldl (fun s e => if Region.binds .any e then s ||| 2 ^ e.on ||| acc.getD e.on 0 else s) 0)).getD q 0 = acc.getD q 0 := by
            simp only [Array.getD_eq_getD_getElem?, Array.getElem?_push]
            rw [if_neg (by omega)]
          rw [this] at hb
          exact hacc q hlt hDq hb
        · have hqe : q = acc.size := by omega
          subst hqe
          have : (acc.push (o.after.foldl (fun s e => if Region.binds .any e then s ||| 2 ^ e.on ||| acc.getD e.on 0 else s) 0)).getD acc.size 0 = o.after.foldl (fun s e => if Region.binds .any e then s ||| 2 ^ e.on ||| acc.getD e.on 0 else s) 0 := by
            simp [Array.getD_eq_getD_getElem?]
          rw [this, ← Array.foldl_toList] at hb
          have ho : ops[acc.size]? = some o := by simpa using (hq 0).symm
          exact inner acc o.after.toList 0 hacc (fun e he hbn => hD acc.size o ho hDq e (by simpa using he) hbn) (by simp) hb
  intro j hord hj
  unfold ordB Region.before at hord
  rw [← Array.foldl_toList] at hord
  exact outer ops.toList #[] (by simp) (by simp) j hj hord

/-! ### Values -/
section
open Classical
variable (ops : Array Oper) (a0 : Array Value) (V : Nat → Value)
def opvT (i x : Nat) : Value :=
  match srcOf ops x with
  | some p => if ordB (Region.before ops) p i = true ∧ x < a0.size then V p else a0.getD x undef
  | none => a0.getD x undef
def opv (i : Nat) : Operand → Value
  | .tmp x => opvT ops a0 V i x
  | .const v => v
  | .global g => .pointer (some ⟨g, 0, none⟩)
  | .func f => .func (.func f) #[] #[]
noncomputable def cur (S : Nat → Prop) (x : Nat) : Value :=
  match srcOf ops x with
  | some p => if S p ∧ x < a0.size then V p else a0.getD x undef
  | none => a0.getD x undef
def wantV (i : Nat) : Bool :=
  match ops[i]? with
  | some o => match o.guard with
    | none => true
    | some (g, want) => match dstOf ops g with
      | some d => (match opvT ops a0 V i d with | .bool b => some b | _ => none) == some want
      | none => false
  | none => true
end
/-- What an operation sees of its operands. -/
def res (o : Oper) (ρ : Operand → Value) : Operand → Value
  | .tmp t => bif o.op.operands.toList.any (fun | .tmp t' => t' == t | _ => false) then ρ (.tmp t) else unk
  | x => ρ x
theorem res_eq {o : Oper} {ρ : Operand → Value} : ∀ x ∈ o.op.operands, ρ x = res o ρ x := by
  intro x hx
  cases x with
  | tmp t =>
    have : o.op.operands.toList.any (fun | .tmp t' => t' == t | _ => false) = true := by
      rw [List.any_eq_true]
      exact ⟨.tmp t, by simpa using hx, by simp⟩
    simp only [res, this, cond_true]
  | _ => rfl
theorem looks_operand {ops : Array Oper} {o : Oper} {t : Nat} (h : o.op.operands.toList.any (fun | .tmp t' => t' == t | _ => false) = true) : t ∈ o.looksAt ops := by
  rw [List.any_eq_true] at h
  obtain ⟨x, hx, hx2⟩ := h
  cases x <;> simp at hx2
  subst hx2
  exact List.mem_append_left _ (List.mem_filterMap.2 ⟨_, hx, rfl⟩)
theorem res_le {ops : Array Oper} {o : Oper} {ρ ρ' : Operand → Value} (h : ∀ t ∈ o.looksAt ops, Le (ρ (.tmp t)) (ρ' (.tmp t))) (hc : ∀ x, (∀ t, x ≠ .tmp t) → ρ x = ρ' x) : ∀ x, Le (res o ρ x) (res o ρ' x) := by
  intro x
  cases x with
  | tmp t =>
    simp only [res]
    cases ha : o.op.operands.toList.any (fun | .tmp t' => t' == t | _ => false) with
    | false => exact .inl rfl
    | true => exact h t (looks_operand ha)
  | const v => exact .inr (hc _ (by simp))
  | global g => exact .inr (hc _ (by simp))
  | func f => exact .inr (hc _ (by simp))
theorem res_le' {ops : Array Oper} {o : Oper} {ρ ρ' : Operand → Value} (h : ∀ t ∈ o.looksAt ops, Le (ρ (.tmp t)) (ρ' (.tmp t))) (hc : ∀ x, (∀ t, x ≠ .tmp t) → ρ x = ρ' x) : ∀ x, Le (res o ρ x) (ρ' x) := by
  intro x
  cases x with
  | tmp t =>
    simp only [res]
    cases ha : o.op.operands.toList.any (fun | .tmp t' => t' == t | _ => false) with
    | false => exact .inl rfl
    | true => exact h t (looks_operand ha)
  | const v => exact .inr (hc _ (by simp))
  | global g => exact .inr (hc _ (by simp))
  | func f => exact .inr (hc _ (by simp))

end Go.HL
