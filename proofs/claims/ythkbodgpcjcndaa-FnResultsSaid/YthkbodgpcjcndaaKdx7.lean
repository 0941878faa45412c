/- Whatever the code, the law of results answers true: points of all teams are twice the meetings played, rankings have all teams, and the teams with the most points can be first when all rounds are played; no condition. -/
import Derived.Test.YthkbodgpcjcndaaKdx6
/- The formula of a text over a sub-heap: operations, regions, statements. Definitions. -/
set_option linter.unusedVariables false
set_option linter.unusedSimpArgs false
namespace Go.HL

/-- A frame's operand: undef where nothing is known. -/
def ev (t : List Value) : Operand → Value
  | .tmp i => t.getD i undef
  | .const v => v
  | .global g => .pointer (some ⟨g, 0, none⟩)
  | .func f => .func (.func f) #[] #[]
def putF (t : List Value) : Option Nat → Value → List Value
  | some d, v => t.set d v
  | none, _ => t

/-- Operations that change nothing. -/
def isLight : Op → Bool
  | .move _ | .assign _ | .pick .. | .load .. | .binOp .. | .unOp .. | .convert .. | .makeFunc .. | .build .. | .fieldAddr .. | .field .. | .indexAddr .. | .index .. | .extract .. | .nilCheck _ | .slice .. => true
  | .call { callee := .builtin .len, .. } | .call { callee := .builtin .cap, .. } | .call { callee := .builtin .max, .. } | .call { callee := .builtin .min, .. } => true
  | _ => false

def SSl (size : Nat) (A : Option Addr) (l c : Nat) (lo hi mx : Option Value) (K : Value → Prop) : Prop :=
  ∃ v, evalL.evalSlice size A l c lo hi mx = some v ∧ K v

/-- What an operation asks, its result told by its kind. -/
def semOp (P : Program) (op : Op) (rk : RK) (ρ : Operand → Value) (h : Heap) (K : Value → Heap → Prop) : Prop :=
  match op with
  | .load t a => match ρ a with
    | .pointer (some ⟨b, o, none⟩) => match isAggT P t, P.info? t, rk with
      | some true, some i, .one ak => ak.exL fun cs => h.getN b o i.size = some cs ∧ K (.agg cs.toArray) h
      | some false, _, rk => rk.ex fun v => h.get b o = some v ∧ K v h
      | _, _, _ => False
    | _ => False
  | .binOp op t x y yt => match op, ρ x, ρ y with
    | .quo, .int k a, .int k' b => bif decide (k = k') then b ≠ 0 ∧ K (.int k (k.wrap (a.tdiv b))) h else False
    | .rem, .int k a, .int k' b => bif decide (k = k') then b ≠ 0 ∧ K (.int k (a.tmod b)) h else False
    | .shr, .int k a, .int k' b => ¬ (b < 0) ∧ K (.int k (a.fdiv (2 ^ (min b.toNat k.bits)))) h
    | .shl, .int k a, .int k' b => ¬ (b < 0) ∧ K (.int k (k.wrap (a * 2 ^ (min b.toNat k.bits)))) h
    | _, _, _ => match evalL P (.binOp op t x y yt) ρ h with | some v => K v h | none => False
  | .indexAddr t x i => match P.underlying t, ρ i with
    | some (.slice e), .int _ n => match P.info? e, ρ x with
      | some ie, .slice A l _ => ∃ b o, A = some ⟨b, o, none⟩ ∧ (0 ≤ n ∧ n < l) ∧ K (.pointer (some ⟨b, o + n.toNat * ie.size, none⟩)) h
      | _, _ => False
    | some (.array len e), .int _ n => match P.info? e, ρ x with
      | some ie, .pointer (some ⟨b, o, none⟩) => (0 ≤ n ∧ n < len) ∧ K (.pointer (some ⟨b, o + n.toNat * ie.size, none⟩)) h
      | _, _ => False
    | _, _ => False
  | .index t x i => rk.ex fun v => evalL P (.index t x i) ρ h = some v ∧ K v h
  | .slice t x lo hi mx => rk.ex fun v => evalL P (.slice t x lo hi mx) ρ h = some v ∧ K v h
  | .call c => bif isLight (.call c) then (match evalL P (.call c) ρ h with | some v => K v h | none => False)
    else match c.callee with
      | .value _ => semX P (.call c) ρ h fun v h' => rk.ex fun v' => v = v' ∧ K v' h'
      | _ => semX P (.call c) ρ h fun v h' => rk.ex fun v' => v = v' ∧ K v' h'
  | op => bif isLight op then (match evalL P op ρ h with | some v => K v h | none => False) else semX P op ρ h K

/-- What an operation that makes one block asks; then p. -/
def preThen (P : Program) (op : Op) (ρ : Operand → Value) (p : Prop) : Prop :=
  match op with
  | .alloc e => match P.info? e with
    | some i => match i.zero with
      | some _ => p
      | none => False
    | none => False
  | .box e x => bif isDef (ρ x) then p else False
  | .makeSlice t l c => match P.underlying t with
    | some (.slice e) => match P.info? e with
      | some i => match i.zero, ρ l, ρ c with
        | some z, .int _ n, .int _ m => bif z.cells.toList.length == i.size then
            n = m ∧ 0 ≤ n ∧ n * i.bytes ≤ 281474976710656 ∧ n ≤ 9223372036854775807 ∧ p
          else False
        | _, _, _ => False
      | none => False
    | _ => False
  | .buildSlice t len parts => match P.underlying t with
    | some (.slice e) => match P.info? e with
      | some i => match i.zero with
        | some z => bif (parts.toList.map (·.1) == List.range len) && parts.toList.all (fun p => isDef (ρ p.2)) && decide (len * i.size ≤ 16777216) && (z.cells.toList.length == i.size) then
            partsThen ρ i.size p parts.toList
          else False
        | none => False
      | none => False
    | _ => False
  | _ => False

/-- Every cell of it is one cell; then p. -/
def cellsOne (v : Value) (p : Prop) : Prop :=
  match v with
  | .agg cs => (∀ u ∈ cs.toList, u.oneCell' = true) ∧ p
  | .tuple _ => False
  | _ => p
/-- A new variable (oj) and the store of its first value (ok), as one: what they ask; then p of the cells. -/
def boxThen (P : Program) (oj ok : Op) (ρ : Operand → Value) (p : List Value → Prop) : Prop :=
  match oj, ok with
  | .alloc e, .store ty _ x => match P.info? e, P.info? ty with
    | some i, some i' => match i.zero with
      | some z => bif (z.cells.toList.length == i'.size) && isDef (ρ x) then sizeOk (ρ x) i'.size (cellsOne (ρ x) (p (ρ x).cells.toList)) else False
      | none => False
    | _, _ => False
  | _, _ => False

/-- The items of a region, in an order that its edges allow: an operation (with the reads that must read as before behind it), a case split, and a part whose ways meet again. -/
inductive Its where
  | nil
  | op (i : Nat) (rk : RK) (rr : List Nat) (rest : Its)
  | split (t : Nat) (rest : Its)
  | pre (i : Nat) (rest : Its)
  | preb (j k : Nat) (rest : Its)
  | abox (j k : Nat) (rest : Its)
  | join (group : Its) (mk : List Nat) (outs : List (Nat × AK)) (rest : Its)

def keepL (live : List Nat) : Nat → List Value → List Value
  | _, [] => []
  | i, v :: vs => (bif live.contains i then v else unk) :: keepL live (i + 1) vs
def maskL (ts : List Nat) : Nat → List Value → List Value
  | _, [] => []
  | i, v :: vs => (bif ts.contains i then unk else v) :: maskL ts (i + 1) vs
def setL : List (Nat × AK) → List Value → List Value → List Value
  | (i, _) :: os, v :: vs, t => setL os vs (t.set i v)
  | _, _, t => t
def allK : List (Nat × AK) → (List Value → Prop) → Prop
  | [], p => p []
  | (_, .one (.int k)) :: os, p => ∀ n : Int, allK os fun vs => p (.int k n :: vs)
  | (_, .one .bool) :: os, p => ∀ b : Bool, allK os fun vs => p (.bool b :: vs)
  | (_, .one .str) :: os, p => ∀ s : ByteArray, allK os fun vs => p (.string s :: vs)
  | (_, .one .slice) :: os, p => ∀ (A : Option Addr) (l c : Nat), allK os fun vs => p (.slice A l c :: vs)
  | (_, .ints k n) :: os, p => ∀ xs : List Int, allK os fun vs => p (.agg (xs.map (Value.int k)).toArray :: vs)
  | (_, _) :: os, p => ∀ v : Value, allK os fun vs => p (v :: vs)

def guardOf (ops : Array Oper) (o : Oper) (t : List Value) : Option Bool :=
  match o.guard with
  | none => some true
  | some (g, want) => match ops[g]? with
    | some og => match og.dst with
      | some d => match t.getD d undef with
        | .bool b => some (b == want)
        | .tuple ⟨[]⟩ => some false
        | _ => none
      | none => none
    | none => none

/-- A read gives this. -/
def rdEq (P : Program) (op : Op) (ρ : Operand → Value) (h : Heap) (v : Value) : Prop :=
  match op with
  | .load ty a => match ρ a with
    | .pointer (some ⟨b, o, none⟩) => match isAggT P ty, P.info? ty with
      | some true, some i => match v with
        | .agg cs => h.getN b o i.size = some cs.toList
        | _ => False
      | some false, _ => h.get b o = some v
      | _, _ => False
    | _ => False
  | _ => False
theorem rdEq_eval {P : Program} {op : Op} {ρ : Operand → Value} {h : Heap} {v : Value} (e : rdEq P op ρ h v) : evalL P op ρ h = some v := by
  cases op <;> simp only [rdEq] at e
  simp only [evalL]
  split at e
  · rename_i b o hb
    simp only [hb]
    split at e
    · rename_i i ha hi
      split at e
      · rename_i cs
        simp only [ha, hi, e, Option.map_some]
      · exact e.elim
    · rename_i ha
      simp only [ha, e]
    · exact e.elim
  · exact e.elim
def rrOne (P : Program) (ops : Array Oper) (i : Nat) (t : List Value) (h : Heap) : Prop :=
  match ops[i]? with
  | some o => match o.dst with
    | some d => match guardOf ops o t with
      | some true => bif isDef (t.getD d undef) then rdEq P o.op (ev t) h (t.getD d undef) else False
      | some false => True
      | none => False
    | none => False
  | none => False
def rrAnd (P : Program) (ops : Array Oper) (t : List Value) (h : Heap) (p : Prop) : List Nat → Prop
  | [] => p
  | i :: is => rrOne P ops i t h ∧ rrAnd P ops t h p is

def inF (t : List Value) : Option Nat → Bool
  | some d => Nat.blt d t.length
  | none => false
def semIts (P : Program) (ops : Array Oper) : Its → (List Value → Heap → Prop) → List Value → Heap → Prop
  | .nil, K, t, h => K t h
  | .op i rk rr rest, K, t, h => match ops[i]? with
    | some o => match guardOf ops o t with
      | some true => semOp P o.op rk (ev t) h fun v h' => rrAnd P ops (putF t o.dst v) h' (semIts P ops rest K (putF t o.dst v) h') rr
      | some false => semIts P ops rest K (putF t o.dst undef) h
      | none => False
    | none => False
  | .split x rest, K, t, h => match t.getD x undef with
    | .bool b => (b = true → semIts P ops rest K (t.set x (.bool true)) h) ∧ (b = false → semIts P ops rest K (t.set x (.bool false)) h)
    | .tuple ⟨[]⟩ => semIts P ops rest K t h
    | _ => False
  | .pre i rest, K, t, h => match ops[i]? with
    | some o => match guardOf ops o t with
      | some true => preThen P o.op (ev t) (semIts P ops rest K t h)
      | some false => semIts P ops rest K t h
      | none => False
    | none => False
  | .preb j k rest, K, t, h => match ops[j]?, ops[k]? with
    | some oj, some ok => bif inF t oj.dst then boxThen P oj.op ok.op (ev t) fun _ => semIts P ops rest K t h else False
    | _, _ => False
  | .abox j k rest, K, t, h => match ops[j]?, ops[k]? with
    | some oj, some ok => boxThen P oj.op ok.op (ev t) fun cs => SAlloc h cs fun b h' => semIts P ops rest K (putF t oj.dst (.pointer (some ⟨b, 0, none⟩))) h'
    | _, _ => False
  | .join g mk outs rest, K, t, h => ∀ k : List Value → Heap → Prop,
      (∀ h', allK outs fun vs => semIts P ops rest K (setL outs vs (maskL mk 0 t)) h' → k vs h') →
      semIts P ops g (fun t' h' => k (outs.map fun o => t'.getD o.1 undef) h') t h

/-- A text's shape, with what its regions and loops are told. -/
inductive RC where
  | skip | ret | exit
  | seq (a b : RC)
  | reg (its : Its)
  | cond (a b : RC)
  | block (a : RC)
  | loop (live : List Nat) (a : RC)
  | join (mk : List Nat) (outs : List (Nat × AK)) (a b : RC)

abbrev AQ := Exit → List Value → Heap → Prop

def thenQ (n : List Value → Heap → Prop) (Q : AQ) : AQ
  | .normal, t, h => n t h
  | e, t, h => Q e t h
def blockQ (id : Nat) (Q : AQ) : AQ
  | .exit i, t, h => bif i == id then Q .normal t h else Q (.exit i) t h
  | e, t, h => Q e t h

def TRel (t : List Value) (a : Array Value) : Prop := t.length = a.size ∧ ∀ (i : Nat) (v : Value), t[i]? = some v → ∃ v', a[i]? = some v' ∧ Le v v'

/-- What stands behind a text, to the machine. -/
def lift (Q : AQ) (h : Heap) (w : World) : Exit → Act → World → Prop :=
  fun e a w' => a.defers = [] ∧ ∃ t' h', TRel t' a.tmps ∧ Rel h' w' ∧ Fra h h' w w' ∧ Q e t' h'

/-- The slots that a text may write. -/
def modsOps (ops : Array Oper) : List Nat := ops.toList.filterMap (·.dst)
def mods : Code → List Nat
  | .seq a b => mods a ++ mods b
  | .region _ ops _ => modsOps ops
  | .cond _ a b => mods a ++ mods b
  | .block _ a => mods a
  | .loop a => mods a
  | _ => []
def agree (m : List Nat) (a a' : Array Value) : Prop := ∀ x : Nat, x ∉ m → a'[x]? = a[x]?

def Holds (P : Program) (c : Code) (Q : AQ) (t : List Value) (h : Heap) : Prop :=
  ∀ a w, TRel t a → Rel h w → c.wp P (fun e a' w' => lift Q h w e a' w' ∧ a'.tmps.size = a.size ∧ agree (mods c) a a'.tmps) { tmps := a, defers := [] } w

/-- The rounds of a loop, from the head of one on. -/
def Rounds (P : Program) (c : Code) (Q : Exit → Act → World → Prop) (a : Act) (w : World) : Prop :=
  ∀ (b : Frame) (k : List Item) (cs : List Frame), ∃ e a' w', Q e a' w' ∧ Arrives P (lone (b.at a (.code c :: .inLoop c :: k)) cs w) b k cs e a' w'
def Loops (P : Program) (c : Code) (Q : AQ) (t : List Value) (h : Heap) : Prop :=
  ∀ a w, TRel t a → Rel h w → Rounds P c (fun e a' w' => lift Q h w e a' w' ∧ a'.tmps.size = a.size ∧ agree (mods c) a a'.tmps) { tmps := a, defers := [] } w

def vc (P : Program) : Code → RC → AQ → List Value → Heap → Prop
  | .skip, .skip, Q, t, h => Q .normal t h
  | .ret, .ret, Q, t, h => Q .ret t h
  | .exit id, .exit, Q, t, h => Q (.exit id) t h
  | .seq a b, .seq ra rb, Q, t, h => vc P a ra (thenQ (fun t h => vc P b rb Q t h) Q) t h
  | .seq a b, .join mk outs ra rb, Q, t, h => ∀ k : List Value → Heap → Prop,
      (∀ h', allK outs fun vs => vc P b rb Q (setL outs vs (maskL mk 0 t)) h' → k vs h') →
      vc P a ra (thenQ (fun t' h' => k (outs.map fun o => t'.getD o.1 undef) h') Q) t h
  | .region _ ops _, .reg its, Q, t, h => semIts P ops its (fun t h => Q .normal t h) t h
  | .cond c a b, .cond ra rb, Q, t, h => match ev t c with
    | .bool x => (x = true → vc P a ra Q t h) ∧ (x = false → vc P b rb Q t h)
    | _ => False
  | .block id a, .block ra, Q, t, h => vc P a ra (blockQ id Q) t h
  | .loop a, .loop live ra, Q, t, h => Loops P a Q (keepL live 0 t) h
  | _, _, _, _, _ => False

/-- The values that a function hands back. -/
def resVals (P : Program) (t : List Value) (h : Heap) : List ResultVar → (List Value → Prop) → Prop
  | [], k => k []
  | .tmp i :: rs, k => bif isDef (t.getD i undef) then resVals P t h rs fun vs => k (t.getD i undef :: vs) else False
  | .cell a ty :: rs, k => match t.getD a undef with
    | .pointer (some ⟨b, o, none⟩) => match isAggT P ty, P.info? ty with
      | some true, some i => ∃ cs, h.getN b o i.size = some cs ∧ resVals P t h rs fun vs => k (.agg cs.toArray :: vs)
      | some false, _ => ∃ v, h.get b o = some v ∧ resVals P t h rs fun vs => k (v :: vs)
      | _, _ => False
    | _ => False
def retQ (P : Program) (rs : List ResultVar) (K : Value → Heap → Prop) : AQ
  | .ret, t, h => resVals P t h rs fun vs => K (match vs with | [v] => v | vs => .tuple vs.toArray) h
  | .normal, t, h => resVals P t h rs fun vs => K (match vs with | [v] => v | vs => .tuple vs.toArray) h
  | _, _, _ => False

end Go.HL
