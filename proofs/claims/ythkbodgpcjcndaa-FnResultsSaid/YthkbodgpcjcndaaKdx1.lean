/- Whatever the code, the law of results answers true: points of all teams are twice the meetings played, rankings have all teams, and the teams with the most points can be first when all rounds are played; no condition. -/
import Derived.Test.YthkbodgpcjcndaaKdx0
/- The operations of one region over a sub-heap: what each gives, and that the machine does it. -/
set_option linter.unusedVariables false
set_option linter.unusedSimpArgs false
namespace Go.HL

/-- Nothing is known of a slot. -/
def unk : Value := .chan none
/-- What is known of a slot: nothing (unk), or its value. -/
def Le (v v' : Value) : Prop := v = unk ∨ v = v'
theorem Le.refl (v : Value) : Le v v := .inr rfl
theorem Le.unk (v : Value) : Le unk v := .inl rfl
theorem Le.trans {a b c : Value} (h : Le a b) (k : Le b c) : Le a c := by
  rcases h with rfl | rfl
  · exact .inl rfl
  · exact k

/-- Is something known of it? -/
def isDef : Value → Bool
  | .tuple ⟨[]⟩ => false
  | .chan none => false
  | _ => true
theorem Le.eq {v v' : Value} (h : Le v v') (hd : isDef v = true) : v = v' := by
  rcases h with rfl | rfl
  · simp [isDef, HL.unk] at hd
  · rfl

theorem Le.none {v' : Value} (h : Le (.tuple ⟨[]⟩) v') : v' = .tuple ⟨[]⟩ := by
  rcases h with h | h
  · cases h
  · exact h.symm

/-! ### Kinds -/
inductive CK where
  | int (k : IntKind) | bool | str | slice | ptr | func | any
def CK.ex : CK → (Value → Prop) → Prop
  | .int k, p => ∃ n : Int, p (.int k n)
  | .bool, p => ∃ b : Bool, p (.bool b)
  | .str, p => ∃ s : ByteArray, p (.string s)
  | .slice, p => ∃ (A : Option Addr) (l c : Nat), p (.slice A l c)
  | .ptr, p => ∃ b o : Nat, p (.pointer (some ⟨b, o, none⟩))
  | .func, p => ∃ (f : FuncId) (caps : Array Value), p (.func (.func f) #[] caps)
  | .any, p => ∃ v, p v
theorem CK.ex_imp {p : Value → Prop} : ∀ k : CK, k.ex p → ∃ v, p v
  | .int k, ⟨n, h⟩ => ⟨_, h⟩
  | .bool, ⟨n, h⟩ => ⟨_, h⟩
  | .str, ⟨n, h⟩ => ⟨_, h⟩
  | .slice, ⟨A, l, c, h⟩ => ⟨_, h⟩
  | .ptr, ⟨b, o, h⟩ => ⟨_, h⟩
  | .func, ⟨f, c, h⟩ => ⟨_, h⟩
  | .any, ⟨v, h⟩ => ⟨v, h⟩
def exRow : List CK → (List Value → Prop) → Prop
  | [], p => p []
  | c :: cs, p => c.ex fun v => exRow cs fun vs => p (v :: vs)
theorem exRow_imp : ∀ (cs : List CK) {p : List Value → Prop}, exRow cs p → ∃ vs, p vs
  | [], p, h => ⟨[], h⟩
  | c :: cs, p, h => by
    obtain ⟨v, h1⟩ := c.ex_imp h
    obtain ⟨vs, h2⟩ := exRow_imp cs h1
    exact ⟨_, h2⟩
inductive AK where
  | one (c : CK) | ints (k : IntKind) (n : Nat) | row (cs : List CK)
def AK.ex : AK → (Value → Prop) → Prop
  | .one c, p => c.ex p
  | .ints k n, p => ∃ xs : List Int, xs.length = n ∧ p (.agg (xs.map (Value.int k)).toArray)
  | .row cs, p => exRow cs fun vs => p (.agg vs.toArray)
/-- The same, of the cells. -/
def AK.exL : AK → (List Value → Prop) → Prop
  | .one c, p => c.ex fun v => p [v]
  | .ints k n, p => ∃ xs : List Int, xs.length = n ∧ p (xs.map (Value.int k))
  | .row cs, p => exRow cs p
theorem AK.exL_imp {p : List Value → Prop} : ∀ k : AK, k.exL p → ∃ vs, p vs
  | .one c, h => let ⟨v, h⟩ := c.ex_imp h; ⟨_, h⟩
  | .ints k n, ⟨xs, _, h⟩ => ⟨_, h⟩
  | .row cs, h => exRow_imp cs h
theorem AK.ex_imp {p : Value → Prop} : ∀ k : AK, k.ex p → ∃ v, p v
  | .one c, h => c.ex_imp h
  | .ints k n, ⟨xs, _, h⟩ => ⟨_, h⟩
  | .row cs, h => let ⟨vs, h⟩ := exRow_imp cs h; ⟨_, h⟩
def exTup : List AK → (List Value → Prop) → Prop
  | [], p => p []
  | c :: cs, p => c.ex fun v => exTup cs fun vs => p (v :: vs)
theorem exTup_imp : ∀ (cs : List AK) {p : List Value → Prop}, exTup cs p → ∃ vs, p vs
  | [], p, h => ⟨[], h⟩
  | c :: cs, p, h => by
    obtain ⟨v, h1⟩ := c.ex_imp h
    obtain ⟨vs, h2⟩ := exTup_imp cs h1
    exact ⟨_, h2⟩
inductive RK where
  | one (a : AK) | tup (as : List AK) | unit
def RK.ex : RK → (Value → Prop) → Prop
  | .one a, p => a.ex p
  | .tup as, p => exTup as fun vs => p (.tuple vs.toArray)
  | .unit, p => p undef
theorem RK.ex_imp {p : Value → Prop} : ∀ k : RK, k.ex p → ∃ v, p v
  | .one c, h => c.ex_imp h
  | .tup cs, h => let ⟨vs, h⟩ := exTup_imp cs h; ⟨_, h⟩
  | .unit, h => ⟨_, h⟩

def splice (cs : List Value) (o : Nat) (vs : List Value) : List Value := cs.take o ++ vs ++ cs.drop (o + vs.length)

/-! ### Operations that change nothing -/
def fillL (place : Nat → Option (Nat × Nat)) (cells : List Value) : List (Nat × Value) → Option (List Value)
  | [] => some cells
  | p :: rest => match place p.1 with
    | none => none
    | some q => bif (p.2.cells.toList.length == q.2) && decide (q.1 + q.2 ≤ cells.length) then fillL place (splice cells q.1 p.2.cells.toList) rest else none
def evalBuild (P : Program) (t : TypeId) (parts : List (Nat × Value)) : Option Value :=
  match P.info? t with
  | some it => match it.zero with
    | some z => match P.underlying t with
      | some (.array _ e) => match P.info? e with
        | some ie => (fillL (fun i => some (i * ie.size, ie.size)) z.cells.toList parts).map fun cs => .agg cs.toArray
        | none => none
      | some (.struct fields) => match fields.toList.mapM (fun f => (P.info? f.type).map fun i => (f.offset, i.size)) with
        | some places => (fillL (fun i => places[i]?) z.cells.toList parts).map fun cs => .agg cs.toArray
        | none => none
      | _ => none
    | none => none
  | none => none
def evalInt (op : BinOp) (k : IntKind) (a b : Int) : Option Value :=
  match op with
  | .add => some (.int k (k.wrap (a + b)))
  | .sub => some (.int k (k.wrap (a - b)))
  | .mul => some (.int k (k.wrap (a * b)))
  | .quo => if b = 0 then none else some (.int k (k.wrap (a.tdiv b)))
  | .rem => if b = 0 then none else some (.int k (a.tmod b))
  | .and => some (.int k (k.wrap (BitVec.ofInt k.bits a &&& BitVec.ofInt k.bits b).toNat))
  | .or => some (.int k (k.wrap (BitVec.ofInt k.bits a ||| BitVec.ofInt k.bits b).toNat))
  | .xor => some (.int k (k.wrap (BitVec.ofInt k.bits a ^^^ BitVec.ofInt k.bits b).toNat))
  | .andNot => some (.int k (k.wrap (BitVec.ofInt k.bits a &&& ~~~ BitVec.ofInt k.bits b).toNat))
  | .eql => some (.bool (decide (a = b)))
  | .neq => some (.bool (!decide (a = b)))
  | .lss => some (.bool (decide (a < b)))
  | .leq => some (.bool (decide (a ≤ b)))
  | .gtr => some (.bool (decide (b < a)))
  | .geq => some (.bool (decide (b ≤ a)))
  | _ => none
def evalStr (op : BinOp) (a b : ByteArray) : Option Value :=
  match op with
  | .add => if a.size + b.size ≤ 9223372036854775807 then some (.string (a ++ b)) else none
  | .eql => some (.bool (a.toList == b.toList))
  | .neq => some (.bool !(a.toList == b.toList))
  | .lss => some (.bool (Op.bytesLess a.toList b.toList))
  | _ => none
def evalShift (op : BinOp) (k : IntKind) (a b : Int) : Option Value :=
  if b < 0 then none else
  match op with
  | .shl => some (.int k (k.wrap (a * 2 ^ (min b.toNat k.bits))))
  | .shr => some (.int k (a.fdiv (2 ^ (min b.toNat k.bits))))
  | _ => none
def isShift : BinOp → Bool
  | .shl | .shr => true
  | _ => false
def evalBin (op : BinOp) (x y : Value) : Option Value :=
  match x, y with
  | .int k a, .int k' b => bif isShift op then evalShift op k a b else bif decide (k = k') then evalInt op k a b else none
  | .string a, .string b => evalStr op a b
  | .slice A _ _, .slice none _ _ => match op with | .eql => some (.bool A.isNone) | .neq => some (.bool !A.isNone) | _ => none
  | .bool a, .bool b => match op with | .eql => some (.bool (a == b)) | .neq => some (.bool !(a == b)) | _ => none
  | _, _ => none
/-- The types at which '==' of two values that are no numbers and no strings is taken here. -/
def binOk (P : Program) (t : TypeId) (x y : Value) : Bool :=
  match x, y with
  | .slice _ _ _, _ => match P.underlying t with | some (.slice _) => true | _ => false
  | .bool _, _ => match P.underlying t with | some .bool => true | _ => false
  | _, _ => true

def evalUn (op : UnOp) (x : Value) : Option Value :=
  match op, x with
  | .neg, .int k n => some (.int k (k.wrap (0 - n)))
  | .not, .bool b => some (.bool !b)
  | _, _ => none

def isAggT (P : Program) (t : TypeId) : Option Bool :=
  match P.underlying t with
  | some (.struct _) | some (.array _ _) => some true
  | some _ => some false
  | none => none

def evalPart (P : Program) (t : TypeId) (cs : Array Value) (off : Nat) : Option Value :=
  match isAggT P t, P.info? t with
  | some true, some i => some (.agg (cs.toList.drop off |>.take i.size).toArray)
  | some false, _ => cs[off]?
  | _, _ => none

def evalL (P : Program) (o : Op) (ρ : Operand → Value) (h : Heap) : Option Value :=
  match o with
  | .move x | .assign x => some (ρ x)
  | .pick c a b => match ρ c with | .bool x => some (bif x then ρ a else ρ b) | _ => none
  | .load t a => match ρ a with
    | .pointer (some ⟨b, o, none⟩) => match isAggT P t, P.info? t with
      | some true, some i => (h.getN b o i.size).map fun cs => .agg cs.toArray
      | some false, _ => h.get b o
      | _, _ => none
    | _ => none
  | .binOp op t x y _ => bif binOk P t (ρ x) (ρ y) then evalBin op (ρ x) (ρ y) else none
  | .unOp op _ x => evalUn op (ρ x)
  | .convert src dst x => match P.underlying src, P.underlying dst, ρ x with
    | some (.int _), some (.int k), .int _ n => some (.int k (k.wrap n))
    | _, _, _ => none
  | .makeFunc fn first captured => bif (first.toList ++ captured.toList).all (fun x => isDef (ρ x)) then some (.func fn (first.toList.map ρ).toArray (captured.toList.map ρ).toArray) else none
  | .build t parts => bif parts.toList.all (fun p => isDef (ρ p.2)) then evalBuild P t (parts.toList.map fun p => (p.1, ρ p.2)) else none
  | .fieldAddr s x f => match P.underlying s, ρ x with
    | some (.struct fs), .pointer (some ⟨b, o, none⟩) => match fs[f]? with
      | some fd => match P.info? fd.type with
        | some i => bif i.size != 0 then some (.pointer (some ⟨b, o + fd.offset, none⟩)) else none
        | none => none
      | none => none
    | _, _ => none
  | .field s x f => match P.underlying s, ρ x with
    | some (.struct fs), .agg cs => match fs[f]? with
      | some fd => evalPart P fd.type cs fd.offset
      | none => none
    | _, _ => none
  | .indexAddr t x i => match P.underlying t, ρ i with
    | some (.slice e), .int _ n => match P.info? e, ρ x with
      | some ie, .slice A l _ => match A with
        | some ⟨b, o, none⟩ => if 0 ≤ n ∧ n < l then some (.pointer (some ⟨b, o + n.toNat * ie.size, none⟩)) else none
        | _ => none
      | _, _ => none
    | some (.array len e), .int _ n => match P.info? e, ρ x with
      | some ie, .pointer (some ⟨b, o, none⟩) => if 0 ≤ n ∧ n < len then some (.pointer (some ⟨b, o + n.toNat * ie.size, none⟩)) else none
      | _, _ => none
    | _, _ => none
  | .index t x i => match P.underlying t, ρ x, ρ i with
    | some .string, .string s, .int _ n => if 0 ≤ n ∧ n < s.size then some (.int .u8 ((s.data.toList.getD n.toNat 0).toNat)) else none
    | some (.array len e), .agg cs, .int _ n => if 0 ≤ n ∧ n < len then (match P.info? e with | some ie => evalPart P e cs (n.toNat * ie.size) | none => none) else none
    | _, _, _ => none
  | .extract x i => match ρ x with | .tuple vs => vs.toList[i]? | _ => none
  | .nilCheck x => match ρ x with | .pointer (some a) => some (.pointer (some a)) | .func (.func f) a b => some (.func (.func f) a b) | _ => none
  | .call { callee := .builtin .len, args, argTypes } => match args.toList, argTypes.toList with
    | [x], [t] => match P.underlying t, ρ x with
      | some (.slice _), .slice _ n _ => some (.int .i64 n)
      | some .string, .string s => some (.int .i64 s.size)
      | some (.array n _), _ => some (.int .i64 n)
      | _, _ => none
    | _, _ => none
  | .call { callee := .builtin .cap, args, argTypes } => match args.toList, argTypes.toList with
    | [x], [t] => match P.underlying t, ρ x with
      | some (.slice _), .slice _ _ c => some (.int .i64 c)
      | _, _ => none
    | _, _ => none
  | .call { callee := .builtin .max, args, .. } => match args.toList with
    | [x, y] => match ρ x, ρ y with
      | .int k m, .int _ n => some (.int k (if n > m then n else m))
      | _, _ => none
    | _ => none
  | .call { callee := .builtin .min, args, .. } => match args.toList with
    | [x, y] => match ρ x, ρ y with
      | .int k m, .int _ n => some (.int k (if n < m then n else m))
      | _, _ => none
    | _ => none
  | .slice t x lo hi mx => match P.underlying t, ρ x with
    | some (.slice e), .slice A l c => match P.info? e with
      | some ie => evalSlice ie.size A l c (lo.map ρ) (hi.map ρ) (mx.map ρ)
      | none => none
    | some .string, .string s => match mx with
      | none => evalSub s (lo.map ρ) (hi.map ρ)
      | some _ => none
    | _, _ => none
  | _ => none
where
  bound (x : Option Value) (d y : Nat) : Option Nat := match x with
    | none => some d
    | some (.int _ n) => if 0 ≤ n ∧ n ≤ y then some n.toNat else none
    | some _ => none
  evalSlice (size : Nat) (A : Option Addr) (l c : Nat) (lo hi mx : Option Value) : Option Value :=
    (bound mx c c).bind fun m => (if mx.isSome && hi.isNone then none else bound hi l m).bind fun hh => (bound lo 0 hh).bind fun ll =>
      match A with
      | some ⟨b, o, none⟩ => some (.slice (some ⟨b, if m = ll then o else o + ll * size, none⟩) (hh - ll) (m - ll))
      | none => some (.slice none (hh - ll) (m - ll))
      | _ => none
  evalSub (s : ByteArray) (lo hi : Option Value) : Option Value :=
    (bound hi s.size s.size).bind fun hh => (bound lo 0 hh).bind fun ll => some (.string (s.extract ll hh))

end Go.HL
