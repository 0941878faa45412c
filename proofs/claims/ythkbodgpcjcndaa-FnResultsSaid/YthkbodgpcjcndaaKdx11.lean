/- Whatever the code, the law of results answers true: points of all teams are twice the meetings played, rankings have all teams, and the teams with the most points can be first when all rounds are played; no condition. -/
import Derived.Test.YthkbodgpcjcndaaKdx10
/- An operation looks at its operands alone. -/
set_option linter.unusedVariables false
set_option linter.unusedSimpArgs false
namespace Go.HL

theorem optMap_congr {ρ ρ' : Operand → Value} (x : Option Operand) (h : ∀ y ∈ x.toArray, ρ y = ρ' y) : x.map ρ = x.map ρ' := by
  cases x with
  | none => rfl
  | some y => simp only [Option.map_some]; rw [h y (by simp)]

theorem listMap_congr {ρ ρ' : Operand → Value} (l : List Operand) (h : ∀ y ∈ l, ρ y = ρ' y) : l.map ρ = l.map ρ' := List.map_congr_left h
theorem listAll_congr {ρ ρ' : Operand → Value} (l : List Operand) (h : ∀ y ∈ l, ρ y = ρ' y) : l.all (fun x => isDef (ρ x)) = l.all (fun x => isDef (ρ' x)) := by
  induction l with
  | nil => rfl
  | cons x l ih => simp only [List.all_cons, h x (by simp), ih fun y hy => h y (by simp [hy])]
theorem partsAll_congr {ρ ρ' : Operand → Value} (l : List (Nat × Operand)) (h : ∀ y ∈ l, ρ y.2 = ρ' y.2) : l.all (fun x => isDef (ρ x.2)) = l.all (fun x => isDef (ρ' x.2)) := by
  induction l with
  | nil => rfl
  | cons x l ih => simp only [List.all_cons, h x (by simp), ih fun y hy => h y (by simp [hy])]
theorem partsCells_congr {ρ ρ' : Operand → Value} (l : List (Nat × Operand)) (h : ∀ y ∈ l, ρ y.2 = ρ' y.2) : partsCells ρ l = partsCells ρ' l := by
  induction l with
  | nil => rfl
  | cons x l ih => simp only [partsCells, h x (by simp), ih fun y hy => h y (by simp [hy])]
theorem partsThen_congr {ρ ρ' : Operand → Value} {n : Nat} {p : Prop} (l : List (Nat × Operand)) (h : ∀ y ∈ l, ρ y.2 = ρ' y.2) : partsThen ρ n p l = partsThen ρ' n p l := by
  induction l with
  | nil => rfl
  | cons x l ih => simp only [partsThen, h x (by simp), ih fun y hy => h y (by simp [hy])]

theorem evalL_congr {P : Program} {op : Op} {ρ ρ' : Operand → Value} (heap : Heap) (h : ∀ x ∈ op.operands, ρ x = ρ' x) : evalL P op ρ heap = evalL P op ρ' heap := by
  cases op <;> simp only [Op.operands] at h <;> simp only [evalL]
  case move x => rw [h x (by simp)]
  case assign x => rw [h x (by simp)]
  case pick c a b => rw [h c (by simp), h a (by simp), h b (by simp)]
  case load t a => rw [h a (by simp)]
  case binOp op t x y yt => rw [h x (by simp), h y (by simp)]
  case unOp op t x => rw [h x (by simp)]
  case convert s d x => rw [h x (by simp)]
  case makeFunc fn first captured =>
    have h1 : ∀ y ∈ first.toList, ρ y = ρ' y := fun y hy => h y (by simp at hy; simp [hy])
    have h2 : ∀ y ∈ captured.toList, ρ y = ρ' y := fun y hy => h y (by simp at hy; simp [hy])
    rw [listMap_congr _ h1, listMap_congr _ h2, listAll_congr (ρ := ρ) (ρ' := ρ') _ (fun y hy => by
      rcases List.mem_append.1 hy with hy | hy
      · exact h1 y hy
      · exact h2 y hy)]
  case build t parts =>
    have h1 : ∀ y ∈ parts.toList, ρ y.2 = ρ' y.2 := fun y hy => h y.2 (by simp only [List.mem_toArray, List.mem_map]; exact ⟨y, hy, rfl⟩)
    rw [partsAll_congr _ h1]
    rw [show (parts.toList.map fun p => (p.1, ρ p.2)) = parts.toList.map fun p => (p.1, ρ' p.2) from List.map_congr_left fun p hp => by rw [h1 p hp]]
  case fieldAddr s x f => rw [h x (by simp)]
  case field s x f => rw [h x (by simp)]
  case indexAddr t x i => rw [h x (by simp), h i (by simp)]
  case index t x i => rw [h x (by simp), h i (by simp)]
  case extract x i => rw [h x (by simp)]
  case nilCheck x => rw [h x (by simp)]
  case slice t x lo hi mx =>
    rw [h x (by simp), optMap_congr lo (fun y hy => h y (by simp at hy ⊢; simp [hy])), optMap_congr hi (fun y hy => h y (by simp at hy ⊢; simp [hy])), optMap_congr mx (fun y hy => h y (by simp at hy ⊢; simp [hy]))]
  case call c =>
    obtain ⟨callee, args, argTypes⟩ := c
    simp only [Call.operands] at h
    cases callee <;> try rfl
    rename_i b
    cases b <;> try rfl
    case max =>
      simp only
      split <;> try rfl
      rename_i x y hx
      have hx' : args = #[x, y] := by rw [← Array.toList_inj]; simpa using hx
      rw [h x (by simp [hx']), h y (by simp [hx'])]
    case min =>
      simp only
      split <;> try rfl
      rename_i x y hx
      have hx' : args = #[x, y] := by rw [← Array.toList_inj]; simpa using hx
      rw [h x (by simp [hx']), h y (by simp [hx'])]
    all_goals
      simp only
      split <;> try rfl
      rename_i x t hx ht
      have hx' : args = #[x] := by rw [← Array.toList_inj]; simpa using hx
      rw [h x (by simp [hx'])]

theorem semX_congr {P : Program} {op : Op} {ρ ρ' : Operand → Value} {heap : Heap} {K : Value → Heap → Prop} (h : ∀ x ∈ op.operands, ρ x = ρ' x) : semX P op ρ heap K = semX P op ρ' heap K := by
  cases op <;> simp only [Op.operands] at h <;> simp only [semX]
  case box e x => rw [h x (by simp)]
  case store t a x => rw [h x (by simp), h a (by simp)]
  case makeSlice t l c => rw [h l (by simp), h c (by simp)]
  case buildSlice t len parts =>
    have h1 : ∀ y ∈ parts.toList, ρ y.2 = ρ' y.2 := fun y hy => h y.2 (by simp only [List.mem_toArray, List.mem_map]; exact ⟨y, hy, rfl⟩)
    simp only [partsAll_congr _ h1, partsCells_congr _ h1, partsThen_congr _ h1]
  case call c =>
    obtain ⟨callee, args, argTypes⟩ := c
    simp only [Call.operands] at h
    cases callee
    case value f =>
      have h1 : ∀ y ∈ args.toList, ρ y = ρ' y := fun y hy => h y (by simp at hy; simp [hy])
      simp only [h f (by simp), listAll_congr _ h1, listMap_congr _ h1]
    case invoke => rfl
    case builtin b =>
      have h1 : ∀ y ∈ args.toList, ρ y = ρ' y := fun y hy => h y (by simp at hy; simp [hy])
      cases b <;> try rfl
      all_goals
        simp only
        split <;> try rfl
        rename_i hx ht
        simp only [hx, List.mem_cons, List.not_mem_nil, or_false, forall_eq_or_imp, forall_eq] at h1
        simp only [h1]

theorem preThen_congr {P : Program} {op : Op} {ρ ρ' : Operand → Value} {p : Prop} (h : ∀ x ∈ op.operands, ρ x = ρ' x) : preThen P op ρ p = preThen P op ρ' p := by
  cases op <;> simp only [Op.operands] at h <;> simp only [preThen]
  case box e x => rw [h x (by simp)]
  case makeSlice t l c => rw [h l (by simp), h c (by simp)]
  case buildSlice t len parts =>
    have h1 : ∀ y ∈ parts.toList, ρ y.2 = ρ' y.2 := fun y hy => h y.2 (by simp only [List.mem_toArray, List.mem_map]; exact ⟨y, hy, rfl⟩)
    simp only [partsAll_congr _ h1, partsThen_congr _ h1]

end Go.HL
