/- Whatever the code, the law of results answers true: points of all teams are twice the meetings played, rankings have all teams, and the teams with the most points can be first when all rounds are played; no condition. -/
import Derived.Test.YthkbodgpcjcndaaKdx9
/- Regions whose order is open, I: the items in one order, and what an order of the machine's may do. -/
set_option linter.unusedVariables false
set_option linter.unusedSimpArgs false
namespace Go.HL

def isAllocOp : Op → Bool
  | .alloc _ | .box .. | .makeSlice .. | .buildSlice .. => true
  | _ => false
def isFree : Op → Bool
  | .move _ | .assign _ => true
  | _ => false
def isLoad : Op → Bool
  | .load .. => true
  | _ => false

/-- An operation that makes one block: what it gives, whatever the world. -/
def AllocRun (P : Program) (o : Oper) (ρ : Operand → Value) (cs : List Value) (mk : Nat → Value) (e : TypeId) : Prop :=
  ∀ ρ', (∀ x, Le (ρ x) (ρ' x)) → ∀ w : World, (execOp ρ' o).run P w = .ok (.value (mk w.heap.size)) { w with heap := w.heap.push (.cells cs.toArray e) }

theorem semX_alloc {P : Program} {o : Oper} {ρ : Operand → Value} {h : Heap} {K : Value → Heap → Prop} (ha : isAllocOp o.op = true) (s : semX P o.op ρ h K) :
    ∃ cs mk e, AllocRun P o ρ cs mk e ∧ ∀ b, h.fresh b → K (mk b) (h.upd b (.cells cs)) := by
  obtain ⟨dst, op, ty, pos, after, guard⟩ := o
  simp only at s ha
  cases op <;> simp only [isAllocOp, Bool.false_eq_true] at ha
  case alloc e =>
    simp only [semX] at s
    split at s <;> try (exact s.elim)
    rename_i i hi
    split at s <;> try (exact s.elim)
    rename_i z hz
    refine ⟨z.cells.toList, fun b => .pointer (some ⟨b, 0, none⟩), e, fun ρ' _ w => ?_, s⟩
    simp [execOp, Instr.alloc, zeroValue, typeInfo, hi, hz, newVar, newRow]
  case box e x =>
    simp only [semX] at s
    cases hd : isDef (ρ x) with
    | false => simp [hd] at s
    | true =>
      simp only [hd, cond_true] at s
      refine ⟨(ρ x).cells.toList, fun b => .pointer (some ⟨b, 0, none⟩), e, fun ρ' hρ w => ?_, s⟩
      simp [execOp, Instr.box, newVar, newRow, ← (hρ x).eq hd]
  case makeSlice t l c =>
    simp only [semX] at s
    split at s <;> try (exact s.elim)
    rename_i e ht
    split at s <;> try (exact s.elim)
    rename_i i hi
    split at s <;> try (exact s.elim)
    rename_i z k n k' m hz hl hc
    cases hs : (z.cells.toList.length == i.size) with
    | false => simp only [hs, cond_false] at s
    | true =>
      simp only [hs, cond_true] at s
      obtain ⟨rfl, h0, h1, h2, st⟩ := s
      refine ⟨_, fun b => .slice (some ⟨b, 0, none⟩) n.toNat n.toNat, e, fun ρ' hρ w => ?_, st⟩
      have hm := run_make (P := P) ht hi hz (by simpa using hs) (k := k) (k' := k') h0 h1 h2 w
      rw [zrep_eq]
      simp only [execOp, le_def hρ hl rfl, le_def hρ hc rfl, Sem.run_bind, hm, Result.andThen_ok]
      rfl
  case buildSlice t len parts =>
    have s2 : semX P (.buildSlice t len parts) ρ h (fun v h' => K v h') := s
    simp only [semX] at s
    split at s <;> try (exact s.elim)
    rename_i e ht
    split at s <;> try (exact s.elim)
    rename_i i hi
    split at s <;> try (exact s.elim)
    rename_i z hz
    cases hc : ((parts.toList.map (·.1) == List.range len) && parts.toList.all (fun p => isDef (ρ p.2)) && decide (len * i.size ≤ 16777216) && (z.cells.toList.length == i.size)) with
    | false => simp only [hc, cond_false] at s
    | true =>
      simp only [hc, cond_true] at s
      obtain ⟨hp, st⟩ := partsThen_ok s
      refine ⟨partsCells ρ parts.toList, fun b => .slice (some ⟨b, 0, none⟩) len len, e, fun ρ' hρ w => ?_, st⟩
      exact run_buildSlice hc hp ht hi hz hρ w

theorem preThen_run {P : Program} {o : Oper} {ρ : Operand → Value} {p : Prop} (s : preThen P o.op ρ p) : p ∧ isAllocOp o.op = true ∧ ∃ cs mk e, AllocRun P o ρ cs mk e := by
  let h0 : Heap := ⟨fun _ => none, fun _ _ => none⟩
  have key : p ∧ isAllocOp o.op = true ∧ semX P o.op ρ h0 (fun _ _ => True) := by
    obtain ⟨dst, op, ty, pos, after, guard⟩ := o
    simp only at s ⊢
    cases op <;> simp only [preThen] at s
    case alloc e =>
      split at s <;> try (exact s.elim)
      rename_i i hi
      split at s <;> try (exact s.elim)
      rename_i z hz
      exact ⟨s, rfl, by simp only [semX, hi, hz]; exact fun _ _ => trivial⟩
    case box e x =>
      cases hd : isDef (ρ x) with
      | false => rw [hd] at s; exact s.elim
      | true => rw [hd] at s; exact ⟨s, rfl, by simp only [semX, hd]; exact fun _ _ => trivial⟩
    case makeSlice t l c =>
      split at s <;> try (exact s.elim)
      rename_i e ht
      split at s <;> try (exact s.elim)
      rename_i i hi
      split at s <;> try (exact s.elim)
      rename_i z k n k' m hz hl hc
      cases hs : (z.cells.toList.length == i.size) with
      | false => rw [hs] at s; exact s.elim
      | true =>
        rw [hs] at s
        obtain ⟨h1, h2, h3, h4, h5⟩ := s
        exact ⟨h5, rfl, by simp only [semX, ht, hi, hz, hl, hc, hs, cond_true]; exact ⟨h1, h2, h3, h4, fun _ _ => trivial⟩⟩
    case buildSlice t len parts =>
      split at s <;> try (exact s.elim)
      rename_i e ht
      split at s <;> try (exact s.elim)
      rename_i i hi
      split at s <;> try (exact s.elim)
      rename_i z hz
      cases hc : ((parts.toList.map (·.1) == List.range len) && parts.toList.all (fun p => isDef (ρ p.2)) && decide (len * i.size ≤ 16777216) && (z.cells.toList.length == i.size)) with
      | false => rw [hc] at s; exact s.elim
      | true =>
        rw [hc] at s
        simp only [cond_true] at s
        have : ∀ {q q' : Prop} (ps : List (Nat × Operand)), q' → partsThen ρ i.size q ps → q ∧ partsThen ρ i.size q' ps := by
          intro q q' ps hq'
          induction ps with
          | nil => exact fun h => ⟨h, hq'⟩
          | cons x ps ih =>
            intro h
            simp only [partsThen] at h ⊢
            unfold sizeOk at h ⊢
            split at h
            · exact ⟨(ih h.2).1, h.1, (ih h.2).2⟩
            · cases hn : (i.size == 1) with
              | false => rw [hn] at h; exact h.elim
              | true => rw [hn] at h; exact ⟨(ih h).1, (ih h).2⟩
        have := this parts.toList (q' := SAlloc h0 (partsCells ρ parts.toList) fun b h' => True) (fun _ _ => trivial) s
        exact ⟨this.1, rfl, by simp only [semX, ht, hi, hz, hc, cond_true]; exact this.2⟩
  obtain ⟨h1, h2, h3⟩ := key
  obtain ⟨cs, mk, e, h4, _⟩ := semX_alloc h2 h3
  exact ⟨h1, h2, cs, mk, e, h4⟩

theorem evalL_noload {P : Program} {op : Op} (hl : isLoad op = false) (ρ : Operand → Value) (h h' : Heap) : evalL P op ρ h = evalL P op ρ h' := by
  cases op
  case load => simp [isLoad] at hl
  case call c =>
    obtain ⟨callee, args, argTypes⟩ := c
    cases callee
    case builtin b => cases b <;> rfl
    all_goals rfl
  all_goals rfl

end Go.HL
