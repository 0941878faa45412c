/- Whatever the code, the law of results answers true: points of all teams are twice the meetings played, rankings have all teams, and the teams with the most points can be first when all rounds are played; no condition. -/
import Derived.Test.YthkbodgpcjcndaaKdx1
/- What an operation that changes nothing gives, the machine gives: soundness of evalL. -/
set_option linter.unusedVariables false
set_option linter.unusedSimpArgs false
namespace Go.HL

theorem evalBin_undef_l (op : BinOp) (y : Value) : evalBin op unk y = none := by cases y <;> rfl
theorem evalBin_undef_r (op : BinOp) (x : Value) : evalBin op x unk = none := by
  unfold evalBin unk
  cases x <;> rfl

theorem bound_mono {ρ ρ' : Operand → Value} (hρ : ∀ x, Le (ρ x) (ρ' x)) (x : Option Operand) {d y n : Nat} (h : evalL.bound (x.map ρ) d y = some n) : evalL.bound (x.map ρ') d y = some n := by
  cases x with
  | none => exact h
  | some x =>
    rcases hρ x with e | e
    · simp [evalL.bound, e, HL.unk] at h
    · simpa only [Option.map_some, e] using h

theorem evalSlice_mono {ρ ρ' : Operand → Value} (hρ : ∀ x, Le (ρ x) (ρ' x)) {size : Nat} {A : Option Addr} {l c : Nat} {lo hi mx : Option Operand} {v : Value}
    (h : evalL.evalSlice size A l c (lo.map ρ) (hi.map ρ) (mx.map ρ) = some v) : evalL.evalSlice size A l c (lo.map ρ') (hi.map ρ') (mx.map ρ') = some v := by
  unfold evalL.evalSlice at h ⊢
  simp only [Option.bind_eq_some_iff] at h ⊢
  obtain ⟨m, h1, hh, h2, ll, h3, h4⟩ := h
  refine ⟨m, bound_mono hρ mx h1, hh, ?_, ll, bound_mono hρ lo h3, h4⟩
  have e1 : ((mx.map ρ').isSome && (hi.map ρ').isNone) = ((mx.map ρ).isSome && (hi.map ρ).isNone) := by cases mx <;> cases hi <;> rfl
  rw [e1]
  split at h2
  · cases h2
  · rename_i hc; rw [if_neg hc]; exact bound_mono hρ hi h2

theorem evalSub_mono {ρ ρ' : Operand → Value} (hρ : ∀ x, Le (ρ x) (ρ' x)) {s : ByteArray} {lo hi : Option Operand} {v : Value}
    (h : evalL.evalSub s (lo.map ρ) (hi.map ρ) = some v) : evalL.evalSub s (lo.map ρ') (hi.map ρ') = some v := by
  unfold evalL.evalSub at h ⊢
  simp only [Option.bind_eq_some_iff] at h ⊢
  obtain ⟨hh, h2, ll, h3, h4⟩ := h
  exact ⟨hh, bound_mono hρ hi h2, ll, bound_mono hρ lo h3, h4⟩

theorem map_def {ρ ρ' : Operand → Value} (hρ : ∀ x, Le (ρ x) (ρ' x)) (l : List Operand) (h : l.all (fun x => isDef (ρ x)) = true) : l.map ρ' = l.map ρ := by
  refine List.map_congr_left fun x hx => ?_
  exact ((hρ x).eq (List.all_eq_true.1 h x hx)).symm

/-- More known operands, the same answer (or more known of it). -/
theorem evalL_mono {P : Program} {o : Op} {ρ ρ' : Operand → Value} {h : Heap} {v : Value} (hρ : ∀ x, Le (ρ x) (ρ' x)) (e : evalL P o ρ h = some v) :
    ∃ v', evalL P o ρ' h = some v' ∧ Le v v' := by
  cases o <;> try (simp [evalL] at e; done)
  case move x => simp only [evalL, Option.some.injEq] at e ⊢; exact ⟨_, rfl, e ▸ hρ x⟩
  case assign x => simp only [evalL, Option.some.injEq] at e ⊢; exact ⟨_, rfl, e ▸ hρ x⟩
  case pick c a b =>
    simp only [evalL] at e ⊢
    rcases hρ c with ec | ec
    · simp [ec, HL.unk] at e
    · rw [← ec]
      cases hc : ρ c <;> simp [hc] at e ⊢
      rename_i x
      subst e
      cases x
      · exact hρ b
      · exact hρ a
  case load t a =>
    rcases hρ a with ea | ea
    · simp [evalL, ea, HL.unk] at e
    · exact ⟨v, by simpa only [evalL, ea] using e, Le.refl v⟩
  case binOp op t x y yt =>
    rcases hρ x with ex | ex
    · simp [evalL, ex, evalBin_undef_l] at e
    · rcases hρ y with ey | ey
      · simp [evalL, ey, evalBin_undef_r] at e
      · exact ⟨v, by simpa only [evalL, ex, ey] using e, Le.refl v⟩
  case unOp op t x =>
    rcases hρ x with ex | ex
    · cases op <;> simp [evalL, ex, evalUn, HL.unk] at e
    · exact ⟨v, by simpa only [evalL, ex] using e, Le.refl v⟩
  case convert s d x =>
    rcases hρ x with ex | ex
    · simp only [evalL, ex, HL.unk] at e
      split at e <;> simp_all
    · exact ⟨v, by simpa only [evalL, ex] using e, Le.refl v⟩
  case makeFunc fn first captured =>
    simp only [evalL] at e ⊢
    cases hd : (first.toList ++ captured.toList).all (fun x => isDef (ρ x)) with
    | false => simp [hd] at e
    | true =>
      simp only [hd, cond_true, Option.some.injEq] at e
      have h1 := map_def hρ first.toList (by simp only [List.all_append, Bool.and_eq_true] at hd; exact hd.1)
      have h2 := map_def hρ captured.toList (by simp only [List.all_append, Bool.and_eq_true] at hd; exact hd.2)
      have hd' : (first.toList ++ captured.toList).all (fun x => isDef (ρ' x)) = true := by
        rw [List.all_eq_true] at hd ⊢
        exact fun x hx => by rw [← (hρ x).eq (hd x hx)]; exact hd x hx
      exact ⟨v, by simp only [hd', cond_true, h1, h2, e], Le.refl v⟩
  case build t parts =>
    simp only [evalL] at e ⊢
    cases hd : parts.toList.all (fun p => isDef (ρ p.2)) with
    | false => simp only [hd, cond_false, reduceCtorEq] at e
    | true =>
      simp only [hd, cond_true] at e
      have h1 : (parts.toList.map fun p => (p.1, ρ' p.2)) = parts.toList.map fun p => (p.1, ρ p.2) :=
        List.map_congr_left fun p hp => by rw [(hρ p.2).eq (List.all_eq_true.1 hd p hp)]
      have hd' : parts.toList.all (fun p => isDef (ρ' p.2)) = true := by
        rw [List.all_eq_true] at hd ⊢
        exact fun p hp => by rw [← (hρ p.2).eq (hd p hp)]; exact hd p hp
      exact ⟨v, by simp only [hd', cond_true, h1, e], Le.refl v⟩
  case fieldAddr s x f =>
    rcases hρ x with ex | ex
    · simp only [evalL, ex, HL.unk] at e
      split at e <;> simp_all
    · exact ⟨v, by simpa only [evalL, ex] using e, Le.refl v⟩
  case field s x f =>
    rcases hρ x with ex | ex
    · simp only [evalL, ex, HL.unk] at e
      split at e <;> simp_all
    · exact ⟨v, by simpa only [evalL, ex] using e, Le.refl v⟩
  case indexAddr t x i =>
    rcases hρ i with ei | ei
    · simp only [evalL, ei, HL.unk] at e
      split at e <;> simp_all
    · rcases hρ x with ex | ex
      · simp only [evalL, ex, HL.unk] at e
        split at e <;> (try split at e) <;> simp_all
      · exact ⟨v, by simpa only [evalL, ex, ei] using e, Le.refl v⟩
  case index t x i =>
    rcases hρ i with ei | ei
    · simp only [evalL, ei, HL.unk] at e
      split at e <;> simp_all
    · rcases hρ x with ex | ex
      · simp only [evalL, ex, HL.unk] at e
        split at e <;> simp_all
      · exact ⟨v, by simpa only [evalL, ex, ei] using e, Le.refl v⟩
  case extract x i =>
    rcases hρ x with ex | ex
    · simp [evalL, ex, HL.unk] at e
    · exact ⟨v, by simpa only [evalL, ex] using e, Le.refl v⟩
  case nilCheck x =>
    rcases hρ x with ex | ex
    · simp [evalL, ex, HL.unk] at e
    · exact ⟨v, by simpa only [evalL, ex] using e, Le.refl v⟩
  case slice t x lo hi mx =>
    rcases hρ x with ex | ex
    · simp only [evalL, ex, HL.unk] at e
      split at e <;> simp_all
    · refine ⟨v, ?_, Le.refl v⟩
      simp only [evalL, ← ex] at e ⊢
      split at e
      · split at e
        · exact evalSlice_mono hρ e
        · cases e
      · split at e
        · exact evalSub_mono hρ e
        · cases e
      · cases e
  case call c =>
    obtain ⟨callee, args, argTypes⟩ := c
    cases callee <;> try (simp [evalL] at e; done)
    rename_i b
    cases b <;> try (simp [evalL] at e; done)
    case max =>
      simp only [evalL] at e ⊢
      split at e <;> try (simp at e; done)
      rename_i x y hx
      rcases hρ x with ex | ex
      · simp [ex, HL.unk] at e
      · rcases hρ y with ey | ey
        · simp only [ey, HL.unk] at e
          split at e <;> simp_all
        · exact ⟨v, by simpa only [ex, ey, hx] using e, Le.refl v⟩
    case min =>
      simp only [evalL] at e ⊢
      split at e <;> try (simp at e; done)
      rename_i x y hx
      rcases hρ x with ex | ex
      · simp [ex, HL.unk] at e
      · rcases hρ y with ey | ey
        · simp only [ey, HL.unk] at e
          split at e <;> simp_all
        · exact ⟨v, by simpa only [ex, ey, hx] using e, Le.refl v⟩
    all_goals
      simp only [evalL] at e ⊢
      split at e <;> try (simp at e; done)
      rename_i x t hx ht
      rcases hρ x with ex | ex
      · simp only [ex, HL.unk] at e
        refine ⟨v, ?_, Le.refl v⟩
        split at e <;> simp_all
      · exact ⟨v, by simpa only [ex] using e, Le.refl v⟩

end Go.HL
