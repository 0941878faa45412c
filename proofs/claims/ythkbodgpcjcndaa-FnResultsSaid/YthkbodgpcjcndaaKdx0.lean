/- Whatever the code, the law of results answers true: points of all teams are twice the meetings played, rankings have all teams, and the teams with the most points can be first when all rounds are played; no condition. -/
import Derived.Orders
import Derived.KernelRfl
import Derived.Laws.Cells
import Derived.Laws.Tables
/- The sub-heap of a world, and what holds of every world that contains it: definitions and plain lemmas of this claim's own Hoare layer. -/
set_option linter.unusedVariables false
set_option linter.unusedSimpArgs false
namespace Go.HL

/-- A block of the call's own. -/
inductive Blk where
  | cells (cs : List Value)
  | obj (o : Obj)

/-- A part of the memory: own blocks, known whole, and single cells that are only read. -/
structure Heap where
  own : Nat → Option Blk
  ro : Nat → Nat → Option Value

def Heap.get (h : Heap) (b o : Nat) : Option Value :=
  match h.own b with
  | some (.cells cs) => cs[o]?
  | some (.obj _) => none
  | none => h.ro b o
def Heap.fresh (h : Heap) (b : Nat) : Prop := h.own b = none ∧ ∀ o, h.ro b o = none
def Heap.upd (h : Heap) (b : Nat) (k : Blk) : Heap := { h with own := fun x => if x = b then some k else h.own x }
/-- n cells from o on. -/
def Heap.getN (h : Heap) (b : Nat) : Nat → Nat → Option (List Value)
  | _, 0 => some []
  | o, n + 1 => match h.get b o, Heap.getN h b (o + 1) n with
    | some v, some vs => some (v :: vs)
    | _, _ => none

structure Rel (h : Heap) (w : World) : Prop where
  cells : ∀ b cs, h.own b = some (.cells cs) → ∃ e, w.heap[b]? = some (.cells cs.toArray e (0, 0))
  obj : ∀ b o, h.own b = some (.obj o) → w.heap[b]? = some o ∧ ∀ c e f, o ≠ .cells c e f
  ro : ∀ b o v, h.ro b o = some v → w.cell? ⟨b, o, none⟩ = some v
  dis : ∀ b, h.own b ≠ none → ∀ o, h.ro b o = none

structure Fra (h h' : Heap) (w w' : World) : Prop where
  os : w'.os = w.os
  tape : w'.tape = w.tape
  output : w'.output = w.output
  size : w.heap.size ≤ w'.heap.size
  keep : ∀ b, b < w.heap.size → h.own b = none → w'.heap[b]? = w.heap[b]? ∧ h'.own b = none
  ro : h'.ro = h.ro

theorem Fra.refl (h : Heap) (w : World) : Fra h h w w := ⟨rfl, rfl, rfl, Nat.le_refl _, fun _ _ e => ⟨rfl, e⟩, rfl⟩
theorem Fra.trans {h1 h2 h3 : Heap} {w1 w2 w3 : World} (a : Fra h1 h2 w1 w2) (b : Fra h2 h3 w2 w3) : Fra h1 h3 w1 w3 :=
  ⟨b.os.trans a.os, b.tape.trans a.tape, b.output.trans a.output, Nat.le_trans a.size b.size, fun x hx e =>
    let ⟨p, q⟩ := a.keep x hx e
    let ⟨p', q'⟩ := b.keep x (Nat.lt_of_lt_of_le hx a.size) q
    ⟨p'.trans p, q'⟩, b.ro.trans a.ro⟩
/-- A draw of the tape. -/
theorem Rel.drawn {h : Heap} {w : World} (r : Rel h w) (d : Nat) : Rel h { w with drawn := d } := ⟨r.cells, r.obj, r.ro, r.dis⟩
theorem Fra.drawn {h h' : Heap} {w w' : World} (f : Fra h h' w w') (d : Nat) : Fra h h' w { w' with drawn := d } := ⟨f.os, f.tape, f.output, f.size, f.keep, f.ro⟩
theorem Fra.drawn0 {h h' : Heap} {w w' : World} (d : Nat) (f : Fra h h' { w with drawn := d } w') : Fra h h' w w' := ⟨f.os, f.tape, f.output, f.size, f.keep, f.ro⟩

theorem Rel.get {h : Heap} {w : World} (r : Rel h w) {b o : Nat} {v : Value} (g : h.get b o = some v) : w.cell? ⟨b, o, none⟩ = some v := by
  unfold Heap.get at g
  cases hb : h.own b with
  | none => rw [hb] at g; exact r.ro b o v g
  | some k =>
    rw [hb] at g
    cases k with
    | obj _ => cases g
    | cells cs =>
      obtain ⟨e, he⟩ := r.cells b cs hb
      simp only [World.cell?, he]
      simpa using g

theorem Rel.lt {h : Heap} {w : World} (r : Rel h w) {b : Nat} (hb : h.own b ≠ none) : b < w.heap.size := by
  cases hk : h.own b with
  | none => exact absurd hk hb
  | some k =>
    cases k with
    | cells cs => obtain ⟨e, he⟩ := r.cells b cs hk; exact (Array.getElem?_eq_some_iff.1 he).1
    | obj o => exact (Array.getElem?_eq_some_iff.1 (r.obj b o hk).1).1

theorem Rel.ro_lt {h : Heap} {w : World} (r : Rel h w) {b o : Nat} {v : Value} (g : h.ro b o = some v) : b < w.heap.size := by
  have := r.ro b o v g
  unfold World.cell? at this
  rcases Nat.lt_or_ge b w.heap.size with h | h
  · exact h
  · rw [Array.getElem?_eq_none (by simpa using h)] at this; cases this

/-- A block that lies beyond the world is fresh. -/
theorem Rel.fresh {h : Heap} {w : World} (r : Rel h w) {b : Nat} (hb : w.heap.size ≤ b) : h.fresh b := by
  refine ⟨?_, fun o => ?_⟩
  · cases hk : h.own b with
    | none => rfl
    | some k => exact absurd (r.lt (b := b) (by simp [hk])) (by omega)
  · cases hk : h.ro b o with
    | none => rfl
    | some v => exact absurd (r.ro_lt hk) (by omega)

theorem Heap.upd_own_self (h : Heap) (b : Nat) (k : Blk) : (h.upd b k).own b = some k := by simp [Heap.upd]
theorem Heap.upd_own_ne (h : Heap) {b x : Nat} (k : Blk) (hx : x ≠ b) : (h.upd b k).own x = h.own x := by simp [Heap.upd, hx]
theorem Heap.upd_ro (h : Heap) (b : Nat) (k : Blk) : (h.upd b k).ro = h.ro := rfl

/-- A fresh block that the world holds already, as it is told. -/
theorem Rel.add {h : Heap} {w : World} (r : Rel h w) {b : Nat} (hf : h.fresh b) (cs : List Value) (e : TypeId) (hw : w.heap[b]? = some (.cells cs.toArray e (0, 0))) :
    Rel (h.upd b (.cells cs)) w := by
  refine ⟨fun x ds hx => ?_, fun x o hx => ?_, r.ro, fun x hx o => ?_⟩
  · by_cases hxb : x = b
    · subst hxb; rw [Heap.upd_own_self] at hx; cases hx; exact ⟨e, hw⟩
    · rw [Heap.upd_own_ne _ _ hxb] at hx; exact r.cells x ds hx
  · by_cases hxb : x = b
    · subst hxb; rw [Heap.upd_own_self] at hx; cases hx
    · rw [Heap.upd_own_ne _ _ hxb] at hx; exact r.obj x o hx
  · by_cases hxb : x = b
    · subst hxb; exact hf.2 o
    · rw [Heap.upd_own_ne _ _ hxb] at hx; exact r.dis x hx o

/-- The world after a new block. -/
theorem Rel.alloc {h : Heap} {w : World} (r : Rel h w) (cs : List Value) (e : TypeId) :
    Rel (h.upd w.heap.size (.cells cs)) { w with heap := w.heap.push (.cells cs.toArray e) } ∧ Fra h (h.upd w.heap.size (.cells cs)) w { w with heap := w.heap.push (.cells cs.toArray e) } := by
  have old : ∀ b, b < w.heap.size → (w.heap.push (.cells cs.toArray e))[b]? = w.heap[b]? := fun b hb => by rw [Array.getElem?_push, if_neg (by omega)]
  have r1 : Rel h { w with heap := w.heap.push (.cells cs.toArray e) } := by
    refine ⟨fun b ds hb => ?_, fun b o hb => ?_, fun b o v hb => ?_, r.dis⟩
    · obtain ⟨e', he⟩ := r.cells b ds hb
      exact ⟨e', (old b (r.lt (by simp [hb]))).trans he⟩
    · obtain ⟨h1, h2⟩ := r.obj b o hb
      exact ⟨(old b (r.lt (by simp [hb]))).trans h1, h2⟩
    · have h1 := r.ro b o v hb
      have h2 := old b (r.ro_lt hb)
      unfold World.cell? at h1 ⊢
      simp only [h2]
      exact h1
  refine ⟨r1.add (r.fresh (Nat.le_refl _)) cs e (by simp), ⟨rfl, rfl, rfl, by simp, fun b hb hn => ⟨old b hb, ?_⟩, rfl⟩⟩
  rw [Heap.upd_own_ne _ _ (by omega)]; exact hn

/-- What stands in an own block is written anew, whole. -/
theorem Rel.write {h : Heap} {w w' : World} (r : Rel h w) {b : Nat} {cs cs' : List Value} (hb : h.own b = some (.cells cs)) {e : TypeId}
    (hw : w'.heap[b]? = some (.cells cs'.toArray e (0, 0))) (hoth : ∀ x, x ≠ b → w'.heap[x]? = w.heap[x]?) : Rel (h.upd b (.cells cs')) w' := by
  refine ⟨fun x ds hx => ?_, fun x o hx => ?_, fun x o v hx => ?_, fun x hx o => ?_⟩
  · by_cases hxb : x = b
    · subst hxb; rw [Heap.upd_own_self] at hx; cases hx; exact ⟨e, hw⟩
    · rw [Heap.upd_own_ne _ _ hxb] at hx
      obtain ⟨e', he⟩ := r.cells x ds hx
      exact ⟨e', (hoth x hxb).trans he⟩
  · by_cases hxb : x = b
    · subst hxb; rw [Heap.upd_own_self] at hx; cases hx
    · rw [Heap.upd_own_ne _ _ hxb] at hx
      exact ⟨(hoth x hxb).trans (r.obj x o hx).1, (r.obj x o hx).2⟩
  · have hxb : x ≠ b := fun e => by subst e; have := r.dis x (by simp [hb]) o; rw [Heap.upd_ro] at hx; rw [this] at hx; cases hx
    have h1 := r.ro x o v hx
    have h2 := hoth x hxb
    unfold World.cell? at h1 ⊢
    simp only [h2]
    exact h1
  · by_cases hxb : x = b
    · subst hxb; exact r.dis x (by simp [hb]) o
    · rw [Heap.upd_own_ne _ _ hxb] at hx; exact r.dis x hx o

theorem add_plain (b o n : Nat) : (⟨b, o, none⟩ : Addr).add n = ⟨b, o + n, none⟩ := by unfold Addr.add; split <;> simp_all

theorem Heap.getN_length {h : Heap} {b : Nat} : ∀ {n o : Nat} {vs : List Value}, h.getN b o n = some vs → vs.length = n
  | 0, o, vs, e => by simp only [Heap.getN, Option.some.injEq] at e; subst e; rfl
  | n + 1, o, vs, e => by
    simp only [Heap.getN] at e
    split at e
    · rename_i v ws h1 h2
      cases e
      simp [Heap.getN_length h2]
    · cases e

theorem Heap.getN_get {h : Heap} {b : Nat} : ∀ {n o : Nat} {vs : List Value}, h.getN b o n = some vs → ∀ j v, vs[j]? = some v → h.get b (o + j) = some v
  | 0, o, vs, e, j, v, hj => by simp only [Heap.getN, Option.some.injEq] at e; subst e; simp at hj
  | n + 1, o, vs, e, j, v, hj => by
    simp only [Heap.getN] at e
    split at e
    · rename_i u ws h1 h2
      cases e
      cases j with
      | zero => simp at hj; subst hj; exact h1
      | succ j =>
        have := Heap.getN_get h2 j v (by simpa using hj)
        rw [← this]; congr 1; omega
    · cases e

theorem Rel.loadCells {P : Program} {h : Heap} {w : World} (r : Rel h w) {b o n : Nat} {vs : List Value} (g : h.getN b o n = some vs) :
    (Go.loadCells ⟨b, o, none⟩ n).run P w = .ok vs.toArray w := by
  have hl := Heap.getN_length g
  subst hl
  refine run_loadCells_list w ⟨b, o, none⟩ vs fun j v hj => ?_
  rw [add_plain]
  exact r.get (Heap.getN_get g j v hj)

end Go.HL
