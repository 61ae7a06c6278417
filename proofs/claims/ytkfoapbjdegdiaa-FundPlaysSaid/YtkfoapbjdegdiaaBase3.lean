/- More words on frames and cells. -/
import Derived.Test.YtkfoapbjdegdiaaBase
import Derived.Deep.RegionHeld3
import Derived.Deep.DeepCutAuto
import Derived.Deep.DrawnRows
namespace Go.Proofs.Ytkfoapbjdegdiaa.Own
open Go.RowKit

theorem cell_alloc {w : World} {a : Addr} {v : Value} (h : w.cell? a = some v) (o : Obj) : (w.alloc o).cell? a = some v := ((Fr.refl (fun _ => False) w).alloc o).cell h (fun h => h)
theorem cell_alloc_drew {w : World} {a : Addr} {v : Value} (h : w.cell? a = some v) (o : Obj) : (w.alloc o).drew.cell? a = some v := cell_alloc h o
theorem cell_drew {w : World} {a : Addr} {v : Value} (h : w.cell? a = some v) : w.drew.cell? a = some v := h
theorem cell_set {w : World} {a : Addr} {v : Value} (h : w.cell? a = some v) (k j : Nat) (hne : a.block ≠ k) (x : Value) : (w.setCell ⟨k, j, none⟩ x).cell? a = some v := ((Fr.refl (· = k) w).setCell (p := ⟨k, j, none⟩) (fun _ => rfl) x).cell h hne
theorem blk_drew {w : World} {b : Nat} {o : Obj} (h : w.heap[b]? = some o) : w.drew.heap[b]? = some o := h
theorem blk_set {w : World} {b : Nat} {o : Obj} (h : w.heap[b]? = some o) (k j : Nat) (hne : b ≠ k) (v : Value) : (w.setCell ⟨k, j, none⟩ v).heap[b]? = some o := ((Fr.refl (· = k) w).setCell (p := ⟨k, j, none⟩) (fun _ => rfl) v).obj h hne
theorem blk_drewN {w : World} {b : Nat} {o : Obj} (h : w.heap[b]? = some o) (n : Nat) : (w.drewN n).heap[b]? = some o := h
theorem cell_drewN {w : World} {a : Addr} {v : Value} (h : w.cell? a = some v) (n : Nat) : (w.drewN n).cell? a = some v := h
/-- What only makes memory, behind what has a frame. -/
theorem Fr.grew {S : Nat → Prop} {w w1 w2 : World} (h : Fr S w w1) (h' : Fr (fun _ => False) w1 w2) : Fr S w w2 := h.trans h' (fun _ _ h => h.elim)
/-- What writes behind the begin alone, once more. -/
theorem Fr.up {w w1 w2 : World} (h : Fr (w.heap.size ≤ ·) w w1) (h' : Fr (w1.heap.size ≤ ·) w1 w2) : Fr (w.heap.size ≤ ·) w w2 :=
  h.trans h' (fun k _ e => Nat.le_trans h.size e)
theorem Fr.set {w w1 : World} (h : Fr (w.heap.size ≤ ·) w w1) (k j : Nat) (hk : w.heap.size ≤ k) (v : Value) : Fr (w.heap.size ≤ ·) w (w1.setCell ⟨k, j, none⟩ v) := h.setCell (fun _ => hk) v
theorem Fr.set1 {w w1 : World} {k : Nat} (h : Fr (· = k) w w1) (j : Nat) (v : Value) : Fr (· = k) w (w1.setCell ⟨k, j, none⟩ v) := h.setCell (fun _ => rfl) v
/-! ### A whole row of cells, stored one by one -/
def setRow (g : Nat) : Nat → List Value → World → World
  | _, [], W => W
  | j, v :: l, W => setRow g (j + 1) l (W.setCell ⟨g, j, none⟩ v)
theorem heap_setCell_same {W : World} {g j : Nat} {c : Array Value} {t : TypeId} {fr : Nat × Nat} (h : W.heap[g]? = some (.cells c t fr)) (v : Value) : (W.setCell ⟨g, j, none⟩ v).heap[g]? = some (.cells (c.setIfInBounds j v) t fr) := by
  have hlt := blk_lt h
  have h2 : W.heap[g] = .cells c t fr := (Array.getElem?_eq_some_iff.1 h).2
  simp only [World.setCell, Array.getElem?_modify, h, if_true, Option.map_some, Option.isSome_none, Bool.false_eq_true, if_false]
theorem setRow_gen (g : Nat) (l : List Value) : ∀ (j : Nat) (W : World) (a b : List Value) (t : TypeId) (fr : Nat × Nat), W.heap[g]? = some (.cells (a ++ b).toArray t fr) → a.length = j → b.length = l.length → (setRow g j l W).heap[g]? = some (.cells (a ++ l).toArray t fr) := by
  induction l with
  | nil => intro j W a b t fr h _ hb; cases b with | nil => simpa [setRow] using h | cons x b => simp at hb
  | cons v l ih =>
    intro j W a b t fr h ha hb
    cases b with
    | nil => simp at hb
    | cons x b =>
      have h1 := heap_setCell_same (j := j) h v
      have e : (a ++ x :: b).toArray.setIfInBounds j v = ((a ++ [v]) ++ b).toArray := by
        subst ha
        simp
      rw [e] at h1
      have := ih (j + 1) _ (a ++ [v]) b t fr h1 (by simp [ha]) (by simpa using hb)
      simpa [setRow] using this
/-- The whole block. -/
theorem setRow_full {W : World} {g : Nat} {c l : List Value} {t : TypeId} {fr : Nat × Nat} (h : W.heap[g]? = some (.cells c.toArray t fr)) (hl : c.length = l.length) : (setRow g 0 l W).heap[g]? = some (.cells l.toArray t fr) :=
  setRow_gen g l 0 W [] c t fr h rfl hl
theorem setRow_fr {W : World} (g : Nat) (l : List Value) : ∀ (j : Nat) (W : World), Fr (· = g) W (setRow g j l W) ∧ (setRow g j l W).heap.size = W.heap.size := by
  induction l with
  | nil => intro j W; exact ⟨Fr.refl _ _, rfl⟩
  | cons v l ih =>
    intro j W
    obtain ⟨h1, h2⟩ := ih (j + 1) (W.setCell ⟨g, j, none⟩ v)
    refine ⟨((Fr.refl (· = g) W).setCell (fun _ => rfl) v).trans h1 (fun _ _ h => h), h2.trans ?_⟩
    simp
end Go.Proofs.Ytkfoapbjdegdiaa.Own
