/- Arguments that are read as data: rows of structs. -/
import Derived.Test.YtkfoapbjdegdiaaBase2
import Derived.Test.YtkfoapbjdegdiaaSum
import Derived.Deep.Slices
import Derived.ChangeSame
namespace Go.Proofs.Ytkfoapbjdegdiaa.Own
open Go.RowKit Go.ChangeShapes Go.WideShapes Go.Deep

/-- What reads as data of type t is the cells of something. -/
def Opens {α : Type} (P : Program) (t : TypeId) (c : α → List Value) (ok : α → Prop) : Prop :=
  ∀ {H : Type} (enc : TypeId × Value → H) (w : World) (base : Nat) (spare : Nat → Bool) (held : Bool) (fuel : Nat) (cs : List Value) (x : DataW H × List MemPlace), DataW.trod enc P w base spare held fuel t cs = some x → ∃ y, cs = c y ∧ ok y
theorem opens_int {P : Program} {t : TypeId} {k : IntKind} (ht : P.underlying t = some (.int k)) : Opens P t (fun n : Int => [.int k n]) (fun n => (Lit.int k n).wf = true) := by
  intro H enc w base spare held fuel cs x h
  obtain ⟨n, h1, _, h3⟩ := DataW.trod_int ht h
  exact ⟨n, h1, h3⟩
theorem opens_field {P : Program} {t : TypeId} {fs : Array Field} (ht : P.underlying t = some (.struct fs)) {H : Type} {enc : TypeId × Value → H} {w : World} {base : Nat} {spare : Nat → Bool} {held : Bool} {fuel : Nat} {cs : List Value} {x : DataW H × List MemPlace}
    (h : DataW.trod enc P w base spare held fuel t cs = some x) {α : Type} {c : α → List Value} {ok : α → Prop} (i : Nat) (f : Field) (hf : fs[i]? = some f) (hO : Opens P f.type c ok) (s : Nat) (hs : P.cellsOf f.type = s) : ∃ y, (cs.drop f.offset).take s = c y ∧ ok y := by
  obtain ⟨xs, n, _, _, _, hl, hg⟩ := DataW.trod_struct ht h
  have hi : i < xs.length := by rw [hl]; exact (Array.getElem?_eq_some_iff.1 hf).1
  have := hg i f hf
  rw [hs, List.getElem?_eq_getElem hi] at this
  exact hO enc w base spare held n _ _ this
theorem opens_len {P : Program} {t : TypeId} {fs : Array Field} (ht : P.underlying t = some (.struct fs)) {H : Type} {enc : TypeId × Value → H} {w : World} {base : Nat} {spare : Nat → Bool} {held : Bool} {fuel : Nat} {cs : List Value} {x : DataW H × List MemPlace}
    (h : DataW.trod enc P w base spare held fuel t cs = some x) {n : Nat} (hn : P.cellsOf t = n) : cs.length = n := by
  obtain ⟨xs, m, _, _, hl, _⟩ := DataW.trod_struct ht h
  exact hl.trans hn
theorem opens_rows {P : Program} {t e : TypeId} (ht : P.underlying t = some (.slice e)) {α : Type} {c : α → List Value} {ok : α → Prop} {s : Nat} (hs : P.cellsOf e = s) (hc : ∀ x, (c x).length = s) (hO : Opens P e c ok)
    {H : Type} {enc : TypeId × Value → H} {w : World} {base : Nat} {spare : Nat → Bool} {held : Bool} {A : Option Addr} {len cap : Nat} {d : DataW H} {ps : List MemPlace} (h : DataW.Trod enc P w base spare held t (.slice A len cap) d ps) :
    ∃ xs : List α, xs.length = len ∧ Reads c s w A xs.length xs ∧ (∀ x ∈ xs, ok x) ∧ xs.length ≤ cap ∧ (A = none → cap = 0) := by
  obtain ⟨fuel, hf⟩ := h
  rcases open_slice ht hf with ⟨h0, _⟩ | ⟨a, l, cp, m, n, D, Pl, hcs, _, hl, hm, hmm, _, hi⟩
  · simp [Value.cells] at h0
    obtain ⟨rfl, rfl, rfl⟩ := h0
    exact ⟨[], rfl, ⟨rfl, by simp, fun h => by simp at h⟩, by simp, by simp, fun _ => rfl⟩
  · simp [Value.cells] at hcs
    obtain ⟨rfl, rfl, rfl⟩ := hcs
    have hlm : len ≤ m := by rw [hmm]; split <;> omega
    have hex : ∀ i : Nat, i < len → ∃ y : α, (∀ j, j < s → w.cell? (a.add (i * s + j)) = (c y)[j]?) ∧ ok y := by
      intro i hil
      obtain ⟨cs', h1, h2⟩ := hi i (by omega)
      obtain ⟨y, rfl, hy⟩ := hO enc w base spare held n _ _ h2
      rw [hs] at h1
      obtain ⟨_, _, h3⟩ := World.cells?_some h1
      refine ⟨y, fun j hj => ?_, hy⟩
      rw [← Go.Deep.add_add]
      exact h3 j hj
    have hlist : ∀ k : Nat, k ≤ len → ∃ xs : List α, xs.length = k ∧ (∀ i (hik : i < xs.length), (∀ j, j < s → w.cell? (a.add (i * s + j)) = (c xs[i])[j]?) ∧ ok xs[i]) := by
      intro k
      induction k with
      | zero => intro _; exact ⟨[], rfl, fun i hi => by simp at hi⟩
      | succ k ih =>
        intro hk
        obtain ⟨xs, hxl, hxs⟩ := ih (by omega)
        obtain ⟨y, hy1, hy2⟩ := hex k (by omega)
        refine ⟨xs ++ [y], by simp [hxl], fun i hi => ?_⟩
        by_cases hik : i < xs.length
        · rw [List.getElem_append_left hik]; exact hxs i hik
        · have : i = xs.length := by simp at hi; omega
          subst this
          rw [List.getElem_append_right (Nat.le_refl _)]
          simp only [Nat.sub_self, List.getElem_cons_zero]
          rw [hxl]
          exact ⟨hy1, hy2⟩
    obtain ⟨xs, hxl, hxs⟩ := hlist len (Nat.le_refl _)
    refine ⟨xs, hxl, ⟨rfl, by unfold maxLen at hm; omega, fun _ => ⟨a, rfl, fun i hi j hj => (hxs i hi).1 j hj⟩⟩, ?_, by omega, fun h => by cases h⟩
    intro x hx
    obtain ⟨i, hi, rfl⟩ := List.getElem_of_mem hx
    exact (hxs i hi).2
theorem wf_i64 {n : Int} (h : (Lit.int .i64 n).wf = true) : InI64 n := by
  simp only [Lit.wf, Bool.and_eq_true, decide_eq_true_eq] at h
  exact h
theorem opens_line : Opens Try.prog 79 LineD.cells (fun x => InI64 x.qty) := by
  intro H enc w base spare held fuel cs x h
  have hu := Try.underlying79
  obtain ⟨y0, e0, _⟩ := opens_field hu h 0 _ rfl (opens_int Try.underlying5) 1 (by kernel_rfl)
  obtain ⟨y1, e1, o1⟩ := opens_field hu h 1 _ rfl (opens_int Try.underlying2) 1 (by kernel_rfl)
  have hl := opens_len hu h (n := 2) (by kernel_rfl)
  match cs, hl with
  | [c0, c1], _ =>
    simp at e0 e1
    subst e0 e1
    exact ⟨⟨y0, y1⟩, rfl, wf_i64 o1⟩
end Go.Proofs.Ytkfoapbjdegdiaa.Own
