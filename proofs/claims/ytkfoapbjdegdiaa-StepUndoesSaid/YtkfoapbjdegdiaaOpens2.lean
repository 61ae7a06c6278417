/- Arguments that are read as data: a step, by value. -/
import Derived.Test.YtkfoapbjdegdiaaOpens
import Derived.Test.YtkfoapbjdegdiaaGood2
import Derived.WideShapes
namespace Go.Proofs.Ytkfoapbjdegdiaa.Own
open Go.RowKit Go.ChangeShapes Go.WideShapes Go.Deep

theorem wf_u8 {n : Int} (h : (Lit.int .u8 n).wf = true) : 0 ≤ n ∧ n < 256 := by
  simp only [Lit.wf, Bool.and_eq_true, decide_eq_true_eq] at h
  have h1 : 0 ≤ n := h.1
  have h2 : n ≤ 255 := h.2
  omega
theorem opens_line8 : Opens Try.prog 79 LineD.cells (fun x => InI64 x.qty ∧ 0 ≤ x.sku ∧ x.sku < 256) := by
  intro H enc w base spare held fuel cs x h
  have hu := Try.underlying79
  obtain ⟨y0, e0, o0⟩ := opens_field hu h 0 _ rfl (opens_int Try.underlying5) 1 (by kernel_rfl)
  obtain ⟨y1, e1, o1⟩ := opens_field hu h 1 _ rfl (opens_int Try.underlying2) 1 (by kernel_rfl)
  have hl := opens_len hu h (n := 2) (by kernel_rfl)
  match cs, hl with
  | [c0, c1], _ =>
    simp at e0 e1
    subst e0 e1
    exact ⟨⟨y0, y1⟩, rfl, wf_i64 o1, wf_u8 o0⟩
theorem opens_part {P : Program} {t : TypeId} {fs : Array Field} (ht : P.underlying t = some (.struct fs)) {H : Type} {enc : TypeId × Value → H} {w : World} {base : Nat} {spare : Nat → Bool} {held : Bool} {fuel : Nat} {cs : List Value} {x : DataW H × List MemPlace}
    (h : DataW.trod enc P w base spare held fuel t cs = some x) (i : Nat) (f : Field) (hf : fs[i]? = some f) (ft : TypeId) (o s : Nat) (hft : f.type = ft) (ho : f.offset = o) (hs : P.cellsOf ft = s) : ∃ n y, DataW.trod enc P w base spare held n ft ((cs.drop o).take s) = some y := by
  subst hft ho
  obtain ⟨xs, n, _, _, _, hl, hg⟩ := DataW.trod_struct ht h
  have hi : i < xs.length := by rw [hl]; exact (Array.getElem?_eq_some_iff.1 hf).1
  have := hg i f hf
  rw [hs, List.getElem?_eq_getElem hi] at this
  exact ⟨n, _, this⟩
set_option maxRecDepth 100000 in
theorem open_step {H : Type} {enc : TypeId × Value → H} {w : World} {base base' : Nat} {spare : Nat → Bool} {held : Bool} {v : Value} {d : DataW H} {ps : List MemPlace} (h : DataW.Trod enc Try.prog w base spare held 27 v d ps) (hv : Value.okWide Try.prog w .any base' 27 v) :
    ∃ tag ware A, ∃ (xs : List LineD), ∃ cap, v = stepVal tag ware A xs.length cap ∧ Reads LineD.cells 2 w A xs.length xs ∧ (∀ x ∈ xs, InI64 x.qty ∧ 0 ≤ x.sku ∧ x.sku < 256) ∧ 0 ≤ ware ∧ ware < 256 := by
  have hu := Try.underlying27
  obtain ⟨cs, rfl, _⟩ := okWide_struct hu hv
  obtain ⟨fuel, hf⟩ := h
  have hf' := hf
  rw [show (Value.agg cs).cells.toList = cs.toList from by simp [Value.cells]] at hf'
  obtain ⟨y0, e0, o0⟩ := opens_field hu hf' 0 _ rfl (opens_int Try.underlying5) 1 (by kernel_rfl)
  obtain ⟨y1, e1, o1⟩ := opens_field hu hf' 1 _ rfl (opens_int Try.underlying5) 1 (by kernel_rfl)
  have hl := opens_len hu hf' (n := 3) (by kernel_rfl)
  obtain ⟨n, y2, h2⟩ := opens_part hu hf' 2 _ rfl 22 2 1 rfl rfl (by kernel_rfl)
  obtain ⟨l⟩ := cs
  match l, hl with
  | [c0, c1, c2], _ =>
    simp at e0 e1 h2
    subst e0 e1
    have hc2 : ∃ A len cap, c2 = .slice A len cap := by
      rcases open_slice Try.underlying22 h2 with ⟨e, _⟩ | ⟨a, len, cap, _, _, _, _, e, _⟩
      · exact ⟨none, 0, 0, by simpa using e⟩
      · exact ⟨some a, len, cap, by simpa using e⟩
    obtain ⟨A, len, cap, rfl⟩ := hc2
    obtain ⟨ys, hyl, hr, hok, _, _⟩ := opens_rows Try.underlying22 (s := 2) (by kernel_rfl) LineD.len opens_line8 (d := y2.1) (ps := y2.2) ⟨n, by simpa [Value.cells] using h2⟩
    subst hyl
    exact ⟨y0, y1, A, ys, cap, rfl, hr, hok, wf_u8 o1⟩
end Go.Proofs.Ytkfoapbjdegdiaa.Own
