/- Arguments that are read as data: keys, additions, declarations, calls, fields. -/
import Derived.Test.YtkfoapbjdegdiaaOpens
import Derived.Test.YtkfoapbjdegdiaaWorks18
import Derived.WideShapes
namespace Go.Proofs.Ytkfoapbjdegdiaa.Own
open Go.RowKit Go.ChangeShapes Go.WideShapes Go.Deep

theorem wfu8 {n : Int} (h : (Lit.int .u8 n).wf = true) : 0 ≤ n ∧ n < 256 := by
  simp only [Lit.wf, Bool.and_eq_true, decide_eq_true_eq] at h
  have h1 : 0 ≤ n := h.1
  have h2 : n ≤ 255 := h.2
  omega
def KeyD.U8 (k : KeyD) : Prop := (0 ≤ k.kind ∧ k.kind < 256) ∧ (0 ≤ k.sku ∧ k.sku < 256) ∧ (0 ≤ k.ware ∧ k.ware < 256)
theorem opens_key : Opens Try.prog 41 KeyD.cells KeyD.U8 := by
  intro H enc w base spare held fuel cs x h
  have hu := Try.underlying41
  obtain ⟨y0, e0, o0⟩ := opens_field hu h 0 _ rfl (opens_int Try.underlying5) 1 (by kernel_rfl)
  obtain ⟨y1, e1, o1⟩ := opens_field hu h 1 _ rfl (opens_int Try.underlying5) 1 (by kernel_rfl)
  obtain ⟨y2, e2, o2⟩ := opens_field hu h 2 _ rfl (opens_int Try.underlying5) 1 (by kernel_rfl)
  have hl := opens_len hu h (n := 3) (by kernel_rfl)
  match cs, hl with
  | [c0, c1, c2], _ =>
    simp at e0 e1 e2
    subst e0 e1 e2
    exact ⟨⟨y0, y1, y2⟩, rfl, wfu8 o0, wfu8 o1, wfu8 o2⟩
theorem opens_op : Opens Try.prog 43 OpD.cells (fun o => o.key.U8 ∧ InI64 o.d) := by
  intro H enc w base spare held fuel cs x h
  have hu := Try.underlying43
  obtain ⟨y0, e0, o0⟩ := opens_field hu h 0 _ rfl opens_key 3 (by kernel_rfl)
  obtain ⟨y1, e1, o1⟩ := opens_field hu h 1 _ rfl (opens_int Try.underlying2) 1 (by kernel_rfl)
  have hl := opens_len hu h (n := 4) (by kernel_rfl)
  match cs, hl with
  | [c0, c1, c2, c3], _ =>
    simp [KeyD.cells] at e0 e1
    obtain ⟨rfl, rfl, rfl⟩ := e0
    subst e1
    exact ⟨⟨y0, y1⟩, rfl, o0, wf_i64 o1⟩
theorem opens_decl : Opens Try.prog 96 DeclD.cells (fun d => d.key.U8 ∧ d.In) := by
  intro H enc w base spare held fuel cs x h
  have hu := Try.underlying96
  obtain ⟨y0, e0, o0⟩ := opens_field hu h 0 _ rfl opens_key 3 (by kernel_rfl)
  obtain ⟨y1, e1, o1⟩ := opens_field hu h 1 _ rfl (opens_int Try.underlying2) 1 (by kernel_rfl)
  obtain ⟨y2, e2, o2⟩ := opens_field hu h 2 _ rfl (opens_int Try.underlying2) 1 (by kernel_rfl)
  obtain ⟨y3, e3, o3⟩ := opens_field hu h 3 _ rfl (opens_int Try.underlying2) 1 (by kernel_rfl)
  have hl := opens_len hu h (n := 6) (by kernel_rfl)
  match cs, hl with
  | [c0, c1, c2, c3, c4, c5], _ =>
    simp [KeyD.cells] at e0 e1 e2 e3
    obtain ⟨rfl, rfl, rfl⟩ := e0
    subst e1 e2 e3
    exact ⟨⟨y0, y1, y2, y3⟩, rfl, o0, wf_i64 o1, wf_i64 o2, wf_i64 o3⟩
theorem opens_act : Opens Try.prog 62 ActD.cells (fun a => (0 ≤ a.call ∧ a.call < 256) ∧ a.op.key.U8 ∧ InI64 a.op.d) := by
  intro H enc w base spare held fuel cs x h
  have hu := Try.underlying62
  obtain ⟨y0, e0, o0⟩ := opens_field hu h 0 _ rfl (opens_int Try.underlying5) 1 (by kernel_rfl)
  obtain ⟨y1, e1, o1⟩ := opens_field hu h 1 _ rfl opens_op 4 (by kernel_rfl)
  have hl := opens_len hu h (n := 5) (by kernel_rfl)
  match cs, hl with
  | [c0, c1, c2, c3, c4], _ =>
    simp [OpD.cells] at e0 e1
    obtain ⟨rfl, rfl, rfl, rfl⟩ := e1
    subst e0
    exact ⟨⟨y0, y1⟩, rfl, wfu8 o0, o1⟩
theorem opens_fieldD : Opens Try.prog 49 FieldD.cells FieldD.In := by
  intro H enc w base spare held fuel cs x h
  have hu := Try.underlying49
  obtain ⟨y0, e0, o0⟩ := opens_field hu h 0 _ rfl (opens_int Try.underlying2) 1 (by kernel_rfl)
  obtain ⟨y1, e1, o1⟩ := opens_field hu h 1 _ rfl (opens_int Try.underlying2) 1 (by kernel_rfl)
  obtain ⟨y2, e2, o2⟩ := opens_field hu h 2 _ rfl (opens_int Try.underlying2) 1 (by kernel_rfl)
  obtain ⟨y3, e3, o3⟩ := opens_field hu h 3 _ rfl (opens_int Try.underlying2) 1 (by kernel_rfl)
  obtain ⟨y4, e4, o4⟩ := opens_field hu h 4 _ rfl (opens_int Try.underlying2) 1 (by kernel_rfl)
  obtain ⟨y5, e5, o5⟩ := opens_field hu h 5 _ rfl (opens_int Try.underlying2) 1 (by kernel_rfl)
  have hl := opens_len hu h (n := 6) (by kernel_rfl)
  match cs, hl with
  | [c0, c1, c2, c3, c4, c5], _ =>
    simp at e0 e1 e2 e3 e4 e5
    subst e0 e1 e2 e3 e4 e5
    exact ⟨⟨y0, y1, y2, y3, y4, y5⟩, rfl, wf_i64 o0, wf_i64 o1, wf_i64 o2, wf_i64 o3, wf_i64 o4, wf_i64 o5⟩
/-- A struct by value. -/
theorem opens_agg {P : Program} {t : TypeId} {fs : Array Field} (hu : P.underlying t = some (.struct fs)) {α : Type} {c : α → List Value} {ok : α → Prop} {H : Type} {enc : TypeId × Value → H} {w : World} {base base' : Nat} {spare : Nat → Bool} {held : Bool} {v : Value} {d : DataW H} {ps : List MemPlace} (hv : Value.okWide P w .any base' t v) (hO : Opens P t c ok) (h : DataW.Trod enc P w base spare held t v d ps) :
    ∃ y, v = .agg (c y).toArray ∧ ok y := by
  obtain ⟨cs, rfl, _⟩ := okWide_struct hu hv
  obtain ⟨fuel, hf⟩ := h
  have hf' := hf
  rw [show (Value.agg cs).cells.toList = cs.toList from by simp [Value.cells]] at hf'
  obtain ⟨y, hy, ho⟩ := hO enc w base spare held fuel _ _ hf'
  exact ⟨y, by rw [← hy], ho⟩
end Go.Proofs.Ytkfoapbjdegdiaa.Own
