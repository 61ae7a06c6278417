/- field: the numbers of a field; Good, wrong, New. -/
import Derived.Test.YtkfoapbjdegdiaaBits
import Derived.BigQuiet
import Derived.Laws.Rows
import Derived.Lib.QuietBelow
namespace Go.Proofs.Ytkfoapbjdegdiaa.Own
open Go.RowKit

structure FieldD where
  lo : Int
  hi : Int
  base : Int
  inf : Int
  sup : Int
  value : Int
  deriving DecidableEq
def FieldD.cells (f : FieldD) : List Value := [.int .i64 f.lo, .int .i64 f.hi, .int .i64 f.base, .int .i64 f.inf, .int .i64 f.sup, .int .i64 f.value]
def FieldD.val (f : FieldD) : Value := .agg #[.int .i64 f.lo, .int .i64 f.hi, .int .i64 f.base, .int .i64 f.inf, .int .i64 f.sup, .int .i64 f.value]
theorem FieldD.len (f : FieldD) : f.cells.length = 6 := rfl
def FieldD.In (f : FieldD) : Prop := InI64 f.lo ∧ InI64 f.hi ∧ InI64 f.base ∧ InI64 f.inf ∧ InI64 f.sup ∧ InI64 f.value
def fgood (f : FieldD) : Bool := decide (f.lo ≤ f.inf ∧ f.inf ≤ f.base ∧ f.inf ≤ f.value ∧ f.base ≤ f.sup ∧ f.value ≤ f.sup ∧ f.sup ≤ f.hi)
set_option maxRecDepth 100000 in
set_option maxHeartbeats 1000000 in
theorem fgood_calls (f : FieldD) (w : World) : Calls Try.prog 57 #[f.val] w fun e w' => e = .returned (.bool (fgood f)) ∧ w' = w.alloc (.cells f.cells.toArray 49) := by
  obtain ⟨lo, hi, base, inf, sup, value⟩ := f
  simp only [FieldD.val, FieldD.cells]
  go_enter Try.func57, Try.ntmps57
  go_wp2_with fail
  all_goals (go_ret; refine ⟨congrArg (fun b => Ending.returned (.bool b)) ?_, rfl⟩; rw [Bool.eq_iff_iff]; simp [fgood, *] <;> omega)
def fwrong (f : FieldD) (d : Int) : Int := if fgood f = false then 12 else if d = 0 ∨ d = -9223372036854775808 then 1 else 0
theorem fwrong_calls (f : FieldD) (d : Int) (w : World) : Calls Try.prog 88 #[f.val, .int .i64 d] w fun e w' => e = .returned (.int .i64 (fwrong f d)) ∧ w' = (w.alloc (.cells f.cells.toArray 49)).alloc (.cells f.cells.toArray 49) := by
  have hg := fun w => fgood_calls f w
  obtain ⟨lo, hi, base, inf, sup, value⟩ := f
  simp only [FieldD.val, FieldD.cells] at *
  go_enter Try.func88, Try.ntmps88
  go_wp2_with (go_at_call 57; refine (hg _).mono ?_; rintro e w' ⟨rfl, rfl⟩)
  all_goals (go_ret; refine ⟨congrArg (fun b => Ending.returned (.int .i64 b)) ?_, rfl⟩; clear hg; simp_all [fwrong])
theorem infoField : (Try.prog.info? 49).map (·.size) = some 6 := by kernel_rfl
/-- A field in a cell and a word beside it, as results. -/
theorem results_fe {fn : Func} {p u : Tmp} (h : fn.results = #[.cell p 49, .tmp u]) (tmps : Array Value) (w : World) (g : Nat) (t : TypeId) (fr : Nat × Nat) (f : FieldD) (hp : tmps.getD p undef = .pointer (some ⟨g, 0, none⟩)) (hg : w.heap[g]? = some (.cells f.cells.toArray t fr)) :
    (results fn tmps).run Try.prog w = .ok (.tuple #[f.val, tmps.getD u undef]) w := by
  have hp' : tmps[p]?.getD undef = .pointer (some ⟨g, 0, none⟩) := by simpa using hp
  have hl := run_loadVar_row (P := Try.prog) w g t 49 f.cells.toArray fr _ hg Try.underlying49 rfl infoField
  have hv : f.val = .agg f.cells.toArray := rfl
  simp [results, h, hp', asAddr, hl, hv]
structure DeclD where
  key : KeyD
  lo : Int
  init : Int
  hi : Int
  deriving DecidableEq
def DeclD.cells (d : DeclD) : List Value := [.int .u8 d.key.kind, .int .u8 d.key.sku, .int .u8 d.key.ware, .int .i64 d.lo, .int .i64 d.init, .int .i64 d.hi]
def DeclD.val (d : DeclD) : Value := .agg #[.int .u8 d.key.kind, .int .u8 d.key.sku, .int .u8 d.key.ware, .int .i64 d.lo, .int .i64 d.init, .int .i64 d.hi]
def fnew (d : DeclD) : FieldD := ⟨d.lo, d.hi, d.init, d.init, d.init, d.init⟩
def fzero : FieldD := ⟨0, 0, 0, 0, 0, 0⟩
set_option maxRecDepth 100000 in
set_option maxHeartbeats 1000000 in
theorem fnew_calls (d : DeclD) (w : World) : Calls Try.prog 44 #[d.val] w fun e w' => e = .returned (.tuple #[(if fgood (fnew d) = true then fnew d else fzero).val, .int .i64 (if fgood (fnew d) = true then 0 else 3)]) ∧ Fr (w.heap.size ≤ ·) w w' := by
  obtain ⟨⟨k1, k2, k3⟩, lo, init, hi⟩ := d
  have hg := fun w => fgood_calls (fnew ⟨⟨k1, k2, k3⟩, lo, init, hi⟩) w
  have hfr : ∀ o1 o2 o3 o4, Fr (w.heap.size ≤ ·) w ((((w.alloc o1).alloc o2).alloc o3).alloc o4) := fun o1 o2 o3 o4 => ((((Fr.refl _ w).alloc _).alloc _).alloc _).alloc _
  have HF := Aside.mk hfr
  clear hfr
  cases hb : fgood (fnew ⟨⟨k1, k2, k3⟩, lo, init, hi⟩) <;> rw [hb] at hg <;> simp only [DeclD.val, fnew, FieldD.val, FieldD.cells, if_true, if_false, Bool.false_eq_true, fzero] at *
  all_goals
    clear hb
    go_enter Try.func44, Try.ntmps44
    go_wp2_with (go_at_call 57; refine (hg _).mono ?_; rintro e w' ⟨rfl, rfl⟩)
  all_goals exact bodyPost_ret (by simp [results, Try.results44, go_sem]) rfl ⟨rfl, HF.out _ _ _ _⟩
end Go.Proofs.Ytkfoapbjdegdiaa.Own
