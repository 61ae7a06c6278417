/- key.fine, key.both, key.Good; step.atWare, step.Good, step.Undo; pledgelaw12.few. -/
import Derived.Test.YtkfoapbjdegdiaaNeg
namespace Go.Proofs.Ytkfoapbjdegdiaa.Own
open Go.RowKit

def kFine (skus wares : Int) : Bool := decide (1 ≤ skus) && decide (skus ≤ 4) && decide (1 ≤ wares) && decide (wares ≤ 4)
def keyGood (skus wares : Int) (k : KeyD) : Bool :=
  kFine skus wares && decide (1 ≤ k.kind) && decide (k.kind ≤ 4) && decide (k.sku < skus) && (if atWare k.kind then decide (k.ware < wares) else k.ware == 0)
theorem fine_calls (skus wares : Int) (w : World) : Calls Try.prog 60 #[.int .i64 skus, .int .i64 wares] w fun e w' => e = .returned (.bool (kFine skus wares)) ∧ w' = w := by
  go_enter Try.func60, Try.ntmps60
  go_wp2_with fail
  all_goals (go_ret; refine ⟨congrArg (fun b => Ending.returned (.bool b)) ?_, rfl⟩; rw [Bool.eq_iff_iff]; simp [kFine, *] <;> omega)
theorem both_calls (kind : Int) (w : World) : Calls Try.prog 61 #[.int .u8 kind] w fun e w' => e = .returned (.bool (atWare kind)) ∧ w' = w := by
  go_enter Try.func61, Try.ntmps61
  go_wp2_with fail
  all_goals (go_ret; refine ⟨congrArg (fun b => Ending.returned (.bool b)) ?_, rfl⟩; rw [Bool.eq_iff_iff]; simp [atWare, *])
set_option maxRecDepth 100000 in
set_option maxHeartbeats 1000000 in
theorem good_calls (skus wares : Int) (k : KeyD) (h0 : 0 ≤ k.sku ∧ k.sku < 256) (h1 : 0 ≤ k.ware ∧ k.ware < 256) (w : World) : Calls Try.prog 28 #[.int .i64 skus, .int .i64 wares, k.val] w fun e w' => e = .returned (.bool (keyGood skus wares k)) ∧ w' = w.alloc (.cells k.cells.toArray 41) := by
  obtain ⟨k1, k2, k3⟩ := k
  dsimp only at h0 h1
  simp only [KeyD.val, KeyD.cells]
  go_enter Try.func28, Try.ntmps28
  go_wp2_with (first
    | (go_at_call 60; refine (fine_calls _ _ _).mono ?_; rintro e w' ⟨rfl, rfl⟩)
    | (go_at_call 61; refine (both_calls _ _).mono ?_; rintro e w' ⟨rfl, rfl⟩))
  all_goals (go_ret; refine ⟨congrArg (fun b => Ending.returned (.bool b)) ?_, rfl⟩; rw [Bool.eq_iff_iff]; simp [keyGood, *] <;> omega)
end Go.Proofs.Ytkfoapbjdegdiaa.Own
