/- field.Undo, Settle, Back, Forth, Drop: ways of field.move. -/
import Derived.Test.YtkfoapbjdegdiaaMove
namespace Go.Proofs.Ytkfoapbjdegdiaa.Own
open Go.RowKit

/-- A function of fields: what it answers. -/
def FieldFn (fid : FuncId) (g : FieldD → Int → FieldD × Int) : Prop :=
  ∀ (f : FieldD) (d : Int), f.In → InI64 d → ∀ w, Calls Try.prog fid #[f.val, .int .i64 d] w fun e w' => e = .returned (.tuple #[(g f d).1.val, .int .i64 (g f d).2]) ∧ Fr (w.heap.size ≤ ·) w w'
theorem grant_fn : FieldFn 50 fgrant := fun f d hf hd w => fgrant_calls f d hf hd w
set_option maxRecDepth 100000 in
set_option maxHeartbeats 2000000 in
theorem undo_fn : FieldFn 62 (fmove .less .still .still .less) := by
  intro f d hf hd w
  have hM := fun W => fmove_calls .less .still .still .less f d hf hd W
  generalize fmove .less .still .still .less f d = r at *
  obtain ⟨⟨r1, r2, r3, r4, r5, r6⟩, n⟩ := r
  obtain ⟨lo, hi, base, inf, sup, value⟩ := f
  simp only [Way.val, Way.fn, FieldD.val] at hM
  have HM := Aside.mk hM
  clear hM hf hd
  rw [show (FieldD.mk lo hi base inf sup value).val = .agg #[.int .i64 lo, .int .i64 hi, .int .i64 base, .int .i64 inf, .int .i64 sup, .int .i64 value] from rfl]
  go_enter Try.func62, Try.ntmps62
  go_wp2_with (go_at_call 93; refine (HM.out _).mono ?_; rintro e w' ⟨rfl, hf⟩; have hres : w'.heap[w.heap.size + 1]? = some (.cells fzero.cells.toArray 49 (0, 0)) := hf.obj (blk_new _ (by simp)) (by simp); have hsz := blk_lt hres; obtain ⟨x0, x1, x2, x3, x4, x5⟩ := wholeField _ _ _ hres; have hz := free_of hres; have HRes := Aside.mk hres; have HF := Aside.mk (((Fr.refl (w.heap.size ≤ ·) w).alloc _).alloc _ |>.trans hf (fun k _ e => by simp at e; omega)); clear hres hf)
  exact bodyPost_ret (results_fe Try.results62 _ _ (w.heap.size + 1) _ _ _ rfl (field_put ⟨r1, r2, r3, r4, r5, r6⟩ HRes.out)) rfl ⟨rfl, by (repeat (with_reducible refine Fr.set ?_ _ _ (Nat.le_succ _) _)); exact HF.out⟩
set_option maxRecDepth 100000 in
set_option maxHeartbeats 2000000 in
theorem settle_fn : FieldFn 99 (fmove .still .more .more .still) := by
  intro f d hf hd w
  have hM := fun W => fmove_calls .still .more .more .still f d hf hd W
  generalize fmove .still .more .more .still f d = r at *
  obtain ⟨⟨r1, r2, r3, r4, r5, r6⟩, n⟩ := r
  obtain ⟨lo, hi, base, inf, sup, value⟩ := f
  simp only [Way.val, Way.fn, FieldD.val] at hM
  have HM := Aside.mk hM
  clear hM hf hd
  rw [show (FieldD.mk lo hi base inf sup value).val = .agg #[.int .i64 lo, .int .i64 hi, .int .i64 base, .int .i64 inf, .int .i64 sup, .int .i64 value] from rfl]
  go_enter Try.func99, Try.ntmps99
  go_wp2_with (go_at_call 93; refine (HM.out _).mono ?_; rintro e w' ⟨rfl, hf⟩; have hres : w'.heap[w.heap.size + 1]? = some (.cells fzero.cells.toArray 49 (0, 0)) := hf.obj (blk_new _ (by simp)) (by simp); have hsz := blk_lt hres; obtain ⟨x0, x1, x2, x3, x4, x5⟩ := wholeField _ _ _ hres; have hz := free_of hres; have HRes := Aside.mk hres; have HF := Aside.mk (((Fr.refl (w.heap.size ≤ ·) w).alloc _).alloc _ |>.trans hf (fun k _ e => by simp at e; omega)); clear hres hf)
  exact bodyPost_ret (results_fe Try.results99 _ _ (w.heap.size + 1) _ _ _ rfl (field_put ⟨r1, r2, r3, r4, r5, r6⟩ HRes.out)) rfl ⟨rfl, by (repeat (with_reducible refine Fr.set ?_ _ _ (Nat.le_succ _) _)); exact HF.out⟩
set_option maxRecDepth 100000 in
set_option maxHeartbeats 2000000 in
theorem back_fn : FieldFn 100 (fmove .less .still .still .still) := by
  intro f d hf hd w
  have hM := fun W => fmove_calls .less .still .still .still f d hf hd W
  generalize fmove .less .still .still .still f d = r at *
  obtain ⟨⟨r1, r2, r3, r4, r5, r6⟩, n⟩ := r
  obtain ⟨lo, hi, base, inf, sup, value⟩ := f
  simp only [Way.val, Way.fn, FieldD.val] at hM
  have HM := Aside.mk hM
  clear hM hf hd
  rw [show (FieldD.mk lo hi base inf sup value).val = .agg #[.int .i64 lo, .int .i64 hi, .int .i64 base, .int .i64 inf, .int .i64 sup, .int .i64 value] from rfl]
  go_enter Try.func100, Try.ntmps100
  go_wp2_with (go_at_call 93; refine (HM.out _).mono ?_; rintro e w' ⟨rfl, hf⟩; have hres : w'.heap[w.heap.size + 1]? = some (.cells fzero.cells.toArray 49 (0, 0)) := hf.obj (blk_new _ (by simp)) (by simp); have hsz := blk_lt hres; obtain ⟨x0, x1, x2, x3, x4, x5⟩ := wholeField _ _ _ hres; have hz := free_of hres; have HRes := Aside.mk hres; have HF := Aside.mk (((Fr.refl (w.heap.size ≤ ·) w).alloc _).alloc _ |>.trans hf (fun k _ e => by simp at e; omega)); clear hres hf)
  exact bodyPost_ret (results_fe Try.results100 _ _ (w.heap.size + 1) _ _ _ rfl (field_put ⟨r1, r2, r3, r4, r5, r6⟩ HRes.out)) rfl ⟨rfl, by (repeat (with_reducible refine Fr.set ?_ _ _ (Nat.le_succ _) _)); exact HF.out⟩
set_option maxRecDepth 100000 in
set_option maxHeartbeats 2000000 in
theorem forth_fn : FieldFn 101 (fmove .more .still .still .still) := by
  intro f d hf hd w
  have hM := fun W => fmove_calls .more .still .still .still f d hf hd W
  generalize fmove .more .still .still .still f d = r at *
  obtain ⟨⟨r1, r2, r3, r4, r5, r6⟩, n⟩ := r
  obtain ⟨lo, hi, base, inf, sup, value⟩ := f
  simp only [Way.val, Way.fn, FieldD.val] at hM
  have HM := Aside.mk hM
  clear hM hf hd
  rw [show (FieldD.mk lo hi base inf sup value).val = .agg #[.int .i64 lo, .int .i64 hi, .int .i64 base, .int .i64 inf, .int .i64 sup, .int .i64 value] from rfl]
  go_enter Try.func101, Try.ntmps101
  go_wp2_with (go_at_call 93; refine (HM.out _).mono ?_; rintro e w' ⟨rfl, hf⟩; have hres : w'.heap[w.heap.size + 1]? = some (.cells fzero.cells.toArray 49 (0, 0)) := hf.obj (blk_new _ (by simp)) (by simp); have hsz := blk_lt hres; obtain ⟨x0, x1, x2, x3, x4, x5⟩ := wholeField _ _ _ hres; have hz := free_of hres; have HRes := Aside.mk hres; have HF := Aside.mk (((Fr.refl (w.heap.size ≤ ·) w).alloc _).alloc _ |>.trans hf (fun k _ e => by simp at e; omega)); clear hres hf)
  exact bodyPost_ret (results_fe Try.results101 _ _ (w.heap.size + 1) _ _ _ rfl (field_put ⟨r1, r2, r3, r4, r5, r6⟩ HRes.out)) rfl ⟨rfl, by (repeat (with_reducible refine Fr.set ?_ _ _ (Nat.le_succ _) _)); exact HF.out⟩
set_option maxRecDepth 100000 in
set_option maxHeartbeats 2000000 in
theorem drop_fn : FieldFn 102 (fmove .still .still .still .less) := by
  intro f d hf hd w
  have hM := fun W => fmove_calls .still .still .still .less f d hf hd W
  generalize fmove .still .still .still .less f d = r at *
  obtain ⟨⟨r1, r2, r3, r4, r5, r6⟩, n⟩ := r
  obtain ⟨lo, hi, base, inf, sup, value⟩ := f
  simp only [Way.val, Way.fn, FieldD.val] at hM
  have HM := Aside.mk hM
  clear hM hf hd
  rw [show (FieldD.mk lo hi base inf sup value).val = .agg #[.int .i64 lo, .int .i64 hi, .int .i64 base, .int .i64 inf, .int .i64 sup, .int .i64 value] from rfl]
  go_enter Try.func102, Try.ntmps102
  go_wp2_with (go_at_call 93; refine (HM.out _).mono ?_; rintro e w' ⟨rfl, hf⟩; have hres : w'.heap[w.heap.size + 1]? = some (.cells fzero.cells.toArray 49 (0, 0)) := hf.obj (blk_new _ (by simp)) (by simp); have hsz := blk_lt hres; obtain ⟨x0, x1, x2, x3, x4, x5⟩ := wholeField _ _ _ hres; have hz := free_of hres; have HRes := Aside.mk hres; have HF := Aside.mk (((Fr.refl (w.heap.size ≤ ·) w).alloc _).alloc _ |>.trans hf (fun k _ e => by simp at e; omega)); clear hres hf)
  exact bodyPost_ret (results_fe Try.results102 _ _ (w.heap.size + 1) _ _ _ rfl (field_put ⟨r1, r2, r3, r4, r5, r6⟩ HRes.out)) rfl ⟨rfl, by (repeat (with_reducible refine Fr.set ?_ _ _ (Nat.le_succ _) _)); exact HF.out⟩
end Go.Proofs.Ytkfoapbjdegdiaa.Own
