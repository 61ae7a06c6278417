/- field.Grant, and the parts that field.move moves. -/
import Derived.Test.YtkfoapbjdegdiaaField
namespace Go.Proofs.Ytkfoapbjdegdiaa.Own
open Go.RowKit

def fgrant (f : FieldD) (d : Int) : FieldD × Int :=
  if fwrong f d ≠ 0 then (f, fwrong f d)
  else if ¬ InI64 ((if d < 0 then f.inf else f.sup) + d) then (f, 2)
  else if (if d < 0 then f.inf else f.sup) + d < f.lo ∨ f.hi < (if d < 0 then f.inf else f.sup) + d then (f, 3)
  else (if d < 0 then { f with inf := f.inf + d, value := f.value + d } else { f with sup := f.sup + d, value := f.value + d }, 0)
theorem fgood_iff (f : FieldD) : fgood f = true ↔ f.lo ≤ f.inf ∧ f.inf ≤ f.base ∧ f.inf ≤ f.value ∧ f.base ≤ f.sup ∧ f.value ≤ f.sup ∧ f.sup ≤ f.hi := by simp [fgood]
theorem fwrong_zero {f : FieldD} {d : Int} (h : fwrong f d = 0) : fgood f = true ∧ d ≠ 0 ∧ d ≠ -9223372036854775808 := by
  unfold fwrong at h
  cases hg : fgood f <;> simp [hg] at h
  exact ⟨rfl, by omega⟩
set_option maxRecDepth 100000 in
set_option maxHeartbeats 2000000 in
theorem fgrant_calls (f : FieldD) (d : Int) (hf : f.In) (hd : InI64 d) (w : World) : Calls Try.prog 50 #[f.val, .int .i64 d] w fun e w' => e = .returned (.tuple #[(fgrant f d).1.val, .int .i64 (fgrant f d).2]) ∧ Fr (w.heap.size ≤ ·) w w' := by
  have hW := fun W => fwrong_calls f d W
  by_cases h0 : fwrong f d = 0
  · obtain ⟨hg, hd0, hdm⟩ := fwrong_zero h0
    have hG := (fgood_iff f).1 hg
    rw [h0] at hW
    have hfin : fgrant f d = if ¬ InI64 ((if d < 0 then f.inf else f.sup) + d) then (f, 2)
      else if (if d < 0 then f.inf else f.sup) + d < f.lo ∨ f.hi < (if d < 0 then f.inf else f.sup) + d then (f, 3)
      else (if d < 0 then { f with inf := f.inf + d, value := f.value + d } else { f with sup := f.sup + d, value := f.value + d }, 0) := by unfold fgrant; rw [if_neg (by simpa using h0)]
    have HW := Aside.mk hW
    have HV : Aside (fgood f = true) := ⟨hg⟩
    generalize fgrant f d = r at *
    have HFin := Aside.mk hfin
    clear hW hfin h0 hg
    obtain ⟨lo, hi, base, inf, sup, value⟩ := f
    obtain ⟨i1, i2, i3, i4, i5, i6⟩ := hf
    dsimp only at i1 i2 i3 i4 i5 i6 hG HFin
    simp only [FieldD.val, FieldD.cells] at HW
    rw [show (FieldD.mk lo hi base inf sup value).val = .agg #[.int .i64 lo, .int .i64 hi, .int .i64 base, .int .i64 inf, .int .i64 sup, .int .i64 value] from rfl]
    by_cases hn : d < 0
    · have hnd : decide (d < 0) = true := decide_eq_true hn
      have hA := fun W => cadd_calls inf d i4 hd W
      have HFin2 := HFin.out
      rw [if_pos hn, if_pos hn] at HFin2
      have HFin3 := Aside.mk HFin2
      have HA := Aside.mk hA
      unfold InI64 at i1 i2 i3 i4 i5 i6 hd
      clear hA HFin2 HFin
      go_enter Try.func50, Try.ntmps50
      go_wp2_with (first
        | (go_at_call 88; refine (HW.out _).mono ?_; rintro e w' ⟨rfl, rfl⟩)
        | (go_at_call 89; refine (HA.out _).mono ?_; rintro e w' ⟨⟨hin, rfl⟩ | ⟨hin, rfl⟩, rfl⟩))
      · obtain rfl := HFin3.out.trans (by rw [if_neg (by simpa using hin), if_neg (by omega)])
        exact bodyPost_ret (by simp [results, Try.results50, go_sem, FieldD.val]) rfl ⟨rfl, (by (repeat (refine Fr.alloc ?_ _)); exact Fr.refl _ _)⟩
      · obtain rfl := HFin3.out.trans (by rw [if_neg (by simpa using hin), if_pos (by omega)])
        exact bodyPost_ret (by simp [results, Try.results50, go_sem, FieldD.val]) rfl ⟨rfl, (by (repeat (refine Fr.alloc ?_ _)); exact Fr.refl _ _)⟩
      · obtain rfl := HFin3.out.trans (by rw [if_pos (by simpa using hin)])
        exact bodyPost_ret (by simp [results, Try.results50, go_sem, FieldD.val]) rfl ⟨rfl, (by (repeat (refine Fr.alloc ?_ _)); exact Fr.refl _ _)⟩
    · have hnd : decide (d < 0) = false := decide_eq_false hn
      have hA := fun W => cadd_calls sup d i5 hd W
      have HFin2 := HFin.out
      rw [if_neg hn, if_neg hn] at HFin2
      have HFin3 := Aside.mk HFin2
      have HA := Aside.mk hA
      unfold InI64 at i1 i2 i3 i4 i5 i6 hd
      clear hA HFin2 HFin
      go_enter Try.func50, Try.ntmps50
      go_wp2_with (first
        | (go_at_call 88; refine (HW.out _).mono ?_; rintro e w' ⟨rfl, rfl⟩)
        | (go_at_call 89; refine (HA.out _).mono ?_; rintro e w' ⟨⟨hin, rfl⟩ | ⟨hin, rfl⟩, rfl⟩))
      · obtain rfl := HFin3.out.trans (by rw [if_neg (by simpa using hin), if_pos (by omega)])
        exact bodyPost_ret (by simp [results, Try.results50, go_sem, FieldD.val]) rfl ⟨rfl, (by (repeat (refine Fr.alloc ?_ _)); exact Fr.refl _ _)⟩
      · obtain rfl := HFin3.out.trans (by rw [if_neg (by simpa using hin), if_neg (by omega)])
        exact bodyPost_ret (by simp [results, Try.results50, go_sem, FieldD.val]) rfl ⟨rfl, (by (repeat (refine Fr.alloc ?_ _)); exact Fr.refl _ _)⟩
      · obtain rfl := HFin3.out.trans (by rw [if_pos (by simpa using hin)])
        exact bodyPost_ret (by simp [results, Try.results50, go_sem, FieldD.val]) rfl ⟨rfl, (by (repeat (refine Fr.alloc ?_ _)); exact Fr.refl _ _)⟩
  · have hfin : fgrant f d = (f, fwrong f d) := by unfold fgrant; rw [if_pos h0]
    rw [hfin]
    have hne : (fwrong f d != 0) = true := bne_iff_ne.2 h0
    have HW := Aside.mk hW
    clear hW hfin h0
    generalize fwrong f d = x at *
    obtain ⟨lo, hi, base, inf, sup, value⟩ := f
    simp only [FieldD.val, FieldD.cells] at *
    go_enter Try.func50, Try.ntmps50
    go_wp2_with (go_at_call 88; refine (HW.out _).mono ?_; rintro e w' ⟨rfl, rfl⟩)
    exact bodyPost_ret (by simp [results, Try.results50, go_sem, FieldD.val]) rfl ⟨rfl, (by (repeat (refine Fr.alloc ?_ _)); exact Fr.refl _ _)⟩
end Go.Proofs.Ytkfoapbjdegdiaa.Own
