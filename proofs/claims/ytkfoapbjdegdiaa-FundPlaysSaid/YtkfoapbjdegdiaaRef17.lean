/- pledgeref17: New, Good, first, Grant, times, Moved, Do. -/
import Derived.Test.YtkfoapbjdegdiaaRef01
import Derived.Test.YtkfoapbjdegdiaaField3
namespace Go.Proofs.Ytkfoapbjdegdiaa.Own
open Go.RowKit

set_option maxRecDepth 100000 in
set_option maxHeartbeats 1000000 in
theorem rgood_calls (f : FieldD) (w : World) : Calls Try.prog 55 #[f.val] w fun e w' => e = .returned (.bool (fgood f)) ∧ w' = w.alloc (.cells f.cells.toArray 49) := by
  obtain ⟨lo, hi, base, inf, sup, value⟩ := f
  simp only [FieldD.val, FieldD.cells]
  go_enter Try.func55, Try.ntmps55
  go_wp2_with fail
  all_goals (go_ret; refine ⟨congrArg (fun b => Ending.returned (.bool b)) ?_, rfl⟩; rw [Bool.eq_iff_iff]; simp [fgood, *] <;> omega)
theorem rfirst_calls (f : FieldD) (d : Int) (hd : InI64 d) (w : World) : Calls Try.prog 96 #[f.val, .int .i64 d] w fun e w' => e = .returned (.int .i64 (fwrong f d)) ∧ w' = (w.alloc (.cells f.cells.toArray 49)).alloc (.cells f.cells.toArray 49) := by
  have hg := fun w => rgood_calls f w
  have hfin : fwrong f d = if fgood f = false then 12 else if d = 0 ∨ d = -9223372036854775808 then 1 else 0 := rfl
  generalize fwrong f d = r at *
  generalize fgood f = b at *
  obtain ⟨lo, hi, base, inf, sup, value⟩ := f
  simp only [FieldD.val, FieldD.cells] at *
  have HG := Aside.mk hg
  have HF := Aside.mk hfin
  unfold InI64 at hd
  clear hg hfin
  cases b
  · obtain rfl := HF.out.trans (if_pos rfl)
    go_enter Try.func96, Try.ntmps96
    go_wp2_with (go_at_call 55; refine (HG.out _).mono ?_; rintro e w' ⟨rfl, rfl⟩)
    go_ret
    exact ⟨rfl, rfl⟩
  · have h2 := HF.out.trans (if_neg (by simp))
    by_cases h0 : d = 0
    · obtain rfl := h2.trans (if_pos (.inl h0))
      have hb : (d == 0) = true := by simp [h0]
      clear h0 h2
      go_enter Try.func96, Try.ntmps96
      go_wp2_with (go_at_call 55; refine (HG.out _).mono ?_; rintro e w' ⟨rfl, rfl⟩)
      all_goals (go_ret; exact ⟨rfl, rfl⟩)
    · have hb : (d == 0) = false := by simp [h0]
      by_cases h1 : d < -9223372036854775807
      · obtain rfl := h2.trans (if_pos (.inr (by omega)))
        have hb2 : decide (d < -9223372036854775807) = true := decide_eq_true h1
        clear h0 h2
        go_enter Try.func96, Try.ntmps96
        go_wp2_with (go_at_call 55; refine (HG.out _).mono ?_; rintro e w' ⟨rfl, rfl⟩)
        all_goals (go_ret; exact ⟨rfl, rfl⟩)
      · obtain rfl := h2.trans (if_neg (by omega))
        have hb2 : decide (d < -9223372036854775807) = false := decide_eq_false h1
        clear h0 h2
        go_enter Try.func96, Try.ntmps96
        go_wp2_with (go_at_call 55; refine (HG.out _).mono ?_; rintro e w' ⟨rfl, rfl⟩)
        all_goals (go_ret; exact ⟨rfl, rfl⟩)
theorem fgood_new (d : DeclD) : fgood (fnew d) = true ↔ d.lo ≤ d.init ∧ d.init ≤ d.hi := by
  rw [fgood_iff]; simp only [fnew]; omega
set_option maxRecDepth 100000 in
set_option maxHeartbeats 1000000 in
theorem rfnew_calls (d : DeclD) (w : World) : Calls Try.prog 52 #[d.val] w fun e w' => e = .returned (.tuple #[(if fgood (fnew d) = true then fnew d else fzero).val, .int .i64 (if fgood (fnew d) = true then 0 else 3)]) ∧ Fr (w.heap.size ≤ ·) w w' := by
  obtain ⟨⟨k1, k2, k3⟩, lo, init, hi⟩ := d
  have hg := fgood_new ⟨⟨k1, k2, k3⟩, lo, init, hi⟩
  dsimp only at hg
  simp only [DeclD.val]
  by_cases h1 : init < lo
  · have hn : ¬ fgood (fnew ⟨⟨k1, k2, k3⟩, lo, init, hi⟩) = true := by rw [hg]; omega
    rw [if_neg hn, if_neg hn]
    have hd : decide (init < lo) = true := decide_eq_true h1
    clear hg hn
    go_enter Try.func52, Try.ntmps52
    go_wp2_with fail
    exact bodyPost_ret (by simp [results, Try.results52, go_sem, fzero, FieldD.val]) rfl ⟨rfl, by (repeat (with_reducible refine Fr.alloc ?_ _)); exact Fr.refl _ _⟩
  · have hd : decide (init < lo) = false := decide_eq_false h1
    by_cases h2 : hi < init
    · have hn : ¬ fgood (fnew ⟨⟨k1, k2, k3⟩, lo, init, hi⟩) = true := by rw [hg]; omega
      rw [if_neg hn, if_neg hn]
      have hd : decide (hi < init) = true := decide_eq_true h2
      clear hg hn
      go_enter Try.func52, Try.ntmps52
      go_wp2_with fail
      exact bodyPost_ret (by simp [results, Try.results52, go_sem, fzero, FieldD.val]) rfl ⟨rfl, by (repeat (with_reducible refine Fr.alloc ?_ _)); exact Fr.refl _ _⟩
    · have hn : fgood (fnew ⟨⟨k1, k2, k3⟩, lo, init, hi⟩) = true := by rw [hg]; omega
      rw [if_pos hn, if_pos hn]
      have hd : decide (hi < init) = false := decide_eq_false h2
      clear hg hn
      go_enter Try.func52, Try.ntmps52
      go_wp2_with fail
      exact bodyPost_ret (by simp [results, Try.results52, go_sem, fnew, FieldD.val]) rfl ⟨rfl, by (repeat (with_reducible refine Fr.alloc ?_ _)); exact Fr.refl _ _⟩
/-- Within Grant, behind the sum. -/
structure GrAt (w W : World) (f : FieldD) : Prop where
  box : W.heap[w.heap.size]? = some (.cells f.cells.toArray 49 (0, 0))
  res : W.heap[w.heap.size + 1]? = some (.cells fzero.cells.toArray 49 (0, 0))
  g : W.heap[w.heap.size + 1 + 1 + 1 + 1]? = some (.cells f.cells.toArray 49 (0, 0))
  fr : Fr (w.heap.size ≤ ·) w W
theorem GrAt.of {w W W0 : World} {f : FieldD} {o2 o3 : Obj} (h0 : W0 = ((((w.alloc (.cells f.cells.toArray 49)).alloc (.cells fzero.cells.toArray 49)).alloc o2).alloc o3).alloc (.cells f.cells.toArray 49)) (hf : Fr (W0.heap.size ≤ ·) W0 W) : GrAt w W f := by
  subst h0
  exact
  ⟨hf.obj (blk_old (blk_old (blk_old (blk_old (blk_new _ rfl) _) _) _) _) (by simp; omega), hf.obj (blk_old (blk_old (blk_old (blk_new _ (by simp)) _) _) _) (by simp; omega), hf.obj (blk_new _ (by simp)) (by simp), (((((Fr.refl (w.heap.size ≤ ·) w).alloc _).alloc _).alloc _).alloc _).alloc _ |>.up hf⟩
set_option maxRecDepth 100000 in
set_option maxHeartbeats 4000000 in
theorem rgrant_calls (f : FieldD) (d : Int) (hf : f.In) (hd : InI64 d) (w : World) : Calls Try.prog 63 #[f.val, .int .i64 d] w fun e w' => e = .returned (.tuple #[(fgrant f d).1.val, .int .i64 (fgrant f d).2]) ∧ Fr (w.heap.size ≤ ·) w w' := by
  have hW := fun W => rfirst_calls f d hd W
  by_cases h0 : fwrong f d = 0
  · obtain ⟨hg, hd0, hdm⟩ := fwrong_zero h0
    have hG := (fgood_iff f).1 hg
    rw [h0] at hW
    have hfin : fgrant f d = if ¬ InI64 ((if d < 0 then f.inf else f.sup) + d) then (f, 2)
      else if (if d < 0 then f.inf else f.sup) + d < f.lo ∨ f.hi < (if d < 0 then f.inf else f.sup) + d then (f, 3)
      else (if d < 0 then { f with inf := f.inf + d, value := f.value + d } else { f with sup := f.sup + d, value := f.value + d }, 0) := by unfold fgrant; rw [if_neg (by simpa using h0)]
    have HW := Aside.mk hW
    generalize fgrant f d = r at *
    have HFin := Aside.mk hfin
    clear hW hfin h0 hg
    obtain ⟨lo, hi, base, inf, sup, value⟩ := f
    obtain ⟨i1, i2, i3, i4, i5, i6⟩ := hf
    dsimp only at i1 i2 i3 i4 i5 i6 hG HFin
    simp only [FieldD.val, FieldD.cells] at HW
    rw [show (FieldD.mk lo hi base inf sup value).val = .agg #[.int .i64 lo, .int .i64 hi, .int .i64 base, .int .i64 inf, .int .i64 sup, .int .i64 value] from rfl]
    obtain ⟨en, hen⟩ : ∃ en, (if d < 0 then inf else sup) = en := ⟨_, rfl⟩
    have hIe : InI64 en := by rw [← hen]; split <;> assumption
    have hA := fun W => radd_calls en d hIe hd W
    rw [hen] at HFin
    have hr : radd en d = (if InI64 (en + d) then en + d else 0, decide (InI64 (en + d))) := rfl
    have HEn := Aside.mk hen
    have hvb : lo ≤ en + d → en + d ≤ hi → -9223372036854775808 ≤ value + d ∧ value + d ≤ 9223372036854775807 := by
      intro h1 h2
      unfold InI64 at *
      by_cases hn : d < 0
      · rw [if_pos hn] at hen; subst hen; omega
      · rw [if_neg hn] at hen; subst hen; omega
    have HVb := Aside.mk hvb
    clear hen hvb
    by_cases hin : InI64 (en + d)
    · rw [hr, if_pos hin, decide_eq_true hin] at hA
      have HA := Aside.mk hA
      have HIn := Aside.mk hin
      unfold InI64 at i1 i2 i3 i4 i5 i6 hd hIe hin
      clear hA hr
      have HE3 : Aside ((d < 0 ∧ inf = en) ∨ (¬ d < 0 ∧ sup = en)) := ⟨by have := HEn.out; by_cases hn : d < 0; (rw [if_pos hn] at this; exact .inl ⟨hn, this⟩); (rw [if_neg hn] at this; exact .inr ⟨hn, this⟩)⟩
      by_cases hlo : en + d < lo
      · rcases HE3.out with ⟨hn, he⟩ | ⟨hn, he⟩
        rotate_left
        · exact absurd hlo (by omega)
        subst he
        obtain rfl := HFin.out.trans (by rw [if_neg (by simpa using HIn.out), if_pos (.inl hlo)])
        go_enter Try.func63, Try.ntmps63
        go_wp2_with (first
          | (go_at_call 96; refine (HW.out _).mono ?_; rintro e w' ⟨rfl, rfl⟩)
          | (go_at_call 97; refine (HA.out _).mono ?_; rintro e w1 ⟨rfl, hf1⟩; have HM : Aside (GrAt w w1 ⟨lo, hi, base, inf, sup, value⟩) := ⟨GrAt.of rfl hf1⟩; obtain ⟨c0, c1, c2, c3, c4, c5⟩ := wholeField _ _ _ HM.out.box; obtain ⟨r0, r1, r2, r3, r4, r5⟩ := wholeField _ _ _ HM.out.res; obtain ⟨g0, g1, g2, g3, g4, g5⟩ := wholeField _ _ _ HM.out.g; have z1 := free_of HM.out.res; have z2 := free_of HM.out.g; have l0 := blk_lt HM.out.box; have l1 := blk_lt HM.out.res; have l2 := blk_lt HM.out.g; clear hf1))
        exact bodyPost_ret (results_fe Try.results63 _ _ (w.heap.size + 1) _ _ _ rfl (field_put ⟨lo, hi, base, inf, sup, value⟩ HM.out.res)) rfl ⟨rfl, (by (repeat (first | (with_reducible refine Fr.alloc ?_ _) | (with_reducible refine Fr.set ?_ _ _ (by omega) _))); exact HM.out.fr)⟩
      · by_cases hhi : hi < en + d
        · rcases HE3.out with ⟨hn, he⟩ | ⟨hn, he⟩
          · exact absurd hhi (by omega)
          subst he
          obtain rfl := HFin.out.trans (by rw [if_neg (by simpa using HIn.out), if_pos (.inr hhi)])
          go_enter Try.func63, Try.ntmps63
          go_wp2_with (first
            | (go_at_call 96; refine (HW.out _).mono ?_; rintro e w' ⟨rfl, rfl⟩)
            | (go_at_call 97; refine (HA.out _).mono ?_; rintro e w1 ⟨rfl, hf1⟩; have HM : Aside (GrAt w w1 ⟨lo, hi, base, inf, sup, value⟩) := ⟨GrAt.of rfl hf1⟩; obtain ⟨c0, c1, c2, c3, c4, c5⟩ := wholeField _ _ _ HM.out.box; obtain ⟨r0, r1, r2, r3, r4, r5⟩ := wholeField _ _ _ HM.out.res; obtain ⟨g0, g1, g2, g3, g4, g5⟩ := wholeField _ _ _ HM.out.g; have z1 := free_of HM.out.res; have z2 := free_of HM.out.g; have l0 := blk_lt HM.out.box; have l1 := blk_lt HM.out.res; have l2 := blk_lt HM.out.g; clear hf1))
          exact bodyPost_ret (results_fe Try.results63 _ _ (w.heap.size + 1) _ _ _ rfl (field_put ⟨lo, hi, base, inf, sup, value⟩ HM.out.res)) rfl ⟨rfl, (by (repeat (first | (with_reducible refine Fr.alloc ?_ _) | (with_reducible refine Fr.set ?_ _ _ (by omega) _))); exact HM.out.fr)⟩
        · have hv := HVb.out (by omega) (by omega)
          have HE2 := HEn.out
          by_cases hn : d < 0
          · rw [if_pos hn] at HE2
            subst HE2
            have hnd : decide (0 < d) = false := decide_eq_false (by omega)
            have hnd2 : decide (d < 0) = true := decide_eq_true hn
            obtain rfl := HFin.out.trans (by rw [if_neg (by simpa using HIn.out), if_neg (by omega), if_pos hn])
            go_enter Try.func63, Try.ntmps63
            go_wp2_with (first
              | (go_at_call 96; refine (HW.out _).mono ?_; rintro e w' ⟨rfl, rfl⟩)
              | (go_at_call 97; refine (HA.out _).mono ?_; rintro e w1 ⟨rfl, hf1⟩; have HM : Aside (GrAt w w1 ⟨lo, hi, base, inf, sup, value⟩) := ⟨GrAt.of rfl hf1⟩; obtain ⟨c0, c1, c2, c3, c4, c5⟩ := wholeField _ _ _ HM.out.box; obtain ⟨r0, r1, r2, r3, r4, r5⟩ := wholeField _ _ _ HM.out.res; obtain ⟨g0, g1, g2, g3, g4, g5⟩ := wholeField _ _ _ HM.out.g; have z1 := free_of HM.out.res; have z2 := free_of HM.out.g; have l0 := blk_lt HM.out.box; have l1 := blk_lt HM.out.res; have l2 := blk_lt HM.out.g; clear hf1))
            exact bodyPost_ret (results_fe Try.results63 _ _ (w.heap.size + 1) _ _ _ rfl (field_put ⟨lo, hi, base, inf + d, sup, value + d⟩ (blk_set (blk_set HM.out.res _ _ (by omega) _) _ _ (by omega) _))) rfl ⟨rfl, (by (repeat (first | (with_reducible refine Fr.alloc ?_ _) | (with_reducible refine Fr.set ?_ _ _ (by omega) _))); exact HM.out.fr)⟩
          · rw [if_neg hn] at HE2
            subst HE2
            have hnd : decide (0 < d) = true := decide_eq_true (by omega)
            have hnd2 : decide (d < 0) = false := decide_eq_false hn
            obtain rfl := HFin.out.trans (by rw [if_neg (by simpa using HIn.out), if_neg (by omega), if_neg hn])
            go_enter Try.func63, Try.ntmps63
            go_wp2_with (first
              | (go_at_call 96; refine (HW.out _).mono ?_; rintro e w' ⟨rfl, rfl⟩)
              | (go_at_call 97; refine (HA.out _).mono ?_; rintro e w1 ⟨rfl, hf1⟩; have HM : Aside (GrAt w w1 ⟨lo, hi, base, inf, sup, value⟩) := ⟨GrAt.of rfl hf1⟩; obtain ⟨c0, c1, c2, c3, c4, c5⟩ := wholeField _ _ _ HM.out.box; obtain ⟨r0, r1, r2, r3, r4, r5⟩ := wholeField _ _ _ HM.out.res; obtain ⟨g0, g1, g2, g3, g4, g5⟩ := wholeField _ _ _ HM.out.g; have z1 := free_of HM.out.res; have z2 := free_of HM.out.g; have l0 := blk_lt HM.out.box; have l1 := blk_lt HM.out.res; have l2 := blk_lt HM.out.g; clear hf1))
            exact bodyPost_ret (results_fe Try.results63 _ _ (w.heap.size + 1) _ _ _ rfl (field_put ⟨lo, hi, base, inf, sup + d, value + d⟩ (blk_set (blk_set HM.out.res _ _ (by omega) _) _ _ (by omega) _))) rfl ⟨rfl, (by (repeat (first | (with_reducible refine Fr.alloc ?_ _) | (with_reducible refine Fr.set ?_ _ _ (by omega) _))); exact HM.out.fr)⟩
    · rw [hr, if_neg hin, decide_eq_false hin] at hA
      have HA := Aside.mk hA
      have HIn := Aside.mk hin
      unfold InI64 at i1 i2 i3 i4 i5 i6 hd hIe
      clear hA hr hin
      have HE2 := HEn.out
      by_cases hn : d < 0
      · rw [if_pos hn] at HE2
        subst HE2
        have hnd2 : decide (d < 0) = true := decide_eq_true hn
        obtain rfl := HFin.out.trans (by rw [if_pos (by simpa using HIn.out)])
        go_enter Try.func63, Try.ntmps63
        go_wp2_with (first
          | (go_at_call 96; refine (HW.out _).mono ?_; rintro e w' ⟨rfl, rfl⟩)
          | (go_at_call 97; refine (HA.out _).mono ?_; rintro e w1 ⟨rfl, hf1⟩; have HM : Aside (GrAt w w1 ⟨lo, hi, base, inf, sup, value⟩) := ⟨GrAt.of rfl hf1⟩; obtain ⟨c0, c1, c2, c3, c4, c5⟩ := wholeField _ _ _ HM.out.box; obtain ⟨r0, r1, r2, r3, r4, r5⟩ := wholeField _ _ _ HM.out.res; obtain ⟨g0, g1, g2, g3, g4, g5⟩ := wholeField _ _ _ HM.out.g; have z1 := free_of HM.out.res; have z2 := free_of HM.out.g; have l0 := blk_lt HM.out.box; have l1 := blk_lt HM.out.res; have l2 := blk_lt HM.out.g; clear hf1))
        exact bodyPost_ret (results_fe Try.results63 _ _ (w.heap.size + 1) _ _ _ rfl (field_put ⟨lo, hi, base, inf, sup, value⟩ HM.out.res)) rfl ⟨rfl, (by (repeat (first | (with_reducible refine Fr.alloc ?_ _) | (with_reducible refine Fr.set ?_ _ _ (by omega) _))); exact HM.out.fr)⟩
      · rw [if_neg hn] at HE2
        subst HE2
        have hnd2 : decide (d < 0) = false := decide_eq_false hn
        obtain rfl := HFin.out.trans (by rw [if_pos (by simpa using HIn.out)])
        go_enter Try.func63, Try.ntmps63
        go_wp2_with (first
          | (go_at_call 96; refine (HW.out _).mono ?_; rintro e w' ⟨rfl, rfl⟩)
          | (go_at_call 97; refine (HA.out _).mono ?_; rintro e w1 ⟨rfl, hf1⟩; have HM : Aside (GrAt w w1 ⟨lo, hi, base, inf, sup, value⟩) := ⟨GrAt.of rfl hf1⟩; obtain ⟨c0, c1, c2, c3, c4, c5⟩ := wholeField _ _ _ HM.out.box; obtain ⟨r0, r1, r2, r3, r4, r5⟩ := wholeField _ _ _ HM.out.res; obtain ⟨g0, g1, g2, g3, g4, g5⟩ := wholeField _ _ _ HM.out.g; have z1 := free_of HM.out.res; have z2 := free_of HM.out.g; have l0 := blk_lt HM.out.box; have l1 := blk_lt HM.out.res; have l2 := blk_lt HM.out.g; clear hf1))
        exact bodyPost_ret (results_fe Try.results63 _ _ (w.heap.size + 1) _ _ _ rfl (field_put ⟨lo, hi, base, inf, sup, value⟩ HM.out.res)) rfl ⟨rfl, (by (repeat (first | (with_reducible refine Fr.alloc ?_ _) | (with_reducible refine Fr.set ?_ _ _ (by omega) _))); exact HM.out.fr)⟩
  · have hfin : fgrant f d = (f, fwrong f d) := by unfold fgrant; rw [if_pos h0]
    rw [hfin]
    have hne : (fwrong f d != 0) = true := bne_iff_ne.2 h0
    have HW := Aside.mk hW
    clear hW hfin h0
    generalize fwrong f d = x at *
    obtain ⟨lo, hi, base, inf, sup, value⟩ := f
    simp only [FieldD.val, FieldD.cells] at *
    go_enter Try.func63, Try.ntmps63
    go_wp2_with (go_at_call 96; refine (HW.out _).mono ?_; rintro e w' ⟨rfl, rfl⟩)
    exact bodyPost_ret (by simp [results, Try.results63, go_sem]) rfl ⟨rfl, by (repeat (with_reducible refine Fr.alloc ?_ _)); exact Fr.refl _ _⟩
end Go.Proofs.Ytkfoapbjdegdiaa.Own
