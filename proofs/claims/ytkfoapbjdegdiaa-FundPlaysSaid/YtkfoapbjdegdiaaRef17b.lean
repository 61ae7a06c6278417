/- pledgeref17: times, Moved, Do. -/
import Derived.Test.YtkfoapbjdegdiaaRef17
namespace Go.Proofs.Ytkfoapbjdegdiaa.Own
open Go.RowKit

def Way.k : Way → Int
  | .less => -1
  | .more => 1
  | .still => 0
theorem times_calls (y : Way) (x d : Int) (hx : InI64 x) (hd : InI64 d) (w : World) : Calls Try.prog 98 #[.int .i64 x, .int .i64 d, .int .i64 y.k] w fun e w' => e = .returned (.tuple #[.int .i64 (y.n x d), .bool (y.ok x d)]) ∧ Fr (w.heap.size ≤ ·) w w' := by
  cases y
  · have HC := Aside.mk (fun W => rsub_calls x d hx hd W)
    have e1 : Way.n .less x d = (rsub x d).1 := rfl
    have e2 : Way.ok .less x d = (rsub x d).2 := rfl
    rw [e1, e2]
    generalize rsub x d = r at *
    obtain ⟨r1, r2⟩ := r
    simp only [Way.k]
    clear e1 e2
    go_enter Try.func98, Try.ntmps98
    go_wp2_with (go_at_call 123; refine (HC.out _).mono ?_; rintro e w1 ⟨rfl, hf⟩; have HF := Aside.mk hf; clear hf)
    go_ret2
    exact ⟨rfl, HF.out⟩
  · have HC := Aside.mk (fun W => radd_calls x d hx hd W)
    have e1 : Way.n .more x d = (radd x d).1 := rfl
    have e2 : Way.ok .more x d = (radd x d).2 := rfl
    rw [e1, e2]
    generalize radd x d = r at *
    obtain ⟨r1, r2⟩ := r
    simp only [Way.k]
    clear e1 e2
    go_enter Try.func98, Try.ntmps98
    go_wp2_with (go_at_call 97; refine (HC.out _).mono ?_; rintro e w1 ⟨rfl, hf⟩; have HF := Aside.mk hf; clear hf)
    go_ret2
    exact ⟨rfl, HF.out⟩
  · simp only [Way.k, Way.n, Way.ok]
    go_enter Try.func98, Try.ntmps98
    go_wp2_with fail
    go_ret2
    exact ⟨rfl, Fr.refl _ _⟩
structure Ways where
  v : Way
  b : Way
  n : Way
  f : Way
def Ways.val (y : Ways) : Value := .agg #[.int .i64 y.v.k, .int .i64 y.b.k, .int .i64 y.n.k, .int .i64 y.f.k]
def callWays (c : Int) : Ways := if c = 1 then ⟨.less, .still, .still, .less⟩ else if c = 2 then ⟨.still, .more, .more, .still⟩ else if c = 3 then ⟨.less, .still, .still, .still⟩ else if c = 4 then ⟨.more, .still, .still, .still⟩ else ⟨.still, .still, .still, .less⟩
set_option maxRecDepth 100000 in
theorem moved_calls (c : Int) (w : World) : Calls Try.prog 65 #[.int .i64 c] w fun e w' => e = .returned (callWays c).val ∧ Fr (w.heap.size ≤ ·) w w' := by
  by_cases h1 : c = 1
  · subst h1
    rw [show (callWays 1).val = .agg #[.int .i64 (-1), .int .i64 0, .int .i64 0, .int .i64 (-1)] from rfl]
    go_enter Try.func65, Try.ntmps65
    go_wp2_with fail
    exact bodyPost_ret (by simp [results, Try.results65, go_sem]) rfl ⟨rfl, by (repeat (with_reducible refine Fr.alloc ?_ _)); exact Fr.refl _ _⟩
  by_cases h2 : c = 2
  · subst h2
    rw [show (callWays 2).val = .agg #[.int .i64 0, .int .i64 1, .int .i64 1, .int .i64 0] from rfl]
    go_enter Try.func65, Try.ntmps65
    go_wp2_with fail
    exact bodyPost_ret (by simp [results, Try.results65, go_sem]) rfl ⟨rfl, by (repeat (with_reducible refine Fr.alloc ?_ _)); exact Fr.refl _ _⟩
  by_cases h3 : c = 3
  · subst h3
    rw [show (callWays 3).val = .agg #[.int .i64 (-1), .int .i64 0, .int .i64 0, .int .i64 0] from rfl]
    go_enter Try.func65, Try.ntmps65
    go_wp2_with fail
    exact bodyPost_ret (by simp [results, Try.results65, go_sem]) rfl ⟨rfl, by (repeat (with_reducible refine Fr.alloc ?_ _)); exact Fr.refl _ _⟩
  by_cases h4 : c = 4
  · subst h4
    rw [show (callWays 4).val = .agg #[.int .i64 1, .int .i64 0, .int .i64 0, .int .i64 0] from rfl]
    go_enter Try.func65, Try.ntmps65
    go_wp2_with fail
    exact bodyPost_ret (by simp [results, Try.results65, go_sem]) rfl ⟨rfl, by (repeat (with_reducible refine Fr.alloc ?_ _)); exact Fr.refl _ _⟩
  have hv : (callWays c).val = .agg #[.int .i64 0, .int .i64 0, .int .i64 0, .int .i64 (-1)] := by unfold callWays; rw [if_neg h1, if_neg h2, if_neg h3, if_neg h4]; rfl
  rw [hv]
  have b1 : (c == 1) = false := beq_eq_false_iff_ne.2 h1
  have b2 : (c == 2) = false := beq_eq_false_iff_ne.2 h2
  have b3 : (c == 3) = false := beq_eq_false_iff_ne.2 h3
  have b4 : (c == 4) = false := beq_eq_false_iff_ne.2 h4
  clear hv h1 h2 h3 h4
  go_enter Try.func65, Try.ntmps65
  go_wp2_with fail
  exact bodyPost_ret (by simp [results, Try.results65, go_sem]) rfl ⟨rfl, by (repeat (with_reducible refine Fr.alloc ?_ _)); exact Fr.refl _ _⟩
def waysCells (v b n f : Int) : Array Value := #[.int .i64 v, .int .i64 b, .int .i64 n, .int .i64 f]
/-- Within Do, behind sums. -/
structure DoAt (w W : World) (f : FieldD) (v b n m : Int) : Prop where
  box : W.heap[w.heap.size]? = some (.cells f.cells.toArray 49 (0, 0))
  mv : W.heap[w.heap.size + 1]? = some (.cells (waysCells v b n m) 117 (0, 0))
  res : W.heap[w.heap.size + 1 + 1]? = some (.cells fzero.cells.toArray 49 (0, 0))
  g : W.heap[w.heap.size + 1 + 1 + 1 + 1 + 1]? = some (.cells f.cells.toArray 49 (0, 0))
  fr : Fr (w.heap.size ≤ ·) w W
theorem DoAt.of {w W W0 : World} {f : FieldD} {v b n m : Int} {o2 o3 : Obj} (h0 : W0 = (((((w.alloc (.cells f.cells.toArray 49)).alloc (.cells (waysCells v b n m) 117)).alloc (.cells fzero.cells.toArray 49)).alloc o2).alloc o3).alloc (.cells f.cells.toArray 49)) (hf : Fr (W0.heap.size ≤ ·) W0 W) : DoAt w W f v b n m := by
  subst h0
  exact ⟨hf.obj (blk_old (blk_old (blk_old (blk_old (blk_old (blk_new _ rfl) _) _) _) _) _) (by simp; omega), hf.obj (blk_old (blk_old (blk_old (blk_old (blk_new _ (by simp)) _) _) _) _) (by simp; omega), hf.obj (blk_old (blk_old (blk_old (blk_new _ (by simp)) _) _) _) (by simp; omega), hf.obj (blk_new _ (by simp)) (by simp), (((((((Fr.refl (w.heap.size ≤ ·) w).alloc _).alloc _).alloc _).alloc _).alloc _).alloc _).up hf⟩
theorem DoAt.up {w W W' : World} {f : FieldD} {v b n m : Int} (h : DoAt w W f v b n m) (hf : Fr (W.heap.size ≤ ·) W W') : DoAt w W' f v b n m :=
  ⟨hf.obj h.box (by have := blk_lt h.box; omega), hf.obj h.mv (by have := blk_lt h.mv; omega), hf.obj h.res (by have := blk_lt h.res; omega), hf.obj h.g (by have := blk_lt h.g; omega), h.fr.up hf⟩
theorem DoAt.mvc {w W : World} {f : FieldD} {v b n m : Int} (h : DoAt w W f v b n m) : W.cell? ⟨w.heap.size + 1, 0, none⟩ = some (.int .i64 v) ∧ W.cell? ⟨w.heap.size + 1, 1, none⟩ = some (.int .i64 b) ∧ W.cell? ⟨w.heap.size + 1, 2, none⟩ = some (.int .i64 n) ∧ W.cell? ⟨w.heap.size + 1, 3, none⟩ = some (.int .i64 m) := by
  refine ⟨?_, ?_, ?_, ?_⟩ <;> rw [cell_of h.mv] <;> rfl
set_option maxRecDepth 100000 in
set_option maxHeartbeats 8000000 in
theorem rmove_calls (y : Ways) (f : FieldD) (d : Int) (hf : f.In) (hd : InI64 d) (w : World) : Calls Try.prog 64 #[f.val, .int .i64 d, y.val] w fun e w' => e = .returned (.tuple #[(fmove y.v y.b y.n y.f f d).1.val, .int .i64 (fmove y.v y.b y.n y.f f d).2]) ∧ Fr (w.heap.size ≤ ·) w w' := by
  obtain ⟨yv, yb, yn, yf⟩ := y
  have hW := fun W => rfirst_calls f d hd W
  by_cases h0 : fwrong f d = 0
  · have hfin : fmove yv yb yn yf f d = if yv.ok f.value d = true ∧ yb.ok f.base d = true ∧ (if d < 0 then yf else yn).ok f.inf d = true ∧ (if d < 0 then yn else yf).ok f.sup d = true ∧ fgood ⟨f.lo, f.hi, yb.n f.base d, (if d < 0 then yf else yn).n f.inf d, (if d < 0 then yn else yf).n f.sup d, yv.n f.value d⟩ = true then (⟨f.lo, f.hi, yb.n f.base d, (if d < 0 then yf else yn).n f.inf d, (if d < 0 then yn else yf).n f.sup d, yv.n f.value d⟩, 0) else (f, 12) := by unfold fmove; rw [if_neg (by simpa using h0)]
    rw [h0] at hW
    obtain ⟨i1, i2, i3, i4, i5, i6⟩ := hf
    dsimp only
    generalize fmove yv yb yn yf f d = r at *
    have HFin := Aside.mk hfin
    have HW := Aside.mk hW
    have T1 := Aside.mk (fun W => times_calls yv f.value d i6 hd W)
    have T2 := Aside.mk (fun W => times_calls yb f.base d i3 hd W)
    have T3 := Aside.mk (fun (y : Way) W => times_calls y f.inf d i4 hd W)
    have T4 := Aside.mk (fun (y : Way) W => times_calls y f.sup d i5 hd W)
    have HG0 := Aside.mk (fun W => rgood_calls ⟨f.lo, f.hi, yb.n f.base d, (if d < 0 then yf else yn).n f.inf d, (if d < 0 then yn else yf).n f.sup d, yv.n f.value d⟩ W)
    clear hW hd h0 hfin i1 i2 i3 i4 i5 i6
    obtain ⟨lo, hi, base, inf, sup, value⟩ := f
    rw [show (FieldD.mk lo hi base inf sup value).val = .agg #[.int .i64 lo, .int .i64 hi, .int .i64 base, .int .i64 inf, .int .i64 sup, .int .i64 value] from rfl]
    simp only [FieldD.val, FieldD.cells] at HW HG0
    dsimp only at HFin T1 T2 T3 T4
    simp only [Ways.val]
    by_cases hn : d < 0
    · have := hn
      have hnd : decide (d < 0) = true := decide_eq_true hn
      have hfin := HFin.out
      have hG := HG0.out
      simp only [if_pos hn] at hfin hG
      have HFin2 := Aside.mk hfin
      have HG := Aside.mk hG
      clear hfin hG HFin HG0
      go_enter Try.func64, Try.ntmps64
      go_wp2_with (go_at_call 96; refine (HW.out _).mono ?_; rintro e w' ⟨rfl, rfl⟩)
      refine (T1.out _).mono ?_
      rintro e w1 ⟨rfl, hf1⟩
      have HM : Aside (DoAt w w1 ⟨lo, hi, base, inf, sup, value⟩ yv.k yb.k yn.k yf.k) := ⟨DoAt.of rfl hf1⟩
      obtain ⟨c0, c1, c2, c3, c4, c5⟩ := wholeField _ _ _ HM.out.box
      obtain ⟨m0, m1, m2, m3⟩ := HM.out.mvc
      clear hf1
      go_wp2_with fail
      refine (T2.out _).mono ?_
      rintro e w2 ⟨rfl, hf2⟩
      replace HM := Aside.mk (HM.out.up hf2)
      obtain ⟨d0, d1, d2, d3, d4, d5⟩ := wholeField _ _ _ HM.out.box
      obtain ⟨dm0, dm1, dm2, dm3⟩ := HM.out.mvc
      clear hf2 c0 c1 c2 c3 c4 c5 m0 m1 m2 m3
      go_wp2_with fail
      refine (T3.out yf _).mono ?_
      rintro e w3 ⟨rfl, hf3⟩
      replace HM := Aside.mk (HM.out.up hf3)
      obtain ⟨e0, e1, e2, e3, e4, e5⟩ := wholeField _ _ _ HM.out.box
      obtain ⟨em0, em1, em2, em3⟩ := HM.out.mvc
      clear hf3 d0 d1 d2 d3 d4 d5 dm0 dm1 dm2 dm3
      go_wp2_with fail
      refine (T4.out yn _).mono ?_
      rintro e w4 ⟨rfl, hf4⟩
      replace HM := Aside.mk (HM.out.up hf4)
      obtain ⟨f0, f1, f2, f3, f4, f5⟩ := wholeField _ _ _ HM.out.box
      obtain ⟨fm0, fm1, fm2, fm3⟩ := HM.out.mvc
      clear hf4 e0 e1 e2 e3 e4 e5 em0 em1 em2 em3
      obtain ⟨q0, q1, q2, q3, q4, q5⟩ := wholeField _ _ _ HM.out.g
      obtain ⟨r0, r1, r2, r3, r4, r5⟩ := wholeField _ _ _ HM.out.res
      have z1 := free_of HM.out.res
      have z2 := free_of HM.out.g
      have l0 := blk_lt HM.out.box
      have l1 := blk_lt HM.out.res
      have l2 := blk_lt HM.out.g
      have l3 : w.heap.size ≠ w.heap.size + 1 + 1 + 1 + 1 + 1 := by omega
      have l4 : w.heap.size + 1 + 1 ≠ w.heap.size + 1 + 1 + 1 + 1 + 1 := by omega
      generalize yv.ok value d = b1 at *
      generalize yb.ok base d = b2 at *
      generalize yf.ok inf d = b3 at *
      generalize yn.ok sup d = b4 at *
      generalize yv.n value d = x1 at *
      generalize yb.n base d = x2 at *
      generalize yf.n inf d = x3 at *
      generalize yn.n sup d = x4 at *
      obtain ⟨b5, hb5⟩ : ∃ b, fgood ⟨lo, hi, x2, x3, x4, x1⟩ = b := ⟨_, rfl⟩
      rw [hb5] at HG HFin2
      clear hb5 T1 T2 T3 T4 HW
      rcases (by cases b1 <;> cases b2 <;> cases b3 <;> cases b4 <;> cases b5 <;> simp : b1 = false ∨ (b1 = true ∧ b2 = false) ∨ (b1 = true ∧ b2 = true ∧ b3 = false) ∨ (b1 = true ∧ b2 = true ∧ b3 = true ∧ b4 = false) ∨ (b1 = true ∧ b2 = true ∧ b3 = true ∧ b4 = true ∧ b5 = false) ∨ (b1 = true ∧ b2 = true ∧ b3 = true ∧ b4 = true ∧ b5 = true)) with rfl | ⟨rfl, rfl⟩ | ⟨rfl, rfl, rfl⟩ | ⟨rfl, rfl, rfl, rfl⟩ | ⟨rfl, rfl, rfl, rfl, rfl⟩ | ⟨rfl, rfl, rfl, rfl, rfl⟩
      · obtain rfl := HFin2.out.trans (by simp; rfl)
        go_wp2_with (go_at_call 55; refine (HG.out _).mono ?_; rintro e w1 ⟨rfl, rfl⟩)
        exact bodyPost_ret (results_fe Try.results64 _ _ (w.heap.size + 1 + 1) _ _ _ rfl (field_put ⟨lo, hi, base, inf, sup, value⟩ (blk_set (blk_set (blk_set (blk_set HM.out.res _ _ (by omega) _) _ _ (by omega) _) _ _ (by omega) _) _ _ (by omega) _))) rfl ⟨rfl, (by (repeat (first | (with_reducible refine Fr.alloc ?_ _) | (with_reducible refine Fr.set ?_ _ _ (by omega) _))); exact HM.out.fr)⟩
      · obtain rfl := HFin2.out.trans (by simp; rfl)
        go_wp2_with (go_at_call 55; refine (HG.out _).mono ?_; rintro e w1 ⟨rfl, rfl⟩)
        exact bodyPost_ret (results_fe Try.results64 _ _ (w.heap.size + 1 + 1) _ _ _ rfl (field_put ⟨lo, hi, base, inf, sup, value⟩ (blk_set (blk_set (blk_set (blk_set HM.out.res _ _ (by omega) _) _ _ (by omega) _) _ _ (by omega) _) _ _ (by omega) _))) rfl ⟨rfl, (by (repeat (first | (with_reducible refine Fr.alloc ?_ _) | (with_reducible refine Fr.set ?_ _ _ (by omega) _))); exact HM.out.fr)⟩
      · obtain rfl := HFin2.out.trans (by simp; rfl)
        go_wp2_with (go_at_call 55; refine (HG.out _).mono ?_; rintro e w1 ⟨rfl, rfl⟩)
        exact bodyPost_ret (results_fe Try.results64 _ _ (w.heap.size + 1 + 1) _ _ _ rfl (field_put ⟨lo, hi, base, inf, sup, value⟩ (blk_set (blk_set (blk_set (blk_set HM.out.res _ _ (by omega) _) _ _ (by omega) _) _ _ (by omega) _) _ _ (by omega) _))) rfl ⟨rfl, (by (repeat (first | (with_reducible refine Fr.alloc ?_ _) | (with_reducible refine Fr.set ?_ _ _ (by omega) _))); exact HM.out.fr)⟩
      · obtain rfl := HFin2.out.trans (by simp; rfl)
        go_wp2_with (go_at_call 55; refine (HG.out _).mono ?_; rintro e w1 ⟨rfl, rfl⟩)
        exact bodyPost_ret (results_fe Try.results64 _ _ (w.heap.size + 1 + 1) _ _ _ rfl (field_put ⟨lo, hi, base, inf, sup, value⟩ (blk_set (blk_set (blk_set (blk_set HM.out.res _ _ (by omega) _) _ _ (by omega) _) _ _ (by omega) _) _ _ (by omega) _))) rfl ⟨rfl, (by (repeat (first | (with_reducible refine Fr.alloc ?_ _) | (with_reducible refine Fr.set ?_ _ _ (by omega) _))); exact HM.out.fr)⟩
      · obtain rfl := HFin2.out.trans (by simp; rfl)
        go_wp2_with (go_at_call 55; refine (HG.out _).mono ?_; rintro e w1 ⟨rfl, rfl⟩)
        exact bodyPost_ret (results_fe Try.results64 _ _ (w.heap.size + 1 + 1) _ _ _ rfl (blk_old (field_put ⟨lo, hi, base, inf, sup, value⟩ (blk_set (blk_set (blk_set (blk_set HM.out.res _ _ (by omega) _) _ _ (by omega) _) _ _ (by omega) _) _ _ (by omega) _)) _)) rfl ⟨rfl, (by (repeat (first | (with_reducible refine Fr.alloc ?_ _) | (with_reducible refine Fr.set ?_ _ _ (by omega) _))); exact HM.out.fr)⟩
      · obtain rfl := HFin2.out.trans (by simp; rfl)
        go_wp2_with (go_at_call 55; refine (HG.out _).mono ?_; rintro e w1 ⟨rfl, rfl⟩)
        exact bodyPost_ret (results_fe Try.results64 _ _ (w.heap.size + 1 + 1) _ _ _ rfl (blk_old (field_put ⟨lo, hi, x2, x3, x4, x1⟩ (blk_set (blk_set (blk_set (blk_set HM.out.res _ _ (by omega) _) _ _ (by omega) _) _ _ (by omega) _) _ _ (by omega) _)) _)) rfl ⟨rfl, (by (repeat (first | (with_reducible refine Fr.alloc ?_ _) | (with_reducible refine Fr.set ?_ _ _ (by omega) _))); exact HM.out.fr)⟩
    · have := hn
      have hnd : decide (d < 0) = false := decide_eq_false hn
      have hfin := HFin.out
      have hG := HG0.out
      simp only [if_neg hn] at hfin hG
      have HFin2 := Aside.mk hfin
      have HG := Aside.mk hG
      clear hfin hG HFin HG0
      go_enter Try.func64, Try.ntmps64
      go_wp2_with (go_at_call 96; refine (HW.out _).mono ?_; rintro e w' ⟨rfl, rfl⟩)
      refine (T1.out _).mono ?_
      rintro e w1 ⟨rfl, hf1⟩
      have HM : Aside (DoAt w w1 ⟨lo, hi, base, inf, sup, value⟩ yv.k yb.k yn.k yf.k) := ⟨DoAt.of rfl hf1⟩
      obtain ⟨c0, c1, c2, c3, c4, c5⟩ := wholeField _ _ _ HM.out.box
      obtain ⟨m0, m1, m2, m3⟩ := HM.out.mvc
      clear hf1
      go_wp2_with fail
      refine (T2.out _).mono ?_
      rintro e w2 ⟨rfl, hf2⟩
      replace HM := Aside.mk (HM.out.up hf2)
      obtain ⟨d0, d1, d2, d3, d4, d5⟩ := wholeField _ _ _ HM.out.box
      obtain ⟨dm0, dm1, dm2, dm3⟩ := HM.out.mvc
      clear hf2 c0 c1 c2 c3 c4 c5 m0 m1 m2 m3
      go_wp2_with fail
      refine (T3.out yn _).mono ?_
      rintro e w3 ⟨rfl, hf3⟩
      replace HM := Aside.mk (HM.out.up hf3)
      obtain ⟨e0, e1, e2, e3, e4, e5⟩ := wholeField _ _ _ HM.out.box
      obtain ⟨em0, em1, em2, em3⟩ := HM.out.mvc
      clear hf3 d0 d1 d2 d3 d4 d5 dm0 dm1 dm2 dm3
      go_wp2_with fail
      refine (T4.out yf _).mono ?_
      rintro e w4 ⟨rfl, hf4⟩
      replace HM := Aside.mk (HM.out.up hf4)
      obtain ⟨f0, f1, f2, f3, f4, f5⟩ := wholeField _ _ _ HM.out.box
      obtain ⟨fm0, fm1, fm2, fm3⟩ := HM.out.mvc
      clear hf4 e0 e1 e2 e3 e4 e5 em0 em1 em2 em3
      obtain ⟨q0, q1, q2, q3, q4, q5⟩ := wholeField _ _ _ HM.out.g
      obtain ⟨r0, r1, r2, r3, r4, r5⟩ := wholeField _ _ _ HM.out.res
      have z1 := free_of HM.out.res
      have z2 := free_of HM.out.g
      have l0 := blk_lt HM.out.box
      have l1 := blk_lt HM.out.res
      have l2 := blk_lt HM.out.g
      have l3 : w.heap.size ≠ w.heap.size + 1 + 1 + 1 + 1 + 1 := by omega
      have l4 : w.heap.size + 1 + 1 ≠ w.heap.size + 1 + 1 + 1 + 1 + 1 := by omega
      generalize yv.ok value d = b1 at *
      generalize yb.ok base d = b2 at *
      generalize yn.ok inf d = b3 at *
      generalize yf.ok sup d = b4 at *
      generalize yv.n value d = x1 at *
      generalize yb.n base d = x2 at *
      generalize yn.n inf d = x3 at *
      generalize yf.n sup d = x4 at *
      obtain ⟨b5, hb5⟩ : ∃ b, fgood ⟨lo, hi, x2, x3, x4, x1⟩ = b := ⟨_, rfl⟩
      rw [hb5] at HG HFin2
      clear hb5 T1 T2 T3 T4 HW
      rcases (by cases b1 <;> cases b2 <;> cases b3 <;> cases b4 <;> cases b5 <;> simp : b1 = false ∨ (b1 = true ∧ b2 = false) ∨ (b1 = true ∧ b2 = true ∧ b3 = false) ∨ (b1 = true ∧ b2 = true ∧ b3 = true ∧ b4 = false) ∨ (b1 = true ∧ b2 = true ∧ b3 = true ∧ b4 = true ∧ b5 = false) ∨ (b1 = true ∧ b2 = true ∧ b3 = true ∧ b4 = true ∧ b5 = true)) with rfl | ⟨rfl, rfl⟩ | ⟨rfl, rfl, rfl⟩ | ⟨rfl, rfl, rfl, rfl⟩ | ⟨rfl, rfl, rfl, rfl, rfl⟩ | ⟨rfl, rfl, rfl, rfl, rfl⟩
      · obtain rfl := HFin2.out.trans (by simp; rfl)
        go_wp2_with (go_at_call 55; refine (HG.out _).mono ?_; rintro e w1 ⟨rfl, rfl⟩)
        exact bodyPost_ret (results_fe Try.results64 _ _ (w.heap.size + 1 + 1) _ _ _ rfl (field_put ⟨lo, hi, base, inf, sup, value⟩ (blk_set (blk_set (blk_set (blk_set HM.out.res _ _ (by omega) _) _ _ (by omega) _) _ _ (by omega) _) _ _ (by omega) _))) rfl ⟨rfl, (by (repeat (first | (with_reducible refine Fr.alloc ?_ _) | (with_reducible refine Fr.set ?_ _ _ (by omega) _))); exact HM.out.fr)⟩
      · obtain rfl := HFin2.out.trans (by simp; rfl)
        go_wp2_with (go_at_call 55; refine (HG.out _).mono ?_; rintro e w1 ⟨rfl, rfl⟩)
        exact bodyPost_ret (results_fe Try.results64 _ _ (w.heap.size + 1 + 1) _ _ _ rfl (field_put ⟨lo, hi, base, inf, sup, value⟩ (blk_set (blk_set (blk_set (blk_set HM.out.res _ _ (by omega) _) _ _ (by omega) _) _ _ (by omega) _) _ _ (by omega) _))) rfl ⟨rfl, (by (repeat (first | (with_reducible refine Fr.alloc ?_ _) | (with_reducible refine Fr.set ?_ _ _ (by omega) _))); exact HM.out.fr)⟩
      · obtain rfl := HFin2.out.trans (by simp; rfl)
        go_wp2_with (go_at_call 55; refine (HG.out _).mono ?_; rintro e w1 ⟨rfl, rfl⟩)
        exact bodyPost_ret (results_fe Try.results64 _ _ (w.heap.size + 1 + 1) _ _ _ rfl (field_put ⟨lo, hi, base, inf, sup, value⟩ (blk_set (blk_set (blk_set (blk_set HM.out.res _ _ (by omega) _) _ _ (by omega) _) _ _ (by omega) _) _ _ (by omega) _))) rfl ⟨rfl, (by (repeat (first | (with_reducible refine Fr.alloc ?_ _) | (with_reducible refine Fr.set ?_ _ _ (by omega) _))); exact HM.out.fr)⟩
      · obtain rfl := HFin2.out.trans (by simp; rfl)
        go_wp2_with (go_at_call 55; refine (HG.out _).mono ?_; rintro e w1 ⟨rfl, rfl⟩)
        exact bodyPost_ret (results_fe Try.results64 _ _ (w.heap.size + 1 + 1) _ _ _ rfl (field_put ⟨lo, hi, base, inf, sup, value⟩ (blk_set (blk_set (blk_set (blk_set HM.out.res _ _ (by omega) _) _ _ (by omega) _) _ _ (by omega) _) _ _ (by omega) _))) rfl ⟨rfl, (by (repeat (first | (with_reducible refine Fr.alloc ?_ _) | (with_reducible refine Fr.set ?_ _ _ (by omega) _))); exact HM.out.fr)⟩
      · obtain rfl := HFin2.out.trans (by simp; rfl)
        go_wp2_with (go_at_call 55; refine (HG.out _).mono ?_; rintro e w1 ⟨rfl, rfl⟩)
        exact bodyPost_ret (results_fe Try.results64 _ _ (w.heap.size + 1 + 1) _ _ _ rfl (blk_old (field_put ⟨lo, hi, base, inf, sup, value⟩ (blk_set (blk_set (blk_set (blk_set HM.out.res _ _ (by omega) _) _ _ (by omega) _) _ _ (by omega) _) _ _ (by omega) _)) _)) rfl ⟨rfl, (by (repeat (first | (with_reducible refine Fr.alloc ?_ _) | (with_reducible refine Fr.set ?_ _ _ (by omega) _))); exact HM.out.fr)⟩
      · obtain rfl := HFin2.out.trans (by simp; rfl)
        go_wp2_with (go_at_call 55; refine (HG.out _).mono ?_; rintro e w1 ⟨rfl, rfl⟩)
        exact bodyPost_ret (results_fe Try.results64 _ _ (w.heap.size + 1 + 1) _ _ _ rfl (blk_old (field_put ⟨lo, hi, x2, x3, x4, x1⟩ (blk_set (blk_set (blk_set (blk_set HM.out.res _ _ (by omega) _) _ _ (by omega) _) _ _ (by omega) _) _ _ (by omega) _)) _)) rfl ⟨rfl, (by (repeat (first | (with_reducible refine Fr.alloc ?_ _) | (with_reducible refine Fr.set ?_ _ _ (by omega) _))); exact HM.out.fr)⟩
  · have hfin : fmove yv yb yn yf f d = (f, fwrong f d) := by unfold fmove; rw [if_pos h0]
    dsimp only
    rw [hfin]
    have hne : (fwrong f d != 0) = true := bne_iff_ne.2 h0
    have HW := Aside.mk hW
    clear hW hfin h0
    generalize fwrong f d = x at *
    obtain ⟨lo, hi, base, inf, sup, value⟩ := f
    simp only [FieldD.val, FieldD.cells, Ways.val] at *
    go_enter Try.func64, Try.ntmps64
    go_wp2_with (go_at_call 96; refine (HW.out _).mono ?_; rintro e w' ⟨rfl, rfl⟩)
    exact bodyPost_ret (by simp [results, Try.results64, go_sem]) rfl ⟨rfl, by (repeat (with_reducible refine Fr.alloc ?_ _)); exact Fr.refl _ _⟩
end Go.Proofs.Ytkfoapbjdegdiaa.Own
