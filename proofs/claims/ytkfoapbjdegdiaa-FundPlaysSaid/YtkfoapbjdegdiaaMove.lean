/- field.move: a field's numbers moved by ways (less, more, still). -/
import Derived.Test.YtkfoapbjdegdiaaField2
import Derived.Test.YtkfoapbjdegdiaaBase3
namespace Go.Proofs.Ytkfoapbjdegdiaa.Own
open Go.RowKit
attribute [local go_sem ↓] Go.wp_at_zero Go.wp_at_succ

inductive Way where
  | less
  | more
  | still
def Way.fn : Way → FuncId
  | .less => 94
  | .more => 124
  | .still => 95
def Way.n : Way → Int → Int → Int
  | .less, x, d => if InI64 (x - d) then x - d else 0
  | .more, x, d => if InI64 (x + d) then x + d else 0
  | .still, x, _ => x
def Way.ok : Way → Int → Int → Bool
  | .less, x, d => decide (InI64 (x - d))
  | .more, x, d => decide (InI64 (x + d))
  | .still, _, _ => true
def Way.val (y : Way) : Value := .func (.func y.fn) #[] #[]
theorem still_calls (x d : Int) (b : Bool) (w : World) : Calls Try.prog 95 #[.agg #[.int .i64 x, .bool b], .int .i64 d] w fun e w' => e = .returned (.agg #[.int .i64 x, .bool b]) ∧ w' = (w.alloc (.cells #[.int .i64 x, .bool b] 156)).alloc (.cells #[.int .i64 x, .bool b] 156) := by
  go_enter Try.func95, Try.ntmps95
  go_wp2_with fail
  exact bodyPost_ret (by simp [results, Try.results95, go_sem]) rfl ⟨rfl, rfl⟩
theorem less_calls (x d : Int) (hx : InI64 x) (hd : InI64 d) (w : World) : Calls Try.prog 94 #[.agg #[.int .i64 x, .bool true], .int .i64 d] w fun e w' => e = .returned (.agg #[.int .i64 (Way.n .less x d), .bool (Way.ok .less x d)]) ∧ w' = (w.alloc (.cells #[.int .i64 x, .bool true] 156)).alloc (.cells #[.int .i64 (Way.n .less x d), .bool (Way.ok .less x d)] 156) := by
  have hA := fun W => csub_calls x d hx hd W
  simp only [Way.n, Way.ok]
  have HA := Aside.mk hA
  by_cases hin : InI64 (x - d)
  · rw [if_pos hin, decide_eq_true hin]
    have HI := Aside.mk hin
    clear hA hx hd hin
    go_enter Try.func94, Try.ntmps94
    go_wp2_with (go_at_call 121; refine (HA.out _).mono ?_; rintro e w' ⟨⟨hin, rfl⟩ | ⟨hin, rfl⟩, rfl⟩)
    · exact bodyPost_ret (by simp [results, Try.results94, go_sem]) rfl ⟨rfl, rfl⟩
    · exact absurd HI.out hin
  · rw [if_neg hin, decide_eq_false hin]
    have HI := Aside.mk hin
    clear hA hx hd hin
    go_enter Try.func94, Try.ntmps94
    go_wp2_with (go_at_call 121; refine (HA.out _).mono ?_; rintro e w' ⟨⟨hin, rfl⟩ | ⟨hin, rfl⟩, rfl⟩)
    · exact absurd hin HI.out
    · exact bodyPost_ret (by simp [results, Try.results94, go_sem]) rfl ⟨rfl, rfl⟩
theorem more_calls (x d : Int) (hx : InI64 x) (hd : InI64 d) (w : World) : Calls Try.prog 124 #[.agg #[.int .i64 x, .bool true], .int .i64 d] w fun e w' => e = .returned (.agg #[.int .i64 (Way.n .more x d), .bool (Way.ok .more x d)]) ∧ w' = (w.alloc (.cells #[.int .i64 x, .bool true] 156)).alloc (.cells #[.int .i64 (Way.n .more x d), .bool (Way.ok .more x d)] 156) := by
  have hA := fun W => cadd_calls x d hx hd W
  simp only [Way.n, Way.ok]
  have HA := Aside.mk hA
  by_cases hin : InI64 (x + d)
  · rw [if_pos hin, decide_eq_true hin]
    have HI := Aside.mk hin
    clear hA hx hd hin
    go_enter Try.func124, Try.ntmps124
    go_wp2_with (go_at_call 89; refine (HA.out _).mono ?_; rintro e w' ⟨⟨hin, rfl⟩ | ⟨hin, rfl⟩, rfl⟩)
    · exact bodyPost_ret (by simp [results, Try.results124, go_sem]) rfl ⟨rfl, rfl⟩
    · exact absurd HI.out hin
  · rw [if_neg hin, decide_eq_false hin]
    have HI := Aside.mk hin
    clear hA hx hd hin
    go_enter Try.func124, Try.ntmps124
    go_wp2_with (go_at_call 89; refine (HA.out _).mono ?_; rintro e w' ⟨⟨hin, rfl⟩ | ⟨hin, rfl⟩, rfl⟩)
    · exact absurd hin HI.out
    · exact bodyPost_ret (by simp [results, Try.results124, go_sem]) rfl ⟨rfl, rfl⟩
theorem way_calls (y : Way) (x d : Int) (hx : InI64 x) (hd : InI64 d) (w : World) : Calls Try.prog y.fn #[.agg #[.int .i64 x, .bool true], .int .i64 d] w fun e w' => e = .returned (.agg #[.int .i64 (y.n x d), .bool (y.ok x d)]) ∧ w' = (w.alloc (.cells #[.int .i64 x, .bool true] 156)).alloc (.cells #[.int .i64 (y.n x d), .bool (y.ok x d)] 156) := by
  cases y
  · exact less_calls x d hx hd w
  · exact more_calls x d hx hd w
  · exact still_calls x d true w
theorem way_in (y : Way) (x d : Int) (hx : InI64 x) : InI64 (y.n x d) := by
  cases y <;> simp only [Way.n] <;> (try split) <;> first | assumption | (unfold InI64; omega)

def fmove (yv yb yn yf : Way) (f : FieldD) (d : Int) : FieldD × Int :=
  if fwrong f d ≠ 0 then (f, fwrong f d)
  else
    let n := if d < 0 then yf else yn
    let s := if d < 0 then yn else yf
    let g : FieldD := ⟨f.lo, f.hi, yb.n f.base d, n.n f.inf d, s.n f.sup d, yv.n f.value d⟩
    if yv.ok f.value d = true ∧ yb.ok f.base d = true ∧ n.ok f.inf d = true ∧ s.ok f.sup d = true ∧ fgood g = true then (g, 0) else (f, 12)
theorem wholeField (w : World) (g : Nat) (f : FieldD) (h : w.heap[g]? = some (.cells f.cells.toArray 49 (0, 0))) : w.cell? ⟨g, 0, none⟩ = some (.int .i64 f.lo) ∧ w.cell? ⟨g, 1, none⟩ = some (.int .i64 f.hi) ∧ w.cell? ⟨g, 2, none⟩ = some (.int .i64 f.base) ∧ w.cell? ⟨g, 3, none⟩ = some (.int .i64 f.inf) ∧ w.cell? ⟨g, 4, none⟩ = some (.int .i64 f.sup) ∧ w.cell? ⟨g, 5, none⟩ = some (.int .i64 f.value) := by
  refine ⟨?_, ?_, ?_, ?_, ?_, ?_⟩ <;> rw [cell_of h] <;> rfl
theorem way_enter (y : Way) (args : Array Value) (w : World) : (callFunc y.fn args).run Try.prog w = .ok (.enter y.fn args) w := by
  cases y <;> (unfold Way.fn; go_simp)
theorem infoPart : (Try.prog.info? 156).map (·.size) = some 2 := by kernel_rfl
/-- A block with a part of a field. -/
def PartAt (W : World) (g : Nat) (y : Way) (x d : Int) : Prop := W.heap[g]? = some (.cells #[.int .i64 (y.n x d), .bool (y.ok x d)] 156 (0, 0))
theorem PartAt.c {W : World} {g : Nat} {y : Way} {x d : Int} (h : PartAt W g y x d) : W.cell? ⟨g, 0, none⟩ = some (.int .i64 (y.n x d)) ∧ W.cell? ⟨g, 1, none⟩ = some (.bool (y.ok x d)) := by
  unfold PartAt at h
  constructor <;> rw [cell_of h] <;> rfl
theorem field_put {W : World} {g : Nat} {f : FieldD} (f' : FieldD) (h : W.heap[g]? = some (.cells f.cells.toArray 49 (0, 0))) : ((((((W.setCell ⟨g, 0, none⟩ (.int .i64 f'.lo)).setCell ⟨g, 1, none⟩ (.int .i64 f'.hi)).setCell ⟨g, 2, none⟩ (.int .i64 f'.base)).setCell ⟨g, 3, none⟩ (.int .i64 f'.inf)).setCell ⟨g, 4, none⟩ (.int .i64 f'.sup)).setCell ⟨g, 5, none⟩ (.int .i64 f'.value)).heap[g]? = some (.cells f'.cells.toArray 49 (0, 0)) :=
  setRow_full (l := f'.cells) h rfl
structure MoveAt (w W : World) (f : FieldD) : Prop where
  box : W.heap[w.heap.size]? = some (.cells f.cells.toArray 49 (0, 0))
  res : W.heap[w.heap.size + 1]? = some (.cells fzero.cells.toArray 49 (0, 0))
  fr : Fr (w.heap.size ≤ ·) w W
set_option maxRecDepth 100000 in
set_option maxHeartbeats 16000000 in
theorem fmove_calls (yv yb yn yf : Way) (f : FieldD) (d : Int) (hf : f.In) (hd : InI64 d) (w : World) : Calls Try.prog 93 #[f.val, .int .i64 d, yv.val, yb.val, yn.val, yf.val] w fun e w' => e = .returned (.tuple #[(fmove yv yb yn yf f d).1.val, .int .i64 (fmove yv yb yn yf f d).2]) ∧ Fr (w.heap.size ≤ ·) w w' := by
  have hW := fun W => fwrong_calls f d W
  by_cases h0 : fwrong f d = 0
  · have hfin : fmove yv yb yn yf f d = if yv.ok f.value d = true ∧ yb.ok f.base d = true ∧ (if d < 0 then yf else yn).ok f.inf d = true ∧ (if d < 0 then yn else yf).ok f.sup d = true ∧ fgood ⟨f.lo, f.hi, yb.n f.base d, (if d < 0 then yf else yn).n f.inf d, (if d < 0 then yn else yf).n f.sup d, yv.n f.value d⟩ = true then (⟨f.lo, f.hi, yb.n f.base d, (if d < 0 then yf else yn).n f.inf d, (if d < 0 then yn else yf).n f.sup d, yv.n f.value d⟩, 0) else (f, 12) := by unfold fmove; rw [if_neg (by simpa using h0)]
    rw [h0] at hW
    obtain ⟨i1, i2, i3, i4, i5, i6⟩ := hf
    obtain ⟨YI, hYI⟩ : ∃ Y, (if d < 0 then yf else yn) = Y := ⟨_, rfl⟩
    obtain ⟨YS, hYS⟩ : ∃ Y, (if d < 0 then yn else yf) = Y := ⟨_, rfl⟩
    rw [hYI, hYS] at hfin
    generalize fmove yv yb yn yf f d = r at *
    have HFin := Aside.mk hfin
    have HW := Aside.mk hW
    have HD := Aside.mk hd
    have H2 := Aside.mk i3
    have H3 := Aside.mk i4
    have H4 := Aside.mk i5
    have H5 := Aside.mk i6
    have HYI := Aside.mk hYI
    have HYS := Aside.mk hYS
    clear hW hd h0 hfin hYI hYS i1 i2 i3 i4 i5 i6
    obtain ⟨lo, hi, base, inf, sup, value⟩ := f
    rw [show (FieldD.mk lo hi base inf sup value).val = .agg #[.int .i64 lo, .int .i64 hi, .int .i64 base, .int .i64 inf, .int .i64 sup, .int .i64 value] from rfl]
    simp only [FieldD.val, FieldD.cells] at HW
    dsimp only at H2 H3 H4 H5 HFin
    simp only [Way.val]
    have hev := way_enter yv
    have heb := way_enter yb
    have hei := way_enter YI
    have hes := way_enter YS
    go_enter Try.func93, Try.ntmps93
    go_upto_if 28 with (go_at_call 88; refine (HW.out _).mono ?_; rintro e w' ⟨rfl, hw'⟩; have HM : Aside (MoveAt w w' ⟨lo, hi, base, inf, sup, value⟩) := ⟨⟨(by rw [hw']; exact blk_old (blk_old (blk_old (blk_new _ rfl) _) _) _), (by rw [hw']; exact blk_old (blk_old (blk_new _ (by simp)) _) _), (by rw [hw']; (repeat (refine Fr.alloc ?_ _)); exact Fr.refl _ _)⟩⟩; clear hw')
    go_cut [4, 5] (fun s4 s5 wx => s4 = .func (.func YI.fn) #[] #[] ∧ s5 = .func (.func YS.fn) #[] #[] ∧ Aside (MoveAt w wx ⟨lo, hi, base, inf, sup, value⟩))
    case first =>
      by_cases hn : d < 0
      · have hnd : decide (d < 0) = true := decide_eq_true hn
        go_wp2_with fail
        go_meet
        exact ⟨by rw [← HYI.out, if_pos hn], by rw [← HYS.out, if_pos hn], HM⟩
      · have hnd : decide (d < 0) = false := decide_eq_false hn
        go_wp2_with fail
        go_meet
        exact ⟨by rw [← HYI.out, if_neg (by omega)], by rw [← HYS.out, if_neg (by omega)], HM⟩
    case rest =>
      obtain ⟨rfl, rfl, HM⟩ := hcut
      obtain ⟨c0, c1, c2, c3, c4, c5⟩ := wholeField _ _ _ HM.out.box
      have hsz := blk_lt HM.out.res
      go_upto_region 6 with fail
      go_cut [15, 16] (fun s15 s16 wx => ∃ g1 g2 : Nat, s15 = .pointer (some ⟨g1, 0, none⟩) ∧ s16 = .pointer (some ⟨g2, 0, none⟩) ∧ Aside (PartAt wx g1 yv value d) ∧ Aside (PartAt wx g2 yb base d) ∧ Aside (MoveAt w wx ⟨lo, hi, base, inf, sup, value⟩))
      case first =>
        go_region_held3 (fun W => W.cell? ⟨w.heap.size, 5, none⟩ = some (.int .i64 value) ∧ W.cell? ⟨w.heap.size, 2, none⟩ = some (.int .i64 base)) (refine ⟨?_, ?_⟩ <;> (repeat (first | (with_reducible exact c5) | (with_reducible exact c2) | (with_reducible refine cell_alloc_drew ?_ _) | (with_reducible refine cell_drew ?_) | (with_reducible refine cell_alloc ?_ _))))
          ((first
            | (refine (way_calls yv value d H5.out HD.out _).mono ?_; rintro e w1 ⟨rfl, rfl⟩)
            | (refine (way_calls yb base d H2.out HD.out _).mono ?_; rintro e w1 ⟨rfl, rfl⟩)))
        all_goals
          go_wp2_with fail
          go_meet
          refine ⟨_, _, rfl, rfl, ⟨?_⟩, ⟨?_⟩, ⟨⟨?_, ?_, HM.out.fr.grew (by (repeat (first | (with_reducible refine Fr.alloc ?_ _) | (with_reducible refine Fr.drew ?_))); exact Fr.refl _ _)⟩⟩⟩
          all_goals ((try unfold PartAt); repeat (first | ((with_reducible refine blk_new _ ?_); (simp; done)) | (with_reducible exact HM.out.box) | (with_reducible exact HM.out.res) | (with_reducible refine blk_old ?_ _) | (with_reducible refine blk_drew ?_)))
      case rest =>
        obtain ⟨g1, g2, rfl, rfl, HP1, HP2, HM⟩ := hcut
        obtain ⟨d0, d1, d2, d3, d4, d5⟩ := wholeField _ _ _ HM.out.box
        have hsz2 := blk_lt HM.out.res
        clear c0 c1 c2 c3 c4 c5 hsz
        go_upto_region 7 with fail
        go_cut [17, 18] (fun s17 s18 wx => ∃ g3 g4 : Nat, s17 = .pointer (some ⟨g3, 0, none⟩) ∧ s18 = .pointer (some ⟨g4, 0, none⟩) ∧ Aside (PartAt wx g1 yv value d) ∧ Aside (PartAt wx g2 yb base d) ∧ Aside (PartAt wx g3 YI inf d) ∧ Aside (PartAt wx g4 YS sup d) ∧ Aside (MoveAt w wx ⟨lo, hi, base, inf, sup, value⟩))
        case first =>
          have hp1 := HP1.out
          have hp2 := HP2.out
          unfold PartAt at hp1 hp2
          have HQ1 := Aside.mk hp1
          have HQ2 := Aside.mk hp2
          clear hp1 hp2
          go_region_held3 (fun W => W.cell? ⟨w.heap.size, 3, none⟩ = some (.int .i64 inf) ∧ W.cell? ⟨w.heap.size, 4, none⟩ = some (.int .i64 sup)) (refine ⟨?_, ?_⟩ <;> (repeat (first | (with_reducible exact d3) | (with_reducible exact d4) | (with_reducible refine cell_alloc_drew ?_ _) | (with_reducible refine cell_drew ?_) | (with_reducible refine cell_alloc ?_ _))))
            ((first
              | (refine (way_calls YI inf d H3.out HD.out _).mono ?_; rintro e w1 ⟨rfl, rfl⟩)
              | (refine (way_calls YS sup d H4.out HD.out _).mono ?_; rintro e w1 ⟨rfl, rfl⟩)))
          all_goals
            go_wp2_with fail
            go_meet
            refine ⟨_, _, rfl, rfl, ⟨?_⟩, ⟨?_⟩, ⟨?_⟩, ⟨?_⟩, ⟨⟨?_, ?_, HM.out.fr.grew (by (repeat (first | (with_reducible refine Fr.alloc ?_ _) | (with_reducible refine Fr.drew ?_))); exact Fr.refl _ _)⟩⟩⟩
            all_goals ((try unfold PartAt); repeat (first | ((with_reducible refine blk_new _ ?_); (simp; done)) | (with_reducible exact HM.out.box) | (with_reducible exact HM.out.res) | (with_reducible exact HQ1.out) | (with_reducible exact HQ2.out) | (with_reducible refine blk_old ?_ _) | (with_reducible refine blk_drew ?_)))
        case rest =>
          obtain ⟨g3, g4, rfl, rfl, HP1, HP2, HP3, HP4, HM⟩ := hcut
          obtain ⟨e0, e1, e2, e3, e4, e5⟩ := wholeField _ _ _ HM.out.box
          have hsz3 := blk_lt HM.out.res
          obtain ⟨r0, r1, r2, r3, r4, r5⟩ := wholeField _ _ _ HM.out.res
          obtain ⟨p0, p1⟩ := HP1.out.c
          obtain ⟨q0, q1⟩ := HP2.out.c
          obtain ⟨s0, s1⟩ := HP3.out.c
          obtain ⟨u0, u1⟩ := HP4.out.c
          have HF7 := Aside.mk HM.out.fr
          have l0 := blk_lt HM.out.box
          have l1 := blk_lt HP1.out
          have l2 := blk_lt HP2.out
          have l3 := blk_lt HP3.out
          have l4 := blk_lt HP4.out
          have hz := free_of HM.out.res
          clear d0 d1 d2 d3 d4 d5 hsz2
          generalize yv.ok value d = b1 at *
          generalize yb.ok base d = b2 at *
          generalize YI.ok inf d = b3 at *
          generalize YS.ok sup d = b4 at *
          have hG := fun W => fgood_calls ⟨lo, hi, yb.n base d, YI.n inf d, YS.n sup d, yv.n value d⟩ W
          simp only [FieldD.val, FieldD.cells] at hG
          have HG := Aside.mk hG
          clear hG
          obtain ⟨b5, hb5⟩ : ∃ b, fgood ⟨lo, hi, yb.n base d, YI.n inf d, YS.n sup d, yv.n value d⟩ = b := ⟨_, rfl⟩
          rw [hb5] at HG HFin
          clear hb5
          rcases (by cases b1 <;> cases b2 <;> cases b3 <;> cases b4 <;> cases b5 <;> simp : b1 = false ∨ (b1 = true ∧ b2 = false) ∨ (b1 = true ∧ b2 = true ∧ b3 = false) ∨ (b1 = true ∧ b2 = true ∧ b3 = true ∧ b4 = false) ∨ (b1 = true ∧ b2 = true ∧ b3 = true ∧ b4 = true ∧ b5 = false) ∨ (b1 = true ∧ b2 = true ∧ b3 = true ∧ b4 = true ∧ b5 = true)) with rfl | ⟨rfl, rfl⟩ | ⟨rfl, rfl, rfl⟩ | ⟨rfl, rfl, rfl, rfl⟩ | ⟨rfl, rfl, rfl, rfl, rfl⟩ | ⟨rfl, rfl, rfl, rfl, rfl⟩
          · obtain rfl := HFin.out.trans (by simp; rfl)
            go_wp2_with (go_at_call 57; refine (HG.out _).mono ?_; rintro e w1 ⟨rfl, rfl⟩)
            exact bodyPost_ret (results_fe Try.results93 _ _ (w.heap.size + 1) _ _ _ rfl (blk_old (field_put ⟨lo, hi, base, inf, sup, value⟩ HM.out.res) _)) rfl ⟨rfl, by (repeat (first | (with_reducible refine Fr.alloc ?_ _) | (with_reducible refine Fr.set ?_ _ _ (Nat.le_succ _) _))); exact HF7.out⟩
          · obtain rfl := HFin.out.trans (by simp; rfl)
            go_wp2_with (go_at_call 57; refine (HG.out _).mono ?_; rintro e w1 ⟨rfl, rfl⟩)
            exact bodyPost_ret (results_fe Try.results93 _ _ (w.heap.size + 1) _ _ _ rfl (blk_old (field_put ⟨lo, hi, base, inf, sup, value⟩ HM.out.res) _)) rfl ⟨rfl, by (repeat (first | (with_reducible refine Fr.alloc ?_ _) | (with_reducible refine Fr.set ?_ _ _ (Nat.le_succ _) _))); exact HF7.out⟩
          · obtain rfl := HFin.out.trans (by simp; rfl)
            go_wp2_with (go_at_call 57; refine (HG.out _).mono ?_; rintro e w1 ⟨rfl, rfl⟩)
            exact bodyPost_ret (results_fe Try.results93 _ _ (w.heap.size + 1) _ _ _ rfl (blk_old (field_put ⟨lo, hi, base, inf, sup, value⟩ HM.out.res) _)) rfl ⟨rfl, by (repeat (first | (with_reducible refine Fr.alloc ?_ _) | (with_reducible refine Fr.set ?_ _ _ (Nat.le_succ _) _))); exact HF7.out⟩
          · obtain rfl := HFin.out.trans (by simp; rfl)
            go_wp2_with (go_at_call 57; refine (HG.out _).mono ?_; rintro e w1 ⟨rfl, rfl⟩)
            exact bodyPost_ret (results_fe Try.results93 _ _ (w.heap.size + 1) _ _ _ rfl (blk_old (field_put ⟨lo, hi, base, inf, sup, value⟩ HM.out.res) _)) rfl ⟨rfl, by (repeat (first | (with_reducible refine Fr.alloc ?_ _) | (with_reducible refine Fr.set ?_ _ _ (Nat.le_succ _) _))); exact HF7.out⟩
          · obtain rfl := HFin.out.trans (by simp; rfl)
            go_wp2_with (go_at_call 57; refine (HG.out _).mono ?_; rintro e w1 ⟨rfl, rfl⟩)
            exact bodyPost_ret (results_fe Try.results93 _ _ (w.heap.size + 1) _ _ _ rfl (blk_old (blk_old (field_put ⟨lo, hi, base, inf, sup, value⟩ HM.out.res) _) _)) rfl ⟨rfl, by (repeat (first | (with_reducible refine Fr.alloc ?_ _) | (with_reducible refine Fr.set ?_ _ _ (Nat.le_succ _) _))); exact HF7.out⟩
          · obtain rfl := HFin.out.trans (by simp; rfl)
            go_wp2_with (go_at_call 57; refine (HG.out _).mono ?_; rintro e w1 ⟨rfl, rfl⟩)
            exact bodyPost_ret (results_fe Try.results93 _ _ (w.heap.size + 1) _ _ _ rfl (blk_old (blk_old (field_put ⟨lo, hi, yb.n base d, YI.n inf d, YS.n sup d, yv.n value d⟩ HM.out.res) _) _)) rfl ⟨rfl, by (repeat (first | (with_reducible refine Fr.alloc ?_ _) | (with_reducible refine Fr.set ?_ _ _ (Nat.le_succ _) _))); exact HF7.out⟩
  · have hfin : fmove yv yb yn yf f d = (f, fwrong f d) := by unfold fmove; rw [if_pos h0]
    rw [hfin]
    have hne : (fwrong f d != 0) = true := bne_iff_ne.2 h0
    have HW := Aside.mk hW
    clear hW hfin h0
    generalize fwrong f d = x at *
    obtain ⟨lo, hi, base, inf, sup, value⟩ := f
    simp only [FieldD.val, FieldD.cells] at *
    go_enter Try.func93, Try.ntmps93
    go_wp2_with (go_at_call 88; refine (HW.out _).mono ?_; rintro e w' ⟨rfl, rfl⟩)
    exact bodyPost_ret (by simp [results, Try.results93, go_sem]) rfl ⟨rfl, (by (repeat (refine Fr.alloc ?_ _)); exact Fr.refl _ _)⟩
end Go.Proofs.Ytkfoapbjdegdiaa.Own
