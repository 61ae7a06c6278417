/- pledgeref18: Set, Do, Try. -/
import Derived.Test.YtkfoapbjdegdiaaRef18b
namespace Go.Proofs.Ytkfoapbjdegdiaa.Own
open Go.RowKit
attribute [local go_sem ↓] Go.wp_at_zero Go.wp_at_succ

/-- What answers rows and an error. -/
def RowsAns (w : World) (r : List RowD × Int) (e : Ending) (w' : World) : Prop := ∃ B c, e = .returned (.tuple #[.slice B r.1.length c, .int .i64 r.2]) ∧ Reads rowCells 9 w' B r.1.length r.1 ∧ Fr (w.heap.size ≤ ·) w w'
set_option maxRecDepth 100000 in
set_option maxHeartbeats 2000000 in
theorem rset_calls (A : Option Addr) (cap : Nat) (l : List RowD) (k : KeyD) (x : FieldD) (w : World) (hr : Reads rowCells 9 w A l.length l) (hri : Rising l) (hlen : l.length < 10000) :
    Calls Try.prog 22 #[.slice A l.length cap, k.val, x.val] w (RowsAns w (rdo (fset x) l k)) := by
  have hR : rdo (fset x) l k = if (rget l k).isSome = true then (if fgood x = true then (rput l k x, 0) else (l, 12)) else (l, 10) := by
    unfold rdo
    cases rget l k with
    | none => rfl
    | some f =>
      dsimp only [fset, Option.isSome_some]
      rw [if_pos rfl]
      split <;> rfl
  have HG := Aside.mk (fun W (hf : Fr (w.heap.size ≤ ·) w W) => rget_calls A cap l k W (hr.up rowCells_len (by decide) hf))
  have HC := Aside.mk (fun W (hf : Fr (w.heap.size ≤ ·) w W) => rput_calls A cap l k x W (hr.up rowCells_len (by decide) hf) hri (by omega))
  have HGo := Aside.mk (fun W => rgood_calls x W)
  have HR := Aside.mk hr
  generalize rdo (fset x) l k = res at *
  generalize fromOpt (rget l k) = f0 at *
  generalize (rget l k).isSome = b1 at *
  generalize fgood x = b2 at *
  have HRes := Aside.mk hR
  clear hR hr hri
  generalize hpost : RowsAns w res = R
  have HP := Aside.mk hpost
  clear hpost
  generalize rput l k x = lp at *
  obtain ⟨k1, k2, k3⟩ := k
  obtain ⟨f1, f2, f3, f4, f5, f6⟩ := f0
  obtain ⟨y1, y2, y3, y4, y5, y6⟩ := x
  simp only [KeyD.val, FieldD.val, rowVal, FieldD.cells] at *
  cases b1 with
  | false =>
    obtain rfl := HRes.out.trans (if_neg (by simp))
    go_enter Try.func22, Try.ntmps22
    go_wp2_with (go_at_call 54; refine (HG.out _ (((Fr.refl _ w).alloc _).alloc _)).mono ?_; rintro e w1 ⟨rfl, hf⟩; have HF1 := Aside.mk ((((Fr.refl (w.heap.size ≤ ·) w).alloc _).alloc _).up hf); clear hf)
    rw [← HP.out]
    exact ⟨A, cap, rfl, HR.out.up rowCells_len (by decide) (HF1.out.alloc _), HF1.out.alloc _⟩
  | true =>
    cases b2 with
    | false =>
      obtain rfl := HRes.out.trans ((if_pos rfl).trans (if_neg (by simp)))
      go_enter Try.func22, Try.ntmps22
      go_wp2_with (first
        | (go_at_call 54; refine (HG.out _ (((Fr.refl _ w).alloc _).alloc _)).mono ?_; rintro e w1 ⟨rfl, hf⟩; have HF1 := Aside.mk ((((Fr.refl (w.heap.size ≤ ·) w).alloc _).alloc _).up hf); have hX := hf.obj (blk_new (b := w.heap.size + 1) _ (by simp)) (by simp); obtain ⟨c0, c1, c2, c3, c4, c5⟩ := wholeField _ _ ⟨y1, y2, y3, y4, y5, y6⟩ hX; have hl := blk_lt hX; clear hf hX)
        | (go_at_call 55; refine (HGo.out _).mono ?_; rintro e w' ⟨rfl, rfl⟩))
      rw [← HP.out]
      exact ⟨A, cap, rfl, HR.out.up rowCells_len (by decide) ((HF1.out.alloc _).alloc _), (HF1.out.alloc _).alloc _⟩
    | true =>
      obtain rfl := HRes.out.trans ((if_pos rfl).trans (if_pos rfl))
      go_enter Try.func22, Try.ntmps22
      go_wp2_with (first
        | (go_at_call 54; refine (HG.out _ (((Fr.refl _ w).alloc _).alloc _)).mono ?_; rintro e w1 ⟨rfl, hf⟩; have HF1 := Aside.mk ((((Fr.refl (w.heap.size ≤ ·) w).alloc _).alloc _).up hf); have hX := hf.obj (blk_new (b := w.heap.size + 1) _ (by simp)) (by simp); have hY := hf.obj (blk_old (blk_new (b := w.heap.size) _ rfl) _) (by simp; omega); obtain ⟨c0, c1, c2, c3, c4, c5⟩ := wholeField _ _ ⟨y1, y2, y3, y4, y5, y6⟩ hX; obtain ⟨d0, d1, d2⟩ := wholeKey _ _ ⟨k1, k2, k3⟩ hY; have hl := blk_lt hX; have hl2 := blk_lt hY; clear hf hX hY)
        | (go_at_call 55; refine (HGo.out _).mono ?_; rintro e w' ⟨rfl, rfl⟩)
        | (go_at_call 53; refine (HC.out _ ((HF1.out.alloc _).alloc _)).mono ?_; rintro e w5 ⟨v, rfl, hrow, hf5⟩; obtain ⟨B', c', rfl, hrd⟩ := reads_row hrow; have HRd := Aside.mk hrd; have HF5 := Aside.mk (((HF1.out.alloc _).alloc _).up hf5); clear hrow hf5 hrd))
      rw [← HP.out]
      exact ⟨B', c', rfl, HRd.out, HF5.out⟩
/-- What a call by its number makes of a field. -/
def fcall (c : Int) (x : FieldD) (d : Int) : FieldD × Int := if c = 0 then fgrant x d else fmove (callWays c).v (callWays c).b (callWays c).n (callWays c).f x d
theorem fcall_in (c : Int) (f : FieldD) (d : Int) (hf : f.In) (hd : InI64 d) : (fcall c f d).1.In := by
  unfold fcall
  split
  · exact fgrant_in f d hf hd
  · exact fmove_in _ _ _ _ f d hf
/-- Within Do: the addition's box, and a field's. -/
structure RDoAt (w W : World) (o : OpD) (g : Nat) (f : FieldD) : Prop where
  box : W.heap[w.heap.size]? = some (.cells o.cells.toArray 43 (0, 0))
  fld : W.heap[g]? = some (.cells f.cells.toArray 49 (0, 0))
  fr : Fr (w.heap.size ≤ ·) w W
theorem RDoAt.up {w W W' : World} {o : OpD} {g : Nat} {f : FieldD} (h : RDoAt w W o g f) (hf : Fr (W.heap.size ≤ ·) W W') : RDoAt w W' o g f :=
  ⟨hf.obj h.box (by have := blk_lt h.box; omega), hf.obj h.fld (by have := blk_lt h.fld; omega), h.fr.up hf⟩
theorem RDoAt.c {w W : World} {o : OpD} {g : Nat} {f : FieldD} (h : RDoAt w W o g f) : W.cell? ⟨w.heap.size, 0, none⟩ = some (.int .u8 o.key.kind) ∧ W.cell? ⟨w.heap.size, 1, none⟩ = some (.int .u8 o.key.sku) ∧ W.cell? ⟨w.heap.size, 2, none⟩ = some (.int .u8 o.key.ware) ∧ W.cell? ⟨w.heap.size, 3, none⟩ = some (.int .i64 o.d) := by
  refine ⟨?_, ?_, ?_, ?_⟩ <;> rw [cell_of h.box] <;> rfl
set_option maxRecDepth 100000 in
set_option maxHeartbeats 4000000 in
theorem rdo_calls (A : Option Addr) (cap : Nat) (l : List RowD) (c : Int) (hc : 0 ≤ c) (o : OpD) (hd : InI64 o.d) (w : World) (hr : Reads rowCells 9 w A l.length l) (hri : Rising l) (hin : RowsIn l) (hlen : l.length < 10000) :
    Calls Try.prog 30 #[.slice A l.length cap, .int .i64 c, o.av] w (RowsAns w (rdo (fun x => fcall c x o.d) l o.key)) := by
  have HG := Aside.mk (fun W (hf : Fr (w.heap.size ≤ ·) w W) => rget_calls A cap l o.key W (hr.up rowCells_len (by decide) hf))
  have HR := Aside.mk hr
  cases hg : rget l o.key with
  | none =>
    have hres : rdo (fun x => fcall c x o.d) l o.key = (l, 10) := by unfold rdo; rw [hg]
    rw [hres]
    rw [hg] at HG
    clear hres hg hr
    generalize hpost : RowsAns w (l, 10) = R
    have HP := Aside.mk hpost
    clear hpost
    obtain ⟨⟨k1, k2, k3⟩, d⟩ := o
    simp only [OpD.av, KeyD.val, FieldD.val, fromOpt, Option.getD_none, Option.isSome_none, fzero] at *
    go_enter Try.func30, Try.ntmps30
    go_wp2_with (go_at_call 54; refine (HG.out _ ((Fr.refl _ w).alloc _)).mono ?_; rintro e w1 ⟨rfl, hf⟩; have HF1 := Aside.mk (((Fr.refl (w.heap.size ≤ ·) w).alloc _).up hf); clear hf)
    rw [← HP.out]
    exact ⟨A, cap, rfl, HR.out.up rowCells_len (by decide) (HF1.out.alloc _), HF1.out.alloc _⟩
  | some x =>
    have hx := hin.get hri hg
    have hres : rdo (fun x => fcall c x o.d) l o.key = if (fcall c x o.d).2 = 0 then (rput l o.key (fcall c x o.d).1, 0) else (l, (fcall c x o.d).2) := by unfold rdo; rw [hg]
    rw [hg] at HG
    have HC := Aside.mk (fun (y : FieldD) W (hf : Fr (w.heap.size ≤ ·) w W) => rput_calls A cap l o.key y W (hr.up rowCells_len (by decide) hf) hri (by omega))
    have HGr := Aside.mk (fun W => rgrant_calls x o.d hx hd W)
    have HMv := Aside.mk (fun W => rmove_calls (callWays c) x o.d hx hd W)
    have HMd := Aside.mk (fun W => moved_calls c W)
    have hfc : fcall c x o.d = if c = 0 then fgrant x o.d else fmove (callWays c).v (callWays c).b (callWays c).n (callWays c).f x o.d := rfl
    generalize fcall c x o.d = r at *
    generalize rdo (fun x => fcall c x o.d) l o.key = res at *
    generalize hpost : RowsAns w res = R
    have HP := Aside.mk hpost
    have HRes := Aside.mk hres
    have HFc := Aside.mk hfc
    generalize fmove (callWays c).v (callWays c).b (callWays c).n (callWays c).f x o.d = rm at *
    generalize fgrant x o.d = rg at *
    generalize hyw : (callWays c).val = yw at *
    clear hpost hres hfc hg hr hri hx hyw
    obtain ⟨rm1, rm2⟩ := rm
    obtain ⟨rg1, rg2⟩ := rg
    obtain ⟨r1, r2⟩ := r
    obtain ⟨⟨k1, k2, k3⟩, d⟩ := o
    obtain ⟨x1, x2, x3, x4, x5, x6⟩ := x
    obtain ⟨g1, g2, g3, g4, g5, g6⟩ := rg1
    obtain ⟨m1, m2, m3, m4, m5, m6⟩ := rm1
    simp only [OpD.av, KeyD.val, FieldD.val, fromOpt, Option.getD_some, Option.isSome_some, rowVal] at *
    go_enter Try.func30, Try.ntmps30
    go_upto_if 30 with (first
      | (go_at_call 54; refine (HG.out _ ((Fr.refl _ w).alloc _)).mono ?_; rintro e w1 ⟨rfl, hf⟩; have HM1 : Aside (RDoAt w (w1.alloc (.cells #[.int .i64 x1, .int .i64 x2, .int .i64 x3, .int .i64 x4, .int .i64 x5, .int .i64 x6] 49)) ⟨⟨k1, k2, k3⟩, d⟩ w1.heap.size ⟨x1, x2, x3, x4, x5, x6⟩) := ⟨⟨blk_old (hf.obj (blk_new (b := w.heap.size) _ rfl) (by simp)) _, blk_new _ rfl, (((Fr.refl (w.heap.size ≤ ·) w).alloc _).up hf).alloc _⟩⟩; have hq := hf.obj (blk_new (b := w.heap.size) _ rfl) (by simp); have q3 : w1.cell? ⟨w.heap.size, 3, none⟩ = some (.int .i64 d) := (by rw [cell_of hq]; rfl); have hlq := blk_lt hq; clear hf hq)
      | (go_at_call 63; refine (HGr.out _).mono ?_; rintro e w2 ⟨rfl, hf⟩; have HM2 := Aside.mk (HM1.out.up hf); clear hf))
    go_cut [11] (fun s wx => s = .int .i64 r2 ∧ Aside (RDoAt w wx ⟨⟨k1, k2, k3⟩, d⟩ w2.heap.size r1))
    case first =>
      by_cases h0 : c = 0
      · subst h0
        have hE := HFc.out
        rw [if_pos rfl] at hE
        cases hE
        go_wp2_with fail
        go_meet
        exact ⟨rfl, ⟨⟨blk_old HM2.out.box _, blk_new _ rfl, HM2.out.fr.alloc _⟩⟩⟩
      · have hE := HFc.out
        rw [if_neg h0] at hE
        cases hE
        have hcd : decide (0 < c) = true := decide_eq_true (by omega)
        go_upto_region 6 with fail
        generalize hW5 : World.alloc w2 _ = W5
        have HM5 : Aside (RDoAt w W5 ⟨⟨k1, k2, k3⟩, d⟩ w1.heap.size ⟨x1, x2, x3, x4, x5, x6⟩) := ⟨by rw [← hW5]; exact HM2.out.up ((Fr.refl _ w2).alloc _)⟩
        have HB5 : Aside (W5.heap[w2.heap.size]? = some (.cells (FieldD.mk g1 g2 g3 g4 g5 g6).cells.toArray 49 (0, 0))) := ⟨by rw [← hW5]; exact blk_new _ rfl⟩
        have hwlt : w.heap.size ≤ w2.heap.size := HM2.out.fr.size
        have hn1 : w1.heap.size ≠ w2.heap.size := by have := blk_lt HM2.out.fld; omega
        have hn2 : w.heap.size ≠ w2.heap.size := by have := blk_lt HM2.out.box; omega
        obtain ⟨a0, a1, a2, a3⟩ := HM5.out.c
        obtain ⟨b0, b1, b2, b3, b4, b5⟩ := wholeField _ _ _ HM5.out.fld
        clear hW5
        go_region_held3 (fun W => W.cell? ⟨w1.heap.size, 0, none⟩ = some (.int .i64 x1) ∧ W.cell? ⟨w1.heap.size, 1, none⟩ = some (.int .i64 x2) ∧ W.cell? ⟨w1.heap.size, 2, none⟩ = some (.int .i64 x3) ∧ W.cell? ⟨w1.heap.size, 3, none⟩ = some (.int .i64 x4) ∧ W.cell? ⟨w1.heap.size, 4, none⟩ = some (.int .i64 x5) ∧ W.cell? ⟨w1.heap.size, 5, none⟩ = some (.int .i64 x6) ∧ W.cell? ⟨w.heap.size, 3, none⟩ = some (.int .i64 d))
          ((refine ⟨?_, ?_, ?_, ?_, ?_, ?_, ?_⟩ <;> (repeat (first | (with_reducible exact a3) | (with_reducible exact b0) | (with_reducible exact b1) | (with_reducible exact b2) | (with_reducible exact b3) | (with_reducible exact b4) | (with_reducible exact b5) | (with_reducible exact e3) | (with_reducible exact f0) | (with_reducible exact f1) | (with_reducible exact f2) | (with_reducible exact f3) | (with_reducible exact f4) | (with_reducible exact f5) | (with_reducible exact i3) | (with_reducible exact j0) | (with_reducible exact j1) | (with_reducible exact j2) | (with_reducible exact j3) | (with_reducible exact j4) | (with_reducible exact j5) | (with_reducible refine cell_drew ?_) | (with_reducible refine cell_set ?_ _ _ (by first | exact hn1 | exact hn2) _)))))
          ((first
            | (go_at_call 65; refine (HMd.out _).mono ?_; rintro e w3 ⟨rfl, hf⟩; have HM6 := Aside.mk ((HM5.out.up (Fr.drew (Fr.refl _ W5))).up hf); have HB6 := Aside.mk (hf.obj (blk_drew HB5.out) (by have := blk_lt HB5.out; show ¬ W5.heap.size ≤ _; omega)); obtain ⟨e0, e1, e2, e3⟩ := HM6.out.c; obtain ⟨f0, f1, f2, f3, f4, f5⟩ := wholeField _ _ _ HM6.out.fld; clear hf)
            | (go_at_call 64; refine (HMv.out _).mono ?_; rintro e w4 ⟨rfl, hf⟩; have HM7 := Aside.mk (HM6.out.up hf); have HB7 := Aside.mk (hf.obj HB6.out (by have := blk_lt HB6.out; omega)); obtain ⟨i0, i1, i2, i3⟩ := HM7.out.c; obtain ⟨j0, j1, j2, j3, j4, j5⟩ := wholeField _ _ _ HM7.out.fld; obtain ⟨v0, v1, v2, v3, v4, v5⟩ := wholeField _ _ _ HB7.out; have hz := free_of HB7.out; have hbl := blk_lt HB7.out; clear hf)))
        all_goals go_wp2_with fail
        all_goals go_meet
        all_goals exact ⟨rfl, ⟨⟨blk_set (blk_set (blk_set (blk_set (blk_set (blk_set HM7.out.box _ _ hn2 _) _ _ hn2 _) _ _ hn2 _) _ _ hn2 _) _ _ hn2 _) _ _ hn2 _, field_put ⟨m1, m2, m3, m4, m5, m6⟩ HB7.out, by (repeat (with_reducible refine Fr.set ?_ _ _ hwlt _)); exact HM7.out.fr⟩⟩⟩
    case rest =>
      obtain ⟨rfl, HM3⟩ := hcut
      obtain ⟨y1, y2, y3, y4, y5, y6⟩ := r1
      obtain ⟨a0, a1, a2, a3⟩ := HM3.out.c
      obtain ⟨b0, b1, b2, b3, b4, b5⟩ := wholeField _ _ _ HM3.out.fld
      by_cases h0 : r2 = 0
      · subst h0
        obtain rfl := HRes.out.trans (if_pos rfl)
        go_wp2_with (go_at_call 53; refine (HC.out ⟨y1, y2, y3, y4, y5, y6⟩ _ HM3.out.fr).mono ?_; rintro e w5 ⟨v, rfl, hrow, hf5⟩; obtain ⟨B', c', rfl, hrd⟩ := reads_row hrow; have HRd := Aside.mk hrd; have HF5 := Aside.mk (HM3.out.fr.up hf5); clear hrow hf5 hrd)
        rw [← HP.out]
        exact ⟨B', c', rfl, HRd.out, HF5.out⟩
      · have hne : (r2 != 0) = true := bne_iff_ne.2 h0
        obtain rfl := HRes.out.trans (if_neg h0)
        clear h0
        go_wp2_with fail
        rw [← HP.out]
        exact ⟨A, cap, rfl, HR.out.up rowCells_len (by decide) HM3.out.fr, HM3.out.fr⟩
end Go.Proofs.Ytkfoapbjdegdiaa.Own
