/- pledgeref18: Get, New, Set, Do, Try. -/
import Derived.Test.YtkfoapbjdegdiaaRef18
namespace Go.Proofs.Ytkfoapbjdegdiaa.Own
open Go.RowKit
attribute [local go_sem ↓] Go.wp_at_zero Go.wp_at_succ

theorem rget_at {l : List RowD} {k : KeyD} {j : Nat} (hj : j < l.length) (h0 : ∀ r ∈ l.take j, r.1 ≠ k) (hk : l[j].1 = k) : rget l k = some l[j].2 := by
  unfold rget
  have e : l = l.take j ++ l[j] :: l.drop (j + 1) := by rw [← List.drop_eq_getElem_cons hj, List.take_append_drop]
  generalize l[j] = x at *
  have : (l.take j ++ x :: l.drop (j + 1)).find? (fun r => decide (r.1 = k)) = some x := by
    rw [List.find?_append, List.find?_eq_none.2 (fun r hr => by simpa using h0 r hr), List.find?_cons_of_pos]
    · simp
    · simpa using hk
  rw [e, this]; rfl
theorem rget_gone {l : List RowD} {k : KeyD} (h0 : ∀ r ∈ l, r.1 ≠ k) : rget l k = none := rget_none.2 h0
/-- Within Get: what is kept. -/
structure GetAt (w W : World) (k : KeyD) : Prop where
  box : W.heap[w.heap.size]? = some (.cells k.cells.toArray 41 (0, 0))
  res : W.heap[w.heap.size + 1]? = some (.cells fzero.cells.toArray 49 (0, 0))
  fr : Fr (w.heap.size ≤ ·) w W
set_option maxRecDepth 100000 in
set_option maxHeartbeats 2000000 in
theorem rget_calls (A : Option Addr) (cap : Nat) (l : List RowD) (k : KeyD) (w : World) (hr : Reads rowCells 9 w A l.length l) :
    Calls Try.prog 54 #[.slice A l.length cap, k.val] w fun e w' => e = .returned (.tuple #[(fromOpt (rget l k)).val, .bool (rget l k).isSome]) ∧ Fr (w.heap.size ≤ ·) w w' := by
  have HR := Aside.mk hr
  have hm := hr.2.1
  obtain ⟨rf, hrf⟩ : ∃ o, fromOpt (rget l k) = o := ⟨_, rfl⟩
  obtain ⟨rb, hrb⟩ : ∃ o, (rget l k).isSome = o := ⟨_, rfl⟩
  rw [hrf, hrb]
  have HRf := Aside.mk hrf
  have HRb := Aside.mk hrb
  clear hr hrf hrb
  obtain ⟨k1, k2, k3⟩ := k
  simp only [KeyD.val]
  go_enter Try.func54, Try.ntmps54
  go_wp2_with fail
  go_loopw [6] (fun i wr => ∃ (j : Nat), j ≤ l.length ∧ i = .int .i64 j ∧ Aside (∀ r ∈ l.take j, r.1 ≠ (⟨k1, k2, k3⟩ : KeyD)) ∧ Aside (GetAt w wr ⟨k1, k2, k3⟩)) (fun i _ => l.length - (intOf i).toNat)
  case atStart => exact ⟨0, Nat.zero_le _, rfl, ⟨by simp⟩, ⟨blk_old (blk_new _ rfl) _, blk_new _ (by simp), ((Fr.refl _ w).alloc _).alloc _⟩⟩
  case round =>
    obtain ⟨j, hj, rfl, HN, HG⟩ := hrel
    obtain ⟨b0, b1, b2⟩ := wholeKey _ _ _ HG.out.box
    have hbl := blk_lt HG.out.res
    have hbk := blk_lt HG.out.box
    obtain ⟨r0, r1, r2, r3, r4, r5⟩ := wholeField _ _ _ HG.out.res
    have hz := free_of HG.out.res
    by_cases hlt : j < l.length
    · obtain ⟨ad, hA, hc0, hc'⟩ := (HR.out.up rowCells_len (by decide) HG.out.fr).at_ (by decide) j hlt
      have hc1 := hc' 1 (by decide) (by decide)
      have hc2 := hc' 2 (by decide) (by decide)
      have hc3 := hc' 3 (by decide) (by decide)
      have hc4 := hc' 4 (by decide) (by decide)
      have hc5 := hc' 5 (by decide) (by decide)
      have hc6 := hc' 6 (by decide) (by decide)
      have hc7 := hc' 7 (by decide) (by decide)
      have hc8 := hc' 8 (by decide) (by decide)
      obtain ⟨x, hx⟩ : ∃ x, l[j] = x := ⟨_, rfl⟩
      have HX := Aside.mk hx
      rw [hx] at hc0 hc1 hc2 hc3 hc4 hc5 hc6 hc7 hc8
      clear hc' hx
      obtain ⟨⟨x1, x2, x3⟩, ⟨y1, y2, y3, y4, y5, y6⟩⟩ := x
      simp only [rowCells, List.getElem?_cons_zero, List.getElem?_cons_succ] at hc0 hc1 hc2 hc3 hc4 hc5 hc6 hc7 hc8
      subst hA
      have hjl : (j : Int) < (l.length : Int) := by omega
      have heql := key_eql ⟨x1, x2, x3⟩ ⟨k1, k2, k3⟩
      by_cases hk : (⟨x1, x2, x3⟩ : KeyD) = ⟨k1, k2, k3⟩
      · rw [decide_eq_true hk] at heql
        simp only [KeyD.val] at heql
        have HK := Aside.mk hk
        clear hk
        go_wp2_with fail
        go_quiet (fail)
        go_wp2_with fail
        have hg := rget_at hlt HN.out (by rw [HX.out]; exact HK.out)
        have e1 := HRf.out
        have e2 := HRb.out
        rw [hg, HX.out] at e1 e2
        subst e1 e2
        exact bodyPost_ret (results_fe Try.results54 _ _ (w.heap.size + 1) _ _ _ rfl (field_put ⟨y1, y2, y3, y4, y5, y6⟩ (blk_drewN HG.out.res _))) rfl ⟨rfl, by (repeat (first | (with_reducible refine Fr.drewN ?_ _) | (with_reducible refine Fr.set ?_ _ _ (Nat.le_succ _) _))); exact HG.out.fr⟩
      · rw [decide_eq_false hk] at heql
        simp only [KeyD.val] at heql
        have HK := Aside.mk hk
        clear hk
        go_wp2_with fail
        go_quiet (fail)
        go_wp2_with fail
        go_roundw
        case rel =>
          refine ⟨j + 1, by omega, by go_num, ⟨fun r hr => ?_⟩, ⟨HG.out.box, HG.out.res, HG.out.fr.drewN _⟩⟩
          rw [take_snoc l j hlt, HX.out] at hr
          rcases List.mem_append.1 hr with h | h
          · exact HN.out r h
          · rw [List.mem_singleton.1 h]; exact HK.out
        case measure => simp [intOf]; omega
    · have hN := HN.out
      rw [List.take_of_length_le (by omega)] at hN
      have hg := rget_gone hN
      have e1 := HRf.out
      have e2 := HRb.out
      rw [hg] at e1 e2
      simp only [fromOpt, Option.getD_none, Option.isSome_none] at e1 e2
      subst e1 e2
      clear hN hg HN
      go_wp2_with fail
      exact bodyPost_ret (results_fe Try.results54 _ _ (w.heap.size + 1) _ _ _ rfl (field_put fzero HG.out.res)) rfl ⟨rfl, by (repeat (first | (with_reducible refine Fr.drewN ?_ _) | (with_reducible refine Fr.set ?_ _ _ (Nat.le_succ _) _))); exact HG.out.fr⟩

/-! ### New -/
theorem reads_row {w : World} {base : Nat} {v : Value} {l : List RowD} (h : RowRow w base v l) : ∃ A cap, v = .slice A l.length cap ∧ Reads rowCells 9 w A l.length l := by
  obtain ⟨A, cap, h1, _, h2, _⟩ := reads_own (by decide) rowCells_len h
  exact ⟨A, cap, h1, h2⟩
theorem wholeDecl6 (w : World) (ad : Addr) : True := trivial
set_option maxRecDepth 100000 in
set_option maxHeartbeats 4000000 in
theorem rnew_calls (A : Option Addr) (cap : Nat) (ds : List DeclD) (w : World) (hr : Reads DeclD.cells 6 w A ds.length ds) (hlen : ds.length < 10000) :
    Calls Try.prog 20 #[.slice A ds.length cap] w fun e w' => ∃ B c, e = .returned (.slice B (rnew ds).length c) ∧ Reads rowCells 9 w' B (rnew ds).length (rnew ds) ∧ Fr (w.heap.size ≤ ·) w w' := by
  have HR := Aside.mk hr
  have hm := hr.2.1
  clear hr
  go_enter Try.func20, Try.ntmps20
  go_wp2_with fail
  go_loopw [3, 4] (fun v i wr => ∃ (j : Nat) (l : List RowD) (B : Option Addr) (c : Nat), j ≤ ds.length ∧ l.length ≤ j ∧ i = .int .i64 j ∧ v = .slice B l.length c ∧ Aside (rnew (ds.take j) = l) ∧ Aside (Reads rowCells 9 wr B l.length l) ∧ Aside (Fr (w.heap.size ≤ ·) w wr)) (fun _ i _ => ds.length - (intOf i).toNat)
  case atStart => exact ⟨0, [], none, 0, Nat.zero_le _, by simp, rfl, rfl, ⟨rfl⟩, ⟨⟨rfl, by simp, fun h => by simp at h⟩⟩, ⟨Fr.refl _ _⟩⟩
  case round =>
    obtain ⟨j, l, B, c, hj, hlj, rfl, rfl, HN, HL, HF⟩ := hrel
    by_cases hlt : j < ds.length
    · obtain ⟨ad, hA, hc0, hc'⟩ := (HR.out.up DeclD.len (by decide) HF.out).at_ (by decide) j hlt
      have hc1 := hc' 1 (by decide) (by decide)
      have hc2 := hc' 2 (by decide) (by decide)
      have hc3 := hc' 3 (by decide) (by decide)
      have hc4 := hc' 4 (by decide) (by decide)
      have hc5 := hc' 5 (by decide) (by decide)
      have hN : rnew (ds.take (j + 1)) = if fgood (fnew ds[j]) = true then rput (rnew (ds.take j)) ds[j].key (fnew ds[j]) else rnew (ds.take j) := by rw [take_snoc ds j hlt, rnew_snoc]
      have hri := (rnew_all (ds.take j)).1
      rw [HN.out] at hN hri
      have HN2 := Aside.mk hN
      have HRi := Aside.mk hri
      clear hc' hN hri
      generalize ds[j] = x at hc0 hc1 hc2 hc3 hc4 hc5 HN2
      have HC := Aside.mk (fun W => rfnew_calls x W)
      obtain ⟨⟨k1, k2, k3⟩, lo, init, hi⟩ := x
      simp only [DeclD.cells, List.getElem?_cons_zero, List.getElem?_cons_succ] at hc0 hc1 hc2 hc3 hc4 hc5
      simp only [DeclD.val] at HC
      dsimp only at HN2
      subst hA
      have hjl : (j : Int) < (ds.length : Int) := by omega
      have hpl := rput_len l ⟨k1, k2, k3⟩ (fnew ⟨⟨k1, k2, k3⟩, lo, init, hi⟩)
      generalize hx : fnew ⟨⟨k1, k2, k3⟩, lo, init, hi⟩ = x at *
      clear hx
      have hadb := World.block_lt_of_cell? wr _ hc0
      simp only [add_blk] at hadb
      cases hg : fgood x with
      | false =>
        rw [hg] at HC HN2
        simp only [Bool.false_eq_true, if_false, fzero, FieldD.val] at HC HN2
        clear hg hpl
        go_wp2_with (go_at_call 52; refine (HC.out _).mono ?_; rintro e w3 ⟨rfl, hf3⟩; have HF3 := Aside.mk hf3; clear hf3)
        go_roundw
        case rel => exact ⟨j + 1, l, B, c, by omega, by omega, by go_num, rfl, HN2, ⟨(HL.out.up rowCells_len (by decide) HF3.out).up rowCells_len (by decide) ((Fr.refl _ w3).alloc _)⟩, ⟨(HF.out.up HF3.out).alloc _⟩⟩
        case measure => simp [intOf]; omega
      | true =>
        obtain ⟨y1, y2, y3, y4, y5, y6⟩ := x
        rw [hg] at HC HN2
        simp only [if_true, FieldD.val] at HC HN2
        clear hg
        go_upto_region 7 with (go_at_call 52; refine (HC.out _).mono ?_; rintro e w3 ⟨rfl, hf3⟩; have HF3 := Aside.mk hf3; have d0 := hf3.cell hc0 (by simp only [add_blk]; omega); have d1 := hf3.cell hc1 (by simp only [add_blk]; omega); have d2 := hf3.cell hc2 (by simp only [add_blk]; omega); clear hf3)
        generalize hW4 : World.alloc w3 _ = W4
        have e0 := cell_alloc d0 (.cells #[.int .i64 y1, .int .i64 y2, .int .i64 y3, .int .i64 y4, .int .i64 y5, .int .i64 y6] 49)
        rw [hW4] at e0
        have e1 := cell_alloc d1 (.cells #[.int .i64 y1, .int .i64 y2, .int .i64 y3, .int .i64 y4, .int .i64 y5, .int .i64 y6] 49)
        rw [hW4] at e1
        have e2 := cell_alloc d2 (.cells #[.int .i64 y1, .int .i64 y2, .int .i64 y3, .int .i64 y4, .int .i64 y5, .int .i64 y6] 49)
        rw [hW4] at e2
        have hY4 : W4.heap[w3.heap.size]? = some (.cells (FieldD.mk y1 y2 y3 y4 y5 y6).cells.toArray 49 (0, 0)) := by rw [← hW4]; exact blk_new _ rfl
        have HF4 : Aside (Fr (wr.heap.size ≤ ·) wr W4) := ⟨by rw [← hW4]; exact HF3.out.alloc _⟩
        obtain ⟨c0, c1, c2, c3, c4, c5⟩ := wholeField _ _ _ hY4
        clear hW4 hY4 d0 d1 d2 hc0 hc1 hc2 hc3 hc4 hc5
        go_still_tail 8, (by kernel_rfl)
        change wpList _ _ _ _ _ W4.drew
        have HL4 := Aside.mk ((HL.out.up rowCells_len (by decide) HF4.out).up rowCells_len (by decide) (Fr.drew (Fr.refl _ W4)))
        have HC2 := Aside.mk (rput_calls B c l ⟨k1, k2, k3⟩ ⟨y1, y2, y3, y4, y5, y6⟩ W4.drew HL4.out HRi.out (by omega))
        simp only [rowVal] at HC2
        go_wp2_with (go_at_call 53; refine HC2.out.mono ?_; rintro e w5 ⟨v, rfl, hrow, hf5⟩; obtain ⟨B', c', rfl, hrd⟩ := reads_row hrow; have HRd := Aside.mk hrd; have HF5 := Aside.mk ((HF.out.up HF4.out).up ((Fr.drew (Fr.refl _ W4)).up hf5)); clear hrow hf5 hrd)
        go_roundw
        case rel => exact ⟨j + 1, rput l ⟨k1, k2, k3⟩ ⟨y1, y2, y3, y4, y5, y6⟩, B', c', by omega, by omega, by go_num, rfl, HN2, HRd, HF5⟩
        case measure => simp [intOf]; omega
    · have hN := HN.out
      rw [List.take_of_length_le (by omega)] at hN
      have HE := Aside.mk hN
      clear hN HN
      go_wp2_with fail
      go_ret
      rw [HE.out]
      exact ⟨B, c, rfl, HL.out, HF.out⟩
end Go.Proofs.Ytkfoapbjdegdiaa.Own
