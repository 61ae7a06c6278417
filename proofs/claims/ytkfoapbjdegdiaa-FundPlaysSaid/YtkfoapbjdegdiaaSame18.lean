/- pledgelaw18: sameRows, Same, works, do. -/
import Derived.Test.YtkfoapbjdegdiaaRef18d
namespace Go.Proofs.Ytkfoapbjdegdiaa.Own
open Go.RowKit
attribute [local go_sem ↓] Go.wp_at_zero Go.wp_at_succ

theorem field_eq_n (n : Nat) (a b : FieldD) (w : World) : (Op.equalIn (n + 2) 49 a.val b.val).run Try.prog w = .ok (decide (a = b)) w := by
  obtain ⟨a1, a2, a3, a4, a5, a6⟩ := a
  obtain ⟨b1, b2, b3, b4, b5, b6⟩ := b
  have e : decide (FieldD.mk a1 a2 a3 a4 a5 a6 = FieldD.mk b1 b2 b3 b4 b5 b6) = (a1 == b1 && (a2 == b2 && (a3 == b3 && (a4 == b4 && (a5 == b5 && (a6 == b6)))))) := by
    rw [Bool.eq_iff_iff]; simp
  rw [e]
  unfold FieldD.val
  refine seq_of Try.underlying49 (by kernel_rfl) ?_
  refine feq_cons (by decide) (by go_simp; rfl) (by go_simp; rfl) (by go_simp) ?_
  refine feq_cons (by decide) (by go_simp; rfl) (by go_simp; rfl) (by go_simp) ?_
  refine feq_cons (by decide) (by go_simp; rfl) (by go_simp; rfl) (by go_simp) ?_
  refine feq_cons (by decide) (by go_simp; rfl) (by go_simp; rfl) (by go_simp) ?_
  refine feq_cons (by decide) (by go_simp; rfl) (by go_simp; rfl) (by go_simp) ?_
  exact feq_one (by decide) (by go_simp; rfl) (by go_simp; rfl) (by go_simp)
theorem field_neq (a b : FieldD) (w : World) : (binOp .neq 49 a.val b.val).run Try.prog w = .ok (.bool (!decide (a = b))) w := by
  have h : (Op.equal 49 a.val b.val).run Try.prog w = .ok (decide (a = b)) w := field_eq_n 9998 a b w
  unfold FieldD.val at *
  simp only [binOp]
  simp [h]
set_option maxRecDepth 100000 in
set_option maxHeartbeats 4000000 in
theorem sameRows_calls {p bt bm : Nat} {m : List (KeyD × Value)} {l : List RowD} (A : Option Addr) (cap : Nat) (w : World) (h : FundAt w p bt bm m l) (hr : Reads rowCells 9 w A l.length l) (hlen : l.length < 10000) :
    Calls Try.prog 51 #[.pointer (some ⟨p, 0, none⟩), .slice A l.length cap] w fun e w' => e = .returned (.bool true) ∧ Fr (w.heap.size ≤ ·) w w' := by
  have HH := Aside.mk h
  have HR := Aside.mk hr
  have HK := Aside.mk (fkeys_calls w h (by omega))
  have hm := hr.2.1
  clear h hr
  go_enter Try.func51, Try.ntmps51
  go_wp2_with (go_at_call 33; refine HK.out.mono ?_; rintro e w1 ⟨v, rfl, hrow, hf⟩; obtain ⟨K, kc, rfl, _, hrd, _⟩ := reads_own (by decide) KeyD.len hrow; rw [List.length_map] at hrd ⊢; have HKR := Aside.mk hrd; have HF := Aside.mk hf; clear hrow hrd hf)
  go_loopw [6] (fun i wr => ∃ (j : Nat), j ≤ l.length ∧ i = .int .i64 j ∧ Aside (Fr (w1.heap.size ≤ ·) w1 wr)) (fun i _ => l.length - (intOf i).toNat)
  case atStart => exact ⟨0, Nat.zero_le _, rfl, ⟨Fr.refl _ _⟩⟩
  case round =>
    obtain ⟨j, hj, rfl, HF2⟩ := hrel
    have HFw := Aside.mk (HF.out.up HF2.out)
    by_cases hlt : j < l.length
    · obtain ⟨ad, hA, hc0, hc'⟩ := (HR.out.up rowCells_len (by decide) HFw.out).at_ (by decide) j hlt
      have hc1 := hc' 1 (by decide) (by decide)
      have hc2 := hc' 2 (by decide) (by decide)
      have hc3 := hc' 3 (by decide) (by decide)
      have hc4 := hc' 4 (by decide) (by decide)
      have hc5 := hc' 5 (by decide) (by decide)
      have hc6 := hc' 6 (by decide) (by decide)
      have hc7 := hc' 7 (by decide) (by decide)
      have hc8 := hc' 8 (by decide) (by decide)
      have hkr : Reads KeyD.cells 3 wr K (l.map (·.1)).length (l.map (·.1)) := by rw [List.length_map]; exact HKR.out.up KeyD.len (by decide) HF2.out
      obtain ⟨kd, hKd, hk0, hk'⟩ := hkr.at_ (by decide) j (by simpa using hlt)
      have hk1 := hk' 1 (by decide) (by decide)
      have hk2 := hk' 2 (by decide) (by decide)
      have hg : rget l l[j].1 = some l[j].2 := (rget_some HH.out.rising).2 (List.getElem_mem hlt)
      have HG := Aside.mk (fun W hf => fget_calls l[j].1 W (HH.out.up hf))
      rw [hg] at HG
      rw [List.getElem_map] at hk0 hk1 hk2
      clear hc' hk' hkr hg
      generalize l[j] = x at *
      obtain ⟨⟨x1, x2, x3⟩, ⟨y1, y2, y3, y4, y5, y6⟩⟩ := x
      simp only [rowCells, KeyD.cells, List.getElem?_cons_zero, List.getElem?_cons_succ] at hc0 hc1 hc2 hc3 hc4 hc5 hc6 hc7 hc8 hk0 hk1 hk2
      simp only [KeyD.val, FieldD.val, fromOpt, Option.getD_some, Option.isSome_some] at HG
      subst hA hKd
      have hjl : (j : Int) < (l.length : Int) := by omega
      have hneq := key_neq ⟨x1, x2, x3⟩ ⟨x1, x2, x3⟩
      have hfq := field_neq ⟨y1, y2, y3, y4, y5, y6⟩ ⟨y1, y2, y3, y4, y5, y6⟩
      simp only [KeyD.val, FieldD.val, decide_true, Bool.not_true] at hneq hfq
      have lad := World.block_lt_of_cell? wr _ hc0
      have lkd := World.block_lt_of_cell? wr _ hk0
      simp only [add_blk] at lad lkd
      go_upto_region 8 with (go_at_call 32; refine (HG.out _ HFw.out).mono ?_; rintro e w3 ⟨rfl, hf3⟩; have HF3 := Aside.mk hf3; clear hf3)
      generalize hW4 : World.alloc w3 _ = W4
      have HF4 : Aside (Fr (wr.heap.size ≤ ·) wr W4) := ⟨by rw [← hW4]; exact HF3.out.alloc _⟩
      have hY4 : W4.heap[w3.heap.size]? = some (.cells (FieldD.mk y1 y2 y3 y4 y5 y6).cells.toArray 49 (0, 0)) := by rw [← hW4]; exact blk_new _ rfl
      obtain ⟨c0, c1, c2, c3, c4, c5⟩ := wholeField _ _ _ hY4
      replace hc0 := HF4.out.cell hc0 (by simp only [add_blk]; omega)
      replace hc1 := HF4.out.cell hc1 (by simp only [add_blk]; omega)
      replace hc2 := HF4.out.cell hc2 (by simp only [add_blk]; omega)
      replace hc3 := HF4.out.cell hc3 (by simp only [add_blk]; omega)
      replace hc4 := HF4.out.cell hc4 (by simp only [add_blk]; omega)
      replace hc5 := HF4.out.cell hc5 (by simp only [add_blk]; omega)
      replace hc6 := HF4.out.cell hc6 (by simp only [add_blk]; omega)
      replace hc7 := HF4.out.cell hc7 (by simp only [add_blk]; omega)
      replace hc8 := HF4.out.cell hc8 (by simp only [add_blk]; omega)
      replace hk0 := HF4.out.cell hk0 (by simp only [add_blk]; omega)
      replace hk1 := HF4.out.cell hk1 (by simp only [add_blk]; omega)
      replace hk2 := HF4.out.cell hk2 (by simp only [add_blk]; omega)
      clear hW4 hY4 lad lkd
      go_quiet (fail)
      go_wp2_with fail
      go_roundw
      case rel => exact ⟨j + 1, by omega, by go_num, ⟨(HF2.out.up HF4.out).drewN _⟩⟩
      case measure => simp [intOf]; omega
    · go_wp2_with fail
      go_ret
      exact ⟨rfl, HFw.out⟩
theorem same_calls {p bt bm : Nat} {m : List (KeyD × Value)} {l : List RowD} (A : Option Addr) (cap : Nat) (w : World) (h : FundAt w p bt bm m l) (hr : Reads rowCells 9 w A l.length l) (hlen : l.length < 10000) :
    Calls Try.prog 19 #[.pointer (some ⟨p, 0, none⟩), .slice A l.length cap] w fun e w' => e = .returned (.int .i64 1) ∧ Fr (w.heap.size ≤ ·) w w' := by
  have HC := Aside.mk (sameRows_calls A cap w h hr hlen)
  clear h hr
  go_enter Try.func19, Try.ntmps19
  go_wp2_with (go_at_call 51; refine HC.out.mono ?_; rintro e w1 ⟨rfl, hf⟩; have HF := Aside.mk hf; clear hf)
  go_ret
  exact ⟨rfl, HF.out⟩
end Go.Proofs.Ytkfoapbjdegdiaa.Own
