/- pledgeref18.Try. -/
import Derived.Test.YtkfoapbjdegdiaaRef18c
namespace Go.Proofs.Ytkfoapbjdegdiaa.Own
open Go.RowKit

theorem fcall_zero (l : List RowD) (o : OpD) : rdo (fun x => fcall 0 x o.d) l o.key = rgrant l o := by
  have : (fun x => fcall 0 x o.d) = (fun x => fgrant x o.d) := funext fun _ => if_pos rfl
  rw [this]; rfl
set_option maxRecDepth 100000 in
set_option maxHeartbeats 2000000 in
theorem rtry_calls (A : Option Addr) (cap : Nat) (l : List RowD) (B : Option Addr) (cb : Nat) (os : List OpD) (w : World) (hr : Reads rowCells 9 w A l.length l) (hro : Reads OpD.cells 4 w B os.length os) (hri : Rising l) (hin : RowsIn l) (hlen : l.length < 10000) (hd : ∀ o ∈ os, InI64 o.d) :
    Calls Try.prog 24 #[.slice A l.length cap, .slice B os.length cb] w fun e w' => e = .returned (.int .i64 (rtry l os)) ∧ Fr (w.heap.size ≤ ·) w w' := by
  have HR := Aside.mk hr
  have HO := Aside.mk hro
  have HD := Aside.mk hd
  have hm := hro.2.1
  have HI := Aside.mk (And.intro hri (And.intro hin hlen))
  clear hr hro hd hri hin hlen
  obtain ⟨res, hres⟩ : ∃ r, rtry l os = r := ⟨_, rfl⟩
  rw [hres]
  have HRes := Aside.mk hres
  clear hres
  go_enter Try.func24, Try.ntmps24
  go_wp2_with fail
  go_loopw [0, 5] (fun v i wr => ∃ (j : Nat) (l' : List RowD) (A' : Option Addr) (c' : Nat), j ≤ os.length ∧ i = .int .i64 j ∧ v = .slice A' l'.length c' ∧ Aside (rtry l' (os.drop j) = res) ∧ Aside (Rising l' ∧ RowsIn l' ∧ l'.length < 10000) ∧ Aside (Reads rowCells 9 wr A' l'.length l') ∧ Aside (Fr (w.heap.size ≤ ·) w wr)) (fun _ i _ => os.length - (intOf i).toNat)
  case atStart => exact ⟨0, l, A, cap, Nat.zero_le _, rfl, rfl, ⟨by simpa using HRes.out⟩, HI, HR, ⟨Fr.refl _ _⟩⟩
  case round =>
    obtain ⟨j, l', A', c', hj, rfl, rfl, HT, HI', HL, HF⟩ := hrel
    by_cases hlt : j < os.length
    · obtain ⟨ad, hA, hc0, hc'⟩ := (HO.out.up OpD.len (by decide) HF.out).at_ (by decide) j hlt
      have hc1 := hc' 1 (by decide) (by decide)
      have hc2 := hc' 2 (by decide) (by decide)
      have hc3 := hc' 3 (by decide) (by decide)
      have hT := HT.out
      rw [rtry_drop hlt] at hT
      have hdo := HD.out _ (List.getElem_mem hlt)
      clear hc' HT
      generalize os[j] = x at hc0 hc1 hc2 hc3 hT hdo
      have HC := Aside.mk (fun W (hf : Reads rowCells 9 W A' l'.length l') => rdo_calls A' c' l' 0 (Int.le_refl 0) x hdo W hf HI'.out.1 HI'.out.2.1 HI'.out.2.2)
      have HN := Aside.mk (show Rising (rgrant l' x).1 ∧ RowsIn (rgrant l' x).1 ∧ (rgrant l' x).1.length < 10000 from ⟨rdo_rising HI'.out.1 _, rgrant_in HI'.out.2.1 HI'.out.1 x hdo, by have := rdo_len (g := fun y => fgrant y x.d) HI'.out.1 x.key; have h2 := HI'.out.2.2; unfold rgrant; omega⟩)
      rw [fcall_zero] at HC
      generalize rgrant l' x = r at *
      obtain ⟨l2, e2⟩ := r
      obtain ⟨⟨k1, k2, k3⟩, d⟩ := x
      simp only [OpD.cells, List.getElem?_cons_zero, List.getElem?_cons_succ] at hc0 hc1 hc2 hc3
      dsimp only [OpD.av] at HC HN hT
      have HT2 := Aside.mk hT
      have hjl : (j : Int) < (os.length : Int) := by omega
      subst hA
      clear hdo hT
      by_cases h0 : e2 = 0
      · subst h0
        have HT3 := Aside.mk ((if_neg (by simp)).symm.trans HT2.out)
        clear HT2
        go_wp2_with (go_at_call 30; refine (HC.out _ HL.out).mono ?_; rintro e w3 ⟨B3, c3, rfl, hrd, hf⟩; have HRd := Aside.mk hrd; have HF3 := Aside.mk (HF.out.up hf); clear hrd hf)
        go_roundw
        case rel => exact ⟨j + 1, l2, B3, c3, by omega, by go_num, rfl, HT3, HN, HRd, HF3⟩
        case measure => simp [intOf]; omega
      · have hne : (e2 != 0) = true := bne_iff_ne.2 h0
        have HT3 := Aside.mk ((if_pos h0).symm.trans HT2.out)
        clear HT2 h0
        go_wp2_with (go_at_call 30; refine (HC.out _ HL.out).mono ?_; rintro e w3 ⟨B3, c3, rfl, hrd, hf⟩; have HF3 := Aside.mk (HF.out.up hf); clear hrd hf)
        go_ret
        exact ⟨by rw [← HT3.out]; rfl, HF3.out⟩
    · have hE := HT.out
      rw [List.drop_eq_nil_of_le (by omega)] at hE
      have HE := Aside.mk hE
      clear hE HT
      go_wp2_with fail
      go_ret
      exact ⟨by rw [← HE.out]; rfl, HF.out⟩
end Go.Proofs.Ytkfoapbjdegdiaa.Own
