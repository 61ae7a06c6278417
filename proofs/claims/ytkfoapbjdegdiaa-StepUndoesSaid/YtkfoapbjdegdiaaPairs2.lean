/- pledgelaw12.StepPairs: the walks. -/
import Derived.Test.YtkfoapbjdegdiaaPairs
namespace Go.Proofs.Ytkfoapbjdegdiaa.Own
open Go.RowKit

def cellB (x : Int) : List Value := [.int .u8 x]
theorem cellB_len (x : Int) : (cellB x).length = 1 := rfl
theorem allOps_snoc (tags : List Int) (t ware : Int) (items : List LineD) : allOps (tags ++ [t]) ware items = allOps tags ware items ++ opsOf t ware items := by simp [allOps]
set_option maxRecDepth 100000 in
set_option maxHeartbeats 2000000 in
theorem all_calls (tags : List Int) (At : Option Addr) (ct : Nat) (ware : Int) (A : Option Addr) (cap : Nat) (items : List LineD) (Bw Bi : Nat) (w : World) (ht : Reads cellB 1 w At tags.length tags) (htl : tags.length ≤ 3)
    (hw : Boxed w Bw 5 (.int .u8 ware)) (hi : Boxed w Bi 22 (.slice A items.length cap)) (hr : Reads LineD.cells 2 w A items.length items) (hlen : items.length ≤ 20) (hq : ∀ x ∈ items, x.qty ≤ 9223372036854775807)
    (hz : ∀ k, net (allOps tags ware items) k = 0) :
    Calls Try.prog 11 #[.slice At tags.length ct, .pointer (some ⟨Bw, 0, none⟩), .pointer (some ⟨Bi, 0, none⟩)] w fun e w' => e = .returned (.bool true) ∧ Fr (w.heap.size ≤ ·) w w' := by
  have HT := Aside.mk ht
  have HR := Aside.mk hr
  have HQ := Aside.mk hq
  have HZ := Aside.mk hz
  have HW := Aside.mk hw
  have HI := Aside.mk hi
  clear ht hr hq hz hw hi
  go_enter Try.func11, Try.ntmps11
  go_wp2_with fail
  go_loopw [5, 12] (fun v i wr => ∃ k : Nat, k ≤ tags.length ∧ i = .int .i64 k ∧ OpRow wr w.heap.size v (allOps (tags.take k) ware items) ∧ Aside (Fr (w.heap.size ≤ ·) w wr)) (fun _ i _ => tags.length - (intOf i).toNat)
  case atStart => exact ⟨0, Nat.zero_le _, rfl, ⟨by simp [allOps, flat], .inl ⟨rfl, by simp [allOps]⟩⟩, ⟨Fr.refl _ _⟩⟩
  case round =>
    obtain ⟨k, hk, rfl, hrow, HF⟩ := hrel
    have hlk := List.length_take_le k tags
    have hal := allOps_len (tags.take k) ware items
    have hal2 : (allOps (tags.take k) ware items).length ≤ 200 := by
      refine Nat.le_trans hal ?_
      calc (tags.take k).length * (2 * items.length) ≤ 3 * (2 * 20) := Nat.mul_le_mul (by omega) (by omega)
        _ ≤ 200 := by decide
    clear hal
    by_cases hlt : k < tags.length
    · obtain ⟨ad, hA, hc0, _⟩ := (HT.out.up cellB_len (by decide) HF.out).at_ (by decide) k hlt
      have HN := Aside.mk (take_snoc tags k hlt)
      generalize tags[k] = t at hc0 HN
      simp only [cellB, List.getElem?_cons_zero, Nat.mul_one] at hc0
      subst hA
      have hcw : wr.cell? ⟨Bw, 0, none⟩ = some (.int .u8 ware) := HF.out.cell HW.out.cell (by have := HW.out.lt; simp; omega)
      have hci : wr.cell? ⟨Bi, 0, none⟩ = some (.slice A items.length cap) := HF.out.cell HI.out.cell (by have := HI.out.lt; simp; omega)
      have hO := Aside.mk (ops_calls t ware A cap items wr (HR.out.up LineD.len (by decide) HF.out) (by omega) HQ.out)
      have hol := opsOf_len t ware items
      have hszf := HF.out.size
      have HRow := Aside.mk hrow
      clear hrow
      go_wp2_with (first
        | (at_builtin; refine append_rows OpD.cells 4 16 _ OpD.len OpD.one (by decide) (by rfl) (by decide) Try.underlying24 infoOp rfl _ _ rfl w.heap.size _ _ rfl HRow2.out _ oA ocap rfl hord.out (fun e => hoN e) (by omega) (by omega) ?_; intro v' w3 hown' hgrow; have HG := Aside.mk (And.intro hgrow hown'); clear hgrow hown')
        | (go_at_call 12; refine hO.out.mono ?_; rintro e w2 ⟨ov, rfl, horow, hob⟩; have HB := Aside.mk (Fr.ofBelow hob); have hsb := hob.size; have HRow2 := Aside.mk (HB.out.own HRow.out (fun j hj => (by have := (HRow.out.lt j hj).2; omega))); obtain ⟨oA, ocap, rfl, hole, hord', hoa⟩ := reads_own (by decide) OpD.len horow; have hord := Aside.mk hord'; have hoN : oA = none → ocap = 0 := own_cap horow; clear hob horow hoa hord'))
      obtain ⟨hgrow, hown'⟩ := HG.out
      refine ⟨⟨k + 1, by omega, by go_num, by rw [HN.out, allOps_snoc]; exact hown', ⟨?_⟩⟩, by simp [intOf]; omega⟩
      exact (HF.out.trans HB.out (fun k _ e => by omega)).trans (Fr.ofGrown hgrow) (fun k _ e => own_ge HRow2.out k e)
    · have HE : Aside (tags.take k = tags) := ⟨List.take_of_length_le (by omega)⟩
      rw [HE.out] at hrow hal2
      obtain ⟨oA, ocap, rfl, hole, hord, hoa⟩ := reads_own (by decide) OpD.len hrow
      have hN := Aside.mk (net_calls oA ocap (allOps tags ware items) wr hord (by omega) (allOps_bound tags ware items HQ.out))
      have HRow := Aside.mk hrow
      have HRd := Aside.mk hord
      clear hrow hord hoa
      go_wp2_with (go_at_call 13; refine hN.out.mono ?_; rintro e w2 ⟨nv, ks, rfl, hks, hnrow, hnf⟩; obtain ⟨q1, q2⟩ := net_none (ks := ks) HZ.out; rw [q2] at hnrow; obtain ⟨nA, ncap, rfl, _, _, _⟩ := reads_own (by decide) OpD.len hnrow; have HNf := Aside.mk hnf; have HQ1 := Aside.mk q1; rw [q1]; clear q1 q2 hnrow hnf)
      go_ret
      exact ⟨rfl, HF.out.trans HNf.out (fun k _ e => by have := HF.out.size; omega)⟩
end Go.Proofs.Ytkfoapbjdegdiaa.Own
