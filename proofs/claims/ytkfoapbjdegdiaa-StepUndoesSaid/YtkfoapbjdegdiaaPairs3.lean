/- pledgelaw12.works, step.Word at one tag, and StepPairs. -/
import Derived.Test.YtkfoapbjdegdiaaPairs2
namespace Go.Proofs.Ytkfoapbjdegdiaa.Own
open Go.RowKit

set_option maxRecDepth 100000 in
theorem word_pay (w : World) : Calls Try.prog 42 #[.int .u8 8] w fun e w' => e = .returned (.string ⟨#[112, 97, 121]⟩) ∧ Fr (w.heap.size ≤ ·) w w' := by
  go_enter Try.func42, Try.ntmps42
  go_wp2_with fail
  go_ret
  exact ⟨rfl, (Fr.refl _ w).alloc _⟩

def OpD.val (o : OpD) : Value := .agg #[.int .u8 o.key.kind, .int .u8 o.key.sku, .int .u8 o.key.ware, .int .i64 o.d]
theorem op_eq_n (n : Nat) (a b : OpD) (w : World) : (Op.equalIn (n + 3) 43 a.val b.val).run Try.prog w = .ok (decide (a = b)) w := by
  obtain ⟨a, ad⟩ := a
  obtain ⟨b, bd⟩ := b
  have hk := key_eq_n n a b w
  have e : decide (OpD.mk a ad = OpD.mk b bd) = (decide (a = b) && (ad == bd)) := by
    rw [Bool.eq_iff_iff]; simp
  rw [e]
  unfold OpD.val
  refine seq_of Try.underlying43 (by kernel_rfl) ?_
  refine feq_cons (by decide) (by go_simp; rfl) (by go_simp; rfl) hk ?_
  exact feq_one (by decide) (by go_simp; rfl) (by go_simp; rfl) (by go_simp)
set_option maxRecDepth 100000 in
set_option maxHeartbeats 1000000 in
theorem works12 (w : World) : Calls Try.prog 14 #[] w fun e w' => e = .returned (.bool true) ∧ Fr (w.heap.size ≤ ·) w w' := by
  have hO := Aside.mk (ops_calls 3 1 (some ⟨w.heap.size, 0, none⟩) 1 [⟨0, 3⟩] (w.alloc (.cells #[.int .u8 0, .int .i64 3] 79)) ⟨rfl, by simp, fun _ => ⟨_, rfl, by
    intro i hi j hj
    obtain rfl : i = 0 := by simp at hi; omega
    rw [show (⟨w.heap.size, 0, none⟩ : Addr).add (0 * 2 + j) = ⟨w.heap.size, j, none⟩ from by unfold Addr.add; split <;> simp_all, cell_of (blk_new _ rfl)]
    match j, hj with
    | 0, _ => rfl
    | 1, _ => rfl⟩⟩ (by simp) (by simp))
  go_enter Try.func14, Try.ntmps14
  go_wp2_with (first
    | (go_at_call 12; refine hO.out.mono ?_; rintro e w2 ⟨ov, rfl, horow, hob⟩; rw [show opsOf 3 1 [⟨0, 3⟩] = [⟨⟨2, 0, 1⟩, -3⟩, ⟨⟨3, 0, 0⟩, 3⟩] from by decide] at horow; obtain ⟨oA, ocap, rfl, hole, hord, hoa⟩ := reads_own (by decide) OpD.len horow; have HB := Aside.mk (Fr.ofBelow hob); clear hob horow hoa; obtain ⟨ad, rfl, hc0, hc1⟩ := hord.at_ (by decide) 0 (by decide); obtain ⟨ad', e', hd0, hd1⟩ := hord.at_ (by decide) 1 (by decide); cases e'; rw [show ad.add (0 * 4) = ad from rfl] at hc0 hc1; rw [Nat.one_mul, show ad.add 4 = ⟨ad.block, ad.off + 4, none⟩ from rfl] at hd0 hd1; have hc11 := hc1 1 (by decide) (by decide); have hc12 := hc1 2 (by decide) (by decide); have hc13 := hc1 3 (by decide) (by decide); have hd11 := hd1 1 (by decide) (by decide); have hd12 := hd1 2 (by decide) (by decide); have hd13 := hd1 3 (by decide) (by decide); simp only [OpD.cells, List.getElem_cons_zero, List.getElem_cons_succ, List.getElem?_cons_zero, List.getElem?_cons_succ] at hc0 hc11 hc12 hc13 hd0 hd11 hd12 hd13; clear hc1 hd1 hord)
    | (go_at_call 42; refine (word_pay _).mono ?_; rintro e w3 ⟨rfl, hwf⟩))
  go_ret
  exact ⟨rfl, (((Fr.refl (w.heap.size ≤ ·) w).alloc _).trans HB.out (fun k _ e => by simp at e; omega)).trans hwf (fun k _ e => by have := HB.out.size; simp at this; omega)⟩

/-- What stays through the law's calls. -/
structure Sit (w : World) (ware : Int) (A : Option Addr) (cap : Nat) (items : List LineD) (W : World) : Prop where
  bw : Boxed W w.heap.size 5 (.int .u8 ware)
  bi : Boxed W (w.heap.size + 1) 22 (.slice A items.length cap)
  f : Fr (w.heap.size ≤ ·) w W
theorem Sit.next {w W W' : World} {ware : Int} {A : Option Addr} {cap : Nat} {items : List LineD} (h : Sit w ware A cap items W) (hf : Fr (W.heap.size ≤ ·) W W') : Sit w ware A cap items W' :=
  ⟨hf.obj h.bw (by have := h.bw.lt; omega), hf.obj h.bi (by have := h.bi.lt; omega), h.f.trans hf (fun k _ e => by have := h.f.size; omega)⟩
theorem all_at {w W : World} {ware : Int} {A : Option Addr} {cap : Nat} {items : List LineD} (h : Sit w ware A cap items W) (hr : Reads LineD.cells 2 w A items.length items) (hlen : items.length ≤ 20) (hq : ∀ x ∈ items, x.qty ≤ 9223372036854775807) (b : Nat) (hb : b = W.heap.size)
    (tags : List Int) (ht : tags = [1, 2] ∨ tags = [5, 6] ∨ tags = [7, 8] ∨ tags = [1, 3, 4]) :
    Calls Try.prog 11 #[.slice (some ⟨b, 0, none⟩) tags.length tags.length, .pointer (some ⟨w.heap.size, 0, none⟩), .pointer (some ⟨w.heap.size + 1, 0, none⟩)] (W.alloc (.cells (flat cellB tags).toArray 5)) fun e w' => e = .returned (.bool true) ∧ Sit w ware A cap items w' := by
  have hl : tags.length ≤ 3 := by rcases ht with rfl | rfl | rfl | rfl <;> decide
  have hfa : Fr (W.heap.size ≤ ·) W (W.alloc (.cells (flat cellB tags).toArray 5)) := (Fr.refl _ W).alloc _
  have hS := h.next hfa
  refine (all_calls tags _ _ ware A cap items w.heap.size (w.heap.size + 1) _ (reads_new (by decide) cellB_len W _ b hb tags (by omega)) hl hS.bw hS.bi (hr.up LineD.len (by decide) hS.f) hlen hq (pairs_zero tags ht ware items)).mono ?_
  rintro e w' ⟨rfl, hf⟩
  exact ⟨rfl, hS.next hf⟩

set_option maxRecDepth 100000 in
set_option maxHeartbeats 2000000 in
theorem stepPairs_calls (ware : Int) (A : Option Addr) (cap : Nat) (items : List LineD) (w : World) (hr : Reads LineD.cells 2 w A items.length items) (hle : items.length ≤ cap) (hq : ∀ x ∈ items, x.qty ≤ 9223372036854775807) :
    Calls Try.prog 3 #[.int .u8 ware, .slice A items.length cap] w fun e w' => e = .returned (.bool true) ∧ Fr (w.heap.size ≤ ·) w w' := by
  have hn : items.length ≤ 9223372036854775807 := hr.2.1
  obtain ⟨N, hN⟩ : ∃ N, (min (items.length : Int) 20).toNat = N := ⟨_, rfl⟩
  have hN1 : N ≤ items.length := by omega
  have hN2 : N ≤ 20 := by omega
  have hr2 := hr.take hN1
  have hl2 : (items.take N).length = N := by rw [List.length_take]; omega
  have hq2 : ∀ x ∈ items.take N, x.qty ≤ 9223372036854775807 := fun x hx => hq x (List.mem_of_mem_take hx)
  have hS0 : Sit w ware A cap (items.take N) ((w.alloc (.cells #[.int .u8 ware] 5)).alloc (.cells #[.slice A (min (items.length : Int) 20).toNat cap] 22)) :=
    ⟨blk_old (blk_new _ rfl) _, by rw [hN, hl2]; exact blk_new _ (by simp), ((Fr.refl _ w).alloc _).alloc _⟩
  have hr3 : Reads LineD.cells 2 w A (items.take N).length (items.take N) := by rw [hl2]; exact hr2
  have two : ∀ (W : World) (b : Nat) (t1 t2 : Int), Sit w ware A cap (items.take N) W → b = W.heap.size → ([t1, t2] = [1, 2] ∨ [t1, t2] = [5, 6] ∨ [t1, t2] = [7, 8] ∨ [t1, t2] = [1, 3, 4]) →
      Calls Try.prog 11 #[.slice (some ⟨b, 0, none⟩) 2 2, .pointer (some ⟨w.heap.size, 0, none⟩), .pointer (some ⟨w.heap.size + 1, 0, none⟩)] (W.alloc (.cells #[.int .u8 t1, .int .u8 t2] 5)) fun e w' => e = .returned (.bool true) ∧ Sit w ware A cap (items.take N) w' :=
    fun W b t1 t2 h hb ht => all_at h hr3 (by omega) hq2 b hb [t1, t2] ht
  have three : ∀ (W : World) (b : Nat), Sit w ware A cap (items.take N) W → b = W.heap.size →
      Calls Try.prog 11 #[.slice (some ⟨b, 0, none⟩) 3 3, .pointer (some ⟨w.heap.size, 0, none⟩), .pointer (some ⟨w.heap.size + 1, 0, none⟩)] (W.alloc (.cells #[.int .u8 1, .int .u8 3, .int .u8 4] 5)) fun e w' => e = .returned (.bool true) ∧ Sit w ware A cap (items.take N) w' :=
    fun W b h hb => all_at h hr3 (by omega) hq2 b hb [1, 3, 4] (by decide)
  have HT := Aside.mk (And.intro two three)
  have HS0 := Aside.mk hS0
  clear hr hq two three hS0 hr2 hl2 hq2 hr3 hN hN1 hN2
  go_enter Try.func3, Try.ntmps3
  go_wp2_with fail
  refine (HT.out.1 _ _ _ _ HS0.out (by simp) (by decide)).mono ?_
  rintro e w1 ⟨rfl, h1⟩
  have H1 := Aside.mk h1
  clear h1
  go_wp2_with fail
  refine (HT.out.1 _ _ _ _ H1.out (by simp) (by decide)).mono ?_
  rintro e w2 ⟨rfl, h2⟩
  have H2 := Aside.mk h2
  clear h2
  go_wp2_with fail
  refine (HT.out.1 _ _ _ _ H2.out (by simp) (by decide)).mono ?_
  rintro e w3 ⟨rfl, h3⟩
  have H3 := Aside.mk h3
  clear h3
  go_wp2_with fail
  refine (HT.out.2 _ _ H3.out (by simp)).mono ?_
  rintro e w4 ⟨rfl, h4⟩
  have H4 := Aside.mk h4
  clear h4
  go_wp2_with fail
  refine (works12 _).mono ?_
  rintro e w5 ⟨rfl, h5⟩
  have H5 := Aside.mk h5
  clear h5
  go_wp2_with fail
  go_ret
  exact ⟨rfl, H4.out.f.trans H5.out (fun k _ e => by have := H4.out.f.size; omega)⟩
end Go.Proofs.Ytkfoapbjdegdiaa.Own
