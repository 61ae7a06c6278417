/- key.Compare: the order of keys. -/
import Derived.Test.YtkfoapbjdegdiaaSum
import Derived.StillTailTactics
import Derived.Sort.Grow
namespace Go.Proofs.Ytkfoapbjdegdiaa.Own
open Go.RowKit Go.Sort

def cmpI (a b : Int) : Int := if a < b then -1 else if b < a then 1 else 0
theorem nan_calls (a : Int) (w : World) : Calls Try.prog 119 #[.int .u8 a] w fun e w' => e = .returned (.bool false) ∧ w' = w := by
  go_enter Try.func119, Try.ntmps119
  go_wp2_with fail
  go_ret
  exact ⟨by simp, rfl⟩
theorem cmp8_calls (a b : Int) (w : World) : Calls Try.prog 84 #[.int .u8 a, .int .u8 b] w fun e w' => e = .returned (.int .i64 (cmpI a b)) ∧ w' = w := by
  by_cases h1 : a < b
  · have e : Aside (cmpI a b = -1) := ⟨by simp [cmpI, h1]⟩
    go_enter Try.func84, Try.ntmps84
    go_wp2_with (go_at_call 119; refine (nan_calls _ _).mono ?_; rintro e w' ⟨rfl, rfl⟩)
    go_ret
    exact ⟨by rw [e.out]; rfl, rfl⟩
  by_cases h2 : b < a
  · have e : Aside (cmpI a b = 1) := ⟨by simp [cmpI, h1, h2]⟩
    go_enter Try.func84, Try.ntmps84
    go_wp2_with (go_at_call 119; refine (nan_calls _ _).mono ?_; rintro e w' ⟨rfl, rfl⟩)
    go_ret
    exact ⟨by rw [e.out]; rfl, rfl⟩
  · have e : Aside (cmpI a b = 0) := ⟨by simp [cmpI, h1, h2]⟩
    go_enter Try.func84, Try.ntmps84
    go_wp2_with (go_at_call 119; refine (nan_calls _ _).mono ?_; rintro e w' ⟨rfl, rfl⟩)
    go_ret
    exact ⟨by rw [e.out]; rfl, rfl⟩
def firstOf : List Int → Int
  | [] => 0
  | a :: l => if a = 0 then firstOf l else a
theorem firstOf_drop (l : List Int) (k : Nat) (h : k < l.length) : firstOf (l.drop k) = if l[k] = 0 then firstOf (l.drop (k + 1)) else l[k] := by
  rw [List.drop_eq_getElem_cons h]; rfl
theorem or_calls (A : Option Addr) (cap : Nat) (l : List Int) (w : World) (hr : Reads cellI 1 w A l.length l) (hlen : l.length < 100000) :
    Calls Try.prog 83 #[.slice A l.length cap] w fun e w' => e = .returned (.int .i64 (firstOf l)) ∧ w' = w := by
  have HR := Aside.mk hr
  clear hr
  go_enter Try.func83, Try.ntmps83
  go_wp2_with fail
  go_loop [8] (fun i => ∃ k : Nat, k ≤ l.length ∧ i = .int .i64 k ∧ Aside (firstOf (l.drop k) = firstOf l)) (fun i => l.length - (intOf i).toNat)
  case atStart => exact ⟨0, Nat.zero_le _, rfl, ⟨rfl⟩⟩
  case round =>
    obtain ⟨k, hk, rfl, HF⟩ := hrel
    by_cases hlt : k < l.length
    · obtain ⟨ad, rfl, hc, _⟩ := HR.out.at_ (by decide) k hlt
      have hf := firstOf_drop l k hlt
      rw [HF.out] at hf
      simp only [cellI, List.getElem?_cons_zero, Nat.mul_one] at hc
      generalize l[k] = x at hc hf
      by_cases hx : x = 0
      · subst hx
        have HF2 := Aside.mk hf
        clear hf
        go_wp2_with fail
        go_round
        case rel => exact ⟨k + 1, by omega, by go_num, ⟨by have := HF2.out; simp at this; exact this.symm⟩⟩
        case measure => simp [intOf]; omega
      · rw [if_neg hx] at hf
        have HF2 := Aside.mk hf
        clear hf
        have hx1 : (x != 0) = true := bne_iff_ne.2 hx
        go_wp2_with fail
        go_ret
        exact ⟨by rw [HF2.out]; rfl, rfl⟩
    · have HE : Aside (firstOf l = 0) := ⟨by rw [← HF.out, List.drop_eq_nil_of_le (by omega)]; rfl⟩
      go_wp2_with fail
      go_ret
      exact ⟨by rw [HE.out]; rfl, rfl⟩
/-- A region that draws its order, of reads and quiet calls ahead of a tail in one order: as wp_region_still_tail, the drawn world under a name. -/
theorem region_tail {P : Program} {id : Nat} {Q : Exit → Act → World → Prop} {a : Act} {w : World} {l : List Oper} (n : Nat) (hm : P.follows .mixedOrders = true) (hB : Region.lexTailB .any l.toArray n = true) (w2 : World) (hw : w.drew = w2)
    (h : wpStill P l.toArray w2 (fun a' => wpList P l.toArray Q (l.drop n) a' w2) (l.take n) a) : (Code.region id l.toArray true).wp P Q a w := by
  subst hw
  exact wp_region_still_tail n hm hB h
def cmpKey (a b : KeyD) : Int := firstOf [cmpI a.kind b.kind, cmpI a.sku b.sku, cmpI a.ware b.ware]
set_option maxRecDepth 100000 in
set_option maxHeartbeats 1000000 in
theorem compare_calls (a b : KeyD) (w : World) : Calls Try.prog 40 #[a.val, b.val] w fun e w' => e = .returned (.int .i64 (cmpKey a b)) ∧ ∃ q os, w' = grow (w.drewN q) os := by
  obtain ⟨a1, a2, a3⟩ := a
  obtain ⟨b1, b2, b3⟩ := b
  unfold KeyD.val
  obtain ⟨w2, hw2⟩ : ∃ w2, ((w.alloc (.cells #[.int .u8 a1, .int .u8 a2, .int .u8 a3] 41)).alloc (.cells #[.int .u8 b1, .int .u8 b2, .int .u8 b3] 41)).drew = w2 := ⟨_, rfl⟩
  have hA : w2.heap[w.heap.size]? = some (.cells #[.int .u8 a1, .int .u8 a2, .int .u8 a3] 41 (0, 0)) := by rw [← hw2]; exact blk_old (blk_new _ rfl) _
  have hB : w2.heap[w.heap.size + 1]? = some (.cells #[.int .u8 b1, .int .u8 b2, .int .u8 b3] 41 (0, 0)) := by rw [← hw2]; exact blk_new _ (by simp)
  have a0 := cell_of hA 0
  have a1' := cell_of hA 1
  have a2' := cell_of hA 2
  have b0 := cell_of hB 0
  have b1' := cell_of hB 1
  have b2' := cell_of hB 2
  simp only [List.getElem?_toArray, List.getElem?_cons_succ, List.getElem?_cons_zero] at a0 a1' a2' b0 b1' b2'
  have hor := or_calls (some ⟨w2.heap.size, 0, none⟩) 3 [cmpI a1 b1, cmpI a2 b2, cmpI a3 b3] (w2.alloc (.cells #[.int .i64 (cmpI a1 b1), .int .i64 (cmpI a2 b2), .int .i64 (cmpI a3 b3)] 3))
    ⟨rfl, by simp, fun _ => ⟨_, rfl, by
      intro i hi j hj
      obtain rfl : j = 0 := by omega
      rw [show (⟨w2.heap.size, 0, none⟩ : Addr).add (i * 1 + 0) = ⟨w2.heap.size, i, none⟩ from by unfold Addr.add; split <;> simp_all, cell_of (blk_new _ rfl)]
      match i, hi with
      | 0, _ => rfl
      | 1, _ => rfl
      | 2, _ => rfl
      | n + 3, h => simp at h; omega⟩⟩ (by simp)
  have HW := Aside.mk hw2
  go_enter Try.func40, Try.ntmps40
  go_wp2_with fail
  refine region_tail 15 (by kernel_rfl) (by kernel_rfl) w2 hw2 ?_
  clear hw2 hA hB
  simp only [List.take_succ_cons, List.take_zero, List.drop_succ_cons, List.drop_zero]
  repeat still_step
  still_call (cmp8_calls _ _ _)
  repeat still_step
  still_call (cmp8_calls _ _ _)
  repeat still_step
  still_call (cmp8_calls _ _ _)
  refine wpStill_nil ?_
  go_wp2_with (go_at_call 83; refine hor.mono ?_; rintro e w' ⟨rfl, rfl⟩)
  go_ret
  refine ⟨rfl, 1, #[.cells #[.int .u8 a1, .int .u8 a2, .int .u8 a3] 41, .cells #[.int .u8 b1, .int .u8 b2, .int .u8 b3] 41, .cells #[.int .i64 (cmpI a1 b1), .int .i64 (cmpI a2 b2), .int .i64 (cmpI a3 b3)] 3], ?_⟩
  rw [← HW.out]
  simp only [alloc_eq_grow, drew_grow, grow_grow, List.append_toArray, List.cons_append, List.nil_append]
  rfl
end Go.Proofs.Ytkfoapbjdegdiaa.Own
