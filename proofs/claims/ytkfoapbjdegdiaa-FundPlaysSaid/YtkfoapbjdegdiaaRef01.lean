/- pledgeref01: halves, Sum, Add, Sub. -/
import Derived.Test.YtkfoapbjdegdiaaBits
import Derived.Test.YtkfoapbjdegdiaaNet
import Derived.Test.YtkfoapbjdegdiaaStep
import Derived.Test.YtkfoapbjdegdiaaBase3
import Derived.Laws.Rows
namespace Go.Proofs.Ytkfoapbjdegdiaa.Own
open Go.RowKit

theorem infoWide : (Try.prog.info? 195).map (·.size) = some 2 := by kernel_rfl
set_option maxRecDepth 100000 in
theorem halvesPos_calls (a : Int) (h0 : 0 ≤ a) (h1 : a ≤ 9223372036854775807) (w : World) : Calls Try.prog 138 #[.int .i64 a] w fun e w' => e = .returned (.agg #[.int .i64 (a / 4294967296), .int .i64 (a % 4294967296)]) ∧ w' = w.alloc (.cells #[.int .i64 (a / 4294967296), .int .i64 (a % 4294967296)] 195) := by
  have hd : decide (a < 0) = false := decide_eq_false (by omega)
  go_enter Try.func138, Try.ntmps138
  go_wp2_with fail
  exact bodyPost_ret (by simp [results, Try.results138, go_sem]) rfl ⟨rfl, rfl⟩
set_option maxRecDepth 100000 in
theorem halves_calls (a : Int) (ha : InI64 a) (w : World) : Calls Try.prog 138 #[.int .i64 a] w fun e w' => e = .returned (.agg #[.int .i64 (a / 4294967296), .int .i64 (a % 4294967296)]) ∧ Fr (w.heap.size ≤ ·) w w' := by
  unfold InI64 at ha
  by_cases h0 : 0 ≤ a
  · exact (halvesPos_calls a h0 (by omega) w).mono fun e w' ⟨he, hw⟩ => ⟨he, by rw [hw]; exact (Fr.refl _ w).alloc _⟩
  · have hd : decide (a < 0) = true := decide_eq_true (by omega)
    have hC := fun W => halvesPos_calls (-(a + 1)) (by omega) (by omega) W
    obtain ⟨p, hp⟩ : ∃ p, -(a + 1) / 4294967296 = p := ⟨_, rfl⟩
    obtain ⟨q, hq⟩ : ∃ q, -(a + 1) % 4294967296 = q := ⟨_, rfl⟩
    have e1 : a / 4294967296 = -1 - p := by omega
    have e2 : a % 4294967296 = 4294967295 - q := by omega
    have b1 : 0 ≤ p ∧ p ≤ 2147483647 := by omega
    have b2 : 0 ≤ q ∧ q ≤ 4294967295 := by omega
    rw [hp, hq] at hC
    rw [e1, e2]
    have HC := Aside.mk hC
    clear hC hp hq e1 e2
    go_enter Try.func138, Try.ntmps138
    go_wp2_with fail
    refine (HC.out _).mono ?_
    rintro e w1 ⟨rfl, rfl⟩
    go_wp2_with fail
    exact bodyPost_ret (by simp [results, Try.results138, go_sem]) rfl ⟨rfl, by (repeat (with_reducible refine Fr.alloc ?_ _)); exact Fr.refl _ _⟩
theorem set2_0 {W : World} {g : Nat} {a b x : Value} {t : TypeId} {fr : Nat × Nat} (h : W.heap[g]? = some (.cells #[a, b] t fr)) : (W.setCell ⟨g, 0, none⟩ x).heap[g]? = some (.cells #[x, b] t fr) := heap_setCell_same h x
theorem set2_1 {W : World} {g : Nat} {a b x : Value} {t : TypeId} {fr : Nat × Nat} (h : W.heap[g]? = some (.cells #[a, b] t fr)) : (W.setCell ⟨g, 1, none⟩ x).heap[g]? = some (.cells #[a, x] t fr) := heap_setCell_same h x
theorem fits_iff (x : Int) : fits x = true ↔ InI64 x := by simp [fits, InI64]
set_option maxRecDepth 100000 in
set_option maxHeartbeats 2000000 in
theorem rsum_calls (A : Option Addr) (cap : Nat) (l : List Int) (w : World) (hr : Reads cellI 1 w A l.length l) (hl : l.length < 1000) (hb : ∀ x ∈ l, InI64 x) :
    Calls Try.prog 122 #[.slice A l.length cap] w fun e w' => e = .returned (.tuple #[.int .i64 (if InI64 (total l) then total l else 0), .bool (decide (InI64 (total l)))]) ∧ Fr (w.heap.size ≤ ·) w w' := by
  have HR := Aside.mk hr
  have HB := Aside.mk hb
  clear hr hb
  generalize hv : (if InI64 (total l) then total l else 0) = v
  generalize hv2 : decide (InI64 (total l)) = v2
  have HV := Aside.mk hv
  have HV2 := Aside.mk hv2
  clear hv hv2
  go_enter Try.func122, Try.ntmps122
  go_wp2_with fail
  go_loopw [5] (fun i wr => ∃ (k : Nat) (hi lo : Int), k ≤ l.length ∧ i = .int .i64 k ∧ Aside (wr.heap[w.heap.size]? = some (.cells #[.int .i64 hi, .int .i64 lo] 195 (0, 0))) ∧ Aside (total (l.take k) = hi * 4294967296 + lo) ∧ 0 ≤ lo ∧ lo < 4294967296 ∧ -2147483649 * (k : Int) ≤ hi ∧ hi ≤ 2147483648 * (k : Int) ∧ Aside (Fr (w.heap.size ≤ ·) w wr)) (fun i _ => l.length - (intOf i).toNat)
  case atStart => exact ⟨0, 0, 0, Nat.zero_le _, rfl, ⟨blk_new _ rfl⟩, ⟨rfl⟩, by omega, by omega, by omega, by omega, ⟨(Fr.refl _ w).alloc _⟩⟩
  case round =>
    obtain ⟨k, hi, lo, hk, rfl, HT, HS, hl0, hl1, hh0, hh1, HF⟩ := hrel
    have hbl := blk_lt HT.out
    have c0 : wr.cell? ⟨w.heap.size, 0, none⟩ = some (.int .i64 hi) := by rw [cell_of HT.out]; rfl
    have c1 : wr.cell? ⟨w.heap.size, 1, none⟩ = some (.int .i64 lo) := by rw [cell_of HT.out]; rfl
    by_cases hlt : k < l.length
    · obtain ⟨ad, hA, hc0, _⟩ := (HR.out.up cellI_len (by decide) HF.out).at_ (by decide) k hlt
      have hin := HB.out _ (List.getElem_mem hlt)
      have HN := Aside.mk (take_snoc l k hlt)
      rw [Nat.mul_one] at hc0
      generalize l[k] = x at hc0 hin HN
      simp only [cellI, List.getElem?_cons_zero] at hc0
      subst hA
      have hC := fun W => halves_calls x hin W
      have hx1 : -2147483648 ≤ x / 4294967296 ∧ x / 4294967296 ≤ 2147483647 := by unfold InI64 at hin; omega
      have hx2 : 0 ≤ x % 4294967296 ∧ x % 4294967296 < 4294967296 := by omega
      have hx3 : x = x / 4294967296 * 4294967296 + x % 4294967296 := by omega
      generalize x / 4294967296 = p at *
      generalize x % 4294967296 = q at *
      have HX := Aside.mk hx3
      have HC := Aside.mk hC
      clear hC hx3 hin
      have hbk : (k : Int) ≤ 1000 := by omega
      by_cases hcarry : lo + q < 4294967296
      · go_wp2_with (go_at_call 138; refine (HC.out _).mono ?_; rintro e w2 ⟨rfl, hf⟩; have HT2 := Aside.mk (hf.obj HT.out (by omega)); have hb2 := blk_lt HT2.out; have d0 : w2.cell? ⟨w.heap.size, 0, none⟩ = some (.int .i64 hi) := (by rw [cell_of HT2.out]; rfl); have d1 : w2.cell? ⟨w.heap.size, 1, none⟩ = some (.int .i64 lo) := (by rw [cell_of HT2.out]; rfl); have hz := free_of HT2.out; have HF2 := Aside.mk (HF.out.up hf); clear hf)
        go_roundw
        case rel =>
          refine ⟨k + 1, hi + p, lo + q, by omega, by go_num, ⟨?_⟩, ⟨?_⟩, by omega, by omega, by omega, by omega, ⟨?_⟩⟩
          · exact blk_old (set2_1 (set2_0 HT2.out)) _
          · rw [HN.out, total_append, total_one, HS.out, HX.out]; omega
          · exact (((HF2.out.set _ _ (Nat.le_refl _) _).set _ _ (Nat.le_refl _) _).alloc _)
        case measure => simp [intOf]; omega
      · go_wp2_with (go_at_call 138; refine (HC.out _).mono ?_; rintro e w2 ⟨rfl, hf⟩; have HT2 := Aside.mk (hf.obj HT.out (by omega)); have hb2 := blk_lt HT2.out; have d0 : w2.cell? ⟨w.heap.size, 0, none⟩ = some (.int .i64 hi) := (by rw [cell_of HT2.out]; rfl); have d1 : w2.cell? ⟨w.heap.size, 1, none⟩ = some (.int .i64 lo) := (by rw [cell_of HT2.out]; rfl); have hz := free_of HT2.out; have HF2 := Aside.mk (HF.out.up hf); clear hf)
        go_roundw
        case rel =>
          refine ⟨k + 1, hi + p + 1, lo + q - 4294967296, by omega, by go_num, ⟨?_⟩, ⟨?_⟩, by omega, by omega, by omega, by omega, ⟨?_⟩⟩
          · exact blk_old (set2_0 (set2_1 (set2_1 (set2_0 HT2.out)))) _
          · rw [HN.out, total_append, total_one, HS.out, HX.out]; omega
          · exact (((((HF2.out.set _ _ (Nat.le_refl _) _).set _ _ (Nat.le_refl _) _).set _ _ (Nat.le_refl _) _).set _ _ (Nat.le_refl _) _).alloc _)
        case measure => simp [intOf]; omega
    · have hke : l.take k = l := List.take_of_length_le (by omega)
      have hS := HS.out
      rw [hke] at hS
      have HS2 := Aside.mk hS
      clear hS hke
      by_cases hfit : -2147483648 ≤ hi ∧ hi ≤ 2147483647
      · obtain ⟨hf1, hf2⟩ := hfit
        go_wp2_with fail
        go_ret2
        have hI : InI64 (total l) := by rw [HS2.out]; unfold InI64; omega
        exact ⟨by rw [← HV.out, ← HV2.out, if_pos hI, decide_eq_true hI, HS2.out]; rfl, HF.out⟩
      · have hI : ¬ InI64 (total l) := by rw [HS2.out]; unfold InI64; omega
        have HI := Aside.mk hI
        clear hI
        by_cases h1 : hi < -2147483648
        · go_wp2_with fail
          go_ret2
          exact ⟨by rw [← HV.out, ← HV2.out, if_neg HI.out, decide_eq_false HI.out]; rfl, HF.out⟩
        · have h2 : 2147483647 < hi := by omega
          go_wp2_with fail
          go_ret2
          exact ⟨by rw [← HV.out, ← HV2.out, if_neg HI.out, decide_eq_false HI.out]; rfl, HF.out⟩
def radd (a b : Int) : Int × Bool := (if InI64 (a + b) then a + b else 0, decide (InI64 (a + b)))
def rsub (a b : Int) : Int × Bool := (if InI64 (a - b) then a - b else 0, decide (InI64 (a - b)))
theorem new_reads (w : World) (l : List Int) : Reads cellI 1 (w.alloc (.cells (flat cellI l).toArray 2)) (some ⟨w.heap.size, 0, none⟩) l.length l ↔ l.length ≤ 9223372036854775807 := by
  constructor
  · exact fun h => h.2.1
  · refine fun hn => ⟨rfl, hn, fun _ => ⟨_, rfl, fun i hi j hj => ?_⟩⟩
    obtain rfl : j = 0 := by omega
    have e : (⟨w.heap.size, 0, none⟩ : Addr).add (i * 1 + 0) = ⟨w.heap.size, i * 1 + 0, none⟩ := by unfold Addr.add; split <;> simp_all
    rw [e, cell_of (blk_new _ rfl), ← flat_get cellI 1 cellI_len l i hi 0 (by decide)]
    simp
theorem radd_calls (a b : Int) (ha : InI64 a) (hb : InI64 b) (w : World) : Calls Try.prog 97 #[.int .i64 a, .int .i64 b] w fun e w' => e = .returned (.tuple #[.int .i64 (radd a b).1, .bool (radd a b).2]) ∧ Fr (w.heap.size ≤ ·) w w' := by
  have hS := rsum_calls (some ⟨w.heap.size, 0, none⟩) 2 [a, b] (w.alloc (.cells #[.int .i64 a, .int .i64 b] 2)) ((new_reads w [a, b]).2 (by simp)) (by simp) (by intro x hx; simp at hx; rcases hx with rfl | rfl <;> assumption)
  have e : total [a, b] = a + b := by simp [total]
  rw [e] at hS
  have hr : radd a b = (if InI64 (a + b) then a + b else 0, decide (InI64 (a + b))) := rfl
  rw [hr]
  generalize (if InI64 (a + b) then a + b else 0) = v at *
  generalize decide (InI64 (a + b)) = v2 at *
  simp only [List.length_cons, List.length_nil, Nat.zero_add, Nat.reduceAdd] at hS
  have HS := Aside.mk hS
  clear hS hr e
  go_enter Try.func97, Try.ntmps97
  go_wp2_with (go_at_call 122; refine HS.out.mono ?_; rintro e w1 ⟨rfl, hf⟩; have HF := Aside.mk (((Fr.refl (w.heap.size ≤ ·) w).alloc _).up hf); clear hf)
  go_ret2
  exact ⟨rfl, HF.out⟩
theorem rsub_calls (a b : Int) (ha : InI64 a) (hb : InI64 b) (w : World) : Calls Try.prog 123 #[.int .i64 a, .int .i64 b] w fun e w' => e = .returned (.tuple #[.int .i64 (rsub a b).1, .bool (rsub a b).2]) ∧ Fr (w.heap.size ≤ ·) w w' := by
  have hr : rsub a b = (if InI64 (a - b) then a - b else 0, decide (InI64 (a - b))) := rfl
  rw [hr]
  clear hr
  by_cases hmin : b < -9223372036854775807
  · have hd : decide (b < -9223372036854775807) = true := decide_eq_true hmin
    have hS := rsum_calls (some ⟨w.heap.size, 0, none⟩) 3 [a, 9223372036854775807, 1] (w.alloc (.cells #[.int .i64 a, .int .i64 9223372036854775807, .int .i64 1] 2)) ((new_reads w [a, 9223372036854775807, 1]).2 (by simp)) (by simp) (by intro x hx; simp at hx; rcases hx with rfl | rfl | rfl; exact ha; (unfold InI64; omega); (unfold InI64; omega))
    have e : total [a, 9223372036854775807, 1] = a - b := by have := hb.1; simp [total]; omega
    rw [e] at hS
    generalize (if InI64 (a - b) then a - b else 0) = v at *
    generalize decide (InI64 (a - b)) = v2 at *
    simp only [List.length_cons, List.length_nil, Nat.zero_add, Nat.reduceAdd] at hS
    have HS := Aside.mk hS
    clear hS e
    go_enter Try.func123, Try.ntmps123
    go_wp2_with (go_at_call 122; refine HS.out.mono ?_; rintro e w1 ⟨rfl, hf⟩; have HF := Aside.mk (((Fr.refl (w.heap.size ≤ ·) w).alloc _).up hf); clear hf)
    go_ret2
    exact ⟨rfl, HF.out⟩
  · have hd : decide (b < -9223372036854775807) = false := decide_eq_false hmin
    have hS := rsum_calls (some ⟨w.heap.size, 0, none⟩) 2 [a, -b] (w.alloc (.cells #[.int .i64 a, .int .i64 (-b)] 2)) ((new_reads w [a, -b]).2 (by simp)) (by simp) (by intro x hx; simp at hx; rcases hx with rfl | rfl; exact ha; (unfold InI64 at *; omega))
    have e : total [a, -b] = a - b := by simp [total]; omega
    rw [e] at hS
    generalize (if InI64 (a - b) then a - b else 0) = v at *
    generalize decide (InI64 (a - b)) = v2 at *
    simp only [List.length_cons, List.length_nil, Nat.zero_add, Nat.reduceAdd] at hS
    have HS := Aside.mk hS
    unfold InI64 at hb
    clear hS e
    go_enter Try.func123, Try.ntmps123
    go_wp2_with (go_at_call 122; refine HS.out.mono ?_; rintro e w1 ⟨rfl, hf⟩; have HF := Aside.mk (((Fr.refl (w.heap.size ≤ ·) w).alloc _).up hf); clear hf)
    go_ret2
    exact ⟨rfl, HF.out⟩
end Go.Proofs.Ytkfoapbjdegdiaa.Own
