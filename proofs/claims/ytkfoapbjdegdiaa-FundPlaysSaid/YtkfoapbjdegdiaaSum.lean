/- calc.Sum: the sum of 64-bit numbers in 128 bits, as a contract; math/bits.Add64 by the model's entry. -/
import Derived.Test.YtkfoapbjdegdiaaBase
import Derived.Laws.Externs
import Derived.WalkKit
import Derived.WalkSpells
namespace Go.Proofs.Ytkfoapbjdegdiaa.Own
open Go.RowKit

theorem add64 (x y c : Int) (hx : 0 ≤ x) (hy : 0 ≤ y) (hc0 : 0 ≤ c) (hc : c ≤ 1) (w : World) : (callFunc 85 #[.int .u64 x, .int .u64 y, .int .u64 c]).run Try.prog w =
    .ok (.value (.tuple #[.int .u64 ((x + y + c) % 18446744073709551616), .int .u64 ((x + y + c) / 18446744073709551616)])) w := by
  rw [run_callFunc_extern Try.func85 (by kernel_rfl) (by kernel_rfl) (by kernel_rfl) (e := add64Entry) (by kernel_rfl), run_add64 x y c (by omega) (by omega) (by omega) (by omega)]
  rfl
theorem add64_0 (x y : Int) (hx : 0 ≤ x) (hy : 0 ≤ y) (w : World) : (callFunc 85 #[.int .u64 x, .int .u64 y, .int .u64 0]).run Try.prog w =
    .ok (.value (.tuple #[.int .u64 ((x + y) % 18446744073709551616), .int .u64 ((x + y) / 18446744073709551616)])) w := by
  simpa using add64 x y 0 hx hy (Int.le_refl 0) (by decide) w

/-- May a number be of 64 bits? -/
def fits (s : Int) : Bool := decide (-9223372036854775808 ≤ s ∧ s ≤ 9223372036854775807)
def total (l : List Int) : Int := l.foldr (· + ·) 0
theorem total_append (l m : List Int) : total (l ++ m) = total l + total m := by
  induction l with
  | nil => simp [total]
  | cons a l ih => simp only [total, List.cons_append, List.foldr_cons] at ih ⊢; omega
theorem total_one (a : Int) : total [a] = a := by simp [total]
def InI64 (x : Int) : Prop := -9223372036854775808 ≤ x ∧ x ≤ 9223372036854775807
instance (x : Int) : Decidable (InI64 x) := by unfold InI64; infer_instance
theorem total_bound (l : List Int) (h : ∀ x ∈ l, InI64 x) : -9223372036854775808 * (l.length : Int) ≤ total l ∧ total l ≤ 9223372036854775808 * (l.length : Int) := by
  induction l with
  | nil => simp [total]
  | cons a l ih =>
    have h1 := h a (List.mem_cons_self)
    have h2 := ih (fun x hx => h x (List.mem_cons_of_mem _ hx))
    have e : total (a :: l) = a + total l := rfl
    rw [e, List.length_cons]
    unfold InI64 at h1
    omega
def cellI (x : Int) : List Value := [.int .i64 x]
def sumOf (l : List Int) : Int := if fits (total l) = true then total l else 0
theorem hi_step (S a : Int) (h : InI64 a) : ((S / 18446744073709551616) % 18446744073709551616 + (if a < 0 then 18446744073709551615 else 0) + (S % 18446744073709551616 + a % 18446744073709551616) / 18446744073709551616) % 18446744073709551616 = ((S + a) / 18446744073709551616) % 18446744073709551616 := by
  unfold InI64 at h; split <;> omega
theorem lo_step (S a : Int) : (S % 18446744073709551616 + a % 18446744073709551616) % 18446744073709551616 = (S + a) % 18446744073709551616 := by omega

theorem end_wrap (g : Int) (h0 : 0 ≤ g) (h1 : g < 18446744073709551616) : wrap64 g = (if g < 9223372036854775808 then g else g - 18446744073709551616) ∧ IntKind.u64.wrap (wrap64 g / 9223372036854775808) = (if g < 9223372036854775808 then 0 else 18446744073709551615) := by
  have e : wrap64 g = (if g < 9223372036854775808 then g else g - 18446744073709551616) := by simp only [wrap64]; split <;> omega
  refine ⟨e, ?_⟩
  rw [e]
  split
  · rw [show g / 9223372036854775808 = 0 from by omega]; rfl
  · rw [show (g - 18446744073709551616) / 9223372036854775808 = -1 from by omega]; rfl
theorem end_test (S : Int) (hb : -42535295865117307932921825928971026432 ≤ S ∧ S ≤ 42535295865117307932921825928971026432) :
    (IntKind.u64.wrap (wrap64 (S % 18446744073709551616) / 9223372036854775808) == (S / 18446744073709551616) % 18446744073709551616) = fits S ∧ (fits S = true → wrap64 (S % 18446744073709551616) = S) := by
  obtain ⟨e1, e2⟩ := end_wrap (S % 18446744073709551616) (by omega) (by omega)
  rw [e2, e1]
  constructor
  · rw [Bool.eq_iff_iff]; simp only [fits, beq_iff_eq, decide_eq_true_eq]; split <;> omega
  · intro h; simp only [fits, decide_eq_true_eq] at h; split <;> omega

set_option maxRecDepth 100000 in
set_option maxHeartbeats 1000000 in
theorem sum_calls (A0 : Option Addr) (c0 : Nat) (l0 : List Int) (w : World) (hr0 : Reads cellI 1 w A0 l0.length l0) (HL : l0.length < 4611686018427387904) (hb0 : ∀ x ∈ l0, InI64 x) :
    Calls Try.prog 41 #[.slice A0 l0.length c0] w fun e w' => e = .returned (.tuple #[.int .i64 (sumOf l0), .bool (fits (total l0))]) ∧ w' = w := by
  obtain ⟨r2, hr2⟩ : ∃ r2, fits (total l0) = r2 := ⟨_, rfl⟩
  have H2 := Aside.mk hr2
  have HR := Aside.mk hr0
  have HB := Aside.mk hb0
  clear hr0 hb0
  rw [hr2]
  clear hr2
  go_enter Try.func41, Try.ntmps41
  go_wp2
  go_loop [4, 5, 12] (fun hi lo i => ∃ (k : Nat) (h g : Int), k ≤ l0.length ∧ i = .int .i64 k ∧ hi = .int .u64 h ∧ lo = .int .u64 g ∧ Aside (h = (total (l0.take k) / 18446744073709551616) % 18446744073709551616 ∧ g = total (l0.take k) % 18446744073709551616)) (fun _ _ i => l0.length - (intOf i).toNat)
  case atStart => exact ⟨0, 0, 0, Nat.zero_le _, rfl, rfl, rfl, ⟨by simp [total]⟩⟩
  case round =>
    obtain ⟨k, h, g, hk, rfl, rfl, rfl, HI⟩ := hrel
    have hh : 0 ≤ h ∧ h < 18446744073709551616 := by have := HI.out; omega
    have hgg : 0 ≤ g ∧ g < 18446744073709551616 := by have := HI.out; omega
    by_cases hlt : k < l0.length
    · have hx := HB.out l0[k] (List.getElem_mem hlt)
      obtain ⟨ad, rfl, hcell, _⟩ := HR.out.at_ (by decide) k hlt
      simp only [cellI, List.getElem?_cons_zero, Nat.mul_one] at hcell
      have HN := Aside.mk (List.take_succ_eq_append_getElem hlt)
      generalize l0[k] = x at *
      obtain ⟨hx1, hx2⟩ := hx
      obtain ⟨hh1, hh2⟩ := hh
      obtain ⟨hg1, hg2⟩ := hgg
      have hw1 : 0 ≤ IntKind.u64.wrap x := by show 0 ≤ x % 18446744073709551616; omega
      have hw2 : IntKind.u64.wrap x < 18446744073709551616 := by show x % 18446744073709551616 < _; omega
      have hw3 : 0 ≤ IntKind.u64.wrap (x / 9223372036854775808) := by show 0 ≤ (x / 9223372036854775808) % 18446744073709551616; omega
      have hw4 : IntKind.u64.wrap (x / 9223372036854775808) < 18446744073709551616 := by show (x / 9223372036854775808) % 18446744073709551616 < _; omega
      have hc1 : 0 ≤ (g + IntKind.u64.wrap x) / 18446744073709551616 := by omega
      have hc2 : (g + IntKind.u64.wrap x) / 18446744073709551616 ≤ 1 := by omega
      have HQ : Aside (IntKind.u64.wrap x = x % 18446744073709551616 ∧ IntKind.u64.wrap (x / 9223372036854775808) = if x < 0 then 18446744073709551615 else 0) :=
        ⟨⟨rfl, by show (x / 9223372036854775808) % 18446744073709551616 = _; split <;> omega⟩⟩
      go_wp2_with (first | simp only [add64_0 g (IntKind.u64.wrap x) hg1 hw1] | simp only [add64 h (IntKind.u64.wrap (x / 9223372036854775808)) ((g + IntKind.u64.wrap x) / 18446744073709551616) hh1 hw3 hc1 hc2])
      go_round
      case rel =>
        refine ⟨k + 1, _, _, by omega, by go_num, rfl, rfl, ⟨?_, ?_⟩⟩
        · have e1 := HI.out.1
          have e2 := HI.out.2
          have e3 := HQ.out
          rw [HN.out, total_append, total_one, e3.2, e3.1, e1, e2]
          exact hi_step _ x ⟨hx1, hx2⟩
        · rw [HN.out, total_append, total_one, HQ.out.1, HI.out.2]
          exact lo_step _ x
      case measure => simp [intOf]; omega
    · have HE : Aside (l0.take k = l0) := ⟨List.take_of_length_le (by omega)⟩
      have hb := total_bound l0 HB.out
      have hI := HI.out
      rw [HE.out] at hI
      have hT := end_test (total l0) (by omega)
      rw [← hI.1, ← hI.2] at hT
      rw [H2.out] at hT
      cases r2 with
      | true =>
        have ht := hT.1
        have HS := Aside.mk (hT.2 rfl)
        clear hI hb hT
        go_wp2
        go_ret2
        exact ⟨by rw [sumOf, H2.out, if_pos rfl, ← HS.out]; rfl, rfl⟩
      | false =>
        have ht := hT.1
        clear hI hb hT
        go_wp2
        go_ret2
        exact ⟨by rw [sumOf, H2.out, if_neg (by simp)]; rfl, rfl⟩
end Go.Proofs.Ytkfoapbjdegdiaa.Own
