/- calc.Add, calc.Sub: the sign of '(a ^ s) & (b ^ s)'. -/
import Derived.Test.YtkfoapbjdegdiaaSum
import Derived.Laws.BitsAllLaws
namespace Go.Proofs.Ytkfoapbjdegdiaa.Own
open Go.RowKit

theorem msb_ofInt (x : Int) (h : InI64 x) : (BitVec.ofInt 64 x).msb = decide (x < 0) := by
  rw [BitVec.msb_eq_decide, Bool.eq_iff_iff, decide_eq_true_eq, decide_eq_true_eq, BitVec.toNat_ofInt]
  unfold InI64 at h
  simp only [Nat.reduceSub, Nat.reducePow]
  omega
theorem wrap_neg (b : BitVec 64) : InI64 (IntKind.i64.wrap (b.toNat : Int)) ∧ (IntKind.i64.wrap (b.toNat : Int) < 0 ↔ b.msb = true) := by
  have hb := b.isLt
  rw [BitVec.msb_eq_decide, decide_eq_true_eq]
  rw [IntKind.wrap_i64]
  unfold InI64
  simp only [Nat.reduceSub, Nat.reducePow] at *
  omega
theorem xor_neg (x y : Int) (hx : InI64 x) (hy : InI64 y) : InI64 (bits .xor .i64 x y) ∧ (bits .xor .i64 x y < 0 ↔ ¬ (x < 0 ↔ y < 0)) := by
  have h := wrap_neg (BitVec.ofInt 64 x ^^^ BitVec.ofInt 64 y)
  rw [BitVec.msb_xor, msb_ofInt x hx, msb_ofInt y hy] at h
  refine ⟨h.1, h.2.trans ?_⟩
  by_cases h1 : x < 0 <;> by_cases h2 : y < 0 <;> simp [h1, h2]
theorem and_neg (x y : Int) (hx : InI64 x) (hy : InI64 y) : bits .and .i64 x y < 0 ↔ x < 0 ∧ y < 0 := by
  have h := wrap_neg (BitVec.ofInt 64 x &&& BitVec.ofInt 64 y)
  rw [BitVec.msb_and, msb_ofInt x hx, msb_ofInt y hy] at h
  refine h.2.trans ?_
  by_cases h1 : x < 0 <;> by_cases h2 : y < 0 <;> simp [h1, h2]
/-- a + b runs over just if this is so. -/
theorem add_over (a b : Int) (ha : InI64 a) (hb : InI64 b) : bits .and .i64 (bits .xor .i64 a (IntKind.i64.wrap (a + b))) (bits .xor .i64 b (IntKind.i64.wrap (a + b))) < 0 ↔ ¬ InI64 (a + b) := by
  have hs : InI64 (IntKind.i64.wrap (a + b)) := by rw [IntKind.wrap_i64]; unfold InI64; omega
  rw [and_neg _ _ (xor_neg _ _ ha hs).1 (xor_neg _ _ hb hs).1, (xor_neg _ _ ha hs).2, (xor_neg _ _ hb hs).2]
  rw [IntKind.wrap_i64]
  unfold InI64 at *
  omega
theorem sub_over (a b : Int) (ha : InI64 a) (hb : InI64 b) : bits .and .i64 (bits .xor .i64 a b) (bits .xor .i64 a (IntKind.i64.wrap (a - b))) < 0 ↔ ¬ InI64 (a - b) := by
  have hs : InI64 (IntKind.i64.wrap (a - b)) := by rw [IntKind.wrap_i64]; unfold InI64; omega
  rw [and_neg _ _ (xor_neg _ _ ha hb).1 (xor_neg _ _ ha hs).1, (xor_neg _ _ ha hb).2, (xor_neg _ _ ha hs).2]
  rw [IntKind.wrap_i64]
  unfold InI64 at *
  omega

theorem cadd_calls (a b : Int) (ha : InI64 a) (hb : InI64 b) (w : World) : Calls Try.prog 89 #[.int .i64 a, .int .i64 b] w fun e w' => ((InI64 (a + b) ∧ e = .returned (.tuple #[.int .i64 (a + b), .bool true])) ∨ (¬ InI64 (a + b) ∧ e = .returned (.tuple #[.int .i64 0, .bool false]))) ∧ w' = w := by
  have ho := add_over a b ha hb
  by_cases h : InI64 (a + b)
  · have hw : IntKind.i64.wrap (a + b) = a + b := by rw [IntKind.wrap_i64]; unfold InI64 at h; omega
    rw [hw] at ho
    have hd : decide (bits .and .i64 (bits .xor .i64 a (a + b)) (bits .xor .i64 b (a + b)) < 0) = false := decide_eq_false (fun h' => ho.1 h' h)
    have HH := Aside.mk h
    clear ho h
    go_enter Try.func89, Try.ntmps89
    go_wp2_with fail
    go_ret2
    exact ⟨.inl ⟨HH.out, rfl⟩, rfl⟩
  · obtain ⟨s, hs⟩ : ∃ s, IntKind.i64.wrap (a + b) = s := ⟨_, rfl⟩
    have hs' : wrap64 (a + b) = s := by unfold wrap64; rw [← hs, IntKind.wrap_i64]
    rw [hs] at ho
    have hd := ho.2 h
    have HH := Aside.mk h
    clear ho h
    go_enter Try.func89, Try.ntmps89
    go_wp2_with fail
    go_ret2
    exact ⟨.inr ⟨HH.out, rfl⟩, rfl⟩
theorem csub_calls (a b : Int) (ha : InI64 a) (hb : InI64 b) (w : World) : Calls Try.prog 121 #[.int .i64 a, .int .i64 b] w fun e w' => ((InI64 (a - b) ∧ e = .returned (.tuple #[.int .i64 (a - b), .bool true])) ∨ (¬ InI64 (a - b) ∧ e = .returned (.tuple #[.int .i64 0, .bool false]))) ∧ w' = w := by
  have ho := sub_over a b ha hb
  by_cases h : InI64 (a - b)
  · have hw : IntKind.i64.wrap (a - b) = a - b := by rw [IntKind.wrap_i64]; unfold InI64 at h; omega
    rw [hw] at ho
    have hd : decide (bits .and .i64 (bits .xor .i64 a b) (bits .xor .i64 a (a - b)) < 0) = false := decide_eq_false (fun h' => ho.1 h' h)
    have HH := Aside.mk h
    clear ho h
    go_enter Try.func121, Try.ntmps121
    go_wp2_with fail
    go_ret2
    exact ⟨.inl ⟨HH.out, rfl⟩, rfl⟩
  · obtain ⟨s, hs⟩ : ∃ s, IntKind.i64.wrap (a - b) = s := ⟨_, rfl⟩
    have hs' : wrap64 (a - b) = s := by unfold wrap64; rw [← hs, IntKind.wrap_i64]
    rw [hs] at ho
    have hd := ho.2 h
    have HH := Aside.mk h
    clear ho h
    go_enter Try.func121, Try.ntmps121
    go_wp2_with fail
    go_ret2
    exact ⟨.inr ⟨HH.out, rfl⟩, rfl⟩
end Go.Proofs.Ytkfoapbjdegdiaa.Own
