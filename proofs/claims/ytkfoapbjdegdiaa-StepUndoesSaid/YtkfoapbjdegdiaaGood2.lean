/- step.atWare, pledgelaw12.few, step.Undo, step.Good. -/
import Derived.Test.YtkfoapbjdegdiaaGood
import Derived.Test.YtkfoapbjdegdiaaNet
import Derived.Test.YtkfoapbjdegdiaaCmp
import Derived.BigQuiet
import Derived.Lib.QuietBelow
namespace Go.Proofs.Ytkfoapbjdegdiaa.Own
open Go.RowKit

theorem good_below (skus wares : Int) (k : KeyD) (h0 : 0 ≤ k.sku ∧ k.sku < 256) (h1 : 0 ≤ k.ware ∧ k.ware < 256) (w : World) : Calls Try.prog 28 #[.int .i64 skus, .int .i64 wares, .agg #[.int .u8 k.kind, .int .u8 k.sku, .int .u8 k.ware]] w fun e w' => e = .returned (.bool (keyGood skus wares k)) ∧ Below w.heap.size w w' :=
  (good_calls skus wares k h0 h1 w).mono fun _ _ ⟨h, h'⟩ => ⟨h, by rw [h']; exact ((Fr.refl (fun _ => False) w).alloc _).below (Nat.le_refl _) (fun _ _ h => h)⟩
theorem atWare_calls (tag : Int) (w : World) : Calls Try.prog 59 #[.int .u8 tag] w fun e w' => (∃ b, e = .returned (.bool b)) ∧ w' = w := by
  go_enter Try.func59, Try.ntmps59
  go_wp2_with fail
  all_goals (go_ret; exact ⟨⟨_, rfl⟩, rfl⟩)
def stepVal (tag ware : Int) (A : Option Addr) (n cap : Nat) : Value := .agg #[.int .u8 tag, .int .u8 ware, .slice A n cap]
theorem few_calls (tag ware : Int) (A : Option Addr) (n cap : Nat) (w : World) : Calls Try.prog 25 #[stepVal tag ware A n cap] w fun e w' => e = .returned (.bool (decide (n ≤ 20))) ∧ Fr (w.heap.size ≤ ·) w w' := by
  unfold stepVal
  go_enter Try.func25, Try.ntmps25
  go_wp2_with fail
  go_ret
  refine ⟨congrArg (fun b => Ending.returned (.bool b)) ?_, (Fr.refl _ w).alloc _⟩
  rw [Bool.eq_iff_iff]; simp; omega
theorem opsOf_d (tag ware : Int) (items : List LineD) (hq : ∀ x ∈ items, x.qty ≤ 9223372036854775807) : ∀ o ∈ opsOf tag ware items, -9223372036854775808 < o.d ∧ o.d ≤ 9223372036854775807 := by
  intro o ho
  obtain ⟨x, hx, hy⟩ := List.mem_flatMap.1 ho
  have := hq x hx
  unfold onItem at hy
  (repeat' split at hy) <;> simp only [List.mem_cons, List.not_mem_nil, or_false] at hy <;> (try rcases hy with rfl | rfl) <;> (try subst hy) <;> simp only [opAt] <;> omega
theorem undo_calls (tag ware : Int) (A : Option Addr) (cap : Nat) (items : List LineD) (w : World) (hr : Reads LineD.cells 2 w A items.length items) (hlen : items.length < 10000) (hq : ∀ x ∈ items, x.qty ≤ 9223372036854775807) :
    Calls Try.prog 26 #[stepVal tag ware A items.length cap] w fun e w' => ∃ v, e = .returned v ∧ OpRow w' w.heap.size v (negs (opsOf tag ware items)) ∧ Fr (w.heap.size ≤ ·) w w' := by
  unfold stepVal
  have hO := ops_calls tag ware A cap items (w.alloc (.cells #[.int .u8 tag, .int .u8 ware, .slice A items.length cap] 27)) (hr.up LineD.len (by decide) ((Fr.refl _ w).alloc _)) (by omega) hq
  have hl := opsOf_len tag ware items
  have HD := Aside.mk (opsOf_d tag ware items hq)
  have HO := Aside.mk hO
  clear hO hr hq
  go_enter Try.func26, Try.ntmps26
  go_wp2_with (first
    | (go_at_call 12; refine HO.out.mono ?_; rintro e w1 ⟨v, rfl, hrow, hb⟩; have HB := Aside.mk hb; obtain ⟨oA, ocap, rfl, _, hrd, _⟩ := reads_own (by decide) OpD.len hrow; have HR := Aside.mk hrd; clear hrow hb hrd)
    | (go_at_call 58; refine (neg_calls _ _ _ _ HR.out (by omega) HD.out).mono ?_; rintro e w2 ⟨v2, rfl, hrow2, hf2⟩; have HRow := Aside.mk hrow2; have HF := Aside.mk hf2; clear hrow2 hf2))
  go_ret
  have hb := HB.out
  have hs := hb.size
  simp at hs
  exact ⟨_, rfl, own_lower HRow.out (by omega), (((Fr.refl (w.heap.size ≤ ·) w).alloc _).trans (Fr.ofBelow hb) (fun k _ e => by simp at e; omega)).trans HF.out (fun k _ e => by omega)⟩
def ItemsGood (skus wares ware : Int) (items : List LineD) (n : Nat) : Prop :=
  ∀ j (h : j < items.length), j < n → 1 ≤ items[j].qty ∧ (∀ i, (hi : i + 1 = j) → (items[i]'(by omega)).sku < items[j].sku) ∧ keyGood skus wares ⟨1, items[j].sku, ware⟩ = true
theorem ItemsGood.next {skus wares ware : Int} {items : List LineD} {n : Nat} (h : ItemsGood skus wares ware items n) (hn : n < items.length) (h1 : 1 ≤ items[n].qty) (h2 : ∀ i, (hi : i + 1 = n) → (items[i]'(by omega)).sku < items[n].sku) (h3 : keyGood skus wares ⟨1, items[n].sku, ware⟩ = true) : ItemsGood skus wares ware items (n + 1) := by
  intro j hj hjn
  by_cases e : j = n
  · subst e; exact ⟨h1, h2, h3⟩
  · exact h j hj (by omega)
def StepFine (skus wares tag ware : Int) (items : List LineD) : Prop := 1 ≤ tag ∧ tag ≤ 8 ∧ 1 ≤ items.length ∧ items.length ≤ 3 ∧ ItemsGood skus wares ware items items.length
set_option maxRecDepth 100000 in
set_option maxHeartbeats 4000000 in
theorem sgood_calls (skus wares tag ware : Int) (A : Option Addr) (cap : Nat) (items : List LineD) (w : World) (hr : Reads LineD.cells 2 w A items.length items) (hlen : items.length < 10000) (hs : ∀ x ∈ items, 0 ≤ x.sku ∧ x.sku < 256) (hw : 0 ≤ ware ∧ ware < 256) :
    Calls Try.prog 27 #[.int .i64 skus, .int .i64 wares, stepVal tag ware A items.length cap] w fun e w' => (e = .returned (.bool false) ∧ Fr (w.heap.size ≤ ·) w w') ∨ (e = .returned (.bool true) ∧ StepFine skus wares tag ware items ∧ Fr (w.heap.size ≤ ·) w w') := by
  unfold stepVal
  have HR := Aside.mk hr
  have HS := Aside.mk hs
  clear hr hs
  go_enter Try.func27, Try.ntmps27
  go_wp2_with (go_at_call 59; refine (atWare_calls _ _).mono ?_; rintro e w' ⟨⟨b, rfl⟩, rfl⟩)
  any_goals (go_ret; exact .inl ⟨rfl, (Fr.refl _ w).alloc _⟩)
  all_goals
    have HT : Aside (1 ≤ tag ∧ tag ≤ 8 ∧ 1 ≤ items.length ∧ items.length ≤ 3) := ⟨by omega⟩
    try clear ‹(((1 ≤ tag ∧ tag ≤ 8) ∧ 1 ≤ (items.length : Int)) ∧ (items.length : Int) ≤ 3) ∧ (ware != 0) = false›
    go_loopw [43] (fun i wr => ∃ k : Nat, k ≤ items.length ∧ i = .int .i64 k ∧ Aside (wr.heap[w.heap.size]? = some (.cells #[.int .u8 tag, .int .u8 ware, .slice A items.length cap] 27 (0, 0))) ∧ Aside (Fr (w.heap.size ≤ ·) w wr) ∧ Aside (ItemsGood skus wares ware items k)) (fun i _ => items.length - (intOf i).toNat)
    case atStart => exact ⟨0, Nat.zero_le _, rfl, ⟨blk_new _ rfl⟩, ⟨(Fr.refl _ w).alloc _⟩, ⟨fun j _ h => by omega⟩⟩
    case round =>
      obtain ⟨k, hk, rfl, HB, HF, HG⟩ := hrel
      by_cases hlt : k < items.length
      · obtain ⟨ad, hA, hc0, hc'⟩ := (HR.out.up LineD.len (by decide) HF.out).at_ (by decide) k hlt
        have hc1 := hc' 1 (by decide) (by decide)
        have hsk := HS.out _ (List.getElem_mem hlt)
        have HN := Aside.mk (fun (h1 : 1 ≤ items[k].qty) h2 h3 => HG.out.next hlt h1 h2 h3)
        have hprev : k = 0 ∨ ∃ k' pv, k = k' + 1 ∧ wr.cell? (ad.add (k' * 2)) = some (.int .u8 pv) ∧ Aside (∀ i, (hi : i + 1 = k) → (items[i]'(by omega)).sku = pv) := by
          cases k with
          | zero => exact .inl rfl
          | succ k' =>
            obtain ⟨ad', hA', hp0, _⟩ := (HR.out.up LineD.len (by decide) HF.out).at_ (by decide) k' (by omega)
            obtain rfl : ad = ad' := Option.some.inj (hA.symm.trans hA')
            exact .inr ⟨k', (items[k']'(by omega)).sku, rfl, hp0, ⟨fun i hi => by cases hi; rfl⟩⟩
        generalize items[k] = x at *
        obtain ⟨sku, qty⟩ := x
        simp only [LineD.cells, List.getElem?_cons_zero, List.getElem?_cons_succ] at hc0 hc1
        dsimp only at hsk
        subst hA
        have hlw := blk_lt HB.out
        obtain ⟨wX, hwX⟩ : ∃ wX, wr.alloc (.cells #[.int .u8 sku, .int .i64 qty] 79) = wX := ⟨_, rfl⟩
        have hf2 : Fr (fun _ => False) wr wX := by rw [← hwX]; exact (Fr.refl _ wr).alloc _
        have hX : wX.heap[wr.heap.size]? = some (.cells #[.int .u8 sku, .int .i64 qty] 79 (0, 0)) := by rw [← hwX]; exact blk_new _ rfl
        have hB2 := hf2.obj HB.out (fun h => h)
        have x0 := cell_of hX 0
        have x1 := cell_of hX 1
        have b1 := cell_of hB2 1
        have b2 := cell_of hB2 2
        simp only [List.getElem?_toArray, List.getElem?_cons_succ, List.getElem?_cons_zero] at x0 x1 b1 b2
        have y0 := cell_regrown x0
        have y1 := cell_regrown x1
        have y2 := cell_regrown b1
        have y3 := cell_regrown b2
        have HF2 := Aside.mk hf2
        clear hX hB2 hc'
        have HFin : Aside (∀ d os, Fr (w.heap.size ≤ ·) w (Go.Sort.grow (redrawn wX d) os)) := ⟨fun d os => (HF.out.trans hf2 (fun _ _ h => h.elim)).trans (Fr.ofBelow (below_regrown wX d os)) (fun k _ e => by have := hf2.size; omega)⟩
        have HBin : Aside (∀ d os, (Go.Sort.grow (redrawn wX d) os).heap[w.heap.size]? = some (.cells #[.int .u8 tag, .int .u8 ware, .slice (some ad) items.length cap] 27 (0, 0))) := ⟨fun d os => (Fr.ofBelow (below_regrown wX d os)).obj (hf2.obj HB.out (fun h => h)) (by have := hf2.size; omega)⟩
        clear hf2
        by_cases hq : qty < 1
        · have hqd : decide (qty < 1) = true := decide_eq_true hq
          clear hprev
          go_wp2_with fail
          refine wp_region_quiet_below (by kernel_rfl) (by kernel_rfl) ?_
          repeat (go_big_quiet_step (fail))
          refine wpQuiet_nil ?_
          intro w3 hw3
          obtain ⟨p, rfl⟩ := hw3
          go_wp2_with fail
          go_ret
          exact .inl ⟨rfl, HFin.out _ _⟩
        · have hqd : decide (qty < 1) = false := decide_eq_false hq
          have hq1 : 1 ≤ qty := by omega
          rcases hprev with hk0 | ⟨k', pv, hk1, hp0, HP⟩
          · have HN2 := Aside.mk (HN.out hq1 (fun i hi => by omega))
            have hkd : decide ((0 : Int) < (k : Int)) = false := decide_eq_false (by omega)
            have hkn : decide (0 < k) = false := decide_eq_false (by omega)
            clear hk0
            go_wp2_with fail
            refine wp_region_quiet_below (by kernel_rfl) (by kernel_rfl) ?_
            repeat (go_big_quiet_step ((go_at_call 28; exact Calls.regrown_of (good_below skus wares ⟨1, sku, ware⟩ hsk hw _))))
            refine wpQuiet_nil ?_
            intro w3 hw3
            obtain ⟨p, rfl⟩ := hw3
            go_wp2_with fail
            · go_ret
              exact .inl ⟨rfl, HFin.out _ _⟩
            · go_roundw
              case rel => exact ⟨k + 1, by omega, by go_num, ⟨HBin.out _ _⟩, ⟨HFin.out _ _⟩, ⟨HN2.out (by simpa using (show (!keyGood skus wares ⟨1, sku, ware⟩) = false by assumption))⟩⟩
              case measure => simp [intOf]; omega
          · have hkd : decide ((0 : Int) < (k : Int)) = true := decide_eq_true (by omega)
            have hkn : decide (0 < k) = true := decide_eq_true (by omega)
            have hsub : (k : Int) - 1 = (k' : Int) := by omega
            have hkl : (k' : Int) < (items.length : Int) := by omega
            have y4 := cell_regrown (HF2.out.cell hp0 (fun h => h))
            by_cases hps : pv < sku
            · have HN2 := Aside.mk (HN.out hq1 (fun i hi => by rw [HP.out i hi]; exact hps))
              have hpd : decide (sku ≤ pv) = false := decide_eq_false (by omega)
              clear hk1 hp0
              go_wp2_with fail
              refine wp_region_quiet_below (by kernel_rfl) (by kernel_rfl) ?_
              repeat (go_big_quiet_step ((go_at_call 28; exact Calls.regrown_of (good_below skus wares ⟨1, sku, ware⟩ hsk hw _))))
              refine wpQuiet_nil ?_
              intro w3 hw3
              obtain ⟨p, rfl⟩ := hw3
              go_wp2_with fail
              · go_ret
                exact .inl ⟨rfl, HFin.out _ _⟩
              · go_roundw
                case rel => exact ⟨k + 1, by omega, by go_num, ⟨HBin.out _ _⟩, ⟨HFin.out _ _⟩, ⟨HN2.out (by simpa using (show (!keyGood skus wares ⟨1, sku, ware⟩) = false by assumption))⟩⟩
                case measure => simp [intOf]; omega
            · have hpd : decide (sku ≤ pv) = true := decide_eq_true (by omega)
              clear hk1 hp0
              go_wp2_with fail
              refine wp_region_quiet_below (by kernel_rfl) (by kernel_rfl) ?_
              repeat (go_big_quiet_step (fail))
              refine wpQuiet_nil ?_
              intro w3 hw3
              obtain ⟨p, rfl⟩ := hw3
              go_wp2_with fail
              go_ret
              exact .inl ⟨rfl, HFin.out _ _⟩
      · have hke : k = items.length := by omega
        have HG2 := HG.out
        rw [hke] at HG2
        have HG3 := Aside.mk HG2
        clear HG2 hke
        go_wp2_with fail
        go_ret
        exact .inr ⟨rfl, ⟨HT.out.1, HT.out.2.1, HT.out.2.2.1, HT.out.2.2.2, HG3.out⟩, HF.out⟩
end Go.Proofs.Ytkfoapbjdegdiaa.Own
