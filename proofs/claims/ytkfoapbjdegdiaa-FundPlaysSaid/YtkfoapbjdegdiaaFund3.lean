/- fund.Try, fund.New. -/
import Derived.Test.YtkfoapbjdegdiaaFund2
import Derived.Test.YtkfoapbjdegdiaaStep
namespace Go.Proofs.Ytkfoapbjdegdiaa.Own
open Go.RowKit
attribute [local go_sem ↓] Go.wp_at_zero Go.wp_at_succ

/-! ### Numbers stay in their bounds -/
theorem InI64.of {x : Int} (h1 : -9223372036854775808 ≤ x) (h2 : x ≤ 9223372036854775807) : InI64 x := ⟨h1, h2⟩
theorem fgrant_in (f : FieldD) (d : Int) (hf : f.In) (hd : InI64 d) : (fgrant f d).1.In := by
  unfold fgrant
  by_cases h0 : fwrong f d = 0
  · rw [if_neg (by simpa using h0)]
    obtain ⟨hg, h1, h2⟩ := fwrong_zero h0
    have hG := (fgood_iff f).1 hg
    by_cases hn : d < 0
    · simp only [if_pos hn]
      by_cases h3 : InI64 (f.inf + d)
      · rw [if_neg (by simpa using h3)]
        by_cases h4 : f.inf + d < f.lo ∨ f.hi < f.inf + d
        · rw [if_pos h4]; exact hf
        · rw [if_neg h4]
          obtain ⟨i1, i2, i3, i4, i5, i6⟩ := hf
          refine ⟨i1, i2, i3, h3, i5, ?_⟩
          unfold InI64 at *
          dsimp only
          omega
      · rw [if_pos h3]; exact hf
    · simp only [if_neg hn]
      by_cases h3 : InI64 (f.sup + d)
      · rw [if_neg (by simpa using h3)]
        by_cases h4 : f.sup + d < f.lo ∨ f.hi < f.sup + d
        · rw [if_pos h4]; exact hf
        · rw [if_neg h4]
          obtain ⟨i1, i2, i3, i4, i5, i6⟩ := hf
          refine ⟨i1, i2, i3, i4, h3, ?_⟩
          unfold InI64 at *
          dsimp only
          omega
      · rw [if_pos h3]; exact hf
  · rw [if_pos h0]; exact hf
theorem fmove_in (yv yb yn yf : Way) (f : FieldD) (d : Int) (hf : f.In) : (fmove yv yb yn yf f d).1.In := by
  have h := hf
  obtain ⟨i1, i2, i3, i4, i5, i6⟩ := h
  unfold fmove
  by_cases h0 : fwrong f d ≠ 0
  · rw [if_pos h0]; exact hf
  · rw [if_neg h0]
    dsimp only
    generalize (if d < 0 then yf else yn) = a
    generalize (if d < 0 then yn else yf) = b
    by_cases h1 : yv.ok f.value d = true ∧ yb.ok f.base d = true ∧ a.ok f.inf d = true ∧ b.ok f.sup d = true ∧ fgood ⟨f.lo, f.hi, yb.n f.base d, a.n f.inf d, b.n f.sup d, yv.n f.value d⟩ = true
    · rw [if_pos h1]; exact ⟨i1, i2, way_in _ _ _ i3, way_in _ _ _ i4, way_in _ _ _ i5, way_in _ _ _ i6⟩
    · rw [if_neg h1]; exact hf
theorem fset_in (x was : FieldD) (hx : x.In) (hw : was.In) : (fset x was).1.In := by
  unfold fset
  split
  · exact hx
  · exact hw
def rgrant (l : List RowD) (o : OpD) : List RowD × Int := rdo (fun x => fgrant x o.d) l o.key
theorem rgrant_in {l : List RowD} (h : RowsIn l) (hr : Rising l) (o : OpD) (hd : InI64 o.d) : RowsIn (rgrant l o).1 := rdo_in (fun f hf => fgrant_in f o.d hf hd) h hr o.key

/-! ### Try -/
/-- The first error that granting tells. -/
def rtry : List RowD → List OpD → Int
  | _, [] => 0
  | l, o :: os => if (rgrant l o).2 ≠ 0 then (rgrant l o).2 else rtry (rgrant l o).1 os
/-- The rows behind granting, as long as it goes. -/
def rgrants (l : List RowD) (os : List OpD) : List RowD := os.foldl (fun l o => (rgrant l o).1) l
theorem rtry_drop {os : List OpD} {k : Nat} (hk : k < os.length) (l : List RowD) : rtry l (os.drop k) = if (rgrant l os[k]).2 ≠ 0 then (rgrant l os[k]).2 else rtry (rgrant l os[k]).1 (os.drop (k + 1)) := by
  rw [List.drop_eq_getElem_cons hk, rtry]
set_option maxRecDepth 100000 in
set_option maxHeartbeats 2000000 in
theorem ftry_gen (pv : Value) (l : List RowD) (A : Option Addr) (cap : Nat) (os : List OpD) (w : World) (hr : Reads OpD.cells 4 w A os.length os) (hd : ∀ o ∈ os, InI64 o.d) (hi : RowsIn l) (hri : Rising l)
    (hC : Calls Try.prog 16 #[pv] w fun e w' => ∃ p' bt' bm' m', e = .returned (.pointer (some ⟨p', 0, none⟩)) ∧ FundAt w' p' bt' bm' m' l ∧ w.heap.size ≤ p' ∧ w.heap.size ≤ bt' ∧ w.heap.size ≤ bm' ∧ Fr (w.heap.size ≤ ·) w w') :
    Calls Try.prog 17 #[pv, .slice A os.length cap] w fun e w' => e = .returned (.int .i64 (rtry l os)) ∧ Fr (w.heap.size ≤ ·) w w' := by
  have HC := Aside.mk hC
  have HR := Aside.mk hr
  have HD := Aside.mk hd
  have hm := hr.2.1
  have hI0 : Aside (RowsIn l ∧ Rising l) := ⟨hi, hri⟩
  clear hC hr hd hi hri
  go_enter Try.func17, Try.ntmps17
  go_wp2_with (go_at_call 16; refine HC.out.mono ?_; rintro e w1 ⟨p, bt, bm, m0, rfl, hF, hp, hb, hbm, hf⟩; have HF := Aside.mk hF; have HFr := Aside.mk hf; clear hF hf)
  go_loopw [13] (fun i wr => ∃ (k : Nat) (m : List (KeyD × Value)) (l' : List RowD), k ≤ os.length ∧ i = .int .i64 k ∧ Aside (FundAt wr p bt bm m l') ∧ Aside (RowsIn l') ∧ Aside (rtry l os = rtry l' (os.drop k)) ∧ Aside (Fr (w.heap.size ≤ ·) w wr)) (fun i _ => os.length - (intOf i).toNat)
  case atStart => exact ⟨0, m0, l, Nat.zero_le _, rfl, HF, ⟨hI0.out.1⟩, ⟨by simp⟩, HFr⟩
  case round =>
    obtain ⟨k, m, l', hk, rfl, HF2, HI2, HT2, HFr2⟩ := hrel
    by_cases hlt : k < os.length
    · obtain ⟨ad, hA, hc0, hc'⟩ := (HR.out.up OpD.len (by decide) HFr2.out).at_ (by decide) k hlt
      have hc1 := hc' 1 (by decide) (by decide)
      have hc2 := hc' 2 (by decide) (by decide)
      have hc3 := hc' 3 (by decide) (by decide)
      have HN := Aside.mk (rtry_drop hlt l')
      have hdo := HD.out _ (List.getElem_mem hlt)
      clear hc'
      generalize os[k] = x at hc0 hc1 hc2 hc3 HN hdo
      have HIn := Aside.mk (rgrant_in HI2.out HF2.out.rising x hdo)
      have HG := Aside.mk (fun W (h : FundAt W p bt bm m l') => fu_grant_calls x hdo W h HI2.out)
      obtain ⟨⟨k1, k2, k3⟩, d⟩ := x
      simp only [OpD.cells, List.getElem?_cons_zero, List.getElem?_cons_succ] at hc0 hc1 hc2 hc3
      dsimp only [OpD.av] at HG
      subst hA
      clear hdo
      have hgr : rgrant l' ⟨⟨k1, k2, k3⟩, d⟩ = rdo (fun x => fgrant x d) l' ⟨k1, k2, k3⟩ := rfl
      rw [hgr] at HN HIn
      clear hgr
      generalize rdo (fun x => fgrant x d) l' ⟨k1, k2, k3⟩ = r at *
      obtain ⟨l2, e0⟩ := r
      dsimp only at HN HIn HG
      have hbl := HF2.out.apart
      have hsz := HFr2.out.size
      by_cases h0 : e0 = 0
      · subst h0
        have HN2 := Aside.mk (HN.out.trans (if_neg (by simp)))
        clear HN
        go_wp2_with (go_at_call 18; refine (HG.out _ (HF2.out.up ((Fr.refl _ wr).alloc _))).mono ?_; rintro e w3 ⟨rfl, m2, hF3, hf3⟩; have HF3 := Aside.mk hF3; have HFr3 : Aside (Fr (w.heap.size ≤ ·) w w3) := ⟨(HFr2.out.alloc _).trans hf3 (fun k _ e => by rcases e with e | e; omega; (simp at e; omega))⟩; clear hF3 hf3)
        go_roundw
        case rel => exact ⟨k + 1, m2, l2, by omega, by go_num, HF3, HIn, ⟨by rw [HT2.out, HN2.out]⟩, HFr3⟩
        case measure => simp [intOf]; omega
      · have hne : (e0 != 0) = true := bne_iff_ne.2 h0
        have HN2 := Aside.mk (HN.out.trans (if_pos h0))
        clear HN h0
        go_wp2_with (go_at_call 18; refine (HG.out _ (HF2.out.up ((Fr.refl _ wr).alloc _))).mono ?_; rintro e w3 ⟨rfl, m2, hF3, hf3⟩; have HFr3 : Aside (Fr (w.heap.size ≤ ·) w w3) := ⟨(HFr2.out.alloc _).trans hf3 (fun k _ e => by rcases e with e | e; omega; (simp at e; omega))⟩; clear hF3 hf3)
        go_ret
        exact ⟨by rw [HT2.out, HN2.out]; rfl, HFr3.out⟩
    · have hke : os.drop k = [] := List.drop_eq_nil_of_le (by omega)
      have HE : Aside (rtry l os = 0) := ⟨by rw [HT2.out, hke]; rfl⟩
      clear hke
      go_wp2_with fail
      go_ret
      exact ⟨by rw [HE.out]; rfl, HFr2.out⟩
theorem ftry_calls {p bt bm : Nat} {m : List (KeyD × Value)} {l : List RowD} (A : Option Addr) (cap : Nat) (os : List OpD) (w : World) (h : FundAt w p bt bm m l) (hr : Reads OpD.cells 4 w A os.length os) (hd : ∀ o ∈ os, InI64 o.d) (hi : RowsIn l) :
    Calls Try.prog 17 #[.pointer (some ⟨p, 0, none⟩), .slice A os.length cap] w fun e w' => e = .returned (.int .i64 (rtry l os)) ∧ Fr (w.heap.size ≤ ·) w w' :=
  ftry_gen _ l A cap os w hr hd hi h.rising (fcopy_calls w h)
theorem ftryNil_calls (A : Option Addr) (cap : Nat) (os : List OpD) (w : World) (hr : Reads OpD.cells 4 w A os.length os) (hd : ∀ o ∈ os, InI64 o.d) :
    Calls Try.prog 17 #[.pointer none, .slice A os.length cap] w fun e w' => e = .returned (.int .i64 (rtry [] os)) ∧ Fr (w.heap.size ≤ ·) w w' :=
  ftry_gen _ [] A cap os w hr hd (fun _ h => by cases h) List.Pairwise.nil (fcopyNil_calls w)

/-! ### New -/
theorem DeclD.len (d : DeclD) : d.cells.length = 6 := rfl
def DeclD.In (d : DeclD) : Prop := InI64 d.lo ∧ InI64 d.init ∧ InI64 d.hi
def rnew (l : List DeclD) : List RowD := l.foldl (fun r d => if fgood (fnew d) = true then rput r d.key (fnew d) else r) []
theorem rnew_snoc (l : List DeclD) (d : DeclD) : rnew (l ++ [d]) = if fgood (fnew d) = true then rput (rnew l) d.key (fnew d) else rnew l := by simp [rnew, List.foldl_append]
theorem snocInduct {α : Type} {P : List α → Prop} (h0 : P []) (h1 : ∀ l a, P l → P (l ++ [a])) (l : List α) : P l := by
  have : ∀ n, ∀ l : List α, l.length = n → P l := by
    intro n
    induction n with
    | zero => intro l hl; rw [List.length_eq_zero_iff.1 hl]; exact h0
    | succ n ih =>
      intro l hl
      have hne : l ≠ [] := by intro e; subst e; simp at hl
      rw [← List.dropLast_concat_getLast hne]
      exact h1 _ _ (ih _ (by simp [hl]))
  exact this _ l rfl
theorem rnew_all (l : List DeclD) : Rising (rnew l) ∧ (rnew l).length ≤ l.length := by
  refine snocInduct (P := fun l => Rising (rnew l) ∧ (rnew l).length ≤ l.length) ⟨List.Pairwise.nil, by simp [rnew]⟩ (fun l d ⟨h1, h2⟩ => ?_) l
  rw [rnew_snoc]
  split
  · exact ⟨rput_rising h1 _ _, by have := rput_len (rnew l) d.key (fnew d); simp; omega⟩
  · exact ⟨h1, by simp; omega⟩
theorem rnew_in (l : List DeclD) (h : ∀ d ∈ l, d.In) : RowsIn (rnew l) := by
  refine snocInduct (P := fun l => (∀ d ∈ l, d.In) → RowsIn (rnew l)) (fun _ => by intro r hr; simp [rnew] at hr) (fun l d ih hd => ?_) l h
  have h1 := ih (fun d hd' => hd d (List.mem_append_left _ hd'))
  obtain ⟨a, b, c⟩ := hd d (List.mem_append_right _ (List.mem_singleton.2 rfl))
  rw [rnew_snoc]
  split
  · exact h1.put (rnew_all l).1 ⟨a, c, b, b, b, b⟩
  · exact h1
theorem wholeDecl (w : World) (g : Nat) (d : DeclD) (h : w.heap[g]? = some (.cells d.cells.toArray 96 (0, 0))) : w.cell? ⟨g, 0, none⟩ = some (.int .u8 d.key.kind) ∧ w.cell? ⟨g, 1, none⟩ = some (.int .u8 d.key.sku) ∧ w.cell? ⟨g, 2, none⟩ = some (.int .u8 d.key.ware) := by
  refine ⟨?_, ?_, ?_⟩ <;> rw [cell_of h] <;> rfl
set_option maxRecDepth 100000 in
set_option maxHeartbeats 2000000 in
theorem fnew_fund (A : Option Addr) (cap : Nat) (ds : List DeclD) (w : World) (hr : Reads DeclD.cells 6 w A ds.length ds) (hd : ∀ d ∈ ds, d.In) :
    Calls Try.prog 15 #[.slice A ds.length cap] w fun e w' => ∃ p bt bm m, e = .returned (.pointer (some ⟨p, 0, none⟩)) ∧ FundAt w' p bt bm m (rnew ds) ∧ w.heap.size ≤ p ∧ w.heap.size ≤ bt ∧ w.heap.size ≤ bm ∧ Fr (w.heap.size ≤ ·) w w' := by
  have HR := Aside.mk hr
  have HD := Aside.mk hd
  have hm := hr.2.1
  clear hr hd
  go_enter Try.func15, Try.ntmps15
  go_wp2_with (go_at_call 43; refine (tnew_calls _).mono ?_; rintro e w1 ⟨rfl, hT, hf, hs⟩; have HT := Aside.mk hT; have HF := Aside.mk hf; have HS := Aside.mk hs; clear hT hf hs)
  have hs1 : w.heap.size + 1 < w1.heap.size := by have := HS.out; omega
  go_loopw [13] (fun i wr => ∃ (k : Nat) (m : List (KeyD × Value)), k ≤ ds.length ∧ i = .int .i64 k ∧ Aside (FundAt wr w1.heap.size (w.heap.size + 1) w.heap.size m (rnew (ds.take k))) ∧ Aside (Fr (w.heap.size ≤ ·) w wr)) (fun i _ => ds.length - (intOf i).toNat)
  case atStart =>
    refine ⟨0, [], Nat.zero_le _, rfl, ⟨⟨blk_new _ rfl, HT.out.fr ((Fr.refl (fun _ => False) w1).alloc _) (fun h => h) (fun h => h), ?_, ?_⟩⟩, ⟨(HF.out.mono (fun _ _ h => h.elim)).alloc _⟩⟩
    · exact Of.nil
    · exact List.Pairwise.nil
  case round =>
    obtain ⟨k, m, hk, rfl, HF2, HFr2⟩ := hrel
    by_cases hlt : k < ds.length
    · obtain ⟨ad, hA, hc0, hc'⟩ := (HR.out.up DeclD.len (by decide) HFr2.out).at_ (by decide) k hlt
      have hc1 := hc' 1 (by decide) (by decide)
      have hc2 := hc' 2 (by decide) (by decide)
      have hc3 := hc' 3 (by decide) (by decide)
      have hc4 := hc' 4 (by decide) (by decide)
      have hc5 := hc' 5 (by decide) (by decide)
      have hN : rnew (ds.take (k + 1)) = if fgood (fnew ds[k]) = true then rput (rnew (ds.take k)) ds[k].key (fnew ds[k]) else rnew (ds.take k) := by rw [take_snoc ds k hlt, rnew_snoc]
      have HN := Aside.mk hN
      clear hc' hN
      generalize ds[k] = x at hc0 hc1 hc2 hc3 hc4 hc5 HN
      have HC := Aside.mk (fun W => fnew_calls x W)
      generalize rnew (ds.take k) = l at *
      obtain ⟨⟨k1, k2, k3⟩, lo, init, hi⟩ := x
      simp only [DeclD.cells, List.getElem?_cons_zero, List.getElem?_cons_succ] at hc0 hc1 hc2 hc3 hc4 hc5
      simp only [DeclD.val] at HC
      dsimp only at HN
      subst hA
      have hap := HF2.out.apart
      have hsz := HFr2.out.size
      have hbd : (wr.alloc (.cells (DeclD.mk ⟨k1, k2, k3⟩ lo init hi).cells.toArray 96)).heap[wr.heap.size]? = some (.cells (DeclD.mk ⟨k1, k2, k3⟩ lo init hi).cells.toArray 96 (0, 0)) := blk_new _ rfl
      have HB := Aside.mk hbd
      clear hbd
      generalize hx : fnew ⟨⟨k1, k2, k3⟩, lo, init, hi⟩ = x at *
      clear hx
      cases hg : fgood x with
      | false =>
        rw [hg] at HC HN
        simp only [Bool.false_eq_true, if_false, fzero, FieldD.val] at HC HN
        clear hg
        go_wp2_with (go_at_call 44; refine (HC.out _).mono ?_; rintro e w3 ⟨rfl, hf3⟩; have HF3 := Aside.mk (((Fr.refl (wr.heap.size ≤ ·) wr).alloc _).up hf3); clear hf3)
        go_roundw
        case rel => exact ⟨k + 1, m, by omega, by go_num, ⟨by rw [HN.out]; exact HF2.out.up (HF3.out.alloc _)⟩, ⟨(HFr2.out.up HF3.out).alloc _⟩⟩
        case measure => simp [intOf]; omega
      | true =>
        obtain ⟨y1, y2, y3, y4, y5, y6⟩ := x
        rw [hg] at HC HN
        simp only [if_true, FieldD.val] at HC HN
        clear hg
        go_upto_region 7 with (go_at_call 44; refine (HC.out _).mono ?_; rintro e w3 ⟨rfl, hf3⟩; have HF3 := Aside.mk (((Fr.refl (wr.heap.size ≤ ·) wr).alloc _).up hf3); have HB3 := Aside.mk (hf3.obj HB.out (by simp)); clear hf3)
        generalize hW4 : World.alloc w3 _ = W4
        have hF4 : Fr (wr.heap.size ≤ ·) wr W4 := by rw [← hW4]; exact HF3.out.alloc _
        have hK4 : W4.heap[wr.heap.size]? = some (.cells (DeclD.mk ⟨k1, k2, k3⟩ lo init hi).cells.toArray 96 (0, 0)) := by rw [← hW4]; exact blk_old HB3.out _
        have hY4 : W4.heap[w3.heap.size]? = some (.cells (FieldD.mk y1 y2 y3 y4 y5 y6).cells.toArray 49 (0, 0)) := by rw [← hW4]; exact blk_new _ rfl
        have hA4 := HF2.out.up hF4
        have hcc := hA4.cell
        obtain ⟨d0, d1, d2⟩ := wholeDecl _ _ _ hK4
        obtain ⟨c0, c1, c2, c3, c4, c5⟩ := wholeField _ _ _ hY4
        have HA4 := Aside.mk hA4
        have HF4 := Aside.mk hF4
        clear hW4 hF4 hK4 hY4 hA4
        go_still_tail 7, (by kernel_rfl)
        change wpList _ _ _ _ _ W4.drew
        have HT4 := Aside.mk (HA4.out.fr (Fr.drew (Fr.refl (fun _ => False) W4)) (fun h => h) (fun h => h) (fun h => h))
        go_wp2_with (go_at_call 45; refine (tput_calls (w.heap.size + 1) w.heap.size m ⟨k1, k2, k3⟩ ⟨y1, y2, y3, y4, y5, y6⟩ _ HT4.out.tab).mono ?_; rintro e w5 ⟨rfl, hT5, hf5⟩; have HT5 := Aside.mk hT5; have HF5 := Aside.mk hf5; clear hT5 hf5)
        go_roundw
        case rel =>
          have hs := HF4.out.size
          refine ⟨k + 1, mset m ⟨k1, k2, k3⟩ (FieldD.val ⟨y1, y2, y3, y4, y5, y6⟩), by omega, by go_num, ⟨?_⟩, ⟨((HFr2.out.up HF4.out).drew).trans HF5.out (fun k _ e => by rcases e with e | e; omega; (simp at e; omega))⟩⟩
          rw [HN.out]
          exact ⟨HF5.out.obj HT4.out.box (by simp; omega), HT5.out, HT4.out.rows.put HT4.out.tab.map.keys HT4.out.rising _ _, rput_rising HT4.out.rising _ _⟩
        case measure => simp [intOf]; omega
    · have hke : ds.take k = ds := List.take_of_length_le (by omega)
      have HE := HF2.out
      rw [hke] at HE
      have HE2 := Aside.mk HE
      clear hke HE
      go_wp2_with fail
      go_ret
      exact ⟨_, _, _, m, rfl, HE2.out, by omega, by omega, Nat.le_refl _, HFr2.out⟩
end Go.Proofs.Ytkfoapbjdegdiaa.Own
