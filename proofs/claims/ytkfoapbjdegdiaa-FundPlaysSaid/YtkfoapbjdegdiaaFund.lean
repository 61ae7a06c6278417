/- Package fund: what a fund is in memory; all, Get, Keys, Copy, New. -/
import Derived.Test.YtkfoapbjdegdiaaTable2
namespace Go.Proofs.Ytkfoapbjdegdiaa.Own
open Go.RowKit
attribute [local go_sem ↓] Go.wp_at_zero Go.wp_at_succ

/-- A fund: its box, its table, its map; the rows of it. -/
structure FundAt (w : World) (p bt bm : Nat) (m : List (KeyD × Value)) (l : List RowD) : Prop where
  box : w.heap[p]? = some (.cells #[.pointer (some ⟨bt, 0, none⟩)] 94 (0, 0))
  tab : TabIs w bt bm m
  rows : Of m l
  rising : Rising l
theorem FundAt.cell {w : World} {p bt bm : Nat} {m : List (KeyD × Value)} {l : List RowD} (h : FundAt w p bt bm m l) : w.cell? ⟨p, 0, none⟩ = some (.pointer (some ⟨bt, 0, none⟩)) := by rw [cell_of h.box]; rfl
theorem FundAt.fr {S : Nat → Prop} {w w1 : World} {p bt bm : Nat} {m : List (KeyD × Value)} {l : List RowD} (h : FundAt w p bt bm m l) (hf : Fr S w w1) (h0 : ¬ S p) (h1 : ¬ S bt) (h2 : ¬ S bm) : FundAt w1 p bt bm m l := ⟨hf.obj h.box h0, h.tab.fr hf h1 h2, h.rows, h.rising⟩
theorem FundAt.up {w w1 : World} {p bt bm : Nat} {m : List (KeyD × Value)} {l : List RowD} (h : FundAt w p bt bm m l) (hf : Fr (w.heap.size ≤ ·) w w1) : FundAt w1 p bt bm m l :=
  h.fr hf (by have := blk_lt h.box; omega) (by have := blk_lt h.tab.tab; omega) (by have := h.tab.map.lt; omega)
theorem FundAt.apart {w : World} {p bt bm : Nat} {m : List (KeyD × Value)} {l : List RowD} (h : FundAt w p bt bm m l) : p ≠ bm ∧ bt ≠ bm ∧ p < w.heap.size ∧ bt < w.heap.size ∧ bm < w.heap.size := by
  refine ⟨?_, h.tab.ne, blk_lt h.box, blk_lt h.tab.tab, h.tab.map.lt⟩
  rintro rfl
  obtain ⟨es, c, h1, _⟩ := h.tab.map
  have := h.box.symm.trans h1
  simp at this
theorem all_calls (p bt : Nat) (w : World) (h : w.cell? ⟨p, 0, none⟩ = some (.pointer (some ⟨bt, 0, none⟩))) : Calls Try.prog 46 #[.pointer (some ⟨p, 0, none⟩)] w fun e w' => e = .returned (.pointer (some ⟨bt, 0, none⟩)) ∧ w' = w := by
  go_enter Try.func46, Try.ntmps46
  go_wp2_with fail
  go_ret
  exact ⟨rfl, rfl⟩
theorem allNil_calls (w : World) : Calls Try.prog 46 #[.pointer none] w fun e w' => e = .returned (.pointer none) ∧ w' = w := by
  go_enter Try.func46, Try.ntmps46
  go_wp2_with fail
  go_ret
  exact ⟨rfl, rfl⟩
set_option maxRecDepth 100000 in
set_option maxHeartbeats 2000000 in
/-- Get, of whatever table all tells. -/
theorem fget_gen (pv tv : Value) (r : FieldD) (b : Bool) (k : KeyD) (w : World) (hall : ∀ W, Fr (w.heap.size ≤ ·) w W → Calls Try.prog 46 #[pv] W fun e w' => e = .returned tv ∧ w' = W)
    (hget : ∀ W, Fr (w.heap.size ≤ ·) w W → Calls Try.prog 70 #[tv, k.val] W fun e w' => e = .returned (.tuple #[r.val, .bool b]) ∧ Fr (W.heap.size ≤ ·) W w') :
    Calls Try.prog 32 #[pv, k.val] w fun e w' => e = .returned (.tuple #[r.val, .bool b]) ∧ Fr (w.heap.size ≤ ·) w w' := by
  have HA := Aside.mk hall
  obtain ⟨k1, k2, k3⟩ := k
  obtain ⟨lo, hi, base, inf, sup, value⟩ := r
  simp only [KeyD.val, FieldD.val] at hget ⊢
  have HG := Aside.mk hget
  clear hall hget
  go_enter Try.func32, Try.ntmps32
  go_wp2_with fail
  generalize hW1 : World.alloc (World.alloc w _) _ = W1
  have hf1 : Fr (fun _ => False) w W1 := by rw [← hW1]; exact ((Fr.refl _ w).alloc _).alloc _
  have hb1 : W1.heap[w.heap.size]? = some (.cells (KeyD.mk k1 k2 k3).cells.toArray 41 (0, 0)) := by rw [← hW1]; exact blk_old (blk_new _ rfl) _
  have hb2 : W1.heap[w.heap.size + 1]? = some (.cells fzero.cells.toArray 49 (0, 0)) := by rw [← hW1]; exact blk_new _ (by simp)
  obtain ⟨d0, d1, d2⟩ := wholeKey _ _ _ hb1
  have hsz := blk_lt hb2
  have hkn : w.heap.size ≠ w.heap.size + 1 := by omega
  have HB2 := Aside.mk hb2
  have HF1 := Aside.mk (hf1.mono (T := (w.heap.size ≤ ·)) (fun _ _ h => h.elim))
  clear hW1 hb1 hb2 hf1
  go_region_held3 (fun W => W.cell? ⟨w.heap.size, 0, none⟩ = some (.int .u8 k1) ∧ W.cell? ⟨w.heap.size, 1, none⟩ = some (.int .u8 k2) ∧ W.cell? ⟨w.heap.size, 2, none⟩ = some (.int .u8 k3))
    ((refine ⟨?_, ?_, ?_⟩ <;> (repeat (first | (with_reducible exact d0) | (with_reducible exact d1) | (with_reducible exact d2) | (with_reducible exact f0) | (with_reducible exact f1) | (with_reducible exact f2) | (with_reducible refine cell_drew ?_) | (with_reducible refine cell_set ?_ _ _ (by exact hkn) _)))))
    ((first
      | (go_at_call 46; refine (HA.out _ HF1.out.drew).mono ?_; rintro e w1 ⟨rfl, rfl⟩)
      | (go_at_call 70; refine (HG.out _ HF1.out.drew).mono ?_; rintro e w2 ⟨rfl, hf2⟩; have hB := hf2.obj (blk_drew HB2.out) (by show ¬ W1.heap.size ≤ _; omega); obtain ⟨x0, x1, x2, x3, x4, x5⟩ := wholeField _ _ _ hB; have hz := free_of hB; have hsz2 := blk_lt hB; have f0 := hf2.cell (cell_drew d0) (by show ¬ W1.heap.size ≤ w.heap.size; omega); have f1 := hf2.cell (cell_drew d1) (by show ¬ W1.heap.size ≤ w.heap.size; omega); have f2 := hf2.cell (cell_drew d2) (by show ¬ W1.heap.size ≤ w.heap.size; omega); have HB := Aside.mk hB; have HF2 := Aside.mk hf2; clear hB hf2)))
  all_goals go_wp2_with fail
  all_goals exact bodyPost_ret (results_fe Try.results32 _ _ (w.heap.size + 1) _ _ _ rfl (field_put ⟨lo, hi, base, inf, sup, value⟩ HB.out)) rfl ⟨rfl, by (repeat (with_reducible refine Fr.set ?_ _ _ (Nat.le_succ _) _)); exact HF1.out.drew.up HF2.out⟩
theorem fget_calls {p bt bm : Nat} {m : List (KeyD × Value)} {l : List RowD} (k : KeyD) (w : World) (h : FundAt w p bt bm m l) : Calls Try.prog 32 #[.pointer (some ⟨p, 0, none⟩), k.val] w fun e w' => e = .returned (.tuple #[(fromOpt (rget l k)).val, .bool (rget l k).isSome]) ∧ Fr (w.heap.size ≤ ·) w w' :=
  fget_gen _ (.pointer (some ⟨bt, 0, none⟩)) _ _ k w (fun W hf => all_calls p bt W (h.up hf).cell) (fun W hf => tget_calls bt bm m l k W (h.up hf).tab h.rows h.rising)
theorem fgetNil_calls (k : KeyD) (w : World) : Calls Try.prog 32 #[.pointer none, k.val] w fun e w' => e = .returned (.tuple #[fzero.val, .bool false]) ∧ Fr (w.heap.size ≤ ·) w w' :=
  fget_gen _ (.pointer none) _ _ k w (fun W _ => allNil_calls W) (fun W _ => tgetNil_calls k W)
theorem fkeys_calls {p bt bm : Nat} {m : List (KeyD × Value)} {l : List RowD} (w : World) (h : FundAt w p bt bm m l) (hn : l.length < 10000000) : Calls Try.prog 33 #[.pointer (some ⟨p, 0, none⟩)] w fun e w' => ∃ v, e = .returned v ∧ KeyRow w' w.heap.size v (l.map (·.1)) ∧ Fr (w.heap.size ≤ ·) w w' := by
  have HK := Aside.mk (tkeys_calls bt bm m l w h.tab h.rows h.rising hn)
  have hc := h.cell
  clear h
  go_enter Try.func33, Try.ntmps33
  go_wp2_with (first
    | (go_at_call 46; refine (all_calls p bt _ hc).mono ?_; rintro e w' ⟨rfl, rfl⟩)
    | (go_at_call 71; refine HK.out.mono ?_; rintro e w2 ⟨v, rfl, hrow, hf⟩; have HR := Aside.mk (And.intro hrow hf); clear hrow hf))
  go_ret
  exact ⟨_, rfl, HR.out⟩
theorem fkeysNil_calls (w : World) : Calls Try.prog 33 #[.pointer none] w fun e w' => e = .returned (.slice none 0 0) ∧ w' = w := by
  go_enter Try.func33, Try.ntmps33
  go_wp2_with (first
    | (go_at_call 46; refine (allNil_calls _).mono ?_; rintro e w' ⟨rfl, rfl⟩)
    | (go_at_call 71; refine (tkeysNil_calls _).mono ?_; rintro e w2 ⟨rfl, rfl⟩))
  go_ret
  exact ⟨rfl, rfl⟩
theorem fcopy_calls {p bt bm : Nat} {m : List (KeyD × Value)} {l : List RowD} (w : World) (h : FundAt w p bt bm m l) : Calls Try.prog 16 #[.pointer (some ⟨p, 0, none⟩)] w fun e w' => ∃ p' bt' bm' m', e = .returned (.pointer (some ⟨p', 0, none⟩)) ∧ FundAt w' p' bt' bm' m' l ∧ w.heap.size ≤ p' ∧ w.heap.size ≤ bt' ∧ w.heap.size ≤ bm' ∧ Fr (w.heap.size ≤ ·) w w' := by
  have HK := Aside.mk (tcopy_calls bt bm m l w h.tab h.rows h.rising)
  have hr := Aside.mk h.rising
  have hc := h.cell
  clear h
  go_enter Try.func16, Try.ntmps16
  go_wp2_with (first
    | (go_at_call 46; refine (all_calls p bt _ hc).mono ?_; rintro e w' ⟨rfl, rfl⟩)
    | (go_at_call 47; refine HK.out.mono ?_; rintro e w2 ⟨rfl, m', hT, ho, hf⟩; have HR := Aside.mk (And.intro hT (And.intro ho hf)); clear hT ho hf))
  go_ret
  obtain ⟨hT, ho, hf⟩ := HR.out
  exact ⟨_, _, _, m', rfl, ⟨blk_new _ rfl, hT.fr ((Fr.refl (fun _ => False) w2).alloc _) (fun h => h) (fun h => h), ho, hr.out⟩, hf.size, Nat.le_succ _, Nat.le_refl _, hf.alloc _⟩
theorem fcopyNil_calls (w : World) : Calls Try.prog 16 #[.pointer none] w fun e w' => ∃ p' bt' bm' m', e = .returned (.pointer (some ⟨p', 0, none⟩)) ∧ FundAt w' p' bt' bm' m' [] ∧ w.heap.size ≤ p' ∧ w.heap.size ≤ bt' ∧ w.heap.size ≤ bm' ∧ Fr (w.heap.size ≤ ·) w w' := by
  go_enter Try.func16, Try.ntmps16
  go_wp2_with (first
    | (go_at_call 46; refine (allNil_calls _).mono ?_; rintro e w' ⟨rfl, rfl⟩)
    | (go_at_call 47; refine (tcopyNil_calls _).mono ?_; rintro e w2 ⟨rfl, hT, hf⟩; have HR := Aside.mk (And.intro hT hf); clear hT hf))
  go_ret
  obtain ⟨hT, hf⟩ := HR.out
  exact ⟨_, _, _, [], rfl, ⟨blk_new _ rfl, hT.fr ((Fr.refl (fun _ => False) w2).alloc _) (fun h => h) (fun h => h), Of.nil, List.Pairwise.nil⟩, hf.size, Nat.le_succ _, Nat.le_refl _, hf.alloc _⟩
/-- A function value that tells what becomes of a field; Inv: what it has caught. -/
structure How (hid : FuncId) (lb : Array Value) (g : FieldD → FieldD × Int) (Inv : World → Prop) : Prop where
  enter : ∀ args w, (callFunc hid args).run Try.prog w = .ok (.enter hid args) w
  keep : ∀ W W', Inv W → Fr (W.heap.size ≤ ·) W W' → Inv W'
  call : ∀ W (x : FieldD), Inv W → x.In → Calls Try.prog hid (#[x.val] ++ lb) W fun e w' => e = .returned (.tuple #[(g x).1.val, .int .i64 (g x).2]) ∧ Fr (W.heap.size ≤ ·) W w'
set_option maxRecDepth 100000 in
set_option maxHeartbeats 2000000 in
theorem change_none {hid : FuncId} {lb : Array Value} (pv : Value) (k : KeyD) (w : World) (hG : ∀ W, Fr (w.heap.size ≤ ·) w W → Calls Try.prog 32 #[pv, k.val] W fun e w' => e = .returned (.tuple #[fzero.val, .bool false]) ∧ Fr (W.heap.size ≤ ·) W w') :
    Calls Try.prog 48 #[pv, k.val, .func (.func hid) #[] lb] w fun e w' => e = .returned (.int .i64 10) ∧ Fr (w.heap.size ≤ ·) w w' := by
  have HG := Aside.mk hG
  clear hG
  obtain ⟨k1, k2, k3⟩ := k
  simp only [KeyD.val, FieldD.val, fzero] at HG ⊢
  go_enter Try.func48, Try.ntmps48
  go_wp2_with (go_at_call 32; refine (HG.out _ ((Fr.refl _ w).alloc _)).mono ?_; rintro e w2 ⟨rfl, hf2⟩; have HF2 := Aside.mk hf2; clear hf2)
  go_ret
  exact ⟨rfl, (((Fr.refl _ w).alloc _).up HF2.out).alloc _⟩
set_option maxRecDepth 100000 in
set_option maxHeartbeats 2000000 in
theorem change_some {hid : FuncId} {lb : Array Value} {g : FieldD → FieldD × Int} {Inv : World → Prop} (H : How hid lb g Inv) {p bt bm : Nat} {m : List (KeyD × Value)} {l : List RowD} (k : KeyD) (x : FieldD) (w : World) (h : FundAt w p bt bm m l) (hi : Inv w) (hin : x.In) (hx : rget l k = some x) :
    Calls Try.prog 48 #[.pointer (some ⟨p, 0, none⟩), k.val, .func (.func hid) #[] lb] w fun e w' => e = .returned (.int .i64 (rdo g l k).2) ∧ ∃ m', FundAt w' p bt bm m' (rdo g l k).1 ∧ Fr (fun x => x = bm ∨ w.heap.size ≤ x) w w' := by
  have hG := fun W (hf : Fr (w.heap.size ≤ ·) w W) => fget_calls k W (h.up hf)
  rw [hx] at hG
  have hfin : rdo g l k = if (g x).2 = 0 then (rput l k (g x).1, 0) else (l, (g x).2) := by unfold rdo; rw [hx]
  have hC := fun W (hI : Inv W) => H.call W x hI hin
  have hen := H.enter
  generalize g x = r at *
  obtain ⟨y, e0⟩ := r
  rw [hfin]
  have HG := Aside.mk hG
  have HC := Aside.mk hC
  have HH := Aside.mk h
  have HI := Aside.mk hi
  have HK := Aside.mk H.keep
  have hap := h.apart
  clear hG hC h hi H hfin hx hin
  obtain ⟨k1, k2, k3⟩ := k
  obtain ⟨lo, hi, base, inf, sup, value⟩ := x
  obtain ⟨y1, y2, y3, y4, y5, y6⟩ := y
  simp only [KeyD.val, FieldD.val, fromOpt, Option.getD_some, Option.isSome_some] at HG HC ⊢
  by_cases h0 : e0 = 0
  · subst h0
    rw [if_pos rfl]
    go_enter Try.func48, Try.ntmps48
    go_upto_region 6 with (first
      | (go_at_call 32; refine (HG.out _ ((Fr.refl _ w).alloc _)).mono ?_; rintro e w2 ⟨rfl, hf2⟩; have HF2 := Aside.mk (((Fr.refl (w.heap.size ≤ ·) w).alloc _).up hf2); have HB2 := Aside.mk (hf2.obj (blk_new (b := w.heap.size) _ rfl) (by simp)); clear hf2)
      | (refine (HC.out _ (HK.out _ _ HI.out (HF2.out.alloc _))).mono ?_; rintro e w3 ⟨rfl, hf3⟩; have HF3 := Aside.mk ((HF2.out.alloc _).up hf3); have HB3 := Aside.mk (hf3.obj (blk_old HB2.out _) (by have := blk_lt HB2.out; simp; omega)); clear hf3))
    generalize hW4 : World.alloc w3 _ = W4
    have hF4 : Fr (w.heap.size ≤ ·) w W4 := by rw [← hW4]; exact HF3.out.alloc _
    have hK4 : W4.heap[w.heap.size]? = some (.cells (KeyD.mk k1 k2 k3).cells.toArray 41 (0, 0)) := by rw [← hW4]; exact blk_old HB3.out _
    have hY4 : W4.heap[w3.heap.size]? = some (.cells (FieldD.mk y1 y2 y3 y4 y5 y6).cells.toArray 49 (0, 0)) := by rw [← hW4]; exact blk_new _ rfl
    have hA4 := HH.out.up hF4
    have hc4 := hA4.cell
    obtain ⟨d0, d1, d2⟩ := wholeKey _ _ _ hK4
    obtain ⟨c0, c1, c2, c3, c4, c5⟩ := wholeField _ _ _ hY4
    have HA4 := Aside.mk hA4
    have HF4 := Aside.mk hF4
    clear hW4 hF4 hK4 hY4 hA4
    go_still_tail 6, (by kernel_rfl)
    change wpList _ _ _ _ _ W4.drew
    have HT4 := Aside.mk (HA4.out.fr (Fr.drew (Fr.refl (fun _ => False) W4)) (fun h => h) (fun h => h) (fun h => h))
    go_wp2_with (go_at_call 45; refine (tput_calls bt bm m ⟨k1, k2, k3⟩ ⟨y1, y2, y3, y4, y5, y6⟩ _ HT4.out.tab).mono ?_; rintro e w5 ⟨rfl, hT5, hf5⟩; have HT5 := Aside.mk hT5; have HF5 := Aside.mk hf5; clear hT5 hf5)
    go_ret
    have hs := HF4.out.size
    have hf5 := HF5.out
    simp at hf5
    refine ⟨rfl, _, ⟨HF5.out.obj HT4.out.box (by simp; omega), HT5.out, HT4.out.rows.put HT4.out.tab.map.keys HT4.out.rising _ _, rput_rising HT4.out.rising _ _⟩, (HF4.out.drew.mono (fun _ _ h => .inr h)).trans HF5.out (fun k _ e => ?_)⟩
    rcases e with e | e
    · exact .inl e
    · exact .inr (by simp at e; omega)
  · have hne : (e0 == 0) = false := beq_eq_false_iff_ne.2 h0
    rw [if_neg h0]
    have H0 := Aside.mk h0
    clear h0
    go_enter Try.func48, Try.ntmps48
    go_wp2_with (first
      | (go_at_call 32; refine (HG.out _ ((Fr.refl _ w).alloc _)).mono ?_; rintro e w2 ⟨rfl, hf2⟩; have HF2 := Aside.mk (((Fr.refl (w.heap.size ≤ ·) w).alloc _).up hf2); clear hf2)
      | (refine (HC.out _ (HK.out _ _ HI.out (HF2.out.alloc _))).mono ?_; rintro e w3 ⟨rfl, hf3⟩; have HF3 := Aside.mk ((HF2.out.alloc _).up hf3); clear hf3))
    go_ret
    exact ⟨rfl, m, HH.out.up (HF3.out.alloc _), (HF3.out.alloc _).mono (fun _ _ h => .inr h)⟩
end Go.Proofs.Ytkfoapbjdegdiaa.Own
