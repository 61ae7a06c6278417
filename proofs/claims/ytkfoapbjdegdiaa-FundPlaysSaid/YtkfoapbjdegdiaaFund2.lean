/- fund.by and its function value; Set, Grant, Undo, Settle, Back, Forth, Drop. -/
import Derived.Test.YtkfoapbjdegdiaaFund
namespace Go.Proofs.Ytkfoapbjdegdiaa.Own
open Go.RowKit
attribute [local go_sem ↓] Go.wp_at_zero Go.wp_at_succ

/-- An addition as a value. -/
def OpD.av (o : OpD) : Value := .agg #[.int .u8 o.key.kind, .int .u8 o.key.sku, .int .u8 o.key.ware, .int .i64 o.d]
theorem by_calls (fid : FuncId) (d : Int) (w : World) : Calls Try.prog 49 #[.func (.func fid) #[] #[], .int .i64 d] w fun e w' => e = .returned (.func (.func 87) #[] #[.pointer (some ⟨w.heap.size, 0, none⟩), .pointer (some ⟨w.heap.size + 1, 0, none⟩)]) ∧ w' = (w.alloc (.cells #[.func (.func fid) #[] #[]] 103)).alloc (.cells #[.int .i64 d] 2) := by
  go_enter Try.func49, Try.ntmps49
  go_wp2_with fail
  go_ret
  exact ⟨rfl, rfl⟩
/-- What the function value of by has caught. -/
def Caught (fid : FuncId) (d : Int) (B : Nat) (W : World) : Prop := W.heap[B]? = some (.cells #[.func (.func fid) #[] #[]] 103 (0, 0)) ∧ W.heap[B + 1]? = some (.cells #[.int .i64 d] 2 (0, 0))
set_option maxRecDepth 100000 in
set_option maxHeartbeats 2000000 in
theorem by1_calls {fid : FuncId} {g : FieldD → Int → FieldD × Int} (eg : ∀ args w, (callFunc fid args).run Try.prog w = .ok (.enter fid args) w) (H : FieldFn fid g) (d : Int) (hd : InI64 d) (B : Nat) (w : World) (x : FieldD) (hw : Caught fid d B w) (hx : x.In) :
    Calls Try.prog 87 (#[x.val] ++ #[.pointer (some ⟨B, 0, none⟩), .pointer (some ⟨B + 1, 0, none⟩)]) w fun e w' => e = .returned (.tuple #[(g x d).1.val, .int .i64 (g x d).2]) ∧ Fr (w.heap.size ≤ ·) w w' := by
  have hC := fun W => H x d hx hd W
  generalize g x d = r at *
  obtain ⟨⟨y1, y2, y3, y4, y5, y6⟩, e0⟩ := r
  have hb0 := blk_lt hw.1
  have hb1 := blk_lt hw.2
  have c0 : w.cell? ⟨B, 0, none⟩ = some (.func (.func fid) #[] #[]) := by rw [cell_of hw.1]; rfl
  have c1 : w.cell? ⟨B + 1, 0, none⟩ = some (.int .i64 d) := by rw [cell_of hw.2]; rfl
  obtain ⟨lo, hi, base, inf, sup, value⟩ := x
  simp only [FieldD.val] at hC ⊢
  have HC := Aside.mk hC
  clear hC hw hx hd H
  show Calls _ _ #[_, _, _] _ _
  go_enter Try.func87, Try.ntmps87
  go_wp2_with (refine (HC.out _).mono ?_; rintro e w2 ⟨rfl, hf⟩; have hres : w2.heap[w.heap.size + 1]? = some (.cells fzero.cells.toArray 49 (0, 0)) := hf.obj (blk_new _ (by simp)) (by simp); have hsz := blk_lt hres; obtain ⟨x0, x1, x2, x3, x4, x5⟩ := wholeField _ _ _ hres; have hz := free_of hres; have HRes := Aside.mk hres; have HF := Aside.mk (((Fr.refl (w.heap.size ≤ ·) w).alloc _).alloc _ |>.up hf); clear hres hf)
  exact bodyPost_ret (results_fe Try.results87 _ _ (w.heap.size + 1) _ _ _ rfl (field_put ⟨y1, y2, y3, y4, y5, y6⟩ HRes.out)) rfl ⟨rfl, by (repeat (with_reducible refine Fr.set ?_ _ _ (Nat.le_succ _) _)); exact HF.out⟩
theorem by_how {fid : FuncId} {g : FieldD → Int → FieldD × Int} (eg : ∀ args w, (callFunc fid args).run Try.prog w = .ok (.enter fid args) w) (H : FieldFn fid g) (d : Int) (hd : InI64 d) (B : Nat) :
    How 87 #[.pointer (some ⟨B, 0, none⟩), .pointer (some ⟨B + 1, 0, none⟩)] (fun x => g x d) (Caught fid d B) where
  enter := enters_of Try.func87 (by kernel_rfl) rfl
  keep := fun W W' h hf => ⟨hf.obj h.1 (by have := blk_lt h.1; omega), hf.obj h.2 (by have := blk_lt h.2; omega)⟩
  call := fun W x h hx => by1_calls eg H d hd B W x h hx
def fset (x : FieldD) : FieldD → FieldD × Int := fun was => if fgood x = true then (x, 0) else (was, 12)
def CaughtX (x : FieldD) (B : Nat) (W : World) : Prop := W.heap[B]? = some (.cells x.cells.toArray 49 (0, 0))
set_option maxRecDepth 100000 in
set_option maxHeartbeats 2000000 in
theorem set1_calls (x was : FieldD) (B : Nat) (w : World) (hw : CaughtX x B w) : Calls Try.prog 56 (#[was.val] ++ #[.pointer (some ⟨B, 0, none⟩)]) w fun e w' => e = .returned (.tuple #[(fset x was).1.val, .int .i64 (fset x was).2]) ∧ Fr (w.heap.size ≤ ·) w w' := by
  have hg := fun W => fgood_calls x W
  have hfin : fset x was = if fgood x = true then (x, 0) else (was, 12) := rfl
  rw [hfin]
  clear hfin
  have hbl := blk_lt hw
  have hbl1 : B < w.heap.size + 1 := by omega
  have hbl2 : B < w.heap.size + 1 + 1 := by omega
  have hbl3 : B ≠ w.heap.size := by omega
  have hbl4 : B ≠ w.heap.size + 1 := by omega
  have hbl5 : B ≠ w.heap.size + 1 + 1 := by omega
  obtain ⟨c0, c1, c2, c3, c4, c5⟩ := wholeField _ _ _ hw
  generalize fgood x = b at *
  obtain ⟨lo, hi, base, inf, sup, value⟩ := x
  obtain ⟨y1, y2, y3, y4, y5, y6⟩ := was
  simp only [FieldD.val, FieldD.cells] at hg ⊢
  have HG := Aside.mk hg
  clear hg hw
  show Calls _ _ #[_, _] _ _
  cases b
  all_goals
    go_enter Try.func56, Try.ntmps56
    go_wp2_with (go_at_call 57; refine (HG.out _).mono ?_; rintro e w2 ⟨rfl, rfl⟩)
    exact bodyPost_ret (by simp [results, Try.results56, go_sem]) rfl ⟨rfl, by (repeat (with_reducible refine Fr.alloc ?_ _)); exact Fr.refl _ _⟩
theorem set_how (x : FieldD) (B : Nat) : How 56 #[.pointer (some ⟨B, 0, none⟩)] (fset x) (CaughtX x B) where
  enter := enters_of Try.func56 (by kernel_rfl) rfl
  keep := fun W W' h hf => hf.obj h (by have := blk_lt h; omega)
  call := fun W was h _ => set1_calls x was B W h
/-- change, of any key. -/
theorem change_calls {hid : FuncId} {lb : Array Value} {g : FieldD → FieldD × Int} {Inv : World → Prop} (H : How hid lb g Inv) {p bt bm : Nat} {m : List (KeyD × Value)} {l : List RowD} (k : KeyD) (w : World) (h : FundAt w p bt bm m l) (hi : Inv w) (hin : RowsIn l) :
    Calls Try.prog 48 #[.pointer (some ⟨p, 0, none⟩), k.val, .func (.func hid) #[] lb] w fun e w' => e = .returned (.int .i64 (rdo g l k).2) ∧ ∃ m', FundAt w' p bt bm m' (rdo g l k).1 ∧ Fr (fun x => x = bm ∨ w.heap.size ≤ x) w w' := by
  cases hx : rget l k with
  | some x => exact change_some H k x w h hi (hin.get h.rising hx) hx
  | none =>
    have hr : rdo g l k = (l, 10) := by unfold rdo; rw [hx]
    rw [hr]
    refine (change_none _ k w (fun W hf => ?_)).mono fun e w' ⟨he, hf⟩ => ⟨he, m, h.up hf, hf.mono (fun _ _ h => .inr h)⟩
    have := fget_calls k W (h.up hf)
    rw [hx] at this
    exact this
set_option maxRecDepth 100000 in
set_option maxHeartbeats 2000000 in
theorem fu_grant_gen (pv : Value) (k : KeyD) (d : Int) (w : World) (R : Ending → World → Prop)
    (hC : ∀ W, Fr (w.heap.size ≤ ·) w W → Caught 50 d (w.heap.size + 1) W → Calls Try.prog 48 #[pv, k.val, .func (.func 87) #[] #[.pointer (some ⟨w.heap.size + 1, 0, none⟩), .pointer (some ⟨w.heap.size + 1 + 1, 0, none⟩)]] W fun e w' => (∃ z, e = .returned (.int .i64 z)) ∧ R e w' ∧ ∃ S : Nat → Prop, ¬ S w.heap.size ∧ Fr S W w') :
    Calls Try.prog 18 #[pv, .agg #[.int .u8 k.kind, .int .u8 k.sku, .int .u8 k.ware, .int .i64 d]] w R := by
  obtain ⟨k1, k2, k3⟩ := k
  simp only [KeyD.val] at hC
  have HC := Aside.mk hC
  clear hC
  go_enter Try.func18, Try.ntmps18
  go_wp2_with fail
  generalize hW1 : World.alloc w _ = W1
  have hb1 : W1.heap[w.heap.size]? = some (.cells #[.int .u8 k1, .int .u8 k2, .int .u8 k3, .int .i64 d] 43 (0, 0)) := by rw [← hW1]; exact blk_new _ rfl
  have hs1 : W1.heap.size = w.heap.size + 1 := by rw [← hW1]; simp
  have HF1 : Aside (Fr (w.heap.size ≤ ·) w W1) := ⟨by rw [← hW1]; exact (Fr.refl _ w).alloc _⟩
  have d0 : W1.cell? ⟨w.heap.size, 0, none⟩ = some (.int .u8 k1) := by rw [cell_of hb1]; rfl
  have d1 : W1.cell? ⟨w.heap.size, 1, none⟩ = some (.int .u8 k2) := by rw [cell_of hb1]; rfl
  have d2 : W1.cell? ⟨w.heap.size, 2, none⟩ = some (.int .u8 k3) := by rw [cell_of hb1]; rfl
  have d3 : W1.cell? ⟨w.heap.size, 3, none⟩ = some (.int .i64 d) := by rw [cell_of hb1]; rfl
  have HS1 := Aside.mk hs1
  have hlt : w.heap.size < W1.heap.size := by omega
  clear hW1 hb1 hs1
  go_region_held3 (fun W => W.cell? ⟨w.heap.size, 0, none⟩ = some (.int .u8 k1) ∧ W.cell? ⟨w.heap.size, 1, none⟩ = some (.int .u8 k2) ∧ W.cell? ⟨w.heap.size, 2, none⟩ = some (.int .u8 k3) ∧ W.cell? ⟨w.heap.size, 3, none⟩ = some (.int .i64 d))
    ((refine ⟨?_, ?_, ?_, ?_⟩ <;> (repeat (first | (with_reducible exact d0) | (with_reducible exact d1) | (with_reducible exact d2) | (with_reducible exact d3) | (with_reducible exact f0) | (with_reducible exact f1) | (with_reducible exact f2) | (with_reducible exact f3) | (with_reducible refine cell_drew ?_) | (with_reducible refine cell_alloc_drew ?_ _) | (with_reducible refine cell_alloc ?_ _)))))
    ((first
      | (go_at_call 49; refine (by_calls 50 d _).mono ?_; rintro e w1 ⟨rfl, rfl⟩; have HCa : Aside (Caught 50 d (w.heap.size + 1) ((W1.drew.alloc (.cells #[.func (.func 50) #[] #[]] 103)).alloc (.cells #[.int .i64 d] 2))) := ⟨⟨blk_old (blk_new _ HS1.out.symm) _, blk_new _ (by simp; exact HS1.out.symm)⟩⟩; have HF2 := Aside.mk ((HF1.out.drew.alloc (.cells #[.func (.func 50) #[] #[]] 103)).alloc (.cells #[.int .i64 d] 2)))
      | (go_at_call 48; rw [show W1.heap.size = w.heap.size + 1 from HS1.out]; refine (HC.out _ HF2.out HCa.out).mono ?_; rintro e w2 ⟨⟨z, rfl⟩, hR, S, hS, hf⟩; have f0 := hf.cell (cell_alloc (cell_alloc (cell_drew d0) _) _) hS; have f1 := hf.cell (cell_alloc (cell_alloc (cell_drew d1) _) _) hS; have f2 := hf.cell (cell_alloc (cell_alloc (cell_drew d2) _) _) hS; have f3 := hf.cell (cell_alloc (cell_alloc (cell_drew d3) _) _) hS; have HR := Aside.mk hR; clear hR hf)))
  all_goals go_wp2_with fail
  all_goals exact HR.out
theorem fu_grant_calls {p bt bm : Nat} {m : List (KeyD × Value)} {l : List RowD} (o : OpD) (hd : InI64 o.d) (w : World) (h : FundAt w p bt bm m l) (hin : RowsIn l) :
    Calls Try.prog 18 #[.pointer (some ⟨p, 0, none⟩), o.av] w fun e w' => e = .returned (.int .i64 (rdo (fun x => fgrant x o.d) l o.key).2) ∧ ∃ m', FundAt w' p bt bm m' (rdo (fun x => fgrant x o.d) l o.key).1 ∧ Fr (fun x => x = bm ∨ w.heap.size ≤ x) w w' := by
  refine fu_grant_gen _ o.key o.d w _ (fun W hf hc => ?_)
  refine (change_calls (by_how (enters_of Try.func50 (by kernel_rfl) rfl) grant_fn o.d hd _) o.key W (h.up hf) hc hin).mono fun e w' ⟨he, m', h1, h2⟩ => ⟨⟨_, he⟩, ⟨he, m', h1, ?_⟩, _, ?_, h2⟩
  · exact (hf.mono (fun _ _ h => .inr h)).trans h2 (fun k hk e => by rcases e with e | e; exact .inl e; exact .inr (by have := hf.size; omega))
  · have h3 := h.apart
    have h4 := blk_lt hc.1
    omega
theorem fgrantNil_calls (o : OpD) (w : World) : Calls Try.prog 18 #[.pointer none, o.av] w fun e w' => e = .returned (.int .i64 10) ∧ Fr (w.heap.size ≤ ·) w w' := by
  refine fu_grant_gen _ o.key o.d w _ (fun W hf hc => ?_)
  refine (change_none _ o.key W (fun W2 _ => fgetNil_calls o.key W2)).mono fun e w' ⟨he, h1⟩ => ⟨⟨_, he⟩, ⟨he, hf.up h1⟩, _, ?_, h1⟩
  have h4 := blk_lt hc.1
  omega
set_option maxRecDepth 100000 in
set_option maxHeartbeats 2000000 in
theorem fu_undo_gen (pv : Value) (k : KeyD) (d : Int) (w : World) (R : Ending → World → Prop)
    (hC : ∀ W, Fr (w.heap.size ≤ ·) w W → Caught 62 d (w.heap.size + 1) W → Calls Try.prog 48 #[pv, k.val, .func (.func 87) #[] #[.pointer (some ⟨w.heap.size + 1, 0, none⟩), .pointer (some ⟨w.heap.size + 1 + 1, 0, none⟩)]] W fun e w' => (∃ z, e = .returned (.int .i64 z)) ∧ R e w' ∧ ∃ S : Nat → Prop, ¬ S w.heap.size ∧ Fr S W w') :
    Calls Try.prog 29 #[pv, .agg #[.int .u8 k.kind, .int .u8 k.sku, .int .u8 k.ware, .int .i64 d]] w R := by
  obtain ⟨k1, k2, k3⟩ := k
  simp only [KeyD.val] at hC
  have HC := Aside.mk hC
  clear hC
  go_enter Try.func29, Try.ntmps29
  go_wp2_with fail
  generalize hW1 : World.alloc w _ = W1
  have hb1 : W1.heap[w.heap.size]? = some (.cells #[.int .u8 k1, .int .u8 k2, .int .u8 k3, .int .i64 d] 43 (0, 0)) := by rw [← hW1]; exact blk_new _ rfl
  have hs1 : W1.heap.size = w.heap.size + 1 := by rw [← hW1]; simp
  have HF1 : Aside (Fr (w.heap.size ≤ ·) w W1) := ⟨by rw [← hW1]; exact (Fr.refl _ w).alloc _⟩
  have d0 : W1.cell? ⟨w.heap.size, 0, none⟩ = some (.int .u8 k1) := by rw [cell_of hb1]; rfl
  have d1 : W1.cell? ⟨w.heap.size, 1, none⟩ = some (.int .u8 k2) := by rw [cell_of hb1]; rfl
  have d2 : W1.cell? ⟨w.heap.size, 2, none⟩ = some (.int .u8 k3) := by rw [cell_of hb1]; rfl
  have d3 : W1.cell? ⟨w.heap.size, 3, none⟩ = some (.int .i64 d) := by rw [cell_of hb1]; rfl
  have HS1 := Aside.mk hs1
  have hlt : w.heap.size < W1.heap.size := by omega
  clear hW1 hb1 hs1
  go_region_held3 (fun W => W.cell? ⟨w.heap.size, 0, none⟩ = some (.int .u8 k1) ∧ W.cell? ⟨w.heap.size, 1, none⟩ = some (.int .u8 k2) ∧ W.cell? ⟨w.heap.size, 2, none⟩ = some (.int .u8 k3) ∧ W.cell? ⟨w.heap.size, 3, none⟩ = some (.int .i64 d))
    ((refine ⟨?_, ?_, ?_, ?_⟩ <;> (repeat (first | (with_reducible exact d0) | (with_reducible exact d1) | (with_reducible exact d2) | (with_reducible exact d3) | (with_reducible exact f0) | (with_reducible exact f1) | (with_reducible exact f2) | (with_reducible exact f3) | (with_reducible refine cell_drew ?_) | (with_reducible refine cell_alloc_drew ?_ _) | (with_reducible refine cell_alloc ?_ _)))))
    ((first
      | (go_at_call 49; refine (by_calls 62 d _).mono ?_; rintro e w1 ⟨rfl, rfl⟩; have HCa : Aside (Caught 62 d (w.heap.size + 1) ((W1.drew.alloc (.cells #[.func (.func 62) #[] #[]] 103)).alloc (.cells #[.int .i64 d] 2))) := ⟨⟨blk_old (blk_new _ HS1.out.symm) _, blk_new _ (by simp; exact HS1.out.symm)⟩⟩; have HF2 := Aside.mk ((HF1.out.drew.alloc (.cells #[.func (.func 62) #[] #[]] 103)).alloc (.cells #[.int .i64 d] 2)))
      | (go_at_call 48; rw [show W1.heap.size = w.heap.size + 1 from HS1.out]; refine (HC.out _ HF2.out HCa.out).mono ?_; rintro e w2 ⟨⟨z, rfl⟩, hR, S, hS, hf⟩; have f0 := hf.cell (cell_alloc (cell_alloc (cell_drew d0) _) _) hS; have f1 := hf.cell (cell_alloc (cell_alloc (cell_drew d1) _) _) hS; have f2 := hf.cell (cell_alloc (cell_alloc (cell_drew d2) _) _) hS; have f3 := hf.cell (cell_alloc (cell_alloc (cell_drew d3) _) _) hS; have HR := Aside.mk hR; clear hR hf)))
  all_goals go_wp2_with fail
  all_goals exact HR.out
theorem fu_undo_calls {p bt bm : Nat} {m : List (KeyD × Value)} {l : List RowD} (o : OpD) (hd : InI64 o.d) (w : World) (h : FundAt w p bt bm m l) (hin : RowsIn l) :
    Calls Try.prog 29 #[.pointer (some ⟨p, 0, none⟩), o.av] w fun e w' => e = .returned (.int .i64 (rdo (fun x => (fmove .less .still .still .less) x o.d) l o.key).2) ∧ ∃ m', FundAt w' p bt bm m' (rdo (fun x => (fmove .less .still .still .less) x o.d) l o.key).1 ∧ Fr (fun x => x = bm ∨ w.heap.size ≤ x) w w' := by
  refine fu_undo_gen _ o.key o.d w _ (fun W hf hc => ?_)
  refine (change_calls (by_how (enters_of Try.func62 (by kernel_rfl) rfl) undo_fn o.d hd _) o.key W (h.up hf) hc hin).mono fun e w' ⟨he, m', h1, h2⟩ => ⟨⟨_, he⟩, ⟨he, m', h1, ?_⟩, _, ?_, h2⟩
  · exact (hf.mono (fun _ _ h => .inr h)).trans h2 (fun k hk e => by rcases e with e | e; exact .inl e; exact .inr (by have := hf.size; omega))
  · have h3 := h.apart
    have h4 := blk_lt hc.1
    omega
theorem fundoNil_calls (o : OpD) (w : World) : Calls Try.prog 29 #[.pointer none, o.av] w fun e w' => e = .returned (.int .i64 10) ∧ Fr (w.heap.size ≤ ·) w w' := by
  refine fu_undo_gen _ o.key o.d w _ (fun W hf hc => ?_)
  refine (change_none _ o.key W (fun W2 _ => fgetNil_calls o.key W2)).mono fun e w' ⟨he, h1⟩ => ⟨⟨_, he⟩, ⟨he, hf.up h1⟩, _, ?_, h1⟩
  have h4 := blk_lt hc.1
  omega
set_option maxRecDepth 100000 in
set_option maxHeartbeats 2000000 in
theorem fu_settle_gen (pv : Value) (k : KeyD) (d : Int) (w : World) (R : Ending → World → Prop)
    (hC : ∀ W, Fr (w.heap.size ≤ ·) w W → Caught 99 d (w.heap.size + 1) W → Calls Try.prog 48 #[pv, k.val, .func (.func 87) #[] #[.pointer (some ⟨w.heap.size + 1, 0, none⟩), .pointer (some ⟨w.heap.size + 1 + 1, 0, none⟩)]] W fun e w' => (∃ z, e = .returned (.int .i64 z)) ∧ R e w' ∧ ∃ S : Nat → Prop, ¬ S w.heap.size ∧ Fr S W w') :
    Calls Try.prog 66 #[pv, .agg #[.int .u8 k.kind, .int .u8 k.sku, .int .u8 k.ware, .int .i64 d]] w R := by
  obtain ⟨k1, k2, k3⟩ := k
  simp only [KeyD.val] at hC
  have HC := Aside.mk hC
  clear hC
  go_enter Try.func66, Try.ntmps66
  go_wp2_with fail
  generalize hW1 : World.alloc w _ = W1
  have hb1 : W1.heap[w.heap.size]? = some (.cells #[.int .u8 k1, .int .u8 k2, .int .u8 k3, .int .i64 d] 43 (0, 0)) := by rw [← hW1]; exact blk_new _ rfl
  have hs1 : W1.heap.size = w.heap.size + 1 := by rw [← hW1]; simp
  have HF1 : Aside (Fr (w.heap.size ≤ ·) w W1) := ⟨by rw [← hW1]; exact (Fr.refl _ w).alloc _⟩
  have d0 : W1.cell? ⟨w.heap.size, 0, none⟩ = some (.int .u8 k1) := by rw [cell_of hb1]; rfl
  have d1 : W1.cell? ⟨w.heap.size, 1, none⟩ = some (.int .u8 k2) := by rw [cell_of hb1]; rfl
  have d2 : W1.cell? ⟨w.heap.size, 2, none⟩ = some (.int .u8 k3) := by rw [cell_of hb1]; rfl
  have d3 : W1.cell? ⟨w.heap.size, 3, none⟩ = some (.int .i64 d) := by rw [cell_of hb1]; rfl
  have HS1 := Aside.mk hs1
  have hlt : w.heap.size < W1.heap.size := by omega
  clear hW1 hb1 hs1
  go_region_held3 (fun W => W.cell? ⟨w.heap.size, 0, none⟩ = some (.int .u8 k1) ∧ W.cell? ⟨w.heap.size, 1, none⟩ = some (.int .u8 k2) ∧ W.cell? ⟨w.heap.size, 2, none⟩ = some (.int .u8 k3) ∧ W.cell? ⟨w.heap.size, 3, none⟩ = some (.int .i64 d))
    ((refine ⟨?_, ?_, ?_, ?_⟩ <;> (repeat (first | (with_reducible exact d0) | (with_reducible exact d1) | (with_reducible exact d2) | (with_reducible exact d3) | (with_reducible exact f0) | (with_reducible exact f1) | (with_reducible exact f2) | (with_reducible exact f3) | (with_reducible refine cell_drew ?_) | (with_reducible refine cell_alloc_drew ?_ _) | (with_reducible refine cell_alloc ?_ _)))))
    ((first
      | (go_at_call 49; refine (by_calls 99 d _).mono ?_; rintro e w1 ⟨rfl, rfl⟩; have HCa : Aside (Caught 99 d (w.heap.size + 1) ((W1.drew.alloc (.cells #[.func (.func 99) #[] #[]] 103)).alloc (.cells #[.int .i64 d] 2))) := ⟨⟨blk_old (blk_new _ HS1.out.symm) _, blk_new _ (by simp; exact HS1.out.symm)⟩⟩; have HF2 := Aside.mk ((HF1.out.drew.alloc (.cells #[.func (.func 99) #[] #[]] 103)).alloc (.cells #[.int .i64 d] 2)))
      | (go_at_call 48; rw [show W1.heap.size = w.heap.size + 1 from HS1.out]; refine (HC.out _ HF2.out HCa.out).mono ?_; rintro e w2 ⟨⟨z, rfl⟩, hR, S, hS, hf⟩; have f0 := hf.cell (cell_alloc (cell_alloc (cell_drew d0) _) _) hS; have f1 := hf.cell (cell_alloc (cell_alloc (cell_drew d1) _) _) hS; have f2 := hf.cell (cell_alloc (cell_alloc (cell_drew d2) _) _) hS; have f3 := hf.cell (cell_alloc (cell_alloc (cell_drew d3) _) _) hS; have HR := Aside.mk hR; clear hR hf)))
  all_goals go_wp2_with fail
  all_goals exact HR.out
theorem fu_settle_calls {p bt bm : Nat} {m : List (KeyD × Value)} {l : List RowD} (o : OpD) (hd : InI64 o.d) (w : World) (h : FundAt w p bt bm m l) (hin : RowsIn l) :
    Calls Try.prog 66 #[.pointer (some ⟨p, 0, none⟩), o.av] w fun e w' => e = .returned (.int .i64 (rdo (fun x => (fmove .still .more .more .still) x o.d) l o.key).2) ∧ ∃ m', FundAt w' p bt bm m' (rdo (fun x => (fmove .still .more .more .still) x o.d) l o.key).1 ∧ Fr (fun x => x = bm ∨ w.heap.size ≤ x) w w' := by
  refine fu_settle_gen _ o.key o.d w _ (fun W hf hc => ?_)
  refine (change_calls (by_how (enters_of Try.func99 (by kernel_rfl) rfl) settle_fn o.d hd _) o.key W (h.up hf) hc hin).mono fun e w' ⟨he, m', h1, h2⟩ => ⟨⟨_, he⟩, ⟨he, m', h1, ?_⟩, _, ?_, h2⟩
  · exact (hf.mono (fun _ _ h => .inr h)).trans h2 (fun k hk e => by rcases e with e | e; exact .inl e; exact .inr (by have := hf.size; omega))
  · have h3 := h.apart
    have h4 := blk_lt hc.1
    omega
theorem fsettleNil_calls (o : OpD) (w : World) : Calls Try.prog 66 #[.pointer none, o.av] w fun e w' => e = .returned (.int .i64 10) ∧ Fr (w.heap.size ≤ ·) w w' := by
  refine fu_settle_gen _ o.key o.d w _ (fun W hf hc => ?_)
  refine (change_none _ o.key W (fun W2 _ => fgetNil_calls o.key W2)).mono fun e w' ⟨he, h1⟩ => ⟨⟨_, he⟩, ⟨he, hf.up h1⟩, _, ?_, h1⟩
  have h4 := blk_lt hc.1
  omega
set_option maxRecDepth 100000 in
set_option maxHeartbeats 2000000 in
theorem fu_back_gen (pv : Value) (k : KeyD) (d : Int) (w : World) (R : Ending → World → Prop)
    (hC : ∀ W, Fr (w.heap.size ≤ ·) w W → Caught 100 d (w.heap.size + 1) W → Calls Try.prog 48 #[pv, k.val, .func (.func 87) #[] #[.pointer (some ⟨w.heap.size + 1, 0, none⟩), .pointer (some ⟨w.heap.size + 1 + 1, 0, none⟩)]] W fun e w' => (∃ z, e = .returned (.int .i64 z)) ∧ R e w' ∧ ∃ S : Nat → Prop, ¬ S w.heap.size ∧ Fr S W w') :
    Calls Try.prog 67 #[pv, .agg #[.int .u8 k.kind, .int .u8 k.sku, .int .u8 k.ware, .int .i64 d]] w R := by
  obtain ⟨k1, k2, k3⟩ := k
  simp only [KeyD.val] at hC
  have HC := Aside.mk hC
  clear hC
  go_enter Try.func67, Try.ntmps67
  go_wp2_with fail
  generalize hW1 : World.alloc w _ = W1
  have hb1 : W1.heap[w.heap.size]? = some (.cells #[.int .u8 k1, .int .u8 k2, .int .u8 k3, .int .i64 d] 43 (0, 0)) := by rw [← hW1]; exact blk_new _ rfl
  have hs1 : W1.heap.size = w.heap.size + 1 := by rw [← hW1]; simp
  have HF1 : Aside (Fr (w.heap.size ≤ ·) w W1) := ⟨by rw [← hW1]; exact (Fr.refl _ w).alloc _⟩
  have d0 : W1.cell? ⟨w.heap.size, 0, none⟩ = some (.int .u8 k1) := by rw [cell_of hb1]; rfl
  have d1 : W1.cell? ⟨w.heap.size, 1, none⟩ = some (.int .u8 k2) := by rw [cell_of hb1]; rfl
  have d2 : W1.cell? ⟨w.heap.size, 2, none⟩ = some (.int .u8 k3) := by rw [cell_of hb1]; rfl
  have d3 : W1.cell? ⟨w.heap.size, 3, none⟩ = some (.int .i64 d) := by rw [cell_of hb1]; rfl
  have HS1 := Aside.mk hs1
  have hlt : w.heap.size < W1.heap.size := by omega
  clear hW1 hb1 hs1
  go_region_held3 (fun W => W.cell? ⟨w.heap.size, 0, none⟩ = some (.int .u8 k1) ∧ W.cell? ⟨w.heap.size, 1, none⟩ = some (.int .u8 k2) ∧ W.cell? ⟨w.heap.size, 2, none⟩ = some (.int .u8 k3) ∧ W.cell? ⟨w.heap.size, 3, none⟩ = some (.int .i64 d))
    ((refine ⟨?_, ?_, ?_, ?_⟩ <;> (repeat (first | (with_reducible exact d0) | (with_reducible exact d1) | (with_reducible exact d2) | (with_reducible exact d3) | (with_reducible exact f0) | (with_reducible exact f1) | (with_reducible exact f2) | (with_reducible exact f3) | (with_reducible refine cell_drew ?_) | (with_reducible refine cell_alloc_drew ?_ _) | (with_reducible refine cell_alloc ?_ _)))))
    ((first
      | (go_at_call 49; refine (by_calls 100 d _).mono ?_; rintro e w1 ⟨rfl, rfl⟩; have HCa : Aside (Caught 100 d (w.heap.size + 1) ((W1.drew.alloc (.cells #[.func (.func 100) #[] #[]] 103)).alloc (.cells #[.int .i64 d] 2))) := ⟨⟨blk_old (blk_new _ HS1.out.symm) _, blk_new _ (by simp; exact HS1.out.symm)⟩⟩; have HF2 := Aside.mk ((HF1.out.drew.alloc (.cells #[.func (.func 100) #[] #[]] 103)).alloc (.cells #[.int .i64 d] 2)))
      | (go_at_call 48; rw [show W1.heap.size = w.heap.size + 1 from HS1.out]; refine (HC.out _ HF2.out HCa.out).mono ?_; rintro e w2 ⟨⟨z, rfl⟩, hR, S, hS, hf⟩; have f0 := hf.cell (cell_alloc (cell_alloc (cell_drew d0) _) _) hS; have f1 := hf.cell (cell_alloc (cell_alloc (cell_drew d1) _) _) hS; have f2 := hf.cell (cell_alloc (cell_alloc (cell_drew d2) _) _) hS; have f3 := hf.cell (cell_alloc (cell_alloc (cell_drew d3) _) _) hS; have HR := Aside.mk hR; clear hR hf)))
  all_goals go_wp2_with fail
  all_goals exact HR.out
theorem fu_back_calls {p bt bm : Nat} {m : List (KeyD × Value)} {l : List RowD} (o : OpD) (hd : InI64 o.d) (w : World) (h : FundAt w p bt bm m l) (hin : RowsIn l) :
    Calls Try.prog 67 #[.pointer (some ⟨p, 0, none⟩), o.av] w fun e w' => e = .returned (.int .i64 (rdo (fun x => (fmove .less .still .still .still) x o.d) l o.key).2) ∧ ∃ m', FundAt w' p bt bm m' (rdo (fun x => (fmove .less .still .still .still) x o.d) l o.key).1 ∧ Fr (fun x => x = bm ∨ w.heap.size ≤ x) w w' := by
  refine fu_back_gen _ o.key o.d w _ (fun W hf hc => ?_)
  refine (change_calls (by_how (enters_of Try.func100 (by kernel_rfl) rfl) back_fn o.d hd _) o.key W (h.up hf) hc hin).mono fun e w' ⟨he, m', h1, h2⟩ => ⟨⟨_, he⟩, ⟨he, m', h1, ?_⟩, _, ?_, h2⟩
  · exact (hf.mono (fun _ _ h => .inr h)).trans h2 (fun k hk e => by rcases e with e | e; exact .inl e; exact .inr (by have := hf.size; omega))
  · have h3 := h.apart
    have h4 := blk_lt hc.1
    omega
theorem fbackNil_calls (o : OpD) (w : World) : Calls Try.prog 67 #[.pointer none, o.av] w fun e w' => e = .returned (.int .i64 10) ∧ Fr (w.heap.size ≤ ·) w w' := by
  refine fu_back_gen _ o.key o.d w _ (fun W hf hc => ?_)
  refine (change_none _ o.key W (fun W2 _ => fgetNil_calls o.key W2)).mono fun e w' ⟨he, h1⟩ => ⟨⟨_, he⟩, ⟨he, hf.up h1⟩, _, ?_, h1⟩
  have h4 := blk_lt hc.1
  omega
set_option maxRecDepth 100000 in
set_option maxHeartbeats 2000000 in
theorem fu_forth_gen (pv : Value) (k : KeyD) (d : Int) (w : World) (R : Ending → World → Prop)
    (hC : ∀ W, Fr (w.heap.size ≤ ·) w W → Caught 101 d (w.heap.size + 1) W → Calls Try.prog 48 #[pv, k.val, .func (.func 87) #[] #[.pointer (some ⟨w.heap.size + 1, 0, none⟩), .pointer (some ⟨w.heap.size + 1 + 1, 0, none⟩)]] W fun e w' => (∃ z, e = .returned (.int .i64 z)) ∧ R e w' ∧ ∃ S : Nat → Prop, ¬ S w.heap.size ∧ Fr S W w') :
    Calls Try.prog 68 #[pv, .agg #[.int .u8 k.kind, .int .u8 k.sku, .int .u8 k.ware, .int .i64 d]] w R := by
  obtain ⟨k1, k2, k3⟩ := k
  simp only [KeyD.val] at hC
  have HC := Aside.mk hC
  clear hC
  go_enter Try.func68, Try.ntmps68
  go_wp2_with fail
  generalize hW1 : World.alloc w _ = W1
  have hb1 : W1.heap[w.heap.size]? = some (.cells #[.int .u8 k1, .int .u8 k2, .int .u8 k3, .int .i64 d] 43 (0, 0)) := by rw [← hW1]; exact blk_new _ rfl
  have hs1 : W1.heap.size = w.heap.size + 1 := by rw [← hW1]; simp
  have HF1 : Aside (Fr (w.heap.size ≤ ·) w W1) := ⟨by rw [← hW1]; exact (Fr.refl _ w).alloc _⟩
  have d0 : W1.cell? ⟨w.heap.size, 0, none⟩ = some (.int .u8 k1) := by rw [cell_of hb1]; rfl
  have d1 : W1.cell? ⟨w.heap.size, 1, none⟩ = some (.int .u8 k2) := by rw [cell_of hb1]; rfl
  have d2 : W1.cell? ⟨w.heap.size, 2, none⟩ = some (.int .u8 k3) := by rw [cell_of hb1]; rfl
  have d3 : W1.cell? ⟨w.heap.size, 3, none⟩ = some (.int .i64 d) := by rw [cell_of hb1]; rfl
  have HS1 := Aside.mk hs1
  have hlt : w.heap.size < W1.heap.size := by omega
  clear hW1 hb1 hs1
  go_region_held3 (fun W => W.cell? ⟨w.heap.size, 0, none⟩ = some (.int .u8 k1) ∧ W.cell? ⟨w.heap.size, 1, none⟩ = some (.int .u8 k2) ∧ W.cell? ⟨w.heap.size, 2, none⟩ = some (.int .u8 k3) ∧ W.cell? ⟨w.heap.size, 3, none⟩ = some (.int .i64 d))
    ((refine ⟨?_, ?_, ?_, ?_⟩ <;> (repeat (first | (with_reducible exact d0) | (with_reducible exact d1) | (with_reducible exact d2) | (with_reducible exact d3) | (with_reducible exact f0) | (with_reducible exact f1) | (with_reducible exact f2) | (with_reducible exact f3) | (with_reducible refine cell_drew ?_) | (with_reducible refine cell_alloc_drew ?_ _) | (with_reducible refine cell_alloc ?_ _)))))
    ((first
      | (go_at_call 49; refine (by_calls 101 d _).mono ?_; rintro e w1 ⟨rfl, rfl⟩; have HCa : Aside (Caught 101 d (w.heap.size + 1) ((W1.drew.alloc (.cells #[.func (.func 101) #[] #[]] 103)).alloc (.cells #[.int .i64 d] 2))) := ⟨⟨blk_old (blk_new _ HS1.out.symm) _, blk_new _ (by simp; exact HS1.out.symm)⟩⟩; have HF2 := Aside.mk ((HF1.out.drew.alloc (.cells #[.func (.func 101) #[] #[]] 103)).alloc (.cells #[.int .i64 d] 2)))
      | (go_at_call 48; rw [show W1.heap.size = w.heap.size + 1 from HS1.out]; refine (HC.out _ HF2.out HCa.out).mono ?_; rintro e w2 ⟨⟨z, rfl⟩, hR, S, hS, hf⟩; have f0 := hf.cell (cell_alloc (cell_alloc (cell_drew d0) _) _) hS; have f1 := hf.cell (cell_alloc (cell_alloc (cell_drew d1) _) _) hS; have f2 := hf.cell (cell_alloc (cell_alloc (cell_drew d2) _) _) hS; have f3 := hf.cell (cell_alloc (cell_alloc (cell_drew d3) _) _) hS; have HR := Aside.mk hR; clear hR hf)))
  all_goals go_wp2_with fail
  all_goals exact HR.out
theorem fu_forth_calls {p bt bm : Nat} {m : List (KeyD × Value)} {l : List RowD} (o : OpD) (hd : InI64 o.d) (w : World) (h : FundAt w p bt bm m l) (hin : RowsIn l) :
    Calls Try.prog 68 #[.pointer (some ⟨p, 0, none⟩), o.av] w fun e w' => e = .returned (.int .i64 (rdo (fun x => (fmove .more .still .still .still) x o.d) l o.key).2) ∧ ∃ m', FundAt w' p bt bm m' (rdo (fun x => (fmove .more .still .still .still) x o.d) l o.key).1 ∧ Fr (fun x => x = bm ∨ w.heap.size ≤ x) w w' := by
  refine fu_forth_gen _ o.key o.d w _ (fun W hf hc => ?_)
  refine (change_calls (by_how (enters_of Try.func101 (by kernel_rfl) rfl) forth_fn o.d hd _) o.key W (h.up hf) hc hin).mono fun e w' ⟨he, m', h1, h2⟩ => ⟨⟨_, he⟩, ⟨he, m', h1, ?_⟩, _, ?_, h2⟩
  · exact (hf.mono (fun _ _ h => .inr h)).trans h2 (fun k hk e => by rcases e with e | e; exact .inl e; exact .inr (by have := hf.size; omega))
  · have h3 := h.apart
    have h4 := blk_lt hc.1
    omega
theorem fforthNil_calls (o : OpD) (w : World) : Calls Try.prog 68 #[.pointer none, o.av] w fun e w' => e = .returned (.int .i64 10) ∧ Fr (w.heap.size ≤ ·) w w' := by
  refine fu_forth_gen _ o.key o.d w _ (fun W hf hc => ?_)
  refine (change_none _ o.key W (fun W2 _ => fgetNil_calls o.key W2)).mono fun e w' ⟨he, h1⟩ => ⟨⟨_, he⟩, ⟨he, hf.up h1⟩, _, ?_, h1⟩
  have h4 := blk_lt hc.1
  omega
set_option maxRecDepth 100000 in
set_option maxHeartbeats 2000000 in
theorem fu_drop_gen (pv : Value) (k : KeyD) (d : Int) (w : World) (R : Ending → World → Prop)
    (hC : ∀ W, Fr (w.heap.size ≤ ·) w W → Caught 102 d (w.heap.size + 1) W → Calls Try.prog 48 #[pv, k.val, .func (.func 87) #[] #[.pointer (some ⟨w.heap.size + 1, 0, none⟩), .pointer (some ⟨w.heap.size + 1 + 1, 0, none⟩)]] W fun e w' => (∃ z, e = .returned (.int .i64 z)) ∧ R e w' ∧ ∃ S : Nat → Prop, ¬ S w.heap.size ∧ Fr S W w') :
    Calls Try.prog 69 #[pv, .agg #[.int .u8 k.kind, .int .u8 k.sku, .int .u8 k.ware, .int .i64 d]] w R := by
  obtain ⟨k1, k2, k3⟩ := k
  simp only [KeyD.val] at hC
  have HC := Aside.mk hC
  clear hC
  go_enter Try.func69, Try.ntmps69
  go_wp2_with fail
  generalize hW1 : World.alloc w _ = W1
  have hb1 : W1.heap[w.heap.size]? = some (.cells #[.int .u8 k1, .int .u8 k2, .int .u8 k3, .int .i64 d] 43 (0, 0)) := by rw [← hW1]; exact blk_new _ rfl
  have hs1 : W1.heap.size = w.heap.size + 1 := by rw [← hW1]; simp
  have HF1 : Aside (Fr (w.heap.size ≤ ·) w W1) := ⟨by rw [← hW1]; exact (Fr.refl _ w).alloc _⟩
  have d0 : W1.cell? ⟨w.heap.size, 0, none⟩ = some (.int .u8 k1) := by rw [cell_of hb1]; rfl
  have d1 : W1.cell? ⟨w.heap.size, 1, none⟩ = some (.int .u8 k2) := by rw [cell_of hb1]; rfl
  have d2 : W1.cell? ⟨w.heap.size, 2, none⟩ = some (.int .u8 k3) := by rw [cell_of hb1]; rfl
  have d3 : W1.cell? ⟨w.heap.size, 3, none⟩ = some (.int .i64 d) := by rw [cell_of hb1]; rfl
  have HS1 := Aside.mk hs1
  have hlt : w.heap.size < W1.heap.size := by omega
  clear hW1 hb1 hs1
  go_region_held3 (fun W => W.cell? ⟨w.heap.size, 0, none⟩ = some (.int .u8 k1) ∧ W.cell? ⟨w.heap.size, 1, none⟩ = some (.int .u8 k2) ∧ W.cell? ⟨w.heap.size, 2, none⟩ = some (.int .u8 k3) ∧ W.cell? ⟨w.heap.size, 3, none⟩ = some (.int .i64 d))
    ((refine ⟨?_, ?_, ?_, ?_⟩ <;> (repeat (first | (with_reducible exact d0) | (with_reducible exact d1) | (with_reducible exact d2) | (with_reducible exact d3) | (with_reducible exact f0) | (with_reducible exact f1) | (with_reducible exact f2) | (with_reducible exact f3) | (with_reducible refine cell_drew ?_) | (with_reducible refine cell_alloc_drew ?_ _) | (with_reducible refine cell_alloc ?_ _)))))
    ((first
      | (go_at_call 49; refine (by_calls 102 d _).mono ?_; rintro e w1 ⟨rfl, rfl⟩; have HCa : Aside (Caught 102 d (w.heap.size + 1) ((W1.drew.alloc (.cells #[.func (.func 102) #[] #[]] 103)).alloc (.cells #[.int .i64 d] 2))) := ⟨⟨blk_old (blk_new _ HS1.out.symm) _, blk_new _ (by simp; exact HS1.out.symm)⟩⟩; have HF2 := Aside.mk ((HF1.out.drew.alloc (.cells #[.func (.func 102) #[] #[]] 103)).alloc (.cells #[.int .i64 d] 2)))
      | (go_at_call 48; rw [show W1.heap.size = w.heap.size + 1 from HS1.out]; refine (HC.out _ HF2.out HCa.out).mono ?_; rintro e w2 ⟨⟨z, rfl⟩, hR, S, hS, hf⟩; have f0 := hf.cell (cell_alloc (cell_alloc (cell_drew d0) _) _) hS; have f1 := hf.cell (cell_alloc (cell_alloc (cell_drew d1) _) _) hS; have f2 := hf.cell (cell_alloc (cell_alloc (cell_drew d2) _) _) hS; have f3 := hf.cell (cell_alloc (cell_alloc (cell_drew d3) _) _) hS; have HR := Aside.mk hR; clear hR hf)))
  all_goals go_wp2_with fail
  all_goals exact HR.out
theorem fu_drop_calls {p bt bm : Nat} {m : List (KeyD × Value)} {l : List RowD} (o : OpD) (hd : InI64 o.d) (w : World) (h : FundAt w p bt bm m l) (hin : RowsIn l) :
    Calls Try.prog 69 #[.pointer (some ⟨p, 0, none⟩), o.av] w fun e w' => e = .returned (.int .i64 (rdo (fun x => (fmove .still .still .still .less) x o.d) l o.key).2) ∧ ∃ m', FundAt w' p bt bm m' (rdo (fun x => (fmove .still .still .still .less) x o.d) l o.key).1 ∧ Fr (fun x => x = bm ∨ w.heap.size ≤ x) w w' := by
  refine fu_drop_gen _ o.key o.d w _ (fun W hf hc => ?_)
  refine (change_calls (by_how (enters_of Try.func102 (by kernel_rfl) rfl) drop_fn o.d hd _) o.key W (h.up hf) hc hin).mono fun e w' ⟨he, m', h1, h2⟩ => ⟨⟨_, he⟩, ⟨he, m', h1, ?_⟩, _, ?_, h2⟩
  · exact (hf.mono (fun _ _ h => .inr h)).trans h2 (fun k hk e => by rcases e with e | e; exact .inl e; exact .inr (by have := hf.size; omega))
  · have h3 := h.apart
    have h4 := blk_lt hc.1
    omega
theorem fdropNil_calls (o : OpD) (w : World) : Calls Try.prog 69 #[.pointer none, o.av] w fun e w' => e = .returned (.int .i64 10) ∧ Fr (w.heap.size ≤ ·) w w' := by
  refine fu_drop_gen _ o.key o.d w _ (fun W hf hc => ?_)
  refine (change_none _ o.key W (fun W2 _ => fgetNil_calls o.key W2)).mono fun e w' ⟨he, h1⟩ => ⟨⟨_, he⟩, ⟨he, hf.up h1⟩, _, ?_, h1⟩
  have h4 := blk_lt hc.1
  omega
set_option maxRecDepth 100000 in
set_option maxHeartbeats 2000000 in
theorem fset_gen (pv : Value) (k : KeyD) (x : FieldD) (w : World) (R : Ending → World → Prop)
    (hC : ∀ W, Fr (w.heap.size ≤ ·) w W → CaughtX x (w.heap.size + 1) W → Calls Try.prog 48 #[pv, k.val, .func (.func 56) #[] #[.pointer (some ⟨w.heap.size + 1, 0, none⟩)]] W fun e w' => (∃ z, e = .returned (.int .i64 z)) ∧ R e w') :
    Calls Try.prog 23 #[pv, k.val, x.val] w R := by
  obtain ⟨k1, k2, k3⟩ := k
  obtain ⟨y1, y2, y3, y4, y5, y6⟩ := x
  simp only [KeyD.val, FieldD.val] at hC ⊢
  have HC := Aside.mk hC
  clear hC
  go_enter Try.func23, Try.ntmps23
  go_wp2_with (go_at_call 48; refine (HC.out _ (((Fr.refl _ w).alloc _).alloc _) (blk_new _ (by simp))).mono ?_; rintro e w2 ⟨⟨z, rfl⟩, hR⟩; have HR := Aside.mk hR; clear hR)
  exact HR.out
theorem fset_calls {p bt bm : Nat} {m : List (KeyD × Value)} {l : List RowD} (k : KeyD) (x : FieldD) (w : World) (h : FundAt w p bt bm m l) (hin : RowsIn l) :
    Calls Try.prog 23 #[.pointer (some ⟨p, 0, none⟩), k.val, x.val] w fun e w' => e = .returned (.int .i64 (rdo (fset x) l k).2) ∧ ∃ m', FundAt w' p bt bm m' (rdo (fset x) l k).1 ∧ Fr (fun x => x = bm ∨ w.heap.size ≤ x) w w' := by
  refine fset_gen _ k x w _ (fun W hf hc => ?_)
  refine (change_calls (set_how x _) k W (h.up hf) hc hin).mono fun e w' ⟨he, m', h1, h2⟩ => ⟨⟨_, he⟩, he, m', h1, ?_⟩
  exact (hf.mono (fun _ _ h => .inr h)).trans h2 (fun k hk e => by rcases e with e | e; exact .inl e; exact .inr (by have := hf.size; omega))
theorem fsetNil_calls (k : KeyD) (x : FieldD) (w : World) : Calls Try.prog 23 #[.pointer none, k.val, x.val] w fun e w' => e = .returned (.int .i64 10) ∧ Fr (w.heap.size ≤ ·) w w' := by
  refine fset_gen _ k x w _ (fun W hf hc => ?_)
  exact (change_none _ k W (fun W2 _ => fgetNil_calls k W2)).mono fun e w' ⟨he, h1⟩ => ⟨⟨_, he⟩, he, hf.up h1⟩
end Go.Proofs.Ytkfoapbjdegdiaa.Own
