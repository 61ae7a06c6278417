/- step.Ops: what a step does, as a list of additions; its inner function, that adds one. -/
import Derived.Test.YtkfoapbjdegdiaaBase
namespace Go.Proofs.Ytkfoapbjdegdiaa.Own
open Go.RowKit

theorem infoOp : (Try.prog.info? 43).map (fun i => (i.zero, i.size, i.bytes)) = some (some (.agg #[.int .u8 0, .int .u8 0, .int .u8 0, .int .i64 0]), 4, 16) := by kernel_rfl
def OpRow (w : World) (base : Nat) (v : Value) (l : List OpD) : Prop := w.ownsRow base 43 4 v l.length (flat OpD.cells l)
theorem OpD.len (o : OpD) : o.cells.length = 4 := rfl
theorem OpD.one (o : OpD) : ∀ u ∈ o.cells, u.oneCell' = true := by simp [OpD.cells, Value.oneCell']
def atWare (kind : Int) : Bool := kind == 1 || kind == 2
def opAt (kind sku ware d : Int) : OpD := ⟨⟨kind, sku, if atWare kind then ware else 0⟩, d⟩

set_option maxRecDepth 100000 in
set_option maxHeartbeats 1000000 in
theorem add_calls (kind d sku qty tag ware : Int) (itv : Value) (Bx Bs Bo : Nat) (fr : Nat × Nat) (v : Value) (l : List OpD) (base : Nat) (W : World)
    (hx : W.heap[Bx]? = some (.cells #[.int .u8 sku, .int .i64 qty] 79 fr)) (hs : W.heap[Bs]? = some (.cells #[.int .u8 tag, .int .u8 ware, itv] 27 fr))
    (ho : Boxed W Bo 24 v) (hrow : OpRow W base v l) (hb1 : base ≤ Bo) (hb2 : base ≤ W.heap.size) (hlen : l.length < 1000000) :
    Calls Try.prog 37 #[.int .u8 kind, .int .i64 d, .pointer (some ⟨Bx, 0, none⟩), .pointer (some ⟨Bs, 0, none⟩), .pointer (some ⟨Bo, 0, none⟩)] W fun e W' =>
      e = .returned (.tuple #[]) ∧ ∃ v', Boxed W' Bo 24 v' ∧ OpRow W' base v' (l ++ [opAt kind sku ware d]) ∧ Fr (fun k => k = Bo ∨ some k = v.ownBlock) W W' := by
  have cx0 := cell_of hx 0
  have cs1 := cell_of hs 1
  have co := ho.cell
  simp only [List.getElem?_toArray, List.getElem?_cons_succ, List.getElem?_cons_zero] at cx0 cs1
  have l1 := blk_lt hx
  have l2 := blk_lt hs
  have l3 := ho.lt
  have HX := Aside.mk hx
  have HS := Aside.mk hs
  clear hx hs
  have hr : W.ownsRow base 43 4 v l.length (flat OpD.cells l) := hrow
  clear hrow
  by_cases hk1 : kind = 1
  · subst hk1
    go_enter Try.func37, Try.ntmps37
    go_wp2_with (at_builtin; refine append_one OpD.cells 4 16 _ OpD.len OpD.one (by decide) (by rfl) (by decide) Try.underlying24 infoOp rfl _ _ rfl base v l rfl ((hr.alloc _).alloc _) ⟨⟨1, sku, ware⟩, d⟩ ⟨W.heap.size + 1, 0, none⟩ 1 rfl (cells_new _ _ _ _ (by simp)) (by omega) (by simp; omega) ?_; intro g' cap' w1 hown' hgrow; have hv1 := boxed_after ho (by decide) hr (((Fr.refl _ W).alloc _).alloc _) hgrow; have hco := hv1.cell; have hfo := hv1.frozen)
    go_end0
    obtain ⟨q1, q2, q3⟩ := boxed_done ho (by decide) hr (((Fr.refl _ W).alloc _).alloc _) hgrow hown'
    exact ⟨rfl, _, q1, q2, q3⟩
  by_cases hk2 : kind = 2
  · subst hk2
    clear hk1
    go_enter Try.func37, Try.ntmps37
    go_wp2_with (at_builtin; refine append_one OpD.cells 4 16 _ OpD.len OpD.one (by decide) (by rfl) (by decide) Try.underlying24 infoOp rfl _ _ rfl base v l rfl ((hr.alloc _).alloc _) ⟨⟨2, sku, ware⟩, d⟩ ⟨W.heap.size + 1, 0, none⟩ 1 rfl (cells_new _ _ _ _ (by simp)) (by omega) (by simp; omega) ?_; intro g' cap' w1 hown' hgrow; have hv1 := boxed_after ho (by decide) hr (((Fr.refl _ W).alloc _).alloc _) hgrow; have hco := hv1.cell; have hfo := hv1.frozen)
    go_end0
    obtain ⟨q1, q2, q3⟩ := boxed_done ho (by decide) hr (((Fr.refl _ W).alloc _).alloc _) hgrow hown'
    exact ⟨rfl, _, q1, q2, q3⟩
  · have e : Aside (opAt kind sku ware d = ⟨⟨kind, sku, 0⟩, d⟩) := ⟨by simp [opAt, atWare, hk1, hk2]⟩
    replace hk1 : (kind == 1) = false := beq_eq_false_iff_ne.2 hk1
    replace hk2 : (kind == 2) = false := beq_eq_false_iff_ne.2 hk2
    go_enter Try.func37, Try.ntmps37
    go_wp2_with (at_builtin; refine append_one OpD.cells 4 16 _ OpD.len OpD.one (by decide) (by rfl) (by decide) Try.underlying24 infoOp rfl _ _ rfl base v l rfl ((hr.alloc _).alloc _) ⟨⟨kind, sku, 0⟩, d⟩ ⟨W.heap.size + 1, 0, none⟩ 1 rfl (cells_new _ _ _ _ (by simp)) (by omega) (by simp; omega) ?_; intro g' cap' w1 hown' hgrow; have hv1 := boxed_after ho (by decide) hr (((Fr.refl _ W).alloc _).alloc _) hgrow; have hco := hv1.cell; have hfo := hv1.frozen)
    go_end0
    obtain ⟨q1, q2, q3⟩ := boxed_done ho (by decide) hr (((Fr.refl _ W).alloc _).alloc _) hgrow hown'
    rw [e.out]
    exact ⟨rfl, _, q1, q2, q3⟩
/-- Within a round of step.Ops: its item in a box, the step in a box, and what has been gathered. -/
structure InOps (w : World) (base Bx Bs Bo : Nat) (sku qty tag ware : Int) (itv : Value) (l : List OpD) (W : World) : Prop where
  x : W.heap[Bx]? = some (.cells #[.int .u8 sku, .int .i64 qty] 79 (0, 0))
  s : W.heap[Bs]? = some (.cells #[.int .u8 tag, .int .u8 ware, itv] 27 (0, 0))
  o : ∃ v, Boxed W Bo 24 v ∧ OpRow W base v l
  f : Fr (base ≤ ·) w W
theorem InOps.q {w W : World} {base Bx Bs Bo : Nat} {sku qty tag ware : Int} {itv : Value} {l : List OpD} (h : InOps w base Bx Bs Bo sku qty tag ware itv l W) : W.cell? ⟨Bx, 1, none⟩ = some (.int .i64 qty) := cell_of h.x 1
theorem InOps.t {w W : World} {base Bx Bs Bo : Nat} {sku qty tag ware : Int} {itv : Value} {l : List OpD} (h : InOps w base Bx Bs Bo sku qty tag ware itv l W) : W.cell? ⟨Bs, 0, none⟩ = some (.int .u8 tag) := cell_of h.s 0
theorem add_step {w W : World} {base Bx Bs Bo : Nat} {sku qty tag ware : Int} {itv : Value} {l : List OpD} (h : InOps w base Bx Bs Bo sku qty tag ware itv l W) (hb : base = w.heap.size) (hb1 : base ≤ Bo) (hlen : l.length < 1000000) (kind d : Int) :
    Calls Try.prog 37 #[.int .u8 kind, .int .i64 d, .pointer (some ⟨Bx, 0, none⟩), .pointer (some ⟨Bs, 0, none⟩), .pointer (some ⟨Bo, 0, none⟩)] W fun e W' =>
      e = .returned (.tuple #[]) ∧ InOps w base Bx Bs Bo sku qty tag ware itv (l ++ [opAt kind sku ware d]) W' := by
  obtain ⟨v, ho, hr⟩ := h.o
  refine (add_calls kind d sku qty tag ware itv Bx Bs Bo (0, 0) v l base W h.x h.s ho hr hb1 (by have := h.f.size; omega) hlen).mono ?_
  rintro e W' ⟨rfl, v', ho', hr', hf⟩
  have hne : ∀ (b : Nat) (c : Array Value) (t : TypeId), W.heap[b]? = some (.cells c t (0, 0)) → t ≠ 43 → t ≠ 24 → ¬ (b = Bo ∨ some b = v.ownBlock) := by
    intro b c t hb ht1 ht2 h
    rcases h with rfl | h
    · rw [show W.heap[b]? = _ from ho] at hb; simp at hb; exact ht2 hb.2.symm
    · exact not_row hb ht1 hr h
  refine ⟨rfl, hf.obj h.x (hne _ _ _ h.x (by decide) (by decide)), hf.obj h.s (hne _ _ _ h.s (by decide) (by decide)), ⟨v', ho', hr'⟩, h.f.trans hf ?_⟩
  rintro k _ (rfl | h)
  · exact hb1
  · exact own_ge hr k h

def onItem (tag ware : Int) (x : LineD) : List OpD :=
  if x.qty < 1 then [] else
  if tag = 1 then [opAt 1 x.sku ware (-x.qty), opAt 2 x.sku ware x.qty] else
  if tag = 3 then [opAt 2 x.sku ware (-x.qty), opAt 3 x.sku ware x.qty] else
  if tag = 2 then [opAt 2 x.sku ware (-x.qty), opAt 1 x.sku ware x.qty] else
  if tag = 5 then [opAt 1 x.sku ware x.qty] else
  if tag = 4 then [opAt 3 x.sku ware (-x.qty), opAt 1 x.sku ware x.qty] else
  if tag = 6 then [opAt 1 x.sku ware (-x.qty)] else
  if tag = 7 then [opAt 4 x.sku ware x.qty] else
  if tag = 8 then [opAt 4 x.sku ware (-x.qty)] else []
def opsOf (tag ware : Int) (items : List LineD) : List OpD := items.flatMap (onItem tag ware)
theorem onItem_len (tag ware : Int) (x : LineD) : (onItem tag ware x).length ≤ 2 := by unfold onItem; (repeat' split) <;> simp
theorem opsOf_len (tag ware : Int) (l : List LineD) : (opsOf tag ware l).length ≤ 2 * l.length := by
  induction l with
  | nil => simp [opsOf]
  | cons a l ih => have := onItem_len tag ware a; simp only [opsOf, List.flatMap_cons, List.length_append, List.length_cons] at ih ⊢; omega
theorem take_snoc {α : Type} (l : List α) (k : Nat) (h : k < l.length) : l.take (k + 1) = l.take k ++ [l[k]] := List.take_succ_eq_append_getElem h
theorem opsOf_snoc (tag ware : Int) (l : List LineD) (x : LineD) : opsOf tag ware (l ++ [x]) = opsOf tag ware l ++ onItem tag ware x := by simp [opsOf]
theorem LineD.len (x : LineD) : x.cells.length = 2 := rfl

set_option maxRecDepth 100000 in
set_option maxHeartbeats 4000000 in
theorem ops_calls (tag ware : Int) (A : Option Addr) (cap : Nat) (items : List LineD) (w : World) (hr : Reads LineD.cells 2 w A items.length items) (hlen : items.length < 100000) (hq : ∀ x ∈ items, x.qty ≤ 9223372036854775807) :
    Calls Try.prog 12 #[.agg #[.int .u8 tag, .int .u8 ware, .slice A items.length cap]] w fun e w' =>
      ∃ v, e = .returned v ∧ OpRow w' w.heap.size v (opsOf tag ware items) ∧ Below w.heap.size w w' := by
  have HR := Aside.mk hr
  have HQ := Aside.mk hq
  clear hr hq
  go_enter Try.func12, Try.ntmps12
  go_wp2_with fail
  go_loopw [10] (fun i wr => ∃ k : Nat, k ≤ items.length ∧ i = .int .i64 k ∧ (∃ v, Boxed wr (w.heap.size + 1) 24 v ∧ OpRow wr w.heap.size v (opsOf tag ware (items.take k))) ∧
      Aside (wr.heap[w.heap.size]? = some (.cells #[.int .u8 tag, .int .u8 ware, .slice A items.length cap] 27 (0, 0))) ∧ Aside (Fr (w.heap.size ≤ ·) w wr)) (fun i _ => items.length - (intOf i).toNat)
  case atStart =>
    refine ⟨0, Nat.zero_le _, rfl, ⟨_, blk_new _ (by simp), ?_⟩, ⟨blk_old (blk_new _ rfl) _⟩, ⟨((Fr.refl _ w).alloc _).alloc _⟩⟩
    exact ⟨by simp [opsOf, flat], .inl ⟨rfl, by simp [opsOf]⟩⟩
  case round =>
    obtain ⟨k, hk, rfl, ⟨v, ho, hrow⟩, HS, HF⟩ := hrel
    have hco := ho.cell
    by_cases hlt : k < items.length
    · have hql := HQ.out items[k] (List.getElem_mem hlt)
      have hlo := opsOf_len tag ware (items.take k)
      have hlt' : (items.take k).length ≤ k := List.length_take_le _ _
      have HN := Aside.mk (take_snoc items k hlt)
      obtain ⟨ad, hA, hc0, hc1⟩ := (HR.out.up LineD.len (by decide) HF.out).at_ (by decide) k hlt
      replace hc1 := hc1 1 (by decide) (by decide)
      have hc := cell_of HS.out 0
      generalize items[k] = x at hql hc0 hc1 HN
      obtain ⟨sku, qty⟩ := x
      simp only [LineD.cells, List.getElem?_cons_zero, List.getElem?_cons_succ] at hc0 hc1
      simp only [List.getElem?_toArray, List.getElem?_cons_zero] at hc
      subst hA
      have HI0 : InOps w w.heap.size wr.heap.size w.heap.size (w.heap.size + 1) sku qty tag ware (.slice (some ad) items.length cap) (opsOf tag ware (items.take k)) (wr.alloc (.cells #[.int .u8 sku, .int .i64 qty] 79)) :=
        ⟨blk_new _ rfl, blk_old HS.out _, ⟨v, blk_old ho _, hrow.alloc _⟩, HF.out.alloc _⟩
      have hl1 := blk_lt HS.out
      have hl2 := ho.lt
      have hql' : qty ≤ 9223372036854775807 := hql
      clear hql hco hrow
      by_cases hq0 : qty < 1
      · have HO : Aside (opsOf tag ware (items.take (k + 1)) = opsOf tag ware (items.take k)) := ⟨by rw [HN.out, opsOf_snoc]; simp [onItem, hq0]⟩
        go_wp2_with fail
        go_roundw
        case rel => obtain ⟨v', ho', hr'⟩ := HI0.o; exact ⟨k + 1, by omega, by go_num, ⟨v', ho', by rw [HO.out]; exact hr'⟩, ⟨HI0.s⟩, ⟨HI0.f⟩⟩
        case measure => simp [intOf]; omega
      by_cases ht : tag = 1
      · subst ht
        have HO : Aside (opsOf 1 ware (items.take (k + 1)) = opsOf 1 ware (items.take k) ++ [opAt 1 sku ware (-qty)] ++ [opAt 2 sku ware qty]) := ⟨by rw [HN.out, opsOf_snoc]; simp [onItem, show ¬ qty < 1 from by omega]⟩
        go_wp2_with (go_at_call 37; refine (add_step (by assumption) rfl (by omega) (by first | omega | (simp only [List.length_append, List.length_singleton]; omega)) _ _).mono ?_; rintro e W' ⟨rfl, HI⟩; have hq1 := HI.q; have ht1 := HI.t)
        go_roundw
        case rel => obtain ⟨v', ho', hr'⟩ := HI.o; exact ⟨k + 1, by omega, by go_num, ⟨v', ho', by rw [HO.out]; exact hr'⟩, ⟨HI.s⟩, ⟨HI.f⟩⟩
        case measure => simp [intOf]; omega
      replace ht : (tag == 1) = false := beq_eq_false_iff_ne.2 ht
      by_cases ht : tag = 3
      · subst ht
        have HO : Aside (opsOf 3 ware (items.take (k + 1)) = opsOf 3 ware (items.take k) ++ [opAt 2 sku ware (-qty)] ++ [opAt 3 sku ware qty]) := ⟨by rw [HN.out, opsOf_snoc]; simp [onItem, show ¬ qty < 1 from by omega]⟩
        go_wp2_with (go_at_call 37; refine (add_step (by assumption) rfl (by omega) (by first | omega | (simp only [List.length_append, List.length_singleton]; omega)) _ _).mono ?_; rintro e W' ⟨rfl, HI⟩; have hq1 := HI.q; have ht1 := HI.t)
        go_roundw
        case rel => obtain ⟨v', ho', hr'⟩ := HI.o; exact ⟨k + 1, by omega, by go_num, ⟨v', ho', by rw [HO.out]; exact hr'⟩, ⟨HI.s⟩, ⟨HI.f⟩⟩
        case measure => simp [intOf]; omega
      replace ht : (tag == 3) = false := beq_eq_false_iff_ne.2 ht
      by_cases ht : tag = 2
      · subst ht
        have HO : Aside (opsOf 2 ware (items.take (k + 1)) = opsOf 2 ware (items.take k) ++ [opAt 2 sku ware (-qty)] ++ [opAt 1 sku ware qty]) := ⟨by rw [HN.out, opsOf_snoc]; simp [onItem, show ¬ qty < 1 from by omega]⟩
        go_wp2_with (go_at_call 37; refine (add_step (by assumption) rfl (by omega) (by first | omega | (simp only [List.length_append, List.length_singleton]; omega)) _ _).mono ?_; rintro e W' ⟨rfl, HI⟩; have hq1 := HI.q; have ht1 := HI.t)
        go_roundw
        case rel => obtain ⟨v', ho', hr'⟩ := HI.o; exact ⟨k + 1, by omega, by go_num, ⟨v', ho', by rw [HO.out]; exact hr'⟩, ⟨HI.s⟩, ⟨HI.f⟩⟩
        case measure => simp [intOf]; omega
      replace ht : (tag == 2) = false := beq_eq_false_iff_ne.2 ht
      by_cases ht : tag = 5
      · subst ht
        have HO : Aside (opsOf 5 ware (items.take (k + 1)) = opsOf 5 ware (items.take k) ++ [opAt 1 sku ware qty]) := ⟨by rw [HN.out, opsOf_snoc]; simp [onItem, show ¬ qty < 1 from by omega]⟩
        go_wp2_with (go_at_call 37; refine (add_step (by assumption) rfl (by omega) (by first | omega | (simp only [List.length_append, List.length_singleton]; omega)) _ _).mono ?_; rintro e W' ⟨rfl, HI⟩; have hq1 := HI.q; have ht1 := HI.t)
        go_roundw
        case rel => obtain ⟨v', ho', hr'⟩ := HI.o; exact ⟨k + 1, by omega, by go_num, ⟨v', ho', by rw [HO.out]; exact hr'⟩, ⟨HI.s⟩, ⟨HI.f⟩⟩
        case measure => simp [intOf]; omega
      replace ht : (tag == 5) = false := beq_eq_false_iff_ne.2 ht
      by_cases ht : tag = 4
      · subst ht
        have HO : Aside (opsOf 4 ware (items.take (k + 1)) = opsOf 4 ware (items.take k) ++ [opAt 3 sku ware (-qty)] ++ [opAt 1 sku ware qty]) := ⟨by rw [HN.out, opsOf_snoc]; simp [onItem, show ¬ qty < 1 from by omega]⟩
        go_wp2_with (go_at_call 37; refine (add_step (by assumption) rfl (by omega) (by first | omega | (simp only [List.length_append, List.length_singleton]; omega)) _ _).mono ?_; rintro e W' ⟨rfl, HI⟩; have hq1 := HI.q; have ht1 := HI.t)
        go_roundw
        case rel => obtain ⟨v', ho', hr'⟩ := HI.o; exact ⟨k + 1, by omega, by go_num, ⟨v', ho', by rw [HO.out]; exact hr'⟩, ⟨HI.s⟩, ⟨HI.f⟩⟩
        case measure => simp [intOf]; omega
      replace ht : (tag == 4) = false := beq_eq_false_iff_ne.2 ht
      by_cases ht : tag = 6
      · subst ht
        have HO : Aside (opsOf 6 ware (items.take (k + 1)) = opsOf 6 ware (items.take k) ++ [opAt 1 sku ware (-qty)]) := ⟨by rw [HN.out, opsOf_snoc]; simp [onItem, show ¬ qty < 1 from by omega]⟩
        go_wp2_with (go_at_call 37; refine (add_step (by assumption) rfl (by omega) (by first | omega | (simp only [List.length_append, List.length_singleton]; omega)) _ _).mono ?_; rintro e W' ⟨rfl, HI⟩; have hq1 := HI.q; have ht1 := HI.t)
        go_roundw
        case rel => obtain ⟨v', ho', hr'⟩ := HI.o; exact ⟨k + 1, by omega, by go_num, ⟨v', ho', by rw [HO.out]; exact hr'⟩, ⟨HI.s⟩, ⟨HI.f⟩⟩
        case measure => simp [intOf]; omega
      replace ht : (tag == 6) = false := beq_eq_false_iff_ne.2 ht
      by_cases ht : tag = 7
      · subst ht
        have HO : Aside (opsOf 7 ware (items.take (k + 1)) = opsOf 7 ware (items.take k) ++ [opAt 4 sku ware qty]) := ⟨by rw [HN.out, opsOf_snoc]; simp [onItem, show ¬ qty < 1 from by omega]⟩
        go_wp2_with (go_at_call 37; refine (add_step (by assumption) rfl (by omega) (by first | omega | (simp only [List.length_append, List.length_singleton]; omega)) _ _).mono ?_; rintro e W' ⟨rfl, HI⟩; have hq1 := HI.q; have ht1 := HI.t)
        go_roundw
        case rel => obtain ⟨v', ho', hr'⟩ := HI.o; exact ⟨k + 1, by omega, by go_num, ⟨v', ho', by rw [HO.out]; exact hr'⟩, ⟨HI.s⟩, ⟨HI.f⟩⟩
        case measure => simp [intOf]; omega
      replace ht : (tag == 7) = false := beq_eq_false_iff_ne.2 ht
      by_cases ht : tag = 8
      · subst ht
        have HO : Aside (opsOf 8 ware (items.take (k + 1)) = opsOf 8 ware (items.take k) ++ [opAt 4 sku ware (-qty)]) := ⟨by rw [HN.out, opsOf_snoc]; simp [onItem, show ¬ qty < 1 from by omega]⟩
        go_wp2_with (go_at_call 37; refine (add_step (by assumption) rfl (by omega) (by first | omega | (simp only [List.length_append, List.length_singleton]; omega)) _ _).mono ?_; rintro e W' ⟨rfl, HI⟩; have hq1 := HI.q; have ht1 := HI.t)
        go_roundw
        case rel => obtain ⟨v', ho', hr'⟩ := HI.o; exact ⟨k + 1, by omega, by go_num, ⟨v', ho', by rw [HO.out]; exact hr'⟩, ⟨HI.s⟩, ⟨HI.f⟩⟩
        case measure => simp [intOf]; omega
      replace ht : (tag == 8) = false := beq_eq_false_iff_ne.2 ht
      have HO : Aside (opsOf tag ware (items.take (k + 1)) = opsOf tag ware (items.take k)) := ⟨by rw [HN.out, opsOf_snoc]; simp_all [onItem]⟩
      go_wp2_with fail
      go_roundw
      case rel => obtain ⟨v', ho', hr'⟩ := HI0.o; exact ⟨k + 1, by omega, by go_num, ⟨v', ho', by rw [HO.out]; exact hr'⟩, ⟨HI0.s⟩, ⟨HI0.f⟩⟩
      case measure => simp [intOf]; omega
    · have HE : Aside (items.take k = items) := ⟨List.take_of_length_le (by omega)⟩
      go_wp2_with fail
      go_ret
      exact ⟨_, rfl, by rw [HE.out] at hrow; exact hrow, HF.out.below (Nat.le_refl _) (fun _ h => by omega)⟩
end Go.Proofs.Ytkfoapbjdegdiaa.Own
