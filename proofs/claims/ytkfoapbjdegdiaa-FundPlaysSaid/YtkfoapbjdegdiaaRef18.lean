/- pledgeref04.Less; pledgeref18.put. -/
import Derived.Test.YtkfoapbjdegdiaaRef17b
import Derived.Test.YtkfoapbjdegdiaaFund3
import Derived.Deep.QuietTactic
namespace Go.Proofs.Ytkfoapbjdegdiaa.Own
open Go.RowKit
attribute [local go_sem ↓] Go.wp_at_zero Go.wp_at_succ

theorem rless_calls (a b : KeyD) (w : World) : Calls Try.prog 90 #[a.val, b.val] w fun e w' => e = .returned (.bool (ltKey a b)) ∧ w' = (w.alloc (.cells a.cells.toArray 41)).alloc (.cells b.cells.toArray 41) := by
  obtain ⟨a1, a2, a3⟩ := a
  obtain ⟨b1, b2, b3⟩ := b
  simp only [KeyD.val, KeyD.cells]
  obtain ⟨r, hr⟩ : ∃ r, ltKey ⟨a1, a2, a3⟩ ⟨b1, b2, b3⟩ = r := ⟨_, rfl⟩
  rw [hr]
  simp only [ltKey] at hr
  have HR := Aside.mk hr
  clear hr
  by_cases h1 : a1 = b1
  · have e1 : (a1 != b1) = false := by simp [h1]
    by_cases h2 : a2 = b2
    · have e2 : (a2 != b2) = false := by simp [h2]
      have H1 := Aside.mk h1
      have H2 := Aside.mk h2
      clear h1 h2
      go_enter Try.func90, Try.ntmps90
      go_wp2_with fail
      go_ret
      refine ⟨congrArg (fun b => Ending.returned (.bool b)) ?_, rfl⟩
      rw [← HR.out]
      have h1 := H1.out
      have h2 := H2.out
      subst h1 h2
      simp
    · have e2 : (a2 != b2) = true := by simp [h2]
      have H1 := Aside.mk h1
      have H2 := Aside.mk h2
      clear h1 h2
      go_enter Try.func90, Try.ntmps90
      go_wp2_with fail
      go_ret
      refine ⟨congrArg (fun b => Ending.returned (.bool b)) ?_, rfl⟩
      rw [← HR.out]
      have h1 := H1.out
      subst h1
      simp [H2.out]
  · have e1 : (a1 != b1) = true := by simp [h1]
    have H1 := Aside.mk h1
    clear h1
    go_enter Try.func90, Try.ntmps90
    go_wp2_with fail
    go_ret
    refine ⟨congrArg (fun b => Ending.returned (.bool b)) ?_, rfl⟩
    rw [← HR.out]
    simp [H1.out]

theorem key_neq (a b : KeyD) (w : World) : (binOp .neq 41 a.val b.val).run Try.prog w = .ok (.bool (!decide (a = b))) w := by
  have h := key_eq a b w
  unfold KeyD.val at *
  simp only [binOp]
  simp [h]
theorem key_eql (a b : KeyD) (w : World) : (binOp .eql 41 a.val b.val).run Try.prog w = .ok (.bool (decide (a = b))) w := by
  have h := key_eq a b w
  unfold KeyD.val at *
  simp only [binOp]
  simp [h]
/-! ### Rows in memory -/
def rowCells (r : RowD) : List Value := [.int .u8 r.1.kind, .int .u8 r.1.sku, .int .u8 r.1.ware, .int .i64 r.2.lo, .int .i64 r.2.hi, .int .i64 r.2.base, .int .i64 r.2.inf, .int .i64 r.2.sup, .int .i64 r.2.value]
def rowVal (r : RowD) : Value := .agg #[.int .u8 r.1.kind, .int .u8 r.1.sku, .int .u8 r.1.ware, .int .i64 r.2.lo, .int .i64 r.2.hi, .int .i64 r.2.base, .int .i64 r.2.inf, .int .i64 r.2.sup, .int .i64 r.2.value]
theorem rowCells_len (r : RowD) : (rowCells r).length = 9 := rfl
theorem rowCells_one (r : RowD) : ∀ u ∈ rowCells r, u.oneCell' = true := by simp [rowCells, Value.oneCell']
theorem infoRow : (Try.prog.info? 109).map (fun i => (i.zero, i.size, i.bytes)) = some (some (rowVal (⟨0, 0, 0⟩, fzero)), 9, 56) := by kernel_rfl
def RowRow (w : World) (base : Nat) (v : Value) (l : List RowD) : Prop := w.ownsRow base 109 9 v l.length (flat rowCells l)
/-- The loop of put. -/
def putStep (k : KeyD) (f : FieldD) (s : List RowD × Bool) (r : RowD) : List RowD × Bool :=
  let s1 := if s.2 = false ∧ ltKey r.1 k = false then (s.1 ++ [(k, f)], true) else s
  (if r.1 = k then s1.1 else s1.1 ++ [r], s1.2)
def putTo (k : KeyD) (f : FieldD) (l : List RowD) : List RowD × Bool := l.foldl (putStep k f) ([], false)
theorem putTo_snoc (k : KeyD) (f : FieldD) (l : List RowD) (r : RowD) : putTo k f (l ++ [r]) = putStep k f (putTo k f l) r := by simp [putTo, List.foldl_append]
theorem foldl_done (k : KeyD) (f : FieldD) (l : List RowD) (h : ∀ r ∈ l, ltKey k r.1 = true) (out : List RowD) : l.foldl (putStep k f) (out, true) = (out ++ l, true) := by
  induction l generalizing out with
  | nil => simp
  | cons r l ih =>
    have hr := h r List.mem_cons_self
    have hne : r.1 ≠ k := fun e => by rw [e, ltKey_irrefl] at hr; cases hr
    rw [List.foldl_cons, show putStep k f (out, true) r = (out ++ [r], true) from by simp [putStep, hne], ih (fun r' h' => h r' (List.mem_cons_of_mem _ h'))]
    simp
theorem foldl_put (k : KeyD) (f : FieldD) (l : List RowD) (h : Rising l) (out : List RowD) :
    (if (l.foldl (putStep k f) (out, false)).2 = true then (l.foldl (putStep k f) (out, false)).1 else (l.foldl (putStep k f) (out, false)).1 ++ [(k, f)]) = out ++ rput l k f := by
  induction l generalizing out with
  | nil => simp [rput]
  | cons r l ih =>
    unfold Rising at h
    rw [List.pairwise_cons] at h
    rw [List.foldl_cons]
    unfold rput
    cases hl : ltKey r.1 k with
    | true =>
      have hne : r.1 ≠ k := ltKey_ne hl
      rw [show putStep k f (out, false) r = (out ++ [r], false) from by simp [putStep, hl, hne], ih h.2 (out ++ [r])]
      simp
    | false =>
      by_cases hk : r.1 = k
      · rw [show putStep k f (out, false) r = (out ++ [(k, f)], true) from by simp [putStep, hk, ltKey_irrefl], foldl_done k f l (fun p hp => by rw [← hk]; exact h.1 p hp)]
        simp [hk]
      · have hlt : ltKey k r.1 = true := by
          cases h1 : ltKey k r.1
          · exact absurd (totKey r.1 k hl h1) hk
          · rfl
        rw [show putStep k f (out, false) r = (out ++ [(k, f)] ++ [r], true) from by simp [putStep, hl, hk], foldl_done k f l (fun p hp => ltKey_trans hlt (h.1 p hp))]
        simp [hk]
theorem putTo_all (k : KeyD) (f : FieldD) (l : List RowD) (h : Rising l) : (if (putTo k f l).2 = true then (putTo k f l).1 else (putTo k f l).1 ++ [(k, f)]) = rput l k f := by
  have := foldl_put k f l h []
  rw [List.nil_append] at this
  exact this
theorem putTo_len (k : KeyD) (f : FieldD) (l : List RowD) : (putTo k f l).1.length ≤ 2 * l.length := by
  refine snocInduct (P := fun l => (putTo k f l).1.length ≤ 2 * l.length) (by simp [putTo]) (fun l r ih => ?_) l
  rw [putTo_snoc]
  unfold putStep
  dsimp only
  (repeat' split) <;> simp only [List.length_append, List.length_singleton] <;> omega
theorem wholeRow (w : World) (g : Nat) (r : RowD) (h : w.heap[g]? = some (.cells (rowCells r).toArray 109 (0, 0))) : w.cell? ⟨g, 0, none⟩ = some (.int .u8 r.1.kind) ∧ w.cell? ⟨g, 1, none⟩ = some (.int .u8 r.1.sku) ∧ w.cell? ⟨g, 2, none⟩ = some (.int .u8 r.1.ware) ∧ w.cell? ⟨g, 3, none⟩ = some (.int .i64 r.2.lo) ∧ w.cell? ⟨g, 4, none⟩ = some (.int .i64 r.2.hi) ∧ w.cell? ⟨g, 5, none⟩ = some (.int .i64 r.2.base) ∧ w.cell? ⟨g, 6, none⟩ = some (.int .i64 r.2.inf) ∧ w.cell? ⟨g, 7, none⟩ = some (.int .i64 r.2.sup) ∧ w.cell? ⟨g, 8, none⟩ = some (.int .i64 r.2.value) := by
  refine ⟨?_, ?_, ?_, ?_, ?_, ?_, ?_, ?_, ?_⟩ <;> rw [cell_of h] <;> rfl
/-- Within put: what is kept. -/
structure PutAt (w W : World) (v : Value) (out : List RowD) (r : RowD) : Prop where
  row : RowRow W w.heap.size v out
  box : W.heap[w.heap.size]? = some (.cells (rowCells r).toArray 109 (0, 0))
  apart : ∀ p, v.ownBlock = some p → w.heap.size < p
  fr : Fr (w.heap.size ≤ ·) w W
theorem PutAt.up {w W W' : World} {v : Value} {out : List RowD} {r : RowD} (h : PutAt w W v out r) (hf : Fr (W.heap.size ≤ ·) W W') : PutAt w W' v out r :=
  ⟨hf.own h.row (fun k hk => by have := (h.row.lt k hk).2; omega), hf.obj h.box (by have := blk_lt h.box; omega), h.apart, h.fr.up hf⟩
theorem PutAt.upN {w W : World} {v : Value} {out : List RowD} {r : RowD} (h : PutAt w W v out r) (n : Nat) : PutAt w (W.drewN n) v out r := h.up ((Fr.refl _ W).drewN n)
theorem PutAt.push {w W w3 : World} {v : Value} {out : List RowD} {r : RowD} (h : PutAt w W v out r) {g' cap' : Nat} {o : Obj} (y : RowD)
    (hown' : w3.ownsRow w.heap.size 109 9 (.slice (some ⟨g', 0, none⟩) (out.length + 1) cap') (out ++ [y]).length (flat rowCells (out ++ [y]))) (hgrow : (W.alloc o).grownBy w3 v.ownBlock) (hat : some g' = v.ownBlock ∨ g' = (W.alloc o).heap.size) :
    PutAt w w3 (.slice (some ⟨g', 0, none⟩) (out.length + 1) cap') (out ++ [y]) r := by
  have hb := blk_lt h.box
  refine ⟨hown', (Fr.ofGrown hgrow).obj (blk_old h.box _) (fun e => by have := h.apart _ e.symm; omega), ?_, (h.fr.alloc o).trans (Fr.ofGrown hgrow) (fun k _ e => own_ge h.row k e)⟩
  intro p hp
  have e : g' = p := by simpa [Value.ownBlock] using hp
  subst e
  rcases hat with e | e
  · exact h.apart _ e.symm
  · simp at e; omega
set_option maxRecDepth 100000 in
set_option maxHeartbeats 4000000 in
theorem rput_calls (A : Option Addr) (cap : Nat) (l : List RowD) (k : KeyD) (f : FieldD) (w : World) (hr : Reads rowCells 9 w A l.length l) (hri : Rising l) (hlen : l.length < 100000) :
    Calls Try.prog 53 #[.slice A l.length cap, rowVal (k, f)] w fun e w' => ∃ v, e = .returned v ∧ RowRow w' w.heap.size v (rput l k f) ∧ Fr (w.heap.size ≤ ·) w w' := by
  have HR := Aside.mk hr
  have HE := Aside.mk (putTo_all k f l hri)
  generalize rput l k f = res at *
  clear hr hri
  obtain ⟨k1, k2, k3⟩ := k
  obtain ⟨f1, f2, f3, f4, f5, f6⟩ := f
  simp only [rowVal]
  go_enter Try.func53, Try.ntmps53
  go_wp2_with fail
  go_loopw [5, 6, 7] (fun v dn i wr => ∃ (j : Nat) (out : List RowD) (b : Bool), j ≤ l.length ∧ out.length ≤ 2 * j ∧ i = .int .i64 j ∧ dn = .bool b ∧ Aside (putTo ⟨k1, k2, k3⟩ ⟨f1, f2, f3, f4, f5, f6⟩ (l.take j) = (out, b)) ∧ Aside (RowRow wr w.heap.size v out) ∧ Aside (wr.heap[w.heap.size]? = some (.cells (rowCells (⟨k1, k2, k3⟩, ⟨f1, f2, f3, f4, f5, f6⟩)).toArray 109 (0, 0))) ∧ Aside (∀ p, v.ownBlock = some p → w.heap.size < p) ∧ Aside (Fr (w.heap.size ≤ ·) w wr)) (fun _ _ i _ => l.length - (intOf i).toNat)
  case atStart => exact ⟨0, [], false, Nat.zero_le _, by simp, rfl, rfl, ⟨rfl⟩, ⟨⟨rfl, .inl ⟨rfl, rfl⟩⟩⟩, ⟨blk_new _ rfl⟩, ⟨by simp [Value.ownBlock]⟩, ⟨(Fr.refl _ w).alloc _⟩⟩
  case round =>
    obtain ⟨j, out, b, hj, hol, rfl, rfl, HP, HO, HB, HNb, HF⟩ := hrel
    obtain ⟨b0, b1, b2, b3, b4, b5, b6, b7, b8⟩ := wholeRow _ _ _ HB.out
    have hbl := blk_lt HB.out
    by_cases hlt : j < l.length
    · obtain ⟨ad, hA, hc0, hc'⟩ := (HR.out.up rowCells_len (by decide) HF.out).at_ (by decide) j hlt
      have hc1 := hc' 1 (by decide) (by decide)
      have hc2 := hc' 2 (by decide) (by decide)
      have hc3 := hc' 3 (by decide) (by decide)
      have hc4 := hc' 4 (by decide) (by decide)
      have hc5 := hc' 5 (by decide) (by decide)
      have hc6 := hc' 6 (by decide) (by decide)
      have hc7 := hc' 7 (by decide) (by decide)
      have hc8 := hc' 8 (by decide) (by decide)
      have HN := Aside.mk (putTo_snoc ⟨k1, k2, k3⟩ ⟨f1, f2, f3, f4, f5, f6⟩ (l.take j) l[j])
      rw [← take_snoc l j hlt, HP.out] at HN
      clear hc'
      obtain ⟨x, hx⟩ : ∃ x, l[j] = x := ⟨_, rfl⟩
      have HX := Aside.mk hx
      rw [hx] at hc0 hc1 hc2 hc3 hc4 hc5 hc6 hc7 hc8 HN
      clear hx
      obtain ⟨⟨x1, x2, x3⟩, ⟨y1, y2, y3, y4, y5, y6⟩⟩ := x
      simp only [rowCells, List.getElem?_cons_zero, List.getElem?_cons_succ] at hc0 hc1 hc2 hc3 hc4 hc5 hc6 hc7 hc8
      subst hA
      have hjl : (j : Int) < (l.length : Int) := by omega
      go_upto_region 6 with fail
      go_cut [26] (fun s wx => s = .bool (!b && !ltKey ⟨x1, x2, x3⟩ ⟨k1, k2, k3⟩) ∧ Aside (PutAt w wx u5 out (⟨k1, k2, k3⟩, ⟨f1, f2, f3, f4, f5, f6⟩)))
      case first =>
        have hPA : PutAt w wr u5 out (⟨k1, k2, k3⟩, ⟨f1, f2, f3, f4, f5, f6⟩) := ⟨HO.out, HB.out, HNb.out, HF.out⟩
        have HPA := Aside.mk hPA
        clear hPA
        cases b with
        | true =>
          refine wp_region_quiet_below (by kernel_rfl) (by kernel_rfl) ?_
          repeat (go_big_quiet_step (fail))
          refine wpQuiet_nil ?_
          intro w3 hw3
          obtain ⟨p, rfl⟩ := hw3
          go_wp2_with fail
          go_meet
          exact ⟨by simp, ⟨HPA.out.up (Fr.ofBelow (below_regrown wr p.d p.os))⟩⟩
        | false =>
          go_region_held3 (fun W => W.cell? (ad.add (j * 9)) = some (.int .u8 x1) ∧ W.cell? ⟨(ad.add (j * 9)).block, (ad.add (j * 9)).off + 1, none⟩ = some (.int .u8 x2) ∧ W.cell? ⟨(ad.add (j * 9)).block, (ad.add (j * 9)).off + 2, none⟩ = some (.int .u8 x3) ∧ W.cell? ⟨w.heap.size, 0, none⟩ = some (.int .u8 k1) ∧ W.cell? ⟨w.heap.size, 1, none⟩ = some (.int .u8 k2) ∧ W.cell? ⟨w.heap.size, 2, none⟩ = some (.int .u8 k3))
            ((refine ⟨?_, ?_, ?_, ?_, ?_, ?_⟩ <;> (repeat (first | (with_reducible exact hc0) | (with_reducible exact hc1) | (with_reducible exact hc2) | (with_reducible exact b0) | (with_reducible exact b1) | (with_reducible exact b2) | (with_reducible refine cell_drew ?_) | (with_reducible refine cell_alloc_drew ?_ _) | (with_reducible refine cell_alloc ?_ _)))))
            ((first | (go_at_call 90; refine (rless_calls ⟨x1, x2, x3⟩ ⟨k1, k2, k3⟩ _).mono ?_; rintro e w1 ⟨rfl, rfl⟩)))
          all_goals go_wp2_with fail
          all_goals go_meet
          all_goals exact ⟨by simp, ⟨HPA.out.up (by (repeat (first | (with_reducible refine Fr.drew ?_) | (with_reducible refine Fr.alloc ?_ _))); exact Fr.refl _ _)⟩⟩
      case rest =>
        obtain ⟨rfl, HPA⟩ := hcut
        clear b0 b1 b2 b3 b4 b5 b6 b7 b8 hc0 hc1 hc2 hc3 hc4 hc5 hc6 hc7 hc8 hbl
        go_upto_if 26 with fail
        go_cut [5, 6] (fun v d wx => ∃ (out2 : List RowD) (b2 : Bool), d = .bool b2 ∧ out2.length ≤ 2 * j + 1 ∧ Aside ((if b = false ∧ ltKey ⟨x1, x2, x3⟩ ⟨k1, k2, k3⟩ = false then (out ++ [(⟨k1, k2, k3⟩, ⟨f1, f2, f3, f4, f5, f6⟩)], true) else (out, b)) = (out2, b2)) ∧ Aside (PutAt w wx v out2 (⟨k1, k2, k3⟩, ⟨f1, f2, f3, f4, f5, f6⟩)))
        case first =>
          by_cases hins : b = false ∧ ltKey ⟨x1, x2, x3⟩ ⟨k1, k2, k3⟩ = false
          · have hb : (!b && !ltKey ⟨x1, x2, x3⟩ ⟨k1, k2, k3⟩) = true := by simp [hins.1, hins.2]
            have HI := Aside.mk hins
            clear hins
            rw [hb]
            clear hb
            obtain ⟨b0, b1, b2, b3, b4, b5, b6, b7, b8⟩ := wholeRow _ _ _ HPA.out.box
            have hbl := blk_lt HPA.out.box
            have hfs := HPA.out.fr.size
            have hrow : World.ownsRow wc w.heap.size 109 9 u5 out.length (flat rowCells out) := HPA.out.row
            go_wp2_with (at_builtin; refine append_one_at rowCells 9 56 _ rowCells_len rowCells_one (by decide) (by rfl) (by decide) Try.underlying45 infoRow rfl _ _ rfl w.heap.size u5 out rfl (hrow.alloc _) (⟨k1, k2, k3⟩, ⟨f1, f2, f3, f4, f5, f6⟩) ⟨wc.heap.size, 0, none⟩ 1 rfl (cells_new _ _ _ _ rfl) (by omega) (by simp; omega) ?_; intro g' cap' w3 hown' hgrow hat)
            go_meet
            exact ⟨out ++ [(⟨k1, k2, k3⟩, ⟨f1, f2, f3, f4, f5, f6⟩)], true, rfl, by simp; omega, ⟨by rw [if_pos HI.out]⟩, ⟨HPA.out.push _ hown' hgrow hat⟩⟩
          · have hb : (!b && !ltKey ⟨x1, x2, x3⟩ ⟨k1, k2, k3⟩) = false := by cases b <;> simp_all
            have HI := Aside.mk hins
            clear hins
            rw [hb]
            clear hb
            go_wp2_with fail
            go_meet
            exact ⟨out, b, rfl, by omega, ⟨by rw [if_neg HI.out]⟩, HPA⟩
        case rest =>
          obtain ⟨out2, b2, rfl, hol2, HS, HPB⟩ := hcut
          have hN := HN.out
          unfold putStep at hN
          dsimp only at hN
          rw [HS.out] at hN
          have HN2 := Aside.mk hN
          clear hN HN HS
          obtain ⟨b0, b1, b2', b3, b4, b5, b6, b7, b8⟩ := wholeRow _ _ _ HPB.out.box
          have hbl := blk_lt HPB.out.box
          obtain ⟨ad', hA', hc0, hc'⟩ := (HR.out.up rowCells_len (by decide) HPB.out.fr).at_ (by decide) j hlt
          obtain rfl : ad = ad' := Option.some.inj hA'
          have hc1 := hc' 1 (by decide) (by decide)
          have hc2 := hc' 2 (by decide) (by decide)
          have hc3 := hc' 3 (by decide) (by decide)
          have hc4 := hc' 4 (by decide) (by decide)
          have hc5 := hc' 5 (by decide) (by decide)
          have hc6 := hc' 6 (by decide) (by decide)
          have hc7 := hc' 7 (by decide) (by decide)
          have hc8 := hc' 8 (by decide) (by decide)
          rw [HX.out] at hc0 hc1 hc2 hc3 hc4 hc5 hc6 hc7 hc8
          simp only [rowCells, List.getElem?_cons_zero, List.getElem?_cons_succ] at hc0 hc1 hc2 hc3 hc4 hc5 hc6 hc7 hc8
          clear hc' hA'
          have hfs := HPB.out.fr.size
          have hneq := key_neq ⟨x1, x2, x3⟩ ⟨k1, k2, k3⟩
          by_cases hk : (⟨x1, x2, x3⟩ : KeyD) = ⟨k1, k2, k3⟩
          · rw [if_pos hk] at HN2
            rw [decide_eq_true hk] at hneq
            simp only [KeyD.val, Bool.not_true] at hneq
            clear hk
            go_wp2_with fail
            go_quiet (fail)
            go_wp2_with fail
            go_roundw
            case rel => exact ⟨j + 1, out2, b2, by omega, by omega, by go_num, rfl, ⟨HN2.out⟩, ⟨(HPB.out.upN _).row⟩, ⟨(HPB.out.upN _).box⟩, ⟨HPB.out.apart⟩, ⟨HPB.out.fr.drewN _⟩⟩
            case measure => simp [intOf]; omega
          · rw [if_neg hk] at HN2
            rw [decide_eq_false hk] at hneq
            simp only [KeyD.val, Bool.not_false] at hneq
            clear hk
            go_wp2_with fail
            go_quiet (fail)
            have HPC := Aside.mk (HPB.out.upN nq)
            have hrow : World.ownsRow (wc.drewN nq) w.heap.size 109 9 _ out2.length (flat rowCells out2) := HPC.out.row
            go_wp2_with (at_builtin; refine append_one_at rowCells 9 56 _ rowCells_len rowCells_one (by decide) (by rfl) (by decide) Try.underlying45 infoRow rfl _ _ rfl w.heap.size _ out2 rfl (hrow.alloc _) (⟨x1, x2, x3⟩, ⟨y1, y2, y3, y4, y5, y6⟩) ⟨wc.heap.size, 0, none⟩ 1 rfl (cells_new _ _ _ _ rfl) (by omega) (by simp; omega) ?_; intro g' cap' w3 hown' hgrow hat; have HPD := Aside.mk (HPC.out.push _ hown' hgrow hat); clear hown' hgrow hat hrow)
            go_roundw
            case rel => exact ⟨j + 1, out2 ++ [(⟨x1, x2, x3⟩, ⟨y1, y2, y3, y4, y5, y6⟩)], b2, by omega, by simp; omega, by go_num, rfl, ⟨HN2.out⟩, ⟨HPD.out.row⟩, ⟨HPD.out.box⟩, ⟨HPD.out.apart⟩, ⟨HPD.out.fr⟩⟩
            case measure => simp [intOf]; omega
    · have hP := HP.out
      rw [List.take_of_length_le (by omega)] at hP
      have hE := HE.out
      rw [hP] at hE
      have HE2 := Aside.mk hE
      clear hP hE HE
      have HPA := Aside.mk (PutAt.mk HO.out HB.out HNb.out HF.out)
      have hfs := HF.out.size
      cases b with
      | true =>
        go_wp2_with fail
        go_ret
        refine ⟨_, rfl, ?_, HF.out⟩
        have he : res = out := by have := HE2.out; simpa using this.symm
        rw [he]
        exact HO.out
      | false =>
        have hrow : World.ownsRow wr w.heap.size 109 9 _ out.length (flat rowCells out) := HO.out
        go_wp2_with (at_builtin; refine append_one_at rowCells 9 56 _ rowCells_len rowCells_one (by decide) (by rfl) (by decide) Try.underlying45 infoRow rfl _ _ rfl w.heap.size _ out rfl (hrow.alloc _) (⟨k1, k2, k3⟩, ⟨f1, f2, f3, f4, f5, f6⟩) ⟨wr.heap.size, 0, none⟩ 1 rfl (cells_new _ _ _ _ rfl) (by omega) (by simp; omega) ?_; intro g' cap' w3 hown' hgrow hat; have HPD := Aside.mk (HPA.out.push _ hown' hgrow hat); clear hown' hgrow hat hrow)
        go_ret
        refine ⟨_, rfl, ?_, HPD.out.fr⟩
        have he : res = out ++ [(⟨k1, k2, k3⟩, ⟨f1, f2, f3, f4, f5, f6⟩)] := by have := HE2.out; simpa using this.symm
        rw [he]
        exact HPD.out.row
end Go.Proofs.Ytkfoapbjdegdiaa.Own
