/- calc.Neg, slices.Backward, op.Neg. -/
import Derived.Test.YtkfoapbjdegdiaaSeq
import Derived.Test.YtkfoapbjdegdiaaStep
import Derived.Laws.MakeOwn
import Derived.RangeFuncCalls
namespace Go.Proofs.Ytkfoapbjdegdiaa.Own
open Go.RowKit

theorem calcNeg_calls (x : Int) (h1 : -9223372036854775808 < x) (h2 : x ≤ 9223372036854775807) (w : World) : Calls Try.prog 92 #[.int .i64 x] w fun e w' => e = .returned (.tuple #[.int .i64 (-x), .bool true]) ∧ w' = w := by
  have hne : (x == -9223372036854775808) = false := by rw [beq_eq_false_iff_ne]; omega
  have hne' : ¬ x = -9223372036854775808 := by omega
  go_enter Try.func92, Try.ntmps92
  go_wp2_with fail
  go_ret2
  exact ⟨by simp, rfl⟩
theorem back_mk (v : Value) (w : World) (hv : v.oneCell' = true) : Calls Try.prog 91 #[v] w fun e w' => e = .returned (.func (.func 120) #[] #[.pointer (some ⟨w.heap.size, 0, none⟩)]) ∧ w' = w.alloc (.cells #[v] 24) := by
  go_enter Try.func91, Try.ntmps91
  go_wp2_with fail
  go_ret
  exact ⟨rfl, rfl⟩
def zOf : Value → Int
  | .int _ n => n
  | _ => 0
def OpD.agg (o : OpD) : Value := .agg #[.int .u8 o.key.kind, .int .u8 o.key.sku, .int .u8 o.key.ware, .int .i64 o.d]
set_option maxRecDepth 100000 in
set_option maxHeartbeats 1000000 in
/-- The iterator of slices.Backward: J k: k elements are left. -/
theorem back_gives (n : Nat) (hn : 1 ≤ n) (Bs : Nat) (A : Option Addr) (cap : Nat) (l : List OpD) (w : World) (hlen : l.length < 4611686018427387904) (lp : Nat) (J : Nat → World → Prop)
    (hJ : ∀ k W, J k W → W.cell? ⟨Bs, 0, none⟩ = some (.slice A l.length cap) ∧ Reads OpD.cells 4 W A l.length l)
    (hY : ∀ k W (hk : k < l.length), J (k + 1) W → YieldAt Fence.wide (n - 1) Try.prog lp #[.int .i64 k, l[k].agg] W fun e W' => e = .returned (.bool true) ∧ J k W') (h0 : J l.length w) :
    CallsIn Fence.wide n Try.prog 120 #[.func (.yield lp) #[] #[], .pointer (some ⟨Bs, 0, none⟩)] w fun e W' => (∃ v, e = .returned v) ∧ J 0 W' := by
  obtain ⟨hc, hr⟩ := hJ _ _ h0
  have H0 := Aside.mk h0
  have HJ := Aside.mk hJ
  have HY := Aside.mk hY
  clear h0 hJ hY hr
  refine callsIn_of_wp Try.func120 rfl trivial ?_ rfl
  simp only [Try.ntmps120, List.size_toArray, List.length_cons, List.length_nil, Nat.reduceAdd, Nat.reduceSub, Array.replicate_succ, Array.replicate_zero, List.push_toArray, List.append_toArray, List.nil_append, List.cons_append]
  gi_wp2
  gi_loopw [3] (fun i wr => ∃ (k : Nat) (z : Int), k ≤ l.length ∧ z + 1 = k ∧ i = .int .i64 z ∧ Aside (J k wr)) (fun i _ => (zOf i + 1).toNat)
  case atStart => exact ⟨l.length, (l.length : Int) - 1, Nat.le_refl _, by omega, by go_num, H0⟩
  case round =>
    obtain ⟨k, z, hk, hz, rfl, HK⟩ := hrel
    cases k with
    | zero =>
      obtain rfl : z = -1 := by omega
      gi_wp2
      go_end0
      exact ⟨⟨_, rfl⟩, HK.out⟩
    | succ k =>
      obtain rfl : z = k := by omega
      obtain ⟨hcr, hrr⟩ := HJ.out _ _ HK.out
      obtain ⟨ad, hA, hc0, hc'⟩ := hrr.at_ (by decide) k hk
      have hc1 := hc' 1 (by decide) (by decide)
      have hc2 := hc' 2 (by decide) (by decide)
      have hc3 := hc' 3 (by decide) (by decide)
      clear hc' hrr
      obtain ⟨fn, tmps, assign, body, hy, hR⟩ := HY.out k wr hk HK.out
      have HR := Aside.mk hR
      clear hR
      generalize l[k] = x at *
      obtain ⟨⟨k1, k2, k3⟩, d⟩ := x
      simp only [OpD.cells, List.getElem?_cons_zero, List.getElem?_cons_succ] at hc0 hc1 hc2 hc3
      dsimp only [OpD.agg] at hy
      subst hA
      gi_wp2
      refine HR.out.mono ?_
      rintro e W3 ⟨rfl, hJ4⟩
      gi_wp2
      go_roundw
      case rel => exact ⟨k, (k : Int) - 1, by omega, by omega, by go_num, ⟨hJ4⟩⟩
      case measure => simp [zOf]

theorem mkOps (n : Nat) (hn : n ≤ 100000) : ∃ MC : Array Value, MC.size = n * 4 ∧ ∀ w, (Instr.makeSlice 24 (.int .i64 0) (.int .i64 (n : Int))).run Try.prog w = .ok (.slice (some ⟨w.heap.size, 0, none⟩) 0 n) (w.alloc (.cells MC 43)) := by
  obtain ⟨i0, hi, hz0, hz1, hz2⟩ := info_parts infoOp
  refine ⟨madeCells (Value.agg #[.int .u8 0, .int .u8 0, .int .u8 0, .int .i64 0]).cells (n * i0.size), by rw [size_madeCells, hz1], fun w => ?_⟩
  have := run_make (P := Try.prog) w 24 43 i0 _ Try.underlying24 hi hz0 .i64 .i64 0 n (by omega) (by omega) (by rw [hz2]; omega) (by omega)
  simpa using this
/-- The first range over a function of a code: what its rounds run. -/
def firstRF : Code → Option (Code × Code)
  | .rangeFunc _ _ a b => some (a, b)
  | .seq c d => match firstRF c with
    | some x => some x
    | none => firstRF d
  | .block _ c => firstRF c
  | _ => none
noncomputable def negAB : Code × Code := (Try.f58.body.bind firstRF).getD (.skip, .skip)
def negOp (o : OpD) : OpD := ⟨o.key, -o.d⟩
def negs (l : List OpD) : List OpD := l.reverse.map negOp
theorem negs_drop (l : List OpD) (k : Nat) (hk : k < l.length) : negs (l.drop k) = negs (l.drop (k + 1)) ++ [negOp l[k]] := by
  unfold negs; rw [List.drop_eq_getElem_cons hk, List.reverse_cons, List.map_append]; rfl
theorem negs_len (l : List OpD) : (negs l).length = l.length := by simp [negs]
theorem neg_results (tmps : Array Value) (w : World) (a b : Nat) (v v' : Value) (h1 : tmps.getD 2 undef = .pointer (some ⟨a, 0, none⟩)) (h2 : tmps.getD 3 undef = .pointer (some ⟨b, 0, none⟩)) (ha : w.cell? ⟨a, 0, none⟩ = some v) (hb : w.cell? ⟨b, 0, none⟩ = some v') :
    (results Try.f58 tmps).run Try.prog w = .ok (.tuple #[v, v']) w := by
  have e1 : tmps[2]?.getD undef = .pointer (some ⟨a, 0, none⟩) := by simpa using h1
  have e2 : tmps[3]?.getD undef = .pointer (some ⟨b, 0, none⟩) := by simpa using h2
  have l1 : (isAgg 24).run Try.prog w = .ok false w := by kernel_rfl
  have l2 : (isAgg 4).run Try.prog w = .ok false w := by kernel_rfl
  have l3 : (load ⟨a, 0, none⟩).run Try.prog w = .ok v w := by simp [load, Sem.run, ha]
  have l4 : (load ⟨b, 0, none⟩).run Try.prog w = .ok v' w := by simp [load, Sem.run, hb]
  simp [results, Try.f58, e1, e2, asAddr, loadVar, l1, l2, l3, l4, Sem.run_bind, Result.andThen]
def negTmps (A : Option Addr) (n cap B : Nat) (t14 t15 : Value) : Array Value :=
  #[.slice A n cap, undef, .pointer (some ⟨B, 0, none⟩), .pointer (some ⟨B + 1, 0, none⟩), .pointer (some ⟨B + 1 + 1 + 1, 0, none⟩), undef, undef, undef, undef, .slice A n cap, .int .i64 n, .slice (some ⟨B + 1 + 1, 0, none⟩) 0 n, .slice A n cap,
    .func (.func 120) #[] #[.pointer (some ⟨B + 1 + 1 + 1 + 1, 0, none⟩)], t14, t15, undef, undef, undef, undef, undef, undef, undef, undef, undef, undef, undef, undef, undef, undef, undef, undef]
noncomputable def negRec (fn : FuncId) (A : Option Addr) (n cap B : Nat) (st : LoopState) (pend : Option Code) : Loop :=
  { state := st, pending := pend, fn, tmps := negTmps A n cap B undef undef, params := #[14, 15], assign := negAB.1, body := negAB.2, defers := B + 5 }
/-- Between two rounds. -/
structure NegAt (w0 : World) (fn : FuncId) (A : Option Addr) (cap : Nat) (l : List OpD) (k : Nat) (W : World) : Prop where
  box : ∃ v, Boxed W (w0.heap.size + 3) 24 v ∧ OpRow W w0.heap.size v (negs (l.drop k))
  L : W.heap[w0.heap.size + 6]? = some (.loop (negRec fn A l.length cap w0.heap.size .ready none))
  K : W.heap[w0.heap.size + 5]? = some (.deferred (some []))
  b : Boxed W (w0.heap.size + 4) 24 (.slice A l.length cap)
  r0 : ∃ v, Boxed W w0.heap.size 24 v
  r1 : ∃ v, Boxed W (w0.heap.size + 1) 4 v
  f : Fr (w0.heap.size ≤ ·) w0 W

set_option maxRecDepth 100000 in
set_option maxHeartbeats 2000000 in
theorem neg_yield (m : Nat) (hm : 1 ≤ m) (w0 : World) (fn : FuncId) (A : Option Addr) (cap : Nat) (l : List OpD) (k : Nat) (hk : k < l.length) (W : World) (h : NegAt w0 fn A cap l (k + 1) W) (hlen : l.length < 100000) (hd : -9223372036854775808 < l[k].d ∧ l[k].d ≤ 9223372036854775807) :
    YieldAt Fence.wide m Try.prog (w0.heap.size + 6) #[.int .i64 k, l[k].agg] W fun e W' => e = .returned (.bool true) ∧ NegAt w0 fn A cap l k W' := by
  obtain ⟨v, hv0, hrow0⟩ := h.box
  have HN := Aside.mk (negs_drop l k hk)
  have hln : (negs (l.drop (k + 1))).length < 100000 := by rw [negs_len, List.length_drop]; omega
  generalize negs (l.drop (k + 1)) = ns at *
  generalize l[k] = x at *
  obtain ⟨⟨k1, k2, k3⟩, d⟩ := x
  obtain ⟨hd1, hd2⟩ := hd
  have hwf : Fence.wide.fn 92 := trivial
  refine ⟨fn, negTmps A l.length cap w0.heap.size (.int .i64 k) (OpD.agg ⟨⟨k1, k2, k3⟩, d⟩), negAB.1, negAB.2, by simpa [negRec, negTmps] using run_yield (P := Try.prog) (args := #[.int .i64 k, OpD.agg ⟨⟨k1, k2, k3⟩, d⟩]) h.L rfl, roundIn_of_wpIn trivial ?_⟩
  obtain ⟨W1, hW1⟩ : ∃ W1, W.alloc (.cells #[.int .u8 k1, .int .u8 k2, .int .u8 k3, .int .i64 d] 43) = W1 := ⟨_, rfl⟩
  have hbx : W1.heap[W.heap.size]? = some (.cells #[.int .u8 k1, .int .u8 k2, .int .u8 k3, .int .i64 d] 43 (0, 0)) := by rw [← hW1]; exact blk_new _ rfl
  have hf1 : Fr (fun _ => False) W W1 := by rw [← hW1]; exact (Fr.refl _ W).alloc _
  have hL1 := hf1.obj h.L (fun h => h)
  have hrow : W1.ownsRow w0.heap.size 43 4 v ns.length (flat OpD.cells ns) := hf1.own hrow0 (fun _ _ h => h)
  have hWl : W.heap.size < W1.heap.size := blk_lt hbx
  have hlW : w0.heap.size + 6 < W.heap.size := blk_lt h.L
  have hbr := run_beginRound (P := Try.prog) hL1 rfl
  obtain ⟨W2, hW2⟩ : ∃ W2, W1.putObj (w0.heap.size + 6) (.loop { negRec fn A l.length cap w0.heap.size .ready none with state := .busy }) = W2 := ⟨_, rfl⟩
  rw [hW2] at hbr
  have hf2 : Fr (· = w0.heap.size + 6) W W2 := by rw [← hW2]; exact (hf1.mono (T := (· = w0.heap.size + 6)) (fun _ _ h => h.elim)).trans (putObj_fr _ _ _) (fun _ _ h => h)
  have hv2 : Boxed W2 (w0.heap.size + 3) 24 v := hf2.obj hv0 (by omega)
  have hL2 : W2.heap[w0.heap.size + 6]? = some (.loop { negRec fn A l.length cap w0.heap.size .ready none with state := .busy }) := by rw [← hW2]; exact World.putObj_heap_same (blk_lt hL1)
  have hbx2 : W2.heap[W.heap.size]? = some (.cells #[.int .u8 k1, .int .u8 k2, .int .u8 k3, .int .i64 d] 43 (0, 0)) := by rw [← hW2]; exact (putObj_fr W1 _ _).obj hbx (by omega)
  have hr2 : W2.ownsRow w0.heap.size 43 4 v ns.length (flat OpD.cells ns) := hf2.own hrow0 (fun k hk e => by subst e; exact not_row' h.L (by intro c t e; cases e) hrow0 hk.symm)
  have hF2 : Fr (w0.heap.size ≤ ·) w0 W2 := h.f.trans hf2 (fun k _ e => by omega)
  have hc2 := hv2.cell
  have hfz2 := hv2.frozen
  have hl1 := hv2.lt
  have hsz := hF2.size
  have hx0 := cell_of hbx2 0
  have hx1 := cell_of hbx2 1
  have hx2 := cell_of hbx2 2
  have hx3 := cell_of hbx2 3
  simp only [List.getElem?_toArray, List.getElem?_cons_succ, List.getElem?_cons_zero] at hx0 hx1 hx2 hx3
  have HA := Aside.mk (And.intro hW1 hW2)
  have HH := Aside.mk h
  clear hW2 h
  simp only [OpD.agg, negAB, Try.f58, firstRF, negTmps, Option.bind, Option.getD]
  gi_wp2_with (first
    | (gi_at_builtin; refine append_one_in OpD.cells 4 16 _ OpD.len OpD.one (by decide) (by rfl) (by decide) Try.underlying24 infoOp rfl _ _ rfl w0.heap.size v ns rfl (hr2.alloc _) ⟨⟨k1, k2, k3⟩, -d⟩ ⟨W2.heap.size, 0, none⟩ 1 rfl (cells_new _ _ _ _ rfl) (by omega) (by simp; omega) ?_; intro g' cap' w3 hown' hgrow; have hv3 := boxed_after hv2 (by decide) hr2 ((Fr.refl _ W2).alloc _) hgrow; have hc3 := hv3.cell; have hfz3 := hv3.frozen; go_frame)
    | (gi_at_call 92; refine (CallsIn.inRound _ (callsIn_wide.2 (calcNeg_calls d hd1 hd2 _))).mono ?_; rintro e w' ⟨rfl, hww⟩; rw [hww]; clear hww w')
    | gi_round_op_a)
  obtain ⟨q1, q2, q3⟩ := boxed_done hv2 (by decide) hr2 ((Fr.refl _ W2).alloc _) hgrow hown'
  obtain ⟨w4, hw4⟩ : ∃ w4, w3.setCell ⟨w0.heap.size + 1 + 1 + 1, 0, none⟩ (.slice (some ⟨g', 0, none⟩) (ns.length + 1) cap') = w4 := ⟨_, rfl⟩
  have e3 : w0.heap.size + 3 = w0.heap.size + 1 + 1 + 1 := rfl
  rw [e3, hw4] at q1 q2 q3
  rw [hw4]
  clear hw4
  have hne : ∀ {k : Nat} {o : Obj}, W2.heap[k]? = some o → (∀ c t, o = .cells c t (0, 0) → t ≠ 43) → k ≠ w0.heap.size + 3 → ¬ (k = w0.heap.size + 1 + 1 + 1 ∨ some k = v.ownBlock) := by
    intro k o hk ho hk3 h
    rcases h with h | h
    · exact hk3 h
    · exact not_row' hk ho hr2 h
  have hL4 := q3.obj hL2 (hne hL2 (by intro c t e; cases e) (by omega))
  obtain ⟨v0, hb0⟩ := HH.out.r0
  obtain ⟨v1, hb1⟩ := HH.out.r1
  have hK4 := q3.obj (hf2.obj HH.out.K (by omega)) (hne (hf2.obj HH.out.K (by omega)) (by intro c t e; cases e) (by omega))
  have hb4 := q3.obj (hf2.obj HH.out.b (by omega)) (hne (hf2.obj HH.out.b (by omega)) (by intro c t e; cases e; decide) (by omega))
  have hb04 := q3.obj (hf2.obj hb0 (by omega)) (hne (hf2.obj hb0 (by omega)) (by intro c t e; cases e; decide) (by omega))
  have hb14 := q3.obj (hf2.obj hb1 (by omega)) (hne (hf2.obj hb1 (by omega)) (by intro c t e; cases e; decide) (by omega))
  have hF4 : Fr (w0.heap.size ≤ ·) w0 w4 := hF2.trans q3 (fun k _ e => by rcases e with rfl | e <;> first | (show w0.heap.size ≤ _; omega) | exact own_ge hr2 k e)
  have hf5 := putObj_fr w4 (w0.heap.size + 6) (.loop { { negRec fn A l.length cap w0.heap.size .ready none with state := .busy } with state := if (none : Option Code).isNone then .ready else .done, pending := none })
  refine ⟨_, _, run_endRound none hL4, rfl, ⟨⟨_, hf5.obj q1 (by omega), ?_⟩, World.putObj_heap_same (blk_lt hL4), hf5.obj hK4 (by omega), hf5.obj hb4 (by omega), ⟨_, hf5.obj hb04 (by omega)⟩, ⟨_, hf5.obj hb14 (by omega)⟩, hF4.trans hf5 (fun k _ e => by rw [e]; omega)⟩⟩
  rw [HN.out]
  exact hf5.own q2 (fun k hk e => by subst e; exact not_row' hL4 (by intro c t e; cases e) q2 hk.symm)

set_option maxRecDepth 100000 in
set_option maxHeartbeats 2000000 in
theorem neg_in (n : Nat) (hn : 4 ≤ n) (A : Option Addr) (cap : Nat) (l : List OpD) (w : World) (hr : Reads OpD.cells 4 w A l.length l) (hlen : l.length < 100000) (hd : ∀ o ∈ l, -9223372036854775808 < o.d ∧ o.d ≤ 9223372036854775807) :
    CallsIn Fence.wide n Try.prog 58 #[.slice A l.length cap] w fun e w' => ∃ v, e = .returned (.tuple #[v, .bool true]) ∧ OpRow w' w.heap.size v (negs l) ∧ Fr (w.heap.size ≤ ·) w w' := by
  have h1 : 1 ≤ n := by omega
  have hw1 : Fence.wide.fn 91 := trivial
  obtain ⟨MC, hMC, hmk⟩ := mkOps l.length (by omega)
  have HR := Aside.mk hr
  have HD := Aside.mk hd
  clear hr hd
  refine callsIn_of_wp_marks Try.func58 rfl trivial ?_ rfl
  simp only [Try.ntmps58, List.size_toArray, List.length_cons, List.length_nil, Nat.reduceAdd, Nat.reduceSub, Array.replicate_succ, Array.replicate_zero, List.push_toArray, List.append_toArray, List.nil_append, List.cons_append]
  gi_wp2_with (gi_at_call 91; refine (callsIn_wide.2 (back_mk _ _ rfl)).mono ?_; rintro e w' ⟨rfl, rfl⟩)
  refine wpIn_rangeFunc ?_
  intro fn hfn
  rw [show (Fence.wide).round = none from rfl]
  obtain ⟨W0, hW0⟩ : ∃ W0, (((((w.alloc (.cells #[.slice none 0 0] 24)).alloc (.cells #[.bool false] 4)).alloc (.cells MC 43)).alloc (.cells #[.slice (some ⟨w.heap.size + 1 + 1, 0, none⟩) 0 l.length] 24)).alloc (.cells #[.slice A l.length cap] 24)) = W0 := ⟨_, rfl⟩
  have hs0 : W0.heap.size = w.heap.size + 5 := by rw [← hW0]; simp
  have hf0 : Fr (w.heap.size ≤ ·) w W0 := by rw [← hW0]; exact (((((Fr.refl _ w).alloc _).alloc _).alloc _).alloc _).alloc _
  have hb0 : W0.heap[w.heap.size]? = some (.cells #[.slice none 0 0] 24 (0, 0)) := by rw [← hW0]; exact blk_old (blk_old (blk_old (blk_old (blk_new _ rfl) _) _) _) _
  have hb1 : W0.heap[w.heap.size + 1]? = some (.cells #[.bool false] 4 (0, 0)) := by rw [← hW0]; exact blk_old (blk_old (blk_old (blk_new _ (by simp)) _) _) _
  have hb2 : W0.heap[w.heap.size + 1 + 1]? = some (.cells MC 43 (0, 0)) := by rw [← hW0]; exact blk_old (blk_old (blk_new _ (by simp)) _) _
  have hb3 : W0.heap[w.heap.size + 3]? = some (.cells #[.slice (some ⟨w.heap.size + 1 + 1, 0, none⟩) 0 l.length] 24 (0, 0)) := by rw [← hW0]; exact blk_old (blk_new _ (by simp)) _
  have hb4 : W0.heap[w.heap.size + 4]? = some (.cells #[.slice A l.length cap] 24 (0, 0)) := by rw [← hW0]; exact blk_new _ (by simp)
  rw [hW0]
  clear hW0
  obtain ⟨W1, hW1⟩ : ∃ W1, (W0.alloc (.deferred (some []))).alloc (.loop (negRec fn A l.length cap w.heap.size .ready none)) = W1 := ⟨_, rfl⟩
  have hf1 : Fr (fun _ => False) W0 W1 := by rw [← hW1]; exact ((Fr.refl _ W0).alloc _).alloc _
  have hM : NegAt w fn A cap l l.length W1 :=
    ⟨⟨_, hf1.obj hb3 (fun h => h), by
        unfold OpRow
        rw [List.drop_length]
        exact ⟨rfl, .inr ⟨_, _, MC, rfl, by omega, hf1.obj hb2 (fun h => h), by simp [negs], by unfold maxLen; omega, hMC, by simp [negs, flat]⟩⟩⟩,
      by rw [← hW1]; exact blk_new _ (by simp [hs0]), by rw [← hW1]; exact blk_old (blk_new _ hs0.symm) _, hf1.obj hb4 (fun h => h), ⟨_, hf1.obj hb0 (fun h => h)⟩, ⟨_, hf1.obj hb1 (fun h => h)⟩, hf0.trans hf1 (fun _ _ h => h.elim)⟩
  refine ⟨W0.heap.size + 1, [{ target := .collected W0.heap.size, args := #[] }], W1, { target := .fn (.func 120) #[.pointer (some ⟨w.heap.size + 1 + 1 + 1 + 1, 0, none⟩)], args := #[.func (.yield (W0.heap.size + 1)) #[] #[]] }, W1, 120,
    #[.func (.yield (W0.heap.size + 1)) #[] #[]] ++ #[.pointer (some ⟨w.heap.size + 1 + 1 + 1 + 1, 0, none⟩)], W1, ?_, ?_, ?_, ?_, fun _ => h1, ?_⟩
  · rw [← hW1, show negRec fn A l.length cap w.heap.size .ready none = { negRec fn A l.length cap w.heap.size .ready none with defers := W0.heap.size } from by rw [hs0]; rfl]; exact run_enterLoop_outer _ _ _ _ _
  · simp [resolve, go_sem]
  · intro f' hf'; trivial
  · simp [invoke, go_sem]
  · rw [hs0]
    refine (back_gives (n - 1) (by omega) (w.heap.size + 4) A cap l W1 (by omega) (w.heap.size + 6) (NegAt w fn A cap l) ?_ ?_ hM).mono ?_
    · exact fun k W h => ⟨h.b.cell, HR.out.up OpD.len (by decide) h.f⟩
    · intro k W hk h
      exact neg_yield (n - 1 - 1) (by omega) w fn A cap l k hk W h hlen (HD.out _ (List.getElem_mem hk))
    rintro e W2 ⟨⟨v0, rfl⟩, h2⟩
    obtain ⟨v, hv, hrow⟩ := h2.box
    obtain ⟨u0, hv0⟩ := h2.r0
    obtain ⟨u1, hv1⟩ := h2.r1
    rw [List.drop_zero] at hrow
    have hend := run_endLoop (P := Try.prog) h2.L (by simp [negRec])
    obtain ⟨W3, hW3⟩ : ∃ W3, W2.putObj (w.heap.size + 6) (.loop { negRec fn A l.length cap w.heap.size .ready none with state := .exhausted }) = W3 := ⟨_, rfl⟩
    rw [hW3] at hend
    have hf3 : Fr (· = w.heap.size + 6) W2 W3 := by rw [← hW3]; exact putObj_fr _ _ _
    have hv3 : Boxed W3 (w.heap.size + 3) 24 v := hf3.obj hv (by omega)
    have hv03 : Boxed W3 w.heap.size 24 u0 := hf3.obj hv0 (by omega)
    have hv13 : Boxed W3 (w.heap.size + 1) 4 u1 := hf3.obj hv1 (by omega)
    have hK3 := hf3.obj h2.K (by omega)
    have hrow3 : W3.ownsRow w.heap.size 43 4 v (negs l).length (flat OpD.cells (negs l)) := hf3.own hrow (fun k hk e => by subst e; exact not_row' h2.L (by intro c t e; cases e) hrow hk.symm)
    have hF3 : Fr (w.heap.size ≤ ·) w W3 := h2.f.trans hf3 (fun k _ e => by omega)
    obtain ⟨vA, vcap, hveq, _, _, _⟩ := reads_own (by decide) OpD.len hrow3
    subst hveq
    have hc3 := hv3.cell
    have hc03 := hv03.cell
    have hc13 := hv13.cell
    have hz3 := hv3.frozen
    have hz03 := hv03.frozen
    have hz13 := hv13.frozen
    clear hW3
    refine ⟨none, W3, hend, ?_⟩
    have HRow := Aside.mk hrow3
    clear hrow3 hrow hv
    gi_wp2
    have hfx := hv03.set (.slice vA (negs l).length vcap)
    have hk0 : W3.grownBy (W3.setCell ⟨w.heap.size, 0, none⟩ (.slice vA (negs l).length vcap)) (some w.heap.size) := grownBy_setCell' W3 _ _
    have hv14 : Boxed (W3.setCell ⟨w.heap.size, 0, none⟩ (.slice vA (negs l).length vcap)) (w.heap.size + 1) 4 u1 := (Fr.ofGrown hk0).obj hv13 (by simp)
    have hv15 := hv14.set (.bool true)
    have hk1 : (W3.setCell ⟨w.heap.size, 0, none⟩ (.slice vA (negs l).length vcap)).grownBy ((W3.setCell ⟨w.heap.size, 0, none⟩ (.slice vA (negs l).length vcap)).setCell ⟨w.heap.size + 1, 0, none⟩ (.bool true)) (some (w.heap.size + 1)) := grownBy_setCell' _ _ _
    have hv05 := (Fr.ofGrown hk1).obj hfx (by simp)
    have hK5 := (Fr.ofGrown hk1).obj ((Fr.ofGrown hk0).obj hK3 (by simp)) (by simp)
    have hrow5 := (HRow.out.kept hk0 (.inr (not_row hv03 (by decide) HRow.out).symm)).kept hk1 (.inr (not_row hv14 (by decide) (HRow.out.kept hk0 (.inr (not_row hv03 (by decide) HRow.out).symm))).symm)
    generalize (W3.setCell ⟨w.heap.size, 0, none⟩ (.slice vA (negs l).length vcap)).setCell ⟨w.heap.size + 1, 0, none⟩ (.bool true) = W5 at *
    refine ⟨by simp, .inl ⟨_, _, rfl, run_takeDeferred hK5, ?_⟩⟩
    have hf4 := putObj_fr W5 (w.heap.size + 5) (.deferred none)
    have hx0 : (W5.putObj (w.heap.size + 5) (.deferred none)).cell? ⟨w.heap.size, 0, none⟩ = _ := cell_of (hf4.obj hv05 (by omega)) 0
    have hx1 : (W5.putObj (w.heap.size + 5) (.deferred none)).cell? ⟨w.heap.size + 1, 0, none⟩ = _ := cell_of (hf4.obj hv15 (by omega)) 0
    refine ⟨.tuple #[_, _], neg_results _ _ w.heap.size (w.heap.size + 1) _ _ rfl rfl hx0 hx1, _, rfl, hf4.own hrow5 (fun k hk e => by subst e; exact not_row' hK5 (by intro c t e; cases e) hrow5 hk.symm), ?_⟩
    exact ((hF3.trans (Fr.ofGrown hk0) (fun k _ e => by cases e; exact Nat.le_refl _)).trans (Fr.ofGrown hk1) (fun k _ e => by cases e; omega)).trans hf4 (fun k _ e => by omega)
theorem neg_calls (A : Option Addr) (cap : Nat) (l : List OpD) (w : World) (hr : Reads OpD.cells 4 w A l.length l) (hlen : l.length < 100000) (hd : ∀ o ∈ l, -9223372036854775808 < o.d ∧ o.d ≤ 9223372036854775807) :
    Calls Try.prog 58 #[.slice A l.length cap] w fun e w' => ∃ v, e = .returned (.tuple #[v, .bool true]) ∧ OpRow w' w.heap.size v (negs l) ∧ Fr (w.heap.size ≤ ·) w w' :=
  callsIn_wide.1 (neg_in 4 (by omega) A cap l w hr hlen hd)
end Go.Proofs.Ytkfoapbjdegdiaa.Own
