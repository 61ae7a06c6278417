/- slices.AppendSeq, Collect at keys of the kind Key, over whatever iterator that gives such keys. -/
import Derived.Test.YtkfoapbjdegdiaaKeys
import Derived.Shelf.SlIterI.Collect
namespace Go.Proofs.Ytkfoapbjdegdiaa.Own
open Go.RowKit Go.Maps Go.Sort Go.Shelf

theorem KeyD.len (k : KeyD) : k.cells.length = 3 := rfl
theorem KeyD.one (k : KeyD) : ∀ u ∈ k.cells, u.oneCell' = true := by simp [KeyD.cells, Value.oneCell']
theorem infoKey : (Try.prog.info? 41).map (fun i => (i.zero, i.size, i.bytes)) = some (some (.agg #[.int .u8 0, .int .u8 0, .int .u8 0]), 3, 3) := by kernel_rfl
def KeyRow (w : World) (base : Nat) (v : Value) (l : List KeyD) : Prop := w.ownsRow base 41 3 v l.length (flat KeyD.cells l)

def apAssign : Code := Code.region 2 #[{ dst := some 5, op := Op.alloc 41, type := 0, pos := "iter.go:51", after := #[], guard := none }, { dst := none, op := Op.store 41 (Operand.tmp 5) (Operand.tmp 7), type := 0, pos := "iter.go:51", after := #[{ on := 0, ground := Ground.data }, { on := 0, ground := Ground.phase }], guard := none }] false
def apBody : Code := Code.block 1 (Code.region 3 #[{ dst := some 8, op := Op.load 67 (Operand.tmp 2), type := 67, pos := "iter.go:52", after := #[], guard := none }, { dst := some 9, op := Op.load 41 (Operand.tmp 5), type := 41, pos := "iter.go:52", after := #[], guard := none }, { dst := some 10, op := Op.buildSlice 67 1 #[(0, Operand.tmp 9)], type := 67, pos := "iter.go:52", after := #[{ on := 1, ground := Ground.data }], guard := none }, { dst := some 11, op := Op.call { callee := Callee.builtin Builtin.append, args := #[Operand.tmp 8, Operand.tmp 10], argTypes := #[67, 67] }, type := 67, pos := "iter.go:52", after := #[{ on := 0, ground := Ground.data }, { on := 2, ground := Ground.data }], guard := none }, { dst := none, op := Op.store 67 (Operand.tmp 2) (Operand.tmp 11), type := 0, pos := "iter.go:52", after := #[{ on := 3, ground := Ground.data }, { on := 3, ground := Ground.chain }, { on := 0, ground := Ground.phase }, { on := 1, ground := Ground.phase }, { on := 2, ground := Ground.phase }, { on := 3, ground := Ground.phase }], guard := none }] false)
def apRec (fn : FuncId) (sv : Value) (Bs D : Nat) (st : LoopState) (pend : Option Code) : Loop :=
  { state := st, pending := pend, fn, tmps := #[.slice none 0 0, sv, .pointer (some ⟨Bs, 0, none⟩), undef, .slice none 0 0, undef, sv, undef, undef, undef, undef, undef, undef], params := #[7], assign := apAssign, body := apBody, defers := D }

/-- Between two rounds: the box holds a row of what has come. -/
structure SeqAt (w0 : World) (fn : FuncId) (sv : Value) (Bs l D : Nat) (ss : List KeyD) (W : World) : Prop where
  box : ∃ v, Boxed W Bs 67 v ∧ KeyRow W w0.heap.size v ss
  L : W.heap[l]? = some (.loop (apRec fn sv Bs D .ready none))
  K : W.heap[D]? = some (.deferred (some []))
  f : Fr (w0.heap.size ≤ ·) w0 W
theorem not_row' {W : World} {b : Nat} {o : Obj} {e : TypeId} {base s n : Nat} {v : Value} {xs : List Value} (h : W.heap[b]? = some o) (ho : ∀ c t, o = .cells c t (0, 0) → t ≠ e) (hr : W.ownsRow base e s v n xs) : some b ≠ v.ownBlock := by
  rcases hr.2 with ⟨rfl, _⟩ | ⟨g, cap, cur, rfl, _, hgb, _⟩
  · simp [Value.ownBlock]
  · intro e'
    obtain rfl : b = g := by simpa [Value.ownBlock] using e'
    rw [h] at hgb
    exact ho _ _ (Option.some.inj hgb) rfl
theorem SeqAt.abides (w0 : World) (fn : FuncId) (sv : Value) (Bs l D B : Nat) (hB : w0.heap.size ≤ B) : AbidesFrom B (SeqAt w0 fn sv Bs l D) := by
  intro s W W' row h hg hrow
  have keep : ∀ {k : Nat} {o : Obj}, W.heap[k]? = some o → o.isWalk = false → W'.heap[k]? = some o := fun {k o} hk ho => (hg.block k (blk_lt hk) (fun e => by
    obtain ⟨_, o', h1, h2⟩ := hrow k e.symm
    rw [hk] at h1; cases h1; rw [ho] at h2; cases h2)).trans hk
  obtain ⟨v, hv, hr⟩ := h.box
  refine ⟨⟨v, keep hv rfl, hr.kept hg ?_⟩, keep h.L rfl, keep h.K rfl, h.f.trans (Fr.ofGrown hg) (fun k _ e => Nat.le_trans hB (hrow k e.symm).1)⟩
  rcases hr.2 with ⟨rfl, _⟩ | ⟨g, cap, cur, rfl, _, hgb, _⟩
  · exact .inl rfl
  · refine .inr (fun e => ?_)
    obtain ⟨_, o', h1, h2⟩ := hrow g (by rw [← e]; rfl)
    rw [hgb] at h1; cases h1; cases h2

theorem putObj_fr (W : World) (l : Nat) (o : Obj) : Fr (· = l) W (W.putObj l o) := by
  have h := grownBy_putObj_a W l o
  exact ⟨h.os, h.tape, h.output, h.size, fun k hk hne => h.block k hk (fun e => hne (by cases e; rfl))⟩

set_option maxRecDepth 100000 in
set_option maxHeartbeats 2000000 in
theorem seq_yield (m : Nat) (w0 : World) (fn : FuncId) (sv : Value) (Bs l D : Nat) (hBl : Bs ≠ l) (hDl : D ≠ l) (hDB : D ≠ Bs) (h0B : w0.heap.size ≤ Bs) (h0l : w0.heap.size ≤ l) (ss : List KeyD) (x : KeyD) (W : World) (h : SeqAt w0 fn sv Bs l D ss W) (hlen : ss.length < 100000000) :
    YieldAt Fence.wide m Try.prog l #[x.val] W fun e W' => e = .returned (.bool true) ∧ SeqAt w0 fn sv Bs l D (ss ++ [x]) W' ∧ KeepsWalks W W' := by
  obtain ⟨v, hv0, hrow0⟩ := h.box
  obtain ⟨k1, k2, k3⟩ := x
  refine ⟨fn, #[.slice none 0 0, sv, .pointer (some ⟨Bs, 0, none⟩), undef, .slice none 0 0, undef, sv, KeyD.val ⟨k1, k2, k3⟩, undef, undef, undef, undef, undef], apAssign, apBody, by simpa [apRec] using run_yield (P := Try.prog) (args := #[KeyD.val ⟨k1, k2, k3⟩]) h.L rfl, roundIn_of_wpIn trivial ?_⟩
  obtain ⟨W1, hW1⟩ : ∃ W1, W.alloc (.cells #[.int .u8 k1, .int .u8 k2, .int .u8 k3] 41) = W1 := ⟨_, rfl⟩
  have hbx : W1.heap[W.heap.size]? = some (.cells #[.int .u8 k1, .int .u8 k2, .int .u8 k3] 41 (0, 0)) := by rw [← hW1]; exact blk_new _ rfl
  have hf1 : Fr (fun _ => False) W W1 := by rw [← hW1]; exact (Fr.refl _ W).alloc _
  have hkw1 : KeepsWalks W W1 := by rw [← hW1]; exact KeepsWalks.alloc _ _
  have hv : Boxed W1 Bs 67 v := hf1.obj hv0 (fun h => h)
  have hL1 := hf1.obj h.L (fun h => h)
  have hK1 := hf1.obj h.K (fun h => h)
  have hrow : W1.ownsRow w0.heap.size 41 3 v ss.length (flat KeyD.cells ss) := hf1.own hrow0 (fun _ _ h => h)
  have hF1 : Fr (w0.heap.size ≤ ·) w0 W1 := h.f.trans hf1 (fun _ _ h => h.elim)
  have hWl : W.heap.size < W1.heap.size := blk_lt hbx
  have hlW : l < W.heap.size := blk_lt h.L
  have hbr := run_beginRound (P := Try.prog) hL1 rfl
  obtain ⟨W2, hW2⟩ : ∃ W2, W1.putObj l (.loop { apRec fn sv Bs D .ready none with state := .busy }) = W2 := ⟨_, rfl⟩
  rw [hW2] at hbr
  have hf2 : Fr (· = l) W1 W2 := by rw [← hW2]; exact putObj_fr _ _ _
  have hk2 : KeepsWalks W W2 := hkw1.trans (by rw [← hW2]; exact KeepsWalks.putObj _ hL1 rfl)
  have hv2 : Boxed W2 Bs 67 v := hf2.obj hv hBl
  have hK2 := hf2.obj hK1 hDl
  have hL2 : W2.heap[l]? = some (.loop { apRec fn sv Bs D .ready none with state := .busy }) := by rw [← hW2]; exact World.putObj_heap_same (blk_lt hL1)
  have hbx2 := hf2.obj hbx (by omega)
  have hr2 : W2.ownsRow w0.heap.size 41 3 v ss.length (flat KeyD.cells ss) := hf2.own hrow (fun k hk e => by subst e; exact not_row' hL1 (by intro c t e; cases e) hrow hk.symm)
  have hF2 : Fr (w0.heap.size ≤ ·) w0 W2 := hF1.trans hf2 (fun k _ e => by rw [e]; exact h0l)
  have hc2 := hv2.cell
  have hfz2 := hv2.frozen
  have hl1 := hv2.lt
  have hsz := hF2.size
  have hx0 := cell_of hbx2 0
  have hx1 := cell_of hbx2 1
  have hx2 := cell_of hbx2 2
  simp only [List.getElem?_toArray, List.getElem?_cons_succ, List.getElem?_cons_zero] at hx0 hx1 hx2
  have HA := Aside.mk (And.intro hW1 hW2)
  clear hW2
  simp only [KeyD.val]
  unfold apAssign
  gi_wp2_with gi_round_op_a
  unfold apBody
  gi_wp2_with (first
    | (gi_at_builtin; refine append_one_in KeyD.cells 3 3 _ KeyD.len KeyD.one (by decide) (by rfl) (by decide) Try.underlying67 infoKey rfl _ _ rfl w0.heap.size v ss rfl (hr2.alloc _) ⟨k1, k2, k3⟩ ⟨W2.heap.size, 0, none⟩ 1 rfl (cells_new _ _ _ _ rfl) (by omega) (by simp; omega) ?_; intro g' cap' w3 hown' hgrow; have hv3 := boxed_after hv2 (by decide) hr2 ((Fr.refl _ W2).alloc _) hgrow; have hc3 := hv3.cell; have hfz3 := hv3.frozen; go_frame)
    | gi_round_op_a)
  obtain ⟨q1, q2, q3⟩ := boxed_done hv2 (by decide) hr2 ((Fr.refl _ W2).alloc _) hgrow hown'
  obtain ⟨w4, hw4⟩ : ∃ w4, w3.setCell ⟨Bs, 0, none⟩ (.slice (some ⟨g', 0, none⟩) (ss.length + 1) cap') = w4 := ⟨_, rfl⟩
  rw [hw4] at q1 q2 q3 ⊢
  clear hw4
  have hne : ∀ {k : Nat} {o : Obj}, W2.heap[k]? = some o → o.isCells = false → ¬ (k = Bs ∨ some k = v.ownBlock) := by
    intro k o hk ho h
    rcases h with rfl | h
    · rw [show W2.heap[k]? = _ from hv2] at hk; cases hk; cases ho
    · exact not_row' hk (by rintro c t rfl; cases ho) hr2 h
  have hL4 := q3.obj hL2 (hne hL2 rfl)
  have hK4 := q3.obj hK2 (hne hK2 rfl)
  have hk4 : KeepsWalks W2 w4 := ⟨q3.size, fun k o hk ho => q3.obj hk (hne hk (by cases o <;> first | rfl | cases ho))⟩
  have hF4 : Fr (w0.heap.size ≤ ·) w0 w4 := hF2.trans q3 (fun k _ e => by rcases e with rfl | e <;> first | exact h0B | exact own_ge hr2 k e)
  have hf5 := putObj_fr w4 l (.loop { { apRec fn sv Bs D .ready none with state := .busy } with state := if (none : Option Code).isNone then .ready else .done, pending := none })
  refine ⟨_, _, run_endRound none hL4, rfl, ⟨⟨_, hf5.obj q1 hBl, hf5.own q2 (fun k hk e => by subst e; exact not_row' hL4 (by intro c t e; cases e) q2 hk.symm)⟩, World.putObj_heap_same (blk_lt hL4), hf5.obj hK4 hDl, hF4.trans hf5 (fun k _ e => by rw [e]; exact h0l)⟩, (hk2.trans hk4).trans (KeepsWalks.putObj _ hL4 rfl)⟩

set_option maxRecDepth 100000 in
set_option maxHeartbeats 2000000 in
/-- slices.AppendSeq(nil, seq). -/
theorem appendSeq (n : Nat) (hn : 2 ≤ n) (g : Nat) (lb : Array Value) (eg : ∀ args w, (callFunc g args).run Try.prog w = .ok (.enter g args) w) (S : List KeyD → Prop) (N : Nat) (hN : N < 100000000) (w : World) (hseq : SeqGives Fence.wide (n - 1) Try.prog g lb KeyD.val S N w) :
    CallsIn Fence.wide n Try.prog 116 #[.slice none 0 0, .func (.func g) #[] lb] w fun e w' => ∃ v ss, e = .returned v ∧ S ss ∧ KeyRow w' w.heap.size v ss ∧ Fr (w.heap.size ≤ ·) w w' := by
  have h1 : 1 ≤ n := by omega
  refine callsIn_of_wp_marks Try.func116 rfl trivial ?_ rfl
  simp only [Try.ntmps116, List.size_toArray, List.length_cons, List.length_nil, Nat.reduceAdd, Nat.reduceSub, Array.replicate_succ, Array.replicate_zero, List.push_toArray, List.append_toArray, List.nil_append, List.cons_append]
  gi_wp2
  refine wpIn_rangeFunc ?_
  intro fn hfn
  rw [show (Fence.wide).round = none from rfl]
  obtain ⟨W0, hW0⟩ : ∃ W0, w.alloc (.cells #[.slice none 0 0] 67) = W0 := ⟨_, rfl⟩
  have hs0 : W0.heap.size = w.heap.size + 1 := by rw [← hW0]; simp
  have hv0 : Boxed W0 w.heap.size 67 (.slice none 0 0) := by rw [← hW0]; exact blk_new _ rfl
  have hf0 : Fr (w.heap.size ≤ ·) w W0 := by rw [← hW0]; exact (Fr.refl _ w).alloc _
  rw [hW0]
  obtain ⟨W1, hW1⟩ : ∃ W1, (W0.alloc (.deferred (some []))).alloc (.loop (apRec fn (.func (.func g) #[] lb) w.heap.size W0.heap.size .ready none)) = W1 := ⟨_, rfl⟩
  have hf1 : Fr (fun _ => False) W0 W1 := by rw [← hW1]; exact ((Fr.refl _ W0).alloc _).alloc _
  have hM : SeqAt w fn (.func (.func g) #[] lb) w.heap.size (W0.heap.size + 1) W0.heap.size [] W1 :=
    ⟨⟨_, hf1.obj hv0 (fun h => h), ⟨rfl, .inl ⟨rfl, rfl⟩⟩⟩, by rw [← hW1]; exact blk_new _ (by simp), by rw [← hW1]; exact blk_old (blk_new _ rfl) _, hf0.trans hf1 (fun _ _ h => h.elim)⟩
  refine ⟨W0.heap.size + 1, [{ target := .collected W0.heap.size, args := #[] }], W1, { target := .fn (.func g) lb, args := #[.func (.yield (W0.heap.size + 1)) #[] #[]] }, W1, g,
    #[.func (.yield (W0.heap.size + 1)) #[] #[]] ++ lb, W1, ?_, ?_, ?_, ?_, fun _ => h1, ?_⟩
  · rw [← hW1]; exact run_enterLoop_outer _ _ _ _ _
  · simp [resolve, go_sem]
  · intro f' hf'; trivial
  · simp [invoke, go_sem, eg]
  · refine (hseq (W0.heap.size + 1) (SeqAt w fn (.func (.func g) #[] lb) w.heap.size (W0.heap.size + 1) W0.heap.size) W1 ((hf0.trans hf1 (fun _ _ h => h.elim)).below (Nat.le_refl _) (fun _ _ => by omega)) (SeqAt.abides w _ _ _ _ _ _ (by have := hf1.size; omega))
      (fun pre x W hJ hl => seq_yield (n - 1 - 1) w fn _ w.heap.size (W0.heap.size + 1) W0.heap.size (by omega) (by omega) (by omega) (Nat.le_refl _) (by omega) pre x W hJ (by omega)) hM).mono ?_
    rintro e W2 ⟨⟨v0, rfl⟩, ss, hS, h2⟩
    obtain ⟨v, hv, hrow⟩ := h2.box
    have hend := run_endLoop (P := Try.prog) h2.L (by simp [apRec])
    obtain ⟨W3, hW3⟩ : ∃ W3, W2.putObj (W0.heap.size + 1) (.loop { apRec fn (.func (.func g) #[] lb) w.heap.size W0.heap.size .ready none with state := .exhausted }) = W3 := ⟨_, rfl⟩
    rw [hW3] at hend
    have hf3 : Fr (· = W0.heap.size + 1) W2 W3 := by rw [← hW3]; exact putObj_fr _ _ _
    have hv3 : Boxed W3 w.heap.size 67 v := hf3.obj hv (by omega)
    have hK3 := hf3.obj h2.K (by omega)
    have hrow3 : W3.ownsRow w.heap.size 41 3 v ss.length (flat KeyD.cells ss) := hf3.own hrow (fun k hk e => by subst e; exact not_row' h2.L (by intro c t e; cases e) hrow hk.symm)
    have hF3 : Fr (w.heap.size ≤ ·) w W3 := h2.f.trans hf3 (fun k _ e => by omega)
    have hc3 := hv3.cell
    have hfz3 := hv3.frozen
    clear hW3
    refine ⟨none, W3, hend, ?_⟩
    gi_wp2
    rw [← hs0]
    refine ⟨by simp, .inl ⟨_, _, rfl, run_takeDeferred hK3, ?_⟩⟩
    have hf4 := putObj_fr W3 W0.heap.size (.deferred none)
    exact ⟨_, results_tmp rfl _ _ _, v, ss, rfl, hS, hf4.own hrow3 (fun k hk e => by subst e; exact not_row' hK3 (by intro c t e; cases e) hrow3 hk.symm), hF3.trans hf4 (fun k _ e => by omega)⟩
end Go.Proofs.Ytkfoapbjdegdiaa.Own
