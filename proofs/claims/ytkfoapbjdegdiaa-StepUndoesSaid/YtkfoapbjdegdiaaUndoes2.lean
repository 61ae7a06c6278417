/- pledgelaw12.StepUndoes: the walk. -/
import Derived.Test.YtkfoapbjdegdiaaUndoes1
import Derived.Test.YtkfoapbjdegdiaaPairs3
import Derived.Deep.RegionHeld3
import Derived.Deep.AppendLies
namespace Go.Proofs.Ytkfoapbjdegdiaa.Own
open Go.RowKit

theorem wp_exits {P : Program} {o : Oper} {a : Act} {w : World} {K : Act → World → Prop} {Q Q' : Exit → Act → World → Prop} (h : ∀ c a w, Q (.panic c) a w → Q' (.panic c) a w) (hl : LetsOut Q → LetsOut Q') (hh : o.wp P a w K Q) : o.wp P a w K Q' := by
  unfold Oper.wp at *
  generalize (execOp a.eval o).run P w = r at *
  cases r with
  | ok n w' =>
    cases n <;> simp only [Oper.upon] at hh ⊢ <;> first
      | exact hh
      | (refine Calls.mono hh ?_
         intro e w''
         cases e <;> first | exact id | exact h _ _ _ | exact hl)
  | halt x w' =>
    cases x <;> simp only [Oper.upon] at hh ⊢ <;> first | exact h _ _ _ hh | exact hh
/-- 'append(xs, ys...)' at rows of structs, at a step of a region that draws. -/
theorem step_append_rows {P : Program} {ops : Array Oper} {o : Oper} {a : Act} {w : World} {K : Act → World → Prop} {Q : Exit → Act → World → Prop} {E : Prop} {α : Type} (c : α → List Value) (s bytes : Nat) (z : Value) (hc : ∀ x, (c x).length = s) (h1 : ∀ x, ∀ u ∈ c x, u.oneCell' = true)
    (hs : 0 < s) (hzs : z.cells.size = s) (hby : bytes ≤ 256) {t e : TypeId} (ht : P.underlying t = some (.slice e)) (hinfo : (P.info? e).map (fun i => (i.zero, i.size, i.bytes)) = some (some z, s, bytes))
    (hgd : o.guard = none) (sl x : Operand) (ho : o.op = .call { callee := .builtin .append, args := #[sl, x], argTypes := #[t, t] })
    (base : Nat) (v : Value) (l : List α) (hv : a.eval sl = v) (hown : w.ownsRow base e s v l.length (flat c l)) (ys : List α) (A : Option Addr) (k : Nat) (hx : a.eval x = .slice A ys.length k) (hr : Reads c s w A ys.length ys) (hk : A = none → k = 0)
    (hlen : l.length + ys.length < 100000000000) (hbase : base ≤ w.heap.size)
    (h : ∀ v' w', w'.ownsRow base e s v' (l ++ ys).length (flat c (l ++ ys)) → w.grownBy w' v.ownBlock → K (a.put o.dst v') w') :
    if Region.wanted o (yielded ops a.tmps) = true then Oper.wp P o a w K Q else E := by
  have hw : Region.wanted o (yielded ops a.tmps) = true := by simp [Region.wanted, hgd]
  rw [if_pos hw]
  have H := append_rows (P := P) (ops := ops) (rest := []) (o := o) (a := a) (w := w) (Q := fun e a w => match e with | .normal => K a w | .panic c => Q (.panic c) a w | _ => False) c s bytes z hc h1 hs hzs hby ht hinfo hgd sl x ho base v l hv hown ys A k hx hr hk hlen hbase h
  unfold wpList at H
  rw [if_pos hw] at H
  rcases H with H | ⟨_, a', w', H⟩
  · refine wp_exits (K := K) ?_ ?_ H
    · exact fun _ _ _ h => h
    · rintro ⟨a', w', h⟩
      exact (h : False).elim
  · exact (H : False).elim
/-- The step lies in the law's box. -/
structure StepAt (w : World) (tag ware : Int) (A : Option Addr) (n cap : Nat) (W : World) : Prop where
  b : W.heap[w.heap.size]? = some (.cells #[.int .u8 tag, .int .u8 ware, .slice A n cap] 27 (0, 0))
  f : Fr (w.heap.size ≤ ·) w W
theorem StepAt.next {w W W' : World} {tag ware : Int} {A : Option Addr} {n cap : Nat} (h : StepAt w tag ware A n cap W) (hf : Fr (W.heap.size ≤ ·) W W') : StepAt w tag ware A n cap W' :=
  ⟨hf.obj h.b (by have := blk_lt h.b; omega), h.f.trans hf (fun k _ e => by have := h.f.size; omega)⟩
theorem StepAt.c0 {w W : World} {tag ware : Int} {A : Option Addr} {n cap : Nat} (h : StepAt w tag ware A n cap W) : W.cell? ⟨w.heap.size, 0, none⟩ = some (.int .u8 tag) := cell_of h.b 0
theorem StepAt.c1 {w W : World} {tag ware : Int} {A : Option Addr} {n cap : Nat} (h : StepAt w tag ware A n cap W) : W.cell? ⟨w.heap.size, 1, none⟩ = some (.int .u8 ware) := cell_of h.b 1
theorem StepAt.c2 {w W : World} {tag ware : Int} {A : Option Addr} {n cap : Nat} (h : StepAt w tag ware A n cap W) : W.cell? ⟨w.heap.size, 2, none⟩ = some (.slice A n cap) := cell_of h.b 2
theorem negs_d (l : List OpD) (h : ∀ o ∈ l, -9223372036854775808 < o.d ∧ o.d ≤ 9223372036854775807) : ∀ o ∈ l ++ negs l, InI64 o.d := by
  intro o ho
  unfold InI64
  rcases List.mem_append.1 ho with h1 | h1
  · have := h o h1; omega
  · obtain ⟨x, hx, rfl⟩ := List.mem_map.1 h1
    have := h x (List.mem_reverse.1 hx)
    simp only [negOp]
    omega
theorem opsOf_u8 (tag ware : Int) (items : List LineD) (hs : ∀ x ∈ items, 0 ≤ x.sku ∧ x.sku < 256) (hw : 0 ≤ ware ∧ ware < 256) : ∀ o ∈ opsOf tag ware items, (0 ≤ o.key.sku ∧ o.key.sku < 256) ∧ (0 ≤ o.key.ware ∧ o.key.ware < 256) := by
  intro o ho
  obtain ⟨x, hx, hxo⟩ := List.mem_flatMap.1 ho
  refine ⟨by rw [onItem_sku tag ware x o hxo]; exact hs x hx, ?_⟩
  have hwa : ∀ k d, 0 ≤ (opAt k x.sku ware d).key.ware ∧ (opAt k x.sku ware d).key.ware < 256 := by
    intro k d
    simp only [opAt]
    split <;> omega
  unfold onItem at hxo
  (repeat' split at hxo) <;> simp only [List.mem_cons, List.not_mem_nil, or_false] at hxo <;> (try rcases hxo with rfl | rfl) <;> (try subst hxo) <;> first | exact hwa _ _ | simp_all
theorem empty_row (W : World) : ((W.alloc (.cells #[] 43)).drew).ownsRow W.heap.size 43 4 (.slice (some ⟨W.heap.size, 0, none⟩) 0 0) ([] : List OpD).length (flat OpD.cells []) :=
  ⟨rfl, .inr ⟨_, 0, #[], rfl, Nat.le_refl _, blk_new _ rfl, Nat.le_refl _, by unfold maxLen; omega, rfl, rfl⟩⟩
set_option maxRecDepth 100000 in
set_option maxHeartbeats 4000000 in
theorem stepUndoes_calls (skus wares tag ware : Int) (A : Option Addr) (cap : Nat) (items : List LineD) (w : World) (hr : Reads LineD.cells 2 w A items.length items) (hq : ∀ x ∈ items, x.qty ≤ 9223372036854775807) (hs : ∀ x ∈ items, 0 ≤ x.sku ∧ x.sku < 256) (hw : 0 ≤ ware ∧ ware < 256) :
    Calls Try.prog 6 #[.int .i64 skus, .int .i64 wares, stepVal tag ware A items.length cap] w fun e w' => e = .returned (.bool true) ∧ Fr (w.heap.size ≤ ·) w w' := by
  have hl := hr.2.1
  obtain ⟨W1, hW1⟩ : ∃ W1, w.alloc (.cells #[.int .u8 tag, .int .u8 ware, .slice A items.length cap] 27) = W1 := ⟨_, rfl⟩
  have h1 : StepAt w tag ware A items.length cap W1 := ⟨by rw [← hW1]; exact blk_new _ rfl, by rw [← hW1]; exact (Fr.refl _ w).alloc _⟩
  have c0 := h1.c0
  have c1 := h1.c1
  have c2 := h1.c2
  have HR := Aside.mk hr
  have HQ := Aside.mk hq
  have HS := Aside.mk hs
  have H1 := Aside.mk h1
  clear hr hq hs h1
  unfold stepVal
  by_cases h20 : items.length ≤ 20
  · have h20d : decide ((items.length : Int) ≤ 20) = true := decide_eq_true (by omega)
    go_enter Try.func6, Try.ntmps6
    go_wp2_with (first
      | (go_at_call 25; refine (few_calls _ _ _ _ _ _).mono ?_; rintro e w2 ⟨rfl, hf2⟩; have H2 := Aside.mk (H1.out.next hf2); have d0 := H2.out.c0; have d1 := H2.out.c1; have d2 := H2.out.c2; clear hf2)
      | (go_at_call 12; refine (ops_calls _ _ _ _ _ _ (HR.out.up LineD.len (by decide) H2.out.f) (by omega) HQ.out).mono ?_; rintro e w3 ⟨lv, rfl, hlrow, hlb⟩; have H3 := Aside.mk (H2.out.next (Fr.ofBelow hlb)); have e0 := H3.out.c0; have e1 := H3.out.c1; have e2 := H3.out.c2; have hlnil : ∀ A m c, lv = .slice A m c → A = none → c = 0 := (fun A m c e => by subst e; exact own_cap hlrow); obtain ⟨lA, lcap, rfl, hlc, hlrd, hlb2⟩ := reads_own (by decide) OpD.len hlrow; have hln := hlnil lA _ lcap rfl; have HLR := Aside.mk hlrd; clear hlrow hlb hlrd hlb2 hlnil))
    have hlen : (opsOf tag ware items).length ≤ 40 := by have := opsOf_len tag ware items; omega
    have HU : Aside (∀ W, Reads LineD.cells 2 W A items.length items → Calls Try.prog 26 #[.agg #[.int .u8 tag, .int .u8 ware, .slice A items.length cap]] W fun e w' => ∃ v, e = .returned v ∧ OpRow w' W.heap.size v (negs (opsOf tag ware items)) ∧ Fr (W.heap.size ≤ ·) W w') := ⟨fun W h => undo_calls tag ware A cap items W h (by omega) HQ.out⟩
    have HLD := Aside.mk (opsOf_d tag ware items HQ.out)
    have HU8 := Aside.mk (opsOf_u8 tag ware items HS.out hw)
    have HG : Aside (StepFine skus wares tag ware items → (∀ o ∈ opsOf tag ware items, keyGood skus wares o.key = true ∧ o.d ≠ 0) ∧ items.length ≤ (opsOf tag ware items).length ∧ (opsOf tag ware items).length ≤ 6 ∧ ((opsOf tag ware items).map (·.key)).Nodup) :=
      ⟨fun h => ⟨opsOf_fine h, opsOf_least h, by have := opsOf_len tag ware items; have := h.2.2.2.1; omega, opsOf_nodup _ _ _ (items_lt h.2.2.2.2)⟩⟩
    generalize opsOf tag ware items = l at *
    have hrow0 := empty_row w3
    have hrd0 : Reads OpD.cells 4 ((w3.alloc (.cells #[] 43)).drew) lA l.length l := HLR.out.up OpD.len (by decide) ((Fr.refl _ w3).alloc _).drew
    have HRow0 := Aside.mk hrow0
    have HRd0 := Aside.mk hrd0
    clear hrow0 hrd0
    go_region_held3 (fun w' => w'.cell? ⟨w.heap.size, 0, none⟩ = some (.int .u8 tag) ∧ w'.cell? ⟨w.heap.size, 1, none⟩ = some (.int .u8 ware) ∧ w'.cell? ⟨w.heap.size, 2, none⟩ = some (.slice A items.length cap))
      (first
        | go_keep
        | exact ⟨f0, f1, f2⟩
        | exact ⟨g0, g1, g2⟩
        | exact ⟨i0, i1, i2⟩
        | exact ⟨j0, j1, j2⟩)
      ((first
        | (go_at_call 26
           refine (HU.out _ (HR.out.up LineD.len (by decide) H4.out.f)).mono ?_
           rintro e w5 ⟨uv, rfl, urow, uf⟩
           have H5 := Aside.mk (H4.out.next uf)
           have g0 := H5.out.c0
           have g1 := H5.out.c1
           have g2 := H5.out.c2
           have HRow5 := Aside.mk (uf.own HRow4.out (fun j hj => by have := (HRow4.out.lt j hj).2; omega))
           have HL5 := Aside.mk (HL4.out.up OpD.len (by decide) uf)
           have hunil : ∀ A m c, uv = .slice A m c → A = none → c = 0 := fun A m c e => by subst e; exact own_cap urow
           obtain ⟨uA, ucap, rfl, _, urd, _⟩ := reads_own (by decide) OpD.len urow
           have hun := hunil uA _ ucap rfl
           have HUR := Aside.mk urd
           clear urow urd hunil)
        | (go_at_call 13
           refine (net_calls nA ncap L2 _ HNR.out hlen2 HD2.out).mono ?_
           rintro e w7 ⟨nv, ks, rfl, hks, hnrow, hnf⟩
           obtain ⟨q1, q2⟩ := net_none (ks := ks) (l := L2) HZ.out
           rw [q2] at hnrow
           have H7 := Aside.mk (H6.out.next hnf)
           have j0 := H7.out.c0
           have j1 := H7.out.c1
           have j2 := H7.out.c2
           have HL7 := Aside.mk (HL6.out.up OpD.len (by decide) hnf)
           obtain ⟨xA, xcap, rfl, _, _, _⟩ := reads_own (by decide) OpD.len hnrow
           rw [q1]
           clear hnrow hnf q1 q2 hks)
        | (refine step_append_rows OpD.cells 4 16 _ OpD.len OpD.one (by decide) (by rfl) (by decide) Try.underlying24 infoOp (by rfl) _ _ (by rfl) w3.heap.size v4 l (by rfl) HRow5.out (negs l) uA ucap (by rfl) HUR.out hun (by rw [negs_len]; omega) (by have := f34.size; have := uf.size; omega) ?_
           intro v6 w6 hown6 hg6
           have f56 : Fr (w3.heap.size ≤ ·) w5 w6 := (Fr.ofGrown hg6).mono (fun k _ e => own_ge HRow5.out k e)
           have f36 : Fr (w3.heap.size ≤ ·) w3 w6 := (f34.trans uf (fun k _ e => by have := f34.size; omega)).trans f56 (fun k _ e => e)
           have H6 := Aside.mk (H3.out.next f36)
           have i0 := H6.out.c0
           have i1 := H6.out.c1
           have i2 := H6.out.c2
           have HL6 := Aside.mk (HLR.out.up OpD.len (by decide) f36)
           obtain ⟨L2, hL2⟩ : ∃ L2, l ++ negs l = L2 := ⟨_, rfl⟩
           have HZ : Aside (∀ k, net L2 k = 0) := ⟨by rw [← hL2]; exact net_undone l⟩
           have HD2 : Aside (∀ o ∈ L2, InI64 o.d) := ⟨by rw [← hL2]; exact negs_d l HLD.out⟩
           have hlen2 : L2.length < 100000 := by rw [← hL2, List.length_append, negs_len]; omega
           rw [hL2] at hown6
           clear hL2
           obtain ⟨nA, ncap, rfl, _, nrd, _⟩ := reads_own (by decide) OpD.len hown6
           have HNR := Aside.mk nrd
           clear hown6 hg6 nrd)
        | (refine step_append_rows OpD.cells 4 16 _ OpD.len OpD.one (by decide) (by rfl) (by decide) Try.underlying24 infoOp (by rfl) _ _ (by rfl) w3.heap.size (.slice (some ⟨w3.heap.size, 0, none⟩) 0 0) [] (by rfl) HRow0.out l lA lcap (by rfl) HRd0.out hln (by first | omega | (simp; omega)) (by first | omega | simp) ?_
           intro v4 w4 hown4 hg4
           have f34 : Fr (w3.heap.size ≤ ·) w3 w4 := ((Fr.refl _ w3).alloc _).drew.trans (Fr.ofGrown hg4) (fun k _ e => by cases e; exact Nat.le_refl _)
           have H4 := Aside.mk (H3.out.next f34)
           have f0 := H4.out.c0
           have f1 := H4.out.c1
           have f2 := H4.out.c2
           rw [List.nil_append] at hown4
           have HRow4 := Aside.mk hown4
           have HL4 := Aside.mk (HLR.out.up OpD.len (by decide) f34)
           clear hown4 hg4)))
    clear c0 c1 c2 d0 d1 d2 e0 e1 e2 f0 f1 f2 g0 g1 g2 i0 i1 i2
    go_wp2_with fail
    refine (sgood_calls skus wares tag ware A cap items _ (HR.out.up LineD.len (by decide) H7.out.f) (by omega) HS.out hw).mono ?_
    rintro e w8 (⟨rfl, hf8⟩ | ⟨rfl, hfine, hf8⟩)
    · have H8 := Aside.mk (H7.out.next hf8)
      clear hf8
      go_wp2_with (go_at_call 14; refine (works12 _).mono ?_; rintro e w9 ⟨rfl, hf9⟩; have H9 := Aside.mk (H8.out.next hf9); clear hf9)
      go_ret
      exact ⟨rfl, H9.out.f⟩
    · have H8 := Aside.mk (H7.out.next hf8)
      have HL8 := Aside.mk (HL7.out.up OpD.len (by decide) hf8)
      obtain ⟨hg1, hg2, hg3, hg4⟩ := HG.out hfine
      have HG1 := Aside.mk hg1
      have HG4 := Aside.mk hg4
      clear hf8 hg1 hg4
      go_wp2_with (go_at_call 13
                   refine (net_calls lA lcap l _ HL8.out (by omega) (fun o ho => by have := HLD.out o ho; unfold InI64; omega)).mono ?_
                   rintro e w9 ⟨nv, ks, rfl, hks, hnrow, hnf⟩
                   obtain ⟨q1, q2⟩ := netOps_len ks l hks HG4.out (fun o ho => ⟨(HG1.out o ho).2, by have := HLD.out o ho; unfold InI64; omega⟩)
                   have H9 := Aside.mk (H8.out.next hnf)
                   have k0 := H9.out.c0
                   have k1 := H9.out.c1
                   have k2 := H9.out.c2
                   have HL9 := Aside.mk (HL8.out.up OpD.len (by decide) hnf)
                   obtain ⟨yA, ycap, rfl, _, _, _⟩ := reads_own (by decide) OpD.len hnrow
                   rw [q1, q2]
                   clear hnrow hnf q1 q2 hks)
      go_loopw [12] (fun i wr => ∃ k : Nat, k ≤ l.length ∧ i = .int .i64 k ∧ Aside (Fr (w9.heap.size ≤ ·) w9 wr)) (fun i _ => l.length - (intOf i).toNat)
      case atStart => exact ⟨0, Nat.zero_le _, rfl, ⟨Fr.refl _ _⟩⟩
      case round =>
        obtain ⟨k, hk, rfl, HF⟩ := hrel
        by_cases hlt : k < l.length
        · obtain ⟨ad, hA, hc0, hc'⟩ := (HL9.out.up OpD.len (by decide) HF.out).at_ (by decide) k hlt
          have hc1 := hc' 1 (by decide) (by decide)
          have hc2 := hc' 2 (by decide) (by decide)
          have hc3 := hc' 3 (by decide) (by decide)
          have hgo := HG1.out _ (List.getElem_mem hlt)
          have hu := HU8.out _ (List.getElem_mem hlt)
          clear hc'
          generalize l[k] = x at hc0 hc1 hc2 hc3 hgo hu
          obtain ⟨⟨x1, x2, x3⟩, d⟩ := x
          simp only [OpD.cells, List.getElem?_cons_zero, List.getElem?_cons_succ] at hc0 hc1 hc2 hc3
          dsimp only at hu hgo
          subst hA
          have hd : (d == 0) = false := beq_eq_false_iff_ne.2 hgo.2
          have HGo := Aside.mk hgo.1
          have HU := Aside.mk hu
          clear hgo hu
          go_wp2_with (go_at_call 28
                       refine (good_below skus wares ⟨x1, x2, x3⟩ HU.out.1 HU.out.2 _).mono ?_
                       rintro e w10 ⟨rfl, hb10⟩
                       have hc3n := (Fr.ofBelow hb10).cell hc3 (by have := World.block_lt_of_cell? wr _ hc3; omega)
                       rw [HGo.out]
                       have HB10 := Aside.mk (Fr.ofBelow hb10)
                       clear hb10)
          go_roundw
          case rel => exact ⟨k + 1, by omega, by go_num, ⟨HF.out.trans HB10.out (fun k _ e => by have := HF.out.size; omega)⟩⟩
          case measure => simp [intOf]; omega
        · have m2 := (H9.out.next HF.out).c2
          have HE := Aside.mk (H9.out.next HF.out)
          have hk6 : (l.length : Int) ≤ 6 := by omega
          have hki : (items.length : Int) ≤ (l.length : Int) := by omega
          go_wp2_with (go_at_call 14; refine (works12 _).mono ?_; rintro e w11 ⟨rfl, hf11⟩; have H11 := Aside.mk (HE.out.next hf11); clear hf11)
          go_ret
          exact ⟨rfl, H11.out.f⟩
  · have h20d : decide ((items.length : Int) ≤ 20) = false := decide_eq_false (by omega)
    have h20n : decide (items.length ≤ 20) = false := decide_eq_false h20
    go_enter Try.func6, Try.ntmps6
    go_wp2_with (first
      | (go_at_call 25; refine (few_calls _ _ _ _ _ _).mono ?_; rintro e w2 ⟨rfl, hf2⟩; have H2 := Aside.mk (H1.out.next hf2); clear hf2; rw [h20n])
      | (go_at_call 14; refine (works12 _).mono ?_; rintro e w3 ⟨rfl, hf3⟩; have H3 := Aside.mk (H2.out.next hf3); clear hf3))
    go_ret
    exact ⟨rfl, H3.out.f⟩
end Go.Proofs.Ytkfoapbjdegdiaa.Own
