/- pledgelaw18: works, do. -/
import Derived.Test.YtkfoapbjdegdiaaSame18
namespace Go.Proofs.Ytkfoapbjdegdiaa.Own
open Go.RowKit
attribute [local go_sem ↓] Go.wp_at_zero Go.wp_at_succ

/-- A row that was laid just now is read. -/
theorem reads_laid {α : Type} (c : α → List Value) (s : Nat) (hc : ∀ x, (c x).length = s) (w : World) (l : List α) (t : TypeId) (hn : l.length ≤ 9223372036854775807) : Reads c s (w.alloc (.cells (flat c l).toArray t)) (some ⟨w.heap.size, 0, none⟩) l.length l := by
  refine ⟨rfl, hn, fun _ => ⟨_, rfl, fun i hi j hj => ?_⟩⟩
  have e : (⟨w.heap.size, 0, none⟩ : Addr).add (i * s + j) = ⟨w.heap.size, i * s + j, none⟩ := by unfold Addr.add; split <;> simp_all
  rw [e, cell_of (blk_new _ rfl), ← flat_get c s hc l i hi j hj]
  simp
def exD : DeclD := ⟨⟨4, 0, 0⟩, 0, 0, 3⟩
def exO : OpD := ⟨⟨4, 0, 0⟩, 2⟩
theorem ex_rows : rnew [exD] = [(⟨4, 0, 0⟩, ⟨0, 3, 0, 0, 0, 0⟩)] := by decide
theorem ex_try : rtry (rnew [exD]) [exO, exO] = 3 := by decide
set_option maxRecDepth 100000 in
set_option maxHeartbeats 4000000 in
theorem works18 (w : World) : Calls Try.prog 21 #[] w fun e w' => e = .returned (.bool true) ∧ Fr (w.heap.size ≤ ·) w w' := by
  have HN := Aside.mk (fnew_fund (some ⟨w.heap.size + 1, 0, none⟩) 1 [exD] ((w.alloc (.cells (KeyD.mk 4 0 0).cells.toArray 41)).alloc (.cells (flat DeclD.cells [exD]).toArray 96)) (by have := reads_laid DeclD.cells 6 DeclD.len (w.alloc (.cells (KeyD.mk 4 0 0).cells.toArray 41)) [exD] 96 (by simp); simpa using this) (by intro d hd; simp at hd; subst hd; unfold DeclD.In InI64; decide))
  have HT := Aside.mk (fun p bt bm m (W : World) (h : FundAt W p bt bm m (rnew [exD])) => ftry_calls (p := p) (bt := bt) (bm := bm) (m := m) (l := rnew [exD]) (some ⟨W.heap.size, 0, none⟩) 2 [exO, exO] (W.alloc (.cells (flat OpD.cells [exO, exO]).toArray 43)) (h.up ((Fr.refl _ W).alloc _)) (by have := reads_laid OpD.cells 4 OpD.len W [exO, exO] 43 (by simp); simpa using this) (by intro d hd; simp at hd; subst hd; unfold InI64; decide) (rnew_in _ (by intro d hd; simp at hd; subst hd; unfold DeclD.In InI64; decide)))
  rw [ex_try] at HT
  have HG := Aside.mk (fun p bt bm m (W : World) (h : FundAt W p bt bm m (rnew [exD])) => fget_calls ⟨4, 0, 0⟩ W h)
  rw [show rget (rnew [exD]) ⟨4, 0, 0⟩ = some ⟨0, 3, 0, 0, 0, 0⟩ from by decide] at HG
  generalize rnew [exD] = R at *
  simp only [flat, exD, exO, DeclD.cells, OpD.cells, KeyD.cells, List.flatMap_cons, List.flatMap_nil, List.append_nil, List.length_cons, List.length_nil, Nat.zero_add, Nat.reduceAdd, List.cons_append, List.nil_append] at HN HT
  simp only [KeyD.val, FieldD.val, fromOpt, Option.getD_some, Option.isSome_some] at HG
  go_enter Try.func21, Try.ntmps21
  go_wp2_with (first
    | (go_at_call 15; refine HN.out.mono ?_; rintro e w1 ⟨p, bt, bm, m, rfl, hF, hp, hb, hbm, hf⟩; have hk := hf.obj (blk_old (blk_new (b := w.heap.size) _ rfl) _) (by simp; omega); obtain ⟨c0, c1, c2⟩ := wholeKey _ _ ⟨4, 0, 0⟩ hk; have hl := blk_lt hk; have HF := Aside.mk hF; have HFr := Aside.mk ((((Fr.refl (w.heap.size ≤ ·) w).alloc _).alloc _).up hf); have HK := Aside.mk hk; clear hF hf hk)
    | (go_at_call 17; refine (HT.out _ _ _ _ _ HF.out).mono ?_; rintro e w2 ⟨rfl, hf⟩; have hk := hf.obj (blk_old HK.out _) (by simp; omega); obtain ⟨d0, d1, d2⟩ := wholeKey _ _ ⟨4, 0, 0⟩ hk; have hl2 := blk_lt hk; have HF2 := Aside.mk ((HF.out.up ((Fr.refl _ w1).alloc _)).up hf); have HFr2 := Aside.mk ((HFr.out.alloc _).up hf); clear hf hk)
    | (go_at_call 32; refine (HG.out _ _ _ _ _ HF2.out).mono ?_; rintro e w3 ⟨rfl, hf⟩; have HFr3 := Aside.mk (HFr2.out.up hf); clear hf))
  go_ret
  exact ⟨rfl, HFr3.out.alloc _⟩
structure ActD where
  call : Int
  op : OpD
  deriving DecidableEq
def ActD.cells (a : ActD) : List Value := [.int .u8 a.call, .int .u8 a.op.key.kind, .int .u8 a.op.key.sku, .int .u8 a.op.key.ware, .int .i64 a.op.d]
def ActD.av (a : ActD) : Value := .agg #[.int .u8 a.call, .int .u8 a.op.key.kind, .int .u8 a.op.key.sku, .int .u8 a.op.key.ware, .int .i64 a.op.d]
theorem ActD.len (a : ActD) : a.cells.length = 5 := rfl
/-- A call by its number, of whatever the six contracts tell. -/
theorem do_gen (pv : Value) (c : Int) (h0 : 0 ≤ c) (h1 : c < 256) (o : OpD) (w : World) (R : Ending → World → Prop)
    (C0 : c % 6 = 0 → ∀ W, Fr (w.heap.size ≤ ·) w W → Calls Try.prog 18 #[pv, o.av] W fun e w' => (∃ z, e = .returned (.int .i64 z)) ∧ R e w')
    (C1 : c % 6 = 1 → ∀ W, Fr (w.heap.size ≤ ·) w W → Calls Try.prog 29 #[pv, o.av] W fun e w' => (∃ z, e = .returned (.int .i64 z)) ∧ R e w')
    (C2 : c % 6 = 2 → ∀ W, Fr (w.heap.size ≤ ·) w W → Calls Try.prog 66 #[pv, o.av] W fun e w' => (∃ z, e = .returned (.int .i64 z)) ∧ R e w')
    (C3 : c % 6 = 3 → ∀ W, Fr (w.heap.size ≤ ·) w W → Calls Try.prog 67 #[pv, o.av] W fun e w' => (∃ z, e = .returned (.int .i64 z)) ∧ R e w')
    (C4 : c % 6 = 4 → ∀ W, Fr (w.heap.size ≤ ·) w W → Calls Try.prog 68 #[pv, o.av] W fun e w' => (∃ z, e = .returned (.int .i64 z)) ∧ R e w')
    (C5 : c % 6 = 5 → ∀ W, Fr (w.heap.size ≤ ·) w W → Calls Try.prog 69 #[pv, o.av] W fun e w' => (∃ z, e = .returned (.int .i64 z)) ∧ R e w')
    : Calls Try.prog 31 #[pv, .agg #[.int .u8 c, .int .u8 o.key.kind, .int .u8 o.key.sku, .int .u8 o.key.ware, .int .i64 o.d]] w R := by
  obtain ⟨⟨k1, k2, k3⟩, d⟩ := o
  simp only [OpD.av] at *
  have hm : c % 6 = 0 ∨ c % 6 = 1 ∨ c % 6 = 2 ∨ c % 6 = 3 ∨ c % 6 = 4 ∨ c % 6 = 5 := by omega
  rcases hm with hm | hm | hm | hm | hm | hm
  · have HC := Aside.mk (C0 hm)
    have b1 : (c % 6 == 1) = false := by rw [hm]; rfl
    have b2 : (c % 6 == 2) = false := by rw [hm]; rfl
    have b3 : (c % 6 == 3) = false := by rw [hm]; rfl
    have b4 : (c % 6 == 4) = false := by rw [hm]; rfl
    have b5 : (c % 6 == 5) = false := by rw [hm]; rfl
    clear C0 C1 C2 C3 C4 C5 hm
    go_enter Try.func31, Try.ntmps31
    go_wp2_with (go_at_call 18; refine (HC.out _ ((Fr.refl _ w).alloc _)).mono ?_; rintro e w1 ⟨⟨z, rfl⟩, hR⟩; have HR := Aside.mk hR; clear hR)
    exact HR.out
  · have HC := Aside.mk (C1 hm)
    have b1 : (c % 6 == 1) = true := by rw [hm]; rfl
    have b2 : (c % 6 == 2) = false := by rw [hm]; rfl
    have b3 : (c % 6 == 3) = false := by rw [hm]; rfl
    have b4 : (c % 6 == 4) = false := by rw [hm]; rfl
    have b5 : (c % 6 == 5) = false := by rw [hm]; rfl
    clear C0 C1 C2 C3 C4 C5 hm
    go_enter Try.func31, Try.ntmps31
    go_wp2_with (go_at_call 29; refine (HC.out _ ((Fr.refl _ w).alloc _)).mono ?_; rintro e w1 ⟨⟨z, rfl⟩, hR⟩; have HR := Aside.mk hR; clear hR)
    exact HR.out
  · have HC := Aside.mk (C2 hm)
    have b1 : (c % 6 == 1) = false := by rw [hm]; rfl
    have b2 : (c % 6 == 2) = true := by rw [hm]; rfl
    have b3 : (c % 6 == 3) = false := by rw [hm]; rfl
    have b4 : (c % 6 == 4) = false := by rw [hm]; rfl
    have b5 : (c % 6 == 5) = false := by rw [hm]; rfl
    clear C0 C1 C2 C3 C4 C5 hm
    go_enter Try.func31, Try.ntmps31
    go_wp2_with (go_at_call 66; refine (HC.out _ ((Fr.refl _ w).alloc _)).mono ?_; rintro e w1 ⟨⟨z, rfl⟩, hR⟩; have HR := Aside.mk hR; clear hR)
    exact HR.out
  · have HC := Aside.mk (C3 hm)
    have b1 : (c % 6 == 1) = false := by rw [hm]; rfl
    have b2 : (c % 6 == 2) = false := by rw [hm]; rfl
    have b3 : (c % 6 == 3) = true := by rw [hm]; rfl
    have b4 : (c % 6 == 4) = false := by rw [hm]; rfl
    have b5 : (c % 6 == 5) = false := by rw [hm]; rfl
    clear C0 C1 C2 C3 C4 C5 hm
    go_enter Try.func31, Try.ntmps31
    go_wp2_with (go_at_call 67; refine (HC.out _ ((Fr.refl _ w).alloc _)).mono ?_; rintro e w1 ⟨⟨z, rfl⟩, hR⟩; have HR := Aside.mk hR; clear hR)
    exact HR.out
  · have HC := Aside.mk (C4 hm)
    have b1 : (c % 6 == 1) = false := by rw [hm]; rfl
    have b2 : (c % 6 == 2) = false := by rw [hm]; rfl
    have b3 : (c % 6 == 3) = false := by rw [hm]; rfl
    have b4 : (c % 6 == 4) = true := by rw [hm]; rfl
    have b5 : (c % 6 == 5) = false := by rw [hm]; rfl
    clear C0 C1 C2 C3 C4 C5 hm
    go_enter Try.func31, Try.ntmps31
    go_wp2_with (go_at_call 68; refine (HC.out _ ((Fr.refl _ w).alloc _)).mono ?_; rintro e w1 ⟨⟨z, rfl⟩, hR⟩; have HR := Aside.mk hR; clear hR)
    exact HR.out
  · have HC := Aside.mk (C5 hm)
    have b1 : (c % 6 == 1) = false := by rw [hm]; rfl
    have b2 : (c % 6 == 2) = false := by rw [hm]; rfl
    have b3 : (c % 6 == 3) = false := by rw [hm]; rfl
    have b4 : (c % 6 == 4) = false := by rw [hm]; rfl
    have b5 : (c % 6 == 5) = true := by rw [hm]; rfl
    clear C0 C1 C2 C3 C4 C5 hm
    go_enter Try.func31, Try.ntmps31
    go_wp2_with (go_at_call 69; refine (HC.out _ ((Fr.refl _ w).alloc _)).mono ?_; rintro e w1 ⟨⟨z, rfl⟩, hR⟩; have HR := Aside.mk hR; clear hR)
    exact HR.out
theorem do_calls {p bt bm : Nat} {m : List (KeyD × Value)} {l : List RowD} (a : ActD) (h0 : 0 ≤ a.call ∧ a.call < 256) (hd : InI64 a.op.d) (w : World) (h : FundAt w p bt bm m l) (hin : RowsIn l) :
    Calls Try.prog 31 #[.pointer (some ⟨p, 0, none⟩), a.av] w fun e w' => e = .returned (.int .i64 (rdo (fun x => fcall (a.call % 6) x a.op.d) l a.op.key).2) ∧ ∃ m', FundAt w' p bt bm m' (rdo (fun x => fcall (a.call % 6) x a.op.d) l a.op.key).1 ∧ Fr (fun x => x = bm ∨ w.heap.size ≤ x) w w' := by
  have key : ∀ (g : FieldD → FieldD × Int) (hg : (fun x => fcall (a.call % 6) x a.op.d) = g) (f : FuncId), (∀ W, FundAt W p bt bm m l → Calls Try.prog f #[.pointer (some ⟨p, 0, none⟩), a.op.av] W fun e w' => e = .returned (.int .i64 (rdo g l a.op.key).2) ∧ ∃ m', FundAt w' p bt bm m' (rdo g l a.op.key).1 ∧ Fr (fun x => x = bm ∨ W.heap.size ≤ x) W w') →
      ∀ W, Fr (w.heap.size ≤ ·) w W → Calls Try.prog f #[.pointer (some ⟨p, 0, none⟩), a.op.av] W fun e w' => (∃ z, e = .returned (.int .i64 z)) ∧ (e = .returned (.int .i64 (rdo (fun x => fcall (a.call % 6) x a.op.d) l a.op.key).2) ∧ ∃ m', FundAt w' p bt bm m' (rdo (fun x => fcall (a.call % 6) x a.op.d) l a.op.key).1 ∧ Fr (fun x => x = bm ∨ w.heap.size ≤ x) w w') := by
    intro g hg f hC W hf
    rw [hg]
    refine (hC W (h.up hf)).mono fun e w' ⟨he, m', h1, h2⟩ => ⟨⟨_, he⟩, he, m', h1, ?_⟩
    exact (hf.mono (fun _ _ h => .inr h)).trans h2 (fun k hk e => by rcases e with e | e; exact .inl e; exact .inr (by have := hf.size; omega))
  refine do_gen _ a.call h0.1 h0.2 a.op w _ ?_ ?_ ?_ ?_ ?_ ?_
  · exact fun hc => key _ (by rw [hc]; rfl) _ (fun W hW => fu_grant_calls a.op hd W hW hin)
  · exact fun hc => key _ (by rw [hc]; rfl) _ (fun W hW => fu_undo_calls a.op hd W hW hin)
  · exact fun hc => key _ (by rw [hc]; rfl) _ (fun W hW => fu_settle_calls a.op hd W hW hin)
  · exact fun hc => key _ (by rw [hc]; rfl) _ (fun W hW => fu_back_calls a.op hd W hW hin)
  · exact fun hc => key _ (by rw [hc]; rfl) _ (fun W hW => fu_forth_calls a.op hd W hW hin)
  · exact fun hc => key _ (by rw [hc]; rfl) _ (fun W hW => fu_drop_calls a.op hd W hW hin)
theorem doNil_calls (a : ActD) (h0 : 0 ≤ a.call ∧ a.call < 256) (w : World) : Calls Try.prog 31 #[.pointer none, a.av] w fun e w' => e = .returned (.int .i64 10) ∧ Fr (w.heap.size ≤ ·) w w' := by
  refine do_gen _ a.call h0.1 h0.2 a.op w _ ?_ ?_ ?_ ?_ ?_ ?_
  · exact fun _ W hf => (fgrantNil_calls a.op W).mono fun e w' ⟨he, h1⟩ => ⟨⟨_, he⟩, he, hf.up h1⟩
  · exact fun _ W hf => (fundoNil_calls a.op W).mono fun e w' ⟨he, h1⟩ => ⟨⟨_, he⟩, he, hf.up h1⟩
  · exact fun _ W hf => (fsettleNil_calls a.op W).mono fun e w' ⟨he, h1⟩ => ⟨⟨_, he⟩, he, hf.up h1⟩
  · exact fun _ W hf => (fbackNil_calls a.op W).mono fun e w' ⟨he, h1⟩ => ⟨⟨_, he⟩, he, hf.up h1⟩
  · exact fun _ W hf => (fforthNil_calls a.op W).mono fun e w' ⟨he, h1⟩ => ⟨⟨_, he⟩, he, hf.up h1⟩
  · exact fun _ W hf => (fdropNil_calls a.op W).mono fun e w' ⟨he, h1⟩ => ⟨⟨_, he⟩, he, hf.up h1⟩
end Go.Proofs.Ytkfoapbjdegdiaa.Own
