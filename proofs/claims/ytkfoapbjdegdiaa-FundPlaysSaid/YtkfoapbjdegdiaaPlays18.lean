/- pledgelaw18.FundPlays: the walk. -/
import Derived.Test.YtkfoapbjdegdiaaWorks18
import Derived.Test.YtkfoapbjdegdiaaBase2
namespace Go.Proofs.Ytkfoapbjdegdiaa.Own
open Go.RowKit
attribute [local go_sem ↓] Go.wp_at_zero Go.wp_at_succ

/-- What is read lies in no map. -/
theorem Reads.not_map {α κ : Type} {c : α → List Value} {s : Nat} {w : World} {A : Option Addr} {n : Nat} {xs : List α} {kv : κ → Value} {b : Nat} {m : List (κ × Value)} (hc : ∀ x, (c x).length = s) (hs : 0 < s) (h : Reads c s w A n xs) (hn : 0 < n) (hm : MapIs kv w b m) : ∀ ad, A = some ad → ad.block ≠ b := by
  rintro ad e rfl
  obtain ⟨ad', e', h'⟩ := h.2.2 hn
  obtain rfl : ad = ad' := Option.some.inj (e.symm.trans e')
  have hl : 0 < xs.length := by rw [h.1]; exact hn
  have hcell := h' 0 hl 0 hs
  rw [List.getElem?_eq_getElem (by rw [hc]; exact hs)] at hcell
  obtain ⟨es, ck, hb, _⟩ := hm
  unfold World.cell? at hcell
  rw [add_blk, hb] at hcell
  simp at hcell
/-- What is read stays where a map alone, and what is new, is written. -/
theorem Reads.upMap {α κ : Type} {c : α → List Value} {s : Nat} {w w1 : World} {A : Option Addr} {n : Nat} {xs : List α} {kv : κ → Value} {b : Nat} {m : List (κ × Value)} (hc : ∀ x, (c x).length = s) (hs : 0 < s) (h : Reads c s w A n xs) (hm : MapIs kv w b m) (hf : Fr (fun x => x = b ∨ w.heap.size ≤ x) w w1) : Reads c s w1 A n xs := by
  rcases Nat.eq_zero_or_pos n with h0 | h0
  · exact ⟨h.1, h.2.1, fun hn => by omega⟩
  · refine h.fr hc hf (fun ad e => ?_)
    have h1 := h.lt hc hs h0 ad e
    have h2 := h.not_map hc hs h0 hm ad e
    omega
theorem Reads.short {α : Type} {c : α → List Value} {s : Nat} {w : World} {A : Option Addr} {l : List α} (h : Reads c s w A l.length l) (k : Nat) : Reads c s w A (l.take k).length (l.take k) := by
  have h1 := h.take (m := (l.take k).length) (by rw [List.length_take]; omega)
  have e : l.take (l.take k).length = l.take k := by
    rw [List.length_take]
    rcases Nat.le_total k l.length with hk | hk
    · rw [Nat.min_eq_left hk]
    · rw [Nat.min_eq_right hk, List.take_length, List.take_of_length_le hk]
  rw [e] at h1
  exact h1
theorem minLen {α : Type} (l : List α) (k : Nat) : (min (l.length : Int) (k : Int)).toNat = (l.take k).length := by rw [List.length_take]; omega
set_option maxRecDepth 100000 in
set_option maxHeartbeats 4000000 in
theorem fundPlays_calls (A : Option Addr) (cap : Nat) (l0 : List DeclD) (B : Option Addr) (cb : Nat) (a0 : List ActD) (w : World) (hr : Reads DeclD.cells 6 w A l0.length l0) (hro : Reads ActD.cells 5 w B a0.length a0) (hle : l0.length ≤ cap) (hle2 : a0.length ≤ cb)
    (hd : ∀ d ∈ l0, d.In) (ha : ∀ a ∈ a0, (0 ≤ a.call ∧ a.call < 256) ∧ InI64 a.op.d) :
    Calls Try.prog 8 #[.slice A l0.length cap, .slice B a0.length cb] w fun e w' => e = .returned (.bool true) ∧ Fr (w.heap.size ≤ ·) w w' := by
  have hm1 := hr.2.1
  have hm2 := hro.2.1
  obtain ⟨ds, hds⟩ : ∃ ds, l0.take 20 = ds := ⟨_, rfl⟩
  obtain ⟨acts, hacts⟩ : ∃ acts, a0.take 40 = acts := ⟨_, rfl⟩
  have e1 : (min (l0.length : Int) 20).toNat = ds.length := by rw [← hds]; exact minLen l0 20
  have e2 : (min (a0.length : Int) 40).toNat = acts.length := by rw [← hacts]; exact minLen a0 40
  have hd2 : ∀ d ∈ ds, d.In := fun d h => hd d (List.mem_of_mem_take (hds ▸ h))
  have ha2 : ∀ a ∈ acts, (0 ≤ a.call ∧ a.call < 256) ∧ InI64 a.op.d := fun a h => ha a (List.mem_of_mem_take (hacts ▸ h))
  have hl1 : ds.length ≤ 20 := by rw [← hds, List.length_take]; omega
  have hl2 : acts.length ≤ 40 := by rw [← hacts, List.length_take]; omega
  have HR : Aside (Reads DeclD.cells 6 w A ds.length ds) := ⟨by rw [← hds]; exact hr.short 20⟩
  have HO : Aside (Reads ActD.cells 5 w B acts.length acts) := ⟨by rw [← hacts]; exact hro.short 40⟩
  have HE := Aside.mk (And.intro e1 e2)
  have HD := Aside.mk hd2
  have HA := Aside.mk ha2
  clear hr hro hd ha e1 e2 hd2 ha2 hds hacts
  go_enter Try.func8, Try.ntmps8
  go_upto_region 1 with fail
  go_cut [0, 1] (fun v0 v1 wx => v0 = .slice A ds.length cap ∧ v1 = .slice B acts.length cb ∧ Aside (Fr (w.heap.size ≤ ·) w wx))
  case first =>
    go_quiet (fail)
    go_wp2_with fail
    go_meet
    exact ⟨by rw [HE.out.1], by rw [HE.out.2], ⟨(Fr.refl _ w).drewN _⟩⟩
  case rest =>
    obtain ⟨rfl, rfl, HF0⟩ := hcut
    have HRn := Aside.mk (rnew_all ds)
    have HIn := Aside.mk (rnew_in ds HD.out)
    go_wp2_with (first
      | (go_at_call 15; refine (fnew_fund A cap ds _ (HR.out.up DeclD.len (by decide) HF0.out) HD.out).mono ?_; rintro e w1 ⟨p, bt, bm, m0, rfl, hF, hp, hb, hbm, hf⟩; have HF1 := Aside.mk hF; have HFr1 := Aside.mk (HF0.out.up hf); clear hF hf)
      | (go_at_call 20; refine (rnew_calls A cap ds _ (HR.out.up DeclD.len (by decide) HFr1.out) (by omega)).mono ?_; rintro e w2 ⟨C, cc, rfl, hrd, hf⟩; have HRd2 := Aside.mk hrd; have HF2 := Aside.mk (HF1.out.up hf); have HFr2 := Aside.mk (HFr1.out.up hf); clear hrd hf)
      | (go_at_call 19; refine (same_calls _ _ _ HF2.out HRd2.out (by have := HRn.out.2; omega)).mono ?_; rintro e w3 ⟨rfl, hf⟩; have HRd3 := Aside.mk (HRd2.out.up rowCells_len (by decide) hf); have HF3 := Aside.mk (HF2.out.up hf); have HFr3 := Aside.mk (HFr2.out.up hf); clear hf))
    have hbw : w.heap.size ≤ bm := by have := HF0.out.size; omega
    go_loopw [6, 7] (fun v i wr => ∃ (j : Nat) (m : List (KeyD × Value)) (l : List RowD) (A' : Option Addr) (c' : Nat), j ≤ acts.length ∧ i = .int .i64 j ∧ v = .slice A' l.length c' ∧ Aside (FundAt wr p bt bm m l) ∧ Aside (RowsIn l ∧ l.length ≤ 20) ∧ Aside (Reads rowCells 9 wr A' l.length l) ∧ Aside (Fr (w.heap.size ≤ ·) w wr)) (fun _ i _ => acts.length - (intOf i).toNat)
    case atStart => exact ⟨0, m0, rnew ds, C, cc, Nat.zero_le _, rfl, rfl, HF3, ⟨HIn.out, by have := HRn.out.2; omega⟩, HRd3, HFr3⟩
    case round =>
      obtain ⟨j, m, l, A', c', hj, rfl, rfl, HF, HI, HL, HFr⟩ := hrel
      by_cases hlt : j < acts.length
      · obtain ⟨ad, hA, hc0, hc'⟩ := (HO.out.up ActD.len (by decide) HFr.out).at_ (by decide) j hlt
        have hc1 := hc' 1 (by decide) (by decide)
        have hc2 := hc' 2 (by decide) (by decide)
        have hc3 := hc' 3 (by decide) (by decide)
        have hc4 := hc' 4 (by decide) (by decide)
        have hok := HA.out _ (List.getElem_mem hlt)
        clear hc'
        generalize acts[j] = x at hc0 hc1 hc2 hc3 hc4 hok
        have HC := Aside.mk (fun W (hR : Reads rowCells 9 W A' l.length l) => rdo_calls A' c' l (x.call % 6) (by omega) x.op hok.2 W hR HF.out.rising HI.out.1 (by have := HI.out.2; omega))
        have HDo := Aside.mk (fun W (hF : FundAt W p bt bm m l) => do_calls x hok.1 hok.2 W hF HI.out.1)
        have HN := Aside.mk (show Rising (rdo (fun y => fcall (x.call % 6) y x.op.d) l x.op.key).1 ∧ RowsIn (rdo (fun y => fcall (x.call % 6) y x.op.d) l x.op.key).1 ∧ (rdo (fun y => fcall (x.call % 6) y x.op.d) l x.op.key).1.length ≤ 20 from ⟨rdo_rising HF.out.rising _, rdo_in (fun f hf => fcall_in _ f _ hf hok.2) HI.out.1 HF.out.rising _, by have := rdo_len (g := fun y => fcall (x.call % 6) y x.op.d) HF.out.rising x.op.key; have h2 := HI.out.2; omega⟩)
        generalize rdo (fun y => fcall (x.call % 6) y x.op.d) l x.op.key = r at *
        obtain ⟨l2, e2⟩ := r
        obtain ⟨cl, ⟨⟨k1, k2, k3⟩, d⟩⟩ := x
        simp only [ActD.cells, List.getElem?_cons_zero, List.getElem?_cons_succ] at hc0 hc1 hc2 hc3 hc4
        simp only [ActD.av, OpD.av] at HC HDo
        dsimp only at hok HN HC HDo
        obtain ⟨⟨hcl0, hcl1⟩, _⟩ := hok
        subst hA
        have hjl : (j : Int) < (acts.length : Int) := by omega
        have hcm0 : 0 ≤ cl % 6 := by omega
        have hcm1 : cl % 6 < 6 := by omega
        have HWr : Aside (IntKind.i64.wrap (cl.tmod 6) = cl % 6) := ⟨by rw [Int.tmod_eq_emod_of_nonneg hcl0, IntKind.wrap_i64]; omega⟩
        have lad := World.block_lt_of_cell? wr _ hc0
        simp only [add_blk] at lad
        go_upto_region 8 with fail
        go_region_held3 (fun W => W.cell? (ad.add (j * 5)) = some (.int .u8 cl) ∧ W.cell? ⟨(ad.add (j * 5)).block, (ad.add (j * 5)).off + 1, none⟩ = some (.int .u8 k1) ∧ W.cell? ⟨(ad.add (j * 5)).block, (ad.add (j * 5)).off + 2, none⟩ = some (.int .u8 k2) ∧ W.cell? ⟨(ad.add (j * 5)).block, (ad.add (j * 5)).off + 3, none⟩ = some (.int .u8 k3) ∧ W.cell? ⟨(ad.add (j * 5)).block, (ad.add (j * 5)).off + 4, none⟩ = some (.int .i64 d))
          ((refine ⟨?_, ?_, ?_, ?_, ?_⟩ <;> (repeat (first | (with_reducible exact hc0) | (with_reducible exact hc1) | (with_reducible exact hc2) | (with_reducible exact hc3) | (with_reducible exact hc4) | (with_reducible exact d0) | (with_reducible exact d1) | (with_reducible exact d2) | (with_reducible exact d3) | (with_reducible exact d4) | (with_reducible refine cell_drew ?_)))))
          ((first | (go_at_call 30; rw [HWr.out]; refine (HC.out _ (HL.out.up rowCells_len (by decide) (Fr.drew (Fr.refl _ wr)))).mono ?_; rintro e w4 ⟨B4, c4, rfl, hrd, hf⟩; have HRd4 := Aside.mk hrd; have HF4 := Aside.mk ((HF.out.up (Fr.drew (Fr.refl _ wr))).up hf); have HFr4 := Aside.mk (HFr.out.drew.up hf); have d0 := hf.cell (cell_drew hc0) (by simp only [add_blk]; show ¬ wr.heap.size ≤ _; omega); have d1 := hf.cell (cell_drew hc1) (by simp only [add_blk]; show ¬ wr.heap.size ≤ _; omega); have d2 := hf.cell (cell_drew hc2) (by simp only [add_blk]; show ¬ wr.heap.size ≤ _; omega); have d3 := hf.cell (cell_drew hc3) (by simp only [add_blk]; show ¬ wr.heap.size ≤ _; omega); have d4 := hf.cell (cell_drew hc4) (by simp only [add_blk]; show ¬ wr.heap.size ≤ _; omega); clear hrd hf)))
        go_upto_region 9 with fail
        have HU := Aside.mk (fun (W : World) (hf : Fr (fun x => x = bm ∨ w4.heap.size ≤ x) w4 W) => HRd4.out.upMap rowCells_len (by decide) HF4.out.tab.map hf)
        have hbl := HF4.out.apart
        go_wp2_with (first
          | (go_at_call 31; refine (HDo.out _ HF4.out).mono ?_; rintro e w5 ⟨rfl, m5, hF, hf⟩; have HF5 := Aside.mk hF; have HRd5 := Aside.mk (HU.out _ hf); have HFr5 : Aside (Fr (w.heap.size ≤ ·) w w5) := ⟨HFr4.out.trans hf (fun k _ e => by rcases e with e | e; omega; (have := HFr4.out.size; omega))⟩; clear hF hf)
          | (go_at_call 19; refine (same_calls _ _ _ HF5.out HRd5.out (by have := HN.out.2.2; omega)).mono ?_; rintro e w6 ⟨rfl, hf⟩; have HRd6 := Aside.mk (HRd5.out.up rowCells_len (by decide) hf); have HF6 := Aside.mk (HF5.out.up hf); have HFr6 := Aside.mk (HFr5.out.up hf); clear hf))
        go_roundw
        case rel => exact ⟨j + 1, m5, l2, B4, c4, by omega, by go_num, rfl, HF6, ⟨HN.out.2⟩, HRd6, HFr6⟩
        case measure => simp [intOf]; omega
      · go_wp2_with (go_at_call 21; refine (works18 _).mono ?_; rintro e w7 ⟨rfl, hf⟩; have HF7 := Aside.mk (HFr.out.up hf); clear hf)
        go_ret
        exact ⟨rfl, HF7.out⟩
end Go.Proofs.Ytkfoapbjdegdiaa.Own
