/- op.Net: the walk. -/
import Derived.Test.YtkfoapbjdegdiaaNet
import Derived.Test.YtkfoapbjdegdiaaStep
namespace Go.Proofs.Ytkfoapbjdegdiaa.Own
open Go.RowKit

theorem zero82 (w : World) : (zeroValue 82).run Try.prog w = .ok (.slice none 0 0) w := by kernel_rfl

set_option maxRecDepth 100000 in
set_option maxHeartbeats 2000000 in
theorem net_calls (A : Option Addr) (cap : Nat) (l : List OpD) (w : World) (hr : Reads OpD.cells 4 w A l.length l) (hlen : l.length < 100000) (hd : ∀ o ∈ l, InI64 o.d) :
    Calls Try.prog 13 #[.slice A l.length cap] w fun e w' => ∃ v ks, e = .returned (.tuple #[v, .bool (netOk ks l)]) ∧ NetKeys ks l ∧ OpRow w' w.heap.size v (netOps ks l) ∧ Fr (w.heap.size ≤ ·) w w' := by
  have HR := Aside.mk hr
  have HD := Aside.mk hd
  clear hr hd
  have hmm := @run_makeMap Try.prog
  go_enter Try.func13, Try.ntmps13
  go_wp2_with fail
  go_loopw [15] (fun i wr => ∃ (k : Nat) (m : List (KeyD × Value)), k ≤ l.length ∧ m.length ≤ k ∧ i = .int .i64 k ∧ Aside (Groups w.heap.size wr w.heap.size m (l.take k)) ∧ Aside (Fr (w.heap.size ≤ ·) w wr)) (fun i _ => l.length - (intOf i).toNat)
  case atStart =>
    refine ⟨0, [], Nat.zero_le _, Nat.le_refl _, rfl, ⟨MapIs.new _ _, by simp, by simp, by simp⟩, ⟨(Fr.refl _ w).alloc _⟩⟩
  case round =>
    obtain ⟨k, m, hk, hmk, rfl, HG, HF⟩ := hrel
    by_cases hlt : k < l.length
    · obtain ⟨ad, hA, hc0, hc'⟩ := (HR.out.up OpD.len (by decide) HF.out).at_ (by decide) k hlt
      have hc1 := hc' 1 (by decide) (by decide)
      have hc2 := hc' 2 (by decide) (by decide)
      have hc3 := hc' 3 (by decide) (by decide)
      have HN := Aside.mk (take_snoc l k hlt)
      clear hc'
      generalize l[k] = x at hc0 hc1 hc2 hc3 HN
      obtain ⟨⟨k1, k2, k3⟩, d⟩ := x
      simp only [OpD.cells, List.getElem?_cons_zero, List.getElem?_cons_succ] at hc0 hc1 hc2 hc3
      subst hA
      have hf1 := ((Fr.refl (fun _ => False) wr).alloc (.cells #[.int .u8 k1, .int .u8 k2, .int .u8 k3, .int .i64 d] 43)).alloc (.cells #[.int .i64 d] 2)
      have HG1 := Aside.mk (HG.out.fr hf1 (fun _ _ h => h))
      have HF1 := Aside.mk hf1
      have hbl := HG.out.map.lt
      clear hf1
      have hdl : (deltas (l.take k) ⟨k1, k2, k3⟩).length < 100000 := by have h1 := deltas_len (l.take k) ⟨k1, k2, k3⟩; have h2 := List.length_take_le k l; omega
      have hsz := HF.out.size
      go_wp2_with (first
        | (at_builtin; refine append_one_at cellI 1 8 _ cellI_len cellI_one (by decide) (by rfl) (by decide) Try.underlying82 infoI64 rfl _ _ rfl w.heap.size v (deltas (l.take k) ⟨k1, k2, k3⟩) rfl hrow2.out d ⟨wr.heap.size + 1, 0, none⟩ 1 rfl hn2.out (by omega) (by omega) ?_; intro g' cap' W3 hown3 hgrow hat; obtain ⟨W4, hrun, hm4, hf4, hs4⟩ := HST.out W3 (.slice (some ⟨g', 0, none⟩) ((deltas (l.take k) ⟨k1, k2, k3⟩).length + 1) cap') (hgrow.block _ (by omega) (fun e => hnb.out _ e.symm rfl)); have HH := Aside.mk (And.intro hgrow (And.intro hown3 hat)); have HRun := Aside.mk hrun; clear hrun hgrow hown3 hat)
        | (refine wpList_entryStore rfl _ _ _ rfl rfl rfl rfl HRun.out ?_)
        | (refine wpList_mapEntry rfl _ _ rfl keyOps Try.underlying81 (zero82 _) ⟨k1, k2, k3⟩ rfl rfl HG1.out.map ?_; intro W2 s hm2 hf2 hs2 hst; have hrow := HG1.out.row ⟨k1, k2, k3⟩; have hnb := Aside.mk (HG1.out.map.no_row hrow); generalize hv : (mget m ⟨k1, k2, k3⟩).getD (.slice none 0 0) = v at *; have HV := Aside.mk hv; have HST := Aside.mk hst; have hrow2 := Aside.mk (hf2.own hrow (fun j hj => hnb.out j hj)); have hn2 := Aside.mk (fun j u hj => hf2.cell (cells_new _ #[.int .i64 d] _ (wr.heap.size + 1) (by simp) j u hj) (by rw [add_blk]; show ¬ (wr.heap.size + 1 = w.heap.size); omega)); have HS2 := Aside.mk hs2; have hs2' : wr.heap.size + 2 = W2.heap.size := (by rw [hs2]; simp); have HF2 := Aside.mk hf2; clear hv hst hrow hm2 hs2 hf2))
      obtain ⟨hgrow, hown3, hat⟩ := HH.out
      have hG4 := Groups.step (o := ⟨⟨k1, k2, k3⟩, d⟩) HG1.out HV.out.symm HF2.out HS2.out hgrow hown3 hat hf4 hm4
      rw [← HN.out] at hG4
      refine ⟨⟨k + 1, _, by omega, Nat.le_trans (mset_len _ _ _) (by omega), by go_num, ⟨hG4⟩, ⟨?_⟩⟩, by simp [intOf]; omega⟩
      refine (((HF.out.trans HF1.out (fun _ _ h => h.elim)).trans HF2.out (fun k _ e => ?_)).trans (Fr.ofGrown hgrow) (fun k _ e => ?_)).trans hf4 (fun k _ e => ?_)
      · omega
      · exact own_ge hrow2.out k e
      · omega
    · have HE : Aside (l.take k = l) := ⟨List.take_of_length_le (by omega)⟩
      have hG := HG.out
      rw [HE.out] at hG
      have HG2 := Aside.mk hG
      have hml : m.length ≤ l.length := by omega
      have hK : SeqGives Fence.wide 1 Try.prog 82 #[.pointer (some ⟨wr.heap.size, 0, none⟩)] KeyD.val (fun ss => ss.Perm (m.map (·.1))) m.length (wr.alloc (.cells #[.map (some w.heap.size)] 81)) :=
        keysI_gives 1 (by omega) wr.heap.size w.heap.size m _ (by simp) (by rw [cell_of (blk_new _ rfl)]; rfl) (hG.map.alloc _)
      have hS := sorted 82 _ (enters_of Try.func82 (by kernel_rfl) rfl) _ m.length (by omega) (fun ss h => by have := h.length_eq; simp at this; omega) _ hK
      have HSo := Aside.mk hS
      clear hS hG
      go_wp2_with (first
        | (go_at_call 39; refine (keysI_mk _ _).mono ?_; rintro e w' ⟨rfl, rfl⟩)
        | (go_at_call 38; refine HSo.out.mono ?_; rintro e w2 ⟨sv, ss, rfl, hperm, hsrow, hsf⟩; obtain ⟨sA, scap, rfl, hsle, hsr, hsb⟩ := reads_own (by decide) KeyD.len hsrow; have hNK := Aside.mk (netKeys_of HG2.out hperm); have hlen2 : (sortKeys ss).length < 100000 := (by rw [sortKeys_len]; have := hperm.length_eq; simp at this; omega); generalize sortKeys ss = ks at *; have HSR := Aside.mk hsr; have HSF := Aside.mk hsf; clear hsr hsf hsb hperm hsrow))
      have hfw : Fr (w.heap.size ≤ ·) w w2 := (HF.out.alloc _).trans HSF.out (fun k _ e => by have := HF.out.size; simp at e; omega)
      have hG3 : Groups w.heap.size w2 w.heap.size m l := (HG2.out.fr ((Fr.refl (fun _ => False) wr).alloc (.cells #[.map (some w.heap.size)] 81)) (fun _ _ h => h)).fr HSF.out (fun k hk e => by omega)
      have HFW := Aside.mk hfw
      have HG3 := Aside.mk hG3
      clear hfw hG3
      go_loopw [7, 34] (fun v i wq => ∃ j : Nat, j ≤ ks.length ∧ i = .int .i64 j ∧ OpRow wq w2.heap.size v (netSome (ks.take j) l) ∧ Aside (Fr (w2.heap.size ≤ ·) w2 wq) ∧ Aside (∀ k ∈ ks.take j, fits (total (deltas l k)) = true)) (fun _ i _ => ks.length - (intOf i).toNat)
      case atStart => exact ⟨0, Nat.zero_le _, rfl, ⟨by simp [netSome, flat], .inl ⟨rfl, by simp [netSome]⟩⟩, ⟨Fr.refl _ _⟩, ⟨by simp⟩⟩
      case round =>
        obtain ⟨j, hj, rfl, hrow, HFq, HFit⟩ := hrel
        by_cases hlt2 : j < ks.length
        · obtain ⟨ad, hA, hc0, hc'⟩ := (HSR.out.up KeyD.len (by decide) HFq.out).at_ (by decide) j hlt2
          have hc1 := hc' 1 (by decide) (by decide)
          have hc2 := hc' 2 (by decide) (by decide)
          have HN := Aside.mk (take_snoc ks j hlt2)
          clear hc'
          have hmem : ks[j] ∈ ks := List.getElem_mem hlt2
          have HMem := Aside.mk hmem
          clear hmem
          generalize ks[j] = x at hc0 hc1 hc2 HN HMem
          obtain ⟨k1, k2, k3⟩ := x
          simp only [KeyD.cells, List.getElem?_cons_zero, List.getElem?_cons_succ] at hc0 hc1 hc2
          subst hA
          have hfq2 := (Fr.refl (fun _ => False) wr).alloc (.cells #[.int .u8 k1, .int .u8 k2, .int .u8 k3] 41)
          have hG4 := (HG3.out.fr HFq.out (fun k hk e => by omega)).fr hfq2 (fun _ _ h => h)
          obtain ⟨A2, c2, hv2, hle2, hrd2, _⟩ := reads_own (by decide) cellI_len (hG4.row ⟨k1, k2, k3⟩)
          have hS2 := sum_calls A2 c2 (deltas l ⟨k1, k2, k3⟩) _ hrd2 (by have := deltas_len l ⟨k1, k2, k3⟩; omega) (by
            intro x hx
            obtain ⟨o, ho, rfl⟩ := List.mem_map.1 hx
            exact HD.out o (List.mem_filter.1 ho).1)
          have HV2 := Aside.mk hv2
          have HG4 := Aside.mk hG4
          clear hv2 hrd2 hle2 hG4
          unfold sumOf at hS2
          have HNs := Aside.mk (netSome_snoc (ks.take j) ⟨k1, k2, k3⟩ l)
          have hnl := netSome_len (ks.take j) l
          have hnl2 := List.length_take_le j ks
          have HFX : Aside (∀ b, fits (total (deltas l ⟨k1, k2, k3⟩)) = b → b = b) := ⟨fun _ _ => rfl⟩
          have hszq := HFq.out.size
          have hszw := HFW.out.size
          cases hfit : fits (total (deltas l ⟨k1, k2, k3⟩)) with
          | false =>
            rw [hfit, if_neg (by simp)] at hS2
            have HFit2 := Aside.mk hfit
            have HS2 := Aside.mk hS2
            clear hfit hS2
            go_wp2_with (first
              | (refine wpList_lookup1 rfl _ _ rfl keyOps Try.underlying81 (zero82 _) ⟨k1, k2, k3⟩ rfl rfl HG4.out.map HV2.out ?_)
              | (go_at_call 41; refine HS2.out.mono ?_; rintro e w' ⟨rfl, rfl⟩))
            go_ret2
            have hno : netOk ks l = false := by
              cases h : netOk ks l
              · rfl
              · have := List.all_eq_true.1 h _ HMem.out
                rw [HFit2.out] at this
                cases this
            exact ⟨_, ks, by rw [hno]; rfl, hNK.out, by rw [netOps, hno]; exact ⟨rfl, .inl ⟨rfl, rfl⟩⟩, (HFW.out.trans HFq.out (fun k _ e => by omega)).alloc _⟩
          | true =>
            rw [hfit, if_pos rfl] at hS2
            have HFit2 : Aside (∀ k ∈ ks.take (j + 1), fits (total (deltas l k)) = true) := ⟨by
              rw [HN.out]
              intro k hk
              rcases List.mem_append.1 hk with h | h
              · exact HFit.out k h
              · rw [List.mem_singleton.1 h]; exact hfit⟩
            have HNs2 := HNs.out
            rw [← HN.out] at HNs2
            have HS2 := Aside.mk hS2
            clear hfit hS2
            generalize total (deltas l ⟨k1, k2, k3⟩) = T at *
            by_cases hT : T = 0
            · rw [if_pos hT] at HNs2
              subst hT
              have HNs3 := Aside.mk HNs2
              clear HNs2
              go_wp2_with (first
                | (refine wpList_lookup1 rfl _ _ rfl keyOps Try.underlying81 (zero82 _) ⟨k1, k2, k3⟩ rfl rfl HG4.out.map HV2.out ?_)
                | (go_at_call 41; refine HS2.out.mono ?_; rintro e w' ⟨rfl, rfl⟩))
              go_roundw
              case rel => exact ⟨j + 1, by omega, by go_num, by rw [HNs3.out]; exact hrow.alloc _, ⟨HFq.out.alloc _⟩, HFit2⟩
              case measure => simp [intOf]; omega
            · rw [if_neg hT] at HNs2
              have hT' : (T != 0) = true := bne_iff_ne.2 hT
              have HNs3 := Aside.mk HNs2
              clear HNs2 hT
              have hr : World.ownsRow _ w2.heap.size 43 4 _ _ (flat OpD.cells (netSome (ks.take j) l)) := hrow
              clear hrow
              go_wp2_with (first
                | (at_builtin; refine append_one OpD.cells 4 16 _ OpD.len OpD.one (by decide) (by rfl) (by decide) Try.underlying24 infoOp rfl _ _ rfl w2.heap.size _ _ rfl ((hr.alloc _).alloc _) ⟨⟨k1, k2, k3⟩, T⟩ _ 1 rfl (cells_new _ _ _ _ (by simp)) (by omega) (by simp; omega) ?_; intro g' cap' w3 hown' hgrow)
                | (refine wpList_lookup1 rfl _ _ rfl keyOps Try.underlying81 (zero82 _) ⟨k1, k2, k3⟩ rfl rfl HG4.out.map HV2.out ?_)
                | (go_at_call 41; refine HS2.out.mono ?_; rintro e w' ⟨rfl, rfl⟩))
              go_roundw
              case rel =>
                refine ⟨j + 1, by omega, by go_num, by rw [HNs3.out]; exact hown', ⟨((HFq.out.alloc _).alloc _).trans (Fr.ofGrown hgrow) (fun k _ e => own_ge hr k e)⟩, HFit2⟩
              case measure => simp [intOf]; omega
        · have HE2 : Aside (ks.take j = ks) := ⟨List.take_of_length_le (by omega)⟩
          go_wp2_with fail
          go_ret2
          have hok : netOk ks l = true := by
            have := HFit.out
            rw [HE2.out] at this
            exact List.all_eq_true.2 this
          rw [HE2.out] at hrow
          exact ⟨_, ks, by rw [hok]; rfl, hNK.out, by rw [netOps, hok, if_pos rfl]; exact own_lower hrow (by have := HFW.out.size; omega), HFW.out.trans HFq.out (fun k _ e => by have := HFW.out.size; omega)⟩
end Go.Proofs.Ytkfoapbjdegdiaa.Own
