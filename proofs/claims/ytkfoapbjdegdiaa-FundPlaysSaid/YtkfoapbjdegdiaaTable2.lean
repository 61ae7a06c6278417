/- maps.Copy at fields, table.Copy. -/
import Derived.Test.YtkfoapbjdegdiaaTable
namespace Go.Proofs.Ytkfoapbjdegdiaa.Own
open Go.RowKit
attribute [local go_sem ↓] Go.wp_at_zero Go.wp_at_succ

theorem mset_new {m : List (KeyD × Value)} {p : KeyD × Value} (h : p.1 ∉ m.map (·.1)) : mset m p.1 p.2 = m ++ [p] := by
  unfold mset
  cases hp : pos m p.1 with
  | none => rfl
  | some i => exact absurd (List.mem_map.2 ⟨m[i]'(pos_lt hp), List.getElem_mem _, pos_key hp⟩) h
set_option maxRecDepth 100000 in
set_option maxHeartbeats 2000000 in
theorem mcopy_calls (bd bs : Nat) (m : List (KeyD × Value)) (w : World) (hne : bd ≠ bs) (hd : MapIs KeyD.val w bd []) (hs : MapIs KeyD.val w bs m) (hv : ∀ p ∈ m, ∃ f, p.2 = FieldD.val f) :
    Calls Try.prog 86 #[.map (some bd), .map (some bs)] w fun e w' => e = .returned (.tuple #[]) ∧ ∃ m', MapIs KeyD.val w' bd m' ∧ m'.Perm m ∧ Fr (fun x => x = bd ∨ w.heap.size ≤ x) w w' := by
  have hbl := hs.lt
  have hdl := hd.lt
  have hn := hs.keys
  have HN := Aside.mk hn
  have HV := Aside.mk hv
  have HD := Aside.mk hd
  have HS := Aside.mk hs
  clear hn hv hd hs
  go_enter Try.func86, Try.ntmps86
  go_wp2_with (refine wpList_range rfl _ rfl Try.underlying140 rfl HS.out ?_; intro w0 hrg0 hf0 hs0)
  go_frame
  go_loopw [] (fun wr => ∃ (left m' : List (KeyD × Value)), Ranging KeyD.val wr bs w.heap.size m left ∧ MapIs KeyD.val wr bd m' ∧ (m' ++ left).Perm m ∧ w.heap.size < wr.heap.size ∧ Aside (Fr (fun x => x = bd ∨ w.heap.size ≤ x) w wr)) (fun wr => wr.rangeLeft bs w.heap.size)
  case atStart =>
    exact ⟨m, [], hrg0, HD.out.fr hf0 (fun h => h), by simp, by omega, ⟨hf0.mono (fun _ _ h => h.elim)⟩⟩
  case round =>
    obtain ⟨left, m', hrg, hm', hp, hsz, HF⟩ := hrel
    go_wp2_with (refine wpList_next rfl _ rfl rfl hrg (by omega) ?_ ?_)
    · intro hl
      subst hl
      go_wp2_with fail
      go_end0
      exact ⟨rfl, m', hm', by simpa using hp, HF.out⟩
    · intro l1 k v l2 w2 hl hrg2 hf2 hs2 hen
      have hpm : (k, v) ∈ m := hp.mem_iff.1 (by rw [hl]; simp)
      obtain ⟨f, hf⟩ := HV.out _ hpm
      dsimp only at hf
      subst hf
      have hnew : k ∉ m'.map (·.1) := by
        have h1 := HN.out.perm (hp.map (·.1)).symm
        rw [List.map_append, List.nodup_append, hl] at h1
        intro hk
        exact h1.2.2 k hk k (by simp) rfl
      have hset := mset_new (p := (k, FieldD.val f)) hnew
      have hp2 : ((m' ++ [(k, FieldD.val f)]) ++ (l1 ++ l2)).Perm m := by
        refine List.Perm.trans ?_ hp
        rw [hl, List.append_assoc]
        exact List.Perm.append_left m' (List.perm_middle (l₁ := l1)).symm
      have HSet := Aside.mk hset
      have HP2 := Aside.mk hp2
      have hl2 : wr.rangeLeft bs w.heap.size = (l1 ++ l2).length + 1 := by rw [hrg.left_eq, hl]; simp; omega
      have hm2 : MapIs KeyD.val w2 bd m' := hm'.fr hf2 (by omega)
      have hF2 : Fr (fun x => x = bd ∨ w.heap.size ≤ x) w w2 := HF.out.trans hf2 (fun k _ e => .inr (by omega))
      have HF2 := Aside.mk hF2
      have HL := Aside.mk hl2
      clear hl hnew hset hp hp2 hpm hF2 hl2 hf2 hm' HF
      obtain ⟨k1, k2, k3⟩ := k
      obtain ⟨lo, hi, base, inf, sup, value⟩ := f
      simp only [KeyD.val, FieldD.val] at hen HSet
      go_wp2_with (refine wpList_update rfl _ _ _ rfl keyOps Try.underlying140 ⟨k1, k2, k3⟩ rfl rfl (b := bd) (m := m') ((hm2.alloc _).alloc _) ?_; intro w3 hm3 hf3 hs3)
      go_frame
      have hrg3 := ((hrg2.alloc (.cells #[.int .u8 k1, .int .u8 k2, .int .u8 k3] 41)).alloc (.cells #[.int .i64 lo, .int .i64 hi, .int .i64 base, .int .i64 inf, .int .i64 sup, .int .i64 value] 49)).fr hf3 (by omega) (by omega)
      go_roundw
      case rel =>
        refine ⟨l1 ++ l2, m' ++ [(⟨k1, k2, k3⟩, FieldD.val ⟨lo, hi, base, inf, sup, value⟩)], hrg3, ?_, HP2.out, by simp at hs3; omega, ⟨?_⟩⟩
        · have h3 := hm3
          simp only [Act.eval, go_sem] at h3
          exact (congrArg (MapIs KeyD.val w3 bd) HSet.out).mp h3
        · exact ((HF2.out.alloc _).alloc _).trans hf3 (fun k _ e => .inl e)
      case measure => rw [hrg3.left_eq, HL.out]; omega
set_option maxRecDepth 100000 in
set_option maxHeartbeats 1000000 in
theorem tcopy_calls (bt bm : Nat) (m : List (KeyD × Value)) (l : List RowD) (w : World) (h : TabIs w bt bm m) (ho : Of m l) (hr : Rising l) : Calls Try.prog 47 #[.pointer (some ⟨bt, 0, none⟩)] w fun e w' => e = .returned (.pointer (some ⟨w.heap.size + 1, 0, none⟩)) ∧ ∃ m', TabIs w' (w.heap.size + 1) w.heap.size m' ∧ Of m' l ∧ Fr (w.heap.size ≤ ·) w w' := by
  have hl1 := blk_lt h.tab
  have hl2 := h.map.lt
  have hc := h.cell
  have HT := Aside.mk h
  have HO := Aside.mk ho
  clear h ho
  go_enter Try.func47, Try.ntmps47
  go_wp2_with (go_at_call 43; refine (tnew_calls _).mono ?_; rintro e w1 ⟨rfl, hT, hf, hs⟩; have hc2 := hT.cell; have hc1 := hf.cell hc (fun h => h); have HT1 := Aside.mk hT; have HF1 := Aside.mk hf; clear hT hf)
  go_still_tail 8, (by kernel_rfl)
  change wpList _ _ _ _ _ w1.drew
  have HTd := HT1.out.fr (Fr.drew (Fr.refl (fun _ => False) w1)) (fun h => h) (fun h => h)
  have HSd := (HT.out.fr HF1.out (fun h => h) (fun h => h)).fr (Fr.drew (Fr.refl (fun _ => False) w1)) (fun h => h) (fun h => h)
  have hv : ∀ p ∈ m, ∃ f, p.2 = FieldD.val f := fun p hp => by obtain ⟨f, _, hf⟩ := (HO.out p.1 p.2).1 hp; exact ⟨f, hf⟩
  have HM := Aside.mk (mcopy_calls w.heap.size bm m w1.drew (by omega) HTd.map HSd.map hv)
  clear hv
  go_wp2_with (refine HM.out.mono ?_; rintro e w2 ⟨rfl, m', hm', hp, hf2⟩)
  go_ret
  have hfr : Fr (w.heap.size ≤ ·) w w2 := (HF1.out.drew.mono (fun _ _ h => h.elim)).trans hf2 (fun k _ e => by rcases e with rfl | e <;> first | exact Nat.le_refl _ | (have := HF1.out.size; simp at e; omega))
  refine ⟨rfl, m', ⟨hf2.obj HTd.tab (by simp; omega), hm'⟩, fun k v => ?_, hfr⟩
  rw [hp.mem_iff]
  exact HO.out k v
theorem tcopyNil_calls (w : World) : Calls Try.prog 47 #[.pointer none] w fun e w' => e = .returned (.pointer (some ⟨w.heap.size + 1, 0, none⟩)) ∧ TabIs w' (w.heap.size + 1) w.heap.size [] ∧ Fr (w.heap.size ≤ ·) w w' := by
  go_enter Try.func47, Try.ntmps47
  go_wp2_with (go_at_call 43; refine (tnew_calls _).mono ?_; rintro e w1 ⟨rfl, hT, hf, hs⟩; have HT1 := Aside.mk hT; have HF1 := Aside.mk hf; clear hT hf)
  go_ret
  exact ⟨rfl, HT1.out, HF1.out.mono (fun _ _ h => h.elim)⟩
end Go.Proofs.Ytkfoapbjdegdiaa.Own
