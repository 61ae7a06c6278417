/- maps.Keys of a map by keys of the kind Key: its iterator gives each key once, in some order. Written by wip/tools/gen_keys.py. -/
import Derived.Test.YtkfoapbjdegdiaaRange
import Derived.RangeFuncSeq
import Derived.RangeFuncGives
import Derived.Sort.KeysCollected
import Derived.Shelf.AbstractIn
import Derived.TacticsInMore
import Derived.RegionIn
import Derived.LoopNIn
import Derived.LoopIn
namespace Go.Proofs.Ytkfoapbjdegdiaa.Own
open Go.RowKit

theorem Fr.abides {S : Nat → Prop} {W W' : World} (hf : Fr S W W') {row : Option Nat} (hS : ∀ k, k < W.heap.size → S k → some k = row) : W.grownBy W' row := hf.grown hS

theorem keysI_mk (mb : Option Nat) (w : World) : Calls Try.prog 39 #[.map mb] w fun e w' => e = .returned (.func (.func 82) #[] #[.pointer (some ⟨w.heap.size, 0, none⟩)]) ∧ w' = w.alloc (.cells #[.map mb] 81) := by
  go_enter Try.func39, Try.ntmps39
  go_wp2_with fail
  go_ret
  exact ⟨rfl, rfl⟩
set_option maxRecDepth 100000 in
set_option maxHeartbeats 1000000 in
theorem keysI_gives (n : Nat) (hn : 1 ≤ n) (Bm b : Nat) (m : List (KeyD × Value)) (w : World) (hBm : Bm < w.heap.size) (hm : w.cell? ⟨Bm, 0, none⟩ = some (.map (some b))) (hM : MapIs KeyD.val w b m) :
    SeqGives Fence.wide n Try.prog 82 #[.pointer (some ⟨Bm, 0, none⟩)] KeyD.val (fun ss => ss.Perm (m.map (·.1))) m.length w := by
  intro l J W hW hJ hY h0
  have hMW : MapIs KeyD.val W b m := hM.obj (hW.block b hM.lt)
  have hmW : W.cell? ⟨Bm, 0, none⟩ = some (.map (some b)) := (hW.cell (p := ⟨Bm, 0, none⟩) hBm).trans hm
  have hbl := hMW.lt
  refine callsIn_of_wp Try.func82 rfl trivial ?_ rfl
  simp only [Try.ntmps82, List.size_toArray, List.length_cons, List.length_nil, Nat.reduceAdd, Nat.reduceSub, Array.replicate_succ, Array.replicate_zero, List.push_toArray, List.append_toArray, List.nil_append, List.cons_append]
  gi_wp2_with (first
    | (gi_at_range; refine wpListIn_range rfl _ rfl Try.underlying81 rfl hMW ?_; intro w0 hrg0 hf0 hs0)
    | gi_in)
  go_frame
  gi_loopw [3] (fun _ wr => ∃ (left : List (KeyD × Value)) (ss : List KeyD), Ranging KeyD.val wr b W.heap.size m left ∧ (ss ++ left.map (·.1)).Perm (m.map (·.1)) ∧ J ss wr ∧ W.heap.size < wr.heap.size)
    (fun _ wr => wr.rangeLeft b W.heap.size)
  case atStart =>
    exact ⟨m, [], hrg0, by simp, hJ [] W w0 none h0 (hf0.grown (fun _ _ h => h.elim)) (fun r e => by cases e), by omega⟩
  case round =>
    obtain ⟨left, ss, hrg, hp, hJs, hsz⟩ := hrel
    gi_wp2_with (first
      | (gi_at_next; refine wpListIn_next rfl _ rfl rfl hrg (by omega) ?_ ?_)
      | gi_in)
    · intro hl
      subst hl
      gi_wp2
      go_end0
      exact ⟨⟨_, rfl⟩, ss, by simpa using hp, hJs⟩
    · intro l1 k pv l2 w2 hl hrg2 hf2 hs2 hen
      obtain ⟨k1, k2, k3⟩ := k
      have hJ2 : J ss w2 := hJ ss wr w2 (some W.heap.size) hJs (hf2.grown (fun k _ h => by rw [h])) (fun r e => by cases e; exact ⟨Nat.le_refl _, by obtain ⟨_, _, _, _, _, _, _, h, _⟩ := hrg; exact ⟨_, h, rfl⟩⟩)
      have hJ3 : J ss (w2.alloc (.cells #[.int .u8 k1, .int .u8 k2, .int .u8 k3] 41)) := hJ ss w2 _ none hJ2 (World.grownBy_alloc w2 _ none) (fun r e => by cases e)
      have hlen : ss.length < m.length := by
        have := hp.length_eq
        simp only [List.length_append, List.length_map, hl, List.length_cons] at this
        omega
      obtain ⟨fn, tmps, assign, body, hy, hR⟩ := hY ss ⟨k1, k2, k3⟩ _ hJ3 hlen
      dsimp only [KeyD.val] at hy hen
      have hl2 : wr.rangeLeft b W.heap.size = (l1 ++ l2).length + 1 := by rw [hrg.left_eq, hl]; simp; omega
      have HL := Aside.mk hl
      have HS := Aside.mk hs2
      clear hl hs2
      gi_wp2
      refine hR.mono ?_
      rintro e W3 ⟨rfl, hJ4, hk3⟩
      gi_wp2
      have hrg3 := (hrg2.alloc (.cells #[.int .u8 k1, .int .u8 k2, .int .u8 k3] 41)).walks hk3
      go_roundw
      case rel =>
        refine ⟨l1 ++ l2, ss ++ [⟨k1, k2, k3⟩], hrg3, ?_, hJ4, ?_⟩
        · refine List.Perm.trans ?_ hp
          rw [HL.out]
          simp only [List.map_append, List.map_cons, List.append_assoc, List.singleton_append]
          exact List.Perm.append_left ss List.perm_middle.symm
        · have h1 := hk3.size
          have h2 := HS.out
          simp only [World.size_alloc] at h1
          omega
      case measure => rw [hrg3.left_eq, hl2]; omega

theorem keysF_mk (mb : Option Nat) (w : World) : Calls Try.prog 103 #[.map mb] w fun e w' => e = .returned (.func (.func 125) #[] #[.pointer (some ⟨w.heap.size, 0, none⟩)]) ∧ w' = w.alloc (.cells #[.map mb] 140) := by
  go_enter Try.func103, Try.ntmps103
  go_wp2_with fail
  go_ret
  exact ⟨rfl, rfl⟩
set_option maxRecDepth 100000 in
set_option maxHeartbeats 1000000 in
theorem keysF_gives (n : Nat) (hn : 1 ≤ n) (Bm b : Nat) (m : List (KeyD × Value)) (w : World) (hBm : Bm < w.heap.size) (hm : w.cell? ⟨Bm, 0, none⟩ = some (.map (some b))) (hM : MapIs KeyD.val w b m) :
    SeqGives Fence.wide n Try.prog 125 #[.pointer (some ⟨Bm, 0, none⟩)] KeyD.val (fun ss => ss.Perm (m.map (·.1))) m.length w := by
  intro l J W hW hJ hY h0
  have hMW : MapIs KeyD.val W b m := hM.obj (hW.block b hM.lt)
  have hmW : W.cell? ⟨Bm, 0, none⟩ = some (.map (some b)) := (hW.cell (p := ⟨Bm, 0, none⟩) hBm).trans hm
  have hbl := hMW.lt
  refine callsIn_of_wp Try.func125 rfl trivial ?_ rfl
  simp only [Try.ntmps125, List.size_toArray, List.length_cons, List.length_nil, Nat.reduceAdd, Nat.reduceSub, Array.replicate_succ, Array.replicate_zero, List.push_toArray, List.append_toArray, List.nil_append, List.cons_append]
  gi_wp2_with (first
    | (gi_at_range; refine wpListIn_range rfl _ rfl Try.underlying140 rfl hMW ?_; intro w0 hrg0 hf0 hs0)
    | gi_in)
  go_frame
  gi_loopw [3] (fun _ wr => ∃ (left : List (KeyD × Value)) (ss : List KeyD), Ranging KeyD.val wr b W.heap.size m left ∧ (ss ++ left.map (·.1)).Perm (m.map (·.1)) ∧ J ss wr ∧ W.heap.size < wr.heap.size)
    (fun _ wr => wr.rangeLeft b W.heap.size)
  case atStart =>
    exact ⟨m, [], hrg0, by simp, hJ [] W w0 none h0 (hf0.grown (fun _ _ h => h.elim)) (fun r e => by cases e), by omega⟩
  case round =>
    obtain ⟨left, ss, hrg, hp, hJs, hsz⟩ := hrel
    gi_wp2_with (first
      | (gi_at_next; refine wpListIn_next rfl _ rfl rfl hrg (by omega) ?_ ?_)
      | gi_in)
    · intro hl
      subst hl
      gi_wp2
      go_end0
      exact ⟨⟨_, rfl⟩, ss, by simpa using hp, hJs⟩
    · intro l1 k pv l2 w2 hl hrg2 hf2 hs2 hen
      obtain ⟨k1, k2, k3⟩ := k
      have hJ2 : J ss w2 := hJ ss wr w2 (some W.heap.size) hJs (hf2.grown (fun k _ h => by rw [h])) (fun r e => by cases e; exact ⟨Nat.le_refl _, by obtain ⟨_, _, _, _, _, _, _, h, _⟩ := hrg; exact ⟨_, h, rfl⟩⟩)
      have hJ3 : J ss (w2.alloc (.cells #[.int .u8 k1, .int .u8 k2, .int .u8 k3] 41)) := hJ ss w2 _ none hJ2 (World.grownBy_alloc w2 _ none) (fun r e => by cases e)
      have hlen : ss.length < m.length := by
        have := hp.length_eq
        simp only [List.length_append, List.length_map, hl, List.length_cons] at this
        omega
      obtain ⟨fn, tmps, assign, body, hy, hR⟩ := hY ss ⟨k1, k2, k3⟩ _ hJ3 hlen
      dsimp only [KeyD.val] at hy hen
      have hl2 : wr.rangeLeft b W.heap.size = (l1 ++ l2).length + 1 := by rw [hrg.left_eq, hl]; simp; omega
      have HL := Aside.mk hl
      have HS := Aside.mk hs2
      clear hl hs2
      gi_wp2
      refine hR.mono ?_
      rintro e W3 ⟨rfl, hJ4, hk3⟩
      gi_wp2
      have hrg3 := (hrg2.alloc (.cells #[.int .u8 k1, .int .u8 k2, .int .u8 k3] 41)).walks hk3
      go_roundw
      case rel =>
        refine ⟨l1 ++ l2, ss ++ [⟨k1, k2, k3⟩], hrg3, ?_, hJ4, ?_⟩
        · refine List.Perm.trans ?_ hp
          rw [HL.out]
          simp only [List.map_append, List.map_cons, List.append_assoc, List.singleton_append]
          exact List.Perm.append_left ss List.perm_middle.symm
        · have h1 := hk3.size
          have h2 := HS.out
          simp only [World.size_alloc] at h1
          omega
      case measure => rw [hrg3.left_eq, hl2]; omega
end Go.Proofs.Ytkfoapbjdegdiaa.Own
