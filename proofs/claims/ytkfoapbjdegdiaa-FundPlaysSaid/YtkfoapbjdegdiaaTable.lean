/- Package table at fields: New, Put, Get, Keys, Copy. -/
import Derived.Test.YtkfoapbjdegdiaaRise
import Derived.StillTailTactics
namespace Go.Proofs.Ytkfoapbjdegdiaa.Own
open Go.RowKit
attribute [local go_sem ↓] Go.wp_at_zero Go.wp_at_succ

theorem zeroField (w : World) : (zeroValue 49).run Try.prog w = .ok fzero.val w := by kernel_rfl
/-- A table: its map, as a list of keys with values. -/
structure TabIs (w : World) (bt bm : Nat) (m : List (KeyD × Value)) : Prop where
  tab : w.heap[bt]? = some (.cells #[.map (some bm)] 142 (0, 0))
  map : MapIs KeyD.val w bm m
theorem TabIs.ne {w : World} {bt bm : Nat} {m : List (KeyD × Value)} (h : TabIs w bt bm m) : bt ≠ bm := by
  rintro rfl
  obtain ⟨es, c, h1, _⟩ := h.map
  have := h.tab.symm.trans h1
  simp at this
theorem TabIs.fr {S : Nat → Prop} {w w1 : World} {bt bm : Nat} {m : List (KeyD × Value)} (h : TabIs w bt bm m) (hf : Fr S w w1) (h1 : ¬ S bt) (h2 : ¬ S bm) : TabIs w1 bt bm m := ⟨hf.obj h.tab h1, h.map.fr hf h2⟩
theorem TabIs.cell {w : World} {bt bm : Nat} {m : List (KeyD × Value)} (h : TabIs w bt bm m) : w.cell? ⟨bt, 0, none⟩ = some (.map (some bm)) := by rw [cell_of h.tab]; rfl
/-- A map of fields and rows of them are the same. -/
def Of (m : List (KeyD × Value)) (l : List RowD) : Prop := ∀ k v, (k, v) ∈ m ↔ ∃ f, (k, f) ∈ l ∧ v = FieldD.val f
theorem Of.nil : Of [] [] := by intro k v; simp
theorem Of.put {m : List (KeyD × Value)} {l : List RowD} (h : Of m l) (hn : (m.map (·.1)).Nodup) (hr : Rising l) (k : KeyD) (f : FieldD) : Of (mset m k f.val) (rput l k f) := by
  intro k' v'
  rw [mem_mset hn]
  constructor
  · rintro (e | ⟨h1, h2⟩)
    · cases e; exact ⟨f, (mem_rput hr k f _).2 (.inl rfl), rfl⟩
    · obtain ⟨g, hg, rfl⟩ := (h k' v').1 h1
      exact ⟨g, (mem_rput hr k f _).2 (.inr ⟨hg, h2⟩), rfl⟩
  · rintro ⟨g, hg, rfl⟩
    rcases (mem_rput hr k f _).1 hg with e | ⟨h1, h2⟩
    · cases e; exact .inl rfl
    · exact .inr ⟨(h k' _).2 ⟨g, h1, rfl⟩, h2⟩
theorem Of.get {m : List (KeyD × Value)} {l : List RowD} (h : Of m l) (hn : (m.map (·.1)).Nodup) (hr : Rising l) (k : KeyD) : mget m k = (rget l k).map FieldD.val := by
  cases hg : rget l k with
  | some f => exact (mget_some hn).2 ((h k _).2 ⟨f, (rget_some hr).1 hg, rfl⟩)
  | none =>
    rw [Option.map_none, mget_none]
    intro hk
    obtain ⟨p, hp, rfl⟩ := List.mem_map.1 hk
    obtain ⟨f, hf, _⟩ := (h p.1 p.2).1 hp
    exact rget_none.1 hg _ hf rfl
theorem Of.keys {m : List (KeyD × Value)} {l : List RowD} (h : Of m l) (k : KeyD) : k ∈ m.map (·.1) ↔ k ∈ l.map (·.1) := by
  simp only [List.mem_map]
  constructor
  · rintro ⟨p, hp, rfl⟩
    obtain ⟨f, hf, _⟩ := (h p.1 p.2).1 hp
    exact ⟨(p.1, f), hf, rfl⟩
  · rintro ⟨r, hr, rfl⟩
    exact ⟨(r.1, r.2.val), (h r.1 _).2 ⟨r.2, hr, rfl⟩, rfl⟩
theorem Rising.keys {l : List RowD} (h : Rising l) : (l.map (·.1)).Pairwise fun a b => ltKey a b = true := List.pairwise_map.2 h
theorem Rising.nodup {l : List RowD} (h : Rising l) : (l.map (·.1)).Nodup := h.keys.imp fun h => ltKey_ne h
theorem Of.perm {m : List (KeyD × Value)} {l : List RowD} (h : Of m l) (hn : (m.map (·.1)).Nodup) (hr : Rising l) : (m.map (·.1)).Perm (l.map (·.1)) := (List.perm_ext_iff_of_nodup hn hr.nodup).2 h.keys
theorem Of.len {m : List (KeyD × Value)} {l : List RowD} (h : Of m l) (hn : (m.map (·.1)).Nodup) (hr : Rising l) : m.length = l.length := by simpa using (h.perm hn hr).length_eq
/-- The keys, sorted. -/
theorem Of.sort {m : List (KeyD × Value)} {l : List RowD} (h : Of m l) (hn : (m.map (·.1)).Nodup) (hr : Rising l) {ss : List KeyD} (hp : ss.Perm (m.map (·.1))) : sortKeys ss = l.map (·.1) := by
  have hp2 := (sortKeys_perm ss).trans hp
  refine rising_ext ?_ hr.keys (fun k => by rw [hp2.mem_iff]; exact h.keys k)
  refine (List.pairwise_and_iff.2 ⟨sortKeys_sorted ss, hn.perm hp2.symm⟩).imp (fun {a b} h => ?_)
  cases h1 : ltKey a b
  · exact absurd (totKey a b h1 h.1) h.2
  · rfl

theorem wholeKey (w : World) (g : Nat) (k : KeyD) (h : w.heap[g]? = some (.cells k.cells.toArray 41 (0, 0))) : w.cell? ⟨g, 0, none⟩ = some (.int .u8 k.kind) ∧ w.cell? ⟨g, 1, none⟩ = some (.int .u8 k.sku) ∧ w.cell? ⟨g, 2, none⟩ = some (.int .u8 k.ware) := by
  refine ⟨?_, ?_, ?_⟩ <;> rw [cell_of h] <;> rfl
theorem tnew_calls (w : World) : Calls Try.prog 43 #[] w fun e w' => e = .returned (.pointer (some ⟨w.heap.size + 1, 0, none⟩)) ∧ TabIs w' (w.heap.size + 1) w.heap.size [] ∧ Fr (fun _ => False) w w' ∧ w'.heap.size = w.heap.size + 2 := by
  have hmm := @run_makeMap Try.prog
  go_enter Try.func43, Try.ntmps43
  go_wp2_with fail
  go_ret
  exact ⟨rfl, ⟨blk_new _ (by simp), (MapIs.new KeyD.val w).alloc _⟩, ((Fr.refl _ w).alloc _).alloc _, by simp⟩
set_option maxRecDepth 100000 in
set_option maxHeartbeats 1000000 in
theorem tput_calls (bt bm : Nat) (m : List (KeyD × Value)) (k : KeyD) (f : FieldD) (w : World) (h : TabIs w bt bm m) : Calls Try.prog 45 #[.pointer (some ⟨bt, 0, none⟩), k.val, f.val] w fun e w' => e = .returned (.tuple #[]) ∧ TabIs w' bt bm (mset m k f.val) ∧ Fr (fun x => x = bm ∨ w.heap.size ≤ x) w w' := by
  have hne := h.ne
  have hl1 := blk_lt h.tab
  have hl2 := h.map.lt
  have hc := h.cell
  have HT := Aside.mk h
  clear h
  obtain ⟨k1, k2, k3⟩ := k
  obtain ⟨lo, hi, base, inf, sup, value⟩ := f
  simp only [KeyD.val, FieldD.val]
  have hnil := fun W => run_eql_map_nil (P := Try.prog) W 140 _ _ (some bm) Try.underlying140
  simp only [Option.isNone_some] at hnil
  go_enter Try.func45, Try.ntmps45
  go_wp2_with fail
  generalize hW1 : World.alloc (World.alloc w _) _ = W1
  have hf1 : Fr (fun _ => False) w W1 := by rw [← hW1]; exact ((Fr.refl _ w).alloc _).alloc _
  have hb1 : W1.heap[w.heap.size]? = some (.cells (KeyD.mk k1 k2 k3).cells.toArray 41 (0, 0)) := by rw [← hW1]; exact blk_old (blk_new _ rfl) _
  have hb2 : W1.heap[w.heap.size + 1]? = some (.cells (FieldD.mk lo hi base inf sup value).cells.toArray 49 (0, 0)) := by rw [← hW1]; exact blk_new _ (by simp)
  have hT1 := HT.out.fr hf1 (fun h => h) (fun h => h)
  obtain ⟨c0, c1, c2, c3, c4, c5⟩ := wholeField _ _ _ hb2
  obtain ⟨d0, d1, d2⟩ := wholeKey _ _ _ hb1
  have hc1 := hT1.cell
  have HT1 := Aside.mk hT1
  have HF1 := Aside.mk hf1
  clear hW1 hb1 hb2 hT1 hf1 hc
  go_still_tail 6, (by kernel_rfl)
  change wpList _ _ _ _ _ W1.drew
  refine wpList_update rfl _ _ _ rfl keyOps Try.underlying140 ⟨k1, k2, k3⟩ rfl rfl (b := bm) (m := m) (HT1.out.map.fr (Fr.drew (Fr.refl (fun _ => False) W1)) (fun h => h)) ?_
  intro w2 hm2 hf2 hs2
  go_wp2_with fail
  go_end0
  have hf := HF1.out.drew
  exact ⟨rfl, ⟨hf2.obj (hf.obj HT.out.tab (fun h => h)) hne, hm2⟩, (hf.mono (T := fun x => x = bm ∨ w.heap.size ≤ x) (fun _ _ h => h.elim)).trans hf2 (fun _ _ h => .inl h)⟩
/-- What a look-up finds. -/
def fromOpt (o : Option FieldD) : FieldD := o.getD fzero
set_option maxRecDepth 100000 in
set_option maxHeartbeats 1000000 in
theorem tget_calls (bt bm : Nat) (m : List (KeyD × Value)) (l : List RowD) (k : KeyD) (w : World) (h : TabIs w bt bm m) (ho : Of m l) (hr : Rising l) : Calls Try.prog 70 #[.pointer (some ⟨bt, 0, none⟩), k.val] w fun e w' => e = .returned (.tuple #[(fromOpt (rget l k)).val, .bool (rget l k).isSome]) ∧ Fr (w.heap.size ≤ ·) w w' := by
  have hl1 := blk_lt h.tab
  have hl2 := h.map.lt
  have hc := h.cell
  have hv : ∃ f b, (fromOpt (rget l k)) = f ∧ (rget l k).isSome = b ∧ ∀ W, MapIs KeyD.val W bm m → (Instr.lookup 140 (.map (some bm)) k.val true).run Try.prog W = .ok (.tuple #[FieldD.val f, .bool b]) W := by
    refine ⟨_, _, rfl, rfl, fun W hW => ?_⟩
    rw [lookup_run keyOps Try.underlying140 hW (zeroField W) k true, ho.get h.map.keys hr k]
    cases rget l k <;> rfl
  obtain ⟨f, b, hf, hb, hlk⟩ := hv
  rw [hf, hb]
  have HT := Aside.mk h
  clear h hf hb
  obtain ⟨k1, k2, k3⟩ := k
  obtain ⟨lo, hi, base, inf, sup, value⟩ := f
  simp only [KeyD.val, FieldD.val] at hlk ⊢
  have HL := Aside.mk hlk
  clear hlk
  go_enter Try.func70, Try.ntmps70
  go_wp2_with fail
  generalize hW1 : World.alloc (World.alloc w _) _ = W1
  have hf1 : Fr (fun _ => False) w W1 := by rw [← hW1]; exact ((Fr.refl _ w).alloc _).alloc _
  have hb1 : W1.heap[w.heap.size]? = some (.cells (KeyD.mk k1 k2 k3).cells.toArray 41 (0, 0)) := by rw [← hW1]; exact blk_old (blk_new _ rfl) _
  have hb2 : W1.heap[w.heap.size + 1]? = some (.cells fzero.cells.toArray 49 (0, 0)) := by rw [← hW1]; exact blk_new _ (by simp)
  have hT1 := HT.out.fr hf1 (fun h => h) (fun h => h)
  obtain ⟨c0, c1, c2, c3, c4, c5⟩ := wholeField _ _ _ hb2
  obtain ⟨d0, d1, d2⟩ := wholeKey _ _ _ hb1
  have hz := free_of hb2
  have hsz := blk_lt hb2
  have hc1 := hT1.cell
  have hlook := HL.out W1.drew (hT1.map.fr (Fr.drew (Fr.refl (fun _ => False) W1)) (fun h => h))
  have HB2 := Aside.mk hb2
  have HF1 := Aside.mk hf1
  clear hW1 hb1 hb2 hT1 hf1 hc
  have hbn : bm ≠ w.heap.size + 1 := by omega
  have htn : bt ≠ w.heap.size + 1 := by omega
  have hkn : w.heap.size ≠ w.heap.size + 1 := by omega
  have HM1 := Aside.mk (HT.out.map.fr HF1.out (fun h => h))
  clear hlook
  go_region_held3 (fun W => W.cell? ⟨bt, 0, none⟩ = some (.map (some bm)) ∧ W.cell? ⟨w.heap.size, 0, none⟩ = some (.int .u8 k1) ∧ W.cell? ⟨w.heap.size, 1, none⟩ = some (.int .u8 k2) ∧ W.cell? ⟨w.heap.size, 2, none⟩ = some (.int .u8 k3) ∧ (Instr.lookup 140 (.map (some bm)) (.agg #[.int .u8 k1, .int .u8 k2, .int .u8 k3]) true).run Try.prog W = .ok (.tuple #[.agg #[.int .i64 lo, .int .i64 hi, .int .i64 base, .int .i64 inf, .int .i64 sup, .int .i64 value], .bool b]) W)
    ((refine ⟨?_, ?_, ?_, ?_, HL.out _ (HM1.out.fr (S := (· = w.heap.size + 1)) (by (repeat (first | (with_reducible refine Fr.drew ?_) | (with_reducible refine Fr.set1 ?_ _ _))); exact Fr.refl _ _) hbn)⟩ <;> (repeat (first | (with_reducible exact hc1) | (with_reducible exact d0) | (with_reducible exact d1) | (with_reducible exact d2) | (with_reducible refine cell_drew ?_) | (with_reducible refine cell_set ?_ _ _ (by first | exact htn | exact hkn) _)))))
    (fail)
  all_goals go_wp2_with fail
  all_goals exact bodyPost_ret (results_fe Try.results70 _ _ (w.heap.size + 1) _ _ _ rfl (blk_drew (field_put ⟨lo, hi, base, inf, sup, value⟩ (field_put ⟨lo, hi, base, inf, sup, value⟩ HB2.out)))) rfl ⟨rfl, by (repeat (first | (with_reducible refine Fr.drew ?_) | (with_reducible refine Fr.set ?_ _ _ (Nat.le_succ _) _))); exact (HF1.out.mono (fun _ _ h => h.elim))⟩
theorem tgetNil_calls (k : KeyD) (w : World) : Calls Try.prog 70 #[.pointer none, k.val] w fun e w' => e = .returned (.tuple #[fzero.val, .bool false]) ∧ Fr (w.heap.size ≤ ·) w w' := by
  obtain ⟨k1, k2, k3⟩ := k
  simp only [KeyD.val]
  go_enter Try.func70, Try.ntmps70
  go_wp2_with fail
  exact bodyPost_ret (by simp [results, Try.results70, go_sem, fzero, FieldD.val]) rfl ⟨rfl, (by (repeat (with_reducible refine Fr.alloc ?_ _)); exact Fr.refl _ _)⟩
set_option maxRecDepth 100000 in
set_option maxHeartbeats 1000000 in
theorem tkeys_calls (bt bm : Nat) (m : List (KeyD × Value)) (l : List RowD) (w : World) (h : TabIs w bt bm m) (ho : Of m l) (hr : Rising l) (hn : l.length < 10000000) : Calls Try.prog 71 #[.pointer (some ⟨bt, 0, none⟩)] w fun e w' => ∃ v, e = .returned v ∧ KeyRow w' w.heap.size v (l.map (·.1)) ∧ Fr (w.heap.size ≤ ·) w w' := by
  have hl1 := blk_lt h.tab
  have hl2 := h.map.lt
  have hc := h.cell
  have hml := ho.len h.map.keys hr
  have hK : SeqGives Fence.wide 1 Try.prog 125 #[.pointer (some ⟨w.heap.size, 0, none⟩)] KeyD.val (fun ss => ss.Perm (m.map (·.1))) m.length (w.alloc (.cells #[.map (some bm)] 140)) :=
    keysF_gives 1 (by omega) w.heap.size bm m _ (by simp) (by rw [cell_of (blk_new _ rfl)]; rfl) (h.map.alloc _)
  have hS := sorted 125 _ (enters_of Try.func125 (by kernel_rfl) rfl) _ m.length (by omega) (fun ss h => by have := h.length_eq; simp at this; omega) _ hK
  have HSo := Aside.mk hS
  have HO := Aside.mk (fun ss hp => ho.sort h.map.keys hr (ss := ss) hp)
  clear hS h hK ho hml
  go_enter Try.func71, Try.ntmps71
  go_wp2_with (first
    | (go_at_call 103; refine (keysF_mk _ _).mono ?_; rintro e w' ⟨rfl, rfl⟩)
    | (go_at_call 38; refine HSo.out.mono ?_; rintro e w2 ⟨sv, ss, rfl, hperm, hsrow, hsf⟩))
  go_ret
  refine ⟨_, rfl, ?_, ((Fr.refl (w.heap.size ≤ ·) w).alloc _).trans hsf (fun k _ e => by simp at e; omega)⟩
  rw [HO.out ss hperm] at hsrow
  exact own_lower hsrow (by simp)
theorem tkeysNil_calls (w : World) : Calls Try.prog 71 #[.pointer none] w fun e w' => e = .returned (.slice none 0 0) ∧ w' = w := by
  go_enter Try.func71, Try.ntmps71
  go_wp2_with fail
  go_ret
  exact ⟨rfl, rfl⟩
end Go.Proofs.Ytkfoapbjdegdiaa.Own
