/- slices.SortedFunc(maps.Keys(m), key.Compare): the keys in order. -/
import Derived.Test.YtkfoapbjdegdiaaSeq
import Derived.Test.YtkfoapbjdegdiaaCmp
import Derived.Test.YtkfoapbjdegdiaaSortLay
namespace Go.Proofs.Ytkfoapbjdegdiaa.Own
open Go.RowKit Go.Maps Go.Sort Go.Shelf

instance : Inhabited KeyD := ⟨⟨0, 0, 0⟩⟩
theorem flatK_flat {α : Type} [Inhabited α] (c : α → List Value) (s : Nat) (hs : 0 < s) (hc : ∀ x, (c x).length = s) (l : List α) : (flatK c s l.toArray).toList = flat c l := by
  apply List.ext_getElem?
  intro t
  have h1 : (flatK c s l.toArray).toList.length = l.length * s := by simp
  have h2 := flat_len c s hc l
  by_cases ht : t < l.length * s
  · have hq : t / s < l.length := (Nat.div_lt_iff_lt_mul hs).2 ht
    have e : t / s * s + t % s = t := by rw [Nat.mul_comm]; exact Nat.div_add_mod t s
    have hm : t % s < s := Nat.mod_lt t hs
    have hg := flat_get c s hc l (t / s) hq (t % s) hm
    rw [e] at hg
    rw [hg, List.getElem?_eq_getElem (by rw [h1]; exact ht), Array.getElem_toList, List.getElem?_eq_getElem (by rw [hc]; exact hm)]
    have := get_flatK c s l.toArray t (by simpa using ht)
    rw [getElem!_pos _ t (by simpa using ht)] at this
    rw [this]
    congr 1
    simp [hq, hc, hm]
  · rw [List.getElem?_eq_none (by omega), List.getElem?_eq_none (by omega)]

theorem sortWorld_own {α : Type} [Inhabited α] (c : α → List Value) (s : Nat) (hs : 0 < s) (hc : ∀ x, (c x).length = s) {w : World} {base : Nat} {e : TypeId} {g cap : Nat} {l l' : List α} (hl : l'.length = l.length)
    (h : w.ownsRow base e s (.slice (some ⟨g, 0, none⟩) l.length cap) l.length (flat c l)) (m : Nat) (os : Array Obj) :
    (sortWorldK c s w g 0 m l'.toArray os).ownsRow base e s (.slice (some ⟨g, 0, none⟩) l.length cap) l.length (flat c l') ∧ Fr (· = g) w (sortWorldK c s w g 0 m l'.toArray os) := by
  obtain ⟨h0, h1⟩ := h
  rcases h1 with ⟨h1, _⟩ | ⟨g', cap', cur, hv, hb, hh, hn, hm, hz, hx⟩
  · cases h1
  · cases hv
    have hF : (flatK c s l'.toArray).size = l.length * s := by simp [hl]
    have hlt := blk_lt hh
    have hle : l.length * s ≤ cap * s := Nat.mul_le_mul_right s hn
    have hobj : (sortWorldK c s w g 0 m l'.toArray os).heap[g]? = some (.cells (putCells id 0 (flatK c s l'.toArray) cur) e (0, 0)) := by
      unfold sortWorldK
      rw [heap_grow_old _ _ (by simpa [putRowK, Sort.ahead] using hlt)]
      show (w.heap.modify g _)[g]? = _
      rw [Array.getElem?_modify]
      simp [hh, onCells]
    refine ⟨⟨by rw [flat_len c s hc, hl], .inr ⟨g, cap, _, rfl, hb, hobj, hn, hm, by simp [putCells, hz], ?_⟩⟩, ?_⟩
    · rw [← flatK_flat c s hs hc]
      apply List.ext_getElem?
      intro t
      by_cases ht : t < l.length * s
      · rw [List.getElem?_take_of_lt ht, Array.getElem?_toList, Array.getElem?_toList]
        simp only [putCells, Array.getElem?_mapIdx]
        rw [Array.getElem?_eq_getElem (show t < cur.size by rw [hz]; omega), Array.getElem?_eq_getElem (show t < (flatK c s l'.toArray).size by rw [hF]; exact ht)]
        have h1 : t < 0 + (flatK c s l'.toArray).size := by rw [hF]; omega
        simp only [Option.map_some, Nat.zero_le, true_and, if_pos h1, id, Nat.sub_zero]
        rw [getElem!_pos]
      · rw [List.getElem?_eq_none (by simp; omega), List.getElem?_eq_none (by simp only [Array.length_toList, hF]; omega)]
    · refine ⟨rfl, rfl, rfl, by simp [sortWorldK, putRowK, Sort.ahead], fun k hk hne => ?_⟩
      unfold sortWorldK
      rw [heap_grow_old _ _ (by simpa [putRowK, Sort.ahead] using hk)]
      show (w.heap.modify g _)[k]? = _
      rw [Array.getElem?_modify]
      simp [Ne.symm hne]

/-! ### The order of keys -/
theorem cmpI_lt (a b : Int) : cmpI a b < 0 ↔ a < b := by unfold cmpI; split <;> (try split) <;> omega
def ltKey (a b : KeyD) : Bool := decide (a.kind < b.kind ∨ a.kind = b.kind ∧ (a.sku < b.sku ∨ a.sku = b.sku ∧ a.ware < b.ware))
theorem lt_cmp : ltOf cmpKey = ltKey := by
  funext a b
  unfold ltOf cmpKey ltKey firstOf firstOf firstOf firstOf cmpI
  rw [decide_eq_decide]
  by_cases h1 : a.kind < b.kind
  · simp [h1]
  by_cases h2 : b.kind < a.kind
  · simp [h1, h2]; omega
  have e : a.kind = b.kind := by omega
  simp only [e, Int.lt_irrefl, if_false, if_true, true_and, false_or]
  by_cases h3 : a.sku < b.sku
  · simp [h3]
  by_cases h4 : b.sku < a.sku
  · simp [h3, h4]; omega
  have e2 : a.sku = b.sku := by omega
  simp only [e2, Int.lt_irrefl, if_false, if_true, true_and, false_or]
  by_cases h5 : a.ware < b.ware
  · simp [h5]
  by_cases h6 : b.ware < a.ware
  · simp [h5, h6]
  · simp [h5, h6]
theorem swoKey : SWO ltKey where
  irrefl x := by simp [ltKey]
  trans x y z h1 h2 := by simp only [ltKey, decide_eq_true_eq] at *; omega
  ntrans x y z h1 h2 := by simp only [ltKey, decide_eq_false_iff_not] at *; omega
theorem totKey (x y : KeyD) (h1 : ltKey x y = false) (h2 : ltKey y x = false) : x = y := by
  obtain ⟨a, b, c⟩ := x
  obtain ⟨a', b', c'⟩ := y
  simp only [ltKey, decide_eq_false_iff_not] at h1 h2
  simp only [KeyD.mk.injEq]
  omega
def sortKeys (l : List KeyD) : List KeyD := l.mergeSort fun x y => !ltKey y x
theorem sortKeys_len (l : List KeyD) : (sortKeys l).length = l.length := by unfold sortKeys; exact List.length_mergeSort _
theorem cmpLays (blk off size : Nat) (w : World) : CmpLays Try.prog 40 #[] KeyD.cells 3 cmpKey blk off size w := by
  intro m os dk hs x y
  exact (compare_calls x y _).mono fun e w' h => h

theorem sort_calls (v : Value) (l : List KeyD) (base : Nat) (w : World) (hr : KeyRow w base v l) (hlen : l.length < 4611686018427387904) :
    Calls Try.prog 81 #[v, .func (.func 40) #[] #[]] w fun e w' => e = .returned (.tuple #[]) ∧ KeyRow w' base v (sortKeys l) ∧ Fr (fun k => some k = v.ownBlock) w w' := by
  rcases Nat.eq_zero_or_pos l.length with h0 | h0
  · obtain rfl := List.eq_nil_of_length_eq_zero h0
    have hv : ∃ p cap, v = .slice p 0 cap := by
      rcases hr.2 with ⟨rfl, _⟩ | ⟨g, cap, cur, rfl, _⟩
      · exact ⟨none, 0, rfl⟩
      · exact ⟨_, cap, rfl⟩
    obtain ⟨p, cap, rfl⟩ := hv
    have := AnyF.slices_SortFunc_none sortK p cap (.func (.func 40) #[] #[]) w
    refine Calls.mono this ?_
    rintro e w' ⟨rfl, rfl⟩
    exact ⟨rfl, by simpa [sortKeys] using hr, Fr.refl _ _⟩
  · obtain ⟨g, cap, rfl⟩ : ∃ g cap, v = .slice (some ⟨g, 0, none⟩) l.length cap := by
      rcases hr.2 with ⟨_, h⟩ | ⟨g, cap, cur, rfl, _⟩
      · omega
      · exact ⟨g, cap, rfl⟩
    have hH : HoldsK KeyD.cells 3 w g 0 l.toArray := by
      intro j hj
      obtain ⟨_, h1⟩ := hr
      rcases h1 with ⟨h1, _⟩ | ⟨g', cap', cur, hv, hb, hh, hn, hm, hz, hx⟩
      · cases h1
      · cases hv
        have hj' : j < l.length * 3 := by simpa using hj
        refine ⟨?_, by simpa using free_of hh j⟩
        rw [Nat.zero_add, cell_of hh]
        have e1 : cur.toList[j]? = (flatK KeyD.cells 3 l.toArray).toList[j]? := by
          rw [flatK_flat KeyD.cells 3 (by decide) KeyD.len, ← hx, List.getElem?_take_of_lt hj']
        rw [Array.getElem?_toList, Array.getElem?_toList] at e1
        rw [e1, Array.getElem?_eq_getElem hj, getElem!_pos _ j hj]
        rfl
    have hblk : g < w.heap.size := hr.lt g (by simp [Value.ownBlock]) |>.2
    have := AnyQ.slices_SortFunc_total sortK 3 (by intro w; kernel_rfl) (by intro w; kernel_rfl) KeyD.cells KeyD.len KeyD.one cmpKey (by rw [lt_cmp]; exact swoKey) 40 #[] g 0 cap l.toArray w (enters_of Try.func40 (by kernel_rfl) rfl) (cmpLays _ _ _ _) hH hblk (by simpa using hlen) (by rw [lt_cmp]; exact totKey)
    rw [lt_cmp] at this
    refine Calls.mono this ?_
    rintro e w' ⟨rfl, n, os, rfl⟩
    obtain ⟨h1, h2⟩ := sortWorld_own KeyD.cells 3 (by decide) KeyD.len (sortKeys_len l) hr n os
    refine ⟨rfl, ?_, h2.mono (fun k _ e => by rw [e]; rfl)⟩
    unfold KeyRow
    rw [sortKeys_len]
    exact h1

set_option maxHeartbeats 1000000 in
/-- slices.Collect(seq). -/
theorem collect (n : Nat) (hn : 3 ≤ n) (g : Nat) (lb : Array Value) (eg : ∀ args w, (callFunc g args).run Try.prog w = .ok (.enter g args) w) (S : List KeyD → Prop) (N : Nat) (hN : N < 100000000) (w : World) (hseq : SeqGives Fence.wide (n - 1 - 1) Try.prog g lb KeyD.val S N w) :
    CallsIn Fence.wide n Try.prog 80 #[.func (.func g) #[] lb] w fun e w' => ∃ v ss, e = .returned v ∧ S ss ∧ KeyRow w' w.heap.size v ss ∧ Fr (w.heap.size ≤ ·) w w' := by
  have h1 : 1 ≤ n := by omega
  have hw : Fence.wide.fn 116 := trivial
  refine callsIn_of_wp Try.func80 rfl trivial ?_ rfl
  simp only [Try.ntmps80, List.size_toArray, List.length_cons, List.length_nil, Nat.reduceAdd, Nat.reduceSub, Array.replicate_succ, Array.replicate_zero, List.push_toArray, List.append_toArray, List.nil_append, List.cons_append]
  gi_wp2_with (gi_at_call 116; refine (appendSeq (n - 1) (by omega) g lb eg S N hN _ hseq).mono ?_; rintro e w' ⟨v, ss, rfl, hS, hrow, hf⟩)
  go_ret
  exact ⟨v, ss, rfl, hS, hrow, hf⟩
set_option maxHeartbeats 1000000 in
/-- slices.SortedFunc(seq, key.Compare). -/
theorem sorted (g : Nat) (lb : Array Value) (eg : ∀ args w, (callFunc g args).run Try.prog w = .ok (.enter g args) w) (S : List KeyD → Prop) (N : Nat) (hN : N < 100000000) (hSl : ∀ ss, S ss → ss.length < 100000000) (w : World) (hseq : SeqGives Fence.wide 1 Try.prog g lb KeyD.val S N w) :
    Calls Try.prog 38 #[.func (.func g) #[] lb, .func (.func 40) #[] #[]] w fun e w' => ∃ v ss, e = .returned v ∧ S ss ∧ KeyRow w' w.heap.size v (sortKeys ss) ∧ Fr (w.heap.size ≤ ·) w w' := by
  have cC := callsIn_wide.1 (collect 3 (by omega) g lb eg S N hN w hseq)
  go_enter Try.func38, Try.ntmps38
  go_wp2_with (first
    | (go_at_call 80; refine cC.mono ?_; rintro e w1 ⟨v, ss, rfl, hS, hrow, hf1⟩)
    | (go_at_call 81; refine (sort_calls v ss w.heap.size _ hrow (by have := hSl ss hS; omega)).mono ?_; rintro e w2 ⟨rfl, hrow2, hf2⟩))
  go_ret
  exact ⟨v, ss, rfl, hS, hrow2, hf1.trans hf2 (fun k _ e => own_ge hrow k e)⟩
end Go.Proofs.Ytkfoapbjdegdiaa.Own
