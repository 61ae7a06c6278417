/- pledgelaw12.StepUndoes: the plain law. -/
import Derived.Test.YtkfoapbjdegdiaaGood2
import Derived.Test.YtkfoapbjdegdiaaPairs
namespace Go.Proofs.Ytkfoapbjdegdiaa.Own
open Go.RowKit

theorem negs_cons (o : OpD) (l : List OpD) : negs (o :: l) = negs l ++ [negOp o] := by simp [negs]
theorem net_negs (l : List OpD) (k : KeyD) : net (negs l) k = - net l k := by
  induction l with
  | nil => rfl
  | cons o l ih =>
    rw [negs_cons, net_append, ih, net_cons, net_cons, net_nil]
    by_cases h : o.key = k
    · rw [if_pos h, if_pos (show (negOp o).key = k from h)]; simp only [negOp]; omega
    · rw [if_neg h, if_neg (show ¬ (negOp o).key = k from h)]; omega
theorem net_undone (l : List OpD) (k : KeyD) : net (l ++ negs l) k = 0 := by rw [net_append, net_negs]; omega
theorem net_none_key (l : List OpD) (k : KeyD) (h : k ∉ l.map (·.key)) : net l k = 0 := by unfold net; rw [deltas_nil h]; rfl
theorem net_one (l : List OpD) (hn : (l.map (·.key)).Nodup) (o : OpD) (ho : o ∈ l) : net l o.key = o.d := by
  induction l with
  | nil => cases ho
  | cons a l ih =>
    simp only [List.map_cons, List.nodup_cons] at hn
    rw [net_cons]
    rcases List.mem_cons.1 ho with rfl | h
    · rw [if_pos rfl, net_none_key l _ hn.1]; omega
    · rw [if_neg (show ¬ a.key = o.key from fun e => hn.1 (by rw [e]; exact List.mem_map.2 ⟨o, h, rfl⟩)), ih hn.2 h]; omega
theorem nodup_len {α : Type} [DecidableEq α] (l m : List α) (hl : l.Nodup) (h : ∀ x ∈ l, x ∈ m) : l.length ≤ m.length := by
  induction l generalizing m with
  | nil => simp
  | cons a l ih =>
    simp only [List.nodup_cons] at hl
    have h1 := h a List.mem_cons_self
    have := ih (m.erase a) hl.2 (fun x hx => (List.mem_erase_of_ne (fun (e : x = a) => hl.1 (e ▸ hx))).2 (h x (List.mem_cons_of_mem _ hx)))
    rw [List.length_erase_of_mem h1] at this
    have := List.length_pos_of_mem h1
    simp only [List.length_cons]
    omega
theorem netOps_len (ks : List KeyD) (l : List OpD) (hk : NetKeys ks l) (hn : (l.map (·.key)).Nodup) (hd : ∀ o ∈ l, o.d ≠ 0 ∧ InI64 o.d) : netOk ks l = true ∧ (netOps ks l).length = l.length := by
  have hone : ∀ k ∈ ks, total (deltas l k) ≠ 0 ∧ InI64 (total (deltas l k)) := by
    intro k hkk
    obtain ⟨o, ho, rfl⟩ := List.mem_map.1 ((hk.mem k).1 hkk)
    have := net_one l hn o ho
    unfold net at this
    rw [this]
    exact hd o ho
  have hok : netOk ks l = true := List.all_eq_true.2 (fun k hkk => by
    have := (hone k hkk).2
    unfold InI64 at this
    unfold fits
    simp only [decide_eq_true_eq]
    exact this)
  refine ⟨hok, ?_⟩
  rw [netOps, if_pos hok]
  have e1 : (netSome ks l).length = ks.length := by
    unfold netSome
    have : ∀ ks' : List KeyD, (∀ k ∈ ks', total (deltas l k) ≠ 0) → (ks'.filterMap fun k => if total (deltas l k) = 0 then none else some (⟨k, total (deltas l k)⟩ : OpD)).length = ks'.length := by
      intro ks' h
      induction ks' with
      | nil => rfl
      | cons a ks' ih =>
        rw [List.filterMap_cons, if_neg (h a List.mem_cons_self)]
        simp only [List.length_cons]
        rw [ih (fun k hk => h k (List.mem_cons_of_mem _ hk))]
    exact this ks (fun k hkk => (hone k hkk).1)
  have e2 : ks.length = l.length := by
    have a1 := nodup_len ks (l.map (·.key)) hk.nodup (fun x hx => (hk.mem x).1 hx)
    have a2 := nodup_len (l.map (·.key)) ks hn (fun x hx => (hk.mem x).2 hx)
    rw [List.length_map] at a1 a2
    omega
  rw [e1, e2]
/-! ### A step that may be -/
theorem onItem_sku (tag ware : Int) (x : LineD) : ∀ o ∈ onItem tag ware x, o.key.sku = x.sku := by
  intro o ho
  unfold onItem at ho
  (repeat' split at ho) <;> simp only [List.mem_cons, List.not_mem_nil, or_false] at ho <;> (try rcases ho with rfl | rfl) <;> (try subst ho) <;> first | rfl | simp_all
theorem onItem_nodup (tag ware : Int) (x : LineD) : ((onItem tag ware x).map (·.key)).Nodup := by
  unfold onItem
  (repeat' split) <;> simp [opAt]
theorem opsOf_nodup (tag ware : Int) (items : List LineD) (h : items.Pairwise fun a b => a.sku ≠ b.sku) : ((opsOf tag ware items).map (·.key)).Nodup := by
  induction items with
  | nil => simp [opsOf]
  | cons a l ih =>
    rw [List.pairwise_cons] at h
    unfold opsOf at ih ⊢
    rw [List.flatMap_cons, List.map_append, List.nodup_append]
    refine ⟨onItem_nodup _ _ _, ih h.2, ?_⟩
    intro k hk k' hk' e
    obtain ⟨o, ho, rfl⟩ := List.mem_map.1 hk
    obtain ⟨o', ho', rfl⟩ := List.mem_map.1 hk'
    obtain ⟨x, hx, hxo⟩ := List.mem_flatMap.1 ho'
    have e1 := onItem_sku tag ware a o ho
    have e2 := onItem_sku tag ware x o' hxo
    refine h.1 x hx ?_
    rw [← e1, ← e2]
    exact congrArg (fun k : KeyD => k.sku) e
theorem items_lt {skus wares ware : Int} {items : List LineD} (h : ItemsGood skus wares ware items items.length) : items.Pairwise fun a b => a.sku ≠ b.sku := by
  have hlt : ∀ j (hj : j < items.length) i (hi : i < j), (items[i]'(by omega)).sku < items[j].sku := by
    intro j
    induction j with
    | zero => intro _ i hi; omega
    | succ j ih =>
      intro hj i hi
      have h1 := (h (j + 1) hj hj).2.1 j rfl
      by_cases e : i = j
      · subst e; exact h1
      · have := ih (by omega) i (by omega)
        omega
  rw [List.pairwise_iff_getElem]
  intro i j hi hj hij
  have := hlt j hj i hij
  omega
theorem keyGood_at {skus wares sku ware : Int} (kind : Int) (hk : kind = 1 ∨ kind = 2 ∨ kind = 3 ∨ kind = 4) (d : Int) (h : keyGood skus wares ⟨1, sku, ware⟩ = true) : keyGood skus wares (opAt kind sku ware d).key = true := by
  unfold keyGood at *
  simp only [opAt, Bool.and_eq_true, decide_eq_true_eq] at *
  obtain ⟨⟨⟨⟨h1, h2⟩, h3⟩, h4⟩, h5⟩ := h
  rcases hk with rfl | rfl | rfl | rfl <;> simp [atWare, h1, h4] at * <;> first | exact h5 | trivial
theorem opsOf_fine {skus wares tag ware : Int} {items : List LineD} (h : StepFine skus wares tag ware items) : ∀ o ∈ opsOf tag ware items, keyGood skus wares o.key = true ∧ o.d ≠ 0 := by
  intro o ho
  obtain ⟨x, hx, hxo⟩ := List.mem_flatMap.1 ho
  obtain ⟨i, hi, rfl⟩ := List.getElem_of_mem hx
  obtain ⟨h1, _, h3⟩ := h.2.2.2.2 i hi hi
  generalize items[i] = x at *
  unfold onItem at hxo
  (repeat' split at hxo) <;> simp only [List.mem_cons, List.not_mem_nil, or_false] at hxo <;> (try rcases hxo with rfl | rfl) <;> (try subst hxo) <;> first | (exact ⟨keyGood_at _ (by decide) _ h3, by simp only [opAt]; omega⟩) | simp_all
theorem opsOf_least {skus wares tag ware : Int} {items : List LineD} (h : StepFine skus wares tag ware items) : items.length ≤ (opsOf tag ware items).length := by
  obtain ⟨h1, h2, h3, h4, h5⟩ := h
  have hq : ∀ x ∈ items, 1 ≤ x.qty := by
    intro x hx
    obtain ⟨i, hi, rfl⟩ := List.getElem_of_mem hx
    exact (h5 i hi hi).1
  clear h5 h4 h3
  induction items with
  | nil => simp
  | cons a l ih =>
    have := ih (fun x hx => hq x (List.mem_cons_of_mem _ hx))
    have ha := hq a List.mem_cons_self
    have h1' : 1 ≤ (onItem tag ware a).length := by
      unfold onItem
      (repeat' split) <;> simp <;> omega
    simp only [opsOf, List.flatMap_cons, List.length_append, List.length_cons] at this ⊢
    omega
end Go.Proofs.Ytkfoapbjdegdiaa.Own
