/- pledgelaw12: the law StepPairs: its inner function, its example, the walk. -/
import Derived.Test.YtkfoapbjdegdiaaNet2
import Derived.Test.YtkfoapbjdegdiaaBase2
namespace Go.Proofs.Ytkfoapbjdegdiaa.Own
open Go.RowKit

/-! ### The plain law: pairs of steps come to nothing -/
def net (l : List OpD) (k : KeyD) : Int := total (deltas l k)
theorem net_append (l m : List OpD) (k : KeyD) : net (l ++ m) k = net l k + net m k := by
  unfold net deltas
  rw [List.filter_append, List.map_append, total_append]
theorem net_nil (k : KeyD) : net [] k = 0 := rfl
theorem net_cons (o : OpD) (l : List OpD) (k : KeyD) : net (o :: l) k = (if o.key = k then o.d else 0) + net l k := by
  have e : o :: l = [o] ++ l := rfl
  rw [e, net_append]
  congr 1
  unfold net deltas
  by_cases h : o.key = k <;> simp [h, total]
theorem net_ops (tag ware : Int) (a : LineD) (l : List LineD) (k : KeyD) : net (opsOf tag ware (a :: l)) k = net (onItem tag ware a) k + net (opsOf tag ware l) k := by
  unfold opsOf
  rw [List.flatMap_cons, net_append]
def allOps (tags : List Int) (ware : Int) (items : List LineD) : List OpD := tags.flatMap fun t => opsOf t ware items
theorem net_all (tags : List Int) (ware : Int) (items : List LineD) (k : KeyD) (h : ∀ x, (tags.map fun t => net (onItem t ware x) k).foldr (· + ·) 0 = 0) : net (allOps tags ware items) k = 0 := by
  have e : ∀ items : List LineD, net (allOps tags ware items) k = (tags.map fun t => net (opsOf t ware items) k).foldr (· + ·) 0 := by
    intro items
    unfold allOps
    induction tags with
    | nil => rfl
    | cons t ts ih =>
      rw [List.flatMap_cons, net_append, List.map_cons, List.foldr_cons]
      have : ∀ ts : List Int, net (ts.flatMap fun t => opsOf t ware items) k = (ts.map fun t => net (opsOf t ware items) k).foldr (· + ·) 0 := by
        intro ts
        induction ts with
        | nil => rfl
        | cons t ts ih => rw [List.flatMap_cons, net_append, List.map_cons, List.foldr_cons, ih]
      rw [this]
  rw [e]
  induction items with
  | nil =>
    have : ∀ ts : List Int, (ts.map fun t => net (opsOf t ware []) k).foldr (· + ·) 0 = 0 := by
      intro ts
      induction ts with
      | nil => rfl
      | cons t ts ih => rw [List.map_cons, List.foldr_cons, ih]; rfl
    exact this tags
  | cons a l ih =>
    have : ∀ ts : List Int, (ts.map fun t => net (opsOf t ware (a :: l)) k).foldr (· + ·) 0 = (ts.map fun t => net (onItem t ware a) k).foldr (· + ·) 0 + (ts.map fun t => net (opsOf t ware l) k).foldr (· + ·) 0 := by
      intro ts
      induction ts with
      | nil => rfl
      | cons t ts ih => rw [List.map_cons, List.foldr_cons, ih, net_ops, List.map_cons, List.foldr_cons, List.map_cons, List.foldr_cons]; omega
    rw [this, h, ih]
    rfl
theorem pairs_zero (tags : List Int) (ht : tags = [1, 2] ∨ tags = [5, 6] ∨ tags = [7, 8] ∨ tags = [1, 3, 4]) (ware : Int) (items : List LineD) (k : KeyD) : net (allOps tags ware items) k = 0 := by
  apply net_all
  intro x
  by_cases hq : x.qty < 1
  · rcases ht with rfl | rfl | rfl | rfl <;> simp [onItem, hq, net_nil]
  · rcases ht with rfl | rfl | rfl | rfl <;> simp only [onItem, hq, List.map_cons, List.map_nil, List.foldr_cons, List.foldr_nil] <;> simp [net_cons, net_nil, opAt, atWare] <;> (repeat' split) <;> omega
theorem allOps_bound (tags : List Int) (ware : Int) (items : List LineD) (hq : ∀ x ∈ items, x.qty ≤ 9223372036854775807) : ∀ o ∈ allOps tags ware items, InI64 o.d := by
  intro o ho
  obtain ⟨t, _, h2⟩ := List.mem_flatMap.1 ho
  obtain ⟨x, hx, h3⟩ := List.mem_flatMap.1 h2
  have h4 := hq x hx
  unfold onItem at h3
  by_cases h : x.qty < 1
  · simp [h] at h3
  · rw [if_neg h] at h3
    unfold InI64
    (repeat' split at h3) <;> simp [opAt] at h3
    all_goals (first | (rcases h3 with rfl | rfl <;> simp <;> omega) | (subst h3; simp; omega))
theorem allOps_len (tags : List Int) (ware : Int) (items : List LineD) : (allOps tags ware items).length ≤ tags.length * (2 * items.length) := by
  induction tags with
  | nil => simp [allOps]
  | cons t ts ih =>
    have := opsOf_len t ware items
    simp only [allOps, List.flatMap_cons, List.length_append, List.length_cons] at ih ⊢
    rw [Nat.add_mul]; omega
theorem net_none {ks : List KeyD} {l : List OpD} (h : ∀ k, net l k = 0) : netOk ks l = true ∧ netOps ks l = [] := by
  have h1 : netOk ks l = true := List.all_eq_true.2 (fun k _ => by show fits (net l k) = true; rw [h k]; rfl)
  refine ⟨h1, ?_⟩
  rw [netOps, if_pos h1, netSome, List.filterMap_eq_nil_iff]
  intro k _
  exact if_pos (h k)
end Go.Proofs.Ytkfoapbjdegdiaa.Own
