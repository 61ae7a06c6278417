/- Words of this session, more of them: a row appended to a row. -/
import Derived.Test.YtkfoapbjdegdiaaBase
import Derived.Laws.AppendOwnNone
namespace Go.Proofs.Ytkfoapbjdegdiaa.Own
open Go.RowKit

theorem own_cap {w : World} {base : Nat} {e : TypeId} {s n m cap : Nat} {A : Option Addr} {xs : List Value} (h : w.ownsRow base e s (.slice A m cap) n xs) : A = none → cap = 0 := by
  rintro rfl
  rcases h.2 with ⟨h, _⟩ | ⟨g, cap', cur, h, _⟩
  · cases h; rfl
  · cases h
theorem Reads.take {α : Type} {c : α → List Value} {s : Nat} {w : World} {A : Option Addr} {n m : Nat} {xs : List α} (h : Reads c s w A n xs) (hm : m ≤ n) : Reads c s w A m (xs.take m) := by
  have hl := h.1
  refine ⟨by rw [List.length_take]; omega, by have := h.2.1; omega, fun h0 => ?_⟩
  obtain ⟨ad, e, hc⟩ := h.2.2 (by omega)
  refine ⟨ad, e, fun i hi j hj => ?_⟩
  have hi' : i < xs.length := by rw [List.length_take] at hi; omega
  rw [hc i hi' j hj, List.getElem_take]
/-- Elements that were laid anew are read. -/
theorem reads_new {α : Type} {c : α → List Value} {s : Nat} (hs : 0 < s) (hc : ∀ x, (c x).length = s) (w : World) (t : TypeId) (b : Nat) (hb : b = w.heap.size) (ys : List α) (hy : ys.length ≤ 9223372036854775807) :
    Reads c s (w.alloc (.cells (flat c ys).toArray t)) (some ⟨b, 0, none⟩) ys.length ys := by
  refine ⟨rfl, hy, fun _ => ⟨_, rfl, fun i hi j hj => ?_⟩⟩
  have e : (⟨b, 0, none⟩ : Addr).add (i * s + j) = ⟨b, i * s + j, none⟩ := by unfold Addr.add; split <;> simp_all
  rw [e, cell_of (blk_new _ hb), List.getElem?_toArray]
  exact flat_get c s hc ys i hi j hj
/-- The law of 'append(xs, ys...)' at rows of structs. -/
theorem append_rows {P : Program} {ops : Array Oper} {rest : List Oper} {o : Oper} {a : Act} {w : World} {Q : Exit → Act → World → Prop} {α : Type} (c : α → List Value) (s bytes : Nat) (z : Value) (hc : ∀ x, (c x).length = s) (h1 : ∀ x, ∀ u ∈ c x, u.oneCell' = true)
    (hs : 0 < s) (hzs : z.cells.size = s) (hby : bytes ≤ 256) {t e : TypeId} (ht : P.underlying t = some (.slice e)) (hinfo : (P.info? e).map (fun i => (i.zero, i.size, i.bytes)) = some (some z, s, bytes))
    (hgd : o.guard = none) (sl x : Operand) (ho : o.op = .call { callee := .builtin .append, args := #[sl, x], argTypes := #[t, t] })
    (base : Nat) (v : Value) (l : List α) (hv : a.eval sl = v) (hown : w.ownsRow base e s v l.length (flat c l)) (ys : List α) (A : Option Addr) (k : Nat) (hx : a.eval x = .slice A ys.length k) (hr : Reads c s w A ys.length ys) (hk : A = none → k = 0)
    (hlen : l.length + ys.length < 100000000000) (hbase : base ≤ w.heap.size)
    (h : ∀ v' w', w'.ownsRow base e s v' (l ++ ys).length (flat c (l ++ ys)) → w.grownBy w' v.ownBlock → wpList P ops Q rest (a.put o.dst v') w') :
    wpList P ops Q (o :: rest) a w := by
  obtain ⟨i0, hi, hz0, hz1, hz2⟩ := info_parts hinfo
  cases A with
  | none =>
    have hy : ys = [] := by
      cases ys with
      | nil => rfl
      | cons y ys => obtain ⟨ad, h, _⟩ := hr.2.2 (by simp); cases h
    subst hy
    rw [hk rfl] at hx
    refine wpList_append_own_none hgd sl x t ho base e i0 s ht hi v l.length (flat c l) hv hown hx (h v w ?_ ⟨rfl, rfl, rfl, Nat.le_refl _, fun _ _ _ => rfl⟩)
    rw [List.append_nil]; exact hown
  | some ad =>
    refine wpList_append_own w hgd sl x t ho base e i0 z s bytes ht hi hz0 hz1 hz2 hzs hs v l.length (flat c l) hv hown ad ys.length k (flat c ys) hx (by rw [flat_len c s hc]) ?_ ?_ (by unfold maxLen; omega) ?_ hbase ?_
    · intro j u hj
      have hlt : j < ys.length * s := by
        have := (List.getElem?_eq_some_iff.1 hj).1
        rwa [flat_len c s hc] at this
      have hq : j / s < ys.length := (Nat.div_lt_iff_lt_mul hs).2 hlt
      have hm : j % s < s := Nat.mod_lt j hs
      have e : j / s * s + j % s = j := by rw [Nat.mul_comm]; exact Nat.div_add_mod j s
      obtain ⟨ad', e', hcell⟩ := hr.2.2 (Nat.lt_of_le_of_lt (Nat.zero_le _) hq)
      obtain rfl : ad = ad' := Option.some.inj e'
      have h3 := hcell (j / s) hq (j % s) hm
      have h4 := flat_get c s hc ys (j / s) hq (j % s) hm
      rw [e] at h3 h4
      rw [h3, ← h4, hj]
    · intro u hu
      obtain ⟨y, _, hy⟩ := List.mem_flatMap.1 hu
      exact h1 y u hy
    · calc (l.length + ys.length) * bytes ≤ (l.length + ys.length) * 256 := Nat.mul_le_mul_left _ hby
        _ ≤ 140737488355328 := by omega
    · intro v' w1 hown' hgrow _
      refine h v' w1 ?_ hgrow
      rw [flat_append, List.length_append]
      exact hown'
end Go.Proofs.Ytkfoapbjdegdiaa.Own
