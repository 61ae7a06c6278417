/- Words of this session: data of the program, frames, rows of structs. No function of the program is walked here. -/
import Derived.Test.YtkfoapbjdegdiaaProg
import Derived.Below
import Derived.Deep.Draws
import Derived.RangeFuncBox
import Derived.Laws.AppendOwn
import Derived.OwnWalk
import Derived.OwnWalkIn
import Derived.Maps.AppendAt
import Derived.WalkKit
import Derived.WalkSpells
namespace Go.Proofs.Ytkfoapbjdegdiaa.Own
open Go.RowKit

/-- What is kept aside from the walk's simp. -/
structure Aside (p : Prop) : Prop where mk :: (out : p)

/-! ### Frames: all blocks of the old world but those that S tells are as they were -/
structure Fr (S : Nat → Prop) (w w' : World) : Prop where
  os : w'.os = w.os
  tape : w'.tape = w.tape
  output : w'.output = w.output
  size : w.heap.size ≤ w'.heap.size
  block : ∀ k, k < w.heap.size → ¬ S k → w'.heap[k]? = w.heap[k]?

namespace Fr
variable {S T U : Nat → Prop} {w w1 w2 : World}
theorem refl (S : Nat → Prop) (w : World) : Fr S w w := ⟨rfl, rfl, rfl, Nat.le_refl _, fun _ _ _ => rfl⟩
theorem trans (h : Fr S w w1) (h' : Fr T w1 w2) (hT : ∀ k, k < w.heap.size → T k → S k) : Fr S w w2 :=
  ⟨h'.os.trans h.os, h'.tape.trans h.tape, h'.output.trans h.output, Nat.le_trans h.size h'.size,
   fun k hk hS => (h'.block k (Nat.lt_of_lt_of_le hk h.size) (fun ht => hS (hT k hk ht))).trans (h.block k hk hS)⟩
theorem mono (h : Fr S w w1) (hT : ∀ k, k < w.heap.size → S k → T k) : Fr T w w1 :=
  ⟨h.os, h.tape, h.output, h.size, fun k hk ht => h.block k hk (fun hs => ht (hT k hk hs))⟩
theorem alloc (h : Fr S w w1) (o : Obj) : Fr S w (w1.alloc o) := by
  refine h.trans (T := fun _ => False) ⟨rfl, rfl, rfl, by simp, fun k hk _ => ?_⟩ (fun _ _ h => h.elim)
  exact Below.heap_alloc _ _ k hk
theorem drew (h : Fr S w w1) : Fr S w w1.drew := ⟨h.os, h.tape, h.output, h.size, h.block⟩
theorem drewN (h : Fr S w w1) (n : Nat) : Fr S w (w1.drewN n) := ⟨h.os, h.tape, h.output, h.size, h.block⟩
theorem setCell (h : Fr S w w1) {p : Addr} (hp : p.block < w.heap.size → S p.block) (v : Value) : Fr S w (w1.setCell p v) := by
  refine h.trans (T := fun k => k = p.block) ⟨rfl, rfl, rfl, (KeepsWalks.setCell w1 p v).size, fun k _ hne => Below.heap_setCell _ _ _ k hne⟩ ?_
  rintro k hk rfl; exact hp hk
theorem ofBelow {B : Nat} (h : Below B w w1) : Fr (B ≤ ·) w w1 := ⟨h.os, h.tape, h.output, h.size, fun k _ hS => h.block k (by omega)⟩
theorem below {B : Nat} (h : Fr S w w1) (hB : B ≤ w.heap.size) (hS : ∀ k, k < B → ¬ S k) : Below B w w1 :=
  ⟨h.os, h.tape, h.output, h.size, fun k hk => h.block k (by omega) (hS k hk)⟩
theorem ofGrown {row : Option Nat} (h : w.grownBy w1 row) : Fr (fun k => some k = row) w w1 := ⟨h.os, h.tape, h.output, h.size, fun k hk hS => h.block k hk hS⟩
theorem grown {row : Option Nat} (h : Fr S w w1) (hS : ∀ k, k < w.heap.size → S k → some k = row) : w.grownBy w1 row :=
  ⟨h.os, h.tape, h.output, h.size, fun k hk hne => h.block k hk (fun hs => hne (hS k hk hs))⟩
theorem obj (h : Fr S w w1) {k : Nat} {o : Obj} (hk : w.heap[k]? = some o) (hS : ¬ S k) : w1.heap[k]? = some o :=
  (h.block k (Array.getElem?_eq_some_iff.1 hk).1 hS).trans hk
theorem cell (h : Fr S w w1) {a : Addr} {v : Value} (hc : w.cell? a = some v) (hS : ¬ S a.block) : w1.cell? a = some v :=
  (World.cell?_of_block (h.block a.block (World.block_lt_of_cell? w a hc) hS)).trans hc
theorem own (h : Fr S w w1) {base : Nat} {e : TypeId} {size n : Nat} {v : Value} {xs : List Value} (ho : w.ownsRow base e size v n xs) (hS : ∀ k, v.ownBlock = some k → ¬ S k) : w1.ownsRow base e size v n xs := by
  obtain ⟨h1, h2⟩ := ho
  refine ⟨h1, ?_⟩
  rcases h2 with h2 | ⟨g, cap, cur, rfl, hg, hh, r⟩
  · exact .inl h2
  · exact .inr ⟨g, cap, cur, rfl, hg, h.obj hh (hS g (by simp [Value.ownBlock])), r⟩
end Fr

/-- A block's cells, read one by one. -/
theorem cell_of {w : World} {b : Nat} {c : Array Value} {t : TypeId} {fr : Nat × Nat} (h : w.heap[b]? = some (.cells c t fr)) (j : Nat) : w.cell? ⟨b, j, none⟩ = c[j]? := by
  simp [World.cell?, h]
theorem free_of {w : World} {b : Nat} {c : Array Value} {t : TypeId} (h : w.heap[b]? = some (.cells c t (0, 0))) (j : Nat) : w.frozen? ⟨b, j, none⟩ = false := by
  simp [World.frozen?, h]
theorem blk_lt {w : World} {b : Nat} {o : Obj} (h : w.heap[b]? = some o) : b < w.heap.size := (Array.getElem?_eq_some_iff.1 h).1

/-! ### Data -/
structure KeyD where
  kind : Int
  sku : Int
  ware : Int
  deriving DecidableEq
structure OpD where
  key : KeyD
  d : Int
  deriving DecidableEq
structure LineD where
  sku : Int
  qty : Int
  deriving DecidableEq
def KeyD.cells (k : KeyD) : List Value := [.int .u8 k.kind, .int .u8 k.sku, .int .u8 k.ware]
def KeyD.val (k : KeyD) : Value := .agg #[.int .u8 k.kind, .int .u8 k.sku, .int .u8 k.ware]
def OpD.cells (o : OpD) : List Value := [.int .u8 o.key.kind, .int .u8 o.key.sku, .int .u8 o.key.ware, .int .i64 o.d]
def LineD.cells (x : LineD) : List Value := [.int .u8 x.sku, .int .i64 x.qty]
def flat {α : Type} (c : α → List Value) (l : List α) : List Value := l.flatMap c
theorem flat_append {α : Type} (c : α → List Value) (l m : List α) : flat c (l ++ m) = flat c l ++ flat c m := by simp [flat]
theorem flat_len {α : Type} (c : α → List Value) (s : Nat) (hc : ∀ x, (c x).length = s) (l : List α) : (flat c l).length = l.length * s := by
  induction l with
  | nil => simp [flat]
  | cons a l ih => simp only [flat, List.flatMap_cons, List.length_append, List.length_cons, hc] at ih ⊢; rw [ih]; rw [Nat.add_mul]; omega
theorem flat_get {α : Type} (c : α → List Value) (s : Nat) (hc : ∀ x, (c x).length = s) (l : List α) (i : Nat) (hi : i < l.length) (j : Nat) (hj : j < s) : (flat c l)[i * s + j]? = (c l[i])[j]? := by
  induction l generalizing i with
  | nil => simp at hi
  | cons a l ih =>
    cases i with
    | zero => simp only [flat, List.flatMap_cons, Nat.zero_mul, Nat.zero_add, List.getElem_cons_zero]; rw [List.getElem?_append_left (by rw [hc]; exact hj)]
    | succ i =>
      simp only [flat, List.flatMap_cons, List.getElem_cons_succ]
      rw [List.getElem?_append_right (by rw [hc, Nat.add_mul]; omega), hc, show (i + 1) * s + j - s = i * s + j from by rw [Nat.add_mul]; omega]
      exact ih i (by simpa using hi)

/-! ### Rows of structs, that are read -/
/-- n elements of s cells lie from A on: c tells an element's cells. -/
def Reads {α : Type} (c : α → List Value) (s : Nat) (w : World) (A : Option Addr) (n : Nat) (xs : List α) : Prop :=
  xs.length = n ∧ n ≤ 9223372036854775807 ∧ (0 < n → ∃ ad, A = some ad ∧ ∀ i (hi : i < xs.length), ∀ j, j < s → w.cell? (ad.add (i * s + j)) = (c xs[i])[j]?)
theorem Reads.fr {α : Type} {c : α → List Value} {s : Nat} {w w1 : World} {A : Option Addr} {n : Nat} {xs : List α} {S : Nat → Prop} (hc : ∀ x, (c x).length = s) (h : Reads c s w A n xs) (hf : Fr S w w1) (hS : ∀ ad, A = some ad → ¬ S ad.block) : Reads c s w1 A n xs := by
  refine ⟨h.1, h.2.1, fun hn => ?_⟩
  obtain ⟨ad, rfl, hcell⟩ := h.2.2 hn
  refine ⟨ad, rfl, fun i hi j hj => ?_⟩
  have e := hcell i hi j hj
  rw [List.getElem?_eq_getElem (by rw [hc]; exact hj)] at e ⊢
  exact hf.cell e (by rw [show (ad.add (i * s + j)).block = ad.block from by unfold Addr.add; split <;> rfl]; exact hS ad rfl)
/-- A row of the call's own can be read. -/
theorem reads_own {α : Type} {c : α → List Value} {s : Nat} {w : World} {base : Nat} {e : TypeId} {v : Value} {xs : List α} (hs : 0 < s) (hc : ∀ x, (c x).length = s) (h : w.ownsRow base e s v xs.length (flat c xs)) :
    ∃ A cap, v = .slice A xs.length cap ∧ xs.length ≤ cap ∧ Reads c s w A xs.length xs ∧ (∀ ad, A = some ad → base ≤ ad.block ∧ v.ownBlock = some ad.block) := by
  rcases h.2 with ⟨rfl, h0⟩ | ⟨g, cap, cur, rfl, hg, hh, h1, h2, h3, h4⟩
  · exact ⟨none, 0, by rw [h0], by omega, ⟨rfl, by omega, fun hn => by omega⟩, fun ad h => by cases h⟩
  · refine ⟨some ⟨g, 0, none⟩, cap, rfl, h1, ⟨rfl, by unfold maxLen at h2; omega, fun _ => ⟨_, rfl, fun i hi j hj => ?_⟩⟩, fun ad h => by cases h; exact ⟨hg, rfl⟩⟩
    have e : (⟨g, 0, none⟩ : Addr).add (i * s + j) = ⟨g, i * s + j, none⟩ := by unfold Addr.add; split <;> simp_all
    rw [e, cell_of hh, ← flat_get c s hc xs i hi j hj, ← h4, List.getElem?_take_of_lt, Array.getElem?_toList]
    have : i + 1 ≤ xs.length := hi
    calc i * s + j < (i + 1) * s := by rw [Nat.add_mul]; omega
      _ ≤ xs.length * s := Nat.mul_le_mul_right _ this
/-! ### 'out = append(out, ..)' where out is a variable in a box -/
/-- Behind the append: the box is as it was. -/
theorem boxed_after {W W2 w1 : World} {Bo : Nat} {t e : TypeId} {v : Value} {base s n : Nat} {xs : List Value} (ho : Boxed W Bo t v) (hte : t ≠ e) (hr : W.ownsRow base e s v n xs) (h2 : Fr (fun _ => False) W W2) (hg : W2.grownBy w1 v.ownBlock) : Boxed w1 Bo t v :=
  ((Fr.ofGrown hg).obj (h2.obj ho (fun h => h)) (ho.not_row hte hr))
/-- Behind the store: the box holds the longer row. -/
theorem boxed_done {W W2 w1 : World} {Bo : Nat} {t e : TypeId} {v v' : Value} {base s n m : Nat} {xs ys : List Value} (ho : Boxed W Bo t v) (hte : t ≠ e) (hr : W.ownsRow base e s v n xs) (h2 : Fr (fun _ => False) W W2) (hg : W2.grownBy w1 v.ownBlock) (hown : w1.ownsRow base e s v' m ys) :
    Boxed (w1.setCell ⟨Bo, 0, none⟩ v') Bo t v' ∧ (w1.setCell ⟨Bo, 0, none⟩ v').ownsRow base e s v' m ys ∧ Fr (fun k => k = Bo ∨ some k = v.ownBlock) W (w1.setCell ⟨Bo, 0, none⟩ v') := by
  have hv1 := boxed_after ho hte hr h2 hg
  refine ⟨hv1.set v', hown.kept (grownBy_setCell' w1 Bo v') (.inr (hv1.not_row hte hown).symm), ?_⟩
  exact ((h2.mono (T := fun k => k = Bo ∨ some k = v.ownBlock) (fun _ _ h => h.elim)).trans (Fr.ofGrown hg) (fun _ _ h => .inr h)).setCell (fun _ => .inl rfl) _
/-- Cells that were laid anew are read from their block's begin on. -/
theorem cells_new (w : World) (c : Array Value) (t : TypeId) (b : Nat) (hb : b = w.heap.size) : ∀ j u, c.toList[j]? = some u → (w.alloc (.cells c t)).cell? ((⟨b, 0, none⟩ : Addr).add j) = some u := by
  subst hb
  intro j u hj
  have e : (⟨w.heap.size, 0, none⟩ : Addr).add j = ⟨w.heap.size, j, none⟩ := by unfold Addr.add; split <;> simp_all
  rw [e, cell_of (World.alloc_heap_new w _), ← Array.getElem?_toList, hj]

/-- The law of 'append(xs, x)', x one struct: c tells its cells. -/
theorem append_one {P : Program} {ops : Array Oper} {rest : List Oper} {o : Oper} {a : Act} {w : World} {Q : Exit → Act → World → Prop} {α : Type} (c : α → List Value) (s bytes : Nat) (z : Value) (hc : ∀ x, (c x).length = s) (h1 : ∀ x, ∀ u ∈ c x, u.oneCell' = true)
    (hs : 0 < s) (hzs : z.cells.size = s) (hby : bytes ≤ 256) {t e : TypeId} (ht : P.underlying t = some (.slice e)) (hinfo : (P.info? e).map (fun i => (i.zero, i.size, i.bytes)) = some (some z, s, bytes))
    (hgd : o.guard = none) (sl x : Operand) (ho : o.op = .call { callee := .builtin .append, args := #[sl, x], argTypes := #[t, t] })
    (base : Nat) (v : Value) (l : List α) (hv : a.eval sl = v) (hown : w.ownsRow base e s v l.length (flat c l)) (y : α) (ad : Addr) (k : Nat) (hx : a.eval x = .slice (some ad) 1 k)
    (hnews : ∀ j u, (c y)[j]? = some u → w.cell? (ad.add j) = some u) (hlen : l.length < 100000000000) (hbase : base ≤ w.heap.size)
    (h : ∀ g cap w', w'.ownsRow base e s (.slice (some ⟨g, 0, none⟩) (l.length + 1) cap) (l ++ [y]).length (flat c (l ++ [y])) → w.grownBy w' v.ownBlock → wpList P ops Q rest (a.put o.dst (.slice (some ⟨g, 0, none⟩) (l.length + 1) cap)) w') :
    wpList P ops Q (o :: rest) a w := by
  obtain ⟨i0, hi, hz0, hz1, hz2⟩ := info_parts hinfo
  refine wpList_append_own w hgd sl x t ho base e i0 z s bytes ht hi hz0 hz1 hz2 hzs hs v l.length (flat c l) hv hown ad 1 k (c y) hx (by rw [hc, Nat.one_mul]) hnews (h1 y) (by unfold maxLen; omega) ?_ hbase ?_
  · calc (l.length + 1) * bytes ≤ (l.length + 1) * 256 := Nat.mul_le_mul_left _ hby
      _ ≤ 140737488355328 := by omega
  · intro v' w1 hown' hgrow _
    obtain ⟨g, cap, rfl⟩ := ownsRow_succ hown'
    refine h g cap w1 ?_ hgrow
    have e : flat c (l ++ [y]) = flat c l ++ c y := by simp [flat]
    rw [e, List.length_append, List.length_singleton]
    exact hown'
/-- The same; and the new row is the old one, or a new block. -/
theorem append_one_at {P : Program} {ops : Array Oper} {rest : List Oper} {o : Oper} {a : Act} {w : World} {Q : Exit → Act → World → Prop} {α : Type} (c : α → List Value) (s bytes : Nat) (z : Value) (hc : ∀ x, (c x).length = s) (h1 : ∀ x, ∀ u ∈ c x, u.oneCell' = true)
    (hs : 0 < s) (hzs : z.cells.size = s) (hby : bytes ≤ 256) {t e : TypeId} (ht : P.underlying t = some (.slice e)) (hinfo : (P.info? e).map (fun i => (i.zero, i.size, i.bytes)) = some (some z, s, bytes))
    (hgd : o.guard = none) (sl x : Operand) (ho : o.op = .call { callee := .builtin .append, args := #[sl, x], argTypes := #[t, t] })
    (base : Nat) (v : Value) (l : List α) (hv : a.eval sl = v) (hown : w.ownsRow base e s v l.length (flat c l)) (y : α) (ad : Addr) (k : Nat) (hx : a.eval x = .slice (some ad) 1 k)
    (hnews : ∀ j u, (c y)[j]? = some u → w.cell? (ad.add j) = some u) (hlen : l.length < 100000000000) (hbase : base ≤ w.heap.size)
    (h : ∀ g cap w', w'.ownsRow base e s (.slice (some ⟨g, 0, none⟩) (l.length + 1) cap) (l ++ [y]).length (flat c (l ++ [y])) → w.grownBy w' v.ownBlock → (some g = v.ownBlock ∨ g = w.heap.size) → wpList P ops Q rest (a.put o.dst (.slice (some ⟨g, 0, none⟩) (l.length + 1) cap)) w') :
    wpList P ops Q (o :: rest) a w := by
  obtain ⟨i0, hi, hz0, hz1, hz2⟩ := info_parts hinfo
  refine wpList_append_own_at w hgd sl x t ho base e i0 z s bytes ht hi hz0 hz1 hz2 hzs hs v l.length (flat c l) hv hown ad 1 k (c y) hx (by rw [hc, Nat.one_mul]) hnews (h1 y) (by unfold maxLen; omega) ?_ hbase ?_
  · calc (l.length + 1) * bytes ≤ (l.length + 1) * 256 := Nat.mul_le_mul_left _ hby
      _ ≤ 140737488355328 := by omega
  · intro v' w1 hown' hgrow _ hat
    obtain ⟨g, cap, rfl⟩ := ownsRow_succ hown'
    refine h g cap w1 ?_ hgrow (by simpa [Value.ownBlock] using hat)
    have e : flat c (l ++ [y]) = flat c l ++ c y := by simp [flat]
    rw [e, List.length_append, List.length_singleton]
    exact hown'
/-- The same inside a fence. -/
theorem append_one_in {F : Fence} {n : Nat} {P : Program} {ops : Array Oper} {rest : List Oper} {o : Oper} {a : Act} {w : World} {Q : Exit → Act → World → Prop} {α : Type} (c : α → List Value) (s bytes : Nat) (z : Value) (hc : ∀ x, (c x).length = s) (h1 : ∀ x, ∀ u ∈ c x, u.oneCell' = true)
    (hs : 0 < s) (hzs : z.cells.size = s) (hby : bytes ≤ 256) {t e : TypeId} (ht : P.underlying t = some (.slice e)) (hinfo : (P.info? e).map (fun i => (i.zero, i.size, i.bytes)) = some (some z, s, bytes))
    (hgd : o.guard = none) (sl x : Operand) (ho : o.op = .call { callee := .builtin .append, args := #[sl, x], argTypes := #[t, t] })
    (base : Nat) (v : Value) (l : List α) (hv : a.eval sl = v) (hown : w.ownsRow base e s v l.length (flat c l)) (y : α) (ad : Addr) (k : Nat) (hx : a.eval x = .slice (some ad) 1 k)
    (hnews : ∀ j u, (c y)[j]? = some u → w.cell? (ad.add j) = some u) (hlen : l.length < 100000000000) (hbase : base ≤ w.heap.size)
    (h : ∀ g cap w', w'.ownsRow base e s (.slice (some ⟨g, 0, none⟩) (l.length + 1) cap) (l ++ [y]).length (flat c (l ++ [y])) → w.grownBy w' v.ownBlock → wpListIn F n P ops Q rest (a.put o.dst (.slice (some ⟨g, 0, none⟩) (l.length + 1) cap)) w') :
    wpListIn F n P ops Q (o :: rest) a w := by
  obtain ⟨i0, hi, hz0, hz1, hz2⟩ := info_parts hinfo
  refine wpListIn_append_own w hgd sl x t ho base e i0 z s bytes ht hi hz0 hz1 hz2 hzs hs v l.length (flat c l) hv hown ad 1 k (c y) hx (by rw [hc, Nat.one_mul]) hnews (h1 y) (by unfold maxLen; omega) ?_ hbase ?_
  · calc (l.length + 1) * bytes ≤ (l.length + 1) * 256 := Nat.mul_le_mul_left _ hby
      _ ≤ 140737488355328 := by omega
  · intro v' w1 hown' hgrow _
    obtain ⟨g, cap, rfl⟩ := ownsRow_succ hown'
    refine h g cap w1 ?_ hgrow
    have e : flat c (l ++ [y]) = flat c l ++ c y := by simp [flat]
    rw [e, List.length_append, List.length_singleton]
    exact hown'
/-- A block of cells of another type is no row's own block. -/
theorem not_row {W : World} {b : Nat} {c : Array Value} {t e : TypeId} {fr : Nat × Nat} {base s n : Nat} {v : Value} {xs : List Value} (h : W.heap[b]? = some (.cells c t fr)) (hte : t ≠ e) (hr : W.ownsRow base e s v n xs) : some b ≠ v.ownBlock := by
  rcases hr.2 with ⟨rfl, _⟩ | ⟨g, cap, cur, rfl, _, hgb, _⟩
  · simp [Value.ownBlock]
  · intro e'
    obtain rfl : b = g := by simpa [Value.ownBlock] using e'
    rw [h] at hgb
    simp only [Option.some.injEq, Obj.cells.injEq] at hgb
    exact hte hgb.2.1
theorem own_ge {W : World} {e : TypeId} {base s n : Nat} {v : Value} {xs : List Value} (hr : W.ownsRow base e s v n xs) (k : Nat) (hk : some k = v.ownBlock) : base ≤ k := (hr.lt k hk.symm).1
theorem add_field (a : Addr) (n j : Nat) (hj : 0 < j) : a.add (n + j) = ⟨(a.add n).block, (a.add n).off + j, none⟩ := by
  unfold Addr.add
  by_cases hn : n = 0
  · subst hn; simp; omega
  · rw [if_neg (by omega), if_neg hn]; simp; omega
theorem add_blk (a : Addr) (n : Nat) : (a.add n).block = a.block := by unfold Addr.add; split <;> rfl
/-- Element i of a row that is read, cell by cell, as the walk spells it. -/
theorem Reads.at_ {α : Type} {c : α → List Value} {s : Nat} {w : World} {A : Option Addr} {n : Nat} {xs : List α} (h : Reads c s w A n xs) (hs : 0 < s) (i : Nat) (hi : i < xs.length) :
    ∃ ad, A = some ad ∧ w.cell? (ad.add (i * s)) = (c xs[i])[0]? ∧ ∀ j, 0 < j → j < s → w.cell? ⟨(ad.add (i * s)).block, (ad.add (i * s)).off + j, none⟩ = (c xs[i])[j]? := by
  obtain ⟨ad, e, hc⟩ := h.2.2 (by have := h.1; omega)
  exact ⟨ad, e, hc i hi 0 hs, fun j h0 hj => by rw [← add_field _ _ _ h0]; exact hc i hi j hj⟩
theorem blk_new {w : World} {b : Nat} (o : Obj) (hb : b = w.heap.size) : (w.alloc o).heap[b]? = some o := by subst hb; exact World.alloc_heap_new w o
theorem blk_old {w : World} {b : Nat} {o : Obj} (h : w.heap[b]? = some o) (o' : Obj) : (w.alloc o').heap[b]? = some o := (Below.heap_alloc _ _ b (blk_lt h)).trans h
theorem Reads.lt {α : Type} {c : α → List Value} {s : Nat} {w : World} {A : Option Addr} {n : Nat} {xs : List α} (hc : ∀ x, (c x).length = s) (hs : 0 < s) (h : Reads c s w A n xs) (hn : 0 < n) : ∀ ad, A = some ad → ad.block < w.heap.size := by
  intro ad e
  obtain ⟨ad', e', h'⟩ := h.2.2 hn
  obtain rfl : ad = ad' := Option.some.inj (e.symm.trans e')
  have hl : 0 < xs.length := by rw [h.1]; exact hn
  have hcell := h' 0 hl 0 hs
  rw [List.getElem?_eq_getElem (by rw [hc]; exact hs)] at hcell
  have := World.block_lt_of_cell? w _ hcell
  rwa [add_blk] at this
/-- What is read stays where nothing below the old heap's end is written. -/
theorem Reads.up {α : Type} {c : α → List Value} {s : Nat} {w w1 : World} {A : Option Addr} {n : Nat} {xs : List α} (hc : ∀ x, (c x).length = s) (hs : 0 < s) (h : Reads c s w A n xs) (hf : Fr (w.heap.size ≤ ·) w w1) : Reads c s w1 A n xs := by
  rcases Nat.eq_zero_or_pos n with h0 | h0
  · exact ⟨h.1, h.2.1, fun hn => by omega⟩
  · exact h.fr hc hf (fun ad e => by have := h.lt hc hs h0 ad e; omega)
end Go.Proofs.Ytkfoapbjdegdiaa.Own
