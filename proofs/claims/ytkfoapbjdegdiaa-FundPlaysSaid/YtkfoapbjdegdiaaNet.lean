/- op.Net: what additions come to, key by key. -/
import Derived.Test.YtkfoapbjdegdiaaSorted
namespace Go.Proofs.Ytkfoapbjdegdiaa.Own
open Go.RowKit

/-! ### Members of a map as a list -/
section
variable {κ : Type} [DecidableEq κ]
omit [DecidableEq κ] in
theorem mem_key_unique {m : List (κ × Value)} (hn : (m.map (·.1)).Nodup) {p q : κ × Value} (hp : p ∈ m) (hq : q ∈ m) (h : p.1 = q.1) : p = q := by
  induction m with
  | nil => cases hp
  | cons a m ih =>
    simp only [List.map_cons, List.nodup_cons] at hn
    rcases List.mem_cons.1 hp with rfl | hp'
    · rcases List.mem_cons.1 hq with rfl | hq'
      · rfl
      · exact absurd (h ▸ List.mem_map_of_mem hq') hn.1
    · rcases List.mem_cons.1 hq with rfl | hq'
      · exact absurd (h.symm ▸ List.mem_map_of_mem hp') hn.1
      · exact ih hn.2 hp' hq'
theorem mem_mset {m : List (κ × Value)} (hn : (m.map (·.1)).Nodup) (k : κ) (v : Value) (p : κ × Value) : p ∈ mset m k v ↔ p = (k, v) ∨ p ∈ m ∧ p.1 ≠ k := by
  unfold mset
  cases hp : pos m k with
  | none =>
    have := pos_none hp
    simp only [List.mem_append, List.mem_singleton]
    constructor
    · rintro (h | h)
      · exact .inr ⟨h, this p h⟩
      · exact .inl h
    · rintro (h | h)
      · exact .inr h
      · exact .inl h.1
  | some i =>
    have hi := pos_lt hp
    have hk := pos_key hp
    simp only
    rw [List.mem_iff_getElem?]
    constructor
    · rintro ⟨j, hj⟩
      rw [List.getElem?_set] at hj
      by_cases e : i = j
      · subst e
        simp only [hi, if_true] at hj
        exact .inl (Option.some.inj hj).symm
      · rw [if_neg e] at hj
        have hm := List.mem_of_getElem? hj
        refine .inr ⟨hm, fun hpk => e ?_⟩
        obtain ⟨hj1, hj2⟩ := List.getElem?_eq_some_iff.1 hj
        have h1 := List.pairwise_iff_getElem.1 hn
        rcases Nat.lt_trichotomy i j with hlt | rfl | hgt
        · have := h1 i j (by simpa using hi) (by simpa using hj1) hlt
          simp [hk, hj2, hpk] at this
        · rfl
        · have := h1 j i (by simpa using hj1) (by simpa using hi) hgt
          simp [hk, hj2, hpk] at this
    · rintro (rfl | ⟨h1, h2⟩)
      · exact ⟨i, by rw [List.getElem?_set]; simp [hi]⟩
      · obtain ⟨j, hj⟩ := List.mem_iff_getElem?.1 h1
        refine ⟨j, ?_⟩
        rw [List.getElem?_set, if_neg]
        · exact hj
        · rintro rfl
          rw [List.getElem?_eq_getElem hi] at hj
          exact h2 (by rw [← Option.some.inj hj]; exact hk)
theorem mset_nodup {m : List (κ × Value)} (hn : (m.map (·.1)).Nodup) (k : κ) (v : Value) : ((mset m k v).map (·.1)).Nodup := by
  unfold mset
  cases hp : pos m k with
  | none => exact keys_push hn hp v
  | some i => show ((m.set i (k, v)).map (·.1)).Nodup; rw [keys_set (pos_lt hp) k (pos_key hp)]; exact hn
theorem mget_some {m : List (κ × Value)} (hn : (m.map (·.1)).Nodup) {k : κ} {v : Value} : mget m k = some v ↔ (k, v) ∈ m := by
  rw [mget_pos]
  cases hp : pos m k with
  | none =>
    constructor
    · intro h; cases h
    · intro h; exact absurd rfl (pos_none hp _ h)
  | some i =>
    have hi := pos_lt hp
    rw [Option.bind_some, List.getElem?_eq_getElem hi, Option.map_some, Option.some.injEq]
    have hm : m[i] ∈ m := List.getElem_mem hi
    constructor
    · rintro rfl
      have := pos_key hp
      rw [← this]; exact hm
    · intro h
      have := mem_key_unique hn hm h (pos_key hp)
      rw [this]
theorem mget_none {m : List (κ × Value)} {k : κ} : mget m k = none ↔ k ∉ m.map (·.1) := by
  unfold mget
  rw [Option.map_eq_none_iff, List.find?_eq_none]
  simp only [List.mem_map, not_exists, not_and, decide_eq_true_eq]
end

section
variable {κ : Type} [DecidableEq κ]
theorem mset_len (m : List (κ × Value)) (k : κ) (v : Value) : (mset m k v).length ≤ m.length + 1 := by
  unfold mset
  cases pos m k <;> simp
end

/-! ### Groups: the map of op.Net -/
theorem infoI64 : (Try.prog.info? 2).map (fun i => (i.zero, i.size, i.bytes)) = some (some (.int .i64 0), 1, 8) := by kernel_rfl
theorem cellI_len (x : Int) : (cellI x).length = 1 := rfl
theorem cellI_one (x : Int) : ∀ u ∈ cellI x, u.oneCell' = true := by simp [cellI, Value.oneCell']
def I64Row (w : World) (base : Nat) (v : Value) (l : List Int) : Prop := w.ownsRow base 2 1 v l.length (flat cellI l)
def deltas (l : List OpD) (k : KeyD) : List Int := (l.filter (fun o => decide (o.key = k))).map (·.d)
theorem deltas_snoc (l : List OpD) (o : OpD) (k : KeyD) : deltas (l ++ [o]) k = if o.key = k then deltas l k ++ [o.d] else deltas l k := by
  unfold deltas
  rw [List.filter_append]
  by_cases h : o.key = k <;> simp [h]
theorem deltas_len (l : List OpD) (k : KeyD) : (deltas l k).length ≤ l.length := by unfold deltas; rw [List.length_map]; exact List.length_filter_le _ _
theorem deltas_nil {l : List OpD} {k : KeyD} (h : k ∉ l.map (·.key)) : deltas l k = [] := by
  unfold deltas
  rw [List.filter_eq_nil_iff.2, List.map_nil]
  intro o ho hk
  exact h (List.mem_map.2 ⟨o, ho, by simpa using hk⟩)

structure Groups (base : Nat) (W : World) (b : Nat) (m : List (KeyD × Value)) (pre : List OpD) : Prop where
  map : MapIs KeyD.val W b m
  keys : ∀ k, k ∈ m.map (·.1) ↔ k ∈ pre.map (·.key)
  rows : ∀ p ∈ m, I64Row W base p.2 (deltas pre p.1)
  apart : ∀ p ∈ m, ∀ q ∈ m, p.1 ≠ q.1 → ∀ j, p.2.ownBlock = some j → q.2.ownBlock ≠ some j
theorem MapIs.no_row {w : World} {b : Nat} {κ : Type} {kv : κ → Value} {m : List (κ × Value)} (h : MapIs kv w b m) {e : TypeId} {base s n : Nat} {v : Value} {xs : List Value} (hr : w.ownsRow base e s v n xs) : ∀ j, v.ownBlock = some j → j ≠ b := by
  rintro j hj rfl
  obtain ⟨es, c, hb, _⟩ := h
  exact not_row' hb (by intro c t e; cases e) hr hj.symm
/-- The row that is there for a key, or none. -/
theorem Groups.row {base : Nat} {W : World} {b : Nat} {m : List (KeyD × Value)} {pre : List OpD} (h : Groups base W b m pre) (k : KeyD) : I64Row W base ((mget m k).getD (.slice none 0 0)) (deltas pre k) := by
  cases hg : mget m k with
  | none =>
    have hk := mget_none.1 hg
    rw [h.keys] at hk
    rw [deltas_nil hk]
    exact ⟨rfl, .inl ⟨rfl, rfl⟩⟩
  | some v => exact h.rows (k, v) ((mget_some h.map.keys).1 hg)
theorem Groups.fr {base : Nat} {W W' : World} {b : Nat} {m : List (KeyD × Value)} {pre : List OpD} {S : Nat → Prop} (h : Groups base W b m pre) (hf : Fr S W W') (hS : ∀ k, k < W.heap.size → ¬ S k) : Groups base W' b m pre :=
  ⟨h.map.fr hf (hS b h.map.lt), h.keys, fun p hp => hf.own (h.rows p hp) (fun k hk => hS k ((h.rows p hp).lt k hk).2), h.apart⟩
theorem Groups.step {base : Nat} {W1 W2 W3 W4 : World} {b : Nat} {m : List (KeyD × Value)} {pre : List OpD} {o : OpD} (h : Groups base W1 b m pre) {g cap n : Nat} {v : Value} (hv : v = (mget m o.key).getD (.slice none 0 0))
    (f12 : Fr (· = b) W1 W2) (hs : W2.heap.size = W1.heap.size) (f23 : W2.grownBy W3 v.ownBlock) (hrow : I64Row W3 base (.slice (some ⟨g, 0, none⟩) n cap) (deltas pre o.key ++ [o.d])) (hat : some g = v.ownBlock ∨ g = W2.heap.size)
    (f34 : Fr (· = b) W3 W4) (hm : MapIs KeyD.val W4 b (mset m o.key (.slice (some ⟨g, 0, none⟩) n cap))) : Groups base W4 b (mset m o.key (.slice (some ⟨g, 0, none⟩) n cap)) (pre ++ [o]) := by
  have hn := h.map.keys
  have hr := h.row o.key
  rw [← hv] at hr
  have hvm : ∀ j, v.ownBlock = some j → ∃ p ∈ m, p.1 = o.key ∧ p.2 = v := by
    intro j hj
    cases hg : mget m o.key with
    | none => rw [hv, hg] at hj; simp [Value.ownBlock] at hj
    | some u => exact ⟨(o.key, u), (mget_some hn).1 hg, rfl, by rw [hv, hg]; rfl⟩
  have hold : ∀ p ∈ m, p.1 ≠ o.key → I64Row W4 base p.2 (deltas pre p.1) ∧ ∀ j, p.2.ownBlock = some j → j ≠ g := by
    intro p hp hk
    have h1 := h.rows p hp
    have hb1 := h.map.no_row h1
    have h2 : I64Row W2 base p.2 (deltas pre p.1) := f12.own h1 (fun j hj => hb1 j hj)
    have hne : ∀ j, p.2.ownBlock = some j → some j ≠ v.ownBlock := by
      intro j hj e
      obtain ⟨q, hq, hqk, hqv⟩ := hvm j e.symm
      exact h.apart p hp q hq (by rw [hqk]; exact hk) j hj (by rw [hqv]; exact e.symm)
    have h3 : I64Row W3 base p.2 (deltas pre p.1) := (Fr.ofGrown f23).own h2 (fun j hj => hne j hj)
    refine ⟨f34.own h3 (fun j hj => hb1 j hj), ?_⟩
    rintro j hj rfl
    rcases hat with e | e
    · exact hne j hj e
    · have := (h1.lt j hj).2
      omega
  refine ⟨hm, ?_, ?_, ?_⟩
  · intro k
    have : ∀ k, k ∈ (mset m o.key (.slice (some ⟨g, 0, none⟩) n cap)).map (·.1) ↔ k = o.key ∨ k ∈ m.map (·.1) := by
      intro k
      simp only [List.mem_map, mem_mset hn]
      constructor
      · rintro ⟨p, (rfl | ⟨h1, h2⟩), rfl⟩
        · exact .inl rfl
        · exact .inr ⟨p, h1, rfl⟩
      · rintro (rfl | ⟨p, h1, rfl⟩)
        · exact ⟨_, .inl rfl, rfl⟩
        · by_cases e : p.1 = o.key
          · exact ⟨_, .inl rfl, e.symm⟩
          · exact ⟨p, .inr ⟨h1, e⟩, rfl⟩
    rw [this, h.keys]
    simp [or_comm]
  · intro p hp
    rcases (mem_mset hn _ _ p).1 hp with rfl | ⟨h1, h2⟩
    · show I64Row W4 base _ (deltas (pre ++ [o]) o.key)
      rw [deltas_snoc, if_pos rfl]
      refine f34.own hrow ?_
      intro j hj e
      have hg : g = j := by simpa [Value.ownBlock] using hj
      have hmb : MapIs KeyD.val W2 b m ∨ True := .inr trivial
      rcases hat with e' | e'
      · exact h.map.no_row hr j (by rw [← e', hg]) e
      · have := h.map.lt
        omega
    · rw [deltas_snoc, if_neg (fun e => h2 e.symm)]
      exact (hold p h1 h2).1
  · intro p hp q hq hpq j hj hq'
    rcases (mem_mset hn _ _ p).1 hp with rfl | ⟨h1, h2⟩
    · rcases (mem_mset hn _ _ q).1 hq with rfl | ⟨h3, h4⟩
      · exact hpq rfl
      · have hg : g = j := by simpa [Value.ownBlock] using hj
        exact (hold q h3 h4).2 j hq' hg.symm
    · rcases (mem_mset hn _ _ q).1 hq with rfl | ⟨h3, h4⟩
      · have hg : g = j := by simpa [Value.ownBlock] using hq'
        exact (hold p h1 h2).2 j hj hg.symm
      · exact h.apart p h1 q h3 hpq j hj hq'

theorem own_lower {w : World} {base base' : Nat} {e : TypeId} {s n : Nat} {v : Value} {xs : List Value} (h : w.ownsRow base e s v n xs) (hb : base' ≤ base) : w.ownsRow base' e s v n xs := by
  obtain ⟨h0, h1⟩ := h
  rcases h1 with h1 | ⟨g, cap, cur, hv, hg, r⟩
  · exact ⟨h0, .inl h1⟩
  · exact ⟨h0, .inr ⟨g, cap, cur, hv, Nat.le_trans hb hg, r⟩⟩
theorem wpList_lookup1 {P : Program} {κ : Type} [DecidableEq κ] {kv : κ → Value} {w : World} {b : Nat} {m : List (κ × Value)} {mt kt et : TypeId} {ops : Array Oper} {rest : List Oper} {o : Oper} {a : Act} {Q : Exit → Act → World → Prop} (hg : o.guard = none) (xm xk : Operand) (hop : o.op = Op.lookup mt xm xk false) (K : KeyOps P kt kv) (ht : P.underlying mt = some (.map kt et)) {z : Value} (hz : (zeroValue et).run P w = .ok z w) (k : κ) (hm : a.eval xm = .map (some b)) (hk : a.eval xk = kv k) (h : MapIs kv w b m) {v : Value} (hv : (mget m k).getD z = v)
    (hK : wpList P ops Q rest (a.put o.dst v) w) : wpList P ops Q (o :: rest) a w := by
  subst hv
  exact wpList_lookup hg xm xk false hop K ht hz k hm hk h hK

def netOk (ks : List KeyD) (l : List OpD) : Bool := ks.all fun k => fits (total (deltas l k))
def netSome (ks : List KeyD) (l : List OpD) : List OpD := ks.filterMap fun k => if total (deltas l k) = 0 then none else some ⟨k, total (deltas l k)⟩
def netOps (ks : List KeyD) (l : List OpD) : List OpD := if netOk ks l = true then netSome ks l else []
structure NetKeys (ks : List KeyD) (l : List OpD) : Prop where
  nodup : ks.Nodup
  mem : ∀ k, k ∈ ks ↔ k ∈ l.map (·.key)
  sorted : ks.Pairwise fun a b => ltKey a b = true
theorem netSome_snoc (ks : List KeyD) (k : KeyD) (l : List OpD) : netSome (ks ++ [k]) l = if total (deltas l k) = 0 then netSome ks l else netSome ks l ++ [⟨k, total (deltas l k)⟩] := by
  unfold netSome
  rw [List.filterMap_append]
  by_cases h : total (deltas l k) = 0 <;> simp [h]
theorem netSome_len (ks : List KeyD) (l : List OpD) : (netSome ks l).length ≤ ks.length := List.length_filterMap_le _ _
theorem sortKeys_perm (l : List KeyD) : (sortKeys l).Perm l := List.mergeSort_perm _ _
theorem sortKeys_sorted (l : List KeyD) : (sortKeys l).Pairwise fun a b => ltKey b a = false := by
  have h := List.pairwise_mergeSort (le := fun x y => !ltKey y x) (fun a b c h1 h2 => by
    simp only [Bool.not_eq_true'] at *
    exact swoKey.ntrans c b a h2 h1) (fun a b => by
    cases h1 : ltKey b a
    · simp
    · have : ltKey a b = false := by
        cases h2 : ltKey a b
        · rfl
        · exact absurd (swoKey.trans a b a h2 h1) (by rw [swoKey.irrefl]; simp)
      simp [this]) l
  exact h.imp (fun h => by simpa using h)
theorem netKeys_of {base : Nat} {W : World} {b : Nat} {m : List (KeyD × Value)} {l : List OpD} (h : Groups base W b m l) {ss : List KeyD} (hp : ss.Perm (m.map (·.1))) : NetKeys (sortKeys ss) l := by
  have hn : (sortKeys ss).Nodup := h.map.keys.perm (((sortKeys_perm ss).trans hp).symm)
  refine ⟨hn, fun k => ?_, ?_⟩
  · rw [((sortKeys_perm ss).trans hp).mem_iff, h.keys]
  · refine (List.pairwise_and_iff.2 ⟨sortKeys_sorted ss, hn⟩).imp (fun {a b} h => ?_)
    cases h1 : ltKey a b
    · exact absurd (totKey a b h1 h.1) h.2
    · rfl
end Go.Proofs.Ytkfoapbjdegdiaa.Own
