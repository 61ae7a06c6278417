/- Rows of a fund: lists of keys with fields, rising; plain laws. -/
import Derived.Test.YtkfoapbjdegdiaaField3
import Derived.Test.YtkfoapbjdegdiaaNet
namespace Go.Proofs.Ytkfoapbjdegdiaa.Own
open Go.RowKit

theorem ltKey_irrefl (k : KeyD) : ltKey k k = false := swoKey.irrefl k
theorem ltKey_trans {a b c : KeyD} (h1 : ltKey a b = true) (h2 : ltKey b c = true) : ltKey a c = true := swoKey.trans a b c h1 h2
theorem ltKey_ne {a b : KeyD} (h : ltKey a b = true) : a ≠ b := by rintro rfl; rw [ltKey_irrefl] at h; cases h
theorem ltKey_asymm {a b : KeyD} (h : ltKey a b = true) : ltKey b a = false := by
  cases h2 : ltKey b a
  · rfl
  · have := ltKey_trans h h2; rw [ltKey_irrefl] at this; cases this
/-- Two rising lists with the same members are one. -/
theorem rising_ext : ∀ {a b : List KeyD}, a.Pairwise (fun x y => ltKey x y = true) → b.Pairwise (fun x y => ltKey x y = true) → (∀ k, k ∈ a ↔ k ∈ b) → a = b
  | [], [], _, _, _ => rfl
  | [], y :: b, _, _, h => absurd ((h y).2 (List.mem_cons_self)) (by simp)
  | x :: a, [], _, _, h => absurd ((h x).1 (List.mem_cons_self)) (by simp)
  | x :: a, y :: b, ha, hb, h => by
    rw [List.pairwise_cons] at ha hb
    have e : x = y := by
      rcases List.mem_cons.1 ((h x).1 List.mem_cons_self) with e | hx
      · exact e
      · rcases List.mem_cons.1 ((h y).2 List.mem_cons_self) with e | hy
        · exact e.symm
        · have h1 := ha.1 y hy
          have h2 := hb.1 x hx
          rw [ltKey_asymm h1] at h2
          cases h2
    subst e
    have hr : a = b := by
      refine rising_ext ha.2 hb.2 (fun k => ?_)
      constructor
      · intro hk
        rcases List.mem_cons.1 ((h k).1 (List.mem_cons_of_mem _ hk)) with e | h'
        · exact absurd e.symm (ltKey_ne (ha.1 k hk))
        · exact h'
      · intro hk
        rcases List.mem_cons.1 ((h k).2 (List.mem_cons_of_mem _ hk)) with e | h'
        · exact absurd e.symm (ltKey_ne (hb.1 k hk))
        · exact h'
    rw [hr]

abbrev RowD := KeyD × FieldD
def Rising (l : List RowD) : Prop := l.Pairwise fun a b => ltKey a.1 b.1 = true
def rget (l : List RowD) (k : KeyD) : Option FieldD := (l.find? (fun r => decide (r.1 = k))).map (·.2)
def rput : List RowD → KeyD → FieldD → List RowD
  | [], k, f => [(k, f)]
  | r :: l, k, f => if ltKey r.1 k = true then r :: rput l k f else if r.1 = k then (k, f) :: l else (k, f) :: r :: l
theorem mem_rput {l : List RowD} (h : Rising l) (k : KeyD) (f : FieldD) (p : RowD) : p ∈ rput l k f ↔ p = (k, f) ∨ p ∈ l ∧ p.1 ≠ k := by
  induction l with
  | nil => simp [rput]
  | cons r l ih =>
    unfold Rising at h
    rw [List.pairwise_cons] at h
    have ih := ih h.2
    unfold rput
    split
    · rename_i hl
      rw [List.mem_cons, ih, List.mem_cons]
      constructor
      · rintro (rfl | rfl | ⟨h1, h2⟩)
        · exact .inr ⟨.inl rfl, ltKey_ne hl⟩
        · exact .inl rfl
        · exact .inr ⟨.inr h1, h2⟩
      · rintro (rfl | ⟨rfl | h1, h2⟩)
        · exact .inr (.inl rfl)
        · exact .inl rfl
        · exact .inr (.inr ⟨h1, h2⟩)
    · split
      · rename_i hl hk
        rw [List.mem_cons, List.mem_cons]
        constructor
        · rintro (rfl | h1)
          · exact .inl rfl
          · exact .inr ⟨.inr h1, by rw [← hk]; exact (ltKey_ne (h.1 p h1)).symm⟩
        · rintro (rfl | ⟨rfl | h1, h2⟩)
          · exact .inl rfl
          · exact absurd hk h2
          · exact .inr h1
      · rename_i hl hk
        have hlt : ltKey k r.1 = true := by
          cases h1 : ltKey k r.1
          · exact absurd (totKey r.1 k (by simpa using hl) h1) hk
          · rfl
        rw [List.mem_cons]
        constructor
        · rintro (rfl | h1)
          · exact .inl rfl
          · refine .inr ⟨h1, ?_⟩
            rcases List.mem_cons.1 h1 with rfl | h2
            · exact hk
            · exact (ltKey_ne (ltKey_trans hlt (h.1 p h2))).symm
        · rintro (rfl | ⟨h1, _⟩)
          · exact .inl rfl
          · exact .inr h1
theorem rput_rising {l : List RowD} (h : Rising l) (k : KeyD) (f : FieldD) : Rising (rput l k f) := by
  induction l with
  | nil => simp [rput, Rising]
  | cons r l ih =>
    have h' := h
    unfold Rising at h
    rw [List.pairwise_cons] at h
    unfold rput
    split
    · rename_i hl
      unfold Rising
      rw [List.pairwise_cons]
      refine ⟨fun p hp => ?_, ih h.2⟩
      rcases (mem_rput h.2 k f p).1 hp with rfl | ⟨h1, _⟩
      · exact hl
      · exact h.1 p h1
    · split
      · rename_i hl hk
        unfold Rising
        rw [List.pairwise_cons]
        exact ⟨fun p hp => by rw [← hk]; exact h.1 p hp, h.2⟩
      · rename_i hl hk
        have hlt : ltKey k r.1 = true := by
          cases h1 : ltKey k r.1
          · exact absurd (totKey r.1 k (by simpa using hl) h1) hk
          · rfl
        unfold Rising
        rw [List.pairwise_cons]
        refine ⟨fun p hp => ?_, h'⟩
        rcases List.mem_cons.1 hp with rfl | h2
        · exact hlt
        · exact ltKey_trans hlt (h.1 p h2)
theorem Rising.unique {l : List RowD} (h : Rising l) {p q : RowD} (hp : p ∈ l) (hq : q ∈ l) (e : p.1 = q.1) : p = q := by
  induction l with
  | nil => cases hp
  | cons r l ih =>
    unfold Rising at h
    rw [List.pairwise_cons] at h
    rcases List.mem_cons.1 hp with rfl | hp'
    · rcases List.mem_cons.1 hq with rfl | hq'
      · rfl
      · exact absurd e (ltKey_ne (h.1 q hq'))
    · rcases List.mem_cons.1 hq with rfl | hq'
      · exact absurd e.symm (ltKey_ne (h.1 p hp'))
      · exact ih h.2 hp' hq'
theorem rget_some {l : List RowD} (h : Rising l) {k : KeyD} {f : FieldD} : rget l k = some f ↔ (k, f) ∈ l := by
  unfold rget
  constructor
  · intro h1
    obtain ⟨r, hr, rfl⟩ := Option.map_eq_some_iff.1 h1
    have h2 := List.find?_some hr
    simp only [decide_eq_true_eq] at h2
    subst h2
    exact List.mem_of_find?_eq_some hr
  · intro hm
    cases hf : l.find? (fun r => decide (r.1 = k)) with
    | none => have := List.find?_eq_none.1 hf _ hm; simp at this
    | some r =>
      have h2 := List.find?_some hf
      simp only [decide_eq_true_eq] at h2
      have := h.unique (List.mem_of_find?_eq_some hf) hm h2
      rw [this]; rfl
theorem rget_none {l : List RowD} {k : KeyD} : rget l k = none ↔ ∀ r ∈ l, r.1 ≠ k := by
  unfold rget
  rw [Option.map_eq_none_iff, List.find?_eq_none]
  simp
theorem rget_rput {l : List RowD} (h : Rising l) (k : KeyD) (f : FieldD) (k' : KeyD) : rget (rput l k f) k' = if k' = k then some f else rget l k' := by
  split
  · rename_i e
    subst e
    exact (rget_some (rput_rising h _ f)).2 ((mem_rput h _ f _).2 (.inl rfl))
  · rename_i e
    cases hg : rget l k' with
    | some g => exact (rget_some (rput_rising h k f)).2 ((mem_rput h k f _).2 (.inr ⟨(rget_some h).1 hg, e⟩))
    | none =>
      rw [rget_none] at hg ⊢
      intro r hr
      rcases (mem_rput h k f r).1 hr with rfl | ⟨h1, _⟩
      · exact fun e' => e e'.symm
      · exact hg r h1
theorem rput_len (l : List RowD) (k : KeyD) (f : FieldD) : (rput l k f).length ≤ l.length + 1 := by
  induction l with
  | nil => simp [rput]
  | cons r l ih => unfold rput; (repeat' split) <;> simp only [List.length_cons] <;> omega
theorem rput_len_had {l : List RowD} {k : KeyD} {g : FieldD} (h : Rising l) (hk : rget l k = some g) (f : FieldD) : (rput l k f).length = l.length := by
  induction l with
  | nil => simp [rget] at hk
  | cons r l ih =>
    have h' := (rget_some h).1 hk
    unfold Rising at h
    rw [List.pairwise_cons] at h
    unfold rput
    split
    · rename_i hl
      rcases List.mem_cons.1 h' with e | h2
      · subst e; rw [ltKey_irrefl] at hl; cases hl
      · rw [List.length_cons, List.length_cons, ih h.2 ((rget_some h.2).2 h2)]
    · split
      · rfl
      · rename_i hl hk2
        rcases List.mem_cons.1 h' with e | h2
        · subst e; exact absurd rfl hk2
        · exact absurd (h.1 _ h2) hl
def RowsIn (l : List RowD) : Prop := ∀ r ∈ l, r.2.In
theorem RowsIn.put {l : List RowD} (h : RowsIn l) (hr : Rising l) {k : KeyD} {f : FieldD} (hf : f.In) : RowsIn (rput l k f) := by
  intro r hr'
  rcases (mem_rput hr k f r).1 hr' with rfl | ⟨h1, _⟩
  · exact hf
  · exact h r h1
theorem RowsIn.get {l : List RowD} (h : RowsIn l) (hr : Rising l) {k : KeyD} {f : FieldD} (hg : rget l k = some f) : f.In := h _ ((rget_some hr).1 hg)
/-- What a function of fields makes of the field of a key. -/
def rdo (g : FieldD → FieldD × Int) (l : List RowD) (k : KeyD) : List RowD × Int :=
  match rget l k with
  | none => (l, 10)
  | some f => if (g f).2 = 0 then (rput l k (g f).1, 0) else (l, (g f).2)
theorem rdo_rising {g : FieldD → FieldD × Int} {l : List RowD} (h : Rising l) (k : KeyD) : Rising (rdo g l k).1 := by
  unfold rdo
  split
  · exact h
  · split
    · exact rput_rising h _ _
    · exact h
theorem rdo_len {g : FieldD → FieldD × Int} {l : List RowD} (h : Rising l) (k : KeyD) : (rdo g l k).1.length = l.length := by
  unfold rdo
  split
  · rfl
  · rename_i f hf
    split
    · exact rput_len_had h hf _
    · rfl
theorem rdo_in {g : FieldD → FieldD × Int} (hg : ∀ f : FieldD, f.In → (g f).1.In) {l : List RowD} (hi : RowsIn l) (h : Rising l) (k : KeyD) : RowsIn (rdo g l k).1 := by
  unfold rdo
  split
  · exact hi
  · rename_i f hf
    split
    · exact hi.put h (hg f (hi.get h hf))
    · exact hi
end Go.Proofs.Ytkfoapbjdegdiaa.Own
