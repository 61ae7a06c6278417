/- Maps of the program by any kind of keys: what their operations do, as lists of keys with values. -/
import Derived.Test.YtkfoapbjdegdiaaBase
import Derived.Maps.RangeWalk
import Derived.LaidEql
import Derived.Sort.MapsRangeIn
namespace Go.Proofs.Ytkfoapbjdegdiaa.Own
open Go.RowKit
open Go.ChangeMaps (setBlock)

section
variable {κ : Type} [DecidableEq κ]
/-- Where a key stands. -/
def pos (m : List (κ × Value)) (k : κ) : Option Nat := m.findIdx? (fun p => decide (p.1 = k))
def mget (m : List (κ × Value)) (k : κ) : Option Value := (m.find? (fun p => decide (p.1 = k))).map (·.2)
def mset (m : List (κ × Value)) (k : κ) (v : Value) : List (κ × Value) := match pos m k with | some i => m.set i (k, v) | none => m ++ [(k, v)]
def mdel (m : List (κ × Value)) (k : κ) : List (κ × Value) := match pos m k with | some i => m.eraseIdx i | none => m

/-- What the model asks of a kind of keys. -/
structure KeyOps (P : Program) (kt : TypeId) (kv : κ → Value) : Prop where
  find : ∀ (k : κ) (es : List MapEntry) (m : List (κ × Value)), es.map (fun e => (e.key, e.val)) = m.map (fun p => (kv p.1, p.2)) → ∀ w, (Instr.findKey kt (kv k) es).run P w = .ok ((pos m k).bind fun i => (m[i]?).map fun p => (i, p.2)) w
  check : ∀ e k w, (Instr.checkKey e 10000 kt (kv k)).run P w = .ok () w
  same : ∀ k, Instr.sameBits 10000 (kv k) (kv k) = true
  inj : ∀ a b, kv a = kv b → a = b

theorem findAsking_run {P : Program} {kt : TypeId} {kv : κ → Value} (heq : ∀ a b w, (Op.equal kt (kv a) (kv b)).run P w = .ok (decide (a = b)) w) (k : κ) (es : List MapEntry) (m : List (κ × Value)) (i : Nat)
    (h : es.map (fun e => (e.key, e.val)) = m.map (fun p => (kv p.1, p.2))) (w : World) :
    (Instr.findAsking kt (kv k) es i).run P w = .ok ((m.findIdx? (fun p => decide (p.1 = k))).bind fun j => (m[j]?).map fun p => (i + j, p.2)) w := by
  induction es generalizing m i with
  | nil =>
    cases m with
    | nil => rfl
    | cons a m => cases h
  | cons e es ih =>
    cases m with
    | nil => cases h
    | cons a m =>
      simp only [List.map_cons, List.cons.injEq, Prod.mk.injEq] at h
      obtain ⟨⟨h1, h2⟩, h3⟩ := h
      simp only [Instr.findAsking, h1, Sem.run_bind, heq, Result.andThen]
      by_cases hk : a.1 = k
      · simp [hk, List.findIdx?_cons, h2]
      · rw [show decide (k = a.1) = false from by simp; exact fun e => hk e.symm]
        simp only [Bool.false_eq_true, if_false]
        rw [ih m (i + 1) h3]
        simp only [List.findIdx?_cons, hk, decide_false, Bool.false_eq_true, if_false]
        congr 1
        cases hf : m.findIdx? (fun p => decide (p.1 = k)) with
        | none => simp
        | some j => simp; cases m[j]? <;> simp; omega
end

/-! ### Structs held against each other -/
theorem feq_one {P : Program} {d : Nat} {xs ys : Array Value} {f : Field} {a b : Value} {r : Bool} {w : World} (hn : f.name ≠ "_") (ha : (part f.type xs f.offset).run P w = .ok a w) (hb : (part f.type ys f.offset).run P w = .ok b w) (he : (Op.equalIn d f.type a b).run P w = .ok r w) :
    (Op.eqFields d xs ys [f]).run P w = .ok r w := by
  simp only [Op.eqFields, if_pos hn, Sem.run_bind, ha, hb, he, Result.andThen_ok]
  cases r <;> simp
theorem feq_cons {P : Program} {d : Nat} {xs ys : Array Value} {f : Field} {fs : List Field} {a b : Value} {r s : Bool} {w : World} (hn : f.name ≠ "_") (ha : (part f.type xs f.offset).run P w = .ok a w) (hb : (part f.type ys f.offset).run P w = .ok b w) (he : (Op.equalIn d f.type a b).run P w = .ok r w) (hr : (Op.eqFields d xs ys fs).run P w = .ok s w) :
    (Op.eqFields d xs ys (f :: fs)).run P w = .ok (r && s) w := by
  rw [Op.eqFields]
  simp only [if_pos hn, Sem.run_bind, ha, hb, he, Result.andThen_ok]
  cases r
  · simp
  · simpa using hr
theorem seq_of {P : Program} {d : Nat} {xs ys : Array Value} {r : Bool} {w : World} {t : TypeId} {fs : Array Field} (hu : P.underlying t = some (.struct fs)) (hp : P.stoodInHeld t = false) (h : (Op.eqFields d xs ys fs.toList).run P w = .ok r w) :
    (Op.equalIn (d + 1) t (.agg xs) (.agg ys)).run P w = .ok r w := by
  have hf : P.fieldsOf t = fs := by simp [Program.fieldsOf, hu]
  rw [run_equalIn_struct (P := P) w d t xs ys (by rw [hf]; exact hu) hp, hf]
  exact h

/-! ### The kind Key -/
theorem key_eq_n (n : Nat) (a b : KeyD) (w : World) : (Op.equalIn (n + 2) 41 a.val b.val).run Try.prog w = .ok (decide (a = b)) w := by
  obtain ⟨a1, a2, a3⟩ := a
  obtain ⟨b1, b2, b3⟩ := b
  have e : decide (KeyD.mk a1 a2 a3 = KeyD.mk b1 b2 b3) = (a1 == b1 && (a2 == b2 && (a3 == b3))) := by
    rw [Bool.eq_iff_iff]; simp
  rw [e]
  unfold KeyD.val
  refine seq_of Try.underlying41 (by kernel_rfl) ?_
  refine feq_cons (by decide) (by go_simp; rfl) (by go_simp; rfl) (by go_simp) ?_
  refine feq_cons (by decide) (by go_simp; rfl) (by go_simp; rfl) (by go_simp) ?_
  exact feq_one (by decide) (by go_simp; rfl) (by go_simp; rfl) (by go_simp)
theorem key_eq (a b : KeyD) (w : World) : (Op.equal 41 a.val b.val).run Try.prog w = .ok (decide (a = b)) w := key_eq_n 9998 a b w
theorem key_check_n (n : Nat) (e : Bool) (k : KeyD) (w : World) : (Instr.checkKey e (n + 2) 41 k.val).run Try.prog w = .ok () w := by
  have hu := Try.underlying41
  have h8 := Try.underlying5
  unfold KeyD.val
  simp only [Instr.checkKey]
  go_simp
theorem key_check (e : Bool) (k : KeyD) (w : World) : (Instr.checkKey e 10000 41 k.val).run Try.prog w = .ok () w := key_check_n 9998 e k w
theorem findNow_struct {P : Program} {kt : TypeId} {fs : Array Field} (hu : P.underlying kt = some (.struct fs)) (k : Value) (es : List MapEntry) (w : World) :
    (Instr.findKey kt k es).run P w = (Instr.findAsking kt k es 0).run P w := by
  simp only [Instr.findKey, Sem.run_bind, run_underlying hu, Result.andThen]
  cases es with
  | nil => rfl
  | cons e es => simp [Instr.findNow, Instr.sameNow]
theorem keyOps : KeyOps Try.prog 41 KeyD.val where
  find := by
    intro k es m h w
    rw [findNow_struct Try.underlying41, findAsking_run key_eq k es m 0 h w]
    simp [pos]
  check := key_check
  same := by intro k; simp [KeyD.val, Instr.sameBits]
  inj := by
    intro a b h
    obtain ⟨a1, a2, a3⟩ := a
    obtain ⟨b1, b2, b3⟩ := b
    simp [KeyD.val] at h
    simp [h]

/-! ### A map in memory -/
section
variable {κ : Type} {kv : κ → Value} {w w1 : World} {b : Nat} {m : List (κ × Value)}
def Stamped (es : List MapEntry) (clock : Nat) : Prop := (es.map (·.born)).Nodup ∧ ∀ x ∈ es, x.born < clock
/-- Block b is a map with these keys and values. -/
def MapIs (kv : κ → Value) (w : World) (b : Nat) (m : List (κ × Value)) : Prop :=
  ∃ es clock, w.heap[b]? = some (.map es clock) ∧ Stamped es.toList clock ∧ es.toList.map (fun e => (e.key, e.val)) = m.map (fun p => (kv p.1, p.2)) ∧ (m.map (·.1)).Nodup
theorem MapIs.lt (h : MapIs kv w b m) : b < w.heap.size := by obtain ⟨es, c, h, _⟩ := h; exact blk_lt h
theorem MapIs.obj (h : MapIs kv w b m) (he : w1.heap[b]? = w.heap[b]?) : MapIs kv w1 b m := by
  obtain ⟨es, c, h, h2⟩ := h
  exact ⟨es, c, he.trans h, h2⟩
theorem MapIs.fr {S : Nat → Prop} (h : MapIs kv w b m) (hf : Fr S w w1) (hS : ¬ S b) : MapIs kv w1 b m := h.obj (hf.block b h.lt hS)
theorem MapIs.alloc (h : MapIs kv w b m) (o : Obj) : MapIs kv (w.alloc o) b m := h.obj (Below.heap_alloc _ _ b h.lt)
theorem MapIs.new (kv : κ → Value) (w : World) : MapIs kv (w.alloc (.map #[] 0)) w.heap.size [] := ⟨#[], 0, World.alloc_heap_new w _, ⟨by simp, by simp⟩, rfl, by simp⟩
theorem MapIs.keys (h : MapIs kv w b m) : (m.map (·.1)).Nodup := by obtain ⟨es, c, _, _, _, h⟩ := h; exact h

section
variable [DecidableEq κ]
theorem pos_lt {m : List (κ × Value)} {k : κ} {i : Nat} (h : pos m k = some i) : i < m.length := by
  unfold pos at h; exact (List.findIdx?_eq_some_iff_getElem.1 h).1
theorem pos_key {m : List (κ × Value)} {k : κ} {i : Nat} (h : pos m k = some i) : (m[i]'(pos_lt h)).1 = k := by
  have h' := h
  unfold pos at h'; have := (List.findIdx?_eq_some_iff_getElem.1 h').2.1; simpa using this
theorem pos_none {m : List (κ × Value)} {k : κ} (h : pos m k = none) : ∀ p ∈ m, p.1 ≠ k := by
  unfold pos at h; intro p hp; have := List.findIdx?_eq_none_iff.1 h p hp; simpa using this
theorem mget_pos (m : List (κ × Value)) (k : κ) : mget m k = (pos m k).bind fun i => (m[i]?).map (·.2) := by
  unfold mget pos
  induction m with
  | nil => rfl
  | cons a m ih =>
    simp only [List.find?_cons, List.findIdx?_cons]
    by_cases h : a.1 = k
    · simp [h]
    · simp only [h, decide_false, Bool.false_eq_true, if_false]
      rw [ih]
      cases m.findIdx? (fun p => decide (p.1 = k)) <;> simp

end
theorem setObj_run {P : Program} {es : Array MapEntry} {c : Nat} (hb : w.heap[b]? = some (.map es c)) (o' : Obj) : (setObj b o').run P w = .ok () (setBlock w b o') := by
  simp [setObj, Sem.run, hb, setBlock]
theorem setBlock_fr {o : Obj} (hb : w.heap[b]? = some o) (o' : Obj) : Fr (· = b) w (setBlock w b o') ∧ (setBlock w b o').heap[b]? = some o' ∧ (setBlock w b o').heap.size = w.heap.size := by
  have hlt := blk_lt hb
  refine ⟨⟨rfl, rfl, rfl, by simp [setBlock], fun k _ hk => ?_⟩, ?_, by simp [setBlock]⟩
  · simp [setBlock, Ne.symm hk]
  · simp [setBlock, hlt]
end
section
variable {κ : Type} {kv : κ → Value} {m : List (κ × Value)}
theorem entries_get {es : Array MapEntry} (hkv : es.toList.map (fun e => (e.key, e.val)) = m.map (fun p => (kv p.1, p.2))) {i : Nat} (hi : i < m.length) : ∃ e, es[i]? = some e ∧ e.key = kv m[i].1 ∧ e.val = m[i].2 := by
  have hl : es.toList.length = m.length := by have := congrArg List.length hkv; simpa using this
  have hi' : i < es.toList.length := by omega
  refine ⟨es.toList[i], by rw [← Array.getElem?_toList, List.getElem?_eq_getElem hi'], ?_⟩
  have := congrArg (fun l => l[i]?) hkv
  simp only [List.getElem?_map, List.getElem?_eq_getElem hi, List.getElem?_eq_getElem hi', Option.map_some, Option.some.injEq, Prod.mk.injEq] at this
  exact this
theorem kv_set {es : Array MapEntry} (hkv : es.toList.map (fun e => (e.key, e.val)) = m.map (fun p => (kv p.1, p.2))) {i : Nat} (hi : i < m.length) {f : MapEntry → MapEntry} {k : κ} {v : Value} (hf : ∀ e, es[i]? = some e → (f e).key = kv k ∧ (f e).val = v) :
    (es.modify i f).toList.map (fun e => (e.key, e.val)) = (m.set i (k, v)).map (fun p => (kv p.1, p.2)) := by
  obtain ⟨e, he, _, _⟩ := entries_get hkv hi
  obtain ⟨h1, h2⟩ := hf e he
  have hl : i < es.size := (Array.getElem?_eq_some_iff.1 he).1
  have hee : es[i] = e := (Array.getElem?_eq_some_iff.1 he).2
  rw [Array.toList_modify, List.map_set, ← hkv]
  apply List.ext_getElem?
  intro j
  simp only [List.getElem?_map, List.getElem?_modify, List.getElem?_set, List.length_map, Array.length_toList]
  by_cases hj : i = j
  · subst hj
    simp [hl, hee, h1, h2]
  · simp [hj]
theorem stamped_modify {es : Array MapEntry} {clock : Nat} (hs : Stamped es.toList clock) (i : Nat) (f : MapEntry → MapEntry) (hf : ∀ e, (f e).born = e.born) : Stamped (es.modify i f).toList clock := by
  have e : (es.modify i f).toList.map (·.born) = es.toList.map (·.born) := by
    rw [Array.toList_modify]
    apply List.ext_getElem?
    intro j
    simp only [List.getElem?_map, List.getElem?_modify]
    by_cases hj : i = j
    · subst hj; cases es.toList[i]? <;> simp [hf]
    · simp [hj]
  refine ⟨by rw [e]; exact hs.1, fun x hx => ?_⟩
  have : x.born ∈ (es.modify i f).toList.map (·.born) := List.mem_map_of_mem hx
  rw [e] at this
  obtain ⟨y, hy, hxy⟩ := List.mem_map.1 this
  rw [← hxy]; exact hs.2 y hy
theorem stamped_push {es : Array MapEntry} {clock : Nat} (hs : Stamped es.toList clock) (k v : Value) : Stamped (es.push { key := k, val := v, born := clock }).toList (clock + 1) := by
  constructor
  · simp only [Array.toList_push, List.map_append, List.map_cons, List.map_nil]
    refine List.nodup_append.2 ⟨hs.1, by simp, ?_⟩
    intro x hx y hy
    obtain ⟨e, he, rfl⟩ := List.mem_map.1 hx
    have := hs.2 e he
    simp at hy; omega
  · intro x hx
    simp only [Array.toList_push, List.mem_append, List.mem_singleton] at hx
    rcases hx with hx | rfl
    · have := hs.2 x hx; omega
    · simp
theorem keys_set {i : Nat} (hi : i < m.length) (k : κ) (hk : m[i].1 = k) (v : Value) : (m.set i (k, v)).map (·.1) = m.map (·.1) := by
  rw [List.map_set]
  simp only
  rw [← hk]
  apply List.ext_getElem?
  intro j
  rw [List.getElem?_set]
  by_cases hj : i = j
  · subst hj; simp [hi]
  · simp [hj]
end
section
variable {P : Program} {κ : Type} {kv : κ → Value} {w : World} {b : Nat} {m : List (κ × Value)} {mt kt et : TypeId}
theorem getObj_run {w : World} {b : Nat} {es : Array MapEntry} {c : Nat} (hb : w.heap[b]? = some (.map es c)) : (getObj b).run P w = .ok (.map es c) w := by simp [getObj, Sem.run, hb]
/-- len(m). -/
theorem len_run (ht : P.underlying mt = some (.map kt et)) (h : MapIs kv w b m) (ts : Array TypeId) (hts : ts[0]? = some mt) (ty : TypeId) : (Builtin.len_ ts ty #[.map (some b)]).run P w = .ok (.int .i64 m.length) w := by
  obtain ⟨es, clock, hb, hs, hkv, hn⟩ := h
  have hl : es.size = m.length := by have := congrArg List.length hkv; simpa using this
  simp [Builtin.len_, hts, run_underlying ht, getObj_run hb, goInt, hl]

theorem asInt_run {k : IntKind} {n : Int} : (asInt (.int k n)).run P w = .ok n w := rfl
theorem born_idx {es : Array MapEntry} {clock : Nat} (hs : Stamped es.toList clock) {i : Nat} {e : MapEntry} (he : es[i]? = some e) : es.findIdx? (fun x => (x.born : Int) == (e.born : Int)) = some i := by
  obtain ⟨hi, rfl⟩ := Array.getElem?_eq_some_iff.1 he
  rw [Array.findIdx?_eq_some_iff_getElem]
  refine ⟨hi, by simp, fun j hj => ?_⟩
  have h := List.pairwise_iff_getElem.1 hs.1 j i (by simp; omega) (by simpa using hi) hj
  simp only [List.getElem_map, Array.getElem_toList] at h
  simp only [beq_iff_eq]
  omega
end
section
variable {P : Program} {κ : Type} [DecidableEq κ] {kv : κ → Value} {w w1 : World} {b : Nat} {m : List (κ × Value)} {mt kt et : TypeId}
theorem lookup_run (K : KeyOps P kt kv) (ht : P.underlying mt = some (.map kt et)) (h : MapIs kv w b m) {z : Value} (hz : (zeroValue et).run P w = .ok z w) (k : κ) (c : Bool) :
    (Instr.lookup mt (.map (some b)) (kv k) c).run P w = .ok (if c then .tuple #[(mget m k).getD z, .bool (mget m k).isSome] else (mget m k).getD z) w := by
  obtain ⟨es, clock, hb, hs, hkv, hn⟩ := h
  simp only [Instr.lookup, Sem.run_bind, run_underlying ht, Result.andThen_ok, getObj_run hb, Sem.run_pure, K.check, K.find k es.toList m hkv]
  rw [mget_pos]
  cases hp : pos m k with
  | none => simp only [Option.bind_none, Sem.run_bind, hz, Result.andThen_ok, Sem.run_pure]; rfl
  | some i => rw [Option.bind_some, Option.bind_some, List.getElem?_eq_getElem (pos_lt hp)]; rfl
theorem lookup_nil_run (K : KeyOps P kt kv) (ht : P.underlying mt = some (.map kt et)) {z : Value} (hz : (zeroValue et).run P w = .ok z w) (k : κ) (c : Bool) :
    (Instr.lookup mt (.map none) (kv k) c).run P w = .ok (if c then .tuple #[z, .bool false] else z) w := by
  have hf := K.find k [] [] rfl w
  rw [show pos ([] : List (κ × Value)) k = none from rfl, Option.bind_none] at hf
  simp only [Instr.lookup, Sem.run_bind, run_underlying ht, Result.andThen_ok, Sem.run_pure, K.check, hf, hz]

theorem keys_push {k : κ} (hn : (m.map (·.1)).Nodup) (hp : pos m k = none) (v : Value) : ((m ++ [(k, v)]).map (·.1)).Nodup := by
  rw [List.map_append]
  refine List.nodup_append.2 ⟨hn, by simp, ?_⟩
  intro x hx y hy
  obtain ⟨p, hp', rfl⟩ := List.mem_map.1 hx
  simp at hy; subst hy
  exact pos_none hp p hp'

theorem stays_run (K : KeyOps P kt kv) (k : κ) (w : World) : (Instr.keyThatStays (kv k) (kv k)).run P w = .ok (kv k) w := by
  simp [Instr.keyThatStays, K.same]
/-- m[k] = v. -/
theorem update_run (K : KeyOps P kt kv) (ht : P.underlying mt = some (.map kt et)) (h : MapIs kv w b m) (k : κ) (v : Value) :
    ∃ w', (Instr.mapUpdate mt (.map (some b)) (kv k) v).run P w = .ok () w' ∧ MapIs kv w' b (mset m k v) ∧ Fr (· = b) w w' ∧ w'.heap.size = w.heap.size := by
  obtain ⟨es, clock, hb, hs, hkv, hn⟩ := h
  simp only [Instr.mapUpdate, Sem.run_bind, run_underlying ht, Result.andThen_ok, getObj_run hb, K.check, K.find k es.toList m hkv]
  unfold mset
  cases hp : pos m k with
  | none =>
    simp only [Option.bind_none]
    obtain ⟨q1, q2, q3⟩ := setBlock_fr hb (.map (es.push { key := kv k, val := v, born := clock }) (clock + 1))
    exact ⟨_, setObj_run hb _, ⟨_, _, q2, stamped_push hs _ _, by simp [hkv], keys_push hn hp v⟩, q1, q3⟩
  | some i =>
    have hi := pos_lt hp
    obtain ⟨e, he, hk1, hk2⟩ := entries_get hkv hi
    rw [pos_key hp] at hk1
    simp only [Option.bind_some, List.getElem?_eq_getElem hi, Option.map_some, he, Option.getD_some, hk1, Sem.run_bind, stays_run K, Result.andThen_ok]
    obtain ⟨q1, q2, q3⟩ := setBlock_fr hb (.map (es.modify i fun e => { e with key := kv k, val := v }) clock)
    exact ⟨_, setObj_run hb _, ⟨_, _, q2, stamped_modify hs _ _ (fun _ => rfl), kv_set hkv hi (fun _ _ => ⟨rfl, rfl⟩), by rw [keys_set hi k (pos_key hp)]; exact hn⟩, q1, q3⟩
/-- delete(m, k). -/
theorem delete_run (K : KeyOps P kt kv) (ht : P.underlying mt = some (.map kt et)) (h : MapIs kv w b m) (k : κ) (ts : Array TypeId) (hts : ts[0]? = some mt) (ty : TypeId) :
    ∃ w', (Builtin.delete_ ts ty #[.map (some b), kv k]).run P w = .ok (.tuple #[]) w' ∧ MapIs kv w' b (mdel m k) ∧ Fr (· = b) w w' ∧ w'.heap.size = w.heap.size := by
  obtain ⟨es, clock, hb, hs, hkv, hn⟩ := h
  have hl : es.size = m.length := by have := congrArg List.length hkv; simpa using this
  simp only [Builtin.delete_, hts, List.getElem?_toArray, List.getElem?_cons_zero, List.getElem?_cons_succ, Sem.run_bind, run_underlying ht, Result.andThen_ok, getObj_run hb, K.check, K.find k es.toList m hkv]
  unfold mdel
  cases hp : pos m k with
  | none =>
    obtain ⟨q1, q2, q3⟩ := setBlock_fr hb (.map es clock)
    refine ⟨_, by simp only [Option.bind_none, Sem.run_bind, setObj_run hb, Result.andThen_ok, Sem.run_pure], ⟨_, _, q2, hs, hkv, hn⟩, q1, q3⟩
  | some i =>
    have hi := pos_lt hp
    obtain ⟨q1, q2, q3⟩ := setBlock_fr hb (.map (es.eraseIdxIfInBounds i) clock)
    refine ⟨_, by simp only [Option.bind_some, List.getElem?_eq_getElem hi, Option.map_some, Sem.run_bind, setObj_run hb, Result.andThen_ok, Sem.run_pure], ⟨_, _, q2, ?_, ?_, ?_⟩, q1, q3⟩
    · have hsub : List.Sublist (es.eraseIdxIfInBounds i).toList es.toList := by
        rw [Array.toList_eraseIdxIfInBounds]; exact List.eraseIdx_sublist _ _
      exact ⟨(hsub.map _).nodup hs.1, fun x hx => hs.2 x (hsub.subset hx)⟩
    · show _ = (m.eraseIdx i).map (fun p => (kv p.1, p.2))
      rw [Array.toList_eraseIdxIfInBounds, List.eraseIdx_eq_take_drop_succ, List.eraseIdx_eq_take_drop_succ, List.map_append, List.map_append, List.map_take, List.map_drop, hkv, List.map_take, List.map_drop]
    · exact ((List.eraseIdx_sublist m i).map _).nodup hn

/-- The entry of a key, made if it lacks: its value, and its stamp. -/
theorem mapEntry_run (K : KeyOps P kt kv) (ht : P.underlying mt = some (.map kt et)) (h : MapIs kv w b m) {z : Value} (hz : (zeroValue et).run P w = .ok z w) (k : κ) :
    ∃ w' s, (Instr.mapEntry mt (.map (some b)) (kv k)).run P w = .ok (.tuple #[(mget m k).getD z, .int .i64 s]) w' ∧ MapIs kv w' b (mset m k ((mget m k).getD z)) ∧ Fr (· = b) w w' ∧ w'.heap.size = w.heap.size ∧
      ∀ w2 v, w2.heap[b]? = w'.heap[b]? → ∃ w3, (Instr.entryStore mt (.map (some b)) (.int .i64 s) v).run P w2 = .ok () w3 ∧ MapIs kv w3 b (mset m k v) ∧ Fr (· = b) w2 w3 ∧ w3.heap.size = w2.heap.size := by
  obtain ⟨es, clock, hb, hs, hkv, hn⟩ := h
  simp only [Instr.mapEntry, Sem.run_bind, run_underlying ht, Result.andThen_ok, getObj_run hb, K.check, K.find k es.toList m hkv]
  rw [mget_pos]
  unfold mset
  cases hp : pos m k with
  | none =>
    obtain ⟨q1, q2, q3⟩ := setBlock_fr hb (.map (es.push { key := kv k, val := z, born := clock }) (clock + 1))
    have hst := stamped_push hs (kv k) z
    refine ⟨_, clock, by simp only [Option.bind_none, Sem.run_bind, hz, Result.andThen_ok, setObj_run hb, Sem.run_pure, Option.getD_none, goInt], ⟨_, _, q2, hst, by simp [hkv], keys_push hn hp _⟩, q1, q3, ?_⟩
    intro w2 v hw2
    rw [q2] at hw2
    have hg : (es.push { key := kv k, val := z, born := clock })[es.size]? = some { key := kv k, val := z, born := clock } := by simp
    have hidx : (es.push { key := kv k, val := z, born := clock }).findIdx? (fun x => (x.born : Int) == (clock : Int)) = some es.size := born_idx hst hg
    have hl : es.size = m.length := by have := congrArg List.length hkv; simpa using this
    have hkv' : (es.push { key := kv k, val := z, born := clock }).toList.map (fun e => (e.key, e.val)) = (m ++ [(k, z)]).map (fun p => (kv p.1, p.2)) := by simp [hkv]
    obtain ⟨p1, p2, p3⟩ := setBlock_fr hw2 (.map ((es.push { key := kv k, val := z, born := clock }).modify es.size fun e => { e with val := v }) (clock + 1))
    refine ⟨_, by simp only [Instr.entryStore, Sem.run_bind, getObj_run hw2, Result.andThen_ok, asInt_run, hidx, setObj_run hw2], ⟨_, _, p2, stamped_modify hst _ _ (fun _ => rfl), ?_, keys_push hn hp _⟩, p1, p3⟩
    have := kv_set hkv' (i := es.size) (f := fun e => { e with val := v }) (k := k) (v := v) (by simp [hl]) (fun e he => by rw [hg] at he; cases he; exact ⟨rfl, rfl⟩)
    rw [this, hl, List.set_append_right _ _ (Nat.le_refl _)]
    simp
  | some i =>
    have hi := pos_lt hp
    obtain ⟨e, he, hk1, hk2⟩ := entries_get hkv hi
    rw [pos_key hp] at hk1
    obtain ⟨q1, q2, q3⟩ := setBlock_fr hb (.map (es.modify i fun e => { e with key := kv k }) clock)
    have hst := stamped_modify hs i (fun e => { e with key := kv k }) (fun _ => rfl)
    refine ⟨_, e.born, by simp only [Option.bind_some, List.getElem?_eq_getElem hi, Option.map_some, he, Option.getD_some, hk1, Sem.run_bind, stays_run K, Result.andThen_ok, setObj_run hb, Sem.run_pure, goInt], ⟨_, _, q2, hst, ?_, by rw [keys_set hi k (pos_key hp)]; exact hn⟩, q1, q3, ?_⟩
    · refine kv_set hkv hi (fun e' he' => ?_)
      rw [he] at he'; cases he'
      exact ⟨rfl, by rw [hk2, Option.bind_some, List.getElem?_eq_getElem hi]; rfl⟩
    · intro w2 v hw2
      rw [q2] at hw2
      have hg : (es.modify i fun e => { e with key := kv k })[i]? = some { e with key := kv k } := by rw [Array.getElem?_modify]; simp [he]
      have hidx : (es.modify i fun e => { e with key := kv k }).findIdx? (fun x => (x.born : Int) == (e.born : Int)) = some i := born_idx (e := { e with key := kv k }) hst hg
      obtain ⟨p1, p2, p3⟩ := setBlock_fr hw2 (.map ((es.modify i fun e => { e with key := kv k }).modify i fun e => { e with val := v }) clock)
      have hkv' : (es.modify i fun e => { e with key := kv k }).toList.map (fun e => (e.key, e.val)) = (m.set i (k, e.val)).map (fun p => (kv p.1, p.2)) := kv_set hkv hi (fun e' he' => by rw [he] at he'; cases he'; exact ⟨rfl, rfl⟩)
      refine ⟨_, by simp only [Instr.entryStore, Sem.run_bind, getObj_run hw2, Result.andThen_ok, asInt_run, hidx, setObj_run hw2], ⟨_, _, p2, stamped_modify hst _ _ (fun _ => rfl), ?_, by rw [keys_set hi k (pos_key hp)]; exact hn⟩, p1, p3⟩
      have := kv_set hkv' (i := i) (f := fun e => { e with val := v }) (k := k) (v := v) (by simpa using hi) (fun e' he' => by rw [hg] at he'; cases he'; exact ⟨rfl, rfl⟩)
      rw [this, List.set_set]
end
end Go.Proofs.Ytkfoapbjdegdiaa.Own
