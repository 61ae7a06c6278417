/- Ranging over a map: 'range' and 'next', and what is left. -/
import Derived.Test.YtkfoapbjdegdiaaMap
namespace Go.Proofs.Ytkfoapbjdegdiaa.Own
open Go.RowKit
open Go.ChangeMaps (setBlock)
section
variable {P : Program} {κ : Type} {kv : κ → Value} {w w1 : World} {b it : Nat} {m left : List (κ × Value)} {mt kt et : TypeId}
/-- An iterator (block it) goes over the map (block b); left tells what has not come. -/
def Ranging (kv : κ → Value) (w : World) (b it : Nat) (m left : List (κ × Value)) : Prop :=
  ∃ es clock seen, w.heap[b]? = some (.map es clock) ∧ Stamped es.toList clock ∧ es.toList.map (fun e => (e.key, e.val)) = m.map (fun p => (kv p.1, p.2)) ∧ (m.map (·.1)).Nodup ∧
    w.heap[it]? = some (.mapIter (some b) clock seen clock) ∧ (leftOf es seen).toList.map (fun e => (e.key, e.val)) = left.map (fun p => (kv p.1, p.2))
theorem Ranging.map (h : Ranging kv w b it m left) : MapIs kv w b m := by obtain ⟨es, c, s, h1, h2, h3, h4, _⟩ := h; exact ⟨es, c, h1, h2, h3, h4⟩
theorem Ranging.obj (h : Ranging kv w b it m left) (h1 : w1.heap[b]? = w.heap[b]?) (h2 : w1.heap[it]? = w.heap[it]?) : Ranging kv w1 b it m left := by
  obtain ⟨es, c, s, a1, a2, a3, a4, a5, a6⟩ := h
  exact ⟨es, c, s, h1.trans a1, a2, a3, a4, h2.trans a5, a6⟩
theorem Ranging.lt (h : Ranging kv w b it m left) : b < w.heap.size ∧ it < w.heap.size := by obtain ⟨es, c, s, a1, _, _, _, a5, _⟩ := h; exact ⟨blk_lt a1, blk_lt a5⟩
theorem Ranging.fr {S : Nat → Prop} (h : Ranging kv w b it m left) (hf : Fr S w w1) (h1 : ¬ S b) (h2 : ¬ S it) : Ranging kv w1 b it m left :=
  h.obj (hf.block b h.lt.1 h1) (hf.block it h.lt.2 h2)
theorem Ranging.alloc (h : Ranging kv w b it m left) (o : Obj) : Ranging kv (w.alloc o) b it m left := h.obj (Below.heap_alloc _ _ b h.lt.1) (Below.heap_alloc _ _ it h.lt.2)
theorem Ranging.left_eq (h : Ranging kv w b it m left) : w.rangeLeft b it = left.length := by
  obtain ⟨es, c, s, a1, _, _, _, a5, a6⟩ := h
  have := congrArg List.length a6
  simp only [List.length_map, Array.length_toList] at this
  simp [World.rangeLeft, a1, a5, this]
theorem Ranging.walks (h : Ranging kv w b it m left) (hk : KeepsWalks w w1) : Ranging kv w1 b it m left := by
  obtain ⟨es, c, s, a1, a2, a3, a4, a5, a6⟩ := h
  exact ⟨es, c, s, hk.same _ _ a1 rfl, a2, a3, a4, hk.same _ _ a5 rfl, a6⟩

theorem range_run (ht : P.underlying mt = some (.map kt et)) (h : MapIs kv w b m) :
    ∃ w', (Instr.range mt (.map (some b))).run P w = .ok (.pointer (some ⟨w.heap.size, 0, none⟩)) w' ∧ Ranging kv w' b w.heap.size m m ∧ Fr (fun _ => False) w w' ∧ w'.heap.size = w.heap.size + 1 := by
  have hlt := h.lt
  obtain ⟨es, clock, hb, hs, hkv, hn⟩ := h
  refine ⟨_, run_range_map w mt kt et b es clock ht hb, ⟨es, clock, #[], blk_old hb _, hs, hkv, hn, blk_new _ rfl, by rw [show leftOf es #[] = es from by simp [leftOf]]; exact hkv⟩, (Fr.refl _ w).alloc _, by simp⟩

theorem left_push {es : Array MapEntry} {clock : Nat} (hs : Stamped es.toList clock) (seen : Array Nat) {l1 l2 : List MapEntry} {e : MapEntry} (h : (leftOf es seen).toList = l1 ++ e :: l2) :
    (leftOf es (seen.push e.born)).toList = l1 ++ l2 := by
  have hsub : List.Sublist (leftOf es seen).toList es.toList := by unfold leftOf; rw [Array.toList_filter]; exact List.filter_sublist
  have hn : ((leftOf es seen).toList.map (·.born)).Nodup := (hsub.map _).nodup hs.1
  have e1 : (leftOf es (seen.push e.born)).toList = (leftOf es seen).toList.filter (fun x => !(x.born == e.born)) := by
    unfold leftOf
    rw [Array.toList_filter, Array.toList_filter, List.filter_filter]
    congr 1
    funext x
    rw [contains_push]
    cases seen.contains x.born <;> cases (x.born == e.born) <;> rfl
  rw [e1, h]
  rw [h] at hn
  simp only [List.map_append, List.map_cons] at hn
  have hn' := List.nodup_append.1 hn
  have hc := List.nodup_cons.1 hn'.2.1
  rw [List.filter_append, List.filter_cons]
  simp only [beq_self_eq_true, Bool.not_true, Bool.false_eq_true, if_false]
  rw [List.filter_eq_self.2, List.filter_eq_self.2]
  · intro x hx
    simp only [Bool.not_eq_true', beq_eq_false_iff_ne]
    intro he
    exact hc.1 (he ▸ List.mem_map_of_mem hx)
  · intro x hx
    simp only [Bool.not_eq_true', beq_eq_false_iff_ne]
    exact hn'.2.2 x.born (List.mem_map_of_mem hx) e.born (by simp)

theorem next_run (h : Ranging kv w b it m left) (hne : it ≠ b) (ty : TypeId) :
    (left = [] ∧ (Instr.next (.pointer (some ⟨it, 0, none⟩)) false ty).run P w = .ok (.tuple #[.bool false]) w) ∨
    ∃ l1 p l2 w', left = l1 ++ p :: l2 ∧ (Instr.next (.pointer (some ⟨it, 0, none⟩)) false ty).run P w = .ok (.tuple #[.bool true, kv p.1, p.2]) w' ∧ Ranging kv w' b it m (l1 ++ l2) ∧ Fr (· = it) w w' ∧ w'.heap.size = w.heap.size ∧
      (Instr.entry (.pointer (some ⟨it, 0, none⟩))).run P w' = .ok (.tuple #[kv p.1, p.2]) w' := by
  obtain ⟨es, clock, seen, a1, a2, a3, a4, a5, a6⟩ := h
  rcases run_next_at (P := P) w ty it b clock clock seen es clock a5 a1 a2.2 (Nat.le_refl _) with ⟨h0, hrun⟩ | ⟨e, he, wq, hq, hrun⟩
  · left
    refine ⟨?_, hrun⟩
    have h1 := congrArg List.length a6
    simp only [List.length_map, Array.length_toList, h0] at h1
    exact List.eq_nil_of_length_eq_zero h1.symm
  · right
    obtain ⟨l1, l2, hl⟩ := List.append_of_mem he
    have hem := (mem_left he).1
    rw [hl] at a6
    simp only [List.map_append, List.map_cons] at a6
    obtain ⟨m1, m2', hm, e1, e2⟩ := List.append_eq_map_iff.1 a6
    obtain ⟨p, m2, rfl, e3, e4⟩ : ∃ p m2, m2' = p :: m2 ∧ (kv p.1, p.2) = (e.key, e.val) ∧ m2.map (fun p => (kv p.1, p.2)) = l2.map (fun e => (e.key, e.val)) := by
      cases m2' with
      | nil => cases e2
      | cons p m2 => exact ⟨p, m2, rfl, (List.cons.inj e2).1, (List.cons.inj e2).2⟩
    have e3' := Prod.mk.inj e3
    have hb1 : wq.heap[b]? = some (.map es clock) := by rcases hq with rfl | rfl <;> exact a1
    have hi1 : wq.heap[it]? = some (.mapIter (some b) clock seen clock) := by rcases hq with rfl | rfl <;> exact a5
    have hset : (setBlock wq it (.mapIter (some b) clock (seen.push e.born) clock)).heap[it]? = some (.mapIter (some b) clock (seen.push e.born) clock) := by
      simp [setBlock, blk_lt hi1]
    have hset2 : (setBlock wq it (.mapIter (some b) clock (seen.push e.born) clock)).heap[b]? = some (.map es clock) := by
      rw [← hb1]; simp [setBlock, hne]
    have hl' := left_push a2 seen hl
    refine ⟨m1, p, m2, _, hm, by rw [e3'.1, e3'.2]; exact hrun, ⟨es, clock, seen.push e.born, hset2, a2, a3, a4, hset, ?_⟩, ?_, ?_, ?_⟩
    · rw [hl', List.map_append, List.map_append, e1, e4]
    · rcases hq with rfl | rfl
      all_goals exact ⟨rfl, rfl, rfl, by simp [setBlock], fun k _ hk => by show (World.heap _ |>.setIfInBounds it _)[k]? = _; first | (simp [Ne.symm hk]; done) | (simp [Ne.symm hk]; rfl)⟩
    · rcases hq with rfl | rfl <;> simp [setBlock]
    · rw [e3'.1, e3'.2]
      exact run_entry_at _ it b clock seen es clock e hset hset2 hem a2.1
end
section
variable {F : Fence} {n : Nat} {P : Program} {κ : Type} {kv : κ → Value} {w : World} {b it : Nat} {m left : List (κ × Value)} {mt kt et : TypeId} {ops : Array Oper} {rest : List Oper} {o : Oper} {a : Act} {Q : Exit → Act → World → Prop}
theorem wpListIn_range (hg : o.guard = none) (x : Operand) (hop : o.op = Op.range mt x) (ht : P.underlying mt = some (.map kt et)) (hm : a.eval x = .map (some b)) (h : MapIs kv w b m)
    (hK : ∀ w', Ranging kv w' b w.heap.size m m → Fr (fun _ => False) w w' → w'.heap.size = w.heap.size + 1 → wpListIn F n P ops Q rest (a.put o.dst (.pointer (some ⟨w.heap.size, 0, none⟩))) w') : wpListIn F n P ops Q (o :: rest) a w := by
  refine wpListIn_plain hg fun K' hK' => ?_
  obtain ⟨w', hrun, r1, r2, r3⟩ := range_run ht h
  unfold Oper.wpIn
  refine ⟨by simp [Oper.about, hop], ?_⟩
  rw [Oper.semAt_plain F _ _ (by rw [hop]; intro c hc'; cases hc')]
  simp [execOp, hop, hm, hrun, Result.andThen]
  exact hK' _ _ (hK w' r1 r2 r3)
theorem wpListIn_next (hg : o.guard = none) (x : Operand) (hop : o.op = Op.next x false) (hx : a.eval x = .pointer (some ⟨it, 0, none⟩)) (h : Ranging kv w b it m left) (hne : it ≠ b)
    (hDone : left = [] → wpListIn F n P ops Q rest (a.put o.dst (.tuple #[.bool false])) w)
    (hMore : ∀ l1 p l2 w', left = l1 ++ p :: l2 → Ranging kv w' b it m (l1 ++ l2) → Fr (· = it) w w' → w'.heap.size = w.heap.size → (Instr.entry (.pointer (some ⟨it, 0, none⟩))).run P w' = .ok (.tuple #[kv p.1, p.2]) w' →
      wpListIn F n P ops Q rest (a.put o.dst (.tuple #[.bool true, kv p.1, p.2])) w') : wpListIn F n P ops Q (o :: rest) a w := by
  refine wpListIn_plain hg fun K' hK' => ?_
  unfold Oper.wpIn
  refine ⟨by simp [Oper.about, hop], ?_⟩
  rw [Oper.semAt_plain F _ _ (by rw [hop]; intro c hc'; cases hc')]
  rcases next_run (P := P) h hne o.type with ⟨h0, hrun⟩ | ⟨l1, p, l2, w', h1, hrun, h2, h3, h4, h5⟩
  · simp [execOp, hop, hx, hrun, Result.andThen]
    exact hK' _ _ (hDone h0)
  · simp [execOp, hop, hx, hrun, Result.andThen]
    exact hK' _ _ (hMore l1 p l2 w' h1 h2 h3 h4 h5)
theorem wpList_range (hg : o.guard = none) (x : Operand) (hop : o.op = Op.range mt x) (ht : P.underlying mt = some (.map kt et)) (hm : a.eval x = .map (some b)) (h : MapIs kv w b m)
    (hK : ∀ w', Ranging kv w' b w.heap.size m m → Fr (fun _ => False) w w' → w'.heap.size = w.heap.size + 1 → wpList P ops Q rest (a.put o.dst (.pointer (some ⟨w.heap.size, 0, none⟩))) w') : wpList P ops Q (o :: rest) a w := by
  refine wpList_plain hg fun K' hK' => ?_
  obtain ⟨w', hrun, r1, r2, r3⟩ := range_run ht h
  unfold Oper.wp
  simp [execOp, hop, hm, hrun, Result.andThen]
  exact hK' _ _ (hK w' r1 r2 r3)
theorem wpList_next (hg : o.guard = none) (x : Operand) (hop : o.op = Op.next x false) (hx : a.eval x = .pointer (some ⟨it, 0, none⟩)) (h : Ranging kv w b it m left) (hne : it ≠ b)
    (hDone : left = [] → wpList P ops Q rest (a.put o.dst (.tuple #[.bool false])) w)
    (hMore : ∀ l1 p l2 w', left = l1 ++ p :: l2 → Ranging kv w' b it m (l1 ++ l2) → Fr (· = it) w w' → w'.heap.size = w.heap.size → (Instr.entry (.pointer (some ⟨it, 0, none⟩))).run P w' = .ok (.tuple #[kv p.1, p.2]) w' →
      wpList P ops Q rest (a.put o.dst (.tuple #[.bool true, kv p.1, p.2])) w') : wpList P ops Q (o :: rest) a w := by
  refine wpList_plain hg fun K' hK' => ?_
  unfold Oper.wp
  rcases next_run (P := P) h hne o.type with ⟨h0, hrun⟩ | ⟨l1, p, l2, w', h1, hrun, h2, h3, h4, h5⟩
  · simp [execOp, hop, hx, hrun, Result.andThen]
    exact hK' _ _ (hDone h0)
  · simp [execOp, hop, hx, hrun, Result.andThen]
    exact hK' _ _ (hMore l1 p l2 w' h1 h2 h3 h4 h5)
end
section
variable {P : Program} {κ : Type} [DecidableEq κ] {kv : κ → Value} {w : World} {b : Nat} {m : List (κ × Value)} {mt kt et : TypeId} {ops : Array Oper} {rest : List Oper} {o : Oper} {a : Act} {Q : Exit → Act → World → Prop}
theorem wpList_update (hg : o.guard = none) (xm xk xv : Operand) (hop : o.op = Op.mapUpdate mt xm xk xv) (K : KeyOps P kt kv) (ht : P.underlying mt = some (.map kt et)) (k : κ) (hm : a.eval xm = .map (some b)) (hk : a.eval xk = kv k) (h : MapIs kv w b m)
    (hK : ∀ w', MapIs kv w' b (mset m k (a.eval xv)) → Fr (· = b) w w' → w'.heap.size = w.heap.size → wpList P ops Q rest (a.put o.dst undef) w') : wpList P ops Q (o :: rest) a w := by
  refine wpList_plain hg fun K' hK' => ?_
  obtain ⟨w', hrun, r1, r2, r3⟩ := update_run K ht h k (a.eval xv)
  unfold Oper.wp
  simp [execOp, hop, hm, hk, hrun, Result.andThen]
  exact hK' _ _ (hK w' r1 r2 r3)
theorem wpList_lookup (hg : o.guard = none) (xm xk : Operand) (c : Bool) (hop : o.op = Op.lookup mt xm xk c) (K : KeyOps P kt kv) (ht : P.underlying mt = some (.map kt et)) {z : Value} (hz : (zeroValue et).run P w = .ok z w) (k : κ) (hm : a.eval xm = .map (some b)) (hk : a.eval xk = kv k) (h : MapIs kv w b m)
    (hK : wpList P ops Q rest (a.put o.dst (if c then .tuple #[(mget m k).getD z, .bool (mget m k).isSome] else (mget m k).getD z)) w) : wpList P ops Q (o :: rest) a w := by
  refine wpList_plain hg fun K' hK' => ?_
  unfold Oper.wp
  simp only [execOp, hop, hm, hk, lookup_run K ht h hz k c, Result.andThen, Sem.run_bind, Sem.run_pure, Oper.upon_value]
  exact hK' _ _ hK
theorem wpList_mapEntry (hg : o.guard = none) (xm xk : Operand) (hop : o.op = Op.mapEntry mt xm xk) (K : KeyOps P kt kv) (ht : P.underlying mt = some (.map kt et)) {z : Value} (hz : (zeroValue et).run P w = .ok z w) (k : κ) (hm : a.eval xm = .map (some b)) (hk : a.eval xk = kv k) (h : MapIs kv w b m)
    (hK : ∀ w' s, MapIs kv w' b (mset m k ((mget m k).getD z)) → Fr (· = b) w w' → w'.heap.size = w.heap.size →
      (∀ w2 v, w2.heap[b]? = w'.heap[b]? → ∃ w3, (Instr.entryStore mt (.map (some b)) (.int .i64 s) v).run P w2 = .ok () w3 ∧ MapIs kv w3 b (mset m k v) ∧ Fr (· = b) w2 w3 ∧ w3.heap.size = w2.heap.size) →
      wpList P ops Q rest (a.put o.dst (.tuple #[(mget m k).getD z, .int .i64 s])) w') : wpList P ops Q (o :: rest) a w := by
  refine wpList_plain hg fun K' hK' => ?_
  obtain ⟨w', s, hrun, r1, r2, r3, r4⟩ := mapEntry_run K ht h hz k
  unfold Oper.wp
  simp only [execOp, hop, hm, hk, hrun, Result.andThen, Sem.run_bind, Sem.run_pure, Oper.upon_value]
  exact hK' _ _ (hK w' s r1 r2 r3 r4)
omit [DecidableEq κ] in
theorem wpList_entryStore {w' : World} {s : Value} {v : Value} (hg : o.guard = none) (xm xs xv : Operand) (hop : o.op = Op.entryStore mt xm xs xv) (hm : a.eval xm = .map (some b)) (hs : a.eval xs = s) (hv : a.eval xv = v) (hrun : (Instr.entryStore mt (.map (some b)) s v).run P w = .ok () w')
    (hK : wpList P ops Q rest (a.put o.dst undef) w') : wpList P ops Q (o :: rest) a w := by
  refine wpList_plain hg fun K' hK' => ?_
  unfold Oper.wp
  simp [execOp, hop, hm, hs, hv, hrun, Result.andThen]
  exact hK' _ _ hK
end
end Go.Proofs.Ytkfoapbjdegdiaa.Own
