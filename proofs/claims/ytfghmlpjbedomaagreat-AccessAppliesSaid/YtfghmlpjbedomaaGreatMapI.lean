/- Maps with keys of an integer kind, told by what each key holds: lookup, update, make. Plain laws over any program. -/
import Derived.WalkKit
import Derived.WalkSpells
import Derived.WalkLawsBesides
import Derived.Maps.OwnOps
namespace Go.Proofs.YtfghmlpjbedomaaGreat
open Go.RowKit Go.ChangeMaps Go.MapKept

/-- What the first entry of the key n holds. -/
def getI : List MapEntry → Int → Option Value
  | [], _ => none
  | e :: es, n => match e.key with
    | .int _ m => if n = m then some e.val else getI es n
    | _ => getI es n

/-- Block b is a map with keys of the kind kk that holds m. -/
def IMap (w : World) (b : Nat) (kk : IntKind) (m : Int → Option Value) : Prop :=
  ∃ es clock, w.heap[b]? = some (.map es clock) ∧ (∀ e ∈ es.toList, ∃ n, e.key = .int kk n) ∧ ∀ n, getI es.toList n = m n

theorem IMap.lt {w : World} {b : Nat} {kk : IntKind} {m : Int → Option Value} (h : IMap w b kk m) : b < w.heap.size := by
  obtain ⟨es, clock, hb, _⟩ := h
  exact (Array.getElem?_eq_some_iff.1 hb).1

theorem IMap.of_block {w w' : World} {b : Nat} {kk : IntKind} {m : Int → Option Value} (h : IMap w b kk m) (hb : w'.heap[b]? = w.heap[b]?) : IMap w' b kk m := by
  obtain ⟨es, clock, h1, h2⟩ := h
  exact ⟨es, clock, hb.trans h1, h2⟩

theorem IMap.below {w w' : World} {b B : Nat} {kk : IntKind} {m : Int → Option Value} (h : IMap w b kk m) (hb : Below B w w') (hB : b < B) : IMap w' b kk m :=
  h.of_block (hb.block b hB)

theorem IMap.alloc {w : World} {b : Nat} {kk : IntKind} {m : Int → Option Value} (h : IMap w b kk m) (o : Obj) : IMap (w.alloc o) b kk m :=
  h.of_block (Below.heap_alloc w o b h.lt)

theorem IMap.setCell {w : World} {b : Nat} {kk : IntKind} {m : Int → Option Value} (h : IMap w b kk m) (a : Addr) (u : Value) : IMap (w.setCell a u) b kk m := by
  obtain ⟨es, clock, hb, h2⟩ := h
  refine ⟨es, clock, ?_, h2⟩
  simp only [World.setCell, Array.getElem?_modify]
  split
  · rename_i e; subst e; simp [hb]
  · exact hb

theorem IMap.drewN {w : World} {b : Nat} {kk : IntKind} {m : Int → Option Value} (h : IMap w b kk m) (n : Nat) : IMap (w.drewN n) b kk m := h

theorem IMap.new (w : World) (kk : IntKind) : IMap (w.alloc (.map #[] 0)) w.heap.size kk (fun _ => none) :=
  ⟨#[], 0, heap_alloc_new w _, by simp, fun n => by simp [getI]⟩

/-- findNow over integer keys. -/
theorem findNow_int (kk : IntKind) (n : Int) : ∀ (es : List MapEntry) (i : Nat), (∀ e ∈ es, ∃ m, e.key = .int kk m) →
    ∃ r, Instr.findNow (.int kk) (.int kk n) es i = some r ∧ r.map (·.2) = getI es n ∧
      (∀ j v, r = some (j, v) → i ≤ j ∧ j < i + es.length ∧ ∀ u : Value, (∀ m, getI (es.modify (j - i) fun e => { e with key := .int kk n, val := u }) m = if m = n then some u else getI es m) ∧
        (∀ e ∈ es.modify (j - i) fun e => { e with key := .int kk n, val := u }, ∃ m, e.key = .int kk m) ∧ (es[j - i]?).map (·.key) = some (.int kk n)) := by
  intro es
  induction es with
  | nil => intro i _; exact ⟨none, rfl, rfl, by simp⟩
  | cons e es ih =>
    intro i h
    obtain ⟨m, hm⟩ := h e (by simp)
    by_cases hn : n = m
    · subst hn
      refine ⟨some (i, e.val), by simp [Instr.findNow, Instr.sameNow, hm], by simp [getI, hm], ?_⟩
      intro j v hj
      simp only [Option.some.injEq, Prod.mk.injEq] at hj
      obtain ⟨rfl, _⟩ := hj
      refine ⟨Nat.le_refl _, by simp, fun u => ⟨fun m => ?_, ?_, ?_⟩⟩
      · simp only [Nat.sub_self, List.modify_zero_cons, getI, hm]
        by_cases hmn : m = n <;> simp [hmn]
      · simp only [Nat.sub_self, List.modify_zero_cons, List.mem_cons, forall_eq_or_imp]
        exact ⟨⟨n, rfl⟩, fun e he => h e (by simp [he])⟩
      · simp [hm]
    · obtain ⟨r, h1, h2, h3⟩ := ih (i + 1) (fun e he => h e (by simp [he]))
      refine ⟨r, ?_, ?_, ?_⟩
      · simp only [Instr.findNow, Instr.sameNow, hm, if_true]
        have : (n == m) = false := by simpa using hn
        rw [this]
        exact h1
      · simp only [getI, hm, if_neg hn]
        exact h2
      · intro j v hj
        obtain ⟨a, b, c⟩ := h3 j v hj
        refine ⟨by omega, by simp; omega, fun u => ?_⟩
        obtain ⟨c1, c2, c3⟩ := c u
        have e1 : j - i = (j - (i + 1)) + 1 := by omega
        rw [e1]
        refine ⟨fun k => ?_, ?_, ?_⟩
        · simp only [List.modify_succ_cons, getI, hm]
          by_cases hk : k = m
          · subst hk
            rw [if_pos rfl, if_neg (fun e => hn e.symm), if_pos rfl]
          · rw [if_neg hk, if_neg hk]; exact c1 k
        · simp only [List.modify_succ_cons, List.mem_cons, forall_eq_or_imp]
          exact ⟨⟨m, hm⟩, c2⟩
        · simpa using c3

theorem getI_push (kk : IntKind) (n : Int) (v : Value) (born : Nat) : ∀ es : List MapEntry, (∀ e ∈ es, ∃ m, e.key = .int kk m) → getI es n = none →
    ∀ m, getI (es ++ [{ key := .int kk n, val := v, born := born }]) m = if m = n then some v else getI es m := by
  intro es
  induction es with
  | nil => intro _ _ m; simp [getI]
  | cons e es ih =>
    intro h hn m
    obtain ⟨k, hk⟩ := h e (by simp)
    simp only [getI, hk] at hn
    by_cases hnk : n = k
    · rw [if_pos hnk] at hn; cases hn
    · rw [if_neg hnk] at hn
      simp only [List.cons_append, getI, hk]
      by_cases hm : m = k
      · subst hm
        rw [if_pos rfl, if_neg (fun e => hnk e.symm), if_pos rfl]
      · rw [if_neg hm, if_neg hm]
        exact ih (fun e he => h e (by simp [he])) hn m

section
variable {P : Program} {w : World} {b : Nat} {kk : IntKind} {m : Int → Option Value} {t k e : TypeId}

theorem run_findKey_int (hk : P.underlying k = some (.int kk)) (n : Int) (es : List MapEntry) (h : ∀ e ∈ es, ∃ m, e.key = .int kk m) :
    ∃ r, (Instr.findKey k (.int kk n) es).run P w = .ok r w ∧ r.map (·.2) = getI es n ∧
      (∀ j v, r = some (j, v) → j < es.length ∧ ∀ u : Value, (∀ m, getI (es.modify j fun e => { e with key := .int kk n, val := u }) m = if m = n then some u else getI es m) ∧
        (∀ e ∈ es.modify j fun e => { e with key := .int kk n, val := u }, ∃ m, e.key = .int kk m) ∧ (es[j]?).map (·.key) = some (.int kk n)) := by
  obtain ⟨r, h1, h2, h3⟩ := findNow_int kk n es 0 h
  refine ⟨r, ?_, h2, fun j v hj => ?_⟩
  · simp [Instr.findKey, run_underlying hk, h1]
  · have := h3 j v hj
    simpa using this.2

theorem run_checkKey_int (hk : P.underlying k = some (.int kk)) (n : Int) (em : Bool) (w : World) : (Instr.checkKey em 10000 k (.int kk n)).run P w = .ok () w := by
  have h : ∀ d : Nat, (Instr.checkKey em (d + 1) k (.int kk n)).run P w = .ok () w := fun d => by simp [Instr.checkKey, run_underlying hk]
  exact h 9999

theorem run_lookup_imap (ht : P.underlying t = some (.map k e)) (hk : P.underlying k = some (.int kk)) {z : Value} (hz : (zeroValue e).run P w = .ok z w) (h : IMap w b kk m) (n : Int) (c : Bool) :
    (Instr.lookup t (.map (some b)) (.int kk n) c).run P w = .ok (if c then .tuple #[(m n).getD z, .bool (m n).isSome] else (m n).getD z) w := by
  obtain ⟨es, clock, hb, hes, hm⟩ := h
  obtain ⟨r, h1, h2, h3⟩ := run_findKey_int (w := w) hk n es.toList hes
  rw [← hm n, ← h2]
  rcases r with _ | ⟨j, v⟩
  · simp [Instr.lookup, run_underlying ht, MapKept.run_getObj_map hb, run_checkKey_int hk, h1, hz, Result.andThen]
  · simp [Instr.lookup, run_underlying ht, MapKept.run_getObj_map hb, run_checkKey_int hk, h1, Result.andThen]

theorem run_lookup_nil (ht : P.underlying t = some (.map k e)) (hk : P.underlying k = some (.int kk)) {z : Value} (hz : (zeroValue e).run P w = .ok z w) (n : Int) (c : Bool) :
    (Instr.lookup t (.map none) (.int kk n) c).run P w = .ok (if c then .tuple #[z, .bool false] else z) w := by
  have h1 : (Instr.findKey k (.int kk n) []).run P w = .ok none w := by simp [Instr.findKey, run_underlying hk, Instr.findNow]
  simp [Instr.lookup, run_underlying ht, run_checkKey_int hk, h1, hz, Result.andThen]

theorem run_update_imap (ht : P.underlying t = some (.map k e)) (hk : P.underlying k = some (.int kk)) (h : IMap w b kk m) (n : Int) (u : Value) :
    ∃ w', (Instr.mapUpdate t (.map (some b)) (.int kk n) u).run P w = .ok () w' ∧ IMap w' b kk (fun x => if x = n then some u else m x) ∧ w.grownBy w' (some b) ∧ w'.heap.size = w.heap.size := by
  obtain ⟨es, clock, hb, hes, hm⟩ := h
  obtain ⟨r, h1, h2, h3⟩ := run_findKey_int (w := w) hk n es.toList hes
  rcases r with _ | ⟨j, v⟩
  · refine ⟨setBlock w b (.map (es.push { key := .int kk n, val := u, born := clock }) (clock + 1)), ?_, ⟨_, _, heap_setBlock_same hb _, ?_, ?_⟩, ⟨rfl, rfl, rfl, by simp [setBlock], fun i _ hi => heap_setBlock_other hb _ (fun e => hi (by rw [e]))⟩, by simp [setBlock]⟩
    · simp [Instr.mapUpdate, run_underlying ht, MapKept.run_getObj_map hb, run_checkKey_int hk, h1, MapKept.run_setObj_map _ hb, Result.andThen, setBlock]
    · intro e he
      simp only [Array.toList_push, List.mem_append, List.mem_singleton] at he
      rcases he with he | rfl
      · exact hes e he
      · exact ⟨n, rfl⟩
    · intro x
      rw [Array.toList_push, getI_push kk n u clock es.toList hes h2.symm x, hm x]
  · obtain ⟨hj, hu⟩ := h3 j v rfl
    obtain ⟨g1, g2, g3⟩ := hu u
    have hjs : j < es.size := by simpa using hj
    have e1 : (es[j]?.map (·.key)).getD (.int kk n) = .int kk n := by
      have := g3
      rw [Array.getElem?_toList] at this
      rw [this]; rfl
    have hsb : Instr.sameBits 10000 (Value.int kk n) (Value.int kk n) = true := by simp [Instr.sameBits]
    refine ⟨setBlock w b (.map (es.modify j fun e => { e with key := .int kk n, val := u }) clock), ?_, ⟨_, _, heap_setBlock_same hb _, ?_, ?_⟩, ⟨rfl, rfl, rfl, by simp [setBlock], fun i _ hi => heap_setBlock_other hb _ (fun e => hi (by rw [e]))⟩, by simp [setBlock]⟩
    · simp [Instr.mapUpdate, run_underlying ht, MapKept.run_getObj_map hb, run_checkKey_int hk, h1, e1, Instr.keyThatStays, hsb, MapKept.run_setObj_map _ hb, Result.andThen, setBlock]
    · rw [Array.toList_modify]; exact g2
    · intro x
      rw [Array.toList_modify, g1 x, hm x]

end

/-- 'm[k] = v' at the operation. -/
theorem wpList_update_imap {P : Program} (w : World) {ops : Array Oper} {rest : List Oper} {o : Oper} {a : Act} {Q : Exit → Act → World → Prop}
    (hg : o.guard = none) (xm x xv : Operand) (t : TypeId) (hop : o.op = Op.mapUpdate t xm x xv) (k e : TypeId) (kk : IntKind) (ht : P.underlying t = some (.map k e)) (hk : P.underlying k = some (.int kk))
    (b : Nat) (m : Int → Option Value) (hm : a.eval xm = .map (some b)) (h : IMap w b kk m) (n : Int) (u : Value) (hx : a.eval x = .int kk n) (hv : a.eval xv = u)
    (hK : ∀ w', IMap w' b kk (fun x => if x = n then some u else m x) → w.grownBy w' (some b) → w'.heap.size = w.heap.size → wpList P ops Q rest (a.put o.dst undef) w') :
    wpList P ops Q (o :: rest) a w := by
  refine wpList_plain hg fun K' hK' => ?_
  obtain ⟨w', hrun, r1, r2, r3⟩ := run_update_imap ht hk h n u
  unfold Oper.wp
  simp [execOp, hop, hm, hx, hv, hrun, Result.andThen]
  exact hK' _ _ (hK w' r1 r2 r3)

/-- 'v, ok := m[k]' at the operation. -/
theorem wpList_lookup_ok_imap {P : Program} (w : World) {ops : Array Oper} {rest : List Oper} {o : Oper} {a : Act} {Q : Exit → Act → World → Prop}
    (hg : o.guard = none) (xm x : Operand) (t : TypeId) (hop : o.op = Op.lookup t xm x true) (k e : TypeId) (kk : IntKind) (ht : P.underlying t = some (.map k e)) (hk : P.underlying k = some (.int kk))
    (z : Value) (hz : (zeroValue e).run P w = .ok z w) (b : Nat) (m : Int → Option Value) (hm : a.eval xm = .map (some b)) (h : IMap w b kk m) (n : Int) (hx : a.eval x = .int kk n)
    (hK : ∀ v ok, m n = ok → v = .tuple #[ok.getD z, .bool ok.isSome] → wpList P ops Q rest (a.put o.dst v) w) :
    wpList P ops Q (o :: rest) a w := by
  refine wpList_plain hg fun K' hK' => ?_
  have hrun := run_lookup_imap ht hk hz h n true
  unfold Oper.wp
  simp [execOp, hop, hm, hx, hrun, Result.andThen]
  exact hK' _ _ (hK _ _ rfl rfl)

/-- 'm[k]' at the operation. -/
theorem wpList_lookup_imap {P : Program} (w : World) {ops : Array Oper} {rest : List Oper} {o : Oper} {a : Act} {Q : Exit → Act → World → Prop}
    (hg : o.guard = none) (xm x : Operand) (t : TypeId) (hop : o.op = Op.lookup t xm x false) (k e : TypeId) (kk : IntKind) (ht : P.underlying t = some (.map k e)) (hk : P.underlying k = some (.int kk))
    (z : Value) (hz : (zeroValue e).run P w = .ok z w) (b : Nat) (m : Int → Option Value) (hm : a.eval xm = .map (some b)) (h : IMap w b kk m) (n : Int) (hx : a.eval x = .int kk n)
    (hK : wpList P ops Q rest (a.put o.dst ((m n).getD z)) w) :
    wpList P ops Q (o :: rest) a w := by
  refine wpList_plain hg fun K' hK' => ?_
  have hrun := run_lookup_imap ht hk hz h n false
  unfold Oper.wp
  simp [execOp, hop, hm, hx, hrun, Result.andThen]
  exact hK' _ _ hK

end Go.Proofs.YtfghmlpjbedomaaGreat
