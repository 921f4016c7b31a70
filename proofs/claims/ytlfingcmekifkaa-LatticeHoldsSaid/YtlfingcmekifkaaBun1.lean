/- Maps with keys of an integer kind, told by what each key holds: lookup, update, make. Plain laws over any program. -/
/- Plain words for memory, shared by the proofs: a slice that reads as a list of encoded things; events and calls as plain data. -/
import Derived.WalkKit
import Derived.WalkSpells
import Derived.WalkLawsBesides
import Derived.Maps.OwnOps
namespace Go.Proofs.Ytlfingcmekifkaa
open Go.RowKit Go.ChangeMaps Go.MapKept

/-- What the first entry of the key n holds. -/
def getI : List MapEntry → Int → Option Value
  | [], _ => none
  | e :: es, n => match e.key with
    | .int _ m => if n = m then some e.val else getI es n
    | _ => getI es n

/-- Block b is a map with keys of the kind kk that holds m. -/
def IMap (w : World) (b : Nat) (kk : IntKind) (m : Int → Option Value) : Prop :=
  ∃ es clock, w.heap[b]? = some (.map es clock) ∧ (∀ e ∈ es.toList, ∃ n, e.key = .int kk n) ∧ ∀ n, getI es.toList n = m n

theorem IMap.lt {w : World} {b : Nat} {kk : IntKind} {m : Int → Option Value} (h : IMap w b kk m) : b < w.heap.size := by
  obtain ⟨es, clock, hb, _⟩ := h
  exact (Array.getElem?_eq_some_iff.1 hb).1

theorem IMap.of_block {w w' : World} {b : Nat} {kk : IntKind} {m : Int → Option Value} (h : IMap w b kk m) (hb : w'.heap[b]? = w.heap[b]?) : IMap w' b kk m := by
  obtain ⟨es, clock, h1, h2⟩ := h
  exact ⟨es, clock, hb.trans h1, h2⟩

theorem IMap.below {w w' : World} {b B : Nat} {kk : IntKind} {m : Int → Option Value} (h : IMap w b kk m) (hb : Below B w w') (hB : b < B) : IMap w' b kk m :=
  h.of_block (hb.block b hB)

theorem IMap.alloc {w : World} {b : Nat} {kk : IntKind} {m : Int → Option Value} (h : IMap w b kk m) (o : Obj) : IMap (w.alloc o) b kk m :=
  h.of_block (Below.heap_alloc w o b h.lt)

theorem IMap.setCell {w : World} {b : Nat} {kk : IntKind} {m : Int → Option Value} (h : IMap w b kk m) (a : Addr) (u : Value) : IMap (w.setCell a u) b kk m := by
  obtain ⟨es, clock, hb, h2⟩ := h
  refine ⟨es, clock, ?_, h2⟩
  simp only [World.setCell, Array.getElem?_modify]
  split
  · rename_i e; subst e; simp [hb]
  · exact hb

theorem IMap.drewN {w : World} {b : Nat} {kk : IntKind} {m : Int → Option Value} (h : IMap w b kk m) (n : Nat) : IMap (w.drewN n) b kk m := h

theorem IMap.new (w : World) (kk : IntKind) : IMap (w.alloc (.map #[] 0)) w.heap.size kk (fun _ => none) :=
  ⟨#[], 0, heap_alloc_new w _, by simp, fun n => by simp [getI]⟩

/-- findNow over integer keys. -/
theorem findNow_int (kk : IntKind) (n : Int) : ∀ (es : List MapEntry) (i : Nat), (∀ e ∈ es, ∃ m, e.key = .int kk m) →
    ∃ r, Instr.findNow (.int kk) (.int kk n) es i = some r ∧ r.map (·.2) = getI es n ∧
      (∀ j v, r = some (j, v) → i ≤ j ∧ j < i + es.length ∧ ∀ u : Value, (∀ m, getI (es.modify (j - i) fun e => { e with key := .int kk n, val := u }) m = if m = n then some u else getI es m) ∧
        (∀ e ∈ es.modify (j - i) fun e => { e with key := .int kk n, val := u }, ∃ m, e.key = .int kk m) ∧ (es[j - i]?).map (·.key) = some (.int kk n)) := by
  intro es
  induction es with
  | nil => intro i _; exact ⟨none, rfl, rfl, by simp⟩
  | cons e es ih =>
    intro i h
    obtain ⟨m, hm⟩ := h e (by simp)
    by_cases hn : n = m
    · subst hn
      refine ⟨some (i, e.val), by simp [Instr.findNow, Instr.sameNow, hm], by simp [getI, hm], ?_⟩
      intro j v hj
      simp only [Option.some.injEq, Prod.mk.injEq] at hj
      obtain ⟨rfl, _⟩ := hj
      refine ⟨Nat.le_refl _, by simp, fun u => ⟨fun m => ?_, ?_, ?_⟩⟩
      · simp only [Nat.sub_self, List.modify_zero_cons, getI, hm]
        by_cases hmn : m = n <;> simp [hmn]
      · simp only [Nat.sub_self, List.modify_zero_cons, List.mem_cons, forall_eq_or_imp]
        exact ⟨⟨n, rfl⟩, fun e he => h e (by simp [he])⟩
      · simp [hm]
    · obtain ⟨r, h1, h2, h3⟩ := ih (i + 1) (fun e he => h e (by simp [he]))
      refine ⟨r, ?_, ?_, ?_⟩
      · simp only [Instr.findNow, Instr.sameNow, hm, if_true]
        have : (n == m) = false := by simpa using hn
        rw [this]
        exact h1
      · simp only [getI, hm, if_neg hn]
        exact h2
      · intro j v hj
        obtain ⟨a, b, c⟩ := h3 j v hj
        refine ⟨by omega, by simp; omega, fun u => ?_⟩
        obtain ⟨c1, c2, c3⟩ := c u
        have e1 : j - i = (j - (i + 1)) + 1 := by omega
        rw [e1]
        refine ⟨fun k => ?_, ?_, ?_⟩
        · simp only [List.modify_succ_cons, getI, hm]
          by_cases hk : k = m
          · subst hk
            rw [if_pos rfl, if_neg (fun e => hn e.symm), if_pos rfl]
          · rw [if_neg hk, if_neg hk]; exact c1 k
        · simp only [List.modify_succ_cons, List.mem_cons, forall_eq_or_imp]
          exact ⟨⟨m, hm⟩, c2⟩
        · simpa using c3

theorem getI_push (kk : IntKind) (n : Int) (v : Value) (born : Nat) : ∀ es : List MapEntry, (∀ e ∈ es, ∃ m, e.key = .int kk m) → getI es n = none →
    ∀ m, getI (es ++ [{ key := .int kk n, val := v, born := born }]) m = if m = n then some v else getI es m := by
  intro es
  induction es with
  | nil => intro _ _ m; simp [getI]
  | cons e es ih =>
    intro h hn m
    obtain ⟨k, hk⟩ := h e (by simp)
    simp only [getI, hk] at hn
    by_cases hnk : n = k
    · rw [if_pos hnk] at hn; cases hn
    · rw [if_neg hnk] at hn
      simp only [List.cons_append, getI, hk]
      by_cases hm : m = k
      · subst hm
        rw [if_pos rfl, if_neg (fun e => hnk e.symm), if_pos rfl]
      · rw [if_neg hm, if_neg hm]
        exact ih (fun e he => h e (by simp [he])) hn m

section
variable {P : Program} {w : World} {b : Nat} {kk : IntKind} {m : Int → Option Value} {t k e : TypeId}

theorem run_findKey_int (hk : P.underlying k = some (.int kk)) (n : Int) (es : List MapEntry) (h : ∀ e ∈ es, ∃ m, e.key = .int kk m) :
    ∃ r, (Instr.findKey k (.int kk n) es).run P w = .ok r w ∧ r.map (·.2) = getI es n ∧
      (∀ j v, r = some (j, v) → j < es.length ∧ ∀ u : Value, (∀ m, getI (es.modify j fun e => { e with key := .int kk n, val := u }) m = if m = n then some u else getI es m) ∧
        (∀ e ∈ es.modify j fun e => { e with key := .int kk n, val := u }, ∃ m, e.key = .int kk m) ∧ (es[j]?).map (·.key) = some (.int kk n)) := by
  obtain ⟨r, h1, h2, h3⟩ := findNow_int kk n es 0 h
  refine ⟨r, ?_, h2, fun j v hj => ?_⟩
  · simp [Instr.findKey, run_underlying hk, h1]
  · have := h3 j v hj
    simpa using this.2

theorem run_checkKey_int (hk : P.underlying k = some (.int kk)) (n : Int) (em : Bool) (w : World) : (Instr.checkKey em 10000 k (.int kk n)).run P w = .ok () w := by
  have h : ∀ d : Nat, (Instr.checkKey em (d + 1) k (.int kk n)).run P w = .ok () w := fun d => by simp [Instr.checkKey, run_underlying hk]
  exact h 9999

theorem run_lookup_imap (ht : P.underlying t = some (.map k e)) (hk : P.underlying k = some (.int kk)) {z : Value} (hz : (zeroValue e).run P w = .ok z w) (h : IMap w b kk m) (n : Int) (c : Bool) :
    (Instr.lookup t (.map (some b)) (.int kk n) c).run P w = .ok (if c then .tuple #[(m n).getD z, .bool (m n).isSome] else (m n).getD z) w := by
  obtain ⟨es, clock, hb, hes, hm⟩ := h
  obtain ⟨r, h1, h2, h3⟩ := run_findKey_int (w := w) hk n es.toList hes
  rw [← hm n, ← h2]
  rcases r with _ | ⟨j, v⟩
  · simp [Instr.lookup, run_underlying ht, MapKept.run_getObj_map hb, run_checkKey_int hk, h1, hz, Result.andThen]
  · simp [Instr.lookup, run_underlying ht, MapKept.run_getObj_map hb, run_checkKey_int hk, h1, Result.andThen]

theorem run_lookup_nil (ht : P.underlying t = some (.map k e)) (hk : P.underlying k = some (.int kk)) {z : Value} (hz : (zeroValue e).run P w = .ok z w) (n : Int) (c : Bool) :
    (Instr.lookup t (.map none) (.int kk n) c).run P w = .ok (if c then .tuple #[z, .bool false] else z) w := by
  have h1 : (Instr.findKey k (.int kk n) []).run P w = .ok none w := by simp [Instr.findKey, run_underlying hk, Instr.findNow]
  simp [Instr.lookup, run_underlying ht, run_checkKey_int hk, h1, hz, Result.andThen]

theorem run_update_imap (ht : P.underlying t = some (.map k e)) (hk : P.underlying k = some (.int kk)) (h : IMap w b kk m) (n : Int) (u : Value) :
    ∃ w', (Instr.mapUpdate t (.map (some b)) (.int kk n) u).run P w = .ok () w' ∧ IMap w' b kk (fun x => if x = n then some u else m x) ∧ w.grownBy w' (some b) ∧ w'.heap.size = w.heap.size := by
  obtain ⟨es, clock, hb, hes, hm⟩ := h
  obtain ⟨r, h1, h2, h3⟩ := run_findKey_int (w := w) hk n es.toList hes
  rcases r with _ | ⟨j, v⟩
  · refine ⟨setBlock w b (.map (es.push { key := .int kk n, val := u, born := clock }) (clock + 1)), ?_, ⟨_, _, heap_setBlock_same hb _, ?_, ?_⟩, ⟨rfl, rfl, rfl, by simp [setBlock], fun i _ hi => heap_setBlock_other hb _ (fun e => hi (by rw [e]))⟩, by simp [setBlock]⟩
    · simp [Instr.mapUpdate, run_underlying ht, MapKept.run_getObj_map hb, run_checkKey_int hk, h1, MapKept.run_setObj_map _ hb, Result.andThen, setBlock]
    · intro e he
      simp only [Array.toList_push, List.mem_append, List.mem_singleton] at he
      rcases he with he | rfl
      · exact hes e he
      · exact ⟨n, rfl⟩
    · intro x
      rw [Array.toList_push, getI_push kk n u clock es.toList hes h2.symm x, hm x]
  · obtain ⟨hj, hu⟩ := h3 j v rfl
    obtain ⟨g1, g2, g3⟩ := hu u
    have hjs : j < es.size := by simpa using hj
    have e1 : (es[j]?.map (·.key)).getD (.int kk n) = .int kk n := by
      have := g3
      rw [Array.getElem?_toList] at this
      rw [this]; rfl
    have hsb : Instr.sameBits 10000 (Value.int kk n) (Value.int kk n) = true := by simp [Instr.sameBits]
    refine ⟨setBlock w b (.map (es.modify j fun e => { e with key := .int kk n, val := u }) clock), ?_, ⟨_, _, heap_setBlock_same hb _, ?_, ?_⟩, ⟨rfl, rfl, rfl, by simp [setBlock], fun i _ hi => heap_setBlock_other hb _ (fun e => hi (by rw [e]))⟩, by simp [setBlock]⟩
    · simp [Instr.mapUpdate, run_underlying ht, MapKept.run_getObj_map hb, run_checkKey_int hk, h1, e1, Instr.keyThatStays, hsb, MapKept.run_setObj_map _ hb, Result.andThen, setBlock]
    · rw [Array.toList_modify]; exact g2
    · intro x
      rw [Array.toList_modify, g1 x, hm x]

end

/-- 'm[k] = v' at the operation. -/
theorem wpList_update_imap {P : Program} (w : World) {ops : Array Oper} {rest : List Oper} {o : Oper} {a : Act} {Q : Exit → Act → World → Prop}
    (hg : o.guard = none) (xm x xv : Operand) (t : TypeId) (hop : o.op = Op.mapUpdate t xm x xv) (k e : TypeId) (kk : IntKind) (ht : P.underlying t = some (.map k e)) (hk : P.underlying k = some (.int kk))
    (b : Nat) (m : Int → Option Value) (hm : a.eval xm = .map (some b)) (h : IMap w b kk m) (n : Int) (u : Value) (hx : a.eval x = .int kk n) (hv : a.eval xv = u)
    (hK : ∀ w', IMap w' b kk (fun x => if x = n then some u else m x) → w.grownBy w' (some b) → w'.heap.size = w.heap.size → wpList P ops Q rest (a.put o.dst undef) w') :
    wpList P ops Q (o :: rest) a w := by
  refine wpList_plain hg fun K' hK' => ?_
  obtain ⟨w', hrun, r1, r2, r3⟩ := run_update_imap ht hk h n u
  unfold Oper.wp
  simp [execOp, hop, hm, hx, hv, hrun, Result.andThen]
  exact hK' _ _ (hK w' r1 r2 r3)

/-- 'v, ok := m[k]' at the operation. -/
theorem wpList_lookup_ok_imap {P : Program} (w : World) {ops : Array Oper} {rest : List Oper} {o : Oper} {a : Act} {Q : Exit → Act → World → Prop}
    (hg : o.guard = none) (xm x : Operand) (t : TypeId) (hop : o.op = Op.lookup t xm x true) (k e : TypeId) (kk : IntKind) (ht : P.underlying t = some (.map k e)) (hk : P.underlying k = some (.int kk))
    (z : Value) (hz : (zeroValue e).run P w = .ok z w) (b : Nat) (m : Int → Option Value) (hm : a.eval xm = .map (some b)) (h : IMap w b kk m) (n : Int) (hx : a.eval x = .int kk n)
    (hK : ∀ v ok, m n = ok → v = .tuple #[ok.getD z, .bool ok.isSome] → wpList P ops Q rest (a.put o.dst v) w) :
    wpList P ops Q (o :: rest) a w := by
  refine wpList_plain hg fun K' hK' => ?_
  have hrun := run_lookup_imap ht hk hz h n true
  unfold Oper.wp
  simp [execOp, hop, hm, hx, hrun, Result.andThen]
  exact hK' _ _ (hK _ _ rfl rfl)

/-- 'm[k]' at the operation. -/
theorem wpList_lookup_imap {P : Program} (w : World) {ops : Array Oper} {rest : List Oper} {o : Oper} {a : Act} {Q : Exit → Act → World → Prop}
    (hg : o.guard = none) (xm x : Operand) (t : TypeId) (hop : o.op = Op.lookup t xm x false) (k e : TypeId) (kk : IntKind) (ht : P.underlying t = some (.map k e)) (hk : P.underlying k = some (.int kk))
    (z : Value) (hz : (zeroValue e).run P w = .ok z w) (b : Nat) (m : Int → Option Value) (hm : a.eval xm = .map (some b)) (h : IMap w b kk m) (n : Int) (hx : a.eval x = .int kk n)
    (hK : wpList P ops Q rest (a.put o.dst ((m n).getD z)) w) :
    wpList P ops Q (o :: rest) a w := by
  refine wpList_plain hg fun K' hK' => ?_
  have hrun := run_lookup_imap ht hk hz h n false
  unfold Oper.wp
  simp [execOp, hop, hm, hx, hrun, Result.andThen]
  exact hK' _ _ hK

end Go.Proofs.Ytlfingcmekifkaa

namespace Go.Proofs.Ytlfingcmekifkaa
open Go.RowKit

theorem ret_int {k : IntKind} {a b : Int} (h : a = b) : Ending.returned (.int k a) = .returned (.int k b) := by rw [h]
theorem ret_bool {a b : Bool} (h : a = b) : Ending.returned (.bool a) = .returned (.bool b) := by rw [h]
theorem hide {p : Prop} (h : p) : Hid p := h

theorem bcell {B : Nat} {W w1 : World} (hb : Below B W w1) : (∀ b o, b < B → w1.cell? ⟨b, o, none⟩ = W.cell? ⟨b, o, none⟩) ∧ (∀ b o, b < B → w1.frozen? ⟨b, o, none⟩ = W.frozen? ⟨b, o, none⟩) :=
  ⟨fun b o h => hb.cell (p := ⟨b, o, none⟩) h, fun b o h => hb.frozen (p := ⟨b, o, none⟩) h⟩

theorem bcellc {B : Nat} {W w1 : World} (hb : Below B W w1) : ∀ b o, b < B → w1.cell? ⟨b, o, none⟩ = W.cell? ⟨b, o, none⟩ := fun b o h => hb.cell (p := ⟨b, o, none⟩) h

theorem below_drewN {B : Nat} {a w : World} (h : Below B a w) (n : Nat) : Below B a (w.drewN n) := ⟨h.os, h.tape, h.output, h.size, h.block⟩

theorem bounds_i64 {n : Int} (h : (Lit.int .i64 n).wf = true) : -9223372036854775808 ≤ n ∧ n ≤ 9223372036854775807 := by
  simp [Lit.wf, IntKind.min, IntKind.max, IntKind.signed, IntKind.bits] at h
  exact ⟨by omega, by omega⟩
theorem bounds_u64 {n : Int} (h : (Lit.int .u64 n).wf = true) : 0 ≤ n ∧ n < 18446744073709551616 := by
  simp [Lit.wf, IntKind.min, IntKind.max, IntKind.signed, IntKind.bits] at h
  exact ⟨by omega, by omega⟩

/-- The blocks of K lie as they lay; the streams are as they were; no block has gone. -/
structure Keep (K : Nat → Prop) (w w' : World) : Prop where
  os : w'.os = w.os
  tape : w'.tape = w.tape
  output : w'.output = w.output
  size : w.heap.size ≤ w'.heap.size
  block : ∀ k, K k → w'.heap[k]? = w.heap[k]?

theorem Keep.refl (K : Nat → Prop) (w : World) : Keep K w w := ⟨rfl, rfl, rfl, Nat.le_refl _, fun _ _ => rfl⟩
theorem Keep.trans {K : Nat → Prop} {a b c : World} (h : Keep K a b) (k : Keep K b c) : Keep K a c :=
  ⟨k.os.trans h.os, k.tape.trans h.tape, k.output.trans h.output, Nat.le_trans h.size k.size, fun i hi => (k.block i hi).trans (h.block i hi)⟩
theorem Keep.mono {K K' : Nat → Prop} {w w' : World} (h : Keep K w w') (hK : ∀ k, K' k → K k) : Keep K' w w' := ⟨h.os, h.tape, h.output, h.size, fun k hk => h.block k (hK k hk)⟩
theorem Keep.of_below {B : Nat} {K : Nat → Prop} {w w' : World} (h : Below B w w') (hK : ∀ k, K k → k < B) : Keep K w w' := ⟨h.os, h.tape, h.output, h.size, fun k hk => h.block k (hK k hk)⟩
theorem Keep.below {B : Nat} {K : Nat → Prop} {w w' : World} (h : Keep K w w') (hK : ∀ k, k < B → K k) : Below B w w' := ⟨h.os, h.tape, h.output, h.size, fun k hk => h.block k (hK k hk)⟩
theorem Keep.drewN {K : Nat → Prop} {a w : World} (h : Keep K a w) (n : Nat) : Keep K a (w.drewN n) := ⟨h.os, h.tape, h.output, h.size, h.block⟩
theorem Keep.drew {K : Nat → Prop} {a w : World} (h : Keep K a w) : Keep K a w.drew := ⟨h.os, h.tape, h.output, h.size, h.block⟩
theorem Keep.cell {K : Nat → Prop} {w w' : World} (h : Keep K w w') {p : Addr} (hp : K p.block) : w'.cell? p = w.cell? p := World.cell?_of_block (w := w) (h.block p.block hp)
theorem Keep.alloc {K : Nat → Prop} {a w : World} (h : Keep K a w) (hK : ∀ k, K k → k < w.heap.size) (o : Obj) : Keep K a (w.alloc o) :=
  h.trans ⟨rfl, rfl, rfl, by simp, fun k hk => Below.heap_alloc _ _ _ (hK k hk)⟩
theorem Keep.setCell {K : Nat → Prop} {a w : World} (h : Keep K a w) {p : Addr} (hp : ¬ K p.block) (u : Value) : Keep K a (w.setCell p u) :=
  h.trans ⟨rfl, rfl, rfl, by simp [World.setCell], fun k hk => Below.heap_setCell _ _ _ _ (fun e => hp (e ▸ hk))⟩
theorem Keep.grown {K : Nat → Prop} {a w w' : World} {row : Option Nat} (h : Keep K a w) (hg : w.grownBy w' row) (hK : ∀ k, K k → k < w.heap.size) (hr : ∀ k, row = some k → ¬ K k) : Keep K a w' :=
  h.trans ⟨hg.os, hg.tape, hg.output, hg.size, fun k hk => hg.block k (hK k hk) (fun e => hr k e.symm hk)⟩
theorem grown_of_below {w w' : World} (h : Below w.heap.size w w') (row : Option Nat) : w.grownBy w' row := ⟨h.os, h.tape, h.output, h.size, fun k hk _ => h.block k hk⟩

/-- The cells cs lie in block b from place p on. -/
def CellsAt (w : World) (b p : Nat) (cs : List Value) : Prop := ∀ j u, cs[j]? = some u → w.cell? ⟨b, p + j, none⟩ = some u

theorem CellsAt.of_block {w w' : World} {b p : Nat} {cs : List Value} (h : CellsAt w b p cs) (hb : w'.heap[b]? = w.heap[b]?) : CellsAt w' b p cs :=
  fun j u hu => (World.cell?_of_block (w := w) (a := ⟨b, p + j, none⟩) hb).trans (h j u hu)

/-- The slice value v reads as the list xs, each element sz cells, told by enc. -/
def Sl {α : Type} (enc : α → List Value) (sz : Nat) (w : World) (v : Value) (xs : List α) : Prop :=
  ∃ A c, v = .slice A xs.length c ∧ xs.length ≤ c ∧ c ≤ maxLen ∧ ∀ k x, xs[k]? = some x → ∃ b o, A = some ⟨b, o, none⟩ ∧ b < w.heap.size ∧ CellsAt w b (o + k * sz) (enc x)

section
variable {α : Type} {enc : α → List Value} {sz : Nat} {w w' : World} {v : Value} {xs : List α}
theorem Sl.below {B : Nat} (h : Sl enc sz w v xs) (hb : Below B w w') (hB : w.heap.size ≤ B) : Sl enc sz w' v xs := by
  obtain ⟨A, c, hv, h1, h2, h3⟩ := h
  refine ⟨A, c, hv, h1, h2, fun k x hx => ?_⟩
  obtain ⟨b, o, hA, hlt, hc⟩ := h3 k x hx
  exact ⟨b, o, hA, Nat.lt_of_lt_of_le hlt hb.size, hc.of_block (hb.block b (by omega))⟩
theorem Sl.drewN (h : Sl enc sz w v xs) (n : Nat) : Sl enc sz (w.drewN n) v xs := h
theorem Sl.alloc (h : Sl enc sz w v xs) (o : Obj) : Sl enc sz (w.alloc o) v xs := h.below ((Below.refl w.heap.size w).alloc (Nat.le_refl _) o) (Nat.le_refl _)
end

theorem Sl.of_block {α : Type} {enc : α → List Value} {sz : Nat} {w : World} {g c : Nat} {cs : Array Value} {t : TypeId} {fr : Nat × Nat} {xs : List α} (hb : w.heap[g]? = some (.cells cs t fr))
    (h1 : xs.length ≤ c) (h2 : c ≤ maxLen) (hcs : ∀ k x, xs[k]? = some x → ∀ j u, (enc x)[j]? = some u → cs[k * sz + j]? = some u) : Sl enc sz w (.slice (some ⟨g, 0, none⟩) xs.length c) xs := by
  refine ⟨_, c, rfl, h1, h2, fun k x hx => ⟨g, 0, rfl, (Array.getElem?_eq_some_iff.1 hb).1, fun j u hu => ?_⟩⟩
  rw [cell_of_row w g _ cs t fr hb]
  rw [show 0 + k * sz + j = k * sz + j by omega]
  exact hcs k x hx j u hu

/-- An event, as it lies in memory. -/
structure Ev where
  call : Int
  inv : Int
  resp : Int
  steps : Int
  err : Int
  val : Int
  lA : Option Addr
  lN : Nat
  lC : Nat
  kA : Option Addr
  kN : Nat
  kC : Nat
def evEnc (e : Ev) : List Value := [.int .i64 e.call, .int .i64 e.inv, .int .i64 e.resp, .int .i64 e.steps, .int .i64 e.err, .int .u64 e.val, .slice e.lA e.lN e.lC, .slice e.kA e.kN e.kC]

/-- A call. -/
structure Cl where
  thread : Int
  obj : Int
  kind : Int
  a : Int
  b : Int
  c : Int
def clEnc (c : Cl) : List Value := [.int .i64 c.thread, .int .i64 c.obj, .int .i64 c.kind, .int .u64 c.a, .int .u64 c.b, .int .u64 c.c]

def ntEnc (k : IntKind) (n : Int) : List Value := [.int k n]

theorem ev_cells {w : World} {b p : Nat} {e : Ev} (h : CellsAt w b p (evEnc e)) :
    w.cell? ⟨b, p, none⟩ = some (.int .i64 e.call) ∧ w.cell? ⟨b, p + 1, none⟩ = some (.int .i64 e.inv) ∧ w.cell? ⟨b, p + 2, none⟩ = some (.int .i64 e.resp) ∧ w.cell? ⟨b, p + 3, none⟩ = some (.int .i64 e.steps) ∧
    w.cell? ⟨b, p + 4, none⟩ = some (.int .i64 e.err) ∧ w.cell? ⟨b, p + 5, none⟩ = some (.int .u64 e.val) ∧ w.cell? ⟨b, p + 6, none⟩ = some (.slice e.lA e.lN e.lC) ∧ w.cell? ⟨b, p + 7, none⟩ = some (.slice e.kA e.kN e.kC) :=
  ⟨h 0 _ rfl, h 1 _ rfl, h 2 _ rfl, h 3 _ rfl, h 4 _ rfl, h 5 _ rfl, h 6 _ rfl, h 7 _ rfl⟩
theorem cl_cells {w : World} {b p : Nat} {e : Cl} (h : CellsAt w b p (clEnc e)) :
    w.cell? ⟨b, p, none⟩ = some (.int .i64 e.thread) ∧ w.cell? ⟨b, p + 1, none⟩ = some (.int .i64 e.obj) ∧ w.cell? ⟨b, p + 2, none⟩ = some (.int .i64 e.kind) ∧ w.cell? ⟨b, p + 3, none⟩ = some (.int .u64 e.a) ∧
    w.cell? ⟨b, p + 4, none⟩ = some (.int .u64 e.b) ∧ w.cell? ⟨b, p + 5, none⟩ = some (.int .u64 e.c) :=
  ⟨h 0 _ rfl, h 1 _ rfl, h 2 _ rfl, h 3 _ rfl, h 4 _ rfl, h 5 _ rfl⟩

abbrev SlEv := Sl evEnc 8
abbrev SlCl := Sl clEnc 6
abbrev SlI := Sl (ntEnc .i64) 1
abbrev SlW := Sl (ntEnc .u64) 1

theorem sqA {α : Type _} (l : List α) (i : Nat) (a : α) : l.toArray.setIfInBounds i a = (l.set i a).toArray := List.setIfInBounds_toArray l i a
theorem sqB {α : Type _} {x a : α} {l : List α} : (x :: l).set 0 a = a :: l := rfl
theorem sqC {α : Type _} {x a : α} {l : List α} {i : Nat} : (x :: l).set (i + 1) a = x :: l.set i a := rfl
end Go.Proofs.Ytlfingcmekifkaa
