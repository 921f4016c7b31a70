import Derived.WalkKit
import Derived.WalkSpells
import Derived.WalkLawsBesides
import Derived.Maps.OwnOps
import Derived.Deep.RegionHeld3
import Derived.Test.YtlfingcmekifkaaGreatProg
import Derived.Deep.QuietTactic
import Derived.BigQuiet
import Derived.Maps.AppendAt
import Derived.Lib.SliceRun
namespace Go.Proofs.YtlfingcmekifkaaGreat
open Go.RowKit Go.ChangeMaps Go.MapKept
def getI : List MapEntry → Int → Option Value
  | [], _ => none
  | e :: es, n => match e.key with
    | .int _ m => if n = m then some e.val else getI es n
    | _ => getI es n
def IMap (w : World) (b : Nat) (kk : IntKind) (m : Int → Option Value) : Prop :=
  ∃ es clock, w.heap[b]? = some (.map es clock) ∧ (∀ e ∈ es.toList, ∃ n, e.key = .int kk n) ∧ ∀ n, getI es.toList n = m n
theorem IMap.lt {w : World} {b : Nat} {kk : IntKind} {m : Int → Option Value} (h : IMap w b kk m) : b < w.heap.size := by
  obtain ⟨es, clock, hb, _⟩ := h
  exact (Array.getElem?_eq_some_iff.1 hb).1
theorem IMap.of_block {w w' : World} {b : Nat} {kk : IntKind} {m : Int → Option Value} (h : IMap w b kk m) (hb : w'.heap[b]? = w.heap[b]?) : IMap w' b kk m := by
  obtain ⟨es, clock, h1, h2⟩ := h
  exact ⟨es, clock, hb.trans h1, h2⟩
theorem IMap.below {w w' : World} {b B : Nat} {kk : IntKind} {m : Int → Option Value} (h : IMap w b kk m) (hb : Below B w w') (hB : b < B) : IMap w' b kk m :=
  h.of_block (hb.block b hB)
theorem IMap.alloc {w : World} {b : Nat} {kk : IntKind} {m : Int → Option Value} (h : IMap w b kk m) (o : Obj) : IMap (w.alloc o) b kk m :=
  h.of_block (Below.heap_alloc w o b h.lt)
theorem IMap.setCell {w : World} {b : Nat} {kk : IntKind} {m : Int → Option Value} (h : IMap w b kk m) (a : Addr) (u : Value) : IMap (w.setCell a u) b kk m := by
  obtain ⟨es, clock, hb, h2⟩ := h
  refine ⟨es, clock, ?_, h2⟩
  simp only [World.setCell, Array.getElem?_modify]
  split
  · rename_i e; subst e; simp [hb]
  · exact hb
theorem IMap.drewN {w : World} {b : Nat} {kk : IntKind} {m : Int → Option Value} (h : IMap w b kk m) (n : Nat) : IMap (w.drewN n) b kk m := h
theorem IMap.new (w : World) (kk : IntKind) : IMap (w.alloc (.map #[] 0)) w.heap.size kk (fun _ => none) :=
  ⟨#[], 0, heap_alloc_new w _, by simp, fun n => by simp [getI]⟩
theorem findNow_int (kk : IntKind) (n : Int) : ∀ (es : List MapEntry) (i : Nat), (∀ e ∈ es, ∃ m, e.key = .int kk m) →
    ∃ r, Instr.findNow (.int kk) (.int kk n) es i = some r ∧ r.map (·.2) = getI es n ∧
      (∀ j v, r = some (j, v) → i ≤ j ∧ j < i + es.length ∧ ∀ u : Value, (∀ m, getI (es.modify (j - i) fun e => { e with key := .int kk n, val := u }) m = if m = n then some u else getI es m) ∧
        (∀ e ∈ es.modify (j - i) fun e => { e with key := .int kk n, val := u }, ∃ m, e.key = .int kk m) ∧ (es[j - i]?).map (·.key) = some (.int kk n)) := by
  intro es
  induction es with
  | nil => intro i _; exact ⟨none, rfl, rfl, by simp⟩
  | cons e es ih =>
    intro i h
    obtain ⟨m, hm⟩ := h e (by simp)
    by_cases hn : n = m
    · subst hn
      refine ⟨some (i, e.val), by simp [Instr.findNow, Instr.sameNow, hm], by simp [getI, hm], ?_⟩
      intro j v hj
      simp only [Option.some.injEq, Prod.mk.injEq] at hj
      obtain ⟨rfl, _⟩ := hj
      refine ⟨Nat.le_refl _, by simp, fun u => ⟨fun m => ?_, ?_, ?_⟩⟩
      · simp only [Nat.sub_self, List.modify_zero_cons, getI, hm]
        by_cases hmn : m = n <;> simp [hmn]
      · simp only [Nat.sub_self, List.modify_zero_cons, List.mem_cons, forall_eq_or_imp]
        exact ⟨⟨n, rfl⟩, fun e he => h e (by simp [he])⟩
      · simp [hm]
    · obtain ⟨r, h1, h2, h3⟩ := ih (i + 1) (fun e he => h e (by simp [he]))
      refine ⟨r, ?_, ?_, ?_⟩
      · simp only [Instr.findNow, Instr.sameNow, hm, if_true]
        have : (n == m) = false := by simpa using hn
        rw [this]
        exact h1
      · simp only [getI, hm, if_neg hn]
        exact h2
      · intro j v hj
        obtain ⟨a, b, c⟩ := h3 j v hj
        refine ⟨by omega, by simp; omega, fun u => ?_⟩
        obtain ⟨c1, c2, c3⟩ := c u
        have e1 : j - i = (j - (i + 1)) + 1 := by omega
        rw [e1]
        refine ⟨fun k => ?_, ?_, ?_⟩
        · simp only [List.modify_succ_cons, getI, hm]
          by_cases hk : k = m
          · subst hk
            rw [if_pos rfl, if_neg (fun e => hn e.symm), if_pos rfl]
          · rw [if_neg hk, if_neg hk]; exact c1 k
        · simp only [List.modify_succ_cons, List.mem_cons, forall_eq_or_imp]
          exact ⟨⟨m, hm⟩, c2⟩
        · simpa using c3
theorem getI_push (kk : IntKind) (n : Int) (v : Value) (born : Nat) : ∀ es : List MapEntry, (∀ e ∈ es, ∃ m, e.key = .int kk m) → getI es n = none →
    ∀ m, getI (es ++ [{ key := .int kk n, val := v, born := born }]) m = if m = n then some v else getI es m := by
  intro es
  induction es with
  | nil => intro _ _ m; simp [getI]
  | cons e es ih =>
    intro h hn m
    obtain ⟨k, hk⟩ := h e (by simp)
    simp only [getI, hk] at hn
    by_cases hnk : n = k
    · rw [if_pos hnk] at hn; cases hn
    · rw [if_neg hnk] at hn
      simp only [List.cons_append, getI, hk]
      by_cases hm : m = k
      · subst hm
        rw [if_pos rfl, if_neg (fun e => hnk e.symm), if_pos rfl]
      · rw [if_neg hm, if_neg hm]
        exact ih (fun e he => h e (by simp [he])) hn m
section
variable {P : Program} {w : World} {b : Nat} {kk : IntKind} {m : Int → Option Value} {t k e : TypeId}
theorem run_findKey_int (hk : P.underlying k = some (.int kk)) (n : Int) (es : List MapEntry) (h : ∀ e ∈ es, ∃ m, e.key = .int kk m) :
    ∃ r, (Instr.findKey k (.int kk n) es).run P w = .ok r w ∧ r.map (·.2) = getI es n ∧
      (∀ j v, r = some (j, v) → j < es.length ∧ ∀ u : Value, (∀ m, getI (es.modify j fun e => { e with key := .int kk n, val := u }) m = if m = n then some u else getI es m) ∧
        (∀ e ∈ es.modify j fun e => { e with key := .int kk n, val := u }, ∃ m, e.key = .int kk m) ∧ (es[j]?).map (·.key) = some (.int kk n)) := by
  obtain ⟨r, h1, h2, h3⟩ := findNow_int kk n es 0 h
  refine ⟨r, ?_, h2, fun j v hj => ?_⟩
  · simp [Instr.findKey, run_underlying hk, h1]
  · have := h3 j v hj
    simpa using this.2
theorem run_checkKey_int (hk : P.underlying k = some (.int kk)) (n : Int) (em : Bool) (w : World) : (Instr.checkKey em 10000 k (.int kk n)).run P w = .ok () w := by
  have h : ∀ d : Nat, (Instr.checkKey em (d + 1) k (.int kk n)).run P w = .ok () w := fun d => by simp [Instr.checkKey, run_underlying hk]
  exact h 9999
theorem run_lookup_imap (ht : P.underlying t = some (.map k e)) (hk : P.underlying k = some (.int kk)) {z : Value} (hz : (zeroValue e).run P w = .ok z w) (h : IMap w b kk m) (n : Int) (c : Bool) :
    (Instr.lookup t (.map (some b)) (.int kk n) c).run P w = .ok (if c then .tuple #[(m n).getD z, .bool (m n).isSome] else (m n).getD z) w := by
  obtain ⟨es, clock, hb, hes, hm⟩ := h
  obtain ⟨r, h1, h2, h3⟩ := run_findKey_int (w := w) hk n es.toList hes
  rw [← hm n, ← h2]
  rcases r with _ | ⟨j, v⟩
  · simp [Instr.lookup, run_underlying ht, MapKept.run_getObj_map hb, run_checkKey_int hk, h1, hz, Result.andThen]
  · simp [Instr.lookup, run_underlying ht, MapKept.run_getObj_map hb, run_checkKey_int hk, h1, Result.andThen]
theorem run_lookup_nil (ht : P.underlying t = some (.map k e)) (hk : P.underlying k = some (.int kk)) {z : Value} (hz : (zeroValue e).run P w = .ok z w) (n : Int) (c : Bool) :
    (Instr.lookup t (.map none) (.int kk n) c).run P w = .ok (if c then .tuple #[z, .bool false] else z) w := by
  have h1 : (Instr.findKey k (.int kk n) []).run P w = .ok none w := by simp [Instr.findKey, run_underlying hk, Instr.findNow]
  simp [Instr.lookup, run_underlying ht, run_checkKey_int hk, h1, hz, Result.andThen]
theorem run_update_imap (ht : P.underlying t = some (.map k e)) (hk : P.underlying k = some (.int kk)) (h : IMap w b kk m) (n : Int) (u : Value) :
    ∃ w', (Instr.mapUpdate t (.map (some b)) (.int kk n) u).run P w = .ok () w' ∧ IMap w' b kk (fun x => if x = n then some u else m x) ∧ w.grownBy w' (some b) ∧ w'.heap.size = w.heap.size := by
  obtain ⟨es, clock, hb, hes, hm⟩ := h
  obtain ⟨r, h1, h2, h3⟩ := run_findKey_int (w := w) hk n es.toList hes
  rcases r with _ | ⟨j, v⟩
  · refine ⟨setBlock w b (.map (es.push { key := .int kk n, val := u, born := clock }) (clock + 1)), ?_, ⟨_, _, heap_setBlock_same hb _, ?_, ?_⟩, ⟨rfl, rfl, rfl, by simp [setBlock], fun i _ hi => heap_setBlock_other hb _ (fun e => hi (by rw [e]))⟩, by simp [setBlock]⟩
    · simp [Instr.mapUpdate, run_underlying ht, MapKept.run_getObj_map hb, run_checkKey_int hk, h1, MapKept.run_setObj_map _ hb, Result.andThen, setBlock]
    · intro e he
      simp only [Array.toList_push, List.mem_append, List.mem_singleton] at he
      rcases he with he | rfl
      · exact hes e he
      · exact ⟨n, rfl⟩
    · intro x
      rw [Array.toList_push, getI_push kk n u clock es.toList hes h2.symm x, hm x]
  · obtain ⟨hj, hu⟩ := h3 j v rfl
    obtain ⟨g1, g2, g3⟩ := hu u
    have hjs : j < es.size := by simpa using hj
    have e1 : (es[j]?.map (·.key)).getD (.int kk n) = .int kk n := by
      have := g3
      rw [Array.getElem?_toList] at this
      rw [this]; rfl
    have hsb : Instr.sameBits 10000 (Value.int kk n) (Value.int kk n) = true := by simp [Instr.sameBits]
    refine ⟨setBlock w b (.map (es.modify j fun e => { e with key := .int kk n, val := u }) clock), ?_, ⟨_, _, heap_setBlock_same hb _, ?_, ?_⟩, ⟨rfl, rfl, rfl, by simp [setBlock], fun i _ hi => heap_setBlock_other hb _ (fun e => hi (by rw [e]))⟩, by simp [setBlock]⟩
    · simp [Instr.mapUpdate, run_underlying ht, MapKept.run_getObj_map hb, run_checkKey_int hk, h1, e1, Instr.keyThatStays, hsb, MapKept.run_setObj_map _ hb, Result.andThen, setBlock]
    · rw [Array.toList_modify]; exact g2
    · intro x
      rw [Array.toList_modify, g1 x, hm x]
end
end Go.Proofs.YtlfingcmekifkaaGreat

namespace Go.Proofs.YtlfingcmekifkaaGreat
open Go.RowKit
theorem ret_bool {a b : Bool} (h : a = b) : Ending.returned (.bool a) = .returned (.bool b) := by rw [h]
theorem hide {p : Prop} (h : p) : Hid p := h
theorem bcell {B : Nat} {W w1 : World} (hb : Below B W w1) : (∀ b o, b < B → w1.cell? ⟨b, o, none⟩ = W.cell? ⟨b, o, none⟩) ∧ (∀ b o, b < B → w1.frozen? ⟨b, o, none⟩ = W.frozen? ⟨b, o, none⟩) :=
  ⟨fun b o h => hb.cell (p := ⟨b, o, none⟩) h, fun b o h => hb.frozen (p := ⟨b, o, none⟩) h⟩
theorem bcellc {B : Nat} {W w1 : World} (hb : Below B W w1) : ∀ b o, b < B → w1.cell? ⟨b, o, none⟩ = W.cell? ⟨b, o, none⟩ := fun b o h => hb.cell (p := ⟨b, o, none⟩) h
theorem below_drewN {B : Nat} {a w : World} (h : Below B a w) (n : Nat) : Below B a (w.drewN n) := ⟨h.os, h.tape, h.output, h.size, h.block⟩
theorem bounds_u64 {n : Int} (h : (Lit.int .u64 n).wf = true) : 0 ≤ n ∧ n < 18446744073709551616 := by
  simp [Lit.wf, IntKind.min, IntKind.max, IntKind.signed, IntKind.bits] at h
  exact ⟨by omega, by omega⟩
structure Keep (K : Nat → Prop) (w w' : World) : Prop where
  os : w'.os = w.os
  tape : w'.tape = w.tape
  output : w'.output = w.output
  size : w.heap.size ≤ w'.heap.size
  block : ∀ k, K k → w'.heap[k]? = w.heap[k]?
theorem Keep.refl (K : Nat → Prop) (w : World) : Keep K w w := ⟨rfl, rfl, rfl, Nat.le_refl _, fun _ _ => rfl⟩
theorem Keep.trans {K : Nat → Prop} {a b c : World} (h : Keep K a b) (k : Keep K b c) : Keep K a c :=
  ⟨k.os.trans h.os, k.tape.trans h.tape, k.output.trans h.output, Nat.le_trans h.size k.size, fun i hi => (k.block i hi).trans (h.block i hi)⟩
theorem Keep.mono {K K' : Nat → Prop} {w w' : World} (h : Keep K w w') (hK : ∀ k, K' k → K k) : Keep K' w w' := ⟨h.os, h.tape, h.output, h.size, fun k hk => h.block k (hK k hk)⟩
theorem Keep.of_below {B : Nat} {K : Nat → Prop} {w w' : World} (h : Below B w w') (hK : ∀ k, K k → k < B) : Keep K w w' := ⟨h.os, h.tape, h.output, h.size, fun k hk => h.block k (hK k hk)⟩
theorem Keep.below {B : Nat} {K : Nat → Prop} {w w' : World} (h : Keep K w w') (hK : ∀ k, k < B → K k) : Below B w w' := ⟨h.os, h.tape, h.output, h.size, fun k hk => h.block k (hK k hk)⟩
theorem Keep.drewN {K : Nat → Prop} {a w : World} (h : Keep K a w) (n : Nat) : Keep K a (w.drewN n) := ⟨h.os, h.tape, h.output, h.size, h.block⟩
theorem Keep.drew {K : Nat → Prop} {a w : World} (h : Keep K a w) : Keep K a w.drew := ⟨h.os, h.tape, h.output, h.size, h.block⟩
theorem Keep.cell {K : Nat → Prop} {w w' : World} (h : Keep K w w') {p : Addr} (hp : K p.block) : w'.cell? p = w.cell? p := World.cell?_of_block (w := w) (h.block p.block hp)
theorem Keep.alloc {K : Nat → Prop} {a w : World} (h : Keep K a w) (hK : ∀ k, K k → k < w.heap.size) (o : Obj) : Keep K a (w.alloc o) :=
  h.trans ⟨rfl, rfl, rfl, by simp, fun k hk => Below.heap_alloc _ _ _ (hK k hk)⟩
theorem Keep.setCell {K : Nat → Prop} {a w : World} (h : Keep K a w) {p : Addr} (hp : ¬ K p.block) (u : Value) : Keep K a (w.setCell p u) :=
  h.trans ⟨rfl, rfl, rfl, by simp [World.setCell], fun k hk => Below.heap_setCell _ _ _ _ (fun e => hp (e ▸ hk))⟩
theorem Keep.grown {K : Nat → Prop} {a w w' : World} {row : Option Nat} (h : Keep K a w) (hg : w.grownBy w' row) (hK : ∀ k, K k → k < w.heap.size) (hr : ∀ k, row = some k → ¬ K k) : Keep K a w' :=
  h.trans ⟨hg.os, hg.tape, hg.output, hg.size, fun k hk => hg.block k (hK k hk) (fun e => hr k e.symm hk)⟩
def CellsAt (w : World) (b p : Nat) (cs : List Value) : Prop := ∀ j u, cs[j]? = some u → w.cell? ⟨b, p + j, none⟩ = some u
theorem CellsAt.of_block {w w' : World} {b p : Nat} {cs : List Value} (h : CellsAt w b p cs) (hb : w'.heap[b]? = w.heap[b]?) : CellsAt w' b p cs :=
  fun j u hu => (World.cell?_of_block (w := w) (a := ⟨b, p + j, none⟩) hb).trans (h j u hu)
def Sl {α : Type} (enc : α → List Value) (sz : Nat) (w : World) (v : Value) (xs : List α) : Prop :=
  ∃ A c, v = .slice A xs.length c ∧ xs.length ≤ c ∧ c ≤ maxLen ∧ ∀ k x, xs[k]? = some x → ∃ b o, A = some ⟨b, o, none⟩ ∧ b < w.heap.size ∧ CellsAt w b (o + k * sz) (enc x)
section
variable {α : Type} {enc : α → List Value} {sz : Nat} {w w' : World} {v : Value} {xs : List α}
theorem Sl.below {B : Nat} (h : Sl enc sz w v xs) (hb : Below B w w') (hB : w.heap.size ≤ B) : Sl enc sz w' v xs := by
  obtain ⟨A, c, hv, h1, h2, h3⟩ := h
  refine ⟨A, c, hv, h1, h2, fun k x hx => ?_⟩
  obtain ⟨b, o, hA, hlt, hc⟩ := h3 k x hx
  exact ⟨b, o, hA, Nat.lt_of_lt_of_le hlt hb.size, hc.of_block (hb.block b (by omega))⟩
theorem Sl.drewN (h : Sl enc sz w v xs) (n : Nat) : Sl enc sz (w.drewN n) v xs := h
theorem Sl.alloc (h : Sl enc sz w v xs) (o : Obj) : Sl enc sz (w.alloc o) v xs := h.below ((Below.refl w.heap.size w).alloc (Nat.le_refl _) o) (Nat.le_refl _)
end
theorem Sl.of_block {α : Type} {enc : α → List Value} {sz : Nat} {w : World} {g c : Nat} {cs : Array Value} {t : TypeId} {fr : Nat × Nat} {xs : List α} (hb : w.heap[g]? = some (.cells cs t fr))
    (h1 : xs.length ≤ c) (h2 : c ≤ maxLen) (hcs : ∀ k x, xs[k]? = some x → ∀ j u, (enc x)[j]? = some u → cs[k * sz + j]? = some u) : Sl enc sz w (.slice (some ⟨g, 0, none⟩) xs.length c) xs := by
  refine ⟨_, c, rfl, h1, h2, fun k x hx => ⟨g, 0, rfl, (Array.getElem?_eq_some_iff.1 hb).1, fun j u hu => ?_⟩⟩
  rw [cell_of_row w g _ cs t fr hb]
  rw [show 0 + k * sz + j = k * sz + j by omega]
  exact hcs k x hx j u hu
structure Ev where
  call : Int
  inv : Int
  resp : Int
  steps : Int
  err : Int
  val : Int
  lA : Option Addr
  lN : Nat
  lC : Nat
  kA : Option Addr
  kN : Nat
  kC : Nat
def evEnc (e : Ev) : List Value := [.int .i64 e.call, .int .i64 e.inv, .int .i64 e.resp, .int .i64 e.steps, .int .i64 e.err, .int .u64 e.val, .slice e.lA e.lN e.lC, .slice e.kA e.kN e.kC]
structure Cl where
  thread : Int
  obj : Int
  kind : Int
  a : Int
  b : Int
  c : Int
def clEnc (c : Cl) : List Value := [.int .i64 c.thread, .int .i64 c.obj, .int .i64 c.kind, .int .u64 c.a, .int .u64 c.b, .int .u64 c.c]
def ntEnc (k : IntKind) (n : Int) : List Value := [.int k n]
theorem cl_cells {w : World} {b p : Nat} {e : Cl} (h : CellsAt w b p (clEnc e)) :
    w.cell? ⟨b, p, none⟩ = some (.int .i64 e.thread) ∧ w.cell? ⟨b, p + 1, none⟩ = some (.int .i64 e.obj) ∧ w.cell? ⟨b, p + 2, none⟩ = some (.int .i64 e.kind) ∧ w.cell? ⟨b, p + 3, none⟩ = some (.int .u64 e.a) ∧
    w.cell? ⟨b, p + 4, none⟩ = some (.int .u64 e.b) ∧ w.cell? ⟨b, p + 5, none⟩ = some (.int .u64 e.c) :=
  ⟨h 0 _ rfl, h 1 _ rfl, h 2 _ rfl, h 3 _ rfl, h 4 _ rfl, h 5 _ rfl⟩
abbrev SlCl := Sl clEnc 6
abbrev SlI := Sl (ntEnc .i64) 1
abbrev SlW := Sl (ntEnc .u64) 1
end Go.Proofs.YtlfingcmekifkaaGreat

namespace Go.Proofs.YtlfingcmekifkaaGreat
open Go.RowKit
inductive Plan where
  | done
  | take (i : Nat) (p : Plan)
  | run (i : Nat) (p : Plan)
  | fork (i : Nat) (p : Plan) (j : Nat) (q : Plan)
def Plan.size : Plan → Nat
  | .done => 0
  | .take _ p => p.size + 1
  | .run _ p => p.size + 1
  | .fork _ p _ _ => p.size + 1
def seqChk (ops : Array Oper) : Plan → Array Bool → Bool
  | .done, listed => (Region.ready .any ops listed).isEmpty
  | .take i r, listed => Region.free .any ops listed i && ((Region.ready .any ops listed).contains i && seqChk ops r (listed.setIfInBounds i true))
  | .run i r, listed => (Region.ready .any ops listed == [i]) && seqChk ops r (listed.setIfInBounds i true)
  | .fork i p j q, listed => (Region.ready .any ops listed == [i, j]) && ((p.size == q.size) && (seqChk ops p (listed.setIfInBounds i true) && seqChk ops q (listed.setIfInBounds j true)))
def wpSeq (P : Program) (ops : Array Oper) (Q : Exit → Act → World → Prop) (S : World → Prop) : Plan → Act → World → Prop
  | .done, a, w => Q .normal a w
  | .take i r, a, w => ∃ o v, ops[i]? = some o ∧ YieldsIf P ops S o v a ∧ wpSeq P ops Q S r (a.put o.dst v) w
  | .run i r, a, w => wpOp P ops Q i (fun a' w' => S w' ∧ wpSeq P ops Q S r a' w') a w
  | .fork i p j q, a, w => wpOp P ops Q i (fun a' w' => S w' ∧ wpSeq P ops Q S p a' w') a w ∧ wpOp P ops Q j (fun a' w' => S w' ∧ wpSeq P ops Q S q a' w') a w
theorem wpSeq_sound {P : Program} {ops : Array Oper} {Q : Exit → Act → World → Prop} {S : World → Prop} (hs : Region.noSelect ops = true)
    (hQ : ∀ c d v (a : Act) w, Q (.panic c) (a.put d v) w → Q (.panic c) a w) :
    ∀ (ord : Plan) (listed : Array Bool) (a : Act) (w : World), seqChk ops ord listed = true → S w → wpSeq P ops Q S ord a w → wpAnyH P .any ops Q S ord.size listed a w
  | .done, listed, a, w, hc, _, h => wpAnyH_done (by simpa [seqChk] using hc) h _
  | .take i r, listed, a, w, hc, hS, h => by
    obtain ⟨o, v, ho, hy, h⟩ := h
    simp only [seqChk, Bool.and_eq_true] at hc
    exact wpAnyH_take ho hs hc.1 hc.2.1 (fun c a w => hQ c _ _ a w) hy hS (wpSeq_sound hs hQ r _ _ w hc.2.2 hS h)
  | .run i r, listed, a, w, hc, _, h => by
    simp only [seqChk, Bool.and_eq_true, beq_iff_eq] at hc
    refine wpAnyH_all hc.1 (by simp) ?_
    intro j hj
    obtain rfl : j = i := by simpa using hj
    exact wpOp_mono (fun a' w' h' => ⟨h'.1, wpSeq_sound hs hQ r _ a' w' hc.2 h'.1 h'.2⟩) h
  | .fork i p j q, listed, a, w, hc, _, h => by
    simp only [seqChk, Bool.and_eq_true, beq_iff_eq] at hc
    refine wpAnyH_all hc.1 (by simp) ?_
    intro k hk
    simp only [List.mem_cons, List.not_mem_nil, or_false] at hk
    rcases hk with rfl | rfl
    · exact wpOp_mono (fun a' w' h' => ⟨h'.1, wpSeq_sound hs hQ p _ a' w' hc.2.2.1 h'.1 h'.2⟩) h.1
    · have hsz : q.size = p.size := hc.2.1.symm
      have := wpOp_mono (fun a' w' (h' : S w' ∧ wpSeq P ops Q S q a' w') => (⟨h'.1, wpSeq_sound hs hQ q _ a' w' hc.2.2.2 h'.1 h'.2⟩ : S w' ∧ wpAnyH P .any ops Q S q.size (listed.setIfInBounds k true) a' w')) h.2
      rw [hsz] at this
      exact this
theorem wp_region_seq {P : Program} {l : List Oper} {Q : Exit → Act → World → Prop} {id : Nat} {a : Act} {w : World} (S : World → Prop) (ord : Plan)
    (hm : P.follows .mixedOrders = true) (hs : Region.noSelect l.toArray = true) (hc : (seqChk l.toArray ord (Array.replicate l.toArray.size false) && (ord.size == l.toArray.size)) = true)
    (hS : S w.drew) (h : wpSeq P l.toArray (NoPanic Q) S ord a w.drew) : (Code.region id l.toArray true).wp P Q a w := by
  simp only [Bool.and_eq_true, beq_iff_eq] at hc
  refine wp_region_noPanic (wp_region_held (S := S) hm ?_)
  have := wpSeq_sound (P := P) (Q := NoPanic Q) hs (fun c d v a w h => (h : False).elim) ord (Array.replicate l.toArray.size false) a w.drew hc.1 hS h
  rw [hc.2] at this
  exact this
def nth : List Oper → Nat → Option Oper
  | [], _ => none
  | o :: _, 0 => some o
  | _ :: l, i + 1 => nth l i
theorem nth_eq : ∀ (l : List Oper) (i : Nat), nth l i = l[i]?
  | [], i => by simp [nth]
  | o :: _, 0 => by simp [nth]
  | o :: l, i + 1 => by simp [nth, nth_eq l i]
section
variable {P : Program} {l : List Oper} {Q : Exit → Act → World → Prop} {S : World → Prop} {i : Nat} {r : Plan} {a : Act} {w : World}
theorem nth_arr {o : Oper} (ho : nth l i = some o) : l.toArray[i]? = some o := by rw [List.getElem?_toArray, ← nth_eq]; exact ho
theorem seq_take {o : Oper} {v : Value} (ho : nth l i = some o) (hw : Region.wanted o (yielded l.toArray a.tmps) = true) (hy : ∀ w, S w → (execOp a.eval o).run P w = .ok (.value v) w)
    (h : wpSeq P l.toArray Q S r (a.put o.dst v) w) : wpSeq P l.toArray Q S (.take i r) a w := ⟨o, v, nth_arr ho, Or.inl ⟨hw, hy⟩, h⟩
theorem seq_skip {o : Oper} (ho : nth l i = some o) (hw : Region.wanted o (yielded l.toArray a.tmps) = false) (h : wpSeq P l.toArray Q S r (a.put o.dst undef) w) : wpSeq P l.toArray Q S (.take i r) a w :=
  ⟨o, undef, nth_arr ho, Or.inr ⟨hw, rfl⟩, h⟩
theorem op_pass {K : Act → World → Prop} {o : Oper} (ho : nth l i = some o) (hw : Region.wanted o (yielded l.toArray a.tmps) = false) (hS : S w) (h : K (a.put o.dst undef) w) : wpOp P l.toArray Q i (fun a' w' => S w' ∧ K a' w') a w := by
  unfold wpOp
  rw [nth_arr ho]
  simp only [hw]
  exact ⟨hS, h⟩
theorem op_run {K : Act → World → Prop} {o : Oper} (ho : nth l i = some o) (hw : Region.wanted o (yielded l.toArray a.tmps) = true)
    (h : ∀ K' : Act → World → Prop, (∀ a w, S w → K a w → K' a w) → Oper.wp P o a w K' Q) : wpOp P l.toArray Q i (fun a' w' => S w' ∧ K a' w') a w := by
  unfold wpOp
  rw [nth_arr ho]
  simp only [hw, if_true]
  exact Or.inl (h _ fun a w hS hr => ⟨hS, hr⟩)
theorem seq_pass {o : Oper} (ho : nth l i = some o) (hw : Region.wanted o (yielded l.toArray a.tmps) = false) (hS : S w) (h : wpSeq P l.toArray Q S r (a.put o.dst undef) w) : wpSeq P l.toArray Q S (.run i r) a w :=
  op_pass (K := wpSeq P l.toArray Q S r) ho hw hS h
theorem seq_run {o : Oper} (ho : nth l i = some o) (hw : Region.wanted o (yielded l.toArray a.tmps) = true)
    (h : ∀ K : Act → World → Prop, (∀ a w, S w → wpSeq P l.toArray Q S r a w → K a w) → Oper.wp P o a w K Q) : wpSeq P l.toArray Q S (.run i r) a w :=
  op_run (K := wpSeq P l.toArray Q S r) ho hw h
theorem seq_fork {j : Nat} {q : Plan} (h1 : wpSeq P l.toArray Q S (.run i r) a w) (h2 : wpSeq P l.toArray Q S (.run j q) a w) : wpSeq P l.toArray Q S (.fork i r j q) a w := ⟨h1, h2⟩
theorem seq_nil (h : Q .normal a w) : wpSeq P l.toArray (NoPanic Q) S .done a w := h
end
attribute [irreducible] wpSeq
end Go.Proofs.YtlfingcmekifkaaGreat

namespace Go.Proofs.YtlfingcmekifkaaGreat
open Go.RowKit
theorem sl_of_owns {w : World} {base : Nat} {e : TypeId} {v : Value} {kk : IntKind} {xs : List Int} (h : w.ownsRow base e 1 v xs.length (xs.map (Value.int kk))) (hm : xs.length ≤ maxLen) : Sl (ntEnc kk) 1 w v xs := by
  rcases h.2 with ⟨rfl, h0⟩ | ⟨g, cap, cur, rfl, _, hg, hnc, hcm, _, htake⟩
  · have : xs = [] := List.eq_nil_of_length_eq_zero h0
    subst this
    exact ⟨none, 0, rfl, Nat.le_refl _, Nat.zero_le _, fun k x hx => by simp at hx⟩
  · refine ⟨_, cap, rfl, hnc, hcm, fun k x hx => ⟨g, 0, rfl, (Array.getElem?_eq_some_iff.1 hg).1, fun j u hu => ?_⟩⟩
    have hk := (List.getElem?_eq_some_iff.1 hx).1
    rcases j with _ | j
    · simp only [ntEnc, List.getElem?_cons_zero, Option.some.injEq] at hu
      subst hu
      rw [cell_of_row w g _ cur e (0, 0) hg]
      have : (cur.toList.take (xs.length * 1))[k]? = some (.int kk x) := by rw [htake]; simp [hx]
      rw [List.getElem?_take] at this
      split at this
      · simpa using this
      · cases this
    · simp [ntEnc] at hu
theorem nt_cell {w : World} {kk : IntKind} {b p : Nat} {n : Int} (h : CellsAt w b p (ntEnc kk n)) : w.cell? ⟨b, p, none⟩ = some (.int kk n) := h 0 _ rfl
theorem list_ext_of {xs ys : List Int} (hl : xs.length = ys.length) (h : ∀ j, j < xs.length → xs[j]? = ys[j]?) : xs = ys := by
  apply List.ext_getElem?
  intro i
  by_cases hi : i < xs.length
  · exact h i hi
  · rw [List.getElem?_eq_none (by omega), List.getElem?_eq_none (by omega)]
set_option maxHeartbeats 1000000 in
theorem same_any (v1 v2 : Value) (xs ys : List Int) (w : World) (h1 : SlW w v1 xs) (h2 : SlW w v2 ys) :
    Calls Tryz.prog 26 #[v1, v2] w fun e w' => e = .returned (.bool (decide (xs = ys))) ∧ ∃ n, w' = w.drewN n := by
  obtain ⟨A, cA, rfl, a1, a2, a3⟩ := h1
  obtain ⟨B, cB, rfl, b1, b2, b3⟩ := h2
  have hlx : (xs.length : Int) ≤ 9223372036854775807 := by unfold maxLen at a2; omega
  by_cases hl : xs.length = ys.length
  · have hl1 : ((xs.length : Int) != (ys.length : Int)) = false := by simp [hl]
    have hl2 : ((xs.length : Int) == (ys.length : Int)) = true := by simp [hl]
    have HL := hide hl
    clear hl
    obtain ⟨R, hR⟩ : ∃ R, decide (xs = ys) = R := ⟨_, rfl⟩
    have HR := hide hR
    rw [hR]
    clear hR
    go_enter Tryz.func26, Tryz.ntmps26
    go_wp2
    go_loopw [13] (fun i wr => ∃ k : Nat, k ≤ xs.length ∧ i = .int .i64 k ∧ Hid (∀ j, j < k → xs[j]? = ys[j]?) ∧ Hid (∃ n, wr = w.drewN n)) (fun i _ => xs.length - (intOf i).toNat)
    case atStart => exact ⟨0, Nat.zero_le _, rfl, hide (fun j hj => by omega), hide ⟨0, rfl⟩⟩
    case round =>
      obtain ⟨k, hk, rfl, hok, hn⟩ := hrel
      obtain ⟨n, rfl⟩ := hn.out
      clear hn
      by_cases hlt : k < xs.length
      · obtain ⟨x, hx⟩ : ∃ x, xs[k]? = some x := ⟨_, List.getElem?_eq_getElem hlt⟩
        obtain ⟨y, hy⟩ : ∃ y, ys[k]? = some y := ⟨_, List.getElem?_eq_getElem (by have := HL.out; omega)⟩
        obtain ⟨b, o, rfl, hb, hc⟩ := a3 k x hx
        obtain ⟨b', o', rfl, hb', hc'⟩ := b3 k y hy
        have c1 := nt_cell hc
        have c2 := nt_cell hc'
        simp only [Nat.mul_one] at c1 c2
        have q0 : (0 : Int) ≤ (k : Int) := by omega
        have q1 : (k : Int) < (xs.length : Int) := by omega
        have q2 : (k : Int) < (ys.length : Int) := by have := HL.out; omega
        clear a3 b3 hc hc'
        by_cases hxy : x = y
        · have e1 : (x == y) = true := by simp [hxy]
          have e2 : (x != y) = false := by simp [hxy]
          have HN := hide (show xs[k]? = ys[k]? by rw [hx, hy, hxy])
          clear hx hy hxy
          go_wp2
          go_quiet (fail)
          go_wp2
          go_roundw
          case rel => exact ⟨k + 1, by omega, by go_num, hide (fun j hj => by by_cases h : j = k; (subst h; exact HN.out); exact hok.out j (by omega)), hide ⟨_, rfl⟩⟩
          case measure => simp [intOf] <;> omega
        · have e1 : (x == y) = false := by simp [hxy]
          have e2 : (x != y) = true := by simp [hxy]
          have HF : Hid (false = R) := by
            show _ = _
            rw [← HR.out, eq_comm, decide_eq_false_iff_not]
            intro he
            subst he
            rw [hx] at hy
            exact hxy (Option.some.inj hy)
          clear hx hy hxy hok
          go_wp2
          go_quiet (fail)
          go_wp2
          go_ret
          exact ⟨ret_bool HF.out, _, World.drewN_drewN _ _ _⟩
      · go_wp2
        go_ret
        refine ⟨ret_bool ?_, n, rfl⟩
        rw [← HR.out, eq_comm, decide_eq_true_eq]
        exact list_ext_of HL.out (fun j hj => hok.out j (by omega))
  · have hl1 : ((xs.length : Int) != (ys.length : Int)) = true := by simp; omega
    have hl2 : ((xs.length : Int) == (ys.length : Int)) = false := by simp; omega
    have HF : Hid (decide (xs = ys) = false) := by show _ = _; simp; intro he; exact hl (by rw [he])
    rw [HF.out]
    clear hl a3 b3
    go_enter Tryz.func26, Tryz.ntmps26
    go_wp2
    go_ret
    exact ⟨rfl, 0, rfl⟩
end Go.Proofs.YtlfingcmekifkaaGreat

namespace Go.Proofs.YtlfingcmekifkaaGreat
open Go.RowKit
theorem info_word : (Tryz.prog.info? 46).map (fun i => (i.zero, i.size, i.bytes)) = some (some (.int .u64 0), 1, 8) := by kernel_rfl
abbrev WRow (w : World) (B : Nat) (v : Value) (l : List Int) : Prop := w.ownsRow B 46 1 v l.length (l.map (Value.int .u64))
theorem wrow_sl {w : World} {B : Nat} {v : Value} {l : List Int} (h : WRow w B v l) (hm : l.length ≤ maxLen) : SlW w v l := sl_of_owns h hm
theorem run_store_fn {P : Program} {w : World} {a : Addr} {m : Mode} (g : Fn) (p q : Array Value) : (store a (.func g p q) m).run P w = stored P w a (.func g p q) m := run_store P w a _ m rfl
theorem run_store_nilfn {P : Program} {w : World} {a : Addr} {m : Mode} : (store a .nilFunc m).run P w = stored P w a .nilFunc m := run_store P w a _ m rfl
end Go.Proofs.YtlfingcmekifkaaGreat
