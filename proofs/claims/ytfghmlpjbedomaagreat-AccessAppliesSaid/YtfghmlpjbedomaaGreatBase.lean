/- Plain words for memory, shared by the proofs: a slice that reads as a list of encoded things; events and calls as plain data. -/
import Derived.Test.YtfghmlpjbedomaaGreatMapI
namespace Go.Proofs.YtfghmlpjbedomaaGreat
open Go.RowKit

theorem ret_int {k : IntKind} {a b : Int} (h : a = b) : Ending.returned (.int k a) = .returned (.int k b) := by rw [h]
theorem ret_bool {a b : Bool} (h : a = b) : Ending.returned (.bool a) = .returned (.bool b) := by rw [h]
theorem hide {p : Prop} (h : p) : Hid p := h

theorem bcell {B : Nat} {W w1 : World} (hb : Below B W w1) : (∀ b o, b < B → w1.cell? ⟨b, o, none⟩ = W.cell? ⟨b, o, none⟩) ∧ (∀ b o, b < B → w1.frozen? ⟨b, o, none⟩ = W.frozen? ⟨b, o, none⟩) :=
  ⟨fun b o h => hb.cell (p := ⟨b, o, none⟩) h, fun b o h => hb.frozen (p := ⟨b, o, none⟩) h⟩

theorem bcellc {B : Nat} {W w1 : World} (hb : Below B W w1) : ∀ b o, b < B → w1.cell? ⟨b, o, none⟩ = W.cell? ⟨b, o, none⟩ := fun b o h => hb.cell (p := ⟨b, o, none⟩) h

theorem below_drewN {B : Nat} {a w : World} (h : Below B a w) (n : Nat) : Below B a (w.drewN n) := ⟨h.os, h.tape, h.output, h.size, h.block⟩

theorem bounds_i64 {n : Int} (h : (Lit.int .i64 n).wf = true) : -9223372036854775808 ≤ n ∧ n ≤ 9223372036854775807 := by
  simp [Lit.wf, IntKind.min, IntKind.max, IntKind.signed, IntKind.bits] at h
  exact ⟨by omega, by omega⟩
theorem bounds_u64 {n : Int} (h : (Lit.int .u64 n).wf = true) : 0 ≤ n ∧ n < 18446744073709551616 := by
  simp [Lit.wf, IntKind.min, IntKind.max, IntKind.signed, IntKind.bits] at h
  exact ⟨by omega, by omega⟩

/-- The blocks of K lie as they lay; the streams are as they were; no block has gone. -/
structure Keep (K : Nat → Prop) (w w' : World) : Prop where
  os : w'.os = w.os
  tape : w'.tape = w.tape
  output : w'.output = w.output
  size : w.heap.size ≤ w'.heap.size
  block : ∀ k, K k → w'.heap[k]? = w.heap[k]?

theorem Keep.refl (K : Nat → Prop) (w : World) : Keep K w w := ⟨rfl, rfl, rfl, Nat.le_refl _, fun _ _ => rfl⟩
theorem Keep.trans {K : Nat → Prop} {a b c : World} (h : Keep K a b) (k : Keep K b c) : Keep K a c :=
  ⟨k.os.trans h.os, k.tape.trans h.tape, k.output.trans h.output, Nat.le_trans h.size k.size, fun i hi => (k.block i hi).trans (h.block i hi)⟩
theorem Keep.mono {K K' : Nat → Prop} {w w' : World} (h : Keep K w w') (hK : ∀ k, K' k → K k) : Keep K' w w' := ⟨h.os, h.tape, h.output, h.size, fun k hk => h.block k (hK k hk)⟩
theorem Keep.of_below {B : Nat} {K : Nat → Prop} {w w' : World} (h : Below B w w') (hK : ∀ k, K k → k < B) : Keep K w w' := ⟨h.os, h.tape, h.output, h.size, fun k hk => h.block k (hK k hk)⟩
theorem Keep.below {B : Nat} {K : Nat → Prop} {w w' : World} (h : Keep K w w') (hK : ∀ k, k < B → K k) : Below B w w' := ⟨h.os, h.tape, h.output, h.size, fun k hk => h.block k (hK k hk)⟩
theorem Keep.drewN {K : Nat → Prop} {a w : World} (h : Keep K a w) (n : Nat) : Keep K a (w.drewN n) := ⟨h.os, h.tape, h.output, h.size, h.block⟩
theorem Keep.drew {K : Nat → Prop} {a w : World} (h : Keep K a w) : Keep K a w.drew := ⟨h.os, h.tape, h.output, h.size, h.block⟩
theorem Keep.cell {K : Nat → Prop} {w w' : World} (h : Keep K w w') {p : Addr} (hp : K p.block) : w'.cell? p = w.cell? p := World.cell?_of_block (w := w) (h.block p.block hp)
theorem Keep.alloc {K : Nat → Prop} {a w : World} (h : Keep K a w) (hK : ∀ k, K k → k < w.heap.size) (o : Obj) : Keep K a (w.alloc o) :=
  h.trans ⟨rfl, rfl, rfl, by simp, fun k hk => Below.heap_alloc _ _ _ (hK k hk)⟩
theorem Keep.setCell {K : Nat → Prop} {a w : World} (h : Keep K a w) {p : Addr} (hp : ¬ K p.block) (u : Value) : Keep K a (w.setCell p u) :=
  h.trans ⟨rfl, rfl, rfl, by simp [World.setCell], fun k hk => Below.heap_setCell _ _ _ _ (fun e => hp (e ▸ hk))⟩
theorem Keep.grown {K : Nat → Prop} {a w w' : World} {row : Option Nat} (h : Keep K a w) (hg : w.grownBy w' row) (hK : ∀ k, K k → k < w.heap.size) (hr : ∀ k, row = some k → ¬ K k) : Keep K a w' :=
  h.trans ⟨hg.os, hg.tape, hg.output, hg.size, fun k hk => hg.block k (hK k hk) (fun e => hr k e.symm hk)⟩
theorem grown_of_below {w w' : World} (h : Below w.heap.size w w') (row : Option Nat) : w.grownBy w' row := ⟨h.os, h.tape, h.output, h.size, fun k hk _ => h.block k hk⟩

/-- The cells cs lie in block b from place p on. -/
def CellsAt (w : World) (b p : Nat) (cs : List Value) : Prop := ∀ j u, cs[j]? = some u → w.cell? ⟨b, p + j, none⟩ = some u

theorem CellsAt.of_block {w w' : World} {b p : Nat} {cs : List Value} (h : CellsAt w b p cs) (hb : w'.heap[b]? = w.heap[b]?) : CellsAt w' b p cs :=
  fun j u hu => (World.cell?_of_block (w := w) (a := ⟨b, p + j, none⟩) hb).trans (h j u hu)

/-- The slice value v reads as the list xs, each element sz cells, told by enc. -/
def Sl {α : Type} (enc : α → List Value) (sz : Nat) (w : World) (v : Value) (xs : List α) : Prop :=
  ∃ A c, v = .slice A xs.length c ∧ xs.length ≤ c ∧ c ≤ maxLen ∧ ∀ k x, xs[k]? = some x → ∃ b o, A = some ⟨b, o, none⟩ ∧ b < w.heap.size ∧ CellsAt w b (o + k * sz) (enc x)

section
variable {α : Type} {enc : α → List Value} {sz : Nat} {w w' : World} {v : Value} {xs : List α}
theorem Sl.below {B : Nat} (h : Sl enc sz w v xs) (hb : Below B w w') (hB : w.heap.size ≤ B) : Sl enc sz w' v xs := by
  obtain ⟨A, c, hv, h1, h2, h3⟩ := h
  refine ⟨A, c, hv, h1, h2, fun k x hx => ?_⟩
  obtain ⟨b, o, hA, hlt, hc⟩ := h3 k x hx
  exact ⟨b, o, hA, Nat.lt_of_lt_of_le hlt hb.size, hc.of_block (hb.block b (by omega))⟩
theorem Sl.drewN (h : Sl enc sz w v xs) (n : Nat) : Sl enc sz (w.drewN n) v xs := h
theorem Sl.alloc (h : Sl enc sz w v xs) (o : Obj) : Sl enc sz (w.alloc o) v xs := h.below ((Below.refl w.heap.size w).alloc (Nat.le_refl _) o) (Nat.le_refl _)
end

theorem Sl.of_block {α : Type} {enc : α → List Value} {sz : Nat} {w : World} {g c : Nat} {cs : Array Value} {t : TypeId} {fr : Nat × Nat} {xs : List α} (hb : w.heap[g]? = some (.cells cs t fr))
    (h1 : xs.length ≤ c) (h2 : c ≤ maxLen) (hcs : ∀ k x, xs[k]? = some x → ∀ j u, (enc x)[j]? = some u → cs[k * sz + j]? = some u) : Sl enc sz w (.slice (some ⟨g, 0, none⟩) xs.length c) xs := by
  refine ⟨_, c, rfl, h1, h2, fun k x hx => ⟨g, 0, rfl, (Array.getElem?_eq_some_iff.1 hb).1, fun j u hu => ?_⟩⟩
  rw [cell_of_row w g _ cs t fr hb]
  rw [show 0 + k * sz + j = k * sz + j by omega]
  exact hcs k x hx j u hu

/-- An event, as it lies in memory. -/
structure Ev where
  call : Int
  inv : Int
  resp : Int
  steps : Int
  err : Int
  val : Int
  lA : Option Addr
  lN : Nat
  lC : Nat
  kA : Option Addr
  kN : Nat
  kC : Nat
def evEnc (e : Ev) : List Value := [.int .i64 e.call, .int .i64 e.inv, .int .i64 e.resp, .int .i64 e.steps, .int .i64 e.err, .int .u64 e.val, .slice e.lA e.lN e.lC, .slice e.kA e.kN e.kC]

/-- A call. -/
structure Cl where
  thread : Int
  obj : Int
  kind : Int
  a : Int
  b : Int
  c : Int
def clEnc (c : Cl) : List Value := [.int .i64 c.thread, .int .i64 c.obj, .int .i64 c.kind, .int .u64 c.a, .int .u64 c.b, .int .u64 c.c]

def ntEnc (k : IntKind) (n : Int) : List Value := [.int k n]

theorem ev_cells {w : World} {b p : Nat} {e : Ev} (h : CellsAt w b p (evEnc e)) :
    w.cell? ⟨b, p, none⟩ = some (.int .i64 e.call) ∧ w.cell? ⟨b, p + 1, none⟩ = some (.int .i64 e.inv) ∧ w.cell? ⟨b, p + 2, none⟩ = some (.int .i64 e.resp) ∧ w.cell? ⟨b, p + 3, none⟩ = some (.int .i64 e.steps) ∧
    w.cell? ⟨b, p + 4, none⟩ = some (.int .i64 e.err) ∧ w.cell? ⟨b, p + 5, none⟩ = some (.int .u64 e.val) ∧ w.cell? ⟨b, p + 6, none⟩ = some (.slice e.lA e.lN e.lC) ∧ w.cell? ⟨b, p + 7, none⟩ = some (.slice e.kA e.kN e.kC) :=
  ⟨h 0 _ rfl, h 1 _ rfl, h 2 _ rfl, h 3 _ rfl, h 4 _ rfl, h 5 _ rfl, h 6 _ rfl, h 7 _ rfl⟩
theorem cl_cells {w : World} {b p : Nat} {e : Cl} (h : CellsAt w b p (clEnc e)) :
    w.cell? ⟨b, p, none⟩ = some (.int .i64 e.thread) ∧ w.cell? ⟨b, p + 1, none⟩ = some (.int .i64 e.obj) ∧ w.cell? ⟨b, p + 2, none⟩ = some (.int .i64 e.kind) ∧ w.cell? ⟨b, p + 3, none⟩ = some (.int .u64 e.a) ∧
    w.cell? ⟨b, p + 4, none⟩ = some (.int .u64 e.b) ∧ w.cell? ⟨b, p + 5, none⟩ = some (.int .u64 e.c) :=
  ⟨h 0 _ rfl, h 1 _ rfl, h 2 _ rfl, h 3 _ rfl, h 4 _ rfl, h 5 _ rfl⟩

abbrev SlEv := Sl evEnc 8
abbrev SlCl := Sl clEnc 6
abbrev SlI := Sl (ntEnc .i64) 1
abbrev SlW := Sl (ntEnc .u64) 1

theorem sqA {α : Type _} (l : List α) (i : Nat) (a : α) : l.toArray.setIfInBounds i a = (l.set i a).toArray := List.setIfInBounds_toArray l i a
theorem sqB {α : Type _} {x a : α} {l : List α} : (x :: l).set 0 a = a :: l := rfl
theorem sqC {α : Type _} {x a : α} {l : List α} {i : Nat} : (x :: l).set (i + 1) a = x :: l.set i a := rfl
end Go.Proofs.YtfghmlpjbedomaaGreat
