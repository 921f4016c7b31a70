/- Calls through an interface value of which it is known what its methods are. Plain laws over any program. -/
/- The cells of a small block. -/
/- Rows of numbers that a call owns. -/
/- A line of calls (package pick): New. -/
import Derived.Test.YtfghmlpjbedomaaGreatBun1
import Derived.Test.YtfghmlpjbedomaaGreatBase
import Derived.Test.YtfghmlpjbedomaaGreatProg
import Derived.Maps.AppendAt
import Derived.Test.YtfghmlpjbedomaaGreatBun2
import Derived.Test.YtfghmlpjbedomaaGreatMapI
import Derived.Test.YtfghmlpjbedomaaGreatBun3
namespace Go.Proofs.YtfghmlpjbedomaaGreat
open Go.RowKit

/-- The method of an interface value: the function, and its receiver. -/
def Disp (P : Program) (v : Value) (name : String) (f : FuncId) (r : Value) : Prop := ∀ (args : Array Value) (w : World), (callMethod v name args).run P w = .ok (.enter f (#[r] ++ args)) w

theorem run_invoke {P : Program} {v r : Value} {name : String} {f : FuncId} (h : Disp P v name f r) (args : Array Value) (w : World) : (invoke (.fn (.method name) #[]) (#[v] ++ args)).run P w = .ok (.enter f (#[r] ++ args)) w := by
  have := h args w
  have e : (#[v] ++ args).extract 1 (#[v] ++ args).size = args := by
    apply Array.ext'
    simp
  unfold invoke
  simp only [Array.getElem?_append]
  simpa [e] using this

theorem wp_disp {P : Program} {w : World} {o : Oper} {a : Act} {K : Act → World → Prop} {Q : Exit → Act → World → Prop} (x : Operand) (name : String) (xs : List Operand) (types : Array TypeId)
    (ho : o.op = .call { callee := .invoke x name, args := xs.toArray, argTypes := types }) (v r : Value) (f : FuncId) (hv : a.eval x = v) (hd : Disp P v name f r) (vs : List Value) (hvs : xs.map a.eval = vs)
    {R : Ending → World → Prop} (hc : Calls P f (#[r] ++ vs.toArray) w R) (hK : ∀ e w', R e w' → ∃ u, e = .returned u ∧ K (a.put o.dst u) w') : o.wp P a w K Q := by
  unfold Oper.wp
  have hr : (execOp a.eval o).run P w = .ok (.enter f (#[r] ++ vs.toArray)) w := by
    unfold execOp
    simp only [ho, resolve, Sem.run_bind, Sem.run_pure, Result.andThen_ok, hv, List.map_toArray, hvs]
    exact run_invoke hd vs.toArray w
  rw [hr, Oper.upon_enter]
  refine hc.mono fun e w' he => ?_
  obtain ⟨u, rfl, hk⟩ := hK e w' he
  exact hk
theorem wpList_disp {P : Program} {w : World} {ops : Array Oper} {rest : List Oper} {o : Oper} {a : Act} {Q : Exit → Act → World → Prop} (hg : o.guard = none) (x : Operand) (name : String) (xs : List Operand) (types : Array TypeId)
    (ho : o.op = .call { callee := .invoke x name, args := xs.toArray, argTypes := types }) (v r : Value) (f : FuncId) (hv : a.eval x = v) (hd : Disp P v name f r) (vs : List Value) (hvs : xs.map a.eval = vs)
    {R : Ending → World → Prop} (hc : Calls P f (#[r] ++ vs.toArray) w R) (hK : ∀ e w', R e w' → ∃ u, e = .returned u ∧ wpList P ops Q rest (a.put o.dst u) w') : wpList P ops Q (o :: rest) a w := by
  refine wpList_plain hg fun K' hK' => ?_
  exact wp_disp x name xs types ho v r f hv hd vs hvs hc (fun e w' he => by
    obtain ⟨u, e1, hk⟩ := hK e w' he
    exact ⟨u, e1, hK' _ _ hk⟩)
/-- The same where the walk has taken the call apart (no arguments). -/
theorem upon_disp0 {P : Program} {w : World} {o : Oper} {a : Act} {K : Act → World → Prop} {Q : Exit → Act → World → Prop} {tm : TypeId} {um r : Value} {name : String} {f : FuncId} {n : Nat} (hd : Disp P (.iface tm um) name f r) (hn : P.types.size + Made.depth = n)
    {R : Ending → World → Prop} (hc : Calls P f #[r] w R) (hK : ∀ e w', R e w' → ∃ u, e = .returned u ∧ K (a.put o.dst u) w') : o.upon P a K Q ((Sem.run P (method n tm um name) w).andThen fun a w' => Sem.run P (callFunc a.fst #[a.snd]) w') := by
  have h1 := hd #[] w
  have h2 : (callMethod (.iface tm um) name #[]).run P w = (Sem.run P (method n tm um name) w).andThen fun a w' => Sem.run P (callFunc a.fst #[a.snd]) w' := by
    unfold callMethod
    simp [← hn]
  rw [← h2, h1, Oper.upon_enter]
  refine hc.mono fun e w' he => ?_
  obtain ⟨u, rfl, hk⟩ := hK e w' he
  exact hk
end Go.Proofs.YtfghmlpjbedomaaGreat

namespace Go.Proofs.YtfghmlpjbedomaaGreat
open Go.RowKit

theorem cells3 {w : World} {g : Nat} {x y z : Value} {t : TypeId} (h : w.heap[g]? = some (.cells #[x, y, z] t (0, 0))) :
    w.cell? ⟨g, 0, none⟩ = some x ∧ w.cell? ⟨g, 1, none⟩ = some y ∧ w.cell? ⟨g, 2, none⟩ = some z ∧ w.frozen? ⟨g, 0, none⟩ = false ∧ w.frozen? ⟨g, 1, none⟩ = false ∧ w.frozen? ⟨g, 2, none⟩ = false ∧ g < w.heap.size :=
  ⟨cell_of_row w g 0 _ t _ h, cell_of_row w g 1 _ t _ h, cell_of_row w g 2 _ t _ h, frozen_of_row w g 0 _ t h, frozen_of_row w g 1 _ t h, frozen_of_row w g 2 _ t h, (Array.getElem?_eq_some_iff.1 h).1⟩
theorem cells4 {w : World} {g : Nat} {x y z u : Value} {t : TypeId} (h : w.heap[g]? = some (.cells #[x, y, z, u] t (0, 0))) :
    w.cell? ⟨g, 0, none⟩ = some x ∧ w.cell? ⟨g, 1, none⟩ = some y ∧ w.cell? ⟨g, 2, none⟩ = some z ∧ w.cell? ⟨g, 3, none⟩ = some u ∧ g < w.heap.size :=
  ⟨cell_of_row w g 0 _ t _ h, cell_of_row w g 1 _ t _ h, cell_of_row w g 2 _ t _ h, cell_of_row w g 3 _ t _ h, (Array.getElem?_eq_some_iff.1 h).1⟩
theorem new_one (w : World) (x : Value) (t : TypeId) : ∀ (j : Nat) (u : Value), [x][j]? = some u → (w.alloc (.cells #[x] t)).cell? ((⟨w.heap.size, 0, none⟩ : Addr).add j) = some u := by
  intro j u hu
  rcases j with _ | j
  · cases hu
    go_simp
  · cases hu

/-- The sum of the first k numbers. -/
def psum (xs : List Int) (k : Nat) : Int := (xs.take k).sum
theorem psum_zero (xs : List Int) : psum xs 0 = 0 := by simp [psum]
theorem psum_succ {xs : List Int} {k : Nat} {x : Int} (h : xs[k]? = some x) : psum xs (k + 1) = psum xs k + x := by
  unfold psum
  rw [List.take_add_one, h]
  simp [List.sum_append]
theorem psum_mono {xs : List Int} (hx : ∀ x ∈ xs, 0 ≤ x) {j k : Nat} (h : j ≤ k) : psum xs j ≤ psum xs k := by
  induction k with
  | zero => obtain rfl : j = 0 := by omega
            exact Int.le_refl _
  | succ k ih =>
    rcases Nat.lt_or_ge k j with h' | h'
    · obtain rfl : j = k + 1 := by omega
      exact Int.le_refl _
    · have := ih h'
      rcases hk : xs[k]? with _ | x
      · have e : psum xs (k + 1) = psum xs k := by
          unfold psum
          rw [List.take_add_one, hk]
          simp
        omega
      · rw [psum_succ hk]
        have := hx x (List.mem_of_getElem? hk)
        omega
theorem psum_nonneg {xs : List Int} (hx : ∀ x ∈ xs, 0 ≤ x) (k : Nat) : 0 ≤ psum xs k := by
  have := psum_mono hx (Nat.zero_le k)
  rwa [psum_zero] at this
theorem psum_all (xs : List Int) : psum xs xs.length = xs.sum := by unfold psum; rw [List.take_length]
def begins (xs : List Int) (k : Nat) : List Int := (List.range k).map (psum xs)
theorem begins_succ (xs : List Int) (k : Nat) : begins xs (k + 1) = begins xs k ++ [psum xs k] := by unfold begins; rw [List.range_succ, List.map_append]; rfl
theorem begins_length (xs : List Int) (k : Nat) : (begins xs k).length = k := by simp [begins]
end Go.Proofs.YtfghmlpjbedomaaGreat

namespace Go.Proofs.YtfghmlpjbedomaaGreat
open Go.RowKit

theorem info_int : (Tryz.prog.info? 3).map (fun i => (i.zero, i.size, i.bytes)) = some (some (.int .i64 0), 1, 8) := by kernel_rfl
abbrev IOwn (w : World) (B : Nat) (v : Value) (n : Nat) (xs : List Int) : Prop := w.ownsRow B 3 1 v n (xs.map (Value.int .i64))
end Go.Proofs.YtfghmlpjbedomaaGreat

namespace Go.Proofs.YtfghmlpjbedomaaGreat
open Go.RowKit

/-- The first k calls of a thread. -/
def idxF (cs : List Cl) (k : Nat) (p : Int) : List Nat := (List.range k).filter fun i => decide ((cs[i]?).map (·.thread) = some p)
theorem idxF_succ {cs : List Cl} {k : Nat} {x : Cl} (h : cs[k]? = some x) (p : Int) : idxF cs (k + 1) p = if p = x.thread then idxF cs k p ++ [k] else idxF cs k p := by
  unfold idxF
  rw [List.range_succ, List.filter_append]
  by_cases hp : p = x.thread
  · subst hp; simp [h]
  · rw [if_neg hp]
    simp [h]
    exact fun e => hp e.symm
def natI (l : List Nat) : List Int := l.map Int.ofNat
theorem idxF_all (cs : List Cl) (p : Int) : idxF cs cs.length p = remF cs (List.replicate cs.length false) p := by
  unfold idxF remF
  apply List.filter_congr
  intro i hi
  rw [List.mem_range] at hi
  simp [hi]

/-- Each thread's row, its own, and no two in one block. -/
structure Rows5 (w : World) (B : Nat) (m : Int → Option Value) (idx : Int → List Nat) : Prop where
  non : ∀ p, m p = none → idx p = []
  som : ∀ p v, m p = some v → idx p ≠ [] ∧ IOwn w B v (idx p).length (natI (idx p))
  apart : ∀ p p' v v', p ≠ p' → m p = some v → m p' = some v' → v.ownBlock ≠ v'.ownBlock

theorem rows5_new (w : World) (B : Nat) : Rows5 w B (fun _ => none) (fun _ => []) := by
  refine ⟨fun _ _ => rfl, fun p v h => ?_, fun p p' v v' _ h => ?_⟩
  · cases h
  · cases h
theorem own_some {w : World} {B : Nat} {v : Value} {n : Nat} {xs : List Value} (h : w.ownsRow B 3 1 v n xs) (hn : 0 < n) : ∃ g cap, v = .slice (some ⟨g, 0, none⟩) n cap ∧ B ≤ g ∧ g < w.heap.size := by
  rcases h.2 with ⟨_, h0⟩ | ⟨g, cap, cur, rfl, hg, hb, _⟩
  · omega
  · exact ⟨g, cap, rfl, hg, (Array.getElem?_eq_some_iff.1 hb).1⟩
/-- A thread gets one more call. -/
theorem rows5_put {w w' : World} {B : Nat} {m : Int → Option Value} {idx : Int → List Nat} {t : Int} {k : Nat} {v' : Value} (h : Rows5 w B m idx) (hg : w.grownBy w' ((m t).getD (.slice none 0 0)).ownBlock)
    (ho : IOwn w' B v' ((idx t).length + 1) (natI (idx t ++ [k]))) (hloc : v'.ownBlock = ((m t).getD (.slice none 0 0)).ownBlock ∨ v'.ownBlock = some w.heap.size) :
    Rows5 w' B (fun x => if x = t then some v' else m x) (fun x => if x = t then idx t ++ [k] else idx x) := by
  have hnew : ∀ p v, p ≠ t → m p = some v → v.ownBlock ≠ ((m t).getD (.slice none 0 0)).ownBlock ∧ v.ownBlock ≠ some w.heap.size := by
    intro p v hp hv
    obtain ⟨hne, hov⟩ := h.som p v hv
    obtain ⟨g, cap, rfl, hBg, hgl⟩ := own_some hov (List.length_pos_iff.2 hne)
    refine ⟨?_, fun e => by have := Option.some.inj (show some g = some w.heap.size from e); omega⟩
    rcases ht : m t with _ | u
    · intro e; cases e
    · exact h.apart p t _ u hp hv ht
  refine ⟨fun p hp => ?_, fun p v hp => ?_, fun p p' v u hpp hp hp' => ?_⟩
  · by_cases e : p = t
    · simp [e] at hp
    · simp only [if_neg e] at hp ⊢
      exact h.non p hp
  · by_cases e : p = t
    · simp only [if_pos e] at hp ⊢
      cases hp
      refine ⟨by simp, ?_⟩
      rw [List.length_append]
      exact ho
    · simp only [if_neg e] at hp ⊢
      obtain ⟨h1, h2⟩ := h.som p v hp
      exact ⟨h1, World.ownsRow.kept h2 hg (Or.inr (hnew p v e hp).1)⟩
  · by_cases e : p = t
    · by_cases e' : p' = t
      · exact absurd (e.trans e'.symm) hpp
      · simp only [if_pos e] at hp
        simp only [if_neg e'] at hp'
        cases hp
        have := hnew p' u e' hp'
        rcases hloc with hl | hl
        · rw [hl]; exact fun x => this.1 x.symm
        · rw [hl]; exact fun x => this.2 x.symm
    · by_cases e' : p' = t
      · simp only [if_neg e] at hp
        simp only [if_pos e'] at hp'
        cases hp'
        have := hnew p v e hp
        rcases hloc with hl | hl
        · rw [hl]; exact this.1
        · rw [hl]; exact this.2
      · simp only [if_neg e] at hp
        simp only [if_neg e'] at hp'
        exact h.apart p p' v u hpp hp hp'
theorem rows5_keep {w w' : World} {B : Nat} {m : Int → Option Value} {idx : Int → List Nat} (h : Rows5 w B m idx) (hb : ∀ g, B ≤ g → g < w.heap.size → w'.heap[g]? = w.heap[g]?) (_hs : w.heap.size ≤ w'.heap.size) : Rows5 w' B m idx := by
  refine ⟨h.non, fun p v hv => ?_, h.apart⟩
  obtain ⟨h1, h2⟩ := h.som p v hv
  refine ⟨h1, ?_⟩
  rcases h2.2 with ⟨e, h0⟩ | ⟨g, cap, cur, e, hg, hc, hr⟩
  · exact ⟨h2.1, Or.inl ⟨e, h0⟩⟩
  · exact ⟨h2.1, Or.inr ⟨g, cap, cur, e, hg, (hb g hg (Array.getElem?_eq_some_iff.1 hc).1).trans hc, hr⟩⟩
end Go.Proofs.YtfghmlpjbedomaaGreat
