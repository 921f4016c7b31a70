/- Types of things (package seq): Apply at whatever arguments; the known case. -/
import Derived.Test.YtdilnfnakhhhaaaSqv
namespace Go.Proofs.Ytdilnfnakhhhaaa
open Go.RowKit

def apE (n : Int) (xs : List Int) (kind a : Int) : Int := if rightB17 n xs.length = false then 1 else if 0 ≤ kind ∧ kind < kindsI n then seqE n xs kind a else 9
def apV (n : Int) (xs : List Int) (kind a : Int) : Int := if rightB17 n xs.length = false then 0 else if 0 ≤ kind ∧ kind < kindsI n then seqV n xs kind a else 0
def apL (n : Int) (xs : List Int) (kind a : Int) : List Int := if rightB17 n xs.length = false then xs else if 0 ≤ kind ∧ kind < kindsI n then seqL n xs kind a else xs

theorem apply_any (n kind a : Int) (v : Value) (xs : List Int) (w : World) (h : SlW w v xs) (hb : xs.length ≤ 1000000) (hx : ∀ x ∈ xs, U64 x) (ha : U64 a) (E V : Int) (L : List Int) (k : Nat)
    (hE : apE n xs kind a = E) (hV : apV n xs kind a = V) (hL : apL n xs kind a = L) (hk : L.length = k) :
    Calls Try.prog 39 #[.int .i64 n, v, .int .i64 kind, .int .u64 a] w fun e w' =>
      ∃ A c, e = .returned (.tuple #[.slice A k c, .agg #[.int .i64 E, .int .u64 V, .slice none 0 0]]) ∧ SlW w' (.slice A k c) L ∧ Below w.heap.size w w' := by
  subst hE hV hL hk
  unfold apE apV apL
  by_cases hr : rightB17 n xs.length = false
  · simp only [if_pos hr]
    refine (apply_wrong n kind a v xs w h hb hr).mono ?_
    rintro e w' ⟨u, rfl, hs, hb'⟩
    have hs' := hs
    obtain ⟨A, c, rfl, _⟩ := hs'
    exact ⟨A, c, rfl, hs, hb'⟩
  · simp only [if_neg hr]
    have hr' : rightB17 n xs.length = true := by simpa using hr
    by_cases hk : 0 ≤ kind ∧ kind < kindsI n
    · simp only [if_pos hk]
      refine (apply_go n kind a v xs w h hb hr' hx ha hk.1 hk.2).mono ?_
      rintro e w' ⟨u, rfl, hs, hb'⟩
      have hs' := hs
      obtain ⟨A, c, rfl, _⟩ := hs'
      exact ⟨A, c, rfl, hs, hb'⟩
    · simp only [if_neg hk]
      refine (apply_kind n kind a v xs w h hb hr' hk).mono ?_
      rintro e w' ⟨u, rfl, hs, hb'⟩
      have hs' := hs
      obtain ⟨A, c, rfl, _⟩ := hs'
      exact ⟨A, c, rfl, hs, hb'⟩

theorem u64_of {x : Int} (h : (Lit.int .u64 x).wf = true) : U64 x := bounds_u64 h

theorem sl_at {w : World} {A : Option Addr} {n c : Nat} {xs : List Int} (h : SlW w (.slice A n c) xs) (k : Nat) (x : Int) (hx : xs[k]? = some x) : ∃ b o, A = some ⟨b, o, none⟩ ∧ w.cell? ⟨b, o + k, none⟩ = some (.int .u64 x) ∧ b < w.heap.size := by
  obtain ⟨A', c', e, _, _, h3⟩ := h
  obtain ⟨b, o, e', hb, hc⟩ := h3 k x hx
  cases e
  have := nt_cell hc
  simp only [Nat.mul_one] at this
  exact ⟨b, o, e', this, hb⟩

set_option maxRecDepth 100000 in
set_option maxHeartbeats 4000000 in
theorem known17 (w : World) : Calls Try.prog 38 #[] w fun e w' => e = .returned (.bool true) ∧ Below w.heap.size w w' := by
  have N0 := fun W => apply_any 2 0 5 (.slice none 0 0) [] W (sl_nothing W none 0 rfl) (by decide) (by simp) (by simp [U64]) 0 0 [5] 1 (by decide) (by decide) (by decide) rfl
  have N1 := fun v W h => apply_any 2 0 6 v [5] W h (by decide) (by simp [U64]) (by simp [U64]) 0 0 [5, 6] 2 (by decide) (by decide) (by decide) rfl
  have N2 := fun v W h => apply_any 2 1 0 v [5, 6] W h (by decide) (by simp [U64]) (by simp [U64]) 0 6 [5] 1 (by decide) (by decide) (by decide) rfl
  have N3 := fun v W h => apply_any 6 1 9 v [0] W h (by decide) (by simp [U64]) (by simp [U64]) 0 1 [9] 1 (by decide) (by decide) (by decide) rfl
  have N4 := fun W => kinds_any 2 W
  have N5 := fun W => kinds_any 8 W
  have N6 := fun W => new_any 7 W
  rw [show kindsI 2 = 3 by decide] at N4
  rw [show kindsI 8 = 0 by decide] at N5
  go_enter Try.func38, Try.ntmps38
  go_wp2_with fail
  refine (N0 _).mono ?_
  rintro e w1 ⟨A1, c1, rfl, h1, hb1⟩
  go_wp2_with fail
  refine (N1 _ _ (h1.alloc _)).mono ?_
  rintro e w2 ⟨A2, c2, rfl, h2, hb2⟩
  go_wp2_with fail
  refine (N2 _ _ h2).mono ?_
  rintro e w3 ⟨A3, c3, rfl, h3, hb3⟩
  go_wp2_with fail
  refine (N3 _ _ (by simpa using sl_zero1 (w3.alloc (.cells #[.int .i64 0, .int .u64 6, .slice none 0 0] 34)) 31 _ rfl)).mono ?_
  rintro e w4 ⟨A4, c4, rfl, h4, hb4⟩
  obtain ⟨b3, o3, rfl, p3, l3⟩ := sl_at h3 0 5 rfl
  obtain ⟨b4, o4, rfl, p4, l4⟩ := sl_at h4 0 9 rfl
  simp only [Nat.add_zero] at p3 p4
  have t3 : w4.cell? ⟨b3, o3, none⟩ = some (.int .u64 5) := (hb4.cell (p := ⟨b3, o3, none⟩) (by simp; omega)).trans (Lib.cell?_alloc_some _ (Lib.cell?_alloc_some _ p3))
  have tblk : w4.heap[w3.heap.size]? = some (.cells #[.int .i64 0, .int .u64 6, .slice none 0 0] 34 (0, 0)) := (hb4.block w3.heap.size (by simp; omega)).trans ((heap_alloc_old _ _ (by rw [World.size_alloc]; omega)).trans (heap_alloc_new _ _))
  obtain ⟨t0, t1, t2, _, _, _, t5⟩ := cells3 tblk
  have m3 : b3 < w4.heap.size := by have := hb4.size; simp at this; omega
  have hB1 : Below w.heap.size w w1 := hb1
  have hB2 : Below w.heap.size w w2 := (hB1.alloc hB1.size _).trans (hb2.mono (by have := hB1.size; simp; omega))
  have hB3 : Below w.heap.size w w3 := hB2.trans (hb3.mono hB2.size)
  have hB4 : Below w.heap.size w w4 := ((hB3.alloc hB3.size _).alloc (by have := hB3.size; simp; omega) _).trans (hb4.mono (by have := hB3.size; simp; omega))
  clear hb1 hb2 hb3 hb4 hB1 hB2 hB3 h1 h2 h3 h4 tblk N0 N1 N2 N3 p3
  go_wp2_with fail
  refine (N4 _).mono ?_
  rintro e w5 ⟨rfl, hb5⟩
  have hB5 := (hB4.alloc hB4.size (.cells #[.int .i64 0, .int .u64 1, .slice none 0 0] 34)).trans (hb5.mono (by have := hB4.size; simp; omega))
  clear hb5
  go_wp2_with fail
  refine (N5 _).mono ?_
  rintro e w6 ⟨rfl, hb6⟩
  have hB6 := hB5.trans (hb6.mono hB5.size)
  clear hb6
  go_wp2_with fail
  refine (N6 _).mono ?_
  rintro e w7 ⟨v7, rfl, h7, hb7⟩
  have hB7 := hB6.trans (hb7.mono hB6.size)
  obtain ⟨A7, c7, e7, _⟩ := h7
  rw [show (newL 7).length = 8 by decide] at e7
  subst e7
  clear hb7
  go_wp2
  go_ret
  exact ⟨rfl, hB7⟩
end Go.Proofs.Ytdilnfnakhhhaaa
