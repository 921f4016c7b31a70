/- Types of things (package seq): Apply at whatever arguments; the known case. -/
import Derived.Test.YtmiimpmfkjcjlaaGreatSqv
namespace Go.Proofs.YtmiimpmfkjcjlaaGreat
open Go.RowKit

def apE (n : Int) (xs : List Int) (kind a : Int) : Int := if rightB17 n xs.length = false then 1 else if 0 ≤ kind ∧ kind < kindsI n then seqE n xs kind a else 9
def apV (n : Int) (xs : List Int) (kind a : Int) : Int := if rightB17 n xs.length = false then 0 else if 0 ≤ kind ∧ kind < kindsI n then seqV n xs kind a else 0
def apL (n : Int) (xs : List Int) (kind a : Int) : List Int := if rightB17 n xs.length = false then xs else if 0 ≤ kind ∧ kind < kindsI n then seqL n xs kind a else xs

theorem apply_own (n kind a : Int) (v : Value) (xs : List Int) (w : World) (h : SlW w v xs) (hb : xs.length ≤ 1000000) (hx : ∀ x ∈ xs, U64 x) (ha : U64 a) (E V : Int) (L : List Int) (k : Nat)
    (hE : apE n xs kind a = E) (hV : apV n xs kind a = V) (hL : apL n xs kind a = L) (hk : L.length = k) :
    Calls Tryz.prog 198 #[.int .i64 n, v, .int .i64 kind, .int .u64 a] w fun e w' =>
      ∃ A c, e = .returned (.tuple #[.slice A k c, .agg #[.int .i64 E, .int .u64 V, .slice none 0 0]]) ∧ WRow w' w.heap.size (.slice A k c) L ∧ Below w.heap.size w w' := by
  subst hE hV hL hk
  have lit : ∀ {w' : World} {B : Nat} {u : Value} {l : List Int}, WRow w' B u l → ∃ A c, u = .slice A l.length c := by
    intro w' B u l hr
    rcases hr.2 with ⟨e, h0⟩ | ⟨g, cap, cur, e, _⟩
    · exact ⟨none, 0, by rw [e, h0]⟩
    · exact ⟨_, cap, e⟩
  unfold apE apV apL
  by_cases hr : rightB17 n xs.length = false
  · simp only [if_pos hr]
    refine (apply_wrong n kind a v xs w h hb hr).mono ?_
    rintro e w' ⟨u, rfl, hs, hb'⟩
    obtain ⟨A, c, rfl⟩ := lit hs
    exact ⟨A, c, rfl, hs, hb'⟩
  · simp only [if_neg hr]
    have hr' : rightB17 n xs.length = true := by simpa using hr
    by_cases hk : 0 ≤ kind ∧ kind < kindsI n
    · simp only [if_pos hk]
      refine (apply_go n kind a v xs w h hb hr' hx ha hk.1 hk.2).mono ?_
      rintro e w' ⟨u, rfl, hs, hb'⟩
      obtain ⟨A, c, rfl⟩ := lit hs
      exact ⟨A, c, rfl, hs, hb'⟩
    · simp only [if_neg hk]
      refine (apply_kind n kind a v xs w h hb hr' hk).mono ?_
      rintro e w' ⟨u, rfl, hs, hb'⟩
      obtain ⟨A, c, rfl⟩ := lit hs
      exact ⟨A, c, rfl, hs, hb'⟩
theorem apL_len (n kind a : Int) (xs : List Int) (hb : xs.length ≤ 1000000) : (apL n xs kind a).length ≤ 1000000 := by
  unfold apL
  split
  · exact hb
  · rename_i hr
    split
    · rename_i hk
      exact seqL_len (by simpa using hr) hk.1 hk.2
    · exact hb
theorem apply_any (n kind a : Int) (v : Value) (xs : List Int) (w : World) (h : SlW w v xs) (hb : xs.length ≤ 1000000) (hx : ∀ x ∈ xs, U64 x) (ha : U64 a) (E V : Int) (L : List Int) (k : Nat)
    (hE : apE n xs kind a = E) (hV : apV n xs kind a = V) (hL : apL n xs kind a = L) (hk : L.length = k) :
    Calls Tryz.prog 198 #[.int .i64 n, v, .int .i64 kind, .int .u64 a] w fun e w' =>
      ∃ A c, e = .returned (.tuple #[.slice A k c, .agg #[.int .i64 E, .int .u64 V, .slice none 0 0]]) ∧ SlW w' (.slice A k c) L ∧ Below w.heap.size w w' := by
  refine (apply_own n kind a v xs w h hb hx ha E V L k hE hV hL hk).mono ?_
  rintro e w' ⟨A, c, rfl, hr, hb'⟩
  exact ⟨A, c, rfl, wrow_sl hr (by rw [← hL]; have := apL_len n kind a xs hb; unfold maxLen; omega), hb'⟩

theorem u64_of {x : Int} (h : (Lit.int .u64 x).wf = true) : U64 x := bounds_u64 h

theorem sl_at {w : World} {A : Option Addr} {n c : Nat} {xs : List Int} (h : SlW w (.slice A n c) xs) (k : Nat) (x : Int) (hx : xs[k]? = some x) : ∃ b o, A = some ⟨b, o, none⟩ ∧ w.cell? ⟨b, o + k, none⟩ = some (.int .u64 x) ∧ b < w.heap.size := by
  obtain ⟨A', c', e, _, _, h3⟩ := h
  obtain ⟨b, o, e', hb, hc⟩ := h3 k x hx
  cases e
  have := nt_cell hc
  simp only [Nat.mul_one] at this
  exact ⟨b, o, e', this, hb⟩

end Go.Proofs.YtmiimpmfkjcjlaaGreat
