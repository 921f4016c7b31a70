/- Types of things (package seq): what an operation makes of a state, of every type: plain data, and the function that a type has. -/
import Derived.Test.YtmiimpmfkjcjlaaGreatSqs
import Derived.Test.YtmiimpmfkjcjlaaGreatEnter
namespace Go.Proofs.YtmiimpmfkjcjlaaGreat
open Go.RowKit
attribute [local go_sem] run_store_fn run_store_nilfn

def hd0 (xs : List Int) : Int := xs.headD 0
def seqL (n : Int) (xs : List Int) (kind a : Int) : List Int :=
  if n = 0 then (if kind = 0 then xs else [a]) else if n = 1 then (if kind = 0 then xs else [IntKind.u64.wrap (hd0 xs + a)]) else if n = 2 then rowL (xs.length - 1) xs kind a else if n = 3 then rowL 0 xs kind a else
  if n = 4 then setL (hd0 xs) kind a else if n = 5 then (if kind = 0 then xs else [max (hd0 xs) a]) else if n = 6 then swapL (hd0 xs) kind a else tabL xs kind a
def seqE (n : Int) (xs : List Int) (kind a : Int) : Int := if n = 2 ∨ n = 3 then rowE xs kind else if n = 4 then setE a else if n = 7 then tabE kind a else 0
def seqV (n : Int) (xs : List Int) (kind a : Int) : Int :=
  if n = 0 ∨ n = 1 ∨ n = 5 then hd0 xs else if n = 2 then rowV (xs.length - 1) xs kind else if n = 3 then rowV 0 xs kind else if n = 4 then setV (hd0 xs) kind a else if n = 6 then swapV (hd0 xs) kind a else tabV xs kind a

def U64 (x : Int) : Prop := 0 ≤ x ∧ x < 18446744073709551616

def OpPost (n : Int) (xs : List Int) (kind a : Int) (W : World) (e : Ending) (w' : World) : Prop :=
  ∃ u, e = .returned (.tuple #[u, .agg #[.int .i64 (seqE n xs kind a), .int .u64 (seqV n xs kind a), .slice none 0 0]]) ∧ SlW w' u (seqL n xs kind a) ∧ Below W.heap.size W w'

def ActsAs (n : Int) (xs : List Int) (kind a : Int) (fv : Value) (w1 : World) : Prop :=
  (∃ g B, fv = .func (.func g) #[] #[.pointer (some ⟨B, 0, none⟩)] ∧ (∀ args w, (callFunc g args).run Tryz.prog w = .ok (.enter g args) w) ∧
    ∀ v W, Below w1.heap.size w1 W → SlW W v xs → Calls Tryz.prog g #[v, .int .i64 kind, .int .u64 a, .pointer (some ⟨B, 0, none⟩)] W (OpPost n xs kind a W)) ∨
  (∃ g, fv = .func (.func g) #[] #[] ∧ (∀ args w, (callFunc g args).run Tryz.prog w = .ok (.enter g args) w) ∧
    ∀ v W, Below w1.heap.size w1 W → SlW W v xs → Calls Tryz.prog g #[v, .int .i64 kind, .int .u64 a] W (OpPost n xs kind a W))


theorem bell {xs : List Int} (h : xs.length = 1) : ∃ x, xs = [x] := by
  rcases xs with _ | ⟨x, _ | ⟨y, l⟩⟩
  · cases h
  · exact ⟨x, rfl⟩
  · simp at h

theorem box_stays {w1 W : World} {B : Nat} {fv : Value} (hb : Below w1.heap.size w1 W) (hc : w1.cell? ⟨B, 0, none⟩ = some fv) (hl : B < w1.heap.size) : W.cell? ⟨B, 0, none⟩ = some fv ∧ B < W.heap.size :=
  ⟨(hb.cell (p := ⟨B, 0, none⟩) hl).trans hc, Nat.lt_of_lt_of_le hl hb.size⟩

theorem row1_any (f : Nat) (p : Nat) (v : Value) (xs : List Int) (kind a : Int) (B : Nat) (w : World) (hf : ∀ m, xs.length = m + 1 → ∀ W, Calls Tryz.prog f #[.int .i64 ((m : Int) + 1)] W fun e w' => e = .returned (.int .i64 p) ∧ w' = W)
    (hent : ∀ args w, (callFunc f args).run Tryz.prog w = .ok (.enter f args) w) (hB : w.cell? ⟨B, 0, none⟩ = some (.func (.func f) #[] #[])) (hBl : B < w.heap.size)
    (hv : SlW w v xs) (hl : xs.length ≤ 8) (hp : p ≤ xs.length - 1) (hk : kind = 0 ∨ kind = 1 ∨ kind = 2) :
    Calls Tryz.prog 192 #[v, .int .i64 kind, .int .u64 a, .pointer (some ⟨B, 0, none⟩)] w
      fun e w' => ∃ u, e = .returned (.tuple #[u, .agg #[.int .i64 (rowE xs kind), .int .u64 (rowV p xs kind), .slice none 0 0]]) ∧ SlW w' u (rowL p xs kind a) ∧ Below w.heap.size w w' := by
  rcases hk with hk | hk
  · exact row_put v xs kind a p B w hv hl hk
  · rcases Nat.eq_zero_or_pos xs.length with h | h
    · exact row_none v xs kind a p B w hv h hk
    · exact row_get f v xs kind a p B (xs.length - 1) (hf _ (by omega)) hent w hB hBl hv (by omega) (by omega) hp hk

theorem acts_any (n : Int) (xs : List Int) (kind a : Int) (fv : Value) (w1 : World) (hfn : FnOf n fv w1) (hr : rightB17 n xs.length = true) (hx : ∀ x ∈ xs, U64 x) (ha : U64 a) (hk0 : 0 ≤ kind) (hk1 : kind < kindsI n) :
    ActsAs n xs kind a fv w1 := by
  obtain ⟨f0, f1, f2, f3, f4, f5, f6, f7⟩ := hfn
  rcases cases8 n with (rfl | rfl | rfl | rfl | rfl | rfl | rfl | rfl) | hn
  · have hf := f0 rfl
    have hlen : xs.length = 1 := by simpa [rightB17] using hr
    obtain ⟨x, rfl⟩ := bell hlen
    have hU := hx x (by simp)
    obtain ⟨B, rfl, hc, hl⟩ := hf
    refine Or.inl ⟨_, B, rfl, enter_of Tryz.func190 (by kernel_rfl) (by kernel_rfl), fun v W hb hv => ?_⟩
    obtain ⟨hc', hl'⟩ := box_stays hb hc hl
    refine (one1 _ (fun _ a => a) next1 (enter_of Tryz.func134 (by kernel_rfl) (by kernel_rfl)) v x kind a B W hv hc' hl').mono ?_
    rintro e w' ⟨u, rfl, h1, h2⟩
    exact ⟨u, rfl, h1, h2⟩
  · have hf := f1 rfl
    have hlen : xs.length = 1 := by simpa [rightB17] using hr
    obtain ⟨x, rfl⟩ := bell hlen
    have hU := hx x (by simp)
    obtain ⟨B, rfl, hc, hl⟩ := hf
    refine Or.inl ⟨_, B, rfl, enter_of Tryz.func190 (by kernel_rfl) (by kernel_rfl), fun v W hb hv => ?_⟩
    obtain ⟨hc', hl'⟩ := box_stays hb hc hl
    refine (one1 _ _ next2 (enter_of Tryz.func135 (by kernel_rfl) (by kernel_rfl)) v x kind a B W hv hc' hl').mono ?_
    rintro e w' ⟨u, rfl, h1, h2⟩
    exact ⟨u, rfl, h1, h2⟩
  · have hf := f2 rfl
    have hlen : xs.length ≤ 8 := by simpa [rightB17] using hr
    have hk : kind = 0 ∨ kind = 1 ∨ kind = 2 := by have : kindsI 2 = 3 := by decide
                                                   omega
    obtain ⟨B, rfl, hc, hl⟩ := hf
    refine Or.inl ⟨_, B, rfl, enter_of Tryz.func192 (by kernel_rfl) (by kernel_rfl), fun v W hb hv => ?_⟩
    obtain ⟨hc', hl'⟩ := box_stays hb hc hl
    refine (row1_any _ (xs.length - 1) v xs kind a B W (fun m hm W => ?_) (enter_of Tryz.func137 (by kernel_rfl) (by kernel_rfl)) hc' hl' hv hlen (by omega) hk).mono ?_
    · have := next3 (m + 1) (by omega) (by omega) W
      rw [hm]
      simpa using this
    · rintro e w' ⟨u, rfl, h1, h2⟩
      exact ⟨u, rfl, h1, h2⟩
  · have hf := f3 rfl
    have hlen : xs.length ≤ 8 := by simpa [rightB17] using hr
    have hk : kind = 0 ∨ kind = 1 ∨ kind = 2 := by have : kindsI 3 = 3 := by decide
                                                   omega
    obtain ⟨B, rfl, hc, hl⟩ := hf
    refine Or.inl ⟨_, B, rfl, enter_of Tryz.func192 (by kernel_rfl) (by kernel_rfl), fun v W hb hv => ?_⟩
    obtain ⟨hc', hl'⟩ := box_stays hb hc hl
    refine (row1_any _ 0 v xs kind a B W (fun m hm W => ?_) (enter_of Tryz.func138 (by kernel_rfl) (by kernel_rfl)) hc' hl' hv hlen (by omega) hk).mono ?_
    · have := next4 (m + 1) (by omega) (by omega) W
      simpa using this
    · rintro e w' ⟨u, rfl, h1, h2⟩
      exact ⟨u, rfl, h1, h2⟩
  · have hf := f4 rfl
    have hlen : xs.length = 1 := by simpa [rightB17] using hr
    have hk : kind = 0 ∨ kind = 1 ∨ kind = 2 := by have : kindsI 4 = 3 := by decide
                                                   omega
    obtain ⟨x, rfl⟩ := bell hlen
    have hU := hx x (by simp)
    subst hf
    refine Or.inr ⟨_, rfl, enter_of Tryz.func139 (by kernel_rfl) (by kernel_rfl), fun v W hb hv => ?_⟩
    exact sets_any v x kind a W hv hU.1 hU.2 ha.1 ha.2 hk
  · have hf := f5 rfl
    have hlen : xs.length = 1 := by simpa [rightB17] using hr
    obtain ⟨x, rfl⟩ := bell hlen
    have hU := hx x (by simp)
    obtain ⟨B, rfl, hc, hl⟩ := hf
    refine Or.inl ⟨_, B, rfl, enter_of Tryz.func190 (by kernel_rfl) (by kernel_rfl), fun v W hb hv => ?_⟩
    obtain ⟨hc', hl'⟩ := box_stays hb hc hl
    refine (one1 _ _ next5 (enter_of Tryz.func140 (by kernel_rfl) (by kernel_rfl)) v x kind a B W hv hc' hl').mono ?_
    rintro e w' ⟨u, rfl, h1, h2⟩
    exact ⟨u, rfl, h1, h2⟩
  · have hf := f6 rfl
    have hlen : xs.length = 1 := by simpa [rightB17] using hr
    obtain ⟨x, rfl⟩ := bell hlen
    subst hf
    refine Or.inr ⟨_, rfl, enter_of Tryz.func141 (by kernel_rfl) (by kernel_rfl), fun v W hb hv => ?_⟩
    exact swaps_any v x kind a W hv ha.1 ha.2
  · have hf := f7 rfl
    have hlen : xs.length = 8 := by simpa [rightB17] using hr
    subst hf
    refine Or.inr ⟨_, rfl, enter_of Tryz.func142 (by kernel_rfl) (by kernel_rfl), fun v W hb hv => ?_⟩
    exact tables_any v xs kind a W hv hlen ha.1 ha.2
  · exfalso
    unfold rightB17 at hr
    rw [if_neg (by omega), if_neg (by omega), decide_eq_false (by omega : ¬ n = 7)] at hr
    simp at hr
end Go.Proofs.YtmiimpmfkjcjlaaGreat
