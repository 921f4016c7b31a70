import Derived.Test.YtmiimpmfkjcjlaaGreatSqr
import Derived.Test.YtmiimpmfkjcjlaaGreatBun1
import Derived.Deep.Onto
namespace Go.Proofs.YtmiimpmfkjcjlaaGreat
open Go.RowKit
attribute [local go_sem] run_store_fn run_store_nilfn
set_option maxRecDepth 100000 in
set_option maxHeartbeats 1000000 in
theorem refRow_none (B n : Nat) (v : Value) (xs : List Int) (typ kind a : Int) (p : Nat) (w : World) (hown : WOwn w B v n xs) (hn : xs.length = n) (hl : n = 0) (hk : kind = 1 ∨ kind = 2) (hBw : B ≤ w.heap.size) :
    Calls Tryz.prog 200 #[.int .i64 typ, v, .int .i64 kind, .int .u64 a] w fun e w' => ∃ u, e = .returned (.agg #[u, .int .i64 (rowE xs kind), .int .u64 (rowV p xs kind)]) ∧ SlW w' u (rowL p xs kind a) ∧ Below B w w' ∧ ∀ b, b < B → OutOf b u := by
  subst hn
  have HO : ∀ b, b < B → OutOf b v := fun b hb => outOf_own hown hb
  have hsl : SlW w v xs := wrow_sl hown (by unfold maxLen; omega)
  have hE : rowE xs kind = 7 := by unfold rowE; rw [if_neg (by omega), if_pos hl]
  have hV : rowV p xs kind = 0 := by have : xs = [] := List.eq_nil_of_length_eq_zero hl; unfold rowV; rw [if_neg (by omega), this]; rfl
  have hL : rowL p xs kind a = xs := by unfold rowL; rw [if_neg (by omega), if_pos hl]
  rw [hE, hV, hL]
  have hsl' := hsl
  obtain ⟨A, c, rfl, h1, h2, h3⟩ := hsl
  rw [hl] at hsl' HO ⊢
  have e0 : (kind == 0) = false := by simp; omega
  clear hE hV hL h3 h1 h2 hk hown
  go_enter Tryz.func200, Tryz.ntmps200
  go_wp2
  refine bodyPost_ret (v := .agg #[.slice A 0 c, .int .i64 7, .int .u64 0]) (by simp [results, Tryz.results200, go_sem]) rfl ⟨_, rfl, hsl'.below (B := w.heap.size) ?_ (Nat.le_refl _), Below.mono (B := w.heap.size) ?_ hBw, HO⟩
  · (repeat' (first | exact Below.refl _ _ | assumption | refine Below.drew ?_ | refine below_drewN ?_ _ | refine Below.alloc ?_ (by simp <;> omega) _ | refine Below.setCell ?_ (by simp <;> omega) _))
  · (repeat' (first | exact Below.refl _ _ | assumption | refine Below.drew ?_ | refine below_drewN ?_ _ | refine Below.alloc ?_ (by simp <;> omega) _ | refine Below.setCell ?_ (by simp <;> omega) _))
theorem refRow_any (B n : Nat) (v : Value) (xs : List Int) (typ kind a : Int) (p : Nat) (w : World) (hown : WOwn w B v n xs) (hn : xs.length = n) (hl : n ≤ 8) (hk : kind = 0 ∨ kind = 1 ∨ kind = 2) (ht : typ = 2 ∧ p = n - 1 ∨ typ = 3 ∧ p = 0) (hBw : B ≤ w.heap.size) :
    Calls Tryz.prog 200 #[.int .i64 typ, v, .int .i64 kind, .int .u64 a] w fun e w' => ∃ u, e = .returned (.agg #[u, .int .i64 (rowE xs kind), .int .u64 (rowV p xs kind)]) ∧ SlW w' u (rowL p xs kind a) ∧ Below B w w' ∧ ∀ b, b < B → OutOf b u := by
  rcases hk with hk | hk
  · exact refRow_put B n v xs typ kind a p w hown hn hl hk hBw
  · rcases n with _ | m
    · exact refRow_none B 0 v xs typ kind a p w hown hn rfl hk hBw
    · exact refRow_get B m v xs typ kind a p w hown hn (by omega) hk (by omega) hBw
set_option maxRecDepth 100000 in
set_option maxHeartbeats 4000000 in
theorem refSet_any (v : Value) (x kind a : Int) (w : World) (hv : SlW w v [x]) (hx0 : 0 ≤ x) (hx1 : x < 18446744073709551616) (ha0 : 0 ≤ a) (ha1 : a < 18446744073709551616) (hk : kind = 0 ∨ kind = 1 ∨ kind = 2) :
    Calls Tryz.prog 201 #[v, .int .i64 kind, .int .u64 a] w fun e w' => ∃ u, e = .returned (.agg #[u, .int .i64 (setE a), .int .u64 (setV x kind a)]) ∧ SlW w' u (setL x kind a) ∧ Below w.heap.size w w' ∧ ∀ b, b < w.heap.size → OutOf b v → OutOf b u := by
  have hv' := hv
  obtain ⟨A, c, rfl, h1, h2, h3⟩ := hv
  obtain ⟨b, o, rfl, hb, hc⟩ := h3 0 x rfl
  have c0 := nt_cell hc
  simp only [Nat.zero_mul, Nat.add_zero] at c0
  clear h3 hc
  by_cases h64 : 64 ≤ a
  · have hE : setE a = 10 := by unfold setE; rw [if_pos h64]
    have hV : setV x kind a = 0 := by unfold setV; rw [if_pos h64]
    have hL : setL x kind a = [x] := by unfold setL; rw [if_pos h64]
    rw [hE, hV, hL]
    clear hE hV hL hk
    go_enter Tryz.func201, Tryz.ntmps201
    go_wp2
    refine bodyPost_ret (v := .agg #[.slice (some ⟨b, o, none⟩) 1 c, .int .i64 10, .int .u64 0]) (by simp [results, Tryz.results201, go_sem]) rfl ⟨_, rfl, hv'.below (B := w.heap.size) ?_ (Nat.le_refl _), ?_, fun b hb ho => ho⟩
    · (repeat' (first | exact Below.refl _ _ | assumption | refine Below.drew ?_ | refine below_drewN ?_ _ | refine Below.alloc ?_ (by simp <;> omega) _ | refine Below.setCell ?_ (by simp <;> omega) _))
    · (repeat' (first | exact Below.refl _ _ | assumption | refine Below.drew ?_ | refine below_drewN ?_ _ | refine Below.alloc ?_ (by simp <;> omega) _ | refine Below.setCell ?_ (by simp <;> omega) _))
  · have hE : setE a = 0 := by unfold setE; rw [if_neg h64]
    rw [hE]
    clear hE
    obtain ⟨F, h01⟩ := set_facts hx0 hx1 ha0 (by omega)
    have hV : setV x kind a = if kind = 1 then 1 - setH x a else setH x a := by unfold setV; rw [if_neg h64]
    have hL : setL x kind a = if kind = 1 then (if setH x a = 0 then [x + setP a] else [x]) else if kind = 2 then (if setH x a = 1 then [x - setP a] else [x]) else [x] := by unfold setL; rw [if_neg h64]
    have hH : x / setP a % 2 = setH x a := rfl
    rw [hV, hL]
    clear hV hL
    generalize setH x a = h at *
    generalize setP a = p at *
    have p0 := F.pos
    have p1 := F.lt
    have hshl := F.shl
    have d0 := F.q0
    have d1 := F.q1
    have hpz : (p == 0) = false := by simp; omega
    obtain ⟨q, hq⟩ : ∃ q, x / p = q := ⟨_, rfl⟩
    rw [hq] at hH d0 d1
    rcases h01 with rfl | rfl
    · have hor1 := F.or1 rfl
      clear F
      rcases hk with rfl | rfl | rfl
      · simp only [show ¬ ((0 : Int) = 1) by decide, show ¬ ((0 : Int) = 2) by decide, if_false]
        go_enter Tryz.func201, Tryz.ntmps201
        go_wp2
        refine bodyPost_ret (v := .agg #[.slice (some ⟨b, o, none⟩) 1 c, .int .i64 0, .int .u64 0]) (by simp [results, Tryz.results201, go_sem]) rfl ⟨_, rfl, hv'.below (B := w.heap.size) ?_ (Nat.le_refl _), ?_, fun b hb ho => ho⟩
        · (repeat' (first | exact Below.refl _ _ | assumption | refine Below.drew ?_ | refine below_drewN ?_ _ | refine Below.alloc ?_ (by simp <;> omega) _ | refine Below.setCell ?_ (by simp <;> omega) _))
        · (repeat' (first | exact Below.refl _ _ | assumption | refine Below.drew ?_ | refine below_drewN ?_ _ | refine Below.alloc ?_ (by simp <;> omega) _ | refine Below.setCell ?_ (by simp <;> omega) _))
      · simp only [if_true, Int.sub_zero]
        go_enter Tryz.func201, Tryz.ntmps201
        go_wp2
        refine bodyPost_ret (v := .agg #[.slice (some ⟨w.heap.size + 1, 0, none⟩) 1 1, .int .i64 0, .int .u64 1]) (by simp [results, Tryz.results201, go_sem]) rfl ⟨_, rfl, sl_one (by go_simp; done) (by simp <;> omega), ?_, fun b hb _ => outOf_new (by omega)⟩
        (repeat' (first | exact Below.refl _ _ | assumption | refine Below.drew ?_ | refine below_drewN ?_ _ | refine Below.alloc ?_ (by simp <;> omega) _ | refine Below.setCell ?_ (by simp <;> omega) _))
      · simp only [show ¬ ((2 : Int) = 1) by decide, show ¬ ((0 : Int) = 1) by decide, if_false, if_true]
        go_enter Tryz.func201, Tryz.ntmps201
        go_wp2
        refine bodyPost_ret (v := .agg #[.slice (some ⟨b, o, none⟩) 1 c, .int .i64 0, .int .u64 0]) (by simp [results, Tryz.results201, go_sem]) rfl ⟨_, rfl, hv'.below (B := w.heap.size) ?_ (Nat.le_refl _), ?_, fun b hb ho => ho⟩
        · (repeat' (first | exact Below.refl _ _ | assumption | refine Below.drew ?_ | refine below_drewN ?_ _ | refine Below.alloc ?_ (by simp <;> omega) _ | refine Below.setCell ?_ (by simp <;> omega) _))
        · (repeat' (first | exact Below.refl _ _ | assumption | refine Below.drew ?_ | refine below_drewN ?_ _ | refine Below.alloc ?_ (by simp <;> omega) _ | refine Below.setCell ?_ (by simp <;> omega) _))
    · have hnot1 := F.not1 rfl
      clear F
      rcases hk with rfl | rfl | rfl
      · simp only [show ¬ ((0 : Int) = 1) by decide, show ¬ ((0 : Int) = 2) by decide, if_false]
        go_enter Tryz.func201, Tryz.ntmps201
        go_wp2
        refine bodyPost_ret (v := .agg #[.slice (some ⟨b, o, none⟩) 1 c, .int .i64 0, .int .u64 1]) (by simp [results, Tryz.results201, go_sem]) rfl ⟨_, rfl, hv'.below (B := w.heap.size) ?_ (Nat.le_refl _), ?_, fun b hb ho => ho⟩
        · (repeat' (first | exact Below.refl _ _ | assumption | refine Below.drew ?_ | refine below_drewN ?_ _ | refine Below.alloc ?_ (by simp <;> omega) _ | refine Below.setCell ?_ (by simp <;> omega) _))
        · (repeat' (first | exact Below.refl _ _ | assumption | refine Below.drew ?_ | refine below_drewN ?_ _ | refine Below.alloc ?_ (by simp <;> omega) _ | refine Below.setCell ?_ (by simp <;> omega) _))
      · simp only [show ¬ ((1 : Int) = 0) by decide, if_true, if_false, Int.sub_self]
        go_enter Tryz.func201, Tryz.ntmps201
        go_wp2
        refine bodyPost_ret (v := .agg #[.slice (some ⟨b, o, none⟩) 1 c, .int .i64 0, .int .u64 0]) (by simp [results, Tryz.results201, go_sem]) rfl ⟨_, rfl, hv'.below (B := w.heap.size) ?_ (Nat.le_refl _), ?_, fun b hb ho => ho⟩
        · (repeat' (first | exact Below.refl _ _ | assumption | refine Below.drew ?_ | refine below_drewN ?_ _ | refine Below.alloc ?_ (by simp <;> omega) _ | refine Below.setCell ?_ (by simp <;> omega) _))
        · (repeat' (first | exact Below.refl _ _ | assumption | refine Below.drew ?_ | refine below_drewN ?_ _ | refine Below.alloc ?_ (by simp <;> omega) _ | refine Below.setCell ?_ (by simp <;> omega) _))
      · simp only [show ¬ ((2 : Int) = 1) by decide, if_false, if_true]
        go_enter Tryz.func201, Tryz.ntmps201
        go_wp2
        refine bodyPost_ret (v := .agg #[.slice (some ⟨w.heap.size + 1, 0, none⟩) 1 1, .int .i64 0, .int .u64 1]) (by simp [results, Tryz.results201, go_sem]) rfl ⟨_, rfl, sl_one (by go_simp; done) (by simp <;> omega), ?_, fun b hb _ => outOf_new (by omega)⟩
        (repeat' (first | exact Below.refl _ _ | assumption | refine Below.drew ?_ | refine below_drewN ?_ _ | refine Below.alloc ?_ (by simp <;> omega) _ | refine Below.setCell ?_ (by simp <;> omega) _))
end Go.Proofs.YtmiimpmfkjcjlaaGreat

namespace Go.Proofs.YtmiimpmfkjcjlaaGreat
open Go.RowKit
theorem enter_of {P : Program} {g : Nat} {fn : Func} (hf : P.funcs[g]? = some fn) (hname : (fn.name == "runtime.NumGoroutine") = false) (hb : fn.body.isNone = false) (args : Array Value) (w : World) : (callFunc g args).run P w = .ok (.enter g args) w := by
  have h1 : fn.name ≠ "runtime.NumGoroutine" := by simpa using hname
  have h2 : fn.body ≠ none := by intro h; rw [h] at hb; simp at hb
  simp [callFunc, hf, h1, h2]
end Go.Proofs.YtmiimpmfkjcjlaaGreat

namespace Go.Proofs.YtmiimpmfkjcjlaaGreat
open Go.RowKit
attribute [local go_sem] run_store_fn run_store_nilfn
def hd0 (xs : List Int) : Int := xs.headD 0
def seqL (n : Int) (xs : List Int) (kind a : Int) : List Int :=
  if n = 0 then (if kind = 0 then xs else [a]) else if n = 1 then (if kind = 0 then xs else [IntKind.u64.wrap (hd0 xs + a)]) else if n = 2 then rowL (xs.length - 1) xs kind a else if n = 3 then rowL 0 xs kind a else
  if n = 4 then setL (hd0 xs) kind a else if n = 5 then (if kind = 0 then xs else [max (hd0 xs) a]) else if n = 6 then swapL (hd0 xs) kind a else tabL xs kind a
def seqE (n : Int) (xs : List Int) (kind a : Int) : Int := if n = 2 ∨ n = 3 then rowE xs kind else if n = 4 then setE a else if n = 7 then tabE kind a else 0
def seqV (n : Int) (xs : List Int) (kind a : Int) : Int :=
  if n = 0 ∨ n = 1 ∨ n = 5 then hd0 xs else if n = 2 then rowV (xs.length - 1) xs kind else if n = 3 then rowV 0 xs kind else if n = 4 then setV (hd0 xs) kind a else if n = 6 then swapV (hd0 xs) kind a else tabV xs kind a
def U64 (x : Int) : Prop := 0 ≤ x ∧ x < 18446744073709551616
def OpPost (n : Int) (xs : List Int) (kind a : Int) (W : World) (e : Ending) (w' : World) : Prop :=
  ∃ u, e = .returned (.tuple #[u, .agg #[.int .i64 (seqE n xs kind a), .int .u64 (seqV n xs kind a), .slice none 0 0]]) ∧ SlW w' u (seqL n xs kind a) ∧ Below W.heap.size W w'
def ActsAs (n : Int) (xs : List Int) (kind a : Int) (fv : Value) (w1 : World) : Prop :=
  (∃ g B, fv = .func (.func g) #[] #[.pointer (some ⟨B, 0, none⟩)] ∧ (∀ args w, (callFunc g args).run Tryz.prog w = .ok (.enter g args) w) ∧
    ∀ v W, Below w1.heap.size w1 W → SlW W v xs → Calls Tryz.prog g #[v, .int .i64 kind, .int .u64 a, .pointer (some ⟨B, 0, none⟩)] W (OpPost n xs kind a W)) ∨
  (∃ g, fv = .func (.func g) #[] #[] ∧ (∀ args w, (callFunc g args).run Tryz.prog w = .ok (.enter g args) w) ∧
    ∀ v W, Below w1.heap.size w1 W → SlW W v xs → Calls Tryz.prog g #[v, .int .i64 kind, .int .u64 a] W (OpPost n xs kind a W))
theorem bell {xs : List Int} (h : xs.length = 1) : ∃ x, xs = [x] := by
  rcases xs with _ | ⟨x, _ | ⟨y, l⟩⟩
  · cases h
  · exact ⟨x, rfl⟩
  · simp at h
theorem box_stays {w1 W : World} {B : Nat} {fv : Value} (hb : Below w1.heap.size w1 W) (hc : w1.cell? ⟨B, 0, none⟩ = some fv) (hl : B < w1.heap.size) : W.cell? ⟨B, 0, none⟩ = some fv ∧ B < W.heap.size :=
  ⟨(hb.cell (p := ⟨B, 0, none⟩) hl).trans hc, Nat.lt_of_lt_of_le hl hb.size⟩
theorem row1_any (f : Nat) (p : Nat) (v : Value) (xs : List Int) (kind a : Int) (B : Nat) (w : World) (hf : ∀ m, xs.length = m + 1 → ∀ W, Calls Tryz.prog f #[.int .i64 ((m : Int) + 1)] W fun e w' => e = .returned (.int .i64 p) ∧ w' = W)
    (hent : ∀ args w, (callFunc f args).run Tryz.prog w = .ok (.enter f args) w) (hB : w.cell? ⟨B, 0, none⟩ = some (.func (.func f) #[] #[])) (hBl : B < w.heap.size)
    (hv : SlW w v xs) (hl : xs.length ≤ 8) (hp : p ≤ xs.length - 1) (hk : kind = 0 ∨ kind = 1 ∨ kind = 2) :
    Calls Tryz.prog 192 #[v, .int .i64 kind, .int .u64 a, .pointer (some ⟨B, 0, none⟩)] w
      fun e w' => ∃ u, e = .returned (.tuple #[u, .agg #[.int .i64 (rowE xs kind), .int .u64 (rowV p xs kind), .slice none 0 0]]) ∧ SlW w' u (rowL p xs kind a) ∧ Below w.heap.size w w' := by
  rcases hk with hk | hk
  · exact row_put v xs kind a p B w hv hl hk
  · rcases Nat.eq_zero_or_pos xs.length with h | h
    · exact row_none v xs kind a p B w hv h hk
    · exact row_get f v xs kind a p B (xs.length - 1) (hf _ (by omega)) hent w hB hBl hv (by omega) (by omega) hp hk
theorem acts_any (n : Int) (xs : List Int) (kind a : Int) (fv : Value) (w1 : World) (hfn : FnOf n fv w1) (hr : rightB17 n xs.length = true) (hx : ∀ x ∈ xs, U64 x) (ha : U64 a) (hk0 : 0 ≤ kind) (hk1 : kind < kindsI n) :
    ActsAs n xs kind a fv w1 := by
  obtain ⟨f0, f1, f2, f3, f4, f5, f6, f7⟩ := hfn
  rcases cases8 n with (rfl | rfl | rfl | rfl | rfl | rfl | rfl | rfl) | hn
  · have hf := f0 rfl
    have hlen : xs.length = 1 := by simpa [rightB17] using hr
    obtain ⟨x, rfl⟩ := bell hlen
    have hU := hx x (by simp)
    obtain ⟨B, rfl, hc, hl⟩ := hf
    refine Or.inl ⟨_, B, rfl, enter_of Tryz.func190 (by kernel_rfl) (by kernel_rfl), fun v W hb hv => ?_⟩
    obtain ⟨hc', hl'⟩ := box_stays hb hc hl
    refine (one1 _ (fun _ a => a) next1 (enter_of Tryz.func134 (by kernel_rfl) (by kernel_rfl)) v x kind a B W hv hc' hl').mono ?_
    rintro e w' ⟨u, rfl, h1, h2⟩
    exact ⟨u, rfl, h1, h2⟩
  · have hf := f1 rfl
    have hlen : xs.length = 1 := by simpa [rightB17] using hr
    obtain ⟨x, rfl⟩ := bell hlen
    have hU := hx x (by simp)
    obtain ⟨B, rfl, hc, hl⟩ := hf
    refine Or.inl ⟨_, B, rfl, enter_of Tryz.func190 (by kernel_rfl) (by kernel_rfl), fun v W hb hv => ?_⟩
    obtain ⟨hc', hl'⟩ := box_stays hb hc hl
    refine (one1 _ _ next2 (enter_of Tryz.func135 (by kernel_rfl) (by kernel_rfl)) v x kind a B W hv hc' hl').mono ?_
    rintro e w' ⟨u, rfl, h1, h2⟩
    exact ⟨u, rfl, h1, h2⟩
  · have hf := f2 rfl
    have hlen : xs.length ≤ 8 := by simpa [rightB17] using hr
    have hk : kind = 0 ∨ kind = 1 ∨ kind = 2 := by have : kindsI 2 = 3 := by decide
                                                   omega
    obtain ⟨B, rfl, hc, hl⟩ := hf
    refine Or.inl ⟨_, B, rfl, enter_of Tryz.func192 (by kernel_rfl) (by kernel_rfl), fun v W hb hv => ?_⟩
    obtain ⟨hc', hl'⟩ := box_stays hb hc hl
    refine (row1_any _ (xs.length - 1) v xs kind a B W (fun m hm W => ?_) (enter_of Tryz.func137 (by kernel_rfl) (by kernel_rfl)) hc' hl' hv hlen (by omega) hk).mono ?_
    · have := next3 (m + 1) (by omega) (by omega) W
      rw [hm]
      simpa using this
    · rintro e w' ⟨u, rfl, h1, h2⟩
      exact ⟨u, rfl, h1, h2⟩
  · have hf := f3 rfl
    have hlen : xs.length ≤ 8 := by simpa [rightB17] using hr
    have hk : kind = 0 ∨ kind = 1 ∨ kind = 2 := by have : kindsI 3 = 3 := by decide
                                                   omega
    obtain ⟨B, rfl, hc, hl⟩ := hf
    refine Or.inl ⟨_, B, rfl, enter_of Tryz.func192 (by kernel_rfl) (by kernel_rfl), fun v W hb hv => ?_⟩
    obtain ⟨hc', hl'⟩ := box_stays hb hc hl
    refine (row1_any _ 0 v xs kind a B W (fun m hm W => ?_) (enter_of Tryz.func138 (by kernel_rfl) (by kernel_rfl)) hc' hl' hv hlen (by omega) hk).mono ?_
    · have := next4 (m + 1) (by omega) (by omega) W
      simpa using this
    · rintro e w' ⟨u, rfl, h1, h2⟩
      exact ⟨u, rfl, h1, h2⟩
  · have hf := f4 rfl
    have hlen : xs.length = 1 := by simpa [rightB17] using hr
    have hk : kind = 0 ∨ kind = 1 ∨ kind = 2 := by have : kindsI 4 = 3 := by decide
                                                   omega
    obtain ⟨x, rfl⟩ := bell hlen
    have hU := hx x (by simp)
    subst hf
    refine Or.inr ⟨_, rfl, enter_of Tryz.func139 (by kernel_rfl) (by kernel_rfl), fun v W hb hv => ?_⟩
    exact sets_any v x kind a W hv hU.1 hU.2 ha.1 ha.2 hk
  · have hf := f5 rfl
    have hlen : xs.length = 1 := by simpa [rightB17] using hr
    obtain ⟨x, rfl⟩ := bell hlen
    have hU := hx x (by simp)
    obtain ⟨B, rfl, hc, hl⟩ := hf
    refine Or.inl ⟨_, B, rfl, enter_of Tryz.func190 (by kernel_rfl) (by kernel_rfl), fun v W hb hv => ?_⟩
    obtain ⟨hc', hl'⟩ := box_stays hb hc hl
    refine (one1 _ _ next5 (enter_of Tryz.func140 (by kernel_rfl) (by kernel_rfl)) v x kind a B W hv hc' hl').mono ?_
    rintro e w' ⟨u, rfl, h1, h2⟩
    exact ⟨u, rfl, h1, h2⟩
  · have hf := f6 rfl
    have hlen : xs.length = 1 := by simpa [rightB17] using hr
    obtain ⟨x, rfl⟩ := bell hlen
    subst hf
    refine Or.inr ⟨_, rfl, enter_of Tryz.func141 (by kernel_rfl) (by kernel_rfl), fun v W hb hv => ?_⟩
    exact swaps_any v x kind a W hv ha.1 ha.2
  · have hf := f7 rfl
    have hlen : xs.length = 8 := by simpa [rightB17] using hr
    subst hf
    refine Or.inr ⟨_, rfl, enter_of Tryz.func142 (by kernel_rfl) (by kernel_rfl), fun v W hb hv => ?_⟩
    exact tables_any v xs kind a W hv hlen ha.1 ha.2
  · exfalso
    unfold rightB17 at hr
    rw [if_neg (by omega), if_neg (by omega), decide_eq_false (by omega : ¬ n = 7)] at hr
    simp at hr
end Go.Proofs.YtmiimpmfkjcjlaaGreat

namespace Go.Proofs.YtmiimpmfkjcjlaaGreat
open Go.RowKit
attribute [local go_sem] run_store_fn run_store_nilfn
theorem seqL_len {n kind a : Int} {xs : List Int} (hr : rightB17 n xs.length = true) (_hk0 : 0 ≤ kind) (_hk1 : kind < kindsI n) : (seqL n xs kind a).length ≤ 1000000 := by
  have hlen : xs.length ≤ 8 := by
    unfold rightB17 at hr
    split at hr
    · simp at hr; omega
    · split at hr
      · simpa using hr
      · simp at hr; omega
  unfold seqL
  repeat' split
  all_goals first
    | omega
    | (simp; done)
    | (unfold rowL; repeat' split
       all_goals first
         | omega
         | (simp; omega)
         | (rw [List.length_eraseIdx]; split <;> omega))
    | (unfold setL; repeat' split
       all_goals simp)
    | (unfold swapL; repeat' split
       all_goals simp)
    | (unfold tabL; repeat' split
       all_goals first
         | omega
         | (rw [List.length_set]; omega))
theorem wrow_base {w : World} {B B' : Nat} {v : Value} {l : List Int} (h : WRow w B' v l) (hb : B ≤ B') : WRow w B v l := World.ownsRow.mono h hb
set_option maxRecDepth 100000 in
set_option maxHeartbeats 4000000 in
theorem apply_wrong (n kind a : Int) (v : Value) (xs : List Int) (w : World) (h : SlW w v xs) (hb : xs.length ≤ 1000000) (hr : rightB17 n xs.length = false) :
    Calls Tryz.prog 198 #[.int .i64 n, v, .int .i64 kind, .int .u64 a] w fun e w' => ∃ u, e = .returned (.tuple #[u, .agg #[.int .i64 1, .int .u64 0, .slice none 0 0]]) ∧ WRow w' w.heap.size u xs ∧ Below w.heap.size w w' := by
  have P := fun W => of_any n W
  obtain ⟨K, hK⟩ : ∃ K, kindsI n = K := ⟨_, rfl⟩
  obtain ⟨D, hD⟩ : ∃ D, wordsI n = D := ⟨_, rfl⟩
  obtain ⟨I, hI⟩ : ∃ I, decide (0 ≤ n ∧ n ≤ 7) = I := ⟨_, rfl⟩
  rw [hK, hD, hI] at P
  have R := fun W (h : SlW W v xs) => right_any v xs n W h
  rw [hr] at R
  clear hr hK hD hI
  go_enter Tryz.func198, Tryz.ntmps198
  go_wp2_with fail
  refine (P _).mono ?_
  rintro e w1 ⟨fv, rfl, hone, hfn, hb1⟩
  have hst : ∀ (w : World) (a : Addr) (m : Mode), (store a fv m).run Tryz.prog w = stored Tryz.prog w a fv m := fun w a m => run_store _ w a fv m hone
  have hz1 : w.heap.size + 1 ≤ w1.heap.size := by have := hb1.size; simpa using this
  have hB1 : Below (w.heap.size + 1) (ansWorld w) w1 := hb1.mono (by simp)
  clear hb1
  go_wp2_with fail
  refine (R _ ((h.alloc _).below (hB1.alloc hz1 _) (by simp))).mono ?_
  rintro e w2 ⟨rfl, hb2⟩
  have hB2 : Below (w.heap.size + 1) (ansWorld w) w2 := (hB1.alloc hz1 _).trans (hb2.mono (by simp; omega))
  have h2 : SlW w2 v xs := (h.alloc _).below hB2 (by simp)
  have hz2 : w.heap.size + 1 ≤ w2.heap.size := by have := hB2.size; simpa using this
  clear hb2 hB1 hst hone hfn
  go_wp2_with fail
  refine (clone_any v xs _ h2 hb).mono ?_
  rintro e w3 ⟨v', rfl, hown, hb3⟩
  have hB3 : Below (w.heap.size + 1) (ansWorld w) w3 := hB2.trans (hb3.mono hz2)
  obtain ⟨z0, z1, z2, f0, f1, f2, hz5⟩ := ans_kept hB3
  have hown1 : w3.ownsRow (w.heap.size + 1) 25 1 v' xs.length (xs.map (Value.int .u64)) := World.ownsRow.mono hown hz2
  have hBB : Below w.heap.size w w3 := ((Below.refl _ w).alloc (Nat.le_refl _) _).trans (hB3.mono (by omega))
  clear hb3 hB2 h2 hB3 hown
  go_wp2_with (go_at_call 193; refine (no_any _ _).mono ?_; rintro e w1 ⟨rfl, rfl⟩)
  refine bodyPost_ret (v := .tuple #[v', .agg #[.int .i64 1, .int .u64 0, .slice none 0 0]]) (by simp [results, Tryz.results198, go_sem, z0, z1, z2, hz5]) rfl ⟨_, rfl, wrow_base (B' := w.heap.size + 1) ?_ (by omega), ?_⟩
  · unfold WRow
    repeat' (first | with_reducible exact hown1 | with_reducible refine ownsRow_setCell_below ?_ ?_ _ | with_reducible refine World.ownsRow.alloc ?_ _ | (simp; done) | omega)
  · repeat' (first | with_reducible exact hBB | with_reducible refine Below.alloc ?_ ?_ _ | with_reducible refine Below.setCell ?_ ?_ _ | omega | (simp; done) | (simp; omega))
set_option maxRecDepth 100000 in
set_option maxHeartbeats 4000000 in
theorem apply_kind (n kind a : Int) (v : Value) (xs : List Int) (w : World) (h : SlW w v xs) (hb : xs.length ≤ 1000000) (hr : rightB17 n xs.length = true) (hk : ¬ (0 ≤ kind ∧ kind < kindsI n)) :
    Calls Tryz.prog 198 #[.int .i64 n, v, .int .i64 kind, .int .u64 a] w fun e w' => ∃ u, e = .returned (.tuple #[u, .agg #[.int .i64 9, .int .u64 0, .slice none 0 0]]) ∧ WRow w' w.heap.size u xs ∧ Below w.heap.size w w' := by
  have P := fun W => of_any n W
  obtain ⟨K, hK⟩ : ∃ K, kindsI n = K := ⟨_, rfl⟩
  obtain ⟨D, hD⟩ : ∃ D, wordsI n = D := ⟨_, rfl⟩
  obtain ⟨I, hI⟩ : ∃ I, decide (0 ≤ n ∧ n ≤ 7) = I := ⟨_, rfl⟩
  rw [hK, hD, hI] at P
  rw [hK] at hk
  have R := fun W (h : SlW W v xs) => right_any v xs n W h
  rw [hr] at R
  clear hr hK hD hI
  rcases (by omega : kind < 0 ∨ 0 ≤ kind ∧ K ≤ kind) with hk0 | ⟨hk0, hk1⟩
  all_goals
    clear hk
    go_enter Tryz.func198, Tryz.ntmps198
    go_wp2_with fail
    refine (P _).mono ?_
    rintro e w1 ⟨fv, rfl, hone, hfn, hb1⟩
    have hst : ∀ (w : World) (a : Addr) (m : Mode), (store a fv m).run Tryz.prog w = stored Tryz.prog w a fv m := fun w a m => run_store _ w a fv m hone
    have hz1 : w.heap.size + 1 ≤ w1.heap.size := by have := hb1.size; simpa using this
    have hB1 : Below (w.heap.size + 1) (ansWorld w) w1 := hb1.mono (by simp)
    clear hb1
    go_wp2_with fail
    refine (R _ ((h.alloc _).below (hB1.alloc hz1 _) (by simp))).mono ?_
    rintro e w2 ⟨rfl, hb2⟩
    have hB2 : Below (w.heap.size + 1) (ansWorld w) w2 := (hB1.alloc hz1 _).trans (hb2.mono (by simp; omega))
    have h2 : SlW w2 v xs := (h.alloc _).below hB2 (by simp)
    have hz2 : w.heap.size + 1 ≤ w2.heap.size := by have := hB2.size; simpa using this
    obtain ⟨y0, y1, y2, _, _, _, _⟩ := cells3 ((hb2.block w1.heap.size (by simp)).trans (heap_alloc_new _ _))
    clear hb2 hB1 hst hone hfn
    go_wp2_with fail
    refine (clone_any v xs _ h2 hb).mono ?_
    rintro e w3 ⟨v', rfl, hown, hb3⟩
    have hB3 : Below (w.heap.size + 1) (ansWorld w) w3 := hB2.trans (hb3.mono hz2)
    obtain ⟨z0, z1, z2, f0, f1, f2, hz5⟩ := ans_kept hB3
    have hown1 : w3.ownsRow (w.heap.size + 1) 25 1 v' xs.length (xs.map (Value.int .u64)) := World.ownsRow.mono hown hz2
    have hBB : Below w.heap.size w w3 := ((Below.refl _ w).alloc (Nat.le_refl _) _).trans (hB3.mono (by omega))
    clear hb3 hB2 h2 hB3 hown y0 y1 y2
    go_wp2_with (go_at_call 193; refine (no_any _ _).mono ?_; rintro e w1 ⟨rfl, rfl⟩)
    refine bodyPost_ret (v := .tuple #[v', .agg #[.int .i64 9, .int .u64 0, .slice none 0 0]]) (by simp [results, Tryz.results198, go_sem, z0, z1, z2, hz5]) rfl ⟨_, rfl, wrow_base (B' := w.heap.size + 1) ?_ (by omega), ?_⟩
    · unfold WRow
      repeat' (first | with_reducible exact hown1 | with_reducible refine ownsRow_setCell_below ?_ ?_ _ | with_reducible refine World.ownsRow.alloc ?_ _ | (simp; done) | omega)
    · repeat' (first | with_reducible exact hBB | with_reducible refine Below.alloc ?_ ?_ _ | with_reducible refine Below.setCell ?_ ?_ _ | omega | (simp; done) | (simp; omega))
set_option maxRecDepth 100000 in
set_option maxHeartbeats 4000000 in
theorem apply_go (n kind a : Int) (v : Value) (xs : List Int) (w : World) (h : SlW w v xs) (_hb : xs.length ≤ 1000000) (hr : rightB17 n xs.length = true) (hx : ∀ x ∈ xs, U64 x) (ha : U64 a) (hk0 : 0 ≤ kind) (hk1 : kind < kindsI n) :
    Calls Tryz.prog 198 #[.int .i64 n, v, .int .i64 kind, .int .u64 a] w fun e w' =>
      ∃ u, e = .returned (.tuple #[u, .agg #[.int .i64 (seqE n xs kind a), .int .u64 (seqV n xs kind a), .slice none 0 0]]) ∧ WRow w' w.heap.size u (seqL n xs kind a) ∧ Below w.heap.size w w' := by
  have P := fun W => of_any n W
  have R := fun W (h : SlW W v xs) => right_any v xs n W h
  rw [hr] at R
  have HA := fun fv w1 hfn => acts_any n xs kind a fv w1 hfn hr hx ha hk0 hk1
  have hl9 : (seqL n xs kind a).length ≤ 1000000 := seqL_len hr hk0 hk1
  unfold ActsAs OpPost at HA
  generalize seqE n xs kind a = E at *
  generalize seqV n xs kind a = V at *
  generalize seqL n xs kind a = L at *
  have HA' := hide HA
  obtain ⟨K, hK⟩ : ∃ K, kindsI n = K := ⟨_, rfl⟩
  obtain ⟨D, hD⟩ : ∃ D, wordsI n = D := ⟨_, rfl⟩
  obtain ⟨I, hI⟩ : ∃ I, decide (0 ≤ n ∧ n ≤ 7) = I := ⟨_, rfl⟩
  rw [hK, hD, hI] at P
  rw [hK] at hk1
  clear hr hK hD hI HA
  go_enter Tryz.func198, Tryz.ntmps198
  go_wp2_with fail
  refine (P _).mono ?_
  rintro e w1 ⟨fv, rfl, hone, hfn, hb1⟩
  have hz1 : w.heap.size + 1 ≤ w1.heap.size := by have := hb1.size; simpa using this
  have hB1 : Below (w.heap.size + 1) (ansWorld w) w1 := hb1.mono (by simp)
  rcases HA'.out fv w1 hfn with ⟨g, B, rfl, hent, hact⟩ | ⟨g, rfl, hent, hact⟩
  all_goals
    have HT := hide hact
    clear hb1 hact HA'
    go_wp2_with fail
    refine (R _ ((h.alloc _).below (hB1.alloc hz1 _) (by simp))).mono ?_
    rintro e w2 ⟨rfl, hb2⟩
    have hB2 : Below (w.heap.size + 1) (ansWorld w) w2 := (hB1.alloc hz1 _).trans (hb2.mono (by simp; omega))
    have h2 : SlW w2 v xs := (h.alloc _).below hB2 (by simp)
    have hz2 : w.heap.size + 1 ≤ w2.heap.size := by have := hB2.size; simpa using this
    have hw2 : Below w1.heap.size w1 w2 := ((Below.refl _ w1).alloc (Nat.le_refl _) _).trans (hb2.mono (by simp))
    obtain ⟨y0, y1, y2, _, _, _, _⟩ := cells3 ((hb2.block w1.heap.size (by simp)).trans (heap_alloc_new _ _))
    clear hb2 hB1 hone hfn
    go_wp2_with fail
    refine (HT.out v w2 hw2 h2).mono ?_
    rintro e w3 ⟨u, rfl, hsl3, hb3⟩
    have hB3 : Below (w.heap.size + 1) (ansWorld w) w3 := hB2.trans (hb3.mono hz2)
    have hz3 : w.heap.size + 1 ≤ w3.heap.size := by have := hB3.size; simpa using this
    clear hb3 hB2 h2 hw2 y0 y1 y2 HT hent
    go_wp2
    refine wp_region_seq (fun w' => w'.cell? ⟨w3.heap.size, 0, none⟩ = some (.int .i64 E) ∧ w'.cell? ⟨w3.heap.size, 1, none⟩ = some (.int .u64 V) ∧ w'.cell? ⟨w3.heap.size, 2, none⟩ = some (.slice none 0 0)) (.take 0 <| .take 2 <| .run 1 <| .take 3 <| .run 4 <| .done) (by kernel_rfl) (by kernel_rfl) (by kernel_rfl) (by refine ⟨?_, ?_, ?_⟩ <;> go_simp) ?_
    repeat (refine seq_take (v := ?_) rfl (by rfl) ?_ ?_; rotate_left; (focus (intro wS hS; obtain ⟨s0, s1, s2⟩ := hS; go_simp; exact rfl)); simp only [Act.put, sqA, sqB, sqC])
    (refine seq_run rfl (by rfl) (fun K hK => ?_); go_simp)
    refine (clone_any u L _ (show SlW (w3.alloc (.cells #[.int .i64 E, .int .u64 V, .slice none 0 0] 57)).drew u L from hsl3.alloc _) hl9).mono ?_
    rintro e w4 ⟨v', rfl, hown, hb4⟩
    have hB4 : Below (w.heap.size + 1) (ansWorld w) w4 := (Below.drew (hB3.alloc hz3 _)).trans (hb4.mono (by simp; omega))
    obtain ⟨z0, z1, z2, f0, f1, f2, hz5⟩ := ans_kept hB4
    obtain ⟨t0, t1, t2, _, _, _, ht5⟩ := cells3 ((hb4.block w3.heap.size (by simp)).trans (heap_alloc_new _ _))
    have hown1 : w4.ownsRow (w.heap.size + 1) 25 1 v' L.length (L.map (Value.int .u64)) := World.ownsRow.mono hown (by simp; omega)
    have hBB : Below w.heap.size w w4 := ((Below.refl _ w).alloc (Nat.le_refl _) _).trans (hB4.mono (by omega))
    have hne : w3.heap.size ≠ w.heap.size := by omega
    have hne' : w.heap.size ≠ w3.heap.size := by omega
    clear hb4 hB4 hB3 hown hsl3
    refine hK _ _ ⟨t0, t1, t2⟩ ?_
    clear hK K
    repeat (refine seq_take (v := ?_) rfl (by rfl) ?_ ?_; rotate_left; (focus (intro wS hS; obtain ⟨s0, s1, s2⟩ := hS; go_simp; exact rfl)); simp only [Act.put, sqA, sqB, sqC])
    (refine seq_run rfl (by rfl) (fun K hK => ?_); go_simp)
    refine hK _ _ (by refine ⟨?_, ?_, ?_⟩ <;> go_simp) ?_
    clear hK K
    refine seq_nil ?_
    go_wp2
    refine bodyPost_ret (v := .tuple #[v', .agg #[.int .i64 E, .int .u64 V, .slice none 0 0]]) (by simp [results, Tryz.results198, go_sem, z0, z1, z2]) rfl ⟨_, rfl, wrow_base (B' := w.heap.size + 1) ?_ (by omega), ?_⟩
    · unfold WRow
      repeat' (first | with_reducible exact hown1 | with_reducible refine ownsRow_setCell_below ?_ ?_ _ | with_reducible refine World.ownsRow.alloc ?_ _ | (simp; done) | omega)
    · repeat' (first | with_reducible exact hBB | with_reducible refine Below.alloc ?_ ?_ _ | with_reducible refine Below.setCell ?_ ?_ _ | omega | (simp; done) | (simp; omega))
end Go.Proofs.YtmiimpmfkjcjlaaGreat
