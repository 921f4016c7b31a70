/- Types of things (package seq): the small functions: ok, no, slices.Clone, and what a type has. -/
import Derived.Test.YtmiimpmfkjcjlaaGreatBase
import Derived.Test.YtmiimpmfkjcjlaaGreatSeq
import Derived.Test.YtmiimpmfkjcjlaaGreatCmp
import Derived.Test.YtmiimpmfkjcjlaaGreatProg
import Derived.Maps.AppendAt
import Derived.Lib.SliceRun
namespace Go.Proofs.YtmiimpmfkjcjlaaGreat
open Go.RowKit

theorem ok_any (v : Int) (w : World) : Calls Tryz.prog 191 #[.int .u64 v] w fun e w' => e = .returned (.agg #[.int .i64 0, .int .u64 v, .slice none 0 0]) ∧ w' = w.alloc (.cells #[.int .i64 0, .int .u64 v, .slice none 0 0] 57) := by
  go_enter Tryz.func191, Tryz.ntmps191
  go_wp2
  refine bodyPost_ret (v := .agg #[.int .i64 0, .int .u64 v, .slice none 0 0]) (by simp [results, Tryz.results191, go_sem]) rfl ⟨rfl, ?_⟩
  first | rfl | simp [go_sem]
theorem no_any (v : Int) (w : World) : Calls Tryz.prog 193 #[.int .i64 v] w fun e w' => e = .returned (.agg #[.int .i64 v, .int .u64 0, .slice none 0 0]) ∧ w' = w.alloc (.cells #[.int .i64 v, .int .u64 0, .slice none 0 0] 57) := by
  go_enter Tryz.func193, Tryz.ntmps193
  go_wp2
  refine bodyPost_ret (v := .agg #[.int .i64 v, .int .u64 0, .slice none 0 0]) (by simp [results, Tryz.results193, go_sem]) rfl ⟨rfl, ?_⟩
  first | rfl | simp [go_sem]

theorem info_word : (Tryz.prog.info? 25).map (fun i => (i.zero, i.size, i.bytes)) = some (some (.int .u64 0), 1, 8) := by kernel_rfl

abbrev WRow (w : World) (B : Nat) (v : Value) (l : List Int) : Prop := w.ownsRow B 25 1 v l.length (l.map (Value.int .u64))

set_option maxRecDepth 100000 in
set_option maxHeartbeats 1000000 in
/-- A copy: the same words, in memory of the call's own. -/
theorem clone_any (v : Value) (xs : List Int) (w : World) (h : SlW w v xs) (hb : xs.length ≤ 1000000) :
    Calls Tryz.prog 76 #[v] w fun e w' => ∃ v', e = .returned v' ∧ WRow w' w.heap.size v' xs ∧ Below w.heap.size w w' := by
  obtain ⟨A, cap, rfl, h1, h2, h3⟩ := h
  obtain ⟨i0, hi, hz0, hz1, hz2⟩ := info_parts info_word
  have q32 : ∀ (w : World) (a : Option Addr) (n c n' c' : Nat), (binOp .eql 24 (.slice a n c) (.slice none n' c')).run Tryz.prog w = .ok (.bool a.isNone) w := fun w a n c n' c' => Lib.run_eql_slice_nil w _ _ a n c n' c' Tryz.underlying24
  rcases A with _ | a
  · have hx : xs = [] := by
      rcases xs with _ | ⟨x, xs⟩
      · rfl
      · obtain ⟨b, o, hA, _⟩ := h3 0 x rfl
        cases hA
    subst hx
    clear h3
    go_enter Tryz.func76, Tryz.ntmps76
    go_wp2
    go_ret
    exact ⟨_, rfl, World.ownsRow_nil _ _ _ _, by (repeat' (first | exact Below.refl _ _ | assumption | refine Below.drew ?_ | refine below_drewN ?_ _ | refine Below.alloc ?_ (by simp <;> omega) _ | refine Below.setCell ?_ (by simp <;> omega) _))⟩
  · have hnews : ∀ j u, (xs.map (Value.int .u64))[j]? = some u → (w.alloc (.cells #[] 25)).cell? (a.add j) = some u := by
      intro j u hu
      rw [List.getElem?_map] at hu
      rcases hx : xs[j]? with _ | x
      · rw [hx] at hu; cases hu
      · rw [hx] at hu
        obtain ⟨b, o, hA, hbw, hc⟩ := h3 j x hx
        cases hA
        cases hu
        have := nt_cell hc
        rw [Addr.add_lit]
        simp only [Nat.mul_one] at this
        exact Lib.cell?_alloc_some _ this
    clear h3
    go_enter Tryz.func76, Tryz.ntmps76
    go_wp2_with (first
      | (at_builtin; refine wpList_append_own_at _ rfl _ _ 24 rfl w.heap.size 25 i0 (.int .u64 0) 1 8 Tryz.underlying24 hi hz0 hz1 hz2 rfl (by decide) _ _ _ rfl (World.ownsRow_made w #[] 0 (Nat.le_refl _) (Nat.zero_le _) rfl) a xs.length cap (xs.map (Value.int .u64)) rfl (by simp) hnews (ints_oneCell .u64 xs) (by unfold maxLen; omega) (by omega) (by simp) ?_; intro v' w5 hown' hgrow hnil hloc)
      | go_in)
    go_ret
    exact ⟨_, rfl, by simpa using hown', ((Below.refl _ w).alloc (Nat.le_refl _) _).grown hgrow (by simp) (by intro k hk; cases hk; exact Nat.le_refl _)⟩

/-- A row of words that the call owns reads as a list. -/
theorem wrow_sl {w : World} {B : Nat} {v : Value} {l : List Int} (h : WRow w B v l) (hm : l.length ≤ maxLen) : SlW w v l := sl_of_owns h hm

theorem run_store_fn {P : Program} {w : World} {a : Addr} {m : Mode} (g : Fn) (p q : Array Value) : (store a (.func g p q) m).run P w = stored P w a (.func g p q) m := run_store P w a _ m rfl
theorem run_store_nilfn {P : Program} {w : World} {a : Addr} {m : Mode} : (store a .nilFunc m).run P w = stored P w a .nilFunc m := run_store P w a _ m rfl
attribute [local go_sem] run_store_fn run_store_nilfn

set_option maxRecDepth 100000 in
theorem one_any (f : Nat) (w : World) :
    Calls Tryz.prog 133 #[.func (.func f) #[] #[]] w fun e w' => e = .returned (.agg #[.int .i64 2, .int .i64 1, .func (.func 190) #[] #[.pointer (some ⟨w.heap.size, 0, none⟩)]]) ∧
      w' = (w.alloc (.cells #[.func (.func f) #[] #[]] 200)).alloc (.cells #[.int .i64 2, .int .i64 1, .func (.func 190) #[] #[.pointer (some ⟨w.heap.size, 0, none⟩)]] 136) := by
  go_enter Tryz.func133, Tryz.ntmps133
  go_wp2
  refine bodyPost_ret (v := .agg #[.int .i64 2, .int .i64 1, .func (.func 190) #[] #[.pointer (some ⟨w.heap.size, 0, none⟩)]]) (by simp [results, Tryz.results133, go_sem]) rfl ⟨rfl, ?_⟩
  first | rfl | simp [go_sem]
set_option maxRecDepth 100000 in
theorem row_any (f : Nat) (w : World) :
    Calls Tryz.prog 136 #[.func (.func f) #[] #[]] w fun e w' => e = .returned (.agg #[.int .i64 3, .int .i64 (-1), .func (.func 192) #[] #[.pointer (some ⟨w.heap.size, 0, none⟩)]]) ∧
      w' = (w.alloc (.cells #[.func (.func f) #[] #[]] 140)).alloc (.cells #[.int .i64 3, .int .i64 (-1), .func (.func 192) #[] #[.pointer (some ⟨w.heap.size, 0, none⟩)]] 136) := by
  go_enter Tryz.func136, Tryz.ntmps136
  go_wp2
  refine bodyPost_ret (v := .agg #[.int .i64 3, .int .i64 (-1), .func (.func 192) #[] #[.pointer (some ⟨w.heap.size, 0, none⟩)]]) (by simp [results, Tryz.results136, go_sem]) rfl ⟨rfl, ?_⟩
  first | rfl | simp [go_sem]
end Go.Proofs.YtmiimpmfkjcjlaaGreat
