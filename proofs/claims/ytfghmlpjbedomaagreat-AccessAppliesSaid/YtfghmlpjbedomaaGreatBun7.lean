/- Copies of rows (slices.Clone) that are not nil: words. -/
/- The shared memory (package mem): New, Words, Counts. -/
import Derived.Test.YtfghmlpjbedomaaGreatBun2
import Derived.Test.YtfghmlpjbedomaaGreatMe1
namespace Go.Proofs.YtfghmlpjbedomaaGreat
open Go.RowKit

set_option maxRecDepth 100000 in
set_option maxHeartbeats 1000000 in
theorem clone_some (a : Addr) (n cap : Nat) (xs : List Int) (w : World) (h : SlW w (.slice (some a) n cap) xs) (hb : xs.length ≤ 1000000) :
    Calls Tryz.prog 26 #[.slice (some a) n cap] w fun e w' => ∃ g c, e = .returned (.slice (some ⟨g, 0, none⟩) xs.length c) ∧ WRow w' w.heap.size (.slice (some ⟨g, 0, none⟩) xs.length c) xs ∧ Below w.heap.size w w' := by
  obtain ⟨A, cap', e, h1, h2, h3⟩ := h
  cases e
  obtain ⟨i0, hi, hz0, hz1, hz2⟩ := info_parts info_word
  have q32 : ∀ (w : World) (a : Option Addr) (n c n' c' : Nat), (binOp .eql 33 (.slice a n c) (.slice none n' c')).run Tryz.prog w = .ok (.bool a.isNone) w := fun w a n c n' c' => Lib.run_eql_slice_nil w _ _ a n c n' c' Tryz.underlying33
  have hnews : ∀ j u, (xs.map (Value.int .u64))[j]? = some u → (w.alloc (.cells #[] 37)).cell? (a.add j) = some u := by
    intro j u hu
    rw [List.getElem?_map] at hu
    rcases hx : xs[j]? with _ | x
    · rw [hx] at hu; cases hu
    · rw [hx] at hu
      obtain ⟨b, o, hA, hbw, hc⟩ := h3 j x hx
      cases hA
      cases hu
      have := nt_cell hc
      rw [Addr.add_lit]
      simp only [Nat.mul_one] at this
      exact Lib.cell?_alloc_some _ this
  clear h3
  go_enter Tryz.func26, Tryz.ntmps26
  go_wp2_with (first
    | (at_builtin; refine wpList_append_own_at _ rfl _ _ 33 rfl w.heap.size 37 i0 (.int .u64 0) 1 8 Tryz.underlying33 hi hz0 hz1 hz2 rfl (by decide) _ _ _ rfl (World.ownsRow_made w #[] 0 (Nat.le_refl _) (Nat.zero_le _) rfl) a xs.length cap (xs.map (Value.int .u64)) rfl (by simp) hnews (ints_oneCell .u64 xs) (by unfold maxLen; omega) (by omega) (by simp) ?_; intro v' w5 hown' hgrow hnil hloc)
    | go_in)
  go_ret
  have hv : ∃ g c, v' = .slice (some ⟨g, 0, none⟩) xs.length c := by
    rcases hown'.2 with ⟨e, h0⟩ | ⟨g, c, cur, e, _⟩
    · exact absurd (hnil.1 e).1 (by intro e; cases e)
    · exact ⟨g, c, by rw [e]; congr 1; omega⟩
  obtain ⟨g, c, rfl⟩ := hv
  exact ⟨g, c, rfl, by simpa using hown', ((Below.refl _ w).alloc (Nat.le_refl _) _).grown hgrow (by simp) (by intro k hk; cases hk; exact Nat.le_refl _)⟩
end Go.Proofs.YtfghmlpjbedomaaGreat

namespace Go.Proofs.YtfghmlpjbedomaaGreat
open Go.RowKit
attribute [local go_sem] run_store_fn run_store_nilfn

theorem row_get {w : World} {B g n c : Nat} {xs : List Int} (h : WRow w B (.slice (some ⟨g, 0, none⟩) n c) xs) : ∃ cur, w.heap[g]? = some (.cells cur 37 (0, 0)) ∧ (∀ (i : Nat) (x : Int), xs[i]? = some x → cur[i]? = some (.int .u64 x)) ∧ xs.length ≤ c ∧ c ≤ maxLen ∧ B ≤ g := by
  rcases h.2 with ⟨e, _⟩ | ⟨g', c', cur, e, hB, hg, hnc, hcm, _, ht⟩
  · cases e
  · cases e
    refine ⟨cur, hg, fun i x hx => ?_, hnc, hcm, hB⟩
    have h1 : (xs.map (Value.int .u64))[i]? = some (.int .u64 x) := by rw [List.getElem?_map, hx]; rfl
    rw [← ht, List.getElem?_take] at h1
    split at h1
    · simpa using h1
    · cases h1
set_option maxRecDepth 100000 in
set_option maxHeartbeats 1000000 in
theorem memNew (a : Addr) (n c : Nat) (xs : List Int) (w : World) (h : SlW w (.slice (some a) n c) xs) (hn : xs.length = n) (hl : n ≤ 65536) :
    Calls Tryz.prog 55 #[.slice (some a) n c] w fun e w' => ∃ pm px, e = .returned (.tuple #[.pointer (some ⟨pm, 0, none⟩), .int .i64 0]) ∧ MemAt w' pm px .nilFunc (Mm.new xs) ∧ w.heap.size ≤ pm ∧ w.heap.size ≤ px ∧ Below w.heap.size w w' := by
  have C := clone_some a n c xs w h (by omega)
  rw [hn] at C
  have d0 : decide (65536 < n) = false := by simpa using hl
  have HN := hide hn
  clear hn h
  go_enter Tryz.func55, Tryz.ntmps55
  go_wp2_with fail
  refine C.mono ?_
  rintro e w1 ⟨g, c', rfl, hrow, hb⟩
  obtain ⟨cur, r1, r2, r3, r4, r5⟩ := row_get hrow
  have hgz := (Array.getElem?_eq_some_iff.1 r1).1
  have HB := hide hb
  have HR1 := hide r1
  have HR2 := hide r2
  have hz := hb.size
  clear hrow hb r1 r2 C
  go_wp2
  go_ret2
  have hnl := HN.out
  refine ⟨w1.heap.size, g, rfl, ⟨⟨c', ?_, by show xs.length ≤ c'; omega, r4⟩, ⟨cur, (heap_alloc_old _ _ hgz).trans HR1.out, HR2.out⟩, by show xs.length ≤ 65536; omega⟩, hz, r5, HB.out.alloc hz _⟩
  have e : (Mm.new xs).words.length = n := hnl
  have e0 : wrap64 0 = 0 := by unfold wrap64; omega
  have q1 : wrap64 (Mm.new xs).rd = 0 := e0
  have q2 : wrap64 (Mm.new xs).wr = 0 := e0
  have q3 : wrap64 (Mm.new xs).sw = 0 := e0
  have q4 : wrap64 (Mm.new xs).ad = 0 := e0
  have q5 : wrap64 (Mm.new xs).ft = 0 := e0
  rw [e, q1, q2, q3, q4, q5]
  exact heap_alloc_new w1 (.cells #[.slice (some ⟨g, 0, none⟩) n c', .int .i64 0, .int .i64 0, .int .i64 0, .int .i64 0, .int .i64 0, .nilFunc] 186)
theorem MemAt.sl {w : World} {pm px : Nat} {hk : Value} {m : Mm} {c : Nat} (h : MemAt w pm px hk m) (hc : m.words.length ≤ c) (hcm : c ≤ maxLen) : SlW w (.slice (some ⟨px, 0, none⟩) m.words.length c) m.words := by
  obtain ⟨cur, r1, r2⟩ := h.row
  refine ⟨_, c, rfl, hc, hcm, fun k x hx => ⟨px, 0, rfl, (Array.getElem?_eq_some_iff.1 r1).1, fun j u hu => ?_⟩⟩
  rcases j with _ | j
  · simp only [ntEnc, List.getElem?_cons_zero, Option.some.injEq] at hu
    subst hu
    rw [cell_of_row w px _ cur _ (0, 0) r1]
    have := r2 k x hx
    simpa using this
  · simp [ntEnc] at hu
set_option maxRecDepth 100000 in
set_option maxHeartbeats 1000000 in
theorem memWords (pm px : Nat) (hk : Value) (m : Mm) (w : World) (h : MemAt w pm px hk m) :
    Calls Tryz.prog 73 #[.pointer (some ⟨pm, 0, none⟩)] w fun e w' => ∃ g c, e = .returned (.slice (some ⟨g, 0, none⟩) m.words.length c) ∧ WRow w' w.heap.size (.slice (some ⟨g, 0, none⟩) m.words.length c) m.words ∧ Below w.heap.size w w' := by
  obtain ⟨c, a0, a1, a2, a3, a4, a5, a6, hc, hcm⟩ := h.cells
  have C := clone_some _ _ c m.words w (h.sl hc hcm) (by have := h.len; omega)
  have hz := h.lt
  clear h
  go_enter Tryz.func73, Tryz.ntmps73
  go_wp2_with fail
  refine C.mono ?_
  rintro e w1 ⟨g, c', rfl, hrow, hb⟩
  have HB := hide hb
  have HR := hide hrow
  clear hrow hb C
  go_wp2
  go_ret
  exact ⟨g, c', rfl, HR.out, HB.out⟩
def cntV (m : Mm) : Value := .agg #[.int .i64 (wrap64 m.rd), .int .i64 (wrap64 m.wr), .int .i64 (wrap64 m.sw), .int .i64 (wrap64 m.ad), .int .i64 (wrap64 m.ft)]
set_option maxRecDepth 100000 in
set_option maxHeartbeats 1000000 in
theorem memCounts (pm px : Nat) (hk : Value) (m : Mm) (w : World) (h : MemAt w pm px hk m) :
    Calls Tryz.prog 74 #[.pointer (some ⟨pm, 0, none⟩)] w fun e w' => e = .returned (cntV m) ∧ Below w.heap.size w w' := by
  obtain ⟨c, a0, a1, a2, a3, a4, a5, a6, hc, hcm⟩ := h.cells
  have hz := h.lt
  unfold cntV
  clear h
  go_enter Tryz.func74, Tryz.ntmps74
  go_wp2
  refine bodyPost_ret (v := .agg #[.int .i64 (wrap64 m.rd), .int .i64 (wrap64 m.wr), .int .i64 (wrap64 m.sw), .int .i64 (wrap64 m.ad), .int .i64 (wrap64 m.ft)]) (by simp [results, Tryz.results74, go_sem, *]) rfl ⟨rfl, ?_⟩
  (repeat' (first | exact Below.refl _ _ | assumption | refine Below.drew ?_ | refine below_drewN ?_ _ | refine Below.alloc ?_ (by simp <;> omega) _ | refine Below.setCell ?_ (by simp <;> omega) _))
end Go.Proofs.YtfghmlpjbedomaaGreat
