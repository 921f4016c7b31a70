/- Types of things (package seq): Apply. -/
import Derived.Test.YtmiimpmfkjcjlaaGreatBun8
import Derived.Deep.Onto
namespace Go.Proofs.YtmiimpmfkjcjlaaGreat
open Go.RowKit
attribute [local go_sem] run_store_fn run_store_nilfn

theorem seqL_len {n kind a : Int} {xs : List Int} (hr : rightB17 n xs.length = true) (_hk0 : 0 ≤ kind) (_hk1 : kind < kindsI n) : (seqL n xs kind a).length ≤ 1000000 := by
  have hlen : xs.length ≤ 8 := by
    unfold rightB17 at hr
    split at hr
    · simp at hr; omega
    · split at hr
      · simpa using hr
      · simp at hr; omega
  unfold seqL
  repeat' split
  all_goals first
    | omega
    | (simp; done)
    | (unfold rowL; repeat' split
       all_goals first
         | omega
         | (simp; omega)
         | (rw [List.length_eraseIdx]; split <;> omega))
    | (unfold setL; repeat' split
       all_goals simp)
    | (unfold swapL; repeat' split
       all_goals simp)
    | (unfold tabL; repeat' split
       all_goals first
         | omega
         | (rw [List.length_set]; omega))

theorem wrow_base {w : World} {B B' : Nat} {v : Value} {l : List Int} (h : WRow w B' v l) (hb : B ≤ B') : WRow w B v l := World.ownsRow.mono h hb
set_option maxRecDepth 100000 in
set_option maxHeartbeats 4000000 in
theorem apply_wrong (n kind a : Int) (v : Value) (xs : List Int) (w : World) (h : SlW w v xs) (hb : xs.length ≤ 1000000) (hr : rightB17 n xs.length = false) :
    Calls Tryz.prog 198 #[.int .i64 n, v, .int .i64 kind, .int .u64 a] w fun e w' => ∃ u, e = .returned (.tuple #[u, .agg #[.int .i64 1, .int .u64 0, .slice none 0 0]]) ∧ WRow w' w.heap.size u xs ∧ Below w.heap.size w w' := by
  have P := fun W => of_any n W
  obtain ⟨K, hK⟩ : ∃ K, kindsI n = K := ⟨_, rfl⟩
  obtain ⟨D, hD⟩ : ∃ D, wordsI n = D := ⟨_, rfl⟩
  obtain ⟨I, hI⟩ : ∃ I, decide (0 ≤ n ∧ n ≤ 7) = I := ⟨_, rfl⟩
  rw [hK, hD, hI] at P
  have R := fun W (h : SlW W v xs) => right_any v xs n W h
  rw [hr] at R
  clear hr hK hD hI
  go_enter Tryz.func198, Tryz.ntmps198
  go_wp2_with fail
  refine (P _).mono ?_
  rintro e w1 ⟨fv, rfl, hone, hfn, hb1⟩
  have hst : ∀ (w : World) (a : Addr) (m : Mode), (store a fv m).run Tryz.prog w = stored Tryz.prog w a fv m := fun w a m => run_store _ w a fv m hone
  have hz1 : w.heap.size + 1 ≤ w1.heap.size := by have := hb1.size; simpa using this
  have hB1 : Below (w.heap.size + 1) (ansWorld w) w1 := hb1.mono (by simp)
  clear hb1
  go_wp2_with fail
  refine (R _ ((h.alloc _).below (hB1.alloc hz1 _) (by simp))).mono ?_
  rintro e w2 ⟨rfl, hb2⟩
  have hB2 : Below (w.heap.size + 1) (ansWorld w) w2 := (hB1.alloc hz1 _).trans (hb2.mono (by simp; omega))
  have h2 : SlW w2 v xs := (h.alloc _).below hB2 (by simp)
  have hz2 : w.heap.size + 1 ≤ w2.heap.size := by have := hB2.size; simpa using this
  clear hb2 hB1 hst hone hfn
  go_wp2_with fail
  refine (clone_any v xs _ h2 hb).mono ?_
  rintro e w3 ⟨v', rfl, hown, hb3⟩
  have hB3 : Below (w.heap.size + 1) (ansWorld w) w3 := hB2.trans (hb3.mono hz2)
  obtain ⟨z0, z1, z2, f0, f1, f2, hz5⟩ := ans_kept hB3
  have hown1 : w3.ownsRow (w.heap.size + 1) 25 1 v' xs.length (xs.map (Value.int .u64)) := World.ownsRow.mono hown hz2
  have hBB : Below w.heap.size w w3 := ((Below.refl _ w).alloc (Nat.le_refl _) _).trans (hB3.mono (by omega))
  clear hb3 hB2 h2 hB3 hown
  go_wp2_with (go_at_call 193; refine (no_any _ _).mono ?_; rintro e w1 ⟨rfl, rfl⟩)
  refine bodyPost_ret (v := .tuple #[v', .agg #[.int .i64 1, .int .u64 0, .slice none 0 0]]) (by simp [results, Tryz.results198, go_sem, z0, z1, z2, hz5]) rfl ⟨_, rfl, wrow_base (B' := w.heap.size + 1) ?_ (by omega), ?_⟩
  · unfold WRow
    repeat' (first | with_reducible exact hown1 | with_reducible refine ownsRow_setCell_below ?_ ?_ _ | with_reducible refine World.ownsRow.alloc ?_ _ | (simp; done) | omega)
  · repeat' (first | with_reducible exact hBB | with_reducible refine Below.alloc ?_ ?_ _ | with_reducible refine Below.setCell ?_ ?_ _ | omega | (simp; done) | (simp; omega))

set_option maxRecDepth 100000 in
set_option maxHeartbeats 4000000 in
theorem apply_kind (n kind a : Int) (v : Value) (xs : List Int) (w : World) (h : SlW w v xs) (hb : xs.length ≤ 1000000) (hr : rightB17 n xs.length = true) (hk : ¬ (0 ≤ kind ∧ kind < kindsI n)) :
    Calls Tryz.prog 198 #[.int .i64 n, v, .int .i64 kind, .int .u64 a] w fun e w' => ∃ u, e = .returned (.tuple #[u, .agg #[.int .i64 9, .int .u64 0, .slice none 0 0]]) ∧ WRow w' w.heap.size u xs ∧ Below w.heap.size w w' := by
  have P := fun W => of_any n W
  obtain ⟨K, hK⟩ : ∃ K, kindsI n = K := ⟨_, rfl⟩
  obtain ⟨D, hD⟩ : ∃ D, wordsI n = D := ⟨_, rfl⟩
  obtain ⟨I, hI⟩ : ∃ I, decide (0 ≤ n ∧ n ≤ 7) = I := ⟨_, rfl⟩
  rw [hK, hD, hI] at P
  rw [hK] at hk
  have R := fun W (h : SlW W v xs) => right_any v xs n W h
  rw [hr] at R
  clear hr hK hD hI
  rcases (by omega : kind < 0 ∨ 0 ≤ kind ∧ K ≤ kind) with hk0 | ⟨hk0, hk1⟩
  all_goals
    clear hk
    go_enter Tryz.func198, Tryz.ntmps198
    go_wp2_with fail
    refine (P _).mono ?_
    rintro e w1 ⟨fv, rfl, hone, hfn, hb1⟩
    have hst : ∀ (w : World) (a : Addr) (m : Mode), (store a fv m).run Tryz.prog w = stored Tryz.prog w a fv m := fun w a m => run_store _ w a fv m hone
    have hz1 : w.heap.size + 1 ≤ w1.heap.size := by have := hb1.size; simpa using this
    have hB1 : Below (w.heap.size + 1) (ansWorld w) w1 := hb1.mono (by simp)
    clear hb1
    go_wp2_with fail
    refine (R _ ((h.alloc _).below (hB1.alloc hz1 _) (by simp))).mono ?_
    rintro e w2 ⟨rfl, hb2⟩
    have hB2 : Below (w.heap.size + 1) (ansWorld w) w2 := (hB1.alloc hz1 _).trans (hb2.mono (by simp; omega))
    have h2 : SlW w2 v xs := (h.alloc _).below hB2 (by simp)
    have hz2 : w.heap.size + 1 ≤ w2.heap.size := by have := hB2.size; simpa using this
    obtain ⟨y0, y1, y2, _, _, _, _⟩ := cells3 ((hb2.block w1.heap.size (by simp)).trans (heap_alloc_new _ _))
    clear hb2 hB1 hst hone hfn
    go_wp2_with fail
    refine (clone_any v xs _ h2 hb).mono ?_
    rintro e w3 ⟨v', rfl, hown, hb3⟩
    have hB3 : Below (w.heap.size + 1) (ansWorld w) w3 := hB2.trans (hb3.mono hz2)
    obtain ⟨z0, z1, z2, f0, f1, f2, hz5⟩ := ans_kept hB3
    have hown1 : w3.ownsRow (w.heap.size + 1) 25 1 v' xs.length (xs.map (Value.int .u64)) := World.ownsRow.mono hown hz2
    have hBB : Below w.heap.size w w3 := ((Below.refl _ w).alloc (Nat.le_refl _) _).trans (hB3.mono (by omega))
    clear hb3 hB2 h2 hB3 hown y0 y1 y2
    go_wp2_with (go_at_call 193; refine (no_any _ _).mono ?_; rintro e w1 ⟨rfl, rfl⟩)
    refine bodyPost_ret (v := .tuple #[v', .agg #[.int .i64 9, .int .u64 0, .slice none 0 0]]) (by simp [results, Tryz.results198, go_sem, z0, z1, z2, hz5]) rfl ⟨_, rfl, wrow_base (B' := w.heap.size + 1) ?_ (by omega), ?_⟩
    · unfold WRow
      repeat' (first | with_reducible exact hown1 | with_reducible refine ownsRow_setCell_below ?_ ?_ _ | with_reducible refine World.ownsRow.alloc ?_ _ | (simp; done) | omega)
    · repeat' (first | with_reducible exact hBB | with_reducible refine Below.alloc ?_ ?_ _ | with_reducible refine Below.setCell ?_ ?_ _ | omega | (simp; done) | (simp; omega))

set_option maxRecDepth 100000 in
set_option maxHeartbeats 4000000 in
theorem apply_go (n kind a : Int) (v : Value) (xs : List Int) (w : World) (h : SlW w v xs) (_hb : xs.length ≤ 1000000) (hr : rightB17 n xs.length = true) (hx : ∀ x ∈ xs, U64 x) (ha : U64 a) (hk0 : 0 ≤ kind) (hk1 : kind < kindsI n) :
    Calls Tryz.prog 198 #[.int .i64 n, v, .int .i64 kind, .int .u64 a] w fun e w' =>
      ∃ u, e = .returned (.tuple #[u, .agg #[.int .i64 (seqE n xs kind a), .int .u64 (seqV n xs kind a), .slice none 0 0]]) ∧ WRow w' w.heap.size u (seqL n xs kind a) ∧ Below w.heap.size w w' := by
  have P := fun W => of_any n W
  have R := fun W (h : SlW W v xs) => right_any v xs n W h
  rw [hr] at R
  have HA := fun fv w1 hfn => acts_any n xs kind a fv w1 hfn hr hx ha hk0 hk1
  have hl9 : (seqL n xs kind a).length ≤ 1000000 := seqL_len hr hk0 hk1
  unfold ActsAs OpPost at HA
  generalize seqE n xs kind a = E at *
  generalize seqV n xs kind a = V at *
  generalize seqL n xs kind a = L at *
  have HA' := hide HA
  obtain ⟨K, hK⟩ : ∃ K, kindsI n = K := ⟨_, rfl⟩
  obtain ⟨D, hD⟩ : ∃ D, wordsI n = D := ⟨_, rfl⟩
  obtain ⟨I, hI⟩ : ∃ I, decide (0 ≤ n ∧ n ≤ 7) = I := ⟨_, rfl⟩
  rw [hK, hD, hI] at P
  rw [hK] at hk1
  clear hr hK hD hI HA
  go_enter Tryz.func198, Tryz.ntmps198
  go_wp2_with fail
  refine (P _).mono ?_
  rintro e w1 ⟨fv, rfl, hone, hfn, hb1⟩
  have hz1 : w.heap.size + 1 ≤ w1.heap.size := by have := hb1.size; simpa using this
  have hB1 : Below (w.heap.size + 1) (ansWorld w) w1 := hb1.mono (by simp)
  rcases HA'.out fv w1 hfn with ⟨g, B, rfl, hent, hact⟩ | ⟨g, rfl, hent, hact⟩
  all_goals
    have HT := hide hact
    clear hb1 hact HA'
    go_wp2_with fail
    refine (R _ ((h.alloc _).below (hB1.alloc hz1 _) (by simp))).mono ?_
    rintro e w2 ⟨rfl, hb2⟩
    have hB2 : Below (w.heap.size + 1) (ansWorld w) w2 := (hB1.alloc hz1 _).trans (hb2.mono (by simp; omega))
    have h2 : SlW w2 v xs := (h.alloc _).below hB2 (by simp)
    have hz2 : w.heap.size + 1 ≤ w2.heap.size := by have := hB2.size; simpa using this
    have hw2 : Below w1.heap.size w1 w2 := ((Below.refl _ w1).alloc (Nat.le_refl _) _).trans (hb2.mono (by simp))
    obtain ⟨y0, y1, y2, _, _, _, _⟩ := cells3 ((hb2.block w1.heap.size (by simp)).trans (heap_alloc_new _ _))
    clear hb2 hB1 hone hfn
    go_wp2_with fail
    refine (HT.out v w2 hw2 h2).mono ?_
    rintro e w3 ⟨u, rfl, hsl3, hb3⟩
    have hB3 : Below (w.heap.size + 1) (ansWorld w) w3 := hB2.trans (hb3.mono hz2)
    have hz3 : w.heap.size + 1 ≤ w3.heap.size := by have := hB3.size; simpa using this
    clear hb3 hB2 h2 hw2 y0 y1 y2 HT hent
    go_wp2
    refine wp_region_seq (fun w' => w'.cell? ⟨w3.heap.size, 0, none⟩ = some (.int .i64 E) ∧ w'.cell? ⟨w3.heap.size, 1, none⟩ = some (.int .u64 V) ∧ w'.cell? ⟨w3.heap.size, 2, none⟩ = some (.slice none 0 0)) (.take 0 <| .take 2 <| .run 1 <| .take 3 <| .run 4 <| .done) (by kernel_rfl) (by kernel_rfl) (by kernel_rfl) (by refine ⟨?_, ?_, ?_⟩ <;> go_simp) ?_
    repeat (refine seq_take (v := ?_) rfl (by rfl) ?_ ?_; rotate_left; (focus (intro wS hS; obtain ⟨s0, s1, s2⟩ := hS; go_simp; exact rfl)); simp only [Act.put, List.setIfInBounds_toArray, List.set_cons_zero, List.set_cons_succ])
    (refine seq_run rfl (by rfl) (fun K hK => ?_); go_simp)
    refine (clone_any u L _ (show SlW (w3.alloc (.cells #[.int .i64 E, .int .u64 V, .slice none 0 0] 57)).drew u L from hsl3.alloc _) hl9).mono ?_
    rintro e w4 ⟨v', rfl, hown, hb4⟩
    have hB4 : Below (w.heap.size + 1) (ansWorld w) w4 := (Below.drew (hB3.alloc hz3 _)).trans (hb4.mono (by simp; omega))
    obtain ⟨z0, z1, z2, f0, f1, f2, hz5⟩ := ans_kept hB4
    obtain ⟨t0, t1, t2, _, _, _, ht5⟩ := cells3 ((hb4.block w3.heap.size (by simp)).trans (heap_alloc_new _ _))
    have hown1 : w4.ownsRow (w.heap.size + 1) 25 1 v' L.length (L.map (Value.int .u64)) := World.ownsRow.mono hown (by simp; omega)
    have hBB : Below w.heap.size w w4 := ((Below.refl _ w).alloc (Nat.le_refl _) _).trans (hB4.mono (by omega))
    have hne : w3.heap.size ≠ w.heap.size := by omega
    have hne' : w.heap.size ≠ w3.heap.size := by omega
    clear hb4 hB4 hB3 hown hsl3
    refine hK _ _ ⟨t0, t1, t2⟩ ?_
    clear hK K
    repeat (refine seq_take (v := ?_) rfl (by rfl) ?_ ?_; rotate_left; (focus (intro wS hS; obtain ⟨s0, s1, s2⟩ := hS; go_simp; exact rfl)); simp only [Act.put, List.setIfInBounds_toArray, List.set_cons_zero, List.set_cons_succ])
    (refine seq_run rfl (by rfl) (fun K hK => ?_); go_simp)
    refine hK _ _ (by refine ⟨?_, ?_, ?_⟩ <;> go_simp) ?_
    clear hK K
    refine seq_nil ?_
    go_wp2
    refine bodyPost_ret (v := .tuple #[v', .agg #[.int .i64 E, .int .u64 V, .slice none 0 0]]) (by simp [results, Tryz.results198, go_sem, z0, z1, z2]) rfl ⟨_, rfl, wrow_base (B' := w.heap.size + 1) ?_ (by omega), ?_⟩
    · unfold WRow
      repeat' (first | with_reducible exact hown1 | with_reducible refine ownsRow_setCell_below ?_ ?_ _ | with_reducible refine World.ownsRow.alloc ?_ _ | (simp; done) | omega)
    · repeat' (first | with_reducible exact hBB | with_reducible refine Below.alloc ?_ ?_ _ | with_reducible refine Below.setCell ?_ ?_ _ | omega | (simp; done) | (simp; omega))
end Go.Proofs.YtmiimpmfkjcjlaaGreat
