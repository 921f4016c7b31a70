import Derived.Test.YtlfingcmekifkaaGreatBun9
import Derived.Test.YtlfingcmekifkaaGreatBun23
import Derived.WalkMore
import Derived.ScopeJumps
namespace Go.Proofs.YtlfingcmekifkaaGreat
open Go.RowKit
theorem tri_two (d : Nat) : 2 * (tri d : Int) = (d : Int) * (d + 1) := by
  induction d with
  | zero => rfl
  | succ d ih =>
    show 2 * ((tri d + (d + 1) : Nat) : Int) = _
    have h1 : ((d + 1 : Nat) : Int) = (d : Int) + 1 := by omega
    have h2 : ((tri d + (d + 1) : Nat) : Int) = (tri d : Int) + (d + 1) := by omega
    rw [h1, h2, Int.mul_add, ih]
    have : ((d : Int) + 1) * (d + 1 + 1) = (d : Int) * (d + 1) + 2 * ((d : Int) + 1) := by
      generalize (d : Int) = x
      simp only [Int.add_mul, Int.mul_add, Int.one_mul, Int.mul_one]
      omega
    omega
theorem tri_bd {d : Nat} (h : d ≤ 2000000) : (d : Int) * (d + 1) ≤ 4000002000000 := by
  have h1 : (d : Int) ≤ 2000000 := by omega
  have h2 : (d : Int) * (d + 1) ≤ 2000000 * 2000001 := Int.mul_le_mul h1 (by omega) (by omega) (by omega)
  omega
theorem tri_le {d : Nat} (h : d ≤ 2000000) : (tri d : Int) ≤ 2000001000000 := by
  have h1 := tri_bd h
  have h2 := tri_two d
  omega
theorem name_le {r c : Nat} (h : r + c ≤ 2000000) : (nameN r c : Int) ≤ 2000003000000 := by
  have := tri_le h
  unfold nameN
  omega
set_option maxRecDepth 100000 in
theorem spNameW (r c : Nat) (h : r + c ≤ 2000000) (w : World) : Calls Tryz.prog 194 #[.int .i64 r, .int .i64 c] w fun e w' => e = .returned (.int .i64 (nameN r c)) ∧ w' = w := by
  have hb := tri_bd h
  have ht := tri_two (r + c)
  have hl := name_le h
  obtain ⟨d, hd⟩ : ∃ d : Nat, r + c = d := ⟨_, rfl⟩
  have hn : (nameN r c : Int) = (tri d : Int) + r := by unfold nameN; rw [hd]; omega
  rw [hd] at hb ht h
  have hdi : (r : Int) + (c : Int) = d := by omega
  have hw1 : IntKind.i64.wrap ((r : Int) + (c : Int)) = d := by rw [hdi]; exact wrap_i64 (by omega) (by omega)
  have hw2 : IntKind.i64.wrap ((d : Int) + 1) = (d : Int) + 1 := wrap_i64 (by omega) (by omega)
  have hw3 : IntKind.i64.wrap ((d : Int) * ((d : Int) + 1)) = 2 * (tri d : Int) := by rw [← ht]; exact wrap_i64 (by omega) (by omega)
  have hw4 : IntKind.i64.wrap (tri d : Int) = tri d := wrap_i64 (by omega) (by omega)
  have hw5 : IntKind.i64.wrap ((tri d : Int) + (r : Int)) = nameN r c := by rw [hn]; exact wrap_i64 (by omega) (by omega)
  clear hb ht hl hn hd
  go_enter Tryz.func194, Tryz.ntmps194
  go_wp2
  go_ret
  exact ⟨rfl, rfl⟩
def restN (r c i : Nat) : Nat := nameN r c - tri i
theorem rest_step {r c i : Nat} (h : i < r + c) : i < restN r c i ∧ restN r c (i + 1) + (i + 1) = restN r c i := by
  have h1 : tri (i + 1) ≤ tri (r + c) := tri_mono h
  have h2 : tri (i + 1) = tri i + (i + 1) := rfl
  unfold restN nameN
  omega
theorem rest_le (r c i : Nat) : restN r c i ≤ nameN r c := Nat.sub_le _ _
theorem rest_last (r c : Nat) : restN r c (r + c) = r := by
  unfold restN nameN
  omega
set_option maxRecDepth 1000000 in
theorem spPlaceW (r c : Nat) (h : r + c ≤ 2000000) (w : World) : Calls Tryz.prog 193 #[.int .i64 (nameN r c)] w fun e w' => e = .returned (.tuple #[.int .i64 r, .int .i64 c]) ∧ w' = w := by
  have hl := name_le h
  have h0 : (r : Int) + c ≤ 2000000 := by omega
  go_enter Tryz.func193, Tryz.ntmps193
  go_wp2
  refine wp_scope_jumps 0 (fun a' w' => w' = w ∧ ∃ (i : Nat) (u5 u6 u7 u8 u9 u10 u11 u12 u13 u14 u15 u16 u17 : Value), i ≤ r + c ∧ a' = { tmps := #[.int .i64 (restN r c i), undef, .int .i64 0, .int .i64 0, .int .i64 i, u5, u6, u7, u8, u9, u10, u11, u12, u13, u14, u15, u16, u17], defers := [] }) (fun a' _ => (intOf (a'.tmps.getD 0 undef)).toNat) rfl ?_ ?_
  · go_wp2
    go_step3
    by_cases hlt : 0 < r + c
    · obtain ⟨r1, r2⟩ := rest_step hlt
      have e0 : restN r c 0 = nameN r c := rfl
      rw [e0] at r1
      have r3 : restN r c 1 + 1 = nameN r c := r2
      have hw2 : IntKind.i64.wrap ((nameN r c : Int) - 1) = (restN r c 1 : Nat) := by rw [wrap_i64 (by omega) (by omega)]; omega
      go_wp2
      go_step3
      refine ⟨rfl, rfl, 1, _, _, _, _, _, _, _, _, _, _, _, _, _, by omega, rfl⟩
    · obtain ⟨rfl, rfl⟩ : r = 0 ∧ c = 0 := by omega
      have e0 : nameN 0 0 = 0 := rfl
      rw [e0]
      go_wp2
      simp only [Exit.jump]
      go_ret2
      exact ⟨rfl, rfl⟩
  · rintro a' w' ⟨rfl, i, u5, u6, u7, u8, u9, u10, u11, u12, u13, u14, u15, u16, u17, hi, rfl⟩
    have HQ := rest_le r c i
    by_cases hlt : i < r + c
    · obtain ⟨r1, r2⟩ := rest_step hlt
      obtain ⟨q, hq⟩ : ∃ q, restN r c i = q := ⟨_, rfl⟩
      rw [hq] at r1 r2 HQ ⊢
      have r1' : (i : Int) < (q : Int) := by omega
      have hw1 : IntKind.i64.wrap ((i : Int) + 1) = (i : Int) + 1 := wrap_i64 (by omega) (by omega)
      have hw2 : IntKind.i64.wrap ((q : Int) - ((i : Int) + 1)) = (restN r c (i + 1) : Nat) := by rw [wrap_i64 (by omega) (by omega)]; omega
      clear hq
      go_wp2
      go_step3
      refine ⟨rfl, ⟨rfl, i + 1, _, _, _, _, _, _, _, _, _, _, _, _, _, by omega, rfl⟩, ?_⟩
      · simp [intOf]
        omega
    · obtain rfl : i = r + c := by omega
      have HL := rest_last r c
      rw [HL]
      have hlt2 : ¬ (r : Int) > ((r + c : Nat) : Int) := by omega
      have hcc : ((r + c : Nat) : Int) - (r : Int) = c := by omega
      have hw1 : IntKind.i64.wrap (((r + c : Nat) : Int) - (r : Int)) = c := by rw [hcc]; exact wrap_i64 (by omega) (by omega)
      have hcc2 : (r : Int) + (c : Int) - (r : Int) = c := by omega
      go_wp2
      simp only [Exit.jump]
      go_ret2
      exact ⟨rfl, rfl⟩
end Go.Proofs.YtlfingcmekifkaaGreat

namespace Go.Proofs.YtlfingcmekifkaaGreat
open Go.RowKit
def tkA (pe t pc : Nat) (nm : Int) : Array Value := #[.pointer (some ⟨pe, 0, none⟩), .int .i64 t, .int .i64 pc, .int .i64 nm]
set_option maxRecDepth 100000 in
theorem spLastW {pe b t pc : Nat} {nm : Int} (w : World) (hb : w.heap[b]? = some (.cells (tkA pe t pc nm) 255 (0, 0))) (e0 : w.cell? ⟨pe, 0, none⟩ = some (.int .i64 0)) (h0 : 0 ≤ nm ∧ nm ≤ 2000003000000) :
    Calls Tryz.prog 188 #[.pointer (some ⟨b, 0, none⟩)] w fun e w' => e = .returned (.int .i64 (2 * nm)) ∧ w' = w.drew := by
  obtain ⟨c0, c1, c2, c3, hz⟩ := cells4 hb
  have hw1 : IntKind.i64.wrap (2 * nm) = 2 * nm := wrap_i64 (by omega) (by omega)
  clear hb
  go_enter Tryz.func188, Tryz.ntmps188
  go_wp2
  refine wp_region_seq (fun Y => Y.cell? ⟨b, 0, none⟩ = some (.pointer (some ⟨pe, 0, none⟩)) ∧ Y.cell? ⟨b, 3, none⟩ = some (.int .i64 nm) ∧ Y.cell? ⟨pe, 0, none⟩ = some (.int .i64 0)) (.take 0 <| .take 1 <| .take 2 <| .take 3 <| .take 4 <| .take 5 <| .take 6 <| .take 7 <| .take 8 <| .take 9 <| .take 10 <| .take 11 <| .take 12 <| .take 13 <| .done) (by kernel_rfl) (by kernel_rfl) (by kernel_rfl) (by refine ⟨?_, ?_, ?_⟩ <;> go_simp) ?_
  repeat (refine seq_take (v := ?_) rfl (by rfl) ?_ ?_; rotate_left; (focus (intro wS hS; obtain ⟨s0, s1, s2⟩ := hS; go_simp; exact rfl)); simp only [Act.put, List.setIfInBounds_toArray, List.set_cons_zero, List.set_cons_succ])
  refine seq_nil ?_
  go_wp2
  go_ret
  exact ⟨rfl, rfl⟩
set_option maxRecDepth 100000 in
theorem spMoveW {pe b t pc : Nat} (r c dr dc : Nat) (w : World) (hb : w.heap[b]? = some (.cells (tkA pe t pc (nameN r c)) 255 (0, 0))) (h0 : r + c ≤ 1900000) (hd : dr ≤ 1 ∧ dc ≤ 1) :
    Calls Tryz.prog 190 #[.pointer (some ⟨b, 0, none⟩), .int .i64 dr, .int .i64 dc] w fun e w' => e = .returned (.tuple #[]) ∧ w'.heap[b]? = some (.cells (tkA pe t 0 (nameN (r + dr) (c + dc))) 255 (0, 0)) ∧ Keep (fun k => k < w.heap.size ∧ k ≠ b) w w' := by
  obtain ⟨c0, c1, c2, c3, hz⟩ := cells4 hb
  have hf2 := frozen_of_row w b 2 _ _ hb
  have hf3 := frozen_of_row w b 3 _ _ hb
  have N1 := spPlaceW r c (by omega) w
  have N2 := spNameW (r + dr) (c + dc) (by omega)
  have hw1 : IntKind.i64.wrap ((r : Int) + (dr : Int)) = ((r + dr : Nat) : Int) := by rw [wrap_i64 (by omega) (by omega)]; omega
  have hw2 : IntKind.i64.wrap ((c : Int) + (dc : Int)) = ((c + dc : Nat) : Int) := by rw [wrap_i64 (by omega) (by omega)]; omega
  have HB := hide hb
  have HN2 := hide N2
  clear hb h0 hd N2
  generalize hR : r + dr = R at *
  generalize hC : c + dc = C at *
  clear hR hC
  go_enter Tryz.func190, Tryz.ntmps190
  go_wp2_with fail
  refine N1.mono ?_
  rintro e w1 ⟨rfl, rfl⟩
  have N2 := HN2.out w1
  clear N1
  go_wp2_with fail
  refine N2.mono ?_
  rintro e w2 ⟨rfl, rfl⟩
  clear N2
  go_wp2
  go_end0
  refine ⟨rfl, ?_, ?_⟩
  · rw [cells_set (cells_set HB.out)]
    rfl
  · exact ((Keep.refl _ w2).setCell (fun hk => hk.2 rfl) _).setCell (fun hk => hk.2 rfl) _
end Go.Proofs.YtlfingcmekifkaaGreat
