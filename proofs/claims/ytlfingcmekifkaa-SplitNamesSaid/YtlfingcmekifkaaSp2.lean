/- Threads that take names (package split): last, move; a step. -/
import Derived.Test.YtlfingcmekifkaaBun8
namespace Go.Proofs.Ytlfingcmekifkaa
open Go.RowKit

def tkA (pe t pc : Nat) (nm : Int) : Array Value := #[.pointer (some ⟨pe, 0, none⟩), .int .i64 t, .int .i64 pc, .int .i64 nm]
set_option maxRecDepth 100000 in
theorem spLastW {pe b t pc : Nat} {nm : Int} (w : World) (hb : w.heap[b]? = some (.cells (tkA pe t pc nm) 178 (0, 0))) (e0 : w.cell? ⟨pe, 0, none⟩ = some (.int .i64 0)) (h0 : 0 ≤ nm ∧ nm ≤ 2000003000000) :
    Calls Try.prog 107 #[.pointer (some ⟨b, 0, none⟩)] w fun e w' => e = .returned (.int .i64 (2 * nm)) ∧ w' = w.drew := by
  obtain ⟨c0, c1, c2, c3, hz⟩ := cells4 hb
  have hw1 : IntKind.i64.wrap (2 * nm) = 2 * nm := wrap_i64 (by omega) (by omega)
  clear hb
  go_enter Try.func107, Try.ntmps107
  go_wp2
  refine wp_region_seq (fun Y => Y.cell? ⟨b, 0, none⟩ = some (.pointer (some ⟨pe, 0, none⟩)) ∧ Y.cell? ⟨b, 3, none⟩ = some (.int .i64 nm) ∧ Y.cell? ⟨pe, 0, none⟩ = some (.int .i64 0)) (.take 0 <| .take 1 <| .take 2 <| .take 3 <| .take 4 <| .take 5 <| .take 6 <| .take 7 <| .take 8 <| .take 9 <| .take 10 <| .take 11 <| .take 12 <| .take 13 <| .done) (by kernel_rfl) (by kernel_rfl) (by kernel_rfl) (by refine ⟨?_, ?_, ?_⟩ <;> go_simp) ?_
  repeat (refine seq_take (v := ?_) rfl (by rfl) ?_ ?_; rotate_left; (focus (intro wS hS; obtain ⟨s0, s1, s2⟩ := hS; go_simp; exact rfl)); simp only [Act.put, List.setIfInBounds_toArray, List.set_cons_zero, List.set_cons_succ])
  refine seq_nil ?_
  go_wp2
  go_ret
  exact ⟨rfl, rfl⟩
set_option maxRecDepth 100000 in
theorem spMoveW {pe b t pc : Nat} (r c dr dc : Nat) (w : World) (hb : w.heap[b]? = some (.cells (tkA pe t pc (nameN r c)) 178 (0, 0))) (h0 : r + c ≤ 1900000) (hd : dr ≤ 1 ∧ dc ≤ 1) :
    Calls Try.prog 109 #[.pointer (some ⟨b, 0, none⟩), .int .i64 dr, .int .i64 dc] w fun e w' => e = .returned (.tuple #[]) ∧ w'.heap[b]? = some (.cells (tkA pe t 0 (nameN (r + dr) (c + dc))) 178 (0, 0)) ∧ Keep (fun k => k < w.heap.size ∧ k ≠ b) w w' := by
  obtain ⟨c0, c1, c2, c3, hz⟩ := cells4 hb
  have hf2 := frozen_of_row w b 2 _ _ hb
  have hf3 := frozen_of_row w b 3 _ _ hb
  have N1 := spPlaceW r c (by omega) w
  have N2 := spNameW (r + dr) (c + dc) (by omega)
  have hw1 : IntKind.i64.wrap ((r : Int) + (dr : Int)) = ((r + dr : Nat) : Int) := by rw [wrap_i64 (by omega) (by omega)]; omega
  have hw2 : IntKind.i64.wrap ((c : Int) + (dc : Int)) = ((c + dc : Nat) : Int) := by rw [wrap_i64 (by omega) (by omega)]; omega
  have HB := hide hb
  have HN2 := hide N2
  clear hb h0 hd N2
  generalize hR : r + dr = R at *
  generalize hC : c + dc = C at *
  clear hR hC
  go_enter Try.func109, Try.ntmps109
  go_wp2_with fail
  refine N1.mono ?_
  rintro e w1 ⟨rfl, rfl⟩
  have N2 := HN2.out w1
  clear N1
  go_wp2_with fail
  refine N2.mono ?_
  rintro e w2 ⟨rfl, rfl⟩
  clear N2
  go_wp2
  go_end0
  refine ⟨rfl, ?_, ?_⟩
  · rw [cells_set (cells_set HB.out)]
    rfl
  · exact ((Keep.refl _ w2).setCell (fun hk => hk.2 rfl) _).setCell (fun hk => hk.2 rfl) _
end Go.Proofs.Ytlfingcmekifkaa
