/- A line of calls (package pick): Now, Finish. -/
import Derived.Test.YtfghmlpjbedomaaGreatCu2
namespace Go.Proofs.YtfghmlpjbedomaaGreat
open Go.RowKit

/-- What a thread's key holds, as a slice. -/
theorem line_get {w : World} {b g B T : Nat} {rem : Int → List Nat} (h : LineAt w b g B T rem) (p : Int) : ∃ m A c, IMap w g .i64 m ∧ (m p).getD (.slice none 0 0) = .slice A (rem p).length c ∧ SlI w (.slice A (rem p).length c) (natI (rem p)) ∧ (∀ a, A = some a → B ≤ a.block ∧ a.block < T) ∧ (∀ p, m p = none → rem p = []) ∧ ∀ p v, m p = some v → SlI w v (natI (rem p)) ∧ ∀ A n c a, v = .slice A n c → A = some a → B ≤ a.block ∧ a.block < T := by
  obtain ⟨m, hm, hn, hs⟩ := h.map
  rcases hp : m p with _ | v
  · rw [hn p hp]
    exact ⟨m, none, 0, hm, by rw [hp]; rfl, ⟨none, 0, rfl, Nat.le_refl _, Nat.zero_le _, fun k x hx => by simp [natI] at hx⟩, (fun a h => by cases h), hn, hs⟩
  · obtain ⟨h1, h2⟩ := hs p v hp
    have h1' := h1
    obtain ⟨A, c, rfl, _⟩ := h1'
    have hl : (natI (rem p)).length = (rem p).length := by simp [natI]
    rw [hl] at h1 h2
    refine ⟨m, A, c, hm, by rw [hp]; show Value.slice A (natI (rem p)).length c = _; rw [hl], h1, (fun a ha => h2 A _ c a rfl ha), hn, hs⟩

set_option maxRecDepth 100000 in
set_option maxHeartbeats 1000000 in
theorem lineNow (b g B T : Nat) (rem : Int → List Nat) (p : Int) (w : World) (h : LineAt w b g B T rem) :
    Calls Tryz.prog 58 #[.pointer (some ⟨b, 0, none⟩), .int .i64 p] w fun e w' => e = .returned (.tuple #[.int .i64 ((rem p).headD 0 : Nat), .bool (!(rem p).isEmpty)]) ∧ w' = w := by
  obtain ⟨m, A, c, hm, hv, hs, _⟩ := line_get h p
  obtain ⟨left, hb⟩ := h.line
  have l0 : w.cell? ⟨b, 0, none⟩ = some (.map (some g)) := cell_of_row w _ 0 _ _ _ hb
  have lz : b < w.heap.size := (Array.getElem?_eq_some_iff.1 hb).1
  have hlk := run_lookup_imap (P := Tryz.prog) Tryz.underlying130 Tryz.underlying3 (z := .slice none 0 0) (w := w) (by kernel_rfl) hm p false
  rw [hv] at hlk
  simp only [Bool.false_eq_true, if_false] at hlk
  clear hm hv hb h
  rcases hr : rem p with _ | ⟨i, rest⟩
  · rw [hr] at hlk
    simp only [List.length_nil] at hlk
    clear hs hr
    go_enter Tryz.func58, Tryz.ntmps58
    go_wp2
    go_ret2
    exact ⟨rfl, rfl⟩
  · rw [hr] at hlk hs
    simp only [List.length_cons] at hlk hs
    obtain ⟨A', c', e, h1, h2, h3⟩ := hs
    rw [show (natI (i :: rest)).length = rest.length + 1 by simp [natI]] at e h1
    cases e
    obtain ⟨bb, o, rfl, hbb, hc⟩ := h3 0 (i : Int) rfl
    have c0 := nt_cell hc
    simp only [Nat.zero_mul, Nat.add_zero] at c0
    have hne : ((rest.length : Int) + 1 == 0) = false := by simp; omega
    have q0 : (0 : Int) < (rest.length : Int) + 1 := by omega
    clear h3 hc hr h1
    go_enter Tryz.func58, Tryz.ntmps58
    go_wp2
    go_ret2
    exact ⟨rfl, rfl⟩

theorem heap_set_same (w : World) {b : Nat} {x y z : Value} {t : TypeId} (h : w.heap[b]? = some (.cells #[x, y] t (0, 0))) : (w.setCell ⟨b, 1, none⟩ z).heap[b]? = some (.cells #[x, z] t (0, 0)) := by
  simp [World.setCell, Array.getElem?_modify, h]
theorem heap_set_other (w : World) {b j : Nat} (o : Nat) (z : Value) (h : j ≠ b) : (w.setCell ⟨b, o, none⟩ z).heap[j]? = w.heap[j]? := by
  simp [World.setCell, Array.getElem?_modify, Ne.symm h]

/-- The list behind its first number. -/
theorem sl_tail {w : World} {bb o n c : Nat} {x : Int} {xs : List Int} (h : SlI w (.slice (some ⟨bb, o, none⟩) n c) (x :: xs)) (hn : n = xs.length + 1) (A : Option Addr) (hA : A = if c = 1 then some ⟨bb, o, none⟩ else some ⟨bb, o + 1, none⟩) :
    SlI w (.slice A xs.length (c - 1)) xs := by
  obtain ⟨A', c', e, h1, h2, h3⟩ := h
  cases e
  simp only [List.length_cons] at h1
  refine ⟨A, c - 1, rfl, by omega, by omega, fun k y hy => ?_⟩
  obtain ⟨b', o', e', hb, hc⟩ := h3 (k + 1) y hy
  cases e'
  have hk := (List.getElem?_eq_some_iff.1 hy).1
  rw [if_neg (by omega)] at hA
  refine ⟨bb, o + 1, hA, hb, ?_⟩
  rw [show o + 1 + k * 1 = o + (k + 1) * 1 by omega]
  exact hc

theorem sl_keepB {w w' : World} {v : Value} {xs : List Int} {S : Nat → Prop} (h : SlI w v xs) (hk : Keep S w w') (hS : ∀ A n c (a : Addr), v = .slice A n c → A = some a → a.block < w.heap.size → S a.block) : SlI w' v xs := by
  obtain ⟨A, c, e, h1, h2, h3⟩ := h
  refine ⟨A, c, e, h1, h2, fun k x hx => ?_⟩
  obtain ⟨b, o, e', hb, hc⟩ := h3 k x hx
  refine ⟨b, o, e', Nat.lt_of_lt_of_le hb hk.size, fun j u hj => ?_⟩
  have := hS _ _ _ _ e e' hb
  exact (hk.cell (p := ⟨b, o + k * 1 + j, none⟩) this).trans (hc j u hj)

theorem line_done {w w6 w' : World} {b g B T : Nat} {rem : Int → List Nat} {p : Int} {rest : List Nat} {m : Int → Option Value} {u : Value} {z : Int}
    (hap : b < B ∧ g < B ∧ b ≠ g) (hm : (∀ p, m p = none → rem p = []) ∧ ∀ p v, m p = some v → SlI w v (natI (rem p)) ∧ ∀ A n c a, v = .slice A n c → A = some a → B ≤ a.block ∧ a.block < T)
    (hu : SlI w u (natI rest)) (hub : ∀ A n c a, u = .slice A n c → A = some a → B ≤ a.block ∧ a.block < T)
    (hI : IMap w6 g .i64 (fun x => if x = p then some u else m x)) (hL : w6.heap[b]? = some (.cells #[.map (some g), .int .i64 z] 164 (0, 0)))
    (y : Int) (hw : ∀ j : Nat, w'.heap[j]? = (w6.setCell ⟨b, 1, none⟩ (.int .i64 y)).heap[j]?) (hK : Keep (fun j => j ≠ b ∧ j ≠ g ∧ j < w.heap.size) w w') :
    LineAt w' b g B T (fun x => if x = p then rest else rem x) := by
  refine ⟨⟨y, (hw b).trans (heap_set_same w6 hL)⟩, ⟨_, hI.of_block ((hw g).trans (heap_set_other w6 1 _ (fun e => hap.2.2 e.symm))), fun q hq => ?_, fun q v hq => ?_⟩, hap⟩
  · by_cases e : q = p
    · simp [e] at hq
    · simp only [if_neg e] at hq ⊢
      exact hm.1 q hq
  · by_cases e : q = p
    · simp only [if_pos e] at hq ⊢
      cases hq
      exact ⟨sl_keepB hu hK (fun A n c a h1 h2 h3 => by have := hub A n c a h1 h2; omega), hub⟩
    · simp only [if_neg e] at hq ⊢
      obtain ⟨h1, h2⟩ := hm.2 q v hq
      exact ⟨sl_keepB h1 hK (fun A n c a e1 e2 h3 => by have := h2 A n c a e1 e2; omega), h2⟩

set_option maxRecDepth 100000 in
set_option maxHeartbeats 2000000 in
theorem lineFinish (b g B T : Nat) (rem : Int → List Nat) (p : Int) (i : Nat) (rest : List Nat) (w : World) (h : LineAt w b g B T rem) (hr : rem p = i :: rest) :
    Calls Tryz.prog 60 #[.pointer (some ⟨b, 0, none⟩), .int .i64 p] w fun e w' => e = .returned (.int .i64 0) ∧ LineAt w' b g B T (fun x => if x = p then rest else rem x) ∧ Keep (fun j => j ≠ b ∧ j ≠ g ∧ j < w.heap.size) w w' := by
  have N0 := lineNow b g B T rem p w h
  rw [hr] at N0
  obtain ⟨m, A, c, hm, hv, hs, hAB, hall⟩ := line_get h p
  obtain ⟨left, hb⟩ := h.line
  have hap := h.apart
  rw [hr] at hs hv
  simp only [List.length_cons] at hs hv
  have hs' := hs
  obtain ⟨A', c', e, h1, h2, h3⟩ := hs'
  rw [show (natI (i :: rest)).length = rest.length + 1 by simp [natI]] at e h1
  cases e
  obtain ⟨bb, o, rfl, hbb, hc⟩ := h3 0 (i : Int) rfl
  have l0 : w.cell? ⟨b, 0, none⟩ = some (.map (some g)) := cell_of_row w _ 0 _ _ _ hb
  have l1 : w.cell? ⟨b, 1, none⟩ = some (.int .i64 left) := cell_of_row w _ 1 _ _ _ hb
  have lf : w.frozen? ⟨b, 1, none⟩ = false := frozen_of_row w _ 1 _ _ hb
  have lz : b < w.heap.size := (Array.getElem?_eq_some_iff.1 hb).1
  have hzv : ∀ W, (zeroValue 22).run Tryz.prog W = .ok (.slice none 0 0) W := fun _ => by kernel_rfl
  have q0 : (1 : Int) ≤ (rest.length : Int) + 1 := by omega
  have q1 : (rest.length : Int) + 1 ≤ (c : Int) := by omega
  have HA := hide hall
  have HB := hide hb
  have HS := hide hs
  have HM := hide hm
  have HV := hide hv
  have HR := hide hr
  have hBB := hAB _ rfl
  clear h hall hb hs hm hv hr h3 hc hAB h1 h2
  by_cases hc1 : c = 1
  all_goals
    go_enter Tryz.func60, Tryz.ntmps60
    go_wp2_with fail
    refine N0.mono ?_
    rintro e w1 ⟨rfl, rfl⟩
    go_wp2
    refine wp_region_seq (fun X => X.cell? ⟨b, 0, none⟩ = some (.map (some g))) (.take 0 <| .take 1 <| .take 2 <| .take 3 <| .take 4 <| .take 5 <| .take 6 <| .take 7 <| .take 8 <| .take 9 <| .run 10 <| .take 11 <| .run 12 <| .done) (by kernel_rfl) (by kernel_rfl) (by kernel_rfl) (by go_simp) ?_
    repeat (refine seq_take (v := ?_) rfl (by rfl) ?_ ?_; rotate_left; (focus (intro wS hS; go_simp; exact rfl)); simp only [Act.put, List.setIfInBounds_toArray, List.set_cons_zero, List.set_cons_succ])
    refine seq_run rfl (by rfl) (fun K hK => ?_)
    refine wp_lookup_imap _ _ 130 rfl 3 22 .i64 Tryz.underlying130 Tryz.underlying3 (.slice none 0 0) (hzv _) g m (by rfl) (show IMap w1.drew g .i64 m from HM.out) p (by rfl) ?_
    rw [HV.out]
    refine hK _ _ (by go_simp) ?_
    clear hK K
    repeat (refine seq_take (v := ?_) rfl (by rfl) ?_ ?_; rotate_left; (focus (intro wS hS; go_simp; exact rfl)); simp only [Act.put, List.setIfInBounds_toArray, List.set_cons_zero, List.set_cons_succ])
    refine seq_run rfl (by rfl) (fun K hK => ?_)
    first
      | refine wp_update_imap _ _ _ 130 rfl 3 22 .i64 Tryz.underlying130 Tryz.underlying3 g m (by rfl) (show IMap w1.drew g .i64 m from HM.out) p (.slice (some ⟨bb, o, none⟩) rest.length 0) (by rfl) (by rfl) ?_
      | refine wp_update_imap _ _ _ 130 rfl 3 22 .i64 Tryz.underlying130 Tryz.underlying3 g m (by rfl) (show IMap w1.drew g .i64 m from HM.out) p (.slice (some ⟨bb, o + 1, none⟩) rest.length (c - 1)) (by rfl) (by rfl) ?_
    intro w6 hI6 hg6 hs6
    have hblk6 : ∀ j, j ≠ g → j < w1.heap.size → w6.heap[j]? = w1.heap[j]? := fun j hj hl => hg6.block j hl (fun e => hj (Option.some.inj e))
    have hL6 := (hblk6 b hap.2.2 lz).trans HB.out
    have hK6 : Keep (fun j => j ≠ b ∧ j ≠ g ∧ j < w1.heap.size) w1 w6 := (Keep.drew (Keep.refl _ w1)).grown hg6 (fun k hk => hk.2.2) (fun k hk hh => hh.2.1 (Option.some.inj hk).symm)
    have t0 : w6.cell? ⟨b, 0, none⟩ = some (.map (some g)) := cell_of_row w6 _ 0 _ _ _ hL6
    have t1 : w6.cell? ⟨b, 1, none⟩ = some (.int .i64 left) := cell_of_row w6 _ 1 _ _ _ hL6
    have tf : w6.frozen? ⟨b, 1, none⟩ = false := frozen_of_row w6 _ 1 _ _ hL6
    have tz : b < w6.heap.size := by rw [hs6]; exact lz
    refine hK _ _ t0 ?_
    clear hK K l0 l1 lf
    have HI6 := hide hI6
    have HL6 := hide hL6
    have HK6 := hide hK6
    clear hI6 hL6 hK6 hg6 hs6 hblk6
    refine seq_nil ?_
    go_wp2
    go_ret
    have hln : rest.length = (natI rest).length := by simp [natI]
    have hW := HK6.out.setCell (p := ⟨b, 1, none⟩) (fun hh => hh.1 rfl) (.int .i64 (wrap64 (left - 1)))
    refine ⟨rfl, line_done hap HA.out ?_ ?_ HI6.out HL6.out _ (fun _ => rfl) hW, hW⟩
    · have hq := sl_tail (c := c) (x := (i : Int)) (xs := natI rest) HS.out (by rw [← hln]) _ rfl
      rw [← hln] at hq
      first
        | (rw [if_neg hc1] at hq; exact hq)
        | (subst hc1; exact hq)
        | exact hq
    · intro A n c a e1 e2
      cases e1
      cases e2
      exact hBB
end Go.Proofs.YtfghmlpjbedomaaGreat
