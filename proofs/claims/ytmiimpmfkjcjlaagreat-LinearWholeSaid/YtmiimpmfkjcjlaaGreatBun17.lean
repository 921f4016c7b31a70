import Derived.Test.YtmiimpmfkjcjlaaGreatBun15
import Derived.Test.YtmiimpmfkjcjlaaGreatBun16
namespace Go.Proofs.YtmiimpmfkjcjlaaGreat
open Go.RowKit
def firstE (n : Int) : List Sp → Int
  | [] => 0
  | s :: l => if sizeE n s = 0 then firstE n l else sizeE n s
def sizesT (n : Int) (l : List Sp) : List Int := l.map fun s => sizeT n s.kind s.p s.q
def layE (n : Int) (l : List Sp) : Int := if ¬ (1 ≤ n ∧ n ≤ 16) then 1 else if 8 < l.length then 3 else if firstE n l = 0 then regE (sizesT n l) else firstE n l
def layEnd (n : Int) (l : List Sp) : Int := if layE n l = 0 then regEnd (sizesT n l) else 0
def layL (n : Int) (l : List Sp) : List Int := if layE n l = 0 then regL (sizesT n l) else []
theorem sizeE_zero {n : Int} {s : Sp} (h : sizeE n s = 0) : (1 ≤ n ∧ n ≤ 16) ∧ (0 ≤ s.kind ∧ s.kind ≤ 9) ∧ rightT s.kind s.p s.q = true := by
  unfold sizeE at h
  by_cases h1 : 1 ≤ n ∧ n ≤ 16
  · rw [if_neg (by omega)] at h
    by_cases h2 : 0 ≤ s.kind ∧ s.kind ≤ 9
    · rw [if_neg (by omega)] at h
      by_cases h3 : rightT s.kind s.p s.q = false
      · rw [if_pos h3] at h; cases h
      · exact ⟨h1, h2, by simpa using h3⟩
    · rw [if_pos h2] at h; cases h
  · rw [if_pos h1] at h; cases h
theorem sizeT_bd {n : Int} {s : Sp} (h : sizeE n s = 0) : 1 ≤ sizeT n s.kind s.p s.q ∧ sizeT n s.kind s.p s.q ≤ 100000 := by
  obtain ⟨h1, h2, h3⟩ := sizeE_zero h
  exact size_bd h2.1 h2.2 h1.1 h1.2 h3
theorem firstE_all {n : Int} : ∀ {l : List Sp}, firstE n l = 0 → ∀ s ∈ l, sizeE n s = 0
  | [], _, s, hs => by simp at hs
  | x :: l, h, s, hs => by
    unfold firstE at h
    by_cases hx : sizeE n x = 0
    · rw [if_pos hx] at h
      rcases List.mem_cons.1 hs with rfl | hs
      · exact hx
      · exact firstE_all h s hs
    · rw [if_neg hx] at h
      exact absurd h hx
theorem firstE_step {n : Int} {l : List Sp} {k : Nat} {s : Sp} (h : l[k]? = some s) : firstE n (l.drop k) = if sizeE n s = 0 then firstE n (l.drop (k + 1)) else sizeE n s := by
  have : l.drop k = s :: l.drop (k + 1) := by rw [List.drop_eq_getElem?_toList_append, h]; rfl
  rw [this]; rfl
def LayPost (n : Int) (l : List Sp) (w : World) (e : Ending) (w' : World) : Prop :=
  ∃ u, e = .returned (.tuple #[u, .int .i64 (layEnd n l), .int .i64 (layE n l)]) ∧ SlI w' u (layL n l) ∧ Below w.heap.size w w'
theorem layPost_no {n : Int} {l : List Sp} {w w' : World} {E : Int} (hE : layE n l = E) (h0 : E ≠ 0) (hb : Below w.heap.size w w') : LayPost n l w (.returned (.tuple #[.slice none 0 0, .int .i64 0, .int .i64 E])) w' := by
  subst hE
  refine ⟨_, by unfold layEnd; rw [if_neg h0], ?_, hb⟩
  unfold layL
  rw [if_neg h0]
  exact ⟨none, 0, rfl, Nat.le_refl _, Nat.zero_le _, fun k x hx => by simp at hx⟩
theorem layPost_reg {n : Int} {l : List Sp} {w w1 w' : World} {e : Ending} (hn : 1 ≤ n ∧ n ≤ 16) (hl : l.length ≤ 8) (h0 : firstE n l = 0) (h : RegPost (sizesT n l) w1 e w') (hb : Below w.heap.size w w1) : LayPost n l w e w' := by
  obtain ⟨u, rfl, hs, hb'⟩ := h
  have hE : layE n l = regE (sizesT n l) := by unfold layE; rw [if_neg (by omega), if_neg (by omega), if_pos h0]
  have hb2 := hb.trans (hb'.mono hb.size)
  by_cases hr : (sizesT n l).sum ≤ 65536
  · have hE0 : regE (sizesT n l) = 0 := by unfold regE; rw [if_pos hr]
    refine ⟨u, by unfold layEnd; rw [hE, if_pos hE0], ?_, hb2⟩
    unfold layL
    rw [hE, if_pos hE0]
    exact hs
  · have hE0 : ¬ regE (sizesT n l) = 0 := by unfold regE; rw [if_neg hr]; decide
    have hN : regEnd (sizesT n l) = 0 := by unfold regEnd; rw [if_neg hr]
    have hL : regL (sizesT n l) = [] := by unfold regL; rw [if_neg hr]
    refine ⟨u, by unfold layEnd; rw [hE, if_neg hE0, hN], ?_, hb2⟩
    unfold layL
    rw [hE, if_neg hE0]
    rw [hL] at hs
    exact hs
theorem sown_succ {w' : World} {B k : Nat} {v' : Value} {n : Int} {l : List Sp} {s : Sp} {E : Int} (h : l[k]? = some s) (hE : sizeT n s.kind s.p s.q = E) (ho : w'.ownsRow B 3 1 v' (k + 1) ((sizesT n (l.take k)).map (Value.int .i64) ++ [.int .i64 E])) :
    IOwn w' B v' (k + 1) (sizesT n (l.take (k + 1))) := by
  unfold IOwn
  have : sizesT n (l.take (k + 1)) = sizesT n (l.take k) ++ [E] := by
    unfold sizesT
    rw [List.take_add_one, h, List.map_append]
    simp [hE]
  rw [this, List.map_append]
  exact ho
set_option maxRecDepth 100000 in
set_option maxHeartbeats 1000000 in
theorem tlay_any (n : Int) (A : Option Addr) (m c : Nat) (l : List Sp) (w : World) (h : SlSp w (.slice A m c) l) (hm : l.length = m) :
    Calls Tryz.prog 57 #[.int .i64 n, .slice A m c] w (LayPost n l w) := by
  have hle : m ≤ maxLen := by obtain ⟨_, _, e, h1, h2, _⟩ := h; cases e; omega
  have hM := hide hm
  have N0 := fun W => threads_any n W
  by_cases hn : 1 ≤ n ∧ n ≤ 16
  · have hd : (decide (1 ≤ n) && decide (n ≤ 16)) = true := by simp; omega
    rw [hd] at N0
    by_cases h8 : 8 < m
    · have hE : Hid (layE n l = 3) := by show _ = _; unfold layE; rw [if_neg (by omega), if_pos (by omega)]
      have h8' : (8 : Int) < (m : Int) := by omega
      clear hm hn hd hle
      go_enter Tryz.func57, Tryz.ntmps57
      go_wp2_with fail
      refine (N0 _).mono ?_
      rintro e w1 ⟨rfl, rfl⟩
      go_wp2
      go_ret3
      exact layPost_no hE.out (by decide) (Below.refl _ _)
    · have HH := hide h
      have HN := hide hn
      obtain ⟨j0, hj, hj0, hj1, hj2⟩ := info_parts info_int
      have NS := fun s W => tsize_any n s W
      have h8' : ¬ (8 : Int) < (m : Int) := by omega
      clear hm hn hd hle h
      go_enter Tryz.func57, Tryz.ntmps57
      go_wp2_with fail
      refine (N0 _).mono ?_
      rintro e w1 ⟨rfl, rfl⟩
      go_wp2
      go_loopw [7, 22] (fun out i wr => ∃ (k : Nat), k ≤ m ∧ i = .int .i64 k ∧ Hid (firstE n l = firstE n (l.drop k)) ∧ Hid (IOwn wr w1.heap.size out k (sizesT n (l.take k))) ∧ Hid (Below w1.heap.size w1 wr)) (fun _ i _ => m - (intOf i).toNat)
      case atStart => exact ⟨0, Nat.zero_le _, rfl, hide rfl, hide (World.ownsRow_nil _ _ _ _), hide (Below.refl _ _)⟩
      case round =>
        obtain ⟨k, hk, rfl, hF, hown, hB⟩ := hrel
        by_cases hlt : k < m
        · obtain ⟨s, hsk⟩ : ∃ s, l[k]? = some s := ⟨_, List.getElem?_eq_getElem (by have := hM.out; omega)⟩
          obtain ⟨A', c', e, _, _, h3⟩ := HH.out.below hB.out (Nat.le_refl _)
          obtain ⟨b, o, e', hb, hc⟩ := h3 k s hsk
          rw [hM.out] at e
          cases e
          cases e'
          obtain ⟨c0, c1, c2⟩ := spec_cells hc
          have HK := hide hsk
          have hstep := firstE_step (n := n) hsk
          have hsz := hB.out.size
          clear h3 hc hsk
          by_cases hE : sizeE n s = 0
          · have hT := sizeT_bd hE
            have hV : sizeV n s = sizeT n s.kind s.p s.q := by unfold sizeV; rw [if_pos hE]
            rw [if_pos hE] at hstep
            have NS1 := fun W => NS s W
            rw [hE, hV] at NS1
            have HF := hide hstep
            obtain ⟨E, hEE⟩ : ∃ E, sizeT n s.kind s.p s.q = E := ⟨_, rfl⟩
            rw [hEE] at NS1 hT
            have HE := hide hEE
            clear hE hV hstep hEE
            go_wp2_with fail
            refine (NS1 _).mono ?_
            rintro e w2 ⟨rfl, hb2⟩
            have hB2 : Below w1.heap.size w1 w2 := (hB.out.alloc hsz _).trans (hb2.mono (by simp; omega))
            have hg2 : wr.grownBy w2 none := ⟨hb2.os, hb2.tape, hb2.output, by have := hb2.size; simp at this; omega, fun i hi _ => (hb2.block i (by simp; omega)).trans (heap_alloc_old _ _ hi)⟩
            have hown' := World.ownsRow.kept hown.out hg2 (by by_cases hh : Value.ownBlock u7 = none; (exact Or.inl hh); exact Or.inr hh)
            have hsz2 := hB2.size
            clear hb2 hown hB hg2
            go_wp2_with (at_builtin; refine wpList_append_own_at _ rfl _ _ 42 rfl w1.heap.size 3 j0 (.int .i64 0) 1 8 Tryz.underlying42 hj hj0 hj1 hj2 rfl (by decide) _ k _ rfl (hown'.alloc _) ⟨w2.heap.size, 0, none⟩ 1 1 [.int .i64 E] rfl rfl (new_one _ _ _) (by simp [Value.oneCell']) (by unfold maxLen; omega) (by omega) (by simp; omega) ?_; intro v5 w5 hown5 hgrow _ _; have HO := hide (sown_succ HK.out HE.out hown5); have HB := hide ((hB2.alloc hsz2 _).grown hgrow (by simp; omega) (fun j hj => (hown'.lt j hj).1)); clear hown5 hgrow hown' hB2)
            go_roundw
            case rel => exact ⟨k + 1, by omega, by go_num, hide (by rw [hF.out, HF.out]), HO, HB⟩
            case measure => simp [intOf] <;> omega
          · rw [if_neg hE] at hstep
            have hV : sizeV n s = 0 := by unfold sizeV; rw [if_neg hE]
            have NS1 := fun W => NS s W
            rw [hV] at NS1
            obtain ⟨E, hEE⟩ : ∃ E, sizeE n s = E := ⟨_, rfl⟩
            rw [hEE] at NS1 hE hstep
            have HL : Hid (layE n l = E) := by
              have hn := HN.out
              have hf := hF.out
              show _ = _
              unfold layE
              rw [if_neg (by omega), if_neg (by have := hM.out; omega), hf, hstep, if_neg hE]
            have he : (E != 0) = true := by simpa using hE
            clear hEE hstep hV
            go_wp2_with fail
            refine (NS1 _).mono ?_
            rintro e w2 ⟨rfl, hb2⟩
            have hB2 : Below w1.heap.size w1 w2 := (hB.out.alloc hsz _).trans (hb2.mono (by simp; omega))
            go_wp2
            go_ret3
            exact layPost_no HL.out hE hB2
        · obtain rfl : k = m := by omega
          have h0 : firstE n l = 0 := by rw [hF.out, ← hM.out, List.drop_length]; rfl
          have hall := firstE_all h0
          have hsl : SlI wr u7 (sizesT n l) := by
            have := hown.out
            rw [← hM.out, List.take_length] at this
            refine sl_of_owns (base := w1.heap.size) (e := 3) ?_ (by simp [sizesT]; rw [hM.out]; unfold maxLen; omega)
            have hlen : (sizesT n l).length = l.length := by simp [sizesT]
            rw [hlen]
            exact this
          have hsl' := hsl
          obtain ⟨A7, c7, rfl, _, _, _⟩ := hsl'
          have R := fun W h => regionLay A7 (sizesT n l).length c7 (sizesT n l) W h rfl (fun x hx => by
            obtain ⟨s, hs, rfl⟩ := List.mem_map.1 hx
            have := sizeT_bd (hall s hs)
            exact ⟨by omega, this.2⟩) (by simp [sizesT]; rw [hM.out]; omega)
          have H0 := hide h0
          have HA := hide hall
          clear h0 hall
          go_wp2_with fail
          refine (R _ hsl).mono ?_
          rintro e w2 ⟨u, rfl, hs2, hb2⟩
          go_wp2
          go_ret3
          exact layPost_reg HN.out (by rw [hM.out]; omega) H0.out ⟨u, rfl, hs2, hb2⟩ hB.out
  · have hd : (decide (1 ≤ n) && decide (n ≤ 16)) = false := by rw [Bool.eq_false_iff]; simp; omega
    rw [hd] at N0
    have hE : Hid (layE n l = 1) := by show _ = _; unfold layE; rw [if_pos hn]
    clear hm hn hd hle
    go_enter Tryz.func57, Tryz.ntmps57
    go_wp2_with fail
    refine (N0 _).mono ?_
    rintro e w1 ⟨rfl, rfl⟩
    go_wp2
    go_ret3
    exact layPost_no hE.out (by decide) (Below.refl _ _)
end Go.Proofs.YtmiimpmfkjcjlaaGreat

namespace Go.Proofs.YtmiimpmfkjcjlaaGreat
open Go.RowKit
set_option maxRecDepth 100000 in
set_option maxHeartbeats 1000000 in
theorem refSize_any (n : Int) (s : Sp) (w : World) : Calls Tryz.prog 10 #[.int .i64 n, spV s] w fun e w' => e = .returned (.tuple #[.int .i64 (sizeV n s), .int .i64 (sizeE n s)]) ∧ Below w.heap.size w w' := by
  by_cases hn : 1 ≤ n ∧ n ≤ 16
  · have n0 : decide (n < 1) = false := by simp; omega
    have n1 : decide (16 < n) = false := by simp; omega
    by_cases hk : 0 ≤ s.kind ∧ s.kind ≤ 9
    · have k0 : decide (s.kind < 0) = false := by simp; omega
      have k1 : decide (9 < s.kind) = false := by simp; omega
      have N0 := fun W => psize_any n s hn.1 hn.2 hk.1 hk.2 W
      by_cases hr : rightT s.kind s.p s.q = true
      · have hE : sizeE n s = 0 := by unfold sizeE; rw [if_neg (by omega), if_neg (by omega), if_neg (by rw [hr]; decide)]
        have hV : sizeV n s = sizeT n s.kind s.p s.q := by unfold sizeV; rw [hE]; rfl
        have hT := size_bd hk.1 hk.2 hn.1 hn.2 hr
        rw [hE, hV]
        rw [if_pos hr] at N0
        generalize sizeT n s.kind s.p s.q = T at *
        have d0 : decide (T < 0) = false := by simp; omega
        clear hE hV hn hk hr
        go_enter Tryz.func10, Tryz.ntmps10
        go_wp2_with fail
        refine (N0 _).mono ?_
        rintro e w1 ⟨rfl, hb⟩
        go_wp2
        go_ret2
        exact ⟨rfl, ((Below.refl _ w).alloc (Nat.le_refl _) _).trans (hb.mono (by simp))⟩
      · have hr' : rightT s.kind s.p s.q = false := by simpa using hr
        have hE : sizeE n s = 10 := by unfold sizeE; rw [if_neg (by omega), if_neg (by omega), if_pos hr']
        have hV : sizeV n s = 0 := by unfold sizeV; rw [hE]; rfl
        rw [hE, hV]
        rw [if_neg hr] at N0
        clear hE hV hn hk hr hr'
        go_enter Tryz.func10, Tryz.ntmps10
        go_wp2_with fail
        refine (N0 _).mono ?_
        rintro e w1 ⟨rfl, hb⟩
        go_wp2
        go_ret2
        exact ⟨rfl, ((Below.refl _ w).alloc (Nat.le_refl _) _).trans (hb.mono (by simp))⟩
    · have hE : sizeE n s = 9 := by unfold sizeE; rw [if_neg (by omega), if_pos hk]
      have hV : sizeV n s = 0 := by unfold sizeV; rw [hE]; rfl
      rw [hE, hV]
      rcases (by omega : s.kind < 0 ∨ 0 ≤ s.kind ∧ 9 < s.kind) with h0 | ⟨h0, h1⟩
      · have k0 : decide (s.kind < 0) = true := by simp; omega
        clear hE hV hn hk
        go_enter Tryz.func10, Tryz.ntmps10
        go_wp2
        go_ret2
        exact ⟨rfl, by (repeat' (first | exact Below.refl _ _ | assumption | refine Below.drew ?_ | refine below_drewN ?_ _ | refine Below.alloc ?_ (by simp <;> omega) _ | refine Below.setCell ?_ (by simp <;> omega) _))⟩
      · have k0 : decide (s.kind < 0) = false := by simp; omega
        have k1 : decide (9 < s.kind) = true := by simp; omega
        clear hE hV hn hk
        go_enter Tryz.func10, Tryz.ntmps10
        go_wp2
        go_ret2
        exact ⟨rfl, by (repeat' (first | exact Below.refl _ _ | assumption | refine Below.drew ?_ | refine below_drewN ?_ _ | refine Below.alloc ?_ (by simp <;> omega) _ | refine Below.setCell ?_ (by simp <;> omega) _))⟩
  · have hE : sizeE n s = 1 := by unfold sizeE; rw [if_pos hn]
    have hV : sizeV n s = 0 := by unfold sizeV; rw [hE]; rfl
    rw [hE, hV]
    rcases (by omega : n < 1 ∨ 1 ≤ n ∧ 16 < n) with h0 | ⟨h0, h1⟩
    · have n0 : decide (n < 1) = true := by simp; omega
      clear hE hV hn
      go_enter Tryz.func10, Tryz.ntmps10
      go_wp2
      go_ret2
      exact ⟨rfl, by (repeat' (first | exact Below.refl _ _ | assumption | refine Below.drew ?_ | refine below_drewN ?_ _ | refine Below.alloc ?_ (by simp <;> omega) _ | refine Below.setCell ?_ (by simp <;> omega) _))⟩
    · have n0 : decide (n < 1) = false := by simp; omega
      have n1 : decide (16 < n) = true := by simp; omega
      clear hE hV hn
      go_enter Tryz.func10, Tryz.ntmps10
      go_wp2
      go_ret2
      exact ⟨rfl, by (repeat' (first | exact Below.refl _ _ | assumption | refine Below.drew ?_ | refine below_drewN ?_ _ | refine Below.alloc ?_ (by simp <;> omega) _ | refine Below.setCell ?_ (by simp <;> omega) _))⟩
end Go.Proofs.YtmiimpmfkjcjlaaGreat
