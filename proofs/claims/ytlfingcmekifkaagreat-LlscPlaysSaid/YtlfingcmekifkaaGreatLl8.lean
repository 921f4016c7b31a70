import Derived.Test.YtlfingcmekifkaaGreatLl7
import Derived.Test.YtlfingcmekifkaaGreatBun9
namespace Go.Proofs.YtlfingcmekifkaaGreat
open Go.RowKit
def llA18 (l : Int) : Array Value := #[.int .i64 0, .int .i64 l, .map none, .map none, .map none, .map none, .map none, .map none, .map none, .map none, .map none, .map none, .map none, .map none, .map none, .map none, .map none, .map none]
set_option maxRecDepth 100000 in
theorem llNewW (n : Int) (w : World) : Calls Tryz.prog 24 #[.int .i64 0, .int .i64 n] w fun e w' => e = .returned (.pointer (some ⟨w.heap.size, 0, none⟩)) ∧ w' = w.alloc (.cells (llA18 n) 84) := by
  unfold llA18
  go_enter Tryz.func24, Tryz.ntmps24
  go_wp2
  go_ret
  exact ⟨rfl, rfl⟩
theorem llOB_new {w : World} {pe : Nat} {n : Int} (h : w.heap[pe]? = some (.cells (llA18 n) 84 (0, 0))) : llOB pe w (fun k => k = pe) ⟨n, fun _ _ => none⟩ := by
  refine ⟨_, fun _ => none, ⟨rfl, fun k hk => ?_, rowIs_lit h rfl, rfl, rfl, fun t ht => ?_, fun _ _ _ _ => rfl, fun _ _ _ h => (by cases h), fun _ _ _ _ _ h => (by cases h)⟩⟩
  · rw [hk]
    exact (Array.getElem?_eq_some_iff.1 h).1
  · match t, ht with
    | 0, _ => rfl
    | 1, _ => rfl
    | 2, _ => rfl
    | 3, _ => rfl
    | 4, _ => rfl
    | 5, _ => rfl
    | 6, _ => rfl
    | 7, _ => rfl
    | 8, _ => rfl
    | 9, _ => rfl
    | 10, _ => rfl
    | 11, _ => rfl
    | 12, _ => rfl
    | 13, _ => rfl
    | 14, _ => rfl
    | 15, _ => rfl
    | t + 16, h => exact absurd h (by omega)
theorem llGood_new {z : Nat} (hz : 1 ≤ z ∧ z ≤ 64) (m : Nat) : llGood z ⟨z, fun _ _ => none⟩ (Ps.new (List.replicate z 0) (⟨z, fun _ _ => none⟩ : Ll) m : Ps (Lo × An) Ll).lw (fun _ => none) := by
  refine ⟨⟨rfl, by omega, by omega⟩, fun x hx => ?_, fun _ _ _ h => (by cases h), fun _ _ h => (by cases h)⟩
  have : x ∈ List.replicate z (0 : Int) := hx
  rw [List.eq_of_mem_replicate this]
  omega
def chkL (n z : Int) (cs : List Cl) (np : Nat) : Int := if chkE n cs np ≠ 0 then chkE n cs np else if z < 1 ∨ 64 < z then 10 else 0
theorem llGoPlay {W : World} {pe ps pz z b0 : Nat} {nn : Int} {A : Option Addr} {m c : Nat} {cs : List Cl} {Ap : Option Addr} {np cp : Nat} {picks : List Int} (hz1 : 1 ≤ z ∧ z ≤ 64) (he : W.heap[pe]? = some (.cells (llA18 z) 84 (0, 0))) (hs : W.heap[ps]? = some (.cells #[.iface 55 (.pointer (some ⟨pe, 0, none⟩))] 181 (0, 0))) (hz : W.heap[pz]? = some (.cells (madeCells #[.int .u64 0] z) 46 (0, 0)))
    (h : SlCl W (.slice A m c) cs) (hm : cs.length = m) (hp : SlI W (.slice Ap np cp) picks) (hpl : picks.length = np) (hcu : ∀ c ∈ cs, ClU c) (hE : chkE nn cs picks.length = 0) (hb : W.heap[b0]? = some zeroRep) (hbs : b0 ≠ pe ∧ b0 ≠ ps ∧ pe ≠ ps) (hC : ∀ a : Addr, A = some a → 0 < cs.length → a.block ≠ pe ∧ a.block ≠ b0) (hP : ∀ a : Addr, Ap = some a → 0 < picks.length → a.block ≠ pe ∧ a.block ≠ b0) :
    Calls Tryz.prog 23 #[.int .i64 nn, .slice (some ⟨ps, 0, none⟩) 1 1, .slice (some ⟨pz, 0, none⟩) z z, .slice A m c, .slice Ap np cp] W (MidPost b0 (fun k => k = pe) ((llPlay z cs picks).ends llG) (llPlay z cs picks).lw.mem (llPlay z cs picks).lw.now (llPlay z cs picks).idle W) :=
  loomPlayMid (T := llTh pe z) (n := nn) (AO := some ⟨ps, 0, none⟩) (co := 1) (llTh_ok pe z) (made_sl hz (by unfold maxLen; omega)) (by simp) (by omega) h hm hp hpl (llOB_new he) (objs_one hs) (fun a e _ h => by cases e; exact hbs.2.2 h.symm) (fun a e hl => (hC a e hl).1) (fun a e hl => (hP a e hl).1) hcu (llGood_new hz1 cs.length) hE hb hbs.1 (fun a e h => by cases e; exact hbs.2.1 h.symm) (fun a e hl => (hC a e hl).2) (fun a e hl => (hP a e hl).2)
set_option maxRecDepth 100000 in
set_option maxHeartbeats 2000000 in
theorem llscPlay (n z0 : Int) (A : Option Addr) (m c : Nat) (cs : List Cl) (Ap : Option Addr) (np cp : Nat) (picks : List Int) (w : World) (h : SlCl w (.slice A m c) cs) (hm : cs.length = m) (hp : SlI w (.slice Ap np cp) picks) (hpl : picks.length = np) (hcu : ∀ c ∈ cs, ClU c) :
    Calls Tryz.prog 10 #[.int .i64 n, .int .i64 z0, .slice A m c, .slice Ap np cp] w (OutPost (chkL n z0 cs picks.length) ((llPlay z0 cs picks).ends llG) (llPlay z0 cs picks).lw.mem (llPlay z0 cs picks).lw.now (llPlay z0 cs picks).idle w) := by
  have hba : Below w.heap.size w (w.alloc zeroRep) := (Below.refl _ w).alloc (Nat.le_refl _) _
  have hsz : (w.alloc zeroRep).heap.size = w.heap.size + 1 := by simp
  have hrow : (w.alloc zeroRep).heap[w.heap.size]? = some zeroRep := heap_alloc_new w zeroRep
  have hCZ : ∀ a : Addr, A = some a → 0 < cs.length → a.block < w.heap.size := fun a e hl => sl_block h e hl
  have hPZ : ∀ a : Addr, Ap = some a → 0 < picks.length → a.block < w.heap.size := fun a e hl => sl_block hp e hl
  have h1 := h.below hba (Nat.le_refl _)
  have hp1 := hp.below hba (Nat.le_refl _)
  have N0 := loomCheck n A m c cs Ap np cp _ h1 hm
  have HBA := hide hba
  have HSZ := hide hsz
  have HROW := hide hrow
  have HH1 := hide h1
  have HP1 := hide hp1
  have HCU := hide hcu
  have HPL := hide hpl
  have HM := hide hm
  clear h hp hba hsz hrow h1 hp1 hcu
  obtain ⟨E, hE⟩ : ∃ E, chkE n cs picks.length = E := ⟨_, rfl⟩
  have hE' : chkE n cs np = E := by rw [← hE, hpl]
  rw [hE'] at N0
  unfold chkL
  rw [hE]
  have HE := hide hE
  clear hE hE' hpl hm
  unfold zeroRep at N0
  by_cases h0 : E = 0
  · subst h0
    rw [if_neg (by decide)]
    by_cases hz0 : z0 < 1 ∨ 64 < z0
    · rw [if_pos hz0]
      have hth := fun (w2 : World) (hb : Below (w.alloc zeroRep).heap.size (w.alloc zeroRep) w2) => zero_there ((hb.block w.heap.size (by rw [HSZ.out]; omega)).trans HROW.out) ([.slice none 0 0, .slice none 0 0, .int .i64 0, .int .i64 0, .int .i64 0, .int .i64 0, .int .i64 0, .int .i64 0, .int .i64 0] : List Value) rfl
      have HTH := hide hth
      clear hth
      have hc1 : decide (z0 < 1) = true ∨ (decide (z0 < 1) = false ∧ decide (64 < z0) = true) := by
        rcases hz0 with h | h
        · exact Or.inl (by simpa using h)
        · exact Or.inr ⟨by simp; omega, by simpa using h⟩
      clear hz0
      rcases hc1 with dz1 | ⟨dz1, dz2⟩
      all_goals
        go_enter Tryz.func10, Tryz.ntmps10
        go_wp2_with fail
        refine N0.mono ?_
        rintro e w2 ⟨rfl, hb⟩
        have HB := hide hb
        have hth := HTH.out w2 hb
        have hz2 : w.heap.size + 1 ≤ w2.heap.size := by have := hb.size; rw [← HSZ.out]; exact this
        have hz : w.heap.size < w2.heap.size := by omega
        clear hb N0
        go_wp2_with (refine wpList_store_mid rfl 32 (.tmp 8) (.tmp 25) rfl w.heap.size 0 ([.slice none 0 0, .slice none 0 0, .int .i64 0, .int .i64 0, .int .i64 0, .int .i64 0, .int .i64 0, .int .i64 0, .int .i64 0] : List Value).toArray (by rfl) (by rfl) hth (by kernel_rfl) (by kernel_rfl) ?_)
        have hRS := World.rangeAt_setCells_same w2 w.heap.size 0 ([.slice none 0 0, .slice none 0 0, .int .i64 0, .int .i64 0, .int .i64 0, .int .i64 0, .int .i64 0, .int .i64 0, .int .i64 0] : List Value) hth
        have hld := run_loadVar_mid (P := Tryz.prog) (w2.setCells w.heap.size 0 ([.slice none 0 0, .slice none 0 0, .int .i64 0, .int .i64 0, .int .i64 0, .int .i64 0, .int .i64 0, .int .i64 0, .int .i64 0] : List Value)) w.heap.size 0 32 ([.slice none 0 0, .slice none 0 0, .int .i64 0, .int .i64 0, .int .i64 0, .int .i64 0, .int .i64 0, .int .i64 0, .int .i64 0] : List Value) _ hRS Tryz.underlying32 rfl (by kernel_rfl)
        refine bodyPost_ret (v := .tuple #[zeroV, .int .i64 10]) (by simp [results, Tryz.results10, hld, asAddr, zeroV]) rfl (Or.inl ⟨by decide, rfl, ?_⟩)
        have h1 : Keep (fun k => k < w.heap.size) w w2 := (Keep.of_below (K := fun k => k < w.heap.size) HBA.out (fun k hk => hk)).trans (Keep.of_below (K := fun k => k < w.heap.size) HB.out (fun k hk => by simp; omega))
        exact (Keep.setCells h1 (b := w.heap.size) (by simp) 0 ([.slice none 0 0, .slice none 0 0, .int .i64 0, .int .i64 0, .int .i64 0, .int .i64 0, .int .i64 0, .int .i64 0, .int .i64 0] : List Value)).below (fun k hk => hk)
    rw [if_neg hz0]
    obtain ⟨z, rfl⟩ : ∃ z : Nat, z0 = z := ⟨z0.toNat, by omega⟩
    have hz1 : 1 ≤ z ∧ z ≤ 64 := by omega
    have dz1 : decide ((z : Int) < 1) = false := by simp; omega
    have dz2 : decide ((64 : Int) < z) = false := by simp; omega
    have hmk : ∀ W, (Instr.makeSlice 28 (.int .i64 (z : Int)) (.int .i64 (z : Int))).run Tryz.prog W = .ok (.slice (some ⟨W.heap.size, 0, none⟩) z z) (W.alloc (.cells (madeCells #[.int .u64 0] z) 46)) :=
      fun W => run_make_row' (P := Tryz.prog) 28 46 (.int .u64 0) 8 Tryz.underlying28 info_word rfl .i64 .i64 z (by omega) (by omega) W
    clear hz0
    go_enter Tryz.func10, Tryz.ntmps10
    go_wp2_with fail
    refine N0.mono ?_
    rintro e w2 ⟨rfl, hb⟩
    have HB := hide hb
    have hz2 : w.heap.size + 1 ≤ w2.heap.size := by have := hb.size; rw [← HSZ.out]; exact this
    have hb0 : w2.drew.heap[w.heap.size]? = some zeroRep := (hb.block w.heap.size (by show w.heap.size < (w.alloc zeroRep).heap.size; rw [HSZ.out]; omega)).trans HROW.out
    have hbw2 : Below w.heap.size w w2.drew := (HBA.out.trans (hb.mono (show w.heap.size ≤ (w.alloc zeroRep).heap.size by rw [HSZ.out]; omega))).drew
    have hc2 : SlCl w2.drew (.slice A m c) cs := HH1.out.below (show Below (w.alloc zeroRep).heap.size (w.alloc zeroRep) w2.drew from Below.drew hb) (Nat.le_refl _)
    have hp2 : SlI w2.drew (.slice Ap np cp) picks := HP1.out.below (show Below (w.alloc zeroRep).heap.size (w.alloc zeroRep) w2.drew from Below.drew hb) (Nat.le_refl _)
    have HC2 := hide hc2
    have HP2 := hide hp2
    clear hb N0 hc2 hp2
    go_wp2
    refine wp_region_seq (fun _ => True) (.take 0 <| .take 1 <| .take 5 <| .take 7 <| .take 8 <| .fork 2 (.take 3 <| .fork 4 (.run 6 <| .run 9 <| .take 10 <| .take 11 <| .run 12 <| .take 13 <| .done) 6 (.run 4 <| .run 9 <| .take 10 <| .take 11 <| .run 12 <| .take 13 <| .done)) 6 (.run 2 <| .take 3 <| .run 4 <| .run 9 <| .take 10 <| .take 11 <| .run 12 <| .take 13 <| .done)) (by kernel_rfl) (by kernel_rfl) (by kernel_rfl) trivial ?_
    repeat (refine seq_take (v := ?_) rfl (by rfl) ?_ ?_; rotate_left; (focus (intro wS hS; go_simp; exact rfl)); simp only [Act.put, List.setIfInBounds_toArray, List.set_cons_zero, List.set_cons_succ])
    refine seq_fork ?_ ?_
    · (refine seq_run rfl (by rfl) (fun K hK => ?_); go_simp)
      refine (llNewW z _).mono ?_
      rintro e w3 ⟨rfl, rfl⟩
      refine hK _ _ trivial ?_
      clear hK K
      repeat (refine seq_take (v := ?_) rfl (by rfl) ?_ ?_; rotate_left; (focus (intro wS hS; go_simp; exact rfl)); simp only [Act.put, List.setIfInBounds_toArray, List.set_cons_zero, List.set_cons_succ])
      refine seq_fork ?_ ?_
      · (refine seq_run rfl (by rfl) (fun K hK => ?_); go_simp)
        refine hK _ _ trivial ?_
        clear hK K
        (refine seq_run rfl (by rfl) (fun K hK => ?_); go_simp)
        refine hK _ _ trivial ?_
        clear hK K
        obtain ⟨m0, m1, m2⟩ := allocs3 w2.drew (.cells (llA18 z) 84) (.cells #[.iface 55 (.pointer (some ⟨w2.heap.size, 0, none⟩))] 181) (.cells (madeCells #[.int .u64 0] z) 46)
        have hak := allocs3_keep w2.drew (.cells (llA18 z) 84) (.cells #[.iface 55 (.pointer (some ⟨w2.heap.size, 0, none⟩))] 181) (.cells (madeCells #[.int .u64 0] z) 46)
        have C := llGoPlay (nn := n) (pe := w2.heap.size) (ps := w2.heap.size + 1) (pz := w2.heap.size + 1 + 1) (b0 := w.heap.size) hz1 m0 m1 m2 (HC2.out.below hak (Nat.le_refl _)) HM.out (HP2.out.below hak (Nat.le_refl _)) HPL.out HCU.out HE.out ((hak.block w.heap.size (by show w.heap.size < w2.heap.size; omega)).trans hb0) (by refine ⟨?_, ?_, ?_⟩ <;> omega) (fun a e hl => by have := hCZ a e hl; omega) (fun a e hl => by have := hPZ a e hl; omega)
        have hbW := hbw2.trans (hak.mono (show w.heap.size ≤ w2.drew.heap.size from hbw2.size))
        have hWz := Nat.lt_of_lt_of_le (show w.heap.size < w2.drew.heap.size from by show w.heap.size < w2.heap.size; omega) hak.size
        (refine seq_run rfl (by rfl) (fun K hK => ?_); go_simp)
        refine C.mono ?_
        rintro e w5 ⟨Ae, ce, B, Mu, g, c5, rfl, hEv, hBz, hwr, hk5, hz5, hMb⟩
        have HEV := hide hEv
        have HWR := hide hwr
        have HK5 := hide hk5
        have HBW := hide hbW
        have HWZ := hide hWz
        clear hEv hwr hk5 C hbW hWz m0 m1 m2
        refine hK _ _ trivial ?_
        clear hK K
        unfold repV
        repeat (refine seq_take (v := ?_) rfl (by rfl) ?_ ?_; rotate_left; (focus (intro wS hS; go_simp; exact rfl)); simp only [Act.put, List.setIfInBounds_toArray, List.set_cons_zero, List.set_cons_succ])
        refine seq_run rfl (by rfl) (fun K hK => ?_)
        refine wp_store_mid 32 (.tmp 8) (.tmp 36) rfl w.heap.size 0 ([.slice Ae ((llPlay z cs picks).ends llG).length ce, .slice (some ⟨g, 0, none⟩) (llPlay z cs picks).lw.mem.words.length c5, .int .i64 (wrap64 (llPlay z cs picks).lw.mem.rd), .int .i64 (wrap64 (llPlay z cs picks).lw.mem.wr), .int .i64 (wrap64 (llPlay z cs picks).lw.mem.sw), .int .i64 (wrap64 (llPlay z cs picks).lw.mem.ad), .int .i64 (wrap64 (llPlay z cs picks).lw.mem.ft), .int .i64 (llPlay z cs picks).lw.now, .int .i64 (llPlay z cs picks).idle] : List Value).toArray (by rfl) (by rfl) (zero_there hz5 ([.slice Ae ((llPlay z cs picks).ends llG).length ce, .slice (some ⟨g, 0, none⟩) (llPlay z cs picks).lw.mem.words.length c5, .int .i64 (wrap64 (llPlay z cs picks).lw.mem.rd), .int .i64 (wrap64 (llPlay z cs picks).lw.mem.wr), .int .i64 (wrap64 (llPlay z cs picks).lw.mem.sw), .int .i64 (wrap64 (llPlay z cs picks).lw.mem.ad), .int .i64 (wrap64 (llPlay z cs picks).lw.mem.ft), .int .i64 (llPlay z cs picks).lw.now, .int .i64 (llPlay z cs picks).idle] : List Value) rfl) (by kernel_rfl) (by kernel_rfl) ?_
        refine hK _ _ trivial ?_
        clear hK K
        repeat (refine seq_take (v := ?_) rfl (by rfl) ?_ ?_; rotate_left; (focus (intro wS hS; go_simp; exact rfl)); simp only [Act.put, List.setIfInBounds_toArray, List.set_cons_zero, List.set_cons_succ])
        refine seq_nil ?_
        go_wp2
        have hRS := World.rangeAt_setCells_same w5 w.heap.size 0 ([.slice Ae ((llPlay z cs picks).ends llG).length ce, .slice (some ⟨g, 0, none⟩) (llPlay z cs picks).lw.mem.words.length c5, .int .i64 (wrap64 (llPlay z cs picks).lw.mem.rd), .int .i64 (wrap64 (llPlay z cs picks).lw.mem.wr), .int .i64 (wrap64 (llPlay z cs picks).lw.mem.sw), .int .i64 (wrap64 (llPlay z cs picks).lw.mem.ad), .int .i64 (wrap64 (llPlay z cs picks).lw.mem.ft), .int .i64 (llPlay z cs picks).lw.now, .int .i64 (llPlay z cs picks).idle] : List Value) (zero_there hz5 ([.slice Ae ((llPlay z cs picks).ends llG).length ce, .slice (some ⟨g, 0, none⟩) (llPlay z cs picks).lw.mem.words.length c5, .int .i64 (wrap64 (llPlay z cs picks).lw.mem.rd), .int .i64 (wrap64 (llPlay z cs picks).lw.mem.wr), .int .i64 (wrap64 (llPlay z cs picks).lw.mem.sw), .int .i64 (wrap64 (llPlay z cs picks).lw.mem.ad), .int .i64 (wrap64 (llPlay z cs picks).lw.mem.ft), .int .i64 (llPlay z cs picks).lw.now, .int .i64 (llPlay z cs picks).idle] : List Value) rfl)
        have hld := run_loadVar_mid (P := Tryz.prog) (w5.setCells w.heap.size 0 ([.slice Ae ((llPlay z cs picks).ends llG).length ce, .slice (some ⟨g, 0, none⟩) (llPlay z cs picks).lw.mem.words.length c5, .int .i64 (wrap64 (llPlay z cs picks).lw.mem.rd), .int .i64 (wrap64 (llPlay z cs picks).lw.mem.wr), .int .i64 (wrap64 (llPlay z cs picks).lw.mem.sw), .int .i64 (wrap64 (llPlay z cs picks).lw.mem.ad), .int .i64 (wrap64 (llPlay z cs picks).lw.mem.ft), .int .i64 (llPlay z cs picks).lw.now, .int .i64 (llPlay z cs picks).idle] : List Value)) w.heap.size 0 32 ([.slice Ae ((llPlay z cs picks).ends llG).length ce, .slice (some ⟨g, 0, none⟩) (llPlay z cs picks).lw.mem.words.length c5, .int .i64 (wrap64 (llPlay z cs picks).lw.mem.rd), .int .i64 (wrap64 (llPlay z cs picks).lw.mem.wr), .int .i64 (wrap64 (llPlay z cs picks).lw.mem.sw), .int .i64 (wrap64 (llPlay z cs picks).lw.mem.ad), .int .i64 (wrap64 (llPlay z cs picks).lw.mem.ft), .int .i64 (llPlay z cs picks).lw.now, .int .i64 (llPlay z cs picks).idle] : List Value) _ hRS Tryz.underlying32 rfl (by kernel_rfl)
        refine bodyPost_ret (v := .tuple #[.agg #[.slice Ae ((llPlay z cs picks).ends llG).length ce, .slice (some ⟨g, 0, none⟩) (llPlay z cs picks).lw.mem.words.length c5, .int .i64 (wrap64 (llPlay z cs picks).lw.mem.rd), .int .i64 (wrap64 (llPlay z cs picks).lw.mem.wr), .int .i64 (wrap64 (llPlay z cs picks).lw.mem.sw), .int .i64 (wrap64 (llPlay z cs picks).lw.mem.ad), .int .i64 (wrap64 (llPlay z cs picks).lw.mem.ft), .int .i64 (llPlay z cs picks).lw.now, .int .i64 (llPlay z cs picks).idle], .int .i64 0]) (by simp [results, Tryz.results10, hld, asAddr]) rfl ?_
        exact out_done ([.slice Ae ((llPlay z cs picks).ends llG).length ce, .slice (some ⟨g, 0, none⟩) (llPlay z cs picks).lw.mem.words.length c5, .int .i64 (wrap64 (llPlay z cs picks).lw.mem.rd), .int .i64 (wrap64 (llPlay z cs picks).lw.mem.wr), .int .i64 (wrap64 (llPlay z cs picks).lw.mem.sw), .int .i64 (wrap64 (llPlay z cs picks).lw.mem.ad), .int .i64 (wrap64 (llPlay z cs picks).lw.mem.ft), .int .i64 (llPlay z cs picks).lw.now, .int .i64 (llPlay z cs picks).idle] : List Value) HEV.out hBz HWR.out HK5.out hMb HBW.out (fun k hk => by omega) (Nat.le_refl _) HWZ.out
      · (refine seq_run rfl (by rfl) (fun K hK => ?_); go_simp)
        refine hK _ _ trivial ?_
        clear hK K
        (refine seq_run rfl (by rfl) (fun K hK => ?_); go_simp)
        refine hK _ _ trivial ?_
        clear hK K
        obtain ⟨m0, m1, m2⟩ := allocs3 w2.drew (.cells (llA18 z) 84) (.cells (madeCells #[.int .u64 0] z) 46) (.cells #[.iface 55 (.pointer (some ⟨w2.heap.size, 0, none⟩))] 181)
        have hak := allocs3_keep w2.drew (.cells (llA18 z) 84) (.cells (madeCells #[.int .u64 0] z) 46) (.cells #[.iface 55 (.pointer (some ⟨w2.heap.size, 0, none⟩))] 181)
        have C := llGoPlay (nn := n) (pe := w2.heap.size) (ps := w2.heap.size + 1 + 1) (pz := w2.heap.size + 1) (b0 := w.heap.size) hz1 m0 m2 m1 (HC2.out.below hak (Nat.le_refl _)) HM.out (HP2.out.below hak (Nat.le_refl _)) HPL.out HCU.out HE.out ((hak.block w.heap.size (by show w.heap.size < w2.heap.size; omega)).trans hb0) (by refine ⟨?_, ?_, ?_⟩ <;> omega) (fun a e hl => by have := hCZ a e hl; omega) (fun a e hl => by have := hPZ a e hl; omega)
        have hbW := hbw2.trans (hak.mono (show w.heap.size ≤ w2.drew.heap.size from hbw2.size))
        have hWz := Nat.lt_of_lt_of_le (show w.heap.size < w2.drew.heap.size from by show w.heap.size < w2.heap.size; omega) hak.size
        (refine seq_run rfl (by rfl) (fun K hK => ?_); go_simp)
        refine C.mono ?_
        rintro e w5 ⟨Ae, ce, B, Mu, g, c5, rfl, hEv, hBz, hwr, hk5, hz5, hMb⟩
        have HEV := hide hEv
        have HWR := hide hwr
        have HK5 := hide hk5
        have HBW := hide hbW
        have HWZ := hide hWz
        clear hEv hwr hk5 C hbW hWz m0 m1 m2
        refine hK _ _ trivial ?_
        clear hK K
        unfold repV
        repeat (refine seq_take (v := ?_) rfl (by rfl) ?_ ?_; rotate_left; (focus (intro wS hS; go_simp; exact rfl)); simp only [Act.put, List.setIfInBounds_toArray, List.set_cons_zero, List.set_cons_succ])
        refine seq_run rfl (by rfl) (fun K hK => ?_)
        refine wp_store_mid 32 (.tmp 8) (.tmp 36) rfl w.heap.size 0 ([.slice Ae ((llPlay z cs picks).ends llG).length ce, .slice (some ⟨g, 0, none⟩) (llPlay z cs picks).lw.mem.words.length c5, .int .i64 (wrap64 (llPlay z cs picks).lw.mem.rd), .int .i64 (wrap64 (llPlay z cs picks).lw.mem.wr), .int .i64 (wrap64 (llPlay z cs picks).lw.mem.sw), .int .i64 (wrap64 (llPlay z cs picks).lw.mem.ad), .int .i64 (wrap64 (llPlay z cs picks).lw.mem.ft), .int .i64 (llPlay z cs picks).lw.now, .int .i64 (llPlay z cs picks).idle] : List Value).toArray (by rfl) (by rfl) (zero_there hz5 ([.slice Ae ((llPlay z cs picks).ends llG).length ce, .slice (some ⟨g, 0, none⟩) (llPlay z cs picks).lw.mem.words.length c5, .int .i64 (wrap64 (llPlay z cs picks).lw.mem.rd), .int .i64 (wrap64 (llPlay z cs picks).lw.mem.wr), .int .i64 (wrap64 (llPlay z cs picks).lw.mem.sw), .int .i64 (wrap64 (llPlay z cs picks).lw.mem.ad), .int .i64 (wrap64 (llPlay z cs picks).lw.mem.ft), .int .i64 (llPlay z cs picks).lw.now, .int .i64 (llPlay z cs picks).idle] : List Value) rfl) (by kernel_rfl) (by kernel_rfl) ?_
        refine hK _ _ trivial ?_
        clear hK K
        repeat (refine seq_take (v := ?_) rfl (by rfl) ?_ ?_; rotate_left; (focus (intro wS hS; go_simp; exact rfl)); simp only [Act.put, List.setIfInBounds_toArray, List.set_cons_zero, List.set_cons_succ])
        refine seq_nil ?_
        go_wp2
        have hRS := World.rangeAt_setCells_same w5 w.heap.size 0 ([.slice Ae ((llPlay z cs picks).ends llG).length ce, .slice (some ⟨g, 0, none⟩) (llPlay z cs picks).lw.mem.words.length c5, .int .i64 (wrap64 (llPlay z cs picks).lw.mem.rd), .int .i64 (wrap64 (llPlay z cs picks).lw.mem.wr), .int .i64 (wrap64 (llPlay z cs picks).lw.mem.sw), .int .i64 (wrap64 (llPlay z cs picks).lw.mem.ad), .int .i64 (wrap64 (llPlay z cs picks).lw.mem.ft), .int .i64 (llPlay z cs picks).lw.now, .int .i64 (llPlay z cs picks).idle] : List Value) (zero_there hz5 ([.slice Ae ((llPlay z cs picks).ends llG).length ce, .slice (some ⟨g, 0, none⟩) (llPlay z cs picks).lw.mem.words.length c5, .int .i64 (wrap64 (llPlay z cs picks).lw.mem.rd), .int .i64 (wrap64 (llPlay z cs picks).lw.mem.wr), .int .i64 (wrap64 (llPlay z cs picks).lw.mem.sw), .int .i64 (wrap64 (llPlay z cs picks).lw.mem.ad), .int .i64 (wrap64 (llPlay z cs picks).lw.mem.ft), .int .i64 (llPlay z cs picks).lw.now, .int .i64 (llPlay z cs picks).idle] : List Value) rfl)
        have hld := run_loadVar_mid (P := Tryz.prog) (w5.setCells w.heap.size 0 ([.slice Ae ((llPlay z cs picks).ends llG).length ce, .slice (some ⟨g, 0, none⟩) (llPlay z cs picks).lw.mem.words.length c5, .int .i64 (wrap64 (llPlay z cs picks).lw.mem.rd), .int .i64 (wrap64 (llPlay z cs picks).lw.mem.wr), .int .i64 (wrap64 (llPlay z cs picks).lw.mem.sw), .int .i64 (wrap64 (llPlay z cs picks).lw.mem.ad), .int .i64 (wrap64 (llPlay z cs picks).lw.mem.ft), .int .i64 (llPlay z cs picks).lw.now, .int .i64 (llPlay z cs picks).idle] : List Value)) w.heap.size 0 32 ([.slice Ae ((llPlay z cs picks).ends llG).length ce, .slice (some ⟨g, 0, none⟩) (llPlay z cs picks).lw.mem.words.length c5, .int .i64 (wrap64 (llPlay z cs picks).lw.mem.rd), .int .i64 (wrap64 (llPlay z cs picks).lw.mem.wr), .int .i64 (wrap64 (llPlay z cs picks).lw.mem.sw), .int .i64 (wrap64 (llPlay z cs picks).lw.mem.ad), .int .i64 (wrap64 (llPlay z cs picks).lw.mem.ft), .int .i64 (llPlay z cs picks).lw.now, .int .i64 (llPlay z cs picks).idle] : List Value) _ hRS Tryz.underlying32 rfl (by kernel_rfl)
        refine bodyPost_ret (v := .tuple #[.agg #[.slice Ae ((llPlay z cs picks).ends llG).length ce, .slice (some ⟨g, 0, none⟩) (llPlay z cs picks).lw.mem.words.length c5, .int .i64 (wrap64 (llPlay z cs picks).lw.mem.rd), .int .i64 (wrap64 (llPlay z cs picks).lw.mem.wr), .int .i64 (wrap64 (llPlay z cs picks).lw.mem.sw), .int .i64 (wrap64 (llPlay z cs picks).lw.mem.ad), .int .i64 (wrap64 (llPlay z cs picks).lw.mem.ft), .int .i64 (llPlay z cs picks).lw.now, .int .i64 (llPlay z cs picks).idle], .int .i64 0]) (by simp [results, Tryz.results10, hld, asAddr]) rfl ?_
        exact out_done ([.slice Ae ((llPlay z cs picks).ends llG).length ce, .slice (some ⟨g, 0, none⟩) (llPlay z cs picks).lw.mem.words.length c5, .int .i64 (wrap64 (llPlay z cs picks).lw.mem.rd), .int .i64 (wrap64 (llPlay z cs picks).lw.mem.wr), .int .i64 (wrap64 (llPlay z cs picks).lw.mem.sw), .int .i64 (wrap64 (llPlay z cs picks).lw.mem.ad), .int .i64 (wrap64 (llPlay z cs picks).lw.mem.ft), .int .i64 (llPlay z cs picks).lw.now, .int .i64 (llPlay z cs picks).idle] : List Value) HEV.out hBz HWR.out HK5.out hMb HBW.out (fun k hk => by omega) (Nat.le_refl _) HWZ.out
    · (refine seq_run rfl (by rfl) (fun K hK => ?_); go_simp)
      refine hK _ _ trivial ?_
      clear hK K
      refine seq_run rfl (by rfl) (fun K hK => ?_)
      go_simp
      refine (llNewW z _).mono ?_
      rintro e w3 ⟨rfl, rfl⟩
      refine hK _ _ trivial ?_
      clear hK K
      repeat (refine seq_take (v := ?_) rfl (by rfl) ?_ ?_; rotate_left; (focus (intro wS hS; go_simp; exact rfl)); simp only [Act.put, List.setIfInBounds_toArray, List.set_cons_zero, List.set_cons_succ])
      (refine seq_run rfl (by rfl) (fun K hK => ?_); go_simp)
      refine hK _ _ trivial ?_
      clear hK K
      obtain ⟨m0, m1, m2⟩ := allocs3 w2.drew (.cells (madeCells #[.int .u64 0] z) 46) (.cells (llA18 z) 84) (.cells #[.iface 55 (.pointer (some ⟨w2.heap.size + 1, 0, none⟩))] 181)
      have hak := allocs3_keep w2.drew (.cells (madeCells #[.int .u64 0] z) 46) (.cells (llA18 z) 84) (.cells #[.iface 55 (.pointer (some ⟨w2.heap.size + 1, 0, none⟩))] 181)
      have C := llGoPlay (nn := n) (pe := w2.heap.size + 1) (ps := w2.heap.size + 1 + 1) (pz := w2.heap.size) (b0 := w.heap.size) hz1 m1 m2 m0 (HC2.out.below hak (Nat.le_refl _)) HM.out (HP2.out.below hak (Nat.le_refl _)) HPL.out HCU.out HE.out ((hak.block w.heap.size (by show w.heap.size < w2.heap.size; omega)).trans hb0) (by refine ⟨?_, ?_, ?_⟩ <;> omega) (fun a e hl => by have := hCZ a e hl; omega) (fun a e hl => by have := hPZ a e hl; omega)
      have hbW := hbw2.trans (hak.mono (show w.heap.size ≤ w2.drew.heap.size from hbw2.size))
      have hWz := Nat.lt_of_lt_of_le (show w.heap.size < w2.drew.heap.size from by show w.heap.size < w2.heap.size; omega) hak.size
      (refine seq_run rfl (by rfl) (fun K hK => ?_); go_simp)
      refine C.mono ?_
      rintro e w5 ⟨Ae, ce, B, Mu, g, c5, rfl, hEv, hBz, hwr, hk5, hz5, hMb⟩
      have HEV := hide hEv
      have HWR := hide hwr
      have HK5 := hide hk5
      have HBW := hide hbW
      have HWZ := hide hWz
      clear hEv hwr hk5 C hbW hWz m0 m1 m2
      refine hK _ _ trivial ?_
      clear hK K
      unfold repV
      repeat (refine seq_take (v := ?_) rfl (by rfl) ?_ ?_; rotate_left; (focus (intro wS hS; go_simp; exact rfl)); simp only [Act.put, List.setIfInBounds_toArray, List.set_cons_zero, List.set_cons_succ])
      refine seq_run rfl (by rfl) (fun K hK => ?_)
      refine wp_store_mid 32 (.tmp 8) (.tmp 36) rfl w.heap.size 0 ([.slice Ae ((llPlay z cs picks).ends llG).length ce, .slice (some ⟨g, 0, none⟩) (llPlay z cs picks).lw.mem.words.length c5, .int .i64 (wrap64 (llPlay z cs picks).lw.mem.rd), .int .i64 (wrap64 (llPlay z cs picks).lw.mem.wr), .int .i64 (wrap64 (llPlay z cs picks).lw.mem.sw), .int .i64 (wrap64 (llPlay z cs picks).lw.mem.ad), .int .i64 (wrap64 (llPlay z cs picks).lw.mem.ft), .int .i64 (llPlay z cs picks).lw.now, .int .i64 (llPlay z cs picks).idle] : List Value).toArray (by rfl) (by rfl) (zero_there hz5 ([.slice Ae ((llPlay z cs picks).ends llG).length ce, .slice (some ⟨g, 0, none⟩) (llPlay z cs picks).lw.mem.words.length c5, .int .i64 (wrap64 (llPlay z cs picks).lw.mem.rd), .int .i64 (wrap64 (llPlay z cs picks).lw.mem.wr), .int .i64 (wrap64 (llPlay z cs picks).lw.mem.sw), .int .i64 (wrap64 (llPlay z cs picks).lw.mem.ad), .int .i64 (wrap64 (llPlay z cs picks).lw.mem.ft), .int .i64 (llPlay z cs picks).lw.now, .int .i64 (llPlay z cs picks).idle] : List Value) rfl) (by kernel_rfl) (by kernel_rfl) ?_
      refine hK _ _ trivial ?_
      clear hK K
      repeat (refine seq_take (v := ?_) rfl (by rfl) ?_ ?_; rotate_left; (focus (intro wS hS; go_simp; exact rfl)); simp only [Act.put, List.setIfInBounds_toArray, List.set_cons_zero, List.set_cons_succ])
      refine seq_nil ?_
      go_wp2
      have hRS := World.rangeAt_setCells_same w5 w.heap.size 0 ([.slice Ae ((llPlay z cs picks).ends llG).length ce, .slice (some ⟨g, 0, none⟩) (llPlay z cs picks).lw.mem.words.length c5, .int .i64 (wrap64 (llPlay z cs picks).lw.mem.rd), .int .i64 (wrap64 (llPlay z cs picks).lw.mem.wr), .int .i64 (wrap64 (llPlay z cs picks).lw.mem.sw), .int .i64 (wrap64 (llPlay z cs picks).lw.mem.ad), .int .i64 (wrap64 (llPlay z cs picks).lw.mem.ft), .int .i64 (llPlay z cs picks).lw.now, .int .i64 (llPlay z cs picks).idle] : List Value) (zero_there hz5 ([.slice Ae ((llPlay z cs picks).ends llG).length ce, .slice (some ⟨g, 0, none⟩) (llPlay z cs picks).lw.mem.words.length c5, .int .i64 (wrap64 (llPlay z cs picks).lw.mem.rd), .int .i64 (wrap64 (llPlay z cs picks).lw.mem.wr), .int .i64 (wrap64 (llPlay z cs picks).lw.mem.sw), .int .i64 (wrap64 (llPlay z cs picks).lw.mem.ad), .int .i64 (wrap64 (llPlay z cs picks).lw.mem.ft), .int .i64 (llPlay z cs picks).lw.now, .int .i64 (llPlay z cs picks).idle] : List Value) rfl)
      have hld := run_loadVar_mid (P := Tryz.prog) (w5.setCells w.heap.size 0 ([.slice Ae ((llPlay z cs picks).ends llG).length ce, .slice (some ⟨g, 0, none⟩) (llPlay z cs picks).lw.mem.words.length c5, .int .i64 (wrap64 (llPlay z cs picks).lw.mem.rd), .int .i64 (wrap64 (llPlay z cs picks).lw.mem.wr), .int .i64 (wrap64 (llPlay z cs picks).lw.mem.sw), .int .i64 (wrap64 (llPlay z cs picks).lw.mem.ad), .int .i64 (wrap64 (llPlay z cs picks).lw.mem.ft), .int .i64 (llPlay z cs picks).lw.now, .int .i64 (llPlay z cs picks).idle] : List Value)) w.heap.size 0 32 ([.slice Ae ((llPlay z cs picks).ends llG).length ce, .slice (some ⟨g, 0, none⟩) (llPlay z cs picks).lw.mem.words.length c5, .int .i64 (wrap64 (llPlay z cs picks).lw.mem.rd), .int .i64 (wrap64 (llPlay z cs picks).lw.mem.wr), .int .i64 (wrap64 (llPlay z cs picks).lw.mem.sw), .int .i64 (wrap64 (llPlay z cs picks).lw.mem.ad), .int .i64 (wrap64 (llPlay z cs picks).lw.mem.ft), .int .i64 (llPlay z cs picks).lw.now, .int .i64 (llPlay z cs picks).idle] : List Value) _ hRS Tryz.underlying32 rfl (by kernel_rfl)
      refine bodyPost_ret (v := .tuple #[.agg #[.slice Ae ((llPlay z cs picks).ends llG).length ce, .slice (some ⟨g, 0, none⟩) (llPlay z cs picks).lw.mem.words.length c5, .int .i64 (wrap64 (llPlay z cs picks).lw.mem.rd), .int .i64 (wrap64 (llPlay z cs picks).lw.mem.wr), .int .i64 (wrap64 (llPlay z cs picks).lw.mem.sw), .int .i64 (wrap64 (llPlay z cs picks).lw.mem.ad), .int .i64 (wrap64 (llPlay z cs picks).lw.mem.ft), .int .i64 (llPlay z cs picks).lw.now, .int .i64 (llPlay z cs picks).idle], .int .i64 0]) (by simp [results, Tryz.results10, hld, asAddr]) rfl ?_
      exact out_done ([.slice Ae ((llPlay z cs picks).ends llG).length ce, .slice (some ⟨g, 0, none⟩) (llPlay z cs picks).lw.mem.words.length c5, .int .i64 (wrap64 (llPlay z cs picks).lw.mem.rd), .int .i64 (wrap64 (llPlay z cs picks).lw.mem.wr), .int .i64 (wrap64 (llPlay z cs picks).lw.mem.sw), .int .i64 (wrap64 (llPlay z cs picks).lw.mem.ad), .int .i64 (wrap64 (llPlay z cs picks).lw.mem.ft), .int .i64 (llPlay z cs picks).lw.now, .int .i64 (llPlay z cs picks).idle] : List Value) HEV.out hBz HWR.out HK5.out hMb HBW.out (fun k hk => by omega) (Nat.le_refl _) HWZ.out
  · rw [if_pos h0]
    have d0 : (E != 0) = true := by simpa using h0
    have hth := fun (w2 : World) (hb : Below (w.alloc zeroRep).heap.size (w.alloc zeroRep) w2) => zero_there ((hb.block w.heap.size (by rw [HSZ.out]; omega)).trans HROW.out) ([.slice none 0 0, .slice none 0 0, .int .i64 0, .int .i64 0, .int .i64 0, .int .i64 0, .int .i64 0, .int .i64 0, .int .i64 0] : List Value) rfl
    have HTH := hide hth
    clear hth
    go_enter Tryz.func10, Tryz.ntmps10
    go_wp2_with fail
    refine N0.mono ?_
    rintro e w2 ⟨rfl, hb⟩
    have HB := hide hb
    have hth := HTH.out w2 hb
    have hz2 : w.heap.size + 1 ≤ w2.heap.size := by have := hb.size; rw [← HSZ.out]; exact this
    have hz : w.heap.size < w2.heap.size := by omega
    clear hb N0
    go_wp2_with (refine wpList_store_mid rfl 32 (.tmp 8) (.tmp 17) rfl w.heap.size 0 ([.slice none 0 0, .slice none 0 0, .int .i64 0, .int .i64 0, .int .i64 0, .int .i64 0, .int .i64 0, .int .i64 0, .int .i64 0] : List Value).toArray (by rfl) (by rfl) hth (by kernel_rfl) (by kernel_rfl) ?_)
    have hRS := World.rangeAt_setCells_same w2 w.heap.size 0 ([.slice none 0 0, .slice none 0 0, .int .i64 0, .int .i64 0, .int .i64 0, .int .i64 0, .int .i64 0, .int .i64 0, .int .i64 0] : List Value) hth
    have hld := run_loadVar_mid (P := Tryz.prog) (w2.setCells w.heap.size 0 ([.slice none 0 0, .slice none 0 0, .int .i64 0, .int .i64 0, .int .i64 0, .int .i64 0, .int .i64 0, .int .i64 0, .int .i64 0] : List Value)) w.heap.size 0 32 ([.slice none 0 0, .slice none 0 0, .int .i64 0, .int .i64 0, .int .i64 0, .int .i64 0, .int .i64 0, .int .i64 0, .int .i64 0] : List Value) _ hRS Tryz.underlying32 rfl (by kernel_rfl)
    refine bodyPost_ret (v := .tuple #[zeroV, .int .i64 E]) (by simp [results, Tryz.results10, hld, asAddr, zeroV]) rfl (Or.inl ⟨h0, rfl, ?_⟩)
    have h1 : Keep (fun k => k < w.heap.size) w w2 := (Keep.of_below (K := fun k => k < w.heap.size) HBA.out (fun k hk => hk)).trans (Keep.of_below (K := fun k => k < w.heap.size) HB.out (fun k hk => by simp; omega))
    exact (Keep.setCells h1 (b := w.heap.size) (by simp) 0 ([.slice none 0 0, .slice none 0 0, .int .i64 0, .int .i64 0, .int .i64 0, .int .i64 0, .int .i64 0, .int .i64 0, .int .i64 0] : List Value)).below (fun k hk => hk)
end Go.Proofs.YtlfingcmekifkaaGreat
