import Derived.Test.YtlfingcmekifkaaGreatBun25
import Derived.Test.YtlfingcmekifkaaGreatBun8
import Derived.Test.YtlfingcmekifkaaGreatBun27
namespace Go.Proofs.YtlfingcmekifkaaGreat
open Go.RowKit
def adA18 (n : Int) : Array Value := #[.int .i64 0, .int .i64 n, .bool false, .bool false, .bool false, .bool false, .bool false, .bool false, .bool false, .bool false, .bool false, .bool false, .bool false, .bool false, .bool false, .bool false, .bool false, .bool false]
set_option maxRecDepth 100000 in
theorem adNewW (n : Int) (w : World) : Calls Tryz.prog 30 #[.int .i64 0, .int .i64 n] w fun e w' => e = .returned (.pointer (some ⟨w.heap.size, 0, none⟩)) ∧ w' = w.alloc (.cells (adA18 n) 116) := by
  unfold adA18
  go_enter Tryz.func30, Tryz.ntmps30
  go_wp2
  go_ret
  exact ⟨rfl, rfl⟩
theorem adOB_new {w : World} {pe n : Nat} (h : w.heap[pe]? = some (.cells (adA18 n) 116 (0, 0))) : adOB pe w (fun k => k = pe) ⟨n, fun _ => false⟩ := by
  refine ⟨fun k => Iff.rfl, _, rowIs_lit h rfl, rfl, rfl, fun t ht => ?_⟩
  match t, ht with
  | 0, _ => rfl
  | 1, _ => rfl
  | 2, _ => rfl
  | 3, _ => rfl
  | 4, _ => rfl
  | 5, _ => rfl
  | 6, _ => rfl
  | 7, _ => rfl
  | 8, _ => rfl
  | 9, _ => rfl
  | 10, _ => rfl
  | 11, _ => rfl
  | 12, _ => rfl
  | 13, _ => rfl
  | 14, _ => rfl
  | 15, _ => rfl
  | t + 16, h => exact absurd h (by omega)
theorem adGood_new (n : Nat) (hn : 1 ≤ n ∧ n ≤ 16) (m : Nat) : adGood n ⟨n, fun _ => false⟩ (Ps.new (List.replicate (2 * n) 0) (⟨n, fun _ => false⟩ : Ad) m : Ps AM Ad).lw (fun _ => none) := by
  refine ⟨rfl, hn, fun x hx => ?_, fun t m h => by cases h⟩
  have : x ∈ List.replicate (2 * n) (0 : Int) := hx
  rw [List.eq_of_mem_replicate this]
  omega
theorem adGo {W : World} {pe ps pz nn b0 : Nat} {A : Option Addr} {m c : Nat} {cs : List Cl} {Ap : Option Addr} {np cp : Nat} {picks : List Int} (hn : 1 ≤ nn ∧ nn ≤ 16) (he : W.heap[pe]? = some (.cells (adA18 nn) 116 (0, 0))) (hs : W.heap[ps]? = some (.cells #[.iface 66 (.pointer (some ⟨pe, 0, none⟩))] 181 (0, 0))) (hz : W.heap[pz]? = some (.cells (madeCells #[.int .u64 0] (2 * nn)) 46 (0, 0)))
    (h : SlCl W (.slice A m c) cs) (hm : cs.length = m) (hp : SlI W (.slice Ap np cp) picks) (hpl : picks.length = np) (hcu : ∀ c ∈ cs, ClU c) (hE : chkE nn cs picks.length = 0) (hb : W.heap[b0]? = some zeroRep) (hbs : b0 ≠ pe ∧ b0 ≠ ps ∧ pe ≠ ps) (hC : ∀ a : Addr, A = some a → 0 < cs.length → a.block ≠ pe ∧ a.block ≠ b0) (hP : ∀ a : Addr, Ap = some a → 0 < picks.length → a.block ≠ pe ∧ a.block ≠ b0) :
    Calls Tryz.prog 23 #[.int .i64 nn, .slice (some ⟨ps, 0, none⟩) 1 1, .slice (some ⟨pz, 0, none⟩) (2 * nn) (2 * nn), .slice A m c, .slice Ap np cp] W (MidPost b0 (fun k => k = pe) ((adPlay nn cs picks).ends adG) (adPlay nn cs picks).lw.mem (adPlay nn cs picks).lw.now (adPlay nn cs picks).idle W) :=
  loomPlayMid (T := adTh pe nn) (n := nn) (AO := some ⟨ps, 0, none⟩) (co := 1) (adTh_ok pe nn) (made_sl hz (by unfold maxLen; omega)) (by simp) (by omega) h hm hp hpl (adOB_new he) (objs_one hs) (fun a e _ h => by cases e; exact hbs.2.2 h.symm) (fun a e hl => (hC a e hl).1) (fun a e hl => (hP a e hl).1) hcu (adGood_new nn hn cs.length) hE hb hbs.1 (fun a e h => by cases e; exact hbs.2.1 h.symm) (fun a e hl => (hC a e hl).2) (fun a e hl => (hP a e hl).2)
set_option maxRecDepth 100000 in
set_option maxHeartbeats 2000000 in
theorem adoptPlay (n : Int) (A : Option Addr) (m c : Nat) (cs : List Cl) (Ap : Option Addr) (np cp : Nat) (picks : List Int) (w : World) (h : SlCl w (.slice A m c) cs) (hm : cs.length = m) (hp : SlI w (.slice Ap np cp) picks) (hpl : picks.length = np) (hcu : ∀ c ∈ cs, ClU c) :
    Calls Tryz.prog 17 #[.int .i64 n, .slice A m c, .slice Ap np cp] w (OutPost (chkE n cs picks.length) ((adPlay n.toNat cs picks).ends adG) (adPlay n.toNat cs picks).lw.mem (adPlay n.toNat cs picks).lw.now (adPlay n.toNat cs picks).idle w) := by
  have hba : Below w.heap.size w (w.alloc zeroRep) := (Below.refl _ w).alloc (Nat.le_refl _) _
  have hsz : (w.alloc zeroRep).heap.size = w.heap.size + 1 := by simp
  have hrow : (w.alloc zeroRep).heap[w.heap.size]? = some zeroRep := heap_alloc_new w zeroRep
  have hCZ : ∀ a : Addr, A = some a → 0 < cs.length → a.block < w.heap.size := fun a e hl => sl_block h e hl
  have hPZ : ∀ a : Addr, Ap = some a → 0 < picks.length → a.block < w.heap.size := fun a e hl => sl_block hp e hl
  have h1 := h.below hba (Nat.le_refl _)
  have hp1 := hp.below hba (Nat.le_refl _)
  have N0 := loomCheck n A m c cs Ap np cp _ h1 hm
  have HBA := hide hba
  have HSZ := hide hsz
  have HROW := hide hrow
  have HH1 := hide h1
  have HP1 := hide hp1
  have HCU := hide hcu
  have HPL := hide hpl
  have HM := hide hm
  clear h hp hba hsz hrow h1 hp1 hcu
  obtain ⟨E, hE⟩ : ∃ E, chkE n cs picks.length = E := ⟨_, rfl⟩
  have hE' : chkE n cs np = E := by rw [← hE, hpl]
  rw [hE'] at N0
  rw [hE]
  have HE := hide hE
  clear hE hE' hpl hm
  unfold zeroRep at N0
  by_cases h0 : E = 0
  · subst h0
    have hn : 1 ≤ n ∧ n ≤ 16 := by
      have hE := HE.out
      unfold chkE at hE
      split at hE
      · cases hE
      · rename_i h; omega
    obtain ⟨nn, rfl⟩ : ∃ nn : Nat, n = nn := ⟨n.toNat, by omega⟩
    have hn' : 1 ≤ nn ∧ nn ≤ 16 := by omega
    have hmk : ∀ W, (Instr.makeSlice 28 (.int .i64 (2 * (nn : Int))) (.int .i64 (2 * (nn : Int)))).run Tryz.prog W = .ok (.slice (some ⟨W.heap.size, 0, none⟩) (2 * nn) (2 * nn)) (W.alloc (.cells (madeCells #[.int .u64 0] (2 * nn)) 46)) := by
      intro W
      have := run_make_row' (P := Tryz.prog) 28 46 (.int .u64 0) 8 Tryz.underlying28 info_word rfl .i64 .i64 (2 * nn) (by omega) (by omega) W
      rw [show ((2 * nn : Nat) : Int) = 2 * (nn : Int) by omega] at this
      exact this
    have hw2 : IntKind.i64.wrap (2 * (nn : Int)) = 2 * (nn : Int) := wrap_i64 (by omega) (by omega)
    rw [Int.toNat_natCast]
    clear hn
    go_enter Tryz.func17, Tryz.ntmps17
    go_wp2_with fail
    refine N0.mono ?_
    rintro e w2 ⟨rfl, hb⟩
    have HB := hide hb
    have hz2 : w.heap.size + 1 ≤ w2.heap.size := by have := hb.size; rw [← HSZ.out]; exact this
    have hb0 : w2.drew.heap[w.heap.size]? = some zeroRep := (hb.block w.heap.size (by show w.heap.size < (w.alloc zeroRep).heap.size; rw [HSZ.out]; omega)).trans HROW.out
    have hbw2 : Below w.heap.size w w2.drew := (HBA.out.trans (hb.mono (show w.heap.size ≤ (w.alloc zeroRep).heap.size by rw [HSZ.out]; omega))).drew
    have hc2 : SlCl w2.drew (.slice A m c) cs := HH1.out.below (show Below (w.alloc zeroRep).heap.size (w.alloc zeroRep) w2.drew from Below.drew hb) (Nat.le_refl _)
    have hp2 : SlI w2.drew (.slice Ap np cp) picks := HP1.out.below (show Below (w.alloc zeroRep).heap.size (w.alloc zeroRep) w2.drew from Below.drew hb) (Nat.le_refl _)
    have HC2 := hide hc2
    have HP2 := hide hp2
    clear hb N0 hc2 hp2
    go_wp2
    refine wp_region_seq (fun _ => True) (.take 0 <| .take 1 <| .take 5 <| .take 6 <| .take 8 <| .take 9 <| .fork 2 (.take 3 <| .fork 4 (.run 7 <| .run 10 <| .take 11 <| .take 12 <| .run 13 <| .take 14 <| .done) 7 (.run 4 <| .run 10 <| .take 11 <| .take 12 <| .run 13 <| .take 14 <| .done)) 7 (.run 2 <| .take 3 <| .run 4 <| .run 10 <| .take 11 <| .take 12 <| .run 13 <| .take 14 <| .done)) (by kernel_rfl) (by kernel_rfl) (by kernel_rfl) trivial ?_
    repeat (refine seq_take (v := ?_) rfl (by rfl) ?_ ?_; rotate_left; (focus (intro wS hS; go_simp; exact rfl)); simp only [Act.put, List.setIfInBounds_toArray, List.set_cons_zero, List.set_cons_succ])
    refine seq_fork ?_ ?_
    · (refine seq_run rfl (by rfl) (fun K hK => ?_); go_simp)
      refine (adNewW nn _).mono ?_
      rintro e w3 ⟨rfl, rfl⟩
      refine hK _ _ trivial ?_
      clear hK K
      repeat (refine seq_take (v := ?_) rfl (by rfl) ?_ ?_; rotate_left; (focus (intro wS hS; go_simp; exact rfl)); simp only [Act.put, List.setIfInBounds_toArray, List.set_cons_zero, List.set_cons_succ])
      refine seq_fork ?_ ?_
      · (refine seq_run rfl (by rfl) (fun K hK => ?_); go_simp)
        refine hK _ _ trivial ?_
        clear hK K
        (refine seq_run rfl (by rfl) (fun K hK => ?_); go_simp)
        refine hK _ _ trivial ?_
        clear hK K
        obtain ⟨m0, m1, m2⟩ := allocs3 w2.drew (.cells (adA18 nn) 116) (.cells #[.iface 66 (.pointer (some ⟨w2.heap.size, 0, none⟩))] 181) (.cells (madeCells #[.int .u64 0] (2 * nn)) 46)
        have hak := allocs3_keep w2.drew (.cells (adA18 nn) 116) (.cells #[.iface 66 (.pointer (some ⟨w2.heap.size, 0, none⟩))] 181) (.cells (madeCells #[.int .u64 0] (2 * nn)) 46)
        have C := adGo (pe := w2.heap.size) (ps := w2.heap.size + 1) (pz := w2.heap.size + 1 + 1) (b0 := w.heap.size) hn' m0 m1 m2 (HC2.out.below hak (Nat.le_refl _)) HM.out (HP2.out.below hak (Nat.le_refl _)) HPL.out HCU.out HE.out ((hak.block w.heap.size (by show w.heap.size < w2.heap.size; omega)).trans hb0) (by refine ⟨?_, ?_, ?_⟩ <;> omega) (fun a e hl => by have := hCZ a e hl; omega) (fun a e hl => by have := hPZ a e hl; omega)
        have hbW := hbw2.trans (hak.mono (show w.heap.size ≤ w2.drew.heap.size from hbw2.size))
        have hWz := Nat.lt_of_lt_of_le (show w.heap.size < w2.drew.heap.size from by show w.heap.size < w2.heap.size; omega) hak.size
        (refine seq_run rfl (by rfl) (fun K hK => ?_); go_simp)
        refine C.mono ?_
        rintro e w5 ⟨Ae, ce, B, Mu, g, c5, rfl, hEv, hBz, hwr, hk5, hz5, hMb⟩
        have HEV := hide hEv
        have HWR := hide hwr
        have HK5 := hide hk5
        have HBW := hide hbW
        have HWZ := hide hWz
        clear hEv hwr hk5 C hbW hWz m0 m1 m2
        refine hK _ _ trivial ?_
        clear hK K
        unfold repV
        repeat (refine seq_take (v := ?_) rfl (by rfl) ?_ ?_; rotate_left; (focus (intro wS hS; go_simp; exact rfl)); simp only [Act.put, List.setIfInBounds_toArray, List.set_cons_zero, List.set_cons_succ])
        refine seq_run rfl (by rfl) (fun K hK => ?_)
        refine wp_store_mid 32 (.tmp 6) (.tmp 28) rfl w.heap.size 0 ([.slice Ae ((adPlay nn cs picks).ends adG).length ce, .slice (some ⟨g, 0, none⟩) (adPlay nn cs picks).lw.mem.words.length c5, .int .i64 (wrap64 (adPlay nn cs picks).lw.mem.rd), .int .i64 (wrap64 (adPlay nn cs picks).lw.mem.wr), .int .i64 (wrap64 (adPlay nn cs picks).lw.mem.sw), .int .i64 (wrap64 (adPlay nn cs picks).lw.mem.ad), .int .i64 (wrap64 (adPlay nn cs picks).lw.mem.ft), .int .i64 (adPlay nn cs picks).lw.now, .int .i64 (adPlay nn cs picks).idle] : List Value).toArray (by rfl) (by rfl) (zero_there hz5 ([.slice Ae ((adPlay nn cs picks).ends adG).length ce, .slice (some ⟨g, 0, none⟩) (adPlay nn cs picks).lw.mem.words.length c5, .int .i64 (wrap64 (adPlay nn cs picks).lw.mem.rd), .int .i64 (wrap64 (adPlay nn cs picks).lw.mem.wr), .int .i64 (wrap64 (adPlay nn cs picks).lw.mem.sw), .int .i64 (wrap64 (adPlay nn cs picks).lw.mem.ad), .int .i64 (wrap64 (adPlay nn cs picks).lw.mem.ft), .int .i64 (adPlay nn cs picks).lw.now, .int .i64 (adPlay nn cs picks).idle] : List Value) rfl) (by kernel_rfl) (by kernel_rfl) ?_
        refine hK _ _ trivial ?_
        clear hK K
        repeat (refine seq_take (v := ?_) rfl (by rfl) ?_ ?_; rotate_left; (focus (intro wS hS; go_simp; exact rfl)); simp only [Act.put, List.setIfInBounds_toArray, List.set_cons_zero, List.set_cons_succ])
        refine seq_nil ?_
        go_wp2
        have hRS := World.rangeAt_setCells_same w5 w.heap.size 0 ([.slice Ae ((adPlay nn cs picks).ends adG).length ce, .slice (some ⟨g, 0, none⟩) (adPlay nn cs picks).lw.mem.words.length c5, .int .i64 (wrap64 (adPlay nn cs picks).lw.mem.rd), .int .i64 (wrap64 (adPlay nn cs picks).lw.mem.wr), .int .i64 (wrap64 (adPlay nn cs picks).lw.mem.sw), .int .i64 (wrap64 (adPlay nn cs picks).lw.mem.ad), .int .i64 (wrap64 (adPlay nn cs picks).lw.mem.ft), .int .i64 (adPlay nn cs picks).lw.now, .int .i64 (adPlay nn cs picks).idle] : List Value) (zero_there hz5 ([.slice Ae ((adPlay nn cs picks).ends adG).length ce, .slice (some ⟨g, 0, none⟩) (adPlay nn cs picks).lw.mem.words.length c5, .int .i64 (wrap64 (adPlay nn cs picks).lw.mem.rd), .int .i64 (wrap64 (adPlay nn cs picks).lw.mem.wr), .int .i64 (wrap64 (adPlay nn cs picks).lw.mem.sw), .int .i64 (wrap64 (adPlay nn cs picks).lw.mem.ad), .int .i64 (wrap64 (adPlay nn cs picks).lw.mem.ft), .int .i64 (adPlay nn cs picks).lw.now, .int .i64 (adPlay nn cs picks).idle] : List Value) rfl)
        have hld := run_loadVar_mid (P := Tryz.prog) (w5.setCells w.heap.size 0 ([.slice Ae ((adPlay nn cs picks).ends adG).length ce, .slice (some ⟨g, 0, none⟩) (adPlay nn cs picks).lw.mem.words.length c5, .int .i64 (wrap64 (adPlay nn cs picks).lw.mem.rd), .int .i64 (wrap64 (adPlay nn cs picks).lw.mem.wr), .int .i64 (wrap64 (adPlay nn cs picks).lw.mem.sw), .int .i64 (wrap64 (adPlay nn cs picks).lw.mem.ad), .int .i64 (wrap64 (adPlay nn cs picks).lw.mem.ft), .int .i64 (adPlay nn cs picks).lw.now, .int .i64 (adPlay nn cs picks).idle] : List Value)) w.heap.size 0 32 ([.slice Ae ((adPlay nn cs picks).ends adG).length ce, .slice (some ⟨g, 0, none⟩) (adPlay nn cs picks).lw.mem.words.length c5, .int .i64 (wrap64 (adPlay nn cs picks).lw.mem.rd), .int .i64 (wrap64 (adPlay nn cs picks).lw.mem.wr), .int .i64 (wrap64 (adPlay nn cs picks).lw.mem.sw), .int .i64 (wrap64 (adPlay nn cs picks).lw.mem.ad), .int .i64 (wrap64 (adPlay nn cs picks).lw.mem.ft), .int .i64 (adPlay nn cs picks).lw.now, .int .i64 (adPlay nn cs picks).idle] : List Value) _ hRS Tryz.underlying32 rfl (by kernel_rfl)
        refine bodyPost_ret (v := .tuple #[.agg #[.slice Ae ((adPlay nn cs picks).ends adG).length ce, .slice (some ⟨g, 0, none⟩) (adPlay nn cs picks).lw.mem.words.length c5, .int .i64 (wrap64 (adPlay nn cs picks).lw.mem.rd), .int .i64 (wrap64 (adPlay nn cs picks).lw.mem.wr), .int .i64 (wrap64 (adPlay nn cs picks).lw.mem.sw), .int .i64 (wrap64 (adPlay nn cs picks).lw.mem.ad), .int .i64 (wrap64 (adPlay nn cs picks).lw.mem.ft), .int .i64 (adPlay nn cs picks).lw.now, .int .i64 (adPlay nn cs picks).idle], .int .i64 0]) (by simp [results, Tryz.results17, hld, asAddr]) rfl ?_
        exact out_done ([.slice Ae ((adPlay nn cs picks).ends adG).length ce, .slice (some ⟨g, 0, none⟩) (adPlay nn cs picks).lw.mem.words.length c5, .int .i64 (wrap64 (adPlay nn cs picks).lw.mem.rd), .int .i64 (wrap64 (adPlay nn cs picks).lw.mem.wr), .int .i64 (wrap64 (adPlay nn cs picks).lw.mem.sw), .int .i64 (wrap64 (adPlay nn cs picks).lw.mem.ad), .int .i64 (wrap64 (adPlay nn cs picks).lw.mem.ft), .int .i64 (adPlay nn cs picks).lw.now, .int .i64 (adPlay nn cs picks).idle] : List Value) HEV.out hBz HWR.out HK5.out hMb HBW.out (fun k hk => by omega) (Nat.le_refl _) HWZ.out
      · (refine seq_run rfl (by rfl) (fun K hK => ?_); go_simp)
        refine hK _ _ trivial ?_
        clear hK K
        (refine seq_run rfl (by rfl) (fun K hK => ?_); go_simp)
        refine hK _ _ trivial ?_
        clear hK K
        obtain ⟨m0, m1, m2⟩ := allocs3 w2.drew (.cells (adA18 nn) 116) (.cells (madeCells #[.int .u64 0] (2 * nn)) 46) (.cells #[.iface 66 (.pointer (some ⟨w2.heap.size, 0, none⟩))] 181)
        have hak := allocs3_keep w2.drew (.cells (adA18 nn) 116) (.cells (madeCells #[.int .u64 0] (2 * nn)) 46) (.cells #[.iface 66 (.pointer (some ⟨w2.heap.size, 0, none⟩))] 181)
        have C := adGo (pe := w2.heap.size) (ps := w2.heap.size + 1 + 1) (pz := w2.heap.size + 1) (b0 := w.heap.size) hn' m0 m2 m1 (HC2.out.below hak (Nat.le_refl _)) HM.out (HP2.out.below hak (Nat.le_refl _)) HPL.out HCU.out HE.out ((hak.block w.heap.size (by show w.heap.size < w2.heap.size; omega)).trans hb0) (by refine ⟨?_, ?_, ?_⟩ <;> omega) (fun a e hl => by have := hCZ a e hl; omega) (fun a e hl => by have := hPZ a e hl; omega)
        have hbW := hbw2.trans (hak.mono (show w.heap.size ≤ w2.drew.heap.size from hbw2.size))
        have hWz := Nat.lt_of_lt_of_le (show w.heap.size < w2.drew.heap.size from by show w.heap.size < w2.heap.size; omega) hak.size
        (refine seq_run rfl (by rfl) (fun K hK => ?_); go_simp)
        refine C.mono ?_
        rintro e w5 ⟨Ae, ce, B, Mu, g, c5, rfl, hEv, hBz, hwr, hk5, hz5, hMb⟩
        have HEV := hide hEv
        have HWR := hide hwr
        have HK5 := hide hk5
        have HBW := hide hbW
        have HWZ := hide hWz
        clear hEv hwr hk5 C hbW hWz m0 m1 m2
        refine hK _ _ trivial ?_
        clear hK K
        unfold repV
        repeat (refine seq_take (v := ?_) rfl (by rfl) ?_ ?_; rotate_left; (focus (intro wS hS; go_simp; exact rfl)); simp only [Act.put, List.setIfInBounds_toArray, List.set_cons_zero, List.set_cons_succ])
        refine seq_run rfl (by rfl) (fun K hK => ?_)
        refine wp_store_mid 32 (.tmp 6) (.tmp 28) rfl w.heap.size 0 ([.slice Ae ((adPlay nn cs picks).ends adG).length ce, .slice (some ⟨g, 0, none⟩) (adPlay nn cs picks).lw.mem.words.length c5, .int .i64 (wrap64 (adPlay nn cs picks).lw.mem.rd), .int .i64 (wrap64 (adPlay nn cs picks).lw.mem.wr), .int .i64 (wrap64 (adPlay nn cs picks).lw.mem.sw), .int .i64 (wrap64 (adPlay nn cs picks).lw.mem.ad), .int .i64 (wrap64 (adPlay nn cs picks).lw.mem.ft), .int .i64 (adPlay nn cs picks).lw.now, .int .i64 (adPlay nn cs picks).idle] : List Value).toArray (by rfl) (by rfl) (zero_there hz5 ([.slice Ae ((adPlay nn cs picks).ends adG).length ce, .slice (some ⟨g, 0, none⟩) (adPlay nn cs picks).lw.mem.words.length c5, .int .i64 (wrap64 (adPlay nn cs picks).lw.mem.rd), .int .i64 (wrap64 (adPlay nn cs picks).lw.mem.wr), .int .i64 (wrap64 (adPlay nn cs picks).lw.mem.sw), .int .i64 (wrap64 (adPlay nn cs picks).lw.mem.ad), .int .i64 (wrap64 (adPlay nn cs picks).lw.mem.ft), .int .i64 (adPlay nn cs picks).lw.now, .int .i64 (adPlay nn cs picks).idle] : List Value) rfl) (by kernel_rfl) (by kernel_rfl) ?_
        refine hK _ _ trivial ?_
        clear hK K
        repeat (refine seq_take (v := ?_) rfl (by rfl) ?_ ?_; rotate_left; (focus (intro wS hS; go_simp; exact rfl)); simp only [Act.put, List.setIfInBounds_toArray, List.set_cons_zero, List.set_cons_succ])
        refine seq_nil ?_
        go_wp2
        have hRS := World.rangeAt_setCells_same w5 w.heap.size 0 ([.slice Ae ((adPlay nn cs picks).ends adG).length ce, .slice (some ⟨g, 0, none⟩) (adPlay nn cs picks).lw.mem.words.length c5, .int .i64 (wrap64 (adPlay nn cs picks).lw.mem.rd), .int .i64 (wrap64 (adPlay nn cs picks).lw.mem.wr), .int .i64 (wrap64 (adPlay nn cs picks).lw.mem.sw), .int .i64 (wrap64 (adPlay nn cs picks).lw.mem.ad), .int .i64 (wrap64 (adPlay nn cs picks).lw.mem.ft), .int .i64 (adPlay nn cs picks).lw.now, .int .i64 (adPlay nn cs picks).idle] : List Value) (zero_there hz5 ([.slice Ae ((adPlay nn cs picks).ends adG).length ce, .slice (some ⟨g, 0, none⟩) (adPlay nn cs picks).lw.mem.words.length c5, .int .i64 (wrap64 (adPlay nn cs picks).lw.mem.rd), .int .i64 (wrap64 (adPlay nn cs picks).lw.mem.wr), .int .i64 (wrap64 (adPlay nn cs picks).lw.mem.sw), .int .i64 (wrap64 (adPlay nn cs picks).lw.mem.ad), .int .i64 (wrap64 (adPlay nn cs picks).lw.mem.ft), .int .i64 (adPlay nn cs picks).lw.now, .int .i64 (adPlay nn cs picks).idle] : List Value) rfl)
        have hld := run_loadVar_mid (P := Tryz.prog) (w5.setCells w.heap.size 0 ([.slice Ae ((adPlay nn cs picks).ends adG).length ce, .slice (some ⟨g, 0, none⟩) (adPlay nn cs picks).lw.mem.words.length c5, .int .i64 (wrap64 (adPlay nn cs picks).lw.mem.rd), .int .i64 (wrap64 (adPlay nn cs picks).lw.mem.wr), .int .i64 (wrap64 (adPlay nn cs picks).lw.mem.sw), .int .i64 (wrap64 (adPlay nn cs picks).lw.mem.ad), .int .i64 (wrap64 (adPlay nn cs picks).lw.mem.ft), .int .i64 (adPlay nn cs picks).lw.now, .int .i64 (adPlay nn cs picks).idle] : List Value)) w.heap.size 0 32 ([.slice Ae ((adPlay nn cs picks).ends adG).length ce, .slice (some ⟨g, 0, none⟩) (adPlay nn cs picks).lw.mem.words.length c5, .int .i64 (wrap64 (adPlay nn cs picks).lw.mem.rd), .int .i64 (wrap64 (adPlay nn cs picks).lw.mem.wr), .int .i64 (wrap64 (adPlay nn cs picks).lw.mem.sw), .int .i64 (wrap64 (adPlay nn cs picks).lw.mem.ad), .int .i64 (wrap64 (adPlay nn cs picks).lw.mem.ft), .int .i64 (adPlay nn cs picks).lw.now, .int .i64 (adPlay nn cs picks).idle] : List Value) _ hRS Tryz.underlying32 rfl (by kernel_rfl)
        refine bodyPost_ret (v := .tuple #[.agg #[.slice Ae ((adPlay nn cs picks).ends adG).length ce, .slice (some ⟨g, 0, none⟩) (adPlay nn cs picks).lw.mem.words.length c5, .int .i64 (wrap64 (adPlay nn cs picks).lw.mem.rd), .int .i64 (wrap64 (adPlay nn cs picks).lw.mem.wr), .int .i64 (wrap64 (adPlay nn cs picks).lw.mem.sw), .int .i64 (wrap64 (adPlay nn cs picks).lw.mem.ad), .int .i64 (wrap64 (adPlay nn cs picks).lw.mem.ft), .int .i64 (adPlay nn cs picks).lw.now, .int .i64 (adPlay nn cs picks).idle], .int .i64 0]) (by simp [results, Tryz.results17, hld, asAddr]) rfl ?_
        exact out_done ([.slice Ae ((adPlay nn cs picks).ends adG).length ce, .slice (some ⟨g, 0, none⟩) (adPlay nn cs picks).lw.mem.words.length c5, .int .i64 (wrap64 (adPlay nn cs picks).lw.mem.rd), .int .i64 (wrap64 (adPlay nn cs picks).lw.mem.wr), .int .i64 (wrap64 (adPlay nn cs picks).lw.mem.sw), .int .i64 (wrap64 (adPlay nn cs picks).lw.mem.ad), .int .i64 (wrap64 (adPlay nn cs picks).lw.mem.ft), .int .i64 (adPlay nn cs picks).lw.now, .int .i64 (adPlay nn cs picks).idle] : List Value) HEV.out hBz HWR.out HK5.out hMb HBW.out (fun k hk => by omega) (Nat.le_refl _) HWZ.out
    · (refine seq_run rfl (by rfl) (fun K hK => ?_); go_simp)
      refine hK _ _ trivial ?_
      clear hK K
      refine seq_run rfl (by rfl) (fun K hK => ?_)
      go_simp
      refine (adNewW nn _).mono ?_
      rintro e w3 ⟨rfl, rfl⟩
      refine hK _ _ trivial ?_
      clear hK K
      repeat (refine seq_take (v := ?_) rfl (by rfl) ?_ ?_; rotate_left; (focus (intro wS hS; go_simp; exact rfl)); simp only [Act.put, List.setIfInBounds_toArray, List.set_cons_zero, List.set_cons_succ])
      (refine seq_run rfl (by rfl) (fun K hK => ?_); go_simp)
      refine hK _ _ trivial ?_
      clear hK K
      obtain ⟨m0, m1, m2⟩ := allocs3 w2.drew (.cells (madeCells #[.int .u64 0] (2 * nn)) 46) (.cells (adA18 nn) 116) (.cells #[.iface 66 (.pointer (some ⟨w2.heap.size + 1, 0, none⟩))] 181)
      have hak := allocs3_keep w2.drew (.cells (madeCells #[.int .u64 0] (2 * nn)) 46) (.cells (adA18 nn) 116) (.cells #[.iface 66 (.pointer (some ⟨w2.heap.size + 1, 0, none⟩))] 181)
      have C := adGo (pe := w2.heap.size + 1) (ps := w2.heap.size + 1 + 1) (pz := w2.heap.size) (b0 := w.heap.size) hn' m1 m2 m0 (HC2.out.below hak (Nat.le_refl _)) HM.out (HP2.out.below hak (Nat.le_refl _)) HPL.out HCU.out HE.out ((hak.block w.heap.size (by show w.heap.size < w2.heap.size; omega)).trans hb0) (by refine ⟨?_, ?_, ?_⟩ <;> omega) (fun a e hl => by have := hCZ a e hl; omega) (fun a e hl => by have := hPZ a e hl; omega)
      have hbW := hbw2.trans (hak.mono (show w.heap.size ≤ w2.drew.heap.size from hbw2.size))
      have hWz := Nat.lt_of_lt_of_le (show w.heap.size < w2.drew.heap.size from by show w.heap.size < w2.heap.size; omega) hak.size
      (refine seq_run rfl (by rfl) (fun K hK => ?_); go_simp)
      refine C.mono ?_
      rintro e w5 ⟨Ae, ce, B, Mu, g, c5, rfl, hEv, hBz, hwr, hk5, hz5, hMb⟩
      have HEV := hide hEv
      have HWR := hide hwr
      have HK5 := hide hk5
      have HBW := hide hbW
      have HWZ := hide hWz
      clear hEv hwr hk5 C hbW hWz m0 m1 m2
      refine hK _ _ trivial ?_
      clear hK K
      unfold repV
      repeat (refine seq_take (v := ?_) rfl (by rfl) ?_ ?_; rotate_left; (focus (intro wS hS; go_simp; exact rfl)); simp only [Act.put, List.setIfInBounds_toArray, List.set_cons_zero, List.set_cons_succ])
      refine seq_run rfl (by rfl) (fun K hK => ?_)
      refine wp_store_mid 32 (.tmp 6) (.tmp 28) rfl w.heap.size 0 ([.slice Ae ((adPlay nn cs picks).ends adG).length ce, .slice (some ⟨g, 0, none⟩) (adPlay nn cs picks).lw.mem.words.length c5, .int .i64 (wrap64 (adPlay nn cs picks).lw.mem.rd), .int .i64 (wrap64 (adPlay nn cs picks).lw.mem.wr), .int .i64 (wrap64 (adPlay nn cs picks).lw.mem.sw), .int .i64 (wrap64 (adPlay nn cs picks).lw.mem.ad), .int .i64 (wrap64 (adPlay nn cs picks).lw.mem.ft), .int .i64 (adPlay nn cs picks).lw.now, .int .i64 (adPlay nn cs picks).idle] : List Value).toArray (by rfl) (by rfl) (zero_there hz5 ([.slice Ae ((adPlay nn cs picks).ends adG).length ce, .slice (some ⟨g, 0, none⟩) (adPlay nn cs picks).lw.mem.words.length c5, .int .i64 (wrap64 (adPlay nn cs picks).lw.mem.rd), .int .i64 (wrap64 (adPlay nn cs picks).lw.mem.wr), .int .i64 (wrap64 (adPlay nn cs picks).lw.mem.sw), .int .i64 (wrap64 (adPlay nn cs picks).lw.mem.ad), .int .i64 (wrap64 (adPlay nn cs picks).lw.mem.ft), .int .i64 (adPlay nn cs picks).lw.now, .int .i64 (adPlay nn cs picks).idle] : List Value) rfl) (by kernel_rfl) (by kernel_rfl) ?_
      refine hK _ _ trivial ?_
      clear hK K
      repeat (refine seq_take (v := ?_) rfl (by rfl) ?_ ?_; rotate_left; (focus (intro wS hS; go_simp; exact rfl)); simp only [Act.put, List.setIfInBounds_toArray, List.set_cons_zero, List.set_cons_succ])
      refine seq_nil ?_
      go_wp2
      have hRS := World.rangeAt_setCells_same w5 w.heap.size 0 ([.slice Ae ((adPlay nn cs picks).ends adG).length ce, .slice (some ⟨g, 0, none⟩) (adPlay nn cs picks).lw.mem.words.length c5, .int .i64 (wrap64 (adPlay nn cs picks).lw.mem.rd), .int .i64 (wrap64 (adPlay nn cs picks).lw.mem.wr), .int .i64 (wrap64 (adPlay nn cs picks).lw.mem.sw), .int .i64 (wrap64 (adPlay nn cs picks).lw.mem.ad), .int .i64 (wrap64 (adPlay nn cs picks).lw.mem.ft), .int .i64 (adPlay nn cs picks).lw.now, .int .i64 (adPlay nn cs picks).idle] : List Value) (zero_there hz5 ([.slice Ae ((adPlay nn cs picks).ends adG).length ce, .slice (some ⟨g, 0, none⟩) (adPlay nn cs picks).lw.mem.words.length c5, .int .i64 (wrap64 (adPlay nn cs picks).lw.mem.rd), .int .i64 (wrap64 (adPlay nn cs picks).lw.mem.wr), .int .i64 (wrap64 (adPlay nn cs picks).lw.mem.sw), .int .i64 (wrap64 (adPlay nn cs picks).lw.mem.ad), .int .i64 (wrap64 (adPlay nn cs picks).lw.mem.ft), .int .i64 (adPlay nn cs picks).lw.now, .int .i64 (adPlay nn cs picks).idle] : List Value) rfl)
      have hld := run_loadVar_mid (P := Tryz.prog) (w5.setCells w.heap.size 0 ([.slice Ae ((adPlay nn cs picks).ends adG).length ce, .slice (some ⟨g, 0, none⟩) (adPlay nn cs picks).lw.mem.words.length c5, .int .i64 (wrap64 (adPlay nn cs picks).lw.mem.rd), .int .i64 (wrap64 (adPlay nn cs picks).lw.mem.wr), .int .i64 (wrap64 (adPlay nn cs picks).lw.mem.sw), .int .i64 (wrap64 (adPlay nn cs picks).lw.mem.ad), .int .i64 (wrap64 (adPlay nn cs picks).lw.mem.ft), .int .i64 (adPlay nn cs picks).lw.now, .int .i64 (adPlay nn cs picks).idle] : List Value)) w.heap.size 0 32 ([.slice Ae ((adPlay nn cs picks).ends adG).length ce, .slice (some ⟨g, 0, none⟩) (adPlay nn cs picks).lw.mem.words.length c5, .int .i64 (wrap64 (adPlay nn cs picks).lw.mem.rd), .int .i64 (wrap64 (adPlay nn cs picks).lw.mem.wr), .int .i64 (wrap64 (adPlay nn cs picks).lw.mem.sw), .int .i64 (wrap64 (adPlay nn cs picks).lw.mem.ad), .int .i64 (wrap64 (adPlay nn cs picks).lw.mem.ft), .int .i64 (adPlay nn cs picks).lw.now, .int .i64 (adPlay nn cs picks).idle] : List Value) _ hRS Tryz.underlying32 rfl (by kernel_rfl)
      refine bodyPost_ret (v := .tuple #[.agg #[.slice Ae ((adPlay nn cs picks).ends adG).length ce, .slice (some ⟨g, 0, none⟩) (adPlay nn cs picks).lw.mem.words.length c5, .int .i64 (wrap64 (adPlay nn cs picks).lw.mem.rd), .int .i64 (wrap64 (adPlay nn cs picks).lw.mem.wr), .int .i64 (wrap64 (adPlay nn cs picks).lw.mem.sw), .int .i64 (wrap64 (adPlay nn cs picks).lw.mem.ad), .int .i64 (wrap64 (adPlay nn cs picks).lw.mem.ft), .int .i64 (adPlay nn cs picks).lw.now, .int .i64 (adPlay nn cs picks).idle], .int .i64 0]) (by simp [results, Tryz.results17, hld, asAddr]) rfl ?_
      exact out_done ([.slice Ae ((adPlay nn cs picks).ends adG).length ce, .slice (some ⟨g, 0, none⟩) (adPlay nn cs picks).lw.mem.words.length c5, .int .i64 (wrap64 (adPlay nn cs picks).lw.mem.rd), .int .i64 (wrap64 (adPlay nn cs picks).lw.mem.wr), .int .i64 (wrap64 (adPlay nn cs picks).lw.mem.sw), .int .i64 (wrap64 (adPlay nn cs picks).lw.mem.ad), .int .i64 (wrap64 (adPlay nn cs picks).lw.mem.ft), .int .i64 (adPlay nn cs picks).lw.now, .int .i64 (adPlay nn cs picks).idle] : List Value) HEV.out hBz HWR.out HK5.out hMb HBW.out (fun k hk => by omega) (Nat.le_refl _) HWZ.out
  · have d0 : (E != 0) = true := by simpa using h0
    have hth := fun (w2 : World) (hb : Below (w.alloc zeroRep).heap.size (w.alloc zeroRep) w2) => zero_there ((hb.block w.heap.size (by rw [HSZ.out]; omega)).trans HROW.out) ([.slice none 0 0, .slice none 0 0, .int .i64 0, .int .i64 0, .int .i64 0, .int .i64 0, .int .i64 0, .int .i64 0, .int .i64 0] : List Value) rfl
    have HTH := hide hth
    clear hth
    go_enter Tryz.func17, Tryz.ntmps17
    go_wp2_with fail
    refine N0.mono ?_
    rintro e w2 ⟨rfl, hb⟩
    have HB := hide hb
    have hth := HTH.out w2 hb
    have hz2 : w.heap.size + 1 ≤ w2.heap.size := by have := hb.size; rw [← HSZ.out]; exact this
    have hz : w.heap.size < w2.heap.size := by omega
    clear hb N0
    go_wp2_with (refine wpList_store_mid rfl 32 (.tmp 6) (.tmp 15) rfl w.heap.size 0 ([.slice none 0 0, .slice none 0 0, .int .i64 0, .int .i64 0, .int .i64 0, .int .i64 0, .int .i64 0, .int .i64 0, .int .i64 0] : List Value).toArray (by rfl) (by rfl) hth (by kernel_rfl) (by kernel_rfl) ?_)
    have hRS := World.rangeAt_setCells_same w2 w.heap.size 0 ([.slice none 0 0, .slice none 0 0, .int .i64 0, .int .i64 0, .int .i64 0, .int .i64 0, .int .i64 0, .int .i64 0, .int .i64 0] : List Value) hth
    have hld := run_loadVar_mid (P := Tryz.prog) (w2.setCells w.heap.size 0 ([.slice none 0 0, .slice none 0 0, .int .i64 0, .int .i64 0, .int .i64 0, .int .i64 0, .int .i64 0, .int .i64 0, .int .i64 0] : List Value)) w.heap.size 0 32 ([.slice none 0 0, .slice none 0 0, .int .i64 0, .int .i64 0, .int .i64 0, .int .i64 0, .int .i64 0, .int .i64 0, .int .i64 0] : List Value) _ hRS Tryz.underlying32 rfl (by kernel_rfl)
    refine bodyPost_ret (v := .tuple #[zeroV, .int .i64 E]) (by simp [results, Tryz.results17, hld, asAddr, zeroV]) rfl (Or.inl ⟨h0, rfl, ?_⟩)
    have h1 : Keep (fun k => k < w.heap.size) w w2 := (Keep.of_below (K := fun k => k < w.heap.size) HBA.out (fun k hk => hk)).trans (Keep.of_below (K := fun k => k < w.heap.size) HB.out (fun k hk => by simp; omega))
    exact (Keep.setCells h1 (b := w.heap.size) (by simp) 0 ([.slice none 0 0, .slice none 0 0, .int .i64 0, .int .i64 0, .int .i64 0, .int .i64 0, .int .i64 0, .int .i64 0, .int .i64 0] : List Value)).below (fun k hk => hk)
end Go.Proofs.YtlfingcmekifkaaGreat
