import Derived.Test.YtlfingcmekifkaaGreatBun25
import Derived.Test.YtlfingcmekifkaaGreatBun9
import Derived.Test.YtlfingcmekifkaaGreatBun20
namespace Go.Proofs.YtlfingcmekifkaaGreat
open Go.RowKit
def spA17 : Array Value := #[.int .i64 0, .bool false, .bool false, .bool false, .bool false, .bool false, .bool false, .bool false, .bool false, .bool false, .bool false, .bool false, .bool false, .bool false, .bool false, .bool false, .bool false]
set_option maxRecDepth 100000 in
theorem spNewW (w : World) : Calls Tryz.prog 28 #[.int .i64 0] w fun e w' => e = .returned (.pointer (some ⟨w.heap.size, 0, none⟩)) ∧ w' = w.alloc (.cells spA17 114) := by
  unfold spA17
  go_enter Tryz.func28, Tryz.ntmps28
  go_wp2
  go_ret
  exact ⟨rfl, rfl⟩
set_option maxRecDepth 100000 in
theorem spSizeW (n : Nat) (hn : 1 ≤ n ∧ n ≤ 16) (w : World) : Calls Tryz.prog 29 #[.int .i64 n] w fun e w' => e = .returned (.int .i64 (2 * (tri n : Int))) ∧ w' = w := by
  have h2 := tri_two n
  have hb := tri_bd (d := n) (by omega)
  have hw1 : IntKind.i64.wrap ((n : Int) + 1) = (n : Int) + 1 := wrap_i64 (by omega) (by omega)
  have hw : IntKind.i64.wrap ((n : Int) * ((n : Int) + 1)) = 2 * (tri n : Int) := by rw [← h2, wrap_i64 (by omega) (by omega)]
  clear h2 hb
  go_enter Tryz.func29, Tryz.ntmps29
  go_wp2
  go_ret
  exact ⟨rfl, rfl⟩
theorem spOB_new {w : World} {pe : Nat} (h : w.heap[pe]? = some (.cells spA17 114 (0, 0))) : spOB pe w (fun k => k = pe) ⟨fun _ => false⟩ := by
  refine ⟨fun k => Iff.rfl, _, rowIs_lit h rfl, rfl, fun t ht => ?_⟩
  match t, ht with
  | 0, _ => rfl
  | 1, _ => rfl
  | 2, _ => rfl
  | 3, _ => rfl
  | 4, _ => rfl
  | 5, _ => rfl
  | 6, _ => rfl
  | 7, _ => rfl
  | 8, _ => rfl
  | 9, _ => rfl
  | 10, _ => rfl
  | 11, _ => rfl
  | 12, _ => rfl
  | 13, _ => rfl
  | 14, _ => rfl
  | 15, _ => rfl
  | t + 16, h => exact absurd h (by omega)
theorem tri_16 {n : Nat} (hn : 1 ≤ n ∧ n ≤ 16) : tri n ≤ 136 := tri_mono hn.2
theorem spGood_new (n m : Nat) : spGood ⟨fun _ => false⟩ (Ps.new (List.replicate (2 * tri n) 0) (⟨fun _ => false⟩ : Spl) m : Ps SM Spl).lw (fun _ => none) := ⟨Int.le_refl _, fun t m h => by cases h⟩
theorem spGo {W : World} {pe ps pz nn b0 : Nat} {A : Option Addr} {m c : Nat} {cs : List Cl} {Ap : Option Addr} {np cp : Nat} {picks : List Int} (hn : 1 ≤ nn ∧ nn ≤ 16) (he : W.heap[pe]? = some (.cells spA17 114 (0, 0))) (hs : W.heap[ps]? = some (.cells #[.iface 63 (.pointer (some ⟨pe, 0, none⟩))] 181 (0, 0))) (hz : W.heap[pz]? = some (.cells (madeCells #[.int .u64 0] (2 * tri nn)) 46 (0, 0)))
    (h : SlCl W (.slice A m c) cs) (hm : cs.length = m) (hp : SlI W (.slice Ap np cp) picks) (hpl : picks.length = np) (hcu : ∀ c ∈ cs, ClU c) (hE : chkE nn cs picks.length = 0) (hb : W.heap[b0]? = some zeroRep) (hbs : b0 ≠ pe ∧ b0 ≠ ps ∧ pe ≠ ps) (hC : ∀ a : Addr, A = some a → 0 < cs.length → a.block ≠ pe ∧ a.block ≠ b0) (hP : ∀ a : Addr, Ap = some a → 0 < picks.length → a.block ≠ pe ∧ a.block ≠ b0) :
    Calls Tryz.prog 23 #[.int .i64 nn, .slice (some ⟨ps, 0, none⟩) 1 1, .slice (some ⟨pz, 0, none⟩) (2 * tri nn) (2 * tri nn), .slice A m c, .slice Ap np cp] W (MidPost b0 (fun k => k = pe) ((spPlay nn cs picks).ends spG) (spPlay nn cs picks).lw.mem (spPlay nn cs picks).lw.now (spPlay nn cs picks).idle W) :=
  loomPlayMid (T := spTh pe) (n := nn) (AO := some ⟨ps, 0, none⟩) (co := 1) (spTh_ok pe) (made_sl hz (by unfold maxLen; have := tri_16 hn; omega)) (by simp) (by have := tri_16 hn; omega) h hm hp hpl (spOB_new he) (objs_one hs) (fun a e _ h => by cases e; exact hbs.2.2 h.symm) (fun a e hl => (hC a e hl).1) (fun a e hl => (hP a e hl).1) hcu (spGood_new nn cs.length) hE hb hbs.1 (fun a e h => by cases e; exact hbs.2.1 h.symm) (fun a e hl => (hC a e hl).2) (fun a e hl => (hP a e hl).2)
set_option maxRecDepth 100000 in
set_option maxHeartbeats 2000000 in
theorem splitPlay (n : Int) (A : Option Addr) (m c : Nat) (cs : List Cl) (Ap : Option Addr) (np cp : Nat) (picks : List Int) (w : World) (h : SlCl w (.slice A m c) cs) (hm : cs.length = m) (hp : SlI w (.slice Ap np cp) picks) (hpl : picks.length = np) (hcu : ∀ c ∈ cs, ClU c) :
    Calls Tryz.prog 15 #[.int .i64 n, .slice A m c, .slice Ap np cp] w (OutPost (chkE n cs picks.length) ((spPlay n.toNat cs picks).ends spG) (spPlay n.toNat cs picks).lw.mem (spPlay n.toNat cs picks).lw.now (spPlay n.toNat cs picks).idle w) := by
  have hba : Below w.heap.size w (w.alloc zeroRep) := (Below.refl _ w).alloc (Nat.le_refl _) _
  have hsz : (w.alloc zeroRep).heap.size = w.heap.size + 1 := by simp
  have hrow : (w.alloc zeroRep).heap[w.heap.size]? = some zeroRep := heap_alloc_new w zeroRep
  have hCZ : ∀ a : Addr, A = some a → 0 < cs.length → a.block < w.heap.size := fun a e hl => sl_block h e hl
  have hPZ : ∀ a : Addr, Ap = some a → 0 < picks.length → a.block < w.heap.size := fun a e hl => sl_block hp e hl
  have h1 := h.below hba (Nat.le_refl _)
  have hp1 := hp.below hba (Nat.le_refl _)
  have N0 := loomCheck n A m c cs Ap np cp _ h1 hm
  have HBA := hide hba
  have HSZ := hide hsz
  have HROW := hide hrow
  have HH1 := hide h1
  have HP1 := hide hp1
  have HCU := hide hcu
  have HPL := hide hpl
  have HM := hide hm
  clear h hp hba hsz hrow h1 hp1 hcu
  obtain ⟨E, hE⟩ : ∃ E, chkE n cs picks.length = E := ⟨_, rfl⟩
  have hE' : chkE n cs np = E := by rw [← hE, hpl]
  rw [hE'] at N0
  rw [hE]
  have HE := hide hE
  clear hE hE' hpl hm
  unfold zeroRep at N0
  by_cases h0 : E = 0
  · subst h0
    have hn : 1 ≤ n ∧ n ≤ 16 := by
      have hE := HE.out
      unfold chkE at hE
      split at hE
      · cases hE
      · rename_i h; omega
    obtain ⟨nn, rfl⟩ : ∃ nn : Nat, n = nn := ⟨n.toNat, by omega⟩
    have hn' : 1 ≤ nn ∧ nn ≤ 16 := by omega
    have hdl := tri_16 hn'
    have hmk : ∀ W, (Instr.makeSlice 28 (.int .i64 (2 * (tri nn : Int))) (.int .i64 (2 * (tri nn : Int)))).run Tryz.prog W = .ok (.slice (some ⟨W.heap.size, 0, none⟩) (2 * tri nn) (2 * tri nn)) (W.alloc (.cells (madeCells #[.int .u64 0] (2 * tri nn)) 46)) := by
      intro W
      rw [show 2 * (tri nn : Int) = ((2 * tri nn : Nat) : Int) by omega]
      exact run_make_row' (P := Tryz.prog) 28 46 (.int .u64 0) 8 Tryz.underlying28 info_word rfl .i64 .i64 (2 * tri nn) (by omega) (by omega) W
    have HN1 := hide (spNewW)
    have HN2 := hide (spSizeW nn hn')
    have HNN := hide hn'
    rw [Int.toNat_natCast]
    clear hn hdl hn'
    go_enter Tryz.func15, Tryz.ntmps15
    go_wp2_with fail
    refine N0.mono ?_
    rintro e w2 ⟨rfl, hb⟩
    have HB := hide hb
    have hz2 : w.heap.size + 1 ≤ w2.heap.size := by have := hb.size; rw [← HSZ.out]; exact this
    have hb0 : w2.heap[w.heap.size]? = some zeroRep := (hb.block w.heap.size (by show w.heap.size < (w.alloc zeroRep).heap.size; rw [HSZ.out]; omega)).trans HROW.out
    have hbw2 : Below w.heap.size w w2 := HBA.out.trans (hb.mono (show w.heap.size ≤ (w.alloc zeroRep).heap.size by rw [HSZ.out]; omega))
    have hc2 : SlCl w2 (.slice A m c) cs := HH1.out.below hb (Nat.le_refl _)
    have hp2 : SlI w2 (.slice Ap np cp) picks := HP1.out.below hb (Nat.le_refl _)
    have HC2 := hide hc2
    have HP2 := hide hp2
    clear hb N0 hc2 hp2
    have N1 := HN1.out w2
    go_wp2_with fail
    refine N1.mono ?_
    rintro e w3 ⟨rfl, rfl⟩
    have N2 := HN2.out
    clear N1
    go_wp2_with fail
    refine (N2 _).mono ?_
    rintro e w3 ⟨rfl, rfl⟩
    clear N2
    obtain ⟨m0, m1, m2⟩ := allocs3 w2 (.cells spA17 114) (.cells #[.iface 63 (.pointer (some ⟨w2.heap.size, 0, none⟩))] 181) (.cells (madeCells #[.int .u64 0] (2 * tri nn)) 46)
    have hak := allocs3_keep w2 (.cells spA17 114) (.cells #[.iface 63 (.pointer (some ⟨w2.heap.size, 0, none⟩))] 181) (.cells (madeCells #[.int .u64 0] (2 * tri nn)) 46)
    have C := spGo (pe := w2.heap.size) (ps := w2.heap.size + 1) (pz := w2.heap.size + 1 + 1) (b0 := w.heap.size) HNN.out m0 m1 m2 (HC2.out.below hak (Nat.le_refl _)) HM.out (HP2.out.below hak (Nat.le_refl _)) HPL.out HCU.out HE.out ((hak.block w.heap.size (by show w.heap.size < w2.heap.size; omega)).trans hb0) (by refine ⟨?_, ?_, ?_⟩ <;> omega) (fun a e hl => by have := hCZ a e hl; omega) (fun a e hl => by have := hPZ a e hl; omega)
    have hbW := hbw2.trans (hak.mono (show w.heap.size ≤ w2.heap.size from hbw2.size))
    have hWz := Nat.lt_of_lt_of_le (show w.heap.size < w2.heap.size from by omega) hak.size
    have HBW := hide hbW
    have HWZ := hide hWz
    clear m0 m1 m2 hbW hWz
    go_wp2_with fail
    refine C.mono ?_
    rintro e w5 ⟨Ae, ce, B, Mu, g, c5, rfl, hEv, hBz, hwr, hk5, hz5, hMb⟩
    have HEV := hide hEv
    have HWR := hide hwr
    have HK5 := hide hk5
    clear hEv hwr hk5 C
    unfold repV
    go_wp2_with (refine wpList_store_mid rfl 32 (.tmp 6) (.tmp 27) rfl w.heap.size 0 ([.slice Ae ((spPlay nn cs picks).ends spG).length ce, .slice (some ⟨g, 0, none⟩) (spPlay nn cs picks).lw.mem.words.length c5, .int .i64 (wrap64 (spPlay nn cs picks).lw.mem.rd), .int .i64 (wrap64 (spPlay nn cs picks).lw.mem.wr), .int .i64 (wrap64 (spPlay nn cs picks).lw.mem.sw), .int .i64 (wrap64 (spPlay nn cs picks).lw.mem.ad), .int .i64 (wrap64 (spPlay nn cs picks).lw.mem.ft), .int .i64 (spPlay nn cs picks).lw.now, .int .i64 (spPlay nn cs picks).idle] : List Value).toArray (by rfl) (by rfl) (zero_there hz5 ([.slice Ae ((spPlay nn cs picks).ends spG).length ce, .slice (some ⟨g, 0, none⟩) (spPlay nn cs picks).lw.mem.words.length c5, .int .i64 (wrap64 (spPlay nn cs picks).lw.mem.rd), .int .i64 (wrap64 (spPlay nn cs picks).lw.mem.wr), .int .i64 (wrap64 (spPlay nn cs picks).lw.mem.sw), .int .i64 (wrap64 (spPlay nn cs picks).lw.mem.ad), .int .i64 (wrap64 (spPlay nn cs picks).lw.mem.ft), .int .i64 (spPlay nn cs picks).lw.now, .int .i64 (spPlay nn cs picks).idle] : List Value) rfl) (by kernel_rfl) (by kernel_rfl) ?_)
    have hRS := World.rangeAt_setCells_same w5 w.heap.size 0 ([.slice Ae ((spPlay nn cs picks).ends spG).length ce, .slice (some ⟨g, 0, none⟩) (spPlay nn cs picks).lw.mem.words.length c5, .int .i64 (wrap64 (spPlay nn cs picks).lw.mem.rd), .int .i64 (wrap64 (spPlay nn cs picks).lw.mem.wr), .int .i64 (wrap64 (spPlay nn cs picks).lw.mem.sw), .int .i64 (wrap64 (spPlay nn cs picks).lw.mem.ad), .int .i64 (wrap64 (spPlay nn cs picks).lw.mem.ft), .int .i64 (spPlay nn cs picks).lw.now, .int .i64 (spPlay nn cs picks).idle] : List Value) (zero_there hz5 ([.slice Ae ((spPlay nn cs picks).ends spG).length ce, .slice (some ⟨g, 0, none⟩) (spPlay nn cs picks).lw.mem.words.length c5, .int .i64 (wrap64 (spPlay nn cs picks).lw.mem.rd), .int .i64 (wrap64 (spPlay nn cs picks).lw.mem.wr), .int .i64 (wrap64 (spPlay nn cs picks).lw.mem.sw), .int .i64 (wrap64 (spPlay nn cs picks).lw.mem.ad), .int .i64 (wrap64 (spPlay nn cs picks).lw.mem.ft), .int .i64 (spPlay nn cs picks).lw.now, .int .i64 (spPlay nn cs picks).idle] : List Value) rfl)
    have hld := run_loadVar_mid (P := Tryz.prog) (w5.setCells w.heap.size 0 ([.slice Ae ((spPlay nn cs picks).ends spG).length ce, .slice (some ⟨g, 0, none⟩) (spPlay nn cs picks).lw.mem.words.length c5, .int .i64 (wrap64 (spPlay nn cs picks).lw.mem.rd), .int .i64 (wrap64 (spPlay nn cs picks).lw.mem.wr), .int .i64 (wrap64 (spPlay nn cs picks).lw.mem.sw), .int .i64 (wrap64 (spPlay nn cs picks).lw.mem.ad), .int .i64 (wrap64 (spPlay nn cs picks).lw.mem.ft), .int .i64 (spPlay nn cs picks).lw.now, .int .i64 (spPlay nn cs picks).idle] : List Value)) w.heap.size 0 32 ([.slice Ae ((spPlay nn cs picks).ends spG).length ce, .slice (some ⟨g, 0, none⟩) (spPlay nn cs picks).lw.mem.words.length c5, .int .i64 (wrap64 (spPlay nn cs picks).lw.mem.rd), .int .i64 (wrap64 (spPlay nn cs picks).lw.mem.wr), .int .i64 (wrap64 (spPlay nn cs picks).lw.mem.sw), .int .i64 (wrap64 (spPlay nn cs picks).lw.mem.ad), .int .i64 (wrap64 (spPlay nn cs picks).lw.mem.ft), .int .i64 (spPlay nn cs picks).lw.now, .int .i64 (spPlay nn cs picks).idle] : List Value) _ hRS Tryz.underlying32 rfl (by kernel_rfl)
    refine bodyPost_ret (v := .tuple #[.agg #[.slice Ae ((spPlay nn cs picks).ends spG).length ce, .slice (some ⟨g, 0, none⟩) (spPlay nn cs picks).lw.mem.words.length c5, .int .i64 (wrap64 (spPlay nn cs picks).lw.mem.rd), .int .i64 (wrap64 (spPlay nn cs picks).lw.mem.wr), .int .i64 (wrap64 (spPlay nn cs picks).lw.mem.sw), .int .i64 (wrap64 (spPlay nn cs picks).lw.mem.ad), .int .i64 (wrap64 (spPlay nn cs picks).lw.mem.ft), .int .i64 (spPlay nn cs picks).lw.now, .int .i64 (spPlay nn cs picks).idle], .int .i64 0]) (by simp [results, Tryz.results15, hld, asAddr]) rfl ?_
    exact out_done ([.slice Ae ((spPlay nn cs picks).ends spG).length ce, .slice (some ⟨g, 0, none⟩) (spPlay nn cs picks).lw.mem.words.length c5, .int .i64 (wrap64 (spPlay nn cs picks).lw.mem.rd), .int .i64 (wrap64 (spPlay nn cs picks).lw.mem.wr), .int .i64 (wrap64 (spPlay nn cs picks).lw.mem.sw), .int .i64 (wrap64 (spPlay nn cs picks).lw.mem.ad), .int .i64 (wrap64 (spPlay nn cs picks).lw.mem.ft), .int .i64 (spPlay nn cs picks).lw.now, .int .i64 (spPlay nn cs picks).idle] : List Value) HEV.out hBz HWR.out HK5.out hMb HBW.out (fun k hk => by omega) (Nat.le_refl _) HWZ.out
  · have d0 : (E != 0) = true := by simpa using h0
    have hth := fun (w2 : World) (hb : Below (w.alloc zeroRep).heap.size (w.alloc zeroRep) w2) => zero_there ((hb.block w.heap.size (by rw [HSZ.out]; omega)).trans HROW.out) ([.slice none 0 0, .slice none 0 0, .int .i64 0, .int .i64 0, .int .i64 0, .int .i64 0, .int .i64 0, .int .i64 0, .int .i64 0] : List Value) rfl
    have HTH := hide hth
    clear hth
    go_enter Tryz.func15, Tryz.ntmps15
    go_wp2_with fail
    refine N0.mono ?_
    rintro e w2 ⟨rfl, hb⟩
    have HB := hide hb
    have hth := HTH.out w2 hb
    have hz2 : w.heap.size + 1 ≤ w2.heap.size := by have := hb.size; rw [← HSZ.out]; exact this
    have hz : w.heap.size < w2.heap.size := by omega
    clear hb N0
    go_wp2_with (refine wpList_store_mid rfl 32 (.tmp 6) (.tmp 15) rfl w.heap.size 0 ([.slice none 0 0, .slice none 0 0, .int .i64 0, .int .i64 0, .int .i64 0, .int .i64 0, .int .i64 0, .int .i64 0, .int .i64 0] : List Value).toArray (by rfl) (by rfl) hth (by kernel_rfl) (by kernel_rfl) ?_)
    have hRS := World.rangeAt_setCells_same w2 w.heap.size 0 ([.slice none 0 0, .slice none 0 0, .int .i64 0, .int .i64 0, .int .i64 0, .int .i64 0, .int .i64 0, .int .i64 0, .int .i64 0] : List Value) hth
    have hld := run_loadVar_mid (P := Tryz.prog) (w2.setCells w.heap.size 0 ([.slice none 0 0, .slice none 0 0, .int .i64 0, .int .i64 0, .int .i64 0, .int .i64 0, .int .i64 0, .int .i64 0, .int .i64 0] : List Value)) w.heap.size 0 32 ([.slice none 0 0, .slice none 0 0, .int .i64 0, .int .i64 0, .int .i64 0, .int .i64 0, .int .i64 0, .int .i64 0, .int .i64 0] : List Value) _ hRS Tryz.underlying32 rfl (by kernel_rfl)
    refine bodyPost_ret (v := .tuple #[zeroV, .int .i64 E]) (by simp [results, Tryz.results15, hld, asAddr, zeroV]) rfl (Or.inl ⟨h0, rfl, ?_⟩)
    have h1 : Keep (fun k => k < w.heap.size) w w2 := (Keep.of_below (K := fun k => k < w.heap.size) HBA.out (fun k hk => hk)).trans (Keep.of_below (K := fun k => k < w.heap.size) HB.out (fun k hk => by simp; omega))
    exact (Keep.setCells h1 (b := w.heap.size) (by simp) 0 ([.slice none 0 0, .slice none 0 0, .int .i64 0, .int .i64 0, .int .i64 0, .int .i64 0, .int .i64 0, .int .i64 0, .int .i64 0] : List Value)).below (fun k hk => hk)
end Go.Proofs.YtlfingcmekifkaaGreat

namespace Go.Proofs.YtlfingcmekifkaaGreat
open Go.RowKit
def lateC : List Cl := [⟨0, 0, 0, 0, 0, 0⟩, ⟨1, 0, 0, 0, 0, 0⟩, ⟨2, 0, 0, 0, 0, 0⟩]
def lateP : List Int := [0, 1, 1, 1, 1, 0, 0, 0, 0, 0, 2, 2, 2, 2, 2, 2, 2, 2, 2]
theorem late_evs : ((spPlay 3 lateC lateP).ends spG).map (fun e => (e.ans.val, decide (0 < e.resp))) = [(1, true), (0, true), (3, true)] := by kernel_rfl
theorem late_words : (spPlay 3 lateC lateP).lw.mem.words.length = 12 := by kernel_rfl
theorem late_chk : chkE 3 lateC lateP.length = 0 := by kernel_rfl
theorem late_calls {w : World} {b : Nat} {t : TypeId} (h : w.heap[b]? = some (.cells #[.int .i64 0, .int .i64 0, .int .i64 0, .int .u64 0, .int .u64 0, .int .u64 0, .int .i64 1, .int .i64 0, .int .i64 0, .int .u64 0, .int .u64 0, .int .u64 0, .int .i64 2, .int .i64 0, .int .i64 0, .int .u64 0, .int .u64 0, .int .u64 0] t (0, 0))) : SlCl w (.slice (some ⟨b, 0, none⟩) 3 3) lateC := by
  refine Sl.of_block (enc := clEnc) (sz := 6) (xs := lateC) (c := 3) h (Nat.le_refl _) (by unfold maxLen; decide) ?_
  intro k x hx j u hu
  rcases k with _ | _ | _ | k
  · simp [lateC] at hx
    subst hx
    rcases j with _ | _ | _ | _ | _ | _ | j <;> simp [clEnc] at hu ⊢ <;> exact hu
  · simp [lateC] at hx
    subst hx
    rcases j with _ | _ | _ | _ | _ | _ | j <;> simp [clEnc] at hu ⊢ <;> exact hu
  · simp [lateC] at hx
    subst hx
    rcases j with _ | _ | _ | _ | _ | _ | j <;> simp [clEnc] at hu ⊢ <;> exact hu
  · simp [lateC] at hx
theorem late_picks {w : World} {b : Nat} {t : TypeId} (h : w.heap[b]? = some (.cells #[.int .i64 0, .int .i64 1, .int .i64 1, .int .i64 1, .int .i64 1, .int .i64 0, .int .i64 0, .int .i64 0, .int .i64 0, .int .i64 0, .int .i64 2, .int .i64 2, .int .i64 2, .int .i64 2, .int .i64 2, .int .i64 2, .int .i64 2, .int .i64 2, .int .i64 2] t (0, 0))) : SlI w (.slice (some ⟨b, 0, none⟩) 19 19) lateP := by
  refine Sl.of_block (enc := ntEnc .i64) (sz := 1) (xs := lateP) (c := 19) h (Nat.le_refl _) (by unfold maxLen; decide) ?_
  intro k x hx j u hu
  rcases j with _ | j
  · rcases k with _ | _ | _ | _ | _ | _ | _ | _ | _ | _ | _ | _ | _ | _ | _ | _ | _ | _ | _ | k <;> simp [lateP] at hx <;> subst hx <;> simp [ntEnc] at hu ⊢ <;> exact hu
  · simp [ntEnc] at hu
set_option maxRecDepth 100000 in
set_option maxHeartbeats 2000000 in
theorem threeW (w : World) : Calls Tryz.prog 14 #[] w fun e w' => e = .returned (.bool true) ∧ Below w.heap.size w w' := by
  have hc : SlCl ((w.alloc (.cells #[.int .i64 0, .int .i64 0, .int .i64 0, .int .u64 0, .int .u64 0, .int .u64 0, .int .i64 1, .int .i64 0, .int .i64 0, .int .u64 0, .int .u64 0, .int .u64 0, .int .i64 2, .int .i64 0, .int .i64 0, .int .u64 0, .int .u64 0, .int .u64 0] 48)).alloc (.cells #[.int .i64 0, .int .i64 1, .int .i64 1, .int .i64 1, .int .i64 1, .int .i64 0, .int .i64 0, .int .i64 0, .int .i64 0, .int .i64 0, .int .i64 2, .int .i64 2, .int .i64 2, .int .i64 2, .int .i64 2, .int .i64 2, .int .i64 2, .int .i64 2, .int .i64 2] 3)) (.slice (some ⟨w.heap.size, 0, none⟩) 3 3) lateC := late_calls ((heap_alloc_old _ _ (by simp)).trans (heap_alloc_new _ _))
  have hp : SlI ((w.alloc (.cells #[.int .i64 0, .int .i64 0, .int .i64 0, .int .u64 0, .int .u64 0, .int .u64 0, .int .i64 1, .int .i64 0, .int .i64 0, .int .u64 0, .int .u64 0, .int .u64 0, .int .i64 2, .int .i64 0, .int .i64 0, .int .u64 0, .int .u64 0, .int .u64 0] 48)).alloc (.cells #[.int .i64 0, .int .i64 1, .int .i64 1, .int .i64 1, .int .i64 1, .int .i64 0, .int .i64 0, .int .i64 0, .int .i64 0, .int .i64 0, .int .i64 2, .int .i64 2, .int .i64 2, .int .i64 2, .int .i64 2, .int .i64 2, .int .i64 2, .int .i64 2, .int .i64 2] 3)) (.slice (some ⟨w.heap.size + 1, 0, none⟩) 19 19) lateP := late_picks (by
    have : (w.alloc (.cells #[.int .i64 0, .int .i64 0, .int .i64 0, .int .u64 0, .int .u64 0, .int .u64 0, .int .i64 1, .int .i64 0, .int .i64 0, .int .u64 0, .int .u64 0, .int .u64 0, .int .i64 2, .int .i64 0, .int .i64 0, .int .u64 0, .int .u64 0, .int .u64 0] 48)).heap.size = w.heap.size + 1 := by simp
    rw [← this]
    exact heap_alloc_new _ _)
  have N := splitPlay 3 _ _ _ lateC _ _ _ lateP _ hc rfl hp rfl (fun c hc => by
    simp [lateC] at hc
    rcases hc with rfl | rfl | rfl <;> (unfold ClU; decide))
  rw [late_chk, show (3 : Int).toNat = 3 from rfl] at N
  have he := late_evs
  have hwd := late_words
  clear hc hp
  generalize hPe : (spPlay 3 lateC lateP).ends spG = es at N he
  generalize (spPlay 3 lateC lateP).lw.mem = mm at N hwd
  generalize (spPlay 3 lateC lateP).lw.now = now at N
  generalize (spPlay 3 lateC lateP).idle = idle at N
  clear hPe
  have hel : es.length = 3 := by have := congrArg List.length he; simpa using this
  go_enter Tryz.func14, Tryz.ntmps14
  go_wp2_with fail
  refine N.mono ?_
  rintro e w1 (⟨h, _⟩ | ⟨_, ev, B, Mu, g, c, rfl, hEv, hB, hwr, hb⟩)
  · exact absurd rfl h
  obtain ⟨ge, ce, rfl, hge, hgz, hev⟩ := ev_of hEv (by rw [hel]; decide)
  match es, he with
  | [e0, e1, e2], he =>
    simp at he
    obtain ⟨⟨v0, t0⟩, ⟨v1, t1⟩, v2, t2⟩ := he
    obtain ⟨x0, i0, r0⟩ := hev 0 e0 rfl
    obtain ⟨x1, i1, r1⟩ := hev 1 e1 rfl
    obtain ⟨x2, i2, r2⟩ := hev 2 e2 rfl
    have a5 := r0 5 _ rfl
    have b5 := r1 5 _ rfl
    have d5 := r2 5 _ rfl
    have d2 := r2 2 _ rfl
    rw [i0.val, v0] at a5
    rw [i1.val, v1] at b5
    rw [i2.val, v2] at d5
    rw [i2.resp] at d2
    have hgz2 : g < w1.heap.size := (World.ownsRow.lt hwr g rfl).2
    unfold repV
    rw [hwd]
    simp only [List.length_cons, List.length_nil]
    have HB := hide hb
    clear hwr hEv hev r0 r1 r2 i0 i1 i2 N hb hwd hel
    simp at a5 b5 d5 d2
    go_wp2
    go_ret
    have hb2 : Below w.heap.size w ((w.alloc (.cells #[.int .i64 0, .int .i64 0, .int .i64 0, .int .u64 0, .int .u64 0, .int .u64 0, .int .i64 1, .int .i64 0, .int .i64 0, .int .u64 0, .int .u64 0, .int .u64 0, .int .i64 2, .int .i64 0, .int .i64 0, .int .u64 0, .int .u64 0, .int .u64 0] 48)).alloc (.cells #[.int .i64 0, .int .i64 1, .int .i64 1, .int .i64 1, .int .i64 1, .int .i64 0, .int .i64 0, .int .i64 0, .int .i64 0, .int .i64 0, .int .i64 2, .int .i64 2, .int .i64 2, .int .i64 2, .int .i64 2, .int .i64 2, .int .i64 2, .int .i64 2, .int .i64 2] 3)) := ((Below.refl _ w).alloc (Nat.le_refl _) _).alloc (by simp) _
    have hb3 := hb2.trans (HB.out.mono hb2.size)
    exact ⟨rfl, hb3.alloc hb3.size _⟩
end Go.Proofs.YtlfingcmekifkaaGreat
