/- A lattice (package lattice): what comes of a play (lattice.Play). -/
/- A lattice (law 41): what is so of the events that are told. -/
import Derived.Test.YtlfingcmekifkaaBun23
import Derived.Test.YtlfingcmekifkaaBun22
import Derived.Laws.BitsAllLaws
namespace Go.Proofs.Ytlfingcmekifkaa
open Go.RowKit

def chkP (n p : Int) (cs : List Cl) (k : Nat) : Int := if chkE n cs k ≠ 0 then chkE n cs k else if p < 1 ∨ 64 < p then 10 else 0
set_option maxRecDepth 100000 in
set_option maxHeartbeats 2000000 in
theorem latticePlay (n p0 : Int) (A : Option Addr) (m c : Nat) (cs : List Cl) (Ap : Option Addr) (np cp : Nat) (picks : List Int) (w : World) (h : SlCl w (.slice A m c) cs) (hm : cs.length = m) (hp : SlI w (.slice Ap np cp) picks) (hpl : picks.length = np) (hcu : ∀ c ∈ cs, ClU c) :
    Calls Try.prog 22 #[.int .i64 n, .int .i64 p0, .slice A m c, .slice Ap np cp] w (OutPost (chkP n p0 cs picks.length) ((latPlay n.toNat p0.toNat cs picks).ends latG) (latPlay n.toNat p0.toNat cs picks).lw.mem (latPlay n.toNat p0.toNat cs picks).lw.now (latPlay n.toNat p0.toNat cs picks).idle w) := by
  have hba : Below w.heap.size w (w.alloc zeroRep) := (Below.refl _ w).alloc (Nat.le_refl _) _
  have hsz : (w.alloc zeroRep).heap.size = w.heap.size + 1 := by simp
  have hrow : (w.alloc zeroRep).heap[w.heap.size]? = some zeroRep := heap_alloc_new w zeroRep
  have hCZ : ∀ a : Addr, A = some a → 0 < cs.length → a.block < w.heap.size := fun a e hl => sl_block h e hl
  have hPZ : ∀ a : Addr, Ap = some a → 0 < picks.length → a.block < w.heap.size := fun a e hl => sl_block hp e hl
  have h1 := h.below hba (Nat.le_refl _)
  have hp1 := hp.below hba (Nat.le_refl _)
  have N0 := loomCheck n A m c cs Ap np cp _ h1 hm
  have HBA := hide hba
  have HSZ := hide hsz
  have HROW := hide hrow
  have HH1 := hide h1
  have HP1 := hide hp1
  have HCU := hide hcu
  have HPL := hide hpl
  have HM := hide hm
  clear h hp hba hsz hrow h1 hp1 hcu
  obtain ⟨E, hE⟩ : ∃ E, chkE n cs picks.length = E := ⟨_, rfl⟩
  have hE' : chkE n cs np = E := by rw [← hE, hpl]
  rw [hE'] at N0
  unfold chkP
  rw [hE]
  have HE := hide hE
  clear hE hE' hpl hm
  unfold zeroRep at N0
  by_cases h0 : E = 0
  · subst h0
    rw [if_neg (by decide)]
    by_cases hp0 : p0 < 1 ∨ 64 < p0
    · rw [if_pos hp0]
      have hth := fun (w2 : World) (hb : Below (w.alloc zeroRep).heap.size (w.alloc zeroRep) w2) => zero_there ((hb.block w.heap.size (by rw [HSZ.out]; omega)).trans HROW.out) ([.slice none 0 0, .slice none 0 0, .int .i64 0, .int .i64 0, .int .i64 0, .int .i64 0, .int .i64 0, .int .i64 0, .int .i64 0] : List Value) rfl
      have HTH := hide hth
      clear hth
      have hc1 : decide (p0 < 1) = true ∨ (decide (p0 < 1) = false ∧ decide (64 < p0) = true) := by
        rcases hp0 with h | h
        · exact Or.inl (by simpa using h)
        · exact Or.inr ⟨by simp; omega, by simpa using h⟩
      clear hp0
      rcases hc1 with dz1 | ⟨dz1, dz2⟩
      all_goals
        go_enter Try.func22, Try.ntmps22
        go_wp2_with fail
        refine N0.mono ?_
        rintro e w2 ⟨rfl, hb⟩
        have HB := hide hb
        have hth := HTH.out w2 hb
        have hz2 : w.heap.size + 1 ≤ w2.heap.size := by have := hb.size; rw [← HSZ.out]; exact this
        have hz : w.heap.size < w2.heap.size := by omega
        clear hb N0
        go_wp2_with (refine wpList_store_mid rfl 32 (.tmp 8) (.tmp 25) rfl w.heap.size 0 ([.slice none 0 0, .slice none 0 0, .int .i64 0, .int .i64 0, .int .i64 0, .int .i64 0, .int .i64 0, .int .i64 0, .int .i64 0] : List Value).toArray (by rfl) (by rfl) hth (by kernel_rfl) (by kernel_rfl) ?_)
        have hRS := World.rangeAt_setCells_same w2 w.heap.size 0 ([.slice none 0 0, .slice none 0 0, .int .i64 0, .int .i64 0, .int .i64 0, .int .i64 0, .int .i64 0, .int .i64 0, .int .i64 0] : List Value) hth
        have hld := run_loadVar_mid (P := Try.prog) (w2.setCells w.heap.size 0 ([.slice none 0 0, .slice none 0 0, .int .i64 0, .int .i64 0, .int .i64 0, .int .i64 0, .int .i64 0, .int .i64 0, .int .i64 0] : List Value)) w.heap.size 0 32 ([.slice none 0 0, .slice none 0 0, .int .i64 0, .int .i64 0, .int .i64 0, .int .i64 0, .int .i64 0, .int .i64 0, .int .i64 0] : List Value) _ hRS Try.underlying32 rfl (by kernel_rfl)
        refine bodyPost_ret (v := .tuple #[zeroV, .int .i64 10]) (by simp [results, Try.results22, hld, asAddr, zeroV]) rfl (Or.inl ⟨by decide, rfl, ?_⟩)
        have h1 : Keep (fun k => k < w.heap.size) w w2 := (Keep.of_below (K := fun k => k < w.heap.size) HBA.out (fun k hk => hk)).trans (Keep.of_below (K := fun k => k < w.heap.size) HB.out (fun k hk => by simp; omega))
        exact (Keep.setCells h1 (b := w.heap.size) (by simp) 0 ([.slice none 0 0, .slice none 0 0, .int .i64 0, .int .i64 0, .int .i64 0, .int .i64 0, .int .i64 0, .int .i64 0, .int .i64 0] : List Value)).below (fun k hk => hk)
    rw [if_neg hp0]
    obtain ⟨p, rfl⟩ : ∃ p : Nat, p0 = p := ⟨p0.toNat, by omega⟩
    have hp1 : 1 ≤ p ∧ p ≤ 64 := by omega
    have hn : 1 ≤ n ∧ n ≤ 16 := by
      have hE := HE.out
      unfold chkE at hE
      split at hE
      · cases hE
      · rename_i h; omega
    obtain ⟨nn, rfl⟩ : ∃ nn : Nat, n = nn := ⟨n.toNat, by omega⟩
    have hn' : 1 ≤ nn ∧ nn ≤ 16 := by omega
    have dz1 : decide ((p : Int) < 1) = false := by simp; omega
    have dz2 : decide ((64 : Int) < p) = false := by simp; omega
    have hbd := latSize_bd hn'.2 hp1.2
    have NS := snSizeW nn p hn'.2 hp1.2
    obtain ⟨L, hL⟩ : ∃ L, L = nn + nn * p * (nn + 1) := ⟨_, rfl⟩
    rw [← hL] at NS hbd
    have hmk : ∀ W, (Instr.makeSlice 28 (.int .i64 (L : Int)) (.int .i64 (L : Int))).run Try.prog W = .ok (.slice (some ⟨W.heap.size, 0, none⟩) L L) (W.alloc (.cells (madeCells #[.int .u64 0] L) 37)) :=
      fun W => run_make_row' (P := Try.prog) 28 37 (.int .u64 0) 8 Try.underlying28 info_word rfl .i64 .i64 L (by omega) (by omega) W
    rw [Int.toNat_natCast, Int.toNat_natCast]
    have HNS := hide NS
    have HL := hide hL
    clear hp0 hn hbd NS hL
    go_enter Try.func22, Try.ntmps22
    go_wp2_with fail
    refine N0.mono ?_
    rintro e w2 ⟨rfl, hb⟩
    have HB := hide hb
    have hz2 : w.heap.size + 1 ≤ w2.heap.size := by have := hb.size; rw [← HSZ.out]; exact this
    have hb0 : w2.heap[w.heap.size]? = some zeroRep := (hb.block w.heap.size (by show w.heap.size < (w.alloc zeroRep).heap.size; rw [HSZ.out]; omega)).trans HROW.out
    have hbw2 : Below w.heap.size w w2 := (HBA.out.trans (hb.mono (show w.heap.size ≤ (w.alloc zeroRep).heap.size by rw [HSZ.out]; omega)))
    have hc2 : SlCl w2 (.slice A m c) cs := HH1.out.below hb (Nat.le_refl _)
    have hp2 : SlI w2 (.slice Ap np cp) picks := HP1.out.below hb (Nat.le_refl _)
    have HC2 := hide hc2
    have HP2 := hide hp2
    clear hb N0 hc2 hp2
    go_wp2_with fail
    refine (laNewW nn p _).mono ?_
    rintro e w3 ⟨rfl, rfl⟩
    go_wp2_with fail
    refine (HNS.out _).mono ?_
    rintro e w4 ⟨rfl, rfl⟩
    go_wp2_with fail
    obtain ⟨W, hW⟩ : ∃ W, W = (((w2.alloc (.cells (snA19 nn p) 122)).alloc (.cells (laA17 w2.heap.size) 92)).alloc (.cells #[.iface 64 (.pointer (some ⟨w2.heap.size + 1, 0, none⟩))] 141)).alloc (.cells (madeCells #[.int .u64 0] L) 37) := ⟨_, rfl⟩
    rw [← hW]
    have hz1 : (w2.alloc (.cells (snA19 nn p) 122)).heap.size = w2.heap.size + 1 := by simp
    obtain ⟨m0, m1, m2⟩ := allocs3 (w2.alloc (.cells (snA19 nn p) 122)) (.cells (laA17 w2.heap.size) 92) (.cells #[.iface 64 (.pointer (some ⟨w2.heap.size + 1, 0, none⟩))] 141) (.cells (madeCells #[.int .u64 0] L) 37)
    have hak := allocs3_keep (w2.alloc (.cells (snA19 nn p) 122)) (.cells (laA17 w2.heap.size) 92) (.cells #[.iface 64 (.pointer (some ⟨w2.heap.size + 1, 0, none⟩))] 141) (.cells (madeCells #[.int .u64 0] L) 37)
    rw [hz1] at m0 m1 m2 hak
    rw [← hW] at m0 m1 m2 hak
    have hm : W.heap[w2.heap.size]? = some (.cells (snA19 nn p) 122 (0, 0)) := (hak.block w2.heap.size (Nat.lt_succ_self _)).trans (heap_alloc_new _ _)
    have hbk : Below w2.heap.size w2 W := ((Below.refl _ w2).alloc (Nat.le_refl _) _).trans (hak.mono (Nat.le_succ _))
    have C := laGo (pe := w2.heap.size + 1) (ps := w2.heap.size) (po := w2.heap.size + 1 + 1) (pz := w2.heap.size + 1 + 1 + 1) (b0 := w.heap.size) hn' hp1 HL.out hm m0 m1 m2 (HC2.out.below hbk (Nat.le_refl _)) HM.out (HP2.out.below hbk (Nat.le_refl _)) HPL.out HCU.out HE.out ((hbk.block w.heap.size (by omega)).trans hb0) (by refine ⟨?_, ?_, ?_, ?_, ?_, ?_⟩ <;> omega) (fun a e hl => by have := hCZ a e hl; omega) (fun a e hl => by have := hPZ a e hl; omega)
    have hbW : Below w.heap.size w W := hbw2.trans (hbk.mono hbw2.size)
    have hWz : w.heap.size < W.heap.size := Nat.lt_of_lt_of_le (by omega) hbk.size
    refine C.mono ?_
    rintro e w5 ⟨Ae, ce, B, Mu, g, c5, rfl, hEv, hBz, hwr, hk5, hz5, hMb⟩
    have HEV := hide hEv
    have HWR := hide hwr
    have HK5 := hide hk5
    have HBW := hide hbW
    have HWZ := hide hWz
    have HHW := hide hW
    clear hEv hwr hk5 C hbW hWz m0 m1 m2 hm hak hbk hW hmk
    unfold repV
    go_wp2_with (refine wpList_store_mid rfl 32 (.tmp 8) (.tmp 39) rfl w.heap.size 0 ([.slice Ae ((latPlay nn p cs picks).ends latG).length ce, .slice (some ⟨g, 0, none⟩) (latPlay nn p cs picks).lw.mem.words.length c5, .int .i64 (wrap64 (latPlay nn p cs picks).lw.mem.rd), .int .i64 (wrap64 (latPlay nn p cs picks).lw.mem.wr), .int .i64 (wrap64 (latPlay nn p cs picks).lw.mem.sw), .int .i64 (wrap64 (latPlay nn p cs picks).lw.mem.ad), .int .i64 (wrap64 (latPlay nn p cs picks).lw.mem.ft), .int .i64 (latPlay nn p cs picks).lw.now, .int .i64 (latPlay nn p cs picks).idle] : List Value).toArray (by rfl) (by rfl) (zero_there hz5 ([.slice Ae ((latPlay nn p cs picks).ends latG).length ce, .slice (some ⟨g, 0, none⟩) (latPlay nn p cs picks).lw.mem.words.length c5, .int .i64 (wrap64 (latPlay nn p cs picks).lw.mem.rd), .int .i64 (wrap64 (latPlay nn p cs picks).lw.mem.wr), .int .i64 (wrap64 (latPlay nn p cs picks).lw.mem.sw), .int .i64 (wrap64 (latPlay nn p cs picks).lw.mem.ad), .int .i64 (wrap64 (latPlay nn p cs picks).lw.mem.ft), .int .i64 (latPlay nn p cs picks).lw.now, .int .i64 (latPlay nn p cs picks).idle] : List Value) rfl) (by kernel_rfl) (by kernel_rfl) ?_)
    have hRS := World.rangeAt_setCells_same w5 w.heap.size 0 ([.slice Ae ((latPlay nn p cs picks).ends latG).length ce, .slice (some ⟨g, 0, none⟩) (latPlay nn p cs picks).lw.mem.words.length c5, .int .i64 (wrap64 (latPlay nn p cs picks).lw.mem.rd), .int .i64 (wrap64 (latPlay nn p cs picks).lw.mem.wr), .int .i64 (wrap64 (latPlay nn p cs picks).lw.mem.sw), .int .i64 (wrap64 (latPlay nn p cs picks).lw.mem.ad), .int .i64 (wrap64 (latPlay nn p cs picks).lw.mem.ft), .int .i64 (latPlay nn p cs picks).lw.now, .int .i64 (latPlay nn p cs picks).idle] : List Value) (zero_there hz5 ([.slice Ae ((latPlay nn p cs picks).ends latG).length ce, .slice (some ⟨g, 0, none⟩) (latPlay nn p cs picks).lw.mem.words.length c5, .int .i64 (wrap64 (latPlay nn p cs picks).lw.mem.rd), .int .i64 (wrap64 (latPlay nn p cs picks).lw.mem.wr), .int .i64 (wrap64 (latPlay nn p cs picks).lw.mem.sw), .int .i64 (wrap64 (latPlay nn p cs picks).lw.mem.ad), .int .i64 (wrap64 (latPlay nn p cs picks).lw.mem.ft), .int .i64 (latPlay nn p cs picks).lw.now, .int .i64 (latPlay nn p cs picks).idle] : List Value) rfl)
    have hld := run_loadVar_mid (P := Try.prog) (w5.setCells w.heap.size 0 ([.slice Ae ((latPlay nn p cs picks).ends latG).length ce, .slice (some ⟨g, 0, none⟩) (latPlay nn p cs picks).lw.mem.words.length c5, .int .i64 (wrap64 (latPlay nn p cs picks).lw.mem.rd), .int .i64 (wrap64 (latPlay nn p cs picks).lw.mem.wr), .int .i64 (wrap64 (latPlay nn p cs picks).lw.mem.sw), .int .i64 (wrap64 (latPlay nn p cs picks).lw.mem.ad), .int .i64 (wrap64 (latPlay nn p cs picks).lw.mem.ft), .int .i64 (latPlay nn p cs picks).lw.now, .int .i64 (latPlay nn p cs picks).idle] : List Value)) w.heap.size 0 32 ([.slice Ae ((latPlay nn p cs picks).ends latG).length ce, .slice (some ⟨g, 0, none⟩) (latPlay nn p cs picks).lw.mem.words.length c5, .int .i64 (wrap64 (latPlay nn p cs picks).lw.mem.rd), .int .i64 (wrap64 (latPlay nn p cs picks).lw.mem.wr), .int .i64 (wrap64 (latPlay nn p cs picks).lw.mem.sw), .int .i64 (wrap64 (latPlay nn p cs picks).lw.mem.ad), .int .i64 (wrap64 (latPlay nn p cs picks).lw.mem.ft), .int .i64 (latPlay nn p cs picks).lw.now, .int .i64 (latPlay nn p cs picks).idle] : List Value) _ hRS Try.underlying32 rfl (by kernel_rfl)
    refine bodyPost_ret (v := .tuple #[.agg #[.slice Ae ((latPlay nn p cs picks).ends latG).length ce, .slice (some ⟨g, 0, none⟩) (latPlay nn p cs picks).lw.mem.words.length c5, .int .i64 (wrap64 (latPlay nn p cs picks).lw.mem.rd), .int .i64 (wrap64 (latPlay nn p cs picks).lw.mem.wr), .int .i64 (wrap64 (latPlay nn p cs picks).lw.mem.sw), .int .i64 (wrap64 (latPlay nn p cs picks).lw.mem.ad), .int .i64 (wrap64 (latPlay nn p cs picks).lw.mem.ft), .int .i64 (latPlay nn p cs picks).lw.now, .int .i64 (latPlay nn p cs picks).idle], .int .i64 0]) (by simp [results, Try.results22, hld, asAddr]) rfl ?_
    exact out_done ([.slice Ae ((latPlay nn p cs picks).ends latG).length ce, .slice (some ⟨g, 0, none⟩) (latPlay nn p cs picks).lw.mem.words.length c5, .int .i64 (wrap64 (latPlay nn p cs picks).lw.mem.rd), .int .i64 (wrap64 (latPlay nn p cs picks).lw.mem.wr), .int .i64 (wrap64 (latPlay nn p cs picks).lw.mem.sw), .int .i64 (wrap64 (latPlay nn p cs picks).lw.mem.ad), .int .i64 (wrap64 (latPlay nn p cs picks).lw.mem.ft), .int .i64 (latPlay nn p cs picks).lw.now, .int .i64 (latPlay nn p cs picks).idle] : List Value) HEV.out hBz HWR.out HK5.out hMb HBW.out (fun k hk => by omega) (Nat.le_refl _) HWZ.out
  · rw [if_pos h0]
    have d0 : (E != 0) = true := by simpa using h0
    have hth := fun (w2 : World) (hb : Below (w.alloc zeroRep).heap.size (w.alloc zeroRep) w2) => zero_there ((hb.block w.heap.size (by rw [HSZ.out]; omega)).trans HROW.out) ([.slice none 0 0, .slice none 0 0, .int .i64 0, .int .i64 0, .int .i64 0, .int .i64 0, .int .i64 0, .int .i64 0, .int .i64 0] : List Value) rfl
    have HTH := hide hth
    clear hth
    go_enter Try.func22, Try.ntmps22
    go_wp2_with fail
    refine N0.mono ?_
    rintro e w2 ⟨rfl, hb⟩
    have HB := hide hb
    have hth := HTH.out w2 hb
    have hz2 : w.heap.size + 1 ≤ w2.heap.size := by have := hb.size; rw [← HSZ.out]; exact this
    have hz : w.heap.size < w2.heap.size := by omega
    clear hb N0
    go_wp2_with (refine wpList_store_mid rfl 32 (.tmp 8) (.tmp 17) rfl w.heap.size 0 ([.slice none 0 0, .slice none 0 0, .int .i64 0, .int .i64 0, .int .i64 0, .int .i64 0, .int .i64 0, .int .i64 0, .int .i64 0] : List Value).toArray (by rfl) (by rfl) hth (by kernel_rfl) (by kernel_rfl) ?_)
    have hRS := World.rangeAt_setCells_same w2 w.heap.size 0 ([.slice none 0 0, .slice none 0 0, .int .i64 0, .int .i64 0, .int .i64 0, .int .i64 0, .int .i64 0, .int .i64 0, .int .i64 0] : List Value) hth
    have hld := run_loadVar_mid (P := Try.prog) (w2.setCells w.heap.size 0 ([.slice none 0 0, .slice none 0 0, .int .i64 0, .int .i64 0, .int .i64 0, .int .i64 0, .int .i64 0, .int .i64 0, .int .i64 0] : List Value)) w.heap.size 0 32 ([.slice none 0 0, .slice none 0 0, .int .i64 0, .int .i64 0, .int .i64 0, .int .i64 0, .int .i64 0, .int .i64 0, .int .i64 0] : List Value) _ hRS Try.underlying32 rfl (by kernel_rfl)
    refine bodyPost_ret (v := .tuple #[zeroV, .int .i64 E]) (by simp [results, Try.results22, hld, asAddr, zeroV]) rfl (Or.inl ⟨h0, rfl, ?_⟩)
    have h1 : Keep (fun k => k < w.heap.size) w w2 := (Keep.of_below (K := fun k => k < w.heap.size) HBA.out (fun k hk => hk)).trans (Keep.of_below (K := fun k => k < w.heap.size) HB.out (fun k hk => by simp; omega))
    exact (Keep.setCells h1 (b := w.heap.size) (by simp) 0 ([.slice none 0 0, .slice none 0 0, .int .i64 0, .int .i64 0, .int .i64 0, .int .i64 0, .int .i64 0, .int .i64 0, .int .i64 0] : List Value)).below (fun k hk => hk)
end Go.Proofs.Ytlfingcmekifkaa

namespace Go.Proofs.Ytlfingcmekifkaa
open Go.RowKit

theorem lat_vals {n p : Nat} (hn : 1 ≤ n ∧ n ≤ 16) (hp : 1 ≤ p ∧ p ≤ 64) {cs : List Cl} (hcs : ∀ c ∈ cs, 0 ≤ c.thread ∧ c.thread < n ∧ ClU c) (picks : List Int) : ∀ e ∈ (latPlay n p cs picks).ends latG, 0 ≤ e.ans.val ∧ e.ans.val < 18446744073709551616 := by
  refine ans_ends (Q := fun a => 0 ≤ a.val ∧ a.val < 18446744073709551616) ?_
  refine ans_play (T := latTh 1 0 n p) (Q := fun a => 0 ≤ a.val ∧ a.val < 18446744073709551616) (latTh_ok 1 0 n p) (by decide) ?_ (fun c hc => ?_) picks (latGood_new hn hp cs.length) (fun e he => by cases he)
  · intro o lw hs t m hg hm ht hd
    obtain ⟨N, _, hw, hG⟩ := hg
    have z : (0 : Int) ≤ 0 ∧ (0 : Int) < 18446744073709551616 := by decide
    have hmk := hG.mok t m hm
    show 0 ≤ (latAns (latStep o lw m).2.2.1).1.val ∧ (latAns (latStep o lw m).2.2.1).1.val < 18446744073709551616
    cases m with
    | no e => exact z
    | full => exact z
    | tell s all =>
      obtain ⟨k1, k2, k3⟩ := hmk
      have hq := scstep_w64 (n := o.n) (s := s) k2 hG.w64
      unfold latStep
      dsimp only
      split
      · exact fold_bd _ _ hq.1 k3
      · exact k3
    | upd t' v r s sc next =>
      cases sc with
      | false => exact z
      | true =>
        unfold latStep
        dsimp only
        split
        · exact z
        · split
          · exact z
          · exact z
    | gtl t' v s all =>
      obtain ⟨k1, k2, _, k3⟩ := hmk
      have hq := scstep_w64 (n := o.n) (s := s) k2 hG.w64
      unfold latStep
      dsimp only
      split
      · exact fold_bd _ _ hq.1 k3
      · exact k3
  · obtain ⟨h1, h2, h3⟩ := hcs c hc
    exact ⟨h1, by omega, h3, h2⟩
theorem chkP_zero {n p : Int} {cs : List Cl} {np : Nat} (h : chkP n p cs np = 0) : chkE n cs np = 0 ∧ 1 ≤ p ∧ p ≤ 64 := by
  unfold chkP at h
  split at h
  · rename_i h1
    exact absurd h h1
  · rename_i h1
    split at h
    · cases h
    · exact ⟨by omega, by omega, by omega⟩
theorem toldB_congr {cs : List Cl} {e e0 : Ep} (h1 : e.call = e0.call) (h3 : e.resp = e0.resp) (h5 : e.ans = e0.ans) : toldE cs e ↔ toldE cs e0 := by
  unfold toldE isGive isTell
  rw [h1, h3, h5]
/-- And, of words. -/
theorem and_sub {a b : Int} (ha : 0 ≤ a ∧ a < 18446744073709551616) (hb : 0 ≤ b ∧ b < 18446744073709551616) (h : subI a b) : bits .and .u64 a b = a ∧ bits .and .u64 b a = a := by
  have h1 := subI_and h
  rw [u64_and a b ha.1 ha.2 hb.1 hb.2, u64_and b a hb.1 hb.2 ha.1 ha.2, Nat.and_comm b.toNat a.toNat, h1]
  omega
def RowsAt (cs : List Cl) (es : List Ep) : Prop := (∀ (k : Nat) (e : Ep), es[k]? = some e → e.call < cs.length) ∧ (∀ (k : Nat) (e : Ep), es[k]? = some e → 0 ≤ e.ans.val ∧ e.ans.val < 18446744073709551616) ∧
  ∀ (h k : Nat) (x y : Ep), es[h]? = some x → es[k]? = some y → toldE cs x → toldE cs y → (subI x.ans.val y.ans.val ∨ subI y.ans.val x.ans.val) ∧ (x.resp < y.inv → subI x.ans.val y.ans.val)
theorem rows_ends {n p : Nat} (hn : 1 ≤ n ∧ n ≤ 16) (hp : 1 ≤ p ∧ p ≤ 64) {cs : List Cl} (hcs : ∀ c ∈ cs, 0 ≤ c.thread ∧ c.thread < n ∧ ClU c) (picks : List Int) : RowsAt cs ((latPlay n p cs picks).ends latG) := by
  have hcs' : ∀ c ∈ cs, 0 ≤ c.thread ∧ c.thread < n := fun c hc => ⟨(hcs c hc).1, (hcs c hc).2.1⟩
  refine ⟨fun k e he => ?_, fun k e he => lat_vals hn hp hcs picks e (List.mem_of_getElem? he), fun h k x y hx hy tx ty => ?_⟩
  · obtain ⟨e0, h0, h1, _⟩ := ends_get he
    rw [h1]
    exact (lat_holds hn.1 hcs' picks k e0 h0).1
  · obtain ⟨x0, a0, a1, a2, a3, a4, a5⟩ := ends_get hx
    obtain ⟨y0, b0, b1, b2, b3, b4, b5⟩ := ends_get hy
    rw [a3, a5, b2, b5]
    exact lat_rows hn.1 hcs' picks h k x0 y0 a0 b0 ((toldB_congr a1 a3 a5).1 tx) ((toldB_congr b1 b3 b5).1 ty)
def HoldsAt (n : Nat) (cs : List Cl) (es : List Ep) : Prop := (∀ (k : Nat) (e : Ep), es[k]? = some e → 0 ≤ e.ans.val ∧ e.ans.val < 18446744073709551616) ∧
  ∀ (h : Nat) (x : Ep), es[h]? = some x → x.call < cs.length ∧ x.steps ≤ 2 * (n * n : Nat) + 5 * n + 2 ∧ ((callOf cs x.call).kind = 1 → x.steps ≤ (n * n : Nat) + 2 * n) ∧ (toldE cs x →
      (∀ (k : Nat) (y : Ep), k ≤ h → es[k]? = some y → thrE cs y = thrE cs x → isGive cs y → y.ans.err = 0 → subI (argA cs y) x.ans.val) ∧
      ∀ b, bit x.ans.val b = true → ∃ (k : Nat) (y : Ep), es[k]? = some y ∧ isGive cs y ∧ y.ans.err = 0 ∧ y.inv ≤ x.resp ∧ bit (argA cs y) b = true)
theorem holds_ends {n p : Nat} (hn : 1 ≤ n ∧ n ≤ 16) (hp : 1 ≤ p ∧ p ≤ 64) {cs : List Cl} (hcs : ∀ c ∈ cs, 0 ≤ c.thread ∧ c.thread < n ∧ ClU c) (picks : List Int) : HoldsAt n cs ((latPlay n p cs picks).ends latG) := by
  have hcs' : ∀ c ∈ cs, 0 ≤ c.thread ∧ c.thread < n := fun c hc => ⟨(hcs c hc).1, (hcs c hc).2.1⟩
  refine ⟨fun k e he => lat_vals hn hp hcs picks e (List.mem_of_getElem? he), fun h x hx => ?_⟩
  obtain ⟨x0, a0, a1, a2, a3, a4, a5⟩ := ends_get hx
  obtain ⟨h1, h2, h3, h4⟩ := lat_holds hn.1 hcs' picks h x0 a0
  refine ⟨by rw [a1]; exact h1, by rw [a4]; exact h2, fun hk => by rw [a4]; exact h3 (by rw [← a1]; exact hk), fun ht => ?_⟩
  obtain ⟨h5, h6⟩ := h4 ((toldB_congr a1 a3 a5).1 ht)
  refine ⟨fun k y hk hy hth hg he => ?_, fun b hb => ?_⟩
  · obtain ⟨y0, b0, b1, b2, b3, b4, b5⟩ := ends_get hy
    rw [a5]
    unfold argA
    rw [b1]
    refine h5 k y0 hk b0 ?_ ?_ (by rw [← b5]; exact he)
    · unfold thrE at hth ⊢
      rw [← b1, ← a1]
      exact hth
    · unfold isGive at hg ⊢
      rw [← b1]
      exact hg
  · rw [a5] at hb
    obtain ⟨k, y0, c1, c2, c3, c4, c5⟩ := h6 b hb
    obtain ⟨y, d0, d1, d2, d3, d4, d5⟩ := ends_has (G := latG) c1
    refine ⟨k, y, d0, ?_, by rw [d5]; exact c3, by rw [d2, a3]; exact c4, ?_⟩
    · unfold isGive at c2 ⊢
      rw [d1]
      exact c2
    · unfold argA at c5 ⊢
      rw [d1]
      exact c5
end Go.Proofs.Ytlfingcmekifkaa
