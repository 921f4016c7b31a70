import Derived.Test.YtlfingcmekifkaaGreatEl4
import Derived.Test.YtlfingcmekifkaaGreatBun9
import Derived.Test.YtlfingcmekifkaaGreatBun12
import Derived.Test.YtlfingcmekifkaaGreatBun18
namespace Go.Proofs.YtlfingcmekifkaaGreat
open Go.RowKit
def elA18 (l : Int) : Array Value := #[.int .i64 0, .int .i64 l, .bool false, .bool false, .bool false, .bool false, .bool false, .bool false, .bool false, .bool false, .bool false, .bool false, .bool false, .bool false, .bool false, .bool false, .bool false, .bool false]
set_option maxRecDepth 100000 in
theorem elNewW (n : Nat) (hn : 1 ≤ n ∧ n ≤ 16) (w : World) : Calls Tryz.prog 33 #[.int .i64 0, .int .i64 n] w fun e w' => e = .returned (.pointer (some ⟨w.heap.size, 0, none⟩)) ∧ w' = w.alloc (.cells (elA18 (pw2 (dep n))) 123) := by
  unfold elA18
  have N := elLeaves n hn w
  go_enter Tryz.func33, Tryz.ntmps33
  go_wp2_with fail
  refine N.mono ?_
  rintro e w1 ⟨rfl, rfl⟩
  go_wp2
  go_ret
  exact ⟨rfl, rfl⟩
set_option maxRecDepth 100000 in
theorem elSizeW (n : Nat) (hn : 1 ≤ n ∧ n ≤ 16) (w : World) : Calls Tryz.prog 34 #[.int .i64 n] w fun e w' => e = .returned (.int .i64 (pw2 (dep n) - 1)) ∧ w' = w := by
  have N := elLeaves n hn w
  obtain ⟨q0, q1⟩ := pw2_bd (dep n)
  have hw : IntKind.i64.wrap (pw2 (dep n) - 1) = pw2 (dep n) - 1 := wrap_i64 (by omega) (by omega)
  generalize pw2 (dep n) = q at *
  go_enter Tryz.func34, Tryz.ntmps34
  go_wp2_with fail
  refine N.mono ?_
  rintro e w1 ⟨rfl, rfl⟩
  go_wp2
  go_ret
  exact ⟨rfl, rfl⟩
theorem elOB_new {w : World} {pe : Nat} {l : Int} (h : w.heap[pe]? = some (.cells (elA18 l) 123 (0, 0))) : elOB pe w (fun k => k = pe) ⟨l, fun _ => false⟩ := by
  refine ⟨fun k => Iff.rfl, _, rowIs_lit h rfl, rfl, rfl, fun t ht => ?_⟩
  match t, ht with
  | 0, _ => rfl
  | 1, _ => rfl
  | 2, _ => rfl
  | 3, _ => rfl
  | 4, _ => rfl
  | 5, _ => rfl
  | 6, _ => rfl
  | 7, _ => rfl
  | 8, _ => rfl
  | 9, _ => rfl
  | 10, _ => rfl
  | 11, _ => rfl
  | 12, _ => rfl
  | 13, _ => rfl
  | 14, _ => rfl
  | 15, _ => rfl
  | t + 16, h => exact absurd h (by omega)
theorem two_pow_le {nn d : Nat} (h : dep nn = d) : 2 ^ d ≤ 16 := by
  have := dep_le nn
  rw [h] at this
  exact Nat.pow_le_pow_right (by decide) this
theorem pw2_int {d : Nat} (h : d ≤ 4) : pw2 d = (2 : Int) ^ d := by
  rcases (by omega : d = 0 ∨ d = 1 ∨ d = 2 ∨ d = 3 ∨ d = 4) with rfl | rfl | rfl | rfl | rfl <;> rfl
theorem elGood_new {nn d : Nat} (h : dep nn = d) (m : Nat) : elGood (pw2 d) ⟨2 ^ d, fun _ => false⟩ (Ps.new (List.replicate (2 ^ d - 1) 0) (⟨2 ^ d, fun _ => false⟩ : El) m : Ps EM El).lw (fun _ => none) :=
  ⟨(pw2_int (h ▸ dep_le nn)).symm, pw2_bd d, fun t m h => by cases h⟩
theorem elGo {W : World} {pe ps pz nn d b0 : Nat} {A : Option Addr} {m c : Nat} {cs : List Cl} {Ap : Option Addr} {np cp : Nat} {picks : List Int} (hd : dep nn = d) (he : W.heap[pe]? = some (.cells (elA18 (pw2 d)) 123 (0, 0))) (hs : W.heap[ps]? = some (.cells #[.iface 71 (.pointer (some ⟨pe, 0, none⟩))] 181 (0, 0))) (hz : W.heap[pz]? = some (.cells (madeCells #[.int .u64 0] (2 ^ d - 1)) 46 (0, 0)))
    (h : SlCl W (.slice A m c) cs) (hm : cs.length = m) (hp : SlI W (.slice Ap np cp) picks) (hpl : picks.length = np) (hcu : ∀ c ∈ cs, ClU c) (hE : chkE nn cs picks.length = 0) (hb : W.heap[b0]? = some zeroRep) (hbs : b0 ≠ pe ∧ b0 ≠ ps ∧ pe ≠ ps) (hC : ∀ a : Addr, A = some a → 0 < cs.length → a.block ≠ pe ∧ a.block ≠ b0) (hP : ∀ a : Addr, Ap = some a → 0 < picks.length → a.block ≠ pe ∧ a.block ≠ b0) :
    Calls Tryz.prog 23 #[.int .i64 nn, .slice (some ⟨ps, 0, none⟩) 1 1, .slice (some ⟨pz, 0, none⟩) (2 ^ d - 1) (2 ^ d - 1), .slice A m c, .slice Ap np cp] W (MidPost b0 (fun k => k = pe) ((elPlay d cs picks).ends elG) (elPlay d cs picks).lw.mem (elPlay d cs picks).lw.now (elPlay d cs picks).idle W) :=
  loomPlayMid (T := elTh pe (pw2 d)) (n := nn) (AO := some ⟨ps, 0, none⟩) (co := 1) (elTh_ok pe (pw2 d)) (made_sl hz (by unfold maxLen; have := two_pow_le hd; omega)) (by simp) (by have := two_pow_le hd; omega) h hm hp hpl (by have := elOB_new he; rw [pw2_int (hd ▸ dep_le nn)] at this; exact this) (objs_one hs) (fun a e _ h => by cases e; exact hbs.2.2 h.symm) (fun a e hl => (hC a e hl).1) (fun a e hl => (hP a e hl).1) hcu (elGood_new hd cs.length) hE hb hbs.1 (fun a e h => by cases e; exact hbs.2.1 h.symm) (fun a e hl => (hC a e hl).2) (fun a e hl => (hP a e hl).2)
set_option maxRecDepth 100000 in
set_option maxHeartbeats 2000000 in
theorem electPlay (n : Int) (A : Option Addr) (m c : Nat) (cs : List Cl) (Ap : Option Addr) (np cp : Nat) (picks : List Int) (w : World) (h : SlCl w (.slice A m c) cs) (hm : cs.length = m) (hp : SlI w (.slice Ap np cp) picks) (hpl : picks.length = np) (hcu : ∀ c ∈ cs, ClU c) :
    Calls Tryz.prog 21 #[.int .i64 n, .slice A m c, .slice Ap np cp] w (OutPost (chkE n cs picks.length) ((elPlay (dep n.toNat) cs picks).ends elG) (elPlay (dep n.toNat) cs picks).lw.mem (elPlay (dep n.toNat) cs picks).lw.now (elPlay (dep n.toNat) cs picks).idle w) := by
  have hba : Below w.heap.size w (w.alloc zeroRep) := (Below.refl _ w).alloc (Nat.le_refl _) _
  have hsz : (w.alloc zeroRep).heap.size = w.heap.size + 1 := by simp
  have hrow : (w.alloc zeroRep).heap[w.heap.size]? = some zeroRep := heap_alloc_new w zeroRep
  have hCZ : ∀ a : Addr, A = some a → 0 < cs.length → a.block < w.heap.size := fun a e hl => sl_block h e hl
  have hPZ : ∀ a : Addr, Ap = some a → 0 < picks.length → a.block < w.heap.size := fun a e hl => sl_block hp e hl
  have h1 := h.below hba (Nat.le_refl _)
  have hp1 := hp.below hba (Nat.le_refl _)
  have N0 := loomCheck n A m c cs Ap np cp _ h1 hm
  have HBA := hide hba
  have HSZ := hide hsz
  have HROW := hide hrow
  have HH1 := hide h1
  have HP1 := hide hp1
  have HCU := hide hcu
  have HPL := hide hpl
  have HM := hide hm
  clear h hp hba hsz hrow h1 hp1 hcu
  obtain ⟨E, hE⟩ : ∃ E, chkE n cs picks.length = E := ⟨_, rfl⟩
  have hE' : chkE n cs np = E := by rw [← hE, hpl]
  rw [hE'] at N0
  rw [hE]
  have HE := hide hE
  clear hE hE' hpl hm
  unfold zeroRep at N0
  by_cases h0 : E = 0
  · subst h0
    have hn : 1 ≤ n ∧ n ≤ 16 := by
      have hE := HE.out
      unfold chkE at hE
      split at hE
      · cases hE
      · rename_i h; omega
    obtain ⟨nn, rfl⟩ : ∃ nn : Nat, n = nn := ⟨n.toNat, by omega⟩
    have hn' : 1 ≤ nn ∧ nn ≤ 16 := by omega
    obtain ⟨d, hd⟩ : ∃ d, dep nn = d := ⟨_, rfl⟩
    have hdl := two_pow_le hd
    have hq : pw2 d - 1 = ((2 ^ d - 1 : Nat) : Int) := by
      have h1 := pw2_is (d := d) (hd ▸ dep_le nn)
      have h2 : 1 ≤ 2 ^ d := Nat.one_le_two_pow
      omega
    have hmk : ∀ W, (Instr.makeSlice 28 (.int .i64 (pw2 d - 1)) (.int .i64 (pw2 d - 1))).run Tryz.prog W = .ok (.slice (some ⟨W.heap.size, 0, none⟩) (2 ^ d - 1) (2 ^ d - 1)) (W.alloc (.cells (madeCells #[.int .u64 0] (2 ^ d - 1)) 46)) := by
      intro W
      rw [hq]
      exact run_make_row' (P := Tryz.prog) 28 46 (.int .u64 0) 8 Tryz.underlying28 info_word rfl .i64 .i64 (2 ^ d - 1) (by omega) (by omega) W
    have N1 := elNewW nn hn'
    have N2 := elSizeW nn hn'
    rw [hd] at N1 N2
    rw [Int.toNat_natCast, hd]
    have HDD := hide hd
    have HN1 := hide N1
    have HN2 := hide N2
    clear hn hdl hq hd N1 N2
    go_enter Tryz.func21, Tryz.ntmps21
    go_wp2_with fail
    refine N0.mono ?_
    rintro e w2 ⟨rfl, hb⟩
    have HB := hide hb
    have hz2 : w.heap.size + 1 ≤ w2.heap.size := by have := hb.size; rw [← HSZ.out]; exact this
    have hb0 : w2.heap[w.heap.size]? = some zeroRep := (hb.block w.heap.size (by show w.heap.size < (w.alloc zeroRep).heap.size; rw [HSZ.out]; omega)).trans HROW.out
    have hbw2 : Below w.heap.size w w2 := HBA.out.trans (hb.mono (show w.heap.size ≤ (w.alloc zeroRep).heap.size by rw [HSZ.out]; omega))
    have hc2 : SlCl w2 (.slice A m c) cs := HH1.out.below hb (Nat.le_refl _)
    have hp2 : SlI w2 (.slice Ap np cp) picks := HP1.out.below hb (Nat.le_refl _)
    have HC2 := hide hc2
    have HP2 := hide hp2
    clear hb N0 hc2 hp2
    have N1 := HN1.out w2
    go_wp2_with fail
    refine N1.mono ?_
    rintro e w3 ⟨rfl, rfl⟩
    have N2 := HN2.out
    clear N1
    go_wp2_with fail
    refine (N2 _).mono ?_
    rintro e w3 ⟨rfl, rfl⟩
    clear N2
    obtain ⟨m0, m1, m2⟩ := allocs3 w2 (.cells (elA18 (pw2 d)) 123) (.cells #[.iface 71 (.pointer (some ⟨w2.heap.size, 0, none⟩))] 181) (.cells (madeCells #[.int .u64 0] (2 ^ d - 1)) 46)
    have hak := allocs3_keep w2 (.cells (elA18 (pw2 d)) 123) (.cells #[.iface 71 (.pointer (some ⟨w2.heap.size, 0, none⟩))] 181) (.cells (madeCells #[.int .u64 0] (2 ^ d - 1)) 46)
    have C := elGo (pe := w2.heap.size) (ps := w2.heap.size + 1) (pz := w2.heap.size + 1 + 1) (b0 := w.heap.size) HDD.out m0 m1 m2 (HC2.out.below hak (Nat.le_refl _)) HM.out (HP2.out.below hak (Nat.le_refl _)) HPL.out HCU.out HE.out ((hak.block w.heap.size (by show w.heap.size < w2.heap.size; omega)).trans hb0) (by refine ⟨?_, ?_, ?_⟩ <;> omega) (fun a e hl => by have := hCZ a e hl; omega) (fun a e hl => by have := hPZ a e hl; omega)
    have hbW := hbw2.trans (hak.mono (show w.heap.size ≤ w2.heap.size from hbw2.size))
    have hWz := Nat.lt_of_lt_of_le (show w.heap.size < w2.heap.size from by omega) hak.size
    have HBW := hide hbW
    have HWZ := hide hWz
    clear m0 m1 m2 hbW hWz
    go_wp2_with fail
    refine C.mono ?_
    rintro e w5 ⟨Ae, ce, B, Mu, g, c5, rfl, hEv, hBz, hwr, hk5, hz5, hMb⟩
    have HEV := hide hEv
    have HWR := hide hwr
    have HK5 := hide hk5
    clear hEv hwr hk5 C
    unfold repV
    go_wp2_with (refine wpList_store_mid rfl 32 (.tmp 6) (.tmp 28) rfl w.heap.size 0 ([.slice Ae ((elPlay d cs picks).ends elG).length ce, .slice (some ⟨g, 0, none⟩) (elPlay d cs picks).lw.mem.words.length c5, .int .i64 (wrap64 (elPlay d cs picks).lw.mem.rd), .int .i64 (wrap64 (elPlay d cs picks).lw.mem.wr), .int .i64 (wrap64 (elPlay d cs picks).lw.mem.sw), .int .i64 (wrap64 (elPlay d cs picks).lw.mem.ad), .int .i64 (wrap64 (elPlay d cs picks).lw.mem.ft), .int .i64 (elPlay d cs picks).lw.now, .int .i64 (elPlay d cs picks).idle] : List Value).toArray (by rfl) (by rfl) (zero_there hz5 ([.slice Ae ((elPlay d cs picks).ends elG).length ce, .slice (some ⟨g, 0, none⟩) (elPlay d cs picks).lw.mem.words.length c5, .int .i64 (wrap64 (elPlay d cs picks).lw.mem.rd), .int .i64 (wrap64 (elPlay d cs picks).lw.mem.wr), .int .i64 (wrap64 (elPlay d cs picks).lw.mem.sw), .int .i64 (wrap64 (elPlay d cs picks).lw.mem.ad), .int .i64 (wrap64 (elPlay d cs picks).lw.mem.ft), .int .i64 (elPlay d cs picks).lw.now, .int .i64 (elPlay d cs picks).idle] : List Value) rfl) (by kernel_rfl) (by kernel_rfl) ?_)
    have hRS := World.rangeAt_setCells_same w5 w.heap.size 0 ([.slice Ae ((elPlay d cs picks).ends elG).length ce, .slice (some ⟨g, 0, none⟩) (elPlay d cs picks).lw.mem.words.length c5, .int .i64 (wrap64 (elPlay d cs picks).lw.mem.rd), .int .i64 (wrap64 (elPlay d cs picks).lw.mem.wr), .int .i64 (wrap64 (elPlay d cs picks).lw.mem.sw), .int .i64 (wrap64 (elPlay d cs picks).lw.mem.ad), .int .i64 (wrap64 (elPlay d cs picks).lw.mem.ft), .int .i64 (elPlay d cs picks).lw.now, .int .i64 (elPlay d cs picks).idle] : List Value) (zero_there hz5 ([.slice Ae ((elPlay d cs picks).ends elG).length ce, .slice (some ⟨g, 0, none⟩) (elPlay d cs picks).lw.mem.words.length c5, .int .i64 (wrap64 (elPlay d cs picks).lw.mem.rd), .int .i64 (wrap64 (elPlay d cs picks).lw.mem.wr), .int .i64 (wrap64 (elPlay d cs picks).lw.mem.sw), .int .i64 (wrap64 (elPlay d cs picks).lw.mem.ad), .int .i64 (wrap64 (elPlay d cs picks).lw.mem.ft), .int .i64 (elPlay d cs picks).lw.now, .int .i64 (elPlay d cs picks).idle] : List Value) rfl)
    have hld := run_loadVar_mid (P := Tryz.prog) (w5.setCells w.heap.size 0 ([.slice Ae ((elPlay d cs picks).ends elG).length ce, .slice (some ⟨g, 0, none⟩) (elPlay d cs picks).lw.mem.words.length c5, .int .i64 (wrap64 (elPlay d cs picks).lw.mem.rd), .int .i64 (wrap64 (elPlay d cs picks).lw.mem.wr), .int .i64 (wrap64 (elPlay d cs picks).lw.mem.sw), .int .i64 (wrap64 (elPlay d cs picks).lw.mem.ad), .int .i64 (wrap64 (elPlay d cs picks).lw.mem.ft), .int .i64 (elPlay d cs picks).lw.now, .int .i64 (elPlay d cs picks).idle] : List Value)) w.heap.size 0 32 ([.slice Ae ((elPlay d cs picks).ends elG).length ce, .slice (some ⟨g, 0, none⟩) (elPlay d cs picks).lw.mem.words.length c5, .int .i64 (wrap64 (elPlay d cs picks).lw.mem.rd), .int .i64 (wrap64 (elPlay d cs picks).lw.mem.wr), .int .i64 (wrap64 (elPlay d cs picks).lw.mem.sw), .int .i64 (wrap64 (elPlay d cs picks).lw.mem.ad), .int .i64 (wrap64 (elPlay d cs picks).lw.mem.ft), .int .i64 (elPlay d cs picks).lw.now, .int .i64 (elPlay d cs picks).idle] : List Value) _ hRS Tryz.underlying32 rfl (by kernel_rfl)
    refine bodyPost_ret (v := .tuple #[.agg #[.slice Ae ((elPlay d cs picks).ends elG).length ce, .slice (some ⟨g, 0, none⟩) (elPlay d cs picks).lw.mem.words.length c5, .int .i64 (wrap64 (elPlay d cs picks).lw.mem.rd), .int .i64 (wrap64 (elPlay d cs picks).lw.mem.wr), .int .i64 (wrap64 (elPlay d cs picks).lw.mem.sw), .int .i64 (wrap64 (elPlay d cs picks).lw.mem.ad), .int .i64 (wrap64 (elPlay d cs picks).lw.mem.ft), .int .i64 (elPlay d cs picks).lw.now, .int .i64 (elPlay d cs picks).idle], .int .i64 0]) (by simp [results, Tryz.results21, hld, Sem.run_bind, asAddr]) rfl ?_
    exact out_done ([.slice Ae ((elPlay d cs picks).ends elG).length ce, .slice (some ⟨g, 0, none⟩) (elPlay d cs picks).lw.mem.words.length c5, .int .i64 (wrap64 (elPlay d cs picks).lw.mem.rd), .int .i64 (wrap64 (elPlay d cs picks).lw.mem.wr), .int .i64 (wrap64 (elPlay d cs picks).lw.mem.sw), .int .i64 (wrap64 (elPlay d cs picks).lw.mem.ad), .int .i64 (wrap64 (elPlay d cs picks).lw.mem.ft), .int .i64 (elPlay d cs picks).lw.now, .int .i64 (elPlay d cs picks).idle] : List Value) HEV.out hBz HWR.out HK5.out hMb HBW.out (fun k hk => by omega) (Nat.le_refl _) HWZ.out
  · have d0 : (E != 0) = true := by simpa using h0
    have hth := fun (w2 : World) (hb : Below (w.alloc zeroRep).heap.size (w.alloc zeroRep) w2) => zero_there ((hb.block w.heap.size (by rw [HSZ.out]; omega)).trans HROW.out) ([.slice none 0 0, .slice none 0 0, .int .i64 0, .int .i64 0, .int .i64 0, .int .i64 0, .int .i64 0, .int .i64 0, .int .i64 0] : List Value) rfl
    have HTH := hide hth
    clear hth
    go_enter Tryz.func21, Tryz.ntmps21
    go_wp2_with fail
    refine N0.mono ?_
    rintro e w2 ⟨rfl, hb⟩
    have HB := hide hb
    have hth := HTH.out w2 hb
    have hz2 : w.heap.size + 1 ≤ w2.heap.size := by have := hb.size; rw [← HSZ.out]; exact this
    have hz : w.heap.size < w2.heap.size := by omega
    clear hb N0
    go_wp2_with (refine wpList_store_mid rfl 32 (.tmp 6) (.tmp 15) rfl w.heap.size 0 ([.slice none 0 0, .slice none 0 0, .int .i64 0, .int .i64 0, .int .i64 0, .int .i64 0, .int .i64 0, .int .i64 0, .int .i64 0] : List Value).toArray (by rfl) (by rfl) hth (by kernel_rfl) (by kernel_rfl) ?_)
    have hRS := World.rangeAt_setCells_same w2 w.heap.size 0 ([.slice none 0 0, .slice none 0 0, .int .i64 0, .int .i64 0, .int .i64 0, .int .i64 0, .int .i64 0, .int .i64 0, .int .i64 0] : List Value) hth
    have hld := run_loadVar_mid (P := Tryz.prog) (w2.setCells w.heap.size 0 ([.slice none 0 0, .slice none 0 0, .int .i64 0, .int .i64 0, .int .i64 0, .int .i64 0, .int .i64 0, .int .i64 0, .int .i64 0] : List Value)) w.heap.size 0 32 ([.slice none 0 0, .slice none 0 0, .int .i64 0, .int .i64 0, .int .i64 0, .int .i64 0, .int .i64 0, .int .i64 0, .int .i64 0] : List Value) _ hRS Tryz.underlying32 rfl (by kernel_rfl)
    refine bodyPost_ret (v := .tuple #[zeroV, .int .i64 E]) (by simp [results, Tryz.results21, hld, Sem.run_bind, asAddr, zeroV]) rfl (Or.inl ⟨h0, rfl, ?_⟩)
    have h1 : Keep (fun k => k < w.heap.size) w w2 := (Keep.of_below (K := fun k => k < w.heap.size) HBA.out (fun k hk => hk)).trans (Keep.of_below (K := fun k => k < w.heap.size) HB.out (fun k hk => by simp; omega))
    exact (Keep.setCells h1 (b := w.heap.size) (by simp) 0 ([.slice none 0 0, .slice none 0 0, .int .i64 0, .int .i64 0, .int .i64 0, .int .i64 0, .int .i64 0, .int .i64 0, .int .i64 0] : List Value)).below (fun k hk => hk)
end Go.Proofs.YtlfingcmekifkaaGreat

namespace Go.Proofs.YtlfingcmekifkaaGreat
open Go.RowKit
def lateC : List Cl := [⟨2, 0, 0, 0, 0, 0⟩, ⟨0, 0, 0, 0, 0, 0⟩]
def lateP : List Int := [2, 2, 0, 0]
theorem late_evs : ((elPlay 2 lateC lateP).ends elG).map (fun e => (e.steps, e.ans.val, e.resp)) = [(2, 1, 2), (2, 0, 4)] := by kernel_rfl
theorem late_words : (elPlay 2 lateC lateP).lw.mem.words = [3, 1, 3] := by kernel_rfl
theorem late_chk : chkE 3 lateC lateP.length = 0 := by kernel_rfl
theorem late_calls {w : World} {b : Nat} {t : TypeId} (h : w.heap[b]? = some (.cells #[.int .i64 2, .int .i64 0, .int .i64 0, .int .u64 0, .int .u64 0, .int .u64 0, .int .i64 0, .int .i64 0, .int .i64 0, .int .u64 0, .int .u64 0, .int .u64 0] t (0, 0))) : SlCl w (.slice (some ⟨b, 0, none⟩) 2 2) lateC := by
  refine Sl.of_block (enc := clEnc) (sz := 6) (xs := lateC) (c := 2) h (Nat.le_refl _) (by unfold maxLen; decide) ?_
  intro k x hx j u hu
  rcases k with _ | _ | k
  · simp [lateC] at hx
    subst hx
    rcases j with _ | _ | _ | _ | _ | _ | j <;> simp [clEnc] at hu ⊢ <;> exact hu
  · simp [lateC] at hx
    subst hx
    rcases j with _ | _ | _ | _ | _ | _ | j <;> simp [clEnc] at hu ⊢ <;> exact hu
  · simp [lateC] at hx
theorem late_picks {w : World} {b : Nat} {t : TypeId} (h : w.heap[b]? = some (.cells #[.int .i64 2, .int .i64 2, .int .i64 0, .int .i64 0] t (0, 0))) : SlI w (.slice (some ⟨b, 0, none⟩) 4 4) lateP := by
  refine Sl.of_block (enc := ntEnc .i64) (sz := 1) (xs := lateP) (c := 4) h (Nat.le_refl _) (by unfold maxLen; decide) ?_
  intro k x hx j u hu
  rcases j with _ | j
  · rcases k with _ | _ | _ | _ | k <;> simp [lateP] at hx <;> subst hx <;> simp [ntEnc] at hu ⊢ <;> exact hu
  · simp [ntEnc] at hu
set_option maxRecDepth 100000 in
set_option maxHeartbeats 2000000 in
theorem aloneW (w : World) : Calls Tryz.prog 20 #[] w fun e w' => e = .returned (.bool true) ∧ Below w.heap.size w w' := by
  have hc : SlCl ((w.alloc (.cells #[.int .i64 2, .int .i64 0, .int .i64 0, .int .u64 0, .int .u64 0, .int .u64 0, .int .i64 0, .int .i64 0, .int .i64 0, .int .u64 0, .int .u64 0, .int .u64 0] 48)).alloc (.cells #[.int .i64 2, .int .i64 2, .int .i64 0, .int .i64 0] 3)) (.slice (some ⟨w.heap.size, 0, none⟩) 2 2) lateC := late_calls ((heap_alloc_old _ _ (by simp)).trans (heap_alloc_new _ _))
  have hp : SlI ((w.alloc (.cells #[.int .i64 2, .int .i64 0, .int .i64 0, .int .u64 0, .int .u64 0, .int .u64 0, .int .i64 0, .int .i64 0, .int .i64 0, .int .u64 0, .int .u64 0, .int .u64 0] 48)).alloc (.cells #[.int .i64 2, .int .i64 2, .int .i64 0, .int .i64 0] 3)) (.slice (some ⟨w.heap.size + 1, 0, none⟩) 4 4) lateP := late_picks (by
    have : (w.alloc (.cells #[.int .i64 2, .int .i64 0, .int .i64 0, .int .u64 0, .int .u64 0, .int .u64 0, .int .i64 0, .int .i64 0, .int .i64 0, .int .u64 0, .int .u64 0, .int .u64 0] 48)).heap.size = w.heap.size + 1 := by simp
    rw [← this]
    exact heap_alloc_new _ _)
  have N := electPlay 3 _ _ _ lateC _ _ _ lateP _ hc rfl hp rfl (fun c hc => by
    simp [lateC] at hc
    rcases hc with rfl | rfl <;> (unfold ClU; decide))
  rw [late_chk, show dep (3 : Int).toNat = 2 from rfl] at N
  have he := late_evs
  have hwd := late_words
  clear hc hp
  generalize hPe : (elPlay 2 lateC lateP).ends elG = es at N he
  generalize (elPlay 2 lateC lateP).lw.mem = mm at N hwd
  generalize (elPlay 2 lateC lateP).lw.now = now at N
  generalize (elPlay 2 lateC lateP).idle = idle at N
  clear hPe
  have hel : es.length = 2 := by have := congrArg List.length he; simpa using this
  go_enter Tryz.func20, Tryz.ntmps20
  go_wp2_with fail
  refine N.mono ?_
  rintro e w1 (⟨h, _⟩ | ⟨_, ev, B, Mu, g, c, rfl, hEv, hB, hwr, hb⟩)
  · exact absurd rfl h
  obtain ⟨ge, ce, rfl, hge, hgz, hev⟩ := ev_of hEv (by rw [hel]; decide)
  match es, he with
  | [e0, e1], he =>
    simp at he
    obtain ⟨⟨s0, v0, t0⟩, s1, v1, t1⟩ := he
    obtain ⟨x0, i0, r0⟩ := hev 0 e0 rfl
    obtain ⟨x1, i1, r1⟩ := hev 1 e1 rfl
    have a3 := r0 3 _ rfl
    have a5 := r0 5 _ rfl
    have b5 := r1 5 _ rfl
    have b2 := r1 2 _ rfl
    rw [i0.steps, s0] at a3
    rw [i0.val, v0] at a5
    rw [i1.val, v1] at b5
    rw [i1.resp, t1] at b2
    have hw3 : w1.cell? ⟨g, 0, none⟩ = some (.int .u64 3) := by
      have := World.ownsRow.cellAt hwr 0 (by rw [hwd]; decide)
      rw [hwd] at this
      exact this
    have hwl : mm.words.length = 3 := by rw [hwd]; rfl
    have hgz2 : g < w1.heap.size := (World.ownsRow.lt hwr g rfl).2
    unfold repV
    rw [hwl]
    simp only [List.length_cons, List.length_nil]
    have HB := hide hb
    clear hwr hEv hev r0 r1 i0 i1 N hb hwd hwl hel
    simp at a3 a5 b5 b2
    go_wp2
    go_ret
    have hb2 : Below w.heap.size w ((w.alloc (.cells #[.int .i64 2, .int .i64 0, .int .i64 0, .int .u64 0, .int .u64 0, .int .u64 0, .int .i64 0, .int .i64 0, .int .i64 0, .int .u64 0, .int .u64 0, .int .u64 0] 48)).alloc (.cells #[.int .i64 2, .int .i64 2, .int .i64 0, .int .i64 0] 3)) := ((Below.refl _ w).alloc (Nat.le_refl _) _).alloc (by simp) _
    have hb3 := hb2.trans (HB.out.mono hb2.size)
    exact ⟨rfl, hb3.alloc hb3.size _⟩
end Go.Proofs.YtlfingcmekifkaaGreat
