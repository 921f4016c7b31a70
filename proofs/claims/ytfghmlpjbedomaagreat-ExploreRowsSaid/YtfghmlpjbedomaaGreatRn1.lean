/- A run of one cons (run.begin, run.Play): what comes of it is what the plain play gives. -/
import Derived.Test.YtfghmlpjbedomaaGreatTm2
import Derived.Test.YtfghmlpjbedomaaGreatCn4
namespace Go.Proofs.YtfghmlpjbedomaaGreat
open Go.RowKit

theorem chk_wrong {n : Int} {cs : List Cl} {np : Nat} (h : chkE n cs np = 0) : wrongE n cs = 0 ∧ np ≤ 65536 := by
  unfold chkE at h
  split at h
  · cases h
  · split at h
    · cases h
    · exact ⟨h, by omega⟩
theorem owns_sl {w : World} {B ob oc : Nat} {t : TypeId} {v : Value} (h : w.ownsRow B t 1 (.slice (some ⟨ob, 0, none⟩) 1 oc) 1 [v]) : Sl (fun v : Value => [v]) 1 w (.slice (some ⟨ob, 0, none⟩) 1 oc) [v] ∧ B ≤ ob :=
  ⟨sl_of_owns_en (en := fun v : Value => [v]) (fun _ => rfl) (l := [v]) h (by simp [maxLen]), (World.ownsRow.lt h ob rfl).1⟩
set_option maxRecDepth 100000 in
set_option maxHeartbeats 2000000 in
theorem rnBegin {n : Nat} (hn : 1 ≤ n ∧ n ≤ 16) {B cc b0 : Nat} {A : Option Addr} {m c : Nat} {cs : List Cl} {Ap : Option Addr} {np cp : Nat} {w : World} (hs : SlSp w (.slice (some ⟨B, 0, none⟩) 1 cc) [⟨1, 0, 0⟩]) (h : SlCl w (.slice A m c) cs) (hm : cs.length = m) (hE : chkE n cs np = 0) (hcu : ∀ c ∈ cs, ClU c) (hcl : ∀ c ∈ cs, cnCl c) (hrow : w.heap[b0]? = some zeroRep) (hCF : ∀ a : Addr, A = some a → 0 < cs.length → a.block ≠ b0) :
    Calls Tryz.prog 45 #[.int .i64 (n : Int), .slice (some ⟨B, 0, none⟩) 1 cc, .slice A m c, .slice Ap np cp] w fun e w' => ∃ X Mu Fm hv ev, X.cs = cs ∧ e = .returned (.tuple #[.pointer (some ⟨X.ad.pp, 0, none⟩), .int .i64 0]) ∧ PLa (cnTh.hold b0 zeroRep) X w' Mu (fun k => k = b0) Fm hv ev (Ps.new [0] () cs.length) ∧ (∀ k, Mu k → k = b0 ∨ w.heap.size ≤ k) ∧ w.heap.size ≤ X.Bl ∧ Below w.heap.size w w' := by
  have N0 := loomCheck n A m c cs Ap np cp _ h hm
  rw [hE] at N0
  have hwe := (chk_wrong hE).1
  have hbz := hlt_of hrow
  have HN := hide hn
  have HS := hide hs
  have HH := hide h
  have HR := hide hrow
  clear hn hs h hrow hE
  go_enter Tryz.func45, Tryz.ntmps45
  go_wp2_with fail
  refine N0.mono ?_
  rintro e w1 ⟨rfl, hb1⟩
  have N1 := tmMake HN.out w1 (HS.out.below hb1 (Nat.le_refl _))
  have HB1 := hide hb1
  clear N0 hb1
  go_wp2_with fail
  refine N1.mono ?_
  rintro e w2 ⟨ob, oc, g, rfl, hown, hg, hgz, hb2⟩
  have hz1 := HB1.out.size
  have hb02 := HB1.out.trans (hb2.mono hz1)
  obtain ⟨hV, hob⟩ := owns_sl hown
  have hmc : madeCells #[Value.int .u64 0] 1 = #[Value.int .u64 0] := by kernel_rfl
  rw [← hmc] at hg
  have C := loomBegin (T := cnTh.hold b0 zeroRep) (n := n) (AO := some ⟨ob, 0, none⟩) (co := oc) (a := ⟨g, 0, none⟩) (nw := 1) (cw := 1) (words := [0]) (A := A) (m := m) (c := c) (cs := cs) (o := ()) (Fo := fun k => k = b0) (w := w2) (Th.hold_ok cnTh_ok b0 zeroRep) (made_sl (N := 1) hg (by unfold maxLen; decide)) rfl (by decide) (HH.out.below hb02 (Nat.le_refl _)) hm hcu hwe
    ⟨fun _ => False, fun _ h => h, fun k => ⟨fun h => Or.inr h, fun h => h.elim False.elim id⟩, fun h => h, (hb02.block b0 hbz).trans HR.out⟩ hV (fun a e _ hk => by cases e; exact absurd hk (by show ob ≠ b0; omega)) (fun a e hl hk => hCF a e hl hk) (hcl := fun c hc _ => hcl c hc)
  have HB2 := hide hb02
  clear N1 hb2 hb02 hown hV hg
  go_wp2_with fail
  refine C.mono ?_
  rintro e w3 ⟨X, Mu, Fm, hv, ev, hX, rfl, hL, hmu, hXB, hb3⟩
  have hz2 := HB2.out.size
  have HL := hide hL
  have HB3 := hide hb3
  have HX := hide hX
  have HMU := hide hmu
  clear C hL hb3 hX hmu
  go_wp2
  go_ret2
  exact ⟨X, Mu, Fm, hv, ev, HX.out, rfl, HL.out, fun k hk => (HMU.out k hk).imp id (fun h => by omega), by omega, HB2.out.trans (HB3.out.mono hz2)⟩
set_option maxRecDepth 100000 in
set_option maxHeartbeats 2000000 in
theorem rnPlay {n : Nat} (hn : 1 ≤ n ∧ n ≤ 16) {B cc : Nat} {A : Option Addr} {m c : Nat} {cs : List Cl} {Ap : Option Addr} {np cp : Nat} {picks : List Int} {w : World} (hs : SlSp w (.slice (some ⟨B, 0, none⟩) 1 cc) [⟨1, 0, 0⟩]) (h : SlCl w (.slice A m c) cs) (hm : cs.length = m) (hp : SlI w (.slice Ap np cp) picks) (hpl : picks.length = np) (hE : chkE n cs np = 0) (hcu : ∀ c ∈ cs, ClU c) (hcl : ∀ c ∈ cs, cnCl c) :
    Calls Tryz.prog 29 #[.int .i64 (n : Int), .slice (some ⟨B, 0, none⟩) 1 cc, .slice A m c, .slice Ap np cp] w (OutPost 0 ((cnPlay cs picks).ends cnG) (cnPlay cs picks).lw.mem (cnPlay cs picks).lw.now (cnPlay cs picks).idle w) := by
  have hba : Below w.heap.size w (w.alloc zeroRep) := (Below.refl _ w).alloc (Nat.le_refl _) _
  have hrow := heap_alloc_new w zeroRep
  have hsz : (w.alloc zeroRep).heap.size = w.heap.size + 1 := by simp
  have hCZ : ∀ a : Addr, A = some a → 0 < cs.length → a.block < w.heap.size := fun a e hl => sl_block h e hl
  have hPZ : ∀ a : Addr, Ap = some a → 0 < picks.length → a.block < w.heap.size := fun a e hl => sl_block hp e hl
  have N0 := rnBegin (b0 := w.heap.size) (Ap := Ap) (cp := cp) hn (hs.below hba (Nat.le_refl _)) (h.below hba (Nat.le_refl _)) hm hE hcu hcl hrow (fun a e hl => Nat.ne_of_lt (hCZ a e hl))
  have hnp := (chk_wrong hE).2
  have HP1 := hide (hp.below hba (Nat.le_refl _))
  have HBA := hide hba
  have HSZ := hide hsz
  have HPL := hide hpl
  have HTh := hide (Th.hold_ok cnTh_ok w.heap.size zeroRep)
  clear hs h hp hba hsz hpl hE hrow
  go_enter Tryz.func29, Tryz.ntmps29
  go_wp2_with fail
  refine N0.mono ?_
  rintro e w3 ⟨X, Mu, Fm, hv, ev, hX, rfl, hL, hmu, hXB, hb3⟩
  have hthr : ∀ c ∈ cs, 0 ≤ c.thread ∧ c.thread < 16 ∧ ClU c ∧ cnCl c := by rw [← hX]; exact hL.thr
  have hz : w.heap.size + 1 ≤ w3.heap.size := by have := hb3.size; rw [HSZ.out] at this; omega
  have HX := hide hX
  have HL := hide hL
  have HMU := hide hmu
  have HB3 := hide hb3
  have HTHR := hide hthr
  have hzz := HSZ.out
  clear N0 hL hmu hb3 hX hthr
  go_wp2
  go_loopw [28] (fun i wr => ∃ (k : Nat) (Mu Fo' : Nat → Prop) (Fm : Nat → Nat → Prop) (hv : Nat → Value) (ev : Value), k ≤ np ∧ i = .int .i64 k ∧ Hid (PLa (cnTh.hold w.heap.size zeroRep) X wr Mu Fo' Fm hv ev ((Ps.new [0] () cs.length).play cnG cs (picks.take k))) ∧ Hid (∀ j, Mu j → (j = w.heap.size) ∨ (w.heap.size + 1) ≤ j) ∧ Hid (Keep (fun j => j < (w.heap.size + 1) ∧ ¬ (j = w.heap.size)) (w.alloc zeroRep) wr)) (fun i _ => np - (intOf i).toNat)
  case atStart => exact ⟨0, Mu, fun k => k = w.heap.size, Fm, hv, ev, Nat.zero_le _, rfl, HL, hide (fun j hj => by have := HMU.out j hj; rw [HSZ.out] at this; exact this), hide (Keep.of_below (K := fun j => j < (w.heap.size + 1) ∧ ¬ (j = w.heap.size)) HB3.out (fun k hk => by rw [HSZ.out]; exact hk.1))⟩
  case round =>
    clear HL HMU Mu Fm hv ev
    obtain ⟨k, Mu, Fo', Fm, hv, ev, hk, rfl, hL, hmu, hK⟩ := hrel
    by_cases hlt : k < np
    · obtain ⟨p, hpk⟩ : ∃ p, picks[k]? = some p := ⟨_, List.getElem?_eq_getElem (by rw [HPL.out]; exact hlt)⟩
      obtain ⟨A', c', e, g1, g2, g3⟩ := HP1.out
      obtain ⟨bb, oo, e', hbb, hc⟩ := g3 k p hpk
      rw [HPL.out] at e
      cases e
      cases e'
      have hnF : ¬ (bb = w.heap.size) := Nat.ne_of_lt (hPZ _ rfl (by rw [HPL.out]; omega))
      have c0' := (hK.out.cell (p := ⟨bb, oo + k * 1 + 0, none⟩) ⟨by rw [HSZ.out] at hbb; exact hbb, hnF⟩).trans (hc 0 (.int .i64 p) rfl)
      have c0 : wr.cell? ⟨bb, oo + k, none⟩ = some (.int .i64 p) := by simpa using c0'
      have hkk : (k : Int) < (np : Int) := by omega
      have hgk := good_play cnTh_ok HTHR.out (picks.take k) (P := Ps.new [0] () cs.length) (cnGood_new cs.length)
      have hpb := PB.play cnG_still (fun c hc => (HTHR.out c hc).1) (picks.take k) (PB.new [0] () cs.length (M := CM) (O := Unit))
      have N := playerPick HTh.out hL.out hgk hpb (by rw [List.length_take]; omega) p
      have HN := hide (play_succ (G := cnG) (cs := cs) (P := Ps.new [0] () cs.length) hpk)
      clear g3 hc c0' hgk hpb g1 g2 hpk
      go_wp2_with fail
      refine N.mono ?_
      rintro e w5 ⟨⟨d, rfl⟩, Mu5, Fo5, Fm5, hv5, ev5, hL5, hmu5, hk5⟩
      have HL5 := hide hL5
      have HM5 := hide hmu5
      have HK5 := hide hk5
      clear hL5 hmu5 hk5 N
      go_wp2
      go_roundw
      case rel =>
        refine ⟨k + 1, Mu5, Fo5, Fm5, hv5, ev5, by omega, by go_num, hide ?_, hide (fun j hj => ?_), hide ?_⟩
        · have := HL5.out
          rw [HX.out] at this
          rw [HN.out]
          exact this
        · rcases HM5.out j hj with h1 | h1
          · exact hmu.out j h1
          · exact Or.inr (by have := hK.out.size; rw [HSZ.out] at this; omega)
        · exact hK.out.trans (HK5.out.mono (fun j hj => ⟨by have := hK.out.size; rw [HSZ.out] at this; have := hj.1; omega, fun hm => by
            rcases hmu.out j hm with h1 | h1
            · exact hj.2 h1
            · have := hj.1; omega⟩))
      case measure => first | (simp [intOf]; done) | (simp [intOf]; omega)
    · obtain rfl : k = np := by omega
      have hL' := hL.out
      rw [List.take_of_length_le (by rw [HPL.out]; exact Nat.le_refl _)] at hL'
      obtain ⟨P, hP⟩ : ∃ P, (Ps.new [0] () cs.length).play cnG cs picks = P := ⟨_, rfl⟩
      rw [hP] at hL'
      obtain ⟨raw, hrow, _, _⟩ := hL'.evs.row
      obtain ⟨Ae, ce, rfl⟩ := own_slice hrow
      clear hrow
      have N := playerReport HTh.out hL'
      have HP := hide hP
      clear hP
      go_wp2_with fail
      refine N.mono ?_
      rintro e w5 ⟨g, c5, rfl, hEv, hwr, hk5⟩
      obtain ⟨F1, o1, o2, o3, o4⟩ := hL'.objs
      have hFb' := (o2 w.heap.size).2 (Or.inr rfl)
      have hbz := (Array.getElem?_eq_some_iff.1 o4).1
      have hMb := (hL'.muFo _ hFb').1
      have hpp := hL'.muFix X.ad.pp (Or.inl rfl)
      have hmev := fun k hk => (hL'.muEv k hk).1
      have h5 := (hk5.block w.heap.size ⟨hbz, fun e => (hL'.muFo _ hFb').2 (e ▸ Or.inl rfl), fun e => (hL'.muEv _ e).2.2.1 hFb'⟩).trans o4
      have hTl := hL'.gap2
      have hXl : w.heap.size + 1 ≤ X.Tl := by omega
      have hsz1 : (w.alloc zeroRep).heap.size = w.heap.size + 1 := HSZ.out
      have hszr := hK.out.size
      rw [hsz1] at hszr
      have k3 : Keep (fun k => k < w.heap.size + 1 ∧ ¬ False ∧ k ≠ w.heap.size) (w.alloc zeroRep) w5 := (hK.out.mono (fun k hk => ⟨hk.1, hk.2.2⟩)).trans (hk5.mono (fun k hk => by
        have hnm : ¬ Mu k := fun hm => by
          rcases hmu.out k hm with h | h
          · exact hk.2.2 h
          · omega
        exact ⟨by omega, fun e => hnm (e ▸ hpp), fun e => hnm (hmev k e)⟩))
      have hEv' : EvsAt w5 X.Tl Mu (.slice Ae (P.ends cnG).length ce) (P.ends cnG) := by rw [ends_len]; exact hEv
      have ho := (out_done (w0 := w) (w := w.alloc zeroRep) (b0 := w.heap.size) (Fo := fun _ => False) (idle := P.idle) (now := P.lw.now) (B := X.Tl) (Mu := Mu) [.slice Ae P.evs.length ce, .slice (some ⟨g, 0, none⟩) P.lw.mem.words.length c5, .int .i64 (wrap64 P.lw.mem.rd), .int .i64 (wrap64 P.lw.mem.wr), .int .i64 (wrap64 P.lw.mem.sw), .int .i64 (wrap64 P.lw.mem.ad), .int .i64 (wrap64 P.lw.mem.ft), .int .i64 P.lw.now, .int .i64 P.idle] hEv' (by rw [hsz1]; exact hXl) (by rw [hsz1]; exact owns_base hwr (by omega)) (by rw [hsz1]; exact k3) hMb HBA.out (fun _ h => h.elim) (Nat.le_refl _) (by rw [hsz1]; omega))
      rw [ends_len] at ho
      have hth := zero_there h5 [.slice Ae P.evs.length ce, .slice (some ⟨g, 0, none⟩) P.lw.mem.words.length c5, .int .i64 (wrap64 P.lw.mem.rd), .int .i64 (wrap64 P.lw.mem.wr), .int .i64 (wrap64 P.lw.mem.sw), .int .i64 (wrap64 P.lw.mem.ad), .int .i64 (wrap64 P.lw.mem.ft), .int .i64 P.lw.now, .int .i64 P.idle] rfl
      unfold repV at ho
      have HO := hide ho
      unfold repV
      clear ho hEv' hL' hEv hwr hk5 hMb hpp hmev N o1 o2 o3 o4 h5 k3
      go_wp2_with (refine wpList_store_mid rfl 60 (.tmp 8) (.tmp 37) rfl w.heap.size 0 ([.slice Ae P.evs.length ce, .slice (some ⟨g, 0, none⟩) P.lw.mem.words.length c5, .int .i64 (wrap64 P.lw.mem.rd), .int .i64 (wrap64 P.lw.mem.wr), .int .i64 (wrap64 P.lw.mem.sw), .int .i64 (wrap64 P.lw.mem.ad), .int .i64 (wrap64 P.lw.mem.ft), .int .i64 P.lw.now, .int .i64 P.idle] : List Value).toArray (by rfl) (by rfl) hth (by kernel_rfl) (by kernel_rfl) ?_)
      have hRS := World.rangeAt_setCells_same w5 w.heap.size 0 ([.slice Ae P.evs.length ce, .slice (some ⟨g, 0, none⟩) P.lw.mem.words.length c5, .int .i64 (wrap64 P.lw.mem.rd), .int .i64 (wrap64 P.lw.mem.wr), .int .i64 (wrap64 P.lw.mem.sw), .int .i64 (wrap64 P.lw.mem.ad), .int .i64 (wrap64 P.lw.mem.ft), .int .i64 P.lw.now, .int .i64 P.idle] : List Value) hth
      have hld := run_loadVar_mid (P := Tryz.prog) (w5.setCells w.heap.size 0 ([.slice Ae P.evs.length ce, .slice (some ⟨g, 0, none⟩) P.lw.mem.words.length c5, .int .i64 (wrap64 P.lw.mem.rd), .int .i64 (wrap64 P.lw.mem.wr), .int .i64 (wrap64 P.lw.mem.sw), .int .i64 (wrap64 P.lw.mem.ad), .int .i64 (wrap64 P.lw.mem.ft), .int .i64 P.lw.now, .int .i64 P.idle] : List Value)) w.heap.size 0 60 ([.slice Ae P.evs.length ce, .slice (some ⟨g, 0, none⟩) P.lw.mem.words.length c5, .int .i64 (wrap64 P.lw.mem.rd), .int .i64 (wrap64 P.lw.mem.wr), .int .i64 (wrap64 P.lw.mem.sw), .int .i64 (wrap64 P.lw.mem.ad), .int .i64 (wrap64 P.lw.mem.ft), .int .i64 P.lw.now, .int .i64 P.idle] : List Value) _ hRS Tryz.underlying60 rfl (by kernel_rfl)
      refine bodyPost_ret (v := .tuple #[.agg #[.slice Ae P.evs.length ce, .slice (some ⟨g, 0, none⟩) P.lw.mem.words.length c5, .int .i64 (wrap64 P.lw.mem.rd), .int .i64 (wrap64 P.lw.mem.wr), .int .i64 (wrap64 P.lw.mem.sw), .int .i64 (wrap64 P.lw.mem.ad), .int .i64 (wrap64 P.lw.mem.ft), .int .i64 P.lw.now, .int .i64 P.idle], .int .i64 0]) (by simp [results, Tryz.results29, hld, asAddr]) rfl ?_
      unfold cnPlay
      rw [HP.out]
      exact HO.out
end Go.Proofs.YtfghmlpjbedomaaGreat
