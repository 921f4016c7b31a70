/- Threads that take names (law 39): SplitNames walked. -/
import Derived.Test.YtlfingcmekifkaaSp8
import Derived.Deep.OwnRows
namespace Go.Proofs.Ytlfingcmekifkaa
open Go.RowKit

theorem info_boolS : (Try.prog.info? 4).map (fun i => (i.zero, i.size, i.bytes)) = some (some (.bool false), 1, 1) := by kernel_rfl
set_option maxRecDepth 100000 in
set_option maxHeartbeats 4000000 in
theorem splitNamesW (n : Int) (A : Option Addr) (m c : Nat) (cs : List Cl) (Ap : Option Addr) (np cp : Nat) (picks : List Int) (w : World) (h : SlCl w (.slice A m c) cs) (hm : cs.length = m) (hp : SlI w (.slice Ap np cp) picks) (hpl : picks.length = np) (hcu : ∀ c ∈ cs, ClU c) :
    Calls Try.prog 4 #[.int .i64 n, .slice A m c, .slice Ap np cp] w fun e w' => e = .returned (.bool true) ∧ Below w.heap.size w w' := by
  have hml : m ≤ maxLen := by obtain ⟨_, _, e, h1, h2, _⟩ := h; cases e; omega
  have hpx : np ≤ maxLen := by obtain ⟨_, _, e, h1, h2, _⟩ := hp; cases e; omega
  have N0 := many_any A Ap m c np cp w hml hpx
  have N := splitPlay n A m c cs Ap np cp picks w h hm hp hpl hcu
  obtain ⟨b, hb⟩ : ∃ b, manyB m np = b := ⟨_, rfl⟩
  rw [hb] at N0
  rcases b with _ | _
  · obtain ⟨E, hE⟩ : ∃ E, chkE n cs picks.length = E := ⟨_, rfl⟩
    rw [hE] at N
    by_cases h0 : E = 0
    · subst h0
      obtain ⟨hn, hl, hpk, hth⟩ := chk_calls hE
      obtain ⟨nn, rfl⟩ : ∃ nn : Nat, n = nn := ⟨n.toNat, by omega⟩
      have hn' : 1 ≤ nn ∧ nn ≤ 16 := by omega
      rw [Int.toNat_natCast] at N
      have ht16 := tri_16 hn'
      obtain ⟨hH0, hft⟩ := sp_law (n := nn) (cs := cs) hth picks
      have hH := hH0.ends
      generalize (spPlay nn cs picks).ends spG = es at N hH
      generalize (spPlay nn cs picks).lw.mem = mm at N hft
      generalize (spPlay nn cs picks).lw.now = now at N
      generalize (spPlay nn cs picks).idle = idle at N
      have hmk1 : ∀ W, (Instr.makeSlice 48 (.int .i64 (nn : Int)) (.int .i64 (nn : Int))).run Try.prog W = .ok (.slice (some ⟨W.heap.size, 0, none⟩) nn nn) (W.alloc (.cells (madeCells #[.bool false] nn) 4)) :=
        fun W => run_make_row' (P := Try.prog) 48 4 (.bool false) 1 Try.underlying48 info_boolS rfl .i64 .i64 nn (by omega) (by omega) W
      have hmk2 : ∀ W, (Instr.makeSlice 48 (.int .i64 (tri nn : Int)) (.int .i64 (tri nn : Int))).run Try.prog W = .ok (.slice (some ⟨W.heap.size, 0, none⟩) (tri nn) (tri nn)) (W.alloc (.cells (madeCells #[.bool false] (tri nn)) 4)) :=
        fun W => run_make_row' (P := Try.prog) 48 4 (.bool false) 1 Try.underlying48 info_boolS rfl .i64 .i64 (tri nn) (by omega) (by omega) W
      have hn1 : ¬ (nn : Int) < 1 := by omega
      have hn16 : ¬ (16 : Int) < (nn : Int) := by omega
      have hnn : (nn : Int) ≤ 16 := by omega
      have HH := hide hH
      have HC := hide h
      have HM := hide hm
      have HTH := hide hth
      have HMK2 := hide hmk2
      have HFT := hide hft
      clear hft hE hb hH h hp hcu hth hm hH0 hmk2
      go_enter Try.func4, Try.ntmps4
      go_wp2_with fail
      refine N0.mono ?_
      rintro e w0 ⟨rfl, rfl⟩
      go_wp2_with fail
      refine N.mono ?_
      rintro e w1 (⟨h, _⟩ | ⟨_, ev, B, Mu, g, cg, rfl, hEv, hBz, hwr, hb⟩)
      · exact absurd rfl h
      obtain ⟨Ae, ce, rfl, hel⟩ := evs_len hEv
      have HB1 := hide hb
      have HEV := hide hEv
      have hel' : (es.length : Int) ≤ 9223372036854775807 := by unfold maxLen at hel; omega
      clear hb hwr hEv hel N N0
      unfold repV
      go_wp2
      obtain ⟨W0, hW0⟩ : ∃ W0 : World, W0 = w1.alloc (.cells #[.slice Ae es.length ce, .slice (some ⟨g, 0, none⟩) mm.words.length cg, .int .i64 (wrap64 mm.rd), .int .i64 (wrap64 mm.wr), .int .i64 (wrap64 mm.sw), .int .i64 (wrap64 mm.ad), .int .i64 (wrap64 mm.ft), .int .i64 now, .int .i64 idle] 32) := ⟨_, rfl⟩
      have s0 : W0.cell? ⟨w1.heap.size, 0, none⟩ = some (.slice Ae es.length ce) := by rw [hW0]; go_simp
      have s6 : W0.cell? ⟨w1.heap.size, 6, none⟩ = some (.int .i64 (wrap64 mm.ft)) := by rw [hW0]; go_simp
      have sz : W0.heap.size = w1.heap.size + 1 := by rw [hW0]; simp
      have sb : Below w1.heap.size w1 W0 := by rw [hW0]; exact (Below.refl _ w1).alloc (Nat.le_refl _) _
      have HS0 := hide s0
      have HS6 := hide s6
      have HSZ := hide sz
      have HSB := hide sb
      have hr0 : (W0.alloc (.cells (madeCells #[.bool false] nn) 4)).rowIs (w1.heap.size + 1) 4 nn (fun p => .bool (begF cs (es.take 0) p)) := by
        rw [← sz]
        exact (World.rowIs_made _ _ _ _).congr (fun i _ => by simp [begF])
      have HR0 := hide hr0
      have hk0 : Keep (fun k => k < w1.heap.size + 1) W0 (W0.alloc (.cells (madeCells #[.bool false] nn) 4)) := (Keep.refl _ _).alloc (fun k hk => by omega) _
      have HK0 := hide hk0
      rw [hW0] at HR0 
      have HK1 : Hid (Keep (fun k => k < w1.heap.size + 1) W0 ((w1.alloc (.cells #[.slice Ae es.length ce, .slice (some ⟨g, 0, none⟩) mm.words.length cg, .int .i64 (wrap64 mm.rd), .int .i64 (wrap64 mm.wr), .int .i64 (wrap64 mm.sw), .int .i64 (wrap64 mm.ad), .int .i64 (wrap64 mm.ft), .int .i64 now, .int .i64 idle] 32)).alloc (.cells (madeCells #[.bool false] nn) 4))) := hide (by rw [← hW0]; exact hk0)
      clear s0 s6 sz sb hr0 hW0 hk0 HK0
      go_loopw [47, 10] (fun i K wr => ∃ q : Nat, q ≤ es.length ∧ i = .int .i64 q ∧ K = .int .i64 (begN nn cs (es.take q) : Nat) ∧ Hid (Keep (fun k => k < w1.heap.size + 1) W0 wr) ∧ Hid (wr.rowIs (w1.heap.size + 1) 4 nn (fun p => .bool (begF cs (es.take q) p)))) (fun i _ _ => es.length - (intOf i).toNat)
      case atStart => exact ⟨0, Nat.zero_le _, rfl, by rw [List.take_zero, begN_nil]; rfl, HK1, HR0⟩
      case round =>
        obtain ⟨q, hqq, rfl, rfl, HKP, HROW⟩ := hrel
        obtain ⟨wo, rfl⟩ : ∃ wo : World, wo = wr := ⟨_, rfl⟩
        have hbk : Below w1.heap.size w1 wo := ((Keep.of_below (K := fun k => k < w1.heap.size) HSB.out (fun k hk => hk)).trans (HKP.out.mono (fun k hk => Nat.lt_succ_of_lt hk))).below (fun k hk => hk)
        have HBW := hide hbk
        have hzr : w1.heap.size + 1 < wo.heap.size := HROW.out.lt
        have t0 : wo.cell? ⟨w1.heap.size, 0, none⟩ = some (.slice Ae es.length ce) := (HKP.out.cell (p := ⟨w1.heap.size, 0, none⟩) (Nat.lt_succ_self _)).trans HS0.out
        have t6 : wo.cell? ⟨w1.heap.size, 6, none⟩ = some (.int .i64 (wrap64 mm.ft)) := (HKP.out.cell (p := ⟨w1.heap.size, 6, none⟩) (Nat.lt_succ_self _)).trans HS6.out
        have hbl := begN_le nn cs (es.take q)
        have hbl' : ((begN nn cs (es.take q) : Nat) : Int) ≤ 16 := by omega
        clear hbk
        by_cases hlt2 : q < es.length
        · obtain ⟨k, rfl⟩ : ∃ k, k = q := ⟨_, rfl⟩
          obtain ⟨e, he⟩ : ∃ e, es[k]? = some e := ⟨_, List.getElem?_eq_getElem hlt2⟩
          have hbw : Below w1.heap.size w1 wo := HBW.out
          obtain ⟨ge, rfl, hgz, x, hx, a0, a1, a2, a3, a4, a5, a6, a7⟩ := ev_at (HEV.out.below hbw) he
          have hk2 : (k : Int) < (es.length : Int) := by omega
          have hL := HH.out.call k e he
          have hL2 : ¬ (m : Int) ≤ (e.call : Int) := by have := HM.out; omega
          have hLm : (e.call : Int) < (m : Int) := by have := HM.out; omega
          have hL0 : ¬ (e.call : Int) < 0 := by omega
          have hb0 : Below w0.heap.size w0 wo := HB1.out.trans (hbw.mono HB1.out.size)
          obtain ⟨A', c', e1, g1, g2, g3⟩ := HC.out.below hb0 (Nat.le_refl _)
          obtain ⟨bb, oo, e2, hbb, hcc⟩ := g3 _ _ (call_get hL)
          rw [HM.out] at e1
          cases e1
          cases e2
          obtain ⟨c0, c1, c2, c3, c4, c5⟩ := cl_cells hcc
          obtain ⟨ht0, ht1⟩ := HTH.out (callOf cs e.call) (List.mem_of_getElem? (call_get hL))
          have HKT := hide (show tkB cs e = (decide ((callOf cs e.call).obj = 0) && decide ((callOf cs e.call).kind = 0)) from rfl)
          have HTT := hide (show tkT cs e = (callOf cs e.call).thread.toNat from rfl)
          clear g1 g2 g3 hcc hx hL hb0 hbw
          generalize callOf cs e.call = cl at *
          obtain ⟨th, ob, kd, ca, cb, cc⟩ := cl
          dsimp only at ht0 ht1
          obtain ⟨p, rfl⟩ : ∃ p : Nat, th = p := ⟨th.toNat, by omega⟩
          simp only at c0 c1 c2 c3 c4 c5
          have hp : p < nn := by omega
          have htt : tkT cs e = p := by rw [HTT.out]; simp
          have htp : ¬ (nn : Int) ≤ (p : Int) := by omega
          have hpn : (p : Int) < (nn : Int) := by omega
          clear ht0 ht1 HTT
          obtain ⟨q, rfl⟩ : ∃ q, q = k := ⟨_, rfl⟩
          have z1 := HROW.out.cell (i := p) (by omega)
          have zf := HROW.out.frozen p
          have hb0' : w1.heap.size < wo.heap.size := by omega
          by_cases hob : ob = 0
          · have dob : (ob == 0) = true := by simpa using hob
            by_cases hkd : kd = 0
            · have dk : (kd == 0) = true := by simpa using hkd
              have htk : tkB cs e = true := by rw [HKT.out]; simp [hob, hkd]
              rcases hbg : begF cs (es.take q) p with _ | _
              · rw [hbg] at z1
                have hmore := begN_more (n := nn) he (by rw [htt]; exact hp) htk (by rw [htt]; exact hbg)
                have hkn : Keep (fun k => k < w1.heap.size + 1) W0 (((wo.setCell ⟨w1.heap.size + 1, p, none⟩ (.bool true)).alloc (.cells #[.int .i64 e.call, .int .i64 e.inv, .int .i64 e.resp, .int .i64 e.steps, .int .i64 e.ans.err, .int .u64 e.ans.val, .slice x.lA x.lN x.lC, .slice x.kA x.kN x.kC] 41)).alloc (.cells #[.int .i64 p, .int .i64 ob, .int .i64 kd, .int .u64 ca, .int .u64 cb, .int .u64 cc] 43)) := ((HKP.out.setCell (fun h => Nat.lt_irrefl _ h) _).alloc (fun k hk => by simp; omega) _).alloc (fun k hk => by simp; omega) _
                have hrn := (((HROW.out.set p (.bool true)).alloc (.cells #[.int .i64 e.call, .int .i64 e.inv, .int .i64 e.resp, .int .i64 e.steps, .int .i64 e.ans.err, .int .u64 e.ans.val, .slice x.lA x.lN x.lC, .slice x.kA x.kN x.kC] 41)).alloc (.cells #[.int .i64 p, .int .i64 ob, .int .i64 kd, .int .u64 ca, .int .u64 cb, .int .u64 cc] 43)).congr (g := fun p => .bool (begF cs (es.take (q + 1)) p)) (fun i _ => by
                  rw [begF_take he, htk, htt]
                  by_cases e : i = p
                  · subst e; simp
                  · rw [if_neg e]
                    have : ¬ p = i := fun h => e h.symm
                    simp [this])
                have HKN := hide hkn
                have HRN := hide hrn
                have HMO := hide hmore
                have hw1 : IntKind.i64.wrap ((begN nn cs (es.take q) : Int) + 1) = (begN nn cs (es.take q) : Int) + 1 := wrap_i64 (by omega) (by omega)
                clear hkn hrn hmore he htk hbg hob hkd
                go_wp2
                go_roundw
                case rel => exact ⟨q + 1, by omega, by go_num, by rw [HMO.out]; first | rfl | go_num, HKN, HRN⟩
                case measure => first | (simp [intOf]; done) | (simp [intOf]; omega)
              · rw [hbg] at z1
                have hsame : tkB cs e = false ∨ begF cs (es.take q) (tkT cs e) = true := Or.inr (by rw [htt]; exact hbg)
                clear hbg htk hob hkd
                obtain ⟨hs1, hs2⟩ := begN_same (n := nn) he hsame
                have hkn : Keep (fun k => k < w1.heap.size + 1) W0 ((wo.alloc (.cells #[.int .i64 e.call, .int .i64 e.inv, .int .i64 e.resp, .int .i64 e.steps, .int .i64 e.ans.err, .int .u64 e.ans.val, .slice x.lA x.lN x.lC, .slice x.kA x.kN x.kC] 41)).alloc (.cells #[.int .i64 p, .int .i64 ob, .int .i64 kd, .int .u64 ca, .int .u64 cb, .int .u64 cc] 43)) := (HKP.out.alloc (fun k hk => by omega) _).alloc (fun k hk => by simp; omega) _
                have hrn := ((HROW.out.alloc (.cells #[.int .i64 e.call, .int .i64 e.inv, .int .i64 e.resp, .int .i64 e.steps, .int .i64 e.ans.err, .int .u64 e.ans.val, .slice x.lA x.lN x.lC, .slice x.kA x.kN x.kC] 41)).alloc (.cells #[.int .i64 p, .int .i64 ob, .int .i64 kd, .int .u64 ca, .int .u64 cb, .int .u64 cc] 43)).congr (g := fun p => .bool (begF cs (es.take (q + 1)) p)) (fun i _ => by rw [hs2 i])
                have HKN := hide hkn
                have HRN := hide hrn
                have HS1 := hide hs1
                clear hs1 hs2 hkn hrn hsame he
                go_wp2
                go_roundw
                case rel => exact ⟨q + 1, by omega, by go_num, by rw [HS1.out], HKN, HRN⟩
                case measure => first | (simp [intOf]; done) | (simp [intOf]; omega)
            · have dk : (kd == 0) = false := by simpa using hkd
              have hsame : tkB cs e = false ∨ begF cs (es.take q) (tkT cs e) = true := Or.inl (by rw [HKT.out]; simp [hkd])
              clear hob hkd
              obtain ⟨hs1, hs2⟩ := begN_same (n := nn) he hsame
              have hkn : Keep (fun k => k < w1.heap.size + 1) W0 ((wo.alloc (.cells #[.int .i64 e.call, .int .i64 e.inv, .int .i64 e.resp, .int .i64 e.steps, .int .i64 e.ans.err, .int .u64 e.ans.val, .slice x.lA x.lN x.lC, .slice x.kA x.kN x.kC] 41)).alloc (.cells #[.int .i64 p, .int .i64 ob, .int .i64 kd, .int .u64 ca, .int .u64 cb, .int .u64 cc] 43)) := (HKP.out.alloc (fun k hk => by omega) _).alloc (fun k hk => by simp; omega) _
              have hrn := ((HROW.out.alloc (.cells #[.int .i64 e.call, .int .i64 e.inv, .int .i64 e.resp, .int .i64 e.steps, .int .i64 e.ans.err, .int .u64 e.ans.val, .slice x.lA x.lN x.lC, .slice x.kA x.kN x.kC] 41)).alloc (.cells #[.int .i64 p, .int .i64 ob, .int .i64 kd, .int .u64 ca, .int .u64 cb, .int .u64 cc] 43)).congr (g := fun p => .bool (begF cs (es.take (q + 1)) p)) (fun i _ => by rw [hs2 i])
              have HKN := hide hkn
              have HRN := hide hrn
              have HS1 := hide hs1
              clear hs1 hs2 hkn hrn hsame he
              go_wp2
              go_roundw
              case rel => exact ⟨q + 1, by omega, by go_num, by rw [HS1.out], HKN, HRN⟩
              case measure => first | (simp [intOf]; done) | (simp [intOf]; omega)
          · have dob : (ob == 0) = false := by simpa using hob
            have hsame : tkB cs e = false ∨ begF cs (es.take q) (tkT cs e) = true := Or.inl (by rw [HKT.out]; simp [hob])
            clear hob
            obtain ⟨hs1, hs2⟩ := begN_same (n := nn) he hsame
            have hkn : Keep (fun k => k < w1.heap.size + 1) W0 ((wo.alloc (.cells #[.int .i64 e.call, .int .i64 e.inv, .int .i64 e.resp, .int .i64 e.steps, .int .i64 e.ans.err, .int .u64 e.ans.val, .slice x.lA x.lN x.lC, .slice x.kA x.kN x.kC] 41)).alloc (.cells #[.int .i64 p, .int .i64 ob, .int .i64 kd, .int .u64 ca, .int .u64 cb, .int .u64 cc] 43)) := (HKP.out.alloc (fun k hk => by omega) _).alloc (fun k hk => by simp; omega) _
            have hrn := ((HROW.out.alloc (.cells #[.int .i64 e.call, .int .i64 e.inv, .int .i64 e.resp, .int .i64 e.steps, .int .i64 e.ans.err, .int .u64 e.ans.val, .slice x.lA x.lN x.lC, .slice x.kA x.kN x.kC] 41)).alloc (.cells #[.int .i64 p, .int .i64 ob, .int .i64 kd, .int .u64 ca, .int .u64 cb, .int .u64 cc] 43)).congr (g := fun p => .bool (begF cs (es.take (q + 1)) p)) (fun i _ => by rw [hs2 i])
            have HKN := hide hkn
            have HRN := hide hrn
            have HS1 := hide hs1
            clear hs1 hs2 hkn hrn hsame he
            go_wp2
            go_roundw
            case rel => exact ⟨q + 1, by omega, by go_num, by rw [HS1.out], HKN, HRN⟩
            case measure => first | (simp [intOf]; done) | (simp [intOf]; omega)
        · obtain rfl : q = es.length := by omega
          rw [List.take_of_length_le (Nat.le_refl _)] at HROW hbl hbl' ⊢
          obtain ⟨K, hK⟩ : ∃ K, begN nn cs es = K := ⟨_, rfl⟩
          rw [hK] at hbl hbl' ⊢
          have hst0 : ∀ (h : Nat) (e : Ep), es[h]? = some e → e.steps ≤ 4 * max (K : Int) 1 := fun h e he => by
            have := HH.out.steps h e he
            rw [begN_cnt, hK] at this
            omega
          have hnew : ∀ (k : Nat) (e : Ep), es[k]? = some e → tookB cs e = true → ∃ q : Nat, e.ans.val = q ∧ q < tri K ∧ namF cs (es.take k) q = false := fun k e he ht => by
            have := nam_new HH.out he ht
            rw [hK] at this
            exact this
          have HST0 := hide hst0
          have HNEW := hide hnew
          have htK : tri K ≤ tri nn := tri_mono hbl
          have hwa : IntKind.i64.wrap ((nn : Int) + 1) = (nn : Int) + 1 := wrap_i64 (by omega) (by omega)
          have hwb : IntKind.i64.wrap ((nn : Int) * ((nn : Int) + 1)) = 2 * (tri nn : Int) := by
            have := tri_two nn
            rw [← this, wrap_i64 (by omega) (by omega)]
          have hwc : IntKind.i64.wrap (tri nn : Int) = tri nn := wrap_i64 (by omega) (by omega)
          have hwd : IntKind.i64.wrap ((K : Int) + 1) = (K : Int) + 1 := wrap_i64 (by omega) (by omega)
          have hwe : IntKind.i64.wrap ((K : Int) * ((K : Int) + 1)) = 2 * (tri K : Int) := by
            have := tri_two K
            rw [← this, wrap_i64 (by omega) (by omega)]
          have hwf : IntKind.i64.wrap (tri K : Int) = tri K := wrap_i64 (by omega) (by omega)
          have hwg : IntKind.u64.wrap (tri K : Int) = tri K := by rw [IntKind.wrap_u64]; omega
          have hwh : IntKind.i64.wrap (4 * max (K : Int) 1) = 4 * max (K : Int) 1 := wrap_i64 (by omega) (by omega)
          have hmk2 := HMK2.out
          obtain ⟨w2, rfl⟩ : ∃ w2 : World, w2 = wo := ⟨_, rfl⟩
          have HBW2 := hide HBW.out
          have HT0 := hide t0
          have HT6 := hide t6
          have hzz := hzr
          have hzq0 : w1.heap.size < w2.heap.size := by omega
          clear hst0 hnew hK HROW HKP HBW
          go_wp2
          have hr0 : (w2.alloc (.cells (madeCells #[.bool false] (tri nn)) 4)).rowIs w2.heap.size 4 (tri nn) (fun z => .bool (namF cs (es.take 0) z)) := (World.rowIs_made _ _ _ _).congr (fun i _ => by simp [namF])
          have HR0 := hide hr0
          clear hr0 t0 t6
          go_loopw [111] (fun i wr => ∃ q : Nat, q ≤ es.length ∧ i = .int .i64 q ∧ Hid (Keep (fun k => k < w2.heap.size) w2 wr) ∧ Hid (wr.rowIs w2.heap.size 4 (tri nn) (fun z => .bool (namF cs (es.take q) z)))) (fun i _ => es.length - (intOf i).toNat)
          case atStart => exact ⟨0, Nat.zero_le _, rfl, hide ((Keep.refl _ _).alloc (fun k hk => hk) _), HR0⟩
          case round =>
            obtain ⟨q, hqq, rfl, HKP, HROW⟩ := hrel
            obtain ⟨wo, rfl⟩ : ∃ wo : World, wo = wr := ⟨_, rfl⟩
            have HBW : Hid (Below w1.heap.size w1 wo) := hide (((Keep.of_below (K := fun k => k < w1.heap.size) HBW2.out (fun k hk => hk)).trans (HKP.out.mono (fun k hk => by omega))).below (fun k hk => hk))
            have hzr : w2.heap.size < wo.heap.size := HROW.out.lt
            have hzq : w1.heap.size < wo.heap.size := by omega
            have t0 : wo.cell? ⟨w1.heap.size, 0, none⟩ = some (.slice Ae es.length ce) := (HKP.out.cell (p := ⟨w1.heap.size, 0, none⟩) (by show w1.heap.size < w2.heap.size; omega)).trans HT0.out
            have t6 : wo.cell? ⟨w1.heap.size, 6, none⟩ = some (.int .i64 (wrap64 mm.ft)) := (HKP.out.cell (p := ⟨w1.heap.size, 6, none⟩) (by show w1.heap.size < w2.heap.size; omega)).trans HT6.out
            rw [HFT.out, show wrap64 0 = 0 by first | (simp [wrap64]; done) | kernel_rfl | (unfold wrap64; rfl)] at t6
            by_cases hlt2 : q < es.length
            · obtain ⟨k, rfl⟩ : ∃ k, k = q := ⟨_, rfl⟩
              obtain ⟨e, he⟩ : ∃ e, es[k]? = some e := ⟨_, List.getElem?_eq_getElem hlt2⟩
              have hst1 := HST0.out k e he
              have hst2 : ¬ (4 * max (K : Int) 1 < e.steps) := by omega
              clear hst1
              have hbw : Below w1.heap.size w1 wo := HBW.out
              obtain ⟨ge, rfl, hgz, x, hx, a0, a1, a2, a3, a4, a5, a6, a7⟩ := ev_at (HEV.out.below hbw) he
              have hk2 : (k : Int) < (es.length : Int) := by omega
              have hL := HH.out.call k e he
              have hL2 : ¬ (m : Int) ≤ (e.call : Int) := by have := HM.out; omega
              have hLm : (e.call : Int) < (m : Int) := by have := HM.out; omega
              have hL0 : ¬ (e.call : Int) < 0 := by omega
              have hb0 : Below w0.heap.size w0 wo := HB1.out.trans (hbw.mono HB1.out.size)
              obtain ⟨A', c', e1, g1, g2, g3⟩ := HC.out.below hb0 (Nat.le_refl _)
              obtain ⟨bb, oo, e2, hbb, hcc⟩ := g3 _ _ (call_get hL)
              rw [HM.out] at e1
              cases e1
              cases e2
              obtain ⟨c0, c1, c2, c3, c4, c5⟩ := cl_cells hcc
              obtain ⟨ht0, ht1⟩ := HTH.out (callOf cs e.call) (List.mem_of_getElem? (call_get hL))
              have HKT := hide (show tkB cs e = (decide ((callOf cs e.call).obj = 0) && decide ((callOf cs e.call).kind = 0)) from rfl)
              have HTT := hide (show tkT cs e = (callOf cs e.call).thread.toNat from rfl)
              clear g1 g2 g3 hcc hx hL hb0 hbw
              generalize callOf cs e.call = cl at *
              obtain ⟨th, ob, kd, ca, cb, cc⟩ := cl
              dsimp only at ht0 ht1
              obtain ⟨p, rfl⟩ : ∃ p : Nat, th = p := ⟨th.toNat, by omega⟩
              simp only at c0 c1 c2 c3 c4 c5
              have hp : p < nn := by omega
              have htt : tkT cs e = p := by rw [HTT.out]; simp
              have htp : ¬ (nn : Int) ≤ (p : Int) := by omega
              have hpn : (p : Int) < (nn : Int) := by omega
              clear ht0 ht1 HTT
              obtain ⟨q, rfl⟩ : ∃ q, q = k := ⟨_, rfl⟩
              by_cases hob : ob = 0
              · have dob : (ob != 0) = false := by simpa using hob
                by_cases hkd : kd = 0
                · have dk : (kd != 0) = false := by simpa using hkd
                  by_cases hrs : e.resp = 0
                  · have dr : (e.resp == 0) = true := by simpa using hrs
                    have htook : tookB cs e = false := by unfold tookB; simp [hrs]
                    clear hob hkd hrs
                    have hsame : ∀ z, namF cs (es.take (q + 1)) z = namF cs (es.take q) z := fun z => by rw [namF_take he, htook]; simp
                    have hkn : Keep (fun k => k < w2.heap.size) w2 ((wo.alloc (.cells #[.int .i64 e.call, .int .i64 e.inv, .int .i64 e.resp, .int .i64 e.steps, .int .i64 e.ans.err, .int .u64 e.ans.val, .slice x.lA x.lN x.lC, .slice x.kA x.kN x.kC] 41)).alloc (.cells #[.int .i64 p, .int .i64 ob, .int .i64 kd, .int .u64 ca, .int .u64 cb, .int .u64 cc] 43)) := (HKP.out.alloc (fun k hk => by omega) _).alloc (fun k hk => by simp; omega) _
                    have hrn := ((HROW.out.alloc (.cells #[.int .i64 e.call, .int .i64 e.inv, .int .i64 e.resp, .int .i64 e.steps, .int .i64 e.ans.err, .int .u64 e.ans.val, .slice x.lA x.lN x.lC, .slice x.kA x.kN x.kC] 41)).alloc (.cells #[.int .i64 p, .int .i64 ob, .int .i64 kd, .int .u64 ca, .int .u64 cb, .int .u64 cc] 43)).congr (g := fun p => .bool (namF cs (es.take (q + 1)) p)) (fun i _ => by rw [hsame i])
                    have HKN := hide hkn
                    have HRN := hide hrn
                    clear hkn hrn hsame he
                    go_wp2
                    go_roundw
                    case rel => exact ⟨q + 1, by omega, by go_num, HKN, HRN⟩
                    case measure => first | (simp [intOf]; done) | (simp [intOf]; omega)
                  · have dr : (e.resp == 0) = false := by simpa using hrs
                    by_cases her : e.ans.err = 0
                    · have de : (e.ans.err != 0) = false := by simpa using her
                      have htook : tookB cs e = true := by unfold tookB; rw [HKT.out]; simp [hob, hkd, hrs, her]
                      obtain ⟨z, hz1, hz2, hz3⟩ := HNEW.out q e he htook
                      have z1 := HROW.out.cell (i := z) (by omega)
                      have zf := HROW.out.frozen z
                      rw [hz3] at z1
                      have HVAL := hide (show ∀ y, namF cs (es.take (q + 1)) y = (namF cs (es.take q) y || decide (z = y)) from fun y => by
                        have hd : decide ((z : Int) = (y : Int)) = decide (z = y) := by
                          rw [decide_eq_decide]
                          omega
                        rw [namF_take he, htook, hz1, Bool.true_and, hd])
                      rw [hz1] at a5
                      have hrn := (((HROW.out.set z (.bool true)).alloc (.cells #[.int .i64 e.call, .int .i64 e.inv, .int .i64 e.resp, .int .i64 e.steps, .int .i64 e.ans.err, .int .u64 z, .slice x.lA x.lN x.lC, .slice x.kA x.kN x.kC] 41)).alloc (.cells #[.int .i64 p, .int .i64 ob, .int .i64 kd, .int .u64 ca, .int .u64 cb, .int .u64 cc] 43)).congr (g := fun p => .bool (namF cs (es.take (q + 1)) p)) (fun i _ => by
                        rw [HVAL.out]
                        by_cases e : i = z
                        · subst e; simp
                        · rw [if_neg e]
                          have : ¬ z = i := fun h => e h.symm
                          simp [this])
                      have hkn : Keep (fun k => k < w2.heap.size) w2 (((wo.setCell ⟨w2.heap.size, z, none⟩ (.bool true)).alloc (.cells #[.int .i64 e.call, .int .i64 e.inv, .int .i64 e.resp, .int .i64 e.steps, .int .i64 e.ans.err, .int .u64 z, .slice x.lA x.lN x.lC, .slice x.kA x.kN x.kC] 41)).alloc (.cells #[.int .i64 p, .int .i64 ob, .int .i64 kd, .int .u64 ca, .int .u64 cb, .int .u64 cc] 43)) := ((HKP.out.setCell (fun h => Nat.lt_irrefl _ h) _).alloc (fun k hk => by simp; omega) _).alloc (fun k hk => by simp; omega) _
                      have HKN := hide hkn
                      have HRN := hide hrn
                      have hz4 : ¬ (tri K : Int) ≤ (z : Int) := by omega
                      have hz5 : (z : Int) < (tri nn : Int) := by omega
                      have hwz : IntKind.i64.wrap (z : Int) = z := wrap_i64 (by omega) (by omega)
                      clear hkn hrn HVAL he htook hz1 hz3 hob hkd hrs her
                      go_wp2
                      go_roundw
                      case rel => exact ⟨q + 1, by omega, by go_num, HKN, HRN⟩
                      case measure => first | (simp [intOf]; done) | (simp [intOf]; omega)
                    · have de : (e.ans.err != 0) = true := by simpa using her
                      have htook : tookB cs e = false := by unfold tookB; simp [her]
                      clear hob hkd hrs her
                      have hsame : ∀ z, namF cs (es.take (q + 1)) z = namF cs (es.take q) z := fun z => by rw [namF_take he, htook]; simp
                      have hkn : Keep (fun k => k < w2.heap.size) w2 ((wo.alloc (.cells #[.int .i64 e.call, .int .i64 e.inv, .int .i64 e.resp, .int .i64 e.steps, .int .i64 e.ans.err, .int .u64 e.ans.val, .slice x.lA x.lN x.lC, .slice x.kA x.kN x.kC] 41)).alloc (.cells #[.int .i64 p, .int .i64 ob, .int .i64 kd, .int .u64 ca, .int .u64 cb, .int .u64 cc] 43)) := (HKP.out.alloc (fun k hk => by omega) _).alloc (fun k hk => by simp; omega) _
                      have hrn := ((HROW.out.alloc (.cells #[.int .i64 e.call, .int .i64 e.inv, .int .i64 e.resp, .int .i64 e.steps, .int .i64 e.ans.err, .int .u64 e.ans.val, .slice x.lA x.lN x.lC, .slice x.kA x.kN x.kC] 41)).alloc (.cells #[.int .i64 p, .int .i64 ob, .int .i64 kd, .int .u64 ca, .int .u64 cb, .int .u64 cc] 43)).congr (g := fun p => .bool (namF cs (es.take (q + 1)) p)) (fun i _ => by rw [hsame i])
                      have HKN := hide hkn
                      have HRN := hide hrn
                      clear hkn hrn hsame he
                      go_wp2
                      go_roundw
                      case rel => exact ⟨q + 1, by omega, by go_num, HKN, HRN⟩
                      case measure => first | (simp [intOf]; done) | (simp [intOf]; omega)
                · have dk : (kd != 0) = true := by simpa using hkd
                  have htook : tookB cs e = false := by unfold tookB; rw [HKT.out]; simp [hkd]
                  clear hob hkd
                  have hsame : ∀ z, namF cs (es.take (q + 1)) z = namF cs (es.take q) z := fun z => by rw [namF_take he, htook]; simp
                  have hkn : Keep (fun k => k < w2.heap.size) w2 ((wo.alloc (.cells #[.int .i64 e.call, .int .i64 e.inv, .int .i64 e.resp, .int .i64 e.steps, .int .i64 e.ans.err, .int .u64 e.ans.val, .slice x.lA x.lN x.lC, .slice x.kA x.kN x.kC] 41)).alloc (.cells #[.int .i64 p, .int .i64 ob, .int .i64 kd, .int .u64 ca, .int .u64 cb, .int .u64 cc] 43)) := (HKP.out.alloc (fun k hk => by omega) _).alloc (fun k hk => by simp; omega) _
                  have hrn := ((HROW.out.alloc (.cells #[.int .i64 e.call, .int .i64 e.inv, .int .i64 e.resp, .int .i64 e.steps, .int .i64 e.ans.err, .int .u64 e.ans.val, .slice x.lA x.lN x.lC, .slice x.kA x.kN x.kC] 41)).alloc (.cells #[.int .i64 p, .int .i64 ob, .int .i64 kd, .int .u64 ca, .int .u64 cb, .int .u64 cc] 43)).congr (g := fun p => .bool (namF cs (es.take (q + 1)) p)) (fun i _ => by rw [hsame i])
                  have HKN := hide hkn
                  have HRN := hide hrn
                  clear hkn hrn hsame he
                  go_wp2
                  go_roundw
                  case rel => exact ⟨q + 1, by omega, by go_num, HKN, HRN⟩
                  case measure => first | (simp [intOf]; done) | (simp [intOf]; omega)
              · have dob : (ob != 0) = true := by simpa using hob
                have htook : tookB cs e = false := by unfold tookB; rw [HKT.out]; simp [hob]
                clear hob
                have hsame : ∀ z, namF cs (es.take (q + 1)) z = namF cs (es.take q) z := fun z => by rw [namF_take he, htook]; simp
                have hkn : Keep (fun k => k < w2.heap.size) w2 ((wo.alloc (.cells #[.int .i64 e.call, .int .i64 e.inv, .int .i64 e.resp, .int .i64 e.steps, .int .i64 e.ans.err, .int .u64 e.ans.val, .slice x.lA x.lN x.lC, .slice x.kA x.kN x.kC] 41)).alloc (.cells #[.int .i64 p, .int .i64 ob, .int .i64 kd, .int .u64 ca, .int .u64 cb, .int .u64 cc] 43)) := (HKP.out.alloc (fun k hk => by omega) _).alloc (fun k hk => by simp; omega) _
                have hrn := ((HROW.out.alloc (.cells #[.int .i64 e.call, .int .i64 e.inv, .int .i64 e.resp, .int .i64 e.steps, .int .i64 e.ans.err, .int .u64 e.ans.val, .slice x.lA x.lN x.lC, .slice x.kA x.kN x.kC] 41)).alloc (.cells #[.int .i64 p, .int .i64 ob, .int .i64 kd, .int .u64 ca, .int .u64 cb, .int .u64 cc] 43)).congr (g := fun p => .bool (namF cs (es.take (q + 1)) p)) (fun i _ => by rw [hsame i])
                have HKN := hide hkn
                have HRN := hide hrn
                clear hkn hrn hsame he
                go_wp2
                go_roundw
                case rel => exact ⟨q + 1, by omega, by go_num, HKN, HRN⟩
                case measure => first | (simp [intOf]; done) | (simp [intOf]; omega)
            · obtain rfl : q = es.length := by omega
              have hb0 : Below w0.heap.size w0 wo := HB1.out.trans (HBW.out.mono HB1.out.size)
              have HB0 := hide hb0
              clear hb0
              go_wp2_with fail
              refine (threeW _).mono ?_
              rintro e w3 ⟨rfl, hb3⟩
              have HB3 := hide hb3
              clear hb3
              go_wp2
              go_ret
              exact ⟨rfl, HB0.out.trans (HB3.out.mono HB0.out.size)⟩
    · have d0 : (E != 0) = true := by simpa using h0
      have HE := hide h0
      clear hE hb h hp hcu h0
      go_enter Try.func4, Try.ntmps4
      go_wp2_with fail
      refine N0.mono ?_
      rintro e w0 ⟨rfl, rfl⟩
      go_wp2_with fail
      refine N.mono ?_
      rintro e w1 (⟨_, rfl, hb⟩ | ⟨h, _⟩)
      rotate_left
      · exact absurd h HE.out
      have HB1 := hide hb
      clear hb N N0
      unfold zeroV
      have N1 := noneZero (w1.alloc zeroRep)
      unfold zeroV zeroRep at N1
      go_wp2_with fail
      refine N1.mono ?_
      rintro e w2 ⟨rfl, hb2⟩
      have HB2 := hide hb2
      clear hb2 N1
      go_wp2_with fail
      refine (threeW _).mono ?_
      rintro e w3 ⟨rfl, hb3⟩
      have HB3 := hide hb3
      clear hb3
      go_wp2
      go_ret
      have hb4 := HB1.out.alloc HB1.out.size zeroRep
      have hb5 := hb4.trans (HB2.out.mono hb4.size)
      exact ⟨rfl, hb5.trans (HB3.out.mono hb5.size)⟩
  · clear hb h hp hcu N
    go_enter Try.func4, Try.ntmps4
    go_wp2_with fail
    refine N0.mono ?_
    rintro e w0 ⟨rfl, rfl⟩
    go_wp2_with fail
    refine (threeW _).mono ?_
    rintro e w3 ⟨rfl, hb3⟩
    have HB3 := hide hb3
    clear hb3
    go_wp2
    go_ret
    exact ⟨rfl, HB3.out⟩
end Go.Proofs.Ytlfingcmekifkaa
