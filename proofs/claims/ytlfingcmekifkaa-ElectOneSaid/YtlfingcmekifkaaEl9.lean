/- An election (law 42): ElectOne walked. -/
import Derived.Test.YtlfingcmekifkaaEl8
namespace Go.Proofs.Ytlfingcmekifkaa
open Go.RowKit

set_option maxRecDepth 100000 in
set_option maxHeartbeats 4000000 in
theorem electOneW (n : Int) (A : Option Addr) (m c : Nat) (cs : List Cl) (Ap : Option Addr) (np cp : Nat) (picks : List Int) (w : World) (h : SlCl w (.slice A m c) cs) (hm : cs.length = m) (hp : SlI w (.slice Ap np cp) picks) (hpl : picks.length = np) (hcu : ∀ c ∈ cs, ClU c) :
    Calls Try.prog 9 #[.int .i64 n, .slice A m c, .slice Ap np cp] w fun e w' => e = .returned (.bool true) ∧ Below w.heap.size w w' := by
  have hml : m ≤ maxLen := by obtain ⟨_, _, e, h1, h2, _⟩ := h; cases e; omega
  have hpx : np ≤ maxLen := by obtain ⟨_, _, e, h1, h2, _⟩ := hp; cases e; omega
  have N0 := many_any A Ap m c np cp w hml hpx
  have N := electPlay n A m c cs Ap np cp picks w h hm hp hpl hcu
  obtain ⟨b, hb⟩ : ∃ b, manyB m np = b := ⟨_, rfl⟩
  rw [hb] at N0
  rcases b with _ | _
  · obtain ⟨E, hE⟩ : ∃ E, chkE n cs picks.length = E := ⟨_, rfl⟩
    rw [hE] at N
    by_cases h0 : E = 0
    · subst h0
      obtain ⟨hn, hl, hpk, hth⟩ := chk_calls hE
      obtain ⟨nn, rfl⟩ : ∃ nn : Nat, n = nn := ⟨n.toNat, by omega⟩
      have hn' : 1 ≤ nn ∧ nn ≤ 16 := by omega
      rw [Int.toNat_natCast] at N
      have N1 := leaves11W nn hn'
      have hdc := dep_cases hn'
      have hd4 := dep_le nn
      have hpow : (nn : Int) ≤ 2 ^ dep nn := by
        rcases hdc with ⟨e, h⟩ | ⟨e, h⟩ | ⟨e, h⟩ | ⟨e, h⟩ | ⟨e, h⟩ <;> rw [e] <;> simp <;> omega
      have hH := (el_one (d := dep nn) (cs := cs) (fun c hc => ⟨(hth c hc).1, by have := (hth c hc).2; omega⟩) picks).ends
      generalize (elPlay (dep nn) cs picks).ends elG = es at N hH
      generalize (elPlay (dep nn) cs picks).lw.mem = mm at N
      generalize (elPlay (dep nn) cs picks).lw.now = now at N
      generalize (elPlay (dep nn) cs picks).idle = idle at N
      generalize dep nn = D at *
      have HH := hide hH
      have HC := hide h
      have HM := hide hm
      have HN1 := hide N1
      clear hE hb hH h hp hcu hth hm hpow N1 hdc
      go_enter Try.func9, Try.ntmps9
      go_wp2_with fail
      refine N0.mono ?_
      rintro e w0 ⟨rfl, rfl⟩
      go_wp2_with fail
      refine N.mono ?_
      rintro e w1 (⟨h, _⟩ | ⟨_, ev, B, Mu, g, cg, rfl, hEv, hBz, hwr, hb⟩)
      · exact absurd rfl h
      obtain ⟨Ae, ce, rfl, hel⟩ := evs_len hEv
      have HB1 := hide hb
      have HEV := hide hEv
      have hel' : (es.length : Int) ≤ 9223372036854775807 := by unfold maxLen at hel; omega
      clear hb hwr hEv hel N N0
      unfold repV
      have N1 := HN1.out
      go_wp2_with fail
      refine (N1 _).mono ?_
      rintro e w2 ⟨rfl, rfl⟩
      clear N1
      go_wp2
      go_loopw [9, 10] (fun i l wr => ∃ k : Nat, k ≤ D ∧ i = .int .i64 k ∧ l = .int .i64 (pw2 (D - k)) ∧ wr = w1.alloc (.cells #[.slice Ae es.length ce, .slice (some ⟨g, 0, none⟩) mm.words.length cg, .int .i64 (wrap64 mm.rd), .int .i64 (wrap64 mm.wr), .int .i64 (wrap64 mm.sw), .int .i64 (wrap64 mm.ad), .int .i64 (wrap64 mm.ft), .int .i64 now, .int .i64 idle] 32)) (fun i _ _ => D - (intOf i).toNat)
      case atStart => exact ⟨0, Nat.zero_le _, rfl, rfl, rfl⟩
      case round =>
        obtain ⟨q, hqq, rfl, rfl, rfl⟩ := hrel
        by_cases hlt2 : q < D
        · obtain ⟨r, hr⟩ : ∃ r, D - q = r + 1 := ⟨D - q - 1, by omega⟩
          have hr2 : D - (q + 1) = r := by omega
          have hq4 : (q : Int) < 4 := by omega
          rw [hr]
          rcases (by omega : r = 0 ∨ r = 1 ∨ r = 2 ∨ r = 3) with rfl | rfl | rfl | rfl
          all_goals
            simp only [show pw2 (0 + 1) = 2 from rfl, show pw2 (1 + 1) = 4 from rfl, show pw2 (2 + 1) = 8 from rfl, show pw2 (3 + 1) = 16 from rfl]
            go_wp2
            go_roundw
            case rel => exact ⟨q + 1, by omega, by go_num, by rw [hr2]; rfl, by first | trivial | rfl⟩
            case measure => first | (simp [intOf]; done) | (simp [intOf]; omega)
        · obtain rfl : q = D := by omega
          rw [Nat.sub_self]
          simp only [show pw2 0 = 1 from rfl]
          go_wp2
          go_loopw [45, 11, 12, 13] (fun i L S O wr => ∃ k : Nat, k ≤ es.length ∧ i = .int .i64 k ∧ L = .int .i64 ((es.take k).countP (leadB cs) : Nat) ∧ S = .int .i64 ((es.take k).countP (stoodB cs) : Nat) ∧ O = .bool ((es.take k).any (openB cs)) ∧ Hid (Below (w1.alloc (.cells #[.slice Ae es.length ce, .slice (some ⟨g, 0, none⟩) mm.words.length cg, .int .i64 (wrap64 mm.rd), .int .i64 (wrap64 mm.wr), .int .i64 (wrap64 mm.sw), .int .i64 (wrap64 mm.ad), .int .i64 (wrap64 mm.ft), .int .i64 now, .int .i64 idle] 32)).heap.size (w1.alloc (.cells #[.slice Ae es.length ce, .slice (some ⟨g, 0, none⟩) mm.words.length cg, .int .i64 (wrap64 mm.rd), .int .i64 (wrap64 mm.wr), .int .i64 (wrap64 mm.sw), .int .i64 (wrap64 mm.ad), .int .i64 (wrap64 mm.ft), .int .i64 now, .int .i64 idle] 32)) wr)) (fun i _ _ _ _ => es.length - (intOf i).toNat)
          case atStart => exact ⟨0, Nat.zero_le _, rfl, rfl, rfl, rfl, hide (Below.refl _ _)⟩
          case round =>
            obtain ⟨k, hk, rfl, rfl, rfl, rfl, hB⟩ := hrel
            obtain ⟨wo, rfl⟩ : ∃ wo : World, wo = wr := ⟨_, rfl⟩
            have hbw : Below w1.heap.size w1 wo := ((Below.refl _ w1).alloc (Nat.le_refl _) _).trans (hB.out.mono (by simp))
            have hzr : w1.heap.size < wo.heap.size := by have := hB.out.size; simp at this; omega
            have t0 : wo.cell? ⟨w1.heap.size, 0, none⟩ = some (.slice Ae es.length ce) := (hB.out.cell (p := ⟨w1.heap.size, 0, none⟩) (by simp)).trans (by go_simp)
            have hb0 : Below w0.heap.size w0 wo := HB1.out.trans (hbw.mono HB1.out.size)
            have HBW := hide hbw
            have HB0 := hide hb0
            by_cases hlt3 : k < es.length
            · obtain ⟨e, he⟩ : ∃ e, es[k]? = some e := ⟨_, List.getElem?_eq_getElem hlt3⟩
              obtain ⟨ge, rfl, hgz, x, hx, a0, a1, a2, a3, a4, a5, a6, a7⟩ := ev_at (HEV.out.below HBW.out) he
              have hk2 : (k : Int) < (es.length : Int) := by omega
              obtain ⟨hL, hst⟩ := HH.out.call k e he
              have hL2 : ¬ (m : Int) ≤ (e.call : Int) := by have := HM.out; omega
              have hL0 : ¬ (e.call : Int) < 0 := by omega
              have hcn : ((es.take k).countP (leadB cs) : Nat) ≤ k := by have := List.countP_le_length (p := leadB cs) (l := es.take k); simp at this; omega
              have hcs' : ((es.take k).countP (stoodB cs) : Nat) ≤ k := by have := List.countP_le_length (p := stoodB cs) (l := es.take k); simp at this; omega
              have HL := hide (countP_take (f := leadB cs) he)
              have HS := hide (countP_take (f := stoodB cs) he)
              have HO := hide (show (es.take (k + 1)).any (openB cs) = ((es.take k).any (openB cs) || openB cs e) by rw [List.take_add_one, he]; simp)
              have hst' : ¬ (max (q : Int) 1 < e.steps) := by omega
              obtain ⟨A', c', e1, g1, g2, g3⟩ := HC.out.below HB0.out (Nat.le_refl _)
              obtain ⟨bb, oo, e2, hbb, hcc⟩ := g3 _ _ (call_get hL)
              rw [HM.out] at e1
              cases e1
              cases e2
              obtain ⟨c0, c1, c2, c3, c4, c5⟩ := cl_cells hcc
              have hLm : (e.call : Int) < (m : Int) := by have := HM.out; omega
              clear hL hx he hcc g1 g2 g3 hst
              by_cases ho : (callOf cs e.call).obj = 0
              · have dob : ((callOf cs e.call).obj != 0) = false := by simpa using ho
                by_cases hk0 : (callOf cs e.call).kind = 0
                · have dk : ((callOf cs e.call).kind != 0) = false := by simpa using hk0
                  by_cases her : e.ans.err = 0
                  · have de : (e.ans.err != 0) = false := by simpa using her
                    have hsb : stoodB cs e = true := by unfold stoodB; simp [ho, hk0, her]
                    have HS' : (es.take (k + 1)).countP (stoodB cs) = (es.take k).countP (stoodB cs) + 1 := by rw [HS.out, if_pos hsb]
                    have HS := hide HS'
                    have hob : openB cs e = decide (e.resp = 0) := by unfold openB; rw [hsb]; rfl
                    have hlb : leadB cs e = decide (e.ans.val = 1) := by unfold leadB; rw [hsb]; rfl
                    rw [hlb] at HL
                    rw [hob] at HO
                    clear hsb hob hlb HS' ho hk0 her
                    generalize (es.take k).countP (leadB cs) = L at *
                    generalize (es.take k).countP (stoodB cs) = S at *
                    obtain ⟨O, hO⟩ : ∃ O, (es.take k).any (openB cs) = O := ⟨_, rfl⟩
                    rw [hO] at HO ⊢
                    clear hO
                    have hw1 : IntKind.i64.wrap ((L : Int) + 1) = (L : Int) + 1 := wrap_i64 (by omega) (by omega)
                    have hw2 : IntKind.i64.wrap ((S : Int) + 1) = (S : Int) + 1 := wrap_i64 (by omega) (by omega)
                    by_cases hr : e.resp = 0
                    · have dr : (e.resp == 0) = true := by simpa using hr
                      by_cases hv : e.ans.val = 1
                      · have dv : (e.ans.val == 1) = true := by simpa using hv
                        rw [decide_eq_true hr] at HO
                        rw [decide_eq_true hv] at HL
                        clear hr hv
                        rcases O with _ | _
                        · go_wp2
                          go_roundw
                          case rel => exact ⟨k + 1, by omega, by go_num, by rw [HL.out]; first | rfl | go_num | simp, by rw [HS.out]; first | rfl | go_num | simp, by rw [HO.out]; first | rfl | simp, hide (hB.out.alloc hB.out.size _)⟩
                          case measure => first | (simp [intOf]; done) | (simp [intOf]; omega)
                        · go_wp2
                          go_roundw
                          case rel => exact ⟨k + 1, by omega, by go_num, by rw [HL.out]; first | rfl | go_num | simp, by rw [HS.out]; first | rfl | go_num | simp, by rw [HO.out]; first | rfl | simp, hide (hB.out.alloc hB.out.size _)⟩
                          case measure => first | (simp [intOf]; done) | (simp [intOf]; omega)
                      · have dv : (e.ans.val == 1) = false := by simpa using hv
                        rw [decide_eq_true hr] at HO
                        rw [decide_eq_false hv] at HL
                        clear hr hv
                        rcases O with _ | _
                        · go_wp2
                          go_roundw
                          case rel => exact ⟨k + 1, by omega, by go_num, by rw [HL.out]; first | rfl | go_num | simp, by rw [HS.out]; first | rfl | go_num | simp, by rw [HO.out]; first | rfl | simp, hide (hB.out.alloc hB.out.size _)⟩
                          case measure => first | (simp [intOf]; done) | (simp [intOf]; omega)
                        · go_wp2
                          go_roundw
                          case rel => exact ⟨k + 1, by omega, by go_num, by rw [HL.out]; first | rfl | go_num | simp, by rw [HS.out]; first | rfl | go_num | simp, by rw [HO.out]; first | rfl | simp, hide (hB.out.alloc hB.out.size _)⟩
                          case measure => first | (simp [intOf]; done) | (simp [intOf]; omega)
                    · have dr : (e.resp == 0) = false := by simpa using hr
                      by_cases hv : e.ans.val = 1
                      · have dv : (e.ans.val == 1) = true := by simpa using hv
                        rw [decide_eq_false hr] at HO
                        rw [decide_eq_true hv] at HL
                        clear hr hv
                        rcases O with _ | _
                        · go_wp2
                          go_roundw
                          case rel => exact ⟨k + 1, by omega, by go_num, by rw [HL.out]; first | rfl | go_num | simp, by rw [HS.out]; first | rfl | go_num | simp, by rw [HO.out]; first | rfl | simp, hide (hB.out.alloc hB.out.size _)⟩
                          case measure => first | (simp [intOf]; done) | (simp [intOf]; omega)
                        · go_wp2
                          go_roundw
                          case rel => exact ⟨k + 1, by omega, by go_num, by rw [HL.out]; first | rfl | go_num | simp, by rw [HS.out]; first | rfl | go_num | simp, by rw [HO.out]; first | rfl | simp, hide (hB.out.alloc hB.out.size _)⟩
                          case measure => first | (simp [intOf]; done) | (simp [intOf]; omega)
                      · have dv : (e.ans.val == 1) = false := by simpa using hv
                        rw [decide_eq_false hr] at HO
                        rw [decide_eq_false hv] at HL
                        clear hr hv
                        rcases O with _ | _
                        · go_wp2
                          go_roundw
                          case rel => exact ⟨k + 1, by omega, by go_num, by rw [HL.out]; first | rfl | go_num | simp, by rw [HS.out]; first | rfl | go_num | simp, by rw [HO.out]; first | rfl | simp, hide (hB.out.alloc hB.out.size _)⟩
                          case measure => first | (simp [intOf]; done) | (simp [intOf]; omega)
                        · go_wp2
                          go_roundw
                          case rel => exact ⟨k + 1, by omega, by go_num, by rw [HL.out]; first | rfl | go_num | simp, by rw [HS.out]; first | rfl | go_num | simp, by rw [HO.out]; first | rfl | simp, hide (hB.out.alloc hB.out.size _)⟩
                          case measure => first | (simp [intOf]; done) | (simp [intOf]; omega)
                  · have de : (e.ans.err != 0) = true := by simpa using her
                    have hsb : stoodB cs e = false := by unfold stoodB; simp [her]
                    have hob : openB cs e = false := by unfold openB; rw [hsb]; rfl
                    have hlb : leadB cs e = false := by unfold leadB; rw [hsb]; rfl
                    rw [hlb] at HL
                    rw [hob] at HO
                    rw [hsb] at HS
                    clear hsb hob hlb
                    go_wp2
                    go_roundw
                    case rel => exact ⟨k + 1, by omega, by go_num, by rw [HL.out]; first | rfl | go_num | simp, by rw [HS.out]; first | rfl | go_num | simp, by rw [HO.out]; first | rfl | simp, hide (hB.out.alloc hB.out.size _)⟩
                    case measure => first | (simp [intOf]; done) | (simp [intOf]; omega)
                · have dk : ((callOf cs e.call).kind != 0) = true := by simpa using hk0
                  have hsb : stoodB cs e = false := by unfold stoodB; simp [hk0]
                  have hob : openB cs e = false := by unfold openB; rw [hsb]; rfl
                  have hlb : leadB cs e = false := by unfold leadB; rw [hsb]; rfl
                  rw [hlb] at HL
                  rw [hob] at HO
                  rw [hsb] at HS
                  clear hsb hob hlb
                  go_wp2
                  go_roundw
                  case rel => exact ⟨k + 1, by omega, by go_num, by rw [HL.out]; first | rfl | go_num | simp, by rw [HS.out]; first | rfl | go_num | simp, by rw [HO.out]; first | rfl | simp, hide (hB.out.alloc hB.out.size _)⟩
                  case measure => first | (simp [intOf]; done) | (simp [intOf]; omega)
              · have dob : ((callOf cs e.call).obj != 0) = true := by simpa using ho
                have hsb : stoodB cs e = false := by unfold stoodB; simp [ho]
                have hob : openB cs e = false := by unfold openB; rw [hsb]; rfl
                have hlb : leadB cs e = false := by unfold leadB; rw [hsb]; rfl
                rw [hlb] at HL
                rw [hob] at HO
                rw [hsb] at HS
                clear hsb hob hlb
                go_wp2
                go_roundw
                case rel => exact ⟨k + 1, by omega, by go_num, by rw [HL.out]; first | rfl | go_num | simp, by rw [HS.out]; first | rfl | go_num | simp, by rw [HO.out]; first | rfl | simp, hide (hB.out.alloc hB.out.size _)⟩
                case measure => first | (simp [intOf]; done) | (simp [intOf]; omega)
            · obtain rfl : k = es.length := by omega
              rw [List.take_of_length_le (Nat.le_refl _)]
              obtain ⟨hc1, hc2⟩ := el_count HH.out
              generalize es.countP (leadB cs) = L at *
              generalize es.countP (stoodB cs) = S at *
              have hL1 : (L : Int) ≤ 1 := by omega
              rcases hO : es.any (openB cs) with _ | _
              · rw [hO] at hc2
                by_cases hS : S = 0
                · subst hS
                  clear hc2
                  go_wp2_with fail
                  refine (aloneW _).mono ?_
                  rintro e w3 ⟨rfl, hb3⟩
                  have HB3 := hide hb3
                  clear hb3
                  go_wp2
                  go_ret
                  exact ⟨rfl, HB0.out.trans (HB3.out.mono HB0.out.size)⟩
                · have hS2 : ¬ (S : Int) = 0 := by omega
                  obtain rfl : L = 1 := by
                    rcases hc2 with h | h | h
                    · cases h
                    · exact absurd h hS
                    · exact h
                  clear hc2
                  go_wp2_with fail
                  refine (aloneW _).mono ?_
                  rintro e w3 ⟨rfl, hb3⟩
                  have HB3 := hide hb3
                  clear hb3
                  go_wp2
                  go_ret
                  exact ⟨rfl, HB0.out.trans (HB3.out.mono HB0.out.size)⟩
              · clear hc2
                go_wp2_with fail
                refine (aloneW _).mono ?_
                rintro e w3 ⟨rfl, hb3⟩
                have HB3 := hide hb3
                clear hb3
                go_wp2
                go_ret
                exact ⟨rfl, HB0.out.trans (HB3.out.mono HB0.out.size)⟩
    · have d0 : (E != 0) = true := by simpa using h0
      have HE := hide h0
      clear hE hb h hp hcu h0
      go_enter Try.func9, Try.ntmps9
      go_wp2_with fail
      refine N0.mono ?_
      rintro e w0 ⟨rfl, rfl⟩
      go_wp2_with fail
      refine N.mono ?_
      rintro e w1 (⟨_, rfl, hb⟩ | ⟨h, _⟩)
      rotate_left
      · exact absurd h HE.out
      have HB1 := hide hb
      clear hb N N0
      unfold zeroV
      have N1 := noneZero (w1.alloc zeroRep)
      unfold zeroV zeroRep at N1
      go_wp2_with fail
      refine N1.mono ?_
      rintro e w2 ⟨rfl, hb2⟩
      have HB2 := hide hb2
      clear hb2 N1
      go_wp2_with fail
      refine (aloneW _).mono ?_
      rintro e w3 ⟨rfl, hb3⟩
      have HB3 := hide hb3
      clear hb3
      go_wp2
      go_ret
      have hb4 := HB1.out.alloc HB1.out.size zeroRep
      have hb5 := hb4.trans (HB2.out.mono hb4.size)
      exact ⟨rfl, hb5.trans (HB3.out.mono hb5.size)⟩
  · clear hb h hp hcu N
    go_enter Try.func9, Try.ntmps9
    go_wp2_with fail
    refine N0.mono ?_
    rintro e w0 ⟨rfl, rfl⟩
    go_wp2_with fail
    refine (aloneW _).mono ?_
    rintro e w3 ⟨rfl, hb3⟩
    have HB3 := hide hb3
    clear hb3
    go_wp2
    go_ret
    exact ⟨rfl, HB3.out⟩
end Go.Proofs.Ytlfingcmekifkaa
