/- Agreeing (law 40): AdoptHolds, walked. -/
import Derived.Test.YtlfingcmekifkaaBun11
namespace Go.Proofs.Ytlfingcmekifkaa
open Go.RowKit

/-- Whether an event proposed what another one tells, ahead of that. -/
def propB (cs : List Cl) (e y : Ep) : Bool := decide ((callOf cs y.call).obj = 0) && decide ((callOf cs y.call).kind = 0) && decide ((callOf cs y.call).a = e.ans.val / 2) && decide (y.inv < e.resp)
theorem any_take {f : Ep → Bool} {l : List Ep} {k : Nat} {y : Ep} (h : l[k]? = some y) : (l.take (k + 1)).any f = ((l.take k).any f || f y) := by
  rw [List.take_add_one, h]
  simp
theorem below3 {B : Nat} {w w' : World} {x y z : Obj} (h : Below B w w') (hB : B ≤ w'.heap.size) : Below B w (((w'.alloc x).alloc y).alloc z) := ((h.alloc hB _).alloc (by simp; omega) _).alloc (by simp; omega) _
theorem below2 {B : Nat} {w w' : World} {x y : Obj} (h : Below B w w') (hB : B ≤ w'.heap.size) : Below B w ((w'.alloc x).alloc y) := (h.alloc hB _).alloc (by simp; omega) _
theorem prop_any {cs : List Cl} {es : List Ep} (h : AdHold cs es) {k : Nat} {e : Ep} (he : es[k]? = some e) (hr : e.resp ≠ 0) (hs : isProp cs e) : es.any (propB cs e) = true := by
  obtain ⟨j, y, a1, a2, a3, a4⟩ := h.prop k e he hr hs
  refine List.any_eq_true.2 ⟨y, List.mem_of_getElem? a1, ?_⟩
  unfold propB
  unfold prA at a3
  simp [a2.1, a2.2.1, a3, a4]
set_option maxRecDepth 100000 in
set_option maxHeartbeats 4000000 in
theorem law_holds (n : Int) (A : Option Addr) (m c : Nat) (cs : List Cl) (Ap : Option Addr) (np cp : Nat) (picks : List Int) (w : World) (h : SlCl w (.slice A m c) cs) (hm : cs.length = m) (hp : SlI w (.slice Ap np cp) picks) (hpl : picks.length = np) (hcu : ∀ c ∈ cs, ClU c) :
    Calls Try.prog 5 #[.int .i64 n, .slice A m c, .slice Ap np cp] w fun e w' => e = .returned (.bool true) ∧ Below w.heap.size w w' := by
  have hml : m ≤ maxLen := by obtain ⟨_, _, e, h1, h2, _⟩ := h; cases e; omega
  have hpx : np ≤ maxLen := by obtain ⟨_, _, e, h1, h2, _⟩ := hp; cases e; omega
  have N0 := many_any A Ap m c np cp w hml hpx
  have N := adoptPlay n A m c cs Ap np cp picks w h hm hp hpl hcu
  obtain ⟨b, hb⟩ : ∃ b, manyB m np = b := ⟨_, rfl⟩
  rw [hb] at N0
  rcases b with _ | _
  · obtain ⟨E, hE⟩ : ∃ E, chkE n cs picks.length = E := ⟨_, rfl⟩
    rw [hE] at N
    by_cases h0 : E = 0
    · subst h0
      obtain ⟨hn, hl, hpk, hth⟩ := chk_calls hE
      obtain ⟨nn, rfl⟩ : ∃ nn : Nat, n = nn := ⟨n.toNat, by omega⟩
      rw [Int.toNat_natCast] at N
      have hv := ad_vals (n := nn) (by omega) (cs := cs) (fun c hc => ⟨(hth c hc).1, by have := (hth c hc).2; omega, hcu c hc⟩) picks
      have hH := (ad_holds (n := nn) (cs := cs) (fun c hc => ⟨(hth c hc).1, (hth c hc).2, (hcu c hc).1.1⟩) picks).ends
      generalize (adPlay nn cs picks).ends adG = es at N hv hH
      generalize (adPlay nn cs picks).lw.mem = mm at N
      generalize (adPlay nn cs picks).lw.now = now at N
      generalize (adPlay nn cs picks).idle = idle at N
      have HV := hide hv
      have HH := hide hH
      have HC := hide h
      have HM := hide hm
      clear hE hb hv hH h hp hcu hth hm
      go_enter Try.func5, Try.ntmps5
      go_wp2_with fail
      refine N0.mono ?_
      rintro e w0 ⟨rfl, rfl⟩
      go_wp2_with fail
      refine N.mono ?_
      rintro e w1 (⟨h, _⟩ | ⟨_, ev, B, Mu, g, cg, rfl, hEv, hBz, hwr, hb⟩)
      · exact absurd rfl h
      obtain ⟨Ae, ce, rfl, hel⟩ := evs_len hEv
      have HB1 := hide hb
      have HEV := hide hEv
      have hel' : (es.length : Int) ≤ 9223372036854775807 := by unfold maxLen at hel; omega
      clear hb hwr hEv N N0
      unfold repV
      go_wp2
      go_loopw [37] (fun i wr => ∃ k : Nat, k ≤ es.length ∧ i = .int .i64 k ∧ wr = w1.alloc (.cells #[.slice Ae es.length ce, .slice (some ⟨g, 0, none⟩) mm.words.length cg, .int .i64 (wrap64 mm.rd), .int .i64 (wrap64 mm.wr), .int .i64 (wrap64 mm.sw), .int .i64 (wrap64 mm.ad), .int .i64 (wrap64 mm.ft), .int .i64 now, .int .i64 idle] 32)) (fun i _ => es.length - (intOf i).toNat)
      case atStart => exact ⟨0, Nat.zero_le _, rfl, rfl⟩
      case round =>
        obtain ⟨q, hqq, rfl, rfl⟩ := hrel
        by_cases hlt2 : q < es.length
        · obtain ⟨e, he⟩ : ∃ e, es[q]? = some e := ⟨_, List.getElem?_eq_getElem hlt2⟩
          obtain ⟨ge, rfl, hgz, x, hx, a0, a1, a2, a3, a4, a5, _⟩ := ev_at HEV.out he
          have hq2 : (q : Int) < (es.length : Int) := by omega
          have hL := HH.out.call q e he
          have hL' : ¬ (m : Int) ≤ (e.call : Int) := by have := HM.out; omega
          have hL0 : ¬ (e.call : Int) < 0 := by omega
          clear hL hx he
          go_wp2
          go_roundw
          case rel => exact ⟨q + 1, by omega, by go_num, by first | trivial | rfl⟩
          case measure => first | (simp [intOf]; done) | (simp [intOf]; omega)
        · obtain rfl : q = es.length := by omega
          go_wp2
          go_loopw [62] (fun i wr => ∃ k : Nat, k ≤ es.length ∧ i = .int .i64 k ∧ Hid (Below (w1.alloc (.cells #[.slice Ae es.length ce, .slice (some ⟨g, 0, none⟩) mm.words.length cg, .int .i64 (wrap64 mm.rd), .int .i64 (wrap64 mm.wr), .int .i64 (wrap64 mm.sw), .int .i64 (wrap64 mm.ad), .int .i64 (wrap64 mm.ft), .int .i64 now, .int .i64 idle] 32)).heap.size (w1.alloc (.cells #[.slice Ae es.length ce, .slice (some ⟨g, 0, none⟩) mm.words.length cg, .int .i64 (wrap64 mm.rd), .int .i64 (wrap64 mm.wr), .int .i64 (wrap64 mm.sw), .int .i64 (wrap64 mm.ad), .int .i64 (wrap64 mm.ft), .int .i64 now, .int .i64 idle] 32)) wr)) (fun i _ => es.length - (intOf i).toNat)
          case atStart => exact ⟨0, Nat.zero_le _, rfl, hide (Below.refl _ _)⟩
          case round =>
            obtain ⟨k, hk, rfl, hB⟩ := hrel
            obtain ⟨wo, rfl⟩ : ∃ wo : World, wo = wr := ⟨_, rfl⟩
            have hbw : Below w1.heap.size w1 wo := ((Below.refl _ w1).alloc (Nat.le_refl _) _).trans (hB.out.mono (by simp))
            have hzr : w1.heap.size < wo.heap.size := by have := hB.out.size; simp at this; omega
            have t0 : wo.cell? ⟨w1.heap.size, 0, none⟩ = some (.slice Ae es.length ce) := (hB.out.cell (p := ⟨w1.heap.size, 0, none⟩) (by simp)).trans (by go_simp)
            have hb0 : Below w0.heap.size w0 wo := HB1.out.trans (hbw.mono HB1.out.size)
            have HBW := hide hbw
            have HB0 := hide hb0
            by_cases hlt3 : k < es.length
            · obtain ⟨e, he⟩ : ∃ e, es[k]? = some e := ⟨_, List.getElem?_eq_getElem hlt3⟩
              have hev := HEV.out.below hbw
              obtain ⟨ge, rfl, hgz, x, hx, a0, a1, a2, a3, a4, a5, a6, a7⟩ := ev_at hev he
              have hk3 : (k : Int) < (es.length : Int) := by omega
              have hcs := HC.out.below (hb0.alloc hb0.size (.cells #[.int .i64 e.call, .int .i64 e.inv, .int .i64 e.resp, .int .i64 e.steps, .int .i64 e.ans.err, .int .u64 e.ans.val, .slice x.lA x.lN x.lC, .slice x.kA x.kN x.kC] 41)) (Nat.le_refl _)
              have N1 := doneW A m c cs e x _ hcs HM.out (HH.out.call k e he)
              obtain ⟨d, hd⟩ : ∃ d, doneB cs e = d := ⟨_, rfl⟩
              rw [hd] at N1
              obtain ⟨hev0, hev1⟩ := HV.out e (List.mem_of_getElem? he)
              have hwe : IntKind.u64.wrap (e.ans.val / 2) = e.ans.val / 2 := by rw [IntKind.wrap_u64]; omega
              have hwe2 : IntKind.u64.wrap (e.ans.val % 2) = e.ans.val % 2 := by rw [IntKind.wrap_u64]; omega
              have HE := hide he
              have HD := hide hd
              clear hev hx hcs he hd hbw hb0
              rcases d with _ | _
              · go_wp2_with fail
                refine N1.mono ?_
                rintro e' w2 ⟨rfl, rfl⟩
                go_wp2
                go_roundw
                case rel => exact ⟨k + 1, by omega, by go_num, hide ((hB.out.alloc hB.out.size _).alloc (by have := hB.out.size; simp at this ⊢; omega) _)⟩
                case measure => first | (simp [intOf]; done) | (simp [intOf]; omega)
              · obtain ⟨hisP, hresp⟩ := doneB_iff.1 HD.out
                have hany := prop_any HH.out HE.out hresp hisP
                have HANY := hide hany
                have HIS := hide hisP
                have HRS := hide hresp
                clear hany hisP hresp
                go_wp2_with fail
                refine N1.mono ?_
                rintro e' w2 ⟨rfl, rfl⟩
                go_wp2
                go_loopw [77, 12] (fun i p wr => ∃ j : Nat, j ≤ es.length ∧ i = .int .i64 j ∧ p = .bool ((es.take j).any (propB cs e)) ∧ Hid (Below ((wo.alloc (.cells #[.int .i64 e.call, .int .i64 e.inv, .int .i64 e.resp, .int .i64 e.steps, .int .i64 e.ans.err, .int .u64 e.ans.val, .slice x.lA x.lN x.lC, .slice x.kA x.kN x.kC] 41)).alloc (.cells #[.int .i64 e.call, .int .i64 e.inv, .int .i64 e.resp, .int .i64 e.steps, .int .i64 e.ans.err, .int .u64 e.ans.val, .slice x.lA x.lN x.lC, .slice x.kA x.kN x.kC] 41)).heap.size ((wo.alloc (.cells #[.int .i64 e.call, .int .i64 e.inv, .int .i64 e.resp, .int .i64 e.steps, .int .i64 e.ans.err, .int .u64 e.ans.val, .slice x.lA x.lN x.lC, .slice x.kA x.kN x.kC] 41)).alloc (.cells #[.int .i64 e.call, .int .i64 e.inv, .int .i64 e.resp, .int .i64 e.steps, .int .i64 e.ans.err, .int .u64 e.ans.val, .slice x.lA x.lN x.lC, .slice x.kA x.kN x.kC] 41)) wr)) (fun i _ _ => es.length - (intOf i).toNat)
                case atStart => exact ⟨0, Nat.zero_le _, rfl, rfl, hide (Below.refl _ _)⟩
                case round =>
                  obtain ⟨j, hj, rfl, rfl, hQ⟩ := hrel
                  have hbq : Below w1.heap.size w1 wr := ((HBW.out.alloc (Nat.le_of_lt hzr) _).alloc (by simp; omega) _).trans (hQ.out.mono (by simp; omega))
                  have hzq : wo.heap.size + 2 ≤ wr.heap.size := by have := hQ.out.size; simpa using this
                  have hbq0 : Below w0.heap.size w0 wr := HB1.out.trans (hbq.mono HB1.out.size)
                  have hq : ∀ b o, b < wo.heap.size + 2 → wr.cell? ⟨b, o, none⟩ = ((wo.alloc (.cells #[.int .i64 e.call, .int .i64 e.inv, .int .i64 e.resp, .int .i64 e.steps, .int .i64 e.ans.err, .int .u64 e.ans.val, .slice x.lA x.lN x.lC, .slice x.kA x.kN x.kC] 41)).alloc (.cells #[.int .i64 e.call, .int .i64 e.inv, .int .i64 e.resp, .int .i64 e.steps, .int .i64 e.ans.err, .int .u64 e.ans.val, .slice x.lA x.lN x.lC, .slice x.kA x.kN x.kC] 41)).cell? ⟨b, o, none⟩ := fun b o h => hQ.out.cell (p := ⟨b, o, none⟩) (by simpa using h)
                  have t1 : wr.cell? ⟨w1.heap.size, 0, none⟩ = some (.slice (some ⟨ge, 0, none⟩) es.length ce) := (hq _ 0 (by omega)).trans (by go_simp)
                  have x0 : wr.cell? ⟨wo.heap.size, 0, none⟩ = some (.int .i64 e.call) := (hq _ 0 (by omega)).trans (by go_simp)
                  have x2 : wr.cell? ⟨wo.heap.size, 2, none⟩ = some (.int .i64 e.resp) := (hq _ 2 (by omega)).trans (by go_simp)
                  have x5 : wr.cell? ⟨wo.heap.size, 5, none⟩ = some (.int .u64 e.ans.val) := (hq _ 5 (by omega)).trans (by go_simp)
                  have zx : wo.heap.size < wr.heap.size := by omega
                  have zq1 : w1.heap.size < wr.heap.size := by omega
                  clear hq a0 a1 a2 a3 a4 a5 a6 a7 t0
                  have HBQ := hide hbq
                  have HBQ0 := hide hbq0
                  by_cases hlt4 : j < es.length
                  · obtain ⟨y, hy⟩ : ∃ y, es[j]? = some y := ⟨_, List.getElem?_eq_getElem hlt4⟩
                    obtain ⟨gy, hgy, hgz2, z, hz, b0, b1, b2, b3, b4, b5, b6, b7⟩ := ev_at (HEV.out.below hbq) hy
                    cases hgy
                    have hj3 : (j : Int) < (es.length : Int) := by omega
                    have hyc := HH.out.call j y hy
                    obtain ⟨A', c', e1, _, _, g3⟩ := HC.out.below hbq0 (Nat.le_refl _)
                    obtain ⟨bb, oo, e2, hbb, hcc⟩ := g3 _ _ (call_get hyc)
                    rw [HM.out] at e1
                    cases e1
                    cases e2
                    obtain ⟨c0, c1, c2, c3, c4, c5⟩ := cl_cells hcc
                    have hym : (y.call : Int) < (m : Int) := by have := HM.out; omega
                    have hcs2 := HC.out.below ((hbq0.alloc hbq0.size (.cells #[.int .i64 y.call, .int .i64 y.inv, .int .i64 y.resp, .int .i64 y.steps, .int .i64 y.ans.err, .int .u64 y.ans.val, .slice z.lA z.lN z.lC, .slice z.kA z.kN z.kC] 41)).alloc (by have := hbq0.size; simp; omega) (.cells #[.int .i64 (callOf cs y.call).thread, .int .i64 (callOf cs y.call).obj, .int .i64 (callOf cs y.call).kind, .int .u64 (callOf cs y.call).a, .int .u64 (callOf cs y.call).b, .int .u64 (callOf cs y.call).c] 43)) (Nat.le_refl _)
                    have N2 := doneW (some ⟨bb, oo, none⟩) m c cs y z _ hcs2 HM.out hyc
                    obtain ⟨hyv0, hyv1⟩ := HV.out y (List.mem_of_getElem? hy)
                    have hwy : IntKind.u64.wrap (y.ans.val / 2) = y.ans.val / 2 := by rw [IntKind.wrap_u64]; omega
                    have HANYS := hide (any_take (f := propB cs e) hy)
                    have hsame : e.ans.val % 2 = 1 → doneB cs y = true → y.ans.val / 2 = e.ans.val / 2 := fun h1 h2 => by
                      obtain ⟨h3, h4⟩ := doneB_iff.1 h2
                      exact HH.out.same k j e y HE.out hy HRS.out h4 HIS.out h3 h1
                    have hr1 : Int.tmod e.ans.val 2 = e.ans.val % 2 := Int.tmod_eq_emod_of_nonneg hev0
                    have hq1 : Int.tdiv e.ans.val 2 = e.ans.val / 2 := Int.tdiv_eq_ediv_of_nonneg hev0
                    have hq2 : Int.tdiv y.ans.val 2 = y.ans.val / 2 := Int.tdiv_eq_ediv_of_nonneg hyv0
                    obtain ⟨p, hp⟩ : ∃ p, (es.take j).any (propB cs e) = p := ⟨_, rfl⟩
                    have hpn : (es.take (j + 1)).any (propB cs e) = (p || propB cs e y) := by rw [HANYS.out, hp]
                    obtain ⟨pb, hpb⟩ : ∃ pb, propB cs e y = pb := ⟨_, rfl⟩
                    rw [hpb] at hpn
                    have HPN := hide hpn
                    have hpb' := hpb
                    unfold propB at hpb'
                    rw [hp]
                    obtain ⟨dy, hdy⟩ : ∃ dy, doneB cs y = dy := ⟨_, rfl⟩
                    rw [hdy] at N2 hsame
                    clear hz g3 hcc hyc hcs2 hy hbq hbq0 hpn hp hpb hdy
                    by_cases hodd : e.ans.val % 2 = 1
                    · have do1 : (e.ans.val % 2 == 1) = true := by simpa using hodd
                      rcases dy with _ | _
                      · clear hsame hodd
                        rcases p with _ | _
                        · by_cases ho : (callOf cs y.call).obj = 0
                          · have dob : ((callOf cs y.call).obj == 0) = true := by simpa using ho
                            by_cases hk0 : (callOf cs y.call).kind = 0
                            · have dk : ((callOf cs y.call).kind == 0) = true := by simpa using hk0
                              by_cases ha : (callOf cs y.call).a = e.ans.val / 2
                              · have da : ((callOf cs y.call).a == e.ans.val / 2) = true := by simpa using ha
                                by_cases hi : y.inv < e.resp
                                · have di : decide (y.inv < e.resp) = true := by simpa using hi
                                  have hpv : pb = true := by rw [← hpb']; simp [ho, hk0, ha, hi]
                                  subst hpv
                                  clear ho hk0 ha hi hpb'
                                  go_wp2_with fail
                                  refine N2.mono ?_
                                  rintro e' w7 ⟨rfl, hw7⟩
                                  have hbr : Below wr.heap.size wr w7 := (by rw [hw7]; exact below3 (Below.refl _ _) (Nat.le_refl _))
                                  have x57 : w7.cell? ⟨wo.heap.size, 5, none⟩ = some (.int .u64 e.ans.val) := (hbr.cell (p := ⟨wo.heap.size, 5, none⟩) zx).trans x5
                                  have hh7 : w7.heap[wr.heap.size]? = some (.cells #[.int .i64 y.call, .int .i64 y.inv, .int .i64 y.resp, .int .i64 y.steps, .int .i64 y.ans.err, .int .u64 y.ans.val, .slice z.lA z.lN z.lC, .slice z.kA z.kN z.kC] 41) := (by rw [hw7]; exact (allocs3 wr _ _ _).1)
                                  have y57 : w7.cell? ⟨wr.heap.size, 5, none⟩ = some (.int .u64 y.ans.val) := cell_of_row w7 wr.heap.size 5 _ _ _ hh7
                                  have HB7 := hide (show Below ((wo.alloc (.cells #[.int .i64 e.call, .int .i64 e.inv, .int .i64 e.resp, .int .i64 e.steps, .int .i64 e.ans.err, .int .u64 e.ans.val, .slice x.lA x.lN x.lC, .slice x.kA x.kN x.kC] 41)).alloc (.cells #[.int .i64 e.call, .int .i64 e.inv, .int .i64 e.resp, .int .i64 e.steps, .int .i64 e.ans.err, .int .u64 e.ans.val, .slice x.lA x.lN x.lC, .slice x.kA x.kN x.kC] 41)).heap.size ((wo.alloc (.cells #[.int .i64 e.call, .int .i64 e.inv, .int .i64 e.resp, .int .i64 e.steps, .int .i64 e.ans.err, .int .u64 e.ans.val, .slice x.lA x.lN x.lC, .slice x.kA x.kN x.kC] 41)).alloc (.cells #[.int .i64 e.call, .int .i64 e.inv, .int .i64 e.resp, .int .i64 e.steps, .int .i64 e.ans.err, .int .u64 e.ans.val, .slice x.lA x.lN x.lC, .slice x.kA x.kN x.kC] 41)) w7 from by rw [hw7]; exact below3 hQ.out (by simp; omega))
                                  clear hw7 hbr hh7
                                  go_wp2
                                  go_roundw
                                  case rel => exact ⟨j + 1, by omega, by go_num, by rw [HPN.out]; first | rfl | (subst hpb'; rfl) | (rw [← hpb']; simp [*]), hide (by first | exact HB7.out | skip; have hzz := hQ.out.size; simp at hzz; have h8 := hQ.out; repeat' (first | with_reducible assumption | with_reducible refine Below.alloc ?_ ?_ _ | (simp; done) | (simp; omega)))⟩
                                  case measure => first | (simp [intOf]; done) | (simp [intOf]; omega)
                                · have di : decide (y.inv < e.resp) = false := by simpa using hi
                                  have hpv : pb = false := by rw [← hpb']; simp [hi]
                                  subst hpv
                                  clear ho hk0 ha hi hpb'
                                  go_wp2_with fail
                                  refine N2.mono ?_
                                  rintro e' w7 ⟨rfl, hw7⟩
                                  have hbr : Below wr.heap.size wr w7 := (by rw [hw7]; exact below3 (Below.refl _ _) (Nat.le_refl _))
                                  have x57 : w7.cell? ⟨wo.heap.size, 5, none⟩ = some (.int .u64 e.ans.val) := (hbr.cell (p := ⟨wo.heap.size, 5, none⟩) zx).trans x5
                                  have hh7 : w7.heap[wr.heap.size]? = some (.cells #[.int .i64 y.call, .int .i64 y.inv, .int .i64 y.resp, .int .i64 y.steps, .int .i64 y.ans.err, .int .u64 y.ans.val, .slice z.lA z.lN z.lC, .slice z.kA z.kN z.kC] 41) := (by rw [hw7]; exact (allocs3 wr _ _ _).1)
                                  have y57 : w7.cell? ⟨wr.heap.size, 5, none⟩ = some (.int .u64 y.ans.val) := cell_of_row w7 wr.heap.size 5 _ _ _ hh7
                                  have HB7 := hide (show Below ((wo.alloc (.cells #[.int .i64 e.call, .int .i64 e.inv, .int .i64 e.resp, .int .i64 e.steps, .int .i64 e.ans.err, .int .u64 e.ans.val, .slice x.lA x.lN x.lC, .slice x.kA x.kN x.kC] 41)).alloc (.cells #[.int .i64 e.call, .int .i64 e.inv, .int .i64 e.resp, .int .i64 e.steps, .int .i64 e.ans.err, .int .u64 e.ans.val, .slice x.lA x.lN x.lC, .slice x.kA x.kN x.kC] 41)).heap.size ((wo.alloc (.cells #[.int .i64 e.call, .int .i64 e.inv, .int .i64 e.resp, .int .i64 e.steps, .int .i64 e.ans.err, .int .u64 e.ans.val, .slice x.lA x.lN x.lC, .slice x.kA x.kN x.kC] 41)).alloc (.cells #[.int .i64 e.call, .int .i64 e.inv, .int .i64 e.resp, .int .i64 e.steps, .int .i64 e.ans.err, .int .u64 e.ans.val, .slice x.lA x.lN x.lC, .slice x.kA x.kN x.kC] 41)) w7 from by rw [hw7]; exact below3 hQ.out (by simp; omega))
                                  clear hw7 hbr hh7
                                  go_wp2
                                  go_roundw
                                  case rel => exact ⟨j + 1, by omega, by go_num, by rw [HPN.out]; first | rfl | (subst hpb'; rfl) | (rw [← hpb']; simp [*]), hide (by first | exact HB7.out | skip; have hzz := hQ.out.size; simp at hzz; have h8 := hQ.out; repeat' (first | with_reducible assumption | with_reducible refine Below.alloc ?_ ?_ _ | (simp; done) | (simp; omega)))⟩
                                  case measure => first | (simp [intOf]; done) | (simp [intOf]; omega)
                              · have da : ((callOf cs y.call).a == e.ans.val / 2) = false := by simpa using ha
                                have hpv : pb = false := by rw [← hpb']; simp [ha]
                                subst hpv
                                clear ho hk0 ha hpb'
                                go_wp2_with fail
                                refine N2.mono ?_
                                rintro e' w7 ⟨rfl, hw7⟩
                                have hbr : Below wr.heap.size wr w7 := (by rw [hw7]; exact below3 (Below.refl _ _) (Nat.le_refl _))
                                have x57 : w7.cell? ⟨wo.heap.size, 5, none⟩ = some (.int .u64 e.ans.val) := (hbr.cell (p := ⟨wo.heap.size, 5, none⟩) zx).trans x5
                                have hh7 : w7.heap[wr.heap.size]? = some (.cells #[.int .i64 y.call, .int .i64 y.inv, .int .i64 y.resp, .int .i64 y.steps, .int .i64 y.ans.err, .int .u64 y.ans.val, .slice z.lA z.lN z.lC, .slice z.kA z.kN z.kC] 41) := (by rw [hw7]; exact (allocs3 wr _ _ _).1)
                                have y57 : w7.cell? ⟨wr.heap.size, 5, none⟩ = some (.int .u64 y.ans.val) := cell_of_row w7 wr.heap.size 5 _ _ _ hh7
                                have HB7 := hide (show Below ((wo.alloc (.cells #[.int .i64 e.call, .int .i64 e.inv, .int .i64 e.resp, .int .i64 e.steps, .int .i64 e.ans.err, .int .u64 e.ans.val, .slice x.lA x.lN x.lC, .slice x.kA x.kN x.kC] 41)).alloc (.cells #[.int .i64 e.call, .int .i64 e.inv, .int .i64 e.resp, .int .i64 e.steps, .int .i64 e.ans.err, .int .u64 e.ans.val, .slice x.lA x.lN x.lC, .slice x.kA x.kN x.kC] 41)).heap.size ((wo.alloc (.cells #[.int .i64 e.call, .int .i64 e.inv, .int .i64 e.resp, .int .i64 e.steps, .int .i64 e.ans.err, .int .u64 e.ans.val, .slice x.lA x.lN x.lC, .slice x.kA x.kN x.kC] 41)).alloc (.cells #[.int .i64 e.call, .int .i64 e.inv, .int .i64 e.resp, .int .i64 e.steps, .int .i64 e.ans.err, .int .u64 e.ans.val, .slice x.lA x.lN x.lC, .slice x.kA x.kN x.kC] 41)) w7 from by rw [hw7]; exact below3 hQ.out (by simp; omega))
                                clear hw7 hbr hh7
                                go_wp2
                                go_roundw
                                case rel => exact ⟨j + 1, by omega, by go_num, by rw [HPN.out]; first | rfl | (subst hpb'; rfl) | (rw [← hpb']; simp [*]), hide (by first | exact HB7.out | skip; have hzz := hQ.out.size; simp at hzz; have h8 := hQ.out; repeat' (first | with_reducible assumption | with_reducible refine Below.alloc ?_ ?_ _ | (simp; done) | (simp; omega)))⟩
                                case measure => first | (simp [intOf]; done) | (simp [intOf]; omega)
                            · have dk : ((callOf cs y.call).kind == 0) = false := by simpa using hk0
                              have hpv : pb = false := by rw [← hpb']; simp [hk0]
                              subst hpv
                              clear ho hk0 hpb'
                              go_wp2_with fail
                              refine N2.mono ?_
                              rintro e' w7 ⟨rfl, hw7⟩
                              have hbr : Below wr.heap.size wr w7 := (by rw [hw7]; exact below3 (Below.refl _ _) (Nat.le_refl _))
                              have x57 : w7.cell? ⟨wo.heap.size, 5, none⟩ = some (.int .u64 e.ans.val) := (hbr.cell (p := ⟨wo.heap.size, 5, none⟩) zx).trans x5
                              have hh7 : w7.heap[wr.heap.size]? = some (.cells #[.int .i64 y.call, .int .i64 y.inv, .int .i64 y.resp, .int .i64 y.steps, .int .i64 y.ans.err, .int .u64 y.ans.val, .slice z.lA z.lN z.lC, .slice z.kA z.kN z.kC] 41) := (by rw [hw7]; exact (allocs3 wr _ _ _).1)
                              have y57 : w7.cell? ⟨wr.heap.size, 5, none⟩ = some (.int .u64 y.ans.val) := cell_of_row w7 wr.heap.size 5 _ _ _ hh7
                              have HB7 := hide (show Below ((wo.alloc (.cells #[.int .i64 e.call, .int .i64 e.inv, .int .i64 e.resp, .int .i64 e.steps, .int .i64 e.ans.err, .int .u64 e.ans.val, .slice x.lA x.lN x.lC, .slice x.kA x.kN x.kC] 41)).alloc (.cells #[.int .i64 e.call, .int .i64 e.inv, .int .i64 e.resp, .int .i64 e.steps, .int .i64 e.ans.err, .int .u64 e.ans.val, .slice x.lA x.lN x.lC, .slice x.kA x.kN x.kC] 41)).heap.size ((wo.alloc (.cells #[.int .i64 e.call, .int .i64 e.inv, .int .i64 e.resp, .int .i64 e.steps, .int .i64 e.ans.err, .int .u64 e.ans.val, .slice x.lA x.lN x.lC, .slice x.kA x.kN x.kC] 41)).alloc (.cells #[.int .i64 e.call, .int .i64 e.inv, .int .i64 e.resp, .int .i64 e.steps, .int .i64 e.ans.err, .int .u64 e.ans.val, .slice x.lA x.lN x.lC, .slice x.kA x.kN x.kC] 41)) w7 from by rw [hw7]; exact below3 hQ.out (by simp; omega))
                              clear hw7 hbr hh7
                              go_wp2
                              go_roundw
                              case rel => exact ⟨j + 1, by omega, by go_num, by rw [HPN.out]; first | rfl | (subst hpb'; rfl) | (rw [← hpb']; simp [*]), hide (by first | exact HB7.out | skip; have hzz := hQ.out.size; simp at hzz; have h8 := hQ.out; repeat' (first | with_reducible assumption | with_reducible refine Below.alloc ?_ ?_ _ | (simp; done) | (simp; omega)))⟩
                              case measure => first | (simp [intOf]; done) | (simp [intOf]; omega)
                          · have dob : ((callOf cs y.call).obj == 0) = false := by simpa using ho
                            have hpv : pb = false := by rw [← hpb']; simp [ho]
                            subst hpv
                            clear ho hpb'
                            go_wp2_with fail
                            refine N2.mono ?_
                            rintro e' w7 ⟨rfl, hw7⟩
                            have hbr : Below wr.heap.size wr w7 := (by rw [hw7]; exact below3 (Below.refl _ _) (Nat.le_refl _))
                            have x57 : w7.cell? ⟨wo.heap.size, 5, none⟩ = some (.int .u64 e.ans.val) := (hbr.cell (p := ⟨wo.heap.size, 5, none⟩) zx).trans x5
                            have hh7 : w7.heap[wr.heap.size]? = some (.cells #[.int .i64 y.call, .int .i64 y.inv, .int .i64 y.resp, .int .i64 y.steps, .int .i64 y.ans.err, .int .u64 y.ans.val, .slice z.lA z.lN z.lC, .slice z.kA z.kN z.kC] 41) := (by rw [hw7]; exact (allocs3 wr _ _ _).1)
                            have y57 : w7.cell? ⟨wr.heap.size, 5, none⟩ = some (.int .u64 y.ans.val) := cell_of_row w7 wr.heap.size 5 _ _ _ hh7
                            have HB7 := hide (show Below ((wo.alloc (.cells #[.int .i64 e.call, .int .i64 e.inv, .int .i64 e.resp, .int .i64 e.steps, .int .i64 e.ans.err, .int .u64 e.ans.val, .slice x.lA x.lN x.lC, .slice x.kA x.kN x.kC] 41)).alloc (.cells #[.int .i64 e.call, .int .i64 e.inv, .int .i64 e.resp, .int .i64 e.steps, .int .i64 e.ans.err, .int .u64 e.ans.val, .slice x.lA x.lN x.lC, .slice x.kA x.kN x.kC] 41)).heap.size ((wo.alloc (.cells #[.int .i64 e.call, .int .i64 e.inv, .int .i64 e.resp, .int .i64 e.steps, .int .i64 e.ans.err, .int .u64 e.ans.val, .slice x.lA x.lN x.lC, .slice x.kA x.kN x.kC] 41)).alloc (.cells #[.int .i64 e.call, .int .i64 e.inv, .int .i64 e.resp, .int .i64 e.steps, .int .i64 e.ans.err, .int .u64 e.ans.val, .slice x.lA x.lN x.lC, .slice x.kA x.kN x.kC] 41)) w7 from by rw [hw7]; exact below3 hQ.out (by simp; omega))
                            clear hw7 hbr hh7
                            go_wp2
                            go_roundw
                            case rel => exact ⟨j + 1, by omega, by go_num, by rw [HPN.out]; first | rfl | (subst hpb'; rfl) | (rw [← hpb']; simp [*]), hide (by first | exact HB7.out | skip; have hzz := hQ.out.size; simp at hzz; have h8 := hQ.out; repeat' (first | with_reducible assumption | with_reducible refine Below.alloc ?_ ?_ _ | (simp; done) | (simp; omega)))⟩
                            case measure => first | (simp [intOf]; done) | (simp [intOf]; omega)
                        · clear hpb'
                          go_wp2_with fail
                          refine N2.mono ?_
                          rintro e' w7 ⟨rfl, hw7⟩
                          have hbr : Below wr.heap.size wr w7 := (by rw [hw7]; exact below3 (Below.refl _ _) (Nat.le_refl _))
                          have x57 : w7.cell? ⟨wo.heap.size, 5, none⟩ = some (.int .u64 e.ans.val) := (hbr.cell (p := ⟨wo.heap.size, 5, none⟩) zx).trans x5
                          have hh7 : w7.heap[wr.heap.size]? = some (.cells #[.int .i64 y.call, .int .i64 y.inv, .int .i64 y.resp, .int .i64 y.steps, .int .i64 y.ans.err, .int .u64 y.ans.val, .slice z.lA z.lN z.lC, .slice z.kA z.kN z.kC] 41) := (by rw [hw7]; exact (allocs3 wr _ _ _).1)
                          have y57 : w7.cell? ⟨wr.heap.size, 5, none⟩ = some (.int .u64 y.ans.val) := cell_of_row w7 wr.heap.size 5 _ _ _ hh7
                          have HB7 := hide (show Below ((wo.alloc (.cells #[.int .i64 e.call, .int .i64 e.inv, .int .i64 e.resp, .int .i64 e.steps, .int .i64 e.ans.err, .int .u64 e.ans.val, .slice x.lA x.lN x.lC, .slice x.kA x.kN x.kC] 41)).alloc (.cells #[.int .i64 e.call, .int .i64 e.inv, .int .i64 e.resp, .int .i64 e.steps, .int .i64 e.ans.err, .int .u64 e.ans.val, .slice x.lA x.lN x.lC, .slice x.kA x.kN x.kC] 41)).heap.size ((wo.alloc (.cells #[.int .i64 e.call, .int .i64 e.inv, .int .i64 e.resp, .int .i64 e.steps, .int .i64 e.ans.err, .int .u64 e.ans.val, .slice x.lA x.lN x.lC, .slice x.kA x.kN x.kC] 41)).alloc (.cells #[.int .i64 e.call, .int .i64 e.inv, .int .i64 e.resp, .int .i64 e.steps, .int .i64 e.ans.err, .int .u64 e.ans.val, .slice x.lA x.lN x.lC, .slice x.kA x.kN x.kC] 41)) w7 from by rw [hw7]; exact below3 hQ.out (by simp; omega))
                          clear hw7 hbr hh7
                          go_wp2
                          go_roundw
                          case rel => exact ⟨j + 1, by omega, by go_num, by rw [HPN.out]; first | rfl | (subst hpb'; rfl) | (rw [← hpb']; simp [*]), hide (by first | exact HB7.out | skip; have hzz := hQ.out.size; simp at hzz; have h8 := hQ.out; repeat' (first | with_reducible assumption | with_reducible refine Below.alloc ?_ ?_ _ | (simp; done) | (simp; omega)))⟩
                          case measure => first | (simp [intOf]; done) | (simp [intOf]; omega)
                      · have hs2 := hsame hodd rfl
                        have ds : (y.ans.val / 2 != e.ans.val / 2) = false := by simpa using hs2
                        clear hsame hodd
                        rcases p with _ | _
                        · by_cases ho : (callOf cs y.call).obj = 0
                          · have dob : ((callOf cs y.call).obj == 0) = true := by simpa using ho
                            by_cases hk0 : (callOf cs y.call).kind = 0
                            · have dk : ((callOf cs y.call).kind == 0) = true := by simpa using hk0
                              by_cases ha : (callOf cs y.call).a = e.ans.val / 2
                              · have da : ((callOf cs y.call).a == e.ans.val / 2) = true := by simpa using ha
                                by_cases hi : y.inv < e.resp
                                · have di : decide (y.inv < e.resp) = true := by simpa using hi
                                  have hpv : pb = true := by rw [← hpb']; simp [ho, hk0, ha, hi]
                                  subst hpv
                                  clear ho hk0 ha hi hpb'
                                  go_wp2_with fail
                                  refine N2.mono ?_
                                  rintro e' w7 ⟨rfl, hw7⟩
                                  have hbr : Below wr.heap.size wr w7 := (by rw [hw7]; exact below3 (Below.refl _ _) (Nat.le_refl _))
                                  have x57 : w7.cell? ⟨wo.heap.size, 5, none⟩ = some (.int .u64 e.ans.val) := (hbr.cell (p := ⟨wo.heap.size, 5, none⟩) zx).trans x5
                                  have hh7 : w7.heap[wr.heap.size]? = some (.cells #[.int .i64 y.call, .int .i64 y.inv, .int .i64 y.resp, .int .i64 y.steps, .int .i64 y.ans.err, .int .u64 y.ans.val, .slice z.lA z.lN z.lC, .slice z.kA z.kN z.kC] 41) := (by rw [hw7]; exact (allocs3 wr _ _ _).1)
                                  have y57 : w7.cell? ⟨wr.heap.size, 5, none⟩ = some (.int .u64 y.ans.val) := cell_of_row w7 wr.heap.size 5 _ _ _ hh7
                                  have HB7 := hide (show Below ((wo.alloc (.cells #[.int .i64 e.call, .int .i64 e.inv, .int .i64 e.resp, .int .i64 e.steps, .int .i64 e.ans.err, .int .u64 e.ans.val, .slice x.lA x.lN x.lC, .slice x.kA x.kN x.kC] 41)).alloc (.cells #[.int .i64 e.call, .int .i64 e.inv, .int .i64 e.resp, .int .i64 e.steps, .int .i64 e.ans.err, .int .u64 e.ans.val, .slice x.lA x.lN x.lC, .slice x.kA x.kN x.kC] 41)).heap.size ((wo.alloc (.cells #[.int .i64 e.call, .int .i64 e.inv, .int .i64 e.resp, .int .i64 e.steps, .int .i64 e.ans.err, .int .u64 e.ans.val, .slice x.lA x.lN x.lC, .slice x.kA x.kN x.kC] 41)).alloc (.cells #[.int .i64 e.call, .int .i64 e.inv, .int .i64 e.resp, .int .i64 e.steps, .int .i64 e.ans.err, .int .u64 e.ans.val, .slice x.lA x.lN x.lC, .slice x.kA x.kN x.kC] 41)) w7 from by rw [hw7]; exact below3 hQ.out (by simp; omega))
                                  clear hw7 hbr hh7
                                  go_wp2
                                  go_roundw
                                  case rel => exact ⟨j + 1, by omega, by go_num, by rw [HPN.out]; first | rfl | (subst hpb'; rfl) | (rw [← hpb']; simp [*]), hide (by first | exact HB7.out | skip; have hzz := hQ.out.size; simp at hzz; have h8 := hQ.out; repeat' (first | with_reducible assumption | with_reducible refine Below.alloc ?_ ?_ _ | (simp; done) | (simp; omega)))⟩
                                  case measure => first | (simp [intOf]; done) | (simp [intOf]; omega)
                                · have di : decide (y.inv < e.resp) = false := by simpa using hi
                                  have hpv : pb = false := by rw [← hpb']; simp [hi]
                                  subst hpv
                                  clear ho hk0 ha hi hpb'
                                  go_wp2_with fail
                                  refine N2.mono ?_
                                  rintro e' w7 ⟨rfl, hw7⟩
                                  have hbr : Below wr.heap.size wr w7 := (by rw [hw7]; exact below3 (Below.refl _ _) (Nat.le_refl _))
                                  have x57 : w7.cell? ⟨wo.heap.size, 5, none⟩ = some (.int .u64 e.ans.val) := (hbr.cell (p := ⟨wo.heap.size, 5, none⟩) zx).trans x5
                                  have hh7 : w7.heap[wr.heap.size]? = some (.cells #[.int .i64 y.call, .int .i64 y.inv, .int .i64 y.resp, .int .i64 y.steps, .int .i64 y.ans.err, .int .u64 y.ans.val, .slice z.lA z.lN z.lC, .slice z.kA z.kN z.kC] 41) := (by rw [hw7]; exact (allocs3 wr _ _ _).1)
                                  have y57 : w7.cell? ⟨wr.heap.size, 5, none⟩ = some (.int .u64 y.ans.val) := cell_of_row w7 wr.heap.size 5 _ _ _ hh7
                                  have HB7 := hide (show Below ((wo.alloc (.cells #[.int .i64 e.call, .int .i64 e.inv, .int .i64 e.resp, .int .i64 e.steps, .int .i64 e.ans.err, .int .u64 e.ans.val, .slice x.lA x.lN x.lC, .slice x.kA x.kN x.kC] 41)).alloc (.cells #[.int .i64 e.call, .int .i64 e.inv, .int .i64 e.resp, .int .i64 e.steps, .int .i64 e.ans.err, .int .u64 e.ans.val, .slice x.lA x.lN x.lC, .slice x.kA x.kN x.kC] 41)).heap.size ((wo.alloc (.cells #[.int .i64 e.call, .int .i64 e.inv, .int .i64 e.resp, .int .i64 e.steps, .int .i64 e.ans.err, .int .u64 e.ans.val, .slice x.lA x.lN x.lC, .slice x.kA x.kN x.kC] 41)).alloc (.cells #[.int .i64 e.call, .int .i64 e.inv, .int .i64 e.resp, .int .i64 e.steps, .int .i64 e.ans.err, .int .u64 e.ans.val, .slice x.lA x.lN x.lC, .slice x.kA x.kN x.kC] 41)) w7 from by rw [hw7]; exact below3 hQ.out (by simp; omega))
                                  clear hw7 hbr hh7
                                  go_wp2
                                  go_roundw
                                  case rel => exact ⟨j + 1, by omega, by go_num, by rw [HPN.out]; first | rfl | (subst hpb'; rfl) | (rw [← hpb']; simp [*]), hide (by first | exact HB7.out | skip; have hzz := hQ.out.size; simp at hzz; have h8 := hQ.out; repeat' (first | with_reducible assumption | with_reducible refine Below.alloc ?_ ?_ _ | (simp; done) | (simp; omega)))⟩
                                  case measure => first | (simp [intOf]; done) | (simp [intOf]; omega)
                              · have da : ((callOf cs y.call).a == e.ans.val / 2) = false := by simpa using ha
                                have hpv : pb = false := by rw [← hpb']; simp [ha]
                                subst hpv
                                clear ho hk0 ha hpb'
                                go_wp2_with fail
                                refine N2.mono ?_
                                rintro e' w7 ⟨rfl, hw7⟩
                                have hbr : Below wr.heap.size wr w7 := (by rw [hw7]; exact below3 (Below.refl _ _) (Nat.le_refl _))
                                have x57 : w7.cell? ⟨wo.heap.size, 5, none⟩ = some (.int .u64 e.ans.val) := (hbr.cell (p := ⟨wo.heap.size, 5, none⟩) zx).trans x5
                                have hh7 : w7.heap[wr.heap.size]? = some (.cells #[.int .i64 y.call, .int .i64 y.inv, .int .i64 y.resp, .int .i64 y.steps, .int .i64 y.ans.err, .int .u64 y.ans.val, .slice z.lA z.lN z.lC, .slice z.kA z.kN z.kC] 41) := (by rw [hw7]; exact (allocs3 wr _ _ _).1)
                                have y57 : w7.cell? ⟨wr.heap.size, 5, none⟩ = some (.int .u64 y.ans.val) := cell_of_row w7 wr.heap.size 5 _ _ _ hh7
                                have HB7 := hide (show Below ((wo.alloc (.cells #[.int .i64 e.call, .int .i64 e.inv, .int .i64 e.resp, .int .i64 e.steps, .int .i64 e.ans.err, .int .u64 e.ans.val, .slice x.lA x.lN x.lC, .slice x.kA x.kN x.kC] 41)).alloc (.cells #[.int .i64 e.call, .int .i64 e.inv, .int .i64 e.resp, .int .i64 e.steps, .int .i64 e.ans.err, .int .u64 e.ans.val, .slice x.lA x.lN x.lC, .slice x.kA x.kN x.kC] 41)).heap.size ((wo.alloc (.cells #[.int .i64 e.call, .int .i64 e.inv, .int .i64 e.resp, .int .i64 e.steps, .int .i64 e.ans.err, .int .u64 e.ans.val, .slice x.lA x.lN x.lC, .slice x.kA x.kN x.kC] 41)).alloc (.cells #[.int .i64 e.call, .int .i64 e.inv, .int .i64 e.resp, .int .i64 e.steps, .int .i64 e.ans.err, .int .u64 e.ans.val, .slice x.lA x.lN x.lC, .slice x.kA x.kN x.kC] 41)) w7 from by rw [hw7]; exact below3 hQ.out (by simp; omega))
                                clear hw7 hbr hh7
                                go_wp2
                                go_roundw
                                case rel => exact ⟨j + 1, by omega, by go_num, by rw [HPN.out]; first | rfl | (subst hpb'; rfl) | (rw [← hpb']; simp [*]), hide (by first | exact HB7.out | skip; have hzz := hQ.out.size; simp at hzz; have h8 := hQ.out; repeat' (first | with_reducible assumption | with_reducible refine Below.alloc ?_ ?_ _ | (simp; done) | (simp; omega)))⟩
                                case measure => first | (simp [intOf]; done) | (simp [intOf]; omega)
                            · have dk : ((callOf cs y.call).kind == 0) = false := by simpa using hk0
                              have hpv : pb = false := by rw [← hpb']; simp [hk0]
                              subst hpv
                              clear ho hk0 hpb'
                              go_wp2_with fail
                              refine N2.mono ?_
                              rintro e' w7 ⟨rfl, hw7⟩
                              have hbr : Below wr.heap.size wr w7 := (by rw [hw7]; exact below3 (Below.refl _ _) (Nat.le_refl _))
                              have x57 : w7.cell? ⟨wo.heap.size, 5, none⟩ = some (.int .u64 e.ans.val) := (hbr.cell (p := ⟨wo.heap.size, 5, none⟩) zx).trans x5
                              have hh7 : w7.heap[wr.heap.size]? = some (.cells #[.int .i64 y.call, .int .i64 y.inv, .int .i64 y.resp, .int .i64 y.steps, .int .i64 y.ans.err, .int .u64 y.ans.val, .slice z.lA z.lN z.lC, .slice z.kA z.kN z.kC] 41) := (by rw [hw7]; exact (allocs3 wr _ _ _).1)
                              have y57 : w7.cell? ⟨wr.heap.size, 5, none⟩ = some (.int .u64 y.ans.val) := cell_of_row w7 wr.heap.size 5 _ _ _ hh7
                              have HB7 := hide (show Below ((wo.alloc (.cells #[.int .i64 e.call, .int .i64 e.inv, .int .i64 e.resp, .int .i64 e.steps, .int .i64 e.ans.err, .int .u64 e.ans.val, .slice x.lA x.lN x.lC, .slice x.kA x.kN x.kC] 41)).alloc (.cells #[.int .i64 e.call, .int .i64 e.inv, .int .i64 e.resp, .int .i64 e.steps, .int .i64 e.ans.err, .int .u64 e.ans.val, .slice x.lA x.lN x.lC, .slice x.kA x.kN x.kC] 41)).heap.size ((wo.alloc (.cells #[.int .i64 e.call, .int .i64 e.inv, .int .i64 e.resp, .int .i64 e.steps, .int .i64 e.ans.err, .int .u64 e.ans.val, .slice x.lA x.lN x.lC, .slice x.kA x.kN x.kC] 41)).alloc (.cells #[.int .i64 e.call, .int .i64 e.inv, .int .i64 e.resp, .int .i64 e.steps, .int .i64 e.ans.err, .int .u64 e.ans.val, .slice x.lA x.lN x.lC, .slice x.kA x.kN x.kC] 41)) w7 from by rw [hw7]; exact below3 hQ.out (by simp; omega))
                              clear hw7 hbr hh7
                              go_wp2
                              go_roundw
                              case rel => exact ⟨j + 1, by omega, by go_num, by rw [HPN.out]; first | rfl | (subst hpb'; rfl) | (rw [← hpb']; simp [*]), hide (by first | exact HB7.out | skip; have hzz := hQ.out.size; simp at hzz; have h8 := hQ.out; repeat' (first | with_reducible assumption | with_reducible refine Below.alloc ?_ ?_ _ | (simp; done) | (simp; omega)))⟩
                              case measure => first | (simp [intOf]; done) | (simp [intOf]; omega)
                          · have dob : ((callOf cs y.call).obj == 0) = false := by simpa using ho
                            have hpv : pb = false := by rw [← hpb']; simp [ho]
                            subst hpv
                            clear ho hpb'
                            go_wp2_with fail
                            refine N2.mono ?_
                            rintro e' w7 ⟨rfl, hw7⟩
                            have hbr : Below wr.heap.size wr w7 := (by rw [hw7]; exact below3 (Below.refl _ _) (Nat.le_refl _))
                            have x57 : w7.cell? ⟨wo.heap.size, 5, none⟩ = some (.int .u64 e.ans.val) := (hbr.cell (p := ⟨wo.heap.size, 5, none⟩) zx).trans x5
                            have hh7 : w7.heap[wr.heap.size]? = some (.cells #[.int .i64 y.call, .int .i64 y.inv, .int .i64 y.resp, .int .i64 y.steps, .int .i64 y.ans.err, .int .u64 y.ans.val, .slice z.lA z.lN z.lC, .slice z.kA z.kN z.kC] 41) := (by rw [hw7]; exact (allocs3 wr _ _ _).1)
                            have y57 : w7.cell? ⟨wr.heap.size, 5, none⟩ = some (.int .u64 y.ans.val) := cell_of_row w7 wr.heap.size 5 _ _ _ hh7
                            have HB7 := hide (show Below ((wo.alloc (.cells #[.int .i64 e.call, .int .i64 e.inv, .int .i64 e.resp, .int .i64 e.steps, .int .i64 e.ans.err, .int .u64 e.ans.val, .slice x.lA x.lN x.lC, .slice x.kA x.kN x.kC] 41)).alloc (.cells #[.int .i64 e.call, .int .i64 e.inv, .int .i64 e.resp, .int .i64 e.steps, .int .i64 e.ans.err, .int .u64 e.ans.val, .slice x.lA x.lN x.lC, .slice x.kA x.kN x.kC] 41)).heap.size ((wo.alloc (.cells #[.int .i64 e.call, .int .i64 e.inv, .int .i64 e.resp, .int .i64 e.steps, .int .i64 e.ans.err, .int .u64 e.ans.val, .slice x.lA x.lN x.lC, .slice x.kA x.kN x.kC] 41)).alloc (.cells #[.int .i64 e.call, .int .i64 e.inv, .int .i64 e.resp, .int .i64 e.steps, .int .i64 e.ans.err, .int .u64 e.ans.val, .slice x.lA x.lN x.lC, .slice x.kA x.kN x.kC] 41)) w7 from by rw [hw7]; exact below3 hQ.out (by simp; omega))
                            clear hw7 hbr hh7
                            go_wp2
                            go_roundw
                            case rel => exact ⟨j + 1, by omega, by go_num, by rw [HPN.out]; first | rfl | (subst hpb'; rfl) | (rw [← hpb']; simp [*]), hide (by first | exact HB7.out | skip; have hzz := hQ.out.size; simp at hzz; have h8 := hQ.out; repeat' (first | with_reducible assumption | with_reducible refine Below.alloc ?_ ?_ _ | (simp; done) | (simp; omega)))⟩
                            case measure => first | (simp [intOf]; done) | (simp [intOf]; omega)
                        · clear hpb'
                          go_wp2_with fail
                          refine N2.mono ?_
                          rintro e' w7 ⟨rfl, hw7⟩
                          have hbr : Below wr.heap.size wr w7 := (by rw [hw7]; exact below3 (Below.refl _ _) (Nat.le_refl _))
                          have x57 : w7.cell? ⟨wo.heap.size, 5, none⟩ = some (.int .u64 e.ans.val) := (hbr.cell (p := ⟨wo.heap.size, 5, none⟩) zx).trans x5
                          have hh7 : w7.heap[wr.heap.size]? = some (.cells #[.int .i64 y.call, .int .i64 y.inv, .int .i64 y.resp, .int .i64 y.steps, .int .i64 y.ans.err, .int .u64 y.ans.val, .slice z.lA z.lN z.lC, .slice z.kA z.kN z.kC] 41) := (by rw [hw7]; exact (allocs3 wr _ _ _).1)
                          have y57 : w7.cell? ⟨wr.heap.size, 5, none⟩ = some (.int .u64 y.ans.val) := cell_of_row w7 wr.heap.size 5 _ _ _ hh7
                          have HB7 := hide (show Below ((wo.alloc (.cells #[.int .i64 e.call, .int .i64 e.inv, .int .i64 e.resp, .int .i64 e.steps, .int .i64 e.ans.err, .int .u64 e.ans.val, .slice x.lA x.lN x.lC, .slice x.kA x.kN x.kC] 41)).alloc (.cells #[.int .i64 e.call, .int .i64 e.inv, .int .i64 e.resp, .int .i64 e.steps, .int .i64 e.ans.err, .int .u64 e.ans.val, .slice x.lA x.lN x.lC, .slice x.kA x.kN x.kC] 41)).heap.size ((wo.alloc (.cells #[.int .i64 e.call, .int .i64 e.inv, .int .i64 e.resp, .int .i64 e.steps, .int .i64 e.ans.err, .int .u64 e.ans.val, .slice x.lA x.lN x.lC, .slice x.kA x.kN x.kC] 41)).alloc (.cells #[.int .i64 e.call, .int .i64 e.inv, .int .i64 e.resp, .int .i64 e.steps, .int .i64 e.ans.err, .int .u64 e.ans.val, .slice x.lA x.lN x.lC, .slice x.kA x.kN x.kC] 41)) w7 from by rw [hw7]; exact below3 hQ.out (by simp; omega))
                          clear hw7 hbr hh7
                          go_wp2
                          go_roundw
                          case rel => exact ⟨j + 1, by omega, by go_num, by rw [HPN.out]; first | rfl | (subst hpb'; rfl) | (rw [← hpb']; simp [*]), hide (by first | exact HB7.out | skip; have hzz := hQ.out.size; simp at hzz; have h8 := hQ.out; repeat' (first | with_reducible assumption | with_reducible refine Below.alloc ?_ ?_ _ | (simp; done) | (simp; omega)))⟩
                          case measure => first | (simp [intOf]; done) | (simp [intOf]; omega)
                    · have do1 : (e.ans.val % 2 == 1) = false := by simpa using hodd
                      clear hsame hodd N2
                      rcases p with _ | _
                      · by_cases ho : (callOf cs y.call).obj = 0
                        · have dob : ((callOf cs y.call).obj == 0) = true := by simpa using ho
                          by_cases hk0 : (callOf cs y.call).kind = 0
                          · have dk : ((callOf cs y.call).kind == 0) = true := by simpa using hk0
                            by_cases ha : (callOf cs y.call).a = e.ans.val / 2
                            · have da : ((callOf cs y.call).a == e.ans.val / 2) = true := by simpa using ha
                              by_cases hi : y.inv < e.resp
                              · have di : decide (y.inv < e.resp) = true := by simpa using hi
                                have hpv : pb = true := by rw [← hpb']; simp [ho, hk0, ha, hi]
                                subst hpv
                                clear ho hk0 ha hi hpb'
                                go_wp2
                                go_roundw
                                case rel => exact ⟨j + 1, by omega, by go_num, by rw [HPN.out]; first | rfl | (subst hpb'; rfl) | (rw [← hpb']; simp [*]), hide (by first | exact HB7.out | skip; have hzz := hQ.out.size; simp at hzz; have h8 := hQ.out; repeat' (first | with_reducible assumption | with_reducible refine Below.alloc ?_ ?_ _ | (simp; done) | (simp; omega)))⟩
                                case measure => first | (simp [intOf]; done) | (simp [intOf]; omega)
                              · have di : decide (y.inv < e.resp) = false := by simpa using hi
                                have hpv : pb = false := by rw [← hpb']; simp [hi]
                                subst hpv
                                clear ho hk0 ha hi hpb'
                                go_wp2
                                go_roundw
                                case rel => exact ⟨j + 1, by omega, by go_num, by rw [HPN.out]; first | rfl | (subst hpb'; rfl) | (rw [← hpb']; simp [*]), hide (by first | exact HB7.out | skip; have hzz := hQ.out.size; simp at hzz; have h8 := hQ.out; repeat' (first | with_reducible assumption | with_reducible refine Below.alloc ?_ ?_ _ | (simp; done) | (simp; omega)))⟩
                                case measure => first | (simp [intOf]; done) | (simp [intOf]; omega)
                            · have da : ((callOf cs y.call).a == e.ans.val / 2) = false := by simpa using ha
                              have hpv : pb = false := by rw [← hpb']; simp [ha]
                              subst hpv
                              clear ho hk0 ha hpb'
                              go_wp2
                              go_roundw
                              case rel => exact ⟨j + 1, by omega, by go_num, by rw [HPN.out]; first | rfl | (subst hpb'; rfl) | (rw [← hpb']; simp [*]), hide (by first | exact HB7.out | skip; have hzz := hQ.out.size; simp at hzz; have h8 := hQ.out; repeat' (first | with_reducible assumption | with_reducible refine Below.alloc ?_ ?_ _ | (simp; done) | (simp; omega)))⟩
                              case measure => first | (simp [intOf]; done) | (simp [intOf]; omega)
                          · have dk : ((callOf cs y.call).kind == 0) = false := by simpa using hk0
                            have hpv : pb = false := by rw [← hpb']; simp [hk0]
                            subst hpv
                            clear ho hk0 hpb'
                            go_wp2
                            go_roundw
                            case rel => exact ⟨j + 1, by omega, by go_num, by rw [HPN.out]; first | rfl | (subst hpb'; rfl) | (rw [← hpb']; simp [*]), hide (by first | exact HB7.out | skip; have hzz := hQ.out.size; simp at hzz; have h8 := hQ.out; repeat' (first | with_reducible assumption | with_reducible refine Below.alloc ?_ ?_ _ | (simp; done) | (simp; omega)))⟩
                            case measure => first | (simp [intOf]; done) | (simp [intOf]; omega)
                        · have dob : ((callOf cs y.call).obj == 0) = false := by simpa using ho
                          have hpv : pb = false := by rw [← hpb']; simp [ho]
                          subst hpv
                          clear ho hpb'
                          go_wp2
                          go_roundw
                          case rel => exact ⟨j + 1, by omega, by go_num, by rw [HPN.out]; first | rfl | (subst hpb'; rfl) | (rw [← hpb']; simp [*]), hide (by first | exact HB7.out | skip; have hzz := hQ.out.size; simp at hzz; have h8 := hQ.out; repeat' (first | with_reducible assumption | with_reducible refine Below.alloc ?_ ?_ _ | (simp; done) | (simp; omega)))⟩
                          case measure => first | (simp [intOf]; done) | (simp [intOf]; omega)
                      · clear hpb'
                        go_wp2
                        go_roundw
                        case rel => exact ⟨j + 1, by omega, by go_num, by rw [HPN.out]; first | rfl | (subst hpb'; rfl) | (rw [← hpb']; simp [*]), hide (by first | exact HB7.out | skip; have hzz := hQ.out.size; simp at hzz; have h8 := hQ.out; repeat' (first | with_reducible assumption | with_reducible refine Below.alloc ?_ ?_ _ | (simp; done) | (simp; omega)))⟩
                        case measure => first | (simp [intOf]; done) | (simp [intOf]; omega)
                  · obtain rfl : j = es.length := by omega
                    rw [List.take_of_length_le (Nat.le_refl _)]
                    rw [HANY.out]
                    go_wp2
                    go_roundw
                    case rel => exact ⟨k + 1, by omega, by go_num, hide (((hB.out.alloc hB.out.size _).alloc (by have := hB.out.size; simp at this ⊢; omega) _).trans (hQ.out.mono (by have := hB.out.size; simp at this ⊢; omega)))⟩
                    case measure => first | (simp [intOf]; done) | (simp [intOf]; omega)
            · obtain rfl : k = es.length := by omega
              go_wp2_with fail
              refine (lateW _).mono ?_
              rintro e w3 ⟨rfl, hb3⟩
              have HB3 := hide hb3
              clear hb3
              go_wp2
              go_ret
              exact ⟨rfl, HB0.out.trans (HB3.out.mono HB0.out.size)⟩
    · have d0 : (E != 0) = true := by simpa using h0
      have HE := hide h0
      clear hE hb h hp hcu h0
      go_enter Try.func5, Try.ntmps5
      go_wp2_with fail
      refine N0.mono ?_
      rintro e w0 ⟨rfl, rfl⟩
      go_wp2_with fail
      refine N.mono ?_
      rintro e w1 (⟨_, rfl, hb⟩ | ⟨h, _⟩)
      rotate_left
      · exact absurd h HE.out
      have HB1 := hide hb
      clear hb N N0
      unfold zeroV
      have N1 := noneZero (w1.alloc zeroRep)
      unfold zeroV zeroRep at N1
      go_wp2_with fail
      refine N1.mono ?_
      rintro e w2 ⟨rfl, hb2⟩
      have HB2 := hide hb2
      clear hb2 N1
      go_wp2_with fail
      refine (lateW _).mono ?_
      rintro e w3 ⟨rfl, hb3⟩
      have HB3 := hide hb3
      clear hb3
      go_wp2
      go_ret
      have hb4 := HB1.out.alloc HB1.out.size zeroRep
      have hb5 := hb4.trans (HB2.out.mono hb4.size)
      exact ⟨rfl, hb5.trans (HB3.out.mono hb5.size)⟩
  · clear hb h hp hcu N
    go_enter Try.func5, Try.ntmps5
    go_wp2_with fail
    refine N0.mono ?_
    rintro e w0 ⟨rfl, rfl⟩
    go_wp2_with fail
    refine (lateW _).mono ?_
    rintro e w3 ⟨rfl, hb3⟩
    have HB3 := hide hb3
    clear hb3
    go_wp2
    go_ret
    exact ⟨rfl, HB3.out⟩
end Go.Proofs.Ytlfingcmekifkaa
