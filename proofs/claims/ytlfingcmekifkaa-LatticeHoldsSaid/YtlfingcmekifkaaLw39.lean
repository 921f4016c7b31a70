/- A lattice (law 41): LatticeHolds walked. -/
import Derived.Test.YtlfingcmekifkaaBun24
import Derived.Test.YtlfingcmekifkaaBun25
namespace Go.Proofs.Ytlfingcmekifkaa
open Go.RowKit

/-- What is counted: what was given till an event responds. -/
def selE (cs : List Cl) (e y : Ep) : Prop := isGive cs y ∧ y.ans.err = 0 ∧ ¬ e.resp < y.inv
instance (cs : List Cl) (e y : Ep) : Decidable (selE cs e y) := by unfold selE isGive; infer_instance
def anyN (cs : List Cl) (es : List Ep) (e : Ep) : Nat → Int
  | 0 => 0
  | k + 1 => match es[k]? with
    | some y => if selE cs e y then orI (anyN cs es e k) (callOf cs y.call).a else anyN cs es e k
    | none => anyN cs es e k
def mineN (cs : List Cl) (es : List Ep) (e : Ep) (q : Nat) : Nat → Int
  | 0 => 0
  | k + 1 => match es[k]? with
    | some y => if selE cs e y ∧ k ≤ q ∧ (callOf cs y.call).thread = (callOf cs e.call).thread then orI (mineN cs es e q k) (callOf cs y.call).a else mineN cs es e q k
    | none => mineN cs es e q k
section
variable {cs : List Cl} {es : List Ep} {e y : Ep} {q k : Nat}
theorem anyN_succ (h : es[k]? = some y) : anyN cs es e (k + 1) = if selE cs e y then orI (anyN cs es e k) (callOf cs y.call).a else anyN cs es e k := by
  show (match es[k]? with | some y => if selE cs e y then orI (anyN cs es e k) (callOf cs y.call).a else anyN cs es e k | none => anyN cs es e k) = _
  rw [h]
theorem mineN_succ (h : es[k]? = some y) : mineN cs es e q (k + 1) = if selE cs e y ∧ k ≤ q ∧ (callOf cs y.call).thread = (callOf cs e.call).thread then orI (mineN cs es e q k) (callOf cs y.call).a else mineN cs es e q k := by
  show (match es[k]? with | some y => if selE cs e y ∧ k ≤ q ∧ (callOf cs y.call).thread = (callOf cs e.call).thread then orI (mineN cs es e q k) (callOf cs y.call).a else mineN cs es e q k | none => mineN cs es e q k) = _
  rw [h]
theorem holdsN_bd (hc : ∀ y ∈ es, 0 ≤ (callOf cs y.call).a ∧ (callOf cs y.call).a < 18446744073709551616) : ∀ k, (0 ≤ anyN cs es e k ∧ anyN cs es e k < 18446744073709551616) ∧ 0 ≤ mineN cs es e q k ∧ mineN cs es e q k < 18446744073709551616
  | 0 => ⟨⟨Int.le_refl _, by show (0 : Int) < _; omega⟩, Int.le_refl _, by show (0 : Int) < _; omega⟩
  | k + 1 => by
    obtain ⟨h1, h2⟩ := holdsN_bd hc k
    cases hy : es[k]? with
    | none =>
      have e1 : anyN cs es e (k + 1) = anyN cs es e k := by
        show (match es[k]? with | some y => if selE cs e y then orI (anyN cs es e k) (callOf cs y.call).a else anyN cs es e k | none => anyN cs es e k) = _
        rw [hy]
      have e2 : mineN cs es e q (k + 1) = mineN cs es e q k := by
        show (match es[k]? with | some y => if selE cs e y ∧ k ≤ q ∧ (callOf cs y.call).thread = (callOf cs e.call).thread then orI (mineN cs es e q k) (callOf cs y.call).a else mineN cs es e q k | none => mineN cs es e q k) = _
        rw [hy]
      rw [e1, e2]
      exact ⟨h1, h2⟩
    | some y =>
      have hb := hc y (List.mem_of_getElem? hy)
      rw [anyN_succ hy, mineN_succ hy]
      constructor
      · split
        · exact orI_bd h1 hb
        · exact h1
      · split
        · exact orI_bd h2 hb
        · exact h2
theorem anyN_bit (b : Nat) (hy : es[k]? = some y) (hs : selE cs e y) (hb : bit (callOf cs y.call).a b = true) : ∀ j, k < j → bit (anyN cs es e j) b = true
  | 0, h => by omega
  | j + 1, h => by
    by_cases hj : k = j
    · subst hj
      rw [anyN_succ hy, if_pos hs, bit_or, hb, Bool.or_true]
    · have ih := anyN_bit b hy hs hb j (by omega)
      cases hz : es[j]? with
      | none =>
        have e1 : anyN cs es e (j + 1) = anyN cs es e j := by
          show (match es[j]? with | some y => if selE cs e y then orI (anyN cs es e j) (callOf cs y.call).a else anyN cs es e j | none => anyN cs es e j) = _
          rw [hz]
        rw [e1]
        exact ih
      | some z =>
        rw [anyN_succ hz]
        split
        · rw [bit_or, ih, Bool.true_or]
        · exact ih
theorem mineN_bit (b : Nat) : ∀ j, bit (mineN cs es e q j) b = true → ∃ (k : Nat) (y : Ep), es[k]? = some y ∧ selE cs e y ∧ k ≤ q ∧ (callOf cs y.call).thread = (callOf cs e.call).thread ∧ bit (callOf cs y.call).a b = true
  | 0, h => by
    have : bit 0 b = true := h
    rw [bit_zero] at this
    cases this
  | j + 1, h => by
    cases hz : es[j]? with
    | none =>
      have e1 : mineN cs es e q (j + 1) = mineN cs es e q j := by
        show (match es[j]? with | some y => if selE cs e y ∧ j ≤ q ∧ (callOf cs y.call).thread = (callOf cs e.call).thread then orI (mineN cs es e q j) (callOf cs y.call).a else mineN cs es e q j | none => mineN cs es e q j) = _
        rw [hz]
      rw [e1] at h
      exact mineN_bit b j h
    | some z =>
      rw [mineN_succ hz] at h
      split at h
      · rename_i hc
        rw [bit_or, Bool.or_eq_true] at h
        rcases h with h | h
        · exact mineN_bit b j h
        · exact ⟨j, z, hz, hc.1, hc.2.1, hc.2.2, h⟩
      · exact mineN_bit b j h
end
/-- What is told has all that the thread gave, and nothing that nobody gave. -/
theorem holds_and {n : Nat} {cs : List Cl} {es : List Ep} {e : Ep} {q : Nat} (hH : HoldsAt n cs es) (hc : ∀ c ∈ cs, ClU c) (he : es[q]? = some e) (ht : toldE cs e) : bits .and .u64 e.ans.val (mineN cs es e q es.length) = mineN cs es e q es.length ∧ bits .and .u64 e.ans.val (anyN cs es e es.length) = e.ans.val := by
  obtain ⟨_, _, _, h4⟩ := hH.2 q e he
  obtain ⟨h5, h6⟩ := h4 ht
  have hcb : ∀ y ∈ es, 0 ≤ (callOf cs y.call).a ∧ (callOf cs y.call).a < 18446744073709551616 := fun y hy => by
    obtain ⟨k, hk⟩ := List.mem_iff_getElem?.1 hy
    exact (hc _ (List.mem_of_getElem? (call_get (hH.2 k y hk).1))).1
  obtain ⟨b1, b2⟩ := holdsN_bd (e := e) (q := q) hcb es.length
  have va := hH.1 q e he
  refine ⟨(and_sub b2 va fun i hi => ?_).2, (and_sub va b1 fun i hi => ?_).1⟩
  · obtain ⟨k, y, hy, hs, hk, hth, hb⟩ := mineN_bit i _ hi
    exact h5 k y hk hy hth hs.1 hs.2.1 i hb
  · obtain ⟨k, y, hy, hg, her, hin, hb⟩ := h6 i hi
    exact anyN_bit i hy ⟨hg, her, by omega⟩ hb _ (List.getElem?_eq_some_iff.1 hy).1
set_option maxRecDepth 100000 in
set_option maxHeartbeats 8000000 in
theorem latticeHoldsW (n z0 : Int) (A : Option Addr) (m c : Nat) (cs : List Cl) (Ap : Option Addr) (np cp : Nat) (picks : List Int) (w : World) (h : SlCl w (.slice A m c) cs) (hm : cs.length = m) (hp : SlI w (.slice Ap np cp) picks) (hpl : picks.length = np) (hcu : ∀ c ∈ cs, ClU c) :
    Calls Try.prog 8 #[.agg #[.int .i64 n, .int .i64 z0], .slice A m c, .slice Ap np cp] w fun e w' => e = .returned (.bool true) ∧ Below w.heap.size w w' := by
  have hml : m ≤ maxLen := by obtain ⟨_, _, e, h1, h2, _⟩ := h; cases e; omega
  have hpx : np ≤ maxLen := by obtain ⟨_, _, e, h1, h2, _⟩ := hp; cases e; omega
  have hQ : Below w.heap.size w (w.alloc (.cells #[.int .i64 n, .int .i64 z0] 22)) := (Below.refl _ w).alloc (Nat.le_refl _) _
  have y0 : (w.alloc (.cells #[.int .i64 n, .int .i64 z0] 22)).cell? ⟨w.heap.size, 0, none⟩ = some (.int .i64 n) := by go_simp
  have y1 : (w.alloc (.cells #[.int .i64 n, .int .i64 z0] 22)).cell? ⟨w.heap.size, 1, none⟩ = some (.int .i64 z0) := by go_simp
  have yz : w.heap.size < (w.alloc (.cells #[.int .i64 n, .int .i64 z0] 22)).heap.size := by simp
  have h' := h.below hQ (Nat.le_refl _)
  have hp' := hp.below hQ (Nat.le_refl _)
  have N0 := many_any A Ap m c np cp (w.alloc (.cells #[.int .i64 n, .int .i64 z0] 22)) hml hpx
  have N := latticePlay n z0 A m c cs Ap np cp picks (w.alloc (.cells #[.int .i64 n, .int .i64 z0] 22)) h' hm hp' hpl hcu
  obtain ⟨b, hb⟩ : ∃ b, manyB m np = b := ⟨_, rfl⟩
  rw [hb] at N0
  have HQ := hide hQ
  have HY := hide (And.intro y0 (And.intro y1 yz))
  clear hQ h hp y0 y1 yz
  rcases b with _ | _
  · obtain ⟨E, hE⟩ : ∃ E, chkP n z0 cs picks.length = E := ⟨_, rfl⟩
    rw [hE] at N
    by_cases h0 : E = 0
    · subst h0
      obtain ⟨hE1, hz1, hz2⟩ := chkP_zero hE
      obtain ⟨hn, hl, hpk, hth⟩ := chk_calls hE1
      obtain ⟨nn, rfl⟩ : ∃ nn : Nat, n = nn := ⟨n.toNat, by omega⟩
      have hH := holds_ends (n := nn) (p := z0.toNat) (by omega) (by omega) (cs := cs) (fun c hc => ⟨(hth c hc).1, (hth c hc).2, hcu c hc⟩) picks
      rw [Int.toNat_natCast] at N
      generalize (latPlay nn z0.toNat cs picks).ends latG = es at N hH
      generalize (latPlay nn z0.toNat cs picks).lw.mem = mm at N
      generalize (latPlay nn z0.toNat cs picks).lw.now = now at N
      generalize (latPlay nn z0.toNat cs picks).idle = idle at N
      have hnn : nn * nn ≤ 16 * 16 := Nat.mul_le_mul (by omega) (by omega)
      obtain ⟨P, hP⟩ : ∃ P : Int, P = 2 * (nn : Int) := ⟨_, rfl⟩
      obtain ⟨Q, hQ⟩ : ∃ Q : Int, Q = 2 * ((nn * nn : Nat) : Int) := ⟨_, rfl⟩
      obtain ⟨R, hR⟩ : ∃ R : Int, R = 5 * (nn : Int) := ⟨_, rfl⟩
      obtain ⟨V, hV⟩ : ∃ V : Int, V = ((nn * nn : Nat) : Int) := ⟨_, rfl⟩
      have k1 : IntKind.i64.wrap (2 * (nn : Int)) = P := by rw [hP]; exact wrap_i64 (by omega) (by omega)
      have k2 : IntKind.i64.wrap (P * (nn : Int)) = Q := by
        have e1 : P * (nn : Int) = Q := by rw [hP, hQ, Int.mul_assoc]; push_cast; rfl
        rw [e1]
        exact wrap_i64 (by omega) (by omega)
      have k3 : IntKind.i64.wrap (5 * (nn : Int)) = R := by rw [hR]; exact wrap_i64 (by omega) (by omega)
      have k4 : IntKind.i64.wrap ((nn : Int) * (nn : Int)) = V := by
        have e1 : (nn : Int) * (nn : Int) = V := by rw [hV]; push_cast; rfl
        rw [e1]
        exact wrap_i64 (by omega) (by omega)
      obtain ⟨S, hS⟩ : ∃ S : Int, S = Q + R := ⟨_, rfl⟩
      obtain ⟨U, hU⟩ : ∃ U : Int, U = S + 2 := ⟨_, rfl⟩
      obtain ⟨Z, hZ⟩ : ∃ Z : Int, Z = V + P := ⟨_, rfl⟩
      have k5 : IntKind.i64.wrap (Q + R) = S := by rw [hS]; exact wrap_i64 (by omega) (by omega)
      have k6 : IntKind.i64.wrap (S + 2) = U := by rw [hU]; exact wrap_i64 (by omega) (by omega)
      have k7 : IntKind.i64.wrap (V + P) = Z := by rw [hZ]; exact wrap_i64 (by omega) (by omega)
      have HST := hide (show ∀ (h : Nat) (x : Ep), es[h]? = some x → x.steps ≤ U ∧ ((callOf cs x.call).kind = 1 → x.steps ≤ Z) from fun h x hx => by
        obtain ⟨_, h2, h3, _⟩ := hH.2 h x hx
        refine ⟨by omega, fun hk => ?_⟩
        have := h3 hk
        omega)
      have HHA := hide hH
      have HCU := hide hcu
      have HC := hide h'
      have HM := hide hm
      clear hE hE1 hb hH h' hp' hcu hth hm hz1 hz2 hn hnn hP hQ hR hV hS hU hZ
      have HN := hide N
      clear N
      go_enter Try.func8, Try.ntmps8
      go_wp2_with fail
      refine N0.mono ?_
      rintro e w0 ⟨rfl, hw0⟩
      have HQ0 : Hid (Below w.heap.size w w0) := hide (by rw [hw0]; exact HQ.out)
      have N := HN.out
      rw [← hw0] at N HC HY
      obtain ⟨y0, y1, yz⟩ := HY.out
      clear hw0 N0 HN HQ HY
      go_wp2_with fail
      refine N.mono ?_
      rintro e w1 (⟨h, _⟩ | ⟨_, ev, B, Mu, g, cg, rfl, hEv, hBz, hwr, hb⟩)
      · exact absurd rfl h
      obtain ⟨Ae, ce, rfl, hel⟩ := evs_len hEv
      have y0' : (w1.alloc (.cells #[.slice Ae es.length ce, .slice (some ⟨g, 0, none⟩) mm.words.length cg, .int .i64 (wrap64 mm.rd), .int .i64 (wrap64 mm.wr), .int .i64 (wrap64 mm.sw), .int .i64 (wrap64 mm.ad), .int .i64 (wrap64 mm.ft), .int .i64 now, .int .i64 idle] 32)).cell? ⟨w.heap.size, 0, none⟩ = some (.int .i64 (nn : Int)) := Lib.cell?_alloc_some _ ((hb.cell (p := ⟨w.heap.size, 0, none⟩) yz).trans y0)
      have HB1 := hide hb
      have HEV := hide hEv
      have HEL := hide hel
      have hel' : (es.length : Int) ≤ 9223372036854775807 := by unfold maxLen at hel; omega
      have yz1 : w.heap.size < w1.heap.size := Nat.lt_of_lt_of_le yz hb.size
      clear hb hwr hEv hel N y0 y1
      unfold repV
      go_wp2
      go_loopw [42] (fun i wr => ∃ k : Nat, k ≤ es.length ∧ i = .int .i64 k ∧ Hid (Below (w1.alloc (.cells #[.slice Ae es.length ce, .slice (some ⟨g, 0, none⟩) mm.words.length cg, .int .i64 (wrap64 mm.rd), .int .i64 (wrap64 mm.wr), .int .i64 (wrap64 mm.sw), .int .i64 (wrap64 mm.ad), .int .i64 (wrap64 mm.ft), .int .i64 now, .int .i64 idle] 32)).heap.size (w1.alloc (.cells #[.slice Ae es.length ce, .slice (some ⟨g, 0, none⟩) mm.words.length cg, .int .i64 (wrap64 mm.rd), .int .i64 (wrap64 mm.wr), .int .i64 (wrap64 mm.sw), .int .i64 (wrap64 mm.ad), .int .i64 (wrap64 mm.ft), .int .i64 now, .int .i64 idle] 32)) wr)) (fun i _ => es.length - (intOf i).toNat)
      case atStart => exact ⟨0, Nat.zero_le _, rfl, hide (Below.refl _ _)⟩
      case round =>
        obtain ⟨q, hq, rfl, hB⟩ := hrel
        obtain ⟨wo, rfl⟩ : ∃ wo : World, wo = wr := ⟨_, rfl⟩
        have hbw : Below w1.heap.size w1 wo := ((Below.refl _ w1).alloc (Nat.le_refl _) _).trans (hB.out.mono (by simp))
        have hzr : w1.heap.size < wo.heap.size := by have := hB.out.size; simp at this; omega
        have t0 : wo.cell? ⟨w1.heap.size, 0, none⟩ = some (.slice Ae es.length ce) := (hB.out.cell (p := ⟨w1.heap.size, 0, none⟩) (by simp)).trans (by go_simp)
        have hb0 : Below w0.heap.size w0 wo := HB1.out.trans (hbw.mono HB1.out.size)
        have HBW := hide hbw
        have HB0 := hide hb0
        clear hbw hb0 y0'
        by_cases hlt : q < es.length
        · obtain ⟨e, he⟩ : ∃ e, es[q]? = some e := ⟨_, List.getElem?_eq_getElem hlt⟩
          obtain ⟨ge, rfl, hgz, x, hx, a0, a1, a2, a3, a4, a5, a6, a7⟩ := ev_at (HEV.out.below HBW.out) he
          have hq2 : (q : Int) < (es.length : Int) := by omega
          have hL := (HHA.out.2 q e he).1
          have hLm : (e.call : Int) < (m : Int) := by have := HM.out; omega
          have hL0 : ¬ (e.call : Int) < 0 := by omega
          have hLg : ¬ (m : Int) ≤ (e.call : Int) := by omega
          obtain ⟨hs1, hs2⟩ := HST.out q e he
          have ds1 : decide (U < e.steps) = false := by rw [decide_eq_false_iff_not]; omega
          obtain ⟨A', c', e1, g1, g2, g3⟩ := HC.out.below HB0.out (Nat.le_refl _)
          obtain ⟨bb, oo, e2, hbb, hcc⟩ := g3 _ _ (call_get hL)
          rw [HM.out] at e1
          cases e1
          cases e2
          obtain ⟨c0, c1, c2, c3, c4, c5⟩ := cl_cells hcc
          have hbo : Below wo.heap.size wo (wo.alloc (.cells #[.int .i64 e.call, .int .i64 e.inv, .int .i64 e.resp, .int .i64 e.steps, .int .i64 e.ans.err, .int .u64 e.ans.val, .slice x.lA x.lN x.lC, .slice x.kA x.kN x.kC] 41)) := (Below.refl _ wo).alloc (Nat.le_refl _) _
          have N1 := toldW (x := .slice x.lA x.lN x.lC) (y := .slice x.kA x.kN x.kC) (HC.out.below (HB0.out.trans (hbo.mono HB0.out.size)) (Nat.le_refl _)) HM.out hL
          obtain ⟨T, hT⟩ : ∃ T, toldB cs e = T := ⟨_, rfl⟩
          rw [hT] at N1
          have HE := hide he
          have HTT := hide hT
          have HBO := hide hbo
          have HN1 := hide N1
          clear hx he hL hT hbo N1 g1 g2 g3 hcc hs1
          by_cases hk1 : (callOf cs e.call).kind = 1
          · have dk : ((callOf cs e.call).kind == 1) = true := by simpa using hk1
            have ds2 : decide (Z < e.steps) = false := by rw [decide_eq_false_iff_not]; have := hs2 hk1; omega
            clear hs2 hk1
            go_wp2_with fail
            refine HN1.out.mono ?_
            rintro e' w2 ⟨rfl, hb2⟩
            have hz2 : wo.heap.size < w2.heap.size := by have := hb2.size; simp at this; omega
            have hbo2 : Below wo.heap.size wo w2 := HBO.out.trans (hb2.mono HBO.out.size)
            have hBr2 := hB.out.trans (hbo2.mono hB.out.size)
            rcases T with _ | _
            · have HR2 := hide hBr2
              clear hb2 hbo2 hBr2
              go_wp2
              go_roundw
              case rel => exact ⟨q + 1, by omega, by go_num, HR2⟩
              case measure => first | (simp [intOf]; done) | (simp [intOf]; omega)
            · have r0 : w2.cell? ⟨w1.heap.size, 0, none⟩ = some (.slice (some ⟨ge, 0, none⟩) es.length ce) := (hbo2.cell (p := ⟨w1.heap.size, 0, none⟩) hzr).trans t0
              have e0 : w2.cell? ⟨wo.heap.size, 0, none⟩ = some (.int .i64 e.call) := (hb2.cell (p := ⟨wo.heap.size, 0, none⟩) (by simp)).trans (by go_simp)
              have e2 : w2.cell? ⟨wo.heap.size, 2, none⟩ = some (.int .i64 e.resp) := (hb2.cell (p := ⟨wo.heap.size, 2, none⟩) (by simp)).trans (by go_simp)
              have e5 : w2.cell? ⟨wo.heap.size, 5, none⟩ = some (.int .u64 e.ans.val) := (hb2.cell (p := ⟨wo.heap.size, 5, none⟩) (by simp)).trans (by go_simp)
              have hz1 : w1.heap.size < w2.heap.size := by omega
              have HR2 := hide hBr2
              have HO2 := hide hbo2
              clear hb2 hbo2 hBr2 t0 a0 a1 a2 a3 a4 a5 a6 a7 hgz c0 c1 c2 c3 c4 c5
              go_wp2
              go_loopw [100, 12, 13] (fun i u v wr => ∃ k : Nat, k ≤ es.length ∧ i = .int .i64 k ∧ u = .int .u64 (mineN cs es e q k) ∧ v = .int .u64 (anyN cs es e k) ∧ Hid (Below w2.heap.size w2 wr)) (fun i _ _ _ => es.length - (intOf i).toNat)
              case atStart => exact ⟨0, Nat.zero_le _, rfl, rfl, rfl, hide (Below.refl _ _)⟩
              case round =>
                obtain ⟨k, hk, rfl, rfl, rfl, hD⟩ := hrel
                obtain ⟨wi, rfl⟩ : ∃ wi : World, wi = wr := ⟨_, rfl⟩
                have hzi : w2.heap.size ≤ wi.heap.size := hD.out.size
                by_cases hlt2 : k < es.length
                · obtain ⟨y, hy⟩ : ∃ y, es[k]? = some y := ⟨_, List.getElem?_eq_getElem hlt2⟩
                  have hbi : Below wo.heap.size wo wi := HO2.out.trans (hD.out.mono HO2.out.size)
                  obtain ⟨gy, hgy, hgz2, z, hz, b0, b1, b2, b3, b4, b5, b6, b7⟩ := ev_at ((HEV.out.below HBW.out).below hbi) hy
                  cases hgy
                  have hk2 : (k : Int) < (es.length : Int) := by omega
                  have hLy := (HHA.out.2 k y hy).1
                  have i0 : wi.cell? ⟨w1.heap.size, 0, none⟩ = some (.slice (some ⟨ge, 0, none⟩) es.length ce) := (hD.out.cell (p := ⟨w1.heap.size, 0, none⟩) hz1).trans r0
                  have hby : Below wi.heap.size wi (wi.alloc (.cells #[.int .i64 y.call, .int .i64 y.inv, .int .i64 y.resp, .int .i64 y.steps, .int .i64 y.ans.err, .int .u64 y.ans.val, .slice z.lA z.lN z.lC, .slice z.kA z.kN z.kC] 41)) := (Below.refl _ wi).alloc (Nat.le_refl _) _
                  have hbj := HB0.out.trans (hbi.mono HB0.out.size)
                  obtain ⟨w3, hw3⟩ : ∃ X, X = wi.alloc (.cells #[.int .i64 y.call, .int .i64 y.inv, .int .i64 y.resp, .int .i64 y.steps, .int .i64 y.ans.err, .int .u64 y.ans.val, .slice z.lA z.lN z.lC, .slice z.kA z.kN z.kC] 41) := ⟨_, rfl⟩
                  rw [← hw3] at hby
                  have hz3 : wi.heap.size < w3.heap.size := by rw [hw3]; simp
                  have f0 : w3.cell? ⟨wi.heap.size, 0, none⟩ = some (.int .i64 y.call) := by rw [hw3]; go_simp
                  have f1 : w3.cell? ⟨wi.heap.size, 1, none⟩ = some (.int .i64 y.inv) := by rw [hw3]; go_simp
                  have f4 : w3.cell? ⟨wi.heap.size, 4, none⟩ = some (.int .i64 y.ans.err) := by rw [hw3]; go_simp
                  have HD3 := hide (hD.out.trans (hby.mono hD.out.size))
                  have x0 : w3.cell? ⟨wo.heap.size, 0, none⟩ = some (.int .i64 e.call) := (HD3.out.cell (p := ⟨wo.heap.size, 0, none⟩) hz2).trans e0
                  have x2 : w3.cell? ⟨wo.heap.size, 2, none⟩ = some (.int .i64 e.resp) := (HD3.out.cell (p := ⟨wo.heap.size, 2, none⟩) hz2).trans e2
                  have hzo : wo.heap.size < w3.heap.size := by omega
                  have hL := (HHA.out.2 q e HE.out).1
                  obtain ⟨A', c', u1, _, _, g3⟩ := HC.out.below (hbj.trans (hby.mono hbj.size)) (Nat.le_refl _)
                  obtain ⟨bb', oo', u2, hbb', hce⟩ := g3 _ _ (call_get hL)
                  obtain ⟨bb2, oo2, u3, _, hcy⟩ := g3 _ _ (call_get hLy)
                  rw [HM.out] at u1
                  cases u1
                  cases u2
                  cases u3
                  obtain ⟨c0, _, _, _, _, _⟩ := cl_cells hce
                  obtain ⟨d0, d1, d2, d3, d4, d5⟩ := cl_cells hcy
                  have hLym : (y.call : Int) < (m : Int) := by have := HM.out; omega
                  have hLy0 : ¬ (y.call : Int) < 0 := by omega
                  have hLyg : ¬ (m : Int) ≤ (y.call : Int) := by omega
                  have hya := (HCU.out _ (List.mem_of_getElem? (call_get hLy))).1
                  have hbd := holdsN_bd (e := e) (q := q) (es := es) (cs := cs) (fun y hy => by
                    obtain ⟨k, hk⟩ := List.mem_iff_getElem?.1 hy
                    exact (HCU.out _ (List.mem_of_getElem? (call_get (HHA.out.2 k y hk).1))).1) k
                  have ho1 : bits .or .u64 (anyN cs es e k) (callOf cs y.call).a = orI (anyN cs es e k) (callOf cs y.call).a := u64_or _ _ hbd.1.1 hbd.1.2 hya.1 hya.2
                  have ho2 : bits .or .u64 (mineN cs es e q k) (callOf cs y.call).a = orI (mineN cs es e q k) (callOf cs y.call).a := u64_or _ _ hbd.2.1 hbd.2.2 hya.1 hya.2
                  have HY2 := hide hy
                  have HW3 := hide hw3
                  clear hw3 hz hy hL hLy hby hbi hbj g3 hce hcy hya hbd e2 e5 e0
                  go_upto_region 19 with fail
                  rw [← HW3.out]
                  clear HW3 i0 b0 b1 b2 b3 b4 b5 b6 b7 hgz2
                  by_cases q0 : (callOf cs y.call).obj = 0
                  · have p0 : ((callOf cs y.call).obj != 0) = false := by simpa using q0
                    by_cases q1 : (callOf cs y.call).kind = 0
                    · have p1 : ((callOf cs y.call).kind != 0) = false := by simpa using q1
                      by_cases q2 : y.ans.err = 0
                      · have p2 : (y.ans.err != 0) = false := by simpa using q2
                        by_cases q3 : e.resp < y.inv
                        · have p3 : decide (e.resp < y.inv) = true := by simpa using q3
                          have hno : ¬ selE cs e y := fun h => h.2.2 q3
                          clear q0 q1 q2 ho1 ho2
                          have hns : ¬ selE cs e y := hno
                          have HU1 := hide (show mineN cs es e q (k + 1) = mineN cs es e q k by rw [mineN_succ HY2.out, if_neg (fun h => hns h.1)])
                          have HU2 := hide (show anyN cs es e (k + 1) = anyN cs es e k by rw [anyN_succ HY2.out, if_neg hns])
                          clear hns hno
                          go_wp2
                          go_roundw
                          case rel => exact ⟨k + 1, by omega, by go_num, by rw [HU1.out], by rw [HU2.out], HD3⟩
                          case measure => first | (simp [intOf]; done) | (simp [intOf]; omega)
                        · have p3 : decide (e.resp < y.inv) = false := by simpa using q3
                          have hse : selE cs e y := ⟨⟨q0, q1⟩, q2, q3⟩
                          obtain ⟨Y1, hY1⟩ : ∃ Y1, Y1 = orI (anyN cs es e k) (callOf cs y.call).a := ⟨_, rfl⟩
                          rw [← hY1] at ho1
                          have HU2 := hide (show anyN cs es e (k + 1) = Y1 by rw [anyN_succ HY2.out, if_pos hse, hY1])
                          clear q0 q1 q2 hY1
                          by_cases q4 : k ≤ q
                          · have p4 : (k : Int) ≤ (q : Int) := by omega
                            by_cases q5 : (callOf cs y.call).thread = (callOf cs e.call).thread
                            · have p5 : ((callOf cs y.call).thread == (callOf cs e.call).thread) = true := by simpa using q5
                              obtain ⟨M1, hM1⟩ : ∃ M1, M1 = orI (mineN cs es e q k) (callOf cs y.call).a := ⟨_, rfl⟩
                              rw [← hM1] at ho2
                              have HU1 := hide (show mineN cs es e q (k + 1) = M1 by rw [mineN_succ HY2.out, if_pos ⟨hse, q4, q5⟩, hM1])
                              clear q4 q5 hM1 hse
                              go_wp2
                              refine wp_region_seq (fun Y => Below w3.heap.size w3 Y) (.take 0 <| .take 1 <| .take 2 <| .take 3 <| .take 4 <| .take 5 <| .take 6 <| .take 7 <| .take 8 <| .take 9 <| .take 10 <| .take 11 <| .take 12 <| .take 13 <| .take 14 <| .take 15 <| .take 16 <| .take 17 <| .done) (by kernel_rfl) (by kernel_rfl) (by kernel_rfl) (by (repeat' (first | exact Below.refl _ _ | assumption | refine Below.drew ?_ | refine below_drewN ?_ _ | refine Below.alloc ?_ (by simp <;> omega) _ | refine Below.setCell ?_ (by simp <;> omega) _))) ?_
                              repeat (first | (refine seq_take (v := ?_) rfl (by rfl) ?_ ?_; rotate_left; (focus (intro wS hS; replace hS := bcellc hS; go_simp; exact rfl)); simp only [Act.put, List.setIfInBounds_toArray, List.set_cons_zero, List.set_cons_succ]) | (refine seq_skip rfl (by rfl) ?_; simp only [Act.put, List.setIfInBounds_toArray, List.set_cons_zero, List.set_cons_succ]) | (refine seq_pass rfl (by rfl) (by assumption) ?_; simp only [Act.put, List.setIfInBounds_toArray, List.set_cons_zero, List.set_cons_succ]))
                              refine seq_nil ?_
                              go_wp2
                              go_roundw
                              case rel => exact ⟨k + 1, by omega, by go_num, by rw [HU1.out], by rw [HU2.out], hide HD3.out.drew⟩
                              case measure => first | (simp [intOf]; done) | (simp [intOf]; omega)
                            · have p5 : ((callOf cs y.call).thread == (callOf cs e.call).thread) = false := by simpa using q5
                              have HU1 := hide (show mineN cs es e q (k + 1) = mineN cs es e q k by rw [mineN_succ HY2.out, if_neg (fun h => q5 h.2.2)])
                              clear q4 q5 hse ho2
                              go_wp2
                              refine wp_region_seq (fun Y => Below w3.heap.size w3 Y) (.take 0 <| .take 1 <| .take 2 <| .take 3 <| .take 4 <| .take 5 <| .take 6 <| .take 7 <| .take 8 <| .take 9 <| .take 10 <| .take 11 <| .take 12 <| .take 13 <| .take 14 <| .take 15 <| .take 16 <| .take 17 <| .done) (by kernel_rfl) (by kernel_rfl) (by kernel_rfl) (by (repeat' (first | exact Below.refl _ _ | assumption | refine Below.drew ?_ | refine below_drewN ?_ _ | refine Below.alloc ?_ (by simp <;> omega) _ | refine Below.setCell ?_ (by simp <;> omega) _))) ?_
                              repeat (first | (refine seq_take (v := ?_) rfl (by rfl) ?_ ?_; rotate_left; (focus (intro wS hS; replace hS := bcellc hS; go_simp; exact rfl)); simp only [Act.put, List.setIfInBounds_toArray, List.set_cons_zero, List.set_cons_succ]) | (refine seq_skip rfl (by rfl) ?_; simp only [Act.put, List.setIfInBounds_toArray, List.set_cons_zero, List.set_cons_succ]) | (refine seq_pass rfl (by rfl) (by assumption) ?_; simp only [Act.put, List.setIfInBounds_toArray, List.set_cons_zero, List.set_cons_succ]))
                              refine seq_nil ?_
                              go_wp2
                              go_roundw
                              case rel => exact ⟨k + 1, by omega, by go_num, by rw [HU1.out], by rw [HU2.out], hide HD3.out.drew⟩
                              case measure => first | (simp [intOf]; done) | (simp [intOf]; omega)
                          · have p4 : decide ((k : Int) ≤ (q : Int)) = false := by rw [decide_eq_false_iff_not]; omega
                            have p4' : decide (k ≤ q) = false := by rw [decide_eq_false_iff_not]; omega
                            have HU1 := hide (show mineN cs es e q (k + 1) = mineN cs es e q k by rw [mineN_succ HY2.out, if_neg (fun h => q4 h.2.1)])
                            clear q4 hse ho2
                            go_wp2
                            refine wp_region_seq (fun Y => Below w3.heap.size w3 Y) (.take 0 <| .take 1 <| .take 2 <| .take 3 <| .take 4 <| .take 5 <| .take 6 <| .take 7 <| .take 8 <| .take 9 <| .take 10 <| .take 11 <| .take 12 <| .take 13 <| .take 14 <| .take 15 <| .take 16 <| .take 17 <| .done) (by kernel_rfl) (by kernel_rfl) (by kernel_rfl) (by (repeat' (first | exact Below.refl _ _ | assumption | refine Below.drew ?_ | refine below_drewN ?_ _ | refine Below.alloc ?_ (by simp <;> omega) _ | refine Below.setCell ?_ (by simp <;> omega) _))) ?_
                            repeat (first | (refine seq_take (v := ?_) rfl (by rfl) ?_ ?_; rotate_left; (focus (intro wS hS; replace hS := bcellc hS; go_simp; exact rfl)); simp only [Act.put, List.setIfInBounds_toArray, List.set_cons_zero, List.set_cons_succ]) | (refine seq_skip rfl (by rfl) ?_; simp only [Act.put, List.setIfInBounds_toArray, List.set_cons_zero, List.set_cons_succ]) | (refine seq_pass rfl (by rfl) (by assumption) ?_; simp only [Act.put, List.setIfInBounds_toArray, List.set_cons_zero, List.set_cons_succ]))
                            refine seq_nil ?_
                            go_wp2
                            go_roundw
                            case rel => exact ⟨k + 1, by omega, by go_num, by rw [HU1.out], by rw [HU2.out], hide HD3.out.drew⟩
                            case measure => first | (simp [intOf]; done) | (simp [intOf]; omega)
                      · have p2 : (y.ans.err != 0) = true := by simpa using q2
                        have hno : ¬ selE cs e y := fun h => q2 h.2.1
                        clear q0 q1 q2 ho1 ho2
                        have hns : ¬ selE cs e y := hno
                        have HU1 := hide (show mineN cs es e q (k + 1) = mineN cs es e q k by rw [mineN_succ HY2.out, if_neg (fun h => hns h.1)])
                        have HU2 := hide (show anyN cs es e (k + 1) = anyN cs es e k by rw [anyN_succ HY2.out, if_neg hns])
                        clear hns hno
                        go_wp2
                        go_roundw
                        case rel => exact ⟨k + 1, by omega, by go_num, by rw [HU1.out], by rw [HU2.out], HD3⟩
                        case measure => first | (simp [intOf]; done) | (simp [intOf]; omega)
                    · have p1 : ((callOf cs y.call).kind != 0) = true := by simpa using q1
                      have hno : ¬ selE cs e y := fun h => q1 h.1.2
                      clear q0 q1 ho1 ho2
                      have hns : ¬ selE cs e y := hno
                      have HU1 := hide (show mineN cs es e q (k + 1) = mineN cs es e q k by rw [mineN_succ HY2.out, if_neg (fun h => hns h.1)])
                      have HU2 := hide (show anyN cs es e (k + 1) = anyN cs es e k by rw [anyN_succ HY2.out, if_neg hns])
                      clear hns hno
                      go_wp2
                      go_roundw
                      case rel => exact ⟨k + 1, by omega, by go_num, by rw [HU1.out], by rw [HU2.out], HD3⟩
                      case measure => first | (simp [intOf]; done) | (simp [intOf]; omega)
                  · have p0 : ((callOf cs y.call).obj != 0) = true := by simpa using q0
                    have hno : ¬ selE cs e y := fun h => q0 h.1.1
                    clear q0 ho1 ho2
                    have hns : ¬ selE cs e y := hno
                    have HU1 := hide (show mineN cs es e q (k + 1) = mineN cs es e q k by rw [mineN_succ HY2.out, if_neg (fun h => hns h.1)])
                    have HU2 := hide (show anyN cs es e (k + 1) = anyN cs es e k by rw [anyN_succ HY2.out, if_neg hns])
                    clear hns hno
                    go_wp2
                    go_roundw
                    case rel => exact ⟨k + 1, by omega, by go_num, by rw [HU1.out], by rw [HU2.out], HD3⟩
                    case measure => first | (simp [intOf]; done) | (simp [intOf]; omega)
                · obtain rfl : k = es.length := by omega
                  have HD2 := hide (HR2.out.trans (hD.out.mono HR2.out.size))
                  obtain ⟨w1a, w1b⟩ := holds_and HHA.out HCU.out HE.out (toldB_is.1 HTT.out)
                  have x5 : wi.cell? ⟨wo.heap.size, 5, none⟩ = some (.int .u64 e.ans.val) := (hD.out.cell (p := ⟨wo.heap.size, 5, none⟩) hz2).trans e5
                  have hzo : wo.heap.size < wi.heap.size := by omega
                  clear e0 e2 e5 r0
                  go_wp2
                  go_roundw
                  case rel => exact ⟨q + 1, by omega, by go_num, HD2⟩
                  case measure => first | (simp [intOf]; done) | (simp [intOf]; omega)
          · have dk : ((callOf cs e.call).kind == 1) = false := by simpa using hk1
            clear hs2 hk1
            go_wp2_with fail
            refine HN1.out.mono ?_
            rintro e' w2 ⟨rfl, hb2⟩
            have hz2 : wo.heap.size < w2.heap.size := by have := hb2.size; simp at this; omega
            have hbo2 : Below wo.heap.size wo w2 := HBO.out.trans (hb2.mono HBO.out.size)
            have hBr2 := hB.out.trans (hbo2.mono hB.out.size)
            rcases T with _ | _
            · have HR2 := hide hBr2
              clear hb2 hbo2 hBr2
              go_wp2
              go_roundw
              case rel => exact ⟨q + 1, by omega, by go_num, HR2⟩
              case measure => first | (simp [intOf]; done) | (simp [intOf]; omega)
            · have r0 : w2.cell? ⟨w1.heap.size, 0, none⟩ = some (.slice (some ⟨ge, 0, none⟩) es.length ce) := (hbo2.cell (p := ⟨w1.heap.size, 0, none⟩) hzr).trans t0
              have e0 : w2.cell? ⟨wo.heap.size, 0, none⟩ = some (.int .i64 e.call) := (hb2.cell (p := ⟨wo.heap.size, 0, none⟩) (by simp)).trans (by go_simp)
              have e2 : w2.cell? ⟨wo.heap.size, 2, none⟩ = some (.int .i64 e.resp) := (hb2.cell (p := ⟨wo.heap.size, 2, none⟩) (by simp)).trans (by go_simp)
              have e5 : w2.cell? ⟨wo.heap.size, 5, none⟩ = some (.int .u64 e.ans.val) := (hb2.cell (p := ⟨wo.heap.size, 5, none⟩) (by simp)).trans (by go_simp)
              have hz1 : w1.heap.size < w2.heap.size := by omega
              have HR2 := hide hBr2
              have HO2 := hide hbo2
              clear hb2 hbo2 hBr2 t0 a0 a1 a2 a3 a4 a5 a6 a7 hgz c0 c1 c2 c3 c4 c5
              go_wp2
              go_loopw [100, 12, 13] (fun i u v wr => ∃ k : Nat, k ≤ es.length ∧ i = .int .i64 k ∧ u = .int .u64 (mineN cs es e q k) ∧ v = .int .u64 (anyN cs es e k) ∧ Hid (Below w2.heap.size w2 wr)) (fun i _ _ _ => es.length - (intOf i).toNat)
              case atStart => exact ⟨0, Nat.zero_le _, rfl, rfl, rfl, hide (Below.refl _ _)⟩
              case round =>
                obtain ⟨k, hk, rfl, rfl, rfl, hD⟩ := hrel
                obtain ⟨wi, rfl⟩ : ∃ wi : World, wi = wr := ⟨_, rfl⟩
                have hzi : w2.heap.size ≤ wi.heap.size := hD.out.size
                by_cases hlt2 : k < es.length
                · obtain ⟨y, hy⟩ : ∃ y, es[k]? = some y := ⟨_, List.getElem?_eq_getElem hlt2⟩
                  have hbi : Below wo.heap.size wo wi := HO2.out.trans (hD.out.mono HO2.out.size)
                  obtain ⟨gy, hgy, hgz2, z, hz, b0, b1, b2, b3, b4, b5, b6, b7⟩ := ev_at ((HEV.out.below HBW.out).below hbi) hy
                  cases hgy
                  have hk2 : (k : Int) < (es.length : Int) := by omega
                  have hLy := (HHA.out.2 k y hy).1
                  have i0 : wi.cell? ⟨w1.heap.size, 0, none⟩ = some (.slice (some ⟨ge, 0, none⟩) es.length ce) := (hD.out.cell (p := ⟨w1.heap.size, 0, none⟩) hz1).trans r0
                  have hby : Below wi.heap.size wi (wi.alloc (.cells #[.int .i64 y.call, .int .i64 y.inv, .int .i64 y.resp, .int .i64 y.steps, .int .i64 y.ans.err, .int .u64 y.ans.val, .slice z.lA z.lN z.lC, .slice z.kA z.kN z.kC] 41)) := (Below.refl _ wi).alloc (Nat.le_refl _) _
                  have hbj := HB0.out.trans (hbi.mono HB0.out.size)
                  obtain ⟨w3, hw3⟩ : ∃ X, X = wi.alloc (.cells #[.int .i64 y.call, .int .i64 y.inv, .int .i64 y.resp, .int .i64 y.steps, .int .i64 y.ans.err, .int .u64 y.ans.val, .slice z.lA z.lN z.lC, .slice z.kA z.kN z.kC] 41) := ⟨_, rfl⟩
                  rw [← hw3] at hby
                  have hz3 : wi.heap.size < w3.heap.size := by rw [hw3]; simp
                  have f0 : w3.cell? ⟨wi.heap.size, 0, none⟩ = some (.int .i64 y.call) := by rw [hw3]; go_simp
                  have f1 : w3.cell? ⟨wi.heap.size, 1, none⟩ = some (.int .i64 y.inv) := by rw [hw3]; go_simp
                  have f4 : w3.cell? ⟨wi.heap.size, 4, none⟩ = some (.int .i64 y.ans.err) := by rw [hw3]; go_simp
                  have HD3 := hide (hD.out.trans (hby.mono hD.out.size))
                  have x0 : w3.cell? ⟨wo.heap.size, 0, none⟩ = some (.int .i64 e.call) := (HD3.out.cell (p := ⟨wo.heap.size, 0, none⟩) hz2).trans e0
                  have x2 : w3.cell? ⟨wo.heap.size, 2, none⟩ = some (.int .i64 e.resp) := (HD3.out.cell (p := ⟨wo.heap.size, 2, none⟩) hz2).trans e2
                  have hzo : wo.heap.size < w3.heap.size := by omega
                  have hL := (HHA.out.2 q e HE.out).1
                  obtain ⟨A', c', u1, _, _, g3⟩ := HC.out.below (hbj.trans (hby.mono hbj.size)) (Nat.le_refl _)
                  obtain ⟨bb', oo', u2, hbb', hce⟩ := g3 _ _ (call_get hL)
                  obtain ⟨bb2, oo2, u3, _, hcy⟩ := g3 _ _ (call_get hLy)
                  rw [HM.out] at u1
                  cases u1
                  cases u2
                  cases u3
                  obtain ⟨c0, _, _, _, _, _⟩ := cl_cells hce
                  obtain ⟨d0, d1, d2, d3, d4, d5⟩ := cl_cells hcy
                  have hLym : (y.call : Int) < (m : Int) := by have := HM.out; omega
                  have hLy0 : ¬ (y.call : Int) < 0 := by omega
                  have hLyg : ¬ (m : Int) ≤ (y.call : Int) := by omega
                  have hya := (HCU.out _ (List.mem_of_getElem? (call_get hLy))).1
                  have hbd := holdsN_bd (e := e) (q := q) (es := es) (cs := cs) (fun y hy => by
                    obtain ⟨k, hk⟩ := List.mem_iff_getElem?.1 hy
                    exact (HCU.out _ (List.mem_of_getElem? (call_get (HHA.out.2 k y hk).1))).1) k
                  have ho1 : bits .or .u64 (anyN cs es e k) (callOf cs y.call).a = orI (anyN cs es e k) (callOf cs y.call).a := u64_or _ _ hbd.1.1 hbd.1.2 hya.1 hya.2
                  have ho2 : bits .or .u64 (mineN cs es e q k) (callOf cs y.call).a = orI (mineN cs es e q k) (callOf cs y.call).a := u64_or _ _ hbd.2.1 hbd.2.2 hya.1 hya.2
                  have HY2 := hide hy
                  have HW3 := hide hw3
                  clear hw3 hz hy hL hLy hby hbi hbj g3 hce hcy hya hbd e2 e5 e0
                  go_upto_region 19 with fail
                  rw [← HW3.out]
                  clear HW3 i0 b0 b1 b2 b3 b4 b5 b6 b7 hgz2
                  by_cases q0 : (callOf cs y.call).obj = 0
                  · have p0 : ((callOf cs y.call).obj != 0) = false := by simpa using q0
                    by_cases q1 : (callOf cs y.call).kind = 0
                    · have p1 : ((callOf cs y.call).kind != 0) = false := by simpa using q1
                      by_cases q2 : y.ans.err = 0
                      · have p2 : (y.ans.err != 0) = false := by simpa using q2
                        by_cases q3 : e.resp < y.inv
                        · have p3 : decide (e.resp < y.inv) = true := by simpa using q3
                          have hno : ¬ selE cs e y := fun h => h.2.2 q3
                          clear q0 q1 q2 ho1 ho2
                          have hns : ¬ selE cs e y := hno
                          have HU1 := hide (show mineN cs es e q (k + 1) = mineN cs es e q k by rw [mineN_succ HY2.out, if_neg (fun h => hns h.1)])
                          have HU2 := hide (show anyN cs es e (k + 1) = anyN cs es e k by rw [anyN_succ HY2.out, if_neg hns])
                          clear hns hno
                          go_wp2
                          go_roundw
                          case rel => exact ⟨k + 1, by omega, by go_num, by rw [HU1.out], by rw [HU2.out], HD3⟩
                          case measure => first | (simp [intOf]; done) | (simp [intOf]; omega)
                        · have p3 : decide (e.resp < y.inv) = false := by simpa using q3
                          have hse : selE cs e y := ⟨⟨q0, q1⟩, q2, q3⟩
                          obtain ⟨Y1, hY1⟩ : ∃ Y1, Y1 = orI (anyN cs es e k) (callOf cs y.call).a := ⟨_, rfl⟩
                          rw [← hY1] at ho1
                          have HU2 := hide (show anyN cs es e (k + 1) = Y1 by rw [anyN_succ HY2.out, if_pos hse, hY1])
                          clear q0 q1 q2 hY1
                          by_cases q4 : k ≤ q
                          · have p4 : (k : Int) ≤ (q : Int) := by omega
                            by_cases q5 : (callOf cs y.call).thread = (callOf cs e.call).thread
                            · have p5 : ((callOf cs y.call).thread == (callOf cs e.call).thread) = true := by simpa using q5
                              obtain ⟨M1, hM1⟩ : ∃ M1, M1 = orI (mineN cs es e q k) (callOf cs y.call).a := ⟨_, rfl⟩
                              rw [← hM1] at ho2
                              have HU1 := hide (show mineN cs es e q (k + 1) = M1 by rw [mineN_succ HY2.out, if_pos ⟨hse, q4, q5⟩, hM1])
                              clear q4 q5 hM1 hse
                              go_wp2
                              refine wp_region_seq (fun Y => Below w3.heap.size w3 Y) (.take 0 <| .take 1 <| .take 2 <| .take 3 <| .take 4 <| .take 5 <| .take 6 <| .take 7 <| .take 8 <| .take 9 <| .take 10 <| .take 11 <| .take 12 <| .take 13 <| .take 14 <| .take 15 <| .take 16 <| .take 17 <| .done) (by kernel_rfl) (by kernel_rfl) (by kernel_rfl) (by (repeat' (first | exact Below.refl _ _ | assumption | refine Below.drew ?_ | refine below_drewN ?_ _ | refine Below.alloc ?_ (by simp <;> omega) _ | refine Below.setCell ?_ (by simp <;> omega) _))) ?_
                              repeat (first | (refine seq_take (v := ?_) rfl (by rfl) ?_ ?_; rotate_left; (focus (intro wS hS; replace hS := bcellc hS; go_simp; exact rfl)); simp only [Act.put, List.setIfInBounds_toArray, List.set_cons_zero, List.set_cons_succ]) | (refine seq_skip rfl (by rfl) ?_; simp only [Act.put, List.setIfInBounds_toArray, List.set_cons_zero, List.set_cons_succ]) | (refine seq_pass rfl (by rfl) (by assumption) ?_; simp only [Act.put, List.setIfInBounds_toArray, List.set_cons_zero, List.set_cons_succ]))
                              refine seq_nil ?_
                              go_wp2
                              go_roundw
                              case rel => exact ⟨k + 1, by omega, by go_num, by rw [HU1.out], by rw [HU2.out], hide HD3.out.drew⟩
                              case measure => first | (simp [intOf]; done) | (simp [intOf]; omega)
                            · have p5 : ((callOf cs y.call).thread == (callOf cs e.call).thread) = false := by simpa using q5
                              have HU1 := hide (show mineN cs es e q (k + 1) = mineN cs es e q k by rw [mineN_succ HY2.out, if_neg (fun h => q5 h.2.2)])
                              clear q4 q5 hse ho2
                              go_wp2
                              refine wp_region_seq (fun Y => Below w3.heap.size w3 Y) (.take 0 <| .take 1 <| .take 2 <| .take 3 <| .take 4 <| .take 5 <| .take 6 <| .take 7 <| .take 8 <| .take 9 <| .take 10 <| .take 11 <| .take 12 <| .take 13 <| .take 14 <| .take 15 <| .take 16 <| .take 17 <| .done) (by kernel_rfl) (by kernel_rfl) (by kernel_rfl) (by (repeat' (first | exact Below.refl _ _ | assumption | refine Below.drew ?_ | refine below_drewN ?_ _ | refine Below.alloc ?_ (by simp <;> omega) _ | refine Below.setCell ?_ (by simp <;> omega) _))) ?_
                              repeat (first | (refine seq_take (v := ?_) rfl (by rfl) ?_ ?_; rotate_left; (focus (intro wS hS; replace hS := bcellc hS; go_simp; exact rfl)); simp only [Act.put, List.setIfInBounds_toArray, List.set_cons_zero, List.set_cons_succ]) | (refine seq_skip rfl (by rfl) ?_; simp only [Act.put, List.setIfInBounds_toArray, List.set_cons_zero, List.set_cons_succ]) | (refine seq_pass rfl (by rfl) (by assumption) ?_; simp only [Act.put, List.setIfInBounds_toArray, List.set_cons_zero, List.set_cons_succ]))
                              refine seq_nil ?_
                              go_wp2
                              go_roundw
                              case rel => exact ⟨k + 1, by omega, by go_num, by rw [HU1.out], by rw [HU2.out], hide HD3.out.drew⟩
                              case measure => first | (simp [intOf]; done) | (simp [intOf]; omega)
                          · have p4 : decide ((k : Int) ≤ (q : Int)) = false := by rw [decide_eq_false_iff_not]; omega
                            have p4' : decide (k ≤ q) = false := by rw [decide_eq_false_iff_not]; omega
                            have HU1 := hide (show mineN cs es e q (k + 1) = mineN cs es e q k by rw [mineN_succ HY2.out, if_neg (fun h => q4 h.2.1)])
                            clear q4 hse ho2
                            go_wp2
                            refine wp_region_seq (fun Y => Below w3.heap.size w3 Y) (.take 0 <| .take 1 <| .take 2 <| .take 3 <| .take 4 <| .take 5 <| .take 6 <| .take 7 <| .take 8 <| .take 9 <| .take 10 <| .take 11 <| .take 12 <| .take 13 <| .take 14 <| .take 15 <| .take 16 <| .take 17 <| .done) (by kernel_rfl) (by kernel_rfl) (by kernel_rfl) (by (repeat' (first | exact Below.refl _ _ | assumption | refine Below.drew ?_ | refine below_drewN ?_ _ | refine Below.alloc ?_ (by simp <;> omega) _ | refine Below.setCell ?_ (by simp <;> omega) _))) ?_
                            repeat (first | (refine seq_take (v := ?_) rfl (by rfl) ?_ ?_; rotate_left; (focus (intro wS hS; replace hS := bcellc hS; go_simp; exact rfl)); simp only [Act.put, List.setIfInBounds_toArray, List.set_cons_zero, List.set_cons_succ]) | (refine seq_skip rfl (by rfl) ?_; simp only [Act.put, List.setIfInBounds_toArray, List.set_cons_zero, List.set_cons_succ]) | (refine seq_pass rfl (by rfl) (by assumption) ?_; simp only [Act.put, List.setIfInBounds_toArray, List.set_cons_zero, List.set_cons_succ]))
                            refine seq_nil ?_
                            go_wp2
                            go_roundw
                            case rel => exact ⟨k + 1, by omega, by go_num, by rw [HU1.out], by rw [HU2.out], hide HD3.out.drew⟩
                            case measure => first | (simp [intOf]; done) | (simp [intOf]; omega)
                      · have p2 : (y.ans.err != 0) = true := by simpa using q2
                        have hno : ¬ selE cs e y := fun h => q2 h.2.1
                        clear q0 q1 q2 ho1 ho2
                        have hns : ¬ selE cs e y := hno
                        have HU1 := hide (show mineN cs es e q (k + 1) = mineN cs es e q k by rw [mineN_succ HY2.out, if_neg (fun h => hns h.1)])
                        have HU2 := hide (show anyN cs es e (k + 1) = anyN cs es e k by rw [anyN_succ HY2.out, if_neg hns])
                        clear hns hno
                        go_wp2
                        go_roundw
                        case rel => exact ⟨k + 1, by omega, by go_num, by rw [HU1.out], by rw [HU2.out], HD3⟩
                        case measure => first | (simp [intOf]; done) | (simp [intOf]; omega)
                    · have p1 : ((callOf cs y.call).kind != 0) = true := by simpa using q1
                      have hno : ¬ selE cs e y := fun h => q1 h.1.2
                      clear q0 q1 ho1 ho2
                      have hns : ¬ selE cs e y := hno
                      have HU1 := hide (show mineN cs es e q (k + 1) = mineN cs es e q k by rw [mineN_succ HY2.out, if_neg (fun h => hns h.1)])
                      have HU2 := hide (show anyN cs es e (k + 1) = anyN cs es e k by rw [anyN_succ HY2.out, if_neg hns])
                      clear hns hno
                      go_wp2
                      go_roundw
                      case rel => exact ⟨k + 1, by omega, by go_num, by rw [HU1.out], by rw [HU2.out], HD3⟩
                      case measure => first | (simp [intOf]; done) | (simp [intOf]; omega)
                  · have p0 : ((callOf cs y.call).obj != 0) = true := by simpa using q0
                    have hno : ¬ selE cs e y := fun h => q0 h.1.1
                    clear q0 ho1 ho2
                    have hns : ¬ selE cs e y := hno
                    have HU1 := hide (show mineN cs es e q (k + 1) = mineN cs es e q k by rw [mineN_succ HY2.out, if_neg (fun h => hns h.1)])
                    have HU2 := hide (show anyN cs es e (k + 1) = anyN cs es e k by rw [anyN_succ HY2.out, if_neg hns])
                    clear hns hno
                    go_wp2
                    go_roundw
                    case rel => exact ⟨k + 1, by omega, by go_num, by rw [HU1.out], by rw [HU2.out], HD3⟩
                    case measure => first | (simp [intOf]; done) | (simp [intOf]; omega)
                · obtain rfl : k = es.length := by omega
                  have HD2 := hide (HR2.out.trans (hD.out.mono HR2.out.size))
                  obtain ⟨w1a, w1b⟩ := holds_and HHA.out HCU.out HE.out (toldB_is.1 HTT.out)
                  have x5 : wi.cell? ⟨wo.heap.size, 5, none⟩ = some (.int .u64 e.ans.val) := (hD.out.cell (p := ⟨wo.heap.size, 5, none⟩) hz2).trans e5
                  have hzo : wo.heap.size < wi.heap.size := by omega
                  clear e0 e2 e5 r0
                  go_wp2
                  go_roundw
                  case rel => exact ⟨q + 1, by omega, by go_num, HD2⟩
                  case measure => first | (simp [intOf]; done) | (simp [intOf]; omega)
        · obtain rfl : q = es.length := by omega
          go_wp2_with fail
          refine (laBothW _).mono ?_
          rintro e w3 ⟨rfl, hb3⟩
          have HB3 := hide hb3
          clear hb3
          go_wp2
          go_ret
          exact ⟨rfl, (HQ0.out.trans ((HB0.out.trans (HB3.out.mono HB0.out.size)).mono HQ0.out.size))⟩
    · have d0 : (E != 0) = true := by simpa using h0
      have HE := hide h0
      have HN := hide N
      have HC := hide h'
      clear hE hb h' hp' hcu h0 N
      go_enter Try.func8, Try.ntmps8
      go_wp2_with fail
      refine N0.mono ?_
      rintro e w0 ⟨rfl, hw0⟩
      have HQ0 : Hid (Below w.heap.size w w0) := hide (by rw [hw0]; exact HQ.out)
      have N := HN.out
      rw [← hw0] at N HC HY
      obtain ⟨y0, y1, yz⟩ := HY.out
      clear hw0 N0 HN HQ HY
      go_wp2_with fail
      refine N.mono ?_
      rintro e w1 (⟨_, rfl, hb⟩ | ⟨h, _⟩)
      rotate_left
      · exact absurd h HE.out
      have HB1 := hide hb
      clear hb N
      unfold zeroV
      have N1 := noneZero (w1.alloc zeroRep)
      unfold zeroV zeroRep at N1
      go_wp2_with fail
      refine N1.mono ?_
      rintro e w2 ⟨rfl, hb2⟩
      have HB2 := hide hb2
      clear hb2 N1
      go_wp2_with fail
      refine (laBothW _).mono ?_
      rintro e w3 ⟨rfl, hb3⟩
      have HB3 := hide hb3
      clear hb3
      go_wp2
      go_ret
      have hb4 := HB1.out.alloc HB1.out.size zeroRep
      have hb5 := hb4.trans (HB2.out.mono hb4.size)
      have hb6 := hb5.trans (HB3.out.mono hb5.size)
      exact ⟨rfl, HQ0.out.trans (hb6.mono HQ0.out.size)⟩
  · clear hb h' hp' hcu N
    go_enter Try.func8, Try.ntmps8
    go_wp2_with fail
    refine N0.mono ?_
    rintro e w0 ⟨rfl, hw0⟩
    have HQ0 : Hid (Below w.heap.size w w0) := hide (by rw [hw0]; exact HQ.out)
    clear hw0
    go_wp2_with fail
    refine (laBothW _).mono ?_
    rintro e w3 ⟨rfl, hb3⟩
    have HB3 := hide hb3
    clear hb3
    go_wp2
    go_ret
    exact ⟨rfl, HQ0.out.trans (HB3.out.mono HQ0.out.size)⟩
end Go.Proofs.Ytlfingcmekifkaa
