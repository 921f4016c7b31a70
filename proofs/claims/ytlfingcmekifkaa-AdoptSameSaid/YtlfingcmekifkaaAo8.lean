/- Agreeing (law 40): AdoptSame, walked. -/
import Derived.Test.YtlfingcmekifkaaBun9
namespace Go.Proofs.Ytlfingcmekifkaa
open Go.RowKit

theorem info_callT : (Try.prog.info? 43).map (fun i => (i.zero, i.size, i.bytes)) = some (some (.agg #[.int .i64 0, .int .i64 0, .int .i64 0, .int .u64 0, .int .u64 0, .int .u64 0]), 6, 48) := by kernel_rfl
def sameC (u : Int) (k : Nat) : List Cl := (List.range k).map fun (t : Nat) => (⟨(t : Int), 0, 0, u, 0, 0⟩ : Cl)
theorem sameC_len (u : Int) (k : Nat) : (sameC u k).length = k := by unfold sameC; simp
theorem sameC_succ (u : Int) (k : Nat) : sameC u (k + 1) = sameC u k ++ [⟨k, 0, 0, u, 0, 0⟩] := by unfold sameC; rw [List.range_succ]; simp
theorem sameC_mem {u : Int} {k : Nat} {c : Cl} (h : c ∈ sameC u k) : 0 ≤ c.thread ∧ c.thread < k ∧ c.obj = 0 ∧ c.kind = 0 ∧ c.a = u ∧ c.b = 0 ∧ c.c = 0 := by
  unfold sameC at h
  obtain ⟨t, ht, rfl⟩ := List.mem_map.1 h
  have := List.mem_range.1 ht
  refine ⟨by show (0 : Int) ≤ t; omega, by show (t : Int) < k; omega, rfl, rfl, rfl, rfl, rfl⟩
theorem sameC_chk {u : Int} {n np : Nat} (hn : 1 ≤ n ∧ n ≤ 16) (hp : np ≤ 2000) : chkE n (sameC u n) np = 0 := by
  have hl := sameC_len u n
  have ha : (sameC u n).all (fun c => decide (0 ≤ c.thread) && decide (c.thread < (n : Int))) = true := by
    rw [List.all_eq_true]
    intro c hc
    obtain ⟨h1, h2, _⟩ := sameC_mem hc
    simp
    omega
  unfold chkE
  rw [if_neg (by omega), if_neg (by omega)]
  unfold wrongE
  rw [if_neg (by omega), if_neg (by omega), if_pos ha]
theorem sameC_call {u : Int} {n i : Nat} (hi : i < n) : callOf (sameC u n) i = ⟨i, 0, 0, u, 0, 0⟩ := by
  unfold callOf sameC
  rw [List.getElem?_map, List.getElem?_range hi]
  rfl
theorem same_law {n : Nat} {u : Int} (hu : 0 ≤ u ∧ u < 2147483648) (picks : List Int) : ∀ (h : Nat) (e : Ep), ((adPlay n (sameC u n) picks).ends adG)[h]? = some e → e.resp ≠ 0 → e.ans.val = 2 * u + 1 := by
  intro h e he hr
  obtain ⟨e0, h0, _, _, e3, _, e5⟩ := ends_get he
  rw [e5]
  refine ad_same (n := n) (u := u) (fun i hi => ?_) (fun c hc => ?_) (fun c hc => (sameC_mem hc).2.2.2.2.1) picks h e0 h0 (by rw [← e3]; exact hr)
  · rw [sameC_len] at hi
    rw [sameC_call hi]
    exact ⟨rfl, rfl, rfl, hu.2⟩
  · obtain ⟨h1, h2, _, _, h3, _⟩ := sameC_mem hc
    exact ⟨h1, h2, by omega⟩
theorem new_call {W : World} {b : Nat} {u0 u1 u2 u3 u4 u5 : Value} {t : TypeId} (h : W.heap[b]? = some (.cells #[u0, u1, u2, u3, u4, u5] t (0, 0))) : ∀ (j : Nat) (u : Value), [u0, u1, u2, u3, u4, u5][j]? = some u → W.cell? ((⟨b, 0, none⟩ : Addr).add j) = some u := by
  intro j u hu
  rw [Addr.add_lit, Nat.zero_add, cell_of_row W b j _ _ _ h]
  simpa using hu
theorem clEnc_len (x : Cl) : (clEnc x).length = 6 := rfl
set_option maxRecDepth 100000 in
set_option maxHeartbeats 2000000 in
theorem law_same (n v : Int) (hv : 0 ≤ v ∧ v < 4294967296) (Ap : Option Addr) (np cp : Nat) (picks : List Int) (w : World) (hp : SlI w (.slice Ap np cp) picks) (hpl : picks.length = np) :
    Calls Try.prog 6 #[.int .i64 n, .int .u32 v, .slice Ap np cp] w fun e w' => e = .returned (.bool true) ∧ Below w.heap.size w w' := by
  by_cases hg : 1 ≤ n ∧ n ≤ 16 ∧ np ≤ 2000
  · obtain ⟨g1, g2, g3⟩ := hg
    obtain ⟨nn, rfl⟩ : ∃ nn : Nat, n = nn := ⟨n.toNat, by omega⟩
    have d0 : decide ((nn : Int) < 1) = false := by simp; omega
    have d1 : decide ((16 : Int) < (nn : Int)) = false := by simp; omega
    have d2 : decide ((2000 : Int) < (np : Int)) = false := by simp; omega
    have hn : 1 ≤ nn ∧ nn ≤ 16 := by omega
    obtain ⟨v0, v1⟩ := hv
    have hq : Int.tdiv v 2 = v / 2 := Int.tdiv_eq_ediv_of_nonneg v0
    have hu : 0 ≤ v / 2 ∧ v / 2 < 2147483648 := by omega
    have HU := hide hu
    have HN := hide hn
    have HP := hide hp
    have HPL := hide hpl
    have hnn : (nn : Int) ≤ 16 := g2
    obtain ⟨j0, hj, hj0, hj1, hj2⟩ := info_parts info_callT
    clear hu hp hpl
    go_enter Try.func6, Try.ntmps6
    go_wp2
    go_loopw [25, 7] (fun i a wr => ∃ k : Nat, k ≤ nn ∧ i = .int .i64 k ∧ Hid (wr.ownsRow w.heap.size 43 6 a k ((sameC (v / 2) k).flatMap clEnc)) ∧ Hid (Below w.heap.size w wr)) (fun i _ _ => nn - (intOf i).toNat)
    case atStart => exact ⟨0, Nat.zero_le _, rfl, hide (World.ownsRow_nil _ _ _ _), hide (Below.refl _ _)⟩
    case round =>
      obtain ⟨k, hk, rfl, hO, hB⟩ := hrel
      by_cases hlt : k < nn
      · have hkk : (k : Int) < (nn : Int) := by omega
        have hO0 := hO.out
        obtain ⟨Aa, ca, rfl⟩ := own_slice hO0
        have hwz := hB.out.size
        go_wp2_with (first
          | (at_builtin; refine wpList_append_own_at _ rfl _ _ 23 rfl w.heap.size 43 j0 (.agg #[.int .i64 0, .int .i64 0, .int .i64 0, .int .u64 0, .int .u64 0, .int .u64 0]) 6 48 Try.underlying23 hj hj0 hj1 hj2 rfl (by decide) _ _ _ rfl (World.ownsRow.alloc hO0 (.cells #[.int .i64 (k : Int), .int .i64 0, .int .i64 0, .int .u64 (v / 2), .int .u64 0, .int .u64 0] 43)) ⟨wr.heap.size, 0, none⟩ 1 1 [.int .i64 (k : Int), .int .i64 0, .int .i64 0, .int .u64 (v / 2), .int .u64 0, .int .u64 0] rfl rfl (new_call (heap_alloc_new wr _)) (by simp [Value.oneCell']) (by unfold maxLen; omega) (by omega) (by simp; omega) ?_; intro v' w5 hown5 hgrow hnil hloc))
        have hrow5 : w5.ownsRow w.heap.size 43 6 v' (k + 1) ((sameC (v / 2) (k + 1)).flatMap clEnc) := by
          rw [sameC_succ, flat_snoc]
          exact hown5
        have hB5 : Below w.heap.size w w5 := (hB.out.alloc hwz _).grown hgrow (by simp; omega) (fun k hk => (World.ownsRow.lt hO.out k hk).1)
        have HR5 := hide hrow5
        have HB5 := hide hB5
        clear hown5 hgrow hnil hloc hrow5 hB5 hO0
        go_roundw
        case rel => exact ⟨k + 1, by omega, by go_num, HR5, HB5⟩
        case measure => first | (simp [intOf]; done) | (simp [intOf]; omega)
      · obtain rfl : k = nn := by omega
        have hO0 := hO.out
        obtain ⟨Aa, ca, rfl⟩ := own_slice hO0
        have hsl : SlCl wr (.slice Aa k ca) (sameC (v / 2) k) := by
          have := sl_of_owns_en clEnc_len (l := sameC (v / 2) k) (by rw [sameC_len]; exact hO0) (by rw [sameC_len]; unfold maxLen; omega)
          exact this
        have hwz := hB.out.size
        have N := adoptPlay k Aa k ca (sameC (v / 2) k) Ap np cp picks wr hsl (sameC_len _ _) (HP.out.below hB.out (Nat.le_refl _)) HPL.out (fun c hc => by
          obtain ⟨_, _, _, _, h1, h2, h3⟩ := sameC_mem hc
          have := HU.out
          unfold ClU
          omega)
        rw [show chkE k (sameC (v / 2) k) picks.length = 0 by rw [HPL.out]; exact sameC_chk HN.out g3, Int.toNat_natCast] at N
        have hlaw := same_law (n := k) HU.out picks
        clear hO0 hsl
        generalize (adPlay k (sameC (v / 2) k) picks).ends adG = es at N hlaw
        generalize (adPlay k (sameC (v / 2) k) picks).lw.mem = mm at N
        generalize (adPlay k (sameC (v / 2) k) picks).lw.now = now at N
        generalize (adPlay k (sameC (v / 2) k) picks).idle = idle at N
        have HL := hide hlaw
        clear hlaw
        go_wp2_with fail
        refine N.mono ?_
        rintro e w1 (⟨h, _⟩ | ⟨_, ev, B, Mu, g, c, rfl, hEv, hBz, hwr, hb⟩)
        · exact absurd rfl h
        obtain ⟨Ae, ce, rfl, hel⟩ := evs_len hEv
        have hb1 : Below w.heap.size w w1 := hB.out.trans (hb.mono hwz)
        have HB1 := hide hb1
        have HEV := hide hEv
        have hel' : (es.length : Int) ≤ 9223372036854775807 := by unfold maxLen at hel; omega
        clear hb1 hb hwr hEv N
        unfold repV
        go_wp2
        go_loopw [49] (fun i wr => ∃ k : Nat, k ≤ es.length ∧ i = .int .i64 k ∧ wr = w1.alloc (.cells #[.slice Ae es.length ce, .slice (some ⟨g, 0, none⟩) mm.words.length c, .int .i64 (wrap64 mm.rd), .int .i64 (wrap64 mm.wr), .int .i64 (wrap64 mm.sw), .int .i64 (wrap64 mm.ad), .int .i64 (wrap64 mm.ft), .int .i64 now, .int .i64 idle] 32)) (fun i _ => es.length - (intOf i).toNat)
        case atStart => exact ⟨0, Nat.zero_le _, rfl, rfl⟩
        case round =>
          obtain ⟨q, hqq, rfl, rfl⟩ := hrel
          by_cases hlt2 : q < es.length
          · obtain ⟨e, he⟩ : ∃ e, es[q]? = some e := ⟨_, List.getElem?_eq_getElem hlt2⟩
            obtain ⟨ge, rfl, hgz, x, hx, a0, a1, a2, a3, a4, a5, _⟩ := ev_at HEV.out he
            have hq2 : (q : Int) < (es.length : Int) := by omega
            have hL := HL.out q e he
            have hm2 : IntKind.u64.wrap (2 * (v / 2)) = 2 * (v / 2) := by rw [IntKind.wrap_u64]; omega
            have hm3 : IntKind.u64.wrap (2 * (v / 2) + 1) = 2 * (v / 2) + 1 := by rw [IntKind.wrap_u64]; omega
            have hm1 : IntKind.u64.wrap (v / 2) = v / 2 := by rw [IntKind.wrap_u64]; omega
            by_cases hr : e.resp = 0
            · rw [hr] at a2
              clear hL hx he
              go_wp2
              go_roundw
              case rel => exact ⟨q + 1, by omega, by go_num, by first | trivial | rfl⟩
              case measure => first | (simp [intOf]; done) | (simp [intOf]; omega)
            · have hr' : ¬ e.resp = 0 := hr
              have dr : (e.resp != 0) = true := by simpa using hr
              rw [hL hr] at a5
              clear hL hx he
              go_wp2
              go_roundw
              case rel => exact ⟨q + 1, by omega, by go_num, by first | trivial | rfl⟩
              case measure => first | (simp [intOf]; done) | (simp [intOf]; omega)
          · obtain rfl : q = es.length := by omega
            have N2 := lateW (w1.alloc (.cells #[.slice Ae es.length ce, .slice (some ⟨g, 0, none⟩) mm.words.length c, .int .i64 (wrap64 mm.rd), .int .i64 (wrap64 mm.wr), .int .i64 (wrap64 mm.sw), .int .i64 (wrap64 mm.ad), .int .i64 (wrap64 mm.ft), .int .i64 now, .int .i64 idle] 32))
            go_wp2_with fail
            refine N2.mono ?_
            rintro e w3 ⟨rfl, hb3⟩
            have HB3 := hide hb3
            clear hb3 N2
            go_wp2
            go_ret
            have hb4 := HB1.out.alloc HB1.out.size (.cells #[.slice Ae es.length ce, .slice (some ⟨g, 0, none⟩) mm.words.length c, .int .i64 (wrap64 mm.rd), .int .i64 (wrap64 mm.wr), .int .i64 (wrap64 mm.sw), .int .i64 (wrap64 mm.ad), .int .i64 (wrap64 mm.ft), .int .i64 now, .int .i64 idle] 32)
            exact ⟨rfl, hb4.trans (HB3.out.mono hb4.size)⟩
  · have N := lateW w
    rcases (by omega : n < 1 ∨ (1 ≤ n ∧ 16 < n) ∨ (1 ≤ n ∧ n ≤ 16 ∧ 2000 < np)) with h | ⟨h, h'⟩ | ⟨h, h', h''⟩
    · have d0 : decide (n < 1) = true := by simpa using h
      clear hg hv hp
      go_enter Try.func6, Try.ntmps6
      go_wp2_with fail
      refine N.mono ?_
      rintro e w1 ⟨rfl, hb⟩
      have HB := hide hb
      clear hb N
      go_wp2
      go_ret
      exact ⟨rfl, HB.out⟩
    · have d0 : decide (n < 1) = false := by simp; omega
      have d1 : decide (16 < n) = true := by simpa using h'
      clear hg hv hp
      go_enter Try.func6, Try.ntmps6
      go_wp2_with fail
      refine N.mono ?_
      rintro e w1 ⟨rfl, hb⟩
      have HB := hide hb
      clear hb N
      go_wp2
      go_ret
      exact ⟨rfl, HB.out⟩
    · have d0 : decide (n < 1) = false := by simp; omega
      have d1 : decide (16 < n) = false := by simp; omega
      have d2 : decide ((2000 : Int) < (np : Int)) = true := by simp; omega
      clear hg hv hp
      go_enter Try.func6, Try.ntmps6
      go_wp2_with fail
      refine N.mono ?_
      rintro e w1 ⟨rfl, hb⟩
      have HB := hide hb
      clear hb N
      go_wp2
      go_ret
      exact ⟨rfl, HB.out⟩
end Go.Proofs.Ytlfingcmekifkaa
