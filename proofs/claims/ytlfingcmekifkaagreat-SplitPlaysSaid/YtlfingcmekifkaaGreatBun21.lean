import Derived.Test.YtlfingcmekifkaaGreatRt22
import Derived.Test.YtlfingcmekifkaaGreatBun20
import Derived.Test.YtlfingcmekifkaaGreatBun2
import Derived.Test.YtlfingcmekifkaaGreatBun9
namespace Go.Proofs.YtlfingcmekifkaaGreat
open Go.RowKit
theorem zero_rep (w : World) : (zeroValue 32).run Tryz.prog w = .ok (.agg #[.slice none 0 0, .slice none 0 0, .int .i64 0, .int .i64 0, .int .i64 0, .int .i64 0, .int .i64 0, .int .i64 0, .int .i64 0]) w := by kernel_rfl
set_option maxRecDepth 100000 in
set_option maxHeartbeats 2000000 in
theorem plainLogBad {n : Int} {As : Option Addr} {ns cs0 : Nat} {A : Option Addr} {m c : Nat} {cs : List Cl} {Ap : Option Addr} {np cp : Nat} {E : Int} {w : World} (h : SlCl w (.slice A m c) cs) (hm : cs.length = m) (hE : chkE n cs np = E) (h0 : E ≠ 0) :
    Calls Tryz.prog 25 #[.int .i64 n, .slice As ns cs0, .slice A m c, .slice Ap np cp] w fun e w' => e = .returned (.tuple #[zeroV, .slice none 0 0, .int .i64 E]) ∧ Below w.heap.size w w' := by
  have N0 := plainWrong n A m c cs Ap np cp (w.alloc zeroRep) (h.alloc _) hm
  rw [hE] at N0
  have hzr := zero_rep
  have d0 : (E != 0) = true := by simpa using h0
  unfold zeroRep at N0
  unfold zeroV
  clear h hm hE
  go_enter Tryz.func25, Tryz.ntmps25
  go_wp2_with fail
  refine N0.mono ?_
  rintro e w1 ⟨rfl, rfl⟩
  go_wp2
  refine bodyPost_ret (v := .tuple #[.agg #[.slice none 0 0, .slice none 0 0, .int .i64 0, .int .i64 0, .int .i64 0, .int .i64 0, .int .i64 0, .int .i64 0, .int .i64 0], .slice none 0 0, .int .i64 E]) (by simp [results, Tryz.results25, go_sem]) rfl ⟨rfl, ?_⟩
  (repeat' (first | with_reducible assumption | with_reducible exact Below.refl _ _ | with_reducible refine Below.drew ?_ | with_reducible refine below_drewN ?_ _ | with_reducible refine Below.alloc ?_ ?_ _ | with_reducible refine Below.setCell ?_ ?_ _ | omega | (simp; done) | (simp; omega)))
set_option maxRecDepth 100000 in
set_option maxHeartbeats 2000000 in
theorem plainPlayOf {n : Int} {As : Option Addr} {ns cs0 : Nat} {A : Option Addr} {m c : Nat} {Ap : Option Addr} {np cp : Nat} {E : Int} {w : World} (N0 : Calls Tryz.prog 25 #[.int .i64 n, .slice As ns cs0, .slice A m c, .slice Ap np cp] (w.alloc zeroRep) fun e w' => e = .returned (.tuple #[zeroV, .slice none 0 0, .int .i64 E]) ∧ Below (w.alloc zeroRep).heap.size (w.alloc zeroRep) w') :
    Calls Tryz.prog 11 #[.int .i64 n, .slice As ns cs0, .slice A m c, .slice Ap np cp] w fun e w' => e = .returned (.tuple #[zeroV, .int .i64 E]) ∧ Below w.heap.size w w' := by
  have hb0 : Below w.heap.size w (w.alloc zeroRep) := (Below.refl _ _).alloc (Nat.le_refl _) _
  have hz0 : w.heap.size < (w.alloc zeroRep).heap.size := by simp
  have hr0 : (w.alloc zeroRep).heap[w.heap.size]? = some zeroRep := heap_alloc_new _ _
  have HB0 := hide hb0
  have HZ0 := hide hz0
  have HR0 := hide hr0
  clear hb0 hz0 hr0
  unfold zeroRep zeroV at N0
  unfold zeroRep at HR0 HB0 HZ0
  unfold zeroV
  go_enter Tryz.func11, Tryz.ntmps11
  go_wp2_with fail
  refine N0.mono ?_
  rintro e w1 ⟨rfl, hb⟩
  have hr1 := (hb.block _ HZ0.out).trans HR0.out
  have hth : (w1.alloc (.cells #[.slice none 0 0, .slice none 0 0, .int .i64 0, .int .i64 0, .int .i64 0, .int .i64 0, .int .i64 0, .int .i64 0, .int .i64 0] 32)).there w.heap.size 0 ([.slice none 0 0, .slice none 0 0, .int .i64 0, .int .i64 0, .int .i64 0, .int .i64 0, .int .i64 0, .int .i64 0, .int .i64 0] : List Value).length := zero_there ((Below.heap_alloc _ _ _ (obj_lt hr1)).trans hr1) _ rfl
  have HB := hide (HB0.out.trans (hb.mono HB0.out.size))
  have HTH := hide hth
  clear hb hr1 hth
  go_wp2_with (refine wpList_store_mid rfl 32 (.tmp 8) (.tmp 22) rfl w.heap.size 0 ([.slice none 0 0, .slice none 0 0, .int .i64 0, .int .i64 0, .int .i64 0, .int .i64 0, .int .i64 0, .int .i64 0, .int .i64 0] : List Value).toArray (by rfl) (by rfl) HTH.out (by kernel_rfl) (by kernel_rfl) ?_)
  have hRS := World.rangeAt_setCells_same (w1.alloc (.cells #[.slice none 0 0, .slice none 0 0, .int .i64 0, .int .i64 0, .int .i64 0, .int .i64 0, .int .i64 0, .int .i64 0, .int .i64 0] 32)) w.heap.size 0 ([.slice none 0 0, .slice none 0 0, .int .i64 0, .int .i64 0, .int .i64 0, .int .i64 0, .int .i64 0, .int .i64 0, .int .i64 0] : List Value) HTH.out
  have hld := run_loadVar_mid (P := Tryz.prog) ((w1.alloc (.cells #[.slice none 0 0, .slice none 0 0, .int .i64 0, .int .i64 0, .int .i64 0, .int .i64 0, .int .i64 0, .int .i64 0, .int .i64 0] 32)).setCells w.heap.size 0 ([.slice none 0 0, .slice none 0 0, .int .i64 0, .int .i64 0, .int .i64 0, .int .i64 0, .int .i64 0, .int .i64 0, .int .i64 0] : List Value)) w.heap.size 0 32 ([.slice none 0 0, .slice none 0 0, .int .i64 0, .int .i64 0, .int .i64 0, .int .i64 0, .int .i64 0, .int .i64 0, .int .i64 0] : List Value) _ hRS Tryz.underlying32 rfl (by kernel_rfl)
  refine bodyPost_ret (v := .tuple #[.agg #[.slice none 0 0, .slice none 0 0, .int .i64 0, .int .i64 0, .int .i64 0, .int .i64 0, .int .i64 0, .int .i64 0, .int .i64 0], .int .i64 E]) (by simp [results, Tryz.results11, hld, asAddr]) rfl ⟨rfl, ?_⟩
  exact (keep_setCells (K := fun k => k < w.heap.size) (by simp) _ _ ((Keep.of_below (K := fun k => k < w.heap.size) HB.out (fun k hk => hk)).alloc (fun k hk => Nat.lt_of_lt_of_le hk HB.out.size) _)).below (fun k hk => hk)
end Go.Proofs.YtlfingcmekifkaaGreat

namespace Go.Proofs.YtlfingcmekifkaaGreat
open Go.RowKit
def LogPost (evs : List Ep) (m : Mm) (now idle : Int) (w : World) (e : Ending) (w' : World) : Prop :=
  ∃ ev lg wd B Mu, e = .returned (.tuple #[repV ev wd m now idle, lg, .int .i64 0]) ∧ EvsAt w' B Mu ev evs ∧ w.heap.size ≤ B ∧ (∀ k, k < w.heap.size → Mu k) ∧ WRow w' 0 wd m.words ∧ Below w.heap.size w w'
def RPlayPost (evs : List Ep) (m : Mm) (now idle : Int) (w : World) (e : Ending) (w' : World) : Prop :=
  ∃ ev B Mu Aw nw cw, e = .returned (.tuple #[repV ev (.slice Aw nw cw) m now idle, .int .i64 0]) ∧ EvsAt w' B Mu ev evs ∧ SlW w' (.slice Aw nw cw) m.words ∧ Below w.heap.size w w'
set_option maxRecDepth 100000 in
set_option maxHeartbeats 2000000 in
theorem plainPlay {n : Int} {As : Option Addr} {ns cs0 : Nat} {A : Option Addr} {m c : Nat} {Ap : Option Addr} {np cp : Nat} {evs : List Ep} {mm : Mm} {now idle : Int} {w : World} (N0 : Calls Tryz.prog 25 #[.int .i64 n, .slice As ns cs0, .slice A m c, .slice Ap np cp] (w.alloc zeroRep) (LogPost evs mm now idle (w.alloc zeroRep))) :
    Calls Tryz.prog 11 #[.int .i64 n, .slice As ns cs0, .slice A m c, .slice Ap np cp] w (RPlayPost evs mm now idle w) := by
  have hb0 : Below w.heap.size w (w.alloc zeroRep) := (Below.refl _ _).alloc (Nat.le_refl _) _
  have hz0 : w.heap.size < (w.alloc zeroRep).heap.size := by simp
  have hr0 : (w.alloc zeroRep).heap[w.heap.size]? = some zeroRep := heap_alloc_new _ _
  have HB0 := hide hb0
  have HZ0 := hide hz0
  have HR0 := hide hr0
  clear hb0 hz0 hr0
  unfold zeroRep at N0
  unfold zeroRep at HR0 HB0 HZ0
  go_enter Tryz.func11, Tryz.ntmps11
  go_wp2_with fail
  refine N0.mono ?_
  rintro e w1 ⟨ev, lg, wd, B, Mu, rfl, hev, hB, hMu, hwd, hb⟩
  obtain ⟨Ae, ce, rfl⟩ : ∃ Ae ce, ev = .slice Ae evs.length ce := by
    obtain ⟨raw, hrow, _⟩ := hev.row
    exact own_slice hrow
  obtain ⟨Aw, cw, rfl⟩ := own_slice hwd
  have hr1 := (hb.block _ HZ0.out).trans HR0.out
  have hth : (w1.alloc (.cells #[.slice Ae evs.length ce, .slice Aw mm.words.length cw, .int .i64 (wrap64 mm.rd), .int .i64 (wrap64 mm.wr), .int .i64 (wrap64 mm.sw), .int .i64 (wrap64 mm.ad), .int .i64 (wrap64 mm.ft), .int .i64 now, .int .i64 idle] 32)).there w.heap.size 0 ([.slice Ae evs.length ce, .slice Aw mm.words.length cw, .int .i64 (wrap64 mm.rd), .int .i64 (wrap64 mm.wr), .int .i64 (wrap64 mm.sw), .int .i64 (wrap64 mm.ad), .int .i64 (wrap64 mm.ft), .int .i64 now, .int .i64 idle] : List Value).length := zero_there ((Below.heap_alloc _ _ _ (obj_lt hr1)).trans hr1) _ rfl
  have HB := hide (HB0.out.trans (hb.mono HB0.out.size))
  have HTH := hide hth
  have HEV := hide hev
  have HWD := hide hwd
  have HMU := hide (hMu w.heap.size HZ0.out)
  have HBZ := hide (Nat.lt_of_lt_of_le HZ0.out hB)
  have HZ1 := hide (obj_lt hr1)
  have hne : ∀ k, (Value.slice Aw mm.words.length cw).ownBlock = some k → k ≠ w.heap.size := by
    intro k hk hkb
    rcases hwd.2 with ⟨e, _⟩ | ⟨g, cap, cur, e, _, hg, _⟩
    · rw [e] at hk; cases hk
    · rw [e] at hk
      have hgk : g = k := Option.some.inj hk
      rw [hgk, hkb, hr1] at hg
      injection hg with hg
      injection hg with _ hg _
      exact absurd hg (by decide)
  have HNE := hide hne
  clear hb hr1 hth hev hwd hMu hB hne
  unfold repV
  go_wp2_with (refine wpList_store_mid rfl 32 (.tmp 8) (.tmp 22) rfl w.heap.size 0 ([.slice Ae evs.length ce, .slice Aw mm.words.length cw, .int .i64 (wrap64 mm.rd), .int .i64 (wrap64 mm.wr), .int .i64 (wrap64 mm.sw), .int .i64 (wrap64 mm.ad), .int .i64 (wrap64 mm.ft), .int .i64 now, .int .i64 idle] : List Value).toArray (by rfl) (by rfl) HTH.out (by kernel_rfl) (by kernel_rfl) ?_)
  have hRS := World.rangeAt_setCells_same (w1.alloc (.cells #[.slice Ae evs.length ce, .slice Aw mm.words.length cw, .int .i64 (wrap64 mm.rd), .int .i64 (wrap64 mm.wr), .int .i64 (wrap64 mm.sw), .int .i64 (wrap64 mm.ad), .int .i64 (wrap64 mm.ft), .int .i64 now, .int .i64 idle] 32)) w.heap.size 0 ([.slice Ae evs.length ce, .slice Aw mm.words.length cw, .int .i64 (wrap64 mm.rd), .int .i64 (wrap64 mm.wr), .int .i64 (wrap64 mm.sw), .int .i64 (wrap64 mm.ad), .int .i64 (wrap64 mm.ft), .int .i64 now, .int .i64 idle] : List Value) HTH.out
  have hld := run_loadVar_mid (P := Tryz.prog) ((w1.alloc (.cells #[.slice Ae evs.length ce, .slice Aw mm.words.length cw, .int .i64 (wrap64 mm.rd), .int .i64 (wrap64 mm.wr), .int .i64 (wrap64 mm.sw), .int .i64 (wrap64 mm.ad), .int .i64 (wrap64 mm.ft), .int .i64 now, .int .i64 idle] 32)).setCells w.heap.size 0 ([.slice Ae evs.length ce, .slice Aw mm.words.length cw, .int .i64 (wrap64 mm.rd), .int .i64 (wrap64 mm.wr), .int .i64 (wrap64 mm.sw), .int .i64 (wrap64 mm.ad), .int .i64 (wrap64 mm.ft), .int .i64 now, .int .i64 idle] : List Value)) w.heap.size 0 32 ([.slice Ae evs.length ce, .slice Aw mm.words.length cw, .int .i64 (wrap64 mm.rd), .int .i64 (wrap64 mm.wr), .int .i64 (wrap64 mm.sw), .int .i64 (wrap64 mm.ad), .int .i64 (wrap64 mm.ft), .int .i64 now, .int .i64 idle] : List Value) _ hRS Tryz.underlying32 rfl (by kernel_rfl)
  have hk : Keep (fun k => k < w1.heap.size ∧ k ≠ w.heap.size) w1 ((w1.alloc (.cells #[.slice Ae evs.length ce, .slice Aw mm.words.length cw, .int .i64 (wrap64 mm.rd), .int .i64 (wrap64 mm.wr), .int .i64 (wrap64 mm.sw), .int .i64 (wrap64 mm.ad), .int .i64 (wrap64 mm.ft), .int .i64 now, .int .i64 idle] 32)).setCells w.heap.size 0 ([.slice Ae evs.length ce, .slice Aw mm.words.length cw, .int .i64 (wrap64 mm.rd), .int .i64 (wrap64 mm.wr), .int .i64 (wrap64 mm.sw), .int .i64 (wrap64 mm.ad), .int .i64 (wrap64 mm.ft), .int .i64 now, .int .i64 idle] : List Value)) := keep_setCells (by simp) _ _ ((Keep.refl _ _).alloc (fun k hk => hk.1) _)
  refine bodyPost_ret (v := .tuple #[.agg #[.slice Ae evs.length ce, .slice Aw mm.words.length cw, .int .i64 (wrap64 mm.rd), .int .i64 (wrap64 mm.wr), .int .i64 (wrap64 mm.sw), .int .i64 (wrap64 mm.ad), .int .i64 (wrap64 mm.ft), .int .i64 now, .int .i64 idle], .int .i64 0]) (by simp [results, Tryz.results11, hld, asAddr]) rfl ⟨.slice Ae evs.length ce, B, Mu, Aw, mm.words.length, cw, rfl, ?_, ?_, ?_⟩
  · refine HEV.out.keep hk (fun j j1 j2 => ⟨j1, fun e => j2 (e ▸ HMU.out)⟩) (fun _ _ h => h) (fun j j1 => ?_)
    obtain ⟨raw, hrow, _⟩ := HEV.out.row
    have h1 := World.ownsRow.lt hrow j j1
    have := HBZ.out
    exact ⟨h1.2, by omega⟩
  · exact wrow_sl (owns_keepV HWD.out hk (fun j j1 => ⟨(World.ownsRow.lt HWD.out j j1).2, HNE.out j j1⟩)) (owns_max HWD.out)
  · exact ((Keep.of_below (K := fun k => k < w.heap.size) HB.out (fun k hk => hk)).trans (hk.mono fun k hk => ⟨Nat.lt_of_lt_of_le hk HB.out.size, by omega⟩)).below (fun k hk => hk)
end Go.Proofs.YtlfingcmekifkaaGreat

namespace Go.Proofs.YtlfingcmekifkaaGreat
open Go.RowKit
set_option maxHeartbeats 1000000 in
theorem ints_any (v1 v2 : Value) (xs ys : List Int) (w : World) (h1 : SlI w v1 xs) (h2 : SlI w v2 ys) :
    Calls Tryz.prog 49 #[v1, v2] w fun e w' => e = .returned (.bool (decide (xs = ys))) ∧ ∃ n, w' = w.drewN n := by
  obtain ⟨A, cA, rfl, a1, a2, a3⟩ := h1
  obtain ⟨B, cB, rfl, b1, b2, b3⟩ := h2
  have hlx : (xs.length : Int) ≤ 9223372036854775807 := by unfold maxLen at a2; omega
  by_cases hl : xs.length = ys.length
  · have hl1 : ((xs.length : Int) != (ys.length : Int)) = false := by simp [hl]
    have hl2 : ((xs.length : Int) == (ys.length : Int)) = true := by simp [hl]
    have HL := hide hl
    clear hl
    obtain ⟨R, hR⟩ : ∃ R, decide (xs = ys) = R := ⟨_, rfl⟩
    have HR := hide hR
    rw [hR]
    clear hR
    go_enter Tryz.func49, Tryz.ntmps49
    go_wp2
    go_loopw [13] (fun i wr => ∃ k : Nat, k ≤ xs.length ∧ i = .int .i64 k ∧ Hid (∀ j, j < k → xs[j]? = ys[j]?) ∧ Hid (∃ n, wr = w.drewN n)) (fun i _ => xs.length - (intOf i).toNat)
    case atStart => exact ⟨0, Nat.zero_le _, rfl, hide (fun j hj => by omega), hide ⟨0, rfl⟩⟩
    case round =>
      obtain ⟨k, hk, rfl, hok, hn⟩ := hrel
      obtain ⟨n, rfl⟩ := hn.out
      clear hn
      by_cases hlt : k < xs.length
      · obtain ⟨x, hx⟩ : ∃ x, xs[k]? = some x := ⟨_, List.getElem?_eq_getElem hlt⟩
        obtain ⟨y, hy⟩ : ∃ y, ys[k]? = some y := ⟨_, List.getElem?_eq_getElem (by have := HL.out; omega)⟩
        obtain ⟨b, o, rfl, hb, hc⟩ := a3 k x hx
        obtain ⟨b', o', rfl, hb', hc'⟩ := b3 k y hy
        have c1 := nt_cell hc
        have c2 := nt_cell hc'
        simp only [Nat.mul_one] at c1 c2
        have q0 : (0 : Int) ≤ (k : Int) := by omega
        have q1 : (k : Int) < (xs.length : Int) := by omega
        have q2 : (k : Int) < (ys.length : Int) := by have := HL.out; omega
        clear a3 b3 hc hc'
        by_cases hxy : x = y
        · have e1 : (x == y) = true := by simp [hxy]
          have e2 : (x != y) = false := by simp [hxy]
          have HN := hide (show xs[k]? = ys[k]? by rw [hx, hy, hxy])
          clear hx hy hxy
          go_wp2
          go_quiet (fail)
          go_wp2
          go_roundw
          case rel => exact ⟨k + 1, by omega, by go_num, hide (fun j hj => by by_cases h : j = k; (subst h; exact HN.out); exact hok.out j (by omega)), hide ⟨_, rfl⟩⟩
          case measure => simp [intOf] <;> omega
        · have e1 : (x == y) = false := by simp [hxy]
          have e2 : (x != y) = true := by simp [hxy]
          have HF : Hid (false = R) := by
            show _ = _
            rw [← HR.out, eq_comm, decide_eq_false_iff_not]
            intro he
            subst he
            rw [hx] at hy
            exact hxy (Option.some.inj hy)
          clear hx hy hxy hok
          go_wp2
          go_quiet (fail)
          go_wp2
          go_ret
          exact ⟨ret_bool HF.out, _, World.drewN_drewN _ _ _⟩
      · go_wp2
        go_ret
        refine ⟨ret_bool ?_, n, rfl⟩
        rw [← HR.out, eq_comm, decide_eq_true_eq]
        exact list_ext_of HL.out (fun j hj => hok.out j (by omega))
  · have hl1 : ((xs.length : Int) != (ys.length : Int)) = true := by simp; omega
    have hl2 : ((xs.length : Int) == (ys.length : Int)) = false := by simp; omega
    have HF : Hid (decide (xs = ys) = false) := by show _ = _; simp; intro he; exact hl (by rw [he])
    rw [HF.out]
    clear hl a3 b3
    go_enter Tryz.func49, Tryz.ntmps49
    go_wp2
    go_ret
    exact ⟨rfl, 0, rfl⟩
end Go.Proofs.YtlfingcmekifkaaGreat

namespace Go.Proofs.YtlfingcmekifkaaGreat
open Go.RowKit
def manyB (c p : Nat) : Bool := (decide (60 < c) && decide (c ≤ 1000)) || (decide (600 < p) && decide (p ≤ 65536)) || decide (1100 < c)
set_option maxRecDepth 100000 in
set_option maxHeartbeats 2000000 in
theorem many_any (A Ap : Option Addr) (m c mp cp : Nat) (w : World) (hm : m ≤ maxLen) (hp : mp ≤ maxLen) :
    Calls Tryz.prog 8 #[.slice A m c, .slice Ap mp cp] w fun e w' => e = .returned (.bool (manyB m mp)) ∧ w' = w := by
  have hm63 : (m : Int) ≤ 9223372036854775807 := by unfold maxLen at hm; omega
  have hp63 : (mp : Int) ≤ 9223372036854775807 := by unfold maxLen at hp; omega
  obtain ⟨R, hR⟩ : ∃ R, manyB m mp = R := ⟨_, rfl⟩
  have HR := hide hR
  rw [hR]
  clear hR
  rcases (by omega : m ≤ 60 ∨ (60 < m ∧ m ≤ 1000) ∨ (1000 < m ∧ m ≤ 1100) ∨ 1100 < m) with h1 | ⟨h1, h2⟩ | ⟨h1, h2⟩ | h1 <;>
  rcases (by omega : mp ≤ 600 ∨ (600 < mp ∧ mp ≤ 65536) ∨ 65536 < mp) with g1 | ⟨g1, g2⟩ | g1
  all_goals
    have d0 : decide ((60 : Int) < (m : Int)) = decide (60 < m) := by simp; omega
    have d1 : decide ((m : Int) ≤ 1000) = decide (m ≤ 1000) := by simp; omega
    have d2 : decide ((600 : Int) < (mp : Int)) = decide (600 < mp) := by simp; omega
    have d3 : decide ((mp : Int) ≤ 65536) = decide (mp ≤ 65536) := by simp; omega
    have d4 : decide ((1100 : Int) < (m : Int)) = decide (1100 < m) := by simp; omega
    rw [show decide (60 < m) = _ by first | exact decide_eq_true (by omega) | exact decide_eq_false (by omega)] at d0
    rw [show decide (m ≤ 1000) = _ by first | exact decide_eq_true (by omega) | exact decide_eq_false (by omega)] at d1
    rw [show decide (600 < mp) = _ by first | exact decide_eq_true (by omega) | exact decide_eq_false (by omega)] at d2
    rw [show decide (mp ≤ 65536) = _ by first | exact decide_eq_true (by omega) | exact decide_eq_false (by omega)] at d3
    rw [show decide (1100 < m) = _ by first | exact decide_eq_true (by omega) | exact decide_eq_false (by omega)] at d4
    have hv := HR.out
    unfold manyB at hv
    go_enter Tryz.func8, Tryz.ntmps8
    go_wp2
    go_ret
    exact ⟨ret_bool (by rw [← hv]; simp <;> omega), rfl⟩
end Go.Proofs.YtlfingcmekifkaaGreat
