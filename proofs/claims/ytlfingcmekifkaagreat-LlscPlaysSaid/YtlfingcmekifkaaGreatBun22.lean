import Derived.Test.YtlfingcmekifkaaGreatBun21
import Derived.Test.YtlfingcmekifkaaGreatBun1
import Derived.Test.YtlfingcmekifkaaGreatBun9
import Derived.Test.YtlfingcmekifkaaGreatBun20
import Derived.Test.YtlfingcmekifkaaGreatBun18
namespace Go.Proofs.YtlfingcmekifkaaGreat
open Go.RowKit
def LogPost (evs : List Ep) (m : Mm) (now idle : Int) (w : World) (e : Ending) (w' : World) : Prop :=
  ∃ ev lg wd B Mu, e = .returned (.tuple #[repV ev wd m now idle, lg, .int .i64 0]) ∧ EvsAt w' B Mu ev evs ∧ w.heap.size ≤ B ∧ (∀ k, k < w.heap.size → Mu k) ∧ WRow w' 0 wd m.words ∧ Below w.heap.size w w'
def RPlayPost (evs : List Ep) (m : Mm) (now idle : Int) (w : World) (e : Ending) (w' : World) : Prop :=
  ∃ ev B Mu Aw nw cw, e = .returned (.tuple #[repV ev (.slice Aw nw cw) m now idle, .int .i64 0]) ∧ EvsAt w' B Mu ev evs ∧ SlW w' (.slice Aw nw cw) m.words ∧ Below w.heap.size w w'
set_option maxRecDepth 100000 in
set_option maxHeartbeats 2000000 in
theorem plainPlay {n : Int} {As : Option Addr} {ns cs0 : Nat} {A : Option Addr} {m c : Nat} {Ap : Option Addr} {np cp : Nat} {evs : List Ep} {mm : Mm} {now idle : Int} {w : World} (N0 : Calls Tryz.prog 25 #[.int .i64 n, .slice As ns cs0, .slice A m c, .slice Ap np cp] (w.alloc zeroRep) (LogPost evs mm now idle (w.alloc zeroRep))) :
    Calls Tryz.prog 11 #[.int .i64 n, .slice As ns cs0, .slice A m c, .slice Ap np cp] w (RPlayPost evs mm now idle w) := by
  have hb0 : Below w.heap.size w (w.alloc zeroRep) := (Below.refl _ _).alloc (Nat.le_refl _) _
  have hz0 : w.heap.size < (w.alloc zeroRep).heap.size := by simp
  have hr0 : (w.alloc zeroRep).heap[w.heap.size]? = some zeroRep := heap_alloc_new _ _
  have HB0 := hide hb0
  have HZ0 := hide hz0
  have HR0 := hide hr0
  clear hb0 hz0 hr0
  unfold zeroRep at N0
  unfold zeroRep at HR0 HB0 HZ0
  go_enter Tryz.func11, Tryz.ntmps11
  go_wp2_with fail
  refine N0.mono ?_
  rintro e w1 ⟨ev, lg, wd, B, Mu, rfl, hev, hB, hMu, hwd, hb⟩
  obtain ⟨Ae, ce, rfl⟩ : ∃ Ae ce, ev = .slice Ae evs.length ce := by
    obtain ⟨raw, hrow, _⟩ := hev.row
    exact own_slice hrow
  obtain ⟨Aw, cw, rfl⟩ := own_slice hwd
  have hr1 := (hb.block _ HZ0.out).trans HR0.out
  have hth : (w1.alloc (.cells #[.slice Ae evs.length ce, .slice Aw mm.words.length cw, .int .i64 (wrap64 mm.rd), .int .i64 (wrap64 mm.wr), .int .i64 (wrap64 mm.sw), .int .i64 (wrap64 mm.ad), .int .i64 (wrap64 mm.ft), .int .i64 now, .int .i64 idle] 32)).there w.heap.size 0 ([.slice Ae evs.length ce, .slice Aw mm.words.length cw, .int .i64 (wrap64 mm.rd), .int .i64 (wrap64 mm.wr), .int .i64 (wrap64 mm.sw), .int .i64 (wrap64 mm.ad), .int .i64 (wrap64 mm.ft), .int .i64 now, .int .i64 idle] : List Value).length := zero_there ((Below.heap_alloc _ _ _ (obj_lt hr1)).trans hr1) _ rfl
  have HB := hide (HB0.out.trans (hb.mono HB0.out.size))
  have HTH := hide hth
  have HEV := hide hev
  have HWD := hide hwd
  have HMU := hide (hMu w.heap.size HZ0.out)
  have HBZ := hide (Nat.lt_of_lt_of_le HZ0.out hB)
  have HZ1 := hide (obj_lt hr1)
  have hne : ∀ k, (Value.slice Aw mm.words.length cw).ownBlock = some k → k ≠ w.heap.size := by
    intro k hk hkb
    rcases hwd.2 with ⟨e, _⟩ | ⟨g, cap, cur, e, _, hg, _⟩
    · rw [e] at hk; cases hk
    · rw [e] at hk
      have hgk : g = k := Option.some.inj hk
      rw [hgk, hkb, hr1] at hg
      injection hg with hg
      injection hg with _ hg _
      exact absurd hg (by decide)
  have HNE := hide hne
  clear hb hr1 hth hev hwd hMu hB hne
  unfold repV
  go_wp2_with (refine wpList_store_mid rfl 32 (.tmp 8) (.tmp 22) rfl w.heap.size 0 ([.slice Ae evs.length ce, .slice Aw mm.words.length cw, .int .i64 (wrap64 mm.rd), .int .i64 (wrap64 mm.wr), .int .i64 (wrap64 mm.sw), .int .i64 (wrap64 mm.ad), .int .i64 (wrap64 mm.ft), .int .i64 now, .int .i64 idle] : List Value).toArray (by rfl) (by rfl) HTH.out (by kernel_rfl) (by kernel_rfl) ?_)
  have hRS := World.rangeAt_setCells_same (w1.alloc (.cells #[.slice Ae evs.length ce, .slice Aw mm.words.length cw, .int .i64 (wrap64 mm.rd), .int .i64 (wrap64 mm.wr), .int .i64 (wrap64 mm.sw), .int .i64 (wrap64 mm.ad), .int .i64 (wrap64 mm.ft), .int .i64 now, .int .i64 idle] 32)) w.heap.size 0 ([.slice Ae evs.length ce, .slice Aw mm.words.length cw, .int .i64 (wrap64 mm.rd), .int .i64 (wrap64 mm.wr), .int .i64 (wrap64 mm.sw), .int .i64 (wrap64 mm.ad), .int .i64 (wrap64 mm.ft), .int .i64 now, .int .i64 idle] : List Value) HTH.out
  have hld := run_loadVar_mid (P := Tryz.prog) ((w1.alloc (.cells #[.slice Ae evs.length ce, .slice Aw mm.words.length cw, .int .i64 (wrap64 mm.rd), .int .i64 (wrap64 mm.wr), .int .i64 (wrap64 mm.sw), .int .i64 (wrap64 mm.ad), .int .i64 (wrap64 mm.ft), .int .i64 now, .int .i64 idle] 32)).setCells w.heap.size 0 ([.slice Ae evs.length ce, .slice Aw mm.words.length cw, .int .i64 (wrap64 mm.rd), .int .i64 (wrap64 mm.wr), .int .i64 (wrap64 mm.sw), .int .i64 (wrap64 mm.ad), .int .i64 (wrap64 mm.ft), .int .i64 now, .int .i64 idle] : List Value)) w.heap.size 0 32 ([.slice Ae evs.length ce, .slice Aw mm.words.length cw, .int .i64 (wrap64 mm.rd), .int .i64 (wrap64 mm.wr), .int .i64 (wrap64 mm.sw), .int .i64 (wrap64 mm.ad), .int .i64 (wrap64 mm.ft), .int .i64 now, .int .i64 idle] : List Value) _ hRS Tryz.underlying32 rfl (by kernel_rfl)
  have hk : Keep (fun k => k < w1.heap.size ∧ k ≠ w.heap.size) w1 ((w1.alloc (.cells #[.slice Ae evs.length ce, .slice Aw mm.words.length cw, .int .i64 (wrap64 mm.rd), .int .i64 (wrap64 mm.wr), .int .i64 (wrap64 mm.sw), .int .i64 (wrap64 mm.ad), .int .i64 (wrap64 mm.ft), .int .i64 now, .int .i64 idle] 32)).setCells w.heap.size 0 ([.slice Ae evs.length ce, .slice Aw mm.words.length cw, .int .i64 (wrap64 mm.rd), .int .i64 (wrap64 mm.wr), .int .i64 (wrap64 mm.sw), .int .i64 (wrap64 mm.ad), .int .i64 (wrap64 mm.ft), .int .i64 now, .int .i64 idle] : List Value)) := keep_setCells (by simp) _ _ ((Keep.refl _ _).alloc (fun k hk => hk.1) _)
  refine bodyPost_ret (v := .tuple #[.agg #[.slice Ae evs.length ce, .slice Aw mm.words.length cw, .int .i64 (wrap64 mm.rd), .int .i64 (wrap64 mm.wr), .int .i64 (wrap64 mm.sw), .int .i64 (wrap64 mm.ad), .int .i64 (wrap64 mm.ft), .int .i64 now, .int .i64 idle], .int .i64 0]) (by simp [results, Tryz.results11, hld, asAddr]) rfl ⟨.slice Ae evs.length ce, B, Mu, Aw, mm.words.length, cw, rfl, ?_, ?_, ?_⟩
  · refine HEV.out.keep hk (fun j j1 j2 => ⟨j1, fun e => j2 (e ▸ HMU.out)⟩) (fun _ _ h => h) (fun j j1 => ?_)
    obtain ⟨raw, hrow, _⟩ := HEV.out.row
    have h1 := World.ownsRow.lt hrow j j1
    have := HBZ.out
    exact ⟨h1.2, by omega⟩
  · exact wrow_sl (owns_keepV HWD.out hk (fun j j1 => ⟨(World.ownsRow.lt HWD.out j j1).2, HNE.out j j1⟩)) (owns_max HWD.out)
  · exact ((Keep.of_below (K := fun k => k < w.heap.size) HB.out (fun k hk => hk)).trans (hk.mono fun k hk => ⟨Nat.lt_of_lt_of_le hk HB.out.size, by omega⟩)).below (fun k hk => hk)
end Go.Proofs.YtlfingcmekifkaaGreat

namespace Go.Proofs.YtlfingcmekifkaaGreat
open Go.RowKit
set_option maxHeartbeats 1000000 in
theorem ints_any (v1 v2 : Value) (xs ys : List Int) (w : World) (h1 : SlI w v1 xs) (h2 : SlI w v2 ys) :
    Calls Tryz.prog 49 #[v1, v2] w fun e w' => e = .returned (.bool (decide (xs = ys))) ∧ ∃ n, w' = w.drewN n := by
  obtain ⟨A, cA, rfl, a1, a2, a3⟩ := h1
  obtain ⟨B, cB, rfl, b1, b2, b3⟩ := h2
  have hlx : (xs.length : Int) ≤ 9223372036854775807 := by unfold maxLen at a2; omega
  by_cases hl : xs.length = ys.length
  · have hl1 : ((xs.length : Int) != (ys.length : Int)) = false := by simp [hl]
    have hl2 : ((xs.length : Int) == (ys.length : Int)) = true := by simp [hl]
    have HL := hide hl
    clear hl
    obtain ⟨R, hR⟩ : ∃ R, decide (xs = ys) = R := ⟨_, rfl⟩
    have HR := hide hR
    rw [hR]
    clear hR
    go_enter Tryz.func49, Tryz.ntmps49
    go_wp2
    go_loopw [13] (fun i wr => ∃ k : Nat, k ≤ xs.length ∧ i = .int .i64 k ∧ Hid (∀ j, j < k → xs[j]? = ys[j]?) ∧ Hid (∃ n, wr = w.drewN n)) (fun i _ => xs.length - (intOf i).toNat)
    case atStart => exact ⟨0, Nat.zero_le _, rfl, hide (fun j hj => by omega), hide ⟨0, rfl⟩⟩
    case round =>
      obtain ⟨k, hk, rfl, hok, hn⟩ := hrel
      obtain ⟨n, rfl⟩ := hn.out
      clear hn
      by_cases hlt : k < xs.length
      · obtain ⟨x, hx⟩ : ∃ x, xs[k]? = some x := ⟨_, List.getElem?_eq_getElem hlt⟩
        obtain ⟨y, hy⟩ : ∃ y, ys[k]? = some y := ⟨_, List.getElem?_eq_getElem (by have := HL.out; omega)⟩
        obtain ⟨b, o, rfl, hb, hc⟩ := a3 k x hx
        obtain ⟨b', o', rfl, hb', hc'⟩ := b3 k y hy
        have c1 := nt_cell hc
        have c2 := nt_cell hc'
        simp only [Nat.mul_one] at c1 c2
        have q0 : (0 : Int) ≤ (k : Int) := by omega
        have q1 : (k : Int) < (xs.length : Int) := by omega
        have q2 : (k : Int) < (ys.length : Int) := by have := HL.out; omega
        clear a3 b3 hc hc'
        by_cases hxy : x = y
        · have e1 : (x == y) = true := by simp [hxy]
          have e2 : (x != y) = false := by simp [hxy]
          have HN := hide (show xs[k]? = ys[k]? by rw [hx, hy, hxy])
          clear hx hy hxy
          go_wp2
          go_quiet (fail)
          go_wp2
          go_roundw
          case rel => exact ⟨k + 1, by omega, by go_num, hide (fun j hj => by by_cases h : j = k; (subst h; exact HN.out); exact hok.out j (by omega)), hide ⟨_, rfl⟩⟩
          case measure => simp [intOf] <;> omega
        · have e1 : (x == y) = false := by simp [hxy]
          have e2 : (x != y) = true := by simp [hxy]
          have HF : Hid (false = R) := by
            show _ = _
            rw [← HR.out, eq_comm, decide_eq_false_iff_not]
            intro he
            subst he
            rw [hx] at hy
            exact hxy (Option.some.inj hy)
          clear hx hy hxy hok
          go_wp2
          go_quiet (fail)
          go_wp2
          go_ret
          exact ⟨ret_bool HF.out, _, World.drewN_drewN _ _ _⟩
      · go_wp2
        go_ret
        refine ⟨ret_bool ?_, n, rfl⟩
        rw [← HR.out, eq_comm, decide_eq_true_eq]
        exact list_ext_of HL.out (fun j hj => hok.out j (by omega))
  · have hl1 : ((xs.length : Int) != (ys.length : Int)) = true := by simp; omega
    have hl2 : ((xs.length : Int) == (ys.length : Int)) = false := by simp; omega
    have HF : Hid (decide (xs = ys) = false) := by show _ = _; simp; intro he; exact hl (by rw [he])
    rw [HF.out]
    clear hl a3 b3
    go_enter Tryz.func49, Tryz.ntmps49
    go_wp2
    go_ret
    exact ⟨rfl, 0, rfl⟩
end Go.Proofs.YtlfingcmekifkaaGreat

namespace Go.Proofs.YtlfingcmekifkaaGreat
open Go.RowKit
def manyB (c p : Nat) : Bool := (decide (60 < c) && decide (c ≤ 1000)) || (decide (600 < p) && decide (p ≤ 65536)) || decide (1100 < c)
set_option maxRecDepth 100000 in
set_option maxHeartbeats 2000000 in
theorem many_any (A Ap : Option Addr) (m c mp cp : Nat) (w : World) (hm : m ≤ maxLen) (hp : mp ≤ maxLen) :
    Calls Tryz.prog 8 #[.slice A m c, .slice Ap mp cp] w fun e w' => e = .returned (.bool (manyB m mp)) ∧ w' = w := by
  have hm63 : (m : Int) ≤ 9223372036854775807 := by unfold maxLen at hm; omega
  have hp63 : (mp : Int) ≤ 9223372036854775807 := by unfold maxLen at hp; omega
  obtain ⟨R, hR⟩ : ∃ R, manyB m mp = R := ⟨_, rfl⟩
  have HR := hide hR
  rw [hR]
  clear hR
  rcases (by omega : m ≤ 60 ∨ (60 < m ∧ m ≤ 1000) ∨ (1000 < m ∧ m ≤ 1100) ∨ 1100 < m) with h1 | ⟨h1, h2⟩ | ⟨h1, h2⟩ | h1 <;>
  rcases (by omega : mp ≤ 600 ∨ (600 < mp ∧ mp ≤ 65536) ∨ 65536 < mp) with g1 | ⟨g1, g2⟩ | g1
  all_goals
    have d0 : decide ((60 : Int) < (m : Int)) = decide (60 < m) := by simp; omega
    have d1 : decide ((m : Int) ≤ 1000) = decide (m ≤ 1000) := by simp; omega
    have d2 : decide ((600 : Int) < (mp : Int)) = decide (600 < mp) := by simp; omega
    have d3 : decide ((mp : Int) ≤ 65536) = decide (mp ≤ 65536) := by simp; omega
    have d4 : decide ((1100 : Int) < (m : Int)) = decide (1100 < m) := by simp; omega
    rw [show decide (60 < m) = _ by first | exact decide_eq_true (by omega) | exact decide_eq_false (by omega)] at d0
    rw [show decide (m ≤ 1000) = _ by first | exact decide_eq_true (by omega) | exact decide_eq_false (by omega)] at d1
    rw [show decide (600 < mp) = _ by first | exact decide_eq_true (by omega) | exact decide_eq_false (by omega)] at d2
    rw [show decide (mp ≤ 65536) = _ by first | exact decide_eq_true (by omega) | exact decide_eq_false (by omega)] at d3
    rw [show decide (1100 < m) = _ by first | exact decide_eq_true (by omega) | exact decide_eq_false (by omega)] at d4
    have hv := HR.out
    unfold manyB at hv
    go_enter Tryz.func8, Tryz.ntmps8
    go_wp2
    go_ret
    exact ⟨ret_bool (by rw [← hv]; simp <;> omega), rfl⟩
end Go.Proofs.YtlfingcmekifkaaGreat

namespace Go.Proofs.YtlfingcmekifkaaGreat
open Go.RowKit
set_option maxRecDepth 100000 in
set_option maxHeartbeats 2000000 in
theorem answer_self (err val : Int) (A B : Option Addr) (n c m d : Nat) (l : List Int) (w : World) (h : SlW w (.slice A n c) l) (h' : SlW w (.slice B m d) l) :
    Calls Tryz.prog 48 #[.agg #[.int .i64 err, .int .u64 val, .slice A n c], .agg #[.int .i64 err, .int .u64 val, .slice B m d]] w fun e w' => e = .returned (.bool true) ∧ Below w.heap.size w w' := by
  have N0 := fun W h h' => same_any (.slice A n c) (.slice B m d) l l W h h'
  have H := hide h
  have H' := hide h'
  clear h h'
  go_enter Tryz.func48, Tryz.ntmps48
  go_wp2_with fail
  refine (N0 _ ((H.out.alloc _).alloc _) ((H'.out.alloc _).alloc _)).mono ?_
  rintro e w1 ⟨rfl, k, rfl⟩
  go_wp2
  go_ret
  exact ⟨ret_bool (by simp), by (repeat' (first | with_reducible assumption | with_reducible exact Below.refl _ _ | with_reducible refine Below.drew ?_ | with_reducible refine below_drewN ?_ _ | with_reducible refine Below.alloc ?_ ?_ _ | with_reducible refine Below.setCell ?_ ?_ _ | omega | (simp; done) | (simp; omega)))⟩
set_option maxRecDepth 100000 in
set_option maxHeartbeats 2000000 in
theorem event_self (ca inv re st err val : Int) (A B : Option Addr) (n c m d : Nat) (l : List Int) (A' B' : Option Addr) (n' c' m' d' : Nat) (ky : List Int) (w : World) (h : SlW w (.slice A n c) l) (h' : SlW w (.slice B m d) l) (g : SlI w (.slice A' n' c') ky) (g' : SlI w (.slice B' m' d') ky) :
    Calls Tryz.prog 27 #[evA8 ca inv re st err val (.slice A n c) (.slice A' n' c'), evA8 ca inv re st err val (.slice B m d) (.slice B' m' d')] w fun e w' => e = .returned (.bool true) ∧ Below w.heap.size w w' := by
  have N0 := fun W h h' => answer_self err val A B n c m d l W h h'
  have N1 := fun W h h' => ints_any (.slice A' n' c') (.slice B' m' d') ky ky W h h'
  have H := hide h
  have H' := hide h'
  have G := hide g
  have G' := hide g'
  clear h h' g g'
  go_enter Tryz.func27, Tryz.ntmps27
  go_wp2_with fail
  refine (N0 _ ((H.out.alloc _).alloc _) ((H'.out.alloc _).alloc _)).mono ?_
  rintro e w1 ⟨rfl, hb⟩
  have hz := hb.size
  have z0 : w.heap.size < w1.heap.size := by simp at hz; omega
  have z1 : w.heap.size + 1 < w1.heap.size := by simp at hz; omega
  have k0 := (hb.cell (p := ⟨w.heap.size, 7, none⟩) (by simp; omega))
  have k1 := (hb.cell (p := ⟨w.heap.size + 1, 7, none⟩) (by simp))
  have HB := hide hb
  clear hb hz
  go_wp2_with fail
  refine (N1 _ (((G.out.alloc _).alloc _).below HB.out (Nat.le_refl _)) (((G'.out.alloc _).alloc _).below HB.out (Nat.le_refl _))).mono ?_
  rintro e w2 ⟨rfl, q, rfl⟩
  go_wp2
  go_ret
  refine ⟨ret_bool (by simp), ?_⟩
  have hq : Below w.heap.size w w1 := (((Below.refl _ _).alloc (Nat.le_refl _) _).alloc (by simp) _).trans (HB.out.mono (by simp; omega))
  (repeat' (first | with_reducible assumption | with_reducible exact Below.refl _ _ | with_reducible refine Below.drew ?_ | with_reducible refine below_drewN ?_ _ | with_reducible refine Below.alloc ?_ ?_ _ | with_reducible refine Below.setCell ?_ ?_ _ | omega | (simp; done) | (simp; omega)))
set_option maxRecDepth 100000 in
set_option maxHeartbeats 4000000 in
theorem same_self (ev ev' : Value) (B B' : Nat) (Mu Mu' : Nat → Prop) (es : List Ep) (Aw Aw' : Option Addr) (nw cw nw' cw' : Nat) (ws : List Int) (mm : Mm) (now idle : Int) (w : World) (h : EvsAt w B Mu ev es) (h' : EvsAt w B' Mu' ev' es) (g : SlW w (.slice Aw nw cw) ws) (g' : SlW w (.slice Aw' nw' cw') ws) :
    Calls Tryz.prog 12 #[repV ev (.slice Aw nw cw) mm now idle, repV ev' (.slice Aw' nw' cw') mm now idle] w fun e w' => e = .returned (.bool true) ∧ Below w.heap.size w w' := by
  obtain ⟨A, ce, rfl, hl⟩ := evs_len h
  obtain ⟨A', ce', rfl, _⟩ := evs_len h'
  have N0 := fun W h1 h2 => same_any (.slice Aw nw cw) (.slice Aw' nw' cw') ws ws W h1 h2
  have H := hide h
  have H' := hide h'
  have G := hide g
  have G' := hide g'
  have HL := hide hl
  have hel : (es.length : Int) ≤ 9223372036854775807 := by unfold maxLen at hl; omega
  clear h h' g g' hl
  unfold repV
  go_enter Tryz.func12, Tryz.ntmps12
  go_wp2_with fail
  refine (N0 _ ((G.out.alloc _).alloc _) ((G'.out.alloc _).alloc _)).mono ?_
  rintro e w1 ⟨rfl, hq⟩
  obtain ⟨q, hq⟩ := hq
  have hb1 : Below w.heap.size w w1 := by rw [hq]; exact ((Keep.of_below (K := fun k => k < w.heap.size) (((Below.refl _ _).alloc (Nat.le_refl _) _).alloc (by simp) _) (fun k hk => hk)).drewN _).below (fun k hk => hk)
  have ha : w1.heap[w.heap.size]? = some (.cells #[.slice A es.length ce, .slice Aw nw cw, .int .i64 (wrap64 mm.rd), .int .i64 (wrap64 mm.wr), .int .i64 (wrap64 mm.sw), .int .i64 (wrap64 mm.ad), .int .i64 (wrap64 mm.ft), .int .i64 now, .int .i64 idle] 32 (0, 0)) := by
    rw [hq]
    exact (Below.heap_alloc _ _ _ (by simp)).trans (heap_alloc_new _ _)
  have hb : w1.heap[w.heap.size + 1]? = some (.cells #[.slice A' es.length ce', .slice Aw' nw' cw', .int .i64 (wrap64 mm.rd), .int .i64 (wrap64 mm.wr), .int .i64 (wrap64 mm.sw), .int .i64 (wrap64 mm.ad), .int .i64 (wrap64 mm.ft), .int .i64 now, .int .i64 idle] 32 (0, 0)) := by
    rw [hq]
    have := heap_alloc_new (w.alloc (.cells #[.slice A es.length ce, .slice Aw nw cw, .int .i64 (wrap64 mm.rd), .int .i64 (wrap64 mm.wr), .int .i64 (wrap64 mm.sw), .int .i64 (wrap64 mm.ad), .int .i64 (wrap64 mm.ft), .int .i64 now, .int .i64 idle] 32)) (.cells #[.slice A' es.length ce', .slice Aw' nw' cw', .int .i64 (wrap64 mm.rd), .int .i64 (wrap64 mm.wr), .int .i64 (wrap64 mm.sw), .int .i64 (wrap64 mm.ad), .int .i64 (wrap64 mm.ft), .int .i64 now, .int .i64 idle] 32)
    simpa using this
  have z0 := (Array.getElem?_eq_some_iff.1 ha).1
  have z1 := (Array.getElem?_eq_some_iff.1 hb).1
  have a0 := cell_of_row _ _ 0 _ _ _ ha
  have b0 := cell_of_row _ _ 0 _ _ _ hb
  simp at a0 b0
  have HB1 := hide hb1
  have HA := hide ha
  have HB := hide hb
  clear hq ha hb hb1 N0
  go_wp2_with fail
  go_loopw [45] (fun i wr => ∃ k : Nat, k ≤ es.length ∧ i = .int .i64 (k : Int) ∧ Hid (Below w1.heap.size w1 wr)) (fun i _ => es.length - (intOf i).toNat)
  case atStart => exact ⟨0, Nat.zero_le _, rfl, hide (Below.refl _ _)⟩
  case round =>
    obtain ⟨k, hkn, rfl, hBr⟩ := hrel
    have hb := hBr.out
    replace a0 := (hb.cell (p := ⟨w.heap.size, 0, none⟩) z0).trans a0
    replace b0 := (hb.cell (p := ⟨w.heap.size + 1, 0, none⟩) z1).trans b0
    have zz0 := Nat.lt_of_lt_of_le z0 hb.size
    have zz1 := Nat.lt_of_lt_of_le z1 hb.size
    have hbw : Below w.heap.size w wr := HB1.out.trans (hb.mono HB1.out.size)
    by_cases hlt : k < es.length
    · obtain ⟨e, he⟩ : ∃ e, es[k]? = some e := ⟨_, List.getElem?_eq_getElem hlt⟩
      obtain ⟨g1, rfl, hg1, x, hx, c0, c1, c2, c3, c4, c5, c6, c7⟩ := ev_at (H.out.below hbw) he
      obtain ⟨g2, rfl, hg2, y, hy, d0, d1, d2, d3, d4, d5, d6, d7⟩ := ev_at (H'.out.below hbw) he
      obtain ⟨_, _, p1, p2, _⟩ := hx.list
      obtain ⟨_, _, q1, q2, _⟩ := hy.list
      obtain ⟨_, _, p3, _, p4, _⟩ := hx.key
      obtain ⟨_, _, q3, _, q4, _⟩ := hy.key
      rw [← p1] at p2
      rw [← q1] at q2
      rw [← p3] at p4
      rw [← q3] at q4
      have N := fun (W : World) (hW : Below wr.heap.size wr W) => event_self e.call e.inv e.resp e.steps e.ans.err e.ans.val x.lA y.lA x.lN x.lC y.lN y.lC e.ans.list x.kA y.kA x.kN x.kC y.kN y.kC e.key W (p2.below hW (Nat.le_refl _)) (q2.below hW (Nat.le_refl _)) (p4.below hW (Nat.le_refl _)) (q4.below hW (Nat.le_refl _))
      have hlt' : (k : Int) < (es.length : Int) := by omega
      have HN := hide N
      clear N hb p1 p2 p3 p4 q1 q2 q3 q4 hx hy hbw he
      go_wp2_with fail
      refine wp_region_seq (fun Y => Below wr.heap.size wr Y) (.take 0 <| .take 1 <| .take 2 <| .take 3 <| .take 4 <| .take 5 <| .take 6 <| .take 7 <| .take 8 <| .take 9 <| .run 10 <| .take 11 <| .done) (by kernel_rfl) (by kernel_rfl) (by kernel_rfl) (by (repeat' (first | with_reducible assumption | with_reducible exact Below.refl _ _ | with_reducible refine Below.drew ?_ | with_reducible refine below_drewN ?_ _ | with_reducible refine Below.alloc ?_ ?_ _ | with_reducible refine Below.setCell ?_ ?_ _ | omega | (simp; done) | (simp; omega)))) ?_
      iterate 10 (refine seq_take (v := ?_) rfl (by rfl) ?_ ?_; rotate_left; (focus (intro wS hS; have s0 := (hS.cell (p := ⟨w.heap.size, 0, none⟩) zz0).trans a0; have s1 := (hS.cell (p := ⟨w.heap.size + 1, 0, none⟩) zz1).trans b0; have c0 := (hS.cell (p := ⟨g1, k * 8, none⟩) hg1).trans c0; have c1 := (hS.cell (p := ⟨g1, k * 8 + 1, none⟩) hg1).trans c1; have c2 := (hS.cell (p := ⟨g1, k * 8 + 2, none⟩) hg1).trans c2; have c3 := (hS.cell (p := ⟨g1, k * 8 + 3, none⟩) hg1).trans c3; have c4 := (hS.cell (p := ⟨g1, k * 8 + 4, none⟩) hg1).trans c4; have c5 := (hS.cell (p := ⟨g1, k * 8 + 5, none⟩) hg1).trans c5; have c6 := (hS.cell (p := ⟨g1, k * 8 + 6, none⟩) hg1).trans c6; have c7 := (hS.cell (p := ⟨g1, k * 8 + 7, none⟩) hg1).trans c7; have d0 := (hS.cell (p := ⟨g2, k * 8, none⟩) hg2).trans d0; have d1 := (hS.cell (p := ⟨g2, k * 8 + 1, none⟩) hg2).trans d1; have d2 := (hS.cell (p := ⟨g2, k * 8 + 2, none⟩) hg2).trans d2; have d3 := (hS.cell (p := ⟨g2, k * 8 + 3, none⟩) hg2).trans d3; have d4 := (hS.cell (p := ⟨g2, k * 8 + 4, none⟩) hg2).trans d4; have d5 := (hS.cell (p := ⟨g2, k * 8 + 5, none⟩) hg2).trans d5; have d6 := (hS.cell (p := ⟨g2, k * 8 + 6, none⟩) hg2).trans d6; have d7 := (hS.cell (p := ⟨g2, k * 8 + 7, none⟩) hg2).trans d7; go_simp; exact rfl)); simp only [Act.put, List.setIfInBounds_toArray, List.set_cons_zero, List.set_cons_succ])
      refine seq_run rfl (by rfl) (fun K hK => ?_)
      go_simp
      refine (HN.out wr.drew (Below.refl _ _).drew).mono ?_
      rintro e2 w2 ⟨rfl, hb2⟩
      have hb2 : Below wr.heap.size wr w2 := (Below.refl _ wr).drew.trans hb2
      refine hK _ _ hb2 ?_
      clear hK K
      iterate 1 (refine seq_take (v := ?_) rfl (by rfl) ?_ ?_; rotate_left; (focus (intro wS hS; have s0 := (hS.cell (p := ⟨w.heap.size, 0, none⟩) zz0).trans a0; have s1 := (hS.cell (p := ⟨w.heap.size + 1, 0, none⟩) zz1).trans b0; have c0 := (hS.cell (p := ⟨g1, k * 8, none⟩) hg1).trans c0; have c1 := (hS.cell (p := ⟨g1, k * 8 + 1, none⟩) hg1).trans c1; have c2 := (hS.cell (p := ⟨g1, k * 8 + 2, none⟩) hg1).trans c2; have c3 := (hS.cell (p := ⟨g1, k * 8 + 3, none⟩) hg1).trans c3; have c4 := (hS.cell (p := ⟨g1, k * 8 + 4, none⟩) hg1).trans c4; have c5 := (hS.cell (p := ⟨g1, k * 8 + 5, none⟩) hg1).trans c5; have c6 := (hS.cell (p := ⟨g1, k * 8 + 6, none⟩) hg1).trans c6; have c7 := (hS.cell (p := ⟨g1, k * 8 + 7, none⟩) hg1).trans c7; have d0 := (hS.cell (p := ⟨g2, k * 8, none⟩) hg2).trans d0; have d1 := (hS.cell (p := ⟨g2, k * 8 + 1, none⟩) hg2).trans d1; have d2 := (hS.cell (p := ⟨g2, k * 8 + 2, none⟩) hg2).trans d2; have d3 := (hS.cell (p := ⟨g2, k * 8 + 3, none⟩) hg2).trans d3; have d4 := (hS.cell (p := ⟨g2, k * 8 + 4, none⟩) hg2).trans d4; have d5 := (hS.cell (p := ⟨g2, k * 8 + 5, none⟩) hg2).trans d5; have d6 := (hS.cell (p := ⟨g2, k * 8 + 6, none⟩) hg2).trans d6; have d7 := (hS.cell (p := ⟨g2, k * 8 + 7, none⟩) hg2).trans d7; go_simp; exact rfl)); simp only [Act.put, List.setIfInBounds_toArray, List.set_cons_zero, List.set_cons_succ])
      refine seq_nil ?_
      have HX := hide (hBr.out.trans (hb2.mono hBr.out.size))
      clear hb2 HN
      go_wp2
      go_roundw
      case rel => exact ⟨k + 1, by omega, by go_num, HX⟩
      case measure => first | (simp [intOf]; done) | (simp [intOf]; omega)
    · obtain rfl : es.length = k := by omega
      have HX := hide hbw
      clear hb hbw hlt
      go_wp2
      go_ret
      exact ⟨rfl, HX.out⟩
set_option maxRecDepth 100000 in
set_option maxHeartbeats 2000000 in
theorem same_zero (w : World) : Calls Tryz.prog 12 #[zeroV, zeroV] w fun e w' => e = .returned (.bool true) ∧ Below w.heap.size w w' := by
  have hnil : ∀ W : World, SlW W (.slice none 0 0) [] := fun W => ⟨none, 0, rfl, Nat.le_refl _, Nat.zero_le _, fun k x hx => by simp at hx⟩
  have N := fun W => same_any (.slice none 0 0) (.slice none 0 0) [] [] W (hnil W) (hnil W)
  unfold zeroV
  go_enter Tryz.func12, Tryz.ntmps12
  go_wp2_with fail
  refine (N _).mono ?_
  rintro e w1 ⟨rfl, n1, rfl⟩
  go_wp2
  go_loopw [45] (fun i wr => i = .int .i64 0 ∧ Hid (Below w.heap.size w wr)) (fun _ _ => 0)
  case atStart => exact ⟨rfl, hide (by (repeat' (first | with_reducible assumption | with_reducible exact Below.refl _ _ | with_reducible refine Below.drew ?_ | with_reducible refine below_drewN ?_ _ | with_reducible refine Below.alloc ?_ ?_ _ | with_reducible refine Below.setCell ?_ ?_ _ | omega | (simp; done) | (simp; omega))))⟩
  case round =>
    obtain ⟨rfl, hB⟩ := hrel
    go_wp2
    go_ret
    exact ⟨rfl, hB.out⟩
end Go.Proofs.YtlfingcmekifkaaGreat

namespace Go.Proofs.YtlfingcmekifkaaGreat
open Go.RowKit
theorem sim_ends {M O : Type} {G : Gm M O} {D : Dof} {no : Nat} {A : Alike G D no} (hA : A.Ok) (hG : G.Still) (hl : ∀ o lw m, G.late o lw m = none) {n : Nat} (h16 : n ≤ 16) {cs : List Cl} (hcs : ∀ c ∈ cs, (0 ≤ c.thread ∧ c.thread < n) ∧ ClB c) (words : List Int) (o : O) (ho : ∀ t, A.own o t (fun _ => [])) (picks : List Int) :
    ((Ps.new words o cs.length : Ps M O).play G cs picks).ends G = ((Rs.new words cs.length).play D no cs picks).endsK (fun _ t => ((Rs.new words cs.length).play D no cs picks).w.marks t) n ∧ ((Ps.new words o cs.length : Ps M O).play G cs picks).lw.mem = ((Rs.new words cs.length).play D no cs picks).w.mem ∧
      ((Ps.new words o cs.length : Ps M O).play G cs picks).lw.now = ((Rs.new words cs.length).play D no cs picks).w.now ∧ ((Ps.new words o cs.length : Ps M O).play G cs picks).idle = ((Rs.new words cs.length).play D no cs picks).idle := by
  have S := (Sim.new (A := A) cs words o ho).play hA (fun c hc => by obtain ⟨⟨h1, h2⟩, h3⟩ := hcs c hc; exact ⟨h1, by omega, h3⟩) picks
  have W := (wf_play hG (fun c hc => (hcs c hc).1.1) picks (PWf.new words o cs) (CWf.new words o cs)).1
  refine ⟨S.ends hl h16 (fun t ht => ?_), S.rel.1.symm, S.rel.2.1.symm, S.idle.symm⟩
  rcases hh : ((Ps.new words o cs.length : Ps M O).play G cs picks).hands t with _ | ⟨m, h⟩
  · rfl
  · exfalso
    obtain ⟨e, h1, _, h3, _⟩ := W.hand t m h hh
    have h4 := (W.call h e h1).1
    have hC : callOf cs e.call ∈ cs := by
      unfold callOf
      rw [List.getElem?_eq_getElem h4]
      exact List.getElem_mem h4
    have := (hcs _ hC).1
    omega
end Go.Proofs.YtlfingcmekifkaaGreat
