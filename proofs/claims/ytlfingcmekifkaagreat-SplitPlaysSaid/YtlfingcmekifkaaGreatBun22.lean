import Derived.Test.YtlfingcmekifkaaGreatBun19
import Derived.Test.YtlfingcmekifkaaGreatBun21
import Derived.Test.YtlfingcmekifkaaGreatBun20
import Derived.Test.YtlfingcmekifkaaGreatBun18
import Derived.Test.YtlfingcmekifkaaGreatBun16
namespace Go.Proofs.YtlfingcmekifkaaGreat
open Go.RowKit
set_option maxRecDepth 100000 in
set_option maxHeartbeats 2000000 in
theorem answer_self (err val : Int) (A B : Option Addr) (n c m d : Nat) (l : List Int) (w : World) (h : SlW w (.slice A n c) l) (h' : SlW w (.slice B m d) l) :
    Calls Tryz.prog 48 #[.agg #[.int .i64 err, .int .u64 val, .slice A n c], .agg #[.int .i64 err, .int .u64 val, .slice B m d]] w fun e w' => e = .returned (.bool true) ∧ Below w.heap.size w w' := by
  have N0 := fun W h h' => same_any (.slice A n c) (.slice B m d) l l W h h'
  have H := hide h
  have H' := hide h'
  clear h h'
  go_enter Tryz.func48, Tryz.ntmps48
  go_wp2_with fail
  refine (N0 _ ((H.out.alloc _).alloc _) ((H'.out.alloc _).alloc _)).mono ?_
  rintro e w1 ⟨rfl, k, rfl⟩
  go_wp2
  go_ret
  exact ⟨ret_bool (by simp), by (repeat' (first | with_reducible assumption | with_reducible exact Below.refl _ _ | with_reducible refine Below.drew ?_ | with_reducible refine below_drewN ?_ _ | with_reducible refine Below.alloc ?_ ?_ _ | with_reducible refine Below.setCell ?_ ?_ _ | omega | (simp; done) | (simp; omega)))⟩
set_option maxRecDepth 100000 in
set_option maxHeartbeats 2000000 in
theorem event_self (ca inv re st err val : Int) (A B : Option Addr) (n c m d : Nat) (l : List Int) (A' B' : Option Addr) (n' c' m' d' : Nat) (ky : List Int) (w : World) (h : SlW w (.slice A n c) l) (h' : SlW w (.slice B m d) l) (g : SlI w (.slice A' n' c') ky) (g' : SlI w (.slice B' m' d') ky) :
    Calls Tryz.prog 27 #[evA8 ca inv re st err val (.slice A n c) (.slice A' n' c'), evA8 ca inv re st err val (.slice B m d) (.slice B' m' d')] w fun e w' => e = .returned (.bool true) ∧ Below w.heap.size w w' := by
  have N0 := fun W h h' => answer_self err val A B n c m d l W h h'
  have N1 := fun W h h' => ints_any (.slice A' n' c') (.slice B' m' d') ky ky W h h'
  have H := hide h
  have H' := hide h'
  have G := hide g
  have G' := hide g'
  clear h h' g g'
  go_enter Tryz.func27, Tryz.ntmps27
  go_wp2_with fail
  refine (N0 _ ((H.out.alloc _).alloc _) ((H'.out.alloc _).alloc _)).mono ?_
  rintro e w1 ⟨rfl, hb⟩
  have hz := hb.size
  have z0 : w.heap.size < w1.heap.size := by simp at hz; omega
  have z1 : w.heap.size + 1 < w1.heap.size := by simp at hz; omega
  have k0 := (hb.cell (p := ⟨w.heap.size, 7, none⟩) (by simp; omega))
  have k1 := (hb.cell (p := ⟨w.heap.size + 1, 7, none⟩) (by simp))
  have HB := hide hb
  clear hb hz
  go_wp2_with fail
  refine (N1 _ (((G.out.alloc _).alloc _).below HB.out (Nat.le_refl _)) (((G'.out.alloc _).alloc _).below HB.out (Nat.le_refl _))).mono ?_
  rintro e w2 ⟨rfl, q, rfl⟩
  go_wp2
  go_ret
  refine ⟨ret_bool (by simp), ?_⟩
  have hq : Below w.heap.size w w1 := (((Below.refl _ _).alloc (Nat.le_refl _) _).alloc (by simp) _).trans (HB.out.mono (by simp; omega))
  (repeat' (first | with_reducible assumption | with_reducible exact Below.refl _ _ | with_reducible refine Below.drew ?_ | with_reducible refine below_drewN ?_ _ | with_reducible refine Below.alloc ?_ ?_ _ | with_reducible refine Below.setCell ?_ ?_ _ | omega | (simp; done) | (simp; omega)))
set_option maxRecDepth 100000 in
set_option maxHeartbeats 4000000 in
theorem same_self (ev ev' : Value) (B B' : Nat) (Mu Mu' : Nat → Prop) (es : List Ep) (Aw Aw' : Option Addr) (nw cw nw' cw' : Nat) (ws : List Int) (mm : Mm) (now idle : Int) (w : World) (h : EvsAt w B Mu ev es) (h' : EvsAt w B' Mu' ev' es) (g : SlW w (.slice Aw nw cw) ws) (g' : SlW w (.slice Aw' nw' cw') ws) :
    Calls Tryz.prog 12 #[repV ev (.slice Aw nw cw) mm now idle, repV ev' (.slice Aw' nw' cw') mm now idle] w fun e w' => e = .returned (.bool true) ∧ Below w.heap.size w w' := by
  obtain ⟨A, ce, rfl, hl⟩ := evs_len h
  obtain ⟨A', ce', rfl, _⟩ := evs_len h'
  have N0 := fun W h1 h2 => same_any (.slice Aw nw cw) (.slice Aw' nw' cw') ws ws W h1 h2
  have H := hide h
  have H' := hide h'
  have G := hide g
  have G' := hide g'
  have HL := hide hl
  have hel : (es.length : Int) ≤ 9223372036854775807 := by unfold maxLen at hl; omega
  clear h h' g g' hl
  unfold repV
  go_enter Tryz.func12, Tryz.ntmps12
  go_wp2_with fail
  refine (N0 _ ((G.out.alloc _).alloc _) ((G'.out.alloc _).alloc _)).mono ?_
  rintro e w1 ⟨rfl, hq⟩
  obtain ⟨q, hq⟩ := hq
  have hb1 : Below w.heap.size w w1 := by rw [hq]; exact ((Keep.of_below (K := fun k => k < w.heap.size) (((Below.refl _ _).alloc (Nat.le_refl _) _).alloc (by simp) _) (fun k hk => hk)).drewN _).below (fun k hk => hk)
  have ha : w1.heap[w.heap.size]? = some (.cells #[.slice A es.length ce, .slice Aw nw cw, .int .i64 (wrap64 mm.rd), .int .i64 (wrap64 mm.wr), .int .i64 (wrap64 mm.sw), .int .i64 (wrap64 mm.ad), .int .i64 (wrap64 mm.ft), .int .i64 now, .int .i64 idle] 32 (0, 0)) := by
    rw [hq]
    exact (Below.heap_alloc _ _ _ (by simp)).trans (heap_alloc_new _ _)
  have hb : w1.heap[w.heap.size + 1]? = some (.cells #[.slice A' es.length ce', .slice Aw' nw' cw', .int .i64 (wrap64 mm.rd), .int .i64 (wrap64 mm.wr), .int .i64 (wrap64 mm.sw), .int .i64 (wrap64 mm.ad), .int .i64 (wrap64 mm.ft), .int .i64 now, .int .i64 idle] 32 (0, 0)) := by
    rw [hq]
    have := heap_alloc_new (w.alloc (.cells #[.slice A es.length ce, .slice Aw nw cw, .int .i64 (wrap64 mm.rd), .int .i64 (wrap64 mm.wr), .int .i64 (wrap64 mm.sw), .int .i64 (wrap64 mm.ad), .int .i64 (wrap64 mm.ft), .int .i64 now, .int .i64 idle] 32)) (.cells #[.slice A' es.length ce', .slice Aw' nw' cw', .int .i64 (wrap64 mm.rd), .int .i64 (wrap64 mm.wr), .int .i64 (wrap64 mm.sw), .int .i64 (wrap64 mm.ad), .int .i64 (wrap64 mm.ft), .int .i64 now, .int .i64 idle] 32)
    simpa using this
  have z0 := (Array.getElem?_eq_some_iff.1 ha).1
  have z1 := (Array.getElem?_eq_some_iff.1 hb).1
  have a0 := cell_of_row _ _ 0 _ _ _ ha
  have b0 := cell_of_row _ _ 0 _ _ _ hb
  simp at a0 b0
  have HB1 := hide hb1
  have HA := hide ha
  have HB := hide hb
  clear hq ha hb hb1 N0
  go_wp2_with fail
  go_loopw [45] (fun i wr => ∃ k : Nat, k ≤ es.length ∧ i = .int .i64 (k : Int) ∧ Hid (Below w1.heap.size w1 wr)) (fun i _ => es.length - (intOf i).toNat)
  case atStart => exact ⟨0, Nat.zero_le _, rfl, hide (Below.refl _ _)⟩
  case round =>
    obtain ⟨k, hkn, rfl, hBr⟩ := hrel
    have hb := hBr.out
    replace a0 := (hb.cell (p := ⟨w.heap.size, 0, none⟩) z0).trans a0
    replace b0 := (hb.cell (p := ⟨w.heap.size + 1, 0, none⟩) z1).trans b0
    have zz0 := Nat.lt_of_lt_of_le z0 hb.size
    have zz1 := Nat.lt_of_lt_of_le z1 hb.size
    have hbw : Below w.heap.size w wr := HB1.out.trans (hb.mono HB1.out.size)
    by_cases hlt : k < es.length
    · obtain ⟨e, he⟩ : ∃ e, es[k]? = some e := ⟨_, List.getElem?_eq_getElem hlt⟩
      obtain ⟨g1, rfl, hg1, x, hx, c0, c1, c2, c3, c4, c5, c6, c7⟩ := ev_at (H.out.below hbw) he
      obtain ⟨g2, rfl, hg2, y, hy, d0, d1, d2, d3, d4, d5, d6, d7⟩ := ev_at (H'.out.below hbw) he
      obtain ⟨_, _, p1, p2, _⟩ := hx.list
      obtain ⟨_, _, q1, q2, _⟩ := hy.list
      obtain ⟨_, _, p3, _, p4, _⟩ := hx.key
      obtain ⟨_, _, q3, _, q4, _⟩ := hy.key
      rw [← p1] at p2
      rw [← q1] at q2
      rw [← p3] at p4
      rw [← q3] at q4
      have N := fun (W : World) (hW : Below wr.heap.size wr W) => event_self e.call e.inv e.resp e.steps e.ans.err e.ans.val x.lA y.lA x.lN x.lC y.lN y.lC e.ans.list x.kA y.kA x.kN x.kC y.kN y.kC e.key W (p2.below hW (Nat.le_refl _)) (q2.below hW (Nat.le_refl _)) (p4.below hW (Nat.le_refl _)) (q4.below hW (Nat.le_refl _))
      have hlt' : (k : Int) < (es.length : Int) := by omega
      have HN := hide N
      clear N hb p1 p2 p3 p4 q1 q2 q3 q4 hx hy hbw he
      go_wp2_with fail
      refine wp_region_seq (fun Y => Below wr.heap.size wr Y) (.take 0 <| .take 1 <| .take 2 <| .take 3 <| .take 4 <| .take 5 <| .take 6 <| .take 7 <| .take 8 <| .take 9 <| .run 10 <| .take 11 <| .done) (by kernel_rfl) (by kernel_rfl) (by kernel_rfl) (by (repeat' (first | with_reducible assumption | with_reducible exact Below.refl _ _ | with_reducible refine Below.drew ?_ | with_reducible refine below_drewN ?_ _ | with_reducible refine Below.alloc ?_ ?_ _ | with_reducible refine Below.setCell ?_ ?_ _ | omega | (simp; done) | (simp; omega)))) ?_
      iterate 10 (refine seq_take (v := ?_) rfl (by rfl) ?_ ?_; rotate_left; (focus (intro wS hS; have s0 := (hS.cell (p := ⟨w.heap.size, 0, none⟩) zz0).trans a0; have s1 := (hS.cell (p := ⟨w.heap.size + 1, 0, none⟩) zz1).trans b0; have c0 := (hS.cell (p := ⟨g1, k * 8, none⟩) hg1).trans c0; have c1 := (hS.cell (p := ⟨g1, k * 8 + 1, none⟩) hg1).trans c1; have c2 := (hS.cell (p := ⟨g1, k * 8 + 2, none⟩) hg1).trans c2; have c3 := (hS.cell (p := ⟨g1, k * 8 + 3, none⟩) hg1).trans c3; have c4 := (hS.cell (p := ⟨g1, k * 8 + 4, none⟩) hg1).trans c4; have c5 := (hS.cell (p := ⟨g1, k * 8 + 5, none⟩) hg1).trans c5; have c6 := (hS.cell (p := ⟨g1, k * 8 + 6, none⟩) hg1).trans c6; have c7 := (hS.cell (p := ⟨g1, k * 8 + 7, none⟩) hg1).trans c7; have d0 := (hS.cell (p := ⟨g2, k * 8, none⟩) hg2).trans d0; have d1 := (hS.cell (p := ⟨g2, k * 8 + 1, none⟩) hg2).trans d1; have d2 := (hS.cell (p := ⟨g2, k * 8 + 2, none⟩) hg2).trans d2; have d3 := (hS.cell (p := ⟨g2, k * 8 + 3, none⟩) hg2).trans d3; have d4 := (hS.cell (p := ⟨g2, k * 8 + 4, none⟩) hg2).trans d4; have d5 := (hS.cell (p := ⟨g2, k * 8 + 5, none⟩) hg2).trans d5; have d6 := (hS.cell (p := ⟨g2, k * 8 + 6, none⟩) hg2).trans d6; have d7 := (hS.cell (p := ⟨g2, k * 8 + 7, none⟩) hg2).trans d7; go_simp; exact rfl)); simp only [Act.put, List.setIfInBounds_toArray, List.set_cons_zero, List.set_cons_succ])
      refine seq_run rfl (by rfl) (fun K hK => ?_)
      go_simp
      refine (HN.out wr.drew (Below.refl _ _).drew).mono ?_
      rintro e2 w2 ⟨rfl, hb2⟩
      have hb2 : Below wr.heap.size wr w2 := (Below.refl _ wr).drew.trans hb2
      refine hK _ _ hb2 ?_
      clear hK K
      iterate 1 (refine seq_take (v := ?_) rfl (by rfl) ?_ ?_; rotate_left; (focus (intro wS hS; have s0 := (hS.cell (p := ⟨w.heap.size, 0, none⟩) zz0).trans a0; have s1 := (hS.cell (p := ⟨w.heap.size + 1, 0, none⟩) zz1).trans b0; have c0 := (hS.cell (p := ⟨g1, k * 8, none⟩) hg1).trans c0; have c1 := (hS.cell (p := ⟨g1, k * 8 + 1, none⟩) hg1).trans c1; have c2 := (hS.cell (p := ⟨g1, k * 8 + 2, none⟩) hg1).trans c2; have c3 := (hS.cell (p := ⟨g1, k * 8 + 3, none⟩) hg1).trans c3; have c4 := (hS.cell (p := ⟨g1, k * 8 + 4, none⟩) hg1).trans c4; have c5 := (hS.cell (p := ⟨g1, k * 8 + 5, none⟩) hg1).trans c5; have c6 := (hS.cell (p := ⟨g1, k * 8 + 6, none⟩) hg1).trans c6; have c7 := (hS.cell (p := ⟨g1, k * 8 + 7, none⟩) hg1).trans c7; have d0 := (hS.cell (p := ⟨g2, k * 8, none⟩) hg2).trans d0; have d1 := (hS.cell (p := ⟨g2, k * 8 + 1, none⟩) hg2).trans d1; have d2 := (hS.cell (p := ⟨g2, k * 8 + 2, none⟩) hg2).trans d2; have d3 := (hS.cell (p := ⟨g2, k * 8 + 3, none⟩) hg2).trans d3; have d4 := (hS.cell (p := ⟨g2, k * 8 + 4, none⟩) hg2).trans d4; have d5 := (hS.cell (p := ⟨g2, k * 8 + 5, none⟩) hg2).trans d5; have d6 := (hS.cell (p := ⟨g2, k * 8 + 6, none⟩) hg2).trans d6; have d7 := (hS.cell (p := ⟨g2, k * 8 + 7, none⟩) hg2).trans d7; go_simp; exact rfl)); simp only [Act.put, List.setIfInBounds_toArray, List.set_cons_zero, List.set_cons_succ])
      refine seq_nil ?_
      have HX := hide (hBr.out.trans (hb2.mono hBr.out.size))
      clear hb2 HN
      go_wp2
      go_roundw
      case rel => exact ⟨k + 1, by omega, by go_num, HX⟩
      case measure => first | (simp [intOf]; done) | (simp [intOf]; omega)
    · obtain rfl : es.length = k := by omega
      have HX := hide hbw
      clear hb hbw hlt
      go_wp2
      go_ret
      exact ⟨rfl, HX.out⟩
set_option maxRecDepth 100000 in
set_option maxHeartbeats 2000000 in
theorem same_zero (w : World) : Calls Tryz.prog 12 #[zeroV, zeroV] w fun e w' => e = .returned (.bool true) ∧ Below w.heap.size w w' := by
  have hnil : ∀ W : World, SlW W (.slice none 0 0) [] := fun W => ⟨none, 0, rfl, Nat.le_refl _, Nat.zero_le _, fun k x hx => by simp at hx⟩
  have N := fun W => same_any (.slice none 0 0) (.slice none 0 0) [] [] W (hnil W) (hnil W)
  unfold zeroV
  go_enter Tryz.func12, Tryz.ntmps12
  go_wp2_with fail
  refine (N _).mono ?_
  rintro e w1 ⟨rfl, n1, rfl⟩
  go_wp2
  go_loopw [45] (fun i wr => i = .int .i64 0 ∧ Hid (Below w.heap.size w wr)) (fun _ _ => 0)
  case atStart => exact ⟨rfl, hide (by (repeat' (first | with_reducible assumption | with_reducible exact Below.refl _ _ | with_reducible refine Below.drew ?_ | with_reducible refine below_drewN ?_ _ | with_reducible refine Below.alloc ?_ ?_ _ | with_reducible refine Below.setCell ?_ ?_ _ | omega | (simp; done) | (simp; omega))))⟩
  case round =>
    obtain ⟨rfl, hB⟩ := hrel
    go_wp2
    go_ret
    exact ⟨rfl, hB.out⟩
end Go.Proofs.YtlfingcmekifkaaGreat

namespace Go.Proofs.YtlfingcmekifkaaGreat
open Go.RowKit
set_option maxRecDepth 100000 in
set_option maxHeartbeats 1000000 in
theorem beside14 (nn : Nat) (p q : Int) (hn : 1 ≤ nn ∧ nn ≤ 16) (w : World) : Calls Tryz.prog 68 #[.int .i64 (nn : Int), spV 14 p q] w fun e w' => e = .returned (.int .i64 ((nn : Int) * ((nn : Int) + 1))) ∧ Below w.heap.size w w' := by
  have k1 : IntKind.i64.wrap ((nn : Int) + 1) = (nn : Int) + 1 := IntWalk.i64_in _ (by omega)
  have hm : (nn : Int) * ((nn : Int) + 1) ≤ 272 ∧ 0 ≤ (nn : Int) * ((nn : Int) + 1) := by
    obtain ⟨h1, h2⟩ := hn
    have : nn * (nn + 1) ≤ 16 * 17 := Nat.mul_le_mul h2 (by omega)
    constructor
    · exact_mod_cast this
    · exact_mod_cast Nat.zero_le (nn * (nn + 1))
  have k2 : IntKind.i64.wrap ((nn : Int) * ((nn : Int) + 1)) = (nn : Int) * ((nn : Int) + 1) := IntWalk.i64_in _ (by omega)
  unfold spV
  go_enter Tryz.func68, Tryz.ntmps68
  go_wp2
  go_ret
  exact ⟨rfl, (Below.refl _ _).alloc (Nat.le_refl _) _⟩
set_option maxRecDepth 100000 in
set_option maxHeartbeats 1000000 in
theorem size14 (nn : Nat) (p q : Int) (hn : 1 ≤ nn ∧ nn ≤ 16) (w : World) : Calls Tryz.prog 60 #[.int .i64 (nn : Int), spV 14 p q] w fun e w' => e = .returned (.int .i64 ((nn : Int) * ((nn : Int) + 1))) ∧ Below w.heap.size w w' := by
  have N := fun W => beside14 nn p q hn W
  have hb : Below w.heap.size w (w.alloc (.cells #[.int .i64 14, .int .i64 p, .int .i64 q] 39)) := (Below.refl _ _).alloc (Nat.le_refl _) _
  generalize ((nn : Int) * ((nn : Int) + 1)) = R at *
  unfold spV at N ⊢
  go_enter Tryz.func60, Tryz.ntmps60
  go_wp2_with fail
  refine (N _).mono ?_
  rintro e w1 ⟨rfl, hb1⟩
  have HB := hide (hb.trans (hb1.mono (by simp)))
  clear hb1 hb N
  go_wp2
  go_ret
  exact ⟨rfl, HB.out⟩
end Go.Proofs.YtlfingcmekifkaaGreat

namespace Go.Proofs.YtlfingcmekifkaaGreat
open Go.RowKit
theorem sim_ends {M O : Type} {G : Gm M O} {D : Dof} {no : Nat} {A : Alike G D no} (hA : A.Ok) (hG : G.Still) (hl : ∀ o lw m, G.late o lw m = none) {n : Nat} (h16 : n ≤ 16) {cs : List Cl} (hcs : ∀ c ∈ cs, (0 ≤ c.thread ∧ c.thread < n) ∧ ClB c) (words : List Int) (o : O) (ho : ∀ t, A.own o t (fun _ => [])) (picks : List Int) :
    ((Ps.new words o cs.length : Ps M O).play G cs picks).ends G = ((Rs.new words cs.length).play D no cs picks).endsK (fun _ t => ((Rs.new words cs.length).play D no cs picks).w.marks t) n ∧ ((Ps.new words o cs.length : Ps M O).play G cs picks).lw.mem = ((Rs.new words cs.length).play D no cs picks).w.mem ∧
      ((Ps.new words o cs.length : Ps M O).play G cs picks).lw.now = ((Rs.new words cs.length).play D no cs picks).w.now ∧ ((Ps.new words o cs.length : Ps M O).play G cs picks).idle = ((Rs.new words cs.length).play D no cs picks).idle := by
  have S := (Sim.new (A := A) cs words o ho).play hA (fun c hc => by obtain ⟨⟨h1, h2⟩, h3⟩ := hcs c hc; exact ⟨h1, by omega, h3⟩) picks
  have W := (wf_play hG (fun c hc => (hcs c hc).1.1) picks (PWf.new words o cs) (CWf.new words o cs)).1
  refine ⟨S.ends hl h16 (fun t ht => ?_), S.rel.1.symm, S.rel.2.1.symm, S.idle.symm⟩
  rcases hh : ((Ps.new words o cs.length : Ps M O).play G cs picks).hands t with _ | ⟨m, h⟩
  · rfl
  · exfalso
    obtain ⟨e, h1, _, h3, _⟩ := W.hand t m h hh
    have h4 := (W.call h e h1).1
    have hC : callOf cs e.call ∈ cs := by
      unfold callOf
      rw [List.getElem?_eq_getElem h4]
      exact List.getElem_mem h4
    have := (hcs _ hC).1
    omega
end Go.Proofs.YtlfingcmekifkaaGreat

namespace Go.Proofs.YtlfingcmekifkaaGreat
open Go.RowKit
theorem SInv.next {n : Nat} {cs : List Cl} {P P' : Ps SM Spl} {vis right down vis' right' down' : Nat → Nat → Nat → Prop} {cur cur' : Nat → Option (Nat × Nat × Nat)} {La Sh La' Sh' : Nat → Nat → Int} (I : SInv n cs P vis right down cur La Sh) {t h : Nat} {m : SM} {e e' : Ep}
    (hm : P.hands t = some (m, h)) (he : P.evs[h]? = some e) (hs : isTk cs e) (hT : tkT cs e = t) (hW : PWf cs P') (hlen : P'.lw.mem.words.length = 2 * tri n) (hft : P'.lw.mem.ft = 0) (hG : Grid n vis' right' down' cur' La' Sh')
    (memL : ∀ r c, r + c < n → P'.lw.mem.at (2 * nameN r c : Nat) = La' r c) (memS : ∀ r c, r + c < n → P'.lw.mem.at ((2 * nameN r c : Nat) + 1) = Sh' r c) (oC : ∀ s, s ≠ t → cur' s = cur s) (hC : cur' t ≠ none)
    (hands : ∀ s, s ≠ t → P'.hands s = P.hands s) (hevs : ∀ (k : Nat) (x : Ep), P'.evs[k]? = some x → (k ≠ h ∧ P.evs[k]? = some x) ∨ (k = h ∧ x = e')) (hevo : ∀ (k : Nat) (x : Ep), k ≠ h → P.evs[k]? = some x → P'.evs[k]? = some x) (hevh : P'.evs[h]? = some e')
    (hec : e'.call = e.call) (hee : e'.ans.err = 0)
    (hcase : (∃ pc r c : Nat, P'.hands t = some (.take t pc r c, h) ∧ pc ≤ 3 ∧ cur' t = some (r, c, pc) ∧ P'.obj.has = P.obj.has ∧ P.obj.has t = false ∧ e'.resp = 0 ∧ e'.steps ≤ 4 * ((r + c : Nat) : Int) + pc) ∨
      (∃ r c : Nat, P'.hands t = none ∧ cur' t = some (r, c, 4) ∧ P'.obj.has = upd P.obj.has t true ∧ e'.resp ≠ 0 ∧ e'.ans.val = (nameN r c : Nat) ∧ e'.steps ≤ 4 * ((r + c : Nat) : Int) + 4)) : SInv n cs P' vis' right' down' cur' La' Sh' := by
  have hs' : isTk cs e' := by
    unfold isTk
    rw [hec]
    exact ⟨hs.1, hs.2.1, hee⟩
  have hT' : tkT cs e' = t := by
    unfold tkT
    rw [hec]
    exact hT
  have hne : ∀ (k : Nat) (x : Ep), k ≠ h → P.evs[k]? = some x → isTk cs x → tkT cs x ≠ t := by
    intro k x hk hx hxs htt
    exact hk (I.uniq k h x e hx he hxs hs (htt.trans hT.symm))
  have hno : ∀ s, cur' s = none → cur s = none := by
    intro s h'
    by_cases e : s = t
    · subst e
      exact absurd h' hC
    · rw [← oC s e]
      exact h'
  have hhas : ∀ s, s ≠ t → P'.obj.has s = P.obj.has s := by
    intro s hst
    rcases hcase with ⟨_, _, _, _, _, _, h1, _⟩ | ⟨_, _, _, _, h1, _⟩
    · rw [h1]
    · rw [h1, upd_other hst]
  refine ⟨hW, hG, hlen, hft, memL, memS, fun s m' k hk => ?_, fun s r c pc hc => ?_, fun s hh => ?_, fun k x hx hr hxs => ?_, fun k x hx hxs => ?_, fun k x hx h1 h2 => ?_, fun k k' x x' hx hx' hxs hxs' htt => ?_, fun s hc => ?_⟩
  · by_cases hst : s = t
    · subst hst
      rcases hcase with ⟨pc, r, c, h1, h2, h3, _, _, _, h4⟩ | ⟨r, c, h1, _⟩
      · rw [h1] at hk
        cases hk
        exact ⟨pc, r, c, e', rfl, h2, h3, hevh, hs', h4⟩
      · rw [h1] at hk
        cases hk
    · rw [hands s hst] at hk
      obtain ⟨pc, r, c, x, a1, a2, a3, a4, a5⟩ := I.mach s m' k hk
      refine ⟨pc, r, c, x, a1, a2, by rw [oC s hst]; exact a3, hevo k x ?_ a4, a5⟩
      rintro rfl
      obtain ⟨y, hy, _, hy2, _⟩ := I.wf.hand s m' k hk
      rw [he] at hy
      cases hy
      unfold tkT at hT
      omega
  · by_cases hst : s = t
    · subst hst
      rcases hcase with ⟨pc', r', c', h1, h2, h3, _⟩ | ⟨r', c', h1, h2, h3, _⟩
      · rw [h3] at hc
        cases hc
        exact ⟨fun _ => ⟨_, _, h1⟩, fun h => by omega⟩
      · rw [h2] at hc
        cases hc
        exact ⟨fun h => by omega, fun _ => by rw [h3, upd_same]⟩
    · rw [oC s hst] at hc
      rw [hands s hst, hhas s hst]
      exact I.held s r c pc hc
  · by_cases hst : s = t
    · subst hst
      rcases hcase with ⟨pc', r', c', h1, h2, h3, h4, h5, _⟩ | ⟨r', c', h1, h2, h3, _⟩
      · rw [h4, h5] at hh
        cases hh
      · exact ⟨r', c', h2⟩
    · rw [hhas s hst] at hh
      rw [oC s hst]
      exact I.has s hh
  · rcases hevs k x hx with ⟨hk, hx⟩ | ⟨rfl, rfl⟩
    · rw [oC _ (hne k x hk hx hxs)]
      exact I.done k x hx hr hxs
    · rcases hcase with ⟨_, _, _, _, _, _, _, _, h1, _⟩ | ⟨r', c', _, h2, _, _, h3, h4⟩
      · exact absurd h1 hr
      · rw [hT']
        exact ⟨r', c', h2, h3, h4⟩
  · rcases hevs k x hx with ⟨hk, hx⟩ | ⟨rfl, rfl⟩
    · exact I.ref k x hx hxs
    · exact absurd hs' hxs
  · intro hc
    rcases hevs k x hx with ⟨hk, hx⟩ | ⟨rfl, rfl⟩
    · exact I.came k x hx h1 h2 (hno _ hc)
    · rw [hT'] at hc
      exact hC hc
  · rcases hevs k x hx with ⟨_, hx⟩ | ⟨rfl, rfl⟩
    · rcases hevs k' x' hx' with ⟨_, hx'⟩ | ⟨rfl, rfl⟩
      · exact I.uniq k k' x x' hx hx' hxs hxs' htt
      · exact I.uniq k k' x e hx he hxs hs (htt.trans (hT'.trans hT.symm))
    · rcases hevs k' x' hx' with ⟨_, hx'⟩ | ⟨rfl, rfl⟩
      · exact I.uniq k k' e x' he hx' hs hxs' ((hT.trans hT'.symm).trans htt)
      · rfl
  · by_cases hst : s = t
    · subst hst
      exact ⟨h, e', hevh, hs', hT'⟩
    · rw [oC s hst] at hc
      obtain ⟨k, x, a1, a2, a3⟩ := I.begun s hc
      refine ⟨k, x, hevo k x ?_ a1, a2, a3⟩
      rintro rfl
      rw [he] at a1
      cases a1
      exact hst (a3.symm.trans hT)
end Go.Proofs.YtlfingcmekifkaaGreat
