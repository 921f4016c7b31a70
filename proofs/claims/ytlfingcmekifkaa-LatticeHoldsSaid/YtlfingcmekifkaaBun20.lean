/- A lattice's scans (package snap): what a reader answers (read.Answer). -/
/- A lattice (package lattice): a teller's step, when its scan ends. -/
/- A lattice (package lattice): the machines' steps are the plain ones. -/
import Derived.Test.YtlfingcmekifkaaLw1
import Derived.Test.YtlfingcmekifkaaBun16
import Derived.Laws.BitsAllLaws
import Derived.Test.YtlfingcmekifkaaBun19
namespace Go.Proofs.Ytlfingcmekifkaa
open Go.RowKit

set_option maxRecDepth 100000 in
set_option maxHeartbeats 2000000 in
theorem rdAnswer {w : World} {br bs ln lc kn kc : Nat} {lA kA : Option Addr} (hb : w.heap[br]? = some (.cells #[.pointer (some ⟨bs, 0, none⟩), .slice kA kn kc] 191 (0, 0))) (hl : w.cell? ⟨bs, 54, none⟩ = some (.slice lA ln lc)) (hz : bs < w.heap.size) :
    Calls Try.prog 125 #[.pointer (some ⟨br, 0, none⟩)] w fun e w' => e = .returned (.tuple #[.agg #[.int .i64 0, .int .u64 0, .slice lA ln lc], .slice kA kn kc]) ∧ Below w.heap.size w w' := by
  have zr : br < w.heap.size := by
    by_cases e : br < w.heap.size
    · exact e
    · rw [Array.getElem?_eq_none (Nat.le_of_not_lt e)] at hb; cases hb
  have c0 : w.cell? ⟨br, 0, none⟩ = some (.pointer (some ⟨bs, 0, none⟩)) := by unfold World.cell?; rw [hb]; rfl
  have c1 : w.cell? ⟨br, 1, none⟩ = some (.slice kA kn kc) := by unfold World.cell?; rw [hb]; rfl
  clear hb
  go_enter Try.func125, Try.ntmps125
  go_upto_region 1 with fail
  refine wp_region_seq (fun Y => Y.cell? ⟨br, 0, none⟩ = some (.pointer (some ⟨bs, 0, none⟩)) ∧ Y.cell? ⟨br, 1, none⟩ = some (.slice kA kn kc) ∧ Y.cell? ⟨bs, 54, none⟩ = some (.slice lA ln lc)) (.take 0 <| .take 1 <| .take 2 <| .take 3 <| .take 4 <| .take 5 <| .take 6 <| .take 7 <| .take 8 <| .take 9 <| .take 10 <| .take 11 <| .run 12 <| .take 13 <| .done) (by kernel_rfl) (by kernel_rfl) (by kernel_rfl) (by refine ⟨?_, ?_, ?_⟩ <;> go_simp) ?_
  iterate 12 (refine seq_take (v := ?_) rfl (by rfl) ?_ ?_; rotate_left; (focus (intro wS hS; obtain ⟨s0, s1, s2⟩ := hS; go_simp; exact rfl)); simp only [Act.put, List.setIfInBounds_toArray, List.set_cons_zero, List.set_cons_succ])
  (refine seq_run rfl (by rfl) (fun K hK => ?_); go_simp)
  refine hK _ _ ?_ ?_
  · refine ⟨?_, ?_, ?_⟩ <;> go_simp
  clear hK K
  (refine seq_take (v := ?_) rfl (by rfl) ?_ ?_; rotate_left; (focus (intro wS hS; obtain ⟨s0, s1, s2⟩ := hS; go_simp; exact rfl)); simp only [Act.put, List.setIfInBounds_toArray, List.set_cons_zero, List.set_cons_succ])
  refine seq_nil ?_
  go_wp2
  refine bodyPost_ret (v := .tuple #[.agg #[.int .i64 0, .int .u64 0, .slice lA ln lc], .slice kA kn kc]) (by simp [results, Try.results125, go_sem, *]) rfl ⟨rfl, ?_⟩
  (repeat' (first | exact Below.refl _ _ | assumption | refine Below.drew ?_ | refine below_drewN ?_ _ | refine Below.alloc ?_ (by simp <;> omega) _ | refine Below.setCell ?_ (by simp <;> omega) _))
end Go.Proofs.Ytlfingcmekifkaa

namespace Go.Proofs.Ytlfingcmekifkaa
open Go.RowKit

theorem rdDispAnswer (b : Nat) : Disp Try.prog (.iface 187 (.pointer (some ⟨b, 0, none⟩))) "Answer" 125 (.pointer (some ⟨b, 0, none⟩)) := fun _ _ => by kernel_rfl
theorem fold_snoc {l : List Int} {k : Nat} {x : Int} (h : l[k]? = some x) (a : Int) : (l.take (k + 1)).foldl orI a = orI ((l.take k).foldl orI a) x := by
  rw [List.take_add_one, h]
  simp [List.foldl_append]
theorem w64_take {l : List Int} (h : W64 l) (k : Nat) : W64 (l.take k) := fun x hx => h x (List.mem_of_mem_take hx)
set_option maxRecDepth 100000 in
set_option maxHeartbeats 4000000 in
theorem tlStep1 {w : World} {bt br bs ps n : Nat} {lv : Value} {s : Sc} {all : Int} {ad : Adr} {Mu : Nat → Prop} {lw : Lw} (h : ScS w bs ps n lv s ad Mu lw) (b : ScB n lw s) (hT : TlAt w bt br bs ps lv s all) (hne : (bt ≠ ad.pm ∧ bt ≠ ad.px) ∧ br ≠ ad.pm ∧ br ≠ ad.px ∧ br ≠ ad.pw) (hp : (s.step n lw).1.pc = 3)
    (hM : 0 ≤ (s.step n lw).1.moment ∧ (s.step n lw).1.moment ≤ lw.now) (hN : lw.now ≤ 1048576) (hall : 0 ≤ all ∧ all < 18446744073709551616) (hl : W64 (s.step n lw).1.list) (hln : (s.step n lw).1.list.length ≤ 16) :
    Calls Try.prog 124 #[.pointer (some ⟨bt, 0, none⟩), .pointer (some ⟨ad.pw, 0, none⟩)] w (TlQ w bt br bs ps lv (s.step n lw).1 all ad (s.step n lw).2.mem) := by
  obtain ⟨hb, ⟨kv, hr⟩, _, t1, t2, t3, t4, t5⟩ := hT
  have NS := rdStep1 h b hr ⟨t3, hne.2.2.2, hne.2.1, hne.2.2.1, t5⟩ hp rfl rfl (by omega) (by omega)
  have hd : decide ((s.step n lw).1.pc = 3) = true := by simpa using hp
  have c0 : w.cell? ⟨bt, 0, none⟩ = some (.iface 187 (.pointer (some ⟨br, 0, none⟩))) := cell_of_row w bt 0 _ _ _ hb
  have zb := heap_lt hb
  have zr := heap_lt hr
  obtain ⟨s', hs'⟩ : ∃ X, X = (s.step n lw).1 := ⟨_, rfl⟩
  obtain ⟨mm, hmm⟩ : ∃ X, X = (s.step n lw).2.mem := ⟨_, rfl⟩
  rw [← hs'] at NS hd hp hl hln ⊢
  rw [← hmm] at NS ⊢
  obtain ⟨L, hL⟩ : ∃ L, s'.list.length = L := ⟨_, rfl⟩
  have HLL := hide hL
  have hLb : (L : Int) ≤ 16 := by omega
  have HN := hide NS
  have HD := hide hd
  have HB := hide hb
  have HPP := hide hp
  have HW := hide hl
  have HL := hide hln
  have HALL := hide hall
  clear NS hd h b hb hr hp hM hN hall hl hln hs' hmm hL
  go_enter Try.func124, Try.ntmps124
  go_wp2_with fail
  refine upon_disp1 (rdDispStep br) (by kernel_rfl) HN.out ?_
  rintro e w1 ⟨rfl, ⟨lv', h1, h2⟩, h3, ⟨g, g1, g2, g3⟩, h4⟩
  refine ⟨_, rfl, ?_⟩
  simp only [Act.put, List.setIfInBounds_toArray, List.set_cons_zero, List.set_cons_succ]
  obtain ⟨lA, lc, hlv⟩ := own_slice h1.lst
  subst hlv
  obtain ⟨f1, hrow1, hf1⟩ := h1.row
  have l54 := hrow1.cell (i := 54) (by omega)
  rw [hf1.list, HLL.out] at l54
  have zs1 := hrow1.lt
  have hb1 := (h4.block bt ⟨zb, t1, t2, t4, hne.1.1, hne.1.2⟩).trans HB.out
  have d0 := cell_of_row w1 bt 0 _ _ _ hb1
  have NA := rdAnswer g2 l54 zs1
  have hnb : ∀ a : Addr, lA = some a → a.block ≠ bt := fun a ha e => by
    subst ha
    rcases h2 a.block rfl with h | h
    · exact t4 (by rw [h, e])
    · omega
  have HNA := hide NA
  have HB1 := hide hb1
  have H1 := hide h1
  have H2 := hide h2
  have H3 := hide h3
  have H4 := hide h4
  have G2 := hide g2
  clear h1 h2 h3 h4 HN NA hb1 g2 g3 hrow1 hf1 l54 c0
  go_wp2_with fail
  refine upon_disp0 (rdDispAnswer br) (by kernel_rfl) HNA.out ?_
  rintro e w2 ⟨rfl, hbl⟩
  refine ⟨_, rfl, ?_⟩
  simp only [Act.put, List.setIfInBounds_toArray, List.set_cons_zero, List.set_cons_succ]
  have zz := hbl.size
  have zb1 := heap_lt HB1.out
  have hb2 := (hbl.block bt zb1).trans HB1.out
  have hsl2 : SlW w2 (.slice lA s'.list.length lc) s'.list := (wrow_sl H1.out.lst (by unfold maxLen; have := HL.out; omega)).below hbl (Nat.le_refl _)
  rw [HLL.out] at hsl2
  have HSL := hide hsl2
  have HB2 := hide hb2
  have HBL := hide hbl
  have zb2 := heap_lt hb2
  clear hsl2 hb2 hbl HNA d0
  go_wp2
  go_loopw [27] (fun i wr => ∃ k : Nat, k ≤ L ∧ i = .int .i64 k ∧ Hid (wr.heap[bt]? = some (.cells #[.iface 187 (.pointer (some ⟨br, 0, none⟩)), .int .u64 ((s'.list.take k).foldl orI all)] 196 (0, 0))) ∧ Hid (Keep (fun j => j < w2.heap.size ∧ j ≠ bt) w2 wr)) (fun i _ => L - (intOf i).toNat)
  case atStart => exact ⟨0, Nat.zero_le _, rfl, hide ((heap_alloc_old _ _ (by simpa using zb2)).trans HB2.out), hide ((Keep.refl _ w2).alloc (fun k hk => hk.1) _)⟩
  case round =>
    obtain ⟨k, hk, rfl, hB, hK⟩ := hrel
    have hbk := hB.out
    have e0 := cell_of_row wr bt 0 _ _ _ hbk
    have e1 := cell_of_row wr bt 1 _ _ _ hbk
    have fz := frozen_of_row wr bt 1 _ _ hbk
    have zk := heap_lt hbk
    clear hbk
    by_cases hlt : k < L
    · obtain ⟨x, hx⟩ : ∃ x, s'.list[k]? = some x := ⟨_, List.getElem?_eq_getElem (by rw [HLL.out]; exact hlt)⟩
      obtain ⟨A', c', e, q1, q2, q3⟩ := HSL.out
      obtain ⟨bb, oo, e', hbb, hc⟩ := q3 k x hx
      rw [HLL.out] at e
      cases e
      subst e'
      have c0' := nt_cell hc
      simp only [Nat.mul_one] at c0'
      have hnbb : bb ≠ bt := hnb ⟨bb, oo, none⟩ rfl
      have c0 : wr.cell? ⟨bb, oo + k, none⟩ = some (.int .u64 x) := (hK.out.cell (p := ⟨bb, oo + k, none⟩) ⟨hbb, hnbb⟩).trans c0'
      have hkk : (k : Int) < (L : Int) := by omega
      have hbx := HW.out x (List.mem_of_getElem? hx)
      have hfb := fold_bd (s'.list.take k) all (w64_take HW.out k) HALL.out
      obtain ⟨acc, hacc⟩ : ∃ acc, (s'.list.take k).foldl orI all = acc := ⟨_, rfl⟩
      have hnx := fold_snoc hx all
      rw [hacc] at hfb hnx e1
      have hor : bits .or .u64 acc x = orI acc x := u64_or acc x hfb.1 hfb.2 hbx.1 hbx.2
      have HNX := hide hnx
      have HACC := hide hacc
      clear q3 hc q1 q2 hx c0' hfb hbx hacc hnx
      go_wp2
      go_roundw
      case rel =>
        refine ⟨k + 1, by omega, by go_num, hide ?_, hide (hK.out.trans ((Keep.refl (fun j => j < w2.heap.size ∧ j ≠ bt) wr).setCell (fun hh => hh.2 rfl) _))⟩
        rw [HNX.out]
        refine (cells_set hB.out).trans ?_
        rfl
      case measure => first | (simp [intOf]; done) | (simp [intOf]; omega)
    · obtain rfl : k = L := by omega
      have hnk : ¬ (k : Int) < (k : Int) := by omega
      go_wp2
      go_ret
      have hk1 : Keep (fun j => j < w1.heap.size ∧ j ≠ bt) w1 wr := (Keep.of_below HBL.out (fun j hj => hj.1)).trans (hK.out.mono (fun j hj => ⟨Nat.lt_of_lt_of_le hj.1 zz, hj.2⟩))
      have zpm := H3.out.lt
      have hbe := hB.out
      rw [List.take_of_length_le (by rw [HLL.out]; exact Nat.le_refl _)] at hbe
      refine ⟨by rw [HD.out]; rfl, ⟨_, ⟨?_, ⟨_, (hk1.block br ⟨heap_lt G2.out, Ne.symm t1⟩).trans G2.out⟩, H1.out.keep hk1 ⟨zs1, Ne.symm t2⟩ (fun j hj => ⟨(H1.out.lst.lt j hj).2, fun e => ?_⟩), t1, t2, t3, fun e => ?_, fun e => ?_⟩, H2.out⟩, H3.out.of_blocks (hk1.block _ ⟨zpm.1, Ne.symm hne.1.1⟩) (hk1.block _ ⟨zpm.2, Ne.symm hne.1.2⟩), (H4.out.mono (fun j hj => ⟨hj.1, hj.2.2⟩)).trans (hk1.mono (fun j hj => ⟨Nat.lt_of_lt_of_le hj.1 H4.out.size, hj.2.1⟩))⟩
      · rw [if_pos HPP.out]
        exact hbe
      · rcases H2.out j hj with h | h
        · exact t4 (by rw [h, e])
        · omega
      · rcases H2.out _ e with h | h
        · exact t4 h
        · omega
      · rcases H2.out _ e with h | h
        · exact t5 h
        · omega
end Go.Proofs.Ytlfingcmekifkaa

namespace Go.Proofs.Ytlfingcmekifkaa
open Go.RowKit

section
variable {pe ps n p : Nat} {w : World} {Fo Fm Mu : Nat → Prop} {ad : Adr} {v : Value} {o : Lat} {lw : Lw} {N : Int} {hs : Nat → Option LM} {t : Nat}
/-- The blocks of a machine are no others. -/
theorem La.nf (hO : LaOB pe ps w Fo o) (c1 : ∀ k, Fo k → ¬ Fm k ∧ ¬ ad.four k) (c2 : ∀ k, Fm k → ¬ ad.four k) : ∀ k, Fm k → k ≠ ad.pw ∧ k ≠ ad.pm ∧ k ≠ ad.px ∧ k ≠ ad.pt ∧ k ≠ pe ∧ k ≠ ps := fun k hk =>
  ⟨fun e => c2 k hk (Or.inl e), fun e => c2 k hk (Or.inr (Or.inl e)), fun e => c2 k hk (Or.inr (Or.inr (Or.inl e))), fun e => c2 k hk (Or.inr (Or.inr (Or.inr e))), fun e => (c1 pe ((hO.blk pe).2 (Or.inl rfl))).1 (e ▸ hk), fun e => (c1 ps ((hO.blk ps).2 (Or.inr rfl))).1 (e ▸ hk)⟩
/-- A teller's step. -/
theorem tlStepW {bt br bs : Nat} {lv : Value} {s : Sc} {all : Int} (hO : LaOB pe ps w Fo o) (hW : WL w ad Mu lw) (c1 : ∀ k, Fo k → ¬ Fm k ∧ ¬ ad.four k) (c2 : ∀ k, Fm k → ¬ ad.four k) (c3 : ∀ k, Fo k ∨ Fm k ∨ ad.four k → Mu k) (hn : o.n = n) (hn16 : n ≤ 16) (hT : TlAt w bt br bs ps lv s all) (hF : ∀ k, TlF bt br bs lv k → Fm k)
    (hB : ScB n lw s) (hM : (s.step n lw).1.pc = 3 → 0 ≤ (s.step n lw).1.moment ∧ (s.step n lw).1.moment ≤ lw.now ∧ (s.step n lw).1.list.length = n) (hN : lw.now ≤ 1048576) (hall : 0 ≤ all ∧ all < 18446744073709551616) (hl : W64 s.list) (hw : W64 lw.mem.words) :
    Calls Try.prog 124 #[.pointer (some ⟨bt, 0, none⟩), .pointer (some ⟨ad.pw, 0, none⟩)] w (TlQ w bt br bs ps lv (s.step n lw).1 all ad (s.step n lw).2.mem) := by
  have hS := hO.scS hW hn hn16 hT.sc (hF bs (Or.inr (Or.inr (Or.inl rfl)))) (fun k hk => hF k (Or.inr (Or.inr (Or.inr hk)))) c1 c2 c3
  have q1 := La.nf hO c1 c2 bt (hF bt (Or.inl rfl))
  have q2 := La.nf hO c1 c2 br (hF br (Or.inr (Or.inl rfl)))
  by_cases hp : (s.step n lw).1.pc = 3
  · obtain ⟨m1, m2, m3⟩ := hM hp
    exact tlStep1 hS hB hT ⟨⟨q1.2.1, q1.2.2.1⟩, q2.2.1, q2.2.2.1, q2.1⟩ hp ⟨m1, m2⟩ hN hall (scstep_w64 (n := n) hl hw).1 (by omega)
  · exact tlStep0 hS hB hT ⟨⟨q1.2.1, q1.2.2.1⟩, q2.2.1, q2.2.2.1⟩ hp
theorem TlQ.own {w w' : World} {bt br bs : Nat} {lv : Value} {s' : Sc} {all : Int} {m' : Mm} {e : Ending} (h : TlQ w bt br bs ps lv s' all ad m' e w') : ∃ lv', TlAt w' bt br bs ps lv' s' (if s'.pc = 3 then s'.list.foldl orI all else all) ∧ ∀ k, TlF bt br bs lv' k → TlF bt br bs lv k ∨ w.heap.size ≤ k := by
  obtain ⟨_, ⟨lv', h1, h2⟩, _⟩ := h
  refine ⟨lv', h1, fun k hk => ?_⟩
  rcases hk with h | h | h | h
  · exact Or.inl (Or.inl h)
  · exact Or.inl (Or.inr (Or.inl h))
  · exact Or.inl (Or.inr (Or.inr (Or.inl h)))
  · rcases h2 k h with h | h
    · exact Or.inl (Or.inr (Or.inr (Or.inr h)))
    · exact Or.inr h
theorem latStepTl {s : Sc} {all : Int} (hG : LGood n p N o lw hs) (hw : lw.now = N + 1) (hO : LaOB pe ps w Fo o) (hm : latML pe ps w Fm v (.tell s all)) (hW : WL w ad Mu lw) (hh : hs t = some (.tell s all)) (hN : lw.now ≤ 1048576) (c1 : ∀ k, Fo k → ¬ Fm k ∧ ¬ ad.four k) (c2 : ∀ k, Fm k → ¬ ad.four k) (c3 : ∀ k, Fo k ∨ Fm k ∨ ad.four k → Mu k) :
    ∃ f r, Disp Try.prog v "Step" f r ∧ Calls Try.prog f #[r, .pointer (some ⟨ad.pw, 0, none⟩)] w (latStepQ pe ps w Fo Fm ad Mu v (latStep o lw (.tell s all))) := by
  have hFl := latML_lt hm
  obtain ⟨bt, br, bs, lv, rfl, hT, hF⟩ := hm
  obtain ⟨_, _, _, hB, hM⟩ := hG.tell hw hh
  obtain ⟨k1, k2, k3⟩ := hG.mok t _ hh
  refine ⟨_, _, tlDispStep bt, (tlStepW hO hW c1 c2 c3 hG.on.1 hG.np.1.2 hT (fun k hk => (hF k).2 hk) hB hM hN k3 k2 hG.w64).mono fun e w' h => ?_⟩
  obtain ⟨lv', a1, a2⟩ := h.own
  obtain ⟨rfl, _, b3, b4⟩ := h
  have hkk : Keep (fun k => k < w.heap.size ∧ ¬ Fm k ∧ k ≠ ad.pm ∧ k ≠ ad.px) w w' := b4.mono (fun k hk => ⟨hk.1, fun e => hk.2.1 ((hF k).2 (Or.inl e)), fun e => hk.2.1 ((hF k).2 (Or.inr (Or.inl e))), fun e => hk.2.1 ((hF k).2 (Or.inr (Or.inr (Or.inl e)))), fun e => hk.2.1 ((hF k).2 (Or.inr (Or.inr (Or.inr e)))), hk.2.2⟩)
  have hF' : ∀ k, TlF bt br bs lv' k → Fm k ∨ w.heap.size ≤ k := fun k hk => (a2 k hk).imp (hF k).2 id
  have hlw := sc_lw n lw s
  unfold latStep
  rw [hG.on.1]
  dsimp only
  by_cases hp : (s.step n lw).1.pc = 3
  · rw [if_pos hp] at a1 ⊢
    rw [hlw]
    exact lat_after (Fm' := TlF bt br bs lv') (m' := .tell (s.step n lw).1 ((s.step n lw).1.list.foldl orI all)) hO hW hFl c1 c2 c3 (by rw [decide_eq_true hp]) ⟨bt, br, bs, lv', rfl, a1, fun k => Iff.rfl⟩ (fun _ => ⟨bt, br, bs, lv', rfl, a1, fun k => Iff.rfl⟩) b3 hF' hkk
  · rw [if_neg hp] at a1 ⊢
    rw [hlw]
    exact lat_after (Fm' := TlF bt br bs lv') (m' := .tell (s.step n lw).1 all) hO hW hFl c1 c2 c3 (by rw [decide_eq_false hp]) ⟨bt, br, bs, lv', rfl, a1, fun k => Iff.rfl⟩ (fun h => by cases h) b3 hF' hkk
theorem latStepGt {t' : Nat} {vv : Int} {s : Sc} {all : Int} (hG : LGood n p N o lw hs) (hw : lw.now = N + 1) (hO : LaOB pe ps w Fo o) (hm : latML pe ps w Fm v (.gtl t' vv s all)) (hW : WL w ad Mu lw) (hh : hs t = some (.gtl t' vv s all)) (hN : lw.now ≤ 1048576) (c1 : ∀ k, Fo k → ¬ Fm k ∧ ¬ ad.four k) (c2 : ∀ k, Fm k → ¬ ad.four k) (c3 : ∀ k, Fo k ∨ Fm k ∨ ad.four k → Mu k) :
    ∃ f r, Disp Try.prog v "Step" f r ∧ Calls Try.prog f #[r, .pointer (some ⟨ad.pw, 0, none⟩)] w (latStepQ pe ps w Fo Fm ad Mu v (latStep o lw (.gtl t' vv s all))) := by
  have hFl := latML_lt hm
  obtain ⟨bg, bt, br, bs, lv, rfl, ⟨hg, hT, g1, g2, g3, g4⟩, hF⟩ := hm
  obtain ⟨_, _, _, _, hB, hM⟩ := hG.gtl hw hh
  obtain ⟨k1, k2, k3, k4⟩ := hG.mok t _ hh
  have NT := tlStepW hO hW c1 c2 c3 hG.on.1 hG.np.1.2 hT (fun k hk => (hF k).2 (Or.inr hk)) hB hM hN k4 k2 hG.w64
  have qg := La.nf hO c1 c2 bg ((hF bg).2 (Or.inl rfl))
  have zg := heap_lt hg
  have hlw := sc_lw n lw s
  have hgk : ∀ e w', TlQ w bt br bs ps lv (s.step n lw).1 all ad (s.step n lw).2.mem e w' → w'.heap[bg]? = w.heap[bg]? := fun e w' h => h.2.2.2.block bg ⟨zg, g1, g2, g3, g4, qg.2.1, qg.2.2.1⟩
  refine ⟨_, _, gvDispStep bg, ?_⟩
  have fin : ∀ {e : Ending} {w' : World} {all' : Int} {d : Bool}, TlQ w bt br bs ps lv (s.step n lw).1 all ad (s.step n lw).2.mem e w' → decide ((s.step n lw).1.pc = 3) = d → (if (s.step n lw).1.pc = 3 then (s.step n lw).1.list.foldl orI all else all) = all' → latStepQ pe ps w Fo Fm ad Mu (gvV bg) (o, (s.step n lw).2, .gtl t' vv (s.step n lw).1 all', d) e w' := by
    intro e w' all' d h hd ha
    have hgb := (hgk e w' h).trans hg
    obtain ⟨lv', a1, a2⟩ := h.own
    have hlv : lv'.ownBlock ≠ some bg := fun e => by
      rcases a2 bg (Or.inr (Or.inr (Or.inr e))) with h | h
      · rcases h with h | h | h | h
        · exact g1 h
        · exact g2 h
        · exact g3 h
        · exact g4 h
      · omega
    obtain ⟨rfl, _, b3, b4⟩ := h
    rw [hd] at *
    rw [ha] at a1
    have hkk : Keep (fun k => k < w.heap.size ∧ ¬ Fm k ∧ k ≠ ad.pm ∧ k ≠ ad.px) w w' := b4.mono (fun k hk => ⟨hk.1, fun e => hk.2.1 ((hF k).2 (Or.inr (Or.inl e))), fun e => hk.2.1 ((hF k).2 (Or.inr (Or.inr (Or.inl e)))), fun e => hk.2.1 ((hF k).2 (Or.inr (Or.inr (Or.inr (Or.inl e))))), fun e => hk.2.1 ((hF k).2 (Or.inr (Or.inr (Or.inr (Or.inr e))))), hk.2.2⟩)
    have hF' : ∀ k, (k = bg ∨ TlF bt br bs lv' k) → Fm k ∨ w.heap.size ≤ k := fun k hk => by
      rcases hk with hk | hk
      · exact Or.inl ((hF k).2 (Or.inl hk))
      · exact (a2 k hk).imp (fun h => (hF k).2 (Or.inr h)) id
    rw [hlw]
    exact lat_after (Fm' := fun k => k = bg ∨ TlF bt br bs lv' k) hO hW hFl c1 c2 c3 rfl ⟨bg, bt, br, bs, lv', rfl, ⟨hgb, a1, g1, g2, g3, hlv⟩, fun k => Iff.rfl⟩ (fun _ => ⟨bg, bt, br, bs, lv', rfl, ⟨hgb, a1, g1, g2, g3, hlv⟩, fun k => Iff.rfl⟩) b3 hF' hkk
  unfold latStep
  rw [hG.on.1]
  dsimp only
  by_cases hp : (s.step n lw).1.pc = 3
  · rw [if_pos hp]
    refine (gvStepT hg (tlDispStep bt) NT (fun e w' h => ⟨by rw [h.1, decide_eq_true hp], hgk e w' h⟩)).mono fun e w' h => ?_
    exact fin h (decide_eq_true hp) (if_pos hp)
  · rw [if_neg hp]
    refine (gvStepF hg (tlDispStep bt) NT (fun e w' h => by rw [h.1, decide_eq_false hp])).mono fun e w' h => ?_
    exact fin h (decide_eq_false hp) (if_neg hp)
end
end Go.Proofs.Ytlfingcmekifkaa
