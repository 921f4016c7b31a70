/- Agreeing (package cons): a proposal's second step; the object is one that a loom plays (cnTh_ok). -/
import Derived.Test.YtfghmlpjbedomaaGreatCn2
namespace Go.Proofs.YtfghmlpjbedomaaGreat
open Go.RowKit

set_option maxRecDepth 100000 in
set_option maxHeartbeats 2000000 in
theorem cnStep1W {w : World} {b t : Nat} {v : Int} {ad : Adr} {Mu : Nat → Prop} {lw : Lw} (hW : WL w ad Mu lw) (hb : w.heap[b]? = some (.cells (cnA t 1 v) 278 (0, 0))) (hne : ¬ ad.four b) :
    Calls Tryz.prog 230 #[.pointer (some ⟨b, 0, none⟩), .pointer (some ⟨ad.pw, 0, none⟩)] w fun e w' => e = .returned (.bool true) ∧ w'.heap[b]? = some (.cells (cnA t 1 ((lw.mem.tell 0 0 0 - 1) % 18446744073709551616)) 278 (0, 0)) ∧ MemAt w' ad.pm ad.px .nilFunc (lw.mem.acc 0 0 0 0) ∧ Keep (fun k => k < w.heap.size ∧ k ≠ b ∧ k ≠ ad.pm ∧ k ≠ ad.px) w w' := by
  obtain ⟨n1, n2, n3⟩ : b ≠ ad.pw ∧ b ≠ ad.pm ∧ b ≠ ad.px := ⟨fun e => hne (Or.inl e), fun e => hne (Or.inr (Or.inl e)), fun e => hne (Or.inr (Or.inr (Or.inl e)))⟩
  have HB := hide hb
  unfold cnA at hb
  obtain ⟨c0, c1, c2, c3, hz⟩ := cells4 hb
  have cw := hW.ptr
  have zw1 := hW.lt.1
  obtain ⟨q1, q2, _⟩ := hW.ne
  have N := memRead ad.pm ad.px 0 lw.mem w.drew (hW.mem.of_blocks rfl rfl)
  obtain ⟨x, hx⟩ : ∃ x, lw.mem.tell 0 0 0 = x := ⟨_, rfl⟩
  obtain ⟨y, hy⟩ : ∃ y : Int, (x - 1) % 18446744073709551616 = y := ⟨_, rfl⟩
  have k1 : IntKind.u64.wrap (x - 1) = y := by rw [IntKind.wrap_u64, hy]
  rw [hx] at N ⊢
  rw [hy]
  have HN := hide N
  have HY := hide hy
  clear N hW hb hx hy
  go_enter Tryz.func230, Tryz.ntmps230
  go_upto_region 6 with fail
  refine wp_region_seq (fun Y => Y.cell? ⟨ad.pw, 0, none⟩ = some (.pointer (some ⟨ad.pm, 0, none⟩)) ∧ Y.cell? ⟨b, 0, none⟩ = some (.int .i64 0)) (.take 0 <| .take 1 <| .take 2 <| .take 3 <| .take 4 <| .take 5 <| .take 6 <| .take 7 <| .take 8 <| .run 9 <| .take 10 <| .take 11 <| .take 12 <| .run 13 <| .done) (by kernel_rfl) (by kernel_rfl) (by kernel_rfl) (by refine ⟨?_, ?_⟩ <;> go_simp) ?_
  iterate 9 (refine seq_take (v := ?_) rfl (by rfl) ?_ ?_; rotate_left; (focus (intro wS hS; obtain ⟨s0, s1⟩ := hS; go_simp; exact rfl)); simp only [Act.put, List.setIfInBounds_toArray, List.set_cons_zero, List.set_cons_succ])
  (refine seq_run rfl (by rfl) (fun K hK => ?_); go_simp)
  refine HN.out.mono ?_
  rintro e w1 ⟨rfl, hm1, hk1⟩
  have hk1' : Keep (fun k => k ≠ ad.pm ∧ k ≠ ad.px ∧ k < w.heap.size) w w1 := ((Keep.refl _ w).drew).trans hk1
  have hb1 := (hk1'.block b ⟨n2, n3, hz⟩).trans HB.out
  have HB1 := hide hb1
  unfold cnA at hb1
  obtain ⟨d0, d1, d2, d3, hz1⟩ := cells4 hb1
  have f3 := frozen_of_row w1 b 3 _ _ hb1
  refine hK _ _ ⟨(hk1'.cell (p := ⟨ad.pw, 0, none⟩) ⟨q1, q2, zw1⟩).trans cw, d0⟩ ?_
  have dw := (hk1'.cell (p := ⟨ad.pw, 0, none⟩) ⟨q1, q2, zw1⟩).trans cw
  have HM1 := hide hm1
  have HK1 := hide hk1'
  have hpb : ¬ ad.pw = b := fun e => n1 e.symm
  clear hK K hm1 hk1 hk1' hb1 HN c0 c1 c2 c3 cw
  iterate 3 (refine seq_take (v := ?_) rfl (by rfl) ?_ ?_; rotate_left; (focus (intro wS hS; obtain ⟨s0, s1⟩ := hS; go_simp; exact rfl)); simp only [Act.put, List.setIfInBounds_toArray, List.set_cons_zero, List.set_cons_succ])
  (refine seq_run rfl (by rfl) (fun K hK => ?_); go_simp)
  refine hK _ _ (by refine ⟨?_, ?_⟩ <;> go_simp) ?_
  clear hK K
  refine seq_nil ?_
  go_wp2
  go_ret
  have hk2 : Keep (fun k => k ≠ b) w1 (w1.setCell ⟨b, 3, none⟩ (.int .u64 y)) := (Keep.refl _ w1).setCell (by simp) _
  exact ⟨rfl, (cells_set HB1.out).trans rfl, HM1.out.of_blocks (hk2.block _ (Ne.symm n2)) (hk2.block _ (Ne.symm n3)), (HK1.out.mono (fun k hk => ⟨hk.2.2.1, hk.2.2.2, hk.1⟩)).trans (hk2.mono (fun k hk => hk.2.1))⟩
def cnTh : Th CM Unit := ⟨cnG, [cnV], cnOB, cnML, cnAL, cnGood, cnGood, cnCl⟩
theorem cnTh_ok : cnTh.Ok := by
  refine ⟨fun h _ _ => h, ?_, ?_, ?_, ?_, ?_, ?_, ?_, ?_, ?_, cnG_still, ?_, ?_, ?_, ?_, ?_⟩
  · intro w F o h k hk
    exact absurd hk (h k)
  · intro w w' F v m S h hk hS
    cases m with
    | no e => exact NoAt.keep h hk hS
    | prop t pc vv => exact cnPr_keep h hk hS
  · intro w w' F v m S h hk hS
    cases m with
    | no e => exact NoAl.keep h hk hS
    | prop t pc vv => exact cnPr_keep h hk hS
  · intro w F v m h
    cases m with
    | no e => exact NoAt.lt h
    | prop t pc vv => exact cnPr_lt h
  · intro w F v m h
    cases m with
    | no e => exact NoAt.iface h
    | prop t pc vv =>
      obtain ⟨b, h1, _⟩ := h
      exact ⟨_, _, h1⟩
  · intro v hv
    have := List.mem_singleton.1 hv
    exact ⟨_, _, this⟩
  · intro w Fo o lw hs t j c v hO hg hn ht hc hu hq hj hv
    have hj0 : j = 0 := by
      rcases j with _ | j
      · rfl
      · simp [cnTh] at hv
    subst hj0
    have hv : v = cnV := by
      simp [cnTh] at hv
      exact hv.symm
    subst hv
    refine ⟨_, _, cnDispStart, fun pw => (cnStartW (t := t) hq pw).mono ?_⟩
    rintro e w' ⟨b, rfl, h1, h2, h3⟩
    have hz : ¬ c.obj ≠ 0 := by simpa using hj
    refine ⟨Fo, fun k => k = b, _, rfl, hO, ?_, fun k hk => Or.inl hk, fun k hk => Or.inr (by rw [hk]; exact h2), fun k hk => absurd hk (hO k), Keep.of_below h3 (fun k hk => hk.1)⟩
    show cnML w' _ _ (cnStart c)
    unfold cnStart
    rw [if_neg hz]
    have ht' : c.thread.toNat = t := by omega
    rw [ht']
    exact ⟨b, rfl, h1, fun k => Iff.rfl⟩
  · intro o t c h
    have hne : c.obj ≠ 0 := fun e => h (by rw [e]; simp [cnTh])
    have hst : cnStart c = .no 12 := by unfold cnStart; rw [if_pos hne]
    refine ⟨rfl, fun w b b1 hno => ?_⟩
    show cnML w _ _ (cnStart c)
    rw [hst]
    exact noAt_made hno
  · intro w Fo Fm v m o lw hs ad Mu t hO hM hW hh hg hn0 hn1 ht c1 c2 c3 c4 c5
    have hlt := hW.lt
    have hwn := hW.ne
    cases m with
    | no e =>
      obtain ⟨f, r, hd, hc⟩ := NoAt.step hM ad.pw
      refine ⟨f, r, hd, hc.mono ?_⟩
      rintro x w' ⟨rfl, a1, a2, a3⟩
      have hkk : ∀ k, ad.four k → k < w.heap.size ∧ ¬ Fm k := fun k hk => ⟨c5 k (c3 k (Or.inr (Or.inr hk))), fun h => c2 k h hk⟩
      refine ⟨Fo, Fm, rfl, hO, a1, fun _ => a2, ?_, fun k hk => by rcases hk with h | h; exact Or.inl h; exact Or.inr (Or.inl h), fun k hk => (c1 k hk).1, a3.mono (fun k hk => ⟨hk.1, hk.2.2.1⟩)⟩
      refine hW.keep a3 (fun k h1 h2 => ⟨h1, fun h => h2 (c3 k (Or.inr (Or.inl h)))⟩) (fun k _ hm => ?_) (hkk _ (Or.inl rfl)) (hkk _ (Or.inr (Or.inl rfl))) (hkk _ (Or.inr (Or.inr (Or.inl rfl)))) (hkk _ (Or.inr (Or.inr (Or.inr rfl))))
      rcases hm with hm | hm | hm
      · exact hm.1
      · exact c3 k (Or.inl hm)
      · exact c3 k (Or.inr (Or.inl hm))
    | prop t' pc vv =>
      obtain ⟨b, rfl, hb, hF⟩ := hM
      obtain ⟨k1, k2, k3, k4, k5⟩ := hg.2 t _ hh
      subst k1
      have hFb := (hF b).2 rfl
      have hne := c2 b hFb
      refine ⟨_, _, cnDispStep b, ?_⟩
      by_cases h0 : pc = 0
      · subst h0
        refine (cnStep0W (Mu' := fun k => (Mu k ∧ ¬ Fo k ∧ ¬ Fm k) ∨ Fo k ∨ Fm k) hW hb hne ht ⟨k4, k5⟩ ⟨hn0, hn1⟩ (fun k hk => c3 k (Or.inr (Or.inr hk))) (c3 b (Or.inr (Or.inl hFb))) (fun k hk => ?_)).mono ?_
        · have : Mu k := by
            rcases hk with hk | hk | hk
            · exact hk.1
            · exact c3 k (Or.inl hk)
            · exact c3 k (Or.inr (Or.inl hk))
          exact ⟨c5 k this, this⟩
        · rintro e w' ⟨rfl, a1, a2, a3⟩
          exact ⟨Fo, Fm, rfl, hO, ⟨b, rfl, a1, hF⟩, fun h => (by cases h), a2, fun k hk => by rcases hk with h | h; exact Or.inl h; exact Or.inr (Or.inl h), fun k hk => (c1 k hk).1, a3.mono (fun k hk => ⟨hk.1, fun e => hk.2.2.1 ((hF k).2 e), hk.2.2.2⟩)⟩
      · obtain rfl : pc = 1 := by omega
        refine (cnStep1W hW hb hne).mono ?_
        rintro e w' ⟨rfl, a1, a2, a3⟩
        have n4 : ∀ k, ¬ ad.four k → k ≠ ad.pm ∧ k ≠ ad.px := fun k hk => ⟨fun e => hk (Or.inr (Or.inl e)), fun e => hk (Or.inr (Or.inr (Or.inl e)))⟩
        refine ⟨Fo, Fm, rfl, hO, ⟨b, rfl, a1, hF⟩, fun _ => ⟨b, rfl, a1, hF⟩, ?_, fun k hk => by rcases hk with h | h; exact Or.inl h; exact Or.inr (Or.inl h), fun k hk => (c1 k hk).1, a3.mono (fun k hk => ⟨hk.1, fun e => hk.2.2.1 ((hF k).2 e), n4 k hk.2.2.2⟩)⟩
        refine hW.memTo2 a2 a3 (fun k h1 h2 => ⟨h1, fun e => h2 (c3 k (Or.inr (Or.inl ((hF k).2 e)))), n4 k (fun h => h2 (c3 k (Or.inr (Or.inr h))))⟩) ⟨?_, ?_⟩ (fun k hk hm => ?_)
        · exact ⟨hlt.1, fun e => hne (e ▸ Or.inl rfl), hwn.1, hwn.2.1⟩
        · exact ⟨hlt.2.2.2, fun e => hne (e ▸ Or.inr (Or.inr (Or.inr rfl))), hwn.2.2.2.1, hwn.2.2.2.2.1⟩
        · rcases hm with hm | hm | hm
          · exact hm.1
          · exact c3 k (Or.inl hm)
          · exact c3 k (Or.inr (Or.inl hm))
  · intro w Fm v m o h
    cases m with
    | no e => exact NoAl.ans h _
    | prop t pc vv =>
      obtain ⟨b, rfl, h2, _⟩ := h
      refine ⟨_, _, cnDispAnswer b, (cnAnswerW w h2).mono ?_⟩
      rintro x w' ⟨rfl, hb⟩
      exact ⟨_, _, rfl, LstIs.nil _ _, KeyIs.nil _ _, hb⟩
  · intro w Fm v m h
    refine ⟨?_, fun _ _ => rfl⟩
    cases m with
    | no e => exact NoAt.late h
    | prop t pc vv =>
      obtain ⟨b, rfl, _⟩ := h
      exact cnLate _
  · intro o lw hs t c hg hn ht hq hc hu
    exact cnGood_start hg ht hc hu.1.1 hq
  · intro o lw hs hg
    exact hg
  · intro o lw hs t m hg hm ht
    exact cnGood_step hg hm
end Go.Proofs.YtfghmlpjbedomaaGreat
