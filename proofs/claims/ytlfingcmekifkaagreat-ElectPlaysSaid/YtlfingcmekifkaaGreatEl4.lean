import Derived.Test.YtlfingcmekifkaaGreatBun21
namespace Go.Proofs.YtlfingcmekifkaaGreat
open Go.RowKit
def elStepQ (pe : Nat) (w : World) (Fo Fm : Nat → Prop) (ad : Adr) (Mu : Nat → Prop) (v : Value) (r : El × Lw × EM × Bool) (e : Ending) (w' : World) : Prop :=
  ∃ Fo' Fm', e = .returned (.bool r.2.2.2) ∧ elOB pe w' Fo' r.1 ∧ elML pe w' Fm' v r.2.2.1 ∧ (r.2.2.2 = true → elAL pe w' Fm' v r.2.2.1) ∧ WL w' ad (fun k => (Mu k ∧ ¬ Fo k ∧ ¬ Fm k) ∨ Fo' k ∨ Fm' k) r.2.1 ∧
    (∀ k, Fo' k ∨ Fm' k → Fo k ∨ Fm k ∨ w.heap.size ≤ k) ∧ (∀ k, Fo' k → ¬ Fm' k) ∧ Keep (fun k => k < w.heap.size ∧ ¬ Fo k ∧ ¬ Fm k ∧ ¬ ad.four k) w w'
section
variable {pe : Nat} {w w' : World} {Fo Fm : Nat → Prop} {ad : Adr} {Mu : Nat → Prop} {v : Value} {o : El} {lw : Lw}
theorem elS_of {t : Nat} {vv : Int} {l : Bool} (hO : elOB pe w Fo o) (hP : elPr pe w Fm v t vv l) (hW : WL w ad Mu lw) (c1 : ∀ k, Fo k → ¬ Fm k ∧ ¬ ad.four k) (c2 : ∀ k, Fm k → ¬ ad.four k) (ht : t < 16) (hv : 0 ≤ vv ∧ vv ≤ 16) :
    ∃ b, v = .iface 277 (.pointer (some ⟨b, 0, none⟩)) ∧ ElS w pe b ad.pw ad.pm ad.px t vv l lw.mem ∧ (∀ k, Fm k ↔ k = b) := by
  obtain ⟨b, h1, h2, h4⟩ := hP
  obtain ⟨a1, f, a2, a3, a4, a5⟩ := hO
  obtain ⟨n1, n2, n3, n4, n5, n6⟩ := hW.ne
  have hFb := (h4 b).2 rfl
  have hFe := (a1 pe).2 rfl
  have f4 : ∀ k, ¬ ad.four k → k ≠ ad.pw ∧ k ≠ ad.pm ∧ k ≠ ad.px := fun k hk => ⟨fun e => hk (Or.inl e), fun e => hk (Or.inr (Or.inl e)), fun e => hk (Or.inr (Or.inr (Or.inl e)))⟩
  have b4 := f4 b (c2 b hFb)
  have e4 := f4 pe (c1 pe hFe).2
  refine ⟨b, h1, ⟨h2, ?_, hW.ptr, hW.mem, ⟨a2.lt, hW.lt.1⟩, ⟨b4.2.1, b4.2.2, fun e => (c1 pe hFe).1 (e ▸ hFb), b4.1, e4.2.1, e4.2.2, e4.1, n1, n2⟩, ht, hv⟩, h4⟩
  rw [← a3]
  exact a2.cell (i := 0) (by omega)
theorem el_after {b t : Nat} {v' : Int} {l' : Bool} {d : Bool} {m' : Mm} {e : Ending} (hO : elOB pe w Fo o) (hW : WL w ad Mu lw) (c1 : ∀ k, Fo k → ¬ Fm k ∧ ¬ ad.four k) (c2 : ∀ k, Fm k → ¬ ad.four k) (c3 : ∀ k, Fo k ∨ Fm k ∨ ad.four k → Mu k)
    (hv : v = .iface 277 (.pointer (some ⟨b, 0, none⟩))) (hF : ∀ k, Fm k ↔ k = b) (hA : ElP w pe b ad.pm ad.px t d v' l' m' e w') :
    elStepQ pe w Fo Fm ad Mu v (o, { lw with mem := m' }, .stand t v' l', d) e w' := by
  obtain ⟨rfl, h1, h3, h6⟩ := hA
  have hO' := hO
  obtain ⟨a1, f, a2, a3, a4, a5⟩ := hO'
  have hlt := hW.lt
  have hn := hW.ne
  have hFn : ∀ k, k < w.heap.size → ¬ Fm k → k ≠ ad.pm → k ≠ ad.px → k < w.heap.size ∧ k ≠ b ∧ k ≠ ad.pm ∧ k ≠ ad.px := fun k h1 h2 h3 h4 => ⟨h1, fun e => h2 ((hF k).2 e), h3, h4⟩
  have hFoS : ∀ k, Fo k → k < w.heap.size ∧ k ≠ b ∧ k ≠ ad.pm ∧ k ≠ ad.px := fun k hk => by
    obtain ⟨g1, g2⟩ := c1 k hk
    refine hFn k ?_ g1 (fun e => g2 (Or.inr (Or.inl e))) (fun e => g2 (Or.inr (Or.inr (Or.inl e))))
    rw [(a1 k).1 hk]
    exact a2.lt
  refine ⟨Fo, Fm, rfl, elOB_keep hO h6 hFoS, ⟨b, hv, h1, hF⟩, fun _ => ⟨b, hv, h1, hF⟩, ?_, ?_, ?_, ?_⟩
  · refine hW.memTo2 h3 h6 (fun k h1 h2 => hFn k h1 (fun h => h2 (c3 k (Or.inr (Or.inl h)))) (fun e => h2 (c3 k (Or.inr (Or.inr (Or.inr (Or.inl e)))))) (fun e => h2 (c3 k (Or.inr (Or.inr (Or.inr (Or.inr (Or.inl e)))))))) ⟨?_, ?_⟩ (fun k hk hm => ?_)
    · exact hFn _ hlt.1 (fun h => c2 _ h (Or.inl rfl)) hn.1 hn.2.1
    · exact hFn _ hlt.2.2.2 (fun h => c2 _ h (Or.inr (Or.inr (Or.inr rfl)))) hn.2.2.2.1 hn.2.2.2.2.1
    · rcases hm with hm | hm | hm
      · exact hm.1
      · exact c3 k (Or.inl hm)
      · exact c3 k (Or.inr (Or.inl hm))
  · intro k hk
    rcases hk with hk | hk
    · exact Or.inl hk
    · exact Or.inr (Or.inl hk)
  · intro k hk hm
    exact (c1 k hk).1 hm
  · exact h6.mono (fun k hk => hFn k hk.1 hk.2.2.1 (fun e => hk.2.2.2 (Or.inr (Or.inl e))) (fun e => hk.2.2.2 (Or.inr (Or.inr (Or.inl e)))))
end
theorem tell2_one {m : Mm} {a x : Int} (h : m.tell 2 a x ≠ 0) : m.tell 2 a x = 1 := by
  unfold Mm.tell acV at h ⊢
  split
  · rename_i hin
    rw [if_pos hin] at h
    rw [if_neg (by decide), if_neg (by decide), if_pos rfl] at h ⊢
    split
    · rfl
    · rename_i hx
      rw [if_neg hx] at h
      exact absurd rfl h
  · rename_i hin
    rw [if_neg hin] at h
    exact absurd rfl h
theorem elDispStart (pe : Nat) : Disp Tryz.prog (.iface 71 (.pointer (some ⟨pe, 0, none⟩))) "Start" 179 (.pointer (some ⟨pe, 0, none⟩)) := fun _ _ => by kernel_rfl
theorem elDispStep (b : Nat) : Disp Tryz.prog (.iface 277 (.pointer (some ⟨b, 0, none⟩))) "Step" 218 (.pointer (some ⟨b, 0, none⟩)) := fun _ _ => by kernel_rfl
theorem elDispAnswer (b : Nat) : Disp Tryz.prog (.iface 277 (.pointer (some ⟨b, 0, none⟩))) "Answer" 217 (.pointer (some ⟨b, 0, none⟩)) := fun _ _ => by kernel_rfl
set_option maxRecDepth 100000 in
theorem elAnswerW {pe b t : Nat} {vv : Int} {l : Bool} (w : World) (hb : w.heap[b]? = some (.cells (stA pe t vv l) 279 (0, 0))) :
    Calls Tryz.prog 217 #[.pointer (some ⟨b, 0, none⟩)] w fun e w' => e = .returned (.tuple #[.agg #[.int .i64 0, .int .u64 (if l then 1 else 0), .slice none 0 0], .slice none 0 0]) ∧ Below w.heap.size w w' := by
  obtain ⟨c0, c1, c2, c3, hz⟩ := cells4 hb
  clear hb
  rcases l with _ | _
  · go_enter Tryz.func217, Tryz.ntmps217
    go_wp2
    refine bodyPost_ret (v := .tuple #[.agg #[.int .i64 0, .int .u64 0, .slice none 0 0], .slice none 0 0]) (by simp [results, Tryz.results217, go_sem, *]) rfl ⟨rfl, ?_⟩
    (repeat' (first | exact Below.refl _ _ | assumption | refine Below.drew ?_ | refine below_drewN ?_ _ | refine Below.alloc ?_ (by simp <;> omega) _ | refine Below.setCell ?_ (by simp <;> omega) _))
  · go_enter Tryz.func217, Tryz.ntmps217
    go_wp2
    refine bodyPost_ret (v := .tuple #[.agg #[.int .i64 0, .int .u64 1, .slice none 0 0], .slice none 0 0]) (by simp [results, Tryz.results217, go_sem, *]) rfl ⟨rfl, ?_⟩
    (repeat' (first | exact Below.refl _ _ | assumption | refine Below.drew ?_ | refine below_drewN ?_ _ | refine Below.alloc ?_ (by simp <;> omega) _ | refine Below.setCell ?_ (by simp <;> omega) _))
theorem elTh_ok (pe : Nat) (n : Int) : (elTh pe n).Ok := by
  refine ⟨fun h hk hS => elOB_keep h hk hS, ?_, ?_, ?_, ?_, ?_, ?_, ?_, ?_, ?_, elG_still, ?_, ?_, ?_, ?_, ?_⟩
  · rintro w F o ⟨h1, f, h2, _⟩ k hk
    rw [(h1 k).1 hk]
    exact h2.lt
  · intro w w' F v m S h hk hS
    cases m with
    | no e => exact NoAt.keep h hk hS
    | stand t vv l => exact elPr_keep h hk hS
  · intro w w' F v m S h hk hS
    cases m with
    | no e => exact NoAl.keep h hk hS
    | stand t vv l => exact elPr_keep h hk hS
  · intro w F v m h
    cases m with
    | no e => exact NoAt.lt h
    | stand t vv l => exact elPr_lt h
  · intro w F v m h
    cases m with
    | no e => exact NoAt.iface h
    | stand t vv l =>
      obtain ⟨b, h1, _⟩ := h
      exact ⟨_, _, h1⟩
  · intro v hv
    have := List.mem_singleton.1 hv
    exact ⟨_, _, this⟩
  · intro w Fo o lw hs t j c v hO hg hn ht hc hu hj hv
    have hj0 : j = 0 := by
      rcases j with _ | j
      · rfl
      · simp [elTh] at hv
    subst hj0
    have hv : v = .iface 71 (.pointer (some ⟨pe, 0, none⟩)) := by
      simp [elTh] at hv
      exact hv.symm
    subst hv
    exact ⟨_, _, elDispStart pe, fun pw => elStartW hO (by rw [hg.1]; exact hg.2.1) ht (by simpa using hj) pw⟩
  · intro o t c h
    have hne : c.obj ≠ 0 := fun e => h (by rw [e]; simp [elTh])
    have hst : elStart o t c = (o, .no 12) := by unfold elStart; rw [if_pos hne]
    refine ⟨?_, fun w b b1 hno => ?_⟩
    · show (elStart o t c).1 = o
      rw [hst]
    · show elML pe w _ _ (elStart o t c).2
      rw [hst]
      exact noAt_made hno
  · intro w Fo Fm v m o lw hs ad Mu t hO hM hW hh hg _ _ ht c1 c2 c3 _
    have hOl : ∀ k, Fo k → k < w.heap.size := by
      obtain ⟨h1, f, h2, _⟩ := hO
      intro k hk
      rw [(h1 k).1 hk]
      exact h2.lt
    have hg0 := hg
    obtain ⟨g1, g2, g4⟩ := hg
    have hk := g4 t m hh
    cases m with
    | no e =>
      obtain ⟨f, r, hd, hc⟩ := NoAt.step hM ad.pw
      refine ⟨f, r, hd, hc.mono ?_⟩
      rintro x w' ⟨rfl, a1, a2, a3⟩
      have hlt := hW.lt
      have hkk : ∀ k, ad.four k → k < w.heap.size ∧ ¬ Fm k := by
        intro k hk
        refine ⟨?_, fun h => c2 k h hk⟩
        rcases hk with rfl | rfl | rfl | rfl
        · exact hlt.1
        · exact hlt.2.1
        · exact hlt.2.2.1
        · exact hlt.2.2.2
      refine ⟨Fo, Fm, rfl, elOB_keep hO a3 (fun k hk => ⟨hOl k hk, (c1 k hk).1⟩), a1, fun _ => a2, ?_, fun k hk => by rcases hk with h | h; exact Or.inl h; exact Or.inr (Or.inl h), fun k hk => (c1 k hk).1, a3.mono (fun k hk => ⟨hk.1, hk.2.2.1⟩)⟩
      refine hW.keep a3 (fun k h1 h2 => ⟨h1, fun h => h2 (c3 k (Or.inr (Or.inl h)))⟩) (fun k _ hm => ?_) (hkk _ (Or.inl rfl)) (hkk _ (Or.inr (Or.inl rfl))) (hkk _ (Or.inr (Or.inr (Or.inl rfl)))) (hkk _ (Or.inr (Or.inr (Or.inr rfl))))
      rcases hm with hm | hm | hm
      · exact hm.1
      · exact c3 k (Or.inl hm)
      · exact c3 k (Or.inr (Or.inl hm))
    | stand t' vv l =>
      obtain ⟨k1, k2, k3, k4⟩ := hk
      subst k1
      obtain ⟨b, hv, hS, hF⟩ := elS_of hO hM hW c1 c2 k2 ⟨k3, k4⟩
      refine ⟨_, _, by rw [hv]; exact elDispStep b, ?_⟩
      have hq : ∀ (r : El × Lw × EM × Bool), elStep o lw (.stand t' vv l) = r → ∀ e w', elStepQ pe w Fo Fm ad Mu v r e w' → elStepQ pe w Fo Fm ad Mu v (elStep o lw (.stand t' vv l)) e w' := fun r h e w' hh => by rw [h]; exact hh
      by_cases h0 : vv < 1
      · obtain rfl : vv = 0 := by omega
        refine (elStep0 hS).mono fun e w' hA => hq (o, { lw with mem := lw.mem }, .stand t' 0 true, true) ?_ e w' (el_after hO hW c1 c2 c3 hv hF hA)
        rfl
      · by_cases h1 : lw.mem.tell 2 (vv - 1) 0 = 0
        · refine (elStepNo hS (by omega) (by rw [h1]; decide)).mono fun e w' hA => hq _ ?_ e w' (el_after hO hW c1 c2 c3 hv hF hA)
          unfold elStep
          dsimp only
          rw [if_neg h0, if_pos h1]
        · refine (elStepYes hS (by omega) (tell2_one h1)).mono fun e w' hA => hq _ ?_ e w' (el_after hO hW c1 c2 c3 hv hF hA)
          unfold elStep
          dsimp only
          rw [if_neg h0, if_neg h1]
  · intro w Fm v m o h
    cases m with
    | no e => exact NoAl.ans h _
    | stand t vv l =>
      obtain ⟨b, rfl, h2, _⟩ := h
      refine ⟨_, _, elDispAnswer b, (elAnswerW w h2).mono ?_⟩
      rintro x w' ⟨rfl, hb⟩
      exact ⟨_, _, rfl, LstIs.nil _ _, KeyIs.nil _ _, hb⟩
  · intro w Fm v m h
    refine ⟨?_, fun _ _ => rfl⟩
    cases m with
    | no e => exact NoAt.late h
    | stand t vv l =>
      obtain ⟨b, rfl, _⟩ := h
      exact elLate _
  · intro o lw hs t c hg hn ht hc hu
    obtain ⟨g1, g2, g4⟩ := hg
    have h1 : (elStart o t c).1.leaves = n := by
      rw [← g1]
      unfold elStart
      split
      · rfl
      · split
        · rfl
        · split <;> rfl
    refine ⟨h1, g2, fun s m hm => ?_⟩
    by_cases e : s = t
    · subst e
      rw [upd_same] at hm
      cases hm
      show elMok s (elStart o s c).2
      unfold elStart
      split
      · trivial
      · split
        · trivial
        · split
          · trivial
          · exact ⟨rfl, ht, by omega, by omega⟩
    · rw [upd_other e] at hm
      exact g4 s m hm
  · intro o lw hs hg
    exact hg
  · intro o lw hs t m hg hm ht
    exact elGood_step hg hm
end Go.Proofs.YtlfingcmekifkaaGreat
