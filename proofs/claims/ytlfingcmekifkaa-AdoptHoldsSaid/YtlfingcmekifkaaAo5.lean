/- Agreeing (package adopt): the object is one that a loom plays (adTh_ok). -/
import Derived.Test.YtlfingcmekifkaaAo4
namespace Go.Proofs.Ytlfingcmekifkaa
open Go.RowKit

def adStepQ (pe : Nat) (w : World) (Fo Fm : Nat → Prop) (ad : Adr) (Mu : Nat → Prop) (v : Value) (r : Ad × Lw × AM × Bool) (e : Ending) (w' : World) : Prop :=
  ∃ Fo' Fm', e = .returned (.bool r.2.2.2) ∧ adOB pe w' Fo' r.1 ∧ adML pe w' Fm' v r.2.2.1 ∧ (r.2.2.2 = true → adAL pe w' Fm' v r.2.2.1) ∧ WL w' ad (fun k => (Mu k ∧ ¬ Fo k ∧ ¬ Fm k) ∨ Fo' k ∨ Fm' k) r.2.1 ∧
    (∀ k, Fo' k ∨ Fm' k → Fo k ∨ Fm k ∨ w.heap.size ≤ k) ∧ (∀ k, Fo' k → ¬ Fm' k) ∧ Keep (fun k => k < w.heap.size ∧ ¬ Fo k ∧ ¬ Fm k ∧ ¬ ad.four k) w w'
section
variable {pe : Nat} {w w' : World} {Fo Fm : Nat → Prop} {ad : Adr} {Mu : Nat → Prop} {v : Value} {o : Ad} {lw : Lw}
theorem WL.memTo2 {Mu' S : Nat → Prop} (h : WL w ad Mu lw) {m' : Mm} (hm : MemAt w' ad.pm ad.px .nilFunc m') (hk : Keep S w w') (hS : ∀ k, k < w.heap.size → ¬ Mu k → S k) (hp : S ad.pw ∧ S ad.pt) (hM : ∀ k, k < w.heap.size → Mu' k → Mu k) : WL w' ad Mu' { lw with mem := m' } := by
  obtain ⟨f, f1, f2, f3, f4, f5⟩ := h.cells
  obtain ⟨m, m1, m2⟩ := h.notes
  refine ⟨hm, ⟨f, rowIs_keep f1 hk hp.1, f2, f3, f4, fun t ht => ⟨(f5 t ht).1, (f5 t ht).2.keep hk hS hM⟩⟩, ⟨m, m1.of_block (hk.block _ hp.2), fun a => ?_⟩⟩
  rcases m2 a with h | ⟨v, hv, hk'⟩
  · exact .inl h
  · exact .inr ⟨v, hv, hk'.keep hk hS hM⟩
theorem adS_of {t pc : Nat} {vv val : Int} {seen : List Int} (hO : adOB pe w Fo o) (hP : adPr pe w Fm v t pc vv seen val) (hW : WL w ad Mu lw) (c1 : ∀ k, Fo k → ¬ Fm k ∧ ¬ ad.four k) (c2 : ∀ k, Fm k → ¬ ad.four k) (hn : 1 ≤ o.n ∧ o.n ≤ 16) (ht : t < 16) (hv : 1 ≤ vv ∧ vv ≤ 2147483648) (hb : ∀ x ∈ seen, 0 ≤ x ∧ x < 18446744073709551616) :
    ∃ b sl, v = .iface 179 (.pointer (some ⟨b, 0, none⟩)) ∧ AdS w pe b ad.pw ad.pm ad.px t pc o.n vv val sl seen lw.mem ∧ (∀ k, Fm k ↔ k = b ∨ sl.ownBlock = some k) := by
  obtain ⟨b, sl, h1, h2, h3, h4, h5⟩ := hP
  obtain ⟨a1, f, a2, a3, a4, a5⟩ := hO
  obtain ⟨n1, n2, n3, n4, n5, n6⟩ := hW.ne
  have hFb := (h4 b).2 (Or.inl rfl)
  have hFe := (a1 pe).2 rfl
  have f4 : ∀ k, ¬ ad.four k → k ≠ ad.pw ∧ k ≠ ad.pm ∧ k ≠ ad.px := fun k hk => ⟨fun e => hk (Or.inl e), fun e => hk (Or.inr (Or.inl e)), fun e => hk (Or.inr (Or.inr (Or.inl e)))⟩
  have b4 := f4 b (c2 b hFb)
  have e4 := f4 pe (c1 pe hFe).2
  refine ⟨b, sl, h1, ⟨h2, h3, ?_, ?_, hW.ptr, hW.mem, ⟨a2.lt, hW.lt.1⟩, ⟨b4.2.1, b4.2.2, fun e => (c1 pe hFe).1 (e ▸ hFb), b4.1, e4.2.1, e4.2.2, e4.1, n1, n2⟩, fun k hk => ?_, hn, ht, hv, hb⟩, h4⟩
  · rw [← a3]
    exact a2.cell (i := 0) (by omega)
  · rw [← a4]
    exact a2.cell (i := 1) (by omega)
  · have hF := (h4 k).2 (Or.inr hk)
    have k4 := f4 k (c2 k hF)
    exact ⟨k4.2.1, k4.2.2, fun e => h5 (e ▸ hk), fun e => (c1 pe hFe).1 (e ▸ hF), k4.1⟩
theorem ad_after {b t pc' : Nat} {vv val' : Int} {seen' : List Int} {sl : Value} {d : Bool} {m' : Mm} {e : Ending} (hO : adOB pe w Fo o) (hW : WL w ad Mu lw) (c1 : ∀ k, Fo k → ¬ Fm k ∧ ¬ ad.four k) (c2 : ∀ k, Fm k → ¬ ad.four k) (c3 : ∀ k, Fo k ∨ Fm k ∨ ad.four k → Mu k)
    (hv : v = .iface 179 (.pointer (some ⟨b, 0, none⟩))) (hF : ∀ k, Fm k ↔ k = b ∨ sl.ownBlock = some k) (hA : AdP w pe b ad.pm ad.px t vv sl d pc' seen' val' m' e w') :
    adStepQ pe w Fo Fm ad Mu v (o, { lw with mem := m' }, .prop t pc' vv seen' val', d) e w' := by
  obtain ⟨sl', rfl, h1, h2, h3, h4, h5, h6⟩ := hA
  have hO' := hO
  obtain ⟨a1, f, a2, a3, a4, a5⟩ := hO'
  have hlt := hW.lt
  have hn := hW.ne
  have hFn : ∀ k, k < w.heap.size → ¬ Fm k → k ≠ ad.pm → k ≠ ad.px → k < w.heap.size ∧ k ≠ b ∧ sl.ownBlock ≠ some k ∧ k ≠ ad.pm ∧ k ≠ ad.px := fun k h1 h2 h3 h4 => ⟨h1, fun e => h2 ((hF k).2 (Or.inl e)), fun e => h2 ((hF k).2 (Or.inr e)), h3, h4⟩
  have hFoS : ∀ k, Fo k → k < w.heap.size ∧ k ≠ b ∧ sl.ownBlock ≠ some k ∧ k ≠ ad.pm ∧ k ≠ ad.px := fun k hk => by
    obtain ⟨g1, g2⟩ := c1 k hk
    refine hFn k ?_ g1 (fun e => g2 (Or.inr (Or.inl e))) (fun e => g2 (Or.inr (Or.inr (Or.inl e))))
    rw [(a1 k).1 hk]
    exact a2.lt
  have hFb := (hF b).2 (Or.inl rfl)
  have hF' : ∀ k, (k = b ∨ sl'.ownBlock = some k) → Fm k ∨ w.heap.size ≤ k := by
    intro k hk
    rcases hk with rfl | hk
    · exact Or.inl hFb
    · rcases h4 k hk with h | h
      · exact Or.inl ((hF k).2 (Or.inr h))
      · exact Or.inr h
  have hFlt : ∀ k, Fo k → k < w.heap.size := fun k hk => (hFoS k hk).1
  refine ⟨Fo, fun k => k = b ∨ sl'.ownBlock = some k, rfl, adOB_keep hO h6 hFoS, ⟨b, sl', hv, h1, h2, fun k => Iff.rfl, h5⟩, fun _ => ⟨b, sl', hv, h1, h2, fun k => Iff.rfl, h5⟩, ?_, ?_, ?_, ?_⟩
  · refine hW.memTo2 h3 h6 (fun k h1 h2 => hFn k h1 (fun h => h2 (c3 k (Or.inr (Or.inl h)))) (fun e => h2 (c3 k (Or.inr (Or.inr (Or.inr (Or.inl e)))))) (fun e => h2 (c3 k (Or.inr (Or.inr (Or.inr (Or.inr (Or.inl e)))))))) ⟨?_, ?_⟩ (fun k hk hm => ?_)
    · exact hFn _ hlt.1 (fun h => c2 _ h (Or.inl rfl)) hn.1 hn.2.1
    · exact hFn _ hlt.2.2.2 (fun h => c2 _ h (Or.inr (Or.inr (Or.inr rfl)))) hn.2.2.2.1 hn.2.2.2.2.1
    · rcases hm with hm | hm | hm
      · exact hm.1
      · exact c3 k (Or.inl hm)
      · rcases hF' k hm with h | h
        · exact c3 k (Or.inr (Or.inl h))
        · omega
  · intro k hk
    rcases hk with hk | hk
    · exact Or.inl hk
    · exact Or.inr (hF' k hk)
  · intro k hk hm
    rcases hF' k hm with h | h
    · exact (c1 k hk).1 h
    · have := hFlt k hk; omega
  · exact h6.mono (fun k hk => hFn k hk.1 hk.2.2.1 (fun e => hk.2.2.2 (Or.inr (Or.inl e))) (fun e => hk.2.2.2 (Or.inr (Or.inr (Or.inl e)))))
end
theorem adDispStart (pe : Nat) : Disp Try.prog (.iface 62 (.pointer (some ⟨pe, 0, none⟩))) "Start" 92 (.pointer (some ⟨pe, 0, none⟩)) := fun _ _ => by kernel_rfl
theorem adDispStep (b : Nat) : Disp Try.prog (.iface 179 (.pointer (some ⟨b, 0, none⟩))) "Step" 115 (.pointer (some ⟨b, 0, none⟩)) := fun _ _ => by kernel_rfl
theorem adDispAnswer (b : Nat) : Disp Try.prog (.iface 179 (.pointer (some ⟨b, 0, none⟩))) "Answer" 114 (.pointer (some ⟨b, 0, none⟩)) := fun _ _ => by kernel_rfl
set_option maxRecDepth 100000 in
theorem adAnswerW {pe b t pc : Nat} {vv val : Int} {sl : Value} (w : World) (hb : w.heap[b]? = some (.cells (prA6 pe t pc vv sl val) 181 (0, 0))) :
    Calls Try.prog 114 #[.pointer (some ⟨b, 0, none⟩)] w fun e w' => e = .returned (.tuple #[.agg #[.int .i64 0, .int .u64 val, .slice none 0 0], .slice none 0 0]) ∧ Below w.heap.size w w' := by
  obtain ⟨c0, c1, c2, c3, c4, c5, hz⟩ := cells6 hb
  clear hb
  go_enter Try.func114, Try.ntmps114
  go_wp2
  refine bodyPost_ret (v := .tuple #[.agg #[.int .i64 0, .int .u64 val, .slice none 0 0], .slice none 0 0]) (by simp [results, Try.results114, go_sem, *]) rfl ⟨rfl, ?_⟩
  (repeat' (first | exact Below.refl _ _ | assumption | refine Below.drew ?_ | refine below_drewN ?_ _ | refine Below.alloc ?_ (by simp <;> omega) _ | refine Below.setCell ?_ (by simp <;> omega) _))
theorem adTh_ok (pe n : Nat) : (adTh pe n).Ok := by
  refine ⟨fun h hk hS => adOB_keep h hk hS, ?_, ?_, ?_, ?_, ?_, ?_, ?_, ?_, ?_, adG_still, ?_, ?_, ?_, ?_, ?_⟩
  · rintro w F o ⟨h1, f, h2, _⟩ k hk
    rw [(h1 k).1 hk]
    exact h2.lt
  · intro w w' F v m S h hk hS
    cases m with
    | no e => exact NoAt.keep h hk hS
    | prop t pc vv seen val => exact adPr_keep h hk hS
  · intro w w' F v m S h hk hS
    cases m with
    | no e => exact NoAl.keep h hk hS
    | prop t pc vv seen val => exact adPr_keep h hk hS
  · intro w F v m h
    cases m with
    | no e => exact NoAt.lt h
    | prop t pc vv seen val => exact adPr_lt h
  · intro w F v m h
    cases m with
    | no e => exact NoAt.iface h
    | prop t pc vv seen val =>
      obtain ⟨b, sl, h1, _⟩ := h
      exact ⟨_, _, h1⟩
  · intro v hv
    have := List.mem_singleton.1 hv
    exact ⟨_, _, this⟩
  · intro w Fo o lw hs t j c v hO hg hn ht hc hu hj hv
    have hj0 : j = 0 := by
      rcases j with _ | j
      · rfl
      · simp [adTh] at hv
    subst hj0
    have hv : v = .iface 62 (.pointer (some ⟨pe, 0, none⟩)) := by
      simp [adTh] at hv
      exact hv.symm
    subst hv
    exact ⟨_, _, adDispStart pe, fun pw => adStartW hO ht hu (by simpa using hj) pw⟩
  · intro o t c h
    have hne : c.obj ≠ 0 := fun e => h (by rw [e]; simp [adTh])
    have hst : adStart o t c = (o, .no 12) := by unfold adStart; rw [if_pos hne]
    refine ⟨?_, fun w b b1 hno => ?_⟩
    · show (adStart o t c).1 = o
      rw [hst]
    · show adML pe w _ _ (adStart o t c).2
      rw [hst]
      exact noAt_made hno
  · intro w Fo Fm v m o lw hs ad Mu t hO hM hW hh hg _ _ ht c1 c2 c3 _
    have hOl : ∀ k, Fo k → k < w.heap.size := by
      obtain ⟨h1, f, h2, _⟩ := hO
      intro k hk
      rw [(h1 k).1 hk]
      exact h2.lt
    have hg0 := hg
    obtain ⟨g1, g2, g3, g4⟩ := hg
    have hk := g4 t m hh
    have hn : 1 ≤ o.n ∧ o.n ≤ 16 := by rw [g1]; exact g2
    cases m with
    | no e =>
      obtain ⟨f, r, hd, hc⟩ := NoAt.step hM ad.pw
      refine ⟨f, r, hd, hc.mono ?_⟩
      rintro x w' ⟨rfl, a1, a2, a3⟩
      have hlt := hW.lt
      have hkk : ∀ k, ad.four k → k < w.heap.size ∧ ¬ Fm k := by
        intro k hk
        refine ⟨?_, fun h => c2 k h hk⟩
        rcases hk with rfl | rfl | rfl | rfl
        · exact hlt.1
        · exact hlt.2.1
        · exact hlt.2.2.1
        · exact hlt.2.2.2
      refine ⟨Fo, Fm, rfl, adOB_keep hO a3 (fun k hk => ⟨hOl k hk, (c1 k hk).1⟩), a1, fun _ => a2, ?_, fun k hk => by rcases hk with h | h; exact Or.inl h; exact Or.inr (Or.inl h), fun k hk => (c1 k hk).1, a3.mono (fun k hk => ⟨hk.1, hk.2.2.1⟩)⟩
      refine hW.keep a3 (fun k h1 h2 => ⟨h1, fun h => h2 (c3 k (Or.inr (Or.inl h)))⟩) (fun k _ hm => ?_) (hkk _ (Or.inl rfl)) (hkk _ (Or.inr (Or.inl rfl))) (hkk _ (Or.inr (Or.inr (Or.inl rfl)))) (hkk _ (Or.inr (Or.inr (Or.inr rfl))))
      rcases hm with hm | hm | hm
      · exact hm.1
      · exact c3 k (Or.inl hm)
      · exact c3 k (Or.inr (Or.inl hm))
    | prop t' pc vv seen val =>
      obtain ⟨k1, k2, k3, k4, k5, k6, k7, k8⟩ := hk
      subst k1
      obtain ⟨b, sl, hv, hS, hF⟩ := adS_of hO hM hW c1 c2 hn k2 k4 k5
      refine ⟨_, _, by rw [hv]; exact adDispStep b, ?_⟩
      have hq : ∀ (r : Ad × Lw × AM × Bool), adStep o lw (.prop t' pc vv seen val) = r → ∀ e w', adStepQ pe w Fo Fm ad Mu v r e w' → adStepQ pe w Fo Fm ad Mu v (adStep o lw (.prop t' pc vv seen val)) e w' := fun r h e w' hh => by rw [h]; exact hh
      by_cases h0 : pc = 0
      · subst h0
        refine (adStep0 hS).mono fun e w' hA => hq _ rfl e w' (ad_after hO hW c1 c2 c3 hv hF hA)
      · by_cases h1 : pc = 1
        · subst h1
          refine (adStep1 hS (by rw [g1]; exact k8 (Or.inl rfl))).mono fun e w' hA => hq _ ?_ e w' (ad_after hO hW c1 c2 c3 hv hF hA)
          unfold adStep
          simp
        · by_cases h2 : pc = 2
          · subst h2
            refine (adStep2 hS (by rw [g1]; exact k6)).mono fun e w' hA => hq _ ?_ e w' (ad_after hO hW c1 c2 c3 hv hF hA)
            unfold adStep
            simp
          · have h3 : pc = 3 := by omega
            subst h3
            refine (adStep3 hS (by rw [g1]; exact k8 (Or.inr rfl)) (tell0_bd g3 _)).mono fun e w' hA => hq _ ?_ e w' (ad_after hO hW c1 c2 c3 hv hF hA)
            unfold adStep
            by_cases hl : seen.length + 1 = o.n <;> simp [hl]
  · intro w Fm v m o h
    cases m with
    | no e => exact NoAl.ans h _
    | prop t pc vv seen val =>
      obtain ⟨b, sl, rfl, h2, _⟩ := h
      refine ⟨_, _, adDispAnswer b, (adAnswerW w h2).mono ?_⟩
      rintro x w' ⟨rfl, hb⟩
      exact ⟨_, _, rfl, LstIs.nil _ _, KeyIs.nil _ _, hb⟩
  · intro w Fm v m h
    refine ⟨?_, fun _ _ => rfl⟩
    cases m with
    | no e => exact NoAt.late h
    | prop t pc vv seen val =>
      obtain ⟨b, sl, rfl, _⟩ := h
      exact adLate _
  · intro o lw hs t c hg hn ht hc hu
    obtain ⟨g1, g2, g3, g4⟩ := hg
    have h1 : (adStart o t c).1.n = n := by
      rw [← g1]
      unfold adStart
      split
      · rfl
      · split
        · rfl
        · split
          · rfl
          · split <;> rfl
    refine ⟨h1, g2, g3, fun s m hm => ?_⟩
    by_cases e : s = t
    · subst e
      rw [upd_same] at hm
      cases hm
      show adMok n s (adStart o s c).2
      obtain ⟨⟨u0, u1⟩, _⟩ := hu
      unfold adStart
      split
      · trivial
      · split
        · trivial
        · split
          · trivial
          · split
            · trivial
            · exact ⟨rfl, ht, by omega, by omega, fun x hx => by simp at hx, by simp, fun _ => rfl, fun h => by omega⟩
    · rw [upd_other e] at hm
      exact g4 s m hm
  · intro o lw hs hg
    exact hg
  · intro o lw hs t m hg hm ht
    exact adGood_step hg hm
end Go.Proofs.Ytlfingcmekifkaa
