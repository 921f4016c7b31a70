import Derived.Test.YtlfingcmekifkaaGreatLl6
namespace Go.Proofs.YtlfingcmekifkaaGreat
open Go.RowKit
def llMok (o : Ll) (t : Nat) : Lo × An → Prop
  | (.no _, _) => True
  | (.op c, _) => c.thread = (t : Nat) ∧ llOk o t c
structure llGood (size : Int) (o : Ll) (lw : Lw) (hs : Nat → Option (Lo × An)) : Prop where
  size : o.size = size ∧ 1 ≤ size ∧ size ≤ 64
  w64 : W64 lw.mem.words
  bd : ∀ t p x, o.links t p = some x → 0 ≤ x ∧ x < 18446744073709551616
  mok : ∀ t m, hs t = some m → llMok o t m
def llTh (pe : Nat) (size : Int) : Th (Lo × An) Ll := ⟨llG, [.iface 55 (.pointer (some ⟨pe, 0, none⟩))], llOB pe, llML pe, llAL pe, llGood size, llGood size⟩
theorem llG_step (o : Ll) (lw : Lw) (t : Nat) (m : Lo × An) : llG.step o lw t m = ((llGo o lw t m.1).1, (llGo o lw t m.1).2.1, (m.1, (llGo o lw t m.1).2.2), true) := rfl
theorem llG_still : llG.Still := by
  intro o lw t m
  rw [llG_step]
  rcases m with ⟨m, an⟩
  cases m with
  | no e => rfl
  | op c =>
    show (llGo o lw t (.op c)).2.1.now = lw.now
    unfold llGo
    by_cases h0 : c.kind = 0
    · simp only [if_pos h0]
    · simp only [if_neg h0]
      by_cases h1 : c.kind = 1
      · simp only [if_pos h1]
      · simp only [if_neg h1]
theorem llGood_step {size : Int} {o : Ll} {lw : Lw} {hs : Nat → Option (Lo × An)} {t : Nat} {m : Lo × An} (hg : llGood size o lw hs) (hm : hs t = some m) : llGood size (llG.step o lw t m).1 (llG.step o lw t m).2.1 (upd hs t none) := by
  rw [llG_step]
  rcases m with ⟨m, an⟩
  have hoth : ∀ (o' : Ll), o'.size = o.size → (∀ s p, s ≠ t → o'.links s p = o.links s p) → ∀ s m', upd hs t none s = some m' → llMok o' s m' := by
    intro o' hsz hl s m' h
    have hst : s ≠ t := by
      rintro rfl
      rw [upd_same] at h
      cases h
    rw [upd_other hst] at h
    have h1 := hg.mok s m' h
    rcases m' with ⟨m', an'⟩
    cases m' with
    | no e => trivial
    | op c =>
      obtain ⟨a, b1, b2, b3, b4⟩ := h1
      refine ⟨a, b1, by rw [hsz]; exact b2, b3, fun hk => ?_⟩
      obtain ⟨x, hx⟩ := b4 hk
      exact ⟨x, by rw [hl s _ hst]; exact hx⟩
  cases m with
  | no e => exact ⟨hg.size, hg.w64, hg.bd, hoth o rfl (fun _ _ _ => rfl)⟩
  | op c =>
    obtain ⟨_, hok⟩ := hg.mok t _ hm
    show llGood size (llGo o lw t (.op c)).1 (llGo o lw t (.op c)).2.1 _
    unfold llGo
    have hlk : ∀ (x : Option Int) s p, s ≠ t → (llLink o t c.a x).links s p = o.links s p := fun x s p hs => if_neg (fun h => hs h.1)
    by_cases h0 : c.kind = 0
    · simp only [if_pos h0]
      refine ⟨hg.size, acc_w64 hg.w64 _ _ _ _ ?_, fun s p y hy => ?_, hoth _ rfl (hlk _)⟩
      · unfold acY
        rw [if_pos rfl]
        exact at_bd hg.w64 _
      · have hy : (if s = t ∧ p = c.a then some (lw.mem.tell 0 c.a 0) else o.links s p) = some y := hy
        split at hy
        · cases hy
          exact tell0_bd hg.w64 _
        · exact hg.bd s p y hy
    · simp only [if_neg h0]
      obtain ⟨x, hx⟩ := hok.2.2.2 h0
      by_cases h1 : c.kind = 1
      · simp only [if_pos h1]
        refine ⟨hg.size, acc_w64 hg.w64 _ _ _ _ ?_, fun s p y hy => ?_, hoth _ rfl (hlk _)⟩
        · unfold acY
          rw [if_neg (by decide), if_neg (by decide), if_pos rfl]
          split
          · exact llNext_bd (hok.2.2.1 h1)
          · exact at_bd hg.w64 _
        · have hy : (if s = t ∧ p = c.a then none else o.links s p) = some y := hy
          split at hy
          · cases hy
          · exact hg.bd s p y hy
      · simp only [if_neg h1]
        refine ⟨hg.size, acc_w64 hg.w64 _ _ _ _ ?_, hg.bd, hoth o rfl (fun _ _ _ => rfl)⟩
        unfold acY
        rw [if_pos rfl]
        exact at_bd hg.w64 _
theorem llDispStart (pe : Nat) : Disp Tryz.prog (.iface 55 (.pointer (some ⟨pe, 0, none⟩))) "Start" 158 (.pointer (some ⟨pe, 0, none⟩)) := fun _ _ => by kernel_rfl
def llStepQ (pe : Nat) (w : World) (Fo Fm : Nat → Prop) (ad : Adr) (Mu : Nat → Prop) (v : Value) (r : Ll × Lw × (Lo × An) × Bool) (e : Ending) (w' : World) : Prop :=
  ∃ Fo' Fm', e = .returned (.bool r.2.2.2) ∧ llOB pe w' Fo' r.1 ∧ llML pe w' Fm' v r.2.2.1 ∧ (r.2.2.2 = true → llAL pe w' Fm' v r.2.2.1) ∧ WL w' ad (fun k => (Mu k ∧ ¬ Fo k ∧ ¬ Fm k) ∨ Fo' k ∨ Fm' k) r.2.1 ∧
    (∀ k, Fo' k ∨ Fm' k → Fo k ∨ Fm k ∨ w.heap.size ≤ k) ∧ (∀ k, Fo' k → ¬ Fm' k) ∧ Keep (fun k => k < w.heap.size ∧ ¬ Fo k ∧ ¬ Fm k ∧ ¬ ad.four k) w w'
theorem llTh_ok (pe : Nat) (size : Int) : (llTh pe size).Ok := by
  refine ⟨fun h hk hS => llOB_keep h hk hS, fun h => llOB_lt h, ?_, ?_, ?_, ?_, ?_, ?_, ?_, ?_, llG_still, ?_, ?_, ?_, ?_, ?_⟩
  · rintro w w' F v ⟨m, an⟩ S h hk hS
    cases m with
    | no e => exact NoAt.keep h hk hS
    | op c =>
      obtain ⟨t, h1, h2⟩ := h
      exact ⟨t, opAt_keep h1 hk hS, h2⟩
  · rintro w w' F v ⟨m, an⟩ S h hk hS
    cases m with
    | no e => exact ⟨NoAl.keep h.1 hk hS, h.2⟩
    | op c =>
      obtain ⟨t, h1, h2⟩ := h
      exact ⟨t, opAt_keep h1 hk hS, h2⟩
  · rintro w F v ⟨m, an⟩ h
    cases m with
    | no e => exact NoAt.lt h
    | op c =>
      obtain ⟨t, h1, h2⟩ := h
      exact opAt_lt h1
  · rintro w F v ⟨m, an⟩ h
    cases m with
    | no e => exact NoAt.iface h
    | op c =>
      obtain ⟨t, ⟨b, _, _, _, _, h1, _⟩, _⟩ := h
      exact ⟨_, _, h1⟩
  · intro v hv
    have := List.mem_singleton.1 hv
    exact ⟨_, _, this⟩
  · intro w Fo o lw hs t j c v hO hg hn ht hc hu hj hv
    have hj0 : j = 0 := by
      rcases j with _ | j
      · rfl
      · simp [llTh] at hv
    subst hj0
    have hv : v = .iface 55 (.pointer (some ⟨pe, 0, none⟩)) := by
      simp [llTh] at hv
      exact hv.symm
    subst hv
    have hg : llGood size o lw hs := hg
    exact ⟨_, _, llDispStart pe, fun pw => llStartW hO (by rw [hg.size.1]; exact hg.size.2) ht hu hc (by simpa using hj) pw⟩
  · intro o t c h
    have hne : c.obj ≠ 0 := fun e => h (by rw [e]; simp [llTh])
    have hst : llStart o t c = .no 12 := by unfold llStart; rw [if_pos hne]
    refine ⟨rfl, fun w b b1 hno => ?_⟩
    show llML pe w _ _ (llStart o t c, _)
    rw [hst]
    exact noAt_made hno
  · rintro w Fo Fm v ⟨m, an⟩ o lw hs ad Mu t hO hM hW hh hg _ _ ht c1 c2 c3 _
    have hg : llGood size o lw hs := hg
    have hOl := llOB_lt hO
    cases m with
    | no e =>
      obtain ⟨f, r, hd, hc⟩ := NoAt.step hM ad.pw
      refine ⟨f, r, hd, hc.mono ?_⟩
      rintro x w' ⟨rfl, a1, a2, a3⟩
      have hlt := hW.lt
      have hkk : ∀ k, ad.four k → k < w.heap.size ∧ ¬ Fm k := by
        intro k hk
        refine ⟨?_, fun h => c2 k h hk⟩
        rcases hk with rfl | rfl | rfl | rfl
        · exact hlt.1
        · exact hlt.2.1
        · exact hlt.2.2.1
        · exact hlt.2.2.2
      refine ⟨Fo, Fm, rfl, llOB_keep hO a3 (fun k hk => ⟨hOl k hk, (c1 k hk).1⟩), a1, fun _ => ⟨a2, rfl⟩, ?_, fun k hk => by rcases hk with h | h; exact Or.inl h; exact Or.inr (Or.inl h), fun k hk => (c1 k hk).1, a3.mono (fun k hk => ⟨hk.1, hk.2.2.1⟩)⟩
      refine hW.keep a3 (fun k h1 h2 => ⟨h1, fun h => h2 (c3 k (Or.inr (Or.inl h)))⟩) (fun k _ hm => ?_) (hkk _ (Or.inl rfl)) (hkk _ (Or.inr (Or.inl rfl))) (hkk _ (Or.inr (Or.inr (Or.inl rfl)))) (hkk _ (Or.inr (Or.inr (Or.inr rfl))))
      rcases hm with hm | hm | hm
      · exact hm.1
      · exact c3 k (Or.inl hm)
      · exact c3 k (Or.inr (Or.inl hm))
    | op c =>
      obtain ⟨hct, hok⟩ := hg.mok t _ hh
      obtain ⟨t', ⟨b, bc, bs, bt, bp, hv, hb, hC, hF⟩, ht'⟩ := hM
      obtain rfl : t' = t := by omega
      obtain ⟨f, mb, hA⟩ := hO
      obtain ⟨n1, n2, n3, n4, n5, n6⟩ := hW.ne
      have hlt := hW.lt
      have f4 : ∀ k, ¬ ad.four k → k ≠ ad.pw ∧ k ≠ ad.pm ∧ k ≠ ad.px := fun k hk => ⟨fun e => hk (Or.inl e), fun e => hk (Or.inr (Or.inl e)), fun e => hk (Or.inr (Or.inr (Or.inl e)))⟩
      have hFb : Fm b := (hF b).2 (by simp)
      have hFc : Fm bc := (hF bc).2 (by simp)
      have hFs : Fm bs := (hF bs).2 (by simp)
      have hFt : Fm bt := (hF bt).2 (by simp)
      have hFp : Fm bp := (hF bp).2 (by simp)
      have hnF : ∀ k, Fm k → ¬ Fo k := fun k h1 h2 => (c1 k h2).1 h1
      have hS : LlS pe ad.pw ad.pm ad.px w Fo o f mb lw.mem := ⟨hA, hW.ptr, hW.mem, hlt.1, ⟨fun h => (c1 _ h).2 (Or.inr (Or.inl rfl)), fun h => (c1 _ h).2 (Or.inr (Or.inr (Or.inl rfl))), fun h => (c1 _ h).2 (Or.inl rfl), n1, n2⟩, hg.w64, hg.bd⟩
      have hne : (bc ≠ ad.pm ∧ bc ≠ ad.px) ∧ (bs ≠ ad.pm ∧ bs ≠ ad.px) ∧ (bt ≠ ad.pm ∧ bt ≠ ad.px) ∧ (bp ≠ ad.pm ∧ bp ≠ ad.px) := ⟨(f4 _ (c2 _ hFc)).2, (f4 _ (c2 _ hFs)).2, (f4 _ (c2 _ hFt)).2, (f4 _ (c2 _ hFp)).2⟩
      obtain ⟨g1, g2, N⟩ := llGoW (lw := lw) hS hC ht hok hne
      refine ⟨_, _, by rw [hv]; exact onceDispStep b, (llStepW hS hC hne ⟨hnF b hFb, (f4 _ (c2 _ hFb)).2⟩ ⟨hnF _ hFc, hnF _ hFs, hnF _ hFt, hnF _ hFp⟩ hb N).mono ?_⟩
      rintro e w' ⟨rfl, a1, a2, a3, a4, a5⟩
      show llStepQ pe w Fo Fm ad Mu v ((llGo o lw t' (.op c)).1, (llGo o lw t' (.op c)).2.1, (.op c, (llGo o lw t' (.op c)).2.2), true) _ w'
      generalize llGo o lw t' (.op c) = R at *
      obtain ⟨R1, R2, R3⟩ := R
      dsimp only at g1 g2 a1 a2 a4 ⊢
      rw [g1, g2]
      have hFmlt : ∀ k, Fm k → k < w.heap.size := fun k hk => by
        rcases (hF k).1 hk with rfl | rfl | rfl | rfl | rfl
        · exact (Array.getElem?_eq_some_iff.1 hb).1
        · exact (Array.getElem?_eq_some_iff.1 hC.call).1
        · exact (Array.getElem?_eq_some_iff.1 hC.self).1
        · exact (Array.getElem?_eq_some_iff.1 hC.thread).1
        · exact (Array.getElem?_eq_some_iff.1 hC.place).1
      have hkn : ∀ k, k < w.heap.size → ¬ Fo k → ¬ Fm k → k ≠ ad.pm → k ≠ ad.px → k < w.heap.size ∧ ¬ Fo k ∧ k ≠ ad.pm ∧ k ≠ ad.px ∧ k ≠ b := fun k h1 h2 h3 h4 h5 => ⟨h1, h2, h4, h5, fun e => h3 (e ▸ hFb)⟩
      refine ⟨fun k => (Fo k ∨ w.heap.size ≤ k) ∧ k < w'.heap.size, Fm, rfl, a1, ⟨t', ⟨b, bc, bs, bt, bp, hv, a2, a3, hF⟩, ht'⟩, fun _ => ⟨t', ⟨b, bc, bs, bt, bp, hv, a2, a3, hF⟩, rfl⟩, ?_, ?_, ?_, ?_⟩
      · refine hW.memTo2 a4 a5 (fun k h1 h2 => hkn k h1 (fun h => h2 (c3 k (Or.inl h))) (fun h => h2 (c3 k (Or.inr (Or.inl h)))) (fun e => h2 (c3 k (Or.inr (Or.inr (Or.inr (Or.inl e)))))) (fun e => h2 (c3 k (Or.inr (Or.inr (Or.inr (Or.inr (Or.inl e)))))))) ⟨?_, ?_⟩ (fun k hk hm => ?_)
        · exact hkn _ hlt.1 (fun h => (c1 _ h).2 (Or.inl rfl)) (fun h => c2 _ h (Or.inl rfl)) n1 n2
        · exact hkn _ hlt.2.2.2 (fun h => (c1 _ h).2 (Or.inr (Or.inr (Or.inr rfl)))) (fun h => c2 _ h (Or.inr (Or.inr (Or.inr rfl)))) n4 n5
        · rcases hm with hm | hm | hm
          · exact hm.1
          · rcases hm.1 with h | h
            · exact c3 k (Or.inl h)
            · omega
          · exact c3 k (Or.inr (Or.inl hm))
      · intro k hk
        rcases hk with hk | hk
        · rcases hk.1 with h | h
          · exact Or.inl h
          · exact Or.inr (Or.inr h)
        · exact Or.inr (Or.inl hk)
      · intro k hk hm
        rcases hk.1 with h | h
        · exact hnF k hm h
        · have := hFmlt k hm
          omega
      · exact a5.mono (fun k hk => hkn k hk.1 hk.2.1 hk.2.2.1 (fun e => hk.2.2.2 (Or.inr (Or.inl e))) (fun e => hk.2.2.2 (Or.inr (Or.inr (Or.inl e)))))
  · rintro w Fm v ⟨m, an⟩ o h
    cases m with
    | no e =>
      obtain ⟨h, rfl⟩ := h
      exact NoAl.ans h _
    | op c =>
      obtain ⟨t, ⟨b, bc, bs, bt, bp, rfl, h2, _⟩, hl⟩ := h
      refine ⟨_, _, onceDispAnswer b, (onceAnswer b an.err an.val (.slice none 0 0) _ w h2 ⟨_, _, _, rfl⟩).mono ?_⟩
      rintro x w' ⟨rfl, hb⟩
      refine ⟨_, _, rfl, ?_, KeyIs.nil _ _, hb⟩
      show LstIs _ _ _ an.list
      rw [hl]
      exact LstIs.nil _ _
  · rintro w Fm v ⟨m, an⟩ h
    refine ⟨?_, fun _ _ => rfl⟩
    cases m with
    | no e => exact NoAt.late h
    | op c =>
      obtain ⟨t, ⟨b, bc, bs, bt, bp, rfl, _⟩, _⟩ := h
      exact onceLateNo _
  · intro o lw hs t c hg hn ht hc hu
    have hg : llGood size o lw hs := hg
    refine ⟨hg.size, hg.w64, hg.bd, fun s m hm => ?_⟩
    by_cases e : s = t
    · subst e
      rw [upd_same] at hm
      cases hm
      show llMok o s (llStart o s c, _)
      unfold llStart
      split
      · trivial
      · split
        · rename_i h1
          exact ⟨hc, llOk_of h1 hu (by rw [hg.size.1]; exact hg.size.2.2)⟩
        · trivial
    · rw [upd_other e] at hm
      exact hg.mok s m hm
  · intro o lw hs hg
    have hg : llGood size o lw hs := hg
    exact ⟨hg.size, hg.w64, hg.bd, hg.mok⟩
  · intro o lw hs t m hg hm ht
    exact llGood_step hg hm
end Go.Proofs.YtlfingcmekifkaaGreat
