/- A tally whose accesses are told: the object is one that a loom plays (taTh_ok). -/
import Derived.Test.YtfghmlpjbedomaaGreatTa3
namespace Go.Proofs.YtfghmlpjbedomaaGreat
open Go.RowKit

section
variable (ob tb qb B pp : Nat)
def taOB (w : World) (F : Nat → Prop) : Option (List Ac) → Prop
  | none => ∀ k, ¬ F k
  | some l => ∃ v, AcRow w ob B v l ∧ w.heap[tb]? = some (.cells #[toldV ob] 98 (0, 0)) ∧ w.heap[qb]? = some (.cells #[.pointer (some ⟨pp, 0, none⟩)] 94 (0, 0)) ∧ B ≤ w.heap.size ∧ (tb < B ∧ qb < B ∧ pp < B) ∧ ∀ k, F k ↔ (k = ob ∨ k = tb ∨ k = qb ∨ v.ownBlock = some k)
def taEnv (w : World) (ad : Adr) (t : Nat) : Prop := ad.hk = hookV tb qb ∧ ad.pp = pp ∧ ad.pw < B ∧ ad.pm ≠ ad.pp ∧ ad.px ≠ ad.pp ∧ w.cell? ⟨pp, 0, none⟩ = some (.pointer (some ⟨ad.pw, 0, none⟩)) ∧ w.cell? ⟨pp, 4, none⟩ = some (.int .i64 (t : Int))
def taTh : Th TM (Option (List Ac)) := ⟨taG, [taV], taOB ob tb qb B pp, taML, taAL, taGood 0, taGood 1, taCl, taEnv tb qb B pp⟩
end
section
variable {ob tb qb B pp : Nat} {w w' : World} {F S : Nat → Prop} {o : Option (List Ac)}
theorem taOB_keep (h : taOB ob tb qb B pp w F o) (hk : Keep S w w') (hS : ∀ k, F k → S k) : taOB ob tb qb B pp w' F o := by
  cases o with
  | none => exact h
  | some l =>
    obtain ⟨v, h1, h2, h3, h4, h5, h6⟩ := h
    exact ⟨v, h1.keep hk (hS _ ((h6 _).2 (Or.inl rfl))) (fun k hv => hS _ ((h6 _).2 (Or.inr (Or.inr (Or.inr hv))))), (hk.block _ (hS _ ((h6 _).2 (Or.inr (Or.inl rfl))))).trans h2, (hk.block _ (hS _ ((h6 _).2 (Or.inr (Or.inr (Or.inl rfl)))))).trans h3, Nat.le_trans h4 hk.size, h5, h6⟩
theorem taOB_lt (h : taOB ob tb qb B pp w F o) : ∀ k, F k → k < w.heap.size := by
  cases o with
  | none => exact fun k hk => absurd hk (h k)
  | some l =>
    obtain ⟨v, h1, h2, h3, h4, h5, h6⟩ := h
    intro k hk
    rcases (h6 k).1 hk with rfl | rfl | rfl | hv
    · exact (Array.getElem?_eq_some_iff.1 h1.box).1
    · exact (Array.getElem?_eq_some_iff.1 h2).1
    · exact (Array.getElem?_eq_some_iff.1 h3).1
    · exact (World.ownsRow.lt h1.row k hv).2
end
/-- What is so of the list's blocks behind a step. -/
theorem taOB_next {ob tb qb B pp b : Nat} {w w' : World} {Fo Fm Mu : Nat → Prop} {ad : Adr} {v v' : Value} {l : List Ac} {x : Ac} (h1 : AcRow w ob B v l) (h2 : w.heap[tb]? = some (.cells #[toldV ob] 98 (0, 0))) (h3 : w.heap[qb]? = some (.cells #[.pointer (some ⟨pp, 0, none⟩)] 94 (0, 0))) (h4 : B ≤ w.heap.size) (h5 : tb < B ∧ qb < B ∧ pp < B) (h6 : ∀ k, Fo k ↔ (k = ob ∨ k = tb ∨ k = qb ∨ v.ownBlock = some k))
    (hF : ∀ k, Fm k ↔ k = b) (hbz : b < w.heap.size) (c1 : ∀ k, Fo k → ¬ Fm k ∧ ¬ ad.four k) (c3 : ∀ k, Fo k ∨ Fm k ∨ ad.four k → Mu k) (a1 : AcRow w' ob B v' (l ++ [x])) (a2 : v'.ownBlock = v.ownBlock ∨ ∃ b, v'.ownBlock = some b ∧ w.heap.size ≤ b) (hk : Keep (fun k => k < w.heap.size ∧ ¬ ad.four k ∧ k ≠ b ∧ k ≠ ob ∧ v.ownBlock ≠ some k) w w') :
    taOB ob tb qb B pp w' (fun k => k = ob ∨ k = tb ∨ k = qb ∨ v'.ownBlock = some k) (some (l ++ [x])) ∧ (∀ k, (k = ob ∨ k = tb ∨ k = qb ∨ v'.ownBlock = some k) ∨ Fm k → Fo k ∨ Fm k ∨ w.heap.size ≤ k) ∧ (∀ k, (k = ob ∨ k = tb ∨ k = qb ∨ v'.ownBlock = some k) → ¬ Fm k) ∧ (∀ k, k < w.heap.size → (k = ob ∨ k = tb ∨ k = qb ∨ v'.ownBlock = some k) → Mu k) := by
  have m1 : Fo ob := (h6 _).2 (Or.inl rfl)
  have m2 : Fo tb := (h6 _).2 (Or.inr (Or.inl rfl))
  have m3 : Fo qb := (h6 _).2 (Or.inr (Or.inr (Or.inl rfl)))
  have mv : ∀ k, v.ownBlock = some k → Fo k := fun k hk => (h6 _).2 (Or.inr (Or.inr (Or.inr hk)))
  have hv : ∀ k, v'.ownBlock = some k → Fo k ∨ w.heap.size ≤ k := by
    intro k hk
    rcases a2 with e | ⟨b', e, g⟩
    · exact Or.inl (mv k (e ▸ hk))
    · rw [e] at hk
      cases hk
      exact Or.inr g
  have hS : ∀ k, Fo k → k < w.heap.size → k ≠ ob → v.ownBlock ≠ some k → k < w.heap.size ∧ ¬ ad.four k ∧ k ≠ b ∧ k ≠ ob ∧ v.ownBlock ≠ some k := fun k g1 g2 g3 g4 => ⟨g2, (c1 k g1).2, fun e => (c1 k g1).1 ((hF k).2 e), g3, g4⟩
  refine ⟨⟨v', a1, (hk.block tb (hS tb m2 (by omega) (type_ne h2 h1.box (by decide)) (fun e => by obtain ⟨c, hc⟩ := h1.type e; exact type_ne hc h2 (by decide) rfl))).trans h2, (hk.block qb (hS qb m3 (by omega) (type_ne h3 h1.box (by decide)) (fun e => by obtain ⟨c, hc⟩ := h1.type e; exact type_ne hc h3 (by decide) rfl))).trans h3, Nat.le_trans h4 hk.size, h5, fun k => Iff.rfl⟩, fun k hk' => ?_, fun k hk' hm => ?_, fun k hz hk' => ?_⟩
  · rcases hk' with (rfl | rfl | rfl | hk') | hk'
    · exact Or.inl m1
    · exact Or.inl m2
    · exact Or.inl m3
    · rcases hv k hk' with g | g
      · exact Or.inl g
      · exact Or.inr (Or.inr g)
    · exact Or.inr (Or.inl hk')
  · rcases hk' with rfl | rfl | rfl | hk'
    · exact (c1 _ m1).1 hm
    · exact (c1 _ m2).1 hm
    · exact (c1 _ m3).1 hm
    · rcases hv k hk' with g | g
      · exact (c1 _ g).1 hm
      · have := (hF k).1 hm
        omega
  · rcases hk' with rfl | rfl | rfl | hk'
    · exact c3 _ (Or.inl m1)
    · exact c3 _ (Or.inl m2)
    · exact c3 _ (Or.inl m3)
    · rcases hv k hk' with g | g
      · exact c3 _ (Or.inl g)
      · omega
theorem taTh_ok (ob tb qb B pp : Nat) : (taTh ob tb qb B pp).Ok := by
  refine ⟨fun h hk hS => taOB_keep h hk hS, fun h => taOB_lt h, ?_, ?_, ?_, ?_, ?_, ?_, ?_, ?_, taG_still, ?_, ?_, ?_, ?_, ?_⟩
  · intro w w' F v m S h hk hS
    cases m with
    | no e => exact NoAt.keep h hk hS
    | cnt t v s => exact taPr_keep h hk hS
  · intro w w' F v m S h hk hS
    cases m with
    | no e => exact NoAl.keep h hk hS
    | cnt t v s => exact taPr_keep h hk hS
  · intro w F v m h
    cases m with
    | no e => exact NoAt.lt h
    | cnt t v s => exact taPr_lt h
  · intro w F v m h
    cases m with
    | no e => exact NoAt.iface h
    | cnt t v s =>
      obtain ⟨b, h1, _⟩ := h
      exact ⟨_, _, h1⟩
  · intro v hv
    have := List.mem_singleton.1 hv
    exact ⟨_, _, this⟩
  · intro w Fo o lw hs t j c v hO hg hn ht hc hu hq hj hv
    have hj0 : j = 0 := by
      rcases j with _ | j
      · rfl
      · simp [taTh] at hv
    subst hj0
    have hv : v = taV := by
      simp [taTh] at hv
      exact hv.symm
    subst hv
    refine ⟨_, _, taDispStart, fun pw => (taStartW (t := t) hq.1 pw).mono ?_⟩
    rintro e w' ⟨b, rfl, h1, h2, h3⟩
    have hz : ¬ c.obj ≠ 0 := by simpa using hj
    have hlt := taOB_lt hO
    refine ⟨Fo, fun k => k = b, _, rfl, taOB_keep hO (Keep.of_below (K := fun k => k < w.heap.size) h3 (fun k hk => hk)) hlt, ?_, fun k hk => Or.inl hk, fun k hk => Or.inr (by rw [hk]; exact h2), fun k hk hk' => by have := hlt k hk; have hk'' : k = b := hk'; omega, Keep.of_below h3 (fun k hk => hk.1)⟩
    show taML w' _ _ (taStart c)
    unfold taStart
    rw [if_neg hz]
    have ht' : c.thread.toNat = t := by omega
    rw [ht']
    exact ⟨b, rfl, h1, fun k => Iff.rfl⟩
  · intro o t c h
    have hne : c.obj ≠ 0 := fun e => h (by rw [e]; simp [taTh])
    have hst : taStart c = .no 12 := by unfold taStart; rw [if_pos hne]
    refine ⟨rfl, fun w b b1 hno => ?_⟩
    show taML w _ _ (taStart c)
    rw [hst]
    exact noAt_made hno
  · intro w Fo Fm v m o lw hs ad Mu t hO hM hW he hh hg hn0 hn1 ht c1 c2 c3 c4 c5
    have hlt := hW.lt
    have hwn := hW.ne
    have hoz := taOB_lt hO
    cases m with
    | no e =>
      obtain ⟨f, r, hd, hc⟩ := NoAt.step hM ad.pw
      refine ⟨f, r, hd, hc.mono ?_⟩
      rintro x w' ⟨rfl, a1, a2, a3⟩
      have hkk : ∀ k, ad.four k → k < w.heap.size ∧ ¬ Fm k := fun k hk => ⟨c5 k (c3 k (Or.inr (Or.inr hk))), fun h => c2 k h hk⟩
      refine ⟨Fo, Fm, rfl, taOB_keep hO a3 (fun k hk => ⟨hoz k hk, (c1 k hk).1⟩), a1, fun _ => a2, ?_, fun k hk => by rcases hk with h | h; exact Or.inl h; exact Or.inr (Or.inl h), fun k hk => (c1 k hk).1, a3.mono (fun k hk => ⟨hk.1, hk.2.2.1⟩)⟩
      refine hW.keep a3 (fun k h1 h2 => ⟨h1, fun h => h2 (c3 k (Or.inr (Or.inl h)))⟩) (fun k _ hm => ?_) (hkk _ (Or.inl rfl)) (hkk _ (Or.inr (Or.inl rfl))) (hkk _ (Or.inr (Or.inr (Or.inl rfl)))) (hkk _ (Or.inr (Or.inr (Or.inr rfl))))
      rcases hm with hm | hm | hm
      · exact hm.1
      · exact c3 k (Or.inl hm)
      · exact c3 k (Or.inr (Or.inl hm))
    | cnt t' vv seen =>
      obtain ⟨b, rfl, hb, hF⟩ := hM
      obtain ⟨⟨l, rfl, hl⟩, htr, hwl, hw64, hmok⟩ := hg
      obtain ⟨k1, k2, k3, k4⟩ := hmok t _ hh
      subst k1
      obtain ⟨v, h1, h2, h3, h4, h5, h6⟩ := hO
      obtain ⟨e1, e2, e3, e4, e5, e6, e7⟩ := he
      have hFb := (hF b).2 rfl
      have hne := c2 b hFb
      have hbz := (Array.getElem?_eq_some_iff.1 hb).1
      obtain ⟨f, f1, _, f3, _⟩ := hW.cells
      have w1 := f1.cell (i := 1) (by omega)
      rw [f3] at w1
      have hh2 : HookAt w ob tb qb pp ad.pw lw.now t' := ⟨h2, h3, e6, e7, w1⟩
      have hap := HkAp.mk' hW.mem h1 hh2 ⟨e2 ▸ e4, hwn.1.symm⟩ ⟨e2 ▸ e5, hwn.2.1.symm⟩
      have mob : Fo ob := (h6 _).2 (Or.inl rfl)
      have mv : ∀ k, v.ownBlock = some k → Fo k := fun k hk => (h6 _).2 (Or.inr (Or.inr (Or.inr hk)))
      have hbo : b ≠ ob ∧ v.ownBlock ≠ some b := ⟨fun e => (c1 ob mob).1 ((hF ob).2 e.symm), fun e => (c1 b (mv b e)).1 hFb⟩
      have hll : l.length ≤ 2000000 := by omega
      have hlow : tb < B ∧ qb < B ∧ pp < B ∧ ad.pw < B := ⟨h5.1, h5.2.1, h5.2.2, e3⟩
      have htl : t' < lw.mem.words.length := by omega
      have hSk : ∀ k, k < w.heap.size → ¬ Mu k → k < w.heap.size ∧ ¬ ad.four k ∧ k ≠ b ∧ k ≠ ob ∧ v.ownBlock ≠ some k := fun k g1 g2 => ⟨g1, fun e => g2 (c3 k (Or.inr (Or.inr e))), fun e => g2 (c3 k (Or.inr (Or.inl ((hF k).2 e)))), fun e => g2 (c3 k (Or.inl (e ▸ mob))), fun e => g2 (c3 k (Or.inl (mv k e)))⟩
      refine ⟨_, _, taDispStep b, ?_⟩
      cases seen with
      | false =>
        refine (taStep0W hW e1 hb hne h1 hh2 h4 hll hlow hap hbo htl k2).mono ?_
        rintro e w' ⟨rfl, ⟨a1, a2, v', a3, a4⟩, a5⟩
        have n4 : ∀ k, ¬ ad.four k → k ≠ ad.pm ∧ k ≠ ad.px := fun k hk => ⟨fun e => hk (Or.inr (Or.inl e)), fun e => hk (Or.inr (Or.inr (Or.inl e)))⟩
        obtain ⟨g1, g2, g3, g4⟩ := taOB_next (Mu := Mu) h1 h2 h3 h4 h5 h6 hF hbz c1 c3 a3 a4 (a5.mono (fun k hk => ⟨hk.1, hk.2.2.1, (n4 k hk.2.1).1, (n4 k hk.2.1).2, hk.2.2.2⟩))
        refine ⟨_, Fm, rfl, g1, ⟨b, rfl, a1, hF⟩, fun h => (by cases h), ?_, g2, g3, a5.mono (fun k hk => ⟨hk.1, fun e => hk.2.2.1 ((hF k).2 e), (n4 k hk.2.2.2).1, (n4 k hk.2.2.2).2, fun e => hk.2.1 (e ▸ mob), fun e => hk.2.1 (mv k e)⟩)⟩
        refine hW.memTo2 a2 a5 (fun k q1 q2 => by have := hSk k q1 q2; exact ⟨q1, this.2.2.1, (n4 k this.2.1).1, (n4 k this.2.1).2, this.2.2.2⟩) ⟨?_, ?_⟩ (fun k hk hm => ?_)
        · exact ⟨hlt.1, fun e => hne (e ▸ Or.inl rfl), hwn.1, hwn.2.1, fun e => (c1 ob mob).2 (e ▸ Or.inl rfl), fun e => (c1 _ (mv _ e)).2 (Or.inl rfl)⟩
        · exact ⟨hlt.2.2.2, fun e => hne (e ▸ Or.inr (Or.inr (Or.inr rfl))), hwn.2.2.2.1, hwn.2.2.2.2.1, fun e => (c1 ob mob).2 (e ▸ Or.inr (Or.inr (Or.inr rfl))), fun e => (c1 _ (mv _ e)).2 (Or.inr (Or.inr (Or.inr rfl)))⟩
        · rcases hm with hm | hm | hm
          · exact hm.1
          · exact g4 k hk hm
          · exact c3 k (Or.inr (Or.inl hm))
      | true =>
        refine (taStep1W (Mu := Mu) hW e1 hb hne h1 hh2 h4 hll hlow hap hbo htl k2 ⟨hn0, hn1⟩ htr (fun k hk => c3 k (Or.inr (Or.inr hk))) (c3 ob (Or.inl mob)) (fun k hk => c3 k (Or.inl (mv k hk))) c5).mono ?_
        rintro e w' ⟨rfl, a1, v', a3, a4, a2, a5⟩
        obtain ⟨g1, g2, g3, g4⟩ := taOB_next (Mu := Mu) h1 h2 h3 h4 h5 h6 hF hbz c1 c3 a3 a4 (a5.mono (fun k hk => ⟨hk.1, hk.2.1, hk.2.2.2⟩))
        refine ⟨_, Fm, rfl, g1, ⟨b, rfl, a1, hF⟩, fun _ => ⟨b, rfl, a1, hF⟩, ?_, g2, g3, a5.mono (fun k hk => ⟨hk.1, hk.2.2.2, fun e => hk.2.1 (e ▸ mob), fun e => hk.2.1 (mv k e)⟩)⟩
        refine WL.keep a2 (Keep.refl (fun _ => True) w') (fun _ _ _ => trivial) (fun k _ hm => ?_) trivial trivial trivial trivial
        rcases hm with hm | hm | hm
        · exact Or.inl hm.1
        · rcases hm with rfl | rfl | rfl | hm
          · exact Or.inl (c3 _ (Or.inl mob))
          · exact Or.inl (c3 _ (Or.inl ((h6 _).2 (Or.inr (Or.inl rfl)))))
          · exact Or.inl (c3 _ (Or.inl ((h6 _).2 (Or.inr (Or.inr (Or.inl rfl))))))
          · exact Or.inr hm
        · exact Or.inl (c3 k (Or.inr (Or.inl hm)))
  · intro w Fm v m o h
    cases m with
    | no e => exact NoAl.ans h _
    | cnt t vv s =>
      obtain ⟨b, rfl, h2, _⟩ := h
      refine ⟨_, _, taDispAnswer b, (taAnswerW w).mono ?_⟩
      rintro x w' ⟨rfl, hb⟩
      exact ⟨_, _, rfl, LstIs.nil _ _, KeyIs.nil _ _, hb⟩
  · intro w Fm v m h
    refine ⟨?_, fun _ _ => rfl⟩
    cases m with
    | no e => exact NoAt.late h
    | cnt t vv s =>
      obtain ⟨b, rfl, _⟩ := h
      exact taLate _
  · intro o lw hs t c hg hn ht hq hc hu
    exact taGood_start hg hc hq
  · intro o lw hs hg
    obtain ⟨⟨l, h1, h2⟩, h3, h4, h5, h6⟩ := hg
    exact ⟨⟨l, h1, by show (l.length : Int) + 1 ≤ lw.now + 1; omega⟩, by show ((lw.traces 0).length : Int) + 1 ≤ lw.now + 1; omega, h4, h5, h6⟩
  · intro o lw hs t m hg hm ht
    exact taGood_step hg hm
end Go.Proofs.YtfghmlpjbedomaaGreat
