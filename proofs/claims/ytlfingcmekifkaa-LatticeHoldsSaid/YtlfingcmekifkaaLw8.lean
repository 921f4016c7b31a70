/- A lattice's scans (package snap): a whole collect is held. -/
import Derived.Test.YtlfingcmekifkaaLw6
import Derived.Test.YtlfingcmekifkaaLw7
namespace Go.Proofs.Ytlfingcmekifkaa
open Go.RowKit

theorem tr_at {w : World} {Mu : Nat → Prop} {v : Value} {l : List Int} {bs : Nat} (h : KeyIs w Mu v l) (hM : Mu bs) (h0 : l ≠ []) : ∃ bt ot kt ct x, v = .slice (some ⟨bt, ot, none⟩) kt ct ∧ 1 ≤ kt ∧ bt ≠ bs ∧ bt < w.heap.size ∧ w.cell? ⟨bt, ot, none⟩ = some (.int .i64 x) ∧ l.headD 0 = x := by
  obtain ⟨A, c, e, h1, h2, h3⟩ := h
  obtain ⟨x, l', rfl⟩ : ∃ x l', l = x :: l' := by
    cases l with
    | nil => exact absurd rfl h0
    | cons x l' => exact ⟨x, l', rfl⟩
  obtain ⟨A2, c2, e2, g1, g2, g3⟩ := h2
  obtain ⟨b, o, e', hb, hc⟩ := g3 0 x rfl
  subst e'
  injection e2 with e3 e4 e5
  subst e3
  have hx := hc 0 (.int .i64 x) rfl
  exact ⟨b, o, _, c, x, e, by simp, fun q => (h3 _ rfl).1 (by rw [q]; exact hM), hb, hx, rfl⟩
theorem scHeld {w : World} {bs ps n : Nat} {lv : Value} {s : Sc} {ad : Adr} {Mu : Nat → Prop} {lw : Lw} (h : ScAt w bs ps lv s) (hw : WL w ad Mu lw) (hM : Mu bs) (hne : ad.pw ≠ bs ∧ ad.pt ≠ bs) (hn : w.cell? ⟨ps, 1, none⟩ = some (.int .i64 (n : Int))) (hp : ps < w.heap.size ∧ ps ≠ bs ∧ lv.ownBlock ≠ some ps) (hn16 : n ≤ 16) (hzero : ∀ i, n ≤ i → s.old i = 0 ∧ s.now i = 0) (hr : s.rounds ≤ 1000000) (hl : s.list = []) (htr : ∀ t, fndN n s = some t → 0 ≤ s.now t ∧ s.now t ≤ 9223372036854775807 ∧ lw.traces (s.now t) ≠ []) :
    Calls Try.prog 129 #[.pointer (some ⟨bs, 0, none⟩), .pointer (some ⟨ad.pw, 0, none⟩)] w fun e w' => e = .returned (.tuple #[]) ∧ ScQ w bs ps lv (s.held n lw.now lw.traces) w' := by
  obtain ⟨f, f1, f2, f3, f4, f5⟩ := hw.cells
  have cN : w.cell? ⟨ad.pw, 1, none⟩ = some (.int .i64 lw.now) := by rw [f1.cell (by omega), f3]
  have cT : w.cell? ⟨ad.pw, 34, none⟩ = some (.map (some ad.pt)) := by rw [f1.cell (by omega), f4]
  have zw := f1.lt
  obtain ⟨m, m1, m2⟩ := hw.notes
  by_cases h0 : s.rounds = 0
  · refine (scHeld0 h cN ⟨zw, hne.1⟩ h0).mono ?_
    rintro e w' ⟨rfl, a, b⟩
    refine ⟨rfl, lv, ?_, fun k hk => .inl hk, b.mono fun k hk => ⟨hk.1, hk.2.1⟩⟩
    unfold Sc.held
    rw [if_pos h0, h0]
    exact a
  · by_cases he : eqN n s = true
    · refine (scHeld1 h hn hp hn16 hzero ⟨by omega, hr⟩ hl he).mono ?_
      rintro e w' ⟨rfl, a⟩
      refine ⟨rfl, ?_⟩
      unfold Sc.held
      rw [if_neg h0, if_pos he]
      exact a
    · cases hf : fndN n s with
      | none =>
        refine (scHeld3 h hn ⟨hp.1, hp.2.1⟩ hn16 hzero ⟨by omega, hr⟩ (by simpa using he) hf cN ⟨zw, hne.1⟩).mono ?_
        rintro e w' ⟨rfl, a, b⟩
        refine ⟨rfl, lv, ?_, fun k hk => .inl hk, b.mono fun k hk => ⟨hk.1, hk.2.1⟩⟩
        unfold Sc.held
        rw [if_neg h0, if_neg he, hf]
        exact a
      | some t =>
        obtain ⟨v0, v1, v2⟩ := htr t hf
        rcases m2 (s.now t) with ⟨q1, q2⟩ | ⟨v, q1, q2⟩
        · exact absurd q2 v2
        · obtain ⟨bt, ot, kt, ct, x, rfl, x1, x2, x3, x4, x5⟩ := tr_at q2 hM v2
          refine (scHeld2 h hn ⟨hp.1, hp.2.1⟩ hn16 hzero ⟨by omega, hr⟩ (by simpa using he) hf ⟨v0, v1⟩ cT m1 ⟨hne.1, hne.2, x2⟩ ⟨zw, m1.lt, x3⟩ q1 x1 x4).mono ?_
          rintro e w' ⟨rfl, a, b⟩
          refine ⟨rfl, lv, ?_, fun k hk => .inl hk, b.mono fun k hk => ⟨hk.1, hk.2.1⟩⟩
          unfold Sc.held
          rw [if_neg h0, if_neg he, hf]
          dsimp only
          rw [x5]
          exact a
end Go.Proofs.Ytlfingcmekifkaa
