/- Objects on a loom: how a law reads the events that are told. -/
/- Linked words (law 38): the known case (again). -/
import Derived.Test.YtlfingcmekifkaaOj1
import Derived.Test.YtlfingcmekifkaaLl8
namespace Go.Proofs.Ytlfingcmekifkaa
open Go.RowKit

theorem owns_max {w : World} {base sz n : Nat} {e : TypeId} {v : Value} {xs : List Value} (h : w.ownsRow base e sz v n xs) : n ≤ maxLen := by
  rcases h.2 with ⟨_, h0⟩ | ⟨g, cap, cur, _, _, _, h1, h2, _⟩
  · omega
  · omega
/-- The events that are told are the play's, but for keys. -/
theorem ends_get {M O : Type} {G : Gm M O} {P : Ps M O} {h : Nat} {e : Ep} (he : (P.ends G)[h]? = some e) : ∃ e0, P.evs[h]? = some e0 ∧ e.call = e0.call ∧ e.inv = e0.inv ∧ e.resp = e0.resp ∧ e.steps = e0.steps ∧ e.ans = e0.ans := by
  rw [← endsK_all] at he
  have key : ∀ k (e : Ep), (P.endsK G k)[h]? = some e → ∃ e0, P.evs[h]? = some e0 ∧ e.call = e0.call ∧ e.inv = e0.inv ∧ e.resp = e0.resp ∧ e.steps = e0.steps ∧ e.ans = e0.ans := by
    intro k
    induction k with
    | zero => exact fun e he => ⟨e, he, rfl, rfl, rfl, rfl, rfl⟩
    | succ k ih =>
      intro e he
      rw [endsK_succ] at he
      unfold endT at he
      split at he
      · exact ih e he
      · rcases mod_get he with ⟨_, h1⟩ | ⟨_, d, hd, rfl⟩
        · exact ih e h1
        · exact ih d hd
  exact key 16 e he
/-- What is so of an event of a row. -/
theorem ev_of {w : World} {B : Nat} {Mu : Nat → Prop} {v : Value} {es : List Ep} (h : EvsAt w B Mu v es) (hn : 0 < es.length) : ∃ g c, v = .slice (some ⟨g, 0, none⟩) es.length c ∧ B ≤ g ∧ g < w.heap.size ∧ ∀ (k : Nat) (e : Ep), es[k]? = some e → ∃ x : Ev, EvIs w Mu x e ∧ ∀ (j : Nat) (u : Value), (evEnc x)[j]? = some u → w.cell? ⟨g, k * 8 + j, none⟩ = some u := by
  obtain ⟨raw, hrow, hrl, hre⟩ := h.row
  obtain ⟨g, c, rfl, hg, hz⟩ := own_some' hrow hn
  refine ⟨g, c, rfl, hg, hz, fun k e he => ?_⟩
  obtain ⟨x, hx⟩ : ∃ x, raw[k]? = some x := ⟨_, List.getElem?_eq_getElem (by rw [hrl]; exact (List.getElem?_eq_some_iff.1 he).1)⟩
  exact ⟨x, hre k x e hx he, fun j u hu => row_cells hrow hx hrl j u hu⟩
theorem evs_len {w : World} {B : Nat} {Mu : Nat → Prop} {v : Value} {es : List Ep} (h : EvsAt w B Mu v es) : ∃ A c, v = .slice A es.length c ∧ es.length ≤ maxLen := by
  obtain ⟨raw, hrow, hrl, hre⟩ := h.row
  obtain ⟨A, c, e⟩ := own_slice hrow
  exact ⟨A, c, e, owns_max hrow⟩
/-- The cells of an event of a row. -/
theorem ev_at {w : World} {B c : Nat} {Mu : Nat → Prop} {A : Option Addr} {es : List Ep} (h : EvsAt w B Mu (.slice A es.length c) es) {k : Nat} {e : Ep} (he : es[k]? = some e) : ∃ g, A = some ⟨g, 0, none⟩ ∧ g < w.heap.size ∧ ∃ x : Ev, EvIs w Mu x e ∧ w.cell? ⟨g, k * 8, none⟩ = some (.int .i64 e.call) ∧ w.cell? ⟨g, k * 8 + 1, none⟩ = some (.int .i64 e.inv) ∧ w.cell? ⟨g, k * 8 + 2, none⟩ = some (.int .i64 e.resp) ∧
    w.cell? ⟨g, k * 8 + 3, none⟩ = some (.int .i64 e.steps) ∧ w.cell? ⟨g, k * 8 + 4, none⟩ = some (.int .i64 e.ans.err) ∧ w.cell? ⟨g, k * 8 + 5, none⟩ = some (.int .u64 e.ans.val) ∧ w.cell? ⟨g, k * 8 + 6, none⟩ = some (.slice x.lA x.lN x.lC) ∧ w.cell? ⟨g, k * 8 + 7, none⟩ = some (.slice x.kA x.kN x.kC) := by
  have hl := (List.getElem?_eq_some_iff.1 he).1
  obtain ⟨g, c', e1, _, hz, hx⟩ := ev_of h (by omega)
  obtain ⟨x, hi, hr⟩ := hx k e he
  cases e1
  refine ⟨g, rfl, hz, x, hi, ?_, ?_, ?_, ?_, ?_, ?_, ?_, ?_⟩
  · rw [← hi.call]; exact hr 0 _ rfl
  · rw [← hi.inv]; exact hr 1 _ rfl
  · rw [← hi.resp]; exact hr 2 _ rfl
  · rw [← hi.steps]; exact hr 3 _ rfl
  · rw [← hi.err]; exact hr 4 _ rfl
  · rw [← hi.val]; exact hr 5 _ rfl
  · exact hr 6 _ rfl
  · exact hr 7 _ rfl
theorem EvsAt.below {w w' : World} {B : Nat} {Mu : Nat → Prop} {v : Value} {es : List Ep} (h : EvsAt w B Mu v es) (hb : Below w.heap.size w w') : EvsAt w' B Mu v es := by
  obtain ⟨raw, hrow, hrl, hre⟩ := h.row
  have hk := Keep.of_below (K := fun k => k < w.heap.size) hb (fun k hk => hk)
  exact h.keep hk (fun k hk _ => hk) (fun k _ hm => hm) (fun k hk => (World.ownsRow.lt hrow k hk).2)
end Go.Proofs.Ytlfingcmekifkaa

namespace Go.Proofs.Ytlfingcmekifkaa
open Go.RowKit

def lateC : List Cl := [⟨0, 0, 0, 0, 0, 0⟩, ⟨1, 0, 0, 0, 0, 0⟩, ⟨1, 0, 1, 0, 5, 0⟩, ⟨1, 0, 0, 0, 0, 0⟩, ⟨1, 0, 1, 0, 0, 0⟩, ⟨0, 0, 2, 0, 0, 0⟩, ⟨0, 0, 1, 0, 7, 0⟩]
def lateP : List Int := [0, 1, 1, 1, 1, 0, 0]
theorem late_evs : ((llPlay 1 lateC lateP).ends llG).map (fun e => e.ans.val) = [0, 0, 1, 5, 1, 0, 0] := by kernel_rfl
theorem late_words : (llPlay 1 lateC lateP).lw.mem.words = [8589934592] := by kernel_rfl
theorem late_chk : chkL 2 1 lateC lateP.length = 0 := by kernel_rfl
theorem late_calls {w : World} {b : Nat} {t : TypeId} (h : w.heap[b]? = some (.cells #[.int .i64 0, .int .i64 0, .int .i64 0, .int .u64 0, .int .u64 0, .int .u64 0, .int .i64 1, .int .i64 0, .int .i64 0, .int .u64 0, .int .u64 0, .int .u64 0, .int .i64 1, .int .i64 0, .int .i64 1, .int .u64 0, .int .u64 5, .int .u64 0, .int .i64 1, .int .i64 0, .int .i64 0, .int .u64 0, .int .u64 0, .int .u64 0, .int .i64 1, .int .i64 0, .int .i64 1, .int .u64 0, .int .u64 0, .int .u64 0, .int .i64 0, .int .i64 0, .int .i64 2, .int .u64 0, .int .u64 0, .int .u64 0, .int .i64 0, .int .i64 0, .int .i64 1, .int .u64 0, .int .u64 7, .int .u64 0] t (0, 0))) : SlCl w (.slice (some ⟨b, 0, none⟩) 7 7) lateC := by
  refine Sl.of_block (enc := clEnc) (sz := 6) (xs := lateC) (c := 7) h (Nat.le_refl _) (by unfold maxLen; decide) ?_
  intro k x hx j u hu
  rcases k with _ | _ | _ | _ | _ | _ | _ | k
  · simp [lateC] at hx
    subst hx
    rcases j with _ | _ | _ | _ | _ | _ | j <;> simp [clEnc] at hu ⊢ <;> exact hu
  · simp [lateC] at hx
    subst hx
    rcases j with _ | _ | _ | _ | _ | _ | j <;> simp [clEnc] at hu ⊢ <;> exact hu
  · simp [lateC] at hx
    subst hx
    rcases j with _ | _ | _ | _ | _ | _ | j <;> simp [clEnc] at hu ⊢ <;> exact hu
  · simp [lateC] at hx
    subst hx
    rcases j with _ | _ | _ | _ | _ | _ | j <;> simp [clEnc] at hu ⊢ <;> exact hu
  · simp [lateC] at hx
    subst hx
    rcases j with _ | _ | _ | _ | _ | _ | j <;> simp [clEnc] at hu ⊢ <;> exact hu
  · simp [lateC] at hx
    subst hx
    rcases j with _ | _ | _ | _ | _ | _ | j <;> simp [clEnc] at hu ⊢ <;> exact hu
  · simp [lateC] at hx
    subst hx
    rcases j with _ | _ | _ | _ | _ | _ | j <;> simp [clEnc] at hu ⊢ <;> exact hu
  · simp [lateC] at hx
theorem late_picks {w : World} {b : Nat} {t : TypeId} (h : w.heap[b]? = some (.cells #[.int .i64 0, .int .i64 1, .int .i64 1, .int .i64 1, .int .i64 1, .int .i64 0, .int .i64 0] t (0, 0))) : SlI w (.slice (some ⟨b, 0, none⟩) 7 7) lateP := by
  refine Sl.of_block (enc := ntEnc .i64) (sz := 1) (xs := lateP) (c := 7) h (Nat.le_refl _) (by unfold maxLen; decide) ?_
  intro k x hx j u hu
  rcases j with _ | j
  · rcases k with _ | _ | _ | _ | _ | _ | _ | k <;> simp [lateP] at hx <;> subst hx <;> simp [ntEnc] at hu ⊢ <;> exact hu
  · simp [ntEnc] at hu
set_option maxRecDepth 100000 in
set_option maxHeartbeats 2000000 in
theorem againW (w : World) : Calls Try.prog 11 #[] w fun e w' => e = .returned (.bool true) ∧ Below w.heap.size w w' := by
  have hc : SlCl ((w.alloc (.cells #[.int .i64 0, .int .i64 0, .int .i64 0, .int .u64 0, .int .u64 0, .int .u64 0, .int .i64 1, .int .i64 0, .int .i64 0, .int .u64 0, .int .u64 0, .int .u64 0, .int .i64 1, .int .i64 0, .int .i64 1, .int .u64 0, .int .u64 5, .int .u64 0, .int .i64 1, .int .i64 0, .int .i64 0, .int .u64 0, .int .u64 0, .int .u64 0, .int .i64 1, .int .i64 0, .int .i64 1, .int .u64 0, .int .u64 0, .int .u64 0, .int .i64 0, .int .i64 0, .int .i64 2, .int .u64 0, .int .u64 0, .int .u64 0, .int .i64 0, .int .i64 0, .int .i64 1, .int .u64 0, .int .u64 7, .int .u64 0] 43)).alloc (.cells #[.int .i64 0, .int .i64 1, .int .i64 1, .int .i64 1, .int .i64 1, .int .i64 0, .int .i64 0] 3)) (.slice (some ⟨w.heap.size, 0, none⟩) 7 7) lateC := late_calls ((heap_alloc_old _ _ (by simp)).trans (heap_alloc_new _ _))
  have hp : SlI ((w.alloc (.cells #[.int .i64 0, .int .i64 0, .int .i64 0, .int .u64 0, .int .u64 0, .int .u64 0, .int .i64 1, .int .i64 0, .int .i64 0, .int .u64 0, .int .u64 0, .int .u64 0, .int .i64 1, .int .i64 0, .int .i64 1, .int .u64 0, .int .u64 5, .int .u64 0, .int .i64 1, .int .i64 0, .int .i64 0, .int .u64 0, .int .u64 0, .int .u64 0, .int .i64 1, .int .i64 0, .int .i64 1, .int .u64 0, .int .u64 0, .int .u64 0, .int .i64 0, .int .i64 0, .int .i64 2, .int .u64 0, .int .u64 0, .int .u64 0, .int .i64 0, .int .i64 0, .int .i64 1, .int .u64 0, .int .u64 7, .int .u64 0] 43)).alloc (.cells #[.int .i64 0, .int .i64 1, .int .i64 1, .int .i64 1, .int .i64 1, .int .i64 0, .int .i64 0] 3)) (.slice (some ⟨w.heap.size + 1, 0, none⟩) 7 7) lateP := late_picks (by
    have : (w.alloc (.cells #[.int .i64 0, .int .i64 0, .int .i64 0, .int .u64 0, .int .u64 0, .int .u64 0, .int .i64 1, .int .i64 0, .int .i64 0, .int .u64 0, .int .u64 0, .int .u64 0, .int .i64 1, .int .i64 0, .int .i64 1, .int .u64 0, .int .u64 5, .int .u64 0, .int .i64 1, .int .i64 0, .int .i64 0, .int .u64 0, .int .u64 0, .int .u64 0, .int .i64 1, .int .i64 0, .int .i64 1, .int .u64 0, .int .u64 0, .int .u64 0, .int .i64 0, .int .i64 0, .int .i64 2, .int .u64 0, .int .u64 0, .int .u64 0, .int .i64 0, .int .i64 0, .int .i64 1, .int .u64 0, .int .u64 7, .int .u64 0] 43)).heap.size = w.heap.size + 1 := by simp
    rw [← this]
    exact heap_alloc_new _ _)
  have N := llscPlay 2 1 _ _ _ lateC _ _ _ lateP _ hc rfl hp rfl (fun c hc => by
    simp [lateC] at hc
    rcases hc with rfl | rfl | rfl | rfl | rfl | rfl | rfl <;> (unfold ClU; decide))
  rw [late_chk] at N
  have he := late_evs
  have hwd := late_words
  clear hc hp
  generalize hPe : (llPlay 1 lateC lateP).ends llG = es at N he
  generalize (llPlay 1 lateC lateP).lw.mem = mm at N hwd
  generalize (llPlay 1 lateC lateP).lw.now = now at N
  generalize (llPlay 1 lateC lateP).idle = idle at N
  clear hPe
  have hel : es.length = 7 := by have := congrArg List.length he; simpa using this
  go_enter Try.func11, Try.ntmps11
  go_wp2_with fail
  refine N.mono ?_
  rintro e w1 (⟨h, _⟩ | ⟨_, ev, B, Mu, g, c, rfl, hEv, hB, hwr, hb⟩)
  · exact absurd rfl h
  obtain ⟨ge, ce, rfl, hge, hgz, hev⟩ := ev_of hEv (by rw [hel]; decide)
  match es, he with
  | [e0, e1, e2, e3, e4, e5, e6], he =>
    simp at he
    obtain ⟨v0, v1, v2, v3, v4, v5, v6⟩ := he
    obtain ⟨x2, i2, r2⟩ := hev 2 e2 rfl
    obtain ⟨x4, i4, r4⟩ := hev 4 e4 rfl
    obtain ⟨x5, i5, r5⟩ := hev 5 e5 rfl
    obtain ⟨x6, i6, r6⟩ := hev 6 e6 rfl
    have a2 := r2 5 _ rfl
    have a4 := r4 5 _ rfl
    have a5 := r5 5 _ rfl
    have a6 := r6 5 _ rfl
    rw [i2.val, v2] at a2
    rw [i4.val, v4] at a4
    rw [i5.val, v5] at a5
    rw [i6.val, v6] at a6
    have hw3 : w1.cell? ⟨g, 0, none⟩ = some (.int .u64 8589934592) := by
      have := World.ownsRow.cellAt hwr 0 (by rw [hwd]; decide)
      rw [hwd] at this
      exact this
    have hwl : mm.words.length = 1 := by rw [hwd]; rfl
    have hgz2 : g < w1.heap.size := (World.ownsRow.lt hwr g rfl).2
    unfold repV
    rw [hwl]
    simp only [List.length_cons, List.length_nil]
    have HB := hide hb
    clear hwr hEv hev r2 r4 r5 r6 i2 i4 i5 i6 N hb hwd hwl hel
    simp at a2 a4 a5 a6
    go_wp2
    go_ret
    have hb2 : Below w.heap.size w ((w.alloc (.cells #[.int .i64 0, .int .i64 0, .int .i64 0, .int .u64 0, .int .u64 0, .int .u64 0, .int .i64 1, .int .i64 0, .int .i64 0, .int .u64 0, .int .u64 0, .int .u64 0, .int .i64 1, .int .i64 0, .int .i64 1, .int .u64 0, .int .u64 5, .int .u64 0, .int .i64 1, .int .i64 0, .int .i64 0, .int .u64 0, .int .u64 0, .int .u64 0, .int .i64 1, .int .i64 0, .int .i64 1, .int .u64 0, .int .u64 0, .int .u64 0, .int .i64 0, .int .i64 0, .int .i64 2, .int .u64 0, .int .u64 0, .int .u64 0, .int .i64 0, .int .i64 0, .int .i64 1, .int .u64 0, .int .u64 7, .int .u64 0] 43)).alloc (.cells #[.int .i64 0, .int .i64 1, .int .i64 1, .int .i64 1, .int .i64 1, .int .i64 0, .int .i64 0] 3)) := ((Below.refl _ w).alloc (Nat.le_refl _) _).alloc (by simp) _
    have hb3 := hb2.trans (HB.out.mono hb2.size)
    exact ⟨rfl, hb3.alloc hb3.size _⟩
end Go.Proofs.Ytlfingcmekifkaa
