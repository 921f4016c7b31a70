/- Objects on a loom: how a law reads the events that are told. -/
/- Threads that take names (law 39): the known case (three). -/
import Derived.Test.YtlfingcmekifkaaOj1
import Derived.Test.YtlfingcmekifkaaSp6
namespace Go.Proofs.Ytlfingcmekifkaa
open Go.RowKit

theorem owns_max {w : World} {base sz n : Nat} {e : TypeId} {v : Value} {xs : List Value} (h : w.ownsRow base e sz v n xs) : n ≤ maxLen := by
  rcases h.2 with ⟨_, h0⟩ | ⟨g, cap, cur, _, _, _, h1, h2, _⟩
  · omega
  · omega
/-- The events that are told are the play's, but for keys. -/
theorem ends_get {M O : Type} {G : Gm M O} {P : Ps M O} {h : Nat} {e : Ep} (he : (P.ends G)[h]? = some e) : ∃ e0, P.evs[h]? = some e0 ∧ e.call = e0.call ∧ e.inv = e0.inv ∧ e.resp = e0.resp ∧ e.steps = e0.steps ∧ e.ans = e0.ans := by
  rw [← endsK_all] at he
  have key : ∀ k (e : Ep), (P.endsK G k)[h]? = some e → ∃ e0, P.evs[h]? = some e0 ∧ e.call = e0.call ∧ e.inv = e0.inv ∧ e.resp = e0.resp ∧ e.steps = e0.steps ∧ e.ans = e0.ans := by
    intro k
    induction k with
    | zero => exact fun e he => ⟨e, he, rfl, rfl, rfl, rfl, rfl⟩
    | succ k ih =>
      intro e he
      rw [endsK_succ] at he
      unfold endT at he
      split at he
      · exact ih e he
      · rcases mod_get he with ⟨_, h1⟩ | ⟨_, d, hd, rfl⟩
        · exact ih e h1
        · exact ih d hd
  exact key 16 e he
/-- What is so of an event of a row. -/
theorem ev_of {w : World} {B : Nat} {Mu : Nat → Prop} {v : Value} {es : List Ep} (h : EvsAt w B Mu v es) (hn : 0 < es.length) : ∃ g c, v = .slice (some ⟨g, 0, none⟩) es.length c ∧ B ≤ g ∧ g < w.heap.size ∧ ∀ (k : Nat) (e : Ep), es[k]? = some e → ∃ x : Ev, EvIs w Mu x e ∧ ∀ (j : Nat) (u : Value), (evEnc x)[j]? = some u → w.cell? ⟨g, k * 8 + j, none⟩ = some u := by
  obtain ⟨raw, hrow, hrl, hre⟩ := h.row
  obtain ⟨g, c, rfl, hg, hz⟩ := own_some' hrow hn
  refine ⟨g, c, rfl, hg, hz, fun k e he => ?_⟩
  obtain ⟨x, hx⟩ : ∃ x, raw[k]? = some x := ⟨_, List.getElem?_eq_getElem (by rw [hrl]; exact (List.getElem?_eq_some_iff.1 he).1)⟩
  exact ⟨x, hre k x e hx he, fun j u hu => row_cells hrow hx hrl j u hu⟩
theorem evs_len {w : World} {B : Nat} {Mu : Nat → Prop} {v : Value} {es : List Ep} (h : EvsAt w B Mu v es) : ∃ A c, v = .slice A es.length c ∧ es.length ≤ maxLen := by
  obtain ⟨raw, hrow, hrl, hre⟩ := h.row
  obtain ⟨A, c, e⟩ := own_slice hrow
  exact ⟨A, c, e, owns_max hrow⟩
/-- The cells of an event of a row. -/
theorem ev_at {w : World} {B c : Nat} {Mu : Nat → Prop} {A : Option Addr} {es : List Ep} (h : EvsAt w B Mu (.slice A es.length c) es) {k : Nat} {e : Ep} (he : es[k]? = some e) : ∃ g, A = some ⟨g, 0, none⟩ ∧ g < w.heap.size ∧ ∃ x : Ev, EvIs w Mu x e ∧ w.cell? ⟨g, k * 8, none⟩ = some (.int .i64 e.call) ∧ w.cell? ⟨g, k * 8 + 1, none⟩ = some (.int .i64 e.inv) ∧ w.cell? ⟨g, k * 8 + 2, none⟩ = some (.int .i64 e.resp) ∧
    w.cell? ⟨g, k * 8 + 3, none⟩ = some (.int .i64 e.steps) ∧ w.cell? ⟨g, k * 8 + 4, none⟩ = some (.int .i64 e.ans.err) ∧ w.cell? ⟨g, k * 8 + 5, none⟩ = some (.int .u64 e.ans.val) ∧ w.cell? ⟨g, k * 8 + 6, none⟩ = some (.slice x.lA x.lN x.lC) ∧ w.cell? ⟨g, k * 8 + 7, none⟩ = some (.slice x.kA x.kN x.kC) := by
  have hl := (List.getElem?_eq_some_iff.1 he).1
  obtain ⟨g, c', e1, _, hz, hx⟩ := ev_of h (by omega)
  obtain ⟨x, hi, hr⟩ := hx k e he
  cases e1
  refine ⟨g, rfl, hz, x, hi, ?_, ?_, ?_, ?_, ?_, ?_, ?_, ?_⟩
  · rw [← hi.call]; exact hr 0 _ rfl
  · rw [← hi.inv]; exact hr 1 _ rfl
  · rw [← hi.resp]; exact hr 2 _ rfl
  · rw [← hi.steps]; exact hr 3 _ rfl
  · rw [← hi.err]; exact hr 4 _ rfl
  · rw [← hi.val]; exact hr 5 _ rfl
  · exact hr 6 _ rfl
  · exact hr 7 _ rfl
theorem EvsAt.below {w w' : World} {B : Nat} {Mu : Nat → Prop} {v : Value} {es : List Ep} (h : EvsAt w B Mu v es) (hb : Below w.heap.size w w') : EvsAt w' B Mu v es := by
  obtain ⟨raw, hrow, hrl, hre⟩ := h.row
  have hk := Keep.of_below (K := fun k => k < w.heap.size) hb (fun k hk => hk)
  exact h.keep hk (fun k hk _ => hk) (fun k _ hm => hm) (fun k hk => (World.ownsRow.lt hrow k hk).2)
end Go.Proofs.Ytlfingcmekifkaa

namespace Go.Proofs.Ytlfingcmekifkaa
open Go.RowKit

def lateC : List Cl := [⟨0, 0, 0, 0, 0, 0⟩, ⟨1, 0, 0, 0, 0, 0⟩, ⟨2, 0, 0, 0, 0, 0⟩]
def lateP : List Int := [0, 1, 1, 1, 1, 0, 0, 0, 0, 0, 2, 2, 2, 2, 2, 2, 2, 2, 2]
theorem late_evs : ((spPlay 3 lateC lateP).ends spG).map (fun e => (e.ans.val, decide (0 < e.resp))) = [(1, true), (0, true), (3, true)] := by kernel_rfl
theorem late_words : (spPlay 3 lateC lateP).lw.mem.words.length = 12 := by kernel_rfl
theorem late_chk : chkE 3 lateC lateP.length = 0 := by kernel_rfl
theorem late_calls {w : World} {b : Nat} {t : TypeId} (h : w.heap[b]? = some (.cells #[.int .i64 0, .int .i64 0, .int .i64 0, .int .u64 0, .int .u64 0, .int .u64 0, .int .i64 1, .int .i64 0, .int .i64 0, .int .u64 0, .int .u64 0, .int .u64 0, .int .i64 2, .int .i64 0, .int .i64 0, .int .u64 0, .int .u64 0, .int .u64 0] t (0, 0))) : SlCl w (.slice (some ⟨b, 0, none⟩) 3 3) lateC := by
  refine Sl.of_block (enc := clEnc) (sz := 6) (xs := lateC) (c := 3) h (Nat.le_refl _) (by unfold maxLen; decide) ?_
  intro k x hx j u hu
  rcases k with _ | _ | _ | k
  · simp [lateC] at hx
    subst hx
    rcases j with _ | _ | _ | _ | _ | _ | j <;> simp [clEnc] at hu ⊢ <;> exact hu
  · simp [lateC] at hx
    subst hx
    rcases j with _ | _ | _ | _ | _ | _ | j <;> simp [clEnc] at hu ⊢ <;> exact hu
  · simp [lateC] at hx
    subst hx
    rcases j with _ | _ | _ | _ | _ | _ | j <;> simp [clEnc] at hu ⊢ <;> exact hu
  · simp [lateC] at hx
theorem late_picks {w : World} {b : Nat} {t : TypeId} (h : w.heap[b]? = some (.cells #[.int .i64 0, .int .i64 1, .int .i64 1, .int .i64 1, .int .i64 1, .int .i64 0, .int .i64 0, .int .i64 0, .int .i64 0, .int .i64 0, .int .i64 2, .int .i64 2, .int .i64 2, .int .i64 2, .int .i64 2, .int .i64 2, .int .i64 2, .int .i64 2, .int .i64 2] t (0, 0))) : SlI w (.slice (some ⟨b, 0, none⟩) 19 19) lateP := by
  refine Sl.of_block (enc := ntEnc .i64) (sz := 1) (xs := lateP) (c := 19) h (Nat.le_refl _) (by unfold maxLen; decide) ?_
  intro k x hx j u hu
  rcases j with _ | j
  · rcases k with _ | _ | _ | _ | _ | _ | _ | _ | _ | _ | _ | _ | _ | _ | _ | _ | _ | _ | _ | k <;> simp [lateP] at hx <;> subst hx <;> simp [ntEnc] at hu ⊢ <;> exact hu
  · simp [ntEnc] at hu
set_option maxRecDepth 100000 in
set_option maxHeartbeats 2000000 in
theorem threeW (w : World) : Calls Try.prog 16 #[] w fun e w' => e = .returned (.bool true) ∧ Below w.heap.size w w' := by
  have hc : SlCl ((w.alloc (.cells #[.int .i64 0, .int .i64 0, .int .i64 0, .int .u64 0, .int .u64 0, .int .u64 0, .int .i64 1, .int .i64 0, .int .i64 0, .int .u64 0, .int .u64 0, .int .u64 0, .int .i64 2, .int .i64 0, .int .i64 0, .int .u64 0, .int .u64 0, .int .u64 0] 43)).alloc (.cells #[.int .i64 0, .int .i64 1, .int .i64 1, .int .i64 1, .int .i64 1, .int .i64 0, .int .i64 0, .int .i64 0, .int .i64 0, .int .i64 0, .int .i64 2, .int .i64 2, .int .i64 2, .int .i64 2, .int .i64 2, .int .i64 2, .int .i64 2, .int .i64 2, .int .i64 2] 3)) (.slice (some ⟨w.heap.size, 0, none⟩) 3 3) lateC := late_calls ((heap_alloc_old _ _ (by simp)).trans (heap_alloc_new _ _))
  have hp : SlI ((w.alloc (.cells #[.int .i64 0, .int .i64 0, .int .i64 0, .int .u64 0, .int .u64 0, .int .u64 0, .int .i64 1, .int .i64 0, .int .i64 0, .int .u64 0, .int .u64 0, .int .u64 0, .int .i64 2, .int .i64 0, .int .i64 0, .int .u64 0, .int .u64 0, .int .u64 0] 43)).alloc (.cells #[.int .i64 0, .int .i64 1, .int .i64 1, .int .i64 1, .int .i64 1, .int .i64 0, .int .i64 0, .int .i64 0, .int .i64 0, .int .i64 0, .int .i64 2, .int .i64 2, .int .i64 2, .int .i64 2, .int .i64 2, .int .i64 2, .int .i64 2, .int .i64 2, .int .i64 2] 3)) (.slice (some ⟨w.heap.size + 1, 0, none⟩) 19 19) lateP := late_picks (by
    have : (w.alloc (.cells #[.int .i64 0, .int .i64 0, .int .i64 0, .int .u64 0, .int .u64 0, .int .u64 0, .int .i64 1, .int .i64 0, .int .i64 0, .int .u64 0, .int .u64 0, .int .u64 0, .int .i64 2, .int .i64 0, .int .i64 0, .int .u64 0, .int .u64 0, .int .u64 0] 43)).heap.size = w.heap.size + 1 := by simp
    rw [← this]
    exact heap_alloc_new _ _)
  have N := splitPlay 3 _ _ _ lateC _ _ _ lateP _ hc rfl hp rfl (fun c hc => by
    simp [lateC] at hc
    rcases hc with rfl | rfl | rfl <;> (unfold ClU; decide))
  rw [late_chk, show (3 : Int).toNat = 3 from rfl] at N
  have he := late_evs
  have hwd := late_words
  clear hc hp
  generalize hPe : (spPlay 3 lateC lateP).ends spG = es at N he
  generalize (spPlay 3 lateC lateP).lw.mem = mm at N hwd
  generalize (spPlay 3 lateC lateP).lw.now = now at N
  generalize (spPlay 3 lateC lateP).idle = idle at N
  clear hPe
  have hel : es.length = 3 := by have := congrArg List.length he; simpa using this
  go_enter Try.func16, Try.ntmps16
  go_wp2_with fail
  refine N.mono ?_
  rintro e w1 (⟨h, _⟩ | ⟨_, ev, B, Mu, g, c, rfl, hEv, hB, hwr, hb⟩)
  · exact absurd rfl h
  obtain ⟨ge, ce, rfl, hge, hgz, hev⟩ := ev_of hEv (by rw [hel]; decide)
  match es, he with
  | [e0, e1, e2], he =>
    simp at he
    obtain ⟨⟨v0, t0⟩, ⟨v1, t1⟩, v2, t2⟩ := he
    obtain ⟨x0, i0, r0⟩ := hev 0 e0 rfl
    obtain ⟨x1, i1, r1⟩ := hev 1 e1 rfl
    obtain ⟨x2, i2, r2⟩ := hev 2 e2 rfl
    have a5 := r0 5 _ rfl
    have b5 := r1 5 _ rfl
    have d5 := r2 5 _ rfl
    have d2 := r2 2 _ rfl
    rw [i0.val, v0] at a5
    rw [i1.val, v1] at b5
    rw [i2.val, v2] at d5
    rw [i2.resp] at d2
    have hgz2 : g < w1.heap.size := (World.ownsRow.lt hwr g rfl).2
    unfold repV
    rw [hwd]
    simp only [List.length_cons, List.length_nil]
    have HB := hide hb
    clear hwr hEv hev r0 r1 r2 i0 i1 i2 N hb hwd hel
    simp at a5 b5 d5 d2
    go_wp2
    go_ret
    have hb2 : Below w.heap.size w ((w.alloc (.cells #[.int .i64 0, .int .i64 0, .int .i64 0, .int .u64 0, .int .u64 0, .int .u64 0, .int .i64 1, .int .i64 0, .int .i64 0, .int .u64 0, .int .u64 0, .int .u64 0, .int .i64 2, .int .i64 0, .int .i64 0, .int .u64 0, .int .u64 0, .int .u64 0] 43)).alloc (.cells #[.int .i64 0, .int .i64 1, .int .i64 1, .int .i64 1, .int .i64 1, .int .i64 0, .int .i64 0, .int .i64 0, .int .i64 0, .int .i64 0, .int .i64 2, .int .i64 2, .int .i64 2, .int .i64 2, .int .i64 2, .int .i64 2, .int .i64 2, .int .i64 2, .int .i64 2] 3)) := ((Below.refl _ w).alloc (Nat.le_refl _) _).alloc (by simp) _
    have hb3 := hb2.trans (HB.out.mono hb2.size)
    exact ⟨rfl, hb3.alloc hb3.size _⟩
end Go.Proofs.Ytlfingcmekifkaa
