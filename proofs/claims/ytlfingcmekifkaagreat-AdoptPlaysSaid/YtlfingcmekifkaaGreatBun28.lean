import Derived.Test.YtlfingcmekifkaaGreatAo6
import Derived.Test.YtlfingcmekifkaaGreatBun21
import Derived.Test.YtlfingcmekifkaaGreatBun13
import Derived.Test.YtlfingcmekifkaaGreatBun18
import Derived.Test.YtlfingcmekifkaaGreatBun17
namespace Go.Proofs.YtlfingcmekifkaaGreat
open Go.RowKit
def lateC : List Cl := [⟨0, 0, 0, 4, 0, 0⟩, ⟨1, 0, 0, 6, 0, 0⟩]
def lateP : List Int := [0, 0, 0, 0, 0, 0, 1, 1, 1, 1, 1, 1]
theorem late_evs : ((adPlay 2 lateC lateP).ends adG).map (fun e => (e.steps, e.ans.val)) = [(6, 9), (6, 8)] := by kernel_rfl
theorem late_words : (adPlay 2 lateC lateP).lw.mem.words = [5, 7, 11, 14] := by kernel_rfl
theorem late_chk : chkE 2 lateC lateP.length = 0 := by kernel_rfl
theorem late_calls {w : World} {b : Nat} {t : TypeId} (h : w.heap[b]? = some (.cells #[.int .i64 0, .int .i64 0, .int .i64 0, .int .u64 4, .int .u64 0, .int .u64 0, .int .i64 1, .int .i64 0, .int .i64 0, .int .u64 6, .int .u64 0, .int .u64 0] t (0, 0))) : SlCl w (.slice (some ⟨b, 0, none⟩) 2 2) lateC := by
  refine Sl.of_block (enc := clEnc) (sz := 6) (xs := lateC) (c := 2) h (Nat.le_refl _) (by unfold maxLen; decide) ?_
  intro k x hx j u hu
  rcases k with _ | _ | k
  · simp [lateC] at hx
    subst hx
    rcases j with _ | _ | _ | _ | _ | _ | j <;> simp [clEnc] at hu ⊢ <;> exact hu
  · simp [lateC] at hx
    subst hx
    rcases j with _ | _ | _ | _ | _ | _ | j <;> simp [clEnc] at hu ⊢ <;> exact hu
  · simp [lateC] at hx
theorem late_picks {w : World} {b : Nat} {t : TypeId} (h : w.heap[b]? = some (.cells #[.int .i64 0, .int .i64 0, .int .i64 0, .int .i64 0, .int .i64 0, .int .i64 0, .int .i64 1, .int .i64 1, .int .i64 1, .int .i64 1, .int .i64 1, .int .i64 1] t (0, 0))) : SlI w (.slice (some ⟨b, 0, none⟩) 12 12) lateP := by
  refine Sl.of_block (enc := ntEnc .i64) (sz := 1) (xs := lateP) (c := 12) h (Nat.le_refl _) (by unfold maxLen; decide) ?_
  intro k x hx j u hu
  rcases j with _ | j
  · rcases k with _ | _ | _ | _ | _ | _ | _ | _ | _ | _ | _ | _ | k <;> simp [lateP] at hx <;> subst hx <;> simp [ntEnc] at hu ⊢ <;> exact hu
  · simp [ntEnc] at hu
set_option maxRecDepth 100000 in
set_option maxHeartbeats 2000000 in
theorem lateW (w : World) : Calls Tryz.prog 16 #[] w fun e w' => e = .returned (.bool true) ∧ Below w.heap.size w w' := by
  have hc : SlCl ((w.alloc (.cells #[.int .i64 0, .int .i64 0, .int .i64 0, .int .u64 4, .int .u64 0, .int .u64 0, .int .i64 1, .int .i64 0, .int .i64 0, .int .u64 6, .int .u64 0, .int .u64 0] 48)).alloc (.cells #[.int .i64 0, .int .i64 0, .int .i64 0, .int .i64 0, .int .i64 0, .int .i64 0, .int .i64 1, .int .i64 1, .int .i64 1, .int .i64 1, .int .i64 1, .int .i64 1] 3)) (.slice (some ⟨w.heap.size, 0, none⟩) 2 2) lateC := late_calls ((heap_alloc_old _ _ (by simp)).trans (heap_alloc_new _ _))
  have hp : SlI ((w.alloc (.cells #[.int .i64 0, .int .i64 0, .int .i64 0, .int .u64 4, .int .u64 0, .int .u64 0, .int .i64 1, .int .i64 0, .int .i64 0, .int .u64 6, .int .u64 0, .int .u64 0] 48)).alloc (.cells #[.int .i64 0, .int .i64 0, .int .i64 0, .int .i64 0, .int .i64 0, .int .i64 0, .int .i64 1, .int .i64 1, .int .i64 1, .int .i64 1, .int .i64 1, .int .i64 1] 3)) (.slice (some ⟨w.heap.size + 1, 0, none⟩) 12 12) lateP := late_picks (by
    have : (w.alloc (.cells #[.int .i64 0, .int .i64 0, .int .i64 0, .int .u64 4, .int .u64 0, .int .u64 0, .int .i64 1, .int .i64 0, .int .i64 0, .int .u64 6, .int .u64 0, .int .u64 0] 48)).heap.size = w.heap.size + 1 := by simp
    rw [← this]
    exact heap_alloc_new _ _)
  have N := adoptPlay 2 _ _ _ lateC _ _ _ lateP _ hc rfl hp rfl (fun c hc => by
    simp [lateC] at hc
    rcases hc with rfl | rfl <;> (unfold ClU; decide))
  rw [late_chk, show (2 : Int).toNat = 2 from rfl] at N
  have he := late_evs
  have hwd := late_words
  clear hc hp
  generalize hPe : (adPlay 2 lateC lateP).ends adG = es at N he
  generalize (adPlay 2 lateC lateP).lw.mem = mm at N hwd
  generalize (adPlay 2 lateC lateP).lw.now = now at N
  generalize (adPlay 2 lateC lateP).idle = idle at N
  clear hPe
  have hel : es.length = 2 := by have := congrArg List.length he; simpa using this
  go_enter Tryz.func16, Tryz.ntmps16
  go_wp2_with fail
  refine N.mono ?_
  rintro e w1 (⟨h, _⟩ | ⟨_, ev, B, Mu, g, c, rfl, hEv, hB, hwr, hb⟩)
  · exact absurd rfl h
  obtain ⟨ge, ce, rfl, hge, hgz, hev⟩ := ev_of hEv (by rw [hel]; decide)
  match es, he with
  | [e0, e1], he =>
    simp at he
    obtain ⟨⟨s0, v0⟩, s1, v1⟩ := he
    obtain ⟨x0, i0, r0⟩ := hev 0 e0 rfl
    obtain ⟨x1, i1, r1⟩ := hev 1 e1 rfl
    have a3 := r0 3 _ rfl
    have a5 := r0 5 _ rfl
    have b5 := r1 5 _ rfl
    rw [i0.steps, s0] at a3
    rw [i0.val, v0] at a5
    rw [i1.val, v1] at b5
    have hw3 : w1.cell? ⟨g, 3, none⟩ = some (.int .u64 14) := by
      have := World.ownsRow.cellAt hwr 3 (by rw [hwd]; decide)
      rw [hwd] at this
      exact this
    have hwl : mm.words.length = 4 := by rw [hwd]; rfl
    have hgz2 : g < w1.heap.size := (World.ownsRow.lt hwr g rfl).2
    unfold repV
    rw [hwl]
    simp only [List.length_cons, List.length_nil]
    have HB := hide hb
    clear hwr hEv hev r0 r1 i0 i1 N hb hwd hwl hel
    simp at a3 a5 b5
    go_wp2
    go_ret
    have hb2 : Below w.heap.size w ((w.alloc (.cells #[.int .i64 0, .int .i64 0, .int .i64 0, .int .u64 4, .int .u64 0, .int .u64 0, .int .i64 1, .int .i64 0, .int .i64 0, .int .u64 6, .int .u64 0, .int .u64 0] 48)).alloc (.cells #[.int .i64 0, .int .i64 0, .int .i64 0, .int .i64 0, .int .i64 0, .int .i64 0, .int .i64 1, .int .i64 1, .int .i64 1, .int .i64 1, .int .i64 1, .int .i64 1] 3)) := ((Below.refl _ w).alloc (Nat.le_refl _) _).alloc (by simp) _
    have hb3 := hb2.trans (HB.out.mono hb2.size)
    exact ⟨rfl, hb3.alloc hb3.size _⟩
end Go.Proofs.YtlfingcmekifkaaGreat

namespace Go.Proofs.YtlfingcmekifkaaGreat
open Go.RowKit
theorem DoR.ba {w w' : World} {hb wp q nh th : Nat} {g f : Nat → Value} {X : Rv} {T1 : Tp} {W1 : Rw} {Mu : Nat → Prop} (h : DoR w hb wp q nh th g f X Mu T1 W1 w') : T1.at_ ≤ T1.got.length := by
  obtain ⟨_, _, _, h1, _⟩ := h
  exact h1.at_.ba
theorem RtAt.four_eq {w : World} {hb wp q nh th : Nat} {g f g' f' : Nat → Value} {X X' : Rv} {T T' : Tp} {W W' : Rw} (h : RtAt w hb wp q nh th g f X T W) (h' : RtAt w hb wp q nh th g' f' X' T' W') {k : Nat} (hk : X'.four k) : X.four k := by
  obtain ⟨_, _, t3, t4, _, _, _, x0, _, x9⟩ := h.cells
  obtain ⟨_, _, u3, u4, _, _, _, y0, _, y9⟩ := h'.cells
  rw [t3] at u3
  rw [t4] at u4
  rw [x0] at y0
  rw [x9] at y9
  unfold Rv.four at hk ⊢
  rw [Option.some.inj u3, Option.some.inj u4, Option.some.inj y0, Option.some.inj y9]
  exact hk
theorem DoR.prvNew {w w' : World} {hb wp q nh th : Nat} {g f : Nat → Value} {X : Rv} {T1 : Tp} {W1 : Rw} {Mu : Nat → Prop} (h : DoR w hb wp q nh th g f X Mu T1 W1 w') {l : List Int} {v : Value} {w2 : World} (hb2 : Below w'.heap.size w' w2) (hv2 : LstIs w2 (fun k => k < w'.heap.size) v l) : DoR w hb wp q nh th g f X Mu { T1 with priv := l } W1 (w2.setCell ⟨hb, q + 8, none⟩ v) := by
  obtain ⟨g1, f1, X1, h1, _⟩ := id h
  refine (h.grow hb2).prv v ?_
  obtain ⟨A, c, e, h2, h3⟩ := hv2
  refine ⟨A, c, e, h2, fun a ha => ⟨fun hh => (h3 a ha).1 ?_, (h3 a ha).2⟩⟩
  have hz : w.heap.size ≤ w'.heap.size := by
    obtain ⟨_, _, _, _, _, _, _, _, h6⟩ := h
    exact h6.size
  rcases hh with hh | hh | ⟨g2, f2, X2, hh, h4⟩
  · exact Nat.lt_of_lt_of_le hh hz
  · exact h1.lt _ (Or.inl hh)
  · have hk := Keep.of_below (K := fun k => k < w'.heap.size) hb2 (fun k hk => hk)
    have h5 := h1.at_.keep hk h1.at_.hrow.lt h1.at_.mem.row.lt h1.at_.lt4
    exact h1.at_.lt4 _ (h5.four_eq hh h4)
end Go.Proofs.YtlfingcmekifkaaGreat

namespace Go.Proofs.YtlfingcmekifkaaGreat
open Go.RowKit
def Rv.seven (X : Rv) (k : Nat) : Prop := X.four k ∨ X.pv.ownBlock = some k ∨ X.lv.ownBlock = some k ∨ X.kv.ownBlock = some k
def NotFour (w : World) (hb wp q nh th : Nat) (k0 : Nat) : Prop := k0 ≠ hb ∧ k0 ≠ wp ∧ k0 < w.heap.size ∧ ∀ g f X T W, RtAt w hb wp q nh th g f X T W → ¬ X.seven k0
section
variable {w w' w2 : World} {hb wp q nh th : Nat} {g f : Nat → Value} {X : Rv} {T T' : Tp} {W W' : Rw} {k0 : Nat} {Mu : Nat → Prop} {v : Value} {l : List Int} {row : Option Nat}
theorem RtAt.reads (h : RtAt w hb wp q nh th g f X T W) : w.cell? ⟨hb, q + 8, none⟩ = some X.pv ∧ w.cell? ⟨hb, q + 11, none⟩ = some X.lv ∧ w.cell? ⟨hb, q + 12, none⟩ = some X.kv := by
  have hq := h.qn
  have c := fun i (hi : i < nh) => h.hrow.cell (i := i) hi
  exact ⟨by rw [c _ (by omega), h.tp.priv], by rw [c _ (by omega), h.tp.list], by rw [c _ (by omega), h.tp.key]⟩
theorem RtAt.seven_eq {g' f' : Nat → Value} {X' : Rv} (h : RtAt w hb wp q nh th g f X T W) (h' : RtAt w hb wp q nh th g' f' X' T' W') {k : Nat} (hk : X'.seven k) : X.seven k := by
  obtain ⟨a1, a2, a3⟩ := h.reads
  obtain ⟨b1, b2, b3⟩ := h'.reads
  rw [a1] at b1
  rw [a2] at b2
  rw [a3] at b3
  rcases hk with hk | hk
  · exact Or.inl (h.four_eq h' hk)
  · right
    rw [Option.some.inj b1, Option.some.inj b2, Option.some.inj b3]
    exact hk
theorem NotFour.acc (h : NotFour w hb wp q nh th k0) (hR : RtAt w hb wp q nh th g f X T W) (hQ : RtQ w hb wp q nh th g f X T' W' w') : NotFour w' hb wp q nh th k0 ∧ w'.heap[k0]? = w.heap[k0]? := by
  obtain ⟨h1, h2, h3, h4⟩ := h
  obtain ⟨g2, f2, X2, q1, q2, q3, q4, q5, q6, q7, q8, q9⟩ := hQ
  have h0 := h4 _ _ _ _ _ hR
  refine ⟨⟨h1, h2, Nat.lt_of_lt_of_le h3 q9.size, fun g3 f3 X3 T3 W3 h5 h6 => ?_⟩, q9.block k0 ⟨h3, h1, h2, fun e => h0 (Or.inl e)⟩⟩
  rcases q1.seven_eq h5 h6 with h7 | h7
  · rcases q8 k0 h7 with h7 | h7
    · exact h0 (Or.inl h7)
    · omega
  · rw [q3, q4, q5] at h7
    exact h0 (Or.inr h7)
theorem NotFour.keep {S : Nat → Prop} (h : NotFour w hb wp q nh th k0) (hR : RtAt w hb wp q nh th g f X T W) (hk : Keep S w w') (h1 : S hb) (h2 : S wp) (h3 : ∀ k, X.four k → S k) : NotFour w' hb wp q nh th k0 := by
  obtain ⟨a1, a2, a3, a4⟩ := h
  have h5 := hR.keep hk h1 h2 h3
  exact ⟨a1, a2, Nat.lt_of_lt_of_le a3 hk.size, fun g3 f3 X3 T3 W3 h6 h7 => a4 _ _ _ _ _ hR (h5.seven_eq h6 h7)⟩
theorem lst_lt (h : LstIs w Mu v l) {k : Nat} (hk : v.ownBlock = some k) : k < w.heap.size := by
  obtain ⟨A, c, rfl, _, h3⟩ := h
  rcases A with _ | a
  · cases hk
  · cases hk
    exact (h3 a rfl).2
theorem key_lt (h : KeyIs w Mu v l) {k : Nat} (hk : v.ownBlock = some k) : k < w.heap.size := by
  obtain ⟨A, c, rfl, _, _, h3⟩ := h
  rcases A with _ | a
  · cases hk
  · cases hk
    exact (h3 a rfl).2
theorem DoAt.lt7 (h : DoAt w hb wp q nh th g f X T W Mu) {k : Nat} (hk : X.seven k) : k < w.heap.size := by
  rcases hk with hk | hk | hk | hk
  · exact h.at_.lt4 k hk
  · exact lst_lt h.pr hk
  · exact lst_lt h.li hk
  · exact key_lt h.ky hk
theorem DoR.newNot {w0 : World} {S : Nat → Prop} (h : DoR w0 hb wp q nh th g f X Mu T W w) (hk : Keep S w w') (hS : ∀ g1 f1 X1, RtAt w hb wp q nh th g1 f1 X1 T W → S hb ∧ S wp ∧ ∀ k, X1.four k → S k) (h0 : w.heap.size ≤ k0) (hz : k0 < w'.heap.size) : NotFour w' hb wp q nh th k0 := by
  obtain ⟨g1, f1, X1, h1, h2, h3, h4, h5, h6⟩ := h
  obtain ⟨s1, s2, s3⟩ := hS _ _ _ h1.at_
  have h7 := h1.at_.keep hk s1 s2 s3
  exact ⟨by have := h1.at_.hrow.lt; omega, by have := h1.at_.mem.row.lt; omega, hz, fun g3 f3 X3 T3 W3 h8 h9 => by have := h1.lt7 (h7.seven_eq h8 h9); omega⟩
theorem LstIs.mu_ne (h : LstIs w Mu v l) (hn : ∀ k, v.ownBlock = some k → row ≠ some k) : LstIs w (fun k => Mu k ∨ row = some k) v l := by
  obtain ⟨A, c, rfl, h2, h3⟩ := h
  refine ⟨A, c, rfl, h2, fun a ha => ⟨fun hh => ?_, (h3 a ha).2⟩⟩
  rcases hh with hh | hh
  · exact (h3 a ha).1 hh
  · subst ha
    exact hn _ rfl hh
theorem KeyIs.mu_ne (h : KeyIs w Mu v l) (hn : ∀ k, v.ownBlock = some k → row ≠ some k) : KeyIs w (fun k => Mu k ∨ row = some k) v l := by
  obtain ⟨A, c, rfl, h1, h2, h3⟩ := h
  refine ⟨A, c, rfl, h1, h2, fun a ha => ⟨fun hh => ?_, (h3 a ha).2⟩⟩
  rcases hh with hh | hh
  · exact (h3 a ha).1 hh
  · subst ha
    exact hn _ rfl hh
theorem DoR.but (h : DoR w hb wp q nh th g f X Mu T W w') (hN : ∀ k, row = some k → NotFour w' hb wp q nh th k ∧ w.heap.size ≤ k) (hk : Keep (fun k => k < w'.heap.size ∧ row ≠ some k) w' w2) : DoR w hb wp q nh th g f X Mu T W w2 := by
  obtain ⟨g1, f1, X1, h1, h2, h3, h4, h5, h6⟩ := h
  have n7 : ∀ k, X1.seven k → row ≠ some k := fun k hk e => (hN k e).1.2.2.2 _ _ _ _ _ h1.at_ hk
  have hz := h6.size
  refine ⟨g1, f1, X1, ⟨h1.at_.keep hk ⟨h1.at_.hrow.lt, fun e => (hN _ e).1.1 rfl⟩ ⟨h1.at_.mem.row.lt, fun e => (hN _ e).1.2.1 rfl⟩ (fun k hk => ⟨h1.at_.lt4 k hk, n7 k (Or.inl hk)⟩), (h1.pr.mu_ne (fun k e => n7 k (Or.inr (Or.inl e)))).keep hk (fun k k1 k2 => ⟨k1, fun e => k2 (Or.inr e)⟩) (fun _ _ h => Or.inl h),
    (h1.li.mu_ne (fun k e => n7 k (Or.inr (Or.inr (Or.inl e))))).keep hk (fun k k1 k2 => ⟨k1, fun e => k2 (Or.inr e)⟩) (fun _ _ h => Or.inl h), (h1.ky.mu_ne (fun k e => n7 k (Or.inr (Or.inr (Or.inr e))))).keep hk (fun k k1 k2 => ⟨k1, fun e => k2 (Or.inr e)⟩) (fun _ _ h => Or.inl h),
    h1.mu, fun k k1 => Nat.lt_of_lt_of_le (h1.lt k k1) hk.size⟩, h2, h3, h4, h5, h6.trans (hk.mono (fun k k1 => ⟨by omega, fun e => by have := (hN k e).2; omega⟩))⟩
end
theorem colT_rtb {t : Nat} {b : Int} {T : Tp} {W : Rw} (h : T.fresh = true → RtB T W) : ∀ n, (colT t b n T W).2.1.fresh = true → RtB (colT t b n T W).2.1 (colT t b n T W).2.2
  | 0 => h
  | n + 1 => by
    rw [colT_succ]
    exact acc_rtb (colT_rtb h n)
theorem owns_blk {w w' : World} {B sz n : Nat} {e : TypeId} {v : Value} {xs : List Value} (h : w.ownsRow B e sz v n xs) (hk : ∀ k, v.ownBlock = some k → w'.heap[k]? = w.heap[k]?) : w'.ownsRow B e sz v n xs := by
  obtain ⟨g1, g2 | ⟨g, cap, cur, e1, e2, e3, e4⟩⟩ := h
  · exact ⟨g1, Or.inl g2⟩
  · subst e1
    exact ⟨g1, Or.inr ⟨g, cap, cur, rfl, e2, (hk g rfl).trans e3, e4⟩⟩
set_option maxRecDepth 100000 in
set_option maxHeartbeats 2000000 in
theorem colW {w0 w : World} {hb wp q nh th n : Nat} {g0 f0 : Nat → Value} {X0 : Rv} {T : Tp} {W : Rw} {Mu0 : Nat → Prop} (b : Nat) (hD0 : DoR w0 hb wp q nh th g0 f0 X0 Mu0 T W w) (hn : n ≤ 16 ∧ b ≤ 16) (hB : T.fresh = true → RtB T W) :
    Calls Tryz.prog 117 #[.pointer (some ⟨hb, q, none⟩), .int .i64 (n : Int), .int .i64 (b : Int)] w fun e w' => ∃ A c, e = .returned (.slice A n c) ∧ (colT th b n T W).1.length = n ∧ WRow w' w.heap.size (.slice A n c) (colT th b n T W).1 ∧ (∀ k, (Value.slice A n c).ownBlock = some k → NotFour w' hb wp q nh th k) ∧ DoR w0 hb wp q nh th g0 f0 X0 Mu0 (colT th b n T W).2.1 (colT th b n T W).2.2 w' := by
  obtain ⟨g, f, X, hD1, hOpen⟩ := hD0.open
  obtain ⟨Mu, hMu⟩ : ∃ Mu, (fun k => Mu0 k ∨ X.four k) = Mu := ⟨_, rfl⟩
  rw [hMu] at hD1 hOpen
  have HD := hide hD1.start
  have HOP := hide hOpen
  have HB := hide hB
  have hlen : ∀ k, (colT th b k T W).1.length = k := fun k => by
    induction k with
    | zero => rfl
    | succ k ih => rw [colT_succ]; simp [ih]
  clear hD1 hB hOpen hD0 hMu
  obtain ⟨i0, hi, hz0, hz1, hz2⟩ := info_parts info_wordR
  go_enter Tryz.func117, Tryz.ntmps117
  go_wp2
  go_loopw [7, 10] (fun vv i wr => ∃ (k : Nat) (A : Option Addr) (c : Nat), vv = .slice A k c ∧ k ≤ n ∧ i = .int .i64 (k : Int) ∧ Hid (WRow wr w.heap.size (.slice A k c) (colT th b k T W).1) ∧ Hid (∀ k', (Value.slice A k c).ownBlock = some k' → NotFour wr hb wp q nh th k') ∧ Hid (DoR w hb wp q nh th g f X Mu (colT th b k T W).2.1 (colT th b k T W).2.2 wr)) (fun _ i _ => n - (intOf i).toNat)
  case atStart => exact ⟨0, none, 0, rfl, Nat.zero_le _, rfl, hide (World.ownsRow_nil _ _ _ _), hide (fun k e => by cases e), HD⟩
  case round =>
    obtain ⟨k, Av, cv, rfl, hkn, rfl, hO, hNF, hDk⟩ := hrel
    by_cases hlt : k < n
    · have hlt' : (k : Int) < (n : Int) := by omega
      have k1 : IntKind.i64.wrap ((b : Int) + (k : Int)) = (b : Int) + (k : Int) := wrap_i64 (by omega) (by omega)
      obtain ⟨x, Tn, Wn, hacc⟩ : ∃ x t w, (colT th b k T W).2.1.acc th 0 ((b : Int) + k) 0 0 (colT th b k T W).2.2 = (x, t, w) := ⟨_, _, _, rfl⟩
      have har := acc_reads th 0 ((b : Int) + k) 0 0 (colT th b k T W).2.1 (colT th b k T W).2.2
      rw [hacc] at har
      dsimp only at har
      obtain ⟨g1, f1, X1, hR1, hQ1⟩ := hDk.out.acc (T2 := Tn) (W2 := Wn) har
      have N1 := tapeRead ((b : Int) + k) hR1 (colT_rtb HB.out k)
      rw [hacc] at N1
      dsimp only at N1
      have hO1 := hO.out
      rw [show WRow wr w.heap.size (.slice Av k cv) (colT th b k T W).1 = wr.ownsRow w.heap.size 46 1 (.slice Av k cv) (colT th b k T W).1.length ((colT th b k T W).1.map (Value.int .u64)) from rfl, hlen k] at hO1
      have HO1 := hide hO1
      have HR1 := hide hR1
      have HQ1 := hide hQ1
      have HACC := hide hacc
      have hsc := colT_succ th b k T W
      rw [hacc] at hsc
      have HSC := hide hsc
      have HLN := hide hlen
      clear hR1 hQ1 hacc hO1 hO hDk hsc hlen har
      go_wp2_with fail
      refine N1.mono ?_
      rintro e w5 ⟨rfl, hq5⟩
      have hD5 := HQ1.out _ hq5
      have hk5 := fun k h => (hNF.out k h).acc HR1.out hq5
      have hO5 := owns_blk HO1.out (fun k h => (hk5 k h).2)
      have hz5 : w.heap.size ≤ w5.heap.size := by
        obtain ⟨_, _, _, _, _, _, _, _, h9⟩ := hD5
        exact h9.size
      have HD5 := hide hD5
      have HK5 := hide hk5
      clear hq5 hD5 hk5 N1 HQ1 HR1
      go_wp2_with (at_builtin; refine wpList_append_own_at _ rfl _ _ 28 rfl w.heap.size 46 i0 (.int .u64 0) 1 8 Tryz.underlying28 hi hz0 hz1 hz2 rfl (by decide) (.slice Av k cv) k ((colT th b k T W).1.map (Value.int .u64)) rfl (World.ownsRow.alloc hO5 (.cells #[.int .u64 x] 46)) ⟨w5.heap.size, 0, none⟩ 1 1 [.int .u64 x] rfl rfl (cell_one_new _ _ _) (by simp [Value.oneCell']) (by unfold maxLen; omega) (by omega) (by simp; omega) ?_; intro v7 w7 hown7 hgrow7 _ hloc7)
      obtain ⟨A7, c7, rfl⟩ := own_slice hown7
      have hk7 : Keep (fun j => j < w5.heap.size ∧ (Value.slice Av k cv).ownBlock ≠ some j) w5 w7 := ((Keep.refl _ w5).alloc (fun k hk => hk.1) _).grown hgrow7 (fun k hk => by simp; omega) (fun k hk hh => hh.2 hk)
      have hbase : ∀ j, (Value.slice Av k cv).ownBlock = some j → w.heap.size ≤ j := fun j hj => (HO1.out.lt j hj).1
      have HD7 := hide (HD5.out.but (fun j hj => ⟨(HK5.out j hj).1, hbase j hj⟩) hk7)
      have HNF7 : Hid (∀ k', (Value.slice A7 (k + 1) c7).ownBlock = some k' → NotFour w7 hb wp q nh th k') := hide (fun k' hk' => by
        have hS : ∀ g1 f1 X1, RtAt w5 hb wp q nh th g1 f1 X1 Tn Wn → (hb < w5.heap.size ∧ (Value.slice Av k cv).ownBlock ≠ some hb) ∧ (wp < w5.heap.size ∧ (Value.slice Av k cv).ownBlock ≠ some wp) ∧ ∀ k, X1.four k → k < w5.heap.size ∧ (Value.slice Av _ cv).ownBlock ≠ some k := fun g1 f1 X1 h1 => ⟨⟨h1.hrow.lt, fun e => (HK5.out _ e).1.1 rfl⟩, ⟨h1.mem.row.lt, fun e => (HK5.out _ e).1.2.1 rfl⟩, fun j hj => ⟨h1.lt4 j hj, fun e => (HK5.out j e).1.2.2.2 _ _ _ _ _ h1 (Or.inl hj)⟩⟩
        rcases hloc7 with h | h
        · obtain ⟨g1, f1, X1, h1, _⟩ := HD5.out
          obtain ⟨s1, s2, s3⟩ := hS _ _ _ h1.at_
          exact ((HK5.out k' (h ▸ hk')).1).keep h1.at_ hk7 s1 s2 s3
        · have hz7 := (hown7.lt _ h).2
          rw [h] at hk'
          cases hk'
          exact HD5.out.newNot hk7 hS (by simp) hz7)
      have HO7 := hide hown7
      clear hown7 hgrow7 hloc7 hk7 hbase HD5 HK5 hO5 HO1 hNF
      go_wp2
      go_roundw
      case rel =>
        refine ⟨k + 1, A7, c7, rfl, by omega, by push_cast; rfl, hide ?_, HNF7, hide ?_⟩
        · rw [HSC.out]
          unfold WRow
          have := HO7.out
          simpa [HLN.out k] using this
        · rw [HSC.out]
          exact HD7.out
      case measure => first | (simp [intOf]; done) | (simp [intOf]; omega)
    · obtain rfl : n = k := by omega
      go_wp2
      go_ret
      exact ⟨Av, cv, rfl, hlen n, hO.out, hNF.out, HOP.out _ _ _ hDk.out⟩
end Go.Proofs.YtlfingcmekifkaaGreat
