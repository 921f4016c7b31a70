import Derived.Test.YtlfingcmekifkaaGreatLl8
import Derived.Test.YtlfingcmekifkaaGreatBun20
import Derived.Test.YtlfingcmekifkaaGreatBun22
import Derived.Test.YtlfingcmekifkaaGreatBun14
import Derived.Test.YtlfingcmekifkaaGreatBun18
import Derived.Test.YtlfingcmekifkaaGreatBun17
namespace Go.Proofs.YtlfingcmekifkaaGreat
open Go.RowKit
def lateC : List Cl := [⟨0, 0, 0, 0, 0, 0⟩, ⟨1, 0, 0, 0, 0, 0⟩, ⟨1, 0, 1, 0, 5, 0⟩, ⟨1, 0, 0, 0, 0, 0⟩, ⟨1, 0, 1, 0, 0, 0⟩, ⟨0, 0, 2, 0, 0, 0⟩, ⟨0, 0, 1, 0, 7, 0⟩]
def lateP : List Int := [0, 1, 1, 1, 1, 0, 0]
theorem late_evs : ((llPlay 1 lateC lateP).ends llG).map (fun e => e.ans.val) = [0, 0, 1, 5, 1, 0, 0] := by kernel_rfl
theorem late_words : (llPlay 1 lateC lateP).lw.mem.words = [8589934592] := by kernel_rfl
theorem late_chk : chkL 2 1 lateC lateP.length = 0 := by kernel_rfl
theorem late_calls {w : World} {b : Nat} {t : TypeId} (h : w.heap[b]? = some (.cells #[.int .i64 0, .int .i64 0, .int .i64 0, .int .u64 0, .int .u64 0, .int .u64 0, .int .i64 1, .int .i64 0, .int .i64 0, .int .u64 0, .int .u64 0, .int .u64 0, .int .i64 1, .int .i64 0, .int .i64 1, .int .u64 0, .int .u64 5, .int .u64 0, .int .i64 1, .int .i64 0, .int .i64 0, .int .u64 0, .int .u64 0, .int .u64 0, .int .i64 1, .int .i64 0, .int .i64 1, .int .u64 0, .int .u64 0, .int .u64 0, .int .i64 0, .int .i64 0, .int .i64 2, .int .u64 0, .int .u64 0, .int .u64 0, .int .i64 0, .int .i64 0, .int .i64 1, .int .u64 0, .int .u64 7, .int .u64 0] t (0, 0))) : SlCl w (.slice (some ⟨b, 0, none⟩) 7 7) lateC := by
  refine Sl.of_block (enc := clEnc) (sz := 6) (xs := lateC) (c := 7) h (Nat.le_refl _) (by unfold maxLen; decide) ?_
  intro k x hx j u hu
  rcases k with _ | _ | _ | _ | _ | _ | _ | k
  · simp [lateC] at hx
    subst hx
    rcases j with _ | _ | _ | _ | _ | _ | j <;> simp [clEnc] at hu ⊢ <;> exact hu
  · simp [lateC] at hx
    subst hx
    rcases j with _ | _ | _ | _ | _ | _ | j <;> simp [clEnc] at hu ⊢ <;> exact hu
  · simp [lateC] at hx
    subst hx
    rcases j with _ | _ | _ | _ | _ | _ | j <;> simp [clEnc] at hu ⊢ <;> exact hu
  · simp [lateC] at hx
    subst hx
    rcases j with _ | _ | _ | _ | _ | _ | j <;> simp [clEnc] at hu ⊢ <;> exact hu
  · simp [lateC] at hx
    subst hx
    rcases j with _ | _ | _ | _ | _ | _ | j <;> simp [clEnc] at hu ⊢ <;> exact hu
  · simp [lateC] at hx
    subst hx
    rcases j with _ | _ | _ | _ | _ | _ | j <;> simp [clEnc] at hu ⊢ <;> exact hu
  · simp [lateC] at hx
    subst hx
    rcases j with _ | _ | _ | _ | _ | _ | j <;> simp [clEnc] at hu ⊢ <;> exact hu
  · simp [lateC] at hx
theorem late_picks {w : World} {b : Nat} {t : TypeId} (h : w.heap[b]? = some (.cells #[.int .i64 0, .int .i64 1, .int .i64 1, .int .i64 1, .int .i64 1, .int .i64 0, .int .i64 0] t (0, 0))) : SlI w (.slice (some ⟨b, 0, none⟩) 7 7) lateP := by
  refine Sl.of_block (enc := ntEnc .i64) (sz := 1) (xs := lateP) (c := 7) h (Nat.le_refl _) (by unfold maxLen; decide) ?_
  intro k x hx j u hu
  rcases j with _ | j
  · rcases k with _ | _ | _ | _ | _ | _ | _ | k <;> simp [lateP] at hx <;> subst hx <;> simp [ntEnc] at hu ⊢ <;> exact hu
  · simp [ntEnc] at hu
set_option maxRecDepth 100000 in
set_option maxHeartbeats 2000000 in
theorem llAgainW (w : World) : Calls Tryz.prog 9 #[] w fun e w' => e = .returned (.bool true) ∧ Below w.heap.size w w' := by
  have hc : SlCl ((w.alloc (.cells #[.int .i64 0, .int .i64 0, .int .i64 0, .int .u64 0, .int .u64 0, .int .u64 0, .int .i64 1, .int .i64 0, .int .i64 0, .int .u64 0, .int .u64 0, .int .u64 0, .int .i64 1, .int .i64 0, .int .i64 1, .int .u64 0, .int .u64 5, .int .u64 0, .int .i64 1, .int .i64 0, .int .i64 0, .int .u64 0, .int .u64 0, .int .u64 0, .int .i64 1, .int .i64 0, .int .i64 1, .int .u64 0, .int .u64 0, .int .u64 0, .int .i64 0, .int .i64 0, .int .i64 2, .int .u64 0, .int .u64 0, .int .u64 0, .int .i64 0, .int .i64 0, .int .i64 1, .int .u64 0, .int .u64 7, .int .u64 0] 48)).alloc (.cells #[.int .i64 0, .int .i64 1, .int .i64 1, .int .i64 1, .int .i64 1, .int .i64 0, .int .i64 0] 3)) (.slice (some ⟨w.heap.size, 0, none⟩) 7 7) lateC := late_calls ((heap_alloc_old _ _ (by simp)).trans (heap_alloc_new _ _))
  have hp : SlI ((w.alloc (.cells #[.int .i64 0, .int .i64 0, .int .i64 0, .int .u64 0, .int .u64 0, .int .u64 0, .int .i64 1, .int .i64 0, .int .i64 0, .int .u64 0, .int .u64 0, .int .u64 0, .int .i64 1, .int .i64 0, .int .i64 1, .int .u64 0, .int .u64 5, .int .u64 0, .int .i64 1, .int .i64 0, .int .i64 0, .int .u64 0, .int .u64 0, .int .u64 0, .int .i64 1, .int .i64 0, .int .i64 1, .int .u64 0, .int .u64 0, .int .u64 0, .int .i64 0, .int .i64 0, .int .i64 2, .int .u64 0, .int .u64 0, .int .u64 0, .int .i64 0, .int .i64 0, .int .i64 1, .int .u64 0, .int .u64 7, .int .u64 0] 48)).alloc (.cells #[.int .i64 0, .int .i64 1, .int .i64 1, .int .i64 1, .int .i64 1, .int .i64 0, .int .i64 0] 3)) (.slice (some ⟨w.heap.size + 1, 0, none⟩) 7 7) lateP := late_picks (by
    have : (w.alloc (.cells #[.int .i64 0, .int .i64 0, .int .i64 0, .int .u64 0, .int .u64 0, .int .u64 0, .int .i64 1, .int .i64 0, .int .i64 0, .int .u64 0, .int .u64 0, .int .u64 0, .int .i64 1, .int .i64 0, .int .i64 1, .int .u64 0, .int .u64 5, .int .u64 0, .int .i64 1, .int .i64 0, .int .i64 0, .int .u64 0, .int .u64 0, .int .u64 0, .int .i64 1, .int .i64 0, .int .i64 1, .int .u64 0, .int .u64 0, .int .u64 0, .int .i64 0, .int .i64 0, .int .i64 2, .int .u64 0, .int .u64 0, .int .u64 0, .int .i64 0, .int .i64 0, .int .i64 1, .int .u64 0, .int .u64 7, .int .u64 0] 48)).heap.size = w.heap.size + 1 := by simp
    rw [← this]
    exact heap_alloc_new _ _)
  have N := llscPlay 2 1 _ _ _ lateC _ _ _ lateP _ hc rfl hp rfl (fun c hc => by
    simp [lateC] at hc
    rcases hc with rfl | rfl | rfl | rfl | rfl | rfl | rfl <;> (unfold ClU; decide))
  rw [late_chk] at N
  have he := late_evs
  have hwd := late_words
  clear hc hp
  generalize hPe : (llPlay 1 lateC lateP).ends llG = es at N he
  generalize (llPlay 1 lateC lateP).lw.mem = mm at N hwd
  generalize (llPlay 1 lateC lateP).lw.now = now at N
  generalize (llPlay 1 lateC lateP).idle = idle at N
  clear hPe
  have hel : es.length = 7 := by have := congrArg List.length he; simpa using this
  go_enter Tryz.func9, Tryz.ntmps9
  go_wp2_with fail
  refine N.mono ?_
  rintro e w1 (⟨h, _⟩ | ⟨_, ev, B, Mu, g, c, rfl, hEv, hB, hwr, hb⟩)
  · exact absurd rfl h
  obtain ⟨ge, ce, rfl, hge, hgz, hev⟩ := ev_of hEv (by rw [hel]; decide)
  match es, he with
  | [e0, e1, e2, e3, e4, e5, e6], he =>
    simp at he
    obtain ⟨v0, v1, v2, v3, v4, v5, v6⟩ := he
    obtain ⟨x2, i2, r2⟩ := hev 2 e2 rfl
    obtain ⟨x4, i4, r4⟩ := hev 4 e4 rfl
    obtain ⟨x5, i5, r5⟩ := hev 5 e5 rfl
    obtain ⟨x6, i6, r6⟩ := hev 6 e6 rfl
    have a2 := r2 5 _ rfl
    have a4 := r4 5 _ rfl
    have a5 := r5 5 _ rfl
    have a6 := r6 5 _ rfl
    rw [i2.val, v2] at a2
    rw [i4.val, v4] at a4
    rw [i5.val, v5] at a5
    rw [i6.val, v6] at a6
    have hw3 : w1.cell? ⟨g, 0, none⟩ = some (.int .u64 8589934592) := by
      have := World.ownsRow.cellAt hwr 0 (by rw [hwd]; decide)
      rw [hwd] at this
      exact this
    have hwl : mm.words.length = 1 := by rw [hwd]; rfl
    have hgz2 : g < w1.heap.size := (World.ownsRow.lt hwr g rfl).2
    unfold repV
    rw [hwl]
    simp only [List.length_cons, List.length_nil]
    have HB := hide hb
    clear hwr hEv hev r2 r4 r5 r6 i2 i4 i5 i6 N hb hwd hwl hel
    simp at a2 a4 a5 a6
    go_wp2
    go_ret
    have hb2 : Below w.heap.size w ((w.alloc (.cells #[.int .i64 0, .int .i64 0, .int .i64 0, .int .u64 0, .int .u64 0, .int .u64 0, .int .i64 1, .int .i64 0, .int .i64 0, .int .u64 0, .int .u64 0, .int .u64 0, .int .i64 1, .int .i64 0, .int .i64 1, .int .u64 0, .int .u64 5, .int .u64 0, .int .i64 1, .int .i64 0, .int .i64 0, .int .u64 0, .int .u64 0, .int .u64 0, .int .i64 1, .int .i64 0, .int .i64 1, .int .u64 0, .int .u64 0, .int .u64 0, .int .i64 0, .int .i64 0, .int .i64 2, .int .u64 0, .int .u64 0, .int .u64 0, .int .i64 0, .int .i64 0, .int .i64 1, .int .u64 0, .int .u64 7, .int .u64 0] 48)).alloc (.cells #[.int .i64 0, .int .i64 1, .int .i64 1, .int .i64 1, .int .i64 1, .int .i64 0, .int .i64 0] 3)) := ((Below.refl _ w).alloc (Nat.le_refl _) _).alloc (by simp) _
    have hb3 := hb2.trans (HB.out.mono hb2.size)
    exact ⟨rfl, hb3.alloc hb3.size _⟩
end Go.Proofs.YtlfingcmekifkaaGreat

namespace Go.Proofs.YtlfingcmekifkaaGreat
open Go.RowKit
set_option maxRecDepth 100000 in
set_option maxHeartbeats 2000000 in
theorem most_le (ev : Value) (B : Nat) (Mu : Nat → Prop) (es : List Ep) (Aw : Option Addr) (nw cw : Nat) (mm : Mm) (now idle k : Int) (w : World) (h : EvsAt w B Mu ev es) (hk : ∀ e ∈ es, e.steps ≤ k) :
    Calls Tryz.prog 13 #[repV ev (.slice Aw nw cw) mm now idle, .int .i64 k] w fun e w' => e = .returned (.bool true) ∧ Below w.heap.size w w' := by
  obtain ⟨A, ce, rfl, hl⟩ := evs_len h
  have H := hide h
  have HK := hide hk
  have hel : (es.length : Int) ≤ 9223372036854775807 := by unfold maxLen at hl; omega
  clear h hk hl
  unfold repV
  obtain ⟨w1, hw1⟩ : ∃ w1, w1 = w.alloc (.cells #[.slice A es.length ce, .slice Aw nw cw, .int .i64 (wrap64 mm.rd), .int .i64 (wrap64 mm.wr), .int .i64 (wrap64 mm.sw), .int .i64 (wrap64 mm.ad), .int .i64 (wrap64 mm.ft), .int .i64 now, .int .i64 idle] 32) := ⟨_, rfl⟩
  have a0 : w1.cell? ⟨w.heap.size, 0, none⟩ = some (.slice A es.length ce) := by rw [hw1]; go_simp
  have z0 : w.heap.size < w1.heap.size := by rw [hw1]; simp
  have hb1 : Below w.heap.size w w1 := by rw [hw1]; exact (Below.refl _ _).alloc (Nat.le_refl _) _
  have HB1 := hide hb1
  have HW1 := hide hw1
  clear hb1 hw1
  go_enter Tryz.func13, Tryz.ntmps13
  go_upto_region 1 with fail
  rw [← HW1.out]
  clear HW1
  go_wp2
  go_loopw [9] (fun i wr => ∃ k : Nat, k ≤ es.length ∧ i = .int .i64 (k : Int) ∧ wr = w1) (fun i _ => es.length - (intOf i).toNat)
  case atStart => exact ⟨0, Nat.zero_le _, rfl, rfl⟩
  case round =>
    obtain ⟨j, hjn, rfl, hW⟩ := hrel
    subst hW
    by_cases hlt : j < es.length
    · obtain ⟨e, he⟩ : ∃ e, es[j]? = some e := ⟨_, List.getElem?_eq_getElem hlt⟩
      obtain ⟨g1, rfl, hg1, x, hx, c0, c1, c2, c3, c4, c5, c6, c7⟩ := ev_at (H.out.below HB1.out) he
      have hs := HK.out e (List.mem_of_getElem? he)
      have hlt' : (j : Int) < (es.length : Int) := by omega
      have d0 : decide (k < e.steps) = false := by simp; omega
      clear hx he c0 c1 c2 c4 c5 c6 c7 hs
      go_wp2
      go_roundw
      case rel => exact ⟨j + 1, by omega, by go_num, by trivial⟩
      case measure => first | (simp [intOf]; done) | (simp [intOf]; omega)
    · obtain rfl : es.length = j := by omega
      go_wp2
      go_ret
      exact ⟨rfl, HB1.out⟩
set_option maxRecDepth 100000 in
set_option maxHeartbeats 2000000 in
theorem most_zero (k : Int) (w : World) : Calls Tryz.prog 13 #[zeroV, .int .i64 k] w fun e w' => e = .returned (.bool true) ∧ Below w.heap.size w w' := by
  unfold zeroV
  go_enter Tryz.func13, Tryz.ntmps13
  go_wp2
  go_loopw [9] (fun i wr => i = .int .i64 0 ∧ wr = w.alloc (.cells #[.slice none 0 0, .slice none 0 0, .int .i64 0, .int .i64 0, .int .i64 0, .int .i64 0, .int .i64 0, .int .i64 0, .int .i64 0] 32)) (fun i _ => 0)
  case atStart => exact ⟨rfl, rfl⟩
  case round =>
    obtain ⟨rfl, hW⟩ := hrel
    subst hW
    go_wp2
    go_ret
    exact ⟨rfl, (Below.refl _ _).alloc (Nat.le_refl _) _⟩
end Go.Proofs.YtlfingcmekifkaaGreat

namespace Go.Proofs.YtlfingcmekifkaaGreat
open Go.RowKit
theorem DoR.ba {w w' : World} {hb wp q nh th : Nat} {g f : Nat → Value} {X : Rv} {T1 : Tp} {W1 : Rw} {Mu : Nat → Prop} (h : DoR w hb wp q nh th g f X Mu T1 W1 w') : T1.at_ ≤ T1.got.length := by
  obtain ⟨_, _, _, h1, _⟩ := h
  exact h1.at_.ba
theorem RtAt.four_eq {w : World} {hb wp q nh th : Nat} {g f g' f' : Nat → Value} {X X' : Rv} {T T' : Tp} {W W' : Rw} (h : RtAt w hb wp q nh th g f X T W) (h' : RtAt w hb wp q nh th g' f' X' T' W') {k : Nat} (hk : X'.four k) : X.four k := by
  obtain ⟨_, _, t3, t4, _, _, _, x0, _, x9⟩ := h.cells
  obtain ⟨_, _, u3, u4, _, _, _, y0, _, y9⟩ := h'.cells
  rw [t3] at u3
  rw [t4] at u4
  rw [x0] at y0
  rw [x9] at y9
  unfold Rv.four at hk ⊢
  rw [Option.some.inj u3, Option.some.inj u4, Option.some.inj y0, Option.some.inj y9]
  exact hk
end Go.Proofs.YtlfingcmekifkaaGreat

namespace Go.Proofs.YtlfingcmekifkaaGreat
open Go.RowKit
def Rv.seven (X : Rv) (k : Nat) : Prop := X.four k ∨ X.pv.ownBlock = some k ∨ X.lv.ownBlock = some k ∨ X.kv.ownBlock = some k
def NotFour (w : World) (hb wp q nh th : Nat) (k0 : Nat) : Prop := k0 ≠ hb ∧ k0 ≠ wp ∧ k0 < w.heap.size ∧ ∀ g f X T W, RtAt w hb wp q nh th g f X T W → ¬ X.seven k0
section
variable {w w' w2 : World} {hb wp q nh th : Nat} {g f : Nat → Value} {X : Rv} {T T' : Tp} {W W' : Rw} {k0 : Nat} {Mu : Nat → Prop} {v : Value} {l : List Int} {row : Option Nat}
theorem RtAt.reads (h : RtAt w hb wp q nh th g f X T W) : w.cell? ⟨hb, q + 8, none⟩ = some X.pv ∧ w.cell? ⟨hb, q + 11, none⟩ = some X.lv ∧ w.cell? ⟨hb, q + 12, none⟩ = some X.kv := by
  have hq := h.qn
  have c := fun i (hi : i < nh) => h.hrow.cell (i := i) hi
  exact ⟨by rw [c _ (by omega), h.tp.priv], by rw [c _ (by omega), h.tp.list], by rw [c _ (by omega), h.tp.key]⟩
theorem RtAt.seven_eq {g' f' : Nat → Value} {X' : Rv} (h : RtAt w hb wp q nh th g f X T W) (h' : RtAt w hb wp q nh th g' f' X' T' W') {k : Nat} (hk : X'.seven k) : X.seven k := by
  obtain ⟨a1, a2, a3⟩ := h.reads
  obtain ⟨b1, b2, b3⟩ := h'.reads
  rw [a1] at b1
  rw [a2] at b2
  rw [a3] at b3
  rcases hk with hk | hk
  · exact Or.inl (h.four_eq h' hk)
  · right
    rw [Option.some.inj b1, Option.some.inj b2, Option.some.inj b3]
    exact hk
theorem NotFour.acc (h : NotFour w hb wp q nh th k0) (hR : RtAt w hb wp q nh th g f X T W) (hQ : RtQ w hb wp q nh th g f X T' W' w') : NotFour w' hb wp q nh th k0 ∧ w'.heap[k0]? = w.heap[k0]? := by
  obtain ⟨h1, h2, h3, h4⟩ := h
  obtain ⟨g2, f2, X2, q1, q2, q3, q4, q5, q6, q7, q8, q9⟩ := hQ
  have h0 := h4 _ _ _ _ _ hR
  refine ⟨⟨h1, h2, Nat.lt_of_lt_of_le h3 q9.size, fun g3 f3 X3 T3 W3 h5 h6 => ?_⟩, q9.block k0 ⟨h3, h1, h2, fun e => h0 (Or.inl e)⟩⟩
  rcases q1.seven_eq h5 h6 with h7 | h7
  · rcases q8 k0 h7 with h7 | h7
    · exact h0 (Or.inl h7)
    · omega
  · rw [q3, q4, q5] at h7
    exact h0 (Or.inr h7)
theorem NotFour.keep {S : Nat → Prop} (h : NotFour w hb wp q nh th k0) (hR : RtAt w hb wp q nh th g f X T W) (hk : Keep S w w') (h1 : S hb) (h2 : S wp) (h3 : ∀ k, X.four k → S k) : NotFour w' hb wp q nh th k0 := by
  obtain ⟨a1, a2, a3, a4⟩ := h
  have h5 := hR.keep hk h1 h2 h3
  exact ⟨a1, a2, Nat.lt_of_lt_of_le a3 hk.size, fun g3 f3 X3 T3 W3 h6 h7 => a4 _ _ _ _ _ hR (h5.seven_eq h6 h7)⟩
theorem lst_lt (h : LstIs w Mu v l) {k : Nat} (hk : v.ownBlock = some k) : k < w.heap.size := by
  obtain ⟨A, c, rfl, _, h3⟩ := h
  rcases A with _ | a
  · cases hk
  · cases hk
    exact (h3 a rfl).2
theorem key_lt (h : KeyIs w Mu v l) {k : Nat} (hk : v.ownBlock = some k) : k < w.heap.size := by
  obtain ⟨A, c, rfl, _, _, h3⟩ := h
  rcases A with _ | a
  · cases hk
  · cases hk
    exact (h3 a rfl).2
theorem DoAt.lt7 (h : DoAt w hb wp q nh th g f X T W Mu) {k : Nat} (hk : X.seven k) : k < w.heap.size := by
  rcases hk with hk | hk | hk | hk
  · exact h.at_.lt4 k hk
  · exact lst_lt h.pr hk
  · exact lst_lt h.li hk
  · exact key_lt h.ky hk
theorem LstIs.mu_ne (h : LstIs w Mu v l) (hn : ∀ k, v.ownBlock = some k → row ≠ some k) : LstIs w (fun k => Mu k ∨ row = some k) v l := by
  obtain ⟨A, c, rfl, h2, h3⟩ := h
  refine ⟨A, c, rfl, h2, fun a ha => ⟨fun hh => ?_, (h3 a ha).2⟩⟩
  rcases hh with hh | hh
  · exact (h3 a ha).1 hh
  · subst ha
    exact hn _ rfl hh
theorem KeyIs.mu_ne (h : KeyIs w Mu v l) (hn : ∀ k, v.ownBlock = some k → row ≠ some k) : KeyIs w (fun k => Mu k ∨ row = some k) v l := by
  obtain ⟨A, c, rfl, h1, h2, h3⟩ := h
  refine ⟨A, c, rfl, h1, h2, fun a ha => ⟨fun hh => ?_, (h3 a ha).2⟩⟩
  rcases hh with hh | hh
  · exact (h3 a ha).1 hh
  · subst ha
    exact hn _ rfl hh
theorem DoR.but (h : DoR w hb wp q nh th g f X Mu T W w') (hN : ∀ k, row = some k → NotFour w' hb wp q nh th k ∧ w.heap.size ≤ k) (hk : Keep (fun k => k < w'.heap.size ∧ row ≠ some k) w' w2) : DoR w hb wp q nh th g f X Mu T W w2 := by
  obtain ⟨g1, f1, X1, h1, h2, h3, h4, h5, h6⟩ := h
  have n7 : ∀ k, X1.seven k → row ≠ some k := fun k hk e => (hN k e).1.2.2.2 _ _ _ _ _ h1.at_ hk
  have hz := h6.size
  refine ⟨g1, f1, X1, ⟨h1.at_.keep hk ⟨h1.at_.hrow.lt, fun e => (hN _ e).1.1 rfl⟩ ⟨h1.at_.mem.row.lt, fun e => (hN _ e).1.2.1 rfl⟩ (fun k hk => ⟨h1.at_.lt4 k hk, n7 k (Or.inl hk)⟩), (h1.pr.mu_ne (fun k e => n7 k (Or.inr (Or.inl e)))).keep hk (fun k k1 k2 => ⟨k1, fun e => k2 (Or.inr e)⟩) (fun _ _ h => Or.inl h),
    (h1.li.mu_ne (fun k e => n7 k (Or.inr (Or.inr (Or.inl e))))).keep hk (fun k k1 k2 => ⟨k1, fun e => k2 (Or.inr e)⟩) (fun _ _ h => Or.inl h), (h1.ky.mu_ne (fun k e => n7 k (Or.inr (Or.inr (Or.inr e))))).keep hk (fun k k1 k2 => ⟨k1, fun e => k2 (Or.inr e)⟩) (fun _ _ h => Or.inl h),
    h1.mu, fun k k1 => Nat.lt_of_lt_of_le (h1.lt k k1) hk.size⟩, h2, h3, h4, h5, h6.trans (hk.mono (fun k k1 => ⟨by omega, fun e => by have := (hN k e).2; omega⟩))⟩
end
theorem owns_blk {w w' : World} {B sz n : Nat} {e : TypeId} {v : Value} {xs : List Value} (h : w.ownsRow B e sz v n xs) (hk : ∀ k, v.ownBlock = some k → w'.heap[k]? = w.heap[k]?) : w'.ownsRow B e sz v n xs := by
  obtain ⟨g1, g2 | ⟨g, cap, cur, e1, e2, e3, e4⟩⟩ := h
  · exact ⟨g1, Or.inl g2⟩
  · subst e1
    exact ⟨g1, Or.inr ⟨g, cap, cur, rfl, e2, (hk g rfl).trans e3, e4⟩⟩
end Go.Proofs.YtlfingcmekifkaaGreat
