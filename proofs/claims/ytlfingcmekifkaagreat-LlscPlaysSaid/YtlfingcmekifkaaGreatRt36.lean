import Derived.Test.YtlfingcmekifkaaGreatBun25
import Derived.Test.YtlfingcmekifkaaGreatBun18
import Derived.Test.YtlfingcmekifkaaGreatLo6
namespace Go.Proofs.YtlfingcmekifkaaGreat
open Go.RowKit
structure OwnD (w0 : World) (hb wp q nh th : Nat) (g f : Nat → Value) (X : Rv) (Mu : Nat → Prop) (T : Tp) (W : Rw) (w : World) (B k L c : Nat) (O : List Int) : Prop where
  d : DoR w0 hb wp q nh th g f X Mu T W w
  nf : NotFour w hb wp q nh th k
  lo : w0.heap.size ≤ k
  row : WRow w B (.slice (some ⟨k, 0, none⟩) L c) O
  len : O.length = L
section
variable {w0 w w' : World} {hb wp q nh th : Nat} {g f : Nat → Value} {X : Rv} {Mu : Nat → Prop} {T T2 : Tp} {W W2 : Rw} {B k L c : Nat} {O : List Int}
theorem OwnD.acc (h : OwnD w0 hb wp q nh th g f X Mu T W w B k L c O) (hp : T2.priv = T.priv ∧ T2.list = T.list ∧ T2.key = T.key) : ∃ g1 f1 X1, RtAt w hb wp q nh th g1 f1 X1 T W ∧ ∀ w2, RtQ w hb wp q nh th g1 f1 X1 T2 W2 w2 → OwnD w0 hb wp q nh th g f X Mu T2 W2 w2 B k L c O := by
  obtain ⟨g1, f1, X1, h1, h2⟩ := h.d.acc (T2 := T2) (W2 := W2) hp
  refine ⟨g1, f1, X1, h1, fun w2 hQ => ?_⟩
  obtain ⟨a, b⟩ := h.nf.acc h1 hQ
  exact ⟨h2 w2 hQ, a, h.lo, owns_blk h.row (fun j hj => by cases hj; exact b), h.len⟩
theorem OwnD.num (h : OwnD w0 hb wp q nh th g f X Mu T W w B k L c O) {j : Nat} (v : Value) (hj : j < 13) (ht : ∀ g X, TpF g q wp th X T → TpF (fun i => if i = q + j then v else g i) q wp th X T2) (e1 : T2.got = T.got) (e2 : T2.tks = T.tks) (e3 : T2.at_ = T.at_) (hp : T2.priv = T.priv ∧ T2.list = T.list ∧ T2.key = T.key) :
    OwnD w0 hb wp q nh th g f X Mu T2 W (w.setCell ⟨hb, q + j, none⟩ v) B k L c O := by
  obtain ⟨g1, f1, X1, h1, _⟩ := h.d
  have h2 := h1.at_.cell v hj (ht _ _ h1.at_.tp) e1 e2 (by rw [e3, e1]; exact h1.at_.ba)
  have hk : Keep (fun k => k ≠ hb) w (w.setCell ⟨hb, q + j, none⟩ v) := (Keep.refl _ w).setCell (by simp) _
  obtain ⟨n1, n2, n3, n4⟩ := h.nf
  exact ⟨h.d.num v hj ht e1 e2 e3 hp, ⟨n1, n2, by simpa using n3, fun g3 f3 X3 T3 W3 h6 h7 => n4 _ _ _ _ _ h1.at_ (h2.seven_eq h6 h7)⟩, h.lo, owns_blk h.row (fun j hj => by cases hj; exact hk.block _ n1), h.len⟩
theorem OwnD.set (h : OwnD w0 hb wp q nh th g f X Mu T W w B k L c O) (j : Nat) (x : Int) : OwnD w0 hb wp q nh th g f X Mu T W (w.setCell ⟨k, j, none⟩ (.int .u64 x)) B k L c (O.set j x) := by
  have hk : Keep (fun i => i < w.heap.size ∧ some k ≠ some i) w (w.setCell ⟨k, j, none⟩ (.int .u64 x)) := (Keep.refl _ w).setCell (by simp) _
  obtain ⟨g1, f1, X1, h1, _⟩ := h.d
  have hn := h.nf
  obtain ⟨n1, n2, n3, n4⟩ := h.nf
  refine ⟨h.d.but (row := some k) (fun i hi => by cases hi; exact ⟨h.nf, h.lo⟩) hk, hn.keep h1.at_ hk ⟨h1.at_.hrow.lt, fun e => n1 (Option.some.inj e)⟩ ⟨h1.at_.mem.row.lt, fun e => n2 (Option.some.inj e)⟩ (fun i hi => ⟨h1.at_.lt4 i hi, fun e => n4 _ _ _ _ _ h1.at_ (Or.inl (Option.some.inj e ▸ hi))⟩), h.lo, ?_, by rw [List.length_set]; exact h.len⟩
  have hr : w.ownsRow B 46 1 (.slice (some ⟨k, 0, none⟩) L c) L (O.map (Value.int .u64)) := by have h0 := h.row; unfold WRow at h0; rwa [h.len] at h0
  have := (World.ownsRow.stored hr j (.int .u64 x)).1
  unfold WRow
  rw [List.length_set, List.map_set, h.len]
  exact this
theorem OwnD.prv (h : OwnD w0 hb wp q nh th g f X Mu T W w B k L c O) (hM : ∀ i, Mu i → i < w0.heap.size) (hl : L ≤ maxLen) : DoR w0 hb wp q nh th g f X Mu { T with priv := O } W (w.setCell ⟨hb, q + 8, none⟩ (.slice (some ⟨k, 0, none⟩) L c)) := by
  refine h.d.prv _ ?_
  obtain ⟨n1, n2, n3, n4⟩ := h.nf
  refine ⟨some ⟨k, 0, none⟩, c, by rw [h.len], by rw [h.len]; exact wrow_sl h.row (by rw [h.len]; exact hl), fun a ha => ?_⟩
  cases ha
  refine ⟨fun hh => ?_, n3⟩
  rcases hh with hh | hh | ⟨g1, f1, X1, h1, h2⟩
  · have h1 : k < w0.heap.size := hh
    have := h.lo
    omega
  · have h1 : k < w0.heap.size := hM _ hh
    have := h.lo
    omega
  · exact n4 _ _ _ _ _ h1 (Or.inl h2)
theorem OwnD.cell (h : OwnD w0 hb wp q nh th g f X Mu T W w B k L c O) {j : Nat} (hj : j < L) : w.cell? ⟨k, j, none⟩ = some (.int .u64 (at9 O j)) := by
  have hr : w.ownsRow B 46 1 (.slice (some ⟨k, 0, none⟩) L c) L (O.map (Value.int .u64)) := by have h0 := h.row; unfold WRow at h0; rwa [h.len] at h0
  have := World.ownsRow.cellAt hr j (by omega)
  rw [this, List.getElem?_map]
  unfold at9
  rw [List.getElem?_eq_getElem (by rw [h.len]; exact hj)]
  rfl
theorem OwnD.frozen (h : OwnD w0 hb wp q nh th g f X Mu T W w B k L c O) (hL : 0 < L) (j : Nat) : w.frozen? ⟨k, j, none⟩ = false := by
  have hr := h.row
  rcases hr.2 with ⟨e, _⟩ | ⟨g2, cap, cur, e, _, hb2, _⟩
  · cases e
  · cases e
    exact frozen_of_row _ _ _ _ _ hb2
end
theorem DoAt.notFour {w w' : World} {hb wp q nh th : Nat} {g f : Nat → Value} {X : Rv} {T : Tp} {W : Rw} {Mu : Nat → Prop} {k : Nat} (h : DoAt w hb wp q nh th g f X T W Mu) (hb' : Below w.heap.size w w') (h1 : w.heap.size ≤ k) (h2 : k < w'.heap.size) : NotFour w' hb wp q nh th k := by
  have h3 := h.grow hb'
  exact ⟨by have := h.at_.hrow.lt; omega, by have := h.at_.mem.row.lt; omega, h2, fun g3 f3 X3 T3 W3 h6 h7 => by have := h.lt7 (h3.at_.seven_eq h6 h7); omega⟩
theorem acc_val (t : Nat) (k a x y : Int) (T : Tp) (W : Rw) : (T.acc t k a x y W).2.1.val = T.val := by
  unfold Tp.acc
  repeat' split
  all_goals rfl
def lenV : Value → Nat
  | .slice _ n _ => n
  | _ => 0
theorem padL_eq {m : Nat} {l : List Int} {j : Nat} (h1 : j ≤ m - l.length) (h2 : ¬ l.length + j < m) : l ++ List.replicate j 0 = padL m l := by
  unfold padL
  rw [show j = m - l.length by omega]
theorem dup_append {W0 : World} {ops : Array Oper} {rest : List Oper} {o : Oper} {a : Act} {Q : Exit → Act → World → Prop} (hgd : o.guard = none) (s x : Operand)
    (ho : o.op = .call { callee := .builtin .append, args := #[s, x], argTypes := #[28, 28] }) {b : Nat} (hs : a.eval s = .slice (some ⟨b, 0, none⟩) 0 0) (hb : b = W0.heap.size)
    {src : Value} (hx : a.eval x = src) {st : List Int} (h : SlW W0 src st) (hm : st.length ≤ 1000000)
    (hK : ∀ v' w', WRow w' b v' st → Below b W0 w' → wpList Tryz.prog ops Q rest (a.put o.dst v') w') : wpList Tryz.prog ops Q (o :: rest) a (W0.alloc (.cells #[] 46)) := by
  subst hb
  obtain ⟨i0, hi, hz0, hz1, hz2⟩ := info_parts info_word
  have h' := h.alloc (.cells #[] 46)
  obtain ⟨A, c, rfl, _⟩ := id h
  refine wpList_append_sl (kk := .u64) hgd s x 28 ho W0.heap.size 46 i0 (.int .u64 0) 8 Tryz.underlying28 hi hz0 hz1 hz2 rfl _ 0 [] hs (World.ownsRow_made W0 #[] 0 (Nat.le_refl _) (Nat.zero_le _) rfl) A _ c st hx h' (by unfold maxLen; omega) (by omega) (by simp) ?_
  intro v' w' h1 h2 _
  refine hK v' w' ?_ (((Below.refl _ W0).alloc (Nat.le_refl _) _).grown h2 (by simp) (fun k hk => ?_))
  · simpa using h1
  · have := Option.some.inj (show some W0.heap.size = some k from hk)
    omega
set_option maxRecDepth 100000 in
set_option maxHeartbeats 40000000 in
theorem llDoW {w : World} {hb wp q nh th Pn : Nat} {g f : Nat → Value} {X : Rv} {T : Tp} {W : Rw} {Mu : Nat → Prop} (c : Cl) (sq : Int) (hP : 1 ≤ Pn ∧ Pn ≤ 64) (h : DoAt w hb wp q nh th g f X T W Mu) (_hth : th < 16) (hB : T.fresh = true → RtB T W) (hcb : ClB c) (htb : TBd T W) (hpl : T.priv.length ≤ 1000000) :
    Calls Tryz.prog 82 #[.pointer (some ⟨hb, q, none⟩), .int .i64 0, spV 13 (Pn : Int) sq, clV c] w fun e w' => e = .returned (.tuple #[]) ∧ DoR w hb wp q nh th g f X Mu (llDo (Pn : Int) th c T W).1 (llDo (Pn : Int) th c T W).2 w' := by
  obtain ⟨hP1, hP2⟩ := hP
  have hbA : Below w.heap.size w ((w.alloc (.cells #[.int .i64 13, .int .i64 (Pn : Int), .int .i64 sq] 39)).alloc (.cells #[.int .i64 c.thread, .int .i64 c.obj, .int .i64 c.kind, .int .u64 c.a, .int .u64 c.b, .int .u64 c.c] 48)) := ((Below.refl _ w).alloc (Nat.le_refl _) _).alloc (by simp) _
  have hr0 := h.start.grow hbA
  have hq := h.at_.qn
  have hz := h.at_.hrow.lt
  have f9 := h.at_.hrow.frozen (q + 9)
  have c9 := h.at_.hrow.cell (i := q + 9) (by omega)
  rw [h.at_.tp.err] at c9
  have c8 := h.at_.hrow.cell (i := q + 8) (by omega)
  rw [h.at_.tp.priv] at c8
  obtain ⟨Ap, cp, hpv, hps, hpb⟩ := h.pr
  rw [hpv] at c8
  have HR0 := hide hr0
  have HH := hide h
  obtain ⟨FIN, hFIN⟩ : ∃ FIN, llDo (Pn : Int) th c T W = FIN := ⟨_, rfl⟩
  rw [hFIN]
  unfold clV spV
  by_cases hk1 : c.kind < 0 ∨ 2 < c.kind
  · have HF : Hid (({ T with err := 9 }, W) = FIN) := hide (by rw [← hFIN]; unfold llDo; rw [if_pos hk1])
    rcases hk1 with hk1 | hk1
    · have dk : decide (c.kind < 0) = true := by simpa using hk1
      clear hr0 h hk1 hpv hps hpb hFIN hcb htb hB hpl hbA
      go_enter Tryz.func82, Tryz.ntmps82
      go_wp2
      ((try simp only [Exit.inBlock, Exit.then]); refine bodyPost_ret (results_none rfl _ _ _) rfl ?_)
      refine ⟨rfl, ?_⟩
      rw [← HF.out]
      have := HR0.out.num (T2 := { T with err := 9 }) (.int .i64 9) (show 9 < 13 by decide) (fun g X ht => by obtain ⟨b0, b1, b2, b3, b4, b5, b6, b7, b8, b9, b10, b11, b12⟩ := ht; refine ⟨?_, ?_, ?_, ?_, ?_, ?_, ?_, ?_, ?_, ?_, ?_, ?_, ?_⟩; all_goals first | (rw [if_neg (by omega)]; assumption) | (rw [if_pos (by omega)]; rfl) | (rw [if_pos (by omega)])) rfl rfl rfl ⟨rfl, rfl, rfl⟩
      rw [World.setCell_alloc_past _ _ _ _ (by simp; omega), World.setCell_alloc_past _ _ _ _ hz] at this
      exact this
    · have dk : decide (c.kind < 0) = false := by simp; omega
      have dk2 : decide (2 < c.kind) = true := by simpa using hk1
      clear hr0 h hk1 hpv hps hpb hFIN hcb htb hB hpl hbA
      go_enter Tryz.func82, Tryz.ntmps82
      go_wp2
      ((try simp only [Exit.inBlock, Exit.then]); refine bodyPost_ret (results_none rfl _ _ _) rfl ?_)
      refine ⟨rfl, ?_⟩
      rw [← HF.out]
      have := HR0.out.num (T2 := { T with err := 9 }) (.int .i64 9) (show 9 < 13 by decide) (fun g X ht => by obtain ⟨b0, b1, b2, b3, b4, b5, b6, b7, b8, b9, b10, b11, b12⟩ := ht; refine ⟨?_, ?_, ?_, ?_, ?_, ?_, ?_, ?_, ?_, ?_, ?_, ?_, ?_⟩; all_goals first | (rw [if_neg (by omega)]; assumption) | (rw [if_pos (by omega)]; rfl) | (rw [if_pos (by omega)])) rfl rfl rfl ⟨rfl, rfl, rfl⟩
      rw [World.setCell_alloc_past _ _ _ _ (by simp; omega), World.setCell_alloc_past _ _ _ _ hz] at this
      exact this
  have dk : decide (c.kind < 0) = false := by simp; omega
  have dk2 : decide (2 < c.kind) = false := by simp; omega
  have kP : IntKind.u64.wrap (Pn : Int) = (Pn : Int) := by rw [IntKind.wrap_u64]; omega
  by_cases hk2 : (Pn : Int) ≤ c.a
  · have HF : Hid (({ T with err := 10 }, W) = FIN) := hide (by rw [← hFIN]; unfold llDo; rw [if_neg hk1, if_pos (Or.inl hk2)])
    have da : decide ((Pn : Int) ≤ c.a) = true := by simpa using hk2
    clear hr0 h hk1 hpv hps hpb hFIN hcb htb hB hpl hbA hk2
    go_enter Tryz.func82, Tryz.ntmps82
    go_wp2
    ((try simp only [Exit.inBlock, Exit.then]); refine bodyPost_ret (results_none rfl _ _ _) rfl ?_)
    refine ⟨rfl, ?_⟩
    rw [← HF.out]
    have := HR0.out.num (T2 := { T with err := 10 }) (.int .i64 10) (show 9 < 13 by decide) (fun g X ht => by obtain ⟨b0, b1, b2, b3, b4, b5, b6, b7, b8, b9, b10, b11, b12⟩ := ht; refine ⟨?_, ?_, ?_, ?_, ?_, ?_, ?_, ?_, ?_, ?_, ?_, ?_, ?_⟩; all_goals first | (rw [if_neg (by omega)]; assumption) | (rw [if_pos (by omega)]; rfl) | (rw [if_pos (by omega)])) rfl rfl rfl ⟨rfl, rfl, rfl⟩
    rw [World.setCell_alloc_past _ _ _ _ (by simp; omega), World.setCell_alloc_past _ _ _ _ hz] at this
    exact this
  have da : decide ((Pn : Int) ≤ c.a) = false := by simp; omega
  by_cases hk3 : c.kind = 1 ∧ two32 ≤ c.b
  · have HF : Hid (({ T with err := 10 }, W) = FIN) := hide (by rw [← hFIN]; unfold llDo; rw [if_neg hk1, if_pos (Or.inr hk3)])
    obtain ⟨hk3, hk4⟩ := hk3
    have db : decide (4294967296 ≤ c.b) = true := by unfold two32 at hk4; simpa using hk4
    have dk1 : (c.kind == 1) = true := by simpa using hk3
    clear hr0 h hk1 hpv hps hpb hFIN hcb htb hB hpl hbA hk2 hk3 hk4
    go_enter Tryz.func82, Tryz.ntmps82
    go_wp2
    ((try simp only [Exit.inBlock, Exit.then]); refine bodyPost_ret (results_none rfl _ _ _) rfl ?_)
    refine ⟨rfl, ?_⟩
    rw [← HF.out]
    have := HR0.out.num (T2 := { T with err := 10 }) (.int .i64 10) (show 9 < 13 by decide) (fun g X ht => by obtain ⟨b0, b1, b2, b3, b4, b5, b6, b7, b8, b9, b10, b11, b12⟩ := ht; refine ⟨?_, ?_, ?_, ?_, ?_, ?_, ?_, ?_, ?_, ?_, ?_, ?_, ?_⟩; all_goals first | (rw [if_neg (by omega)]; assumption) | (rw [if_pos (by omega)]; rfl) | (rw [if_pos (by omega)])) rfl rfl rfl ⟨rfl, rfl, rfl⟩
    rw [World.setCell_alloc_past _ _ _ _ (by simp; omega), World.setCell_alloc_past _ _ _ _ hz] at this
    exact this
  have hw1 : (w.alloc (.cells #[.int .i64 13, .int .i64 (Pn : Int), .int .i64 sq] 39)).heap.size = w.heap.size + 1 := by simp
  obtain ⟨w2, hw2⟩ : ∃ X, X = (w.alloc (.cells #[.int .i64 13, .int .i64 (Pn : Int), .int .i64 sq] 39)).alloc (.cells #[.int .i64 c.thread, .int .i64 c.obj, .int .i64 c.kind, .int .u64 c.a, .int .u64 c.b, .int .u64 c.c] 48) := ⟨_, rfl⟩
  rw [← hw2] at hbA
  have s1 : w2.cell? ⟨w.heap.size, 1, none⟩ = some (.int .i64 (Pn : Int)) := by rw [hw2]; go_simp
  have hrowC : w2.heap[w.heap.size + 1]? = some (.cells #[.int .i64 c.thread, .int .i64 c.obj, .int .i64 c.kind, .int .u64 c.a, .int .u64 c.b, .int .u64 c.c] 48 (0, 0)) := by
    have := heap_alloc_new (w.alloc (.cells #[.int .i64 13, .int .i64 (Pn : Int), .int .i64 sq] 39)) (.cells #[.int .i64 c.thread, .int .i64 c.obj, .int .i64 c.kind, .int .u64 c.a, .int .u64 c.b, .int .u64 c.c] 48)
    rw [hw1] at this
    rw [hw2]
    exact this
  have cc2 := cell_of_row _ _ 2 _ _ _ hrowC
  have cc3 := cell_of_row _ _ 3 _ _ _ hrowC
  have cc4 := cell_of_row _ _ 4 _ _ _ hrowC
  simp at cc2 cc3 cc4
  have zc : w.heap.size + 1 < w2.heap.size := (Array.getElem?_eq_some_iff.1 hrowC).1
  have zs : w.heap.size < w2.heap.size := by omega
  obtain ⟨i, hi⟩ : ∃ i : Nat, c.a = i := ⟨c.a.toNat, by have := hcb.1; omega⟩
  have hiP : i < Pn := by omega
  obtain ⟨i0n, hi0n⟩ : ∃ m, m = 2 * i := ⟨_, rfl⟩
  obtain ⟨i1n, hi1n⟩ : ∃ m, m = 2 * i + 1 := ⟨_, rfl⟩
  rw [hi] at cc3
  have kp2 : IntKind.i64.wrap (2 * (Pn : Int)) = 2 * (Pn : Int) := wrap_i64 (by omega) (by omega)
  have ki : IntKind.i64.wrap (i : Int) = (i : Int) := wrap_i64 (by omega) (by omega)
  have ki2 : IntKind.i64.wrap (2 * (i : Int)) = (i0n : Int) := (wrap_i64 (by omega) (by omega)).trans (by omega)
  have ki3 : IntKind.i64.wrap ((i0n : Int) + 1) = (i1n : Int) := (wrap_i64 (by omega) (by omega)).trans (by omega)
  have ki4 : IntKind.i64.wrap (0 + (i : Int)) = (i : Int) := (wrap_i64 (by omega) (by omega)).trans (by omega)
  obtain ⟨iI, hii, hz0, hz1, hz2⟩ := info_parts info_wordR
  have HSP := hide (show SlW w2 (.slice Ap T.priv.length cp) T.priv from hps.below hbA (Nat.le_refl _))
  have HPL := hide hpl
  have HBA := hide hbA
  have cp8 := (hbA.cell (p := ⟨hb, q + 8, none⟩) hz).trans c8
  have zh2 : hb < w2.heap.size := Nat.lt_of_lt_of_le hz hbA.size
  have HFIN := hide hFIN
  have HK1 := hide hk1
  have HK2 := hide (show ¬ ((Pn : Int) ≤ c.a ∨ (c.kind = 1 ∧ two32 ≤ c.b)) from fun e => by rcases e with e | e; exact hk2 e; exact hk3 e)
  have HW2 := hide hw2
  have HI := hide (show c.a = (i : Int) ∧ i < Pn ∧ i0n = 2 * i ∧ i1n = 2 * i + 1 from ⟨hi, hiP, hi0n, hi1n⟩)
  have hat : 2 * c.a.toNat = i0n := by omega
  have HAT := hide hat
  have HBo := hide hB
  have HCB := hide hcb
  have HTB := hide htb
  have hM : ∀ j, Mu j → j < w.heap.size := h.lt
  have HM := hide hM
  rcases (show c.kind = 0 ∨ c.kind = 1 ∨ c.kind = 2 by omega) with hkk | hkk | hkk
  · rw [hkk] at cc2
    have dk1 : (c.kind == 1) = false := by rw [hkk]; rfl
    obtain ⟨a, TA, WA, hA⟩ : ∃ a t w, T.acc th 0 (i : Int) 0 0 W = (a, t, w) := ⟨_, _, _, rfl⟩
    have rA := acc_reads th 0 (i : Int) 0 0 T W
    obtain ⟨_, wA⟩ := acc_wd (t := th) (k := 0) (a := (i : Int)) htb wd0 wd0
    rw [hA] at rA wA
    dsimp only at rA wA
    have hF : ({ TA with val := a % 4294967296, priv := ((padL (2 * Pn) T.priv).set i0n 1).set i1n a }, WA) = FIN := by
      rw [← hFIN]
      unfold llDo
      rw [if_neg hk1, if_neg HK2.out, if_neg (by omega), if_pos hkk, Int.toNat_natCast, hat, hi, hA, ← show i0n + 1 = i1n by omega]
      rfl
    have HF := hide hF
    have HA := hide hA
    have HRA := hide rA
    have hr : Int.tmod a 4294967296 = a % 4294967296 := Int.tmod_eq_emod_of_nonneg wA.1
    obtain ⟨y, hy⟩ : ∃ y, a % 4294967296 = y := ⟨_, rfl⟩
    rw [hy] at hr
    have HY := hide hy
    clear hr0 h hk1 hk2 hk3 hkk hpv hps hpb hFIN hcb htb hB hpl hbA hw1 hw2 hrowC hi hiP hi0n hi1n hM hA rA wA hF hy hat
    go_enter Tryz.func82, Tryz.ntmps82
    go_upto_region 5 with fail
    rw [← HW2.out]
    clear HW2 c8 c9 f9
    go_wp2_with (at_builtin; refine dup_append rfl _ _ rfl rfl (by first | rfl | (simp; done) | simp) rfl HSP.out HPL.out ?_; intro v5 w5 hown5 hB5)
    obtain ⟨A5, c5, rfl⟩ := own_slice hown5
    have HO5 := hide hown5
    have HB5 := hide hB5
    clear hown5 hB5
    go_loopw [8] (fun v wr => ∃ (L : Nat) (A : Option Addr) (c' : Nat), v = .slice A L c' ∧ Hid (∃ j, j ≤ 2 * Pn - T.priv.length ∧ L = T.priv.length + j ∧ WRow wr w2.heap.size (.slice A L c') (T.priv ++ List.replicate j 0)) ∧ Hid (Below w2.heap.size w2 wr)) (fun v _ => 2 * Pn - lenV v)
    case atStart => exact ⟨T.priv.length, A5, c5, rfl, hide ⟨0, Nat.zero_le _, rfl, by simpa using HO5.out⟩, HB5⟩
    case round =>
      obtain ⟨L, A, c', rfl, HOW, HBW⟩ := hrel
      by_cases hlt : L < 2 * Pn
      · have hlt' : (L : Int) < 2 * (Pn : Int) := by omega
        obtain ⟨j, hj, hLj, hrow⟩ := HOW.out
        have hrow1 : wr.ownsRow w2.heap.size 46 1 (.slice A L c') L ((T.priv ++ List.replicate j 0).map (Value.int .u64)) := by
          have hl9 : (T.priv ++ List.replicate j (0 : Int)).length = L := by simp; omega
          have := hrow
          unfold WRow at this
          rwa [hl9] at this
        have hzr := HBW.out.size
        have HR1 := hide hrow1
        have HJ := hide (show j ≤ 2 * Pn - T.priv.length ∧ L = T.priv.length + j from ⟨hj, hLj⟩)
        replace s1 := (HBW.out.cell (p := ⟨w.heap.size, 1, none⟩) zs).trans s1
        have zs1 := Nat.lt_of_lt_of_le zs HBW.out.size
        clear hrow hrow1 hj hLj HOW
        go_wp2_with (at_builtin; refine wpList_append_own_at _ rfl _ _ 28 rfl w2.heap.size 46 iI (.int .u64 0) 1 8 Tryz.underlying28 hii hz0 hz1 hz2 rfl (by decide) (.slice A L c') L ((T.priv ++ List.replicate j 0).map (Value.int .u64)) rfl (World.ownsRow.alloc HR1.out (.cells #[.int .u64 0] 46)) ⟨wr.heap.size, 0, none⟩ 1 1 [.int .u64 0] rfl rfl (cell_one_new _ _ _) (by simp [Value.oneCell']) (by unfold maxLen; omega) (by omega) (by simp; omega) ?_; intro v7 w7 hown7 hgrow7 _ _)
        obtain ⟨A7, c7, rfl⟩ := own_slice hown7
        have HB7 := hide ((HBW.out.alloc hzr _).grown hgrow7 (by simp; omega) (fun k hk => (HR1.out.lt k hk).1))
        have HO7 := hide hown7
        clear hown7 hgrow7
        go_roundw
        case rel =>
          refine ⟨L + 1, A7, c7, rfl, hide ⟨j + 1, by have := HJ.out; omega, by have := HJ.out; omega, ?_⟩, HB7⟩
          have hl9 : (T.priv ++ List.replicate j (0 : Int) ++ [0]).length = L + 1 := by have := HJ.out; simp; omega
          have := HO7.out
          unfold WRow
          rw [List.replicate_succ', ← List.append_assoc, hl9, List.map_append]
          exact this
        case measure => first | (simp [lenV]; done) | (simp [lenV]; omega)
      · have hge : ¬ (L : Int) < 2 * (Pn : Int) := by omega
        obtain ⟨j, hj, hLj, hrow⟩ := HOW.out
        rw [padL_eq hj (by omega)] at hrow
        have hOl : (padL (2 * Pn) T.priv).length = L := by unfold padL; simp; omega
        have hBw : Below w.heap.size w wr := HBA.out.trans (HBW.out.mono HBA.out.size)
        have hLp : 2 * Pn ≤ L := by omega
        have hLm : L ≤ 1000128 := by have := HPL.out; omega
        obtain ⟨g0, c0, hg0, hlo, hgz⟩ := own_some' hrow (by rw [hOl]; omega)
        rw [hOl] at hg0
        injection hg0 with hg1 _ hg2
        subst hg1 hg2
        have hOD : OwnD w hb wp q nh th g f X Mu T W wr w2.heap.size g0 L c' (padL (2 * Pn) T.priv) := ⟨HH.out.start.grow hBw, HH.out.notFour hBw (by have := HBA.out.size; omega) hgz, by have := HBA.out.size; omega, hrow, hOl⟩
        have d0 := hOD.cell (j := i0n) (by have := HI.out; omega)
        have d1 := hOD.cell (j := i1n) (by have := HI.out; omega)
        rw [padL_at] at d0 d1
        have zg := hgz
        replace s1 := (HBW.out.cell (p := ⟨w.heap.size, 1, none⟩) zs).trans s1
        replace cc2 := (HBW.out.cell (p := ⟨w.heap.size + 1, 2, none⟩) zc).trans cc2
        replace cc3 := (HBW.out.cell (p := ⟨w.heap.size + 1, 3, none⟩) zc).trans cc3
        replace cc4 := (HBW.out.cell (p := ⟨w.heap.size + 1, 4, none⟩) zc).trans cc4
        have zs1 := Nat.lt_of_lt_of_le zs HBW.out.size
        have zc1 := Nat.lt_of_lt_of_le zc HBW.out.size
        have hl0 : (i0n : Int) < (L : Int) := by have := HI.out; omega
        have hl1 : (i1n : Int) < (L : Int) := by have := HI.out; omega
        have HOD := hide hOD
        clear hrow hOl hBw hOD hj hLj HOW HBW hgz hlo hlt
        obtain ⟨g1, f1, X1, hR1, hQ1⟩ := HOD.out.acc (T2 := TA) (W2 := WA) HRA.out
        have N1 := tapeRead (i : Int) hR1 HBo.out
        rw [HA.out] at N1
        dsimp only at N1
        have HQ1 := hide hQ1
        clear hR1 hQ1
        go_wp2_with fail
        refine N1.mono ?_
        rintro e w5 ⟨rfl, hq5⟩
        have hO5 := HQ1.out _ hq5
        obtain ⟨g2, f2, X2, hR5, -⟩ := hO5.acc (T2 := TA) (W2 := WA) ⟨rfl, rfl, rfl⟩
        have c10 := hR5.hrow.cell (i := q + 10) (by omega)
        rw [hR5.tp.val] at c10
        have f10 := hR5.hrow.frozen (q + 10)
        have c8 := hR5.hrow.cell (i := q + 8) (by omega)
        have f8 := hR5.hrow.frozen (q + 8)
        have hz5 := hR5.hrow.lt
        have e0 := hO5.cell (j := i0n) (by have := HI.out; omega)
        have e1 := hO5.cell (j := i1n) (by have := HI.out; omega)
        have fg0 := hO5.frozen (by have := HI.out; omega) i0n
        have fg1 := hO5.frozen (by have := HI.out; omega) i1n
        have zg5 := hO5.nf.2.2.1
        have ngh := hO5.nf.1
        have ngh2 : ¬ hb = g0 := fun e => ngh e.symm
        have nij : ¬ i0n = i1n := by have := HI.out; omega
        have nji : ¬ i1n = i0n := by have := HI.out; omega
        clear hR5
        have hO6 := hO5.num (T2 := { TA with val := y }) (.int .u64 y) (show 10 < 13 by decide) (fun g X ht => by obtain ⟨b0, b1, b2, b3, b4, b5, b6, b7, b8, b9, b10, b11, b12⟩ := ht; refine ⟨?_, ?_, ?_, ?_, ?_, ?_, ?_, ?_, ?_, ?_, ?_, ?_, ?_⟩; all_goals first | (rw [if_neg (by omega)]; assumption) | (rw [if_pos (by omega)]; rfl) | (rw [if_pos (by omega)])) rfl rfl rfl ⟨rfl, rfl, rfl⟩
        have hO9 := ((hO6.set i0n 1).set i1n a).prv HM.out (by unfold maxLen; omega)
        have HO9 := hide hO9
        clear hO5 hO6 hO9 hq5 N1 HQ1 HOD
        go_wp2
        go_end0
        refine ⟨rfl, ?_⟩
        rw [← HF.out, HY.out]
        exact HO9.out
  · rw [hkk] at cc2
    have dk1 : (c.kind == 1) = true := by simpa using hkk
    have db : decide (4294967296 ≤ c.b) = false := by have : ¬ two32 ≤ c.b := fun e => hk3 ⟨hkk, e⟩; unfold two32 at this; simpa using this
    by_cases ha9 : at9 T.priv i0n = 0
    · have hF : ({ T with err := 8 }, W) = FIN := by
        rw [← hFIN]
        unfold llDo
        rw [if_neg hk1, if_neg HK2.out, if_pos ⟨by omega, by rw [hat]; exact ha9⟩]
      have HF := hide hF
      clear hr0 h hk1 hk2 hk3 hkk hpv hps hpb hFIN hcb htb hB hpl hbA hw1 hw2 hrowC hi hiP hi0n hi1n hM hF hat
      go_enter Tryz.func82, Tryz.ntmps82
      go_upto_region 5 with fail
      rw [← HW2.out]
      clear HW2 c8 c9 f9
      go_wp2_with (at_builtin; refine dup_append rfl _ _ rfl rfl (by first | rfl | (simp; done) | simp) rfl HSP.out HPL.out ?_; intro v5 w5 hown5 hB5)
      obtain ⟨A5, c5, rfl⟩ := own_slice hown5
      have HO5 := hide hown5
      have HB5 := hide hB5
      clear hown5 hB5
      go_loopw [8] (fun v wr => ∃ (L : Nat) (A : Option Addr) (c' : Nat), v = .slice A L c' ∧ Hid (∃ j, j ≤ 2 * Pn - T.priv.length ∧ L = T.priv.length + j ∧ WRow wr w2.heap.size (.slice A L c') (T.priv ++ List.replicate j 0)) ∧ Hid (Below w2.heap.size w2 wr)) (fun v _ => 2 * Pn - lenV v)
      case atStart => exact ⟨T.priv.length, A5, c5, rfl, hide ⟨0, Nat.zero_le _, rfl, by simpa using HO5.out⟩, HB5⟩
      case round =>
        obtain ⟨L, A, c', rfl, HOW, HBW⟩ := hrel
        by_cases hlt : L < 2 * Pn
        · have hlt' : (L : Int) < 2 * (Pn : Int) := by omega
          obtain ⟨j, hj, hLj, hrow⟩ := HOW.out
          have hrow1 : wr.ownsRow w2.heap.size 46 1 (.slice A L c') L ((T.priv ++ List.replicate j 0).map (Value.int .u64)) := by
            have hl9 : (T.priv ++ List.replicate j (0 : Int)).length = L := by simp; omega
            have := hrow
            unfold WRow at this
            rwa [hl9] at this
          have hzr := HBW.out.size
          have HR1 := hide hrow1
          have HJ := hide (show j ≤ 2 * Pn - T.priv.length ∧ L = T.priv.length + j from ⟨hj, hLj⟩)
          replace s1 := (HBW.out.cell (p := ⟨w.heap.size, 1, none⟩) zs).trans s1
          have zs1 := Nat.lt_of_lt_of_le zs HBW.out.size
          clear hrow hrow1 hj hLj HOW
          go_wp2_with (at_builtin; refine wpList_append_own_at _ rfl _ _ 28 rfl w2.heap.size 46 iI (.int .u64 0) 1 8 Tryz.underlying28 hii hz0 hz1 hz2 rfl (by decide) (.slice A L c') L ((T.priv ++ List.replicate j 0).map (Value.int .u64)) rfl (World.ownsRow.alloc HR1.out (.cells #[.int .u64 0] 46)) ⟨wr.heap.size, 0, none⟩ 1 1 [.int .u64 0] rfl rfl (cell_one_new _ _ _) (by simp [Value.oneCell']) (by unfold maxLen; omega) (by omega) (by simp; omega) ?_; intro v7 w7 hown7 hgrow7 _ _)
          obtain ⟨A7, c7, rfl⟩ := own_slice hown7
          have HB7 := hide ((HBW.out.alloc hzr _).grown hgrow7 (by simp; omega) (fun k hk => (HR1.out.lt k hk).1))
          have HO7 := hide hown7
          clear hown7 hgrow7
          go_roundw
          case rel =>
            refine ⟨L + 1, A7, c7, rfl, hide ⟨j + 1, by have := HJ.out; omega, by have := HJ.out; omega, ?_⟩, HB7⟩
            have hl9 : (T.priv ++ List.replicate j (0 : Int) ++ [0]).length = L + 1 := by have := HJ.out; simp; omega
            have := HO7.out
            unfold WRow
            rw [List.replicate_succ', ← List.append_assoc, hl9, List.map_append]
            exact this
          case measure => first | (simp [lenV]; done) | (simp [lenV]; omega)
        · have hge : ¬ (L : Int) < 2 * (Pn : Int) := by omega
          obtain ⟨j, hj, hLj, hrow⟩ := HOW.out
          rw [padL_eq hj (by omega)] at hrow
          have hOl : (padL (2 * Pn) T.priv).length = L := by unfold padL; simp; omega
          have hBw : Below w.heap.size w wr := HBA.out.trans (HBW.out.mono HBA.out.size)
          have hLp : 2 * Pn ≤ L := by omega
          have hLm : L ≤ 1000128 := by have := HPL.out; omega
          obtain ⟨g0, c0, hg0, hlo, hgz⟩ := own_some' hrow (by rw [hOl]; omega)
          rw [hOl] at hg0
          injection hg0 with hg1 _ hg2
          subst hg1 hg2
          have hOD : OwnD w hb wp q nh th g f X Mu T W wr w2.heap.size g0 L c' (padL (2 * Pn) T.priv) := ⟨HH.out.start.grow hBw, HH.out.notFour hBw (by have := HBA.out.size; omega) hgz, by have := HBA.out.size; omega, hrow, hOl⟩
          have d0 := hOD.cell (j := i0n) (by have := HI.out; omega)
          have d1 := hOD.cell (j := i1n) (by have := HI.out; omega)
          rw [padL_at] at d0 d1
          have zg := hgz
          replace s1 := (HBW.out.cell (p := ⟨w.heap.size, 1, none⟩) zs).trans s1
          replace cc2 := (HBW.out.cell (p := ⟨w.heap.size + 1, 2, none⟩) zc).trans cc2
          replace cc3 := (HBW.out.cell (p := ⟨w.heap.size + 1, 3, none⟩) zc).trans cc3
          replace cc4 := (HBW.out.cell (p := ⟨w.heap.size + 1, 4, none⟩) zc).trans cc4
          have zs1 := Nat.lt_of_lt_of_le zs HBW.out.size
          have zc1 := Nat.lt_of_lt_of_le zc HBW.out.size
          have hl0 : (i0n : Int) < (L : Int) := by have := HI.out; omega
          have hl1 : (i1n : Int) < (L : Int) := by have := HI.out; omega
          have HOD := hide hOD
          clear hrow hOl hBw hOD hj hLj HOW HBW hgz hlo hlt
          rw [ha9] at d0
          obtain ⟨g2, f2, X2, hR5, -⟩ := HOD.out.acc (T2 := T) (W2 := W) ⟨rfl, rfl, rfl⟩
          have c9 := hR5.hrow.cell (i := q + 9) (by omega)
          rw [hR5.tp.err] at c9
          have f9 := hR5.hrow.frozen (q + 9)
          have hz5 := hR5.hrow.lt
          have hO9 := (HOD.out.num (T2 := { T with err := 8 }) (.int .i64 8) (show 9 < 13 by decide) (fun g X ht => by obtain ⟨b0, b1, b2, b3, b4, b5, b6, b7, b8, b9, b10, b11, b12⟩ := ht; refine ⟨?_, ?_, ?_, ?_, ?_, ?_, ?_, ?_, ?_, ?_, ?_, ?_, ?_⟩; all_goals first | (rw [if_neg (by omega)]; assumption) | (rw [if_pos (by omega)]; rfl) | (rw [if_pos (by omega)])) rfl rfl rfl ⟨rfl, rfl, rfl⟩).d
          have HO9 := hide hO9
          clear hR5 hO9 HOD ha9
          go_wp2
          ((try simp only [Exit.inBlock, Exit.then]); refine bodyPost_ret (results_none rfl _ _ _) rfl ?_)
          refine ⟨rfl, ?_⟩
          rw [← HF.out]
          exact HO9.out
    · have hlk : ¬ (at9 T.priv i0n = 0) := ha9
      obtain ⟨x, hx⟩ : ∃ x, at9 T.priv i1n = x := ⟨_, rfl⟩
      have wx : Wd x := by rw [← hx]; exact at9_wd htb.priv _
      obtain ⟨y, hy⟩ : ∃ y, llNext x c.b = y := ⟨_, rfl⟩
      obtain ⟨a, TA, WA, hA⟩ : ∃ a t w, T.acc th 2 (i : Int) x y W = (a, t, w) := ⟨_, _, _, rfl⟩
      have rA := acc_reads th 2 (i : Int) x y T W
      have vA := acc_val th 2 (i : Int) x y T W
      rw [hA] at rA vA
      dsimp only at rA vA
      have hF : ({ TA with val := if a = 1 then 1 else T.val, priv := (padL (2 * Pn) T.priv).set i0n 0 }, WA) = FIN := by
        rw [← hFIN]
        unfold llDo
        rw [if_neg hk1, if_neg HK2.out, if_neg (show ¬ (c.kind ≠ 0 ∧ at9 T.priv (2 * c.a.toNat) = 0) from fun e => by rw [hat] at e; exact ha9 e.2), if_neg (show ¬ c.kind = 0 by omega), if_pos hkk, Int.toNat_natCast, hat, hi, show i0n + 1 = i1n by omega, hx, hy, hA]
      have HF := hide hF
      have HA := hide hA
      have HRA := hide rA
      have HVA := hide vA
      have hbb : 0 ≤ c.b ∧ c.b < 4294967296 := ⟨hcb.2.1.1, by have : ¬ two32 ≤ c.b := fun e => hk3 ⟨hkk, e⟩; unfold two32 at this; omega⟩
      obtain ⟨dd, hdd⟩ : ∃ d, x / 4294967296 = d := ⟨_, rfl⟩
      have hd1 : 0 ≤ dd ∧ dd < 4294967296 := by unfold Wd at wx; omega
      obtain ⟨d1, hd2⟩ : ∃ d1, dd + 1 = d1 := ⟨_, rfl⟩
      obtain ⟨rr, hrr⟩ : ∃ r, d1 % 4294967296 = r := ⟨_, rfl⟩
      obtain ⟨ss, hss⟩ : ∃ s, rr * 4294967296 = s := ⟨_, rfl⟩
      have hyy : ss + c.b = y := by rw [← hy, ← hss, ← hrr, ← hd2, ← hdd]; rfl
      have q1 : Int.tdiv x 4294967296 = dd := (Int.tdiv_eq_ediv_of_nonneg wx.1).trans hdd
      have q0 : IntKind.u64.wrap dd = dd := by rw [IntKind.wrap_u64]; omega
      have q2 : IntKind.u64.wrap (dd + 1) = d1 := by rw [IntKind.wrap_u64]; omega
      have q3 : Int.tmod d1 4294967296 = rr := (Int.tmod_eq_emod_of_nonneg (by omega)).trans hrr
      have q4 : IntKind.u64.wrap (rr * 4294967296) = ss := by rw [IntKind.wrap_u64]; omega
      have q5 : IntKind.u64.wrap (ss + c.b) = y := by rw [IntKind.wrap_u64]; omega
      have d9 : (at9 T.priv i0n == 0) = false := by simpa using ha9
      have HX := hide hx
      clear hr0 h hk1 hk2 hk3 hkk hpv hps hpb hFIN hcb htb hB hpl hbA hw1 hw2 hrowC hi hiP hi0n hi1n hM hA rA vA hF hat hx wx hy hbb hdd hd1 hd2 hrr hss hyy ha9 hlk
      by_cases h1 : a = 1
      · subst h1
        go_enter Tryz.func82, Tryz.ntmps82
        go_upto_region 5 with fail
        rw [← HW2.out]
        clear HW2 c8 c9 f9
        go_wp2_with (at_builtin; refine dup_append rfl _ _ rfl rfl (by first | rfl | (simp; done) | simp) rfl HSP.out HPL.out ?_; intro v5 w5 hown5 hB5)
        obtain ⟨A5, c5, rfl⟩ := own_slice hown5
        have HO5 := hide hown5
        have HB5 := hide hB5
        clear hown5 hB5
        go_loopw [8] (fun v wr => ∃ (L : Nat) (A : Option Addr) (c' : Nat), v = .slice A L c' ∧ Hid (∃ j, j ≤ 2 * Pn - T.priv.length ∧ L = T.priv.length + j ∧ WRow wr w2.heap.size (.slice A L c') (T.priv ++ List.replicate j 0)) ∧ Hid (Below w2.heap.size w2 wr)) (fun v _ => 2 * Pn - lenV v)
        case atStart => exact ⟨T.priv.length, A5, c5, rfl, hide ⟨0, Nat.zero_le _, rfl, by simpa using HO5.out⟩, HB5⟩
        case round =>
          obtain ⟨L, A, c', rfl, HOW, HBW⟩ := hrel
          by_cases hlt : L < 2 * Pn
          · have hlt' : (L : Int) < 2 * (Pn : Int) := by omega
            obtain ⟨j, hj, hLj, hrow⟩ := HOW.out
            have hrow1 : wr.ownsRow w2.heap.size 46 1 (.slice A L c') L ((T.priv ++ List.replicate j 0).map (Value.int .u64)) := by
              have hl9 : (T.priv ++ List.replicate j (0 : Int)).length = L := by simp; omega
              have := hrow
              unfold WRow at this
              rwa [hl9] at this
            have hzr := HBW.out.size
            have HR1 := hide hrow1
            have HJ := hide (show j ≤ 2 * Pn - T.priv.length ∧ L = T.priv.length + j from ⟨hj, hLj⟩)
            replace s1 := (HBW.out.cell (p := ⟨w.heap.size, 1, none⟩) zs).trans s1
            have zs1 := Nat.lt_of_lt_of_le zs HBW.out.size
            clear hrow hrow1 hj hLj HOW
            go_wp2_with (at_builtin; refine wpList_append_own_at _ rfl _ _ 28 rfl w2.heap.size 46 iI (.int .u64 0) 1 8 Tryz.underlying28 hii hz0 hz1 hz2 rfl (by decide) (.slice A L c') L ((T.priv ++ List.replicate j 0).map (Value.int .u64)) rfl (World.ownsRow.alloc HR1.out (.cells #[.int .u64 0] 46)) ⟨wr.heap.size, 0, none⟩ 1 1 [.int .u64 0] rfl rfl (cell_one_new _ _ _) (by simp [Value.oneCell']) (by unfold maxLen; omega) (by omega) (by simp; omega) ?_; intro v7 w7 hown7 hgrow7 _ _)
            obtain ⟨A7, c7, rfl⟩ := own_slice hown7
            have HB7 := hide ((HBW.out.alloc hzr _).grown hgrow7 (by simp; omega) (fun k hk => (HR1.out.lt k hk).1))
            have HO7 := hide hown7
            clear hown7 hgrow7
            go_roundw
            case rel =>
              refine ⟨L + 1, A7, c7, rfl, hide ⟨j + 1, by have := HJ.out; omega, by have := HJ.out; omega, ?_⟩, HB7⟩
              have hl9 : (T.priv ++ List.replicate j (0 : Int) ++ [0]).length = L + 1 := by have := HJ.out; simp; omega
              have := HO7.out
              unfold WRow
              rw [List.replicate_succ', ← List.append_assoc, hl9, List.map_append]
              exact this
            case measure => first | (simp [lenV]; done) | (simp [lenV]; omega)
          · have hge : ¬ (L : Int) < 2 * (Pn : Int) := by omega
            obtain ⟨j, hj, hLj, hrow⟩ := HOW.out
            rw [padL_eq hj (by omega)] at hrow
            have hOl : (padL (2 * Pn) T.priv).length = L := by unfold padL; simp; omega
            have hBw : Below w.heap.size w wr := HBA.out.trans (HBW.out.mono HBA.out.size)
            have hLp : 2 * Pn ≤ L := by omega
            have hLm : L ≤ 1000128 := by have := HPL.out; omega
            obtain ⟨g0, c0, hg0, hlo, hgz⟩ := own_some' hrow (by rw [hOl]; omega)
            rw [hOl] at hg0
            injection hg0 with hg1 _ hg2
            subst hg1 hg2
            have hOD : OwnD w hb wp q nh th g f X Mu T W wr w2.heap.size g0 L c' (padL (2 * Pn) T.priv) := ⟨HH.out.start.grow hBw, HH.out.notFour hBw (by have := HBA.out.size; omega) hgz, by have := HBA.out.size; omega, hrow, hOl⟩
            have d0 := hOD.cell (j := i0n) (by have := HI.out; omega)
            have d1 := hOD.cell (j := i1n) (by have := HI.out; omega)
            rw [padL_at] at d0 d1
            have zg := hgz
            replace s1 := (HBW.out.cell (p := ⟨w.heap.size, 1, none⟩) zs).trans s1
            replace cc2 := (HBW.out.cell (p := ⟨w.heap.size + 1, 2, none⟩) zc).trans cc2
            replace cc3 := (HBW.out.cell (p := ⟨w.heap.size + 1, 3, none⟩) zc).trans cc3
            replace cc4 := (HBW.out.cell (p := ⟨w.heap.size + 1, 4, none⟩) zc).trans cc4
            have zs1 := Nat.lt_of_lt_of_le zs HBW.out.size
            have zc1 := Nat.lt_of_lt_of_le zc HBW.out.size
            have hl0 : (i0n : Int) < (L : Int) := by have := HI.out; omega
            have hl1 : (i1n : Int) < (L : Int) := by have := HI.out; omega
            have HOD := hide hOD
            clear hrow hOl hBw hOD hj hLj HOW HBW hgz hlo hlt
            rw [HX.out] at d1
            obtain ⟨g1, f1, X1, hR1, hQ1⟩ := HOD.out.acc (T2 := TA) (W2 := WA) HRA.out
            have N1 := tapeSwap (i : Int) x y hR1 HBo.out
            rw [HA.out] at N1
            dsimp only at N1
            have HQ1 := hide hQ1
            clear hR1 hQ1
            go_wp2_with fail
            refine N1.mono ?_
            rintro e w5 ⟨rfl, hq5⟩
            have hO5 := HQ1.out _ hq5
            obtain ⟨g2, f2, X2, hR5, -⟩ := hO5.acc (T2 := TA) (W2 := WA) ⟨rfl, rfl, rfl⟩
            have c10 := hR5.hrow.cell (i := q + 10) (by omega)
            rw [hR5.tp.val] at c10
            have f10 := hR5.hrow.frozen (q + 10)
            have c8 := hR5.hrow.cell (i := q + 8) (by omega)
            have f8 := hR5.hrow.frozen (q + 8)
            have hz5 := hR5.hrow.lt
            have e0 := hO5.cell (j := i0n) (by have := HI.out; omega)
            have e1 := hO5.cell (j := i1n) (by have := HI.out; omega)
            have fg0 := hO5.frozen (by have := HI.out; omega) i0n
            have fg1 := hO5.frozen (by have := HI.out; omega) i1n
            have zg5 := hO5.nf.2.2.1
            have ngh := hO5.nf.1
            have ngh2 : ¬ hb = g0 := fun e => ngh e.symm
            have nij : ¬ i0n = i1n := by have := HI.out; omega
            have nji : ¬ i1n = i0n := by have := HI.out; omega
            clear hR5
            have hO6 := hO5.num (T2 := { TA with val := 1 }) (.int .u64 1) (show 10 < 13 by decide) (fun g X ht => by obtain ⟨b0, b1, b2, b3, b4, b5, b6, b7, b8, b9, b10, b11, b12⟩ := ht; refine ⟨?_, ?_, ?_, ?_, ?_, ?_, ?_, ?_, ?_, ?_, ?_, ?_, ?_⟩; all_goals first | (rw [if_neg (by omega)]; assumption) | (rw [if_pos (by omega)]; rfl) | (rw [if_pos (by omega)])) rfl rfl rfl ⟨rfl, rfl, rfl⟩
            have hO9 := (hO6.set i0n 0).prv HM.out (by unfold maxLen; omega)
            have HO9 := hide hO9
            clear hO5 hO9 hq5 N1 HQ1 HOD
            go_wp2
            go_end0
            refine ⟨rfl, ?_⟩
            rw [← HF.out]
            first | (rw [if_pos rfl]; exact HO9.out) | (rw [if_pos trivial]; exact HO9.out)
      · have da1 : decide (a = 1) = false := by simpa using h1
        have HN1 := hide h1
        go_enter Tryz.func82, Tryz.ntmps82
        go_upto_region 5 with fail
        rw [← HW2.out]
        clear HW2 c8 c9 f9
        go_wp2_with (at_builtin; refine dup_append rfl _ _ rfl rfl (by first | rfl | (simp; done) | simp) rfl HSP.out HPL.out ?_; intro v5 w5 hown5 hB5)
        obtain ⟨A5, c5, rfl⟩ := own_slice hown5
        have HO5 := hide hown5
        have HB5 := hide hB5
        clear hown5 hB5
        go_loopw [8] (fun v wr => ∃ (L : Nat) (A : Option Addr) (c' : Nat), v = .slice A L c' ∧ Hid (∃ j, j ≤ 2 * Pn - T.priv.length ∧ L = T.priv.length + j ∧ WRow wr w2.heap.size (.slice A L c') (T.priv ++ List.replicate j 0)) ∧ Hid (Below w2.heap.size w2 wr)) (fun v _ => 2 * Pn - lenV v)
        case atStart => exact ⟨T.priv.length, A5, c5, rfl, hide ⟨0, Nat.zero_le _, rfl, by simpa using HO5.out⟩, HB5⟩
        case round =>
          obtain ⟨L, A, c', rfl, HOW, HBW⟩ := hrel
          by_cases hlt : L < 2 * Pn
          · have hlt' : (L : Int) < 2 * (Pn : Int) := by omega
            obtain ⟨j, hj, hLj, hrow⟩ := HOW.out
            have hrow1 : wr.ownsRow w2.heap.size 46 1 (.slice A L c') L ((T.priv ++ List.replicate j 0).map (Value.int .u64)) := by
              have hl9 : (T.priv ++ List.replicate j (0 : Int)).length = L := by simp; omega
              have := hrow
              unfold WRow at this
              rwa [hl9] at this
            have hzr := HBW.out.size
            have HR1 := hide hrow1
            have HJ := hide (show j ≤ 2 * Pn - T.priv.length ∧ L = T.priv.length + j from ⟨hj, hLj⟩)
            replace s1 := (HBW.out.cell (p := ⟨w.heap.size, 1, none⟩) zs).trans s1
            have zs1 := Nat.lt_of_lt_of_le zs HBW.out.size
            clear hrow hrow1 hj hLj HOW
            go_wp2_with (at_builtin; refine wpList_append_own_at _ rfl _ _ 28 rfl w2.heap.size 46 iI (.int .u64 0) 1 8 Tryz.underlying28 hii hz0 hz1 hz2 rfl (by decide) (.slice A L c') L ((T.priv ++ List.replicate j 0).map (Value.int .u64)) rfl (World.ownsRow.alloc HR1.out (.cells #[.int .u64 0] 46)) ⟨wr.heap.size, 0, none⟩ 1 1 [.int .u64 0] rfl rfl (cell_one_new _ _ _) (by simp [Value.oneCell']) (by unfold maxLen; omega) (by omega) (by simp; omega) ?_; intro v7 w7 hown7 hgrow7 _ _)
            obtain ⟨A7, c7, rfl⟩ := own_slice hown7
            have HB7 := hide ((HBW.out.alloc hzr _).grown hgrow7 (by simp; omega) (fun k hk => (HR1.out.lt k hk).1))
            have HO7 := hide hown7
            clear hown7 hgrow7
            go_roundw
            case rel =>
              refine ⟨L + 1, A7, c7, rfl, hide ⟨j + 1, by have := HJ.out; omega, by have := HJ.out; omega, ?_⟩, HB7⟩
              have hl9 : (T.priv ++ List.replicate j (0 : Int) ++ [0]).length = L + 1 := by have := HJ.out; simp; omega
              have := HO7.out
              unfold WRow
              rw [List.replicate_succ', ← List.append_assoc, hl9, List.map_append]
              exact this
            case measure => first | (simp [lenV]; done) | (simp [lenV]; omega)
          · have hge : ¬ (L : Int) < 2 * (Pn : Int) := by omega
            obtain ⟨j, hj, hLj, hrow⟩ := HOW.out
            rw [padL_eq hj (by omega)] at hrow
            have hOl : (padL (2 * Pn) T.priv).length = L := by unfold padL; simp; omega
            have hBw : Below w.heap.size w wr := HBA.out.trans (HBW.out.mono HBA.out.size)
            have hLp : 2 * Pn ≤ L := by omega
            have hLm : L ≤ 1000128 := by have := HPL.out; omega
            obtain ⟨g0, c0, hg0, hlo, hgz⟩ := own_some' hrow (by rw [hOl]; omega)
            rw [hOl] at hg0
            injection hg0 with hg1 _ hg2
            subst hg1 hg2
            have hOD : OwnD w hb wp q nh th g f X Mu T W wr w2.heap.size g0 L c' (padL (2 * Pn) T.priv) := ⟨HH.out.start.grow hBw, HH.out.notFour hBw (by have := HBA.out.size; omega) hgz, by have := HBA.out.size; omega, hrow, hOl⟩
            have d0 := hOD.cell (j := i0n) (by have := HI.out; omega)
            have d1 := hOD.cell (j := i1n) (by have := HI.out; omega)
            rw [padL_at] at d0 d1
            have zg := hgz
            replace s1 := (HBW.out.cell (p := ⟨w.heap.size, 1, none⟩) zs).trans s1
            replace cc2 := (HBW.out.cell (p := ⟨w.heap.size + 1, 2, none⟩) zc).trans cc2
            replace cc3 := (HBW.out.cell (p := ⟨w.heap.size + 1, 3, none⟩) zc).trans cc3
            replace cc4 := (HBW.out.cell (p := ⟨w.heap.size + 1, 4, none⟩) zc).trans cc4
            have zs1 := Nat.lt_of_lt_of_le zs HBW.out.size
            have zc1 := Nat.lt_of_lt_of_le zc HBW.out.size
            have hl0 : (i0n : Int) < (L : Int) := by have := HI.out; omega
            have hl1 : (i1n : Int) < (L : Int) := by have := HI.out; omega
            have HOD := hide hOD
            clear hrow hOl hBw hOD hj hLj HOW HBW hgz hlo hlt
            rw [HX.out] at d1
            obtain ⟨g1, f1, X1, hR1, hQ1⟩ := HOD.out.acc (T2 := TA) (W2 := WA) HRA.out
            have N1 := tapeSwap (i : Int) x y hR1 HBo.out
            rw [HA.out] at N1
            dsimp only at N1
            have HQ1 := hide hQ1
            clear hR1 hQ1
            go_wp2_with fail
            refine N1.mono ?_
            rintro e w5 ⟨rfl, hq5⟩
            have hO5 := HQ1.out _ hq5
            obtain ⟨g2, f2, X2, hR5, -⟩ := hO5.acc (T2 := TA) (W2 := WA) ⟨rfl, rfl, rfl⟩
            have c10 := hR5.hrow.cell (i := q + 10) (by omega)
            rw [hR5.tp.val] at c10
            have f10 := hR5.hrow.frozen (q + 10)
            have c8 := hR5.hrow.cell (i := q + 8) (by omega)
            have f8 := hR5.hrow.frozen (q + 8)
            have hz5 := hR5.hrow.lt
            have e0 := hO5.cell (j := i0n) (by have := HI.out; omega)
            have e1 := hO5.cell (j := i1n) (by have := HI.out; omega)
            have fg0 := hO5.frozen (by have := HI.out; omega) i0n
            have fg1 := hO5.frozen (by have := HI.out; omega) i1n
            have zg5 := hO5.nf.2.2.1
            have ngh := hO5.nf.1
            have ngh2 : ¬ hb = g0 := fun e => ngh e.symm
            have nij : ¬ i0n = i1n := by have := HI.out; omega
            have nji : ¬ i1n = i0n := by have := HI.out; omega
            clear hR5
            have hO9 := (hO5.set i0n 0).prv HM.out (by unfold maxLen; omega)
            have HO9 := hide hO9
            clear hO5 hO9 hq5 N1 HQ1 HOD
            go_wp2
            go_end0
            refine ⟨rfl, ?_⟩
            rw [← HF.out, if_neg HN1.out, ← HVA.out]
            exact HO9.out
  · rw [hkk] at cc2
    have dk1 : (c.kind == 1) = false := by rw [hkk]; rfl
    by_cases ha9 : at9 T.priv i0n = 0
    · have hF : ({ T with err := 8 }, W) = FIN := by
        rw [← hFIN]
        unfold llDo
        rw [if_neg hk1, if_neg HK2.out, if_pos ⟨by omega, by rw [hat]; exact ha9⟩]
      have HF := hide hF
      clear hr0 h hk1 hk2 hk3 hkk hpv hps hpb hFIN hcb htb hB hpl hbA hw1 hw2 hrowC hi hiP hi0n hi1n hM hF hat
      go_enter Tryz.func82, Tryz.ntmps82
      go_upto_region 5 with fail
      rw [← HW2.out]
      clear HW2 c8 c9 f9
      go_wp2_with (at_builtin; refine dup_append rfl _ _ rfl rfl (by first | rfl | (simp; done) | simp) rfl HSP.out HPL.out ?_; intro v5 w5 hown5 hB5)
      obtain ⟨A5, c5, rfl⟩ := own_slice hown5
      have HO5 := hide hown5
      have HB5 := hide hB5
      clear hown5 hB5
      go_loopw [8] (fun v wr => ∃ (L : Nat) (A : Option Addr) (c' : Nat), v = .slice A L c' ∧ Hid (∃ j, j ≤ 2 * Pn - T.priv.length ∧ L = T.priv.length + j ∧ WRow wr w2.heap.size (.slice A L c') (T.priv ++ List.replicate j 0)) ∧ Hid (Below w2.heap.size w2 wr)) (fun v _ => 2 * Pn - lenV v)
      case atStart => exact ⟨T.priv.length, A5, c5, rfl, hide ⟨0, Nat.zero_le _, rfl, by simpa using HO5.out⟩, HB5⟩
      case round =>
        obtain ⟨L, A, c', rfl, HOW, HBW⟩ := hrel
        by_cases hlt : L < 2 * Pn
        · have hlt' : (L : Int) < 2 * (Pn : Int) := by omega
          obtain ⟨j, hj, hLj, hrow⟩ := HOW.out
          have hrow1 : wr.ownsRow w2.heap.size 46 1 (.slice A L c') L ((T.priv ++ List.replicate j 0).map (Value.int .u64)) := by
            have hl9 : (T.priv ++ List.replicate j (0 : Int)).length = L := by simp; omega
            have := hrow
            unfold WRow at this
            rwa [hl9] at this
          have hzr := HBW.out.size
          have HR1 := hide hrow1
          have HJ := hide (show j ≤ 2 * Pn - T.priv.length ∧ L = T.priv.length + j from ⟨hj, hLj⟩)
          replace s1 := (HBW.out.cell (p := ⟨w.heap.size, 1, none⟩) zs).trans s1
          have zs1 := Nat.lt_of_lt_of_le zs HBW.out.size
          clear hrow hrow1 hj hLj HOW
          go_wp2_with (at_builtin; refine wpList_append_own_at _ rfl _ _ 28 rfl w2.heap.size 46 iI (.int .u64 0) 1 8 Tryz.underlying28 hii hz0 hz1 hz2 rfl (by decide) (.slice A L c') L ((T.priv ++ List.replicate j 0).map (Value.int .u64)) rfl (World.ownsRow.alloc HR1.out (.cells #[.int .u64 0] 46)) ⟨wr.heap.size, 0, none⟩ 1 1 [.int .u64 0] rfl rfl (cell_one_new _ _ _) (by simp [Value.oneCell']) (by unfold maxLen; omega) (by omega) (by simp; omega) ?_; intro v7 w7 hown7 hgrow7 _ _)
          obtain ⟨A7, c7, rfl⟩ := own_slice hown7
          have HB7 := hide ((HBW.out.alloc hzr _).grown hgrow7 (by simp; omega) (fun k hk => (HR1.out.lt k hk).1))
          have HO7 := hide hown7
          clear hown7 hgrow7
          go_roundw
          case rel =>
            refine ⟨L + 1, A7, c7, rfl, hide ⟨j + 1, by have := HJ.out; omega, by have := HJ.out; omega, ?_⟩, HB7⟩
            have hl9 : (T.priv ++ List.replicate j (0 : Int) ++ [0]).length = L + 1 := by have := HJ.out; simp; omega
            have := HO7.out
            unfold WRow
            rw [List.replicate_succ', ← List.append_assoc, hl9, List.map_append]
            exact this
          case measure => first | (simp [lenV]; done) | (simp [lenV]; omega)
        · have hge : ¬ (L : Int) < 2 * (Pn : Int) := by omega
          obtain ⟨j, hj, hLj, hrow⟩ := HOW.out
          rw [padL_eq hj (by omega)] at hrow
          have hOl : (padL (2 * Pn) T.priv).length = L := by unfold padL; simp; omega
          have hBw : Below w.heap.size w wr := HBA.out.trans (HBW.out.mono HBA.out.size)
          have hLp : 2 * Pn ≤ L := by omega
          have hLm : L ≤ 1000128 := by have := HPL.out; omega
          obtain ⟨g0, c0, hg0, hlo, hgz⟩ := own_some' hrow (by rw [hOl]; omega)
          rw [hOl] at hg0
          injection hg0 with hg1 _ hg2
          subst hg1 hg2
          have hOD : OwnD w hb wp q nh th g f X Mu T W wr w2.heap.size g0 L c' (padL (2 * Pn) T.priv) := ⟨HH.out.start.grow hBw, HH.out.notFour hBw (by have := HBA.out.size; omega) hgz, by have := HBA.out.size; omega, hrow, hOl⟩
          have d0 := hOD.cell (j := i0n) (by have := HI.out; omega)
          have d1 := hOD.cell (j := i1n) (by have := HI.out; omega)
          rw [padL_at] at d0 d1
          have zg := hgz
          replace s1 := (HBW.out.cell (p := ⟨w.heap.size, 1, none⟩) zs).trans s1
          replace cc2 := (HBW.out.cell (p := ⟨w.heap.size + 1, 2, none⟩) zc).trans cc2
          replace cc3 := (HBW.out.cell (p := ⟨w.heap.size + 1, 3, none⟩) zc).trans cc3
          replace cc4 := (HBW.out.cell (p := ⟨w.heap.size + 1, 4, none⟩) zc).trans cc4
          have zs1 := Nat.lt_of_lt_of_le zs HBW.out.size
          have zc1 := Nat.lt_of_lt_of_le zc HBW.out.size
          have hl0 : (i0n : Int) < (L : Int) := by have := HI.out; omega
          have hl1 : (i1n : Int) < (L : Int) := by have := HI.out; omega
          have HOD := hide hOD
          clear hrow hOl hBw hOD hj hLj HOW HBW hgz hlo hlt
          rw [ha9] at d0
          obtain ⟨g2, f2, X2, hR5, -⟩ := HOD.out.acc (T2 := T) (W2 := W) ⟨rfl, rfl, rfl⟩
          have c9 := hR5.hrow.cell (i := q + 9) (by omega)
          rw [hR5.tp.err] at c9
          have f9 := hR5.hrow.frozen (q + 9)
          have hz5 := hR5.hrow.lt
          have hO9 := (HOD.out.num (T2 := { T with err := 8 }) (.int .i64 8) (show 9 < 13 by decide) (fun g X ht => by obtain ⟨b0, b1, b2, b3, b4, b5, b6, b7, b8, b9, b10, b11, b12⟩ := ht; refine ⟨?_, ?_, ?_, ?_, ?_, ?_, ?_, ?_, ?_, ?_, ?_, ?_, ?_⟩; all_goals first | (rw [if_neg (by omega)]; assumption) | (rw [if_pos (by omega)]; rfl) | (rw [if_pos (by omega)])) rfl rfl rfl ⟨rfl, rfl, rfl⟩).d
          have HO9 := hide hO9
          clear hR5 hO9 HOD ha9
          go_wp2
          ((try simp only [Exit.inBlock, Exit.then]); refine bodyPost_ret (results_none rfl _ _ _) rfl ?_)
          refine ⟨rfl, ?_⟩
          rw [← HF.out]
          exact HO9.out
    · obtain ⟨x, hx⟩ : ∃ x, at9 T.priv i1n = x := ⟨_, rfl⟩
      obtain ⟨a, TA, WA, hA⟩ : ∃ a t w, T.acc th 0 (i : Int) 0 0 W = (a, t, w) := ⟨_, _, _, rfl⟩
      have rA := acc_reads th 0 (i : Int) 0 0 T W
      have vA := acc_val th 0 (i : Int) 0 0 T W
      rw [hA] at rA vA
      dsimp only at rA vA
      have hF : ({ TA with val := if a = x then 1 else T.val, priv := padL (2 * Pn) T.priv }, WA) = FIN := by
        rw [← hFIN]
        unfold llDo
        rw [if_neg hk1, if_neg HK2.out, if_neg (show ¬ (c.kind ≠ 0 ∧ at9 T.priv (2 * c.a.toNat) = 0) from fun e => by rw [hat] at e; exact ha9 e.2), if_neg (show ¬ c.kind = 0 by omega), if_neg (show ¬ c.kind = 1 by omega), Int.toNat_natCast, hat, hi, show i0n + 1 = i1n by omega, hx, hA]
      have HF := hide hF
      have HA := hide hA
      have HRA := hide rA
      have HVA := hide vA
      have d9 : (at9 T.priv i0n == 0) = false := by simpa using ha9
      have HX := hide hx
      clear hr0 h hk1 hk2 hk3 hkk hpv hps hpb hFIN hcb htb hB hpl hbA hw1 hw2 hrowC hi hiP hi0n hi1n hM hA rA vA hF hat hx ha9
      by_cases h1 : a = x
      · subst h1
        go_enter Tryz.func82, Tryz.ntmps82
        go_upto_region 5 with fail
        rw [← HW2.out]
        clear HW2 c8 c9 f9
        go_wp2_with (at_builtin; refine dup_append rfl _ _ rfl rfl (by first | rfl | (simp; done) | simp) rfl HSP.out HPL.out ?_; intro v5 w5 hown5 hB5)
        obtain ⟨A5, c5, rfl⟩ := own_slice hown5
        have HO5 := hide hown5
        have HB5 := hide hB5
        clear hown5 hB5
        go_loopw [8] (fun v wr => ∃ (L : Nat) (A : Option Addr) (c' : Nat), v = .slice A L c' ∧ Hid (∃ j, j ≤ 2 * Pn - T.priv.length ∧ L = T.priv.length + j ∧ WRow wr w2.heap.size (.slice A L c') (T.priv ++ List.replicate j 0)) ∧ Hid (Below w2.heap.size w2 wr)) (fun v _ => 2 * Pn - lenV v)
        case atStart => exact ⟨T.priv.length, A5, c5, rfl, hide ⟨0, Nat.zero_le _, rfl, by simpa using HO5.out⟩, HB5⟩
        case round =>
          obtain ⟨L, A, c', rfl, HOW, HBW⟩ := hrel
          by_cases hlt : L < 2 * Pn
          · have hlt' : (L : Int) < 2 * (Pn : Int) := by omega
            obtain ⟨j, hj, hLj, hrow⟩ := HOW.out
            have hrow1 : wr.ownsRow w2.heap.size 46 1 (.slice A L c') L ((T.priv ++ List.replicate j 0).map (Value.int .u64)) := by
              have hl9 : (T.priv ++ List.replicate j (0 : Int)).length = L := by simp; omega
              have := hrow
              unfold WRow at this
              rwa [hl9] at this
            have hzr := HBW.out.size
            have HR1 := hide hrow1
            have HJ := hide (show j ≤ 2 * Pn - T.priv.length ∧ L = T.priv.length + j from ⟨hj, hLj⟩)
            replace s1 := (HBW.out.cell (p := ⟨w.heap.size, 1, none⟩) zs).trans s1
            have zs1 := Nat.lt_of_lt_of_le zs HBW.out.size
            clear hrow hrow1 hj hLj HOW
            go_wp2_with (at_builtin; refine wpList_append_own_at _ rfl _ _ 28 rfl w2.heap.size 46 iI (.int .u64 0) 1 8 Tryz.underlying28 hii hz0 hz1 hz2 rfl (by decide) (.slice A L c') L ((T.priv ++ List.replicate j 0).map (Value.int .u64)) rfl (World.ownsRow.alloc HR1.out (.cells #[.int .u64 0] 46)) ⟨wr.heap.size, 0, none⟩ 1 1 [.int .u64 0] rfl rfl (cell_one_new _ _ _) (by simp [Value.oneCell']) (by unfold maxLen; omega) (by omega) (by simp; omega) ?_; intro v7 w7 hown7 hgrow7 _ _)
            obtain ⟨A7, c7, rfl⟩ := own_slice hown7
            have HB7 := hide ((HBW.out.alloc hzr _).grown hgrow7 (by simp; omega) (fun k hk => (HR1.out.lt k hk).1))
            have HO7 := hide hown7
            clear hown7 hgrow7
            go_roundw
            case rel =>
              refine ⟨L + 1, A7, c7, rfl, hide ⟨j + 1, by have := HJ.out; omega, by have := HJ.out; omega, ?_⟩, HB7⟩
              have hl9 : (T.priv ++ List.replicate j (0 : Int) ++ [0]).length = L + 1 := by have := HJ.out; simp; omega
              have := HO7.out
              unfold WRow
              rw [List.replicate_succ', ← List.append_assoc, hl9, List.map_append]
              exact this
            case measure => first | (simp [lenV]; done) | (simp [lenV]; omega)
          · have hge : ¬ (L : Int) < 2 * (Pn : Int) := by omega
            obtain ⟨j, hj, hLj, hrow⟩ := HOW.out
            rw [padL_eq hj (by omega)] at hrow
            have hOl : (padL (2 * Pn) T.priv).length = L := by unfold padL; simp; omega
            have hBw : Below w.heap.size w wr := HBA.out.trans (HBW.out.mono HBA.out.size)
            have hLp : 2 * Pn ≤ L := by omega
            have hLm : L ≤ 1000128 := by have := HPL.out; omega
            obtain ⟨g0, c0, hg0, hlo, hgz⟩ := own_some' hrow (by rw [hOl]; omega)
            rw [hOl] at hg0
            injection hg0 with hg1 _ hg2
            subst hg1 hg2
            have hOD : OwnD w hb wp q nh th g f X Mu T W wr w2.heap.size g0 L c' (padL (2 * Pn) T.priv) := ⟨HH.out.start.grow hBw, HH.out.notFour hBw (by have := HBA.out.size; omega) hgz, by have := HBA.out.size; omega, hrow, hOl⟩
            have d0 := hOD.cell (j := i0n) (by have := HI.out; omega)
            have d1 := hOD.cell (j := i1n) (by have := HI.out; omega)
            rw [padL_at] at d0 d1
            have zg := hgz
            replace s1 := (HBW.out.cell (p := ⟨w.heap.size, 1, none⟩) zs).trans s1
            replace cc2 := (HBW.out.cell (p := ⟨w.heap.size + 1, 2, none⟩) zc).trans cc2
            replace cc3 := (HBW.out.cell (p := ⟨w.heap.size + 1, 3, none⟩) zc).trans cc3
            replace cc4 := (HBW.out.cell (p := ⟨w.heap.size + 1, 4, none⟩) zc).trans cc4
            have zs1 := Nat.lt_of_lt_of_le zs HBW.out.size
            have zc1 := Nat.lt_of_lt_of_le zc HBW.out.size
            have hl0 : (i0n : Int) < (L : Int) := by have := HI.out; omega
            have hl1 : (i1n : Int) < (L : Int) := by have := HI.out; omega
            have HOD := hide hOD
            clear hrow hOl hBw hOD hj hLj HOW HBW hgz hlo hlt
            rw [HX.out] at d1
            obtain ⟨g1, f1, X1, hR1, hQ1⟩ := HOD.out.acc (T2 := TA) (W2 := WA) HRA.out
            have N1 := tapeRead (i : Int) hR1 HBo.out
            rw [HA.out] at N1
            dsimp only at N1
            have HQ1 := hide hQ1
            clear hR1 hQ1
            go_wp2_with fail
            refine N1.mono ?_
            rintro e w5 ⟨rfl, hq5⟩
            have hO5 := HQ1.out _ hq5
            obtain ⟨g2, f2, X2, hR5, -⟩ := hO5.acc (T2 := TA) (W2 := WA) ⟨rfl, rfl, rfl⟩
            have c10 := hR5.hrow.cell (i := q + 10) (by omega)
            rw [hR5.tp.val] at c10
            have f10 := hR5.hrow.frozen (q + 10)
            have c8 := hR5.hrow.cell (i := q + 8) (by omega)
            have f8 := hR5.hrow.frozen (q + 8)
            have hz5 := hR5.hrow.lt
            have e0 := hO5.cell (j := i0n) (by have := HI.out; omega)
            have e1 := hO5.cell (j := i1n) (by have := HI.out; omega)
            have fg0 := hO5.frozen (by have := HI.out; omega) i0n
            have fg1 := hO5.frozen (by have := HI.out; omega) i1n
            have zg5 := hO5.nf.2.2.1
            have ngh := hO5.nf.1
            have ngh2 : ¬ hb = g0 := fun e => ngh e.symm
            have nij : ¬ i0n = i1n := by have := HI.out; omega
            have nji : ¬ i1n = i0n := by have := HI.out; omega
            clear hR5
            have hO6 := hO5.num (T2 := { TA with val := 1 }) (.int .u64 1) (show 10 < 13 by decide) (fun g X ht => by obtain ⟨b0, b1, b2, b3, b4, b5, b6, b7, b8, b9, b10, b11, b12⟩ := ht; refine ⟨?_, ?_, ?_, ?_, ?_, ?_, ?_, ?_, ?_, ?_, ?_, ?_, ?_⟩; all_goals first | (rw [if_neg (by omega)]; assumption) | (rw [if_pos (by omega)]; rfl) | (rw [if_pos (by omega)])) rfl rfl rfl ⟨rfl, rfl, rfl⟩
            have hO9 := hO6.prv HM.out (by unfold maxLen; omega)
            have HO9 := hide hO9
            clear hO5 hO9 hq5 N1 HQ1 HOD
            go_wp2
            go_end0
            refine ⟨rfl, ?_⟩
            rw [← HF.out]
            first | (rw [if_pos rfl]; exact HO9.out) | (rw [if_pos trivial]; exact HO9.out)
      · have da1 : (a == x) = false := by simpa using h1
        have HN1 := hide h1
        clear h1
        go_enter Tryz.func82, Tryz.ntmps82
        go_upto_region 5 with fail
        rw [← HW2.out]
        clear HW2 c8 c9 f9
        go_wp2_with (at_builtin; refine dup_append rfl _ _ rfl rfl (by first | rfl | (simp; done) | simp) rfl HSP.out HPL.out ?_; intro v5 w5 hown5 hB5)
        obtain ⟨A5, c5, rfl⟩ := own_slice hown5
        have HO5 := hide hown5
        have HB5 := hide hB5
        clear hown5 hB5
        go_loopw [8] (fun v wr => ∃ (L : Nat) (A : Option Addr) (c' : Nat), v = .slice A L c' ∧ Hid (∃ j, j ≤ 2 * Pn - T.priv.length ∧ L = T.priv.length + j ∧ WRow wr w2.heap.size (.slice A L c') (T.priv ++ List.replicate j 0)) ∧ Hid (Below w2.heap.size w2 wr)) (fun v _ => 2 * Pn - lenV v)
        case atStart => exact ⟨T.priv.length, A5, c5, rfl, hide ⟨0, Nat.zero_le _, rfl, by simpa using HO5.out⟩, HB5⟩
        case round =>
          obtain ⟨L, A, c', rfl, HOW, HBW⟩ := hrel
          by_cases hlt : L < 2 * Pn
          · have hlt' : (L : Int) < 2 * (Pn : Int) := by omega
            obtain ⟨j, hj, hLj, hrow⟩ := HOW.out
            have hrow1 : wr.ownsRow w2.heap.size 46 1 (.slice A L c') L ((T.priv ++ List.replicate j 0).map (Value.int .u64)) := by
              have hl9 : (T.priv ++ List.replicate j (0 : Int)).length = L := by simp; omega
              have := hrow
              unfold WRow at this
              rwa [hl9] at this
            have hzr := HBW.out.size
            have HR1 := hide hrow1
            have HJ := hide (show j ≤ 2 * Pn - T.priv.length ∧ L = T.priv.length + j from ⟨hj, hLj⟩)
            replace s1 := (HBW.out.cell (p := ⟨w.heap.size, 1, none⟩) zs).trans s1
            have zs1 := Nat.lt_of_lt_of_le zs HBW.out.size
            clear hrow hrow1 hj hLj HOW
            go_wp2_with (at_builtin; refine wpList_append_own_at _ rfl _ _ 28 rfl w2.heap.size 46 iI (.int .u64 0) 1 8 Tryz.underlying28 hii hz0 hz1 hz2 rfl (by decide) (.slice A L c') L ((T.priv ++ List.replicate j 0).map (Value.int .u64)) rfl (World.ownsRow.alloc HR1.out (.cells #[.int .u64 0] 46)) ⟨wr.heap.size, 0, none⟩ 1 1 [.int .u64 0] rfl rfl (cell_one_new _ _ _) (by simp [Value.oneCell']) (by unfold maxLen; omega) (by omega) (by simp; omega) ?_; intro v7 w7 hown7 hgrow7 _ _)
            obtain ⟨A7, c7, rfl⟩ := own_slice hown7
            have HB7 := hide ((HBW.out.alloc hzr _).grown hgrow7 (by simp; omega) (fun k hk => (HR1.out.lt k hk).1))
            have HO7 := hide hown7
            clear hown7 hgrow7
            go_roundw
            case rel =>
              refine ⟨L + 1, A7, c7, rfl, hide ⟨j + 1, by have := HJ.out; omega, by have := HJ.out; omega, ?_⟩, HB7⟩
              have hl9 : (T.priv ++ List.replicate j (0 : Int) ++ [0]).length = L + 1 := by have := HJ.out; simp; omega
              have := HO7.out
              unfold WRow
              rw [List.replicate_succ', ← List.append_assoc, hl9, List.map_append]
              exact this
            case measure => first | (simp [lenV]; done) | (simp [lenV]; omega)
          · have hge : ¬ (L : Int) < 2 * (Pn : Int) := by omega
            obtain ⟨j, hj, hLj, hrow⟩ := HOW.out
            rw [padL_eq hj (by omega)] at hrow
            have hOl : (padL (2 * Pn) T.priv).length = L := by unfold padL; simp; omega
            have hBw : Below w.heap.size w wr := HBA.out.trans (HBW.out.mono HBA.out.size)
            have hLp : 2 * Pn ≤ L := by omega
            have hLm : L ≤ 1000128 := by have := HPL.out; omega
            obtain ⟨g0, c0, hg0, hlo, hgz⟩ := own_some' hrow (by rw [hOl]; omega)
            rw [hOl] at hg0
            injection hg0 with hg1 _ hg2
            subst hg1 hg2
            have hOD : OwnD w hb wp q nh th g f X Mu T W wr w2.heap.size g0 L c' (padL (2 * Pn) T.priv) := ⟨HH.out.start.grow hBw, HH.out.notFour hBw (by have := HBA.out.size; omega) hgz, by have := HBA.out.size; omega, hrow, hOl⟩
            have d0 := hOD.cell (j := i0n) (by have := HI.out; omega)
            have d1 := hOD.cell (j := i1n) (by have := HI.out; omega)
            rw [padL_at] at d0 d1
            have zg := hgz
            replace s1 := (HBW.out.cell (p := ⟨w.heap.size, 1, none⟩) zs).trans s1
            replace cc2 := (HBW.out.cell (p := ⟨w.heap.size + 1, 2, none⟩) zc).trans cc2
            replace cc3 := (HBW.out.cell (p := ⟨w.heap.size + 1, 3, none⟩) zc).trans cc3
            replace cc4 := (HBW.out.cell (p := ⟨w.heap.size + 1, 4, none⟩) zc).trans cc4
            have zs1 := Nat.lt_of_lt_of_le zs HBW.out.size
            have zc1 := Nat.lt_of_lt_of_le zc HBW.out.size
            have hl0 : (i0n : Int) < (L : Int) := by have := HI.out; omega
            have hl1 : (i1n : Int) < (L : Int) := by have := HI.out; omega
            have HOD := hide hOD
            clear hrow hOl hBw hOD hj hLj HOW HBW hgz hlo hlt
            rw [HX.out] at d1
            obtain ⟨g1, f1, X1, hR1, hQ1⟩ := HOD.out.acc (T2 := TA) (W2 := WA) HRA.out
            have N1 := tapeRead (i : Int) hR1 HBo.out
            rw [HA.out] at N1
            dsimp only at N1
            have HQ1 := hide hQ1
            clear hR1 hQ1
            go_wp2_with fail
            refine N1.mono ?_
            rintro e w5 ⟨rfl, hq5⟩
            have hO5 := HQ1.out _ hq5
            obtain ⟨g2, f2, X2, hR5, -⟩ := hO5.acc (T2 := TA) (W2 := WA) ⟨rfl, rfl, rfl⟩
            have c10 := hR5.hrow.cell (i := q + 10) (by omega)
            rw [hR5.tp.val] at c10
            have f10 := hR5.hrow.frozen (q + 10)
            have c8 := hR5.hrow.cell (i := q + 8) (by omega)
            have f8 := hR5.hrow.frozen (q + 8)
            have hz5 := hR5.hrow.lt
            have e0 := hO5.cell (j := i0n) (by have := HI.out; omega)
            have e1 := hO5.cell (j := i1n) (by have := HI.out; omega)
            have fg0 := hO5.frozen (by have := HI.out; omega) i0n
            have fg1 := hO5.frozen (by have := HI.out; omega) i1n
            have zg5 := hO5.nf.2.2.1
            have ngh := hO5.nf.1
            have ngh2 : ¬ hb = g0 := fun e => ngh e.symm
            have nij : ¬ i0n = i1n := by have := HI.out; omega
            have nji : ¬ i1n = i0n := by have := HI.out; omega
            clear hR5
            have hO9 := hO5.prv HM.out (by unfold maxLen; omega)
            have HO9 := hide hO9
            clear hO5 hO9 hq5 N1 HQ1 HOD
            go_wp2
            go_end0
            refine ⟨rfl, ?_⟩
            rw [← HF.out, if_neg HN1.out, ← HVA.out]
            exact HO9.out
end Go.Proofs.YtlfingcmekifkaaGreat
