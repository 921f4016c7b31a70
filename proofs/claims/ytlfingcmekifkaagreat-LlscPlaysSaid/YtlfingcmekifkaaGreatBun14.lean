import Derived.Test.YtlfingcmekifkaaGreatLe1
import Derived.Test.YtlfingcmekifkaaGreatBun13
import Derived.Test.YtlfingcmekifkaaGreatBun9
import Derived.WalkMore
import Derived.Test.YtlfingcmekifkaaGreatBun4
import Derived.Test.YtlfingcmekifkaaGreatLo12
namespace Go.Proofs.YtlfingcmekifkaaGreat
open Go.RowKit
theorem EInv.refuse {d : Nat} {cs : List Cl} {P : Ps EM El} (I : EInv d cs P) {t i : Nat} (hn : P.hands t = none) (hi : i < cs.length) (ht : (callOf cs i).thread = t) (h1 : 1 ≤ P.lw.now) {e : Int} (he : e ≠ 0)
    (hS : elG.start P.obj t (callOf cs i) = (P.obj, .no e)) : EInv d cs ((P.start elG t i (callOf cs i)).step elG t i (.no e) P.evs.length) := by
  have hh : (P.start elG t i (callOf cs i)).hands t = some (.no e, P.evs.length) := by
    show upd P.hands t (some ((elG.start P.obj t (callOf cs i)).2, P.evs.length)) t = _
    rw [hS, upd_same]
  have hW := (I.wf.start (G := elG) (c := callOf cs i) hn hi ht h1).step (i := i) elG_still hh h1
  have hobj : (P.start elG t i (callOf cs i)).obj = P.obj := by
    show (elG.start P.obj t (callOf cs i)).1 = _
    rw [hS]
  have hA : (P.start elG t i (callOf cs i)).after elG t (.no e) = (P.obj, (P.start elG t i (callOf cs i)).lw, .no e, true) := by
    unfold Ps.after
    rw [hobj]
    rfl
  obtain ⟨q1, q2, key, q3⟩ := step_done (i := i) (h := P.evs.length) (G := elG) (P := P.start elG t i (callOf cs i)) (t := t) (m := .no e) (by rw [hA])
  have q4 := step_obj elG (P.start elG t i (callOf cs i)) t i (.no e) P.evs.length
  have q5 := step_lw elG (P.start elG t i (callOf cs i)) t i (.no e) P.evs.length
  rw [hA] at q3 q4 q5
  generalize hP : (P.start elG t i (callOf cs i)).step elG t i (.no e) P.evs.length = P' at *
  have hhands : ∀ s, P'.hands s = P.hands s := by
    intro s
    rw [q1]
    by_cases hs : s = t
    · rw [hs, upd_same, hn]
    · rw [upd_other hs]
      show upd P.hands t _ s = _
      rw [upd_other hs]
  have hev : P'.evs = P.evs ++ [⟨i, P.lw.now, P.lw.now, 0 + 1, ⟨e, 0, []⟩, key⟩] := by
    rw [q3]
    exact snoc_modify P.evs _ _
  have hww : ∀ u, El.w P' u = El.w P u := fun u => by unfold El.w; rw [q5]; rfl
  have old : ∀ (k : Nat) (x : Ep), P'.evs[k]? = some x → isStand cs x → P.evs[k]? = some x := by
    intro k x hx hs
    rw [hev] at hx
    rcases snoc_get hx with ⟨_, hx⟩ | ⟨_, rfl⟩
    · exact hx
    · exact absurd hs.2.2 he
  refine ⟨hW, by rw [q4]; exact I.lv, by rw [q5]; exact I.len, fun s m h hs => ?_, fun h x hx hs => ?_, fun h k x y hx hy hs hs' htt => ?_, fun h x hx hr hs => ?_, fun v v0 v1 hv => ?_, fun h x hx => ?_⟩
  · rw [hhands] at hs
    obtain ⟨v, x, a1, a2, a3, a4, a5⟩ := I.mach s m h hs
    rw [hev]
    exact ⟨v, x, a1, a2, a3, snoc_old a4, a5⟩
  · rw [q4]
    exact I.stood h x (old h x hx hs) hs
  · exact I.uniq h k x y (old h x hx hs) (old k y hy hs') hs hs' htt
  · have := I.done h x (old h x hx hs) hr hs
    simp only [hww]
    exact this
  · simp only [hww] at hv ⊢
    obtain ⟨h, x, a1, a2, a3, a4⟩ := I.word v v0 v1 hv
    refine ⟨h, x, by rw [hev]; exact snoc_old a1, a2, a3, ?_⟩
    rw [hhands]
    exact a4
  · rw [hev] at hx
    rcases snoc_get hx with ⟨_, hx⟩ | ⟨_, rfl⟩
    · exact I.steps h x hx
    · show (0 : Int) + 1 ≤ ((max d 1 : Nat) : Int)
      omega
theorem EInv.idle {d : Nat} {cs : List Cl} {P : Ps EM El} (I : EInv d cs P) : EInv d cs { P with idle := P.idle + 1 } := ⟨⟨I.wf.finl, I.wf.now, I.wf.call, I.wf.hand, I.wf.opn⟩, I.lv, I.len, I.mach, I.stood, I.uniq, I.done, I.word, I.steps⟩
theorem EInv.pick {d : Nat} {cs : List Cl} {P : Ps EM El} (I : EInv d cs P) (p : Int) (hcs : ∀ c ∈ cs, 0 ≤ c.thread ∧ c.thread < 2 ^ d) : EInv d cs (P.pick elG cs p) := by
  rcases pick_cases elG P p (fun c hc => (hcs c hc).1) with h | ⟨t, i, _, hi, ht, _, ⟨m, h, hm, hp⟩ | ⟨hn, hp⟩⟩
  · rw [h]
    exact I.idle
  · rw [hp]
    have h1 : 1 ≤ P.tick.lw.now := by
      have := I.wf.now
      show 1 ≤ P.lw.now + 1
      omega
    exact I.tick.step (i := i) (P := P.tick) hm h1
  · rw [hp]
    have h1 : 1 ≤ P.tick.lw.now := by
      have := I.wf.now
      show 1 ≤ P.lw.now + 1
      omega
    have hC : callOf cs i ∈ cs := by
      unfold callOf
      rw [List.getElem?_eq_getElem hi]
      exact List.getElem_mem hi
    have htn : (t : Int) < 2 ^ d := by
      rw [← ht]
      exact (hcs _ hC).2
    have hno : ∀ e, e ≠ 0 → elG.start P.obj t (callOf cs i) = (P.obj, .no e) → EInv d cs ((P.tick.start elG t i (callOf cs i)).step elG t i (elG.start P.obj t (callOf cs i)).2 P.evs.length) := by
      intro e he hS
      rw [hS]
      exact I.tick.refuse (P := P.tick) hn hi ht h1 he hS
    by_cases ho : (callOf cs i).obj = 0
    · by_cases hk : (callOf cs i).kind = 0
      · cases hst : P.obj.stood t with
        | true =>
          refine hno 8 (by decide) ?_
          show elStart _ _ _ = _
          unfold elStart
          rw [if_neg (by omega), if_neg (by omega), if_pos hst]
        | false =>
          obtain ⟨I', hS⟩ := I.tick.start (P := P.tick) hn hi ht h1 htn ho hk hst
          have hh : (P.tick.start elG t i (callOf cs i)).hands t = some ((elG.start P.obj t (callOf cs i)).2, P.evs.length) := by
            show upd P.hands t (some ((elG.start P.obj t (callOf cs i)).2, P.evs.length)) t = _
            rw [upd_same]
          exact I'.step (i := i) hh h1
      · refine hno 9 (by decide) ?_
        show elStart _ _ _ = _
        unfold elStart
        rw [if_neg (by omega), if_pos hk]
    · refine hno 12 (by decide) ?_
      show elStart _ _ _ = _
      unfold elStart
      rw [if_pos ho]
theorem EInv.play {d : Nat} {cs : List Cl} (hcs : ∀ c ∈ cs, 0 ≤ c.thread ∧ c.thread < 2 ^ d) (picks : List Int) : ∀ {P : Ps EM El}, EInv d cs P → EInv d cs (P.play elG cs picks) := by
  induction picks with
  | nil => exact fun I => I
  | cons p l ih => exact fun I => ih (I.pick p hcs)
structure ElOne (d : Nat) (cs : List Cl) (evs : List Ep) : Prop where
  call : ∀ (h : Nat) (e : Ep), evs[h]? = some e → e.call < cs.length ∧ e.steps ≤ max d 1
  one : ∀ (h k : Nat) (e e' : Ep), evs[h]? = some e → evs[k]? = some e' → isStand cs e → isStand cs e' → e.ans.val = 1 → e'.ans.val = 1 → h = k
  some : (∀ (h : Nat) (e : Ep), evs[h]? = some e → isStand cs e → e.resp ≠ 0) → (∃ (h : Nat) (e : Ep), evs[h]? = some e ∧ isStand cs e) → ∃ (h : Nat) (e : Ep), evs[h]? = some e ∧ isStand cs e ∧ e.ans.val = 1
theorem least_of {p : Nat → Prop} : (∃ n, p n) → ∃ n, p n ∧ ∀ k, k < n → ¬ p k := by
  rintro ⟨n, hn⟩
  induction n using Nat.strongRecOn with
  | ind n ih =>
    by_cases h : ∃ k, k < n ∧ p k
    · obtain ⟨k, hk, hp⟩ := h
      exact ih k hk hp
    · exact ⟨n, hn, fun k hk hp => h ⟨k, hk, hp⟩⟩
theorem EInv.one {d : Nat} {cs : List Cl} {P : Ps EM El} (I : EInv d cs P) (hcs : ∀ c ∈ cs, 0 ≤ c.thread ∧ c.thread < 2 ^ d) : ElOne d cs P.evs := by
  have hzero : ∀ (h : Nat) (e : Ep), P.evs[h]? = some e → e.resp = 0 → e.ans.val = 0 := by
    intro h e he hr
    obtain ⟨m, hm⟩ := I.wf.opn h e he hr
    obtain ⟨e', he', _, _, ha⟩ := I.wf.hand _ _ _ hm
    rw [he] at he'
    cases he'
    rw [ha]
  refine ⟨fun h e he => ⟨(I.wf.call h e he).1, I.steps h e he⟩, fun h k e e' he he' hs hs' hv hv' => ?_, fun hno hex => ?_⟩
  · have hr : e.resp ≠ 0 := fun hr => by rw [hzero h e he hr] at hv; cases hv
    have hr' : e'.resp ≠ 0 := fun hr => by rw [hzero k e' he' hr] at hv'; cases hv'
    refine I.uniq h k e e' he he' hs hs' ?_
    have hd : ∀ (h : Nat) (e : Ep), P.evs[h]? = some e → d = 0 → thr cs e = 0 := by
      intro h e he hd
      have hl := (I.wf.call h e he).1
      have hC : callOf cs e.call ∈ cs := by
        unfold callOf
        rw [List.getElem?_eq_getElem hl]
        exact List.getElem_mem hl
      have := hcs _ hC
      rw [hd] at this
      have h2 : (callOf cs e.call).thread < 1 := this.2
      unfold thr
      omega
    rcases I.done h e he hr hs with ⟨a, _⟩ | ⟨_, a⟩
    · rw [a] at hv; cases hv
    rcases I.done k e' he' hr' hs' with ⟨b, _⟩ | ⟨_, b⟩
    · rw [b] at hv'; cases hv'
    rcases a with a | a
    · rw [hd h e he a, hd k e' he' a]
    · rcases b with b | b
      · rw [hd h e he b, hd k e' he' b]
      · omega
  · obtain ⟨h, e, he, hs⟩ := hex
    rcases I.done h e he (hno h e he hs) hs with ⟨_, v, v0, v1, hv⟩ | ⟨a, _⟩
    · obtain ⟨n, ⟨n0, n1, hn⟩, hleast⟩ := least_of (p := fun n => 1 ≤ n ∧ (n : Int) < 2 ^ d ∧ El.w P n ≠ 0) ⟨v.toNat, by omega, by rw [Int.toNat_of_nonneg (by omega)]; exact v1, by rw [Int.toNat_of_nonneg (by omega)]; exact hv⟩
      obtain ⟨k, x, a1, a2, a3, a4⟩ := I.word n (by omega) n1 hn
      rcases a4 with ⟨b1, _⟩ | ⟨_, b⟩ | ⟨_, v', b2, b3, b4⟩
      · exact absurd b1 (hno k x a1 a2)
      · exact ⟨k, x, a1, a2, b⟩
      · exact absurd ⟨by omega, by omega, by rw [Int.toNat_of_nonneg (by omega)]; exact b4⟩ (hleast v'.toNat (by omega))
    · exact ⟨h, e, he, hs, a⟩
end Go.Proofs.YtlfingcmekifkaaGreat

namespace Go.Proofs.YtlfingcmekifkaaGreat
open Go.RowKit
theorem acc_new {t : Nat} {k a x y : Int} {T : Tp} {W : Rw} (hh : T.halt = false) (hf : T.fresh = true) (hl : T.at_ = T.got.length) : T.acc t k a x y W = (W.mem.tell k a x, { T with fresh := false, got := T.got ++ [W.mem.tell k a x], tks := T.tks ++ [W.now], at_ := T.at_ + 1 }, { W with mem := W.mem.acc k a x y, log := W.log1 t k a x y }) := by
  unfold Tp.acc
  rw [hh, hf]
  simp [hl]
end Go.Proofs.YtlfingcmekifkaaGreat

namespace Go.Proofs.YtlfingcmekifkaaGreat
open Go.RowKit
end Go.Proofs.YtlfingcmekifkaaGreat

namespace Go.Proofs.YtlfingcmekifkaaGreat
open Go.RowKit
theorem acc_reads (t : Nat) (k a x y : Int) (T : Tp) (W : Rw) : (T.acc t k a x y W).2.1.priv = T.priv ∧ (T.acc t k a x y W).2.1.list = T.list ∧ (T.acc t k a x y W).2.1.key = T.key := by
  unfold Tp.acc
  split
  · exact ⟨rfl, rfl, rfl⟩
  · split
    · exact ⟨rfl, rfl, rfl⟩
    · split <;> exact ⟨rfl, rfl, rfl⟩
theorem DoAt.prv {w w1 : World} {hb wp q nh th : Nat} {g f : Nat → Value} {X : Rv} {T : Tp} {W : Rw} {Mu : Nat → Prop} {l : List Int} (h : DoAt w hb wp q nh th g f X T W Mu) (hb' : Below w.heap.size w w1) (v : Value) (hv : LstIs w1 (fun k => k < w.heap.size) v l) : DoR w hb wp q nh th g f X Mu { T with priv := l } W (w1.setCell ⟨hb, q + 8, none⟩ v) := by
  have hk0 := Keep.of_below (K := fun k => k < w.heap.size) hb' (fun k hk => hk)
  have h1 := h.at_.keep hk0 h.at_.hrow.lt h.at_.mem.row.lt h.at_.lt4
  have hz := h.at_.hrow.lt
  have hk : Keep (fun k => k ≠ hb) w1 (w1.setCell ⟨hb, q + 8, none⟩ v) := (Keep.refl _ w1).setCell (by simp) _
  have hkk : Keep (fun k => k < w.heap.size ∧ k ≠ hb) w (w1.setCell ⟨hb, q + 8, none⟩ v) := (hk0.mono (fun k hk => hk.1)).setCell (fun hh => hh.2 rfl) _
  have hS : ∀ k, k < w.heap.size → ¬ Mu k → k < w.heap.size ∧ k ≠ hb := fun k k1 k2 => ⟨k1, fun e => by subst e; exact k2 h.mu.1⟩
  have hM : ∀ k, k < w.heap.size → (Mu k ∨ X.four k) → Mu k := fun k _ hk => by
    rcases hk with hk | hk
    · exact hk
    · exact h.mu.2.2 k hk
  have hL : ∀ k, (Mu k ∨ X.four k) → k < w.heap.size := fun k hk => by
    rcases hk with hk | hk
    · exact h.lt k hk
    · exact h.at_.lt4 k hk
  refine ⟨_, f, ⟨X.wv, X.lg, X.gv, X.tv, v, X.lv, X.kv⟩, ⟨h1.cellX (T' := { T with priv := l }) v v X.lv X.kv (show 8 < 13 by decide) ?_ rfl rfl h1.ba, ?_, ?_, ?_, ⟨Or.inl h.mu.1, Or.inl h.mu.2.1, fun k hk => Or.inr hk⟩, fun k hk => Nat.lt_of_lt_of_le (hL k hk) hkk.size⟩, rfl, fun i hi => ?_, fun _ _ => rfl, fun k hk => Or.inl hk, hkk.mono (fun k hk => ⟨hk.1, hk.2.1⟩)⟩
  · obtain ⟨b0, b1, b2, b3, b4, b5, b6, b7, b8, b9, b10, b11, b12⟩ := h1.tp
    refine ⟨?_, ?_, ?_, ?_, ?_, ?_, ?_, ?_, ?_, ?_, ?_, ?_, ?_⟩
    all_goals first | (rw [if_neg (by omega)]; assumption) | (rw [if_pos (by omega)]; rfl) | (rw [if_pos (by omega)])
  · exact hv.keep hk (fun k _ k2 e => k2 (by rw [e]; exact hz)) (fun k _ k2 => hL k k2)
  · exact h.li.keep hkk hS hM
  · exact h.ky.keep hkk hS hM
  · show (if i = q + 8 then v else g i) = g i
    rw [if_neg (by omega)]
end Go.Proofs.YtlfingcmekifkaaGreat

namespace Go.Proofs.YtlfingcmekifkaaGreat
open Go.RowKit
set_option maxRecDepth 100000 in
set_option maxHeartbeats 2000000 in
theorem refWrong05 (n : Int) (A : Option Addr) (m c : Nat) (cs : List Cl) (w : World) (h : SlCl w (.slice A m c) cs) (hm : cs.length = m) :
    Calls Tryz.prog 59 #[.int .i64 n, .slice A m c] w fun e w' => e = .returned (.int .i64 (wrongE n cs)) ∧ w' = w := by
  have hle : m ≤ maxLen := by obtain ⟨_, _, e, h1, h2, _⟩ := h; cases e; omega
  have hm63 : (m : Int) ≤ 9223372036854775807 := by unfold maxLen at hle; omega
  have HH := hide h
  have HM := hide hm
  by_cases hn : 1 ≤ n ∧ n ≤ 16
  · have n0 : decide (n < 1) = false := by simp; omega
    have n1 : decide (16 < n) = false := by simp; omega
    by_cases h8 : 1000 < m
    · have hE : wrongE n cs = 3 := by unfold wrongE; rw [if_neg (by omega), if_pos (by omega)]
      have h8' : (1000 : Int) < (m : Int) := by omega
      rw [hE]
      clear h hm hn hE
      go_enter Tryz.func59, Tryz.ntmps59
      go_wp2
      go_ret
      exact ⟨rfl, rfl⟩
    · have h8' : ¬ (1000 : Int) < (m : Int) := by omega
      have HN := hide hn
      obtain ⟨E, hE⟩ : ∃ E, wrongE n cs = E := ⟨_, rfl⟩
      have HE := hide hE
      rw [hE]
      clear h hm hn hE
      go_enter Tryz.func59, Tryz.ntmps59
      go_wp2
      go_loopw [17] (fun i wr => ∃ k : Nat, k ≤ m ∧ i = .int .i64 k ∧ Hid (∀ (j : Nat) (x : Cl), j < k → cs[j]? = some x → 0 ≤ x.thread ∧ x.thread < n) ∧ wr = w) (fun i _ => m - (intOf i).toNat)
      case atStart => exact ⟨0, Nat.zero_le _, rfl, hide (fun j x hj => by omega), rfl⟩
      case round =>
        obtain ⟨k, hk, rfl, hOk, rfl⟩ := hrel
        by_cases hlt : k < m
        · obtain ⟨x, hxk⟩ : ∃ x, cs[k]? = some x := ⟨_, List.getElem?_eq_getElem (by have := HM.out; omega)⟩
          obtain ⟨A', c', e, _, _, h3⟩ := HH.out
          obtain ⟨b, oo, e', hb, hc⟩ := h3 k x hxk
          rw [HM.out] at e
          cases e
          cases e'
          obtain ⟨c0, c1, c2, c3, c4, c5⟩ := cl_cells hc
          have HK := hide hxk
          clear h3 hc hxk
          rcases (by omega : x.thread < 0 ∨ (0 ≤ x.thread ∧ n ≤ x.thread) ∨ (0 ≤ x.thread ∧ x.thread < n)) with ht | ⟨ht, ht'⟩ | ⟨ht, ht'⟩
          · have d0 : decide (x.thread < 0) = true := by simpa using ht
            have hE1 : Hid (1 = E) := hide (by rw [← HE.out]; unfold wrongE; rw [if_neg (by have := HN.out; omega), if_neg (by have := HM.out; omega), if_neg (not_all HK.out (Or.inl ht))])
            go_wp2
            go_ret
            exact ⟨by rw [← hE1.out]; rfl, rfl⟩
          · have d0 : decide (x.thread < 0) = false := by simpa using ht
            have d1 : decide (n ≤ x.thread) = true := by simpa using ht'
            have hE1 : Hid (1 = E) := hide (by rw [← HE.out]; unfold wrongE; rw [if_neg (by have := HN.out; omega), if_neg (by have := HM.out; omega), if_neg (not_all HK.out (Or.inr ht'))])
            go_wp2
            go_ret
            exact ⟨by rw [← hE1.out]; rfl, rfl⟩
          · have d0 : decide (x.thread < 0) = false := by simpa using ht
            have d1 : decide (n ≤ x.thread) = false := by simpa using ht'
            have hok1 : Hid (∀ (j : Nat) (y : Cl), j < k + 1 → cs[j]? = some y → 0 ≤ y.thread ∧ y.thread < n) := by
              intro j y hj hy
              by_cases e : j = k
              · subst e
                rw [HK.out] at hy
                cases hy
                exact ⟨ht, ht'⟩
              · exact hOk.out j y (by omega) hy
            go_wp2
            go_roundw
            case rel => exact ⟨k + 1, by omega, by go_num, hok1, trivial⟩
            case measure => first | (simp [intOf]; done) | (simp [intOf]; omega)
        · obtain rfl : k = m := by omega
          have hE1 : Hid (0 = E) := hide (by rw [← HE.out]; unfold wrongE; rw [if_neg (by have := HN.out; omega), if_neg (by have := HM.out; omega), if_pos (all_take (fun j x hx => hOk.out j x (by have := (List.getElem?_eq_some_iff.1 hx).1; have := HM.out; omega) hx))])
          go_wp2
          go_ret
          exact ⟨by rw [← hE1.out]; rfl, rfl⟩
  · have hE : wrongE n cs = 1 := by unfold wrongE; rw [if_pos hn]
    rw [hE]
    rcases (by omega : n < 1 ∨ 1 ≤ n ∧ 16 < n) with h0 | ⟨h0, h1⟩
    · have n0 : decide (n < 1) = true := by simp; omega
      clear h hm hn hE
      go_enter Tryz.func59, Tryz.ntmps59
      go_wp2
      go_ret
      exact ⟨rfl, rfl⟩
    · have n0 : decide (n < 1) = false := by simp; omega
      have n1 : decide (16 < n) = true := by simp; omega
      clear h hm hn hE
      go_enter Tryz.func59, Tryz.ntmps59
      go_wp2
      go_ret
      exact ⟨rfl, rfl⟩
end Go.Proofs.YtlfingcmekifkaaGreat

namespace Go.Proofs.YtlfingcmekifkaaGreat
open Go.RowKit
def isNow (cs : List Cl) (fin : List Bool) (p : Int) (i : Nat) : Bool := decide ((cs[i]?).map (·.thread) = some p) && !(fin[i]?.getD false)
def nowV (cs : List Cl) (fin : List Bool) (p : Int) : Int := match nowF cs fin p with
  | some i => i
  | none => -1
theorem nowF_find (cs : List Cl) (fin : List Bool) (p : Int) : nowF cs fin p = (List.range cs.length).find? (isNow cs fin p) := by
  unfold nowF remF
  rw [List.head?_filter]
  rfl
theorem nowF_at {cs : List Cl} {fin : List Bool} {p : Int} {k : Nat} (hk : k < cs.length) (h : isNow cs fin p k = true) (hj : ∀ j, j < k → isNow cs fin p j = false) : nowF cs fin p = some k := by
  rw [nowF_find, List.find?_range_eq_some]
  exact ⟨h, List.mem_range.2 hk, fun j hjk => by rw [hj j hjk]; rfl⟩
theorem nowF_no {cs : List Cl} {fin : List Bool} {p : Int} (hj : ∀ j, j < cs.length → isNow cs fin p j = false) : nowF cs fin p = none := by
  rw [nowF_find, List.find?_eq_none]
  intro j hjm
  rw [hj j (List.mem_range.1 hjm)]
  simp
def bEnc (b : Bool) : List Value := [.bool b]
abbrev SlB := Sl bEnc 1
theorem b_cell {w : World} {b p : Nat} {x : Bool} (h : CellsAt w b p (bEnc x)) : w.cell? ⟨b, p, none⟩ = some (.bool x) := h 0 _ rfl
set_option maxRecDepth 100000 in
set_option maxHeartbeats 2000000 in
theorem refNow05 (A Af : Option Addr) (m c cf : Nat) (cs : List Cl) (fin : List Bool) (p : Int) (w : World) (h : SlCl w (.slice A m c) cs) (hm : cs.length = m) (hf : SlB w (.slice Af m cf) fin) (hmf : fin.length = m) :
    Calls Tryz.prog 43 #[.slice A m c, .slice Af m cf, .int .i64 p] w fun e w' => e = .returned (.int .i64 (nowV cs fin p)) ∧ w' = w := by
  have hle : m ≤ maxLen := by obtain ⟨_, _, e, h1, h2, _⟩ := h; cases e; omega
  have hm63 : (m : Int) ≤ 9223372036854775807 := by unfold maxLen at hle; omega
  have HH := hide h
  have HM := hide hm
  have HF := hide hf
  have HMF := hide hmf
  obtain ⟨E, hE⟩ : ∃ E, nowV cs fin p = E := ⟨_, rfl⟩
  have HE := hide hE
  rw [hE]
  clear h hm hf hmf hE
  go_enter Tryz.func43, Tryz.ntmps43
  go_wp2
  go_loopw [10] (fun i wr => ∃ k : Nat, k ≤ m ∧ i = .int .i64 k ∧ Hid (∀ j, j < k → isNow cs fin p j = false) ∧ wr = w) (fun i _ => m - (intOf i).toNat)
  case atStart => exact ⟨0, Nat.zero_le _, rfl, hide (fun j hj => by omega), rfl⟩
  case round =>
    obtain ⟨k, hk, rfl, hOk, rfl⟩ := hrel
    by_cases hlt : k < m
    · obtain ⟨x, hxk⟩ : ∃ x, cs[k]? = some x := ⟨_, List.getElem?_eq_getElem (by have := HM.out; omega)⟩
      obtain ⟨f, hfk⟩ : ∃ f, fin[k]? = some f := ⟨_, List.getElem?_eq_getElem (by have := HMF.out; omega)⟩
      obtain ⟨A', c', e, _, _, h3⟩ := HH.out
      obtain ⟨b, oo, e', hb, hc⟩ := h3 k x hxk
      rw [HM.out] at e
      cases e
      cases e'
      obtain ⟨c0, c1, c2, c3, c4, c5⟩ := cl_cells hc
      obtain ⟨A2, c2', e2, _, _, h4⟩ := HF.out
      obtain ⟨b2, o2, e2', hb2, hc2⟩ := h4 k f hfk
      rw [HMF.out] at e2
      cases e2
      cases e2'
      have f0 := b_cell hc2
      simp only [Nat.mul_one] at f0
      have hN : isNow cs fin p k = (decide (x.thread = p) && !f) := by unfold isNow; rw [hxk, hfk]; simp
      have HN := hide hN
      clear h3 hc hxk h4 hc2 hfk hN
      by_cases hp : x.thread = p
      · have d0 : (x.thread == p) = true := by simpa using hp
        cases f
        · have hE1 : Hid ((k : Int) = E) := hide (by rw [← HE.out]; unfold nowV; rw [nowF_at (by have := HM.out; omega) (by rw [HN.out]; simpa using hp) hOk.out])
          clear hp
          go_wp2
          go_ret
          exact ⟨by rw [← hE1.out]; rfl, rfl⟩
        · have hok1 : Hid (∀ j, j < k + 1 → isNow cs fin p j = false) := hide (fun j hj => by
            by_cases e : j = k
            · rw [e, HN.out]; simp
            · exact hOk.out j (by omega))
          clear hp
          go_wp2
          go_roundw
          case rel => exact ⟨k + 1, by omega, by go_num, hok1, trivial⟩
          case measure => first | (simp [intOf]; done) | (simp [intOf]; omega)
      · have d0 : (x.thread == p) = false := by simpa using hp
        have hok1 : Hid (∀ j, j < k + 1 → isNow cs fin p j = false) := hide (fun j hj => by
          by_cases e : j = k
          · rw [e, HN.out]; simp [hp]
          · exact hOk.out j (by omega))
        clear hp
        go_wp2
        go_roundw
        case rel => exact ⟨k + 1, by omega, by go_num, hok1, trivial⟩
        case measure => first | (simp [intOf]; done) | (simp [intOf]; omega)
    · obtain rfl : k = m := by omega
      have hE1 : Hid (-1 = E) := hide (by rw [← HE.out]; unfold nowV; rw [nowF_no (fun j hj => hOk.out j (by have := HM.out; omega))])
      go_wp2
      go_ret
      exact ⟨by rw [← hE1.out]; rfl, rfl⟩
end Go.Proofs.YtlfingcmekifkaaGreat

namespace Go.Proofs.YtlfingcmekifkaaGreat
open Go.RowKit
theorem DoAt.grow {w w1 : World} {hb wp q nh th : Nat} {g f : Nat → Value} {X : Rv} {T : Tp} {W : Rw} {Mu : Nat → Prop} (h : DoAt w hb wp q nh th g f X T W Mu) (hb' : Below w.heap.size w w1) : DoAt w1 hb wp q nh th g f X T W Mu := by
  have hk := Keep.of_below (K := fun k => k < w.heap.size) hb' (fun k hk => hk)
  exact ⟨h.at_.keep hk h.at_.hrow.lt h.at_.mem.row.lt h.at_.lt4, h.pr.keep hk (fun k k1 _ => k1) (fun _ _ h => h), h.li.keep hk (fun k k1 _ => k1) (fun _ _ h => h), h.ky.keep hk (fun k k1 _ => k1) (fun _ _ h => h), h.mu, fun k k1 => Nat.lt_of_lt_of_le (h.lt k k1) hk.size⟩
theorem DoR.since {w w1 w2 : World} {hb wp q nh th : Nat} {g f : Nat → Value} {X : Rv} {T : Tp} {W : Rw} {Mu : Nat → Prop} (h : DoR w1 hb wp q nh th g f X Mu T W w2) (hb' : Below w.heap.size w w1) : DoR w hb wp q nh th g f X Mu T W w2 := by
  have hk := Keep.of_below (K := fun k => k < w.heap.size) hb' (fun k hk => hk)
  have hz := hk.size
  obtain ⟨g1, f1, X1, h1, h2, h3, h4, h5, h6⟩ := h
  refine ⟨g1, f1, X1, h1, h2, h3, h4, fun k hk' => ?_, (hk.mono (fun k hk' => hk'.1)).trans (h6.mono (fun k hk' => ⟨by omega, hk'.2.1, hk'.2.2.1, hk'.2.2.2⟩))⟩
  rcases h5 k hk' with e | e
  · exact Or.inl e
  · exact Or.inr (by omega)
def spV (k p q : Int) : Value := .agg #[.int .i64 k, .int .i64 p, .int .i64 q]
set_option maxRecDepth 100000 in
set_option maxHeartbeats 1000000 in
theorem plainWrong (n : Int) (A : Option Addr) (m c : Nat) (cs : List Cl) (Ap : Option Addr) (np cp : Nat) (w : World) (h : SlCl w (.slice A m c) cs) (hm : cs.length = m) :
    Calls Tryz.prog 39 #[.int .i64 n, .slice A m c, .slice Ap np cp] w fun e w' => e = .returned (.int .i64 (chkE n cs np)) ∧ w' = w := by
  have N := refWrong05 n A m c cs w h hm
  have HM := hide hm
  clear h hm
  by_cases hn : 1 ≤ n ∧ n ≤ 16
  · have n0 : decide (n < 1) = false := by simp; omega
    have n1 : decide (16 < n) = false := by simp; omega
    by_cases h8 : 1000 < m
    · have hE : chkE n cs np = 3 := by unfold chkE; rw [if_neg (by omega), if_pos (Or.inl (by rw [HM.out]; omega))]
      rw [hE]
      have h8' : (1000 : Int) < (m : Int) := by omega
      clear hE N hn
      go_enter Tryz.func39, Tryz.ntmps39
      go_wp2
      go_ret
      exact ⟨rfl, rfl⟩
    · by_cases h9 : 65536 < np
      · have hE : chkE n cs np = 3 := by unfold chkE; rw [if_neg (by omega), if_pos (Or.inr h9)]
        rw [hE]
        have h8' : ¬ (1000 : Int) < (m : Int) := by omega
        have h9' : (65536 : Int) < (np : Int) := by omega
        clear hE N hn
        go_enter Tryz.func39, Tryz.ntmps39
        go_wp2
        go_ret
        exact ⟨rfl, rfl⟩
      · have hE : chkE n cs np = wrongE n cs := by unfold chkE; rw [if_neg (by omega), if_neg (by rw [HM.out]; omega)]
        rw [hE]
        have h8' : ¬ (1000 : Int) < (m : Int) := by omega
        have h9' : ¬ (65536 : Int) < (np : Int) := by omega
        clear hE hn
        generalize wrongE n cs = E at N ⊢
        go_enter Tryz.func39, Tryz.ntmps39
        go_wp2_with fail
        refine N.mono ?_
        rintro e w1 ⟨rfl, rfl⟩
        go_wp2
        go_ret
        exact ⟨rfl, rfl⟩
  · have hE : chkE n cs np = 1 := by unfold chkE; rw [if_pos hn]
    rw [hE]
    rcases (by omega : n < 1 ∨ 1 ≤ n ∧ 16 < n) with h0 | ⟨h0, h1⟩
    · have n0 : decide (n < 1) = true := by simp; omega
      clear hE N hn
      go_enter Tryz.func39, Tryz.ntmps39
      go_wp2
      go_ret
      exact ⟨rfl, rfl⟩
    · have n0 : decide (n < 1) = false := by simp; omega
      have n1 : decide (16 < n) = true := by simp; omega
      clear hE N hn
      go_enter Tryz.func39, Tryz.ntmps39
      go_wp2
      go_ret
      exact ⟨rfl, rfl⟩
end Go.Proofs.YtlfingcmekifkaaGreat
