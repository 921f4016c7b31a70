/- A lattice's plays: the steps of a thread. -/
import Derived.Test.YtlfingcmekifkaaLt2
namespace Go.Proofs.Ytlfingcmekifkaa
open Go.RowKit

theorem slot_ne {n a a' j j' : Nat} (hj : j ≤ n) (hj' : j' ≤ n) (h : a * (n + 1) + j = a' * (n + 1) + j') : a = a' := by
  rcases Nat.lt_trichotomy a a' with hl | hl | hl
  · have := Nat.mul_le_mul_right (n + 1) hl
    rw [Nat.succ_mul] at this
    omega
  · exact hl
  · have := Nat.mul_le_mul_right (n + 1) hl
    rw [Nat.succ_mul] at this
    omega
theorem rec_ne {n p t r t' r' j j' : Nat} (hr : r < p) (hr' : r' < p) (hj : j ≤ n) (hj' : j' ≤ n) (h : recA n p t r + j = recA n p t' r' + j') : t = t' ∧ r = r' := by
  unfold recA at h
  have h1 := slot_ne (a := t * p + r) (a' := t' * p + r') hj hj' (by omega)
  rcases Nat.lt_trichotomy t t' with hl | hl | hl
  · have := Nat.mul_le_mul_right p hl
    rw [Nat.succ_mul] at this
    omega
  · subst hl
    exact ⟨rfl, by omega⟩
  · have := Nat.mul_le_mul_right p hl
    rw [Nat.succ_mul] at this
    omega
theorem recA_ge (n p t r : Nat) : n ≤ recA n p t r := by unfold recA; omega
theorem ScOk.bound {n p : Nat} {g : Gh} {t : Nat} {b N : Int} {s : Sc} (ht : t < n) (h : ScOk n p g t b N s) : scS n s ≤ mxS n := by
  have hm : ∀ r, r ≤ n + 1 → r * n ≤ (n + 1) * n := fun r hr => Nat.mul_le_mul_right n hr
  unfold scS mxS
  obtain ⟨_, _, h | h | h | h | h⟩ := h
  · obtain ⟨_, a, _, b, _⟩ := h
    have := hm s.rounds (by omega)
    omega
  · obtain ⟨_, a, _, _, b, c, _⟩ := h
    have := cntD_lt c n ht
    have := hm s.rounds (by omega)
    omega
  · obtain ⟨_, a, _, b, _⟩ := h
    have := hm s.rounds b
    omega
  · obtain ⟨_, a, b, _⟩ := h
    have := hm s.rounds b
    omega
  · obtain ⟨_, a, b, _⟩ := h
    have := hm s.rounds b
    omega
theorem ScOk.over {n p : Nat} {g : Gh} {t : Nat} {b N : Int} {s : Sc} (h : ScOk n p g t b N s) (hp : s.pc = 3) : b ≤ s.moment ∧ s.moment ≤ N ∧ s.list = g.view s.moment n ∧ g.H s.moment t = g.H N t := by
  obtain ⟨h1, h2, h | h | h | h | h⟩ := h
  · have := h.1; omega
  · have := h.1; omega
  · have := h.1; omega
  · have := h.1; omega
  · obtain ⟨_, _, _, a, b, c⟩ := h
    exact ⟨a, b, c, h1 _ a⟩
theorem MemOk.next {n p : Nat} {g : Gh} {N : Int} {w w' : Lw} (h : MemOk n p g N w) (hg : GOk g N) (hl : w'.mem.words.length = w.mem.words.length) (ht : w'.traces = w.traces) (hc : ∀ t, t < n → w'.mem.at (t : Int) = w.mem.at (t : Int))
    (hr : ∀ t k j, t < n → 1 ≤ k → k ≤ g.H N t → j ≤ n → w'.mem.at ((recA n p t (k - 1) : Nat) + (j : Int)) = w.mem.at ((recA n p t (k - 1) : Nat) + (j : Int))) : MemOk n p g (N + 1) w' := by
  have hf : ∀ t, g.H (N + 1) t = g.H N t := fun t => hg.fut _ _ (by omega)
  refine ⟨by rw [hl]; exact h.len, fun t ht => by rw [hf, hc t ht]; exact h.cell t ht, fun t => by rw [hf]; exact h.le t, fun t k ht h1 h2 => ?_, fun t k ht h1 h2 s hs => ?_, fun t k ht' h1 h2 => ?_, fun t k ht h1 h2 => ?_⟩
  · rw [hf] at h2
    have := hr t k 0 ht h1 h2 (Nat.zero_le _)
    rw [← h.val t k ht h1 h2]
    simpa using this
  · rw [hf] at h2
    have := hr t k (s + 1) ht h1 h2 hs
    rw [← h.view t k ht h1 h2 s hs, Int.add_assoc, show (1 : Int) + (s : Int) = ((s + 1 : Nat) : Int) by omega]
    exact this
  · rw [hf] at h2
    rw [ht]
    exact h.trace t k ht' h1 h2
  · rw [hf] at h2
    obtain ⟨a, b⟩ := h.tmo t k ht h1 h2
    exact ⟨a, by omega⟩
section
variable {n p : Nat} {cs : List Cl} {P P' : Ps LM Lat} {g : Gh} {N : Int} {t i h : Nat} {e e' : Ep}
/-- A step that publishes nothing. -/
theorem LIv.same (I : LIv n p cs P g N) {m : LM} (hm : P.hands t = some (m, h)) (he : P.evs[h]? = some e) (hwf : PWf cs P') (hobj : P'.obj = P.obj) (hmem : MemOk n p g (N + 1) P'.lw)
    (hrcd : ∀ s j, s ≠ t → s < n → P.obj.used s < p → j ≤ n → P'.lw.mem.at ((recA n p s (P.obj.used s) : Nat) + (j : Int)) = P.lw.mem.at ((recA n p s (P.obj.used s) : Nat) + (j : Int)))
    (hh : ∀ s, s ≠ t → P'.hands s = P.hands s) (hev : (∀ (k : Nat) (x : Ep), P'.evs[k]? = some x → (k ≠ h ∧ P.evs[k]? = some x) ∨ (k = h ∧ x = e')) ∧ (∀ (k : Nat) (x : Ep), k ≠ h → P.evs[k]? = some x → P'.evs[k]? = some x) ∧ P'.evs[h]? = some e') (hc : e'.call = e.call ∧ e'.inv = e.inv)
    (hgt : (∃ v s all, m = .gtl t v s all) → GiveW cs P' h e') (hM : ∀ m' k, P'.hands t = some (m', k) → k = h ∧ t < n ∧ LatM n p g (N + 1) cs P'.obj P'.lw t e' m') (hE : LatE n g (N + 1) cs P'.obj P'.evs h e') : LIv n p cs P' g (N + 1) := by
  refine I.frame hm he ⟨fun s _ => by rw [hobj], fun s _ => by rw [hobj], fun s => by rw [hobj]; exact subI.refl _, Ext.refl I.gok, fun _ _ _ => rfl, hh, hev.1, hev.2.1, hev.2.2, fun x hx => ?_, hrcd⟩ hwf (by rw [hobj]; exact I.on) I.gok.next (fun s => ?_) hmem (by rw [hobj]; exact I.vm) (by rw [hobj]; exact I.own) (fun s τ k i _ h2 h3 => Or.inl ⟨h2, h3⟩) hgt hM hE
  · rw [he] at hx
    cases hx
    exact hc
  · rw [hobj, I.gok.fut (N + 1) s (by omega)]
    exact I.cnt s
theorem LIv.unread (I : LIv n p cs P g N) {w' : Lw} {a : Int} (hin : P.lw.mem.in a) (hw : w'.mem = P.lw.mem.acc 0 a 0 0) (ht : w'.traces = P.lw.traces) : MemOk n p g (N + 1) w' ∧ ∀ s j, w'.mem.at ((recA n p s (P.obj.used s) : Nat) + ((j : Nat) : Int)) = P.lw.mem.at ((recA n p s (P.obj.used s) : Nat) + (j : Int)) := by
  refine ⟨I.mem.next I.gok (by rw [hw, mm_len]) ht (fun s _ => by rw [hw, mm_read hin (by omega)]) (fun s k j _ _ _ _ => by rw [hw, mm_read hin (by omega)]), fun s j => by rw [hw, mm_read hin (by omega)]⟩
/-- An event that goes on. -/
theorem LatE.more {g' : Gh} {o : Lat} {evs : List Ep} (hr : e.resp = 0) (h1 : e.steps + 1 ≤ 2 * mxS n + (n + 2)) (h2 : (callOf cs e.call).kind = 1 → e.steps + 1 ≤ mxS n) : LatE n g' (N + 1) cs o evs h { e with steps := e.steps + 1 } :=
  ⟨⟨h1, h2⟩, fun _ h => absurd hr h, fun _ h => absurd hr h⟩
/-- An event that is told: a view of a tick of its own. -/
theorem LIv.told (I : LIv n p cs P g N) (hN : 0 ≤ N) (ht : t < n) {m : LM} (hm : P.hands t = some (m, h)) (he : P.evs[h]? = some e) {s : Sc} {b : Int} (hb : e.inv ≤ b) (hs : ScOk n p g t b (N + 1) s) (hp : s.pc = 3) (hobj : P'.obj = P.obj) (hev : ∀ (k : Nat) (x : Ep), P'.evs[k]? = some x → (k ≠ h ∧ P.evs[k]? = some x) ∨ (k = h ∧ x = e'))
    (hcall : e'.call = e.call ∧ e'.inv = e.inv) (hr : e'.resp = N + 1) (ha : e'.ans.val = unI s.list) (hst : e'.steps ≤ 2 * mxS n + (n + 2)) (hst2 : (callOf cs e.call).kind = 1 → e'.steps ≤ mxS n) (hg : isGive cs e → subI (argA cs e) (P.obj.own t)) : LatE n g (N + 1) cs P'.obj P'.evs h e' := by
  obtain ⟨c1, c2⟩ := hcall
  obtain ⟨o1, o2, o3, o4⟩ := hs.over hp
  obtain ⟨e0, b1, b2, b3, b4⟩ := I.wf.hand t m h hm
  rw [he] at b1
  cases b1
  have hte : thrE cs e' = t := by unfold thrE; rw [c1]; exact b3
  have hown : subI (P.obj.own t) e'.ans.val := by
    intro i hi
    rw [ha, bit_un]
    rw [I.own t] at hi
    refine ⟨_, ?_, hi⟩
    rw [o3]
    unfold Gh.view
    refine List.mem_map.2 ⟨t, List.mem_range.2 ht, ?_⟩
    rw [o4, I.gok.fut (N + 1) t (by omega), I.cnt t]
  refine ⟨⟨hst, fun hk => hst2 (by rw [← c1]; exact hk)⟩, fun hgv _ _ => ?_, fun _ _ _ => ⟨⟨s.moment, by rw [c2]; omega, by rw [hr]; exact o2, o2, by rw [ha, o3]⟩, fun k y hk hy hty => ?_⟩⟩
  · rw [hobj, hte, Int.toNat_natCast]
    have h1 : argA cs e' = argA cs e := by unfold argA; rw [c1]
    rw [h1]
    exact hg (by unfold isGive at *; rw [← c1]; exact hgv)
  · rcases hev k y hy with ⟨k1, k2⟩ | ⟨_, rfl⟩
    · have hyr : y.resp ≠ 0 := by
        intro h0
        obtain ⟨m2, hm2⟩ := I.wf.opn k y k2 h0
        have : (callOf cs y.call).thread = t := by have h1 : thrE cs y = thrE cs e' := hty; rw [hte] at h1; exact h1
        rw [this, Int.toNat_natCast, hm] at hm2
        cases hm2
        exact k1 rfl
      refine ⟨hyr, fun h1 h2 => ?_⟩
      have := (I.evs k y k2).2.1 h1 hyr h2
      rw [hty, hte, Int.toNat_natCast] at this
      exact this.trans hown
    · refine ⟨by rw [hr]; omega, fun h1 _ => ?_⟩
      have h2 : argA cs y = argA cs e := by unfold argA; rw [c1]
      rw [h2]
      exact (hg (by unfold isGive at *; rw [← c1]; exact h1)).trans hown
theorem LIv.step (hn : 1 ≤ n) (I : LIv n p cs P g N) (hN : 0 ≤ N) (hw : P.lw.now = N + 1) {m : LM} (hm : P.hands t = some (m, h)) : ∃ g', LIv n p cs (P.step latG t i m h) g' (N + 1) := by
  obtain ⟨ht, e, he, hM⟩ := I.mach t m h hm
  obtain ⟨e0, b1, b2, b3, b4⟩ := I.wf.hand t m h hm
  rw [he] at b1
  cases b1
  have hwf := I.wf.step (i := i) latG_still hm (by omega)
  have hso := step_obj latG P t i m h
  have hsl := step_lw latG P t i m h
  have hei := (I.wf.call h e he).2.2.2.1
  obtain ⟨on1, on2⟩ := I.on
  have hA : P.after latG t m = latStep P.obj P.lw m := rfl
  rw [hA] at hso hsl
  cases m with
  | no x =>
    obtain ⟨x0, x1⟩ := hM
    obtain ⟨q1, q2, key, q3⟩ := step_done (G := latG) (P := P) (t := t) (m := .no x) (i := i) (h := h) rfl
    refine ⟨g, I.same hm he hwf hso ?_ ?_ (fun s hs => by rw [q1, upd_other hs]) (mod_facts q3 he) ⟨rfl, rfl⟩ (fun ⟨_, _, _, h⟩ => by cases h) (fun m' k hh => by rw [q1, upd_same] at hh; cases hh) ?_⟩
    · rw [hsl]
      exact I.mem.next I.gok rfl rfl (fun _ _ => rfl) (fun _ _ _ _ _ _ _ => rfl)
    · intro s j _ _ _ _
      rw [hsl]
      rfl
    · refine ⟨⟨by show e.steps + 1 ≤ _; rw [x1]; omega, fun _ => by show e.steps + 1 ≤ _; rw [x1]; unfold mxS; omega⟩, fun _ _ hz => absurd hz x0, fun _ _ hz => absurd hz x0⟩
  | full =>
    obtain ⟨x0, x1⟩ := hM
    obtain ⟨q1, q2, key, q3⟩ := step_done (G := latG) (P := P) (t := t) (m := .full) (i := i) (h := h) rfl
    refine ⟨g, I.same hm he hwf hso ?_ ?_ (fun s hs => by rw [q1, upd_other hs]) (mod_facts q3 he) ⟨rfl, rfl⟩ (fun ⟨_, _, _, h⟩ => by cases h) (fun m' k hh => by rw [q1, upd_same] at hh; cases hh) ?_⟩
    · rw [hsl]
      exact I.mem.next I.gok rfl rfl (fun _ _ => rfl) (fun _ _ _ _ _ _ _ => rfl)
    · intro s j _ _ _ _
      rw [hsl]
      rfl
    · refine ⟨⟨by show e.steps + 1 ≤ _; rw [x1]; omega, fun _ => by show e.steps + 1 ≤ _; rw [x1]; unfold mxS; omega⟩, fun _ _ hz => absurd (show (6 : Int) = 0 from hz) (by decide), fun _ _ hz => absurd (show (6 : Int) = 0 from hz) (by decide)⟩
  | tell s all =>
    obtain ⟨x0, rfl, x2, ⟨b, x3, x4⟩, x5⟩ := hM
    obtain ⟨y1, y2, y3, y4⟩ := x4.step hn ht I.gok I.mem hw x2
    obtain ⟨w1, w2, w3, w4⟩ := sc_step_w n P.lw s
    have hbd := y1.bound ht
    have hs2 : e.steps + 1 ≤ (scS n (s.step n P.lw).1 : Int) := by unfold scS at *; omega
    by_cases hp : (s.step n P.lw).1.pc = 3
    · have hst : latStep P.obj P.lw (.tell s 0) = (P.obj, (s.step n P.lw).2, .tell (s.step n P.lw).1 (unI (s.step n P.lw).1.list), true) := by
        unfold latStep
        dsimp only
        rw [on1, if_pos hp]
        rfl
      rw [hst] at hso hsl
      obtain ⟨m1, m2⟩ := I.unread y4 (w' := (s.step n P.lw).2) y3 w2
      obtain ⟨q1, q2, key, q3⟩ := step_done (G := latG) (P := P) (t := t) (m := .tell s 0) (i := i) (h := h) (by rw [hA, hst])
      rw [hA, hst] at q3
      have hmf := mod_facts q3 he
      refine ⟨g, I.same hm he hwf hso (by rw [hsl]; exact m1) (fun s j _ _ _ _ => by rw [hsl]; exact m2 s j) (fun s hs => by rw [q1, upd_other hs]) hmf ⟨rfl, rfl⟩ (fun ⟨_, _, _, h⟩ => by cases h) (fun m' k hh => by rw [q1, upd_same] at hh; cases hh) ?_⟩
      exact I.told hN ht hm he x3 y1 hp hso hmf.1 ⟨rfl, rfl⟩ (by show (s.step n P.lw).2.now = _; rw [w1, hw]) rfl (by show e.steps + 1 ≤ _; omega) (fun _ => by show e.steps + 1 ≤ _; omega) (fun hg => by have := hg.2; have := x0.2; omega)
    · have hst : latStep P.obj P.lw (.tell s 0) = (P.obj, (s.step n P.lw).2, .tell (s.step n P.lw).1 0, false) := by
        unfold latStep
        dsimp only
        rw [on1, if_neg hp]
      rw [hst] at hso hsl
      obtain ⟨m1, m2⟩ := I.unread y4 (w' := (s.step n P.lw).2) y3 w2
      obtain ⟨q1, q2, q3⟩ := step_more (G := latG) (P := P) (t := t) (m := .tell s 0) (i := i) (h := h) (by rw [hA, hst])
      rw [hA, hst] at q1
      refine ⟨g, I.same hm he hwf hso (by rw [hsl]; exact m1) (fun s j _ _ _ _ => by rw [hsl]; exact m2 s j) (fun s hs => by rw [q1, upd_other hs]) (mod_facts q3 he) ⟨rfl, rfl⟩ (fun ⟨_, _, _, h⟩ => by cases h) (fun m' k hh => ?_) (LatE.more b2 (by omega) (fun _ => by omega))⟩
      rw [q1, upd_same] at hh
      cases hh
      exact ⟨rfl, ht, x0, rfl, hp, ⟨b, x3, y1⟩, hs2⟩
  | gtl t' v s all =>
    obtain ⟨rfl, x0, rfl, x2, xo, xa, ⟨b, x3, x4⟩, x5⟩ := hM
    obtain ⟨y1, y2, y3, y4⟩ := x4.step hn ht I.gok I.mem hw x2
    obtain ⟨w1, w2, w3, w4⟩ := sc_step_w n P.lw s
    have hbd := y1.bound ht
    have hs2 : e.steps + 1 ≤ (mxS n : Int) + (n + 2) + (scS n (s.step n P.lw).1 : Int) := by unfold scS at *; omega
    by_cases hp : (s.step n P.lw).1.pc = 3
    · have hst : latStep P.obj P.lw (.gtl t' v s 0) = (P.obj, (s.step n P.lw).2, .gtl t' v (s.step n P.lw).1 (unI (s.step n P.lw).1.list), true) := by
        unfold latStep
        dsimp only
        rw [on1, if_pos hp]
        rfl
      rw [hst] at hso hsl
      obtain ⟨m1, m2⟩ := I.unread y4 (w' := (s.step n P.lw).2) y3 w2
      obtain ⟨q1, q2, key, q3⟩ := step_done (G := latG) (P := P) (t := t') (m := .gtl t' v s 0) (i := i) (h := h) (by rw [hA, hst])
      rw [hA, hst] at q3
      have hmf := mod_facts q3 he
      refine ⟨g, I.same hm he hwf hso (by rw [hsl]; exact m1) (fun s j _ _ _ _ => by rw [hsl]; exact m2 s j) (fun s hs => by rw [q1, upd_other hs]) hmf ⟨rfl, rfl⟩ (fun _ => ⟨hmf.2.2, x0, Or.inl ⟨?_, rfl⟩⟩) (fun m' k hh => by rw [q1, upd_same] at hh; cases hh) ?_⟩
      · show (s.step n P.lw).2.now ≠ 0
        rw [w1, hw]
        omega
      · exact I.told hN ht hm he x3 y1 hp hso hmf.1 ⟨rfl, rfl⟩ (by show (s.step n P.lw).2.now = _; rw [w1, hw]) rfl (by show e.steps + 1 ≤ _; omega) (fun hk => by have := x0.2; omega) (fun _ => by rw [xo]; exact xa)
    · have hst : latStep P.obj P.lw (.gtl t' v s 0) = (P.obj, (s.step n P.lw).2, .gtl t' v (s.step n P.lw).1 0, false) := by
        unfold latStep
        dsimp only
        rw [on1, if_neg hp]
      rw [hst] at hso hsl
      obtain ⟨m1, m2⟩ := I.unread y4 (w' := (s.step n P.lw).2) y3 w2
      obtain ⟨q1, q2, q3⟩ := step_more (G := latG) (P := P) (t := t') (m := .gtl t' v s 0) (i := i) (h := h) (by rw [hA, hst])
      rw [hA, hst] at q1
      have hmf := mod_facts q3 he
      refine ⟨g, I.same hm he hwf hso (by rw [hsl]; exact m1) (fun s j _ _ _ _ => by rw [hsl]; exact m2 s j) (fun s hs => by rw [q1, upd_other hs]) hmf ⟨rfl, rfl⟩ (fun _ => ⟨hmf.2.2, x0, Or.inr ⟨t', v, _, _, by rw [q1, upd_same]⟩⟩) (fun m' k hh => ?_) (LatE.more b2 (by omega) (fun hk => by have := x0.2; omega))⟩
      rw [q1, upd_same] at hh
      cases hh
      exact ⟨rfl, ht, rfl, x0, rfl, hp, by rw [hso]; exact xo, xa, ⟨b, x3, y1⟩, hs2⟩
  | upd t' v r s sc next =>
    obtain ⟨rfl, x0, x1, x2, rfl, ⟨b, x3, x4⟩, x5, x6, x7, x8⟩ := hM
    have hbd := x4.bound ht
    have hcn := I.cnt t'
    rcases x5 with ⟨rfl, hp, rfl⟩ | ⟨rfl, hp, hnx⟩
    · obtain ⟨y1, y2, y3, y4⟩ := x4.step hn ht I.gok I.mem hw hp
      obtain ⟨w1, w2, w3, w4⟩ := sc_step_w n P.lw s
      have hbd2 := y1.bound ht
      have hs2 : e.steps + 1 ≤ (scS n (s.step n P.lw).1 : Int) := by unfold scS at *; omega
      have hst : latStep P.obj P.lw (.upd t' v (recA n p t' (P.obj.used t')) s false 0) = (P.obj, (s.step n P.lw).2, .upd t' v (recA n p t' (P.obj.used t')) (s.step n P.lw).1 (decide ((s.step n P.lw).1.pc = 3)) 0, false) := by
        unfold latStep
        dsimp only
        rw [on1]
      rw [hst] at hso hsl
      obtain ⟨m1, m2⟩ := I.unread y4 (w' := (s.step n P.lw).2) y3 w2
      obtain ⟨q1, q2, q3⟩ := step_more (G := latG) (P := P) (t := t') (m := .upd t' v (recA n p t' (P.obj.used t')) s false 0) (i := i) (h := h) (by rw [hA, hst])
      rw [hA, hst] at q1
      refine ⟨g, I.same hm he hwf hso (by rw [hsl]; exact m1) (fun s j _ _ _ _ => by rw [hsl]; exact m2 s j) (fun s hs => by rw [q1, upd_other hs]) (mod_facts q3 he) ⟨rfl, rfl⟩ (fun ⟨_, _, _, h⟩ => by cases h) (fun m' k hh => ?_) (LatE.more b2 (by omega) (fun hk => by have := x0.2; omega))⟩
      rw [q1, upd_same] at hh
      cases hh
      refine ⟨rfl, ht, rfl, x0, by rw [hso]; exact x1, by rw [hso]; exact x2, by rw [hso], ⟨b, x3, y1⟩, ?_, fun h => absurd h (by omega), fun j hj => absurd hj (by omega), by show e.steps + 1 ≤ _; omega⟩
      by_cases h3 : (s.step n P.lw).1.pc = 3
      · exact Or.inr ⟨decide_eq_true h3, h3, Nat.zero_le _⟩
      · exact Or.inl ⟨decide_eq_false h3, h3, rfl⟩
    · obtain ⟨o1, o2, o3, o4⟩ := x4.over hp
      have hri := recA_in (n := n) (p := p) (t := t') (r := P.obj.used t') ht x2
      have hge := recA_ge n p t' (P.obj.used t')
      have hln := I.mem.len
      have hsx : s.list.length = n := by rw [o3, view_len]
      by_cases h2 : next ≤ n
      · -- a word of the record is written
        obtain ⟨val, hval⟩ : ∃ val, (if next = 0 then v else (s.list[next - 1]?).getD 0) = val := ⟨_, rfl⟩
        have hst : latStep P.obj P.lw (.upd t' v (recA n p t' (P.obj.used t')) s true next) = (P.obj, { P.lw with mem := P.lw.mem.acc 1 ((recA n p t' (P.obj.used t') : Nat) + (next : Int)) val 0 }, .upd t' v (recA n p t' (P.obj.used t')) s true (next + 1), false) := by
          unfold latStep
          dsimp only
          rw [on1]
          by_cases h0 : next = 0
          · subst h0
            rw [if_pos rfl] at hval
            subst hval
            simp
          · rw [if_neg h0] at hval
            rw [if_neg h0, if_pos h2, hval]
        rw [hst] at hso hsl
        have hin : P.lw.mem.in ((recA n p t' (P.obj.used t') : Nat) + (next : Int)) := ⟨by omega, by rw [hln]; omega⟩
        have hat : ∀ b : Int, 0 ≤ b → b ≠ (recA n p t' (P.obj.used t') : Nat) + (next : Int) → (P.lw.mem.acc 1 ((recA n p t' (P.obj.used t') : Nat) + (next : Int)) val 0).at b = P.lw.mem.at b := fun b hb hne => by rw [mm_at hin hb, if_neg hne]
        have hat2 : (P.lw.mem.acc 1 ((recA n p t' (P.obj.used t') : Nat) + (next : Int)) val 0).at ((recA n p t' (P.obj.used t') : Nat) + (next : Int)) = val := by rw [mm_at hin hin.1, if_pos rfl]; rfl
        obtain ⟨q1, q2, q3⟩ := step_more (G := latG) (P := P) (t := t') (m := .upd t' v (recA n p t' (P.obj.used t')) s true next) (i := i) (h := h) (by rw [hA, hst])
        rw [hA, hst] at q1
        refine ⟨g, I.same hm he hwf hso ?_ ?_ (fun s hs => by rw [q1, upd_other hs]) (mod_facts q3 he) ⟨rfl, rfl⟩ (fun ⟨_, _, _, h⟩ => by cases h) (fun m' k hh => ?_) (LatE.more b2 (by omega) (fun hk => by have := x0.2; omega))⟩
        · rw [hsl]
          refine I.mem.next I.gok (mm_len _ _ _ _ _) rfl (fun a ha => hat _ (by omega) (by omega)) (fun a k j ha hk1 hk2 hj => hat _ (by omega) (fun hc => ?_))
          have hle := I.mem.le a
          have := rec_ne (n := n) (p := p) (t := a) (r := k - 1) (t' := t') (r' := P.obj.used t') (j := j) (j' := next) (by omega) x2 hj h2 (by omega)
          obtain ⟨rfl, hh⟩ := this
          omega
        · intro a j ha1 ha2 ha3 hj
          rw [hsl]
          refine hat _ (by omega) (fun hc => ?_)
          have := rec_ne (n := n) (p := p) (t := a) (r := P.obj.used a) (t' := t') (r' := P.obj.used t') (j := j) (j' := next) ha3 x2 hj h2 (by omega)
          exact ha1 this.1
        · rw [q1, upd_same] at hh
          cases hh
          rw [hso, hsl]
          refine ⟨rfl, ht, rfl, x0, x1, x2, rfl, ⟨b, x3, x4.ext I.gok (Ext.refl I.gok) (fun _ => rfl)⟩, Or.inr ⟨rfl, hp, by omega⟩, fun _ => ?_, fun j hj => ?_, by show e.steps + 1 ≤ _; omega⟩
          · by_cases h0 : next = 0
            · subst h0
              rw [if_pos rfl] at hval
              subst hval
              simpa using hat2
            · show (P.lw.mem.acc _ _ _ _).at _ = _
              rw [hat _ (by omega) (by omega)]
              exact x6 (by omega)
          · show (P.lw.mem.acc _ _ _ _).at _ = _
            by_cases h0 : j + 1 = next
            · rw [if_neg (by omega)] at hval
              rw [Int.add_assoc, show (1 : Int) + (j : Int) = (next : Int) by omega, hat2, ← hval, show next - 1 = j by omega]
            · rw [hat _ (by omega) (by omega)]
              exact x7 j (by omega)
      · -- the record is put
        have hst : latStep P.obj P.lw (.upd t' v (recA n p t' (P.obj.used t')) s true next) = ({ P.obj with used := upd P.obj.used t' (P.obj.used t' + 1), own := upd P.obj.own t' v }, { P.lw with mem := P.lw.mem.acc 1 t' (recA n p t' (P.obj.used t') : Nat) 0, traces := fun a => if a = (recA n p t' (P.obj.used t') : Nat) then [s.moment] else P.lw.traces a }, .gtl t' v Sc.new 0, false) := by
          unfold latStep
          dsimp only
          rw [if_neg (by omega), if_neg (by rw [on1]; exact h2)]
        obtain ⟨q1, q2, q3⟩ := step_more (G := latG) (P := P) (t := t') (m := .upd t' v (recA n p t' (P.obj.used t')) s true next) (i := i) (h := h) (by rw [hA, hst])
        rw [hA, hst] at q1
        rw [hst] at hso hsl
        have hmf := mod_facts q3 he
        generalize hP' : P.step latG t' i (.upd t' v (recA n p t' (P.obj.used t')) s true next) h = P' at *
        obtain ⟨u, hu⟩ : ∃ u, P.obj.used t' = u := ⟨_, rfl⟩
        have HU := hide hu
        have hcu := (I.cnt t').trans hu
        rw [hu] at x2 x6 x7 hri hge hsl hso
        have hnx2 : next = n + 1 := by omega
        have hsub : subI (P.obj.own t') v := by rw [x1]; exact subI_orL _ _
        have hasb : subI (argA cs e) v := by rw [x1]; exact subI_orR _ _
        have hH0 : ∀ τ a, ¬ (a = t' ∧ N + 1 ≤ τ) → (if a = t' ∧ N + 1 ≤ τ then u + 1 else g.H τ a) = g.H τ a := fun τ a h => if_neg h
        obtain ⟨g', hg'⟩ : ∃ g' : Gh, g' = ⟨fun τ a => if a = t' ∧ N + 1 ≤ τ then u + 1 else g.H τ a, fun a k => if a = t' ∧ k = u + 1 then v else g.v a k, fun a k => if a = t' ∧ k = u + 1 then s.moment else g.tm a k⟩ := ⟨_, rfl⟩
        have eH0 : ∀ τ a, ¬ (a = t' ∧ N + 1 ≤ τ) → g'.H τ a = g.H τ a := fun τ a h => by rw [hg']; exact if_neg h
        have eH1 : ∀ τ, N + 1 ≤ τ → g'.H τ t' = u + 1 := fun τ h => by rw [hg']; exact if_pos ⟨rfl, h⟩
        have ev0 : ∀ a k, ¬ (a = t' ∧ k = u + 1) → g'.v a k = g.v a k := fun a k h => by rw [hg']; exact if_neg h
        have ev1 : g'.v t' (u + 1) = v := by rw [hg']; exact if_pos ⟨rfl, rfl⟩
        have et0 : ∀ a k, ¬ (a = t' ∧ k = u + 1) → g'.tm a k = g.tm a k := fun a k h => by rw [hg']; exact if_neg h
        have et1 : g'.tm t' (u + 1) = s.moment := by rw [hg']; exact if_pos ⟨rfl, rfl⟩
        clear hg' hH0
        have hle0 : ∀ a k, k ≤ g.H N a → ¬ (a = t' ∧ k = u + 1) := fun a k h1 h2 => by obtain ⟨rfl, h2⟩ := h2; omega
        have hE1 : ∀ a, g'.H (N + 1) a = if a = t' then u + 1 else g.H N a := fun a => by
          by_cases h : a = t'
          · rw [if_pos h, h]; exact eH1 _ (Int.le_refl _)
          · rw [if_neg h, eH0 _ _ (fun h' => h h'.1), I.gok.fut (N + 1) a (by omega)]
        have E : Ext g g' N := ⟨fun τ a h => eH0 τ a (fun h' => by have := h'.2; omega), fun a k h => ev0 a k (hle0 a k h), fun a k h => et0 a k (hle0 a k h), fun a => by rw [hE1]; split <;> (try subst a) <;> omega⟩
        have hgk : GOk g' (N + 1) := by
          refine ⟨fun τ τ' a h => ?_, fun τ a h => ?_⟩
          · by_cases h1 : a = t' ∧ N + 1 ≤ τ'
            · obtain ⟨rfl, h1⟩ := h1
              rw [eH1 τ' h1]
              by_cases h2 : N + 1 ≤ τ
              · rw [eH1 τ h2]; exact Nat.le_refl _
              · rw [eH0 τ a (fun h' => h2 h'.2)]
                have := I.gok.mono τ N a (by omega)
                omega
            · rw [eH0 τ' a h1, eH0 τ a (fun h' => h1 ⟨h'.1, by have := h'.2; omega⟩)]
              exact I.gok.mono τ τ' a h
          · by_cases h1 : a = t'
            · subst h1
              rw [eH1 τ h, eH1 _ (Int.le_refl _)]
            · rw [eH0 _ _ (fun h' => h1 h'.1), eH0 _ _ (fun h' => h1 h'.1), I.gok.fut τ a (by omega), I.gok.fut (N + 1) a (by omega)]
        have hin : P.lw.mem.in (t' : Int) := ⟨by omega, by rw [hln]; omega⟩
        have hat : ∀ b : Int, 0 ≤ b → b ≠ (t' : Int) → (P.lw.mem.acc 1 t' (recA n p t' u : Nat) 0).at b = P.lw.mem.at b := fun b hb hne => by rw [mm_at hin hb, if_neg hne]
        have hat2 : (P.lw.mem.acc 1 t' (recA n p t' u : Nat) 0).at (t' : Int) = (recA n p t' u : Nat) := by rw [mm_at hin hin.1, if_pos rfl]; rfl
        have hvv0 : ∀ a k, ¬ (a = t' ∧ k = u + 1) → g'.vv a k = g.vv a k := fun a k h => by unfold Gh.vv; rw [ev0 a k h]
        have hvv1 : g'.vv t' (u + 1) = v := by unfold Gh.vv; rw [if_neg (by omega), ev1]
        have hview : ∀ m j, m ≤ N → g'.vv j (g'.H m j) = g.vv j (g.H m j) := fun m j hm => by rw [E.H m j hm, E.vv (I.gok.mono m N j hm)]
        have hlj : ∀ j, j < n → (s.list[j]?).getD 0 = g.vv j (g.H s.moment j) := fun j hj => by
          rw [o3]
          unfold Gh.view
          rw [List.getElem?_map, List.getElem?_range hj]
          rfl
        have hold : ∀ a k, k ≤ g'.H (N + 1) a → ¬ (a = t' ∧ k = u + 1) → k ≤ g.H N a := fun a k h1 h2 => by
          rw [hE1] at h1
          by_cases h : a = t'
          · subst h
            rw [if_pos rfl] at h1
            have : k ≠ u + 1 := fun h' => h2 ⟨rfl, h'⟩
            omega
          · rwa [if_neg h] at h1
        have hmem : MemOk n p g' (N + 1) P'.lw := by
          rw [hsl]
          refine ⟨by show (P.lw.mem.acc _ _ _ _).words.length = _; rw [mm_len]; exact hln, fun a ha => ?_, fun a => ?_, fun a k ha hk1 hk2 => ?_, fun a k ha hk1 hk2 j hj => ?_, fun a k ha hk1 hk2 => ?_, fun a k ha hk1 hk2 => ?_⟩
          · show (P.lw.mem.acc _ _ _ _).at _ = _
            rw [hE1]
            by_cases h : a = t'
            · subst h
              rw [if_pos rfl, hat2]
              unfold cellV
              rw [if_neg (by omega)]
              rfl
            · rw [if_neg h, hat _ (by omega) (by omega)]
              exact I.mem.cell a ha
          · rw [hE1]
            split
            · omega
            · exact I.mem.le a
          · show (P.lw.mem.acc _ _ _ _).at _ = _
            have := recA_ge n p a (k - 1)
            rw [hat _ (by omega) (by omega)]
            by_cases h : a = t' ∧ k = u + 1
            · obtain ⟨rfl, rfl⟩ := h
              rw [ev1]
              exact x6 (by omega)
            · rw [ev0 a k h]
              exact I.mem.val a k ha hk1 (hold a k hk2 h)
          · show (P.lw.mem.acc _ _ _ _).at _ = _
            have := recA_ge n p a (k - 1)
            rw [hat _ (by omega) (by omega)]
            by_cases h : a = t' ∧ k = u + 1
            · obtain ⟨rfl, rfl⟩ := h
              rw [et1, hview _ _ o2, ← hlj j hj]
              exact x7 j (by omega)
            · have h0 := hold a k hk2 h
              rw [et0 a k h, hview _ _ (I.mem.tmo a k ha hk1 h0).2]
              exact I.mem.view a k ha hk1 h0 j hj
          · show (if _ then _ else _) = _
            by_cases h : a = t' ∧ k = u + 1
            · obtain ⟨rfl, rfl⟩ := h
              rw [et1]
              exact if_pos rfl
            · have h0 := hold a k hk2 h
              have hle := I.mem.le a
              rw [et0 a k h, if_neg (fun hc => ?_)]
              · exact I.mem.trace a k ha hk1 h0
              · have := rec_ne (n := n) (p := p) (t := a) (r := k - 1) (t' := t') (r' := u) (j := 0) (j' := 0) (by omega) x2 (Nat.zero_le _) (Nat.zero_le _) (by omega)
                obtain ⟨rfl, hh⟩ := this
                exact h ⟨rfl, by omega⟩
          · by_cases h : a = t' ∧ k = u + 1
            · obtain ⟨rfl, rfl⟩ := h
              rw [et1, E.H _ _ o2, o4]
              exact ⟨by omega, by omega⟩
            · have h0 := hold a k hk2 h
              obtain ⟨r1, r2⟩ := I.mem.tmo a k ha hk1 h0
              rw [et0 a k h, E.H _ _ r2]
              exact ⟨r1, by omega⟩
        have F : Fr n p cs P P' g g' N t' h { e with steps := e.steps + 1 } := by
          refine ⟨fun a ha => by rw [hso]; exact upd_other ha, fun a ha => by rw [hso]; exact upd_other ha, fun a => ?_, E, fun τ a ha => eH0 τ a (fun h => ha h.1), fun a ha => by rw [q1, upd_other ha], hmf.1, hmf.2.1, hmf.2.2, fun x hx => ?_, fun a j ha1 ha2 ha3 hj => ?_⟩
          · rw [hso]
            show subI _ (upd P.obj.own t' v a)
            by_cases h : a = t'
            · subst h
              rw [upd_same]; exact hsub
            · rw [upd_other h]; exact subI.refl _
          · rw [he] at hx
            cases hx
            exact ⟨rfl, rfl⟩
          · rw [hsl]
            have := recA_ge n p a (P.obj.used a)
            exact hat _ (by omega) (by omega)
        have hgw : GiveW cs P' h { e with steps := e.steps + 1 } := ⟨hmf.2.2, x0, Or.inr ⟨t', v, Sc.new, 0, by rw [q1, upd_same]⟩⟩
        refine ⟨g', I.frame hm he F hwf ?_ hgk (fun a => ?_) hmem (fun a k k' h1 h2 => ?_) (fun a => ?_) (fun a τ k j hk1 hk2 hb => ?_) (fun ⟨_, _, _, h⟩ => by cases h) (fun m' k hh => ?_) (LatE.more b2 (by omega) (fun hk => by have := x0.2; omega))⟩
        · rw [hso]
          exact ⟨on1, on2⟩
        · rw [hE1, hso]
          show _ = upd P.obj.used t' (u + 1) a
          by_cases h : a = t'
          · rw [if_pos h, h, upd_same]
          · rw [if_neg h, upd_other h]
            exact I.cnt a
        · rw [hso] at h2
          have h2 : k' ≤ upd P.obj.used t' (u + 1) a := h2
          by_cases h : a = t'
          · subst h
            rw [upd_same] at h2
            by_cases h3 : k' = u + 1
            · subst h3
              rw [hvv1]
              by_cases h4 : k = u + 1
              · subst h4
                rw [hvv1]; exact subI.refl _
              · rw [hvv0 a k (fun h' => h4 h'.2)]
                refine (I.vm a k u (by omega) (by omega)).trans ?_
                rw [← HU.out, ← I.own a]
                exact hsub
            · rw [hvv0 a k' (fun h' => h3 h'.2), hvv0 a k (fun h' => by have := h'.2; omega)]
              exact I.vm a k k' h1 (by omega)
          · rw [upd_other h] at h2
            rw [hvv0 a k' (fun h' => h h'.1), hvv0 a k (fun h' => h h'.1)]
            exact I.vm a k k' h1 h2
        · rw [hso]
          show upd P.obj.own t' v a = g'.vv a (upd P.obj.used t' (u + 1) a)
          by_cases h : a = t'
          · subst h
            rw [upd_same, upd_same, hvv1]
          · rw [upd_other h, upd_other h, hvv0 a _ (fun h' => h h'.1)]
            exact I.own a
        · by_cases h : a = t' ∧ k = u + 1
          · obtain ⟨rfl, rfl⟩ := h
            rw [ev1] at hb
            have hτ : N + 1 ≤ τ := by
              refine Int.not_lt.1 fun hlt => ?_
              rw [eH0 τ a (fun h' => by have := h'.2; omega)] at hk2
              have := I.gok.mono τ N a (by omega)
              omega
            right
            rw [x1, bit_or, Bool.or_eq_true] at hb
            rcases hb with hb | hb
            · rw [I.own a, HU.out] at hb
              by_cases hu0 : u = 0
              · rw [hu0] at hb
                exfalso
                have : g.vv a 0 = 0 := rfl
                rw [this, bit_zero] at hb
                cases hb
              · have hv0 : g.vv a u = g.v a u := by unfold Gh.vv; rw [if_neg hu0]
                rw [hv0] at hb
                obtain ⟨j0, y, r1, r2, r3, r4⟩ := I.wit a N u j (by omega) (by omega) hb
                obtain ⟨y', z1, z2, z3⟩ := I.witF hm he F (fun ⟨_, _, _, h⟩ => by cases h) j0 y r1
                exact ⟨j0, y', z1, by unfold thrE at *; rw [z2]; exact r2, by unfold argA at *; rw [z2]; exact r3, by rw [z3]; omega⟩
            · exact ⟨h, _, hgw, b3, hb, by show e.inv ≤ τ; omega⟩
          · rw [ev0 a k h] at hb
            refine Or.inl ⟨?_, hb⟩
            by_cases h2 : a = t' ∧ N + 1 ≤ τ
            · obtain ⟨rfl, h2⟩ := h2
              rw [eH1 τ h2] at hk2
              have : k ≠ u + 1 := fun h' => h ⟨rfl, h'⟩
              rw [I.gok.fut τ a (by omega)]
              omega
            · rwa [eH0 τ a h2] at hk2
        · rw [q1, upd_same] at hh
          cases hh
          rw [hso]
          exact ⟨rfl, ht, rfl, x0, rfl, by show (0 : Nat) ≠ 3; decide, upd_same _ _ _, hasb, ⟨N + 1, by show e.inv ≤ _; omega, ScOk.new hn (fun τ hτ => by rw [eH1 τ hτ, eH1 _ (Int.le_refl _)]) (by omega)⟩, by show e.steps + 1 ≤ (mxS n : Int) + (n + 2) + ((0 * n + 0 : Nat) : Int); omega⟩
end
end Go.Proofs.Ytlfingcmekifkaa
