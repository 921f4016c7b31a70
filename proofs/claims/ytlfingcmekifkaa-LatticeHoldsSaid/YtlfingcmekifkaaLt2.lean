/- A lattice's plays: what is so at each tick, and what a step of one thread leaves of it. -/
import Derived.Test.YtlfingcmekifkaaLt1
namespace Go.Proofs.Ytlfingcmekifkaa
open Go.RowKit

def isGive (cs : List Cl) (e : Ep) : Prop := (callOf cs e.call).obj = 0 ∧ (callOf cs e.call).kind = 0
def isTell (cs : List Cl) (e : Ep) : Prop := (callOf cs e.call).obj = 0 ∧ (callOf cs e.call).kind = 1
def argA (cs : List Cl) (e : Ep) : Int := (callOf cs e.call).a
def thrE (cs : List Cl) (e : Ep) : Int := (callOf cs e.call).thread
/-- A scan's steps at most. -/
def mxS (n : Nat) : Nat := (n + 1) * n + n
def scS (n : Nat) (s : Sc) : Nat := s.rounds * n + s.at_
def LatM (n p : Nat) (g : Gh) (N : Int) (cs : List Cl) (o : Lat) (w : Lw) (t : Nat) (e : Ep) : LM → Prop
  | .no x => x ≠ 0 ∧ e.steps = 0
  | .full => isGive cs e ∧ e.steps = 0
  | .tell s all => isTell cs e ∧ all = 0 ∧ s.pc ≠ 3 ∧ (∃ b, e.inv ≤ b ∧ ScOk n p g t b N s) ∧ e.steps ≤ scS n s
  | .upd t' v r s sc next => t' = t ∧ isGive cs e ∧ v = orI (o.own t) (argA cs e) ∧ o.used t < p ∧ r = recA n p t (o.used t) ∧ (∃ b, e.inv ≤ b ∧ ScOk n p g t b N s) ∧ ((sc = false ∧ s.pc ≠ 3 ∧ next = 0) ∨ (sc = true ∧ s.pc = 3 ∧ next ≤ n + 1)) ∧
      (1 ≤ next → w.mem.at (r : Int) = v) ∧ (∀ j, j + 1 < next → w.mem.at ((r : Int) + 1 + j) = (s.list[j]?).getD 0) ∧ e.steps ≤ scS n s + next
  | .gtl t' v s all => t' = t ∧ isGive cs e ∧ all = 0 ∧ s.pc ≠ 3 ∧ o.own t = v ∧ subI (argA cs e) v ∧ (∃ b, e.inv ≤ b ∧ ScOk n p g t b N s) ∧ e.steps ≤ mxS n + (n + 2) + scS n s
def LatE (n : Nat) (g : Gh) (N : Int) (cs : List Cl) (o : Lat) (evs : List Ep) (h : Nat) (e : Ep) : Prop :=
  (e.steps ≤ 2 * mxS n + (n + 2) ∧ ((callOf cs e.call).kind = 1 → e.steps ≤ mxS n)) ∧ (isGive cs e → e.resp ≠ 0 → e.ans.err = 0 → subI (argA cs e) (o.own (thrE cs e).toNat)) ∧
  ((isGive cs e ∨ isTell cs e) → e.resp ≠ 0 → e.ans.err = 0 → (∃ τ, e.inv ≤ τ ∧ τ ≤ e.resp ∧ τ ≤ N ∧ e.ans.val = unI (g.view τ n)) ∧
    ∀ (k : Nat) (y : Ep), k ≤ h → evs[k]? = some y → thrE cs y = thrE cs e → y.resp ≠ 0 ∧ (isGive cs y → y.ans.err = 0 → subI (argA cs y) e.ans.val))
/-- A give that is, or will be, done. -/
def GiveW (cs : List Cl) (P : Ps LM Lat) (k : Nat) (y : Ep) : Prop := P.evs[k]? = some y ∧ isGive cs y ∧ ((y.resp ≠ 0 ∧ y.ans.err = 0) ∨ ∃ t v s all, P.hands t = some (.gtl t v s all, k))
structure LIv (n p : Nat) (cs : List Cl) (P : Ps LM Lat) (g : Gh) (N : Int) : Prop where
  wf : PWf cs P
  on : P.obj.n = n ∧ P.obj.p = p
  gok : GOk g N
  cnt : ∀ t, g.H N t = P.obj.used t
  mem : MemOk n p g N P.lw
  vm : ∀ t k k', k ≤ k' → k' ≤ P.obj.used t → subI (g.vv t k) (g.vv t k')
  own : ∀ t, P.obj.own t = g.vv t (P.obj.used t)
  wit : ∀ t τ k i, 1 ≤ k → k ≤ g.H τ t → bit (g.v t k) i = true → ∃ h y, GiveW cs P h y ∧ thrE cs y = t ∧ bit (argA cs y) i = true ∧ y.inv ≤ τ
  mach : ∀ t m h, P.hands t = some (m, h) → t < n ∧ ∃ e, P.evs[h]? = some e ∧ LatM n p g N cs P.obj P.lw t e m
  evs : ∀ (h : Nat) (e : Ep), P.evs[h]? = some e → LatE n g N cs P.obj P.evs h e

/-- The ghost goes on: what was is as it was. -/
structure Ext (g g' : Gh) (N : Int) : Prop where
  H : ∀ τ t, τ ≤ N → g'.H τ t = g.H τ t
  v : ∀ t k, k ≤ g.H N t → g'.v t k = g.v t k
  tm : ∀ t k, k ≤ g.H N t → g'.tm t k = g.tm t k
  le : ∀ t, g.H N t ≤ g'.H (N + 1) t
theorem Ext.refl {g : Gh} {N : Int} (hg : GOk g N) : Ext g g N := ⟨fun _ _ _ => rfl, fun _ _ _ => rfl, fun _ _ _ => rfl, fun t => hg.mono _ _ t (by omega)⟩
theorem GOk.next {g : Gh} {N : Int} (hg : GOk g N) : GOk g (N + 1) := ⟨hg.mono, fun τ t h => by rw [hg.fut τ t (by omega), hg.fut (N + 1) t (by omega)]⟩
theorem Ext.vv {g g' : Gh} {N : Int} (E : Ext g g' N) {t k : Nat} (h : k ≤ g.H N t) : g'.vv t k = g.vv t k := by
  unfold Gh.vv
  rw [E.v t k h]
theorem Ext.view {g g' : Gh} {N : Int} (hg : GOk g N) (E : Ext g g' N) {m : Int} (h : m ≤ N) (k : Nat) : g'.view m k = g.view m k := by
  unfold Gh.view
  refine List.map_congr_left fun j _ => ?_
  rw [E.H m j h, E.vv (hg.mono m N j h)]
theorem ScOk.ext {n p : Nat} {g g' : Gh} {t : Nat} {b N : Int} {s : Sc} (hg : GOk g N) (E : Ext g g' N) (ho : ∀ τ, g'.H τ t = g.H τ t) (h : ScOk n p g t b N s) : ScOk n p g' t b (N + 1) s := by
  obtain ⟨h1, h2, h3⟩ := h
  refine ⟨fun τ hb => ?_, by omega, ?_⟩
  · rw [ho τ, ho (N + 1), h1 τ hb, hg.fut (N + 1) t (by omega)]
  · rcases h3 with ⟨c1, c2, c3, c4, c5, c6⟩ | ⟨c1, c2, c3, c4, c5, c6, c7, c8, c9, c10⟩ | ⟨c1, c2, c3, c4, c5, c6, c7, c8⟩ | ⟨c1, c2, c3, c4, c5, c6, a, k, c7, c8, c9, c10, c11⟩ | ⟨c1, c2, c3, c4, c5, c6⟩
    · refine Or.inl ⟨c1, c2, c3, c4, c5, fun i hi => ?_⟩
      obtain ⟨τ, q1, q2, q3⟩ := c6 i hi
      exact ⟨τ, q1, by omega, by rw [E.H τ i q2]; exact q3⟩
    · refine Or.inr (Or.inl ⟨c1, c2, c3, c4, c5, c6, c7, by omega, fun i hi => ?_, fun i hi => ?_⟩)
      · obtain ⟨k, q1, ⟨τ, r1, r2, r3⟩, q3⟩ := c9 i hi
        refine ⟨k, q1, ⟨τ, r1, r2, by rw [E.H τ i (by omega)]; exact r3⟩, fun hd => ?_⟩
        obtain ⟨τ', u1, u2, u3⟩ := q3 hd
        exact ⟨τ', u1, by omega, by rw [E.H τ' i u2]; exact u3⟩
      · obtain ⟨τ, q1, q2, q3⟩ := c10 i hi
        exact ⟨τ, q1, by omega, by rw [E.H τ i q2]; exact q3⟩
    · exact Or.inr (Or.inr (Or.inl ⟨c1, c2, c3, c4, c5, by omega, by rw [E.view hg c6]; exact c7, fun i hi => by rw [E.H _ i c6]; exact c8 i hi⟩))
    · exact Or.inr (Or.inr (Or.inr (Or.inl ⟨c1, c2, c3, c4, by omega, by rw [E.view hg c5]; exact c6, a, k, c7, c8, by have := E.le a; omega, c10, by rw [E.tm a k c9]; exact c11⟩)))
    · exact Or.inr (Or.inr (Or.inr (Or.inr ⟨c1, c2, c3, c4, by omega, by rw [E.view hg c5]; exact c6⟩)))
/-- What a step of the thread t, at its event h, leaves of the others. -/
structure Fr (n p : Nat) (cs : List Cl) (P P' : Ps LM Lat) (g g' : Gh) (N : Int) (t h : Nat) (e' : Ep) : Prop where
  used : ∀ s, s ≠ t → P'.obj.used s = P.obj.used s
  own : ∀ s, s ≠ t → P'.obj.own s = P.obj.own s
  grow : ∀ s, subI (P.obj.own s) (P'.obj.own s)
  ext : Ext g g' N
  oth : ∀ τ s, s ≠ t → g'.H τ s = g.H τ s
  hands : ∀ s, s ≠ t → P'.hands s = P.hands s
  ev : ∀ (k : Nat) (x : Ep), P'.evs[k]? = some x → (k ≠ h ∧ P.evs[k]? = some x) ∨ (k = h ∧ x = e')
  evo : ∀ (k : Nat) (x : Ep), k ≠ h → P.evs[k]? = some x → P'.evs[k]? = some x
  evh : P'.evs[h]? = some e'
  call : ∀ e, P.evs[h]? = some e → e'.call = e.call ∧ e'.inv = e.inv
  rcd : ∀ s j, s ≠ t → s < n → P.obj.used s < p → j ≤ n → P'.lw.mem.at ((recA n p s (P.obj.used s) : Nat) + (j : Int)) = P.lw.mem.at ((recA n p s (P.obj.used s) : Nat) + (j : Int))
section
variable {n p : Nat} {cs : List Cl} {P P' : Ps LM Lat} {g g' : Gh} {N : Int} {t h : Nat} {e e' : Ep}
/-- An event's hand is its thread's. -/
theorem PWf.own {M O : Type} {Q : Ps M O} (W : PWf cs Q) {s s' h : Nat} {m m' : M} (h1 : Q.hands s = some (m, h)) (h2 : Q.hands s' = some (m', h)) : s = s' := by
  obtain ⟨e1, a1, _, a3, _⟩ := W.hand s m h h1
  obtain ⟨e2, b1, _, b3, _⟩ := W.hand s' m' h h2
  rw [a1] at b1
  cases b1
  omega
theorem LIv.machF (I : LIv n p cs P g N) {m : LM} (hm : P.hands t = some (m, h)) (F : Fr n p cs P P' g g' N t h e') : ∀ s m' k, s ≠ t → P'.hands s = some (m', k) → s < n ∧ ∃ e, P'.evs[k]? = some e ∧ LatM n p g' (N + 1) cs P'.obj P'.lw s e m' := by
  intro s m' k hs hh
  rw [F.hands s hs] at hh
  obtain ⟨h1, x, h2, h3⟩ := I.mach s m' k hh
  have hk : k ≠ h := fun e => hs (I.wf.own (e ▸ hh) hm)
  refine ⟨h1, x, F.evo k x hk h2, ?_⟩
  have sc : ∀ {b : Int} {q : Sc}, ScOk n p g s b N q → ScOk n p g' s b (N + 1) q := fun q => q.ext I.gok F.ext (fun τ => F.oth τ s hs)
  cases m' with
  | no x => exact h3
  | full => exact h3
  | tell q all =>
    obtain ⟨a1, a2, a3, ⟨b, a4, a5⟩, a6⟩ := h3
    exact ⟨a1, a2, a3, ⟨b, a4, sc a5⟩, a6⟩
  | upd t' v r q scd next =>
    obtain ⟨a1, a2, a3, a4, a5, ⟨b, a6, a7⟩, a8, a9, a10, a11⟩ := h3
    have hu := F.used s hs
    have hr0 := F.rcd s 0 hs h1 a4 (Nat.zero_le _)
    refine ⟨a1, a2, by rw [F.own s hs]; exact a3, by rw [hu]; exact a4, by rw [hu]; exact a5, ⟨b, a6, sc a7⟩, a8, fun hn => ?_, fun j hj => ?_, a11⟩
    · have := a9 hn
      rw [a5] at this ⊢
      rw [← this]
      simpa using hr0
    · have hn : next ≤ n + 1 := by rcases a8 with ⟨_, _, a8⟩ | ⟨_, _, a8⟩ <;> omega
      have h4 := a10 j hj
      have h5 := F.rcd s (j + 1) hs h1 a4 (by omega)
      rw [a5] at h4 ⊢
      rw [← h4, Int.add_assoc, show (1 : Int) + (j : Int) = ((j + 1 : Nat) : Int) by omega]
      exact h5
  | gtl t' v q all =>
    obtain ⟨a1, a2, a3, a4, a5, a6, ⟨b, a7, a8⟩, a9⟩ := h3
    exact ⟨a1, a2, a3, a4, by rw [F.own s hs]; exact a5, a6, ⟨b, a7, sc a8⟩, a9⟩
theorem LIv.evF (I : LIv n p cs P g N) {m : LM} (hm : P.hands t = some (m, h)) (F : Fr n p cs P P' g g' N t h e') : ∀ (k : Nat) (x : Ep), k ≠ h → P'.evs[k]? = some x → LatE n g' (N + 1) cs P'.obj P'.evs k x := by
  intro k x hk hx
  have hx0 : P.evs[k]? = some x := by
    rcases F.ev k x hx with ⟨_, q⟩ | ⟨q, _⟩
    · exact q
    · exact absurd q hk
  obtain ⟨h1, h2, h3⟩ := I.evs k x hx0
  refine ⟨h1, fun a b c => (h2 a b c).trans (F.grow _), fun a b c => ?_⟩
  obtain ⟨⟨τ, q1, q2, q3, q4⟩, q5⟩ := h3 a b c
  refine ⟨⟨τ, q1, q2, by omega, by rw [F.ext.view I.gok q3]; exact q4⟩, fun j y hj hy ht => ?_⟩
  rcases F.ev j y hy with ⟨_, hy0⟩ | ⟨rfl, rfl⟩
  · exact q5 j y hj hy0 ht
  · exfalso
    obtain ⟨e0, b1, b2, b3, _⟩ := I.wf.hand t m j hm
    have hc := (F.call e0 b1).1
    have hte : thrE cs y = thrE cs e0 := by unfold thrE; rw [hc]
    exact (q5 j e0 hj b1 (by rw [← hte]; exact ht)).1 b2
theorem LIv.witF (I : LIv n p cs P g N) {m : LM} (hm : P.hands t = some (m, h)) (he : P.evs[h]? = some e) (F : Fr n p cs P P' g g' N t h e') (hgt : (∃ v s all, m = .gtl t v s all) → GiveW cs P' h e') : ∀ (k : Nat) (y : Ep), GiveW cs P k y → ∃ y', GiveW cs P' k y' ∧ y'.call = y.call ∧ y'.inv = y.inv := by
  intro k y ⟨h1, h2, h3⟩
  by_cases hk : k = h
  · subst hk
    rw [he] at h1
    cases h1
    obtain ⟨c1, c2⟩ := F.call e he
    refine ⟨e', hgt ?_, c1, c2⟩
    obtain ⟨e0, b1, b2, _⟩ := I.wf.hand t m k hm
    rw [he] at b1
    cases b1
    rcases h3 with ⟨h3, _⟩ | ⟨t', v, s, all, h3⟩
    · exact absurd b2 h3
    · have := I.wf.own h3 hm
      subst this
      rw [hm] at h3
      cases h3
      exact ⟨v, s, all, rfl⟩
  · refine ⟨y, ⟨F.evo k y hk h1, h2, ?_⟩, rfl, rfl⟩
    rcases h3 with h3 | ⟨t', v, s, all, h3⟩
    · exact Or.inl h3
    · refine Or.inr ⟨t', v, s, all, ?_⟩
      rw [F.hands t' (fun e => hk ?_)]
      · exact h3
      · subst e
        rw [hm] at h3
        cases h3
        rfl
/-- The invariant behind a step, when the thread's own part is so. -/
theorem LIv.frame (I : LIv n p cs P g N) {m : LM} (hm : P.hands t = some (m, h)) (he : P.evs[h]? = some e) (F : Fr n p cs P P' g g' N t h e') (hwf : PWf cs P') (hon : P'.obj.n = n ∧ P'.obj.p = p) (hgk : GOk g' (N + 1)) (hcnt : ∀ s, g'.H (N + 1) s = P'.obj.used s) (hmem : MemOk n p g' (N + 1) P'.lw)
    (hvm : ∀ s k k', k ≤ k' → k' ≤ P'.obj.used s → subI (g'.vv s k) (g'.vv s k')) (hown : ∀ s, P'.obj.own s = g'.vv s (P'.obj.used s))
    (hwit : ∀ s τ k i, 1 ≤ k → k ≤ g'.H τ s → bit (g'.v s k) i = true → (k ≤ g.H τ s ∧ bit (g.v s k) i = true) ∨ ∃ h y, GiveW cs P' h y ∧ thrE cs y = s ∧ bit (argA cs y) i = true ∧ y.inv ≤ τ)
    (hgt : (∃ v s all, m = .gtl t v s all) → GiveW cs P' h e') (hM : ∀ m' k, P'.hands t = some (m', k) → k = h ∧ t < n ∧ LatM n p g' (N + 1) cs P'.obj P'.lw t e' m') (hE : LatE n g' (N + 1) cs P'.obj P'.evs h e') : LIv n p cs P' g' (N + 1) := by
  refine ⟨hwf, hon, hgk, hcnt, hmem, hvm, hown, fun s τ k i hk hk' hb => ?_, fun s m' k hs => ?_, fun k x hx => ?_⟩
  · rcases hwit s τ k i hk hk' hb with ⟨h1, h2⟩ | h1
    · obtain ⟨j, y, q1, q2, q3, q4⟩ := I.wit s τ k i hk h1 h2
      obtain ⟨y', r1, r2, r3⟩ := I.witF hm he F hgt j y q1
      exact ⟨j, y', r1, by unfold thrE at *; rw [r2]; exact q2, by unfold argA at *; rw [r2]; exact q3, by rw [r3]; exact q4⟩
    · exact h1
  · by_cases e : s = t
    · subst e
      obtain ⟨q1, q2, q3⟩ := hM m' k hs
      subst q1
      exact ⟨q2, e', F.evh, q3⟩
    · exact I.machF hm F s m' k e hs
  · by_cases e : k = h
    · subst e
      rcases F.ev k x hx with ⟨q, _⟩ | ⟨_, rfl⟩
      · exact absurd rfl q
      · exact hE
    · exact I.evF hm F k x e hx
end
end Go.Proofs.Ytlfingcmekifkaa
