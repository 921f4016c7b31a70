import Derived.Test.YtlfingcmekifkaaGreatRt21
import Derived.Test.YtlfingcmekifkaaGreatBun20
namespace Go.Proofs.YtlfingcmekifkaaGreat
open Go.RowKit
def LgJ (w0 : World) (Fx : Nat → Nat) (n m cb c : Nat) (O : Obj) (R : Rs) (w : World) : Prop := ∃ M g f X ev, LgAt w0 w Fx n m cb M g f X ev R ∧ ¬ M c ∧ w.heap[c]? = some O
def LgI (w0 : World) (Fx : Nat → Nat) (n m cb : Nat) (cs : List Cl) (R : Rs) (k : Nat) (w : World) : Prop := RInv cs 1 R k ∧ ∃ M g f X ev, LgAt w0 w Fx n m cb M g f X ev R
theorem obj_lt {w : World} {c : Nat} {O : Obj} (h : w.heap[c]? = some O) : c < w.heap.size := (Array.getElem?_eq_some_iff.1 h).1
theorem LgJ.grow {w0 w w' : World} {Fx : Nat → Nat} {n m cb c : Nat} {O : Obj} {R : Rs} (h : LgJ w0 Fx n m cb c O R w) (hn : 1 ≤ n) (hb : Below w.heap.size w w') : LgJ w0 Fx n m cb c O R w' := by
  obtain ⟨M, g, f, X, ev, h1, h2, h3⟩ := h
  exact ⟨M, g, f, X, ev, h1.grow hn hb, h2, (hb.block c (obj_lt h3)).trans h3⟩
theorem LgAt.cells {w0 w : World} {Fx : Nat → Nat} {n m cb : Nat} {M : Nat → Prop} {g f : Nat → Value} {X : Nat → Rv} {ev : Value} {R : Rs} (h : LgAt w0 w Fx n m cb M g f X ev R) : w.cell? ⟨Fx 4, 0, none⟩ = some ev ∧ w.cell? ⟨Fx 4, 8, none⟩ = some (.int .i64 R.idle) ∧ (∀ j, w.frozen? ⟨Fx 4, j, none⟩ = false) ∧ w.cell? ⟨Fx 1, 6, none⟩ = some (.int .i64 R.w.now) ∧ (∀ j, w.frozen? ⟨Fx 1, j, none⟩ = false) ∧ (∀ i, i < 6 + n → Fx i < w.heap.size) :=
  ⟨cell_of_row _ _ 0 _ _ _ h.rep, cell_of_row _ _ 8 _ _ _ h.rep, fun j => frozen_of_row _ _ j _ _ h.rep, by rw [h.hs.mem.row.cell (by omega), h.hs.now], fun j => h.hs.mem.row.frozen j, fun i hi => h.hs.lt _ (h.hs.fx i hi)⟩
theorem LgAt.finB {w0 w : World} {Fx : Nat → Nat} {n m cb : Nat} {M : Nat → Prop} {g f : Nat → Value} {X : Nat → Rv} {ev : Value} {R : Rs} (h : LgAt w0 w Fx n m cb M g f X ev R) (hm : R.fin.length = m) (hmx : m ≤ maxLen) : SlB w (.slice (some ⟨Fx 3, 0, none⟩) m m) R.fin := by
  obtain ⟨xs, x1, x2⟩ := h.fin
  have := Sl.of_block (enc := bEnc) (sz := 1) (xs := R.fin) (c := m) x1 (Nat.le_of_eq hm) hmx (fun k x hx j u hu => by
    rcases j with _ | j
    · simp [bEnc] at hu
      subst hu
      have h2 : xs.toList[k]? = some (.bool x) := by rw [x2, List.getElem?_map, hx]; rfl
      simpa using h2
    · simp [bEnc] at hu)
  rw [hm] at this
  exact this
theorem beginW_keep (w : World) (hb wp p mb mo th : Nat) (now ev : Int) : Keep (fun k => k ≠ hb ∧ k ≠ mb) w (beginW w hb wp p mb mo th now ev) := by
  unfold beginW
  exact (keep_setCells (by simp) _ _ (((Keep.refl (fun k => k ≠ hb ∧ k ≠ mb) w).setCell (p := ⟨hb, p, none⟩) (by simp) _).setCell (p := ⟨hb, p + 1, none⟩) (by simp) _)).setCell (by simp) _
section
variable {w0 w w' : World} {Fx : Nat → Nat} {n m cb t c : Nat} {O : Obj} {M : Nat → Prop} {g f : Nat → Value} {X : Nat → Rv} {ev : Value} {R : Rs}
theorem LgAt.ticked (hi : Inj Fx n) (h : LgAt w0 w Fx n m cb M g f X ev R) (hn : 1 ≤ n) : ∃ f', LgAt w0 (w.setCell ⟨Fx 1, 6, none⟩ (.int .i64 (R.w.now + 1))) Fx n m cb M g f' X ev R.tick := by
  have hne : ∀ i, i < 6 + n → i ≠ 1 → Fx i ≠ Fx 1 := fun i a c e => c (hi i 1 a (by omega) e)
  have hk : Keep (fun k => k ≠ Fx 1) w (w.setCell ⟨Fx 1, 6, none⟩ (.int .i64 (R.w.now + 1))) := (Keep.refl _ w).setCell (by simp) _
  exact ⟨_, h.side hk (fun k k1 e => by have := h.lo.1 1 (by omega); omega) (h.resN.2.1 1 (by omega)) (fun _ _ h => h) (fun _ h => h) ⟨hne 3 (by omega) (by omega), hne 4 (by omega) (by omega), hne 5 (by omega) (by omega)⟩ (fun k k1 => (h.evM k k1).2.1 1 (by omega)) (fun k _ k2 e => k2 (e ▸ h.hs.fx 1 (by omega))) (h.hs.tick hi hn (R.w.now + 1)) (fun s hs k k4 => Or.inl ⟨s, hs, k4⟩)⟩
theorem LgAt.begun (hi : Inj Fx n) (h : LgAt w0 w Fx n m cb M g f X ev R) (hc : ¬ M c) (hO : w.heap[c]? = some O) (hn : 1 ≤ n) (ht : t < n) (e : Nat) : LgJ w0 Fx n m cb c O { R with w := { R.w with marks := upd R.w.marks t [] }, hands := upd R.hands t { R.hands t with opn := true, event := e, tape := Tp.new R.w.now } } (beginW w (Fx 0) (Fx 1) (t * 16) (Fx 2) 0 t R.w.now (e : Int)) := by
  have hne : ∀ i j, i < 6 + n → j < 6 + n → i ≠ j → Fx i ≠ Fx j := fun i j a b c e => c (hi i j a b e)
  obtain ⟨g', X', h1, h2, h3⟩ := h.hs.begun hi hn ht e
  exact ⟨_, _, _, _, _, h.side h3 (fun k k1 => ⟨fun e => by have := h.lo.1 0 (by omega); omega, fun e => by have := h.lo.1 2 (by omega); omega⟩) ⟨h.resN.2.1 0 (by omega), h.resN.2.1 2 (by omega)⟩ (fun _ _ h => h) (fun _ h => h) ⟨⟨hne 3 0 (by omega) (by omega) (by omega), hne 3 2 (by omega) (by omega) (by omega)⟩, ⟨hne 4 0 (by omega) (by omega) (by omega), hne 4 2 (by omega) (by omega) (by omega)⟩, ⟨hne 5 0 (by omega) (by omega) (by omega), hne 5 2 (by omega) (by omega) (by omega)⟩⟩ (fun k k1 => ⟨(h.evM k k1).2.1 0 (by omega), (h.evM k k1).2.1 2 (by omega)⟩) (fun k _ k2 => ⟨fun e => k2 (e ▸ h.hs.fx 0 (by omega)), fun e => k2 (e ▸ h.hs.fx 2 (by omega))⟩) h1 (fun s hs k k4 => Or.inl ⟨s, hs, h2 s hs k k4⟩), hc, (h3.block c ⟨fun e => hc (e ▸ h.hs.fx 0 (by omega)), fun e => hc (e ▸ h.hs.fx 2 (by omega))⟩).trans hO⟩
theorem LgAt.ran (hi : Inj Fx n) (h : LgAt w0 w Fx n m cb M g f X ev R) (hc : ¬ M c) (hO : w.heap[c]? = some O) (ht : t < n) (ho : (R.hands t).opn = true) {T' : Tp} {W' : Rw} (hD : DoR w (Fx 0) (Fx 1) (t * 16 + 2) (n * 16) t g f (X t) M T' W' w') : LgJ w0 Fx n m cb c O { R with w := W', hands := upd R.hands t { R.hands t with tape := T' } } w' := by
  have hne : ∀ i j, i < 6 + n → j < 6 + n → i ≠ j → Fx i ≠ Fx j := fun i j a b c e => c (hi i j a b e)
  obtain ⟨M', g', f', X', h1, h2, h3, h4, h5, _⟩ := h.hs.ran hi ht hD ho
  have hx : ∀ i, i < 6 + n → i ≠ 0 → i ≠ 1 → Fx i < w.heap.size ∧ Fx i ≠ Fx 0 ∧ Fx i ≠ Fx 1 ∧ ¬ (X t).four (Fx i) := fun i i1 i2 i3 => ⟨h.hs.lt _ (h.hs.fx i i1), hne i 0 i1 (by omega) i2, hne i 1 i1 (by omega) i3, fun e => (h.hs.nf t ht _ e).1 i i1 rfl⟩
  refine ⟨_, _, _, _, _, h.side h5 (fun k k1 => ⟨Nat.lt_of_lt_of_le k1 h.kp.size, fun e => by have := h.lo.1 0 (by omega); omega, fun e => by have := h.lo.1 1 (by omega); omega, fun e => by have := h.lo.2 t ht k e; omega⟩) ⟨(Array.getElem?_eq_some_iff.1 h.res).1, h.resN.2.1 0 (by omega), h.resN.2.1 1 (by omega), h.resN.2.2.1 t ht⟩ h2 h3 ⟨hx 3 (by omega) (by omega) (by omega), hx 4 (by omega) (by omega) (by omega), hx 5 (by omega) (by omega) (by omega)⟩ (fun k k1 => ⟨h.hs.lt _ (h.evM k k1).1, (h.evM k k1).2.1 0 (by omega), (h.evM k k1).2.1 1 (by omega), (h.evM k k1).2.2 t ht⟩) (fun k k1 k2 => ⟨k1, fun e => k2 (e ▸ h.hs.fx 0 (by omega)), fun e => k2 (e ▸ h.hs.fx 1 (by omega)), fun e => k2 (h.hs.nf t ht k e).2⟩) h1 (fun s hs k k4 => ?_), fun e => hc (h2 c (obj_lt hO) e), (h5.block c ⟨obj_lt hO, fun e => hc (e ▸ h.hs.fx 0 (by omega)), fun e => hc (e ▸ h.hs.fx 1 (by omega)), fun e => hc (h.hs.nf t ht c e).2⟩).trans hO⟩
  rcases h4 s hs k k4 with e | e | e
  · exact Or.inl ⟨t, ht, e⟩
  · exact Or.inl ⟨s, hs, e⟩
  · exact Or.inr e
theorem LgAt.kept (hi : Inj Fx n) (h : LgAt w0 w Fx n m cb M g f X ev R) (hc : ¬ M c) (hO : w.heap[c]? = some O) (hn : 1 ≤ n) (ht : t < n) {v : Value} {l : List Int} (hv : LstIs w M v l) : LgJ w0 Fx n m cb c O { R with hands := upd R.hands t { R.hands t with own := upd (R.hands t).own 0 l } } (w.setCell ⟨Fx (6 + t), 0, none⟩ v) := by
  have hne : ∀ i, i < 6 + n → i ≠ 6 + t → Fx i ≠ Fx (6 + t) := fun i a c e => c (hi i _ a (by omega) e)
  have hk : Keep (fun k => k ≠ Fx (6 + t)) w (w.setCell ⟨Fx (6 + t), 0, none⟩ v) := (Keep.refl _ w).setCell (by simp) _
  exact ⟨_, _, _, _, _, h.side hk (fun k k1 e => by have := h.lo.1 (6 + t) (by omega); omega) (h.resN.2.1 (6 + t) (by omega)) (fun _ _ h => h) (fun _ h => h) ⟨hne 3 (by omega) (by omega), hne 4 (by omega) (by omega), hne 5 (by omega) (by omega)⟩ (fun k k1 => (h.evM k k1).2.1 (6 + t) (by omega)) (fun k _ k2 e => k2 (e ▸ h.hs.fx (6 + t) (by omega))) (h.hs.kept hi hn ht hv) (fun s hs k k4 => Or.inl ⟨s, hs, k4⟩), hc, (hk.block c (fun e => hc (e ▸ h.hs.fx (6 + t) (by omega)))).trans hO⟩
theorem LgAt.shut (hi : Inj Fx n) (h : LgAt w0 w Fx n m cb M g f X ev R) (hc : ¬ M c) (hO : w.heap[c]? = some O) (hn : 1 ≤ n) (ht : t < n) : LgJ w0 Fx n m cb c O { R with hands := upd R.hands t { R.hands t with opn := false } } (w.setCell ⟨Fx 0, t * 16, none⟩ (.bool false)) := by
  have hne : ∀ i, i < 6 + n → i ≠ 0 → Fx i ≠ Fx 0 := fun i a c e => c (hi i _ a (by omega) e)
  have hk : Keep (fun k => k ≠ Fx 0) w (w.setCell ⟨Fx 0, t * 16, none⟩ (.bool false)) := (Keep.refl _ w).setCell (by simp) _
  exact ⟨_, _, _, _, _, h.side hk (fun k k1 e => by have := h.lo.1 0 (by omega); omega) (h.resN.2.1 0 (by omega)) (fun _ _ h => h) (fun _ h => h) ⟨hne 3 (by omega) (by omega), hne 4 (by omega) (by omega), hne 5 (by omega) (by omega)⟩ (fun k k1 => (h.evM k k1).2.1 0 (by omega)) (fun k _ k2 e => k2 (e ▸ h.hs.fx 0 (by omega))) (h.hs.shut hi hn ht) (fun s hs k k4 => Or.inl ⟨s, hs, k4⟩), hc, (hk.block c (fun e => hc (e ▸ h.hs.fx 0 (by omega)))).trans hO⟩
theorem LgAt.evField (h : LgAt w0 w Fx n m cb M g f X ev R) (hc : ¬ M c) (hO : w.heap[c]? = some O) (hn : 1 ≤ n) {hh j : Nat} {raw : List Ev} {x x' : Ev} {e e' : Ep} {ge ce : Nat} {u : Value} (hev : ev = .slice (some ⟨ge, 0, none⟩) R.evs.length ce) (hrow : w.ownsRow w0.heap.size 52 8 ev R.evs.length (raw.flatMap evEnc)) (hl : raw.length = R.evs.length)
    (hre : ∀ (i : Nat) (x : Ev) (e : Ep), raw[i]? = some x → R.evs[i]? = some e → EvIs w M x e) (hx : raw[hh]? = some x) (he : R.evs[hh]? = some e) (hj : j < 8) (hxx : evEnc x' = (evEnc x).set j u) (hE : ∀ w', Keep (fun k => k < w.heap.size ∧ ev.ownBlock ≠ some k) w w' → EvIs w' M x e → EvIs w' M x' e') :
    LgJ w0 Fx n m cb c O { R with evs := R.evs.set hh e' } (w.setCell ⟨ge, hh * 8 + j, none⟩ u) := by
  subst hev
  have hk : Keep (fun k => k < w.heap.size ∧ (Value.slice (some ⟨ge, 0, none⟩) R.evs.length ce).ownBlock ≠ some k) w (w.setCell ⟨ge, hh * 8 + j, none⟩ u) := (Keep.refl _ w).setCell (fun hk => hk.2 rfl) _
  have hS : ∀ k, k < w.heap.size → ¬ M k → k < w.heap.size ∧ (Value.slice (some ⟨ge, 0, none⟩) R.evs.length ce).ownBlock ≠ some k := fun k k1 k2 => ⟨k1, fun e => k2 (h.evM k e).1⟩
  exact ⟨_, _, _, _, _, h.evsTo hn hk (EvsAt.turn hl hre hk hS (fun _ _ h => h) (row_field hrow hx hj hxx) (hE _ hk ((hre hh x e hx he).keep hk hS (fun _ _ h => h)))), hc, (hk.block c ⟨obj_lt hO, fun e => hc (h.evM c e).1⟩).trans hO⟩
def LgE (w0 : World) (Fx : Nat → Nat) (n m cb : Nat) (R : Rs) (w : World) : Prop := ∃ M g f X ev, LgAt w0 w Fx n m cb M g f X ev R
theorem LgAt.evField0 (h : LgAt w0 w Fx n m cb M g f X ev R) (hn : 1 ≤ n) {hh j : Nat} {raw : List Ev} {x x' : Ev} {e e' : Ep} {ge ce : Nat} {u : Value} (hev : ev = .slice (some ⟨ge, 0, none⟩) R.evs.length ce) (hrow : w.ownsRow w0.heap.size 52 8 ev R.evs.length (raw.flatMap evEnc)) (hl : raw.length = R.evs.length)
    (hre : ∀ (i : Nat) (x : Ev) (e : Ep), raw[i]? = some x → R.evs[i]? = some e → EvIs w M x e) (hx : raw[hh]? = some x) (he : R.evs[hh]? = some e) (hj : j < 8) (hxx : evEnc x' = (evEnc x).set j u) (hE : ∀ w', Keep (fun k => k < w.heap.size ∧ ev.ownBlock ≠ some k) w w' → EvIs w' M x e → EvIs w' M x' e') :
    LgE w0 Fx n m cb { R with evs := R.evs.set hh e' } (w.setCell ⟨ge, hh * 8 + j, none⟩ u) := by
  subst hev
  have hk : Keep (fun k => k < w.heap.size ∧ (Value.slice (some ⟨ge, 0, none⟩) R.evs.length ce).ownBlock ≠ some k) w (w.setCell ⟨ge, hh * 8 + j, none⟩ u) := (Keep.refl _ w).setCell (fun hk => hk.2 rfl) _
  have hS : ∀ k, k < w.heap.size → ¬ M k → k < w.heap.size ∧ (Value.slice (some ⟨ge, 0, none⟩) R.evs.length ce).ownBlock ≠ some k := fun k k1 k2 => ⟨k1, fun e => k2 (h.evM k e).1⟩
  exact ⟨_, _, _, _, _, h.evsTo hn hk (EvsAt.turn hl hre hk hS (fun _ _ h => h) (row_field hrow hx hj hxx) (hE _ hk ((hre hh x e hx he).keep hk hS (fun _ _ h => h))))⟩
theorem LgAt.evAll (h : LgAt w0 w Fx n m cb M g f X ev R) (hc : ¬ M c) (hO : w.heap[c]? = some O) (hn : 1 ≤ n) {hh : Nat} {raw : List Ev} {x x' : Ev} {e e' : Ep} {ge ce : Nat} (hev : ev = .slice (some ⟨ge, 0, none⟩) R.evs.length ce) (hrow : w.ownsRow w0.heap.size 52 8 ev R.evs.length (raw.flatMap evEnc)) (hl : raw.length = R.evs.length)
    (hre : ∀ (i : Nat) (x : Ev) (e : Ep), raw[i]? = some x → R.evs[i]? = some e → EvIs w M x e) (hx : raw[hh]? = some x) (he : R.evs[hh]? = some e) (hE : ∀ w', Keep (fun k => k < w.heap.size ∧ ev.ownBlock ≠ some k) w w' → EvIs w' M x e → EvIs w' M x' e') :
    LgJ w0 Fx n m cb c O { R with evs := R.evs.set hh e' } (w.setCells ge (hh * 8) (evEnc x')) := by
  subst hev
  have hh' : hh < raw.length := (List.getElem?_eq_some_iff.1 hx).1
  have hk : Keep (fun k => k < w.heap.size ∧ (Value.slice (some ⟨ge, 0, none⟩) R.evs.length ce).ownBlock ≠ some k) w (w.setCells ge (hh * 8) (evEnc x')) := keep_setCells (fun hk => hk.2 rfl) _ _ (Keep.refl _ w)
  have hS : ∀ k, k < w.heap.size → ¬ M k → k < w.heap.size ∧ (Value.slice (some ⟨ge, 0, none⟩) R.evs.length ce).ownBlock ≠ some k := fun k k1 k2 => ⟨k1, fun e => k2 (h.evM k e).1⟩
  obtain ⟨c', i', r', s', e0', v', lA', lN', lC', kA', kN', kC'⟩ := x'
  have r0 := row_field (x' := { x with call := c' }) hrow hx (j := 0) (u := .int .i64 c') (by decide) rfl
  have r1 := row_turn (x2 := { x with call := c', inv := i' }) (j := 1) (u := .int .i64 i') r0 hh' (by decide) rfl
  have r2 := row_turn (x2 := { x with call := c', inv := i', resp := r' }) (j := 2) (u := .int .i64 r') r1 hh' (by decide) rfl
  have r3 := row_turn (x2 := { x with call := c', inv := i', resp := r', steps := s' }) (j := 3) (u := .int .i64 s') r2 hh' (by decide) rfl
  have r4 := row_turn (x2 := { x with call := c', inv := i', resp := r', steps := s', err := e0' }) (j := 4) (u := .int .i64 e0') r3 hh' (by decide) rfl
  have r5 := row_turn (x2 := { x with call := c', inv := i', resp := r', steps := s', err := e0', val := v' }) (j := 5) (u := .int .u64 v') r4 hh' (by decide) rfl
  have r6 := row_turn (x2 := { x with call := c', inv := i', resp := r', steps := s', err := e0', val := v', lA := lA', lN := lN', lC := lC' }) (j := 6) (u := .slice lA' lN' lC') r5 hh' (by decide) rfl
  have r7 := row_turn (x2 := ⟨c', i', r', s', e0', v', lA', lN', lC', kA', kN', kC'⟩) (j := 7) (u := .slice kA' kN' kC') r6 hh' (by decide) rfl
  exact ⟨_, _, _, _, _, h.evsTo hn hk (EvsAt.turn hl hre hk hS (fun _ _ h => h) r7 (hE _ hk ((hre hh x e hx he).keep hk hS (fun _ _ h => h)))), hc, (hk.block c ⟨obj_lt hO, fun e => hc (h.evM c e).1⟩).trans hO⟩
theorem LgAt.pushed (hi : Inj Fx n) (h : LgAt w0 w Fx n m cb M g f X ev R) (hc : ¬ M c) (hO : w.heap[c]? = some O) (hn : 1 ≤ n) {ev' : Value} (hk : Keep (fun k => k < w.heap.size ∧ ev.ownBlock ≠ some k) w w') {i : Nat} {now : Int} (raw : List Ev) (hr : w.ownsRow w0.heap.size 52 8 ev R.evs.length (raw.flatMap evEnc)) (hl : raw.length = R.evs.length)
    (he : ∀ (i : Nat) (x : Ev) (e : Ep), raw[i]? = some x → R.evs[i]? = some e → EvIs w M x e) (ho : w'.ownsRow w0.heap.size 52 8 ev' (R.evs.length + 1) (raw.flatMap evEnc ++ [.int .i64 i, .int .i64 now, .int .i64 0, .int .i64 0, .int .i64 0, .int .u64 0, .slice none 0 0, .slice none 0 0]))
    (hloc : ∀ k, ev'.ownBlock = some k → ev.ownBlock = some k ∨ w.heap.size ≤ k) : LgJ w0 Fx n m cb c O { R with evs := R.evs ++ [⟨i, now, 0, 0, ⟨0, 0, []⟩, []⟩] } (w'.setCell ⟨Fx 4, 0, none⟩ ev') := by
  obtain ⟨M', h1, h2⟩ := h.push hi hn hk raw hr hl he ho hloc
  have hk2 : Keep (fun k => k ≠ Fx 4) w' (w'.setCell ⟨Fx 4, 0, none⟩ ev') := (Keep.refl _ w').setCell (by simp) _
  exact ⟨_, _, _, _, _, h1, fun e => hc (h2 c (obj_lt hO) e), (hk2.block c (fun e => hc (e ▸ h.hs.fx 4 (by omega)))).trans ((hk.block c ⟨obj_lt hO, fun e => hc (h.evM c e).1⟩).trans hO)⟩
end
def Rs.s4 (D : Dof) (R : Rs) (t : Nat) (c : Cl) : Rs := { R with w := (R.run D 1 t c).2, hands := upd R.hands t { R.hands t with tape := (R.run D 1 t c).1 } }
def Rs.s6 (R : Rs) (hh : Nat) (e : Ep) : Rs := { R with evs := R.evs.set hh e }
def Rs.s8 (R : Rs) (t : Nat) (l : List Int) : Rs := { R with hands := upd R.hands t { R.hands t with own := upd (R.hands t).own 0 l } }
def Rs.s9 (R : Rs) (t : Nat) : Rs := { R with hands := upd R.hands t { R.hands t with opn := false } }
def Rs.s10 (R : Rs) (i : Nat) : Rs := { R with fin := R.fin.set i true }
theorem step_halt {D : Dof} {R : Rs} {t i : Nat} {c : Cl} {e : Ep} (hh : (R.run D 1 t c).1.halt = true) (he : R.evs[(R.hands t).event]? = some e) : R.step D 1 t i c = (R.s4 D t c).s6 (R.hands t).event { e with steps := e.steps + 1 } := by
  unfold Rs.step
  dsimp only
  rw [if_pos hh, modify_set _ he]
  rfl
def doneE (R : Rs) (t : Nat) (e : Ep) : Ep := { e with steps := e.steps + 1, resp := R.w.now, ans := ⟨(R.hands t).tape.err, (R.hands t).tape.val, (R.hands t).tape.list⟩, key := keyOf (R.hands t).tape.key (R.w.marks t) R.w.now }
theorem step_in {D : Dof} {R : Rs} {t i : Nat} {c : Cl} {e e1 : Ep} (hh : (R.run D 1 t c).1.halt = false) (he : R.evs[(R.hands t).event]? = some e) (hin : c.obj = 0) : R.step D 1 t i c = (((((R.s4 D t c).s6 (R.hands t).event e1).s6 (R.hands t).event (doneE (R.s4 D t c) t e)).s8 t ((R.s4 D t c).hands t).tape.priv).s9 t).s10 i := by
  have e4 : (R.s4 D t c).hands t = { R.hands t with tape := (R.run D 1 t c).1 } := upd_same _ _ _
  unfold Rs.step
  dsimp only
  rw [if_neg (by rw [hh]; exact Bool.false_ne_true), modify_set _ he, if_pos (by omega), hin]
  unfold Rs.s10 Rs.s9 Rs.s8 Rs.s6 doneE
  dsimp only
  rw [e4]
  unfold Rs.s4
  dsimp only
  simp only [upd_upd, List.set_set, upd_same]
  rfl
theorem step_out {D : Dof} {R : Rs} {t i : Nat} {c : Cl} {e e1 : Ep} (hh : (R.run D 1 t c).1.halt = false) (he : R.evs[(R.hands t).event]? = some e) (hin : ¬ (0 ≤ c.obj ∧ c.obj < 1)) : R.step D 1 t i c = ((((R.s4 D t c).s6 (R.hands t).event e1).s6 (R.hands t).event (doneE (R.s4 D t c) t e)).s9 t).s10 i := by
  have e4 : (R.s4 D t c).hands t = { R.hands t with tape := (R.run D 1 t c).1 } := upd_same _ _ _
  unfold Rs.step
  dsimp only
  rw [if_neg (by rw [hh]; exact Bool.false_ne_true), modify_set _ he, if_neg (by simpa using hin)]
  unfold Rs.s10 Rs.s9 Rs.s6 doneE
  dsimp only
  rw [e4]
  unfold Rs.s4
  dsimp only
  simp only [upd_upd, List.set_set]
theorem rends_succ (R : Rs) (late : Hd → Nat → List Int) (k : Nat) : R.endsK late (k + 1) = if (R.hands k).opn then (R.endsK late k).modify (R.hands k).event fun e => { e with key := late (R.hands k) k } else R.endsK late k := by
  unfold Rs.endsK
  rw [List.range_succ, List.foldl_append]
  rfl
theorem rends_get {R : Rs} {late : Hd → Nat → List Int} : ∀ {k j : Nat} {e : Ep}, R.evs[j]? = some e → ∃ e', (R.endsK late k)[j]? = some e' ∧ e'.call = e.call
  | 0, _, e, h => ⟨e, h, rfl⟩
  | k + 1, j, e, h => by
    obtain ⟨e1, h1, h2⟩ := rends_get (R := R) (late := late) (k := k) h
    rw [rends_succ]
    split
    · obtain ⟨e2, h3, h4⟩ := rget_mod (h := (R.hands k).event) (f := fun e => { e with key := late (R.hands k) k }) h1 (fun _ => rfl)
      exact ⟨e2, h3, h4.trans h2⟩
    · exact ⟨e1, h1, h2⟩
theorem rends_len {R : Rs} {late : Hd → Nat → List Int} : ∀ k, (R.endsK late k).length = R.evs.length
  | 0 => rfl
  | k + 1 => by
    rw [rends_succ]
    split
    · rw [List.length_modify]; exact rends_len k
    · exact rends_len k
structure P7 (w4 w : World) (n size : Nat) (W O A : Bool) (b1 : Nat) (u : Value) (mb : Nat) : Prop where
  kp : Below w4.heap.size w4 w
  hW : W = true → SlW w (.slice (some ⟨b1, 0, none⟩) size size) (List.replicate size 0)
  hO : O = true → WRow w w4.heap.size u (List.replicate size 0)
  hA : A = true → w.heap[mb]? = some (.cells (madeCells #[.slice none 0 0] n) 24 (0, 0)) ∧ w4.heap.size ≤ mb
  ne : O = true → A = true → ∀ k, u.ownBlock = some k → k ≠ mb
section
variable {w4 w w' : World} {n size : Nat} {W O A : Bool} {b1 : Nat} {u u' : Value} {mb : Nat}
theorem P7.start (w4 : World) (n size : Nat) : P7 w4 w4 n size false false false 0 .nilFunc 0 := ⟨Below.refl _ _, fun h => (by cases h), fun h => (by cases h), fun h => (by cases h), fun h => (by cases h)⟩
theorem P7.b (h : P7 w4 w n size W O A b1 u mb) (hb : Below w.heap.size w w') : P7 w4 w' n size W O A b1 u mb :=
  ⟨h.kp.trans (hb.mono h.kp.size), fun e => (h.hW e).below hb (Nat.le_refl _), fun e => owns_keepV (h.hO e) (Keep.of_below (K := fun k => k < w.heap.size) hb (fun _ hk => hk)) (fun _ hk => (World.ownsRow.lt (h.hO e) _ hk).2), fun e => ⟨(hb.block _ (obj_lt (h.hA e).1)).trans (h.hA e).1, (h.hA e).2⟩, h.ne⟩
theorem P7.wd (h : P7 w4 w n size W O A b1 u mb) (hsz : size ≤ 65536) (hw : w' = w.alloc (.cells (madeCells #[.int .u64 0] size) 46)) : P7 w4 w' n size true O A w.heap.size u mb := by
  have h2 := h.b (w' := w') (by rw [hw]; exact (Below.refl _ _).alloc (Nat.le_refl _) _)
  exact ⟨h2.kp, fun _ => by rw [hw]; exact made_words w size _ rfl (by unfold maxLen; omega), h2.hO, h2.hA, h2.ne⟩
theorem P7.o (h : P7 w4 w n size W O A b1 u mb) (hr : WRow w' w.heap.size u' (List.replicate size 0)) (hb : Below w.heap.size w w') : P7 w4 w' n size W true A b1 u' mb := by
  have h2 := h.b hb
  exact ⟨h2.kp, h2.hW, fun _ => owns_base hr h.kp.size, h2.hA, fun _ e k hk hm => by
    have h3 := (World.ownsRow.lt hr k hk).1
    have h4 := obj_lt (h.hA e).1
    omega⟩
theorem P7.a (h : P7 w4 w n size W O A b1 u mb) (hw : w' = w.alloc (.cells (madeCells #[.slice none 0 0] n) 24)) : P7 w4 w' n size W O true b1 u w.heap.size := by
  have h2 := h.b (w' := w') (by rw [hw]; exact (Below.refl _ _).alloc (Nat.le_refl _) _)
  exact ⟨h2.kp, h2.hW, h2.hO, fun _ => ⟨by rw [hw]; exact heap_alloc_new _ _, h.kp.size⟩, fun e _ k hk hm => by
    have := (World.ownsRow.lt (h.hO e) k hk).2
    omega⟩
theorem P7.a' (h : P7 w4 w n size W O A b1 u mb) : ∃ w', w' = w.alloc (.cells (madeCells #[.slice none 0 0] n) 24) ∧ P7 w4 w' n size W O true b1 u w.heap.size := ⟨_, rfl, h.a rfl⟩
theorem P7.b' (h : P7 w4 w n size W O A b1 u mb) (k : Nat) : ∃ w', w' = w.alloc (.cells (madeCells #[.slice none 0 0] k) 24) ∧ P7 w4 w' n size W O A b1 u mb := ⟨_, rfl, h.b ((Below.refl _ _).alloc (Nat.le_refl _) _)⟩
theorem P7.d' (h : P7 w4 w n size W O A b1 u mb) : ∃ w', w' = w.drew ∧ P7 w4 w' n size W O A b1 u mb := ⟨_, rfl, h.b (Below.refl _ _).drew⟩
theorem P7.fin (h : P7 w4 w n size true true true b1 u mb) (tr : Value) : IW w4 (w.alloc (.cells #[u, .int .i64 0, .int .i64 0, .int .i64 0, .int .i64 0, .int .i64 0, .int .i64 0, .slice (some ⟨mb, 0, none⟩) n n, tr, .slice none 0 0] 95)) n size w.heap.size mb u (fun i => (#[u, .int .i64 0, .int .i64 0, .int .i64 0, .int .i64 0, .int .i64 0, .int .i64 0, .slice (some ⟨mb, 0, none⟩) n n, tr, .slice none 0 0][i]?).getD undef) := by
  have hb : Below w.heap.size w (w.alloc (.cells #[u, .int .i64 0, .int .i64 0, .int .i64 0, .int .i64 0, .int .i64 0, .int .i64 0, .slice (some ⟨mb, 0, none⟩) n n, tr, .slice none 0 0] 95)) := (Below.refl _ _).alloc (Nat.le_refl _) _
  have h2 := h.b hb
  have hm := obj_lt (h.hA rfl).1
  have hw0 : Value.int .i64 0 = Value.int .i64 (wrap64 0) := by rw [show wrap64 0 = 0 from by unfold wrap64; omega]
  exact ⟨rowIs_lit (heap_alloc_new _ _) (by simp), ⟨by rfl, hw0, hw0, hw0, hw0, hw0⟩, by rfl, by rfl, by rfl, (h2.hA rfl).1, h2.hO rfl, ⟨by omega, fun k hk => ⟨by have := (World.ownsRow.lt (h.hO rfl) k hk).2; omega, h.ne rfl rfl k hk⟩⟩, ⟨h.kp.size, (h.hA rfl).2⟩, h2.kp⟩
end
end Go.Proofs.YtlfingcmekifkaaGreat

namespace Go.Proofs.YtlfingcmekifkaaGreat
open Go.RowKit
theorem zero_rep (w : World) : (zeroValue 32).run Tryz.prog w = .ok (.agg #[.slice none 0 0, .slice none 0 0, .int .i64 0, .int .i64 0, .int .i64 0, .int .i64 0, .int .i64 0, .int .i64 0, .int .i64 0]) w := by kernel_rfl
set_option maxRecDepth 100000 in
set_option maxHeartbeats 2000000 in
theorem plainLogBad {n : Int} {As : Option Addr} {ns cs0 : Nat} {A : Option Addr} {m c : Nat} {cs : List Cl} {Ap : Option Addr} {np cp : Nat} {E : Int} {w : World} (h : SlCl w (.slice A m c) cs) (hm : cs.length = m) (hE : chkE n cs np = E) (h0 : E ≠ 0) :
    Calls Tryz.prog 25 #[.int .i64 n, .slice As ns cs0, .slice A m c, .slice Ap np cp] w fun e w' => e = .returned (.tuple #[zeroV, .slice none 0 0, .int .i64 E]) ∧ Below w.heap.size w w' := by
  have N0 := plainWrong n A m c cs Ap np cp (w.alloc zeroRep) (h.alloc _) hm
  rw [hE] at N0
  have hzr := zero_rep
  have d0 : (E != 0) = true := by simpa using h0
  unfold zeroRep at N0
  unfold zeroV
  clear h hm hE
  go_enter Tryz.func25, Tryz.ntmps25
  go_wp2_with fail
  refine N0.mono ?_
  rintro e w1 ⟨rfl, rfl⟩
  go_wp2
  refine bodyPost_ret (v := .tuple #[.agg #[.slice none 0 0, .slice none 0 0, .int .i64 0, .int .i64 0, .int .i64 0, .int .i64 0, .int .i64 0, .int .i64 0, .int .i64 0], .slice none 0 0, .int .i64 E]) (by simp [results, Tryz.results25, go_sem]) rfl ⟨rfl, ?_⟩
  (repeat' (first | with_reducible assumption | with_reducible exact Below.refl _ _ | with_reducible refine Below.drew ?_ | with_reducible refine below_drewN ?_ _ | with_reducible refine Below.alloc ?_ ?_ _ | with_reducible refine Below.setCell ?_ ?_ _ | omega | (simp; done) | (simp; omega)))
set_option maxRecDepth 100000 in
set_option maxHeartbeats 2000000 in
theorem plainPlayOf {n : Int} {As : Option Addr} {ns cs0 : Nat} {A : Option Addr} {m c : Nat} {Ap : Option Addr} {np cp : Nat} {E : Int} {w : World} (N0 : Calls Tryz.prog 25 #[.int .i64 n, .slice As ns cs0, .slice A m c, .slice Ap np cp] (w.alloc zeroRep) fun e w' => e = .returned (.tuple #[zeroV, .slice none 0 0, .int .i64 E]) ∧ Below (w.alloc zeroRep).heap.size (w.alloc zeroRep) w') :
    Calls Tryz.prog 11 #[.int .i64 n, .slice As ns cs0, .slice A m c, .slice Ap np cp] w fun e w' => e = .returned (.tuple #[zeroV, .int .i64 E]) ∧ Below w.heap.size w w' := by
  have hb0 : Below w.heap.size w (w.alloc zeroRep) := (Below.refl _ _).alloc (Nat.le_refl _) _
  have hz0 : w.heap.size < (w.alloc zeroRep).heap.size := by simp
  have hr0 : (w.alloc zeroRep).heap[w.heap.size]? = some zeroRep := heap_alloc_new _ _
  have HB0 := hide hb0
  have HZ0 := hide hz0
  have HR0 := hide hr0
  clear hb0 hz0 hr0
  unfold zeroRep zeroV at N0
  unfold zeroRep at HR0 HB0 HZ0
  unfold zeroV
  go_enter Tryz.func11, Tryz.ntmps11
  go_wp2_with fail
  refine N0.mono ?_
  rintro e w1 ⟨rfl, hb⟩
  have hr1 := (hb.block _ HZ0.out).trans HR0.out
  have hth : (w1.alloc (.cells #[.slice none 0 0, .slice none 0 0, .int .i64 0, .int .i64 0, .int .i64 0, .int .i64 0, .int .i64 0, .int .i64 0, .int .i64 0] 32)).there w.heap.size 0 ([.slice none 0 0, .slice none 0 0, .int .i64 0, .int .i64 0, .int .i64 0, .int .i64 0, .int .i64 0, .int .i64 0, .int .i64 0] : List Value).length := zero_there ((Below.heap_alloc _ _ _ (obj_lt hr1)).trans hr1) _ rfl
  have HB := hide (HB0.out.trans (hb.mono HB0.out.size))
  have HTH := hide hth
  clear hb hr1 hth
  go_wp2_with (refine wpList_store_mid rfl 32 (.tmp 8) (.tmp 22) rfl w.heap.size 0 ([.slice none 0 0, .slice none 0 0, .int .i64 0, .int .i64 0, .int .i64 0, .int .i64 0, .int .i64 0, .int .i64 0, .int .i64 0] : List Value).toArray (by rfl) (by rfl) HTH.out (by kernel_rfl) (by kernel_rfl) ?_)
  have hRS := World.rangeAt_setCells_same (w1.alloc (.cells #[.slice none 0 0, .slice none 0 0, .int .i64 0, .int .i64 0, .int .i64 0, .int .i64 0, .int .i64 0, .int .i64 0, .int .i64 0] 32)) w.heap.size 0 ([.slice none 0 0, .slice none 0 0, .int .i64 0, .int .i64 0, .int .i64 0, .int .i64 0, .int .i64 0, .int .i64 0, .int .i64 0] : List Value) HTH.out
  have hld := run_loadVar_mid (P := Tryz.prog) ((w1.alloc (.cells #[.slice none 0 0, .slice none 0 0, .int .i64 0, .int .i64 0, .int .i64 0, .int .i64 0, .int .i64 0, .int .i64 0, .int .i64 0] 32)).setCells w.heap.size 0 ([.slice none 0 0, .slice none 0 0, .int .i64 0, .int .i64 0, .int .i64 0, .int .i64 0, .int .i64 0, .int .i64 0, .int .i64 0] : List Value)) w.heap.size 0 32 ([.slice none 0 0, .slice none 0 0, .int .i64 0, .int .i64 0, .int .i64 0, .int .i64 0, .int .i64 0, .int .i64 0, .int .i64 0] : List Value) _ hRS Tryz.underlying32 rfl (by kernel_rfl)
  refine bodyPost_ret (v := .tuple #[.agg #[.slice none 0 0, .slice none 0 0, .int .i64 0, .int .i64 0, .int .i64 0, .int .i64 0, .int .i64 0, .int .i64 0, .int .i64 0], .int .i64 E]) (by simp [results, Tryz.results11, hld, asAddr]) rfl ⟨rfl, ?_⟩
  exact (keep_setCells (K := fun k => k < w.heap.size) (by simp) _ _ ((Keep.of_below (K := fun k => k < w.heap.size) HB.out (fun k hk => hk)).alloc (fun k hk => Nat.lt_of_lt_of_le hk HB.out.size) _)).below (fun k hk => hk)
end Go.Proofs.YtlfingcmekifkaaGreat
