import Derived.Test.YtlfingcmekifkaaGreatBun19
import Derived.Test.YtlfingcmekifkaaGreatRt13
import Derived.Test.YtlfingcmekifkaaGreatBun9
namespace Go.Proofs.YtlfingcmekifkaaGreat
open Go.RowKit
def repC (ev : Value) (idle : Int) : Array Value := #[ev, .slice none 0 0, .int .i64 0, .int .i64 0, .int .i64 0, .int .i64 0, .int .i64 0, .int .i64 0, .int .i64 idle]
structure LgAt (w0 w : World) (Fx : Nat → Nat) (n m cb : Nat) (M : Nat → Prop) (g f : Nat → Value) (X : Nat → Rv) (ev : Value) (R : Rs) : Prop where
  hs : HsAt w Fx n M g f X R.w R.hands
  evs : EvsAt w w0.heap.size M ev R.evs
  evM : ∀ k, ev.ownBlock = some k → M k ∧ (∀ i, i < 6 + n → k ≠ Fx i) ∧ ∀ t, t < n → ¬ (X t).four k
  rep : w.heap[Fx 4]? = some (.cells (repC ev R.idle) 32 (0, 0))
  fin : ∃ xs, w.heap[Fx 3]? = some (.cells xs 4 (0, 0)) ∧ xs.toList = R.fin.map Value.bool
  bas : SlI w (.slice (some ⟨Fx 5, 0, none⟩) 1 cb) [0]
  lo : (∀ i, i < 6 + n → w0.heap.size ≤ Fx i) ∧ ∀ t, t < n → ∀ k, (X t).four k → w0.heap.size ≤ k
  old : ∀ k, k < w0.heap.size → M k
  kp : Below w0.heap.size w0 w
  res : w.heap[w0.heap.size]? = some (.cells (repC (.slice none 0 0) 0) 32 (0, 0))
  resN : M w0.heap.size ∧ (∀ i, i < 6 + n → w0.heap.size ≠ Fx i) ∧ (∀ t, t < n → ¬ (X t).four w0.heap.size) ∧ ev.ownBlock ≠ some w0.heap.size
section
variable {w0 w w' : World} {Fx : Nat → Nat} {n m cb t : Nat} {M M' S : Nat → Prop} {g f g' f' : Nat → Value} {X X' : Nat → Rv} {ev ev' : Value} {R : Rs} {W' : Rw} {H' : Nat → Hd}
theorem LgAt.side (h : LgAt w0 w Fx n m cb M g f X ev R) (hk : Keep S w w') (h0 : ∀ k, k < w0.heap.size → S k) (h8 : S w0.heap.size) (hM : ∀ k, k < w.heap.size → M' k → M k) (hM2 : ∀ k, M k → M' k) (h3 : S (Fx 3) ∧ S (Fx 4) ∧ S (Fx 5)) (he : ∀ k, ev.ownBlock = some k → S k) (hS : ∀ k, k < w.heap.size → ¬ M k → S k) (hs' : HsAt w' Fx n M' g' f' X' W' H')
    (h4 : ∀ s, s < n → ∀ k, (X' s).four k → (∃ u, u < n ∧ (X u).four k) ∨ w.heap.size ≤ k) : LgAt w0 w' Fx n m cb M' g' f' X' ev { R with w := W', hands := H' } := by
  obtain ⟨xs, x1, x2⟩ := h.fin
  have hz8 : w0.heap.size < w.heap.size := (Array.getElem?_eq_some_iff.1 h.res).1
  refine ⟨hs', h.evs.keep hk hS hM he, fun k k1 => ⟨hM2 _ (h.evM k k1).1, (h.evM k k1).2.1, fun t ht k4 => ?_⟩, (hk.block _ h3.2.1).trans h.rep, ⟨xs, (hk.block _ h3.1).trans x1, x2⟩, sl_keepG h.bas hk (fun a e _ => by cases e; exact h3.2.2), ⟨h.lo.1, fun s hs k k4 => ?_⟩, fun k k1 => hM2 k (h.old k k1), ?_, (hk.block _ h8).trans h.res, ⟨hM2 _ h.resN.1, h.resN.2.1, fun t ht k4 => ?_, h.resN.2.2.2⟩⟩
  · rcases h4 t ht k k4 with ⟨u, hu, k5⟩ | k5
    · exact (h.evM k k1).2.2 u hu k5
    · have := h.hs.lt k (h.evM k k1).1; omega
  · rcases h4 s hs k k4 with ⟨u, hu, k5⟩ | k5
    · exact h.lo.2 u hu k k5
    · have := h.kp.size; omega
  · exact ((Keep.of_below (K := fun k => k < w0.heap.size) h.kp (fun k hk => hk)).trans (hk.mono (fun k k1 => h0 k k1))).below (fun k hk => hk)
  · rcases h4 t ht _ k4 with ⟨u, hu, k5⟩ | k5
    · exact h.resN.2.2.1 u hu k5
    · omega
theorem LgAt.turn (h : LgAt w0 w Fx n m cb M g f X ev R) (hn : 1 ≤ n) (hk : Keep S w w') (h0 : ∀ k, k < w0.heap.size → S k) (h8 : S w0.heap.size) (hM : ∀ k, k < w.heap.size → M' k → M k) (hM2 : ∀ k, M k → M' k) (hlt : ∀ k, M' k → k < w'.heap.size) (hfx : ∀ i, i < 6 + n → i ≠ 3 → i ≠ 4 → S (Fx i)) (h4 : ∀ t, t < n → ∀ k, (X t).four k → S k) (hS : ∀ k, k < w.heap.size → ¬ M k → S k)
    {es' : List Ep} {id' : Int} {fi' : List Bool} (e1 : EvsAt w' w0.heap.size M' ev' es') (e2 : ∀ k, ev'.ownBlock = some k → ev.ownBlock = some k ∨ (w.heap.size ≤ k ∧ M' k)) (e3 : w'.heap[Fx 4]? = some (.cells (repC ev' id') 32 (0, 0))) (e4 : ∃ xs, w'.heap[Fx 3]? = some (.cells xs 4 (0, 0)) ∧ xs.toList = fi'.map Value.bool) : LgAt w0 w' Fx n m cb M' g f X ev' { R with evs := es', idle := id', fin := fi' } := by
  have hz8 : w0.heap.size < w.heap.size := (Array.getElem?_eq_some_iff.1 h.res).1
  refine ⟨h.hs.frame hn hk hM hM2 hlt hS ⟨hfx 0 (by omega) (by omega) (by omega), hfx 1 (by omega) (by omega) (by omega), hfx 2 (by omega) (by omega) (by omega)⟩ (fun t ht => hfx (6 + t) (by omega) (by omega) (by omega)) h4, e1, fun k k1 => ?_, e3, e4, sl_keepG h.bas hk (fun a e _ => by cases e; exact hfx 5 (by omega) (by omega) (by omega)), h.lo, fun k k1 => hM2 k (h.old k k1), ?_, (hk.block _ h8).trans h.res, ⟨hM2 _ h.resN.1, h.resN.2.1, h.resN.2.2.1, fun e => ?_⟩⟩
  · rcases e2 k k1 with k2 | ⟨k2, k3⟩
    · exact ⟨hM2 _ (h.evM k k2).1, (h.evM k k2).2⟩
    · refine ⟨k3, fun i hi e => ?_, fun t ht k4 => ?_⟩
      · have := h.hs.lt _ (h.hs.fx i hi); omega
      · have := h.hs.lt _ (h.hs.nf t ht k k4).2; omega
  · exact ((Keep.of_below (K := fun k => k < w0.heap.size) h.kp (fun k hk => hk)).trans (hk.mono (fun k k1 => h0 k k1))).below (fun k hk => hk)
  · rcases e2 _ e with k2 | ⟨k2, _⟩
    · exact h.resN.2.2.2 k2
    · omega
theorem LgAt.evLo (h : LgAt w0 w Fx n m cb M g f X ev R) {k : Nat} (hk : ev.ownBlock = some k) : w0.heap.size ≤ k := by
  obtain ⟨raw, hrow, _⟩ := h.evs.row
  exact (World.ownsRow.lt hrow k hk).1
theorem LgAt.grow (h : LgAt w0 w Fx n m cb M g f X ev R) (hn : 1 ≤ n) (hb : Below w.heap.size w w') : LgAt w0 w' Fx n m cb M g f X ev R := by
  have hk := Keep.of_below (K := fun k => k < w.heap.size) hb (fun k hk => hk)
  have hlt := h.hs.lt
  obtain ⟨xs, x1, x2⟩ := h.fin
  have hx : ∀ i, i < 6 + n → Fx i < w.heap.size := fun i hi => hlt _ (h.hs.fx i hi)
  exact h.turn hn hk (fun k k1 => Nat.lt_of_lt_of_le k1 h.kp.size) (Array.getElem?_eq_some_iff.1 h.res).1 (fun _ _ h => h) (fun _ h => h) (fun k k1 => Nat.lt_of_lt_of_le (hlt k k1) hk.size) (fun i hi _ _ => hx i hi) (fun t ht k k4 => hlt k (h.hs.nf t ht k k4).2) (fun k k1 _ => k1) (h.evs.keep hk (fun k k1 _ => k1) (fun _ _ h => h) (fun k k1 => hlt k (h.evM k k1).1)) (fun k k1 => Or.inl k1) ((hk.block _ (hx 4 (by omega))).trans h.rep) ⟨xs, (hk.block _ (hx 3 (by omega))).trans x1, x2⟩
theorem LgAt.nextIdle (hi : Inj Fx n) (h : LgAt w0 w Fx n m cb M g f X ev R) (hn : 1 ≤ n) (x : Int) : LgAt w0 (w.setCell ⟨Fx 4, 8, none⟩ (.int .i64 x)) Fx n m cb M g f X ev { R with idle := x } := by
  have hk : Keep (fun k => k ≠ Fx 4) w (w.setCell ⟨Fx 4, 8, none⟩ (.int .i64 x)) := (Keep.refl _ w).setCell (by simp) _
  have hne : ∀ i, i < 6 + n → i ≠ 4 → Fx i ≠ Fx 4 := fun i a c e => c (hi i 4 a (by omega) e)
  obtain ⟨xs, x1, x2⟩ := h.fin
  exact h.turn hn hk (fun k k1 e => by have := h.lo.1 4 (by omega); omega) (h.resN.2.1 4 (by omega)) (fun _ _ h => h) (fun _ h => h) (fun k k1 => Nat.lt_of_lt_of_le (h.hs.lt k k1) hk.size) (fun i hi _ i4 => hne i hi i4) (fun t ht k k4 => (h.hs.nf t ht k k4).1 4 (by omega)) (fun k _ k2 e => k2 (e ▸ h.hs.fx 4 (by omega)))
    (h.evs.keep hk (fun k _ k2 e => k2 (e ▸ h.hs.fx 4 (by omega))) (fun _ _ h => h) (fun k k1 => (h.evM k k1).2.1 4 (by omega))) (fun k k1 => Or.inl k1) (cells_set h.rep) ⟨xs, (hk.block _ (hne 3 (by omega) (by omega))).trans x1, x2⟩
theorem LgAt.nextFin (hi : Inj Fx n) (h : LgAt w0 w Fx n m cb M g f X ev R) (hn : 1 ≤ n) (i : Nat) : LgAt w0 (w.setCell ⟨Fx 3, i, none⟩ (.bool true)) Fx n m cb M g f X ev { R with fin := R.fin.set i true } := by
  have hk : Keep (fun k => k ≠ Fx 3) w (w.setCell ⟨Fx 3, i, none⟩ (.bool true)) := (Keep.refl _ w).setCell (by simp) _
  have hne : ∀ i, i < 6 + n → i ≠ 3 → Fx i ≠ Fx 3 := fun i a c e => c (hi i 3 a (by omega) e)
  obtain ⟨xs, x1, x2⟩ := h.fin
  exact h.turn hn hk (fun k k1 e => by have := h.lo.1 3 (by omega); omega) (h.resN.2.1 3 (by omega)) (fun _ _ h => h) (fun _ h => h) (fun k k1 => Nat.lt_of_lt_of_le (h.hs.lt k k1) hk.size) (fun i hi i3 _ => hne i hi i3) (fun t ht k k4 => (h.hs.nf t ht k k4).1 3 (by omega)) (fun k _ k2 e => k2 (e ▸ h.hs.fx 3 (by omega)))
    (h.evs.keep hk (fun k _ k2 e => k2 (e ▸ h.hs.fx 3 (by omega))) (fun _ _ h => h) (fun k k1 => (h.evM k k1).2.1 3 (by omega))) (fun k k1 => Or.inl k1) ((hk.block _ (hne 4 (by omega) (by omega))).trans h.rep) ⟨_, cells_set x1, by simp [x2, List.map_set]⟩
theorem LgAt.evsTo (h : LgAt w0 w Fx n m cb M g f X ev R) (hn : 1 ≤ n) (hk : Keep (fun k => k < w.heap.size ∧ ev.ownBlock ≠ some k) w w') {es' : List Ep} (e1 : EvsAt w' w0.heap.size M ev es') : LgAt w0 w' Fx n m cb M g f X ev { R with evs := es' } := by
  have hlt := h.hs.lt
  have hx : ∀ i, i < 6 + n → Fx i < w.heap.size ∧ ev.ownBlock ≠ some (Fx i) := fun i hi => ⟨hlt _ (h.hs.fx i hi), fun e => (h.evM _ e).2.1 i hi rfl⟩
  obtain ⟨xs, x1, x2⟩ := h.fin
  exact h.turn hn hk (fun k k1 => ⟨Nat.lt_of_lt_of_le k1 h.kp.size, fun e => by have := h.evLo e; omega⟩) ⟨(Array.getElem?_eq_some_iff.1 h.res).1, h.resN.2.2.2⟩ (fun _ _ h => h) (fun _ h => h) (fun k k1 => Nat.lt_of_lt_of_le (hlt k k1) hk.size) (fun i hi _ _ => hx i hi) (fun t ht k k4 => ⟨hlt k (h.hs.nf t ht k k4).2, fun e => (h.evM k e).2.2 t ht k4⟩) (fun k k1 k2 => ⟨k1, fun e => k2 (h.evM k e).1⟩) e1 (fun k k1 => Or.inl k1) ((hk.block _ (hx 4 (by omega))).trans h.rep) ⟨xs, (hk.block _ (hx 3 (by omega))).trans x1, x2⟩
theorem LgAt.push (hi : Inj Fx n) (h : LgAt w0 w Fx n m cb M g f X ev R) (hn : 1 ≤ n) (hk : Keep (fun k => k < w.heap.size ∧ ev.ownBlock ≠ some k) w w') {i : Nat} {now : Int} (raw : List Ev) (hr : w.ownsRow w0.heap.size 52 8 ev R.evs.length (raw.flatMap evEnc)) (hl : raw.length = R.evs.length)
    (he : ∀ (i : Nat) (x : Ev) (e : Ep), raw[i]? = some x → R.evs[i]? = some e → EvIs w M x e) (ho : w'.ownsRow w0.heap.size 52 8 ev' (R.evs.length + 1) (raw.flatMap evEnc ++ [.int .i64 i, .int .i64 now, .int .i64 0, .int .i64 0, .int .i64 0, .int .u64 0, .slice none 0 0, .slice none 0 0]))
    (hloc : ∀ k, ev'.ownBlock = some k → ev.ownBlock = some k ∨ w.heap.size ≤ k) : ∃ M', LgAt w0 (w'.setCell ⟨Fx 4, 0, none⟩ ev') Fx n m cb M' g f X ev' { R with evs := R.evs ++ [⟨i, now, 0, 0, ⟨0, 0, []⟩, []⟩] } ∧ ∀ k, k < w.heap.size → M' k → M k := by
  have hlt := h.hs.lt
  have hz := hk.size
  have hx : ∀ i, i < 6 + n → Fx i < w.heap.size ∧ ev.ownBlock ≠ some (Fx i) := fun i hi => ⟨hlt _ (h.hs.fx i hi), fun e => (h.evM _ e).2.1 i hi rfl⟩
  have hne : ∀ i, i < 6 + n → i ≠ 4 → Fx i ≠ Fx 4 := fun i a c e => c (hi i 4 a (by omega) e)
  have hks : Keep (fun k => k ≠ Fx 4) w' (w'.setCell ⟨Fx 4, 0, none⟩ ev') := (Keep.refl _ w').setCell (by simp) _
  have hkk : Keep (fun k => (k < w.heap.size ∧ ev.ownBlock ≠ some k) ∧ k ≠ Fx 4) w (w'.setCell ⟨Fx 4, 0, none⟩ ev') := (hk.mono fun k k1 => k1.1).trans (hks.mono fun k k1 => k1.2)
  have hloc4 : ∀ k, ev'.ownBlock = some k → k ≠ Fx 4 := fun k k1 e => by
    rcases hloc k k1 with k2 | k2
    · exact (hx 4 (by omega)).2 (e ▸ k2)
    · have := (hx 4 (by omega)).1; omega
  have hM : ∀ k, k < w.heap.size → (M k ∨ ev'.ownBlock = some k) → M k := fun k k1 k2 => by
    rcases k2 with k2 | k2
    · exact k2
    · rcases hloc k k2 with k3 | k3
      · exact (h.evM k k3).1
      · omega
  obtain ⟨xs, x1, x2⟩ := h.fin
  refine ⟨fun k => M k ∨ ev'.ownBlock = some k, h.turn hn hkk (fun k k1 => ⟨⟨Nat.lt_of_lt_of_le k1 h.kp.size, fun e => by have := h.evLo e; omega⟩, fun e => by have := h.lo.1 4 (by omega); omega⟩) ⟨⟨(Array.getElem?_eq_some_iff.1 h.res).1, h.resN.2.2.2⟩, h.resN.2.1 4 (by omega)⟩ hM (fun k => Or.inl) (fun k k1 => ?_) (fun i hi i3 i4 => ⟨hx i hi, hne i hi i4⟩) (fun t ht k k4 => ⟨⟨hlt k (h.hs.nf t ht k k4).2, fun e => (h.evM k e).2.2 t ht k4⟩, (h.hs.nf t ht k k4).1 4 (by omega)⟩) (fun k k1 k2 => ⟨⟨k1, fun e => k2 (h.evM k e).1⟩, fun e => k2 (e ▸ h.hs.fx 4 (by omega))⟩)
    (h.evs.push (hkk.mono fun k k1 => ⟨⟨k1.1, fun e => k1.2 (h.evM k e).1⟩, fun e => k1.2 (e ▸ h.hs.fx 4 (by omega))⟩) raw hr hl he (owns_keepV ho hks hloc4) hM) (fun k k1 => ?_) ?_ ⟨xs, (hkk.block _ ⟨hx 3 (by omega), hne 3 (by omega) (by omega)⟩).trans x1, x2⟩, hM⟩
  · have hz' := hkk.size
    rcases k1 with k1 | k1
    · exact Nat.lt_of_lt_of_le (hlt k k1) hz'
    · have := (World.ownsRow.lt ho k k1).2
      simpa using this
  · rcases hloc k k1 with k2 | k2
    · exact Or.inl k2
    · exact Or.inr ⟨k2, Or.inr k1⟩
  · have := cells_set (i := 0) (u := ev') ((hk.block _ (hx 4 (by omega))).trans h.rep)
    exact this
end
end Go.Proofs.YtlfingcmekifkaaGreat

namespace Go.Proofs.YtlfingcmekifkaaGreat
open Go.RowKit
def B1Rel (size : Int) (w : World) (k v7 v8 v9 : Value) (wr : World) : Prop :=
  (k = .int .i64 0 ∧ v7 = .slice none 0 0 ∧ v8 = .int .i64 0 ∧ v9 = .bool false ∧ wr = w) ∨ (∃ g c, k = .int .i64 1 ∧ v7 = .slice (some ⟨g, 0, none⟩) 1 c ∧ v8 = .int .i64 size ∧ v9 = .bool false ∧ w.heap.size ≤ g ∧ wr.ownsRow w.heap.size 3 1 (.slice (some ⟨g, 0, none⟩) 1 c) 1 [.int .i64 0] ∧ Below w.heap.size w wr)
def B1Post (size : Int) (w : World) (e : Ending) (w' : World) : Prop :=
  ∃ g c, e = .returned (.tuple #[.slice (some ⟨g, 0, none⟩) 1 c, .int .i64 size, .int .i64 0]) ∧ w.heap.size ≤ g ∧ w'.ownsRow w.heap.size 3 1 (.slice (some ⟨g, 0, none⟩) 1 c) 1 [.int .i64 0] ∧ Below w.heap.size w w'
theorem info_intR : (Tryz.prog.info? 3).map (fun i => (i.zero, i.size, i.bytes)) = some (some (.int .i64 0), 1, 8) := by kernel_rfl
set_option maxRecDepth 100000 in
set_option maxHeartbeats 1000000 in
theorem plainBases1 {n : Int} {As : Option Addr} {cs : Nat} {sp : Int × Int × Int} {size : Int} {w : World} (hS : ∀ W, Calls Tryz.prog 60 #[.int .i64 n, spV sp.1 sp.2.1 sp.2.2] W fun e w' => e = .returned (.int .i64 size) ∧ Below W.heap.size W w') (h : SlSp w (.slice As 1 cs) [sp]) (h0 : 0 ≤ size ∧ size ≤ 65536) :
    Calls Tryz.prog 40 #[.int .i64 n, .slice As 1 cs] w (B1Post size w) := by
  obtain ⟨A, c, e, h1, h2, h3⟩ := h
  injection e with e1 e2 e3
  subst e1 e3
  obtain ⟨g, o, rfl, hg, hc⟩ := h3 0 sp rfl
  obtain ⟨x0, x1, x2⟩ := sp_cells hc
  simp only [Nat.zero_mul, Nat.add_zero] at x0 x1 x2
  obtain ⟨i0, hi, hz0, hz1, hz2⟩ := info_parts info_intR
  unfold spV at hS
  clear h3 hc
  have hcs : (cs : Int) ≤ 9223372036854775807 := by unfold maxLen at h2; omega
  clear h1 h2 e2
  go_enter Tryz.func40, Tryz.ntmps40
  go_wp2
  go_loopw [14, 7, 8, 9] (fun k v7 v8 v9 wr => B1Rel size w k v7 v8 v9 wr) (fun k _ _ _ _ => 1 - (intOf k).toNat)
  case atStart => exact Or.inl ⟨rfl, rfl, rfl, rfl, rfl⟩
  case round =>
    rcases hrel with ⟨rfl, rfl, rfl, rfl, rfl⟩ | ⟨g', c', rfl, rfl, rfl, rfl, hg', hO, hB⟩
    · have s1 : decide (0 < size) = true ∨ decide (0 < size) = false := by rcases decide (0 < size) with _ | _ <;> simp
      have d0 : decide (size < 0) = false := by simp; omega
      have d1 : decide (65536 < size) = false := by simp; omega
      have k1 : IntKind.i64.wrap (0 + size) = size := (IntWalk.i64_in _ (by omega)).trans (by omega)
      have k2 : IntKind.i64.wrap size = size := IntWalk.i64_in _ (by omega)
      clear s1
      go_wp2_with fail
      refine (hS _).mono ?_
      rintro e w1 ⟨rfl, hb1⟩
      have HB1 := hide hb1
      clear hb1
      go_wp2_with (at_builtin; refine wpList_append_own_at _ rfl _ _ 24 rfl wr.heap.size 3 i0 (.int .i64 0) 1 8 Tryz.underlying24 hi hz0 hz1 hz2 rfl (by decide) (.slice none 0 0) 0 [] rfl (World.ownsRow_nil _ _ _ _) ⟨w1.heap.size, 0, none⟩ 1 1 [.int .i64 0] rfl rfl (cell_one_new _ _ _) (by simp [Value.oneCell']) (by simp [maxLen]) (by omega) (by have := HB1.out.size; simp; omega) ?_; intro v7 w7 hown7 hgrow7 _ _)
      have hown7' : w7.ownsRow wr.heap.size 3 1 v7 1 [.int .i64 0] := hown7
      refine ⟨Or.inr ?_, by simp [intOf]⟩
      have hz1 := HB1.out.size
      have hb7 : Below wr.heap.size wr w7 := ((HB1.out.alloc hz1 _).grown hgrow7 (by simp; omega) (fun j hj => by cases hj))
      rcases hown7'.2 with ⟨_, h0'⟩ | ⟨g7, cp, cur, e7, hg7, _⟩
      · omega
      · subst e7
        exact ⟨g7, cp, rfl, rfl, rfl, rfl, hg7, hown7', hb7⟩
    · go_wp2
      exact bodyPost_ret (v := .tuple #[.slice (some ⟨g', 0, none⟩) 1 c', .int .i64 size, .int .i64 0]) (by simp [results, Tryz.results40, go_sem]) rfl ⟨g', c', rfl, hg', hO, hB⟩
end Go.Proofs.YtlfingcmekifkaaGreat

namespace Go.Proofs.YtlfingcmekifkaaGreat
open Go.RowKit
theorem info_wordR : (Tryz.prog.info? 46).map (fun i => (i.zero, i.size, i.bytes)) = some (some (.int .u64 0), 1, 8) := by kernel_rfl
set_option maxRecDepth 100000 in
set_option maxHeartbeats 1000000 in
theorem plainWords1 {n : Int} {As Ab : Option Addr} {cs nb cb size : Nat} {sp : Int × Int × Int} {w : World} (h : SlSp w (.slice As 1 cs) [sp]) (hk : sp.1 ≠ 8) (hsz : size ≤ 65536) :
    Calls Tryz.prog 42 #[.int .i64 n, .slice As 1 cs, .slice Ab nb cb, .int .i64 size] w fun e w' => e = .returned (.slice (some ⟨w.heap.size, 0, none⟩) size size) ∧ w' = w.alloc (.cells (madeCells #[.int .u64 0] size) 46) := by
  obtain ⟨A, c, e, h1, h2, h3⟩ := h
  injection e with e1 e2 e3
  subst e1 e3
  obtain ⟨g, o, rfl, hg, hc⟩ := h3 0 sp rfl
  obtain ⟨x0, x1, x2⟩ := sp_cells hc
  simp only [Nat.zero_mul, Nat.add_zero] at x0 x1 x2
  have hcs : (cs : Int) ≤ 9223372036854775807 := by unfold maxLen at h2; omega
  have hmk : ∀ W, (Instr.makeSlice 28 (.int .i64 (size : Int)) (.int .i64 (size : Int))).run Tryz.prog W = .ok (.slice (some ⟨W.heap.size, 0, none⟩) size size) (W.alloc (.cells (madeCells #[.int .u64 0] size) 46)) :=
    fun W => run_make_row' (P := Tryz.prog) 28 46 (.int .u64 0) 8 Tryz.underlying28 info_wordR rfl .i64 .i64 size (by omega) (by omega) W
  have d0 : (sp.1 == 8) = false := by simpa using hk
  clear h1 h2 e2 h3 hc hk
  obtain ⟨s0, s1, s2⟩ := sp
  simp only at x0 x1 x2 d0
  obtain ⟨W1, hW1⟩ : ∃ W, W = w.alloc (.cells (madeCells #[.int .u64 0] size) 46) := ⟨_, rfl⟩
  have hb : Below w.heap.size w W1 := by rw [hW1]; exact (Below.refl _ _).alloc (Nat.le_refl _) _
  replace x0 := (hb.cell (p := ⟨g, o, none⟩) hg).trans x0
  have HW := hide hW1
  clear x1 x2 hb
  go_enter Tryz.func42, Tryz.ntmps42
  go_upto_region 2 with fail
  rw [← hW1]
  clear hW1
  go_wp2
  go_loopw [15] (fun k wr => (k = .int .i64 0 ∨ k = .int .i64 1) ∧ wr = W1) (fun k _ => 1 - (intOf k).toNat)
  case atStart => exact ⟨Or.inl rfl, rfl⟩
  case round =>
    obtain ⟨hk, rfl⟩ := hrel
    rcases hk with rfl | rfl
    · go_wp2
      go_roundw
      case rel => first | exact ⟨Or.inr rfl, trivial⟩ | simp
      case measure => simp [intOf]
    · go_wp2
      go_ret
      exact ⟨rfl, HW.out⟩
end Go.Proofs.YtlfingcmekifkaaGreat

namespace Go.Proofs.YtlfingcmekifkaaGreat
open Go.RowKit
attribute [local go_sem] run_store_fn run_store_nilfn
theorem wpList_dup {W0 : World} {ops : Array Oper} {rest : List Oper} {o : Oper} {a : Act} {Q : Exit → Act → World → Prop} (hgd : o.guard = none) (s x : Operand)
    (ho : o.op = .call { callee := .builtin .append, args := #[s, x], argTypes := #[28, 28] }) {b : Nat} (hs : a.eval s = .slice (some ⟨b, 0, none⟩) 0 0) (hb : b = W0.heap.size)
    {src : Value} (hx : a.eval x = src) {st : List Int} (h : SlW W0 src st) (hm : st.length ≤ 1000000)
    (hK : ∀ v' w', WRow w' b v' st → Below b W0 w' → wpList Tryz.prog ops Q rest (a.put o.dst v') w') : wpList Tryz.prog ops Q (o :: rest) a (W0.alloc (.cells #[] 46)) := by
  subst hb
  obtain ⟨i0, hi, hz0, hz1, hz2⟩ := info_parts info_wordR
  have h' := h.alloc (.cells #[] 46)
  obtain ⟨A, c, rfl, _⟩ := id h
  refine wpList_append_sl (kk := .u64) hgd s x 28 ho W0.heap.size 46 i0 (.int .u64 0) 8 Tryz.underlying28 hi hz0 hz1 hz2 rfl _ 0 [] hs (World.ownsRow_made W0 #[] 0 (Nat.le_refl _) (Nat.zero_le _) rfl) A _ c st hx h' (by unfold maxLen; omega) (by omega) (by simp) ?_
  intro v' w' h1 h2 _
  refine hK v' w' ?_ (((Below.refl _ W0).alloc (Nat.le_refl _) _).grown h2 (by simp) (fun k hk => ?_))
  · unfold WRow
    simpa using h1
  · have := Option.some.inj (show some W0.heap.size = some k from hk)
    omega
abbrev memV (v : Value) : Value := .agg #[v, .int .i64 0, .int .i64 0, .int .i64 0, .int .i64 0, .int .i64 0]
set_option maxRecDepth 100000 in
set_option maxHeartbeats 2000000 in
theorem memOf_any (v : Value) (st : List Int) (w : World) (h : SlW w v st) (hm : st.length ≤ 1000000) :
    Calls Tryz.prog 41 #[v] w fun e w' => ∃ u, e = .returned (memV u) ∧ WRow w' w.heap.size u st ∧ Below w.heap.size w w' := by
  have H := hide h
  obtain ⟨A, c, rfl, _⟩ := h
  go_enter Tryz.func41, Tryz.ntmps41
  go_wp2_with (at_builtin; refine wpList_dup rfl _ _ rfl rfl (by first | rfl | (simp; done) | simp) rfl (H.out.alloc _) hm ?_; intro v5 w5 hown5 hB5; have hans := (hB5.block w.heap.size (by simp)).trans (heap_alloc_new w (.cells #[.slice none 0 0, .int .i64 0, .int .i64 0, .int .i64 0, .int .i64 0, .int .i64 0] 90)); obtain ⟨A5, c5, rfl⟩ := own_slice hown5; obtain ⟨z0, z1, z2, z3, z4, z5, rz⟩ := cells6 hans; have HO5 := hide hown5; have HB5 : Hid (Below w.heap.size w w5) := hide (((Below.refl _ w).alloc (Nat.le_refl _) _).trans (hB5.mono (by simp))); have fz : ∀ j, w5.frozen? ⟨w.heap.size, j, none⟩ = false := (fun j => frozen_of_row w5 _ j _ _ hans); have f0 := fz 0; have f1 := fz 1; have f2 := fz 2; have f3 := fz 3; have f4 := fz 4; have f5 := fz 5; clear hans hown5 hB5 fz)
  refine bodyPost_ret (v := memV (.slice A5 st.length c5)) (by simp [results, Tryz.results41, go_sem, *]) rfl ⟨_, rfl, ?_, ?_⟩
  · refine owns_base (base := w.heap.size + 1) (owns_keepB (S := fun j => j ≠ w.heap.size) (owns_base HO5.out (by simp)) ?_ (fun j hj _ => by omega)) (by omega)
    (repeat' (first | with_reducible assumption | with_reducible exact Keep.refl _ _ | with_reducible refine Keep.drew ?_ | with_reducible refine Keep.drewN ?_ _ | with_reducible refine Keep.setCell ?_ ?_ _ | with_reducible refine Keep.alloc ?_ ?_ _ | (intro k hk; omega) | (intro k hk; simp at hk ⊢; omega) | omega | (simp; done) | (simp; omega)))
  · have hq := HB5.out
    (repeat' (first | with_reducible assumption | with_reducible exact Below.refl _ _ | with_reducible refine Below.drew ?_ | with_reducible refine below_drewN ?_ _ | with_reducible refine Below.alloc ?_ ?_ _ | with_reducible refine Below.setCell ?_ ?_ _ | omega | (simp; done) | (simp; omega)))
set_option maxRecDepth 100000 in
set_option maxHeartbeats 1000000 in
theorem plainLate {w : World} {hb wp q th n mb mo cm : Nat} (sp : Int × Int × Int) (c : Cl) (nn b : Int) {mv : Value} (c0 : w.cell? ⟨hb, q, none⟩ = some (.pointer (some ⟨wp, 0, none⟩))) (c1 : w.cell? ⟨hb, q + 1, none⟩ = some (.int .i64 (th : Int))) (c7 : w.cell? ⟨wp, 7, none⟩ = some (.slice (some ⟨mb, mo, none⟩) n cm)) (cx : w.cell? ⟨mb, mo + th, none⟩ = some mv) (ht : th < n) (hz : hb < w.heap.size ∧ wp < w.heap.size ∧ mb < w.heap.size) (hk : sp.1 ≠ 4) :
    Calls Tryz.prog 47 #[.pointer (some ⟨hb, q, none⟩), .int .i64 nn, .int .i64 b, spV sp.1 sp.2.1 sp.2.2, clV c] w fun e w' => e = .returned mv ∧ Below w.heap.size w w' := by
  have d0 : (sp.1 == 4) = false := by simpa using hk
  have ht' : (th : Int) < (n : Int) := by omega
  obtain ⟨z0, z1, z2⟩ := hz
  unfold spV clV
  clear hk
  go_enter Tryz.func47, Tryz.ntmps47
  go_wp2_with fail
  refine wp_region_seq (fun Y => Y.cell? ⟨hb, q, none⟩ = some (.pointer (some ⟨wp, 0, none⟩)) ∧ Y.cell? ⟨hb, q + 1, none⟩ = some (.int .i64 (th : Int)) ∧ Y.cell? ⟨wp, 7, none⟩ = some (.slice (some ⟨mb, mo, none⟩) n cm) ∧ Y.cell? ⟨mb, mo + th, none⟩ = some mv) (.take 0 <| .take 1 <| .take 2 <| .take 3 <| .take 4 <| .take 5 <| .take 6 <| .take 7 <| .take 8 <| .take 9 <| .take 10 <| .take 11 <| .take 12 <| .take 13 <| .done) (by kernel_rfl) (by kernel_rfl) (by kernel_rfl) (by refine ⟨?_, ?_, ?_, ?_⟩ <;> go_simp) ?_
  iterate 14 (refine seq_take (v := ?_) rfl (by rfl) ?_ ?_; rotate_left; (focus (intro wS hS; obtain ⟨s0, s1, s2, s3⟩ := hS; go_simp; exact rfl)); simp only [Act.put, List.setIfInBounds_toArray, List.set_cons_zero, List.set_cons_succ])
  refine seq_nil ?_
  go_wp2
  go_ret
  refine ⟨rfl, ?_⟩
  (repeat' (first | with_reducible assumption | with_reducible exact Below.refl _ _ | with_reducible refine Below.drew ?_ | with_reducible refine below_drewN ?_ _ | with_reducible refine Below.alloc ?_ ?_ _ | with_reducible refine Below.setCell ?_ ?_ _ | omega | (simp; done) | (simp; omega)))
end Go.Proofs.YtlfingcmekifkaaGreat

namespace Go.Proofs.YtlfingcmekifkaaGreat
open Go.RowKit
theorem owns_max {w : World} {base sz n : Nat} {e : TypeId} {v : Value} {xs : List Value} (h : w.ownsRow base e sz v n xs) : n ≤ maxLen := by
  rcases h.2 with ⟨_, h0⟩ | ⟨g, cap, cur, _, _, _, h1, h2, _⟩
  · omega
  · omega
theorem ev_of {w : World} {B : Nat} {Mu : Nat → Prop} {v : Value} {es : List Ep} (h : EvsAt w B Mu v es) (hn : 0 < es.length) : ∃ g c, v = .slice (some ⟨g, 0, none⟩) es.length c ∧ B ≤ g ∧ g < w.heap.size ∧ ∀ (k : Nat) (e : Ep), es[k]? = some e → ∃ x : Ev, EvIs w Mu x e ∧ ∀ (j : Nat) (u : Value), (evEnc x)[j]? = some u → w.cell? ⟨g, k * 8 + j, none⟩ = some u := by
  obtain ⟨raw, hrow, hrl, hre⟩ := h.row
  obtain ⟨g, c, rfl, hg, hz⟩ := own_some' hrow hn
  refine ⟨g, c, rfl, hg, hz, fun k e he => ?_⟩
  obtain ⟨x, hx⟩ : ∃ x, raw[k]? = some x := ⟨_, List.getElem?_eq_getElem (by rw [hrl]; exact (List.getElem?_eq_some_iff.1 he).1)⟩
  exact ⟨x, hre k x e hx he, fun j u hu => row_cells hrow hx hrl j u hu⟩
theorem evs_len {w : World} {B : Nat} {Mu : Nat → Prop} {v : Value} {es : List Ep} (h : EvsAt w B Mu v es) : ∃ A c, v = .slice A es.length c ∧ es.length ≤ maxLen := by
  obtain ⟨raw, hrow, hrl, hre⟩ := h.row
  obtain ⟨A, c, e⟩ := own_slice hrow
  exact ⟨A, c, e, owns_max hrow⟩
theorem ev_at {w : World} {B c : Nat} {Mu : Nat → Prop} {A : Option Addr} {es : List Ep} (h : EvsAt w B Mu (.slice A es.length c) es) {k : Nat} {e : Ep} (he : es[k]? = some e) : ∃ g, A = some ⟨g, 0, none⟩ ∧ g < w.heap.size ∧ ∃ x : Ev, EvIs w Mu x e ∧ w.cell? ⟨g, k * 8, none⟩ = some (.int .i64 e.call) ∧ w.cell? ⟨g, k * 8 + 1, none⟩ = some (.int .i64 e.inv) ∧ w.cell? ⟨g, k * 8 + 2, none⟩ = some (.int .i64 e.resp) ∧
    w.cell? ⟨g, k * 8 + 3, none⟩ = some (.int .i64 e.steps) ∧ w.cell? ⟨g, k * 8 + 4, none⟩ = some (.int .i64 e.ans.err) ∧ w.cell? ⟨g, k * 8 + 5, none⟩ = some (.int .u64 e.ans.val) ∧ w.cell? ⟨g, k * 8 + 6, none⟩ = some (.slice x.lA x.lN x.lC) ∧ w.cell? ⟨g, k * 8 + 7, none⟩ = some (.slice x.kA x.kN x.kC) := by
  have hl := (List.getElem?_eq_some_iff.1 he).1
  obtain ⟨g, c', e1, _, hz, hx⟩ := ev_of h (by omega)
  obtain ⟨x, hi, hr⟩ := hx k e he
  cases e1
  refine ⟨g, rfl, hz, x, hi, ?_, ?_, ?_, ?_, ?_, ?_, ?_, ?_⟩
  · rw [← hi.call]; exact hr 0 _ rfl
  · rw [← hi.inv]; exact hr 1 _ rfl
  · rw [← hi.resp]; exact hr 2 _ rfl
  · rw [← hi.steps]; exact hr 3 _ rfl
  · rw [← hi.err]; exact hr 4 _ rfl
  · rw [← hi.val]; exact hr 5 _ rfl
  · exact hr 6 _ rfl
  · exact hr 7 _ rfl
theorem EvsAt.below {w w' : World} {B : Nat} {Mu : Nat → Prop} {v : Value} {es : List Ep} (h : EvsAt w B Mu v es) (hb : Below w.heap.size w w') : EvsAt w' B Mu v es := by
  obtain ⟨raw, hrow, hrl, hre⟩ := h.row
  have hk := Keep.of_below (K := fun k => k < w.heap.size) hb (fun k hk => hk)
  exact h.keep hk (fun k hk _ => hk) (fun k _ hm => hm) (fun k hk => (World.ownsRow.lt hrow k hk).2)
end Go.Proofs.YtlfingcmekifkaaGreat

namespace Go.Proofs.YtlfingcmekifkaaGreat
open Go.RowKit
section
variable {M O : Type} {T : Th M O} {Q : An → Prop}
end
theorem chk_calls {n : Int} {cs : List Cl} {np : Nat} (h : chkE n cs np = 0) : (1 ≤ n ∧ n ≤ 16) ∧ cs.length ≤ 1000 ∧ np ≤ 65536 ∧ ∀ c ∈ cs, 0 ≤ c.thread ∧ c.thread < n := by
  unfold chkE at h
  split at h
  · cases h
  · rename_i h1
    split at h
    · cases h
    · rename_i h2
      refine ⟨by omega, by omega, by omega, ?_⟩
      unfold wrongE at h
      split at h
      · cases h
      · split at h
        · cases h
        · split at h
          · rename_i ha
            intro c hc
            have := List.all_eq_true.1 ha c hc
            simp at this
            exact this
          · cases h
end Go.Proofs.YtlfingcmekifkaaGreat
