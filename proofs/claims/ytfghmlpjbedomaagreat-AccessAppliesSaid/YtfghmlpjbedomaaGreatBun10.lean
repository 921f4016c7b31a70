/- A play whose memory gets a hook, ahead of the first turn. -/
/- Regions side by side (package region): Lay. -/
/- What objects are made by (api.Spec), as plain data. -/
import Derived.Test.YtfghmlpjbedomaaGreatTa4
import Derived.Test.YtfghmlpjbedomaaGreatBun5
import Derived.Test.YtfghmlpjbedomaaGreatBun1
import Derived.Test.YtfghmlpjbedomaaGreatProg
import Derived.Maps.AppendAt
import Derived.Test.YtfghmlpjbedomaaGreatBase
namespace Go.Proofs.YtfghmlpjbedomaaGreat
open Go.RowKit

theorem PLa.rehook {M0 O0 M O : Type} {T0 : Th M0 O0} {T : Th M O} {X : Fix} {w w' : World} {Mu Fo : Nat → Prop} {Fm : Nat → Nat → Prop} {hv : Nat → Value} {ev : Value} {P : Ps M0 O0} (h : PLa T0 X w Mu Fo Fm hv ev P) (hh : ∀ t, P.hands t = none) (hobjs : T.objs = T0.objs) (hcl : ∀ c ∈ X.cs, T.cl c) {H : Value} {Fo' : Nat → Prop} {o' : O} (hO : T.OB w' Fo' o') (hF : ∀ k, Fo' k → w.heap.size ≤ k ∧ k < w'.heap.size)
    (hk : Keep (fun k => k < w.heap.size ∧ k ≠ X.ad.pm) w w') (hm : MemAt w' X.ad.pm X.ad.px H P.lw.mem) :
    PLa T { X with ad := { X.ad with hk := H } } w' (fun k => Mu k ∨ Fo' k) Fo' Fm hv ev ⟨P.lw, o', P.fin, fun _ => none, P.evs, P.idle⟩ := by
  obtain ⟨n1, n2, n3, n4, n5, n6, n7, n8, n9, n10, n11, n12⟩ := h.types
  have hlt := h.lt
  have h6 : ∀ k, X.six k → k < w.heap.size := fun k hk => hlt k (h.muFix k hk)
  have hmu : Mu X.ad.pm := h.muFix _ (Or.inr (Or.inr (Or.inr (Or.inr (Or.inl rfl)))))
  have hS : ∀ k, k < w.heap.size → ¬ Mu k → k < w.heap.size ∧ k ≠ X.ad.pm := fun k h1 h2 => ⟨h1, fun e => h2 (e ▸ hmu)⟩
  have hM : ∀ k, k < w.heap.size → (Mu k ∨ Fo' k) → Mu k := fun k h1 h2 => by
    rcases h2 with h2 | h2
    · exact h2
    · have := (hF k h2).1; omega
  have hplpm : X.ad.pl ≠ X.ad.pm := by
    obtain ⟨_, b1, _⟩ := h.world.mem.blk
    obtain ⟨_, h7⟩ := h.line.line
    intro e
    rw [e, b1] at h7; injection h7 with h1; injection h1 with _ h1 _; exact absurd h1 (by decide)
  have hpgpm : X.ad.pg ≠ X.ad.pm := by
    obtain ⟨_, b1, _⟩ := h.world.mem.blk
    obtain ⟨_, ⟨_, _, h7, _⟩, _⟩ := h.line.map
    intro e
    rw [e, b1] at h7; cases h7
  have hwn := h.world.cells
  have hpwpm : X.ad.pw ≠ X.ad.pm := by
    obtain ⟨_, b1, _⟩ := h.world.mem.blk
    obtain ⟨f', ⟨c2, h2, _⟩, _⟩ := h.world.cells
    intro e
    rw [e, b1] at h2; injection h2 with h1; injection h1 with _ h1 _; exact absurd h1 (by decide)
  have hptpm : X.ad.pt ≠ X.ad.pm := n12
  have hppS : X.ad.pp < w.heap.size ∧ X.ad.pp ≠ X.ad.pm := ⟨h6 _ (Or.inl rfl), n2⟩
  obtain ⟨f, f1, f2, f3, f4, f5, f6', f7, f8⟩ := h.player
  obtain ⟨g, g1, g2, g3, g4, g5⟩ := h.world.cells
  obtain ⟨mp, mp1, mp2⟩ := h.world.notes
  refine ⟨⟨f, rowIs_keep f1 hk hppS, f2, f3, f4, f5, fun t ht => ⟨(f6' t ht).1, fun m hh hm => (by cases hm), (f6' t ht).2.2⟩, f7, f8⟩, ⟨hm, ⟨g, rowIs_keep g1 hk ⟨h6 _ (Or.inr (Or.inr (Or.inr (Or.inl rfl)))), hpwpm⟩, g2, g3, g4, fun t ht => ⟨(g5 t ht).1, (g5 t ht).2.keep hk hS hM⟩⟩, ⟨mp, mp1.of_block (hk.block _ ⟨h6 _ (Or.inr (Or.inr (Or.inr (Or.inr (Or.inr (Or.inr rfl)))))), hptpm⟩), fun a => ?_⟩⟩, h.line.keep hk ⟨h6 _ (Or.inr (Or.inl rfl)), hplpm⟩ ⟨h6 _ (Or.inr (Or.inr (Or.inl rfl))), hpgpm⟩ (fun k h1 h2 => ⟨by have := h.gap2; omega, fun e => by have := h.gap k (e ▸ hmu); omega⟩), hO, fun t _ ht => h.hnone t (hh t) ht, fun t m hh hm => (by cases hm), h.evs.keep hk hS hM (fun k hk' => ⟨hlt k (h.muEv k hk').1, fun e => (h.muEv k hk').2.1 (e ▸ Or.inr (Or.inr (Or.inr (Or.inr (Or.inl rfl)))))⟩), fun k hk' => Or.inl (h.muFix k hk'), fun k hk' => ⟨Or.inl (h.muEv k hk').1, (h.muEv k hk').2.1, fun hf => by have := (hF k hf).1; have := hlt k (h.muEv k hk').1; omega, fun t m hh hm => (by cases hm)⟩, fun k hk' => ⟨Or.inr hk', fun hs => by have := (hF k hk').1; have := h6 k hs; omega⟩, fun t m hh k hm => (by cases hm), fun t s m hh m' hh' k _ hm => (by cases hm), fun k hk' => ?_, fun k hk' => ?_, ⟨h.gap2.1, Nat.le_trans h.gap2.2 hk.size⟩, h.ne, ?_, ?_, h.fin, fun c hc => ⟨(h.thr c hc).1, (h.thr c hc).2.1, (h.thr c hc).2.2.1, hcl c hc⟩⟩
  · rcases mp2 a with h1 | ⟨v, h1, h2⟩
    · exact Or.inl h1
    · exact Or.inr ⟨v, h1, h2.keep hk hS hM⟩
  · rcases hk' with h1 | h1
    · exact Nat.lt_of_lt_of_le (hlt k h1) hk.size
    · exact (hF k h1).2
  · rcases hk' with h1 | h1
    · exact h.gap k h1
    · exact Or.inr (Nat.le_trans h.gap2.2 (hF k h1).1)
  · obtain ⟨A, c, e1, e2, e3, e4⟩ := h.calls
    refine ⟨A, c, e1, sl_keepG e2 hk (fun a ha hl => hS _ (sl_block e2 ha hl) (e4 a ha hl)), e3, fun a ha hl hm => ?_⟩
    exact e4 a ha hl (hM _ (sl_block e2 ha hl) hm)
  · obtain ⟨A, c, e1, e2, e4⟩ := h.ovs
    rw [hobjs]
    exact ⟨A, c, e1, sl_keepG e2 hk (fun a ha hl => hS _ (sl_block e2 ha hl) (e4 a ha hl)), fun a ha hl hm => e4 a ha hl (hM _ (sl_block e2 ha hl) hm)⟩
/-- A hook is laid (Memory.Watch, Player.Watch). -/
theorem memWatch {pm px : Nat} {H H' : Value} {m : Mm} {w : World} (h : MemAt w pm px H m) : MemAt (w.setCell ⟨pm, 6, none⟩ H') pm px H' m := by
  obtain ⟨c, b1, b2, b3⟩ := h.blk
  obtain ⟨cur, r1, r2⟩ := h.row
  exact ⟨⟨c, (cells_set b1).trans rfl, b2, b3⟩, ⟨cur, (Below.heap_setCell _ _ _ _ (by simpa using h.ne.symm)).trans r1, r2⟩, h.len⟩
end Go.Proofs.YtfghmlpjbedomaaGreat

namespace Go.Proofs.YtfghmlpjbedomaaGreat
open Go.RowKit

def regE (xs : List Int) : Int := if xs.sum ≤ 65536 then 0 else 3
def regEnd (xs : List Int) : Int := if xs.sum ≤ 65536 then xs.sum else 0
def regL (xs : List Int) : List Int := if xs.sum ≤ 65536 then begins xs xs.length else []

def RegPost (xs : List Int) (w : World) (e : Ending) (w' : World) : Prop :=
  ∃ u, e = .returned (.tuple #[u, .int .i64 (regEnd xs), .int .i64 (regE xs)]) ∧ SlI w' u (regL xs) ∧ Below w.heap.size w w'
theorem regPost_ok {xs : List Int} {w w' : World} {u : Value} {E : Int} (h : xs.sum ≤ 65536) (hE : xs.sum = E) (hs : IOwn w' w.heap.size u xs.length (begins xs xs.length)) (hm : xs.length ≤ maxLen) (hb : Below w.heap.size w w') :
    RegPost xs w (.returned (.tuple #[u, .int .i64 E, .int .i64 0])) w' := by
  refine ⟨u, by unfold regEnd regE; rw [if_pos h, if_pos h, hE], ?_, hb⟩
  unfold regL
  rw [if_pos h]
  refine sl_of_owns (base := w.heap.size) (e := 3) ?_ (by rw [begins_length]; exact hm)
  rw [begins_length]
  exact hs
theorem regPost_no {xs : List Int} {w w' : World} (h : ¬ xs.sum ≤ 65536) (hb : Below w.heap.size w w') : RegPost xs w (.returned (.tuple #[.slice none 0 0, .int .i64 0, .int .i64 3])) w' := by
  refine ⟨_, by unfold regEnd regE; rw [if_neg h, if_neg h], ?_, hb⟩
  unfold regL
  rw [if_neg h]
  exact ⟨none, 0, rfl, Nat.le_refl _, Nat.zero_le _, fun k x hx => by simp at hx⟩

theorem iown_succ {w' : World} {B k : Nat} {v' : Value} {xs : List Int} {E : Int} (hE : psum xs k = E) (h : w'.ownsRow B 3 1 v' (k + 1) ((begins xs k).map (Value.int .i64) ++ [.int .i64 E])) : IOwn w' B v' (k + 1) (begins xs (k + 1)) := by
  unfold IOwn
  rw [begins_succ, List.map_append, hE]
  exact h

set_option maxRecDepth 100000 in
set_option maxHeartbeats 1000000 in
theorem regionLay (A : Option Addr) (n c : Nat) (xs : List Int) (w : World) (h : SlI w (.slice A n c) xs) (hn : xs.length = n) (hx : ∀ x ∈ xs, 0 ≤ x ∧ x ≤ 100000) (hl : n ≤ 1000) :
    Calls Tryz.prog 79 #[.slice A n c] w (RegPost xs w) := by
  have HN := hide hn
  have HX := hide hx
  have HZ : Hid (∀ x ∈ xs, 0 ≤ x) := fun x hx' => (hx x hx').1
  have HH := hide h
  clear hn hx h
  obtain ⟨j0, hj, hj0, hj1, hj2⟩ := info_parts info_int
  go_enter Tryz.func79, Tryz.ntmps79
  go_wp2
  go_loopw [5, 6, 11] (fun out en i wr => ∃ (k : Nat) (E : Int), k ≤ n ∧ en = .int .i64 E ∧ i = .int .i64 k ∧ Hid (psum xs k = E) ∧ 0 ≤ E ∧ E ≤ 65536 ∧ Hid (IOwn wr w.heap.size out k (begins xs k)) ∧ Hid (Below w.heap.size w wr)) (fun _ _ i _ => n - (intOf i).toNat)
  case atStart => exact ⟨0, 0, Nat.zero_le _, rfl, rfl, hide (psum_zero xs), by decide, by decide, hide (World.ownsRow_nil _ _ _ _), hide (Below.refl _ _)⟩
  case round =>
    obtain ⟨k, E, hk, rfl, rfl, hE, hE0, hE1, hown, hB⟩ := hrel
    by_cases hlt : k < n
    · obtain ⟨x, hxk⟩ : ∃ x, xs[k]? = some x := ⟨_, List.getElem?_eq_getElem (by have := HN.out; omega)⟩
      obtain ⟨hx0, hx1⟩ := HX.out x (List.mem_of_getElem? hxk)
      obtain ⟨A', c', e, _, _, h3⟩ := HH.out.below hB.out (Nat.le_refl _)
      obtain ⟨b, o, e', hb, hc⟩ := h3 k x hxk
      rw [HN.out] at e
      cases e
      cases e'
      have c0 := nt_cell hc
      simp only [Nat.mul_one] at c0
      have HS := hide (psum_succ hxk)
      have HK := hide hxk
      clear h3 hc hxk
      by_cases hbig : x ≤ 65536 - E
      · have hd : decide (65536 - E < x) = false := by simp; omega
        have hd0 : decide (x < 0) = false := by simp; omega
        have hown' := hown.out
        have hsz := hB.out.size
        go_wp2_with (at_builtin; refine wpList_append_own_at _ rfl _ _ 22 rfl w.heap.size 3 j0 (.int .i64 0) 1 8 Tryz.underlying22 hj hj0 hj1 hj2 rfl (by decide) _ k _ rfl (hown'.alloc _) ⟨wr.heap.size, 0, none⟩ 1 1 [.int .i64 E] rfl rfl (new_one _ _ _) (by simp [Value.oneCell']) (by unfold maxLen; omega) (by omega) (by simp; omega) ?_; intro v5 w5 hown5 hgrow _ _; have HO := hide (iown_succ hE.out hown5); have HB := hide ((hB.out.alloc hsz _).grown hgrow (by simp; omega) (fun j hj => (hown'.lt j hj).1)); clear hown5 hgrow hown' hown hB)
        go_roundw
        case rel => exact ⟨k + 1, E + x, by omega, rfl, by go_num, hide (by rw [HS.out, hE.out]), by omega, by omega, HO, HB⟩
        case measure => simp [intOf] <;> omega
      · have hd : decide (65536 - E < x) = true := by simp; omega
        have hd0 : decide (x < 0) = false := by simp; omega
        have hbad : Hid (65536 < xs.sum) := by
          show 65536 < xs.sum
          have h1 := psum_mono HZ.out (show k + 1 ≤ xs.length by have := HN.out; omega)
          rw [psum_all, HS.out, hE.out] at h1
          omega
        go_wp2
        go_ret3
        exact regPost_no (by have := hbad.out; omega) hB.out
    · go_wp2
      go_ret3
      obtain rfl : k = n := by omega
      have hs : xs.sum = E := by rw [← psum_all, HN.out]; exact hE.out
      exact regPost_ok (by omega) hs (by rw [HN.out]; exact hown.out) (by rw [HN.out]; unfold maxLen; omega) hB.out
end Go.Proofs.YtfghmlpjbedomaaGreat

namespace Go.Proofs.YtfghmlpjbedomaaGreat
open Go.RowKit

/-- What an object is made by. -/
structure Sp where
  kind : Int
  p : Int
  q : Int
def spEnc (s : Sp) : List Value := [.int .i64 s.kind, .int .i64 s.p, .int .i64 s.q]
abbrev spV (s : Sp) : Value := .agg #[.int .i64 s.kind, .int .i64 s.p, .int .i64 s.q]
abbrev SlSp := Sl spEnc 3

theorem spec_cells {w : World} {b p : Nat} {e : Sp} (h : CellsAt w b p (spEnc e)) :
    w.cell? ⟨b, p, none⟩ = some (.int .i64 e.kind) ∧ w.cell? ⟨b, p + 1, none⟩ = some (.int .i64 e.p) ∧ w.cell? ⟨b, p + 2, none⟩ = some (.int .i64 e.q) :=
  ⟨h 0 _ rfl, h 1 _ rfl, h 2 _ rfl⟩
end Go.Proofs.YtfghmlpjbedomaaGreat
