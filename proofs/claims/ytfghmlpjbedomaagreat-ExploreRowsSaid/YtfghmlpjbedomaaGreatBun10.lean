/- A play on a loom: what is so of objects and machines all along; one more block among the objects'. -/
/- The shared memory (package mem): Read, Write. -/
import Derived.Test.YtfghmlpjbedomaaGreatLo12
import Derived.Test.YtfghmlpjbedomaaGreatBun7
namespace Go.Proofs.YtfghmlpjbedomaaGreat
open Go.RowKit

theorem good_play {M O : Type} {T : Th M O} (hT : T.Ok) {cs : List Cl} (hcs : ∀ c ∈ cs, 0 ≤ c.thread ∧ c.thread < 16 ∧ ClU c ∧ T.cl c) (picks : List Int) : ∀ {P : Ps M O}, T.good P.obj P.lw P.ms → T.good (P.play T.G cs picks).obj (P.play T.G cs picks).lw (P.play T.G cs picks).ms := by
  induction picks with
  | nil => exact fun h => h
  | cons p l ih => exact fun h => ih (good_pick hT hcs h p)
/-- One more block among the objects'. -/
def Th.hold {M O : Type} (T : Th M O) (b : Nat) (c : Obj) : Th M O := { T with OB := fun w F o => ∃ F1, T.OB w F1 o ∧ (∀ k, F k ↔ F1 k ∨ k = b) ∧ ¬ F1 b ∧ w.heap[b]? = some c }
theorem Th.hold_ok {M O : Type} {T : Th M O} (hT : T.Ok) (b : Nat) (c : Obj) : (T.hold b c).Ok := by
  refine ⟨?_, ?_, hT.mlKeep, hT.alKeep, hT.mlLt, hT.mlIface, hT.objIface, ?_, hT.refuse, ?_, hT.still, hT.ans, hT.late, hT.goodStart, hT.goodTick, hT.goodStep⟩
  · rintro w w' F o S ⟨F1, h1, h2, h3, h4⟩ hk hS
    exact ⟨F1, hT.obKeep h1 hk (fun k hk => hS k ((h2 k).2 (Or.inl hk))), h2, h3, (hk.block b (hS b ((h2 b).2 (Or.inr rfl)))).trans h4⟩
  · rintro w F o ⟨F1, h1, h2, h3, h4⟩ k hk
    rcases (h2 k).1 hk with hk | rfl
    · exact hT.obLt h1 k hk
    · exact (Array.getElem?_eq_some_iff.1 h4).1
  · rintro w Fo o lw hs t j cl v ⟨F1, h1, h2, h3, h4⟩ hg hn ht hc hu hq ho hv
    have hbz := (Array.getElem?_eq_some_iff.1 h4).1
    obtain ⟨f, r, hd, hcall⟩ := hT.start h1 hg hn ht hc hu hq ho hv
    refine ⟨f, r, hd, fun pw => (hcall pw).mono ?_⟩
    rintro e w' ⟨Fo1, Fm1, u, he, a1, a2, a3, a4, a5, a6⟩
    refine ⟨fun k => Fo1 k ∨ k = b, Fm1, u, he, ⟨Fo1, a1, fun k => Iff.rfl, fun hb => ?_, (a6.block b ⟨hbz, h3⟩).trans h4⟩, a2, fun k hk => ?_, fun k hk => ?_, fun k hk hm => ?_, a6.mono (fun k hk => ⟨hk.1, fun hf => hk.2 ((h2 k).2 (Or.inl hf))⟩)⟩
    · rcases a3 b hb with h | h
      · exact h3 h
      · omega
    · rcases hk with hk | rfl
      · rcases a3 k hk with h | h
        · exact Or.inl ((h2 k).2 (Or.inl h))
        · exact Or.inr h
      · exact Or.inl ((h2 k).2 (Or.inr rfl))
    · rcases a4 k hk with h | h
      · exact Or.inl ((h2 k).2 (Or.inl h))
      · exact Or.inr h
    · rcases hk with hk | rfl
      · exact a5 k hk hm
      · rcases a4 k hm with h | h
        · exact h3 h
        · omega
  · rintro w Fo Fm v m o lw hs ad Mu t ⟨F1, h1, h2, h3, h4⟩ hML hw hh hg hn0 hn1 ht c1 c2 c3 c4 c5
    have hbz := (Array.getElem?_eq_some_iff.1 h4).1
    have hFb := (h2 b).2 (Or.inr rfl)
    obtain ⟨cm, c4'⟩ := c1 b hFb
    obtain ⟨f, r, hd, hcall⟩ := hT.step h1 hML hw hh hg hn0 hn1 ht (fun k hk => c1 k ((h2 k).2 (Or.inl hk))) c2 (fun k hk => c3 k (by rcases hk with hk | hk; exact Or.inl ((h2 k).2 (Or.inl hk)); exact Or.inr hk)) c4 c5
    refine ⟨f, r, hd, hcall.mono ?_⟩
    rintro e w' ⟨Fo1, Fm1, he, a1, a2, a2', a3, a4, a5, a6⟩
    have hnb : ∀ k, Fo1 k ∨ Fm1 k → k ≠ b := by
      rintro k hk rfl
      rcases a4 _ hk with h | h | h
      · exact h3 h
      · exact cm h
      · omega
    refine ⟨fun k => Fo1 k ∨ k = b, Fm1, he, ⟨Fo1, a1, fun k => Iff.rfl, fun hb => hnb b (Or.inl hb) rfl, (a6.block b ⟨hbz, h3, cm, c4'⟩).trans h4⟩, a2, a2', ?_, fun k hk => ?_, fun k hk hm => ?_, a6.mono (fun k hk => ⟨hk.1, fun hf => hk.2.1 ((h2 k).2 (Or.inl hf)), hk.2.2.1, hk.2.2.2⟩)⟩
    · refine a3.keep (Keep.refl (fun _ => True) w') (fun _ _ _ => trivial) (fun k _ hk => ?_) trivial trivial trivial trivial
      rcases hk with hk | hk | hk
      · exact Or.inl ⟨hk.1, fun hf => hk.2.1 ((h2 k).2 (Or.inl hf)), hk.2.2⟩
      · rcases hk with hk | rfl
        · exact Or.inr (Or.inl hk)
        · exact Or.inl ⟨c3 _ (Or.inl hFb), h3, cm⟩
      · exact Or.inr (Or.inr hk)
    · rcases hk with (hk | rfl) | hk
      · rcases a4 k (Or.inl hk) with h | h
        · exact Or.inl ((h2 k).2 (Or.inl h))
        · exact Or.inr h
      · exact Or.inl hFb
      · rcases a4 k (Or.inr hk) with h | h
        · exact Or.inl ((h2 k).2 (Or.inl h))
        · exact Or.inr h
    · rcases hk with hk | rfl
      · exact a5 k hk hm
      · exact hnb _ (Or.inr hm) rfl
end Go.Proofs.YtfghmlpjbedomaaGreat

namespace Go.Proofs.YtfghmlpjbedomaaGreat
open Go.RowKit
attribute [local go_sem] run_store_fn run_store_nilfn

theorem cntRead (p : Nat) (w : World) : Calls Tryz.prog 182 #[.pointer (some ⟨p, 1, none⟩)] w fun e w' => e = .returned (.pointer (some ⟨p, 1, none⟩)) ∧ w = w' := by
  go_enter Tryz.func182, Tryz.ntmps182
  go_wp2
  go_ret
  exact ⟨rfl, rfl⟩
theorem cntWrite (p : Nat) (w : World) : Calls Tryz.prog 203 #[.pointer (some ⟨p, 1, none⟩)] w fun e w' => e = .returned (.pointer (some ⟨p, 2, none⟩)) ∧ w = w' := by
  go_enter Tryz.func203, Tryz.ntmps203
  go_wp2
  go_ret
  exact ⟨rfl, rfl⟩
theorem doRead (px k b : Nat) (x : Int) (w : World) (h1 : w.cell? ⟨px, k, none⟩ = some (.int .u64 x)) (h2 : w.cell? ⟨b, 0, none⟩ = some (.int .u64 0)) (h3 : w.frozen? ⟨b, 0, none⟩ = false) :
    Calls Tryz.prog 183 #[.pointer (some ⟨px, k, none⟩), .pointer (some ⟨b, 0, none⟩)] w fun e w' => e = .returned (.tuple #[]) ∧ w' = w.setCell ⟨b, 0, none⟩ (.int .u64 x) := by
  go_enter Tryz.func183, Tryz.ntmps183
  go_wp2
  go_end0
  exact ⟨rfl, rfl⟩
theorem doWrite (px k b : Nat) (x y : Int) (w : World) (h1 : w.cell? ⟨px, k, none⟩ = some (.int .u64 x)) (h2 : w.cell? ⟨b, 0, none⟩ = some (.int .u64 y)) (h3 : w.frozen? ⟨px, k, none⟩ = false) :
    Calls Tryz.prog 204 #[.pointer (some ⟨px, k, none⟩), .pointer (some ⟨b, 0, none⟩)] w fun e w' => e = .returned (.tuple #[]) ∧ w' = w.setCell ⟨px, k, none⟩ (.int .u64 y) := by
  go_enter Tryz.func204, Tryz.ntmps204
  go_wp2
  go_end0
  exact ⟨rfl, rfl⟩
set_option maxRecDepth 100000 in
set_option maxHeartbeats 1000000 in
theorem accRead (pm px k b : Nat) (m : Mm) (w : World) (h : MemAt w pm px .nilFunc m) (hk : k < m.words.length) (hb : w.heap[b]? = some (.cells #[.int .u64 0] 37 (0, 0))) (_hne : b ≠ px) (_hnm : b ≠ pm) :
    Calls Tryz.prog 181 #[.pointer (some ⟨pm, 0, none⟩), .int .i64 0, .int .i64 k, .func (.func 182) #[] #[], .func (.func 183) #[] #[.pointer (some ⟨b, 0, none⟩)]] w fun e w' =>
      e = .returned (.tuple #[]) ∧ w' = (w.setCell ⟨pm, 1, none⟩ (.int .i64 (wrap64 (wrap64 m.rd + 1)))).setCell ⟨b, 0, none⟩ (.int .u64 (m.at k)) := by
  obtain ⟨c, a0, a1, a2, a3, a4, a5, a6, hc, hcm⟩ := h.cells
  obtain ⟨x0, x1⟩ := h.word hk
  have f1 := h.frozen 1
  obtain ⟨z0, z1⟩ := h.lt
  have hpp := h.ne
  have g0 : w.cell? ⟨b, 0, none⟩ = some (.int .u64 0) := cell_of_row w b 0 _ _ _ hb
  have g1 : w.frozen? ⟨b, 0, none⟩ = false := frozen_of_row w b 0 _ _ hb
  have gz : b < w.heap.size := (Array.getElem?_eq_some_iff.1 hb).1
  have hl := h.len
  have d0 : decide (m.words.length ≤ k) = false := by simpa using hk
  have qF : ∀ W, (binOp .neq 184 .nilFunc .nilFunc).run Tryz.prog W = .ok (.bool false) W := fun _ => by kernel_rfl
  clear h hb
  go_enter Tryz.func181, Tryz.ntmps181
  go_wp2_with fail
  refine (cntRead _ _).mono ?_
  rintro e w1 ⟨rfl, rfl⟩
  go_wp2_with fail
  refine (doRead px k b (m.at k) _ (by go_simp) (by go_simp) (by go_simp)).mono ?_
  rintro e w2 ⟨rfl, rfl⟩
  go_wp2
  go_end0
  exact ⟨rfl, rfl⟩

set_option maxRecDepth 100000 in
set_option maxHeartbeats 1000000 in
theorem accWrite (pm px k b : Nat) (v : Int) (m : Mm) (w : World) (h : MemAt w pm px .nilFunc m) (hk : k < m.words.length) (g0 : w.cell? ⟨b, 0, none⟩ = some (.int .u64 v)) (_gz : b < w.heap.size) (_hne : b ≠ px) (_hnm : b ≠ pm) :
    Calls Tryz.prog 181 #[.pointer (some ⟨pm, 0, none⟩), .int .i64 1, .int .i64 k, .func (.func 203) #[] #[], .func (.func 204) #[] #[.pointer (some ⟨b, 0, none⟩)]] w fun e w' =>
      e = .returned (.tuple #[]) ∧ w' = (w.setCell ⟨pm, 2, none⟩ (.int .i64 (wrap64 (wrap64 m.wr + 1)))).setCell ⟨px, k, none⟩ (.int .u64 v) := by
  obtain ⟨c, a0, a1, a2, a3, a4, a5, a6, hc, hcm⟩ := h.cells
  have f1 := h.frozen 1
  have f2 := h.frozen 2
  have f3 := h.frozen 3
  have f4 := h.frozen 4
  have f5 := h.frozen 5
  obtain ⟨z0, z1⟩ := h.lt
  have hpp := h.ne
  have hl := h.len
  have qF : ∀ W, (binOp .neq 184 .nilFunc .nilFunc).run Tryz.prog W = .ok (.bool false) W := fun _ => by kernel_rfl
  obtain ⟨x0, x1⟩ := h.word hk
  have d0 : decide (m.words.length ≤ k) = false := by simpa using hk
  clear h
  go_enter Tryz.func181, Tryz.ntmps181
  go_wp2_with fail
  refine (cntWrite _ _).mono ?_
  rintro e w1 ⟨rfl, rfl⟩
  go_wp2_with fail
  refine (doWrite px k b (m.at k) v _ (by go_simp) (by go_simp) (by go_simp)).mono ?_
  rintro e w2 ⟨rfl, rfl⟩
  go_wp2
  go_end0
  exact ⟨rfl, rfl⟩
set_option maxRecDepth 100000 in
set_option maxHeartbeats 1000000 in
theorem accOut (pm px : Nat) (kind a : Int) (cv dv : Value) (m : Mm) (w : World) (h : MemAt w pm px .nilFunc m) (hk : ¬ m.in a) :
    Calls Tryz.prog 181 #[.pointer (some ⟨pm, 0, none⟩), .int .i64 kind, .int .i64 a, cv, dv] w fun e w' =>
      e = .returned (.tuple #[]) ∧ w' = w.setCell ⟨pm, 5, none⟩ (.int .i64 (wrap64 (wrap64 m.ft + 1))) := by
  obtain ⟨c, a0, a1, a2, a3, a4, a5, a6, hc, hcm⟩ := h.cells
  have f1 := h.frozen 1
  have f2 := h.frozen 2
  have f3 := h.frozen 3
  have f4 := h.frozen 4
  have f5 := h.frozen 5
  obtain ⟨z0, z1⟩ := h.lt
  have hpp := h.ne
  have hl := h.len
  have qF : ∀ W, (binOp .neq 184 .nilFunc .nilFunc).run Tryz.prog W = .ok (.bool false) W := fun _ => by kernel_rfl
  have hcase : a < 0 ∨ 0 ≤ a ∧ (m.words.length : Int) ≤ a := by unfold Mm.in at hk; omega
  clear h hk
  rcases hcase with ha | ⟨ha, hb⟩
  · have d0 : decide (a < 0) = true := by simpa using ha
    go_enter Tryz.func181, Tryz.ntmps181
    go_wp2
    ((try simp only [Exit.inBlock, Exit.then]); refine bodyPost_ret (results_none rfl _ _ _) rfl ?_)
    exact ⟨rfl, rfl⟩
  · have d0 : decide (a < 0) = false := by simpa using ha
    have d1 : decide ((m.words.length : Int) ≤ a) = true := by simpa using hb
    go_enter Tryz.func181, Tryz.ntmps181
    go_wp2
    ((try simp only [Exit.inBlock, Exit.then]); refine bodyPost_ret (results_none rfl _ _ _) rfl ?_)
    exact ⟨rfl, rfl⟩
end Go.Proofs.YtfghmlpjbedomaaGreat
