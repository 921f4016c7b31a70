/- All plays of two threads that propose (law 35's known case), as plain data. No program in sight. -/
/- How a law reads the events that are told. -/
import Derived.Test.YtfghmlpjbedomaaGreatBun12
import Derived.Test.YtfghmlpjbedomaaGreatBun1
import Derived.Test.YtfghmlpjbedomaaGreatBun11
namespace Go.Proofs.YtfghmlpjbedomaaGreat
open Go.RowKit

def exC : List Cl := [⟨0, 0, 0, 1, 0, 0⟩, ⟨1, 0, 0, 2, 0, 0⟩]
def exEvs (i : Nat) : List Ep := (cnPlay exC (rowD 2 4 i)).ends cnG
/-- How many steps an event had at most; and how many have responded. -/
def exMost (m : Int) (l : List Ep) : Int := l.foldl (fun m e => max m e.steps) m
def exDone (l : List Ep) : Nat := (l.filter fun e => decide (e.resp ≠ 0)).length
/-- Plays, those that are done, and most steps, of the first rows. -/
def exAll : Nat → Int × Int × Int
  | 0 => (0, 0, 0)
  | k + 1 => ((exAll k).1 + 1, (if exDone (exEvs k) = 2 then (exAll k).2.1 + 1 else (exAll k).2.1), exMost (exAll k).2.2 (exEvs k))
theorem exAll_16 : exAll 16 = (16, 6, 2) := by kernel_rfl
theorem ex_calls (i : Nat) (h : i < 16) : ((exEvs i).map (·.call)).Nodup ∧ ∀ e ∈ exEvs i, e.call < 2 := by
  have key : ∀ i : Fin 16, ((exEvs i).map (·.call)).Nodup ∧ ∀ e ∈ exEvs i, e.call < 2 := by
    decide +kernel
  exact key ⟨i, h⟩
end Go.Proofs.YtfghmlpjbedomaaGreat

namespace Go.Proofs.YtfghmlpjbedomaaGreat
open Go.RowKit

theorem owns_max {w : World} {base sz n : Nat} {e : TypeId} {v : Value} {xs : List Value} (h : w.ownsRow base e sz v n xs) : n ≤ maxLen := by
  rcases h.2 with ⟨_, h0⟩ | ⟨g, cap, cur, _, _, _, h1, h2, _⟩
  · omega
  · omega
/-- The events that are told are the play's, but for keys. -/
theorem ends_get {M O : Type} {G : Gm M O} {P : Ps M O} {h : Nat} {e : Ep} (he : (P.ends G)[h]? = some e) : ∃ e0, P.evs[h]? = some e0 ∧ e.call = e0.call ∧ e.inv = e0.inv ∧ e.resp = e0.resp ∧ e.steps = e0.steps ∧ e.ans = e0.ans := by
  rw [← endsK_all] at he
  have key : ∀ k (e : Ep), (P.endsK G k)[h]? = some e → ∃ e0, P.evs[h]? = some e0 ∧ e.call = e0.call ∧ e.inv = e0.inv ∧ e.resp = e0.resp ∧ e.steps = e0.steps ∧ e.ans = e0.ans := by
    intro k
    induction k with
    | zero => exact fun e he => ⟨e, he, rfl, rfl, rfl, rfl, rfl⟩
    | succ k ih =>
      intro e he
      rw [endsK_succ] at he
      unfold endT at he
      split at he
      · exact ih e he
      · rcases mod_get he with ⟨_, h1⟩ | ⟨_, d, hd, rfl⟩
        · exact ih e h1
        · exact ih d hd
  exact key 16 e he
/-- What is so of an event of a row. -/
theorem ev_of {w : World} {B : Nat} {Mu : Nat → Prop} {v : Value} {es : List Ep} (h : EvsAt w B Mu v es) (hn : 0 < es.length) : ∃ g c, v = .slice (some ⟨g, 0, none⟩) es.length c ∧ B ≤ g ∧ g < w.heap.size ∧ ∀ (k : Nat) (e : Ep), es[k]? = some e → ∃ x : Ev, EvIs w Mu x e ∧ ∀ (j : Nat) (u : Value), (evEnc x)[j]? = some u → w.cell? ⟨g, k * 8 + j, none⟩ = some u := by
  obtain ⟨raw, hrow, hrl, hre⟩ := h.row
  obtain ⟨g, c, rfl, hg, hz⟩ := own_some' hrow hn
  refine ⟨g, c, rfl, hg, hz, fun k e he => ?_⟩
  obtain ⟨x, hx⟩ : ∃ x, raw[k]? = some x := ⟨_, List.getElem?_eq_getElem (by rw [hrl]; exact (List.getElem?_eq_some_iff.1 he).1)⟩
  exact ⟨x, hre k x e hx he, fun j u hu => row_cells hrow hx hrl j u hu⟩
theorem evs_len {w : World} {B : Nat} {Mu : Nat → Prop} {v : Value} {es : List Ep} (h : EvsAt w B Mu v es) : ∃ A c, v = .slice A es.length c ∧ es.length ≤ maxLen := by
  obtain ⟨raw, hrow, hrl, hre⟩ := h.row
  obtain ⟨A, c, e⟩ := own_slice hrow
  exact ⟨A, c, e, owns_max hrow⟩
/-- The cells of an event of a row. -/
theorem ev_at {w : World} {B c : Nat} {Mu : Nat → Prop} {A : Option Addr} {es : List Ep} (h : EvsAt w B Mu (.slice A es.length c) es) {k : Nat} {e : Ep} (he : es[k]? = some e) : ∃ g, A = some ⟨g, 0, none⟩ ∧ g < w.heap.size ∧ ∃ x : Ev, EvIs w Mu x e ∧ w.cell? ⟨g, k * 8, none⟩ = some (.int .i64 e.call) ∧ w.cell? ⟨g, k * 8 + 1, none⟩ = some (.int .i64 e.inv) ∧ w.cell? ⟨g, k * 8 + 2, none⟩ = some (.int .i64 e.resp) ∧
    w.cell? ⟨g, k * 8 + 3, none⟩ = some (.int .i64 e.steps) ∧ w.cell? ⟨g, k * 8 + 4, none⟩ = some (.int .i64 e.ans.err) ∧ w.cell? ⟨g, k * 8 + 5, none⟩ = some (.int .u64 e.ans.val) ∧ w.cell? ⟨g, k * 8 + 6, none⟩ = some (.slice x.lA x.lN x.lC) ∧ w.cell? ⟨g, k * 8 + 7, none⟩ = some (.slice x.kA x.kN x.kC) := by
  have hl := (List.getElem?_eq_some_iff.1 he).1
  obtain ⟨g, c', e1, _, hz, hx⟩ := ev_of h (by omega)
  obtain ⟨x, hi, hr⟩ := hx k e he
  cases e1
  refine ⟨g, rfl, hz, x, hi, ?_, ?_, ?_, ?_, ?_, ?_, ?_, ?_⟩
  · rw [← hi.call]; exact hr 0 _ rfl
  · rw [← hi.inv]; exact hr 1 _ rfl
  · rw [← hi.resp]; exact hr 2 _ rfl
  · rw [← hi.steps]; exact hr 3 _ rfl
  · rw [← hi.err]; exact hr 4 _ rfl
  · rw [← hi.val]; exact hr 5 _ rfl
  · exact hr 6 _ rfl
  · exact hr 7 _ rfl
theorem EvsAt.below {w w' : World} {B : Nat} {Mu : Nat → Prop} {v : Value} {es : List Ep} (h : EvsAt w B Mu v es) (hb : Below w.heap.size w w') : EvsAt w' B Mu v es := by
  obtain ⟨raw, hrow, hrl, hre⟩ := h.row
  have hk := Keep.of_below (K := fun k => k < w.heap.size) hb (fun k hk => hk)
  exact h.keep hk (fun k hk _ => hk) (fun k _ hm => hm) (fun k hk => (World.ownsRow.lt hrow k hk).2)
end Go.Proofs.YtfghmlpjbedomaaGreat
