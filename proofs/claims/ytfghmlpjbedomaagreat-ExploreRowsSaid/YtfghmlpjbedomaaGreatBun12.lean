/- Agreeing (package cons), as plain data: proposals, in two steps; what is so at each tick. No program in sight. -/
/- A copy of a row of numbers (slices.Clone of ints); taken out of Sr2 for seats without search. -/
import Derived.Test.YtfghmlpjbedomaaGreatBun11
import Derived.Test.YtfghmlpjbedomaaGreatBun2
import Derived.Test.YtfghmlpjbedomaaGreatBun3
namespace Go.Proofs.YtfghmlpjbedomaaGreat
open Go.RowKit

inductive CM where
  | no (e : Int)
  | prop (t pc : Nat) (v : Int)
def cnStart (c : Cl) : CM := if c.obj ≠ 0 then .no 12 else .prop c.thread.toNat 0 c.a
def cnStep (w : Lw) : CM → Lw × CM × Bool
  | .no e => (w, .no e, true)
  | .prop t pc v => if pc = 0 then ({ w with mem := w.mem.acc 2 0 0 (v + 1), marks := upd w.marks t [2 * w.now] }, .prop t 1 v, false)
    else ({ w with mem := w.mem.acc 0 0 0 0 }, .prop t 1 ((w.mem.tell 0 0 0 - 1) % 18446744073709551616), true)
def cnAns : CM → An × List Int
  | .no e => (⟨e, 0, []⟩, [])
  | .prop _ _ v => (⟨0, v, []⟩, [])
def cnG : Gm CM Unit := ⟨fun _ _ c => ((), cnStart c), fun _ w _ m => ((), (cnStep w m).1, (cnStep w m).2.1, (cnStep w m).2.2), fun _ m => cnAns m, fun _ _ _ => none⟩
theorem cnG_still : cnG.Still := by
  intro o w t m
  show (cnStep w m).1.now = w.now
  unfold cnStep
  split
  · rfl
  · split <;> rfl
def cnPlay (cs : List Cl) (picks : List Int) : Ps CM Unit := (Ps.new [0] () cs.length).play cnG cs picks
/-- A machine that may be. -/
def cnMok (t : Nat) : CM → Prop
  | .no _ => True
  | .prop t' pc v => t' = t ∧ t < 16 ∧ pc ≤ 1 ∧ 0 ≤ v ∧ v < 4294967296
def cnGood (_ : Unit) (lw : Lw) (hs : Nat → Option CM) : Prop := W64 lw.mem.words ∧ ∀ t m, hs t = some m → cnMok t m
def cnCl (c : Cl) : Prop := c.kind = 0 ∧ c.a < 4294967296
theorem cnGood_start {lw : Lw} {hs : Nat → Option CM} {t : Nat} {c : Cl} (h : cnGood () lw hs) (ht : t < 16) (hc : c.thread = t) (hu : 0 ≤ c.a) (hk : cnCl c) : cnGood () { lw with inv := upd lw.inv t lw.now, marks := upd lw.marks t [] } (upd hs t (some (cnStart c))) := by
  refine ⟨h.1, fun s m hm => ?_⟩
  by_cases e : s = t
  · subst e
    rw [upd_same] at hm
    cases hm
    unfold cnStart
    split
    · trivial
    · exact ⟨by omega, ht, by omega, hu, hk.2⟩
  · rw [upd_other e] at hm
    exact h.2 s m hm
theorem cnGood_step {lw : Lw} {hs : Nat → Option CM} {t : Nat} {m : CM} (h : cnGood () lw hs) (hm : hs t = some m) : cnGood () (cnStep lw m).1 (upd hs t (if (cnStep lw m).2.2 then none else some (cnStep lw m).2.1)) := by
  have hk := h.2 t m hm
  have key : ∀ (r : Option CM), (∀ m', r = some m' → cnMok t m') → ∀ s m', upd hs t r s = some m' → cnMok s m' := by
    intro r hr s m' hh
    by_cases e : s = t
    · subst e
      rw [upd_same] at hh
      exact hr m' hh
    · rw [upd_other e] at hh
      exact h.2 s m' hh
  cases m with
  | no e => exact ⟨h.1, key _ (fun m' hh => by cases hh)⟩
  | prop t' pc v =>
    obtain ⟨k1, k2, k3, k4, k5⟩ := hk
    by_cases h0 : pc = 0
    · have hs : cnStep lw (.prop t' pc v) = ({ lw with mem := lw.mem.acc 2 0 0 (v + 1), marks := upd lw.marks t' [2 * lw.now] }, .prop t' 1 v, false) := by
        unfold cnStep
        dsimp only
        rw [if_pos h0]
      rw [hs]
      refine ⟨acc_w64 h.1 _ _ _ _ ?_, key _ (fun m' hh => ?_)⟩
      · unfold acY
        rw [if_neg (by decide), if_neg (by decide), if_pos rfl]
        split
        · omega
        · exact at_bd h.1 _
      · cases hh
        exact ⟨k1, k2, Nat.le_refl _, k4, k5⟩
    · have hs : cnStep lw (.prop t' pc v) = ({ lw with mem := lw.mem.acc 0 0 0 0 }, .prop t' 1 ((lw.mem.tell 0 0 0 - 1) % 18446744073709551616), true) := by
        unfold cnStep
        dsimp only
        rw [if_neg h0]
      rw [hs]
      refine ⟨acc_w64 h.1 _ _ _ _ ?_, key _ (fun m' hh => by cases hh)⟩
      unfold acY
      rw [if_pos rfl]
      exact at_bd h.1 _
theorem cnGood_new (m : Nat) : cnGood () (Ps.new [0] () m : Ps CM Unit).lw (fun _ => none) := by
  refine ⟨fun x hx => ?_, fun t m h => by cases h⟩
  have : x = 0 := List.mem_singleton.1 hx
  omega
end Go.Proofs.YtfghmlpjbedomaaGreat

namespace Go.Proofs.YtfghmlpjbedomaaGreat
open Go.RowKit

set_option maxRecDepth 100000 in
set_option maxHeartbeats 1000000 in
/-- A copy of a row of numbers, in memory of the call's own. -/
theorem iclone_any (v : Value) (xs : List Int) (w : World) (h : SlI w v xs) (hb : xs.length ≤ 1000000) :
    Calls Tryz.prog 34 #[v] w fun e w' => ∃ v', e = .returned v' ∧ IOwn w' w.heap.size v' xs.length xs ∧ Below w.heap.size w w' := by
  obtain ⟨A, cap, rfl, h1, h2, h3⟩ := h
  obtain ⟨i0, hi, hz0, hz1, hz2⟩ := info_parts info_int
  have q32 : ∀ (w : World) (a : Option Addr) (n c n' c' : Nat), (binOp .eql 22 (.slice a n c) (.slice none n' c')).run Tryz.prog w = .ok (.bool a.isNone) w := fun w a n c n' c' => Lib.run_eql_slice_nil w _ _ a n c n' c' Tryz.underlying22
  rcases A with _ | a
  · have hx : xs = [] := by
      rcases xs with _ | ⟨x, xs⟩
      · rfl
      · obtain ⟨b, o, hA, _⟩ := h3 0 x rfl
        cases hA
    subst hx
    clear h3
    go_enter Tryz.func34, Tryz.ntmps34
    go_wp2
    go_ret
    exact ⟨_, rfl, World.ownsRow_nil _ _ _ _, by (repeat' (first | exact Below.refl _ _ | assumption | refine Below.drew ?_ | refine below_drewN ?_ _ | refine Below.alloc ?_ (by simp <;> omega) _ | refine Below.setCell ?_ (by simp <;> omega) _))⟩
  · have hnews : ∀ j u, (xs.map (Value.int .i64))[j]? = some u → (w.alloc (.cells #[] 3)).cell? (a.add j) = some u := by
      intro j u hu
      rw [List.getElem?_map] at hu
      rcases hx : xs[j]? with _ | x
      · rw [hx] at hu; cases hu
      · rw [hx] at hu
        obtain ⟨b, o, hA, hbw, hc⟩ := h3 j x hx
        cases hA
        cases hu
        have := nt_cell hc
        rw [Addr.add_lit]
        simp only [Nat.mul_one] at this
        exact Lib.cell?_alloc_some _ this
    clear h3
    go_enter Tryz.func34, Tryz.ntmps34
    go_wp2_with (first
      | (at_builtin; refine wpList_append_own_at _ rfl _ _ 22 rfl w.heap.size 3 i0 (.int .i64 0) 1 8 Tryz.underlying22 hi hz0 hz1 hz2 rfl (by decide) _ _ _ rfl (World.ownsRow_made w #[] 0 (Nat.le_refl _) (Nat.zero_le _) rfl) a xs.length cap (xs.map (Value.int .i64)) rfl (by simp) hnews (ints_oneCell .i64 xs) (by unfold maxLen; omega) (by omega) (by simp) ?_; intro v' w5 hown' hgrow hnil hloc)
      | go_in)
    go_ret
    exact ⟨_, rfl, by simpa using hown', ((Below.refl _ w).alloc (Nat.le_refl _) _).grown hgrow (by simp) (by intro k hk; cases hk; exact Nat.le_refl _)⟩

end Go.Proofs.YtfghmlpjbedomaaGreat
