import Derived.Test.YtlfingcmekifkaaGreatBun9
import Derived.Test.YtlfingcmekifkaaGreatLq1
import Derived.Test.YtlfingcmekifkaaGreatBun23
namespace Go.Proofs.YtlfingcmekifkaaGreat
open Go.RowKit
def llBox (w : World) (q : Nat) (x : Int) : Prop := w.heap[q]? = some (.cells #[.int .u64 x] 46 (0, 0))
def llPtr (q : Nat) : Value := .pointer (some ⟨q, 0, none⟩)
def llMap (w : World) (F : Nat → Prop) (g : Nat) (lk : Int → Option Int) : Prop := F g ∧ ∃ mm, IMapD w g .i64 mm ∧ ∀ p, (lk p = none ∧ mm p = none) ∨ ∃ x q, lk p = some x ∧ mm p = some (llPtr q) ∧ F q ∧ llBox w q x
structure LlAt (pe : Nat) (w : World) (F : Nat → Prop) (o : Ll) (f : Nat → Value) (mb : Nat → Option Nat) : Prop where
  own : F pe
  lt : ∀ k, F k → k < w.heap.size
  row : w.rowIs pe 84 18 f
  f0 : f 0 = .int .i64 0
  f1 : f 1 = .int .i64 o.size
  fm : ∀ t, t < 16 → f (2 + t) = .map (mb t)
  fno : ∀ t, t < 16 → mb t = none → ∀ p, o.links t p = none
  fso : ∀ t g, t < 16 → mb t = some g → llMap w F g (o.links t)
  inj : ∀ t s g, t < 16 → s < 16 → mb t = some g → mb s = some g → t = s
def llOB (pe : Nat) (w : World) (F : Nat → Prop) (o : Ll) : Prop := ∃ f mb, LlAt pe w F o f mb
theorem llMap_keep {w w' : World} {F F' S : Nat → Prop} {g : Nat} {lk : Int → Option Int} (h : llMap w F g lk) (hk : Keep S w w') (hS : ∀ k, F k → S k) (hF : ∀ k, F k → F' k) : llMap w' F' g lk := by
  obtain ⟨h1, mm, h2, h3⟩ := h
  refine ⟨hF g h1, mm, h2.of_block (hk.block g (hS g h1)), fun p => ?_⟩
  rcases h3 p with h | ⟨x, q, a1, a2, a3, a4⟩
  · exact .inl h
  · exact .inr ⟨x, q, a1, a2, hF q a3, (hk.block q (hS q a3)).trans a4⟩
theorem LlAt.keep {pe : Nat} {w w' : World} {F S : Nat → Prop} {o : Ll} {f : Nat → Value} {mb : Nat → Option Nat} (h : LlAt pe w F o f mb) (hk : Keep S w w') (hS : ∀ k, F k → S k) : LlAt pe w' F o f mb :=
  ⟨h.own, fun k hF => Nat.lt_of_lt_of_le (h.lt k hF) hk.size, rowIs_keep h.row hk (hS pe h.own), h.f0, h.f1, h.fm, h.fno, fun t g ht hg => llMap_keep (h.fso t g ht hg) hk hS (fun _ h => h), h.inj⟩
theorem LlAt.put {pe : Nat} {w w' : World} {F F' : Nat → Prop} {o : Ll} {f : Nat → Value} {mb : Nat → Option Nat} {t g q : Nat} {p x : Int} {mm : Int → Option Value} (h : LlAt pe w F o f mb) (ht : t < 16)
    (hmb : (mb t = some g ∧ IMapD w g .i64 mm) ∨ (mb t = none ∧ (∀ y, mm y = none) ∧ w.heap.size ≤ g)) (hrow : w'.rowIs pe 84 18 (fun i => if i = 2 + t then .map (some g) else f i)) (hm : IMapD w' g .i64 (fun y => if y = p then some (llPtr q) else mm y)) (hq : llBox w' q x)
    (hk : Keep (fun k => F k ∧ k ≠ pe ∧ k ≠ g) w w') (hF : ∀ k, F' k ↔ (F k ∨ w.heap.size ≤ k) ∧ k < w'.heap.size) (hqn : w.heap.size ≤ q) (hpg : g ≠ pe) : LlAt pe w' F' (llLink o t p (some x)) (fun i => if i = 2 + t then .map (some g) else f i) (upd mb t (some g)) := by
  have hFF : ∀ k, F k → F' k := fun k hk' => (hF k).2 ⟨.inl hk', Nat.lt_of_lt_of_le (h.lt k hk') hk.size⟩
  have hgF : F' g := by
    refine (hF g).2 ⟨?_, hm.lt⟩
    rcases hmb with ⟨a, _⟩ | ⟨_, _, a⟩
    · exact .inl (h.fso t g ht a).1
    · exact .inr a
  have hqF : F' q := (hF q).2 ⟨.inr hqn, (Array.getElem?_eq_some_iff.1 hq).1⟩
  refine ⟨hFF pe h.own, fun k hk' => ((hF k).1 hk').2, hrow, ?_, ?_, fun s hs => ?_, fun s hs hn => ?_, fun s g' hs hg => ?_, fun s s' g' hs hs' hg hg' => ?_⟩
  · show (if 0 = 2 + t then _ else f 0) = _
    rw [if_neg (by omega)]; exact h.f0
  · show (if 1 = 2 + t then _ else f 1) = _
    rw [if_neg (by omega)]; exact h.f1
  · show (if 2 + s = 2 + t then _ else f (2 + s)) = Value.map (upd mb t (some g) s)
    by_cases e : s = t
    · subst e
      rw [if_pos rfl, upd_same]
    · rw [if_neg (by omega), upd_other e]
      exact h.fm s hs
  · by_cases e : s = t
    · subst e
      rw [upd_same] at hn
      cases hn
    · rw [upd_other e] at hn
      intro y
      show (if s = t ∧ y = p then _ else o.links s y) = _
      rw [if_neg (fun h => e h.1)]
      exact h.fno s hs hn y
  · by_cases e : s = t
    · subst e
      rw [upd_same] at hg
      cases hg
      refine ⟨hgF, _, hm, fun y => ?_⟩
      show ((if s = s ∧ y = p then _ else o.links s y) = _ ∧ _) ∨ _
      by_cases hy : y = p
      · subst hy
        exact .inr ⟨x, q, if_pos ⟨rfl, rfl⟩, if_pos rfl, hqF, hq⟩
      · have e1 : (llLink o s p (some x)).links s y = o.links s y := if_neg (fun h => hy h.2)
        have e2 : (if y = p then some (llPtr q) else mm y) = mm y := if_neg hy
        rw [e1, e2]
        rw [if_neg (fun h => hy h.2)]
        rcases hmb with ⟨a, b⟩ | ⟨a, b, _⟩
        · obtain ⟨_, mm', b2, b3⟩ := h.fso s g ht a
          have hmm : mm' = mm := by
            obtain ⟨es, cl, c1, _, _, c4⟩ := b
            obtain ⟨es', cl', d1, _, _, d4⟩ := b2
            rw [c1] at d1
            cases d1
            funext z
            rw [← c4 z, ← d4 z]
          subst hmm
          rcases b3 y with hh | ⟨x', q', a1, a2, a3, a4⟩
          · exact .inl hh
          · refine .inr ⟨x', q', a1, a2, hFF q' a3, (hk.block q' ⟨a3, ?_, ?_⟩).trans a4⟩
            · rintro rfl
              obtain ⟨c, hc, _⟩ := h.row
              unfold llBox at a4
              rw [hc] at a4
              cases a4
            · rintro rfl
              obtain ⟨es, cl, c1, _⟩ := b
              unfold llBox at a4
              rw [c1] at a4
              cases a4
        · exact .inl ⟨h.fno s ht a y, b y⟩
    · rw [upd_other e] at hg
      obtain ⟨b1, mm', b2, b3⟩ := h.fso s g' hs hg
      have hgg : g' ≠ g := by
        rintro rfl
        rcases hmb with ⟨a, _⟩ | ⟨_, _, a⟩
        · exact e (h.inj s t g' hs ht hg a)
        · have := h.lt g' b1
          omega
      have hgp : g' ≠ pe := by
        rintro rfl
        obtain ⟨c, hc, _⟩ := h.row
        obtain ⟨es, cl, c1, _⟩ := b2
        rw [hc] at c1
        cases c1
      refine ⟨hFF g' b1, mm', b2.of_block (hk.block g' ⟨b1, hgp, hgg⟩), fun y => ?_⟩
      have e1 : (llLink o t p (some x)).links s y = o.links s y := if_neg (fun h => e h.1)
      rw [e1]
      rcases b3 y with hh | ⟨x', q', a1, a2, a3, a4⟩
      · exact .inl hh
      · refine .inr ⟨x', q', a1, a2, hFF q' a3, (hk.block q' ⟨a3, ?_, ?_⟩).trans a4⟩
        · rintro rfl
          obtain ⟨c, hc, _⟩ := h.row
          unfold llBox at a4
          rw [hc] at a4
          cases a4
        · rintro rfl
          rcases hmb with ⟨_, b⟩ | ⟨_, _, a⟩
          · obtain ⟨es, cl, c1, _⟩ := b
            unfold llBox at a4
            rw [c1] at a4
            cases a4
          · have := h.lt q' a3
            omega
  · by_cases e : s = t
    · by_cases e' : s' = t
      · omega
      · exfalso
        subst e
        rw [upd_same] at hg
        cases hg
        rw [upd_other e'] at hg'
        rcases hmb with ⟨a, _⟩ | ⟨_, _, a⟩
        · exact e' (h.inj s' s g hs' ht hg' a)
        · have := h.lt g (h.fso s' g hs' hg').1
          omega
    · rw [upd_other e] at hg
      by_cases e' : s' = t
      · exfalso
        subst e'
        rw [upd_same] at hg'
        cases hg'
        rcases hmb with ⟨a, _⟩ | ⟨_, _, a⟩
        · exact e (h.inj s s' g hs ht hg a)
        · have := h.lt g (h.fso s g hs hg).1
          omega
      · rw [upd_other e'] at hg'
        exact h.inj s s' g' hs hs' hg hg'
theorem LlAt.del {pe : Nat} {w w' : World} {F : Nat → Prop} {o : Ll} {f : Nat → Value} {mb : Nat → Option Nat} {t g : Nat} {p : Int} {mm : Int → Option Value} (h : LlAt pe w F o f mb) (ht : t < 16) (hmb : mb t = some g) (hmg : IMapD w g .i64 mm) (hm : IMapD w' g .i64 (fun y => if y = p then none else mm y))
    (hk : Keep (fun k => F k ∧ k ≠ g) w w') : LlAt pe w' F (llLink o t p none) f mb := by
  have hpg : g ≠ pe := by
    rintro rfl
    obtain ⟨c, hc, _⟩ := h.row
    obtain ⟨es, cl, c1, _⟩ := hmg
    rw [hc] at c1
    cases c1
  have hqg : ∀ q x, llBox w q x → q ≠ g := by
    rintro q x hq rfl
    obtain ⟨es, cl, c1, _⟩ := hmg
    unfold llBox at hq
    rw [c1] at hq
    cases hq
  refine ⟨h.own, fun k hF => Nat.lt_of_lt_of_le (h.lt k hF) hk.size, rowIs_keep h.row hk ⟨h.own, hpg.symm⟩, h.f0, h.f1, h.fm, fun s hs hn y => ?_, fun s g' hs hg => ?_, h.inj⟩
  · show (if s = t ∧ y = p then none else o.links s y) = none
    split
    · rfl
    · exact h.fno s hs hn y
  · obtain ⟨b1, mm', b2, b3⟩ := h.fso s g' hs hg
    by_cases e : s = t
    · subst e
      rw [hmb] at hg
      cases hg
      have hmm : mm' = mm := by
        obtain ⟨es, cl, c1, _, _, c4⟩ := hmg
        obtain ⟨es', cl', d1, _, _, d4⟩ := b2
        rw [c1] at d1
        cases d1
        funext z
        rw [← c4 z, ← d4 z]
      subst hmm
      refine ⟨b1, _, hm, fun y => ?_⟩
      by_cases hy : y = p
      · subst hy
        exact .inl ⟨if_pos ⟨rfl, rfl⟩, if_pos rfl⟩
      · have e1 : (llLink o s p none).links s y = o.links s y := if_neg (fun h => hy h.2)
        have e2 : (if y = p then none else mm' y) = mm' y := if_neg hy
        rw [e1, e2]
        rcases b3 y with hh | ⟨x', q', a1, a2, a3, a4⟩
        · exact .inl hh
        · exact .inr ⟨x', q', a1, a2, a3, (hk.block q' ⟨a3, hqg q' x' a4⟩).trans a4⟩
    · have hgg : g' ≠ g := fun e' => e (h.inj s t g hs ht (e' ▸ hg) hmb)
      refine ⟨b1, mm', b2.of_block (hk.block g' ⟨b1, hgg⟩), fun y => ?_⟩
      have e1 : (llLink o t p none).links s y = o.links s y := if_neg (fun h => e h.1)
      rw [e1]
      rcases b3 y with hh | ⟨x', q', a1, a2, a3, a4⟩
      · exact .inl hh
      · exact .inr ⟨x', q', a1, a2, a3, (hk.block q' ⟨a3, hqg q' x' a4⟩).trans a4⟩
def llLook (F : Nat → Prop) (lk : Option Int) (v : Value) (w : World) : Prop := (lk = none ∧ v = .pointer none) ∨ ∃ x q, lk = some x ∧ v = llPtr q ∧ llBox w q x ∧ F q
theorem LlAt.look {pe : Nat} {w : World} {F : Nat → Prop} {o : Ll} {f : Nat → Value} {mb : Nat → Option Nat} {t : Nat} (h : LlAt pe w F o f mb) (ht : t < 16) (p : Int) : ∃ v, llLook F (o.links t p) v w ∧ ∀ Y, (∀ k, F k → Y.heap[k]? = w.heap[k]?) → (Instr.lookup 81 (.map (mb t)) (.int .i64 p) false).run Tryz.prog Y = .ok v Y := by
  have hz : ∀ Y, (zeroValue 247).run Tryz.prog Y = .ok (.pointer none) Y := fun Y => by kernel_rfl
  rcases hmb : mb t with _ | g
  · exact ⟨_, .inl ⟨h.fno t ht hmb p, rfl⟩, fun Y _ => run_lookup_nilD (k := 3) (e := 247) Tryz.underlying81 Tryz.underlying3 (hz Y) p⟩
  · obtain ⟨b1, mm, b2, b3⟩ := h.fso t g ht hmb
    have hl : ∀ Y, (∀ k, F k → Y.heap[k]? = w.heap[k]?) → (Instr.lookup 81 (.map (some g)) (.int .i64 p) false).run Tryz.prog Y = .ok ((mm p).getD (.pointer none)) Y := fun Y hY => by
      have := run_lookup_imap (P := Tryz.prog) (k := 3) (e := 247) Tryz.underlying81 Tryz.underlying3 (hz Y) (b2.imap.of_block (hY g b1)) p false
      simpa using this
    rcases b3 p with ⟨a1, a2⟩ | ⟨x, q, a1, a2, a3, a4⟩
    · rw [a2] at hl
      exact ⟨_, .inl ⟨a1, rfl⟩, hl⟩
    · rw [a2] at hl
      exact ⟨_, .inr ⟨x, q, a1, rfl, a4, a3⟩, hl⟩
end Go.Proofs.YtlfingcmekifkaaGreat
