/- Threads that take names (package split): a thread begins; the object as machines on a loom. -/
import Derived.Test.YtlfingcmekifkaaSp3
namespace Go.Proofs.Ytlfingcmekifkaa
open Go.RowKit

def spOB (pe : Nat) (w : World) (F : Nat → Prop) (o : Spl) : Prop := (∀ k, F k ↔ k = pe) ∧ ∃ f : Nat → Value, w.rowIs pe 85 17 f ∧ f 0 = .int .i64 0 ∧ ∀ t, t < 16 → f (1 + t) = .bool (o.has t)
def spPr (pe : Nat) (w : World) (F : Nat → Prop) (v : Value) (t pc r c : Nat) : Prop := ∃ b, v = .iface 176 (.pointer (some ⟨b, 0, none⟩)) ∧ w.heap[b]? = some (.cells (tkA pe t pc (nameN r c)) 178 (0, 0)) ∧ ∀ k, F k ↔ k = b
def spML (pe : Nat) (w : World) (F : Nat → Prop) (v : Value) : SM → Prop
  | .no e => NoAt w F v e
  | .take t pc r c => spPr pe w F v t pc r c
def spAL (pe : Nat) (w : World) (F : Nat → Prop) (v : Value) : SM → Prop
  | .no e => NoAl w F v e
  | .take t pc r c => spPr pe w F v t pc r c ∧ r + c ≤ 1900000
theorem spOB_keep {pe : Nat} {w w' : World} {F S : Nat → Prop} {o : Spl} (h : spOB pe w F o) (hk : Keep S w w') (hS : ∀ k, F k → S k) : spOB pe w' F o := by
  obtain ⟨h1, f, h2, h3⟩ := h
  exact ⟨h1, f, rowIs_keep h2 hk (hS pe ((h1 pe).2 rfl)), h3⟩
theorem spPr_keep {pe : Nat} {w w' : World} {F S : Nat → Prop} {v : Value} {t pc r c : Nat} (h : spPr pe w F v t pc r c) (hk : Keep S w w') (hS : ∀ k, F k → S k) : spPr pe w' F v t pc r c := by
  obtain ⟨b, h1, h2, h4⟩ := h
  exact ⟨b, h1, (hk.block b (hS b ((h4 b).2 rfl))).trans h2, h4⟩
theorem spPr_lt {pe : Nat} {w : World} {F : Nat → Prop} {v : Value} {t pc r c : Nat} (h : spPr pe w F v t pc r c) : ∀ k, F k → k < w.heap.size := by
  obtain ⟨b, h1, h2, h4⟩ := h
  intro k hk
  rw [(h4 k).1 hk]
  exact (Array.getElem?_eq_some_iff.1 h2).1
theorem spLate (v : Value) : LateNo (.iface 176 v) := fun w => run_typeAssert_lacksB Try.underlying136 (by kernel_rfl) (by kernel_rfl) _ _ w
def spStartQ (pe : Nat) (w : World) (Fo : Nat → Prop) (r : Spl × SM) (e : Ending) (w' : World) : Prop :=
  ∃ Fo' Fm' u, e = .returned u ∧ spOB pe w' Fo' r.1 ∧ spML pe w' Fm' u r.2 ∧ (∀ k, Fo' k → Fo k ∨ w.heap.size ≤ k) ∧ (∀ k, Fm' k → Fo k ∨ w.heap.size ≤ k) ∧ (∀ k, Fo' k → ¬ Fm' k) ∧ Keep (fun k => k < w.heap.size ∧ ¬ Fo k) w w'
theorem spStartQ_no {pe : Nat} {w w1 w2 : World} {Fo : Nat → Prop} {o : Spl} {e : Int} {b b1 : Nat} (hO : spOB pe w Fo o) (hb1 : Below w.heap.size w w1) (hn : OnceNo w2 b b1 e) (h1 : w1.heap.size ≤ b) (h2 : w1.heap.size ≤ b1) (hb2 : Below w1.heap.size w1 w2) : spStartQ pe w Fo (o, .no e) (.returned (onceV b)) w2 := by
  have hz := hb1.size
  have hk : Keep (fun k => k < w.heap.size) w w2 := (Keep.of_below hb1 (fun k hk => hk)).trans (Keep.of_below hb2 (fun k hk => by omega))
  have hF : ∀ k, Fo k → k < w.heap.size := fun k hk => by
    obtain ⟨a1, f, a2, _⟩ := hO
    rw [(a1 k).1 hk]
    exact a2.lt
  refine ⟨Fo, fun k => k = b ∨ k = b1, onceV b, rfl, spOB_keep hO hk hF, noAt_made hn, fun k hk => Or.inl hk, fun k hk => Or.inr ?_, fun k hk hm => ?_, hk.mono (fun k hk => hk.1)⟩
  · rcases hk with rfl | rfl <;> omega
  · have := hF k hk
    rcases hm with rfl | rfl <;> omega
set_option maxRecDepth 100000 in
set_option maxHeartbeats 1000000 in
theorem spStartW {pe : Nat} {w : World} {Fo : Nat → Prop} {o : Spl} {t : Nat} {c : Cl} (hO : spOB pe w Fo o) (ht : t < 16) (hobj : c.obj = 0) (pw : Nat) :
    Calls Try.prog 91 #[.pointer (some ⟨pe, 0, none⟩), .pointer (some ⟨pw, 0, none⟩), .int .i64 t, clV c] w (spStartQ pe w Fo (spStart o t c)) := by
  obtain ⟨hF, f, hf, f0, f2⟩ := hO
  have hO : spOB pe w Fo o := ⟨hF, f, hf, f0, f2⟩
  have c2 := hf.cell (i := 1 + t) (by omega)
  rw [f2 t ht] at c2
  have hz := hf.lt
  have ht' : (t : Int) < 16 := by omega
  have hb1 : Below w.heap.size w (w.alloc (.cells #[.int .i64 c.thread, .int .i64 c.obj, .int .i64 c.kind, .int .u64 c.a, .int .u64 c.b, .int .u64 c.c] 43)) := (Below.refl _ w).alloc (Nat.le_refl _) _
  have HO := hide hO
  have HB1 := hide hb1
  have HFF := hide hF
  unfold clV spStart
  rw [if_neg (by omega)]
  clear hobj hO hb1 hf f0 f2 hF
  by_cases hk : c.kind = 0
  · rw [if_neg (by omega)]
    have d0 : (c.kind != 0) = false := by simpa using hk
    rcases hh : o.has t with _ | _
    · rw [hh] at c2
      rw [if_neg (by decide)]
      clear hk
      go_enter Try.func91, Try.ntmps91
      go_wp2
      go_ret
      have hkw : Keep (fun k => k < w.heap.size) w ((w.alloc (.cells #[.int .i64 c.thread, .int .i64 c.obj, .int .i64 c.kind, .int .u64 c.a, .int .u64 c.b, .int .u64 c.c] 43)).alloc (.cells (tkA pe t 0 (nameN 0 0)) 178)) := ((Keep.refl _ w).alloc (fun k hk => by simpa using hk) _).alloc (fun k hk => by simp; omega) _
      have hFl : ∀ k, Fo k → k < w.heap.size := fun k hk => by rw [(HFF.out k).1 hk]; exact hz
      refine ⟨Fo, fun k => k = w.heap.size + 1, _, rfl, spOB_keep HO.out hkw hFl, ⟨w.heap.size + 1, rfl, ?_, fun k => Iff.rfl⟩, fun k hk => Or.inl hk, fun k hk => Or.inr (by omega), fun k hk hm => ?_, hkw.mono (fun k hk => hk.1)⟩
      · have e1 : (w.alloc (.cells #[.int .i64 c.thread, .int .i64 c.obj, .int .i64 c.kind, .int .u64 c.a, .int .u64 c.b, .int .u64 c.c] 43)).heap.size = w.heap.size + 1 := by simp
        rw [← e1]
        exact heap_alloc_new _ _
      · have := hFl k hk
        omega
    · rw [hh] at c2
      rw [if_pos rfl]
      have N := refuseMake 8 (w.alloc (.cells #[.int .i64 c.thread, .int .i64 c.obj, .int .i64 c.kind, .int .u64 c.a, .int .u64 c.b, .int .u64 c.c] 43))
      clear hk
      go_enter Try.func91, Try.ntmps91
      go_wp2_with fail
      refine N.mono ?_
      rintro e w1 ⟨b, b1, rfl, hno, z1, z2, hb2⟩
      have HNO := hide hno
      have HB2 := hide hb2
      clear hno hb2 N
      unfold onceV
      go_wp2
      go_ret
      exact spStartQ_no HO.out HB1.out HNO.out z1 z2 HB2.out
  · rw [if_pos hk]
    have d0 : (c.kind != 0) = true := by simpa using hk
    have N := refuseMake 9 (w.alloc (.cells #[.int .i64 c.thread, .int .i64 c.obj, .int .i64 c.kind, .int .u64 c.a, .int .u64 c.b, .int .u64 c.c] 43))
    clear hk
    go_enter Try.func91, Try.ntmps91
    go_wp2_with fail
    refine N.mono ?_
    rintro e w1 ⟨b, b1, rfl, hno, z1, z2, hb2⟩
    have HNO := hide hno
    have HB2 := hide hb2
    clear hno hb2 N
    unfold onceV
    go_wp2
    go_ret
    exact spStartQ_no HO.out HB1.out HNO.out z1 z2 HB2.out
/-- A machine that may be, so many ticks on. -/
def spMok (t : Nat) (now : Int) : SM → Prop
  | .no _ => True
  | .take t' pc r c => t' = t ∧ t < 16 ∧ pc ≤ 3 ∧ ((r + c : Nat) : Int) ≤ now
def spGood (_o : Spl) (lw : Lw) (hs : Nat → Option SM) : Prop := 0 ≤ lw.now ∧ ∀ t m, hs t = some m → spMok t lw.now m
def spGoodT (_o : Spl) (lw : Lw) (hs : Nat → Option SM) : Prop := 1 ≤ lw.now ∧ ∀ t m, hs t = some m → spMok t (lw.now - 1) m
def spTh (pe : Nat) : Th SM Spl := ⟨spG, [.iface 60 (.pointer (some ⟨pe, 0, none⟩))], spOB pe, spML pe, spAL pe, spGood, spGoodT⟩
theorem spMok_le {t : Nat} {n n' : Int} {m : SM} (h : spMok t n m) (hn : n ≤ n') : spMok t n' m := by
  cases m with
  | no e => trivial
  | take t' pc r c => exact ⟨h.1, h.2.1, h.2.2.1, Int.le_trans h.2.2.2 hn⟩
theorem spGood_step {o : Spl} {lw : Lw} {hs : Nat → Option SM} {t : Nat} {m : SM} (hg : spGoodT o lw hs) (hm : hs t = some m) : spGood (spStep o lw m).1 (spStep o lw m).2.1 (upd hs t (if (spStep o lw m).2.2.2 then none else some (spStep o lw m).2.2.1)) := by
  obtain ⟨g1, g4⟩ := hg
  have hk := g4 t m hm
  have hnow : (spStep o lw m).2.1.now = lw.now := spG_still o lw t m
  refine ⟨by rw [hnow]; omega, ?_⟩
  rw [hnow]
  have key : ∀ (r : Option SM), (∀ m', r = some m' → spMok t lw.now m') → ∀ s m', upd hs t r s = some m' → spMok s lw.now m' := by
    intro r hr s m' h
    by_cases e : s = t
    · subst e
      rw [upd_same] at h
      exact hr m' h
    · rw [upd_other e] at h
      exact spMok_le (g4 s m' h) (by omega)
  refine key _ fun m' h => ?_
  cases m with
  | no e =>
    simp [spStep] at h
  | take t' pc r c =>
    obtain ⟨k1, k2, k3, k4⟩ := hk
    unfold spStep at h
    simp only at h
    split at h
    · cases h
      exact ⟨k1, k2, by omega, by omega⟩
    · split at h
      · split at h
        · cases h
          exact ⟨k1, k2, by omega, by omega⟩
        · cases h
          exact ⟨k1, k2, by omega, by omega⟩
      · split at h
        · cases h
          exact ⟨k1, k2, by omega, by omega⟩
        · split at h
          · cases h
          · cases h
            exact ⟨k1, k2, by omega, by omega⟩
end Go.Proofs.Ytlfingcmekifkaa
