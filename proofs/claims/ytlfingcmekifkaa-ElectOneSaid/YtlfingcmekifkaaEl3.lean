/- An election (package elect): a thread stands; the object as machines on a loom. -/
import Derived.Test.YtlfingcmekifkaaEl2
namespace Go.Proofs.Ytlfingcmekifkaa
open Go.RowKit

def elOB (pe : Nat) (w : World) (F : Nat → Prop) (o : El) : Prop := (∀ k, F k ↔ k = pe) ∧ ∃ f : Nat → Value, w.rowIs pe 94 18 f ∧ f 0 = .int .i64 0 ∧ f 1 = .int .i64 o.leaves ∧ ∀ t, t < 16 → f (2 + t) = .bool (o.stood t)
def elPr (pe : Nat) (w : World) (F : Nat → Prop) (v : Value) (t : Nat) (vv : Int) (l : Bool) : Prop := ∃ b, v = .iface 200 (.pointer (some ⟨b, 0, none⟩)) ∧ w.heap[b]? = some (.cells (stA pe t vv l) 202 (0, 0)) ∧ ∀ k, F k ↔ k = b
def elML (pe : Nat) (w : World) (F : Nat → Prop) (v : Value) : EM → Prop
  | .no e => NoAt w F v e
  | .stand t vv l => elPr pe w F v t vv l
def elAL (pe : Nat) (w : World) (F : Nat → Prop) (v : Value) : EM → Prop
  | .no e => NoAl w F v e
  | .stand t vv l => elPr pe w F v t vv l
theorem elOB_keep {pe : Nat} {w w' : World} {F S : Nat → Prop} {o : El} (h : elOB pe w F o) (hk : Keep S w w') (hS : ∀ k, F k → S k) : elOB pe w' F o := by
  obtain ⟨h1, f, h2, h3⟩ := h
  exact ⟨h1, f, rowIs_keep h2 hk (hS pe ((h1 pe).2 rfl)), h3⟩
theorem elPr_keep {pe : Nat} {w w' : World} {F S : Nat → Prop} {v : Value} {t : Nat} {vv : Int} {l : Bool} (h : elPr pe w F v t vv l) (hk : Keep S w w') (hS : ∀ k, F k → S k) : elPr pe w' F v t vv l := by
  obtain ⟨b, h1, h2, h4⟩ := h
  exact ⟨b, h1, (hk.block b (hS b ((h4 b).2 rfl))).trans h2, h4⟩
theorem elPr_lt {pe : Nat} {w : World} {F : Nat → Prop} {v : Value} {t : Nat} {vv : Int} {l : Bool} (h : elPr pe w F v t vv l) : ∀ k, F k → k < w.heap.size := by
  obtain ⟨b, h1, h2, h4⟩ := h
  intro k hk
  rw [(h4 k).1 hk]
  exact (Array.getElem?_eq_some_iff.1 h2).1
theorem elLate (v : Value) : LateNo (.iface 200 v) := fun w => run_typeAssert_lacksB Try.underlying136 (by kernel_rfl) (by kernel_rfl) _ _ w
def elStartQ (pe : Nat) (w : World) (Fo : Nat → Prop) (r : El × EM) (e : Ending) (w' : World) : Prop :=
  ∃ Fo' Fm' u, e = .returned u ∧ elOB pe w' Fo' r.1 ∧ elML pe w' Fm' u r.2 ∧ (∀ k, Fo' k → Fo k ∨ w.heap.size ≤ k) ∧ (∀ k, Fm' k → Fo k ∨ w.heap.size ≤ k) ∧ (∀ k, Fo' k → ¬ Fm' k) ∧ Keep (fun k => k < w.heap.size ∧ ¬ Fo k) w w'
theorem elStartQ_no {pe : Nat} {w w1 w2 : World} {Fo : Nat → Prop} {o : El} {e : Int} {b b1 : Nat} (hO : elOB pe w Fo o) (hb1 : Below w.heap.size w w1) (hn : OnceNo w2 b b1 e) (h1 : w1.heap.size ≤ b) (h2 : w1.heap.size ≤ b1) (hb2 : Below w1.heap.size w1 w2) : elStartQ pe w Fo (o, .no e) (.returned (onceV b)) w2 := by
  have hz := hb1.size
  have hk : Keep (fun k => k < w.heap.size) w w2 := (Keep.of_below hb1 (fun k hk => hk)).trans (Keep.of_below hb2 (fun k hk => by omega))
  have hF : ∀ k, Fo k → k < w.heap.size := fun k hk => by
    obtain ⟨a1, f, a2, _⟩ := hO
    rw [(a1 k).1 hk]
    exact a2.lt
  refine ⟨Fo, fun k => k = b ∨ k = b1, onceV b, rfl, elOB_keep hO hk hF, noAt_made hn, fun k hk => Or.inl hk, fun k hk => Or.inr ?_, fun k hk hm => ?_, hk.mono (fun k hk => hk.1)⟩
  · rcases hk with rfl | rfl <;> omega
  · have := hF k hk
    rcases hm with rfl | rfl <;> omega
set_option maxRecDepth 100000 in
set_option maxHeartbeats 1000000 in
theorem elStartW {pe : Nat} {w : World} {Fo : Nat → Prop} {o : El} {t : Nat} {c : Cl} (hO : elOB pe w Fo o) (hl : 1 ≤ o.leaves ∧ o.leaves ≤ 16) (ht : t < 16) (hobj : c.obj = 0) (pw : Nat) :
    Calls Try.prog 98 #[.pointer (some ⟨pe, 0, none⟩), .pointer (some ⟨pw, 0, none⟩), .int .i64 t, clV c] w (elStartQ pe w Fo (elStart o t c)) := by
  obtain ⟨hF, f, hf, f0, f1, f2⟩ := hO
  have hO : elOB pe w Fo o := ⟨hF, f, hf, f0, f1, f2⟩
  have c1 := hf.cell (i := 1) (by omega)
  have c2 := hf.cell (i := 2 + t) (by omega)
  rw [f1] at c1
  rw [f2 t ht] at c2
  have cf := hf.frozen (2 + t)
  have hz := hf.lt
  have ht' : (t : Int) < 16 := by omega
  obtain ⟨l0, l1⟩ := hl
  have hb1 : Below w.heap.size w (w.alloc (.cells #[.int .i64 c.thread, .int .i64 c.obj, .int .i64 c.kind, .int .u64 c.a, .int .u64 c.b, .int .u64 c.c] 43)) := (Below.refl _ w).alloc (Nat.le_refl _) _
  have HO := hide hO
  have HB1 := hide hb1
  have HF := hide hf
  have HF0 := hide f0
  have HF1 := hide f1
  have HF2 := hide f2
  have HFF := hide hF
  unfold clV elStart
  rw [if_neg (by omega)]
  clear hobj hO hb1 hf f0 f1 f2 hF
  by_cases hk : c.kind = 0
  · rw [if_neg (by omega)]
    have d0 : (c.kind != 0) = false := by simpa using hk
    rcases hh : o.stood t with _ | _
    · rw [hh] at c2
      rw [if_neg (by decide)]
      have hw1 : IntKind.i64.wrap (o.leaves + (t : Int)) = o.leaves + (t : Int) := wrap_i64 (by omega) (by omega)
      have hq : Int.tdiv (o.leaves + (t : Int)) 2 = (o.leaves + (t : Int)) / 2 := Int.tdiv_eq_ediv_of_nonneg (by omega)
      have hw2 : IntKind.i64.wrap ((o.leaves + (t : Int)) / 2) = (o.leaves + (t : Int)) / 2 := wrap_i64 (by omega) (by omega)
      clear hk
      go_enter Try.func98, Try.ntmps98
      go_wp2
      go_ret
      have hpF : Fo pe := (HFF.out pe).2 rfl
      have hkw : Keep (fun k => k < w.heap.size ∧ ¬ Fo k) w (((w.setCell ⟨pe, 2 + t, none⟩ (.bool true)).alloc (.cells #[.int .i64 c.thread, .int .i64 c.obj, .int .i64 c.kind, .int .u64 c.a, .int .u64 c.b, .int .u64 c.c] 43)).alloc (.cells (stA pe t ((o.leaves + (t : Int)) / 2) false) 202)) := (((Keep.refl _ w).setCell (fun hk => hk.2 hpF) _).alloc (fun k hk => by simpa using hk.1) _).alloc (fun k hk => by simp; omega) _
      refine ⟨Fo, fun k => k = w.heap.size + 1, _, rfl, ⟨HFF.out, _, ((HF.out.set (2 + t) (.bool true)).alloc _).alloc _, ?_, ?_, fun s hs => ?_⟩, ⟨w.heap.size + 1, rfl, ?_, fun k => Iff.rfl⟩, fun k hk => Or.inl hk, fun k hk => Or.inr (by omega), fun k hk hm => ?_, hkw⟩
      · show (if 0 = 2 + t then _ else f 0) = _
        rw [if_neg (by omega)]; exact HF0.out
      · show (if 1 = 2 + t then _ else f 1) = _
        rw [if_neg (by omega)]; exact HF1.out
      · show (if 2 + s = 2 + t then _ else f (2 + s)) = Value.bool (upd o.stood t true s)
        by_cases e : s = t
        · subst e
          rw [if_pos rfl, upd_same]
        · rw [if_neg (by omega), upd_other e]
          exact HF2.out s hs
      · have e1 : ((w.setCell ⟨pe, 2 + t, none⟩ (.bool true)).alloc (.cells #[.int .i64 c.thread, .int .i64 c.obj, .int .i64 c.kind, .int .u64 c.a, .int .u64 c.b, .int .u64 c.c] 43)).heap.size = w.heap.size + 1 := by simp
        rw [← e1]
        exact heap_alloc_new _ _
      · have := (HFF.out k).1 hk
        omega
    · rw [hh] at c2
      rw [if_pos rfl]
      have N := refuseMake 8 (w.alloc (.cells #[.int .i64 c.thread, .int .i64 c.obj, .int .i64 c.kind, .int .u64 c.a, .int .u64 c.b, .int .u64 c.c] 43))
      clear hk
      go_enter Try.func98, Try.ntmps98
      go_wp2_with fail
      refine N.mono ?_
      rintro e w1 ⟨b, b1, rfl, hno, z1, z2, hb2⟩
      have HNO := hide hno
      have HB2 := hide hb2
      clear hno hb2 N
      unfold onceV
      go_wp2
      go_ret
      exact elStartQ_no HO.out HB1.out HNO.out z1 z2 HB2.out
  · rw [if_pos hk]
    have d0 : (c.kind != 0) = true := by simpa using hk
    have N := refuseMake 9 (w.alloc (.cells #[.int .i64 c.thread, .int .i64 c.obj, .int .i64 c.kind, .int .u64 c.a, .int .u64 c.b, .int .u64 c.c] 43))
    clear hk
    go_enter Try.func98, Try.ntmps98
    go_wp2_with fail
    refine N.mono ?_
    rintro e w1 ⟨b, b1, rfl, hno, z1, z2, hb2⟩
    have HNO := hide hno
    have HB2 := hide hb2
    clear hno hb2 N
    unfold onceV
    go_wp2
    go_ret
    exact elStartQ_no HO.out HB1.out HNO.out z1 z2 HB2.out
/-- A machine that may be. -/
def elMok (t : Nat) : EM → Prop
  | .no _ => True
  | .stand t' v _ => t' = t ∧ t < 16 ∧ 0 ≤ v ∧ v ≤ 16
def elGood (n : Int) (o : El) (_lw : Lw) (hs : Nat → Option EM) : Prop := o.leaves = n ∧ (1 ≤ n ∧ n ≤ 16) ∧ ∀ t m, hs t = some m → elMok t m
def elTh (pe : Nat) (n : Int) : Th EM El := ⟨elG, [.iface 67 (.pointer (some ⟨pe, 0, none⟩))], elOB pe, elML pe, elAL pe, elGood n, elGood n⟩
theorem elGood_step {n : Int} {o : El} {lw : Lw} {hs : Nat → Option EM} {t : Nat} {m : EM} (hg : elGood n o lw hs) (hm : hs t = some m) : elGood n (elStep o lw m).1 (elStep o lw m).2.1 (upd hs t (if (elStep o lw m).2.2.2 then none else some (elStep o lw m).2.2.1)) := by
  obtain ⟨g1, g2, g4⟩ := hg
  have hk := g4 t m hm
  have key : ∀ (r : Option EM), (∀ m', r = some m' → elMok t m') → ∀ s m', upd hs t r s = some m' → elMok s m' := by
    intro r hr s m' h
    by_cases e : s = t
    · subst e
      rw [upd_same] at h
      exact hr m' h
    · rw [upd_other e] at h
      exact g4 s m' h
  cases m with
  | no e => exact ⟨g1, g2, key _ (fun m' h => by cases h)⟩
  | stand t' v l =>
    obtain ⟨k1, k2, k3, k4⟩ := hk
    have ho : (elStep o lw (.stand t' v l)).1 = o := by
      unfold elStep
      simp only
      split
      · rfl
      · split <;> rfl
    refine ⟨by rw [ho]; exact g1, g2, key _ (fun m' h => ?_)⟩
    unfold elStep at h
    simp only at h
    split at h
    · split at h
      · cases h
      · cases h
        exact ⟨k1, k2, by omega, by omega⟩
    · split at h
      · cases h
      · split at h
        · cases h
        · cases h
          exact ⟨k1, k2, by omega, by omega⟩
end Go.Proofs.Ytlfingcmekifkaa
