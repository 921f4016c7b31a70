import Derived.Test.YtlfingcmekifkaaGreatBun24
namespace Go.Proofs.YtlfingcmekifkaaGreat
open Go.RowKit
def llOk (o : Ll) (t : Nat) (c : Cl) : Prop := (0 ≤ c.kind ∧ c.kind ≤ 2) ∧ (0 ≤ c.a ∧ c.a < 64 ∧ c.a < o.size) ∧ (c.kind = 1 → 0 ≤ c.b ∧ c.b < two32) ∧ (c.kind ≠ 0 → ∃ x, o.links t c.a = some x)
theorem llOk_of {o : Ll} {t : Nat} {c : Cl} (h : llWrong o t c = 0) (hu : ClU c) (hs : o.size ≤ 64) : llOk o t c := by
  unfold llWrong at h
  split at h
  · cases h
  · rename_i h1
    split at h
    · cases h
    · rename_i h2
      split at h
      · cases h
      · rename_i h3
        obtain ⟨⟨u0, _⟩, ⟨u1, _⟩, _⟩ := hu
        refine ⟨by omega, by omega, fun hk => by omega, fun hk => ?_⟩
        rcases hx : o.links t c.a with _ | x
        · exact absurd ⟨hk, hx⟩ h3
        · exact ⟨x, rfl⟩
def opAt (pe : Nat) (w : World) (F : Nat → Prop) (v : Value) (t : Nat) (c : Cl) (an : An) : Prop := ∃ b bc bs bt bp, v = onceV b ∧ w.heap[b]? = some (.cells #[.func (.func 160) #[] #[.pointer (some ⟨bc, 0, none⟩), .pointer (some ⟨bs, 0, none⟩), .pointer (some ⟨bt, 0, none⟩), .pointer (some ⟨bp, 0, none⟩)], .int .i64 an.err, .int .u64 an.val, .slice none 0 0] 220 (0, 0)) ∧
  LlC w pe 0 0 bc bs bt bp t c ∧ ∀ k, F k ↔ k = b ∨ k = bc ∨ k = bs ∨ k = bt ∨ k = bp
def llML (pe : Nat) (w : World) (F : Nat → Prop) (v : Value) : Lo × An → Prop
  | (.no e, _) => NoAt w F v e
  | (.op c, an) => ∃ t, opAt pe w F v t c an ∧ c.thread = (t : Nat)
def llAL (pe : Nat) (w : World) (F : Nat → Prop) (v : Value) : Lo × An → Prop
  | (.no e, an) => NoAl w F v e ∧ an = ⟨e, 0, []⟩
  | (.op c, an) => ∃ t, opAt pe w F v t c an ∧ an.list = []
theorem opAt_keep {pe : Nat} {w w' : World} {F S : Nat → Prop} {v : Value} {t : Nat} {c : Cl} {an : An} (h : opAt pe w F v t c an) (hk : Keep S w w') (hS : ∀ k, F k → S k) : opAt pe w' F v t c an := by
  obtain ⟨b, bc, bs, bt, bp, h1, h2, h3, h4⟩ := h
  have hq : ∀ k, k = b ∨ k = bc ∨ k = bs ∨ k = bt ∨ k = bp → S k := fun k hk => hS k ((h4 k).2 hk)
  exact ⟨b, bc, bs, bt, bp, h1, (hk.block b (hq b (Or.inl rfl))).trans h2, h3.keep hk (hq _ (by simp)) (hq _ (by simp)) (hq _ (by simp)) (hq _ (by simp)), h4⟩
theorem opAt_lt {pe : Nat} {w : World} {F : Nat → Prop} {v : Value} {t : Nat} {c : Cl} {an : An} (h : opAt pe w F v t c an) : ∀ k, F k → k < w.heap.size := by
  obtain ⟨b, bc, bs, bt, bp, h1, h2, h3, h4⟩ := h
  intro k hk
  rcases (h4 k).1 hk with rfl | rfl | rfl | rfl | rfl
  · exact (Array.getElem?_eq_some_iff.1 h2).1
  · exact (Array.getElem?_eq_some_iff.1 h3.call).1
  · exact (Array.getElem?_eq_some_iff.1 h3.self).1
  · exact (Array.getElem?_eq_some_iff.1 h3.thread).1
  · exact (Array.getElem?_eq_some_iff.1 h3.place).1
theorem llGoW {pe pw pm px bc bs bt bp : Nat} {w : World} {F : Nat → Prop} {o : Ll} {f : Nat → Value} {mb : Nat → Option Nat} {t : Nat} {c : Cl} {lw : Lw} (h : LlS pe pw pm px w F o f mb lw.mem) (hC : LlC w pe 0 0 bc bs bt bp t c) (ht : t < 16) (hok : llOk o t c)
    (hne : (bc ≠ pm ∧ bc ≠ px) ∧ (bs ≠ pm ∧ bs ≠ px) ∧ (bt ≠ pm ∧ bt ≠ px) ∧ (bp ≠ pm ∧ bp ≠ px)) :
    (llGo o lw t (.op c)).2.1 = { lw with mem := (llGo o lw t (.op c)).2.1.mem } ∧ (llGo o lw t (.op c)).2.2 = ⟨0, (llGo o lw t (.op c)).2.2.val, []⟩ ∧
    Calls Tryz.prog 160 #[.pointer (some ⟨pw, 0, none⟩), .pointer (some ⟨bc, 0, none⟩), .pointer (some ⟨bs, 0, none⟩), .pointer (some ⟨bt, 0, none⟩), .pointer (some ⟨bp, 0, none⟩)] w (LlP pe pm px w F (llGo o lw t (.op c)).1 (llGo o lw t (.op c)).2.1.mem (llGo o lw t (.op c)).2.2.val) := by
  obtain ⟨k1, k2, k3, k4⟩ := hok
  have hC' : LlC w pe pm px bc bs bt bp t c := ⟨hC.call, hC.self, hC.thread, hC.place⟩
  unfold llGo
  by_cases h0 : c.kind = 0
  · simp only [if_pos h0]
    exact ⟨by trivial, by trivial, llGo0W h hC' ht ⟨k2.1, k2.2.1⟩ h0⟩
  · obtain ⟨x, hx⟩ := k4 h0
    simp only [if_neg h0, hx, Option.getD_some]
    by_cases h1 : c.kind = 1
    · simp only [if_pos h1]
      exact ⟨by trivial, by trivial, llGo1W h hC' ht ⟨k2.1, k2.2.1⟩ h1 hx (k3 h1)⟩
    · simp only [if_neg h1]
      exact ⟨by trivial, by trivial, llGo2W h hC' ht ⟨k2.1, k2.2.1⟩ (by omega) hx hne⟩
def llStepP (pe b bc bs bt bp t : Nat) (c : Cl) (pm px : Nat) (w : World) (F : Nat → Prop) (o' : Ll) (m' : Mm) (val : Int) (e : Ending) (w' : World) : Prop :=
  e = .returned (.bool true) ∧ llOB pe w' (fun k => (F k ∨ w.heap.size ≤ k) ∧ k < w'.heap.size) o' ∧ w'.heap[b]? = some (.cells #[.func (.func 160) #[] #[.pointer (some ⟨bc, 0, none⟩), .pointer (some ⟨bs, 0, none⟩), .pointer (some ⟨bt, 0, none⟩), .pointer (some ⟨bp, 0, none⟩)], .int .i64 0, .int .u64 val, .slice none 0 0] 220 (0, 0)) ∧ LlC w' pe 0 0 bc bs bt bp t c ∧ MemAt w' pm px .nilFunc m' ∧ Keep (fun k => k < w.heap.size ∧ ¬ F k ∧ k ≠ pm ∧ k ≠ px ∧ k ≠ b) w w'
set_option maxRecDepth 100000 in
set_option maxHeartbeats 1000000 in
theorem llStepW {pe pw pm px b bc bs bt bp : Nat} {w : World} {F : Nat → Prop} {o o' : Ll} {f : Nat → Value} {mb : Nat → Option Nat} {t : Nat} {c : Cl} {m m' : Mm} {val e1 v1 : Int} (h : LlS pe pw pm px w F o f mb m) (hC : LlC w pe 0 0 bc bs bt bp t c)
    (hne : (bc ≠ pm ∧ bc ≠ px) ∧ (bs ≠ pm ∧ bs ≠ px) ∧ (bt ≠ pm ∧ bt ≠ px) ∧ (bp ≠ pm ∧ bp ≠ px)) (hnb : ¬ F b ∧ b ≠ pm ∧ b ≠ px) (hnF : ¬ F bc ∧ ¬ F bs ∧ ¬ F bt ∧ ¬ F bp)
    (hb : w.heap[b]? = some (.cells #[.func (.func 160) #[] #[.pointer (some ⟨bc, 0, none⟩), .pointer (some ⟨bs, 0, none⟩), .pointer (some ⟨bt, 0, none⟩), .pointer (some ⟨bp, 0, none⟩)], .int .i64 e1, .int .u64 v1, .slice none 0 0] 220 (0, 0)))
    (N : Calls Tryz.prog 160 #[.pointer (some ⟨pw, 0, none⟩), .pointer (some ⟨bc, 0, none⟩), .pointer (some ⟨bs, 0, none⟩), .pointer (some ⟨bt, 0, none⟩), .pointer (some ⟨bp, 0, none⟩)] w (LlP pe pm px w F o' m' val)) :
    Calls Tryz.prog 184 #[.pointer (some ⟨b, 0, none⟩), .pointer (some ⟨pw, 0, none⟩)] w (llStepP pe b bc bs bt bp t c pm px w F o' m' val) := by
  obtain ⟨c0, c1, c2, c3, hz⟩ := cells4 hb
  have hC1 := (Array.getElem?_eq_some_iff.1 hC.call).1
  have hC2 := (Array.getElem?_eq_some_iff.1 hC.self).1
  have hC3 := (Array.getElem?_eq_some_iff.1 hC.thread).1
  have hC4 := (Array.getElem?_eq_some_iff.1 hC.place).1
  have n1 : b ≠ bc := by rintro rfl; rw [hC.call] at hb; cases hb
  have n2 : b ≠ bs := by rintro rfl; rw [hC.self] at hb; cases hb
  have n3 : b ≠ bt := by rintro rfl; rw [hC.thread] at hb; cases hb
  have n4 : b ≠ bp := by rintro rfl; rw [hC.place] at hb; cases hb
  have HB := hide hb
  have HC := hide hC
  have HH := hide h
  clear hb hC h
  go_enter Tryz.func184, Tryz.ntmps184
  go_wp2_with fail
  refine N.mono ?_
  rintro e w1 ⟨rfl, ⟨f', mb', hO⟩, hm1, hk1⟩
  have hb1 := (hk1.block b ⟨hz, hnb.1, hnb.2.1, hnb.2.2⟩).trans HB.out
  have f0 := frozen_of_row w1 b 1 _ _ hb1
  have f1 := frozen_of_row w1 b 2 _ _ hb1
  have f2 := frozen_of_row w1 b 3 _ _ hb1
  obtain ⟨d0, d1, d2, d3, hz1⟩ := cells4 hb1
  have HO := hide hO
  have HM1 := hide hm1
  have HK1 := hide hk1
  have HB1 := hide hb1
  clear hO hm1 hk1 hb1 N
  go_wp2
  go_ret
  have hkf : Keep (fun k => k ≠ b) w1 (((w1.setCell ⟨b, 1, none⟩ (.int .i64 0)).setCell ⟨b, 2, none⟩ (.int .u64 val)).setCell ⟨b, 3, none⟩ (.slice none 0 0)) := (((Keep.refl _ w1).setCell (by simp) _).setCell (by simp) _).setCell (by simp) _
  have hkW : Keep (fun k => k < w.heap.size ∧ ¬ F k ∧ k ≠ pm ∧ k ≠ px ∧ k ≠ b) w (((w1.setCell ⟨b, 1, none⟩ (.int .i64 0)).setCell ⟨b, 2, none⟩ (.int .u64 val)).setCell ⟨b, 3, none⟩ (.slice none 0 0)) := (HK1.out.mono (fun k hk => ⟨hk.1, hk.2.1, hk.2.2.1, hk.2.2.2.1⟩)).trans (hkf.mono (fun k hk => hk.2.2.2.2))
  have hs : (((w1.setCell ⟨b, 1, none⟩ (.int .i64 0)).setCell ⟨b, 2, none⟩ (.int .u64 val)).setCell ⟨b, 3, none⟩ (.slice none 0 0)).heap.size = w1.heap.size := by simp
  refine ⟨rfl, ⟨f', mb', ?_⟩, ?_, ?_, HM1.out.of_blocks (hkf.block _ hnb.2.1.symm) (hkf.block _ hnb.2.2.symm), hkW⟩
  · rw [hs]
    refine HO.out.keep hkf (fun k hk hh => ?_)
    subst hh
    rcases hk.1 with h | h
    · exact hnb.1 h
    · omega
  · rw [cells_set (cells_set (cells_set HB1.out))]
    rfl
  · exact HC.out.keep hkW ⟨hC1, hnF.1, hne.1.1, hne.1.2, n1.symm⟩ ⟨hC2, hnF.2.1, hne.2.1.1, hne.2.1.2, n2.symm⟩ ⟨hC3, hnF.2.2.1, hne.2.2.1.1, hne.2.2.1.2, n3.symm⟩ ⟨hC4, hnF.2.2.2, hne.2.2.2.1, hne.2.2.2.2, n4.symm⟩
def llStartQ (pe : Nat) (w : World) (Fo : Nat → Prop) (r : Ll × (Lo × An)) (e : Ending) (w' : World) : Prop :=
  ∃ Fo' Fm' u, e = .returned u ∧ llOB pe w' Fo' r.1 ∧ llML pe w' Fm' u r.2 ∧ (∀ k, Fo' k → Fo k ∨ w.heap.size ≤ k) ∧ (∀ k, Fm' k → Fo k ∨ w.heap.size ≤ k) ∧ (∀ k, Fo' k → ¬ Fm' k) ∧ Keep (fun k => k < w.heap.size ∧ ¬ Fo k) w w'
theorem llOB_keep {pe : Nat} {w w' : World} {F S : Nat → Prop} {o : Ll} (h : llOB pe w F o) (hk : Keep S w w') (hS : ∀ k, F k → S k) : llOB pe w' F o := by
  obtain ⟨f, mb, h⟩ := h
  exact ⟨f, mb, h.keep hk hS⟩
theorem llOB_lt {pe : Nat} {w : World} {F : Nat → Prop} {o : Ll} (h : llOB pe w F o) : ∀ k, F k → k < w.heap.size := by
  obtain ⟨f, mb, h⟩ := h
  exact h.lt
theorem llStartQ_no {pe : Nat} {w w1 w2 : World} {Fo : Nat → Prop} {o : Ll} {e : Int} {b b1 : Nat} (hO : llOB pe w Fo o) (hb1 : Below w.heap.size w w1) (hn : OnceNo w2 b b1 e) (h1 : w1.heap.size ≤ b) (h2 : w1.heap.size ≤ b1) (hb2 : Below w1.heap.size w1 w2) : llStartQ pe w Fo (o, (.no e, ⟨0, 0, []⟩)) (.returned (onceV b)) w2 := by
  have hz := hb1.size
  have hk : Keep (fun k => k < w.heap.size) w w2 := (Keep.of_below hb1 (fun k hk => hk)).trans (Keep.of_below hb2 (fun k hk => by omega))
  have hF := llOB_lt hO
  refine ⟨Fo, fun k => k = b ∨ k = b1, onceV b, rfl, llOB_keep hO hk hF, noAt_made hn, fun k hk => Or.inl hk, fun k hk => Or.inr ?_, fun k hk hm => ?_, hk.mono (fun k hk => hk.1)⟩
  · rcases hk with rfl | rfl <;> omega
  · have := hF k hk
    rcases hm with rfl | rfl <;> omega
set_option maxRecDepth 100000 in
theorem llOnceW (bc bs bt bp : Nat) (w : World) : Calls Tryz.prog 119 #[(.func (.func 160) #[] #[.pointer (some ⟨bc, 0, none⟩), .pointer (some ⟨bs, 0, none⟩), .pointer (some ⟨bt, 0, none⟩), .pointer (some ⟨bp, 0, none⟩)])] w fun e w' => e = .returned (onceV w.heap.size) ∧ w' = w.alloc (.cells #[(.func (.func 160) #[] #[.pointer (some ⟨bc, 0, none⟩), .pointer (some ⟨bs, 0, none⟩), .pointer (some ⟨bt, 0, none⟩), .pointer (some ⟨bp, 0, none⟩)]), .int .i64 0, .int .u64 0, .slice none 0 0] 220) := by
  unfold onceV
  go_enter Tryz.func119, Tryz.ntmps119
  go_wp2
  go_ret
  exact ⟨rfl, rfl⟩
set_option maxRecDepth 100000 in
set_option maxHeartbeats 1000000 in
theorem llStartW {pe : Nat} {w : World} {Fo : Nat → Prop} {o : Ll} {t : Nat} {c : Cl} (hO : llOB pe w Fo o) (hsz : 1 ≤ o.size ∧ o.size ≤ 64) (ht : t < 16) (hu : ClU c) (hth : c.thread = t) (hobj : c.obj = 0) (pw : Nat) :
    Calls Tryz.prog 158 #[.pointer (some ⟨pe, 0, none⟩), .pointer (some ⟨pw, 0, none⟩), .int .i64 t, clV c] w (llStartQ pe w Fo (o, (llStart o t c, ⟨0, 0, []⟩))) := by
  have hlt := llOB_lt hO
  have hz : pe < w.heap.size := by
    obtain ⟨f, mb, h⟩ := hO
    exact h.lt pe h.own
  have hb3 : Below w.heap.size w (((w.alloc (.cells #[.pointer (some ⟨pe, 0, none⟩)] 55)).alloc (.cells #[.int .i64 t] 3)).alloc (.cells #[.int .i64 c.thread, .int .i64 c.obj, .int .i64 c.kind, .int .u64 c.a, .int .u64 c.b, .int .u64 c.c] 48)) := by (repeat' (first | exact Below.refl _ _ | assumption | refine Below.drew ?_ | refine below_drewN ?_ _ | refine Below.alloc ?_ (by simp <;> omega) _ | refine Below.setCell ?_ (by simp <;> omega) _))
  have hk3 : Keep (fun k => k < w.heap.size) w (((w.alloc (.cells #[.pointer (some ⟨pe, 0, none⟩)] 55)).alloc (.cells #[.int .i64 t] 3)).alloc (.cells #[.int .i64 c.thread, .int .i64 c.obj, .int .i64 c.kind, .int .u64 c.a, .int .u64 c.b, .int .u64 c.c] 48)) := Keep.of_below hb3 (fun k hk => hk)
  have hO3 : llOB pe (((w.alloc (.cells #[.pointer (some ⟨pe, 0, none⟩)] 55)).alloc (.cells #[.int .i64 t] 3)).alloc (.cells #[.int .i64 c.thread, .int .i64 c.obj, .int .i64 c.kind, .int .u64 c.a, .int .u64 c.b, .int .u64 c.c] 48)) Fo o := llOB_keep hO hk3 hlt
  have N := llWrongW hO3 ht hu hsz
  have h3z : (((w.alloc (.cells #[.pointer (some ⟨pe, 0, none⟩)] 55)).alloc (.cells #[.int .i64 t] 3)).alloc (.cells #[.int .i64 c.thread, .int .i64 c.obj, .int .i64 c.kind, .int .u64 c.a, .int .u64 c.b, .int .u64 c.c] 48)).heap.size = w.heap.size + 3 := by simp
  obtain ⟨m1, m2, m3⟩ := allocs3 w (.cells #[.pointer (some ⟨pe, 0, none⟩)] 55) (.cells #[.int .i64 t] 3) (.cells #[.int .i64 c.thread, .int .i64 c.obj, .int .i64 c.kind, .int .u64 c.a, .int .u64 c.b, .int .u64 c.c] 48)
  have hwr := llOk_of (o := o) (t := t) (c := c)
  have hu0 := hu
  obtain ⟨⟨u0, u1⟩, _⟩ := hu
  unfold clV at N
  unfold llStart
  rw [if_neg (by omega)]
  have HO := hide hO
  have HB3 := hide hb3
  have HU := hide hu0
  have HTH := hide hth
  have HM := hide (And.intro m1 (And.intro m2 m3))
  have HLT := hide hlt
  have HK3 := hide hk3
  clear hO hb3 hO3 m1 m2 m3 hobj hu0 hth hlt hk3
  by_cases hE : llWrong o t c = 0
  · rw [if_pos hE]
    have hok := hwr hE HU.out hsz.2
    rw [hE] at N
    clear hwr hE
    obtain ⟨_, ⟨ha0, ha1, _⟩, _⟩ := hok
    have hwa : IntKind.i64.wrap c.a = c.a := wrap_i64 (by omega) (by omega)
    unfold clV
    go_enter Tryz.func158, Tryz.ntmps158
    go_wp2_with fail
    refine N.mono ?_
    rintro e w1 ⟨rfl, hb1⟩
    rw [h3z] at hb1
    have x3 : w1.cell? ⟨w.heap.size + 2, 3, none⟩ = some (.int .u64 c.a) := (hb1.cell (p := ⟨w.heap.size + 2, 3, none⟩) (by show w.heap.size + 2 < _; omega)).trans (cell_of_row _ _ 3 _ _ _ HM.out.2.2)
    have hz1 : w.heap.size + 3 ≤ w1.heap.size := by have := hb1.size; rw [h3z] at this; exact this
    have HB1 := hide hb1
    clear hb1 N
    have N2 := llOnceW (w.heap.size + 1 + 1) w.heap.size (w.heap.size + 1) w1.heap.size (w1.alloc (.cells #[.int .i64 c.a] 3))
    go_wp2_with fail
    refine N2.mono ?_
    rintro e w2 ⟨rfl, rfl⟩
    clear N2
    unfold onceV
    go_wp2
    go_ret
    have hq1 : Keep (fun k => k < w1.heap.size) w1 ((w1.alloc (.cells #[.int .i64 c.a] 3)).alloc (.cells #[.func (.func 160) #[] #[.pointer (some ⟨w.heap.size + 1 + 1, 0, none⟩), .pointer (some ⟨w.heap.size, 0, none⟩), .pointer (some ⟨w.heap.size + 1, 0, none⟩), .pointer (some ⟨w1.heap.size, 0, none⟩)], .int .i64 0, .int .u64 0, .slice none 0 0] 220)) := ((Keep.refl _ w1).alloc (fun k hk => hk) _).alloc (fun k hk => by simp; omega) _
    have hq3 : Keep (fun k => k < w.heap.size + 3) (((w.alloc (.cells #[.pointer (some ⟨pe, 0, none⟩)] 55)).alloc (.cells #[.int .i64 t] 3)).alloc (.cells #[.int .i64 c.thread, .int .i64 c.obj, .int .i64 c.kind, .int .u64 c.a, .int .u64 c.b, .int .u64 c.c] 48)) ((w1.alloc (.cells #[.int .i64 c.a] 3)).alloc (.cells #[.func (.func 160) #[] #[.pointer (some ⟨w.heap.size + 1 + 1, 0, none⟩), .pointer (some ⟨w.heap.size, 0, none⟩), .pointer (some ⟨w.heap.size + 1, 0, none⟩), .pointer (some ⟨w1.heap.size, 0, none⟩)], .int .i64 0, .int .u64 0, .slice none 0 0] 220)) := (Keep.of_below HB1.out (fun k hk => hk)).trans (hq1.mono (fun k hk => by omega))
    have hq0 : Keep (fun k => k < w.heap.size) w ((w1.alloc (.cells #[.int .i64 c.a] 3)).alloc (.cells #[.func (.func 160) #[] #[.pointer (some ⟨w.heap.size + 1 + 1, 0, none⟩), .pointer (some ⟨w.heap.size, 0, none⟩), .pointer (some ⟨w.heap.size + 1, 0, none⟩), .pointer (some ⟨w1.heap.size, 0, none⟩)], .int .i64 0, .int .u64 0, .slice none 0 0] 220)) := HK3.out.trans (hq3.mono (fun k hk => by omega))
    have hsz1 : (w1.alloc (.cells #[.int .i64 c.a] 3)).heap.size = w1.heap.size + 1 := by simp
    refine ⟨Fo, fun k => k = w1.heap.size + 1 ∨ k = w.heap.size + 1 + 1 ∨ k = w.heap.size ∨ k = w.heap.size + 1 ∨ k = w1.heap.size, onceV (w1.heap.size + 1), ?_, llOB_keep HO.out hq0 HLT.out, ⟨t, ⟨w1.heap.size + 1, w.heap.size + 1 + 1, w.heap.size, w.heap.size + 1, w1.heap.size, rfl, ?_, ⟨(hq3.block _ (by omega)).trans HM.out.2.2, (hq3.block _ (by omega)).trans HM.out.1, (hq3.block _ (by omega)).trans HM.out.2.1, ?_⟩, fun k => Iff.rfl⟩, HTH.out⟩, fun k hk => Or.inl hk, fun k hk => Or.inr (by omega), fun k hk hm => ?_, hq0.mono (fun k hk => hk.1)⟩
    · unfold onceV
      simp
    · rw [← hsz1]
      exact heap_alloc_new _ _
    · exact (heap_alloc_old _ _ (by omega)).trans (heap_alloc_new _ _)
    · have := HLT.out k hk
      omega
  · rw [if_neg hE]
    have d0 : (llWrong o t c != 0) = true := by simpa using hE
    generalize llWrong o t c = E at *
    clear hwr hE
    unfold clV
    go_enter Tryz.func158, Tryz.ntmps158
    go_wp2_with fail
    refine N.mono ?_
    rintro e w1 ⟨rfl, hb1⟩
    have hb01 : Below w.heap.size w w1 := HB3.out.trans (hb1.mono HB3.out.size)
    have HB1 := hide hb01
    clear hb1 hb01 N
    have N2 := refuseMake E w1
    go_wp2_with fail
    refine N2.mono ?_
    rintro e w2 ⟨b, b1, rfl, hno, z1, z2, hb2⟩
    have HNO := hide hno
    have HB2 := hide hb2
    clear hno hb2 N2
    unfold onceV
    go_wp2
    go_ret
    exact llStartQ_no HO.out HB1.out HNO.out z1 z2 HB2.out
end Go.Proofs.YtlfingcmekifkaaGreat
