import Derived.Test.YtlfingcmekifkaaGreatSp3
namespace Go.Proofs.YtlfingcmekifkaaGreat
open Go.RowKit
def spOB (pe : Nat) (w : World) (F : Nat → Prop) (o : Spl) : Prop := (∀ k, F k ↔ k = pe) ∧ ∃ f : Nat → Value, w.rowIs pe 114 17 f ∧ f 0 = .int .i64 0 ∧ ∀ t, t < 16 → f (1 + t) = .bool (o.has t)
def spPr (pe : Nat) (w : World) (F : Nat → Prop) (v : Value) (t pc r c : Nat) : Prop := ∃ b, v = .iface 253 (.pointer (some ⟨b, 0, none⟩)) ∧ w.heap[b]? = some (.cells (tkA pe t pc (nameN r c)) 255 (0, 0)) ∧ ∀ k, F k ↔ k = b
def spML (pe : Nat) (w : World) (F : Nat → Prop) (v : Value) : SM → Prop
  | .no e => NoAt w F v e
  | .take t pc r c => spPr pe w F v t pc r c
def spAL (pe : Nat) (w : World) (F : Nat → Prop) (v : Value) : SM → Prop
  | .no e => NoAl w F v e
  | .take t pc r c => spPr pe w F v t pc r c ∧ r + c ≤ 1900000
theorem spOB_keep {pe : Nat} {w w' : World} {F S : Nat → Prop} {o : Spl} (h : spOB pe w F o) (hk : Keep S w w') (hS : ∀ k, F k → S k) : spOB pe w' F o := by
  obtain ⟨h1, f, h2, h3⟩ := h
  exact ⟨h1, f, rowIs_keep h2 hk (hS pe ((h1 pe).2 rfl)), h3⟩
theorem spPr_keep {pe : Nat} {w w' : World} {F S : Nat → Prop} {v : Value} {t pc r c : Nat} (h : spPr pe w F v t pc r c) (hk : Keep S w w') (hS : ∀ k, F k → S k) : spPr pe w' F v t pc r c := by
  obtain ⟨b, h1, h2, h4⟩ := h
  exact ⟨b, h1, (hk.block b (hS b ((h4 b).2 rfl))).trans h2, h4⟩
theorem spPr_lt {pe : Nat} {w : World} {F : Nat → Prop} {v : Value} {t pc r c : Nat} (h : spPr pe w F v t pc r c) : ∀ k, F k → k < w.heap.size := by
  obtain ⟨b, h1, h2, h4⟩ := h
  intro k hk
  rw [(h4 k).1 hk]
  exact (Array.getElem?_eq_some_iff.1 h2).1
theorem spLate (v : Value) : LateNo (.iface 253 v) := fun w => run_typeAssert_lacksB Tryz.underlying167 (by kernel_rfl) (by kernel_rfl) _ _ w
def spStartQ (pe : Nat) (w : World) (Fo : Nat → Prop) (r : Spl × SM) (e : Ending) (w' : World) : Prop :=
  ∃ Fo' Fm' u, e = .returned u ∧ spOB pe w' Fo' r.1 ∧ spML pe w' Fm' u r.2 ∧ (∀ k, Fo' k → Fo k ∨ w.heap.size ≤ k) ∧ (∀ k, Fm' k → Fo k ∨ w.heap.size ≤ k) ∧ (∀ k, Fo' k → ¬ Fm' k) ∧ Keep (fun k => k < w.heap.size ∧ ¬ Fo k) w w'
theorem spStartQ_no {pe : Nat} {w w1 w2 : World} {Fo : Nat → Prop} {o : Spl} {e : Int} {b b1 : Nat} (hO : spOB pe w Fo o) (hb1 : Below w.heap.size w w1) (hn : OnceNo w2 b b1 e) (h1 : w1.heap.size ≤ b) (h2 : w1.heap.size ≤ b1) (hb2 : Below w1.heap.size w1 w2) : spStartQ pe w Fo (o, .no e) (.returned (onceV b)) w2 := by
  have hz := hb1.size
  have hk : Keep (fun k => k < w.heap.size) w w2 := (Keep.of_below hb1 (fun k hk => hk)).trans (Keep.of_below hb2 (fun k hk => by omega))
  have hF : ∀ k, Fo k → k < w.heap.size := fun k hk => by
    obtain ⟨a1, f, a2, _⟩ := hO
    rw [(a1 k).1 hk]
    exact a2.lt
  refine ⟨Fo, fun k => k = b ∨ k = b1, onceV b, rfl, spOB_keep hO hk hF, noAt_made hn, fun k hk => Or.inl hk, fun k hk => Or.inr ?_, fun k hk hm => ?_, hk.mono (fun k hk => hk.1)⟩
  · rcases hk with rfl | rfl <;> omega
  · have := hF k hk
    rcases hm with rfl | rfl <;> omega
set_option maxRecDepth 100000 in
set_option maxHeartbeats 1000000 in
theorem spStartW {pe : Nat} {w : World} {Fo : Nat → Prop} {o : Spl} {t : Nat} {c : Cl} (hO : spOB pe w Fo o) (ht : t < 16) (hobj : c.obj = 0) (pw : Nat) :
    Calls Tryz.prog 172 #[.pointer (some ⟨pe, 0, none⟩), .pointer (some ⟨pw, 0, none⟩), .int .i64 t, clV c] w (spStartQ pe w Fo (spStart o t c)) := by
  obtain ⟨hF, f, hf, f0, f2⟩ := hO
  have hO : spOB pe w Fo o := ⟨hF, f, hf, f0, f2⟩
  have c2 := hf.cell (i := 1 + t) (by omega)
  rw [f2 t ht] at c2
  have hz := hf.lt
  have ht' : (t : Int) < 16 := by omega
  have hb1 : Below w.heap.size w (w.alloc (.cells #[.int .i64 c.thread, .int .i64 c.obj, .int .i64 c.kind, .int .u64 c.a, .int .u64 c.b, .int .u64 c.c] 48)) := (Below.refl _ w).alloc (Nat.le_refl _) _
  have HO := hide hO
  have HB1 := hide hb1
  have HFF := hide hF
  unfold clV spStart
  rw [if_neg (by omega)]
  clear hobj hO hb1 hf f0 f2 hF
  by_cases hk : c.kind = 0
  · rw [if_neg (by omega)]
    have d0 : (c.kind != 0) = false := by simpa using hk
    rcases hh : o.has t with _ | _
    · rw [hh] at c2
      rw [if_neg (by decide)]
      clear hk
      go_enter Tryz.func172, Tryz.ntmps172
      go_wp2
      go_ret
      have hkw : Keep (fun k => k < w.heap.size) w ((w.alloc (.cells #[.int .i64 c.thread, .int .i64 c.obj, .int .i64 c.kind, .int .u64 c.a, .int .u64 c.b, .int .u64 c.c] 48)).alloc (.cells (tkA pe t 0 (nameN 0 0)) 255)) := ((Keep.refl _ w).alloc (fun k hk => by simpa using hk) _).alloc (fun k hk => by simp; omega) _
      have hFl : ∀ k, Fo k → k < w.heap.size := fun k hk => by rw [(HFF.out k).1 hk]; exact hz
      refine ⟨Fo, fun k => k = w.heap.size + 1, _, rfl, spOB_keep HO.out hkw hFl, ⟨w.heap.size + 1, rfl, ?_, fun k => Iff.rfl⟩, fun k hk => Or.inl hk, fun k hk => Or.inr (by omega), fun k hk hm => ?_, hkw.mono (fun k hk => hk.1)⟩
      · have e1 : (w.alloc (.cells #[.int .i64 c.thread, .int .i64 c.obj, .int .i64 c.kind, .int .u64 c.a, .int .u64 c.b, .int .u64 c.c] 48)).heap.size = w.heap.size + 1 := by simp
        rw [← e1]
        exact heap_alloc_new _ _
      · have := hFl k hk
        omega
    · rw [hh] at c2
      rw [if_pos rfl]
      have N := refuseMake 8 (w.alloc (.cells #[.int .i64 c.thread, .int .i64 c.obj, .int .i64 c.kind, .int .u64 c.a, .int .u64 c.b, .int .u64 c.c] 48))
      clear hk
      go_enter Tryz.func172, Tryz.ntmps172
      go_wp2_with fail
      refine N.mono ?_
      rintro e w1 ⟨b, b1, rfl, hno, z1, z2, hb2⟩
      have HNO := hide hno
      have HB2 := hide hb2
      clear hno hb2 N
      unfold onceV
      go_wp2
      go_ret
      exact spStartQ_no HO.out HB1.out HNO.out z1 z2 HB2.out
  · rw [if_pos hk]
    have d0 : (c.kind != 0) = true := by simpa using hk
    have N := refuseMake 9 (w.alloc (.cells #[.int .i64 c.thread, .int .i64 c.obj, .int .i64 c.kind, .int .u64 c.a, .int .u64 c.b, .int .u64 c.c] 48))
    clear hk
    go_enter Tryz.func172, Tryz.ntmps172
    go_wp2_with fail
    refine N.mono ?_
    rintro e w1 ⟨b, b1, rfl, hno, z1, z2, hb2⟩
    have HNO := hide hno
    have HB2 := hide hb2
    clear hno hb2 N
    unfold onceV
    go_wp2
    go_ret
    exact spStartQ_no HO.out HB1.out HNO.out z1 z2 HB2.out
def spMok (t : Nat) (now : Int) : SM → Prop
  | .no _ => True
  | .take t' pc r c => t' = t ∧ t < 16 ∧ pc ≤ 3 ∧ ((r + c : Nat) : Int) ≤ now
def spGood (_o : Spl) (lw : Lw) (hs : Nat → Option SM) : Prop := 0 ≤ lw.now ∧ ∀ t m, hs t = some m → spMok t lw.now m
def spGoodT (_o : Spl) (lw : Lw) (hs : Nat → Option SM) : Prop := 1 ≤ lw.now ∧ ∀ t m, hs t = some m → spMok t (lw.now - 1) m
def spTh (pe : Nat) : Th SM Spl := ⟨spG, [.iface 63 (.pointer (some ⟨pe, 0, none⟩))], spOB pe, spML pe, spAL pe, spGood, spGoodT⟩
theorem spMok_le {t : Nat} {n n' : Int} {m : SM} (h : spMok t n m) (hn : n ≤ n') : spMok t n' m := by
  cases m with
  | no e => trivial
  | take t' pc r c => exact ⟨h.1, h.2.1, h.2.2.1, Int.le_trans h.2.2.2 hn⟩
theorem spGood_step {o : Spl} {lw : Lw} {hs : Nat → Option SM} {t : Nat} {m : SM} (hg : spGoodT o lw hs) (hm : hs t = some m) : spGood (spStep o lw m).1 (spStep o lw m).2.1 (upd hs t (if (spStep o lw m).2.2.2 then none else some (spStep o lw m).2.2.1)) := by
  obtain ⟨g1, g4⟩ := hg
  have hk := g4 t m hm
  have hnow : (spStep o lw m).2.1.now = lw.now := spG_still o lw t m
  refine ⟨by rw [hnow]; omega, ?_⟩
  rw [hnow]
  have key : ∀ (r : Option SM), (∀ m', r = some m' → spMok t lw.now m') → ∀ s m', upd hs t r s = some m' → spMok s lw.now m' := by
    intro r hr s m' h
    by_cases e : s = t
    · subst e
      rw [upd_same] at h
      exact hr m' h
    · rw [upd_other e] at h
      exact spMok_le (g4 s m' h) (by omega)
  refine key _ fun m' h => ?_
  cases m with
  | no e =>
    simp [spStep] at h
  | take t' pc r c =>
    obtain ⟨k1, k2, k3, k4⟩ := hk
    unfold spStep at h
    simp only at h
    split at h
    · cases h
      exact ⟨k1, k2, by omega, by omega⟩
    · split at h
      · split at h
        · cases h
          exact ⟨k1, k2, by omega, by omega⟩
        · cases h
          exact ⟨k1, k2, by omega, by omega⟩
      · split at h
        · cases h
          exact ⟨k1, k2, by omega, by omega⟩
        · split at h
          · cases h
          · cases h
            exact ⟨k1, k2, by omega, by omega⟩
end Go.Proofs.YtlfingcmekifkaaGreat

namespace Go.Proofs.YtlfingcmekifkaaGreat
open Go.RowKit
def spStepQ (pe : Nat) (w : World) (Fo Fm : Nat → Prop) (ad : Adr) (Mu : Nat → Prop) (v : Value) (r : Spl × Lw × SM × Bool) (e : Ending) (w' : World) : Prop :=
  ∃ Fo' Fm', e = .returned (.bool r.2.2.2) ∧ spOB pe w' Fo' r.1 ∧ spML pe w' Fm' v r.2.2.1 ∧ (r.2.2.2 = true → spAL pe w' Fm' v r.2.2.1) ∧ WL w' ad (fun k => (Mu k ∧ ¬ Fo k ∧ ¬ Fm k) ∨ Fo' k ∨ Fm' k) r.2.1 ∧
    (∀ k, Fo' k ∨ Fm' k → Fo k ∨ Fm k ∨ w.heap.size ≤ k) ∧ (∀ k, Fo' k → ¬ Fm' k) ∧ Keep (fun k => k < w.heap.size ∧ ¬ Fo k ∧ ¬ Fm k ∧ ¬ ad.four k) w w'
section
variable {pe : Nat} {w w' : World} {Fo Fm : Nat → Prop} {ad : Adr} {Mu : Nat → Prop} {v : Value} {o : Spl} {lw : Lw}
theorem spS_of {t pc r c : Nat} (hO : spOB pe w Fo o) (hP : spPr pe w Fm v t pc r c) (hW : WL w ad Mu lw) (c1 : ∀ k, Fo k → ¬ Fm k ∧ ¬ ad.four k) (c2 : ∀ k, Fm k → ¬ ad.four k) (ht : t < 16) (hv : r + c ≤ 1900000) :
    ∃ b f, v = .iface 253 (.pointer (some ⟨b, 0, none⟩)) ∧ SpS w pe b ad.pw ad.pm ad.px t pc r c f lw.mem ∧ (∀ t, t < 16 → f (1 + t) = .bool (o.has t)) ∧ (∀ k, Fm k ↔ k = b) := by
  obtain ⟨b, h1, h2, h4⟩ := hP
  obtain ⟨a1, f, a2, a3, a5⟩ := hO
  obtain ⟨n1, n2, n3, n4, n5, n6⟩ := hW.ne
  have hFb := (h4 b).2 rfl
  have hFe := (a1 pe).2 rfl
  have f4 : ∀ k, ¬ ad.four k → k ≠ ad.pw ∧ k ≠ ad.pm ∧ k ≠ ad.px := fun k hk => ⟨fun e => hk (Or.inl e), fun e => hk (Or.inr (Or.inl e)), fun e => hk (Or.inr (Or.inr (Or.inl e)))⟩
  have b4 := f4 b (c2 b hFb)
  have e4 := f4 pe (c1 pe hFe).2
  exact ⟨b, f, h1, ⟨h2, a2, a3, ⟨_, a5 t ht⟩, hW.ptr, hW.mem, ⟨a2.lt, hW.lt.1⟩, ⟨b4.2.1, b4.2.2, fun e => (c1 pe hFe).1 (e ▸ hFb), b4.1, e4.2.1, e4.2.2, e4.1, n1, n2⟩, ht, hv⟩, a5, h4⟩
theorem sp_after {b t pc' r' c' : Nat} {nm : Int} {o' : Spl} {d : Bool} {m' : Mm} {e : Ending} (hO : spOB pe w Fo o) (hW : WL w ad Mu lw) (c1 : ∀ k, Fo k → ¬ Fm k ∧ ¬ ad.four k) (c2 : ∀ k, Fm k → ¬ ad.four k) (c3 : ∀ k, Fo k ∨ Fm k ∨ ad.four k → Mu k)
    (hrc : r' + c' ≤ 1900000) (hv : v = .iface 253 (.pointer (some ⟨b, 0, none⟩))) (hF : ∀ k, Fm k ↔ k = b) (hnm : nm = nameN r' c') (he : e = .returned (.bool d)) (hb : w'.heap[b]? = some (.cells (tkA pe t pc' nm) 255 (0, 0))) (hO' : spOB pe w' Fo o') (hm : MemAt w' ad.pm ad.px .nilFunc m') (hk : Keep (fun k => k < w.heap.size ∧ k ≠ b ∧ k ≠ pe ∧ k ≠ ad.pm ∧ k ≠ ad.px) w w') :
    spStepQ pe w Fo Fm ad Mu v (o', { lw with mem := m' }, .take t pc' r' c', d) e w' := by
  subst he hnm
  have hO2 := hO
  obtain ⟨a1, f, a2, a3, a5⟩ := hO2
  have hlt := hW.lt
  have hn := hW.ne
  have hFn : ∀ k, k < w.heap.size → ¬ Fm k → ¬ Fo k → k ≠ ad.pm → k ≠ ad.px → k < w.heap.size ∧ k ≠ b ∧ k ≠ pe ∧ k ≠ ad.pm ∧ k ≠ ad.px := fun k h1 h2 h5 h3 h4 => ⟨h1, fun e => h2 ((hF k).2 e), fun e => h5 ((a1 k).2 e), h3, h4⟩
  refine ⟨Fo, Fm, rfl, hO', ⟨b, hv, hb, hF⟩, fun _ => ⟨⟨b, hv, hb, hF⟩, hrc⟩, ?_, ?_, ?_, ?_⟩
  · refine hW.memTo2 hm hk (fun k h1 h2 => hFn k h1 (fun h => h2 (c3 k (Or.inr (Or.inl h)))) (fun h => h2 (c3 k (Or.inl h))) (fun e => h2 (c3 k (Or.inr (Or.inr (Or.inr (Or.inl e)))))) (fun e => h2 (c3 k (Or.inr (Or.inr (Or.inr (Or.inr (Or.inl e)))))))) ⟨?_, ?_⟩ (fun k hk hm => ?_)
    · exact hFn _ hlt.1 (fun h => c2 _ h (Or.inl rfl)) (fun h => (c1 _ h).2 (Or.inl rfl)) hn.1 hn.2.1
    · exact hFn _ hlt.2.2.2 (fun h => c2 _ h (Or.inr (Or.inr (Or.inr rfl)))) (fun h => (c1 _ h).2 (Or.inr (Or.inr (Or.inr rfl)))) hn.2.2.2.1 hn.2.2.2.2.1
    · rcases hm with hm | hm | hm
      · exact hm.1
      · exact c3 k (Or.inl hm)
      · exact c3 k (Or.inr (Or.inl hm))
  · intro k hk
    rcases hk with hk | hk
    · exact Or.inl hk
    · exact Or.inr (Or.inl hk)
  · intro k hk hm
    exact (c1 k hk).1 hm
  · exact hk.mono (fun k hk => hFn k hk.1 hk.2.2.1 hk.2.1 (fun e => hk.2.2.2 (Or.inr (Or.inl e))) (fun e => hk.2.2.2 (Or.inr (Or.inr (Or.inl e)))))
end
theorem spDispStart (pe : Nat) : Disp Tryz.prog (.iface 63 (.pointer (some ⟨pe, 0, none⟩))) "Start" 172 (.pointer (some ⟨pe, 0, none⟩)) := fun _ _ => by kernel_rfl
theorem spDispStep (b : Nat) : Disp Tryz.prog (.iface 253 (.pointer (some ⟨b, 0, none⟩))) "Step" 187 (.pointer (some ⟨b, 0, none⟩)) := fun _ _ => by kernel_rfl
theorem spDispAnswer (b : Nat) : Disp Tryz.prog (.iface 253 (.pointer (some ⟨b, 0, none⟩))) "Answer" 186 (.pointer (some ⟨b, 0, none⟩)) := fun _ _ => by kernel_rfl
set_option maxRecDepth 100000 in
theorem spAnswerW {pe b t pc r c : Nat} (w : World) (hrc : r + c ≤ 1900000) (hb : w.heap[b]? = some (.cells (tkA pe t pc (nameN r c)) 255 (0, 0))) :
    Calls Tryz.prog 186 #[.pointer (some ⟨b, 0, none⟩)] w fun e w' => e = .returned (.tuple #[.agg #[.int .i64 0, .int .u64 (nameN r c), .slice none 0 0], .slice none 0 0]) ∧ Below w.heap.size w w' := by
  obtain ⟨c0, c1, c2, c3, hz⟩ := cells4 hb
  have hnl := name_le (r := r) (c := c) (by omega)
  have hw : IntKind.u64.wrap (nameN r c : Int) = nameN r c := by rw [IntKind.wrap_u64]; omega
  clear hb
  go_enter Tryz.func186, Tryz.ntmps186
  go_wp2
  refine bodyPost_ret (v := .tuple #[.agg #[.int .i64 0, .int .u64 (nameN r c), .slice none 0 0], .slice none 0 0]) (by simp [results, Tryz.results186, go_sem, *]) rfl ⟨rfl, ?_⟩
  (repeat' (first | exact Below.refl _ _ | assumption | refine Below.drew ?_ | refine below_drewN ?_ _ | refine Below.alloc ?_ (by simp <;> omega) _ | refine Below.setCell ?_ (by simp <;> omega) _))
theorem spTh_ok (pe : Nat) : (spTh pe).Ok := by
  refine ⟨fun h hk hS => spOB_keep h hk hS, ?_, ?_, ?_, ?_, ?_, ?_, ?_, ?_, ?_, spG_still, ?_, ?_, ?_, ?_, ?_⟩
  · rintro w F o ⟨h1, f, h2, _⟩ k hk
    rw [(h1 k).1 hk]
    exact h2.lt
  · intro w w' F v m S h hk hS
    cases m with
    | no e => exact NoAt.keep h hk hS
    | take t pc r c => exact spPr_keep h hk hS
  · intro w w' F v m S h hk hS
    cases m with
    | no e => exact NoAl.keep h hk hS
    | take t pc r c => exact ⟨spPr_keep h.1 hk hS, h.2⟩
  · intro w F v m h
    cases m with
    | no e => exact NoAt.lt h
    | take t pc r c => exact spPr_lt h
  · intro w F v m h
    cases m with
    | no e => exact NoAt.iface h
    | take t pc r c =>
      obtain ⟨b, h1, _⟩ := h
      exact ⟨_, _, h1⟩
  · intro v hv
    have := List.mem_singleton.1 hv
    exact ⟨_, _, this⟩
  · intro w Fo o lw hs t j c v hO hg hn ht hc hu hj hv
    have hj0 : j = 0 := by
      rcases j with _ | j
      · rfl
      · simp [spTh] at hv
    subst hj0
    have hv : v = .iface 63 (.pointer (some ⟨pe, 0, none⟩)) := by
      simp [spTh] at hv
      exact hv.symm
    subst hv
    exact ⟨_, _, spDispStart pe, fun pw => spStartW hO ht (by simpa using hj) pw⟩
  · intro o t c h
    have hne : c.obj ≠ 0 := fun e => h (by rw [e]; simp [spTh])
    have hst : spStart o t c = (o, .no 12) := by unfold spStart; rw [if_pos hne]
    refine ⟨?_, fun w b b1 hno => ?_⟩
    · show (spStart o t c).1 = o
      rw [hst]
    · show spML pe w _ _ (spStart o t c).2
      rw [hst]
      exact noAt_made hno
  · intro w Fo Fm v m o lw hs ad Mu t hO hM hW hh hg _ hnow ht c1 c2 c3 _
    have hOl : ∀ k, Fo k → k < w.heap.size := by
      obtain ⟨h1, f, h2, _⟩ := hO
      intro k hk
      rw [(h1 k).1 hk]
      exact h2.lt
    have hg0 := hg
    obtain ⟨g1, g4⟩ := hg
    have hk := g4 t m hh
    cases m with
    | no e =>
      obtain ⟨f, r, hd, hc⟩ := NoAt.step hM ad.pw
      refine ⟨f, r, hd, hc.mono ?_⟩
      rintro x w' ⟨rfl, a1, a2, a3⟩
      have hlt := hW.lt
      have hkk : ∀ k, ad.four k → k < w.heap.size ∧ ¬ Fm k := by
        intro k hk
        refine ⟨?_, fun h => c2 k h hk⟩
        rcases hk with rfl | rfl | rfl | rfl
        · exact hlt.1
        · exact hlt.2.1
        · exact hlt.2.2.1
        · exact hlt.2.2.2
      refine ⟨Fo, Fm, rfl, spOB_keep hO a3 (fun k hk => ⟨hOl k hk, (c1 k hk).1⟩), a1, fun _ => a2, ?_, fun k hk => by rcases hk with h | h; exact Or.inl h; exact Or.inr (Or.inl h), fun k hk => (c1 k hk).1, a3.mono (fun k hk => ⟨hk.1, hk.2.2.1⟩)⟩
      refine hW.keep a3 (fun k h1 h2 => ⟨h1, fun h => h2 (c3 k (Or.inr (Or.inl h)))⟩) (fun k _ hm => ?_) (hkk _ (Or.inl rfl)) (hkk _ (Or.inr (Or.inl rfl))) (hkk _ (Or.inr (Or.inr (Or.inl rfl)))) (hkk _ (Or.inr (Or.inr (Or.inr rfl))))
      rcases hm with hm | hm | hm
      · exact hm.1
      · exact c3 k (Or.inl hm)
      · exact c3 k (Or.inr (Or.inl hm))
    | take t' pc r c =>
      obtain ⟨k1, k2, k3, k4⟩ := hk
      subst k1
      have hrc : r + c ≤ 1800000 := by omega
      obtain ⟨b, f, hv, hS, hfh, hF⟩ := spS_of hO hM hW c1 c2 k2 (by omega)
      refine ⟨_, _, by rw [hv]; exact spDispStep b, ?_⟩
      have hO2 := hO
      obtain ⟨a1, f', a2, a3, a5⟩ := hO2
      have hob : ∀ w', Keep (fun k => k < w.heap.size ∧ k ≠ b ∧ k ≠ ad.pm ∧ k ≠ ad.px) w w' → spOB pe w' Fo o := fun w' hk => spOB_keep hO hk (fun k hk => by
        obtain ⟨u1, u2⟩ := c1 k hk
        exact ⟨hOl k hk, fun e => u1 ((hF k).2 e), fun e => u2 (Or.inr (Or.inl e)), fun e => u2 (Or.inr (Or.inr (Or.inl e)))⟩)
      have aft : ∀ {d : Bool} {pc' : Nat} {r' c' : Nat} {m' : Mm} {e : Ending} {w' : World}, r' + c' ≤ 1900000 → SpP w pe b ad.pm ad.px t' d pc' (nameN r' c') m' e w' → spStepQ pe w Fo Fm ad Mu v (o, { lw with mem := m' }, .take t' pc' r' c', d) e w' := by
        intro d pc' r' c' m' e w' hrc' hA
        obtain ⟨e1, e2, e3, e4⟩ := hA
        exact sp_after hO hW c1 c2 c3 hrc' hv hF rfl e1 e2 (hob w' e4) e3 (e4.mono (fun k hk => ⟨hk.1, hk.2.1, hk.2.2.2.1, hk.2.2.2.2⟩))
      by_cases h0 : pc = 0
      · subst h0
        refine (spStep0 hS).mono fun e w' hA => ?_
        have := aft (by omega) hA
        show spStepQ pe w Fo Fm ad Mu v (spStep o lw (.take t' 0 r c)) e w'
        unfold spStep
        dsimp only
        rw [if_pos rfl]
        exact this
      · by_cases h1 : pc = 1
        · subst h1
          by_cases h2 : lw.mem.tell 0 ((2 * nameN r c : Nat) + 1) 0 = 0
          · refine (spStep1s hS h2).mono fun e w' hA => ?_
            have := aft (by omega) hA
            show spStepQ pe w Fo Fm ad Mu v (spStep o lw (.take t' 1 r c)) e w'
            unfold spStep
            dsimp only
            rw [if_neg (by decide), if_pos rfl, if_neg (by simpa using h2)]
            exact this
          · refine (spStep1r hS h2).mono fun e w' hA => ?_
            have := aft (by omega) hA
            show spStepQ pe w Fo Fm ad Mu v (spStep o lw (.take t' 1 r c)) e w'
            unfold spStep
            dsimp only
            rw [if_neg (by decide), if_pos rfl, if_pos h2]
            exact this
        · by_cases h2 : pc = 2
          · subst h2
            refine (spStep2 hS).mono fun e w' hA => ?_
            have := aft (by omega) hA
            show spStepQ pe w Fo Fm ad Mu v (spStep o lw (.take t' 2 r c)) e w'
            unfold spStep
            dsimp only
            rw [if_neg (by decide), if_neg (by decide), if_pos rfl]
            exact this
          · obtain rfl : pc = 3 := by omega
            by_cases h3 : lw.mem.tell 0 (2 * nameN r c : Nat) 0 = t' + 1
            · refine (spStep3y hS h3).mono fun e w' hA => ?_
              obtain ⟨e1, e2, e3, e4, e5⟩ := hA
              have := sp_after (o' := ⟨upd o.has t' true⟩) hO hW c1 c2 c3 (show r + c ≤ 1900000 by omega) hv hF rfl e1 e2 ⟨a1, _, e3, (by show (if 0 = 1 + t' then _ else f 0) = _; rw [if_neg (by omega)]; exact hS.f0), fun s hs => ?_⟩ e4 e5
              · show spStepQ pe w Fo Fm ad Mu v (spStep o lw (.take t' 3 r c)) e w'
                unfold spStep
                dsimp only
                rw [if_neg (by decide), if_neg (by decide), if_neg (by decide), if_pos h3]
                exact this
              · show (if 1 + s = 1 + t' then _ else f (1 + s)) = Value.bool (upd o.has t' true s)
                by_cases e : s = t'
                · subst e
                  rw [if_pos rfl, upd_same]
                · rw [if_neg (by omega), upd_other e]
                  exact hfh s hs
            · refine (spStep3d hS h3).mono fun e w' hA => ?_
              have := aft (by omega) hA
              show spStepQ pe w Fo Fm ad Mu v (spStep o lw (.take t' 3 r c)) e w'
              unfold spStep
              dsimp only
              rw [if_neg (by decide), if_neg (by decide), if_neg (by decide), if_neg h3]
              exact this
  · intro w Fm v m o h
    cases m with
    | no e => exact NoAl.ans h _
    | take t pc r c =>
      obtain ⟨⟨b, rfl, h2, _⟩, hrc⟩ := h
      refine ⟨_, _, spDispAnswer b, (spAnswerW w hrc h2).mono ?_⟩
      rintro x w' ⟨rfl, hb⟩
      exact ⟨_, _, rfl, LstIs.nil _ _, KeyIs.nil _ _, hb⟩
  · intro w Fm v m h
    refine ⟨?_, fun _ _ => rfl⟩
    cases m with
    | no e => exact NoAt.late h
    | take t pc r c =>
      obtain ⟨b, rfl, _⟩ := h
      exact spLate _
  · intro o lw hs t c hg hn ht hc hu
    obtain ⟨g1, g4⟩ := hg
    refine ⟨g1, fun s m hm => ?_⟩
    by_cases e : s = t
    · subst e
      rw [upd_same] at hm
      cases hm
      show spMok s (lw.now - 1) (spStart o s c).2
      unfold spStart
      split
      · trivial
      · split
        · trivial
        · split
          · trivial
          · exact ⟨rfl, ht, by omega, by omega⟩
    · rw [upd_other e] at hm
      exact g4 s m hm
  · intro o lw hs hg
    exact ⟨by have := hg.1; show (1 : Int) ≤ lw.now + 1; omega, fun s m hm => by have := hg.2 s m hm; show spMok s (lw.now + 1 - 1) m; rw [Int.add_sub_cancel]; exact this⟩
  · intro o lw hs t m hg hm ht
    exact spGood_step hg hm
end Go.Proofs.YtlfingcmekifkaaGreat
