import Derived.Test.YtlfingcmekifkaaGreatAo3
namespace Go.Proofs.YtlfingcmekifkaaGreat
open Go.RowKit
def adOB (pe : Nat) (w : World) (F : Nat → Prop) (o : Ad) : Prop := (∀ k, F k ↔ k = pe) ∧ ∃ f : Nat → Value, w.rowIs pe 116 18 f ∧ f 0 = .int .i64 0 ∧ f 1 = .int .i64 o.n ∧ ∀ t, t < 16 → f (2 + t) = .bool (o.has t)
def adPr (pe : Nat) (w : World) (F : Nat → Prop) (v : Value) (t pc : Nat) (vv : Int) (seen : List Int) (val : Int) : Prop := ∃ b sl, v = .iface 256 (.pointer (some ⟨b, 0, none⟩)) ∧ w.heap[b]? = some (.cells (prA6 pe t pc vv sl val) 258 (0, 0)) ∧ WRow w 0 sl seen ∧ (∀ k, F k ↔ k = b ∨ sl.ownBlock = some k) ∧ sl.ownBlock ≠ some b
def adML (pe : Nat) (w : World) (F : Nat → Prop) (v : Value) : AM → Prop
  | .no e => NoAt w F v e
  | .prop t pc vv seen val => adPr pe w F v t pc vv seen val
def adAL (pe : Nat) (w : World) (F : Nat → Prop) (v : Value) : AM → Prop
  | .no e => NoAl w F v e
  | .prop t pc vv seen val => adPr pe w F v t pc vv seen val
theorem adOB_keep {pe : Nat} {w w' : World} {F S : Nat → Prop} {o : Ad} (h : adOB pe w F o) (hk : Keep S w w') (hS : ∀ k, F k → S k) : adOB pe w' F o := by
  obtain ⟨h1, f, h2, h3⟩ := h
  exact ⟨h1, f, rowIs_keep h2 hk (hS pe ((h1 pe).2 rfl)), h3⟩
theorem adPr_keep {pe : Nat} {w w' : World} {F S : Nat → Prop} {v : Value} {t pc : Nat} {vv val : Int} {seen : List Int} (h : adPr pe w F v t pc vv seen val) (hk : Keep S w w') (hS : ∀ k, F k → S k) : adPr pe w' F v t pc vv seen val := by
  obtain ⟨b, sl, h1, h2, h3, h4, h5⟩ := h
  exact ⟨b, sl, h1, (hk.block b (hS b ((h4 b).2 (Or.inl rfl)))).trans h2, owns_keepV h3 hk (fun k hk => hS k ((h4 k).2 (Or.inr hk))), h4, h5⟩
theorem adPr_lt {pe : Nat} {w : World} {F : Nat → Prop} {v : Value} {t pc : Nat} {vv val : Int} {seen : List Int} (h : adPr pe w F v t pc vv seen val) : ∀ k, F k → k < w.heap.size := by
  obtain ⟨b, sl, h1, h2, h3, h4, h5⟩ := h
  intro k hk
  rcases (h4 k).1 hk with rfl | hk
  · exact (Array.getElem?_eq_some_iff.1 h2).1
  · exact (World.ownsRow.lt h3 k hk).2
theorem adLate (v : Value) : LateNo (.iface 256 v) := fun w => run_typeAssert_lacksB Tryz.underlying167 (by kernel_rfl) (by kernel_rfl) _ _ w
def StartQ (pe : Nat) (w : World) (Fo : Nat → Prop) (r : Ad × AM) (e : Ending) (w' : World) : Prop :=
  ∃ Fo' Fm' u, e = .returned u ∧ adOB pe w' Fo' r.1 ∧ adML pe w' Fm' u r.2 ∧ (∀ k, Fo' k → Fo k ∨ w.heap.size ≤ k) ∧ (∀ k, Fm' k → Fo k ∨ w.heap.size ≤ k) ∧ (∀ k, Fo' k → ¬ Fm' k) ∧ Keep (fun k => k < w.heap.size ∧ ¬ Fo k) w w'
theorem startQ_no {pe : Nat} {w w1 w2 : World} {Fo : Nat → Prop} {o : Ad} {e : Int} {b b1 : Nat} (hO : adOB pe w Fo o) (hb1 : Below w.heap.size w w1) (hn : OnceNo w2 b b1 e) (h1 : w1.heap.size ≤ b) (h2 : w1.heap.size ≤ b1) (hb2 : Below w1.heap.size w1 w2) : StartQ pe w Fo (o, .no e) (.returned (onceV b)) w2 := by
  have hz := hb1.size
  have hk : Keep (fun k => k < w.heap.size) w w2 := (Keep.of_below hb1 (fun k hk => hk)).trans (Keep.of_below hb2 (fun k hk => by omega))
  have hF : ∀ k, Fo k → k < w.heap.size := fun k hk => by
    obtain ⟨a1, f, a2, _⟩ := hO
    rw [(a1 k).1 hk]
    exact a2.lt
  refine ⟨Fo, fun k => k = b ∨ k = b1, onceV b, rfl, adOB_keep hO hk hF, noAt_made hn, fun k hk => Or.inl hk, fun k hk => Or.inr ?_, fun k hk hm => ?_, hk.mono (fun k hk => hk.1)⟩
  · rcases hk with rfl | rfl <;> omega
  · have := hF k hk
    rcases hm with rfl | rfl <;> omega
set_option maxRecDepth 100000 in
set_option maxHeartbeats 1000000 in
theorem adStartW {pe : Nat} {w : World} {Fo : Nat → Prop} {o : Ad} {t : Nat} {c : Cl} (hO : adOB pe w Fo o) (ht : t < 16) (hu : ClU c) (hobj : c.obj = 0) (pw : Nat) :
    Calls Tryz.prog 173 #[.pointer (some ⟨pe, 0, none⟩), .pointer (some ⟨pw, 0, none⟩), .int .i64 t, clV c] w (StartQ pe w Fo (adStart o t c)) := by
  obtain ⟨hF, f, hf, f0, f1, f2⟩ := hO
  have hO : adOB pe w Fo o := ⟨hF, f, hf, f0, f1, f2⟩
  have c2 := hf.cell (i := 2 + t) (by omega)
  rw [f2 t ht] at c2
  have cf := hf.frozen (2 + t)
  have hz := hf.lt
  have ht' : (t : Int) < 16 := by omega
  obtain ⟨⟨u0, u1⟩, _, _⟩ := hu
  have hb1 : Below w.heap.size w (w.alloc (.cells #[.int .i64 c.thread, .int .i64 c.obj, .int .i64 c.kind, .int .u64 c.a, .int .u64 c.b, .int .u64 c.c] 48)) := (Below.refl _ w).alloc (Nat.le_refl _) _
  have HO := hide hO
  have HB1 := hide hb1
  have HF := hide hf
  have HF0 := hide f0
  have HF1 := hide f1
  have HF2 := hide f2
  have HFF := hide hF
  unfold clV adStart
  rw [if_neg (by omega)]
  clear hobj hO hb1 hf f0 f1 f2 hF
  by_cases hk : c.kind = 0
  · rw [if_neg (by omega)]
    have d0 : (c.kind != 0) = false := by simpa using hk
    by_cases ha : 2147483648 ≤ c.a
    · rw [if_pos ha]
      have d1 : decide (2147483648 ≤ c.a) = true := by simpa using ha
      have N := refuseMake 10 (w.alloc (.cells #[.int .i64 c.thread, .int .i64 c.obj, .int .i64 c.kind, .int .u64 c.a, .int .u64 c.b, .int .u64 c.c] 48))
      clear hk
      go_enter Tryz.func173, Tryz.ntmps173
      go_wp2_with fail
      refine N.mono ?_
      rintro e w1 ⟨b, b1, rfl, hno, z1, z2, hb2⟩
      have HNO := hide hno
      have HB2 := hide hb2
      clear hno hb2 N
      unfold onceV
      go_wp2
      go_ret
      exact startQ_no HO.out HB1.out HNO.out z1 z2 HB2.out
    · rw [if_neg ha]
      have d1 : decide (2147483648 ≤ c.a) = false := by simpa using ha
      rcases hh : o.has t with _ | _
      · rw [hh] at c2
        rw [if_neg (by decide)]
        have hwa : IntKind.u64.wrap (c.a + 1) = c.a + 1 := by rw [IntKind.wrap_u64]; omega
        clear hk ha
        go_enter Tryz.func173, Tryz.ntmps173
        go_wp2
        go_ret
        have hpF : Fo pe := (HFF.out pe).2 rfl
        have hkw : Keep (fun k => k < w.heap.size ∧ ¬ Fo k) w (((w.setCell ⟨pe, 2 + t, none⟩ (.bool true)).alloc (.cells #[.int .i64 c.thread, .int .i64 c.obj, .int .i64 c.kind, .int .u64 c.a, .int .u64 c.b, .int .u64 c.c] 48)).alloc (.cells (prA6 pe t 0 (c.a + 1) (.slice none 0 0) 0) 258)) := (((Keep.refl _ w).setCell (fun hk => hk.2 hpF) _).alloc (fun k hk => by simpa using hk.1) _).alloc (fun k hk => by simp; omega) _
        refine ⟨Fo, fun k => k = w.heap.size + 1, _, rfl, ⟨HFF.out, _, ((HF.out.set (2 + t) (.bool true)).alloc _).alloc _, ?_, ?_, fun s hs => ?_⟩, ⟨w.heap.size + 1, .slice none 0 0, rfl, ?_, World.ownsRow_nil _ _ _ _, fun k => ?_, fun e => by cases e⟩, fun k hk => Or.inl hk, fun k hk => Or.inr (by omega), fun k hk hm => ?_, hkw⟩
        · show (if 0 = 2 + t then _ else f 0) = _
          rw [if_neg (by omega)]; exact HF0.out
        · show (if 1 = 2 + t then _ else f 1) = _
          rw [if_neg (by omega)]; exact HF1.out
        · show (if 2 + s = 2 + t then _ else f (2 + s)) = Value.bool (upd o.has t true s)
          by_cases e : s = t
          · subst e
            rw [if_pos rfl, upd_same]
          · rw [if_neg (by omega), upd_other e]
            exact HF2.out s hs
        · have e1 : ((w.setCell ⟨pe, 2 + t, none⟩ (.bool true)).alloc (.cells #[.int .i64 c.thread, .int .i64 c.obj, .int .i64 c.kind, .int .u64 c.a, .int .u64 c.b, .int .u64 c.c] 48)).heap.size = w.heap.size + 1 := by simp
          rw [← e1]
          exact heap_alloc_new _ _
        · constructor
          · exact fun h => Or.inl h
          · intro h
            rcases h with h | h
            · exact h
            · cases h
        · have := (HFF.out k).1 hk
          omega
      · rw [hh] at c2
        rw [if_pos rfl]
        have N := refuseMake 8 (w.alloc (.cells #[.int .i64 c.thread, .int .i64 c.obj, .int .i64 c.kind, .int .u64 c.a, .int .u64 c.b, .int .u64 c.c] 48))
        clear hk ha
        go_enter Tryz.func173, Tryz.ntmps173
        go_wp2_with fail
        refine N.mono ?_
        rintro e w1 ⟨b, b1, rfl, hno, z1, z2, hb2⟩
        have HNO := hide hno
        have HB2 := hide hb2
        clear hno hb2 N
        unfold onceV
        go_wp2
        go_ret
        exact startQ_no HO.out HB1.out HNO.out z1 z2 HB2.out
  · rw [if_pos hk]
    have d0 : (c.kind != 0) = true := by simpa using hk
    have N := refuseMake 9 (w.alloc (.cells #[.int .i64 c.thread, .int .i64 c.obj, .int .i64 c.kind, .int .u64 c.a, .int .u64 c.b, .int .u64 c.c] 48))
    clear hk
    go_enter Tryz.func173, Tryz.ntmps173
    go_wp2_with fail
    refine N.mono ?_
    rintro e w1 ⟨b, b1, rfl, hno, z1, z2, hb2⟩
    have HNO := hide hno
    have HB2 := hide hb2
    clear hno hb2 N
    unfold onceV
    go_wp2
    go_ret
    exact startQ_no HO.out HB1.out HNO.out z1 z2 HB2.out
def adMok (n t : Nat) : AM → Prop
  | .no _ => True
  | .prop t' pc v seen _ => t' = t ∧ t < 16 ∧ pc ≤ 3 ∧ (1 ≤ v ∧ v ≤ 2147483648) ∧ (∀ x ∈ seen, 0 ≤ x ∧ x < 18446744073709551616) ∧ seen.length ≤ n ∧ (pc = 0 → seen = []) ∧ (pc = 1 ∨ pc = 3 → seen.length < n)
def adGood (n : Nat) (o : Ad) (lw : Lw) (hs : Nat → Option AM) : Prop := o.n = n ∧ (1 ≤ n ∧ n ≤ 16) ∧ W64 lw.mem.words ∧ ∀ t m, hs t = some m → adMok n t m
def adTh (pe n : Nat) : Th AM Ad := ⟨adG, [.iface 66 (.pointer (some ⟨pe, 0, none⟩))], adOB pe, adML pe, adAL pe, adGood n, adGood n⟩
theorem markF_bd {v : Int} {l : List Int} (h : 1 ≤ v ∧ v ≤ 2147483648) : 0 ≤ markF v l ∧ markF v l < 18446744073709551616 := by
  unfold markF
  split <;> omega
theorem adGood_step {n : Nat} {o : Ad} {lw : Lw} {hs : Nat → Option AM} {t : Nat} {m : AM} (hg : adGood n o lw hs) (hm : hs t = some m) : adGood n (adStep o lw m).1 (adStep o lw m).2.1 (upd hs t (if (adStep o lw m).2.2.2 then none else some (adStep o lw m).2.2.1)) := by
  obtain ⟨g1, g2, g3, g4⟩ := hg
  have hk := g4 t m hm
  have key : ∀ (r : Option AM), (∀ m', r = some m' → adMok n t m') → ∀ s m', upd hs t r s = some m' → adMok n s m' := by
    intro r hr s m' h
    by_cases e : s = t
    · subst e
      rw [upd_same] at h
      exact hr m' h
    · rw [upd_other e] at h
      exact g4 s m' h
  cases m with
  | no e => exact ⟨g1, g2, g3, key _ (fun m' h => by cases h)⟩
  | prop t' pc v seen val =>
    obtain ⟨k1, k2, k3, k4, k5, k6, k7, k8⟩ := hk
    unfold adStep
    by_cases h0 : pc = 0
    · simp only [h0, if_pos]
      refine ⟨g1, g2, acc_w64 g3 _ _ _ _ ?_, key _ (fun m' h => ?_)⟩
      · unfold acY
        rw [if_neg (by decide), if_pos rfl]
        omega
      · cases h
        refine ⟨k1, k2, by omega, k4, k5, k6, fun h => by omega, fun _ => ?_⟩
        rw [k7 h0]
        simp
        omega
    · by_cases h1 : pc = 1
      · have hl := k8 (Or.inl h1)
        simp only [h1]
        refine ⟨g1, g2, acc_w64 g3 _ _ _ _ ?_, key _ (fun m' h => ?_)⟩
        · unfold acY
          rw [if_pos rfl]
          exact at_bd g3 _
        · simp only [if_neg (show ¬ (1 = 0) by decide), if_pos] at h
          cases h
          refine ⟨k1, k2, by split <;> omega, k4, fun x hx => ?_, by simp; omega, fun h => ?_, fun h => ?_⟩
          · rcases List.mem_append.1 hx with h | h
            · exact k5 x h
            · rw [List.mem_singleton.1 h]
              exact tell0_bd g3 _
          · split at h <;> cases h
          · split at h
            · omega
            · rename_i hq
              simp at hq ⊢
              omega
      · by_cases h2 : pc = 2
        · simp only [h2]
          refine ⟨g1, g2, acc_w64 g3 _ _ _ _ ?_, key _ (fun m' h => ?_)⟩
          · unfold acY
            rw [if_neg (by decide), if_pos rfl]
            exact markF_bd k4
          · simp only [if_neg (show ¬ (2 = 0) by decide), if_neg (show ¬ (2 = 1) by decide), if_pos] at h
            cases h
            refine ⟨k1, k2, by omega, k4, fun x hx => (by simp at hx), (by simp), fun h => (by cases h), fun _ => (by simp; omega)⟩
        · have h3 : pc = 3 := by omega
          have hl := k8 (Or.inr h3)
          simp only [if_neg h0, if_neg h1, if_neg h2]
          split
          · refine ⟨g1, g2, acc_w64 g3 _ _ _ _ ?_, key _ (fun m' h => by cases h)⟩
            unfold acY
            rw [if_pos rfl]
            exact at_bd g3 _
          · rename_i hq
            refine ⟨g1, g2, acc_w64 g3 _ _ _ _ ?_, key _ (fun m' h => ?_)⟩
            · unfold acY
              rw [if_pos rfl]
              exact at_bd g3 _
            · cases h
              refine ⟨k1, k2, by omega, k4, fun x hx => ?_, (by simp; omega), fun h => (by cases h), fun _ => ?_⟩
              · rcases List.mem_append.1 hx with h | h
                · exact k5 x h
                · rw [List.mem_singleton.1 h]
                  exact tell0_bd g3 _
              · simp at hq ⊢
                omega
end Go.Proofs.YtlfingcmekifkaaGreat

namespace Go.Proofs.YtlfingcmekifkaaGreat
open Go.RowKit
def adStepQ (pe : Nat) (w : World) (Fo Fm : Nat → Prop) (ad : Adr) (Mu : Nat → Prop) (v : Value) (r : Ad × Lw × AM × Bool) (e : Ending) (w' : World) : Prop :=
  ∃ Fo' Fm', e = .returned (.bool r.2.2.2) ∧ adOB pe w' Fo' r.1 ∧ adML pe w' Fm' v r.2.2.1 ∧ (r.2.2.2 = true → adAL pe w' Fm' v r.2.2.1) ∧ WL w' ad (fun k => (Mu k ∧ ¬ Fo k ∧ ¬ Fm k) ∨ Fo' k ∨ Fm' k) r.2.1 ∧
    (∀ k, Fo' k ∨ Fm' k → Fo k ∨ Fm k ∨ w.heap.size ≤ k) ∧ (∀ k, Fo' k → ¬ Fm' k) ∧ Keep (fun k => k < w.heap.size ∧ ¬ Fo k ∧ ¬ Fm k ∧ ¬ ad.four k) w w'
section
variable {pe : Nat} {w w' : World} {Fo Fm : Nat → Prop} {ad : Adr} {Mu : Nat → Prop} {v : Value} {o : Ad} {lw : Lw}
theorem adS_of {t pc : Nat} {vv val : Int} {seen : List Int} (hO : adOB pe w Fo o) (hP : adPr pe w Fm v t pc vv seen val) (hW : WL w ad Mu lw) (c1 : ∀ k, Fo k → ¬ Fm k ∧ ¬ ad.four k) (c2 : ∀ k, Fm k → ¬ ad.four k) (hn : 1 ≤ o.n ∧ o.n ≤ 16) (ht : t < 16) (hv : 1 ≤ vv ∧ vv ≤ 2147483648) (hb : ∀ x ∈ seen, 0 ≤ x ∧ x < 18446744073709551616) :
    ∃ b sl, v = .iface 256 (.pointer (some ⟨b, 0, none⟩)) ∧ AdS w pe b ad.pw ad.pm ad.px t pc o.n vv val sl seen lw.mem ∧ (∀ k, Fm k ↔ k = b ∨ sl.ownBlock = some k) := by
  obtain ⟨b, sl, h1, h2, h3, h4, h5⟩ := hP
  obtain ⟨a1, f, a2, a3, a4, a5⟩ := hO
  obtain ⟨n1, n2, n3, n4, n5, n6⟩ := hW.ne
  have hFb := (h4 b).2 (Or.inl rfl)
  have hFe := (a1 pe).2 rfl
  have f4 : ∀ k, ¬ ad.four k → k ≠ ad.pw ∧ k ≠ ad.pm ∧ k ≠ ad.px := fun k hk => ⟨fun e => hk (Or.inl e), fun e => hk (Or.inr (Or.inl e)), fun e => hk (Or.inr (Or.inr (Or.inl e)))⟩
  have b4 := f4 b (c2 b hFb)
  have e4 := f4 pe (c1 pe hFe).2
  refine ⟨b, sl, h1, ⟨h2, h3, ?_, ?_, hW.ptr, hW.mem, ⟨a2.lt, hW.lt.1⟩, ⟨b4.2.1, b4.2.2, fun e => (c1 pe hFe).1 (e ▸ hFb), b4.1, e4.2.1, e4.2.2, e4.1, n1, n2⟩, fun k hk => ?_, hn, ht, hv, hb⟩, h4⟩
  · rw [← a3]
    exact a2.cell (i := 0) (by omega)
  · rw [← a4]
    exact a2.cell (i := 1) (by omega)
  · have hF := (h4 k).2 (Or.inr hk)
    have k4 := f4 k (c2 k hF)
    exact ⟨k4.2.1, k4.2.2, fun e => h5 (e ▸ hk), fun e => (c1 pe hFe).1 (e ▸ hF), k4.1⟩
theorem ad_after {b t pc' : Nat} {vv val' : Int} {seen' : List Int} {sl : Value} {d : Bool} {m' : Mm} {e : Ending} (hO : adOB pe w Fo o) (hW : WL w ad Mu lw) (c1 : ∀ k, Fo k → ¬ Fm k ∧ ¬ ad.four k) (c2 : ∀ k, Fm k → ¬ ad.four k) (c3 : ∀ k, Fo k ∨ Fm k ∨ ad.four k → Mu k)
    (hv : v = .iface 256 (.pointer (some ⟨b, 0, none⟩))) (hF : ∀ k, Fm k ↔ k = b ∨ sl.ownBlock = some k) (hA : AdP w pe b ad.pm ad.px t vv sl d pc' seen' val' m' e w') :
    adStepQ pe w Fo Fm ad Mu v (o, { lw with mem := m' }, .prop t pc' vv seen' val', d) e w' := by
  obtain ⟨sl', rfl, h1, h2, h3, h4, h5, h6⟩ := hA
  have hO' := hO
  obtain ⟨a1, f, a2, a3, a4, a5⟩ := hO'
  have hlt := hW.lt
  have hn := hW.ne
  have hFn : ∀ k, k < w.heap.size → ¬ Fm k → k ≠ ad.pm → k ≠ ad.px → k < w.heap.size ∧ k ≠ b ∧ sl.ownBlock ≠ some k ∧ k ≠ ad.pm ∧ k ≠ ad.px := fun k h1 h2 h3 h4 => ⟨h1, fun e => h2 ((hF k).2 (Or.inl e)), fun e => h2 ((hF k).2 (Or.inr e)), h3, h4⟩
  have hFoS : ∀ k, Fo k → k < w.heap.size ∧ k ≠ b ∧ sl.ownBlock ≠ some k ∧ k ≠ ad.pm ∧ k ≠ ad.px := fun k hk => by
    obtain ⟨g1, g2⟩ := c1 k hk
    refine hFn k ?_ g1 (fun e => g2 (Or.inr (Or.inl e))) (fun e => g2 (Or.inr (Or.inr (Or.inl e))))
    rw [(a1 k).1 hk]
    exact a2.lt
  have hFb := (hF b).2 (Or.inl rfl)
  have hF' : ∀ k, (k = b ∨ sl'.ownBlock = some k) → Fm k ∨ w.heap.size ≤ k := by
    intro k hk
    rcases hk with rfl | hk
    · exact Or.inl hFb
    · rcases h4 k hk with h | h
      · exact Or.inl ((hF k).2 (Or.inr h))
      · exact Or.inr h
  have hFlt : ∀ k, Fo k → k < w.heap.size := fun k hk => (hFoS k hk).1
  refine ⟨Fo, fun k => k = b ∨ sl'.ownBlock = some k, rfl, adOB_keep hO h6 hFoS, ⟨b, sl', hv, h1, h2, fun k => Iff.rfl, h5⟩, fun _ => ⟨b, sl', hv, h1, h2, fun k => Iff.rfl, h5⟩, ?_, ?_, ?_, ?_⟩
  · refine hW.memTo2 h3 h6 (fun k h1 h2 => hFn k h1 (fun h => h2 (c3 k (Or.inr (Or.inl h)))) (fun e => h2 (c3 k (Or.inr (Or.inr (Or.inr (Or.inl e)))))) (fun e => h2 (c3 k (Or.inr (Or.inr (Or.inr (Or.inr (Or.inl e)))))))) ⟨?_, ?_⟩ (fun k hk hm => ?_)
    · exact hFn _ hlt.1 (fun h => c2 _ h (Or.inl rfl)) hn.1 hn.2.1
    · exact hFn _ hlt.2.2.2 (fun h => c2 _ h (Or.inr (Or.inr (Or.inr rfl)))) hn.2.2.2.1 hn.2.2.2.2.1
    · rcases hm with hm | hm | hm
      · exact hm.1
      · exact c3 k (Or.inl hm)
      · rcases hF' k hm with h | h
        · exact c3 k (Or.inr (Or.inl h))
        · omega
  · intro k hk
    rcases hk with hk | hk
    · exact Or.inl hk
    · exact Or.inr (hF' k hk)
  · intro k hk hm
    rcases hF' k hm with h | h
    · exact (c1 k hk).1 h
    · have := hFlt k hk; omega
  · exact h6.mono (fun k hk => hFn k hk.1 hk.2.2.1 (fun e => hk.2.2.2 (Or.inr (Or.inl e))) (fun e => hk.2.2.2 (Or.inr (Or.inr (Or.inl e)))))
end
theorem adDispStart (pe : Nat) : Disp Tryz.prog (.iface 66 (.pointer (some ⟨pe, 0, none⟩))) "Start" 173 (.pointer (some ⟨pe, 0, none⟩)) := fun _ _ => by kernel_rfl
theorem adDispStep (b : Nat) : Disp Tryz.prog (.iface 256 (.pointer (some ⟨b, 0, none⟩))) "Step" 196 (.pointer (some ⟨b, 0, none⟩)) := fun _ _ => by kernel_rfl
theorem adDispAnswer (b : Nat) : Disp Tryz.prog (.iface 256 (.pointer (some ⟨b, 0, none⟩))) "Answer" 195 (.pointer (some ⟨b, 0, none⟩)) := fun _ _ => by kernel_rfl
set_option maxRecDepth 100000 in
theorem adAnswerW {pe b t pc : Nat} {vv val : Int} {sl : Value} (w : World) (hb : w.heap[b]? = some (.cells (prA6 pe t pc vv sl val) 258 (0, 0))) :
    Calls Tryz.prog 195 #[.pointer (some ⟨b, 0, none⟩)] w fun e w' => e = .returned (.tuple #[.agg #[.int .i64 0, .int .u64 val, .slice none 0 0], .slice none 0 0]) ∧ Below w.heap.size w w' := by
  obtain ⟨c0, c1, c2, c3, c4, c5, hz⟩ := cells6 hb
  clear hb
  go_enter Tryz.func195, Tryz.ntmps195
  go_wp2
  refine bodyPost_ret (v := .tuple #[.agg #[.int .i64 0, .int .u64 val, .slice none 0 0], .slice none 0 0]) (by simp [results, Tryz.results195, go_sem, *]) rfl ⟨rfl, ?_⟩
  (repeat' (first | exact Below.refl _ _ | assumption | refine Below.drew ?_ | refine below_drewN ?_ _ | refine Below.alloc ?_ (by simp <;> omega) _ | refine Below.setCell ?_ (by simp <;> omega) _))
theorem adTh_ok (pe n : Nat) : (adTh pe n).Ok := by
  refine ⟨fun h hk hS => adOB_keep h hk hS, ?_, ?_, ?_, ?_, ?_, ?_, ?_, ?_, ?_, adG_still, ?_, ?_, ?_, ?_, ?_⟩
  · rintro w F o ⟨h1, f, h2, _⟩ k hk
    rw [(h1 k).1 hk]
    exact h2.lt
  · intro w w' F v m S h hk hS
    cases m with
    | no e => exact NoAt.keep h hk hS
    | prop t pc vv seen val => exact adPr_keep h hk hS
  · intro w w' F v m S h hk hS
    cases m with
    | no e => exact NoAl.keep h hk hS
    | prop t pc vv seen val => exact adPr_keep h hk hS
  · intro w F v m h
    cases m with
    | no e => exact NoAt.lt h
    | prop t pc vv seen val => exact adPr_lt h
  · intro w F v m h
    cases m with
    | no e => exact NoAt.iface h
    | prop t pc vv seen val =>
      obtain ⟨b, sl, h1, _⟩ := h
      exact ⟨_, _, h1⟩
  · intro v hv
    have := List.mem_singleton.1 hv
    exact ⟨_, _, this⟩
  · intro w Fo o lw hs t j c v hO hg hn ht hc hu hj hv
    have hj0 : j = 0 := by
      rcases j with _ | j
      · rfl
      · simp [adTh] at hv
    subst hj0
    have hv : v = .iface 66 (.pointer (some ⟨pe, 0, none⟩)) := by
      simp [adTh] at hv
      exact hv.symm
    subst hv
    exact ⟨_, _, adDispStart pe, fun pw => adStartW hO ht hu (by simpa using hj) pw⟩
  · intro o t c h
    have hne : c.obj ≠ 0 := fun e => h (by rw [e]; simp [adTh])
    have hst : adStart o t c = (o, .no 12) := by unfold adStart; rw [if_pos hne]
    refine ⟨?_, fun w b b1 hno => ?_⟩
    · show (adStart o t c).1 = o
      rw [hst]
    · show adML pe w _ _ (adStart o t c).2
      rw [hst]
      exact noAt_made hno
  · intro w Fo Fm v m o lw hs ad Mu t hO hM hW hh hg _ _ ht c1 c2 c3 _
    have hOl : ∀ k, Fo k → k < w.heap.size := by
      obtain ⟨h1, f, h2, _⟩ := hO
      intro k hk
      rw [(h1 k).1 hk]
      exact h2.lt
    have hg0 := hg
    obtain ⟨g1, g2, g3, g4⟩ := hg
    have hk := g4 t m hh
    have hn : 1 ≤ o.n ∧ o.n ≤ 16 := by rw [g1]; exact g2
    cases m with
    | no e =>
      obtain ⟨f, r, hd, hc⟩ := NoAt.step hM ad.pw
      refine ⟨f, r, hd, hc.mono ?_⟩
      rintro x w' ⟨rfl, a1, a2, a3⟩
      have hlt := hW.lt
      have hkk : ∀ k, ad.four k → k < w.heap.size ∧ ¬ Fm k := by
        intro k hk
        refine ⟨?_, fun h => c2 k h hk⟩
        rcases hk with rfl | rfl | rfl | rfl
        · exact hlt.1
        · exact hlt.2.1
        · exact hlt.2.2.1
        · exact hlt.2.2.2
      refine ⟨Fo, Fm, rfl, adOB_keep hO a3 (fun k hk => ⟨hOl k hk, (c1 k hk).1⟩), a1, fun _ => a2, ?_, fun k hk => by rcases hk with h | h; exact Or.inl h; exact Or.inr (Or.inl h), fun k hk => (c1 k hk).1, a3.mono (fun k hk => ⟨hk.1, hk.2.2.1⟩)⟩
      refine hW.keep a3 (fun k h1 h2 => ⟨h1, fun h => h2 (c3 k (Or.inr (Or.inl h)))⟩) (fun k _ hm => ?_) (hkk _ (Or.inl rfl)) (hkk _ (Or.inr (Or.inl rfl))) (hkk _ (Or.inr (Or.inr (Or.inl rfl)))) (hkk _ (Or.inr (Or.inr (Or.inr rfl))))
      rcases hm with hm | hm | hm
      · exact hm.1
      · exact c3 k (Or.inl hm)
      · exact c3 k (Or.inr (Or.inl hm))
    | prop t' pc vv seen val =>
      obtain ⟨k1, k2, k3, k4, k5, k6, k7, k8⟩ := hk
      subst k1
      obtain ⟨b, sl, hv, hS, hF⟩ := adS_of hO hM hW c1 c2 hn k2 k4 k5
      refine ⟨_, _, by rw [hv]; exact adDispStep b, ?_⟩
      have hq : ∀ (r : Ad × Lw × AM × Bool), adStep o lw (.prop t' pc vv seen val) = r → ∀ e w', adStepQ pe w Fo Fm ad Mu v r e w' → adStepQ pe w Fo Fm ad Mu v (adStep o lw (.prop t' pc vv seen val)) e w' := fun r h e w' hh => by rw [h]; exact hh
      by_cases h0 : pc = 0
      · subst h0
        refine (adStep0 hS).mono fun e w' hA => hq _ rfl e w' (ad_after hO hW c1 c2 c3 hv hF hA)
      · by_cases h1 : pc = 1
        · subst h1
          refine (adStep1 hS (by rw [g1]; exact k8 (Or.inl rfl))).mono fun e w' hA => hq _ ?_ e w' (ad_after hO hW c1 c2 c3 hv hF hA)
          unfold adStep
          simp
        · by_cases h2 : pc = 2
          · subst h2
            refine (adStep2 hS (by rw [g1]; exact k6)).mono fun e w' hA => hq _ ?_ e w' (ad_after hO hW c1 c2 c3 hv hF hA)
            unfold adStep
            simp
          · have h3 : pc = 3 := by omega
            subst h3
            refine (adStep3 hS (by rw [g1]; exact k8 (Or.inr rfl)) (tell0_bd g3 _)).mono fun e w' hA => hq _ ?_ e w' (ad_after hO hW c1 c2 c3 hv hF hA)
            unfold adStep
            by_cases hl : seen.length + 1 = o.n <;> simp [hl]
  · intro w Fm v m o h
    cases m with
    | no e => exact NoAl.ans h _
    | prop t pc vv seen val =>
      obtain ⟨b, sl, rfl, h2, _⟩ := h
      refine ⟨_, _, adDispAnswer b, (adAnswerW w h2).mono ?_⟩
      rintro x w' ⟨rfl, hb⟩
      exact ⟨_, _, rfl, LstIs.nil _ _, KeyIs.nil _ _, hb⟩
  · intro w Fm v m h
    refine ⟨?_, fun _ _ => rfl⟩
    cases m with
    | no e => exact NoAt.late h
    | prop t pc vv seen val =>
      obtain ⟨b, sl, rfl, _⟩ := h
      exact adLate _
  · intro o lw hs t c hg hn ht hc hu
    obtain ⟨g1, g2, g3, g4⟩ := hg
    have h1 : (adStart o t c).1.n = n := by
      rw [← g1]
      unfold adStart
      split
      · rfl
      · split
        · rfl
        · split
          · rfl
          · split <;> rfl
    refine ⟨h1, g2, g3, fun s m hm => ?_⟩
    by_cases e : s = t
    · subst e
      rw [upd_same] at hm
      cases hm
      show adMok n s (adStart o s c).2
      obtain ⟨⟨u0, u1⟩, _⟩ := hu
      unfold adStart
      split
      · trivial
      · split
        · trivial
        · split
          · trivial
          · split
            · trivial
            · exact ⟨rfl, ht, by omega, by omega, fun x hx => by simp at hx, by simp, fun _ => rfl, fun h => by omega⟩
    · rw [upd_other e] at hm
      exact g4 s m hm
  · intro o lw hs hg
    exact hg
  · intro o lw hs t m hg hm ht
    exact adGood_step hg hm
end Go.Proofs.YtlfingcmekifkaaGreat
