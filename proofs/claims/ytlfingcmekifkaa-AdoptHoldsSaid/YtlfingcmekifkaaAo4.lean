/- Agreeing (package adopt): a proposal begins; the object as machines on a loom. -/
import Derived.Test.YtlfingcmekifkaaAo3
namespace Go.Proofs.Ytlfingcmekifkaa
open Go.RowKit

def adOB (pe : Nat) (w : World) (F : Nat → Prop) (o : Ad) : Prop := (∀ k, F k ↔ k = pe) ∧ ∃ f : Nat → Value, w.rowIs pe 87 18 f ∧ f 0 = .int .i64 0 ∧ f 1 = .int .i64 o.n ∧ ∀ t, t < 16 → f (2 + t) = .bool (o.has t)
def adPr (pe : Nat) (w : World) (F : Nat → Prop) (v : Value) (t pc : Nat) (vv : Int) (seen : List Int) (val : Int) : Prop := ∃ b sl, v = .iface 179 (.pointer (some ⟨b, 0, none⟩)) ∧ w.heap[b]? = some (.cells (prA6 pe t pc vv sl val) 181 (0, 0)) ∧ WRow w 0 sl seen ∧ (∀ k, F k ↔ k = b ∨ sl.ownBlock = some k) ∧ sl.ownBlock ≠ some b
def adML (pe : Nat) (w : World) (F : Nat → Prop) (v : Value) : AM → Prop
  | .no e => NoAt w F v e
  | .prop t pc vv seen val => adPr pe w F v t pc vv seen val
def adAL (pe : Nat) (w : World) (F : Nat → Prop) (v : Value) : AM → Prop
  | .no e => NoAl w F v e
  | .prop t pc vv seen val => adPr pe w F v t pc vv seen val
theorem adOB_keep {pe : Nat} {w w' : World} {F S : Nat → Prop} {o : Ad} (h : adOB pe w F o) (hk : Keep S w w') (hS : ∀ k, F k → S k) : adOB pe w' F o := by
  obtain ⟨h1, f, h2, h3⟩ := h
  exact ⟨h1, f, rowIs_keep h2 hk (hS pe ((h1 pe).2 rfl)), h3⟩
theorem adPr_keep {pe : Nat} {w w' : World} {F S : Nat → Prop} {v : Value} {t pc : Nat} {vv val : Int} {seen : List Int} (h : adPr pe w F v t pc vv seen val) (hk : Keep S w w') (hS : ∀ k, F k → S k) : adPr pe w' F v t pc vv seen val := by
  obtain ⟨b, sl, h1, h2, h3, h4, h5⟩ := h
  exact ⟨b, sl, h1, (hk.block b (hS b ((h4 b).2 (Or.inl rfl)))).trans h2, owns_keepV h3 hk (fun k hk => hS k ((h4 k).2 (Or.inr hk))), h4, h5⟩
theorem adPr_lt {pe : Nat} {w : World} {F : Nat → Prop} {v : Value} {t pc : Nat} {vv val : Int} {seen : List Int} (h : adPr pe w F v t pc vv seen val) : ∀ k, F k → k < w.heap.size := by
  obtain ⟨b, sl, h1, h2, h3, h4, h5⟩ := h
  intro k hk
  rcases (h4 k).1 hk with rfl | hk
  · exact (Array.getElem?_eq_some_iff.1 h2).1
  · exact (World.ownsRow.lt h3 k hk).2
theorem adLate (v : Value) : LateNo (.iface 179 v) := fun w => run_typeAssert_lacksB Try.underlying136 (by kernel_rfl) (by kernel_rfl) _ _ w
def StartQ (pe : Nat) (w : World) (Fo : Nat → Prop) (r : Ad × AM) (e : Ending) (w' : World) : Prop :=
  ∃ Fo' Fm' u, e = .returned u ∧ adOB pe w' Fo' r.1 ∧ adML pe w' Fm' u r.2 ∧ (∀ k, Fo' k → Fo k ∨ w.heap.size ≤ k) ∧ (∀ k, Fm' k → Fo k ∨ w.heap.size ≤ k) ∧ (∀ k, Fo' k → ¬ Fm' k) ∧ Keep (fun k => k < w.heap.size ∧ ¬ Fo k) w w'
theorem startQ_no {pe : Nat} {w w1 w2 : World} {Fo : Nat → Prop} {o : Ad} {e : Int} {b b1 : Nat} (hO : adOB pe w Fo o) (hb1 : Below w.heap.size w w1) (hn : OnceNo w2 b b1 e) (h1 : w1.heap.size ≤ b) (h2 : w1.heap.size ≤ b1) (hb2 : Below w1.heap.size w1 w2) : StartQ pe w Fo (o, .no e) (.returned (onceV b)) w2 := by
  have hz := hb1.size
  have hk : Keep (fun k => k < w.heap.size) w w2 := (Keep.of_below hb1 (fun k hk => hk)).trans (Keep.of_below hb2 (fun k hk => by omega))
  have hF : ∀ k, Fo k → k < w.heap.size := fun k hk => by
    obtain ⟨a1, f, a2, _⟩ := hO
    rw [(a1 k).1 hk]
    exact a2.lt
  refine ⟨Fo, fun k => k = b ∨ k = b1, onceV b, rfl, adOB_keep hO hk hF, noAt_made hn, fun k hk => Or.inl hk, fun k hk => Or.inr ?_, fun k hk hm => ?_, hk.mono (fun k hk => hk.1)⟩
  · rcases hk with rfl | rfl <;> omega
  · have := hF k hk
    rcases hm with rfl | rfl <;> omega
set_option maxRecDepth 100000 in
set_option maxHeartbeats 1000000 in
theorem adStartW {pe : Nat} {w : World} {Fo : Nat → Prop} {o : Ad} {t : Nat} {c : Cl} (hO : adOB pe w Fo o) (ht : t < 16) (hu : ClU c) (hobj : c.obj = 0) (pw : Nat) :
    Calls Try.prog 92 #[.pointer (some ⟨pe, 0, none⟩), .pointer (some ⟨pw, 0, none⟩), .int .i64 t, clV c] w (StartQ pe w Fo (adStart o t c)) := by
  obtain ⟨hF, f, hf, f0, f1, f2⟩ := hO
  have hO : adOB pe w Fo o := ⟨hF, f, hf, f0, f1, f2⟩
  have c2 := hf.cell (i := 2 + t) (by omega)
  rw [f2 t ht] at c2
  have cf := hf.frozen (2 + t)
  have hz := hf.lt
  have ht' : (t : Int) < 16 := by omega
  obtain ⟨⟨u0, u1⟩, _, _⟩ := hu
  have hb1 : Below w.heap.size w (w.alloc (.cells #[.int .i64 c.thread, .int .i64 c.obj, .int .i64 c.kind, .int .u64 c.a, .int .u64 c.b, .int .u64 c.c] 43)) := (Below.refl _ w).alloc (Nat.le_refl _) _
  have HO := hide hO
  have HB1 := hide hb1
  have HF := hide hf
  have HF0 := hide f0
  have HF1 := hide f1
  have HF2 := hide f2
  have HFF := hide hF
  unfold clV adStart
  rw [if_neg (by omega)]
  clear hobj hO hb1 hf f0 f1 f2 hF
  by_cases hk : c.kind = 0
  · rw [if_neg (by omega)]
    have d0 : (c.kind != 0) = false := by simpa using hk
    by_cases ha : 2147483648 ≤ c.a
    · rw [if_pos ha]
      have d1 : decide (2147483648 ≤ c.a) = true := by simpa using ha
      have N := refuseMake 10 (w.alloc (.cells #[.int .i64 c.thread, .int .i64 c.obj, .int .i64 c.kind, .int .u64 c.a, .int .u64 c.b, .int .u64 c.c] 43))
      clear hk
      go_enter Try.func92, Try.ntmps92
      go_wp2_with fail
      refine N.mono ?_
      rintro e w1 ⟨b, b1, rfl, hno, z1, z2, hb2⟩
      have HNO := hide hno
      have HB2 := hide hb2
      clear hno hb2 N
      unfold onceV
      go_wp2
      go_ret
      exact startQ_no HO.out HB1.out HNO.out z1 z2 HB2.out
    · rw [if_neg ha]
      have d1 : decide (2147483648 ≤ c.a) = false := by simpa using ha
      rcases hh : o.has t with _ | _
      · rw [hh] at c2
        rw [if_neg (by decide)]
        have hwa : IntKind.u64.wrap (c.a + 1) = c.a + 1 := by rw [IntKind.wrap_u64]; omega
        clear hk ha
        go_enter Try.func92, Try.ntmps92
        go_wp2
        go_ret
        have hpF : Fo pe := (HFF.out pe).2 rfl
        have hkw : Keep (fun k => k < w.heap.size ∧ ¬ Fo k) w (((w.setCell ⟨pe, 2 + t, none⟩ (.bool true)).alloc (.cells #[.int .i64 c.thread, .int .i64 c.obj, .int .i64 c.kind, .int .u64 c.a, .int .u64 c.b, .int .u64 c.c] 43)).alloc (.cells (prA6 pe t 0 (c.a + 1) (.slice none 0 0) 0) 181)) := (((Keep.refl _ w).setCell (fun hk => hk.2 hpF) _).alloc (fun k hk => by simpa using hk.1) _).alloc (fun k hk => by simp; omega) _
        refine ⟨Fo, fun k => k = w.heap.size + 1, _, rfl, ⟨HFF.out, _, ((HF.out.set (2 + t) (.bool true)).alloc _).alloc _, ?_, ?_, fun s hs => ?_⟩, ⟨w.heap.size + 1, .slice none 0 0, rfl, ?_, World.ownsRow_nil _ _ _ _, fun k => ?_, fun e => by cases e⟩, fun k hk => Or.inl hk, fun k hk => Or.inr (by omega), fun k hk hm => ?_, hkw⟩
        · show (if 0 = 2 + t then _ else f 0) = _
          rw [if_neg (by omega)]; exact HF0.out
        · show (if 1 = 2 + t then _ else f 1) = _
          rw [if_neg (by omega)]; exact HF1.out
        · show (if 2 + s = 2 + t then _ else f (2 + s)) = Value.bool (upd o.has t true s)
          by_cases e : s = t
          · subst e
            rw [if_pos rfl, upd_same]
          · rw [if_neg (by omega), upd_other e]
            exact HF2.out s hs
        · have e1 : ((w.setCell ⟨pe, 2 + t, none⟩ (.bool true)).alloc (.cells #[.int .i64 c.thread, .int .i64 c.obj, .int .i64 c.kind, .int .u64 c.a, .int .u64 c.b, .int .u64 c.c] 43)).heap.size = w.heap.size + 1 := by simp
          rw [← e1]
          exact heap_alloc_new _ _
        · constructor
          · exact fun h => Or.inl h
          · intro h
            rcases h with h | h
            · exact h
            · cases h
        · have := (HFF.out k).1 hk
          omega
      · rw [hh] at c2
        rw [if_pos rfl]
        have N := refuseMake 8 (w.alloc (.cells #[.int .i64 c.thread, .int .i64 c.obj, .int .i64 c.kind, .int .u64 c.a, .int .u64 c.b, .int .u64 c.c] 43))
        clear hk ha
        go_enter Try.func92, Try.ntmps92
        go_wp2_with fail
        refine N.mono ?_
        rintro e w1 ⟨b, b1, rfl, hno, z1, z2, hb2⟩
        have HNO := hide hno
        have HB2 := hide hb2
        clear hno hb2 N
        unfold onceV
        go_wp2
        go_ret
        exact startQ_no HO.out HB1.out HNO.out z1 z2 HB2.out
  · rw [if_pos hk]
    have d0 : (c.kind != 0) = true := by simpa using hk
    have N := refuseMake 9 (w.alloc (.cells #[.int .i64 c.thread, .int .i64 c.obj, .int .i64 c.kind, .int .u64 c.a, .int .u64 c.b, .int .u64 c.c] 43))
    clear hk
    go_enter Try.func92, Try.ntmps92
    go_wp2_with fail
    refine N.mono ?_
    rintro e w1 ⟨b, b1, rfl, hno, z1, z2, hb2⟩
    have HNO := hide hno
    have HB2 := hide hb2
    clear hno hb2 N
    unfold onceV
    go_wp2
    go_ret
    exact startQ_no HO.out HB1.out HNO.out z1 z2 HB2.out
/-- A machine that may be. -/
def adMok (n t : Nat) : AM → Prop
  | .no _ => True
  | .prop t' pc v seen _ => t' = t ∧ t < 16 ∧ pc ≤ 3 ∧ (1 ≤ v ∧ v ≤ 2147483648) ∧ (∀ x ∈ seen, 0 ≤ x ∧ x < 18446744073709551616) ∧ seen.length ≤ n ∧ (pc = 0 → seen = []) ∧ (pc = 1 ∨ pc = 3 → seen.length < n)
def W64 (l : List Int) : Prop := ∀ x ∈ l, 0 ≤ x ∧ x < 18446744073709551616
def adGood (n : Nat) (o : Ad) (lw : Lw) (hs : Nat → Option AM) : Prop := o.n = n ∧ (1 ≤ n ∧ n ≤ 16) ∧ W64 lw.mem.words ∧ ∀ t m, hs t = some m → adMok n t m
theorem tell0_bd {m : Mm} (h : W64 m.words) (a : Int) : 0 ≤ m.tell 0 a 0 ∧ m.tell 0 a 0 < 18446744073709551616 := by
  unfold Mm.tell acV
  split
  · rename_i hin
    rw [if_pos rfl]
    unfold Mm.at
    unfold Mm.in at hin
    rw [List.getElem?_eq_getElem (by omega)]
    exact h _ (List.getElem_mem _)
  · omega
theorem acc_w64 {m : Mm} (h : W64 m.words) (k a x y : Int) (hy : 0 ≤ acY k (m.at a) x y ∧ acY k (m.at a) x y < 18446744073709551616) : W64 (m.acc k a x y).words := by
  unfold Mm.acc
  split
  · intro z hz
    have hz : z ∈ m.words.set a.toNat (acY k (m.at a) x y) := hz
    rcases List.mem_or_eq_of_mem_set hz with h1 | h1
    · exact h z h1
    · rw [h1]; exact hy
  · exact h
theorem at_bd {m : Mm} (h : W64 m.words) (a : Int) : 0 ≤ m.at a ∧ m.at a < 18446744073709551616 := by
  unfold Mm.at
  rcases hw : m.words[a.toNat]? with _ | z
  · simp
  · exact h _ (List.mem_of_getElem? hw)
def adTh (pe n : Nat) : Th AM Ad := ⟨adG, [.iface 62 (.pointer (some ⟨pe, 0, none⟩))], adOB pe, adML pe, adAL pe, adGood n⟩
theorem markF_bd {v : Int} {l : List Int} (h : 1 ≤ v ∧ v ≤ 2147483648) : 0 ≤ markF v l ∧ markF v l < 18446744073709551616 := by
  unfold markF
  split <;> omega
theorem adGood_step {n : Nat} {o : Ad} {lw : Lw} {hs : Nat → Option AM} {t : Nat} {m : AM} (hg : adGood n o lw hs) (hm : hs t = some m) : adGood n (adStep o lw m).1 (adStep o lw m).2.1 (upd hs t (if (adStep o lw m).2.2.2 then none else some (adStep o lw m).2.2.1)) := by
  obtain ⟨g1, g2, g3, g4⟩ := hg
  have hk := g4 t m hm
  have key : ∀ (r : Option AM), (∀ m', r = some m' → adMok n t m') → ∀ s m', upd hs t r s = some m' → adMok n s m' := by
    intro r hr s m' h
    by_cases e : s = t
    · subst e
      rw [upd_same] at h
      exact hr m' h
    · rw [upd_other e] at h
      exact g4 s m' h
  cases m with
  | no e => exact ⟨g1, g2, g3, key _ (fun m' h => by cases h)⟩
  | prop t' pc v seen val =>
    obtain ⟨k1, k2, k3, k4, k5, k6, k7, k8⟩ := hk
    unfold adStep
    by_cases h0 : pc = 0
    · simp only [h0, if_pos]
      refine ⟨g1, g2, acc_w64 g3 _ _ _ _ ?_, key _ (fun m' h => ?_)⟩
      · unfold acY
        rw [if_neg (by decide), if_pos rfl]
        omega
      · cases h
        refine ⟨k1, k2, by omega, k4, k5, k6, fun h => by omega, fun _ => ?_⟩
        rw [k7 h0]
        simp
        omega
    · by_cases h1 : pc = 1
      · have hl := k8 (Or.inl h1)
        simp only [h1]
        refine ⟨g1, g2, acc_w64 g3 _ _ _ _ ?_, key _ (fun m' h => ?_)⟩
        · unfold acY
          rw [if_pos rfl]
          exact at_bd g3 _
        · simp only [if_neg (show ¬ (1 = 0) by decide), if_pos] at h
          cases h
          refine ⟨k1, k2, by split <;> omega, k4, fun x hx => ?_, by simp; omega, fun h => ?_, fun h => ?_⟩
          · rcases List.mem_append.1 hx with h | h
            · exact k5 x h
            · rw [List.mem_singleton.1 h]
              exact tell0_bd g3 _
          · split at h <;> cases h
          · split at h
            · omega
            · rename_i hq
              simp at hq ⊢
              omega
      · by_cases h2 : pc = 2
        · simp only [h2]
          refine ⟨g1, g2, acc_w64 g3 _ _ _ _ ?_, key _ (fun m' h => ?_)⟩
          · unfold acY
            rw [if_neg (by decide), if_pos rfl]
            exact markF_bd k4
          · simp only [if_neg (show ¬ (2 = 0) by decide), if_neg (show ¬ (2 = 1) by decide), if_pos] at h
            cases h
            refine ⟨k1, k2, by omega, k4, fun x hx => (by simp at hx), (by simp), fun h => (by cases h), fun _ => (by simp; omega)⟩
        · have h3 : pc = 3 := by omega
          have hl := k8 (Or.inr h3)
          simp only [if_neg h0, if_neg h1, if_neg h2]
          split
          · refine ⟨g1, g2, acc_w64 g3 _ _ _ _ ?_, key _ (fun m' h => by cases h)⟩
            unfold acY
            rw [if_pos rfl]
            exact at_bd g3 _
          · rename_i hq
            refine ⟨g1, g2, acc_w64 g3 _ _ _ _ ?_, key _ (fun m' h => ?_)⟩
            · unfold acY
              rw [if_pos rfl]
              exact at_bd g3 _
            · cases h
              refine ⟨k1, k2, by omega, k4, fun x hx => ?_, (by simp; omega), fun h => (by cases h), fun _ => ?_⟩
              · rcases List.mem_append.1 hx with h | h
                · exact k5 x h
                · rw [List.mem_singleton.1 h]
                  exact tell0_bd g3 _
              · simp at hq ⊢
                omega
end Go.Proofs.Ytlfingcmekifkaa
