/- A lattice's updates (package snap): update.Step while it scans, and while it writes its record. -/
/- A lattice's updates (package snap): update.Step while it writes the view. -/
/- A copy of a row of numbers (slices.Clone of ints); taken out of Sr2 for seats without search. -/
/- What is noted at a place (World.Note). -/
import Derived.Test.YtlfingcmekifkaaBun14
import Derived.Test.YtlfingcmekifkaaBun16
import Derived.Test.YtlfingcmekifkaaBun5
import Derived.Test.YtlfingcmekifkaaLw4
import Derived.Test.YtlfingcmekifkaaCu2
namespace Go.Proofs.Ytlfingcmekifkaa
open Go.RowKit

/-- What a writer's step leaves while it scans. -/
def UpQ (w : World) (bu bs ps t r next : Nat) (v : Int) (lv : Value) (s' : Sc) (ad : Adr) (m' : Mm) (e : Ending) (w' : World) : Prop :=
  e = .returned (.bool false) ∧ (∃ lv', ScAt w' bs ps lv' s' ∧ ∀ k, lv'.ownBlock = some k → lv.ownBlock = some k ∨ w.heap.size ≤ k) ∧ MemAt w' ad.pm ad.px .nilFunc m' ∧
    w'.heap[bu]? = some (.cells (upA bs t r next v (decide (s'.pc = 3))) 194 (0, 0)) ∧ Keep (fun k => k < w.heap.size ∧ k ≠ bu ∧ k ≠ bs ∧ lv.ownBlock ≠ some k ∧ k ≠ ad.pm ∧ k ≠ ad.px) w w'
set_option maxRecDepth 100000 in
set_option maxHeartbeats 2000000 in
theorem upStep0 {w : World} {bu bs ps n t r next : Nat} {v : Int} {lv : Value} {s : Sc} {ad : Adr} {Mu : Nat → Prop} {lw : Lw} (h : ScS w bs ps n lv s ad Mu lw) (b : ScB n lw s) (hb : w.heap[bu]? = some (.cells (upA bs t r next v false) 194 (0, 0))) (hne : bu ≠ bs ∧ bu ≠ ad.pm ∧ bu ≠ ad.px ∧ lv.ownBlock ≠ some bu) :
    Calls Try.prog 133 #[.pointer (some ⟨bu, 0, none⟩), .pointer (some ⟨ad.pw, 0, none⟩)] w (UpQ w bu bs ps t r next v lv (s.step n lw).1 ad (s.step n lw).2.mem) := by
  have NS := scScan h b
  obtain ⟨d, hd⟩ : ∃ d, decide ((s.step n lw).1.pc = 3) = d := ⟨_, rfl⟩
  obtain ⟨r1, r2, r3, r4⟩ := hne
  unfold upA at hb
  obtain ⟨c0, c1, c2, c3, c4, c5, zr⟩ := cells6 hb
  have HN := hide NS
  have HD := hide hd
  have HB := hide hb
  clear NS hd h b hb
  go_enter Try.func133, Try.ntmps133
  go_wp2_with fail
  refine HN.out.mono ?_
  rintro e w1 ⟨rfl, h1, h2, hk1⟩
  rw [HD.out]
  have hb1 := (hk1.block bu ⟨zr, r1, r4, r2, r3⟩).trans HB.out
  have e5 := frozen_of_row w1 bu 5 _ _ hb1
  have d5 := cell_of_row w1 bu 5 _ _ _ hb1
  have zr1 := Nat.lt_of_lt_of_le zr hk1.size
  have H1 := hide h1
  have H2 := hide h2
  have HK1 := hide hk1
  have HB1 := hide hb1
  clear h1 h2 hk1 hb1 HN c0 c1 c2 c3 c4 c5
  go_wp2
  go_ret
  have hk2 : Keep (fun k => k ≠ bu) w1 (w1.setCell ⟨bu, 5, none⟩ (.bool d)) := (Keep.refl _ w1).setCell (by simp) _
  obtain ⟨lv', a1, a2⟩ := H1.out
  refine ⟨rfl, ⟨lv', a1.keep hk2 (Ne.symm r1) (fun k hk e => ?_), a2⟩, H2.out.of_blocks (hk2.block _ (Ne.symm r2)) (hk2.block _ (Ne.symm r3)), ?_, (HK1.out.mono (fun k hk => ⟨hk.1, hk.2.2⟩)).trans (hk2.mono (fun k hk => hk.2.1))⟩
  · rcases a2 k hk with h | h
    · exact r4 (e ▸ h)
    · omega
  · rw [HD.out]
    exact (cells_set HB1.out).trans rfl
/-- What a writer's step leaves while it writes its record. -/
def UwQ (w : World) (bu bs t r next : Nat) (v : Int) (ad : Adr) (m' : Mm) (e : Ending) (w' : World) : Prop :=
  e = .returned (.bool false) ∧ MemAt w' ad.pm ad.px .nilFunc m' ∧ w'.heap[bu]? = some (.cells (upA bs t r next v true) 194 (0, 0)) ∧ Keep (fun k => k < w.heap.size ∧ k ≠ bu ∧ k ≠ ad.pm ∧ k ≠ ad.px) w w'
set_option maxRecDepth 100000 in
set_option maxHeartbeats 2000000 in
theorem upStep1 {w : World} {bu bs t r next : Nat} {v : Int} {ad : Adr} {Mu : Nat → Prop} {lw : Lw} (hW : WL w ad Mu lw) (hn : next = 0) (hb : w.heap[bu]? = some (.cells (upA bs t r next v true) 194 (0, 0))) (hne : bu ≠ ad.pw ∧ bu ≠ ad.pm ∧ bu ≠ ad.px) :
    Calls Try.prog 133 #[.pointer (some ⟨bu, 0, none⟩), .pointer (some ⟨ad.pw, 0, none⟩)] w (UwQ w bu bs t r 1 v ad (lw.mem.acc 1 (r : Int) v 0)) := by
  subst hn
  have cw := hW.ptr
  obtain ⟨r1, r2, r3⟩ := hne
  unfold upA at hb
  obtain ⟨c0, c1, c2, c3, c4, c5, zr⟩ := cells6 hb
  have f3 := frozen_of_row w bu 3 _ _ hb
  have zw := hW.lt.1
  obtain ⟨n1, n2, _⟩ := hW.ne
  have m1 : ¬ ad.pw = bu := fun e => r1 e.symm
  have m2 : ¬ bu = ad.pw := r1
  obtain ⟨wA, hA⟩ : ∃ X, X = (w.setCell ⟨bu, 3, none⟩ (.int .i64 1)).drew := ⟨_, rfl⟩
  have hkA : Keep (fun k => k ≠ bu) w wA := by rw [hA]; exact ((Keep.refl _ w).setCell (by simp) _).drew
  have hbA : wA.heap[bu]? = some (.cells (upA bs t r 1 v true) 194 (0, 0)) := by rw [hA]; exact (cells_set hb).trans rfl
  have N := memWrite ad.pm ad.px (r : Int) v lw.mem wA (hW.mem.of_blocks (hkA.block _ (Ne.symm r2)) (hkA.block _ (Ne.symm r3)))
  have zA : wA.heap.size = w.heap.size := by rw [hA]; simp
  have HA := hide hA
  have HN := hide N
  have HBA := hide hbA
  have HKA := hide hkA
  clear N hW hb hbA hkA hA
  go_enter Try.func133, Try.ntmps133
  go_upto_region 11 with fail
  refine wp_region_seq (fun Y => Y.cell? ⟨ad.pw, 0, none⟩ = some (.pointer (some ⟨ad.pm, 0, none⟩)) ∧ Y.cell? ⟨bu, 2, none⟩ = some (.int .i64 (r : Int)) ∧ Y.cell? ⟨bu, 4, none⟩ = some (.int .u64 v)) (.take 0 <| .take 1 <| .take 2 <| .take 3 <| .take 4 <| .take 5 <| .take 6 <| .take 7 <| .take 8 <| .take 9 <| .take 10 <| .take 11 <| .run 12 <| .done) (by kernel_rfl) (by kernel_rfl) (by kernel_rfl) (by refine ⟨?_, ?_, ?_⟩ <;> go_simp) ?_
  iterate 12 (refine seq_take (v := ?_) rfl (by rfl) ?_ ?_; rotate_left; (focus (intro wS hS; obtain ⟨s0, s1, s2⟩ := hS; go_simp; exact rfl)); simp only [Act.put, List.setIfInBounds_toArray, List.set_cons_zero, List.set_cons_succ])
  (refine seq_run rfl (by rfl) (fun K hK => ?_); go_simp)
  rw [← HA.out]
  refine HN.out.mono ?_
  rintro e w1 ⟨rfl, hm1, hk1⟩
  have hb1 := (hk1.block bu ⟨r2, r3, by rw [zA]; exact zr⟩).trans HBA.out
  refine hK _ _ ⟨((hk1.cell (p := ⟨ad.pw, 0, none⟩) ⟨n1, n2, by rw [zA]; exact zw⟩).trans (HKA.out.cell (p := ⟨ad.pw, 0, none⟩) m1)).trans cw, cell_of_row w1 bu 2 _ _ _ hb1, cell_of_row w1 bu 4 _ _ _ hb1⟩ ?_
  have HM1 := hide hm1
  have HB1 := hide hb1
  have HK1 := hide hk1
  clear hK K hm1 hk1 hb1 HN
  refine seq_nil ?_
  go_wp2
  go_ret
  exact ⟨rfl, HM1.out, HB1.out, (HKA.out.mono (fun k hk => hk.2.1)).trans (HK1.out.mono (fun k hk => ⟨hk.2.2.1, hk.2.2.2, by rw [zA]; exact hk.1⟩))⟩
end Go.Proofs.Ytlfingcmekifkaa

namespace Go.Proofs.Ytlfingcmekifkaa
open Go.RowKit

set_option maxRecDepth 100000 in
set_option maxHeartbeats 2000000 in
theorem upStep2 {w : World} {bu bs ps n t r a k : Nat} {v x : Int} {lv : Value} {s : Sc} {ad : Adr} {Mu : Nat → Prop} {lw : Lw} (h : ScS w bs ps n lv s ad Mu lw) (hb : w.heap[bu]? = some (.cells (upA bs t r a v true) 194 (0, 0))) (hne : bu ≠ bs ∧ bu ≠ ad.pw ∧ bu ≠ ad.pm ∧ bu ≠ ad.px ∧ lv.ownBlock ≠ some bu ∧ bu ≠ ps) (ha : a = k + 1) (han : a ≤ n) (hx : s.list[k]? = some x) (hl16 : s.list.length ≤ 16) (hr : r ≤ 100000) :
    Calls Try.prog 133 #[.pointer (some ⟨bu, 0, none⟩), .pointer (some ⟨ad.pw, 0, none⟩)] w (UwQ w bu bs t r (a + 1) v ad (lw.mem.acc 1 ((r : Int) + (a : Int)) x 0)) := by
  have cw := h.wl.ptr
  have hn16 := h.n16
  obtain ⟨r1, r2, r3, r4, r5, r6⟩ := hne
  unfold upA at hb
  obtain ⟨c0, c1, c2, c3, c4, c5, zr⟩ := cells6 hb
  have f3 := frozen_of_row w bu 3 _ _ hb
  have zw := h.wl.lt.1
  have zp := h.pz
  have cn := h.n_
  obtain ⟨n1, n2, _⟩ := h.wl.ne
  obtain ⟨f, hf, hF⟩ := h.sc.row
  have b0 := hf.cell (i := 0) (by omega)
  have b54 := hf.cell (i := 54) (by omega)
  rw [hF.p] at b0
  rw [hF.list] at b54
  have zb := hf.lt
  obtain ⟨lA, lc, hlv⟩ := own_slice h.sc.lst
  rw [hlv] at b54 r5
  have hsl := wrow_sl h.sc.lst (by unfold maxLen; omega)
  rw [hlv] at hsl
  obtain ⟨A', c', e1, g1, g2, g3⟩ := hsl
  cases e1
  obtain ⟨lb, lo, hA, hbw, hc⟩ := g3 k x hx
  subst hA
  have cx0 := hc 0 (.int .u64 x) rfl
  have cx : w.cell? ⟨lb, lo + k, none⟩ = some (.int .u64 x) := by simpa using cx0
  have r5' : ¬ lb = bu := fun e => r5 (by rw [e]; rfl)
  have r5'' : ¬ bu = lb := fun e => r5' e.symm
  have hkl : k < s.list.length := (List.getElem?_eq_some_iff.1 hx).1
  have m1 : ¬ ad.pw = bu := fun e => r2 e.symm
  have m3 : ¬ bs = bu := fun e => r1 e.symm
  have m4 : ¬ ps = bu := fun e => r6 e.symm
  have d0 : ((a : Int) == 0) = false := by rw [beq_eq_false_iff_ne]; omega
  have d0' : ¬ (a : Int) = 0 := by omega
  have d1 : decide ((a : Int) ≤ (n : Int)) = true := by rw [decide_eq_true_iff]; omega
  have d1' : (a : Int) ≤ (n : Int) := by omega
  have k1 : IntKind.i64.wrap ((a : Int) + 1) = (a : Int) + 1 := wrap_i64 (by omega) (by omega)
  have k2 : IntKind.i64.wrap ((r : Int) + (a : Int)) = (r : Int) + (a : Int) := wrap_i64 (by omega) (by omega)
  have k3 : IntKind.i64.wrap ((a : Int) - 1) = (k : Int) := by rw [show (a : Int) - 1 = (k : Int) by omega]; exact wrap_i64 (by omega) (by omega)
  obtain ⟨L, hL⟩ : ∃ L, s.list.length = L := ⟨_, rfl⟩
  rw [hL] at b54 hkl
  obtain ⟨wA, hA⟩ : ∃ X, X = (w.setCell ⟨bu, 3, none⟩ (.int .i64 ((a : Int) + 1))).drew := ⟨_, rfl⟩
  have hkA : Keep (fun k => k ≠ bu) w wA := by rw [hA]; exact ((Keep.refl _ w).setCell (by simp) _).drew
  have hbA : wA.heap[bu]? = some (.cells (upA bs t r (a + 1) v true) 194 (0, 0)) := by
    rw [hA]
    refine (cells_set hb).trans ?_
    unfold upA
    push_cast
    rfl
  have N := memWrite ad.pm ad.px ((r : Int) + (a : Int)) x lw.mem wA (h.wl.mem.of_blocks (hkA.block _ (Ne.symm r3)) (hkA.block _ (Ne.symm r4)))
  have zA : wA.heap.size = w.heap.size := by rw [hA]; simp
  obtain ⟨q1, q2⟩ := h.np
  obtain ⟨p1, p2, p3, p4, p5⟩ := h.nb
  have p6 := h.nl lb (by rw [hlv]; rfl)
  have HP := hide (And.intro q2 (And.intro p2 (And.intro p3 p6)))
  have HA := hide hA
  have HN := hide N
  have HBA := hide hbA
  have HKA := hide hkA
  clear N h hb hbA hkA hA hf hF hlv g1 g2 g3 hc cx0 hx hL ha han hl16 hr p1 p2 p3 p4 p5 p6 q1 q2 r5 hn16
  go_enter Try.func133, Try.ntmps133
  go_upto_region 13 with fail
  refine wp_region_seq (fun Y => Y.cell? ⟨ad.pw, 0, none⟩ = some (.pointer (some ⟨ad.pm, 0, none⟩)) ∧ Y.cell? ⟨bu, 2, none⟩ = some (.int .i64 (r : Int)) ∧ Y.cell? ⟨bu, 0, none⟩ = some (.pointer (some ⟨bs, 0, none⟩)) ∧ Y.cell? ⟨bs, 54, none⟩ = some (.slice (some ⟨lb, lo, none⟩) L lc) ∧ Y.cell? ⟨lb, lo + k, none⟩ = some (.int .u64 x)) (.take 0 <| .take 1 <| .take 2 <| .take 3 <| .take 4 <| .take 5 <| .take 6 <| .take 7 <| .take 8 <| .take 9 <| .take 10 <| .take 11 <| .take 12 <| .take 13 <| .take 14 <| .take 15 <| .take 16 <| .take 17 <| .take 18 <| .take 19 <| .take 20 <| .run 21 <| .done) (by kernel_rfl) (by kernel_rfl) (by kernel_rfl) (by refine ⟨?_, ?_, ?_, ?_, ?_⟩ <;> go_simp) ?_
  iterate 21 (refine seq_take (v := ?_) rfl (by rfl) ?_ ?_; rotate_left; (focus (intro wS hS; obtain ⟨s0, s1, s2, s3, s4⟩ := hS; go_simp; exact rfl)); simp only [Act.put, List.setIfInBounds_toArray, List.set_cons_zero, List.set_cons_succ])
  (refine seq_run rfl (by rfl) (fun K hK => ?_); go_simp)
  rw [← HA.out]
  refine HN.out.mono ?_
  rintro e w1 ⟨rfl, hm1, hk1⟩
  have hb1 := (hk1.block bu ⟨r3, r4, by rw [zA]; exact zr⟩).trans HBA.out
  have hkk : Keep (fun j => j ≠ bu ∧ j ≠ ad.pm ∧ j ≠ ad.px ∧ j < w.heap.size) w w1 := (HKA.out.mono (fun j hj => hj.1)).trans (hk1.mono (fun j hj => ⟨hj.2.1, hj.2.2.1, by rw [zA]; exact hj.2.2.2⟩))
  obtain ⟨u1, u2, u3, u4⟩ := HP.out
  refine hK _ _ ⟨(hkk.cell (p := ⟨ad.pw, 0, none⟩) ⟨m1, n1, n2, zw⟩).trans cw, cell_of_row w1 bu 2 _ _ _ hb1, cell_of_row w1 bu 0 _ _ _ hb1, (hkk.cell (p := ⟨bs, 54, none⟩) ⟨m3, u2, u3, zb⟩).trans b54, (hkk.cell (p := ⟨lb, lo + k, none⟩) ⟨r5', u4.2.1, u4.2.2.1, hbw⟩).trans cx⟩ ?_
  have HM1 := hide hm1
  have HB1 := hide hb1
  have HKK := hide hkk
  clear hK K hm1 hk1 hb1 HN hkk
  refine seq_nil ?_
  go_wp2
  go_ret
  exact ⟨rfl, HM1.out, HB1.out, HKK.out.mono (fun k hk => ⟨hk.2.1, hk.2.2.1, hk.2.2.2, hk.1⟩)⟩
end Go.Proofs.Ytlfingcmekifkaa

namespace Go.Proofs.Ytlfingcmekifkaa
open Go.RowKit

set_option maxRecDepth 100000 in
set_option maxHeartbeats 1000000 in
/-- A copy of a row of numbers, in memory of the call's own. -/
theorem iclone_any (v : Value) (xs : List Int) (w : World) (h : SlI w v xs) (hb : xs.length ≤ 1000000) :
    Calls Try.prog 135 #[v] w fun e w' => ∃ v', e = .returned v' ∧ IOwn w' w.heap.size v' xs.length xs ∧ Below w.heap.size w w' := by
  obtain ⟨A, cap, rfl, h1, h2, h3⟩ := h
  obtain ⟨i0, hi, hz0, hz1, hz2⟩ := info_parts info_int
  have q32 : ∀ (w : World) (a : Option Addr) (n c n' c' : Nat), (binOp .eql 24 (.slice a n c) (.slice none n' c')).run Try.prog w = .ok (.bool a.isNone) w := fun w a n c n' c' => Lib.run_eql_slice_nil w _ _ a n c n' c' Try.underlying24
  rcases A with _ | a
  · have hx : xs = [] := by
      rcases xs with _ | ⟨x, xs⟩
      · rfl
      · obtain ⟨b, o, hA, _⟩ := h3 0 x rfl
        cases hA
    subst hx
    clear h3
    go_enter Try.func135, Try.ntmps135
    go_wp2
    go_ret
    exact ⟨_, rfl, World.ownsRow_nil _ _ _ _, by (repeat' (first | exact Below.refl _ _ | assumption | refine Below.drew ?_ | refine below_drewN ?_ _ | refine Below.alloc ?_ (by simp <;> omega) _ | refine Below.setCell ?_ (by simp <;> omega) _))⟩
  · have hnews : ∀ j u, (xs.map (Value.int .i64))[j]? = some u → (w.alloc (.cells #[] 3)).cell? (a.add j) = some u := by
      intro j u hu
      rw [List.getElem?_map] at hu
      rcases hx : xs[j]? with _ | x
      · rw [hx] at hu; cases hu
      · rw [hx] at hu
        obtain ⟨b, o, hA, hbw, hc⟩ := h3 j x hx
        cases hA
        cases hu
        have := nt_cell hc
        rw [Addr.add_lit]
        simp only [Nat.mul_one] at this
        exact Lib.cell?_alloc_some _ this
    clear h3
    go_enter Try.func135, Try.ntmps135
    go_wp2_with (first
      | (at_builtin; refine wpList_append_own_at _ rfl _ _ 24 rfl w.heap.size 3 i0 (.int .i64 0) 1 8 Try.underlying24 hi hz0 hz1 hz2 rfl (by decide) _ _ _ rfl (World.ownsRow_made w #[] 0 (Nat.le_refl _) (Nat.zero_le _) rfl) a xs.length cap (xs.map (Value.int .i64)) rfl (by simp) hnews (ints_oneCell .i64 xs) (by unfold maxLen; omega) (by omega) (by simp) ?_; intro v' w5 hown' hgrow hnil hloc)
      | go_in)
    go_ret
    exact ⟨_, rfl, by simpa using hown', ((Below.refl _ w).alloc (Nat.le_refl _) _).grown hgrow (by simp) (by intro k hk; cases hk; exact Nat.le_refl _)⟩

end Go.Proofs.Ytlfingcmekifkaa

namespace Go.Proofs.Ytlfingcmekifkaa
open Go.RowKit

set_option maxRecDepth 100000 in
set_option maxHeartbeats 2000000 in
theorem noteW {w : World} {pw pt n c : Nat} {A : Option Addr} {V : Int} {l : List Int} {m : Int → Option Value} (h34 : w.cell? ⟨pw, 34, none⟩ = some (.map (some pt))) (hm : IMap w pt .i64 m) (hl : SlI w (.slice A n c) l) (hb : l.length ≤ 1000000) (hpw : pw < w.heap.size) (hne : pw ≠ pt) :
    Calls Try.prog 134 #[.pointer (some ⟨pw, 0, none⟩), .int .i64 V, .slice A n c] w fun e w' => e = .returned (.tuple #[]) ∧ ∃ v', IMap w' pt .i64 (fun x => if x = V then some v' else m x) ∧ IOwn w' w.heap.size v' l.length l ∧ Keep (fun k => k < w.heap.size ∧ k ≠ pt) w w' := by
  have N := iclone_any (.slice A n c) l w.drew (sl_at_keep (S := fun _ => True) hl (Keep.refl _ w).drew (fun _ _ _ _ _ _ _ => trivial)) hb
  have hzt := hm.lt
  have HM := hide hm
  have HN := hide N
  clear hm hl N
  go_enter Try.func134, Try.ntmps134
  go_wp2
  refine wp_region_seq (fun Y => Y.cell? ⟨pw, 34, none⟩ = some (.map (some pt))) (.take 0 <| .take 1 <| .take 2 <| .take 3 <| .take 4 <| .take 5 <| .run 6 <| .run 7 <| .done) (by kernel_rfl) (by kernel_rfl) (by kernel_rfl) (by go_simp) ?_
  iterate 6 (refine seq_take (v := ?_) rfl (by rfl) ?_ ?_; rotate_left; (focus (intro wS hS; go_simp; exact rfl)); simp only [Act.put, List.setIfInBounds_toArray, List.set_cons_zero, List.set_cons_succ])
  (refine seq_run rfl (by rfl) (fun K hK => ?_); go_simp)
  refine HN.out.mono ?_
  rintro e w1 ⟨v1, rfl, ho, hk⟩
  have hm1 : IMap w1 pt .i64 m := (HM.out.drewN 1).below hk hzt
  have h1 : w1.cell? ⟨pw, 34, none⟩ = some (.map (some pt)) := ((Keep.of_below (K := fun k => k < w.heap.size) hk (fun k h => h)).cell (p := ⟨pw, 34, none⟩) hpw).trans h34
  refine hK _ _ h1 ?_
  clear hK K
  refine seq_run rfl (by rfl) (fun K hK => ?_)
  refine wp_update_imap _ _ _ 95 rfl 3 24 .i64 Try.underlying95 Try.underlying3 pt m (by rfl) hm1 V v1 (by rfl) (by rfl) ?_
  intro w2 hm2 hg2 hz2
  have hk2 : Keep (fun k => k < w1.heap.size ∧ k ≠ pt) w1 w2 := (Keep.refl _ w1).grown hg2 (fun k h => h.1) (fun k h hh => hh.2 (Option.some.inj h).symm)
  have ho2 : IOwn w2 w.heap.size v1 l.length l := owns_keepV ho hk2 (fun k hk' => ⟨(ho.lt k hk').2, fun e => by have h := (ho.lt k hk').1; have h' : w.heap.size ≤ k := h; omega⟩)
  have h2 : w2.cell? ⟨pw, 34, none⟩ = some (.map (some pt)) := (hk2.cell (p := ⟨pw, 34, none⟩) ⟨Nat.lt_of_lt_of_le hpw hk.size, hne⟩).trans h1
  have hkk : Keep (fun k => k < w.heap.size ∧ k ≠ pt) w w2 := ((Keep.refl _ w).drew.trans (Keep.of_below hk (fun k h => h.1))).trans (hk2.mono (fun k h => ⟨Nat.lt_of_lt_of_le h.1 hk.size, h.2⟩))
  refine hK _ _ h2 ?_
  clear hK K
  refine seq_nil ?_
  go_wp2
  go_end0
  exact ⟨rfl, v1, hm2, ho2, hkk⟩
end Go.Proofs.Ytlfingcmekifkaa
