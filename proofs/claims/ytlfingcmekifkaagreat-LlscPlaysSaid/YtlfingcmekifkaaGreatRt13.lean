import Derived.Test.YtlfingcmekifkaaGreatBun16
import Derived.Test.YtlfingcmekifkaaGreatSeqL
import Derived.Deep.DeepCutAuto
namespace Go.Proofs.YtlfingcmekifkaaGreat
open Go.RowKit
abbrev evA8 (c i r s e v : Int) (l k : Value) : Value := .agg #[.int .i64 c, .int .i64 i, .int .i64 r, .int .i64 s, .int .i64 e, .int .u64 v, l, k]
def DonePost (c i s now err val : Int) (lv : Value) (kA mA : Option Addr) (kN kC mN mC : Nat) (w : World) (e : Ending) (w' : World) : Prop :=
  ∃ K, e = .returned (evA8 c i now s err val lv K) ∧ ((kN ≠ 0 ∧ K = .slice kA kN kC) ∨ (kN = 0 ∧ mN ≠ 0 ∧ K = .slice mA mN mC) ∨ (kN = 0 ∧ mN = 0 ∧ ∃ g, K = .slice (some ⟨g, 0, none⟩) 1 1 ∧ w.heap.size ≤ g ∧ w'.heap[g]? = some (.cells #[.int .i64 (2 * now)] 3 (0, 0)))) ∧ Below w.heap.size w w'
structure DnAt (w : World) (hb wp p th mb mo n cm : Nat) (now err val : Int) (lv : Value) (kA mA : Option Addr) (kN kC mN mC : Nat) : Prop where
  c2 : w.cell? ⟨hb, p + 2, none⟩ = some (.pointer (some ⟨wp, 0, none⟩))
  c3 : w.cell? ⟨hb, p + 3, none⟩ = some (.int .i64 th)
  c11 : w.cell? ⟨hb, p + 11, none⟩ = some (.int .i64 err)
  c12 : w.cell? ⟨hb, p + 12, none⟩ = some (.int .u64 val)
  c13 : w.cell? ⟨hb, p + 13, none⟩ = some lv
  c14 : w.cell? ⟨hb, p + 14, none⟩ = some (.slice kA kN kC)
  w6 : w.cell? ⟨wp, 6, none⟩ = some (.int .i64 now)
  w7 : w.cell? ⟨wp, 7, none⟩ = some (.slice (some ⟨mb, mo, none⟩) n cm)
  m : w.cell? ⟨mb, mo + th, none⟩ = some (.slice mA mN mC)
  hz : hb < w.heap.size
  wz : wp < w.heap.size
  mz : mb < w.heap.size
theorem DnAt.below {w w' : World} {hb wp p th mb mo n cm : Nat} {now err val : Int} {lv : Value} {kA mA : Option Addr} {kN kC mN mC : Nat} (h : DnAt w hb wp p th mb mo n cm now err val lv kA mA kN kC mN mC) (hb' : Below w.heap.size w w') : DnAt w' hb wp p th mb mo n cm now err val lv kA mA kN kC mN mC :=
  ⟨(hb'.cell (p := ⟨hb, p + 2, none⟩) h.hz).trans h.c2, (hb'.cell (p := ⟨hb, p + 3, none⟩) h.hz).trans h.c3, (hb'.cell (p := ⟨hb, p + 11, none⟩) h.hz).trans h.c11, (hb'.cell (p := ⟨hb, p + 12, none⟩) h.hz).trans h.c12, (hb'.cell (p := ⟨hb, p + 13, none⟩) h.hz).trans h.c13, (hb'.cell (p := ⟨hb, p + 14, none⟩) h.hz).trans h.c14,
    (hb'.cell (p := ⟨wp, 6, none⟩) h.wz).trans h.w6, (hb'.cell (p := ⟨wp, 7, none⟩) h.wz).trans h.w7, (hb'.cell (p := ⟨mb, mo + th, none⟩) h.mz).trans h.m, Nat.lt_of_lt_of_le h.hz hb'.size, Nat.lt_of_lt_of_le h.wz hb'.size, Nat.lt_of_lt_of_le h.mz hb'.size⟩
set_option maxRecDepth 100000 in
set_option maxHeartbeats 1000000 in
theorem plainDone {w : World} {hb wp p th mb mo n cm : Nat} {now err val : Int} {lv : Value} {kA mA : Option Addr} {kN kC mN mC : Nat} (c i r s e0 v0 : Int) (l0 k0 : Value) (h : DnAt w hb wp p th mb mo n cm now err val lv kA mA kN kC mN mC) (hth : th < n) (hnow : 0 ≤ now ∧ now ≤ 1048576) (hl : ∃ A n c, lv = .slice A n c) (_hl0 : l0.oneCell' = true) (_hk0 : k0.oneCell' = true) :
    Calls Tryz.prog 46 #[.pointer (some ⟨hb, p, none⟩), evA8 c i r s e0 v0 l0 k0] w (DonePost c i s now err val lv kA mA kN kC mN mC w) := by
  obtain ⟨lA, lN, lC, rfl⟩ := hl
  obtain ⟨X, hX⟩ : ∃ X, X = (w.alloc (.cells #[.int .i64 c, .int .i64 i, .int .i64 r, .int .i64 s, .int .i64 e0, .int .u64 v0, l0, k0] 52)).alloc (.cells #[.int .i64 0, .int .i64 0, .int .i64 0, .int .i64 0, .int .i64 0, .int .u64 0, .slice none 0 0, .slice none 0 0] 52) := ⟨_, rfl⟩
  have HBX : Hid (Below w.heap.size w X) := hide (by rw [hX]; exact ((Below.refl _ _).alloc (Nat.le_refl _) _).alloc (by simp) _)
  have h0 : X.heap[w.heap.size]? = some (.cells #[.int .i64 c, .int .i64 i, .int .i64 r, .int .i64 s, .int .i64 e0, .int .u64 v0, l0, k0] 52 (0, 0)) := by rw [hX]; exact (Below.heap_alloc _ _ _ (by simp)).trans (heap_alloc_new _ _)
  have h1 : X.heap[w.heap.size + 1]? = some (.cells #[.int .i64 0, .int .i64 0, .int .i64 0, .int .i64 0, .int .i64 0, .int .u64 0, .slice none 0 0, .slice none 0 0] 52 (0, 0)) := by rw [hX]; have := heap_alloc_new (w.alloc (.cells #[.int .i64 c, .int .i64 i, .int .i64 r, .int .i64 s, .int .i64 e0, .int .u64 v0, l0, k0] 52)) (.cells #[.int .i64 0, .int .i64 0, .int .i64 0, .int .i64 0, .int .i64 0, .int .u64 0, .slice none 0 0, .slice none 0 0] 52); simpa using this
  have hzX : X.heap.size = w.heap.size + 2 := by rw [hX]; simp
  have HD := hide h
  have hth' : (th : Int) < (n : Int) := by omega
  obtain ⟨c2, c3, c11, c12, c13, c14, w6, w7, cm0, hz, wz, mz⟩ := h.below HBX.out
  have hne : hb ≠ w.heap.size ∧ wp ≠ w.heap.size ∧ mb ≠ w.heap.size := ⟨by have := HD.out.hz; omega, by have := HD.out.wz; omega, by have := HD.out.mz; omega⟩
  have f2 := frozen_of_row _ _ 2 _ _ h0
  have g2 := cell_of_row _ _ 2 _ _ _ h0
  simp at g2
  clear h
  go_enter Tryz.func46, Tryz.ntmps46
  go_upto_region 2 with fail
  rw [← hX]
  clear hX
  go_cut [] (fun wx => Hid (wx.heap[w.heap.size]? = some (.cells #[.int .i64 c, .int .i64 i, .int .i64 now, .int .i64 s, .int .i64 e0, .int .u64 v0, l0, k0] 52 (0, 0))) ∧ Hid (wx.heap[w.heap.size + 1]? = some (.cells #[.int .i64 0, .int .i64 0, .int .i64 0, .int .i64 0, .int .i64 0, .int .u64 0, .slice none 0 0, .slice none 0 0] 52 (0, 0))) ∧ Hid (Below w.heap.size w wx))
  case first =>
    go_wp2
    go_meet
    refine ⟨hide (cells_set h0), hide ((Below.heap_setCell _ _ _ _ (by simp)).trans h1), hide (HBX.out.setCell (by simp) _)⟩
  case rest =>
    obtain ⟨h2, h3, hB2⟩ := hcut
    obtain ⟨X2, rfl⟩ : ∃ X, X = wc := ⟨_, rfl⟩
    have hD2 := hide (HD.out.below hB2.out)
    clear HBX h0 h1 hzX c2 c3 c11 c12 c13 c14 w6 w7 cm0 hz wz mz f2 g2
    go_upto_region 3 with fail
    go_cut [] (fun wx => Hid (wx.heap[w.heap.size]? = some (.cells #[.int .i64 c, .int .i64 i, .int .i64 now, .int .i64 s, .int .i64 err, .int .u64 val, (.slice lA lN lC), k0] 52 (0, 0))) ∧ Hid (wx.heap[w.heap.size + 1]? = some (.cells #[.int .i64 0, .int .i64 0, .int .i64 0, .int .i64 0, .int .i64 0, .int .u64 0, .slice none 0 0, .slice none 0 0] 52 (0, 0))) ∧ Hid (Below w.heap.size w wx))
    case first =>
      have a4 := cell_of_row _ _ 4 _ _ _ h2.out
      have a5 := cell_of_row _ _ 5 _ _ _ h2.out
      have a6 := cell_of_row _ _ 6 _ _ _ h2.out
      have b4 := frozen_of_row _ _ 4 _ _ h2.out
      have b5 := frozen_of_row _ _ 5 _ _ h2.out
      have b6 := frozen_of_row _ _ 6 _ _ h2.out
      simp at a4 a5 a6
      go_wp2_with fail
      refine wp_region_seql (Below X2.heap.size X2) [14] (.take 0 <| .take 1 <| .take 2 <| .take 3 <| .take 4 <| .take 5 <| .take 6 <| .take 7 <| .take 8 <| .take 9 <| .take 10 <| .take 11 <| .take 12 <| .take 13 <| .run 14 <| .done) (by kernel_rfl) (by kernel_rfl) (by kernel_rfl) (by (repeat' (first | with_reducible assumption | with_reducible exact Below.refl _ _ | with_reducible refine Below.drew ?_ | with_reducible refine below_drewN ?_ _ | with_reducible refine Below.alloc ?_ ?_ _ | with_reducible refine Below.setCell ?_ ?_ _ | omega | (simp; done) | (simp; omega)))) ?_
      iterate 14 (refine seql_take (v := ?_) rfl (by rfl) ?_ ?_; rotate_left; (focus (intro wS hS; have d := hD2.out.below hS; have c2 := d.c2; have c3 := d.c3; have c11 := d.c11; have c12 := d.c12; have c13 := d.c13; have c14 := d.c14; have w6 := d.w6; have w7 := d.w7; have cm' := d.m; clear d; go_simp; exact rfl)); simp only [Act.put, List.setIfInBounds_toArray, List.set_cons_zero, List.set_cons_succ])
      refine seql_late rfl rfl (by rfl) (fun K hK => ?_)
      go_simp
      refine hK _ _ ?_
      clear hK K
      refine seql_nil ?_
      go_wp2
      go_meet
      refine ⟨hide (cells_set (cells_set (cells_set (show X2.drew.heap[w.heap.size]? = _ from h2.out)))), hide ?_, hide ((((hB2.out.drew).setCell (by simp) _).setCell (by simp) _).setCell (by simp) _)⟩
      exact (Below.heap_setCell _ _ _ _ (by simp)).trans ((Below.heap_setCell _ _ _ _ (by simp)).trans ((Below.heap_setCell _ _ _ _ (by simp)).trans h3.out))
    case rest =>
      obtain ⟨h4, h5, hB4⟩ := hcut
      obtain ⟨X4, rfl⟩ : ∃ X, X = wc := ⟨_, rfl⟩
      clear hD2 h2 h3 hB2
      have hD4 := hide (HD.out.below hB4.out)
      go_upto_region 4 with fail
      go_cut [] (fun wx => Hid (wx.heap[w.heap.size]? = some (.cells #[.int .i64 c, .int .i64 i, .int .i64 now, .int .i64 s, .int .i64 err, .int .u64 val, (.slice lA lN lC), (.slice kA kN kC)] 52 (0, 0))) ∧ Hid (wx.heap[w.heap.size + 1]? = some (.cells #[.int .i64 0, .int .i64 0, .int .i64 0, .int .i64 0, .int .i64 0, .int .u64 0, .slice none 0 0, .slice none 0 0] 52 (0, 0))) ∧ Hid (Below w.heap.size w wx))
      case first =>
        have a7 := cell_of_row _ _ 7 _ _ _ h4.out
        have b7 := frozen_of_row _ _ 7 _ _ h4.out
        simp at a7
        obtain ⟨c2, c3, c11, c12, c13, c14, w6, w7, cm0, hz, wz, mz⟩ := hD4.out
        go_wp2
        go_meet
        exact ⟨hide (cells_set h4.out), hide ((Below.heap_setCell _ _ _ _ (by simp)).trans h5.out), hide (hB4.out.setCell (by simp) _)⟩
      case rest =>
        obtain ⟨h6, h7, hB6⟩ := hcut
        obtain ⟨X6, rfl⟩ : ∃ X, X = wc := ⟨_, rfl⟩
        clear hD4 h4 h5 hB4
        have hD6 := hide (HD.out.below hB6.out)
        have a7 := cell_of_row _ _ 7 _ _ _ h6.out
        have b7 := frozen_of_row _ _ 7 _ _ h6.out
        simp at a7
        by_cases n1 : kN = 0
        · subst n1
          go_upto_region 6 with fail
          go_cut [] (fun wx => Hid (wx.heap[w.heap.size]? = some (.cells #[.int .i64 c, .int .i64 i, .int .i64 now, .int .i64 s, .int .i64 err, .int .u64 val, (.slice lA lN lC), (.slice mA mN mC)] 52 (0, 0))) ∧ Hid (wx.heap[w.heap.size + 1]? = some (.cells #[.int .i64 0, .int .i64 0, .int .i64 0, .int .i64 0, .int .i64 0, .int .u64 0, .slice none 0 0, .slice none 0 0] 52 (0, 0))) ∧ Hid (Below w.heap.size w wx))
          case first =>
            have hD2 := hD6
            go_wp2_with fail
            refine wp_region_seql (Below X6.heap.size X6) [14] (.take 0 <| .take 1 <| .take 2 <| .take 3 <| .take 4 <| .take 5 <| .take 6 <| .take 7 <| .take 8 <| .take 9 <| .take 10 <| .take 11 <| .take 12 <| .take 13 <| .run 14 <| .done) (by kernel_rfl) (by kernel_rfl) (by kernel_rfl) (by (repeat' (first | with_reducible assumption | with_reducible exact Below.refl _ _ | with_reducible refine Below.drew ?_ | with_reducible refine below_drewN ?_ _ | with_reducible refine Below.alloc ?_ ?_ _ | with_reducible refine Below.setCell ?_ ?_ _ | omega | (simp; done) | (simp; omega)))) ?_
            iterate 14 (refine seql_take (v := ?_) rfl (by rfl) ?_ ?_; rotate_left; (focus (intro wS hS; have d := hD2.out.below hS; have c2 := d.c2; have c3 := d.c3; have c11 := d.c11; have c12 := d.c12; have c13 := d.c13; have c14 := d.c14; have w6 := d.w6; have w7 := d.w7; have cm' := d.m; clear d; go_simp; exact rfl)); simp only [Act.put, List.setIfInBounds_toArray, List.set_cons_zero, List.set_cons_succ])
            refine seql_late rfl rfl (by rfl) (fun K hK => ?_)
            go_simp
            refine hK _ _ ?_
            clear hK K
            refine seql_nil ?_
            go_wp2
            go_meet
            refine ⟨hide (cells_set (show X6.drew.heap[w.heap.size]? = _ from h6.out)), hide ((Below.heap_setCell _ _ _ _ (by simp)).trans h7.out), hide ((hB6.out.drew).setCell (by simp) _)⟩
          case rest =>
            obtain ⟨h8, h9, hB8⟩ := hcut
            obtain ⟨X8, rfl⟩ : ∃ X, X = wc := ⟨_, rfl⟩
            have hD8 := hide (HD.out.below hB8.out)
            clear hD6 h6 h7 hB6 a7 b7
            have h6 := h8
            have h7 := h9
            have hB6 := hB8
            have a7 := cell_of_row _ _ 7 _ _ _ h6.out
            have b7 := frozen_of_row _ _ 7 _ _ h6.out
            simp at a7
            by_cases n2 : mN = 0
            · subst n2
              have k1 : IntKind.i64.wrap (2 * now) = 2 * now := IntWalk.i64_in _ (by omega)
              have bz : w.heap.size < X8.heap.size := (Array.getElem?_eq_some_iff.1 h6.out).1
              have bz1 : w.heap.size + 1 < X8.heap.size := (Array.getElem?_eq_some_iff.1 h7.out).1
              obtain ⟨c2, c3, c11, c12, c13, c14, w6, w7, cm0, hz, wz, mz⟩ := hD8.out
              go_upto_region 8 with fail
              go_cut [] (fun wx => Hid (wx.heap[w.heap.size]? = some (.cells #[.int .i64 c, .int .i64 i, .int .i64 now, .int .i64 s, .int .i64 err, .int .u64 val, (.slice lA lN lC), (.slice (some ⟨X8.heap.size, 0, none⟩) 1 1)] 52 (0, 0))) ∧ Hid (wx.heap[w.heap.size + 1]? = some (.cells #[.int .i64 0, .int .i64 0, .int .i64 0, .int .i64 0, .int .i64 0, .int .u64 0, .slice none 0 0, .slice none 0 0] 52 (0, 0))) ∧ Hid (Below w.heap.size w wx) ∧ Hid (wx.heap[X8.heap.size]? = some (.cells #[.int .i64 (2 * now)] 3 (0, 0))))
              case first =>
                go_wp2
                go_meet
                refine ⟨hide ?_, hide ?_, hide ?_, hide ?_⟩
                · exact (Below.heap_alloc _ _ _ (by simp; omega)).trans (cells_set h6.out)
                · exact (Below.heap_alloc _ _ _ (by simp; omega)).trans ((Below.heap_setCell _ _ _ _ (by simp)).trans h7.out)
                · exact (hB6.out.setCell (by simp) _).alloc (by simp; omega) _
                · have := heap_alloc_new (X8.setCell ⟨w.heap.size, 7, none⟩ (.slice (some ⟨X8.heap.size, 0, none⟩) 1 1)) (.cells #[.int .i64 (2 * now)] 3)
                  simpa using this
              case rest =>
                obtain ⟨h8', h9', hB9, hnew⟩ := hcut
                obtain ⟨X9, rfl⟩ : ∃ X, X = wc := ⟨_, rfl⟩
                clear h6 h7 h8 h9 a7 b7 hD8 c2 c3 c11 c12 c13 c14 w6 w7 cm0 hz wz mz
                have h6 := h8'
                have h7 := h9'
                have a7 := cell_of_row _ _ 7 _ _ _ h6.out
                simp at a7
                have hsz8 : w.heap.size ≤ X8.heap.size := by omega
                have x0 := cell_of_row _ _ 0 _ _ _ h6.out
                have x1 := cell_of_row _ _ 1 _ _ _ h6.out
                have x2 := cell_of_row _ _ 2 _ _ _ h6.out
                have x3 := cell_of_row _ _ 3 _ _ _ h6.out
                have x4 := cell_of_row _ _ 4 _ _ _ h6.out
                have x5 := cell_of_row _ _ 5 _ _ _ h6.out
                have x6 := cell_of_row _ _ 6 _ _ _ h6.out
                have z := fun j => frozen_of_row _ _ j _ _ h7.out
                have y0 := cell_of_row _ _ 0 _ _ _ h7.out
                have y1 := cell_of_row _ _ 1 _ _ _ h7.out
                have y2 := cell_of_row _ _ 2 _ _ _ h7.out
                have y3 := cell_of_row _ _ 3 _ _ _ h7.out
                have y4 := cell_of_row _ _ 4 _ _ _ h7.out
                have y5 := cell_of_row _ _ 5 _ _ _ h7.out
                have y6 := cell_of_row _ _ 6 _ _ _ h7.out
                have y7 := cell_of_row _ _ 7 _ _ _ h7.out
                simp at x0 x1 x2 x3 x4 x5 x6 y0 y1 y2 y3 y4 y5 y6 y7
                go_wp2
                refine bodyPost_ret (v := evA8 c i now s err val (.slice lA lN lC) (.slice (some ⟨X8.heap.size, 0, none⟩) 1 1)) (by simp [results, Tryz.results46, go_sem, y0, y1, y2, y3, y4, y5, y6, y7]) rfl ⟨_, rfl, Or.inr (Or.inr ⟨rfl, rfl, X8.heap.size, rfl, hsz8, ?_⟩), ?_⟩
                · have hne2 : X8.heap.size ≠ w.heap.size + 1 := by omega
                  repeat (refine (Below.heap_setCell _ _ _ _ hne2).trans ?_)
                  exact hnew.out
                · have hq := hB9.out
                  (repeat' (first | with_reducible assumption | with_reducible exact Below.refl _ _ | with_reducible refine Below.drew ?_ | with_reducible refine below_drewN ?_ _ | with_reducible refine Below.alloc ?_ ?_ _ | with_reducible refine Below.setCell ?_ ?_ _ | omega | (simp; done) | (simp; omega)))
            · have d1 : ((mN : Int) == 0) = false := by simp; omega
              have d2 : (mN == 0) = false := by simpa using n2
              have N2 := hide n2
              clear n2 hD8
              have x0 := cell_of_row _ _ 0 _ _ _ h6.out
              have x1 := cell_of_row _ _ 1 _ _ _ h6.out
              have x2 := cell_of_row _ _ 2 _ _ _ h6.out
              have x3 := cell_of_row _ _ 3 _ _ _ h6.out
              have x4 := cell_of_row _ _ 4 _ _ _ h6.out
              have x5 := cell_of_row _ _ 5 _ _ _ h6.out
              have x6 := cell_of_row _ _ 6 _ _ _ h6.out
              have z := fun j => frozen_of_row _ _ j _ _ h7.out
              have y0 := cell_of_row _ _ 0 _ _ _ h7.out
              have y1 := cell_of_row _ _ 1 _ _ _ h7.out
              have y2 := cell_of_row _ _ 2 _ _ _ h7.out
              have y3 := cell_of_row _ _ 3 _ _ _ h7.out
              have y4 := cell_of_row _ _ 4 _ _ _ h7.out
              have y5 := cell_of_row _ _ 5 _ _ _ h7.out
              have y6 := cell_of_row _ _ 6 _ _ _ h7.out
              have y7 := cell_of_row _ _ 7 _ _ _ h7.out
              simp at x0 x1 x2 x3 x4 x5 x6 y0 y1 y2 y3 y4 y5 y6 y7
              go_wp2
              refine bodyPost_ret (v := evA8 c i now s err val (.slice lA lN lC) (.slice mA mN mC)) (by simp [results, Tryz.results46, go_sem, y0, y1, y2, y3, y4, y5, y6, y7]) rfl ⟨_, rfl, Or.inr (Or.inl ⟨rfl, N2.out, rfl⟩), ?_⟩
              have hq := hB6.out
              (repeat' (first | with_reducible assumption | with_reducible exact Below.refl _ _ | with_reducible refine Below.drew ?_ | with_reducible refine below_drewN ?_ _ | with_reducible refine Below.alloc ?_ ?_ _ | with_reducible refine Below.setCell ?_ ?_ _ | omega | (simp; done) | (simp; omega)))
        · have d1 : ((kN : Int) == 0) = false := by simp; omega
          have d2 : (kN == 0) = false := by simpa using n1
          have N1 := hide n1
          clear n1 hD6
          have x0 := cell_of_row _ _ 0 _ _ _ h6.out
          have x1 := cell_of_row _ _ 1 _ _ _ h6.out
          have x2 := cell_of_row _ _ 2 _ _ _ h6.out
          have x3 := cell_of_row _ _ 3 _ _ _ h6.out
          have x4 := cell_of_row _ _ 4 _ _ _ h6.out
          have x5 := cell_of_row _ _ 5 _ _ _ h6.out
          have x6 := cell_of_row _ _ 6 _ _ _ h6.out
          have z := fun j => frozen_of_row _ _ j _ _ h7.out
          have y0 := cell_of_row _ _ 0 _ _ _ h7.out
          have y1 := cell_of_row _ _ 1 _ _ _ h7.out
          have y2 := cell_of_row _ _ 2 _ _ _ h7.out
          have y3 := cell_of_row _ _ 3 _ _ _ h7.out
          have y4 := cell_of_row _ _ 4 _ _ _ h7.out
          have y5 := cell_of_row _ _ 5 _ _ _ h7.out
          have y6 := cell_of_row _ _ 6 _ _ _ h7.out
          have y7 := cell_of_row _ _ 7 _ _ _ h7.out
          simp at x0 x1 x2 x3 x4 x5 x6 y0 y1 y2 y3 y4 y5 y6 y7
          go_wp2
          refine bodyPost_ret (v := evA8 c i now s err val (.slice lA lN lC) (.slice kA kN kC)) (by simp [results, Tryz.results46, go_sem, y0, y1, y2, y3, y4, y5, y6, y7]) rfl ⟨_, rfl, Or.inl ⟨N1.out, rfl⟩, ?_⟩
          have hq := hB6.out
          (repeat' (first | with_reducible assumption | with_reducible exact Below.refl _ _ | with_reducible refine Below.drew ?_ | with_reducible refine below_drewN ?_ _ | with_reducible refine Below.alloc ?_ ?_ _ | with_reducible refine Below.setCell ?_ ?_ _ | omega | (simp; done) | (simp; omega)))
end Go.Proofs.YtlfingcmekifkaaGreat
