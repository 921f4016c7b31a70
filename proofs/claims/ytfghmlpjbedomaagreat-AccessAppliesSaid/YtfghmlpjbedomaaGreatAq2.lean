/- Which accesses are a thread's, and at an address (access.Of), and who wrote there (access.Writers), walked. -/
import Derived.Test.YtfghmlpjbedomaaGreatAq1
import Derived.Test.YtfghmlpjbedomaaGreatShl1
namespace Go.Proofs.YtfghmlpjbedomaaGreat
open Go.RowKit

def ofOk (a : Ac) (th ad : Int) : Bool := (decide (th < 0) || decide (a.thread = th)) && (decide (ad < 0) || decide (a.at_ = ad))
def ofL (l : List Ac) (th ad : Int) : Nat → List Int
  | 0 => []
  | k + 1 => ofL l th ad k ++ (match l[k]? with | some a => if ofOk a th ad then [(k : Int)] else [] | none => [])
theorem ofL_succ {l : List Ac} {th ad : Int} {k : Nat} {a : Ac} (h : l[k]? = some a) : ofL l th ad (k + 1) = ofL l th ad k ++ (if ofOk a th ad then [(k : Int)] else []) := by
  show ofL l th ad k ++ (match l[k]? with | some a => if ofOk a th ad then [(k : Int)] else [] | none => []) = _
  rw [h]
theorem ofL_len (l : List Ac) (th ad : Int) : ∀ k, (ofL l th ad k).length ≤ k
  | 0 => Nat.le_refl _
  | k + 1 => by
    have := ofL_len l th ad k
    show (ofL l th ad k ++ _).length ≤ _
    rw [List.length_append]
    rcases l[k]? with _ | a
    · simp; omega
    · simp only
      split <;> simp <;> omega
def wrOk (a : Ac) (ad : Int) : Bool := decide (a.at_ = ad) && (decide (a.kind = 1) || decide (a.now ≠ a.old))
def wrL (l : List Ac) (ad : Int) : Nat → List Int
  | 0 => []
  | k + 1 => wrL l ad k ++ (match l[k]? with | some a => if wrOk a ad then [a.thread] else [] | none => [])
theorem wrL_succ {l : List Ac} {ad : Int} {k : Nat} {a : Ac} (h : l[k]? = some a) : wrL l ad (k + 1) = wrL l ad k ++ (if wrOk a ad then [a.thread] else []) := by
  show wrL l ad k ++ (match l[k]? with | some a => if wrOk a ad then [a.thread] else [] | none => []) = _
  rw [h]
theorem wrL_len (l : List Ac) (ad : Int) : ∀ k, (wrL l ad k).length ≤ k
  | 0 => Nat.le_refl _
  | k + 1 => by
    have := wrL_len l ad k
    show (wrL l ad k ++ _).length ≤ _
    rw [List.length_append]
    rcases l[k]? with _ | a
    · simp; omega
    · simp only
      split <;> simp <;> omega
set_option maxRecDepth 100000 in
set_option maxHeartbeats 4000000 in
theorem ofW {L : Value} {l : List Ac} {w : World} (th ad : Int) (hl : SlAc w L l) (hx : l.length ≤ 1000) :
    Calls Tryz.prog 18 #[L, .int .i64 th, .int .i64 ad] w fun e w' => ∃ u, e = .returned u ∧ IOwn w' w.heap.size u (ofL l th ad l.length).length (ofL l th ad l.length) ∧ Below w.heap.size w w' := by
  obtain ⟨A, cA, rfl, a1, a2, a3⟩ := hl
  have HA := hide a3
  obtain ⟨i0, hi, hx0, hx1, hx2⟩ := info_parts info_int
  clear a3
  go_enter Tryz.func18, Tryz.ntmps18
  go_wp2
  go_loopw [12, 7] (fun i v wr => ∃ k : Nat, k ≤ l.length ∧ i = .int .i64 (k : Int) ∧ Hid (IOwn wr w.heap.size v (ofL l th ad k).length (ofL l th ad k)) ∧ Hid (Below w.heap.size w wr)) (fun i _ _ => l.length - (intOf i).toNat)
  case atStart => exact ⟨0, Nat.zero_le _, rfl, hide (World.ownsRow_nil _ _ _ _), hide (Below.refl _ _)⟩
  case round =>
    obtain ⟨k, hk, rfl, hO, hB⟩ := hrel
    have hll := ofL_len l th ad k
    by_cases hlt : k < l.length
    · have hsz := hB.out.size
      obtain ⟨a, ha⟩ : ∃ a, l[k]? = some a := ⟨_, List.getElem?_eq_getElem hlt⟩
      obtain ⟨b, o, rfl, hb, hc⟩ := HA.out k a ha
      obtain ⟨c0, c1, c2, c3, c4, c5⟩ := ac_cells hc
      have d0 := (hB.out.cell (p := ⟨b, o + k * 6, none⟩) hb).trans c0
      have d1 := (hB.out.cell (p := ⟨b, o + k * 6 + 1, none⟩) hb).trans c1
      have d2 := (hB.out.cell (p := ⟨b, o + k * 6 + 2, none⟩) hb).trans c2
      have d3 := (hB.out.cell (p := ⟨b, o + k * 6 + 3, none⟩) hb).trans c3
      have d4 := (hB.out.cell (p := ⟨b, o + k * 6 + 4, none⟩) hb).trans c4
      have d5 := (hB.out.cell (p := ⟨b, o + k * 6 + 5, none⟩) hb).trans c5
      have hbz : b < wr.heap.size := by omega
      have hki : (k : Int) < (l.length : Int) := by omega
      have hk0 : (0 : Int) ≤ (k : Int) := by omega
      clear hc c0 c1 c2 c3 c4 c5
      obtain ⟨Av, cv, rfl⟩ := own_slice hO.out
      by_cases p1 : th < 0
      · have e1 : decide (th < 0) = true := by simpa using p1
        by_cases p3 : ad < 0
        · have e3 : decide (ad < 0) = true := by simpa using p3
          have hok : ofOk a th ad = true := by simp [ofOk, *]
          (try clear p4); (try clear p3); (try clear p2); (try clear p1)
          have HS := hide (ofL_succ (th := th) (ad := ad) ha)
          have HOK := hide hok
          clear ha hok
          go_wp2_with (first | (at_builtin; refine wpList_append_own_at _ rfl _ _ 22 rfl w.heap.size 3 i0 (.int .i64 0) 1 8 Tryz.underlying22 hi hx0 hx1 hx2 rfl (by decide) _ (ofL l th ad k).length ((ofL l th ad k).map (Value.int .i64)) rfl ((World.ownsRow.alloc (World.ownsRow.alloc hO.out _) _)) ⟨wr.heap.size + 1, 0, none⟩ 1 1 [.int .i64 (k : Int)] rfl rfl (by have hs1 : (wr.alloc (.cells #[.int .i64 a.tick, .int .i64 a.thread, .int .i64 a.kind, .int .i64 a.at_, .int .u64 a.old, .int .u64 a.now] 39)).heap.size = wr.heap.size + 1 := (by simp); rw [← hs1]; exact cell_one_new _ _ _) (by simp [Value.oneCell']) (by unfold maxLen; omega) (by omega) (by simp; omega) ?_; intro v7 w7 hown7 hgrow7 _ _; obtain ⟨A7, c7, rfl⟩ := own_slice hown7) | fail)
          have hB7 := ((hB.out.alloc hsz (.cells #[.int .i64 a.tick, .int .i64 a.thread, .int .i64 a.kind, .int .i64 a.at_, .int .u64 a.old, .int .u64 a.now] 39)).alloc (by simp; omega) (.cells #[.int .i64 (k : Int)] 3)).grown hgrow7 (by simp; omega) (fun j hj => (World.ownsRow.lt hO.out j hj).1)
          have hO7 : IOwn w7 w.heap.size (.slice A7 ((ofL l th ad k).length + 1) c7) (ofL l th ad (k + 1)).length (ofL l th ad (k + 1)) := by
            rw [HS.out, if_pos HOK.out, IOwn, List.length_append, List.map_append]
            exact hown7
          have hle : (ofL l th ad (k + 1)).length = (ofL l th ad k).length + 1 := by rw [HS.out, if_pos HOK.out, List.length_append]; rfl
          rw [← hle] at hO7
          go_roundw
          case rel => exact ⟨k + 1, by omega, by go_num, hide (by rw [← hle]; exact hO7), hide hB7⟩
          case measure => first | (simp [intOf]; done) | (simp [intOf]; omega)
        · have e3 : decide (ad < 0) = false := by simpa using p3
          by_cases p4 : a.at_ = ad
          · have e4 : (a.at_ == ad) = true := by simp [p4]
            have hok : ofOk a th ad = true := by simp [ofOk, *]
            (try clear p4); (try clear p3); (try clear p2); (try clear p1)
            have HS := hide (ofL_succ (th := th) (ad := ad) ha)
            have HOK := hide hok
            clear ha hok
            go_wp2_with (first | (at_builtin; refine wpList_append_own_at _ rfl _ _ 22 rfl w.heap.size 3 i0 (.int .i64 0) 1 8 Tryz.underlying22 hi hx0 hx1 hx2 rfl (by decide) _ (ofL l th ad k).length ((ofL l th ad k).map (Value.int .i64)) rfl ((World.ownsRow.alloc (World.ownsRow.alloc hO.out _) _)) ⟨wr.heap.size + 1, 0, none⟩ 1 1 [.int .i64 (k : Int)] rfl rfl (by have hs1 : (wr.alloc (.cells #[.int .i64 a.tick, .int .i64 a.thread, .int .i64 a.kind, .int .i64 a.at_, .int .u64 a.old, .int .u64 a.now] 39)).heap.size = wr.heap.size + 1 := (by simp); rw [← hs1]; exact cell_one_new _ _ _) (by simp [Value.oneCell']) (by unfold maxLen; omega) (by omega) (by simp; omega) ?_; intro v7 w7 hown7 hgrow7 _ _; obtain ⟨A7, c7, rfl⟩ := own_slice hown7) | fail)
            have hB7 := ((hB.out.alloc hsz (.cells #[.int .i64 a.tick, .int .i64 a.thread, .int .i64 a.kind, .int .i64 a.at_, .int .u64 a.old, .int .u64 a.now] 39)).alloc (by simp; omega) (.cells #[.int .i64 (k : Int)] 3)).grown hgrow7 (by simp; omega) (fun j hj => (World.ownsRow.lt hO.out j hj).1)
            have hO7 : IOwn w7 w.heap.size (.slice A7 ((ofL l th ad k).length + 1) c7) (ofL l th ad (k + 1)).length (ofL l th ad (k + 1)) := by
              rw [HS.out, if_pos HOK.out, IOwn, List.length_append, List.map_append]
              exact hown7
            have hle : (ofL l th ad (k + 1)).length = (ofL l th ad k).length + 1 := by rw [HS.out, if_pos HOK.out, List.length_append]; rfl
            rw [← hle] at hO7
            go_roundw
            case rel => exact ⟨k + 1, by omega, by go_num, hide (by rw [← hle]; exact hO7), hide hB7⟩
            case measure => first | (simp [intOf]; done) | (simp [intOf]; omega)
          · have e4 : (a.at_ == ad) = false := by simp [p4]
            have hok : ofOk a th ad = false := by simp [ofOk, *]
            (try clear p4); (try clear p3); (try clear p2); (try clear p1)
            have HS := hide (ofL_succ (th := th) (ad := ad) ha)
            have HOK := hide hok
            clear ha hok
            go_wp2
            go_roundw
            case rel =>
              refine ⟨k + 1, by omega, by go_num, hide ?_, hide (hB.out.alloc hsz _)⟩
              have := World.ownsRow.alloc hO.out (.cells #[.int .i64 a.tick, .int .i64 a.thread, .int .i64 a.kind, .int .i64 a.at_, .int .u64 a.old, .int .u64 a.now] 39)
              have e : ofL l th ad (k + 1) = ofL l th ad k := by rw [HS.out, HOK.out]; simp
              rw [e]
              exact this
            case measure => first | (simp [intOf]; done) | (simp [intOf]; omega)
      · have e1 : decide (th < 0) = false := by simpa using p1
        by_cases p2 : a.thread = th
        · have e2 : (a.thread == th) = true := by simp [p2]
          by_cases p3 : ad < 0
          · have e3 : decide (ad < 0) = true := by simpa using p3
            have hok : ofOk a th ad = true := by simp [ofOk, *]
            (try clear p4); (try clear p3); (try clear p2); (try clear p1)
            have HS := hide (ofL_succ (th := th) (ad := ad) ha)
            have HOK := hide hok
            clear ha hok
            go_wp2_with (first | (at_builtin; refine wpList_append_own_at _ rfl _ _ 22 rfl w.heap.size 3 i0 (.int .i64 0) 1 8 Tryz.underlying22 hi hx0 hx1 hx2 rfl (by decide) _ (ofL l th ad k).length ((ofL l th ad k).map (Value.int .i64)) rfl ((World.ownsRow.alloc (World.ownsRow.alloc hO.out _) _)) ⟨wr.heap.size + 1, 0, none⟩ 1 1 [.int .i64 (k : Int)] rfl rfl (by have hs1 : (wr.alloc (.cells #[.int .i64 a.tick, .int .i64 a.thread, .int .i64 a.kind, .int .i64 a.at_, .int .u64 a.old, .int .u64 a.now] 39)).heap.size = wr.heap.size + 1 := (by simp); rw [← hs1]; exact cell_one_new _ _ _) (by simp [Value.oneCell']) (by unfold maxLen; omega) (by omega) (by simp; omega) ?_; intro v7 w7 hown7 hgrow7 _ _; obtain ⟨A7, c7, rfl⟩ := own_slice hown7) | fail)
            have hB7 := ((hB.out.alloc hsz (.cells #[.int .i64 a.tick, .int .i64 a.thread, .int .i64 a.kind, .int .i64 a.at_, .int .u64 a.old, .int .u64 a.now] 39)).alloc (by simp; omega) (.cells #[.int .i64 (k : Int)] 3)).grown hgrow7 (by simp; omega) (fun j hj => (World.ownsRow.lt hO.out j hj).1)
            have hO7 : IOwn w7 w.heap.size (.slice A7 ((ofL l th ad k).length + 1) c7) (ofL l th ad (k + 1)).length (ofL l th ad (k + 1)) := by
              rw [HS.out, if_pos HOK.out, IOwn, List.length_append, List.map_append]
              exact hown7
            have hle : (ofL l th ad (k + 1)).length = (ofL l th ad k).length + 1 := by rw [HS.out, if_pos HOK.out, List.length_append]; rfl
            rw [← hle] at hO7
            go_roundw
            case rel => exact ⟨k + 1, by omega, by go_num, hide (by rw [← hle]; exact hO7), hide hB7⟩
            case measure => first | (simp [intOf]; done) | (simp [intOf]; omega)
          · have e3 : decide (ad < 0) = false := by simpa using p3
            by_cases p4 : a.at_ = ad
            · have e4 : (a.at_ == ad) = true := by simp [p4]
              have hok : ofOk a th ad = true := by simp [ofOk, *]
              (try clear p4); (try clear p3); (try clear p2); (try clear p1)
              have HS := hide (ofL_succ (th := th) (ad := ad) ha)
              have HOK := hide hok
              clear ha hok
              go_wp2_with (first | (at_builtin; refine wpList_append_own_at _ rfl _ _ 22 rfl w.heap.size 3 i0 (.int .i64 0) 1 8 Tryz.underlying22 hi hx0 hx1 hx2 rfl (by decide) _ (ofL l th ad k).length ((ofL l th ad k).map (Value.int .i64)) rfl ((World.ownsRow.alloc (World.ownsRow.alloc hO.out _) _)) ⟨wr.heap.size + 1, 0, none⟩ 1 1 [.int .i64 (k : Int)] rfl rfl (by have hs1 : (wr.alloc (.cells #[.int .i64 a.tick, .int .i64 a.thread, .int .i64 a.kind, .int .i64 a.at_, .int .u64 a.old, .int .u64 a.now] 39)).heap.size = wr.heap.size + 1 := (by simp); rw [← hs1]; exact cell_one_new _ _ _) (by simp [Value.oneCell']) (by unfold maxLen; omega) (by omega) (by simp; omega) ?_; intro v7 w7 hown7 hgrow7 _ _; obtain ⟨A7, c7, rfl⟩ := own_slice hown7) | fail)
              have hB7 := ((hB.out.alloc hsz (.cells #[.int .i64 a.tick, .int .i64 a.thread, .int .i64 a.kind, .int .i64 a.at_, .int .u64 a.old, .int .u64 a.now] 39)).alloc (by simp; omega) (.cells #[.int .i64 (k : Int)] 3)).grown hgrow7 (by simp; omega) (fun j hj => (World.ownsRow.lt hO.out j hj).1)
              have hO7 : IOwn w7 w.heap.size (.slice A7 ((ofL l th ad k).length + 1) c7) (ofL l th ad (k + 1)).length (ofL l th ad (k + 1)) := by
                rw [HS.out, if_pos HOK.out, IOwn, List.length_append, List.map_append]
                exact hown7
              have hle : (ofL l th ad (k + 1)).length = (ofL l th ad k).length + 1 := by rw [HS.out, if_pos HOK.out, List.length_append]; rfl
              rw [← hle] at hO7
              go_roundw
              case rel => exact ⟨k + 1, by omega, by go_num, hide (by rw [← hle]; exact hO7), hide hB7⟩
              case measure => first | (simp [intOf]; done) | (simp [intOf]; omega)
            · have e4 : (a.at_ == ad) = false := by simp [p4]
              have hok : ofOk a th ad = false := by simp [ofOk, *]
              (try clear p4); (try clear p3); (try clear p2); (try clear p1)
              have HS := hide (ofL_succ (th := th) (ad := ad) ha)
              have HOK := hide hok
              clear ha hok
              go_wp2
              go_roundw
              case rel =>
                refine ⟨k + 1, by omega, by go_num, hide ?_, hide (hB.out.alloc hsz _)⟩
                have := World.ownsRow.alloc hO.out (.cells #[.int .i64 a.tick, .int .i64 a.thread, .int .i64 a.kind, .int .i64 a.at_, .int .u64 a.old, .int .u64 a.now] 39)
                have e : ofL l th ad (k + 1) = ofL l th ad k := by rw [HS.out, HOK.out]; simp
                rw [e]
                exact this
              case measure => first | (simp [intOf]; done) | (simp [intOf]; omega)
        · have e2 : (a.thread == th) = false := by simp [p2]
          have hok : ofOk a th ad = false := by simp [ofOk, *]
          (try clear p4); (try clear p3); (try clear p2); (try clear p1)
          have HS := hide (ofL_succ (th := th) (ad := ad) ha)
          have HOK := hide hok
          clear ha hok
          go_wp2
          go_roundw
          case rel =>
            refine ⟨k + 1, by omega, by go_num, hide ?_, hide (hB.out.alloc hsz _)⟩
            have := World.ownsRow.alloc hO.out (.cells #[.int .i64 a.tick, .int .i64 a.thread, .int .i64 a.kind, .int .i64 a.at_, .int .u64 a.old, .int .u64 a.now] 39)
            have e : ofL l th ad (k + 1) = ofL l th ad k := by rw [HS.out, HOK.out]; simp
            rw [e]
            exact this
          case measure => first | (simp [intOf]; done) | (simp [intOf]; omega)
    · obtain rfl : k = l.length := by omega
      go_wp2
      go_ret
      exact ⟨_, rfl, hO.out, hB.out⟩
theorem srt_len (xs : List Int) : (srt xs).length = xs.length := List.length_mergeSort xs
set_option maxRecDepth 100000 in
set_option maxHeartbeats 4000000 in
theorem wrW {L : Value} {l : List Ac} {w : World} (ad : Int) (hl : SlAc w L l) (hx : l.length ≤ 1000) :
    Calls Tryz.prog 17 #[L, .int .i64 ad] w fun e w' => ∃ u, e = .returned u ∧ SlI w' u (Lib.compact (srt (wrL l ad l.length))) ∧ Below w.heap.size w w' := by
  obtain ⟨A, cA, rfl, a1, a2, a3⟩ := hl
  have HA := hide a3
  obtain ⟨i0, hi, hx0, hx1, hx2⟩ := info_parts info_int
  clear a3
  go_enter Tryz.func17, Tryz.ntmps17
  go_wp2
  go_loopw [10, 5] (fun i v wr => ∃ k : Nat, k ≤ l.length ∧ i = .int .i64 (k : Int) ∧ Hid (IOwn wr w.heap.size v (wrL l ad k).length (wrL l ad k)) ∧ Hid (Below w.heap.size w wr)) (fun i _ _ => l.length - (intOf i).toNat)
  case atStart => exact ⟨0, Nat.zero_le _, rfl, hide (World.ownsRow_nil _ _ _ _), hide (Below.refl _ _)⟩
  case round =>
    obtain ⟨k, hk, rfl, hO, hB⟩ := hrel
    have hll := wrL_len l ad k
    by_cases hlt : k < l.length
    · have hsz := hB.out.size
      obtain ⟨a, ha⟩ : ∃ a, l[k]? = some a := ⟨_, List.getElem?_eq_getElem hlt⟩
      obtain ⟨b, o, rfl, hb, hc⟩ := HA.out k a ha
      obtain ⟨c0, c1, c2, c3, c4, c5⟩ := ac_cells hc
      have d0 := (hB.out.cell (p := ⟨b, o + k * 6, none⟩) hb).trans c0
      have d1 := (hB.out.cell (p := ⟨b, o + k * 6 + 1, none⟩) hb).trans c1
      have d2 := (hB.out.cell (p := ⟨b, o + k * 6 + 2, none⟩) hb).trans c2
      have d3 := (hB.out.cell (p := ⟨b, o + k * 6 + 3, none⟩) hb).trans c3
      have d4 := (hB.out.cell (p := ⟨b, o + k * 6 + 4, none⟩) hb).trans c4
      have d5 := (hB.out.cell (p := ⟨b, o + k * 6 + 5, none⟩) hb).trans c5
      have hbz : b < wr.heap.size := by omega
      have hki : (k : Int) < (l.length : Int) := by omega
      have hk0 : (0 : Int) ≤ (k : Int) := by omega
      clear hc c0 c1 c2 c3 c4 c5
      obtain ⟨Av, cv, rfl⟩ := own_slice hO.out
      by_cases p1 : a.at_ = ad
      · have e1 : (a.at_ == ad) = true := by simp [p1]
        by_cases p2 : a.kind = 1
        · have e2 : (a.kind == 1) = true := by simp [p2]
          have hok : wrOk a ad = true := by simp [wrOk, p1, p2]
          clear p1 p2
          have HS := hide (wrL_succ (ad := ad) ha)
          have HOK := hide hok
          clear ha hok
          go_wp2_with (first | (at_builtin; refine wpList_append_own_at _ rfl _ _ 22 rfl w.heap.size 3 i0 (.int .i64 0) 1 8 Tryz.underlying22 hi hx0 hx1 hx2 rfl (by decide) _ (wrL l ad k).length ((wrL l ad k).map (Value.int .i64)) rfl ((World.ownsRow.alloc (World.ownsRow.alloc hO.out _) _)) ⟨wr.heap.size + 1, 0, none⟩ 1 1 [.int .i64 a.thread] rfl rfl (by have hs1 : (wr.alloc (.cells #[.int .i64 a.tick, .int .i64 a.thread, .int .i64 a.kind, .int .i64 a.at_, .int .u64 a.old, .int .u64 a.now] 39)).heap.size = wr.heap.size + 1 := (by simp); rw [← hs1]; exact cell_one_new _ _ _) (by simp [Value.oneCell']) (by unfold maxLen; omega) (by omega) (by simp; omega) ?_; intro v7 w7 hown7 hgrow7 _ _; obtain ⟨A7, c7, rfl⟩ := own_slice hown7) | fail)
          have hB7 := ((hB.out.alloc hsz (.cells #[.int .i64 a.tick, .int .i64 a.thread, .int .i64 a.kind, .int .i64 a.at_, .int .u64 a.old, .int .u64 a.now] 39)).alloc (by simp; omega) (.cells #[.int .i64 a.thread] 3)).grown hgrow7 (by simp; omega) (fun j hj => (World.ownsRow.lt hO.out j hj).1)
          have hO7 : IOwn w7 w.heap.size (.slice A7 ((wrL l ad k).length + 1) c7) (wrL l ad (k + 1)).length (wrL l ad (k + 1)) := by
            rw [HS.out, if_pos HOK.out, IOwn, List.length_append, List.map_append]
            exact hown7
          have hle : (wrL l ad (k + 1)).length = (wrL l ad k).length + 1 := by rw [HS.out, if_pos HOK.out, List.length_append]; rfl
          rw [← hle] at hO7
          go_roundw
          case rel => exact ⟨k + 1, by omega, by go_num, hide (by rw [← hle]; exact hO7), hide hB7⟩
          case measure => first | (simp [intOf]; done) | (simp [intOf]; omega)
        · have e2 : (a.kind == 1) = false := by simp [p2]
          by_cases p3 : a.now = a.old
          · have e3 : (a.now != a.old) = false := by simp [p3]
            have hok : wrOk a ad = false := by simp [wrOk, p2, p3]
            clear p1 p2 p3
            have HS := hide (wrL_succ (ad := ad) ha)
            have HOK := hide hok
            clear ha hok
            go_wp2
            go_roundw
            case rel =>
              refine ⟨k + 1, by omega, by go_num, hide ?_, hide (hB.out.alloc hsz _)⟩
              have := World.ownsRow.alloc hO.out (.cells #[.int .i64 a.tick, .int .i64 a.thread, .int .i64 a.kind, .int .i64 a.at_, .int .u64 a.old, .int .u64 a.now] 39)
              have e : wrL l ad (k + 1) = wrL l ad k := by rw [HS.out, HOK.out]; simp
              rw [e]
              exact this
            case measure => first | (simp [intOf]; done) | (simp [intOf]; omega)
          · have e3 : (a.now != a.old) = true := by simp [p3]
            have hok : wrOk a ad = true := by simp [wrOk, p1, p3]
            clear p1 p2 p3
            have HS := hide (wrL_succ (ad := ad) ha)
            have HOK := hide hok
            clear ha hok
            go_wp2_with (first | (at_builtin; refine wpList_append_own_at _ rfl _ _ 22 rfl w.heap.size 3 i0 (.int .i64 0) 1 8 Tryz.underlying22 hi hx0 hx1 hx2 rfl (by decide) _ (wrL l ad k).length ((wrL l ad k).map (Value.int .i64)) rfl ((World.ownsRow.alloc (World.ownsRow.alloc hO.out _) _)) ⟨wr.heap.size + 1, 0, none⟩ 1 1 [.int .i64 a.thread] rfl rfl (by have hs1 : (wr.alloc (.cells #[.int .i64 a.tick, .int .i64 a.thread, .int .i64 a.kind, .int .i64 a.at_, .int .u64 a.old, .int .u64 a.now] 39)).heap.size = wr.heap.size + 1 := (by simp); rw [← hs1]; exact cell_one_new _ _ _) (by simp [Value.oneCell']) (by unfold maxLen; omega) (by omega) (by simp; omega) ?_; intro v7 w7 hown7 hgrow7 _ _; obtain ⟨A7, c7, rfl⟩ := own_slice hown7) | fail)
            have hB7 := ((hB.out.alloc hsz (.cells #[.int .i64 a.tick, .int .i64 a.thread, .int .i64 a.kind, .int .i64 a.at_, .int .u64 a.old, .int .u64 a.now] 39)).alloc (by simp; omega) (.cells #[.int .i64 a.thread] 3)).grown hgrow7 (by simp; omega) (fun j hj => (World.ownsRow.lt hO.out j hj).1)
            have hO7 : IOwn w7 w.heap.size (.slice A7 ((wrL l ad k).length + 1) c7) (wrL l ad (k + 1)).length (wrL l ad (k + 1)) := by
              rw [HS.out, if_pos HOK.out, IOwn, List.length_append, List.map_append]
              exact hown7
            have hle : (wrL l ad (k + 1)).length = (wrL l ad k).length + 1 := by rw [HS.out, if_pos HOK.out, List.length_append]; rfl
            rw [← hle] at hO7
            go_roundw
            case rel => exact ⟨k + 1, by omega, by go_num, hide (by rw [← hle]; exact hO7), hide hB7⟩
            case measure => first | (simp [intOf]; done) | (simp [intOf]; omega)
      · have e1 : (a.at_ == ad) = false := by simp [p1]
        have hok : wrOk a ad = false := by simp [wrOk, p1]
        clear p1
        have HS := hide (wrL_succ (ad := ad) ha)
        have HOK := hide hok
        clear ha hok
        go_wp2
        go_roundw
        case rel =>
          refine ⟨k + 1, by omega, by go_num, hide ?_, hide (hB.out.alloc hsz _)⟩
          have := World.ownsRow.alloc hO.out (.cells #[.int .i64 a.tick, .int .i64 a.thread, .int .i64 a.kind, .int .i64 a.at_, .int .u64 a.old, .int .u64 a.now] 39)
          have e : wrL l ad (k + 1) = wrL l ad k := by rw [HS.out, HOK.out]; simp
          rw [e]
          exact this
        case measure => first | (simp [intOf]; done) | (simp [intOf]; omega)
    · obtain rfl : k = l.length := by omega
      have N1 := sortW hO.out (by omega)
      have hvb := fun j hj => (World.ownsRow.lt hO.out j hj).1
      go_wp2_with fail
      refine N1.mono ?_
      rintro e w2 ⟨rfl, ho2, hg2⟩
      have N2 := compactW ho2 (by rw [srt_len]; omega)
      have hB2 := hB.out.grown hg2 hB.out.size hvb
      have HB2 := hide hB2
      have HV := hide hvb
      clear N1 ho2 hg2 hvb hB2
      go_wp2_with fail
      refine N2.mono ?_
      rintro e w3 ⟨⟨u', rfl, hs3⟩, hg3⟩
      have HS3 := hide hs3
      have HB3 := hide (HB2.out.grown hg3 HB2.out.size HV.out)
      clear N2 hs3 hg3
      go_wp2
      go_ret
      exact ⟨_, rfl, HS3.out, HB3.out⟩
end Go.Proofs.YtfghmlpjbedomaaGreat
