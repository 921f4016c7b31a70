/- The document's answer about ticks: Ticks (chapter 36). Under way. -/
import Derived.Test.YtmiimpmfkjcjlaaCu9
import Derived.Deep.OwnRows
namespace Go.Proofs.Ytmiimpmfkjcjlaa
open Go.RowKit

def callI (l : List Tk) : List Int := l.map fun t => (t.call : Int)
theorem tickS_fst (cs : List Cl) (es : List Ev) (fin : List Bool) (out : List Tk) (p : Int) : tickS cs es (fin, out) p = match nowF cs fin p with
    | none => (fin, out)
    | some i => (if lastT es i (out.length + 1) then fin.set i true else fin, out ++ [⟨p, i, firstT es i (out.length + 1), lastT es i (out.length + 1)⟩]) := rfl
theorem info_bool : (Try.prog.info? 4).map (fun i => (i.zero, i.size, i.bytes)) = some (some (.bool false), 1, 1) := by kernel_rfl
def finC (fin : List Bool) : Array Value := (fin.map Value.bool).toArray

theorem made_bool (m : Nat) : madeCells #[.bool false] m = finC (List.replicate m false) := by
  unfold madeCells finC
  apply Array.ext
  · simp
  · intro i h1 h2
    simp [Nat.mod_one]

theorem fin_sl {w : World} {g m : Nat} {fin : List Bool} (h : w.heap[g]? = some (.cells (finC fin) 4 (0, 0))) (hl : fin.length = m) (hm : m ≤ 1000) : SlB w (.slice (some ⟨g, 0, none⟩) m m) fin := by
  have := Sl.of_block (enc := bEnc) (sz := 1) (c := m) (xs := fin) h (by omega) (by unfold maxLen; omega) (fun k x hx j u hu => by
    rcases j with _ | j
    · cases hu
      unfold finC
      simp [hx]
    · cases hu)
  rw [hl] at this
  exact this
theorem fin_set {w : World} {g i : Nat} {fin : List Bool} (h : w.heap[g]? = some (.cells (finC fin) 4 (0, 0))) : (w.setCell ⟨g, i, none⟩ (.bool true)).heap[g]? = some (.cells (finC (fin.set i true)) 4 (0, 0)) := by
  simp [World.setCell, Array.getElem?_modify, h, finC, List.map_set]

theorem evIx_cases (es : List Ev) (c : Int) : (evIx es c = -1 ∧ evAt es c = none) ∨ ∃ (k : Nat) (y : Ev), es[k]? = some y ∧ evIx es c = k ∧ evAt es c = some y := by
  rcases h : es.findIdx? (fun e => decide (e.call = c)) with _ | k
  · refine Or.inl ⟨by unfold evIx; rw [h], ?_⟩
    unfold evAt
    rw [List.find?_eq_bind_findIdx?_getElem?, h]
    rfl
  · have hk := List.findIdx?_eq_some_iff_getElem.1 h
    obtain ⟨hk, _⟩ := hk
    refine Or.inr ⟨k, es[k], List.getElem?_eq_getElem hk, by unfold evIx; rw [h], ?_⟩
    unfold evAt
    rw [List.find?_eq_bind_findIdx?_getElem?, h]
    exact List.getElem?_eq_getElem hk

set_option maxRecDepth 100000 in
set_option maxHeartbeats 4000000 in
theorem refTicks36 (A Ae Ap : Option Addr) (m c me ce mp cp : Nat) (cs : List Cl) (es : List Ev) (picks : List Int) (w : World) (h : SlCl w (.slice A m c) cs) (hm : cs.length = m)
    (he : SlEv w (.slice Ae me ce) es) (hme : es.length = me) (hp : SlI w (.slice Ap mp cp) picks) (hmp : picks.length = mp) (hm1 : m ≤ 1000) (hp1 : mp ≤ 65536) :
    Calls Try.prog 9 #[.slice A m c, .slice Ae me ce, .slice Ap mp cp] w fun e w' => ∃ v, e = .returned v ∧ IOwn w' w.heap.size v (tickF cs es picks).2.length (callI (tickF cs es picks).2) ∧ Below w.heap.size w w' := by
  have hm63 : (m : Int) ≤ 1000 := by omega
  have hp63 : (mp : Int) ≤ 65536 := by omega
  have hmk : ∀ W, (Instr.makeSlice 63 (.int .i64 (m : Int)) (.int .i64 (m : Int))).run Try.prog W = .ok (.slice (some ⟨W.heap.size, 0, none⟩) m m) (W.alloc (.cells (madeCells #[.bool false] m) 4)) :=
    fun W => run_make_row' (P := Try.prog) 63 4 (.bool false) 1 Try.underlying63 info_bool rfl .i64 .i64 m (by omega) (by omega) W
  have HH := hide h
  have HE := hide he
  have HP := hide hp
  have HM := hide hm
  have HME := hide hme
  have HMP := hide hmp
  clear h he hp hm hme hmp
  go_enter Try.func9, Try.ntmps9
  go_wp2
  go_loopw [8, 17] (fun vo i wr => ∃ (k : Nat) (fin : List Bool) (out : List Tk), k ≤ mp ∧ i = .int .i64 k ∧ Hid (tickF cs es (picks.take k) = (fin, out)) ∧ Hid (wr.heap[w.heap.size]? = some (.cells (finC fin) 4 (0, 0))) ∧
    Hid (IOwn wr (w.heap.size + 1) vo out.length (callI out)) ∧ Hid (Below w.heap.size w wr) ∧ w.heap.size + 1 ≤ wr.heap.size) (fun _ i _ => mp - (intOf i).toNat)
  case atStart => exact ⟨0, _, [], Nat.zero_le _, rfl, hide rfl, hide (by rw [heap_alloc_new, made_bool, HM.out]), hide (World.ownsRow_nil _ _ _ _), hide ((Below.refl _ w).alloc (Nat.le_refl _) _), by simp⟩
  case round =>
    obtain ⟨k, fin, out, hk, rfl, hst, hF, hO, hB, hsz⟩ := hrel
    by_cases hlt : k < mp
    · obtain ⟨x, hxk⟩ : ∃ x, picks[k]? = some x := ⟨_, List.getElem?_eq_getElem (by have := HMP.out; omega)⟩
      obtain ⟨A', c', e, _, _, h3⟩ := HP.out.below hB.out (Nat.le_refl _)
      obtain ⟨bb, oo, e', hbb, hc⟩ := h3 k x hxk
      rw [HMP.out] at e
      cases e
      cases e'
      have c0 := nt_cell hc
      simp only [Nat.mul_one] at c0
      have HK := hide hxk
      clear h3 hc hxk
      have hfl : fin.length = m := by have h0 := (tickF_len cs es (picks.take k)).1; rw [hst.out] at h0; exact h0.trans HM.out
      have N1 := refNow05 A (some ⟨w.heap.size, 0, none⟩) m c m cs fin x wr (HH.out.below hB.out (Nat.le_refl _)) HM.out (fin_sl hF.out hfl hm1) hfl
      rcases hnow : nowF cs fin x with _ | i
      · have hv : nowV cs fin x = -1 := by unfold nowV; rw [hnow]
        rw [hv] at N1
        have hst1 : Hid (tickF cs es (picks.take (k + 1)) = (fin, out)) := hide (by rw [tickF_succ HK.out, hst.out, tickS_fst, hnow])
        clear hnow hv
        go_wp2_with fail
        refine N1.mono ?_
        rintro e w3 ⟨rfl, rfl⟩
        go_wp2
        go_roundw
        case rel => exact ⟨k + 1, fin, out, by omega, by go_num, hst1, hF, hO, hB, hsz⟩
        case measure => first | (simp [intOf]; done) | (simp [intOf]; omega)
      · have hv : nowV cs fin x = (i : Int) := by unfold nowV; rw [hnow]
        have hi := (nowF_some hnow).1
        rw [HM.out] at hi
        rw [hv] at N1
        have hst1 : tickF cs es (picks.take (k + 1)) = (if lastT es i (out.length + 1) then fin.set i true else fin, out ++ [⟨x, i, firstT es i (out.length + 1), lastT es i (out.length + 1)⟩]) := by rw [tickF_succ HK.out, hst.out, tickS_fst, hnow]
        have hlen : out.length ≤ 65536 := by
          have := (tickF_len cs es (picks.take k)).2
          rw [hst.out] at this
          simp only [List.length_take] at this
          omega
        have hlen' : (out.length : Int) ≤ 65536 := by omega
        have di : decide ((i : Int) < 0) = false := by simp
        obtain ⟨j0, hj, hj0, hj1, hj2⟩ := info_parts info_int
        obtain ⟨vA, vc, rfl⟩ := own_slice hO.out
        clear hnow hv
        go_wp2_with fail
        refine N1.mono ?_
        rintro e w3 ⟨rfl, rfl⟩
        go_wp2_with (at_builtin; refine wpList_append_own_at _ rfl _ _ 24 rfl (w.heap.size + 1) 3 j0 (.int .i64 0) 1 8 Try.underlying24 hj hj0 hj1 hj2 rfl (by decide) _ _ _ rfl (World.ownsRow.alloc hO.out _) ⟨w3.heap.size, 0, none⟩ 1 1 [.int .i64 i] rfl rfl (by intro j u hu; rcases j with _ | j; (cases hu; go_simp); cases hu) (by simp [Value.oneCell']) (by unfold maxLen; omega) (by omega) (by simp; omega) ?_; intro v5 w5 hown5 hgrow _ _)
        have hK5 : Keep (fun j => j < w.heap.size + 1) w3 w5 := ((Keep.refl _ w3).alloc (fun k hk => by omega) _).grown hgrow (fun k hk => by simp; omega) (fun k hk hh => by have := (hO.out.lt k hk).1; omega)
        have hF5 : w5.heap[w.heap.size]? = some (.cells (finC fin) 4 (0, 0)) := (hK5.block _ (by omega)).trans hF.out
        have hB5 : Below w.heap.size w w5 := hB.out.trans (hK5.below (fun k hk => by omega))
        have hz5 := hK5.size
        obtain ⟨vA5, vc5, rfl⟩ := own_slice hown5
        have HO5 : Hid (∀ f l, IOwn w5 (w.heap.size + 1) (.slice vA5 (out.length + 1) vc5) (out ++ [Tk.mk x i f l]).length (callI (out ++ [Tk.mk x i f l]))) := hide (fun f l => by simpa [callI, IOwn] using hown5)
        have HF5 := hide hF5
        have HB5 := hide hB5
        clear hK5 hgrow hown5 hF5 hB5
        have N2 := refEvent36 Ae me ce es i w5 (HE.out.below HB5.out (Nat.le_refl _)) HME.out
        rcases evIx_cases es (i : Int) with ⟨h1, h2⟩ | ⟨kx, y, hy, h1, h2⟩
        · have hl : lastT es i (out.length + 1) = false := by unfold lastT; rw [evOf_at, h2]
          rw [hl] at hst1
          simp only [Bool.false_eq_true, if_false] at hst1
          have HST := hide hst1
          rw [h1] at N2
          clear h1 h2 hl hst1
          refine N2.mono ?_
          rintro e w6 ⟨rfl, rfl⟩
          go_wp2
          go_roundw
          case rel => exact ⟨k + 1, fin, _, by omega, by go_num, HST, HF5, hide (HO5.out _ _), HB5, by omega⟩
          case measure => first | (simp [intOf]; done) | (simp [intOf]; omega)
        · obtain ⟨L, hLl⟩ : ∃ L, (y.resp == (out.length : Int) + 1) = L := ⟨_, rfl⟩
          have hl : lastT es i (out.length + 1) = L := by unfold lastT; rw [evOf_at, h2, ← hLl]; simp; rfl
          rw [hl] at hst1
          have HST := hide hst1
          obtain ⟨A2, c2', e2, _, hme63, h4⟩ := HE.out.below HB5.out (Nat.le_refl _)
          obtain ⟨b2, o2, e2', hb2, hc2⟩ := h4 kx y hy
          have hkx := (List.getElem?_eq_some_iff.1 hy).1
          rw [HME.out] at e2 hkx
          cases e2
          cases e2'
          obtain ⟨y0, y1, y2, y3, y4, y5, y6, y7⟩ := ev_cells hc2
          have dk : decide ((0 : Int) ≤ (kx : Int)) = true := by simp
          have hkx63 : (me : Int) ≤ 9223372036854775807 := by have := HME.out; unfold maxLen at hme63; omega
          rw [h1] at N2
          have l0 : w5.cell? ⟨w.heap.size, i, none⟩ = some (.bool (fin[i]?.getD false)) := by
            rw [cell_of_row w5 _ i _ _ _ HF5.out]
            unfold finC
            simp [List.getElem?_eq_getElem (show i < fin.length by omega)]
          have lf : w5.frozen? ⟨w.heap.size, i, none⟩ = false := frozen_of_row w5 _ i _ _ HF5.out
          have lz : w.heap.size < w5.heap.size := by omega
          clear h1 h2 hl hst1 h4 hc2 hy hme63
          cases L
          · refine N2.mono ?_
            rintro e w6 ⟨rfl, rfl⟩
            go_wp2
            go_roundw
            case rel => exact ⟨k + 1, fin, _, by omega, by go_num, HST, HF5, hide (HO5.out _ _), HB5, by omega⟩
            case measure => first | (simp [intOf]; done) | (simp [intOf]; omega)
          · refine N2.mono ?_
            rintro e w6 ⟨rfl, rfl⟩
            go_wp2
            go_roundw
            case rel => exact ⟨k + 1, fin.set i true, _, by omega, by go_num, HST, hide (fin_set HF5.out), hide (owns_keepB (HO5.out _ _) ((Keep.refl (fun j => j ≠ w.heap.size) _).setCell (fun hh => hh rfl) _) (fun j hj _ => by omega)), hide (HB5.out.setCell (by simp) _), by simp; omega⟩
            case measure => first | (simp [intOf]; done) | (simp [intOf]; omega)
    · obtain rfl : k = mp := by omega
      have hfull : tickF cs es picks = (fin, out) := by have := hst.out; rwa [List.take_of_length_le (by have := HMP.out; omega)] at this
      have HFu := hide hfull
      clear hfull
      go_wp2
      go_ret
      refine ⟨_, rfl, ?_, hB.out⟩
      rw [HFu.out]
      exact owns_base hO.out (by omega)
end Go.Proofs.Ytmiimpmfkjcjlaa
