/- Words of a memory at first: table.Words. -/
import Derived.Test.YtdilnfnakhhhaaaGreatTb12
namespace Go.Proofs.YtdilnfnakhhhaaaGreat
open Go.RowKit

/-- The words behind the first k objects. -/
def wf (n : Int) (l : List Sp) (N : Nat) : Nat → List Int
  | 0 => List.replicate N 0
  | k + 1 => match l[k]? with
    | some s => if s.kind = 8 then setW (wf n l N k) n (psum (sizesT n l) k) else wf n l N k
    | none => wf n l N k
theorem wf_length (n : Int) (l : List Sp) (N : Nat) : ∀ k, (wf n l N k).length = N
  | 0 => by simp [wf]
  | k + 1 => by
    unfold wf
    split
    · split
      · rw [setW_length]; exact wf_length n l N k
      · exact wf_length n l N k
    · exact wf_length n l N k
theorem wf_queue {n : Int} {l : List Sp} {N k : Nat} {s : Sp} (h : l[k]? = some s) (hs : s.kind = 8) : wf n l N (k + 1) = setW (wf n l N k) n (psum (sizesT n l) k) := by
  show (match l[k]? with | some s => if s.kind = 8 then setW (wf n l N k) n (psum (sizesT n l) k) else wf n l N k | none => wf n l N k) = _
  rw [h]
  simp [hs]
theorem wf_other {n : Int} {l : List Sp} {N k : Nat} {s : Sp} (h : l[k]? = some s) (hs : ¬ s.kind = 8) : wf n l N (k + 1) = wf n l N k := by
  show (match l[k]? with | some s => if s.kind = 8 then setW (wf n l N k) n (psum (sizesT n l) k) else wf n l N k | none => wf n l N k) = _
  rw [h]
  simp [hs]
def wordsL (n : Int) (l : List Sp) : List Int := if layE n l = 0 then wf n l (layEnd n l).toNat l.length else []

theorem made_list (z : Value) (N : Nat) : (madeCells #[z] N).toList = List.replicate N z := by
  unfold madeCells
  apply List.ext_getElem?
  intro i
  simp [List.getElem?_replicate]
  by_cases h : i < N
  · simp [h, Nat.mod_one]
  · simp [h]

/-- What is known of objects that may be laid. -/
structure Laid (n : Int) (l : List Sp) : Prop where
  n1 : 1 ≤ n
  n2 : n ≤ 16
  len : l.length ≤ 8
  ok : ∀ s ∈ l, sizeE n s = 0
  sum : (sizesT n l).sum ≤ 65536
  fin : layEnd n l = (sizesT n l).sum
  beg : layL n l = begins (sizesT n l) l.length
theorem laid_of {n : Int} {l : List Sp} (h : layE n l = 0) : Laid n l := by
  have h1 : 1 ≤ n ∧ n ≤ 16 := by
    by_cases h1 : 1 ≤ n ∧ n ≤ 16
    · exact h1
    · unfold layE at h; rw [if_pos h1] at h; cases h
  have h2 : l.length ≤ 8 := by
    by_cases h2 : 8 < l.length
    · unfold layE at h; rw [if_neg (by omega), if_pos h2] at h; cases h
    · omega
  have h3 : firstE n l = 0 := by
    by_cases h3 : firstE n l = 0
    · exact h3
    · unfold layE at h; rw [if_neg (by omega), if_neg (by omega), if_neg h3] at h; exact absurd h h3
  have h4 : regE (sizesT n l) = 0 := by unfold layE at h; rw [if_neg (by omega), if_neg (by omega), if_pos h3] at h; exact h
  have h5 : (sizesT n l).sum ≤ 65536 := by
    by_cases h5 : (sizesT n l).sum ≤ 65536
    · exact h5
    · unfold regE at h4; rw [if_neg h5] at h4; cases h4
  refine ⟨h1.1, h1.2, h2, firstE_all h3, h5, ?_, ?_⟩
  · unfold layEnd; rw [if_pos h]; unfold regEnd; rw [if_pos h5]
  · unfold layL; rw [if_pos h]; unfold regL; rw [if_pos h5]; simp [sizesT]
theorem sizesT_get {n : Int} {l : List Sp} {k : Nat} {s : Sp} (h : l[k]? = some s) : (sizesT n l)[k]? = some (sizeT n s.kind s.p s.q) := by unfold sizesT; rw [List.getElem?_map, h]; rfl
theorem Laid.nonneg {n : Int} {l : List Sp} (h : Laid n l) : ∀ x ∈ sizesT n l, 0 ≤ x := by
  intro x hx
  obtain ⟨s, hs, rfl⟩ := List.mem_map.1 hx
  have := sizeT_bd (h.ok s hs)
  omega
theorem Laid.room {n : Int} {l : List Sp} (h : Laid n l) {k : Nat} {s : Sp} (hk : l[k]? = some s) : 0 ≤ psum (sizesT n l) k ∧ psum (sizesT n l) k + sizeT n s.kind s.p s.q ≤ (sizesT n l).sum := by
  refine ⟨psum_nonneg h.nonneg k, ?_⟩
  rw [← psum_succ (sizesT_get hk), ← psum_all]
  exact psum_mono h.nonneg (by have := (List.getElem?_eq_some_iff.1 hk).1; simp [sizesT]; omega)
theorem queue_size {n : Int} {s : Sp} (hs : s.kind = 8) (h : sizeE n s = 0) : (1 ≤ s.p ∧ s.p ≤ 32) ∧ n + 5 < sizeT n s.kind s.p s.q := by
  obtain ⟨⟨h1, h2⟩, _, hr⟩ := sizeE_zero h
  rw [hs] at hr ⊢
  simp [rightT] at hr
  refine ⟨by omega, ?_⟩
  have := Int.mul_le_mul h1 hr.1 (by decide) (show 0 ≤ n by omega)
  simp [sizeT]
  omega
theorem begins_get (xs : List Int) (m k : Nat) (h : k < m) : (begins xs m)[k]? = some (psum xs k) := by unfold begins; rw [List.getElem?_map, List.getElem?_range h]; rfl

def WordsPost (n : Int) (l : List Sp) (w : World) (e : Ending) (w' : World) : Prop :=
  ∃ u, e = .returned (.tuple #[u, .int .i64 (layE n l)]) ∧ SlW w' u (wordsL n l) ∧ Below w.heap.size w w'

set_option maxRecDepth 100000 in
set_option maxHeartbeats 4000000 in
theorem twords_any (n : Int) (A : Option Addr) (m c : Nat) (l : List Sp) (w : World) (h : SlSp w (.slice A m c) l) (hm : l.length = m) :
    Calls Tryz.prog 7 #[.int .i64 n, .slice A m c] w (WordsPost n l w) := by
  have N0 := fun W h => tlay_any n A m c l W h hm
  unfold LayPost at N0
  by_cases hE : layE n l = 0
  · have hL := laid_of hE
    have hm8 : m ≤ 8 := by rw [← hm]; exact hL.len
    obtain ⟨N, hN⟩ : ∃ N : Nat, (sizesT n l).sum = N := ⟨(sizesT n l).sum.toNat, by have := psum_nonneg hL.nonneg (sizesT n l).length; rw [psum_all] at this; omega⟩
    have hN1 : N ≤ 65536 := by have := hL.sum; omega
    rw [hE, hL.fin, hL.beg, hN, hm] at N0
    have hwl : wordsL n l = wf n l N m := by unfold wordsL; rw [if_pos hE, hL.fin, hN, Int.toNat_natCast, hm]
    have hmk : ∀ W, (Instr.makeSlice 27 (.int .i64 (N : Int)) (.int .i64 (N : Int))).run Tryz.prog W = .ok (.slice (some ⟨W.heap.size, 0, none⟩) N N) (W.alloc (.cells (madeCells #[.int .u64 0] N) 53)) :=
      fun W => run_make_row' (P := Tryz.prog) 27 53 (.int .u64 0) 8 Tryz.underlying27 info_word rfl .i64 .i64 N (by omega) (by omega) W
    have HE := hide hE
    have HL := hide hL
    have HN := hide hN
    have HM := hide hm
    have HWL := hide hwl
    have HH := hide h
    have hm0 : (m : Int) ≤ 8 := by omega
    clear hE hL hN hm hwl
    go_enter Tryz.func7, Tryz.ntmps7
    go_wp2_with fail
    refine (N0 _ h).mono ?_
    rintro e w1 ⟨u, rfl, hs1, hb1⟩
    obtain ⟨Au, cu, rfl, _, _, h3u⟩ := hs1
    have HU := hide h3u
    have HB1 := hide hb1
    have own0 : Hid (UOwn (w1.alloc (.cells (madeCells #[.int .u64 0] N) 53)) w1.heap.size (.slice (some ⟨w1.heap.size, 0, none⟩) N N) N (wf n l N 0)) := by
      have := World.ownsRow_lit (base := w1.heap.size) (e := 53) (size := 1) w1 (madeCells #[.int .u64 0] N) N (Nat.le_refl _) (by unfold maxLen; omega) (by simp [madeCells])
      rw [made_list] at this
      show UOwn _ _ _ _ _
      unfold UOwn wf
      rw [List.map_replicate]
      exact this
    rw [begins_length]
    clear N0 h h3u hb1
    go_wp2
    go_loopw [26] (fun i wr => ∃ (k : Nat), k ≤ m ∧ i = .int .i64 k ∧ Hid (UOwn wr w1.heap.size (.slice (some ⟨w1.heap.size, 0, none⟩) N N) N (wf n l N k)) ∧ Hid (Below w1.heap.size w1 wr)) (fun i _ => m - (intOf i).toNat)
    case atStart => exact ⟨0, Nat.zero_le _, rfl, own0, hide ((Below.refl _ _).alloc (Nat.le_refl _) _)⟩
    case round =>
      obtain ⟨k, hk, rfl, hO, hB⟩ := hrel
      by_cases hlt : k < m
      · obtain ⟨s, hsk⟩ : ∃ s, l[k]? = some s := ⟨_, List.getElem?_eq_getElem (by have := HM.out; omega)⟩
        have hgz := (hO.out.lt w1.heap.size rfl).2
        obtain ⟨A', c', e, _, _, h3⟩ := HH.out
        obtain ⟨b, oo, e', hb0, hc0⟩ := h3 k s hsk
        rw [HM.out] at e
        cases e
        cases e'
        have hbw : b < w1.heap.size := Nat.lt_of_lt_of_le hb0 HB1.out.size
        have hc := (hc0.of_block (HB1.out.block b hb0)).of_block (hB.out.block b hbw)
        have hb : b < wr.heap.size := by omega
        obtain ⟨c0, c1, c2⟩ := spec_cells hc
        have q0 : (0 : Int) ≤ (k : Int) := by omega
        have q1 : (k : Int) < (m : Int) := by omega
        have HK := hide hsk
        by_cases hq : s.kind = 8
        · have hroom := HL.out.room hsk
          have hqs := queue_size hq (HL.out.ok s (List.mem_of_getElem? hsk))
          have hL := HL.out
          have hn1 := hL.n1
          have hn2 := hL.n2
          obtain ⟨bn, hbn⟩ : ∃ bn : Nat, psum (sizesT n l) k = bn := ⟨(psum (sizesT n l) k).toNat, by omega⟩
          rw [hbn, HN.out] at hroom
          obtain ⟨bu, ou, eu, hbu, hcu⟩ := HU.out k bn (by rw [begins_get _ _ _ hlt, hbn])
          cases eu
          have d0 := nt_cell (hcu.of_block (hB.out.block bu hbu))
          simp only [Nat.mul_one] at d0
          have hbu' : bu < wr.heap.size := by omega
          have HS : Hid (wf n l N (k + 1) = setW (wf n l N k) n bn) := by show _ = _; rw [wf_queue hsk hq, hbn]
          have NI := fun W ho => queueInit w1.heap.size w1.heap.size N (wf n l N k) n s.p bn W ho hN1 hn1 hn2 hqs.1.1 hqs.1.2 (by omega)
          have HI := hide NI
          have e8 : (s.kind == 8) = true := by simp [hq]
          have hgk : w1.heap.size ≠ wr.heap.size := by omega
          have hgb : bu ≠ w1.heap.size := by omega
          have hsz := hB.out.size
          have q2 : (k : Int) < ((begins (sizesT n l) m).length : Int) := by rw [begins_length]; exact q1
          clear hroom hqs hL hbn hcu NI hq h3 hsk hc hc0 hn1 hn2
          go_wp2
          refine wp_region_seq (fun X => X.cell? ⟨bu, ou + k, none⟩ = some (.int .i64 bn) ∧ X.cell? ⟨wr.heap.size, 1, none⟩ = some (.int .i64 s.p)) (.take 0 <| .take 1 <| .take 2 <| .take 3 <| .take 4 <| .take 5 <| .take 6 <| .take 7 <| .run 8 <| .done) (by kernel_rfl) (by kernel_rfl) (by kernel_rfl) (by refine ⟨?_, ?_⟩ <;> go_simp) ?_
          repeat (refine seq_take (v := ?_) rfl (by rfl) ?_ ?_; rotate_left; (focus (intro wS hS; obtain ⟨s0, s1⟩ := hS; go_simp; exact rfl)); simp only [Act.put, List.setIfInBounds_toArray, List.set_cons_zero, List.set_cons_succ])
          (refine seq_run rfl (by rfl) (fun K hK => ?_); go_simp)
          refine (HI.out _ (show UOwn (wr.alloc (.cells #[.int .i64 s.kind, .int .i64 s.p, .int .i64 s.q] 40)).drew w1.heap.size (.slice (some ⟨w1.heap.size, 0, none⟩) N N) N (wf n l N k) from World.ownsRow.alloc hO.out _) (by simp; omega)).mono ?_
          rintro e w5 ⟨rfl, ho5, hg5⟩
          have hB5 : Below w1.heap.size w1 w5 := (Below.drew (hB.out.alloc hsz _)).grown hg5 (by simp; omega) (fun j hj => by cases hj; exact Nat.le_refl _)
          have t0 : w5.cell? ⟨bu, ou + k, none⟩ = some (.int .i64 bn) := (World.cell?_of_block (w := (wr.alloc (.cells #[.int .i64 s.kind, .int .i64 s.p, .int .i64 s.q] 40)).drew) (a := ⟨bu, ou + k, none⟩) (hg5.block bu (by simp; omega) (fun e => hgb (Option.some.inj e)))).trans (Lib.cell?_alloc_some _ d0)
          have t1 : w5.cell? ⟨wr.heap.size, 1, none⟩ = some (.int .i64 s.p) := (World.cell?_of_block (w := (wr.alloc (.cells #[.int .i64 s.kind, .int .i64 s.p, .int .i64 s.q] 40)).drew) (a := ⟨wr.heap.size, 1, none⟩) (hg5.block wr.heap.size (by simp) (fun e => hgk (Option.some.inj e).symm))).trans (by go_simp)
          refine hK _ _ ⟨t0, t1⟩ ?_
          clear hK K
          have HO5 := hide ho5
          have HB5 := hide hB5
          clear ho5 hB5 hg5 t0 t1
          refine seq_nil ?_
          go_wp2
          go_roundw
          case rel => exact ⟨k + 1, by omega, by go_num, hide (by rw [HS.out]; exact HO5.out), HB5⟩
          case measure => first | (simp [intOf]; done) | (simp [intOf]; omega)
        · have e8 : (s.kind == 8) = false := by simpa using hq
          have HS : Hid (wf n l N (k + 1) = wf n l N k) := wf_other hsk hq
          have hsz := hB.out.size
          clear hq h3 hsk hc hc0
          go_wp2
          go_roundw
          case rel => exact ⟨k + 1, by omega, by go_num, hide (by rw [HS.out]; exact World.ownsRow.alloc hO.out _), hide (hB.out.alloc hsz _)⟩
          case measure => first | (simp [intOf]; done) | (simp [intOf]; omega)
      · obtain rfl : k = m := by omega
        go_wp2
        go_ret2
        refine ⟨.slice (some ⟨w1.heap.size, 0, none⟩) N N, by rw [HE.out]; rfl, ?_, HB1.out.trans (hB.out.mono HB1.out.size)⟩
        rw [HWL.out]
        have hl := wf_length n l N k
        refine wrow_sl (B := w1.heap.size) ?_ (by rw [hl]; unfold maxLen; omega)
        unfold WRow
        rw [hl]
        exact hO.out
  · have hw0 : wordsL n l = [] := by unfold wordsL; rw [if_neg hE]
    have HW := hide hw0
    obtain ⟨E, hEE⟩ : ∃ E, layE n l = E := ⟨_, rfl⟩
    rw [hEE] at N0 hE
    have HE := hide hEE
    have he : (E != 0) = true := by simpa using hE
    generalize layEnd n l = EN at N0
    clear hw0 hEE hm
    go_enter Tryz.func7, Tryz.ntmps7
    go_wp2_with fail
    refine (N0 _ h).mono ?_
    rintro e w1 ⟨u, rfl, hs1, hb1⟩
    go_wp2
    go_ret2
    refine ⟨.slice none 0 0, by rw [HE.out]; rfl, ?_, hb1⟩
    rw [HW.out]
    exact ⟨none, 0, rfl, Nat.le_refl _, Nat.zero_le _, fun k x hx => by simp at hx⟩
end Go.Proofs.YtdilnfnakhhhaaaGreat
