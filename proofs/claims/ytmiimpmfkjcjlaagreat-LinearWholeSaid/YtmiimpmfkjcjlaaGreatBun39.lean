import Derived.Test.YtmiimpmfkjcjlaaGreatBun38
import Derived.Test.YtmiimpmfkjcjlaaGreatChecked
import Derived.Test.YtmiimpmfkjcjlaaGreatRows
import Derived.Test.YtmiimpmfkjcjlaaGreatBun1
import Derived.Deep.Slices
import Derived.Deep.Fields
import Derived.ChangeSame
import Derived.OpenShut
import Derived.ProofKit
import Derived.Test.YtmiimpmfkjcjlaaGreatBun2
import Derived.Test.YtmiimpmfkjcjlaaGreatBun30
namespace Go.Proofs.YtmiimpmfkjcjlaaGreat
open Go.RowKit
structure L28 (W : World) (n : Int) (S C P L : Value) (specs : List Sp) (calls : List Cl) (es : List Ev) (ls ky : Nat → List Int) : Prop where
  ctx : PwCtx W S C L specs calls es ls ky
  pk : ∃ a b c, P = .slice a b c ∧ b ≤ maxLen
  word : ∀ c ∈ calls, U64 c.a ∧ U64 c.b ∧ U64 c.c
  wf : ∀ e ∈ es, EvWf e
  kw : ∀ (k : Nat) (e : Ev), es[k]? = some e → ∀ x ∈ ky k, (Lit.int .i64 x).wf = true
set_option maxRecDepth 100000 in
set_option maxHeartbeats 4000000 in
theorem law28h (n ticks : Int) (S C P L : Value) (specs : List Sp) (calls : List Cl) (es : List Ev) (ls ky : Nat → List Int) (w : World) (h : L28 w n S C P L specs calls es ls ky) :
    Calls Tryz.prog 7 #[.agg #[.int .i64 n, S, C, P, L, .int .i64 ticks]] w fun e w' => e = .returned (.bool true) ∧ Below w.heap.size w w' := by
  obtain ⟨Pa, Pb, Pc, rfl, hPb⟩ := h.pk
  obtain ⟨Ae, ce, rfl, ge1, ge2, ge3⟩ := id h.ctx.key.evs
  obtain ⟨As, cs, rfl, gs1, gs2, gs3⟩ := id h.ctx.specs
  obtain ⟨Ac, cc, rfl, gc1, gc2, gc3⟩ := id h.ctx.calls
  have NM := fun W (hW : SlEv W (.slice Ae es.length ce) es) => many28 n ticks As Ac Pa specs.length cs calls.length cc Pb Pc (.slice Ae es.length ce) es W (by omega) (by omega) hPb hW
  have NT := fun W => twice_any W
  have HX := hide h
  obtain ⟨W1, hW1⟩ : ∃ W, W = w.alloc (.cells #[.int .i64 n, .slice As specs.length cs, .slice Ac calls.length cc, .slice Pa Pb Pc, .slice Ae es.length ce, .int .i64 ticks] 73) := ⟨_, rfl⟩
  have HB1 : Hid (Below w.heap.size w W1) := hide (by rw [hW1]; exact (Below.refl _ _).alloc (Nat.le_refl _) _)
  have r0 : W1.cell? ⟨w.heap.size, 0, none⟩ = some (.int .i64 n) := by rw [hW1]; exact cell_of_row _ _ 0 _ _ _ (heap_alloc_new _ _)
  have r1 : W1.cell? ⟨w.heap.size, 1, none⟩ = some (.slice As specs.length cs) := by rw [hW1]; exact cell_of_row _ _ 1 _ _ _ (heap_alloc_new _ _)
  have r2 : W1.cell? ⟨w.heap.size, 2, none⟩ = some (.slice Ac calls.length cc) := by rw [hW1]; exact cell_of_row _ _ 2 _ _ _ (heap_alloc_new _ _)
  have r3 : W1.cell? ⟨w.heap.size, 3, none⟩ = some (.slice Pa Pb Pc) := by rw [hW1]; exact cell_of_row _ _ 3 _ _ _ (heap_alloc_new _ _)
  have r4 : W1.cell? ⟨w.heap.size, 4, none⟩ = some (.slice Ae es.length ce) := by rw [hW1]; exact cell_of_row _ _ 4 _ _ _ (heap_alloc_new _ _)
  have r5 : W1.cell? ⟨w.heap.size, 5, none⟩ = some (.int .i64 ticks) := by rw [hW1]; exact cell_of_row _ _ 5 _ _ _ (heap_alloc_new _ _)
  have rz : w.heap.size < W1.heap.size := by rw [hW1]; simp
  clear h ge3 gs3 gc3 hPb
  go_enter Tryz.func7, Tryz.ntmps7
  go_wp2_with fail
  rw [← hW1]
  clear hW1
  refine (NM _ (HX.out.ctx.key.evs.below HB1.out (Nat.le_refl _))).mono ?_
  rintro e w2 ⟨B, rfl, hBe, hb2⟩
  have HB2 := hide (HB1.out.trans (hb2.mono HB1.out.size))
  replace r0 := (hb2.cell (p := ⟨w.heap.size, 0, none⟩) rz).trans r0
  replace r1 := (hb2.cell (p := ⟨w.heap.size, 1, none⟩) rz).trans r1
  replace r2 := (hb2.cell (p := ⟨w.heap.size, 2, none⟩) rz).trans r2
  replace r3 := (hb2.cell (p := ⟨w.heap.size, 3, none⟩) rz).trans r3
  replace r4 := (hb2.cell (p := ⟨w.heap.size, 4, none⟩) rz).trans r4
  replace r5 := (hb2.cell (p := ⟨w.heap.size, 5, none⟩) rz).trans r5
  replace rz : w.heap.size < w2.heap.size := Nat.lt_of_lt_of_le rz hb2.size
  clear hb2 NM
  cases B
  · have hm : es.length ≤ 100 := hBe rfl
    have NW := fun W (hW : Below w.heap.size w W) => linWhole_any n ticks (.slice As specs.length cs) (.slice Ac calls.length cc) (.slice Ae es.length ce) specs calls es ls ky none 0 0 0 0 0 0 0 0 W (HX.out.ctx.below hW) (by omega) HX.out.word HX.out.wf HX.out.kw
    have NL := fun W (hW : Below w.heap.size w W) => refLay_any n As specs.length cs specs W (HX.out.ctx.specs.below hW (Nat.le_refl _)) rfl
    have NP := fun (hl : layE n specs = 0) W (hW : Below w.heap.size w W) => right28_any n ticks (.slice As specs.length cs) (.slice Ac calls.length cc) (.slice Ae es.length ce) specs calls es ls ky none 0 0 0 0 0 0 0 0 W (HX.out.ctx.below hW) hl (by omega) HX.out.word HX.out.wf HX.out.kw
    unfold repV at NW NP
    unfold LHPost at NW
    have HNW := hide NW
    have HNL := hide NL
    have HNP := hide NP
    clear NW NL NP hBe hm
    go_upto_region 5 with fail
    obtain ⟨W3, hW3⟩ : ∃ W, W = (w2.alloc (.cells #[.int .i64 n, .slice As specs.length cs, .slice Ac calls.length cc, .slice Pa Pb Pc] 44)).alloc (.cells #[.slice Ae es.length ce, .slice none 0 0, .int .i64 0, .int .i64 0, .int .i64 0, .int .i64 0, .int .i64 0, .int .i64 ticks, .int .i64 0] 70) := ⟨_, rfl⟩
    have HB3 : Hid (Below w.heap.size w W3) := hide (by rw [hW3]; exact (HB2.out.alloc HB2.out.size _).alloc (by have := HB2.out.size; simp; omega) _)
    obtain ⟨a0, a1, a2, a3, az⟩ := cells4 (show W3.heap[w2.heap.size]? = some (.cells #[.int .i64 n, .slice As specs.length cs, .slice Ac calls.length cc, .slice Pa Pb Pc] 44 (0, 0)) from by rw [hW3]; exact (Below.heap_alloc _ _ _ (by simp)).trans (heap_alloc_new _ _))
    have hrep : W3.heap[w2.heap.size + 1]? = some (.cells #[.slice Ae es.length ce, .slice none 0 0, .int .i64 0, .int .i64 0, .int .i64 0, .int .i64 0, .int .i64 0, .int .i64 ticks, .int .i64 0] 70 (0, 0)) := by
      rw [hW3]
      have h := heap_alloc_new (w2.alloc (.cells #[.int .i64 n, .slice As specs.length cs, .slice Ac calls.length cc, .slice Pa Pb Pc] 44)) (.cells #[.slice Ae es.length ce, .slice none 0 0, .int .i64 0, .int .i64 0, .int .i64 0, .int .i64 0, .int .i64 0, .int .i64 ticks, .int .i64 0] 70)
      simpa using h
    have hrz := (Array.getElem?_eq_some_iff.1 hrep).1
    rw [← hW3]
    clear hW3 r0 r1 r2 r3 r4 r5
    have p0 : W3.cell? ⟨w2.heap.size + 1, 0, none⟩ = some (.slice Ae es.length ce) := cell_of_row _ _ 0 _ _ _ hrep
    have p1 : W3.cell? ⟨w2.heap.size + 1, 1, none⟩ = some (.slice none 0 0) := cell_of_row _ _ 1 _ _ _ hrep
    have p2 : W3.cell? ⟨w2.heap.size + 1, 2, none⟩ = some (.int .i64 0) := cell_of_row _ _ 2 _ _ _ hrep
    have p3 : W3.cell? ⟨w2.heap.size + 1, 3, none⟩ = some (.int .i64 0) := cell_of_row _ _ 3 _ _ _ hrep
    have p4 : W3.cell? ⟨w2.heap.size + 1, 4, none⟩ = some (.int .i64 0) := cell_of_row _ _ 4 _ _ _ hrep
    have p5 : W3.cell? ⟨w2.heap.size + 1, 5, none⟩ = some (.int .i64 0) := cell_of_row _ _ 5 _ _ _ hrep
    have p6 : W3.cell? ⟨w2.heap.size + 1, 6, none⟩ = some (.int .i64 0) := cell_of_row _ _ 6 _ _ _ hrep
    have p7 : W3.cell? ⟨w2.heap.size + 1, 7, none⟩ = some (.int .i64 ticks) := cell_of_row _ _ 7 _ _ _ hrep
    have p8 : W3.cell? ⟨w2.heap.size + 1, 8, none⟩ = some (.int .i64 0) := cell_of_row _ _ 8 _ _ _ hrep
    clear hrep
    by_cases hl : layE n specs = 0
    · have HNP2 := hide (HNP.out hl)
      have HL := hide hl
      rw [hl] at HNL
      clear hl HNP
      go_wp2_with fail
      refine (HNL.out _ HB3.out).mono ?_
      rintro e4 w4 ⟨rfl, hb4⟩
      have HB4 := hide (HB3.out.trans (hb4.mono HB3.out.size))
      replace a0 := (hb4.cell (p := ⟨w2.heap.size, 0, none⟩) az).trans a0
      replace a1 := (hb4.cell (p := ⟨w2.heap.size, 1, none⟩) az).trans a1
      replace a2 := (hb4.cell (p := ⟨w2.heap.size, 2, none⟩) az).trans a2
      replace p0 := (hb4.cell (p := ⟨w2.heap.size + 1, 0, none⟩) hrz).trans p0
      replace p1 := (hb4.cell (p := ⟨w2.heap.size + 1, 1, none⟩) hrz).trans p1
      replace p2 := (hb4.cell (p := ⟨w2.heap.size + 1, 2, none⟩) hrz).trans p2
      replace p3 := (hb4.cell (p := ⟨w2.heap.size + 1, 3, none⟩) hrz).trans p3
      replace p4 := (hb4.cell (p := ⟨w2.heap.size + 1, 4, none⟩) hrz).trans p4
      replace p5 := (hb4.cell (p := ⟨w2.heap.size + 1, 5, none⟩) hrz).trans p5
      replace p6 := (hb4.cell (p := ⟨w2.heap.size + 1, 6, none⟩) hrz).trans p6
      replace p7 := (hb4.cell (p := ⟨w2.heap.size + 1, 7, none⟩) hrz).trans p7
      replace p8 := (hb4.cell (p := ⟨w2.heap.size + 1, 8, none⟩) hrz).trans p8
      replace az : w2.heap.size < w4.heap.size := Nat.lt_of_lt_of_le az hb4.size
      replace hrz : w2.heap.size + 1 < w4.heap.size := Nat.lt_of_lt_of_le hrz hb4.size
      clear hb4 HNL
      go_wp2_with fail
      refine (HNP2.out _ HB4.out).mono ?_
      rintro e5 w5 ⟨R1, rfl, hR1, hb5⟩
      have HB5 := hide (HB4.out.trans (hb5.mono HB4.out.size))
      replace a0 := (hb5.cell (p := ⟨w2.heap.size, 0, none⟩) az).trans a0
      replace a1 := (hb5.cell (p := ⟨w2.heap.size, 1, none⟩) az).trans a1
      replace a2 := (hb5.cell (p := ⟨w2.heap.size, 2, none⟩) az).trans a2
      replace p0 := (hb5.cell (p := ⟨w2.heap.size + 1, 0, none⟩) hrz).trans p0
      replace p1 := (hb5.cell (p := ⟨w2.heap.size + 1, 1, none⟩) hrz).trans p1
      replace p2 := (hb5.cell (p := ⟨w2.heap.size + 1, 2, none⟩) hrz).trans p2
      replace p3 := (hb5.cell (p := ⟨w2.heap.size + 1, 3, none⟩) hrz).trans p3
      replace p4 := (hb5.cell (p := ⟨w2.heap.size + 1, 4, none⟩) hrz).trans p4
      replace p5 := (hb5.cell (p := ⟨w2.heap.size + 1, 5, none⟩) hrz).trans p5
      replace p6 := (hb5.cell (p := ⟨w2.heap.size + 1, 6, none⟩) hrz).trans p6
      replace p7 := (hb5.cell (p := ⟨w2.heap.size + 1, 7, none⟩) hrz).trans p7
      replace p8 := (hb5.cell (p := ⟨w2.heap.size + 1, 8, none⟩) hrz).trans p8
      replace az : w2.heap.size < w5.heap.size := Nat.lt_of_lt_of_le az hb5.size
      replace hrz : w2.heap.size + 1 < w5.heap.size := Nat.lt_of_lt_of_le hrz hb5.size
      have HR1 := hide hR1
      clear hb5 HNP2 hR1
      go_wp2_with fail
      refine (HNW.out _ HB5.out).mono ?_
      rintro e6 w6 ⟨R2, rfl, hR2, hb6⟩
      have HB6 := hide (HB5.out.trans (hb6.mono HB5.out.size))
      obtain rfl : R1 = R2 := by
        have h1 := HR1.out
        rw [Bool.eq_iff_iff, h1, hR2]
        exact ⟨fun h => ⟨HL.out, h⟩, fun h => h.2⟩
      clear hb6 hR2 HR1 HNW a0 a1 a2 p0 p1 p2 p3 p4 p5 p6 p7 p8
      cases R1
      · go_wp2_with fail
        refine (NT _).mono ?_
        rintro e9 w9 ⟨rfl, hb9⟩
        have HB9 := hide hb9
        clear hb9 NT
        go_wp2
        go_ret
        exact ⟨rfl, HB6.out.trans (HB9.out.mono HB6.out.size)⟩
      · go_wp2_with fail
        refine (NT _).mono ?_
        rintro e9 w9 ⟨rfl, hb9⟩
        have HB9 := hide hb9
        clear hb9 NT
        go_wp2
        go_ret
        exact ⟨rfl, HB6.out.trans (HB9.out.mono HB6.out.size)⟩
    · have g1 : (layE n specs == 0) = false := by simpa using hl
      have HL := hide hl
      clear hl HNP
      obtain ⟨LE, hLE⟩ : ∃ LE, layE n specs = LE := ⟨_, rfl⟩
      rw [hLE] at HNL g1
      clear hLE
      go_wp2_with fail
      refine (HNL.out _ HB3.out).mono ?_
      rintro e4 w4 ⟨rfl, hb4⟩
      have HB4 := hide (HB3.out.trans (hb4.mono HB3.out.size))
      replace a0 := (hb4.cell (p := ⟨w2.heap.size, 0, none⟩) az).trans a0
      replace a1 := (hb4.cell (p := ⟨w2.heap.size, 1, none⟩) az).trans a1
      replace a2 := (hb4.cell (p := ⟨w2.heap.size, 2, none⟩) az).trans a2
      replace p0 := (hb4.cell (p := ⟨w2.heap.size + 1, 0, none⟩) hrz).trans p0
      replace p1 := (hb4.cell (p := ⟨w2.heap.size + 1, 1, none⟩) hrz).trans p1
      replace p2 := (hb4.cell (p := ⟨w2.heap.size + 1, 2, none⟩) hrz).trans p2
      replace p3 := (hb4.cell (p := ⟨w2.heap.size + 1, 3, none⟩) hrz).trans p3
      replace p4 := (hb4.cell (p := ⟨w2.heap.size + 1, 4, none⟩) hrz).trans p4
      replace p5 := (hb4.cell (p := ⟨w2.heap.size + 1, 5, none⟩) hrz).trans p5
      replace p6 := (hb4.cell (p := ⟨w2.heap.size + 1, 6, none⟩) hrz).trans p6
      replace p7 := (hb4.cell (p := ⟨w2.heap.size + 1, 7, none⟩) hrz).trans p7
      replace p8 := (hb4.cell (p := ⟨w2.heap.size + 1, 8, none⟩) hrz).trans p8
      replace az : w2.heap.size < w4.heap.size := Nat.lt_of_lt_of_le az hb4.size
      replace hrz : w2.heap.size + 1 < w4.heap.size := Nat.lt_of_lt_of_le hrz hb4.size
      clear hb4 HNL
      go_wp2_with fail
      refine (HNW.out _ HB4.out).mono ?_
      rintro e6 w6 ⟨R2, rfl, hR2, hb6⟩
      have HB6 := hide (HB4.out.trans (hb6.mono HB4.out.size))
      obtain rfl : R2 = false := by
        rcases R2 with _ | _
        · rfl
        · exact absurd (hR2.1 rfl).1 HL.out
      clear hb6 hR2 HNW a0 a1 a2 p0 p1 p2 p3 p4 p5 p6 p7 p8
      go_wp2_with fail
      refine (NT _).mono ?_
      rintro e9 w9 ⟨rfl, hb9⟩
      have HB9 := hide hb9
      clear hb9 NT
      go_wp2
      go_ret
      exact ⟨rfl, HB6.out.trans (HB9.out.mono HB6.out.size)⟩
  · clear hBe
    go_wp2_with fail
    refine (NT _).mono ?_
    rintro e9 w9 ⟨rfl, hb9⟩
    have HB9 := hide hb9
    clear hb9 NT
    go_wp2
    go_ret
    exact ⟨rfl, HB2.out.trans (HB9.out.mono HB2.out.size)⟩
end Go.Proofs.YtmiimpmfkjcjlaaGreat

namespace Go.Proofs.YtmiimpmfkjcjlaaGreat
open Go.ChangeShapes Go.WideShapes Go.ChangeAt Go.RowKit Go.Deep
theorem Tryz.own : ownKnob Tryz.prog.godebug = none := by kernel_rfl
theorem Tryz.laidOut : laidOutB Tryz.prog = true := by kernel_rfl
section
variable {H : Type} {enc : TypeId × Value → H} {P : Program}
theorem post_of_below {f : Func} {s : ChangeSpec} {apart fresh handsOn again : Bool} {W W' : World} {args : Array Value} {v : Value} {ds gs : List (DataW H)} {before pa pv : List MemPlace}
    (hW : DataW.Whole enc P f.params.toList s.vars apart W args.toList ds gs before)
    (hres : ∀ (b : Nat) (sp : Nat → Bool) (hd : Bool), DataW.TrodAll enc P W' b sp hd f.resultTypes.toList (v.resultList f.resultTypes.size) (s.fn H (ds ++ gs)).results [])
    (hargs : ∀ sp : Nat → Bool, (∀ p ∈ before, sp p.block = true) → DataW.TrodAll enc P W' 0 sp true f.params.toList args.toList (s.fn H (ds ++ gs)).args pa)
    (hvars : ∀ sp : Nat → Bool, (∀ p ∈ before, sp p.block = true) → DataW.TrodVars enc P W' sp s.vars (s.fn H (ds ++ gs)).vars pv)
    (hps : before = pa ++ pv) (hb : Below W.heap.size W W')
    (hok : ∀ (j : Nat) (t : TypeId) (r : Value), f.resultTypes[j]? = some t → (v.resultList f.resultTypes.size)[j]? = some r → Value.okWide P W' .any 0 t r) :
    s.post enc P f apart fresh handsOn again W args v W' := by
  have hlt : ∀ p ∈ before, p.block < W.heap.size := fun p hp => hW.lt p hp
  have hold : ∀ p ∈ before, (fun b => decide (b < W.heap.size)) p.block = true := fun p hp => by simpa using hlt p hp
  refine ⟨ds, gs, before, [], pa, pv, hW, hres _ _ _, hargs _ hold, hvars _ hold, World.keptBut_mono (fun p hp => ⟨hp, ?_⟩) (hb.frame (· ∈ before)), fun _ => ?_⟩
  · rw [hps, List.mem_append] at hp
    exact Or.inr hp
  · obtain ⟨_, _, _, _, _, hz, hn⟩ := hW
    refine ⟨hok, _, _, ([] ++ pa) ++ pv, ⟨[] ++ pa, pv, trodAll_append (hargs _ (fun _ _ => rfl)) (hres _ _ _), hvars _ (fun _ _ => rfl), rfl, ?_, ?_⟩, ?_⟩
    · intro b off hp
      have hin : MemPlace.cell b off ∈ before := by rw [hps]; simpa using hp
      rw [hb.frozen (hlt _ hin)]
      exact hz b off hin
    · intro ha
      have := hn ha
      rw [hps] at this
      simpa using this
    · intro p hp _
      rw [hps]
      simpa using hp
theorem trodAll_stays (hl : laidOutB P = true) {W W' : World} (hb : Below W.heap.size W W') {sp : Nat → Bool} : ∀ {ts : List TypeId} {vs : List Value} {ds : List (DataW H)} {ps : List MemPlace},
    (∀ t ∈ ts, P.readableRec t = true ∧ t < P.types.size) → DataW.TrodAll enc P W 0 (fun _ => true) true ts vs ds ps → (∀ p ∈ ps, p.block < W.heap.size) → (∀ p ∈ ps, sp p.block = true) →
    DataW.TrodAll enc P W' 0 sp true ts vs ds ps
  | [], [], [], _, _, h, _, _ => h
  | t :: ts, v :: vs, d :: ds, ps, ht, h, hlt, hs => by
    obtain ⟨p, q, h1, h2, rfl⟩ := h
    obtain ⟨hr, hrow⟩ := ht t (by simp)
    exact ⟨p, q, WideElems.Trod_stays hl hr hrow h1 (fun x hx => hb.same (hlt x (by simp [hx]))) (fun x hx => hs x (by simp [hx])), trodAll_stays hl hb (fun t h => ht t (by simp [h])) h2 (fun p h => hlt p (by simp [h])) (fun p h => hs p (by simp [h])), rfl⟩
theorem read_slv {α : Type} (en : α → List Value) (sz : Nat) (good : α → Prop) {W : World} {t e : TypeId} {v : Value} {d : DataW H} {p : List MemPlace} (ht : P.underlying t = some (.slice e)) (hC : P.cellsOf e = sz)
    (hel : ∀ (n : Nat) (cs : List Value) (x : DataW H × List MemPlace), cs.length = sz → DataW.trod enc P W 0 (fun _ => true) true n e cs = some x → ∃ a, cs = en a ∧ good a)
    (hv : ∃ a0 len0 cap0, v = .slice a0 len0 cap0) (h : DataW.Trod enc P W 0 (fun _ => true) true t v d p) (hsz : 0 < sz) : ∃ xs : List α, Sl en sz W v xs ∧ (∀ x ∈ xs, good x) ∧ xs.length ≤ maxLen := by
  obtain ⟨a0, len0, cap0, rfl⟩ := hv
  obtain ⟨fuel, hf⟩ := h
  rcases open_slice ht hf with ⟨hcs, _⟩ | ⟨a, len, cap, m, n, D, Pl, hcs, _, hlc, hcm, hm, _, hi⟩
  · simp only [Value.cells] at hcs
    cases hcs
    exact ⟨[], ⟨none, 0, rfl, Nat.le_refl _, Nat.zero_le _, fun k x hx => by simp at hx⟩, by simp, Nat.zero_le _⟩
  · simp only [Value.cells] at hcs
    cases hcs
    simp only [if_true] at hm
    subst hm
    have hel' : ∀ i, i < len0 → ∃ x : α, (∀ j u, (en x)[j]? = some u → W.cell? ((a.add (i * sz)).add j) = some u) ∧ good x ∧ (en x).length = sz := by
      intro i him
      obtain ⟨cs', hc, ht'⟩ := hi i (by omega)
      rw [hC] at hc
      obtain ⟨_, hcl, hat⟩ := World.cells?_some hc
      obtain ⟨x, rfl, hg⟩ := hel n cs' _ hcl ht'
      refine ⟨x, fun j u hu => ?_, hg, hcl⟩
      have hj : j < (en x).length := (List.getElem?_eq_some_iff.1 hu).1
      exact (hat j (by omega)).trans hu
    have hx : ∃ xs : List α, xs.length = len0 ∧ ∀ (i : Nat) (x : α), xs[i]? = some x → (∀ j u, (en x)[j]? = some u → W.cell? ((a.add (i * sz)).add j) = some u) ∧ good x ∧ (en x).length = sz := by
      clear hi hf
      have : ∀ k, k ≤ len0 → ∃ xs : List α, xs.length = k ∧ ∀ (i : Nat) (x : α), xs[i]? = some x → (∀ j u, (en x)[j]? = some u → W.cell? ((a.add (i * sz)).add j) = some u) ∧ good x ∧ (en x).length = sz := by
        intro k
        induction k with
        | zero => intro _; exact ⟨[], rfl, by simp⟩
        | succ k ih =>
          intro hk
          obtain ⟨xs, hl, hxs⟩ := ih (by omega)
          obtain ⟨x, hx⟩ := hel' k (by omega)
          refine ⟨xs ++ [x], by simp [hl], fun i y hy => ?_⟩
          rw [List.getElem?_append] at hy
          split at hy
          · exact hxs i y hy
          · rename_i hge
            have hik : i = k := by
              have := (List.getElem?_eq_some_iff.1 hy).1
              simp at this; omega
            subst hik
            rw [hl] at hy; simp at hy; subst hy; exact hx
      exact this len0 (Nat.le_refl _)
    obtain ⟨xs, hl, hxs⟩ := hx
    refine ⟨xs, ⟨some a, m, by rw [hl], by omega, hcm, fun k x hk => ?_⟩, fun x hx => ?_, by omega⟩
    · obtain ⟨h1, _, h2⟩ := hxs k x hk
      have h0 : 0 < xs.length := by have := (List.getElem?_eq_some_iff.1 hk).1; omega
      obtain ⟨y, hy⟩ : ∃ y, xs[0]? = some y := ⟨_, List.getElem?_eq_getElem h0⟩
      obtain ⟨g1, _, g2⟩ := hxs 0 y hy
      have hu : ∃ u, (en y)[0]? = some u := ⟨_, List.getElem?_eq_getElem (by omega)⟩
      obtain ⟨u, hu⟩ := hu
      have hcell : W.cell? a = some u := by have := g1 0 u hu; simpa [Addr.add] using this
      have hspot : a.spot = none := by
        unfold World.cell? at hcell
        split at hcell
        · split at hcell
          · cases hcell
          · rename_i hs; simpa using hs
        · cases hcell
      have hblk := World.block_lt_of_cell? W a hcell
      obtain ⟨b, o, sp⟩ := a
      simp only at hspot
      subst hspot
      refine ⟨b, o, rfl, hblk, fun j u hu => ?_⟩
      have := h1 j u hu
      rw [← this]
      congr 1
      unfold Addr.add
      by_cases e1 : k * sz = 0 <;> by_cases e2 : j = 0 <;> simp [e1, e2, Nat.add_assoc]
    · obtain ⟨i, hi, rfl⟩ := List.getElem_of_mem hx
      exact (hxs i _ (List.getElem?_eq_getElem hi)).2.1
end
theorem c_int : Tryz.prog.cellsOf 3 = 1 := by kernel_rfl
theorem c_u64 : Tryz.prog.cellsOf 25 = 1 := by kernel_rfl
section
variable {H : Type} {enc : TypeId × Value → H} {W : World} {r : Reach} {b0 : Nat} {v : Value} {d : DataW H} {p : List MemPlace}
end
set_option maxRecDepth 100000 in
theorem law_post {H : Type} {enc : TypeId × Value → H} {f : Func} {s : ChangeSpec} {apart : Bool} {W W' : World} {args : Array Value} {ds : List (DataW H)} {before : List MemPlace}
    (hr : f.resultTypes = #[4]) (hvars : s.vars = []) (hW : DataW.Whole enc Tryz.prog f.params.toList s.vars apart W args.toList ds [] before)
    (hA : DataW.TrodAll enc Tryz.prog W 0 (fun _ => true) true f.params.toList args.toList ds before)
    (hres : (s.fn H (ds ++ [])).results = [.lit (.bool true)]) (hargs : (s.fn H (ds ++ [])).args = ds) (hv : (s.fn H (ds ++ [])).vars = [])
    (hts : ∀ t ∈ f.params.toList, Tryz.prog.readableRec t = true ∧ t < Tryz.prog.types.size) (hb : Below W.heap.size W W') :
    s.post enc Tryz.prog f apart true false false W args (.bool true) W' := by
  have hlt : ∀ p ∈ before, p.block < W.heap.size := fun p hp => hW.lt p hp
  refine post_of_below (pa := before) (pv := []) hW (fun b sp hd => ?_) (fun sp hsp => ?_) (fun sp hsp => ?_) (by simp) hb ?_
  · rw [hres, hr]
    exact trodAll_mk1 (shut_bool Tryz.underlying4 true)
  · rw [hargs]
    exact trodAll_stays Tryz.laidOut hb hts hA hlt hsp
  · rw [hv, hvars]; rfl
  · exact ok_one hr rfl (okWide_bool_mk Tryz.underlying4 true)
end Go.Proofs.YtmiimpmfkjcjlaaGreat

namespace Go.Proofs.YtmiimpmfkjcjlaaGreat
open Go.ChangeShapes Go.WideShapes Go.ChangeAt Go.RowKit Go.Deep
def SpWf (s : Sp) : Prop := (Lit.int .i64 s.kind).wf = true ∧ (Lit.int .i64 s.p).wf = true ∧ (Lit.int .i64 s.q).wf = true
theorem c_spec : Tryz.prog.cellsOf 23 = 3 := by kernel_rfl
section
variable {H : Type} {enc : TypeId × Value → H} {W : World}
theorem read_spec (n : Nat) (cs : List Value) (x : DataW H × List MemPlace) (hl : cs.length = 3) (h : DataW.trod enc Tryz.prog W 0 (fun _ => true) true n 23 cs = some x) : ∃ s : Sp, cs = spEnc s ∧ SpWf s := by
  match cs, hl with
  | [v0, v1, v2], _ =>
    obtain ⟨xs, m, _, _, _, hxl, hf⟩ := DataW.trod_struct Tryz.underlying23 h
    match xs, hxl with
    | [x0, x1, x2], _ =>
      have g0 : DataW.trod enc Tryz.prog W 0 (fun _ => true) true m 3 (List.take (Tryz.prog.cellsOf 3) (List.drop 0 [v0, v1, v2])) = some x0 := hf 0 _ rfl
      have g1 : DataW.trod enc Tryz.prog W 0 (fun _ => true) true m 3 (List.take (Tryz.prog.cellsOf 3) (List.drop 1 [v0, v1, v2])) = some x1 := hf 1 _ rfl
      have g2 : DataW.trod enc Tryz.prog W 0 (fun _ => true) true m 3 (List.take (Tryz.prog.cellsOf 3) (List.drop 2 [v0, v1, v2])) = some x2 := hf 2 _ rfl
      simp only [c_int] at g0 g1 g2
      obtain ⟨a0, e0, _, w0⟩ := DataW.trod_int Tryz.underlying3 g0
      obtain ⟨a1, e1, _, w1⟩ := DataW.trod_int Tryz.underlying3 g1
      obtain ⟨a2, e2, _, w2⟩ := DataW.trod_int Tryz.underlying3 g2
      cases e0; cases e1; cases e2
      exact ⟨⟨a0, a1, a2⟩, rfl, w0, w1, w2⟩
end
section
variable {H : Type} {enc : TypeId × Value → H} {W : World} {r : Reach} {b0 : Nat} {v : Value} {d : DataW H} {p : List MemPlace}
end
end Go.Proofs.YtmiimpmfkjcjlaaGreat

namespace Go.Proofs.YtmiimpmfkjcjlaaGreat
open Go.ChangeShapes Go.WideShapes Go.ChangeAt Go.RowKit Go.Deep
theorem c_call : Tryz.prog.cellsOf 27 = 6 := by kernel_rfl
theorem c_event : Tryz.prog.cellsOf 62 = 8 := by kernel_rfl
theorem c_answer : Tryz.prog.cellsOf 57 = 3 := by kernel_rfl
theorem c_errno : Tryz.prog.cellsOf 30 = 1 := by kernel_rfl
theorem c_words : Tryz.prog.cellsOf 24 = 1 := by kernel_rfl
theorem c_ints : Tryz.prog.cellsOf 42 = 1 := by kernel_rfl
section
variable {H : Type} {enc : TypeId × Value → H} {W : World}
theorem trod_sl {t e : TypeId} {n : Nat} {c : Value} {x : DataW H × List MemPlace} (ht : Tryz.prog.underlying t = some (.slice e)) (h : DataW.trod enc Tryz.prog W 0 (fun _ => true) true n t [c] = some x) :
    ∃ a len cap, c = .slice a len cap := by
  rcases open_slice ht h with ⟨hcs, _⟩ | ⟨a, len, cap, m, _, _, _, hcs, _⟩
  · cases hcs; exact ⟨_, _, _, rfl⟩
  · cases hcs; exact ⟨_, _, _, rfl⟩
structure EvDeep (W : World) (e : Ev) : Prop where
  wf : EvWf e
  err : (Lit.int .i64 e.err).wf = true
  val : (Lit.int .u64 e.val).wf = true
  list : ∃ l, SlW W (.slice e.lA e.lN e.lC) l ∧ (∀ x ∈ l, (Lit.int .u64 x).wf = true)
  key : ∃ l, SlI W (.slice e.kA e.kN e.kC) l ∧ (∀ x ∈ l, (Lit.int .i64 x).wf = true)
theorem EvDeep.below {W W' : World} {e : Ev} (h : EvDeep W e) (hb : Below W.heap.size W W') : EvDeep W' e := by
  obtain ⟨h1, h2, h3, ⟨l, h4, h5⟩, ⟨k, h6, h7⟩⟩ := h
  exact ⟨h1, h2, h3, ⟨l, h4.below hb (Nat.le_refl _), h5⟩, ⟨k, h6.below hb (Nat.le_refl _), h7⟩⟩
def ClWf (c : Cl) : Prop := (Lit.int .i64 c.thread).wf = true ∧ (Lit.int .i64 c.obj).wf = true ∧ (Lit.int .i64 c.kind).wf = true ∧ (Lit.int .u64 c.a).wf = true ∧ (Lit.int .u64 c.b).wf = true ∧ (Lit.int .u64 c.c).wf = true
theorem read_call (n : Nat) (cs : List Value) (x : DataW H × List MemPlace) (hl : cs.length = 6) (h : DataW.trod enc Tryz.prog W 0 (fun _ => true) true n 27 cs = some x) : ∃ c : Cl, cs = clEnc c ∧ ClWf c := by
  match cs, hl with
  | [v0, v1, v2, v3, v4, v5], _ =>
    obtain ⟨xs, m, _, _, _, hxl, hf⟩ := DataW.trod_struct Tryz.underlying27 h
    match xs, hxl with
    | [x0, x1, x2, x3, x4, x5], _ =>
      have g0 : DataW.trod enc Tryz.prog W 0 (fun _ => true) true m 3 (List.take (Tryz.prog.cellsOf 3) (List.drop 0 [v0, v1, v2, v3, v4, v5])) = some x0 := hf 0 _ rfl
      have g1 : DataW.trod enc Tryz.prog W 0 (fun _ => true) true m 3 (List.take (Tryz.prog.cellsOf 3) (List.drop 1 [v0, v1, v2, v3, v4, v5])) = some x1 := hf 1 _ rfl
      have g2 : DataW.trod enc Tryz.prog W 0 (fun _ => true) true m 3 (List.take (Tryz.prog.cellsOf 3) (List.drop 2 [v0, v1, v2, v3, v4, v5])) = some x2 := hf 2 _ rfl
      have g3 : DataW.trod enc Tryz.prog W 0 (fun _ => true) true m 25 (List.take (Tryz.prog.cellsOf 25) (List.drop 3 [v0, v1, v2, v3, v4, v5])) = some x3 := hf 3 _ rfl
      have g4 : DataW.trod enc Tryz.prog W 0 (fun _ => true) true m 25 (List.take (Tryz.prog.cellsOf 25) (List.drop 4 [v0, v1, v2, v3, v4, v5])) = some x4 := hf 4 _ rfl
      have g5 : DataW.trod enc Tryz.prog W 0 (fun _ => true) true m 25 (List.take (Tryz.prog.cellsOf 25) (List.drop 5 [v0, v1, v2, v3, v4, v5])) = some x5 := hf 5 _ rfl
      simp only [c_int, c_u64] at g0 g1 g2 g3 g4 g5
      obtain ⟨a0, e0, _, w0⟩ := DataW.trod_int Tryz.underlying3 g0
      obtain ⟨a1, e1, _, w1⟩ := DataW.trod_int Tryz.underlying3 g1
      obtain ⟨a2, e2, _, w2⟩ := DataW.trod_int Tryz.underlying3 g2
      obtain ⟨a3, e3, _, w3⟩ := DataW.trod_int Tryz.underlying25 g3
      obtain ⟨a4, e4, _, w4⟩ := DataW.trod_int Tryz.underlying25 g4
      obtain ⟨a5, e5, _, w5⟩ := DataW.trod_int Tryz.underlying25 g5
      cases e0; cases e1; cases e2; cases e3; cases e4; cases e5
      exact ⟨⟨a0, a1, a2, a3, a4, a5⟩, rfl, w0, w1, w2, w3, w4, w5⟩
theorem read_event (n : Nat) (cs : List Value) (x : DataW H × List MemPlace) (hl : cs.length = 8) (h : DataW.trod enc Tryz.prog W 0 (fun _ => true) true n 62 cs = some x) : ∃ e : Ev, cs = evEnc e ∧ EvDeep W e := by
  match cs, hl with
  | [v0, v1, v2, v3, v4, v5, v6, v7], _ =>
    obtain ⟨xs, m, _, _, _, hxl, hf⟩ := DataW.trod_struct Tryz.underlying62 h
    match xs, hxl with
    | [x0, x1, x2, x3, x4, x5], _ =>
      have g0 : DataW.trod enc Tryz.prog W 0 (fun _ => true) true m 3 (List.take (Tryz.prog.cellsOf 3) (List.drop 0 [v0, v1, v2, v3, v4, v5, v6, v7])) = some x0 := hf 0 _ rfl
      have g1 : DataW.trod enc Tryz.prog W 0 (fun _ => true) true m 3 (List.take (Tryz.prog.cellsOf 3) (List.drop 1 [v0, v1, v2, v3, v4, v5, v6, v7])) = some x1 := hf 1 _ rfl
      have g2 : DataW.trod enc Tryz.prog W 0 (fun _ => true) true m 3 (List.take (Tryz.prog.cellsOf 3) (List.drop 2 [v0, v1, v2, v3, v4, v5, v6, v7])) = some x2 := hf 2 _ rfl
      have g3 : DataW.trod enc Tryz.prog W 0 (fun _ => true) true m 3 (List.take (Tryz.prog.cellsOf 3) (List.drop 3 [v0, v1, v2, v3, v4, v5, v6, v7])) = some x3 := hf 3 _ rfl
      have g4 : DataW.trod enc Tryz.prog W 0 (fun _ => true) true m 57 (List.take (Tryz.prog.cellsOf 57) (List.drop 4 [v0, v1, v2, v3, v4, v5, v6, v7])) = some x4 := hf 4 _ rfl
      have g5 : DataW.trod enc Tryz.prog W 0 (fun _ => true) true m 42 (List.take (Tryz.prog.cellsOf 42) (List.drop 7 [v0, v1, v2, v3, v4, v5, v6, v7])) = some x5 := hf 5 _ rfl
      simp only [c_int, c_answer, c_ints] at g0 g1 g2 g3 g4 g5
      obtain ⟨ys, m', _, _, _, hyl, hy⟩ := DataW.trod_struct Tryz.underlying57 g4
      match ys, hyl with
      | [y0, y1, y2], _ =>
        have k0 : DataW.trod enc Tryz.prog W 0 (fun _ => true) true m' 30 (List.take (Tryz.prog.cellsOf 30) (List.drop 0 [v4, v5, v6])) = some y0 := hy 0 _ rfl
        have k1 : DataW.trod enc Tryz.prog W 0 (fun _ => true) true m' 25 (List.take (Tryz.prog.cellsOf 25) (List.drop 1 [v4, v5, v6])) = some y1 := hy 1 _ rfl
        have k2 : DataW.trod enc Tryz.prog W 0 (fun _ => true) true m' 24 (List.take (Tryz.prog.cellsOf 24) (List.drop 2 [v4, v5, v6])) = some y2 := hy 2 _ rfl
        simp only [c_errno, c_u64, c_words] at k0 k1 k2
        obtain ⟨a0, e0, _, w0⟩ := DataW.trod_int Tryz.underlying3 g0
        obtain ⟨a1, e1, _, w1⟩ := DataW.trod_int Tryz.underlying3 g1
        obtain ⟨a2, e2, _, w2⟩ := DataW.trod_int Tryz.underlying3 g2
        obtain ⟨a3, e3, _, w3⟩ := DataW.trod_int Tryz.underlying3 g3
        obtain ⟨a4, e4, _, w4⟩ := DataW.trod_int Tryz.underlying30 k0
        obtain ⟨a5, e5, _, w5⟩ := DataW.trod_int Tryz.underlying25 k1
        obtain ⟨l1, l2, l3, rfl⟩ := trod_sl (c := v6) Tryz.underlying24 k2
        obtain ⟨m1, m2, m3, rfl⟩ := trod_sl (c := v7) Tryz.underlying42 g5
        cases e0; cases e1; cases e2; cases e3; cases e4; cases e5
        obtain ⟨ll, hl1, hl2, _⟩ := read_slv (v := .slice l1 l2 l3) (ntEnc .u64) 1 (fun x => (Lit.int .u64 x).wf = true) Tryz.underlying24 c_u64 (fun n cs x _ hx => by obtain ⟨a, e, _, w⟩ := DataW.trod_int Tryz.underlying25 hx; exact ⟨a, e, w⟩) ⟨_, _, _, rfl⟩ ⟨m', k2⟩ (by decide)
        obtain ⟨kk, hk1, hk2, _⟩ := read_slv (v := .slice m1 m2 m3) (ntEnc .i64) 1 (fun x => (Lit.int .i64 x).wf = true) Tryz.underlying42 c_int (fun n cs x _ hx => by obtain ⟨a, e, _, w⟩ := DataW.trod_int Tryz.underlying3 hx; exact ⟨a, e, w⟩) ⟨_, _, _, rfl⟩ ⟨m, g5⟩ (by decide)
        exact ⟨⟨a0, a1, a2, a3, a4, a5, l1, l2, l3, m1, m2, m3⟩, rfl, ⟨w0, w1, w2, w3⟩, w4, w5, ⟨ll, hl1, hl2⟩, ⟨kk, hk1, hk2⟩⟩
end
theorem c_specs : Tryz.prog.cellsOf 40 = 1 := by kernel_rfl
theorem c_calls : Tryz.prog.cellsOf 41 = 1 := by kernel_rfl
theorem c_scene : Tryz.prog.cellsOf 44 = 4 := by kernel_rfl
section
variable {H : Type} {enc : TypeId × Value → H} {W : World} {r : Reach} {b0 : Nat} {v : Value} {d : DataW H} {p : List MemPlace}
structure ScAt (W : World) (n : Int) (S C P : Value) (sp : List Sp) (cs : List Cl) (ps : List Int) : Prop where
  n : (Lit.int .i64 n).wf = true
  specs : SlSp W S sp ∧ (∀ x ∈ sp, SpWf x)
  calls : SlCl W C cs ∧ (∀ x ∈ cs, ClWf x)
  picks : SlI W P ps ∧ (∀ x ∈ ps, (Lit.int .i64 x).wf = true)
theorem read_scene_cells (n : Nat) (cs : List Value) (x : DataW H × List MemPlace) (hl : cs.length = 4) (h : DataW.trod enc Tryz.prog W 0 (fun _ => true) true n 44 cs = some x) :
    ∃ a S C P sp cl ps, cs = [.int .i64 a, S, C, P] ∧ ScAt W a S C P sp cl ps := by
  match cs, hl with
  | [v0, v1, v2, v3], _ =>
    obtain ⟨xs, m, _, _, _, hxl, hf⟩ := DataW.trod_struct Tryz.underlying44 h
    match xs, hxl with
    | [x0, x1, x2, x3], _ =>
      have g0 : DataW.trod enc Tryz.prog W 0 (fun _ => true) true m 3 (List.take (Tryz.prog.cellsOf 3) (List.drop 0 [v0, v1, v2, v3])) = some x0 := hf 0 _ rfl
      have g1 : DataW.trod enc Tryz.prog W 0 (fun _ => true) true m 40 (List.take (Tryz.prog.cellsOf 40) (List.drop 1 [v0, v1, v2, v3])) = some x1 := hf 1 _ rfl
      have g2 : DataW.trod enc Tryz.prog W 0 (fun _ => true) true m 41 (List.take (Tryz.prog.cellsOf 41) (List.drop 2 [v0, v1, v2, v3])) = some x2 := hf 2 _ rfl
      have g3 : DataW.trod enc Tryz.prog W 0 (fun _ => true) true m 42 (List.take (Tryz.prog.cellsOf 42) (List.drop 3 [v0, v1, v2, v3])) = some x3 := hf 3 _ rfl
      simp only [c_int, c_specs, c_calls, c_ints] at g0 g1 g2 g3
      obtain ⟨a0, e0, _, w0⟩ := DataW.trod_int Tryz.underlying3 g0
      obtain ⟨s1, s2, s3, rfl⟩ := trod_sl (c := v1) Tryz.underlying40 g1
      obtain ⟨l1, l2, l3, rfl⟩ := trod_sl (c := v2) Tryz.underlying41 g2
      obtain ⟨m1, m2, m3, rfl⟩ := trod_sl (c := v3) Tryz.underlying42 g3
      cases e0
      obtain ⟨sp, hs1, hs2, _⟩ := read_slv (v := .slice s1 s2 s3) spEnc 3 SpWf Tryz.underlying40 c_spec (fun n cs x hl hx => read_spec n cs x hl hx) ⟨_, _, _, rfl⟩ ⟨m, g1⟩ (by decide)
      obtain ⟨cl, hc1, hc2, _⟩ := read_slv (v := .slice l1 l2 l3) clEnc 6 ClWf Tryz.underlying41 c_call (fun n cs x hl hx => read_call n cs x hl hx) ⟨_, _, _, rfl⟩ ⟨m, g2⟩ (by decide)
      obtain ⟨ps, hp1, hp2, _⟩ := read_slv (v := .slice m1 m2 m3) (ntEnc .i64) 1 (fun x => (Lit.int .i64 x).wf = true) Tryz.underlying42 c_int (fun n cs x _ hx => by obtain ⟨a, e, _, w⟩ := DataW.trod_int Tryz.underlying3 hx; exact ⟨a, e, w⟩) ⟨_, _, _, rfl⟩ ⟨m, g3⟩ (by decide)
      exact ⟨a0, _, _, _, sp, cl, ps, rfl, w0, ⟨hs1, hs2⟩, ⟨hc1, hc2⟩, ⟨hp1, hp2⟩⟩
end
end Go.Proofs.YtmiimpmfkjcjlaaGreat

namespace Go.Proofs.YtmiimpmfkjcjlaaGreat
open Go.ChangeShapes Go.WideShapes Go.ChangeAt Go.RowKit Go.Deep
theorem c_evs28 : Tryz.prog.cellsOf 59 = 1 := by kernel_rfl
theorem c_law28 : Tryz.prog.cellsOf 73 = 6 := by kernel_rfl
section
variable {H : Type} {enc : TypeId × Value → H} {W : World} {r : Reach} {b0 : Nat} {v : Value} {d : DataW H} {p : List MemPlace}
set_option maxRecDepth 100000 in
theorem read_ev28_cells (n : Nat) (cs : List Value) (x : DataW H × List MemPlace) (hl : cs.length = 6) (h : DataW.trod enc Tryz.prog W 0 (fun _ => true) true n 73 cs = some x) :
    ∃ a S C P L t sp cl ps es, cs = [.int .i64 a, S, C, P, L, .int .i64 t] ∧ ScAt W a S C P sp cl ps ∧ (SlEv W L es ∧ ∀ x ∈ es, EvDeep W x) := by
  match cs, hl with
  | [v0, v1, v2, v3, v4, v5], _ =>
    obtain ⟨xs, m, _, _, _, hxl, hf⟩ := DataW.trod_struct Tryz.underlying73 h
    match xs, hxl with
    | [x0, x1, x2], _ =>
      have g0 : DataW.trod enc Tryz.prog W 0 (fun _ => true) true m 44 (List.take (Tryz.prog.cellsOf 44) (List.drop 0 [v0, v1, v2, v3, v4, v5])) = some x0 := hf 0 _ rfl
      have g1 : DataW.trod enc Tryz.prog W 0 (fun _ => true) true m 59 (List.take (Tryz.prog.cellsOf 59) (List.drop 4 [v0, v1, v2, v3, v4, v5])) = some x1 := hf 1 _ rfl
      have g2 : DataW.trod enc Tryz.prog W 0 (fun _ => true) true m 3 (List.take (Tryz.prog.cellsOf 3) (List.drop 5 [v0, v1, v2, v3, v4, v5])) = some x2 := hf 2 _ rfl
      rw [c_scene] at g0
      rw [c_evs28] at g1
      rw [c_int] at g2
      obtain ⟨a2, e2, _, w2⟩ := DataW.trod_int Tryz.underlying3 g2
      obtain ⟨s1, s2, s3, rfl⟩ := trod_sl (c := v4) Tryz.underlying59 g1
      obtain ⟨a, S, C, P, sp, cl, ps, hs, hw⟩ := read_scene_cells m _ _ (by simp) g0
      obtain ⟨es, he1, he2, _⟩ := read_slv (v := .slice s1 s2 s3) evEnc 8 (EvDeep W) Tryz.underlying59 c_event (fun n cs x hl hx => read_event n cs x hl hx) ⟨_, _, _, rfl⟩ ⟨m, g1⟩ (by decide)
      cases e2
      simp only [List.drop_zero, List.take_succ_cons, List.take_zero] at hs
      injection hs with i0 hs
      injection hs with i1 hs
      injection hs with i2 hs
      injection hs with i3 hs
      subst i0 i1 i2 i3
      exact ⟨a, _, _, _, _, a2, sp, cl, ps, es, rfl, hw, he1, he2⟩
set_option maxRecDepth 100000 in
theorem read_ev28 (hv : Value.okWide Tryz.prog W r b0 73 v) (h : DataW.Trod enc Tryz.prog W 0 (fun _ => true) true 73 v d p) :
    ∃ a S C P L t sp cl ps es, v = .agg #[.int .i64 a, S, C, P, L, .int .i64 t] ∧ ScAt W a S C P sp cl ps ∧ (SlEv W L es ∧ ∀ x ∈ es, EvDeep W x) := by
  obtain ⟨cs, rfl, hsz⟩ := okWide_struct Tryz.underlying73 hv
  rw [c_law28] at hsz
  obtain ⟨fuel, hf⟩ := h
  have hf' : DataW.trod enc Tryz.prog W 0 (fun _ => true) true fuel 73 cs.toList = some (d, p) := hf
  obtain ⟨a, S, C, P, L, t, sp, cl, ps, es, hs, hw, he⟩ := read_ev28_cells fuel cs.toList _ (by simpa using hsz) hf'
  refine ⟨a, S, C, P, L, t, sp, cl, ps, es, ?_, hw, he⟩
  have : cs = [Value.int .i64 a, S, C, P, L, Value.int .i64 t].toArray := by rw [← hs]
  rw [this]
end
end Go.Proofs.YtmiimpmfkjcjlaaGreat
