import Derived.Test.YtmiimpmfkjcjlaaGreatSr8
namespace Go.Proofs.YtmiimpmfkjcjlaaGreat
open Go.RowKit Go.Shelf
theorem keepC_grown {W W' : World} {B : Nat} {row : Option Nat} (hg : W.grownBy W' row) (hr : ∀ r, row = some r → B ≤ r ∧ ∃ o : Obj, W.heap[r]? = some o ∧ o.isCells = false) : KeepC W W' :=
  ⟨hg.os, hg.tape, hg.output, hg.size, fun j o ho hc => hg.block j (Array.getElem?_eq_some_iff.1 ho).1 (fun e => by
    obtain ⟨_, o', ho', hc'⟩ := hr j e.symm
    rw [ho] at ho'
    cases ho'
    rw [hc] at hc'
    cases hc')⟩
theorem below_grownR {W W' w : World} {B : Nat} {row : Option Nat} (h : Below w.heap.size w W) (hB : w.heap.size ≤ B) (hg : W.grownBy W' row) (hr : ∀ r, row = some r → B ≤ r ∧ ∃ o : Obj, W.heap[r]? = some o ∧ o.isCells = false) : Below w.heap.size w W' :=
  h.grown hg h.size (fun j hj => by have := (hr j hj).1; omega)
theorem KeepC.boxed {A B : World} {g : Nat} {t : TypeId} {v : Value} (h : KeepC A B) (hb : Boxed A g t v) : Boxed B g t v := (h.2.2.2.2 g _ hb rfl).trans hb
theorem sl_setOther {W : World} {v u u' : Value} {xs : List Int} {g : Nat} (h : SlI W v xs) (hg : W.cell? ⟨g, 0, none⟩ = some u) (hu : ∀ n, u ≠ .int .i64 n) : SlI (W.setCell ⟨g, 0, none⟩ u') v xs := by
  obtain ⟨A, c, hv, h1, h2, h3⟩ := h
  refine ⟨A, c, hv, h1, h2, fun k x hx => ?_⟩
  obtain ⟨b, o, hA, hlt, hc⟩ := h3 k x hx
  refine ⟨b, o, hA, by simpa [World.setCell] using hlt, fun j y hy => ?_⟩
  have hcj := hc j y hy
  have hyi : y = .int .i64 x := by
    rcases j with _ | j
    · cases hy; rfl
    · cases hy
  rw [World.cell?_setCell_other (h := fun e => by
    rw [← e, hg] at hcj
    exact hu x ((Option.some.inj hcj).trans hyi))]
  exact hcj
theorem sl_setSame {W : World} {v u : Value} {xs : List Int} {g : Nat} (h : SlI W v xs) (hg : W.cell? ⟨g, 0, none⟩ = some u) : SlI (W.setCell ⟨g, 0, none⟩ u) v xs := by
  obtain ⟨A, c, hv, h1, h2, h3⟩ := h
  refine ⟨A, c, hv, h1, h2, fun k x hx => ?_⟩
  obtain ⟨b, o, hA, hlt, hc⟩ := h3 k x hx
  refine ⟨b, o, hA, by simpa [World.setCell] using hlt, fun j y hy => ?_⟩
  have hcj := hc j y hy
  by_cases he : (⟨g, 0, none⟩ : Addr) = ⟨b, o + k * 1 + j, none⟩
  · rw [← he, World.cell?_setCell_same (h := hg)]
    rw [← he, hg] at hcj
    exact hcj
  · rw [World.cell?_setCell_other (h := he)]
    exact hcj
def FirstPost (n : Int) (specs : List Sp) (calls : List Cl) (es : List Ev) (ls : Nat → List Int) (w : World) (e : Ending) (w' : World) : Prop :=
  Below w.heap.size w w' ∧ ((srchE n specs calls es ≠ 0 ∧ e = .returned (.tuple #[.slice none 0 0, .bool false, .int .i64 (srchE n specs calls es)])) ∨
  (srchE n specs calls es = 0 ∧ ((allS n specs calls es ls es.length [] (specs.map (newM n)) = [] ∧ e = .returned (.tuple #[.slice none 0 0, .bool false, .int .i64 0])) ∨
   ∃ A k c L, (allS n specs calls es ls es.length [] (specs.map (newM n))).head? = some L ∧ e = .returned (.tuple #[.slice A k c, .bool true, .int .i64 0]) ∧ SlI w' (.slice A k c) (ordI L))))
theorem srchE_zero {n : Int} {specs : List Sp} {calls : List Cl} {es : List Ev} (h : srchE n specs calls es = 0) : layE n specs = 0 ∧ es.length ≤ 6 ∧ es.all (okEv n calls) = true := by
  unfold srchE at h
  split at h
  · rename_i h1
    exact absurd h h1
  · rename_i h1
    split at h
    · cases h
    · rename_i h2
      split at h
      · rename_i h3
        exact ⟨Decidable.not_not.1 h1, by omega, h3⟩
      · cases h
attribute [local go_sem] Oper.semAt_some
set_option maxRecDepth 100000 in
set_option maxHeartbeats 2000000 in
theorem first_any (n : Int) (S C L : Value) (specs : List Sp) (calls : List Cl) (es : List Ev) (ls : Nat → List Int) (w : World) (hs : SlSp w S specs) (hc : SlCl w C calls) (hes : SlEv w L es) (hlst : ∀ (k : Nat) (e : Ev), es[k]? = some e → SlW w (.slice e.lA e.lN e.lC) (ls k)) (hw : ∀ c ∈ calls, U64 c.a ∧ U64 c.b ∧ U64 c.c) :
    Calls Tryz.prog 25 #[.int .i64 n, S, C, L] w (FirstPost n specs calls es ls w) := by
  obtain ⟨Ae, ce, rfl, _⟩ := id hes
  obtain ⟨As, cs, rfl, _⟩ := id hs
  obtain ⟨Ac, cc, rfl, _⟩ := id hc
  have HS := hide hs
  have HC := hide hc
  have HE := hide hes
  have HL := hide hlst
  have HW := hide hw
  clear hs hc hes hlst hw
  refine (callsIn_wide (n := 8)).1 ?_
  refine callsIn_of_wp_marks Tryz.func25 rfl trivial ?_ rfl
  simp only [Tryz.ntmps25, List.size_toArray, List.length_cons, List.length_nil, Nat.reduceAdd, Nat.reduceSub, Array.replicate_succ, Array.replicate_zero, List.push_toArray, List.append_toArray, List.nil_append, List.cons_append]
  gi_wp2
  obtain ⟨X, hX⟩ : ∃ X, X = (((w.alloc (.cells #[.slice none 0 0] 42)).alloc (.cells #[.bool false] 4)).alloc (.cells #[.int .i64 0] 30)).alloc (.cells #[.int .i64 n, .slice As specs.length cs, .slice Ac calls.length cc, .slice Ae es.length ce] 100) := ⟨_, rfl⟩
  rw [← hX]
  have hBX : Below w.heap.size w X := by rw [hX]; exact ((((Below.refl _ _).alloc (Nat.le_refl _) _).alloc (by simp) _).alloc (by simp; omega) _).alloc (by simp; omega) _
  have hzX : X.heap.size = w.heap.size + 4 := by rw [hX]; simp
  have b8 : Boxed X w.heap.size 42 (.slice none 0 0) := by
    rw [hX]
    exact (((Boxed.new w 42 (.slice none 0 0)).alloc _).alloc _).alloc _
  have b9 : Boxed X (w.heap.size + 1) 4 (.bool false) := by
    rw [hX]
    have h := ((Boxed.new (w.alloc (.cells #[.slice none 0 0] 42)) 4 (.bool false)).alloc (.cells #[.int .i64 0] 30)).alloc (.cells #[.int .i64 n, .slice As specs.length cs, .slice Ac calls.length cc, .slice Ae es.length ce] 100)
    simpa using h
  have b10 : Boxed X (w.heap.size + 1 + 1) 30 (.int .i64 0) := by
    rw [hX]
    have h := (Boxed.new ((w.alloc (.cells #[.slice none 0 0] 42)).alloc (.cells #[.bool false] 4)) 30 (.int .i64 0)).alloc (.cells #[.int .i64 n, .slice As specs.length cs, .slice Ac calls.length cc, .slice Ae es.length ce] 100)
    simpa using h
  have hss : SsAt X (w.heap.size + 1 + 1 + 1) n (.slice As specs.length cs) (.slice Ac calls.length cc) (.slice Ae es.length ce) := by
    rw [hX]
    have h := heap_alloc_new (((w.alloc (.cells #[.slice none 0 0] 42)).alloc (.cells #[.bool false] 4)).alloc (.cells #[.int .i64 0] 30)) (.cells #[.int .i64 n, .slice As specs.length cs, .slice Ac calls.length cc, .slice Ae es.length ce] 100)
    simpa [SsAt] using h
  have HXC : Hid (SsCtx X (w.heap.size + 1 + 1 + 1) n (.slice As specs.length cs) (.slice Ac calls.length cc) (.slice Ae es.length ce) specs calls es ls) := hide ⟨hss, HS.out.below hBX (Nat.le_refl _), HC.out.below hBX (Nat.le_refl _), HE.out.below hBX (Nat.le_refl _), fun k e he => (HL.out k e he).below hBX (Nat.le_refl _)⟩
  have HBX := hide hBX
  have H8 := hide b8
  have H9 := hide b9
  have H10 := hide b10
  clear hX hBX hss b8 b9 b10
  refine ⟨trivial, (callsIn_wide.2 (scheck43 _ n _ _ _ specs calls es X HXC.out.at_ HXC.out.specs HXC.out.calls HXC.out.evs)).mono ?_⟩
  rintro e1 w1 ⟨rfl, hb1⟩
  have HK1 := hide (KeepC.of_below hb1)
  have HB1 := hide (HBX.out.trans (hb1.mono (by omega)))
  have g8 := HK1.out.boxed H8.out
  have g9 := HK1.out.boxed H9.out
  have g10 := HK1.out.boxed H10.out
  have HXC1 := hide (HK1.out.ctx HXC.out)
  have hz1 := hb1.size
  clear hb1
  obtain ⟨E, hE⟩ : ∃ E, srchE n specs calls es = E := ⟨_, rfl⟩
  rw [hE]
  by_cases h0 : E = 0
  · subst h0
    have hz := srchE_zero hE
    have hev := evsOk_of hz.2.2 HW.out
    obtain ⟨hs8, hok⟩ := layE_specs hz.1
    have HEZ := hide hE
    have c8 := g8.cell
    have c9 := g9.cell
    have c10 := g10.cell
    have HEV := hide hev
    have HOK := hide hok
    have HZ := hide hz
    have HS8 := hide hs8
    clear hE hz hev hok hs8
    gi_wp2
    refine ⟨trivial, (callsIn_wide.2 (sorders_any _ w1)).mono ?_⟩
    rintro e2 w2 ⟨rfl, rfl⟩
    gi_wp2
    have hB2 : Below w1.heap.size w1 (w1.alloc (.cells #[.pointer (some ⟨w.heap.size + 1 + 1 + 1, 0, none⟩)] 98)) := (Below.refl _ _).alloc (Nat.le_refl _) _
    have hcs2 : (w1.alloc (.cells #[.pointer (some ⟨w.heap.size + 1 + 1 + 1, 0, none⟩)] 98)).cell? ⟨w1.heap.size, 0, none⟩ = some (.pointer (some ⟨w.heap.size + 1 + 1 + 1, 0, none⟩)) := by go_simp
    have b8 := g8.alloc (.cells #[.pointer (some ⟨w.heap.size + 1 + 1 + 1, 0, none⟩)] 98)
    have b9 := g9.alloc (.cells #[.pointer (some ⟨w.heap.size + 1 + 1 + 1, 0, none⟩)] 98)
    have b10 := g10.alloc (.cells #[.pointer (some ⟨w.heap.size + 1 + 1 + 1, 0, none⟩)] 98)
    have hXC2 := HXC1.out.below hB2
    have hBW2 : Below w.heap.size w (w1.alloc (.cells #[.pointer (some ⟨w.heap.size + 1 + 1 + 1, 0, none⟩)] 98)) := HB1.out.trans (hB2.mono HB1.out.size)
    have hst := orders_stops none 7 (by omega) (w.heap.size + 1 + 1 + 1) w1.heap.size n _ _ _ specs calls es ls _ hXC2 hcs2 HEV.out (by have := HZ.out.2.1; omega) HS8.out HOK.out (fun j h => by cases h) ⟨by simp, by simp⟩ ⟨notAt_none _, notAt_none _, notAt_none _⟩ (fun _ _ _ => notAt_none _)
    have hzw2 : w.heap.size + 4 ≤ (w1.alloc (.cells #[.pointer (some ⟨w.heap.size + 1 + 1 + 1, 0, none⟩)] 98)).heap.size := by simp; omega
    generalize (w1.alloc (.cells #[.pointer (some ⟨w.heap.size + 1 + 1 + 1, 0, none⟩)] 98)) = w2 at *
    refine rangeFunc_P (F := Fence.wide) (n := 8) rfl (by omega) (gf := 92) (lb := #[.pointer (some ⟨w1.heap.size, 0, none⟩)]) rfl trivial (enters_of Tryz.func92 (by kernel_rfl) rfl)
      hst (fun h k => h.trans k) (fun W l o o' _ h hc _ => (KeepC.putObj W l o o' h hc).x none) (Below.refl _ _) (fun _ => rfl) (fun x W l o o' h ho hc => (KeepC.putObj W l o o' ho hc).sl h)
      (fun pre W => pre = [] ∧ Boxed W w.heap.size 42 (.slice none 0 0) ∧ Boxed W (w.heap.size + 1) 4 (.bool false) ∧ Boxed W (w.heap.size + 1 + 1) 30 (.int .i64 0) ∧ Below w.heap.size w W)
      (fun c pre W => c = .ret ∧ ∃ x : OrdV, pre = [x] ∧ Boxed W w.heap.size 42 (.slice x.1.1 x.1.2.1 x.1.2.2) ∧ Boxed W (w.heap.size + 1) 4 (.bool true) ∧ Boxed W (w.heap.size + 1 + 1) 30 (.int .i64 0) ∧ ordPm x W ∧ Below w.heap.size w W)
      ?hI ?hIx ⟨rfl, b8, b9, b10, hBW2⟩
      (fun x => { tmps := #[.int .i64 n, .slice As specs.length cs, .slice Ac calls.length cc, .slice Ae es.length ce, undef, undef, undef, undef, .pointer (some ⟨w.heap.size, 0, none⟩), .pointer (some ⟨w.heap.size + 1, 0, none⟩), .pointer (some ⟨w.heap.size + 1 + 1, 0, none⟩), .pointer (some ⟨w.heap.size + 1 + 1 + 1, 0, none⟩), .int .i64 0, .slice x.1.1 x.1.2.1 x.1.2.2, .int .i64 n, .slice As specs.length cs, .slice Ac calls.length cc, .slice Ae es.length ce, .agg #[.int .i64 n, .slice As specs.length cs, .slice Ac calls.length cc, .slice Ae es.length ce], .pointer (some ⟨w.heap.size + 1 + 1 + 1, 0, none⟩), .pointer (some ⟨w.heap.size + 1 + 1 + 1, 0, none⟩), .int .i64 0, .int .i64 0, .bool false, undef, .pointer (some ⟨w.heap.size + 1 + 1 + 1, 0, none⟩), .func (.func 92) #[] #[.pointer (some ⟨w1.heap.size, 0, none⟩)], .slice x.1.1 x.1.2.1 x.1.2.2, undef], defers := [] }) ?assign ?body ?done ?stop
    case hI =>
      rintro s W W' row ⟨rfl, h8, h9, h10, hB⟩ hg hr
      have hk := keepC_grown hg hr
      exact ⟨rfl, hk.boxed h8, hk.boxed h9, hk.boxed h10, below_grownR hB hBW2.size hg hr⟩
    case hIx =>
      rintro c s W W' row ⟨rfl, x, rfl, h8, h9, h10, hp, hB⟩ hg hr
      have hk := keepC_grown hg hr
      exact ⟨rfl, x, rfl, hk.boxed h8, hk.boxed h9, hk.boxed h10, hk.sl hp, below_grownR hB hBW2.size hg hr⟩
    case assign =>
      intro l x W K hK
      unfold ordEnc
      gi_wp2
      first | exact hK | simpa using hK
    case body =>
      rintro l pre x W ⟨rfl, h8, h9, h10, hB⟩ _ hp
      have c8 := h8.cell
      have c9 := h9.cell
      have c10 := h10.cell
      have f8 := h8.frozen
      have f9 := h9.frozen
      have f10 := h10.frozen
      have H8 := hide h8
      have H9 := hide h9
      have H10 := hide h10
      have HP := hide hp
      have HB := hide hB
      clear h8 h9 h10 hp hB
      gi_wp2
      refine ⟨?_, rfl, x, rfl, ?_, ?_, ?_, ?_, ?_⟩
      · exact (((KeepsOthers.setCell W _ _).trans (KeepsOthers.setCell _ _ _)).trans (KeepsOthers.setCell _ _ _)).from _
      · exact ((H8.out.set _).other (by omega) _).other (by omega) _
      · exact ((H9.out.other (B' := w.heap.size) (by omega) _).set _).other (by omega) _
      · exact ((H10.out.other (B' := w.heap.size) (by omega) _).other (B' := w.heap.size + 1) (by omega) _).set _
      · refine sl_setSame (sl_setOther (u := .bool false) (sl_setOther (u := .slice none 0 0) HP.out H8.out.cell (fun n e => by cases e)) (H9.out.other (B' := w.heap.size) (by omega) _).cell (fun n e => by cases e)) ?_
        exact ((H10.out.other (B' := w.heap.size) (by omega) _).other (B' := w.heap.size + 1) (by omega) _).cell
      · exact ((HB.out.setCell (by simp) _).setCell (by simp) _).setCell (by simp; omega) _
    case done =>
      rintro D ys W hD hys ⟨rfl, h8, h9, h10, hB⟩ hK
      have c8 := h8.cell
      have c9 := h9.cell
      have c10 := h10.cell
      have f8 := h8.frozen
      have f9 := h9.frozen
      have f10 := h10.frozen
      have HB := hide hB
      have HK := hide hK
      have HY := hide hys
      have H8 := hide h8
      have H9 := hide h9
      have H10 := hide h10
      clear hB hK hys h8 h9 h10
      gi_wp2
      have q8 := ((H8.out.set (.slice none 0 0)).other (B' := w.heap.size + 1) (by omega) (.bool false)).other (B' := w.heap.size + 1 + 1) (by omega) (.int .i64 0)
      have q9 := ((H9.out.other (B' := w.heap.size) (by omega) (.slice none 0 0)).set (.bool false)).other (B' := w.heap.size + 1 + 1) (by omega) (.int .i64 0)
      have q10 := ((H10.out.other (B' := w.heap.size) (by omega) (.slice none 0 0)).other (B' := w.heap.size + 1) (by omega) (.bool false)).set (.int .i64 0)
      have hBf : Below w.heap.size w (((W.setCell ⟨w.heap.size, 0, none⟩ (.slice none 0 0)).setCell ⟨w.heap.size + 1, 0, none⟩ (.bool false)).setCell ⟨w.heap.size + 1 + 1, 0, none⟩ (.int .i64 0)) := ((HB.out.setCell (by simp) _).setCell (by simp) _).setCell (by simp; omega) _
      have hKf : (((W.setCell ⟨w.heap.size, 0, none⟩ (.slice none 0 0)).setCell ⟨w.heap.size + 1, 0, none⟩ (.bool false)).setCell ⟨w.heap.size + 1 + 1, 0, none⟩ (.int .i64 0)).heap[D]? = some (.deferred (some [])) := by
        have k1 := ((KeepsOthers.setCell W ⟨w.heap.size, 0, none⟩ (.slice none 0 0)).trans (KeepsOthers.setCell _ ⟨w.heap.size + 1, 0, none⟩ (.bool false))).trans (KeepsOthers.setCell _ ⟨w.heap.size + 1 + 1, 0, none⟩ (.int .i64 0))
        exact k1.same D _ HK.out rfl
      clear c8 c9 c10 f8 f9 f10
      generalize (((W.setCell ⟨w.heap.size, 0, none⟩ (.slice none 0 0)).setCell ⟨w.heap.size + 1, 0, none⟩ (.bool false)).setCell ⟨w.heap.size + 1 + 1, 0, none⟩ (.int .i64 0)) = Z at *
      refine ⟨by simp, .inl ⟨_, _, rfl, run_takeDeferred hKf, ?_⟩⟩
      have hk := KeepC.putObj Z D _ (.deferred none) hKf rfl
      have e8 := (hk.boxed q8).cell
      have e9 := (hk.boxed q9).cell
      have e10 := (hk.boxed q10).cell
      have hBz : Below w.heap.size w (Z.putObj D (.deferred none)) := hBf.grown (grownBy_putObj' Z D _) hBf.size (fun k e => by cases e; have := hBW2.size; omega)
      refine ⟨.tuple #[.slice none 0 0, .bool false, .int .i64 0], (by simp [results, Tryz.results25, go_sem, *]), hBz, Or.inr ⟨HEZ.out, Or.inl ⟨by have := HY.out; simpa using this.symm, rfl⟩⟩⟩
    case stop =>
      rintro D c pre W hD ⟨hne, hpre⟩ ⟨rfl, x, rfl, h8, h9, h10, hp, hB⟩ hK
      gi_wp2
      refine ⟨by simp, .inl ⟨_, _, rfl, run_takeDeferred hK, ?_⟩⟩
      have hk := KeepC.putObj W D _ (.deferred none) hK rfl
      have e8 := (hk.boxed h8).cell
      have e9 := (hk.boxed h9).cell
      have e10 := (hk.boxed h10).cell
      have hBz : Below w.heap.size w (W.putObj D (.deferred none)) := hB.grown (grownBy_putObj' W D _) hB.size (fun k e => by cases e; have := hBW2.size; omega)
      have hhd : (allS n specs calls es ls es.length [] (specs.map (newM n))).head? = some x.2 := by
        obtain ⟨t, ht⟩ := hpre
        rw [← ht]
        rfl
      have HSL := hide (hk.sl hp)
      refine ⟨.tuple #[.slice x.1.1 x.1.2.1 x.1.2.2, .bool true, .int .i64 0], (by simp [results, Tryz.results25, go_sem, *]), hBz, Or.inr ⟨HEZ.out, Or.inr ⟨_, _, _, x.2, hhd, rfl, HSL.out⟩⟩⟩
  · have d0 : (E != 0) = true := by simp [h0]
    have hne := h0
    have HE0 : Hid (srchE n specs calls es ≠ 0 ∧ srchE n specs calls es = E) := hide (by rw [hE]; exact ⟨h0, rfl⟩)
    have c8 := g8.cell
    have c9 := g9.cell
    have c10 := g10.cell
    have f8 := g8.frozen
    have f9 := g9.frozen
    have f10 := g10.frozen
    clear hE h0
    have HB1' := hide (((HB1.out.setCell (p := ⟨w.heap.size, 0, none⟩) (by simp) (.slice none 0 0)).setCell (p := ⟨w.heap.size + 1, 0, none⟩) (by simp) (.bool false)).setCell (p := ⟨w.heap.size + 1 + 1, 0, none⟩) (by simp; omega) (.int .i64 E))
    gi_wp2
    refine ⟨.tuple #[.slice none 0 0, .bool false, .int .i64 E], (by simp [results, Tryz.results25, go_sem, *]), HB1'.out, Or.inl ⟨HE0.out.1, by rw [HE0.out.2]⟩⟩
end Go.Proofs.YtmiimpmfkjcjlaaGreat

namespace Go.Proofs.YtmiimpmfkjcjlaaGreat
open Go.RowKit Go.Shelf
def CountPost (n : Int) (specs : List Sp) (calls : List Cl) (es : List Ev) (ls : Nat → List Int) (w : World) (e : Ending) (w' : World) : Prop :=
  Below w.heap.size w w' ∧ ((srchE n specs calls es ≠ 0 ∧ e = .returned (.tuple #[.int .i64 0, .int .i64 (srchE n specs calls es)])) ∨
  (srchE n specs calls es = 0 ∧ e = .returned (.tuple #[.int .i64 ((allS n specs calls es ls es.length [] (specs.map (newM n))).length : Nat), .int .i64 0])))
theorem keepX_set (W : World) (r j : Nat) (u : Value) : KeepX (some r) W (W.setCell ⟨r, j, none⟩ u) :=
  ⟨rfl, rfl, rfl, by simp [World.setCell], fun k o hk _ _ => Below.heap_setCell _ _ _ _ (fun e => hk (by rw [e])), fun k hk ⟨cs, fr, ho⟩ => by
    have e : k = r := (Option.some.inj hk).symm
    subst e
    simp [World.setCell, Array.getElem?_modify, ho]⟩
attribute [local go_sem] Oper.semAt_some
set_option maxRecDepth 100000 in
set_option maxHeartbeats 2000000 in
theorem count_any (n : Int) (S C L : Value) (specs : List Sp) (calls : List Cl) (es : List Ev) (ls : Nat → List Int) (w : World) (hs : SlSp w S specs) (hc : SlCl w C calls) (hes : SlEv w L es) (hlst : ∀ (k : Nat) (e : Ev), es[k]? = some e → SlW w (.slice e.lA e.lN e.lC) (ls k)) (hw : ∀ c ∈ calls, U64 c.a ∧ U64 c.b ∧ U64 c.c)
    (hnA : ∀ r, w.heap.size ≤ r → NotAt (some r) S ∧ NotAt (some r) C ∧ NotAt (some r) L) (hnl : ∀ r, w.heap.size ≤ r → ∀ (k : Nat) (e : Ev), es[k]? = some e → NotAt (some r) (.slice e.lA e.lN e.lC)) (hN : (allS n specs calls es ls es.length [] (specs.map (newM n))).length ≤ 1000000) :
    Calls Tryz.prog 49 #[.int .i64 n, S, C, L] w (CountPost n specs calls es ls w) := by
  obtain ⟨Ae, ce, rfl, _⟩ := id hes
  obtain ⟨As, cs, rfl, _⟩ := id hs
  obtain ⟨Ac, cc, rfl, _⟩ := id hc
  have HS := hide hs
  have HC := hide hc
  have HE := hide hes
  have HL := hide hlst
  have HW := hide hw
  have HNA := hide hnA
  have HNL := hide hnl
  have HN := hide hN
  clear hs hc hes hlst hw hnA hnl hN
  refine (callsIn_wide (n := 8)).1 ?_
  refine callsIn_of_wp_marks Tryz.func49 rfl trivial ?_ rfl
  simp only [Tryz.ntmps49, List.size_toArray, List.length_cons, List.length_nil, Nat.reduceAdd, Nat.reduceSub, Array.replicate_succ, Array.replicate_zero, List.push_toArray, List.append_toArray, List.nil_append, List.cons_append]
  gi_wp2
  obtain ⟨X, hX⟩ : ∃ X, X = w.alloc (.cells #[.int .i64 n, .slice As specs.length cs, .slice Ac calls.length cc, .slice Ae es.length ce] 100) := ⟨_, rfl⟩
  rw [← hX]
  have hBX : Below w.heap.size w X := by rw [hX]; exact (Below.refl _ _).alloc (Nat.le_refl _) _
  have hzX : X.heap.size = w.heap.size + 1 := by rw [hX]; simp
  have hss : SsAt X w.heap.size n (.slice As specs.length cs) (.slice Ac calls.length cc) (.slice Ae es.length ce) := by
    rw [hX]
    exact heap_alloc_new _ _
  have HXC : Hid (SsCtx X w.heap.size n (.slice As specs.length cs) (.slice Ac calls.length cc) (.slice Ae es.length ce) specs calls es ls) := hide ⟨hss, HS.out.below hBX (Nat.le_refl _), HC.out.below hBX (Nat.le_refl _), HE.out.below hBX (Nat.le_refl _), fun k e he => (HL.out k e he).below hBX (Nat.le_refl _)⟩
  have HBX := hide hBX
  clear hX hBX hss
  refine ⟨trivial, (callsIn_wide.2 (scheck43 _ n _ _ _ specs calls es X HXC.out.at_ HXC.out.specs HXC.out.calls HXC.out.evs)).mono ?_⟩
  rintro e1 w1 ⟨rfl, hb1⟩
  have HB1 := hide (HBX.out.trans (hb1.mono (by omega)))
  have HXC1 := hide (HXC.out.below hb1)
  have hz1 := hb1.size
  clear hb1
  obtain ⟨E, hE⟩ : ∃ E, srchE n specs calls es = E := ⟨_, rfl⟩
  rw [hE]
  by_cases h0 : E = 0
  · subst h0
    have hz := srchE_zero hE
    have hev := evsOk_of hz.2.2 HW.out
    obtain ⟨hs8, hok⟩ := layE_specs hz.1
    have HEZ := hide hE
    have HEV := hide hev
    have HOK := hide hok
    have HZ := hide hz
    have HS8 := hide hs8
    clear hE hz hev hok hs8
    gi_wp2
    obtain ⟨Y, hY⟩ : ∃ Y, Y = w1.alloc (.cells #[.int .i64 0] 3) := ⟨_, rfl⟩
    rw [← hY]
    have hBY : Below w1.heap.size w1 Y := by rw [hY]; exact (Below.refl _ _).alloc (Nat.le_refl _) _
    have hzY : Y.heap.size = w1.heap.size + 1 := by rw [hY]; simp
    have hbc : Boxed Y w1.heap.size 3 (.int .i64 0) := by rw [hY]; exact Boxed.new w1 3 (.int .i64 0)
    have HXC2 := hide (HXC1.out.below hBY)
    have HBY := hide (HB1.out.trans (hBY.mono HB1.out.size))
    clear hY hBY
    refine ⟨trivial, (callsIn_wide.2 (sorders_any _ Y)).mono ?_⟩
    rintro e2 w2 ⟨rfl, rfl⟩
    gi_wp2
    have hB2 : Below Y.heap.size Y (Y.alloc (.cells #[.pointer (some ⟨w.heap.size, 0, none⟩)] 98)) := (Below.refl _ _).alloc (Nat.le_refl _) _
    have hcs2 : (Y.alloc (.cells #[.pointer (some ⟨w.heap.size, 0, none⟩)] 98)).cell? ⟨Y.heap.size, 0, none⟩ = some (.pointer (some ⟨w.heap.size, 0, none⟩)) := by go_simp
    have bc := hbc.alloc (.cells #[.pointer (some ⟨w.heap.size, 0, none⟩)] 98)
    have hXC3 := HXC2.out.below hB2
    have hBW2 : Below w.heap.size w (Y.alloc (.cells #[.pointer (some ⟨w.heap.size, 0, none⟩)] 98)) := HBY.out.trans (hB2.mono HBY.out.size)
    have hwc : w.heap.size ≤ w1.heap.size := HB1.out.size
    have hst := orders_stops (some w1.heap.size) 7 (by omega) w.heap.size Y.heap.size n _ _ _ specs calls es ls _ hXC3 hcs2 HEV.out (by have := HZ.out.2.1; omega) HS8.out HOK.out (fun j h => by cases h; exact ⟨_, _, bc⟩) ⟨by simp; omega, by simp; omega⟩ (HNA.out _ hwc) (HNL.out _ hwc)
    have hzw2 : Y.heap.size + 1 ≤ (Y.alloc (.cells #[.pointer (some ⟨w.heap.size, 0, none⟩)] 98)).heap.size := by simp
    generalize (Y.alloc (.cells #[.pointer (some ⟨w.heap.size, 0, none⟩)] 98)) = w2 at *
    rw [hzY] at hst
    have hwz : w1.heap.size < w2.heap.size := by omega
    refine rangeFunc_P (F := Fence.wide) (n := 8) rfl (by omega) (gf := 92) (lb := #[.pointer (some ⟨w1.heap.size + 1, 0, none⟩)]) rfl trivial (enters_of Tryz.func92 (by kernel_rfl) rfl)
      hst (fun h k => h.trans k) (fun W l o o' _ h hc _ => (KeepC.putObj W l o o' h hc).x _) (Below.refl _ _) (fun _ => rfl) (fun x W l o o' h ho hc => (KeepC.putObj W l o o' ho hc).sl h)
      (fun pre W => Boxed W w1.heap.size 3 (.int .i64 (pre.length : Nat)) ∧ Below w.heap.size w W)
      (fun _ _ _ => False)
      ?hI (fun _ _ _ _ _ hs _ _ => hs) ⟨bc, hBW2⟩
      (fun x => { tmps := #[.int .i64 n, .slice As specs.length cs, .slice Ac calls.length cc, .slice Ae es.length ce, undef, undef, undef, undef, .int .i64 0, .int .i64 0, .pointer (some ⟨w.heap.size, 0, none⟩), .int .i64 0, .pointer (some ⟨w1.heap.size, 0, none⟩), .int .i64 n, .slice As specs.length cs, .slice Ac calls.length cc, .slice Ae es.length ce, .agg #[.int .i64 n, .slice As specs.length cs, .slice Ac calls.length cc, .slice Ae es.length ce], .pointer (some ⟨w.heap.size, 0, none⟩), .pointer (some ⟨w.heap.size, 0, none⟩), .int .i64 0, .int .i64 0, .bool false, undef, .pointer (some ⟨w.heap.size, 0, none⟩), .func (.func 92) #[] #[.pointer (some ⟨w1.heap.size + 1, 0, none⟩)], .slice x.1.1 x.1.2.1 x.1.2.2, undef, undef, undef], defers := [] }) ?assign ?body ?done ?stop
    case hI =>
      rintro s W W' row ⟨h8, hB⟩ hg hr
      exact ⟨(keepC_grown hg hr).boxed h8, below_grownR hB hBW2.size hg hr⟩
    case assign =>
      intro l x W K hK
      unfold ordEnc
      gi_wp2
      first | exact hK | simpa using hK
    case body =>
      rintro l pre x W ⟨h8, hB⟩ hlt _
      have c8 := h8.cell
      have f8 := h8.frozen
      have hpl : (pre.length : Int) ≤ 1000000 := by have := HN.out; omega
      have wp : IntKind.i64.wrap ((pre.length : Int) + 1) = (pre.length : Int) + 1 := by rw [IntKind.wrap_i64]; omega
      have H8 := hide h8
      have HB := hide hB
      clear h8 hB hlt
      gi_wp2
      refine ⟨(KeepsOthers.setCell W _ _).from _, keepX_set W _ 0 _, ?_, HB.out.setCell hwc _⟩
      have h := H8.out.set (.int .i64 ((pre.length : Int) + 1))
      simpa using h
    case done =>
      rintro D ys W hD hys ⟨h8, hB⟩ hK
      have c8 := h8.cell
      gi_wp2
      refine ⟨by simp, .inl ⟨_, _, rfl, run_takeDeferred hK, ?_⟩⟩
      have hBz : Below w.heap.size w (W.putObj D (.deferred none)) := hB.grown (grownBy_putObj' W D _) hB.size (fun k e => by cases e; have := hBW2.size; omega)
      have hyl : ys.length = (allS n specs calls es ls es.length [] (specs.map (newM n))).length := by rw [← hys, List.length_map]
      refine ⟨.tuple #[.int .i64 (ys.length : Nat), .int .i64 0], (by simp [results, Tryz.results49, go_sem, *]), hBz, Or.inr ⟨HEZ.out, by rw [hyl]⟩⟩
    case stop =>
      rintro D c pre W _ _ h _
      exact h.elim
  · have d0 : (E != 0) = true := by simp [h0]
    have hne := h0
    have HE0 : Hid (srchE n specs calls es ≠ 0 ∧ srchE n specs calls es = E) := hide (by rw [hE]; exact ⟨h0, rfl⟩)
    clear hE h0
    gi_wp2
    refine ⟨.tuple #[.int .i64 0, .int .i64 E], (by simp [results, Tryz.results49, go_sem, *]), HB1.out, Or.inl ⟨HE0.out.1, by rw [HE0.out.2]⟩⟩
end Go.Proofs.YtmiimpmfkjcjlaaGreat

namespace Go.Proofs.YtmiimpmfkjcjlaaGreat
open Go.RowKit
def kS : List Sp := [⟨3, 0, 0⟩]
def kC : List Cl := [⟨0, 0, 0, 1, 0, 0⟩, ⟨1, 0, 0, 1, 0, 0⟩]
def kE : List Ev := [⟨0, 1, 4, 0, 0, 1, none, 0, 0, none, 0, 0⟩, ⟨1, 2, 3, 0, 0, 0, none, 0, 0, none, 0, 0⟩]
def kE2 : List Ev := [⟨1, 2, 3, 0, 0, 0, none, 0, 0, none, 0, 0⟩, ⟨0, 1, 4, 0, 0, 0, none, 0, 0, none, 0, 0⟩]
theorem k_err : srchE 2 kS kC kE = 0 := by decide
theorem k_err2 : srchE 2 kS kC kE2 = 0 := by decide
theorem k_all : allS 2 kS kC kE (fun _ => []) kE.length [] (kS.map (newM 2)) = [[1, 0]] := by decide +kernel
theorem k_all2 : allS 2 kS kC kE2 (fun _ => []) kE2.length [] (kS.map (newM 2)) = [] := by decide +kernel
theorem k_word : ∀ c ∈ kC, U64 c.a ∧ U64 c.b ∧ U64 c.c := by
  intro c hc
  simp only [kC, List.mem_cons, List.not_mem_nil, or_false] at hc
  rcases hc with rfl | rfl <;> exact ⟨⟨by decide, by decide⟩, ⟨by decide, by decide⟩, ⟨by decide, by decide⟩⟩
abbrev kOS : Obj := .cells #[.int .i64 3, .int .i64 0, .int .i64 0] 23
abbrev kOC : Obj := .cells #[.int .i64 0, .int .i64 0, .int .i64 0, .int .u64 1, .int .u64 0, .int .u64 0, .int .i64 1, .int .i64 0, .int .i64 0, .int .u64 1, .int .u64 0, .int .u64 0] 27
abbrev kOE : Obj := .cells #[.int .i64 0, .int .i64 1, .int .i64 4, .int .i64 0, .int .i64 0, .int .u64 1, .slice none 0 0, .slice none 0 0, .int .i64 1, .int .i64 2, .int .i64 3, .int .i64 0, .int .i64 0, .int .u64 0, .slice none 0 0, .slice none 0 0] 62
abbrev kOE2 : Obj := .cells #[.int .i64 1, .int .i64 2, .int .i64 3, .int .i64 0, .int .i64 0, .int .u64 0, .slice none 0 0, .slice none 0 0, .int .i64 0, .int .i64 1, .int .i64 4, .int .i64 0, .int .i64 0, .int .u64 0, .slice none 0 0, .slice none 0 0] 62
theorem k_specs {w : World} {g : Nat} (h : w.heap[g]? = some kOS) : SlSp w (.slice (some ⟨g, 0, none⟩) 1 1) kS := by
  refine Sl.of_block (xs := kS) h (Nat.le_refl 1) (by unfold maxLen; omega) ?_
  intro k x hx j u hu
  rcases k with _ | k <;> first | (cases hx; rcases j with _ | _ | _ | j <;> first | exact hu | cases hu) | cases hx
theorem k_calls {w : World} {g : Nat} (h : w.heap[g]? = some kOC) : SlCl w (.slice (some ⟨g, 0, none⟩) 2 2) kC := by
  refine Sl.of_block (xs := kC) h (Nat.le_refl 2) (by unfold maxLen; omega) ?_
  intro k x hx j u hu
  rcases k with _ | _ | k <;> first | (cases hx; rcases j with _ | _ | _ | _ | _ | _ | j <;> first | exact hu | cases hu) | cases hx
theorem k_evs {w : World} {g : Nat} (h : w.heap[g]? = some kOE) : SlEv w (.slice (some ⟨g, 0, none⟩) 2 2) kE := by
  refine Sl.of_block (xs := kE) h (Nat.le_refl 2) (by unfold maxLen; omega) ?_
  intro k x hx j u hu
  rcases k with _ | _ | k <;> first | (cases hx; rcases j with _ | _ | _ | _ | _ | _ | _ | _ | j <;> first | exact hu | cases hu) | cases hx
theorem k_evs2 {w : World} {g : Nat} (h : w.heap[g]? = some kOE2) : SlEv w (.slice (some ⟨g, 0, none⟩) 2 2) kE2 := by
  refine Sl.of_block (xs := kE2) h (Nat.le_refl 2) (by unfold maxLen; omega) ?_
  intro k x hx j u hu
  rcases k with _ | _ | k <;> first | (cases hx; rcases j with _ | _ | _ | _ | _ | _ | _ | _ | j <;> first | exact hu | cases hu) | cases hx
theorem k_lst {w : World} : ∀ (k : Nat) (e : Ev), kE[k]? = some e → SlW w (.slice e.lA e.lN e.lC) [] := by
  intro k e he
  rcases k with _ | _ | k <;> first | (cases he; exact slw_none w) | cases he
theorem k_lst2 {w : World} : ∀ (k : Nat) (e : Ev), kE2[k]? = some e → SlW w (.slice e.lA e.lN e.lC) [] := by
  intro k e he
  rcases k with _ | _ | k <;> first | (cases he; exact slw_none w) | cases he
theorem k_nl {r : Option Nat} : ∀ (k : Nat) (e : Ev), kE[k]? = some e → NotAt r (.slice e.lA e.lN e.lC) := by
  intro k e he
  rcases k with _ | _ | k <;> first | (cases he; exact notAt_nil r 0 0) | cases he
theorem notAt_blk {r g o n c : Nat} (h : g ≠ r) : NotAt (some r) (.slice (some ⟨g, o, none⟩) n c) := by
  intro A n' c' e a ha e2
  cases e
  cases ha
  exact h (Option.some.inj e2)
set_option maxRecDepth 100000 in
set_option maxHeartbeats 4000000 in
theorem adds43 (w : World) : Calls Tryz.prog 24 #[] w fun e w' => e = .returned (.bool true) ∧ Below w.heap.size w w' := by
  have N0 := fun W (h1 : W.heap[w.heap.size]? = some kOS) (h2 : W.heap[w.heap.size + 1]? = some kOC) (h3 : W.heap[w.heap.size + 2]? = some kOE) => first_any 2 _ _ _ kS kC kE (fun _ => []) W (k_specs h1) (k_calls h2) (k_evs h3) k_lst k_word
  have N1 := fun W (h1 : W.heap[w.heap.size]? = some kOS) (h2 : W.heap[w.heap.size + 1]? = some kOC) (h3 : W.heap[w.heap.size + 2]? = some kOE) (hz : w.heap.size + 3 ≤ W.heap.size) => count_any 2 _ _ _ kS kC kE (fun _ => []) W (k_specs h1) (k_calls h2) (k_evs h3) k_lst k_word (fun r hr => ⟨notAt_blk (by omega), notAt_blk (by omega), notAt_blk (by omega)⟩) (fun r hr => k_nl) (by rw [k_all]; decide)
  have N2 := fun g W (h1 : W.heap[w.heap.size]? = some kOS) (h2 : W.heap[w.heap.size + 1]? = some kOC) (h3 : W.heap[g]? = some kOE2) => first_any 2 _ _ _ kS kC kE2 (fun _ => []) W (k_specs h1) (k_calls h2) (k_evs2 h3) k_lst2 k_word
  unfold FirstPost at N0 N2
  unfold CountPost at N1
  simp only [k_err, k_all] at N0 N1
  simp only [k_err2, k_all2] at N2
  simp only [ne_eq, not_true_eq_false, false_and, false_or, true_and] at N0 N1 N2
  have H0 := hide N0
  have H1 := hide N1
  have H2 := hide N2
  clear N0 N1 N2
  go_enter Tryz.func24, Tryz.ntmps24
  go_wp2_with fail
  obtain ⟨X, hX⟩ : ∃ X, X = ((w.alloc kOS).alloc kOC).alloc kOE := ⟨_, rfl⟩
  have hBX : Below w.heap.size w X := by rw [hX]; exact (((Below.refl _ _).alloc (Nat.le_refl _) _).alloc (by simp) _).alloc (by simp; omega) _
  have hzX : X.heap.size = w.heap.size + 3 := by rw [hX]; simp
  have b0 : X.heap[w.heap.size]? = some kOS := by rw [hX]; exact (Below.heap_alloc _ _ _ (by simp; omega)).trans ((Below.heap_alloc _ _ _ (by simp)).trans (heap_alloc_new w _))
  have b1 : X.heap[w.heap.size + 1]? = some kOC := by
    rw [hX]
    have h := heap_alloc_new (w.alloc kOS) kOC
    exact (Below.heap_alloc _ _ _ (by simp)).trans (by simpa using h)
  have b2 : X.heap[w.heap.size + 2]? = some kOE := by
    rw [hX]
    have h := heap_alloc_new ((w.alloc kOS).alloc kOC) kOE
    simpa using h
  refine (H0.out _ (hX ▸ b0) (hX ▸ b1) (hX ▸ b2)).mono ?_
  rw [← hX]
  rintro e1 w1 ⟨hb1, hr⟩
  rcases hr with ⟨h, _⟩ | ⟨A, k, c, L, hL, rfl, hsl⟩
  · cases h
  cases hL
  obtain ⟨_, _, e1, _, _, h3⟩ := hsl
  injection e1 with e1a e1b e1c
  subst e1a e1b
  obtain ⟨g, o, rfl, hg, hc0⟩ := h3 0 1 rfl
  obtain ⟨_, _, e2, _, hc1⟩ := h3 1 0 rfl
  cases e2
  have g0 := nt_cell hc0
  have g1 := nt_cell hc1
  simp only [Nat.zero_mul, Nat.add_zero, Nat.one_mul] at g0 g1
  have hz1 : w.heap.size + 3 ≤ w1.heap.size := by have := hb1.size; omega
  have B0 := (hb1.block w.heap.size (by omega)).trans b0
  have B1 := (hb1.block (w.heap.size + 1) (by omega)).trans b1
  have B2 := (hb1.block (w.heap.size + 2) (by omega)).trans b2
  have HB1 := hide (hBX.trans (hb1.mono (by omega)))
  have HB0 := hide B0
  have HBC := hide B1
  have HBE := hide B2
  clear h3 hc0 hc1 hX hBX b0 b1 b2 hb1 B0 B1 B2 hzX
  go_wp2_with fail
  refine (H1.out w1 HB0.out HBC.out HBE.out hz1).mono ?_
  rintro e2 w2 ⟨hb2, rfl⟩
  have l0 := cell_of_row w2 _ 8 _ _ _ ((hb2.block (w.heap.size + 2) (by omega)).trans HBE.out)
  have l1 := cell_of_row w2 _ 9 _ _ _ ((hb2.block (w.heap.size + 2) (by omega)).trans HBE.out)
  have l2 := cell_of_row w2 _ 10 _ _ _ ((hb2.block (w.heap.size + 2) (by omega)).trans HBE.out)
  have l3 := cell_of_row w2 _ 11 _ _ _ ((hb2.block (w.heap.size + 2) (by omega)).trans HBE.out)
  have l4 := cell_of_row w2 _ 12 _ _ _ ((hb2.block (w.heap.size + 2) (by omega)).trans HBE.out)
  have l5 := cell_of_row w2 _ 13 _ _ _ ((hb2.block (w.heap.size + 2) (by omega)).trans HBE.out)
  have l6 := cell_of_row w2 _ 14 _ _ _ ((hb2.block (w.heap.size + 2) (by omega)).trans HBE.out)
  have l7 := cell_of_row w2 _ 15 _ _ _ ((hb2.block (w.heap.size + 2) (by omega)).trans HBE.out)
  simp at l0 l1 l2 l3 l4 l5 l6 l7
  have B0 := hide ((hb2.block w.heap.size (by omega)).trans HB0.out)
  have B1 := hide ((hb2.block (w.heap.size + 1) (by omega)).trans HBC.out)
  replace g0 := (hb2.cell (p := ⟨g, o, none⟩) hg).trans g0
  replace g1 := (hb2.cell (p := ⟨g, o + 1, none⟩) hg).trans g1
  have hz2 : w.heap.size + 3 ≤ w2.heap.size := by have := hb2.size; omega
  have hg2 : g < w2.heap.size := by have := hb2.size; omega
  have HB2 := hide (HB1.out.trans (hb2.mono (by omega)))
  clear hb2
  go_wp2_with fail
  refine (H2.out w2.heap.size (w2.alloc kOE2) ((Below.heap_alloc _ _ _ (by omega)).trans B0.out) ((Below.heap_alloc _ _ _ (by omega)).trans B1.out) (heap_alloc_new _ _)).mono ?_
  rintro e3 w3 ⟨hb3, hr⟩
  rcases hr with rfl | ⟨_, _, _, L, hL, _⟩
  · have hB3 : Below w2.heap.size w2 w3 := ((Below.refl _ _).alloc (Nat.le_refl _) _).trans (hb3.mono (by simp))
    replace g0 := (hB3.cell (p := ⟨g, o, none⟩) hg2).trans g0
    replace g1 := (hB3.cell (p := ⟨g, o + 1, none⟩) hg2).trans g1
    have HB3 := hide (HB2.out.trans (hB3.mono (by omega)))
    clear hb3 hB3 l0 l1 l2 l3 l4 l5 l6 l7
    go_wp2
    go_ret
    exact ⟨ret_bool (by simp), HB3.out⟩
  · cases hL
end Go.Proofs.YtmiimpmfkjcjlaaGreat
