import Derived.RangeFuncNested
import Derived.RangeFuncWrites
import Derived.Test.YtmiimpmfkjcjlaaGreatBun1
import Derived.Test.YtmiimpmfkjcjlaaGreatSr6
import Derived.Test.YtmiimpmfkjcjlaaGreatBun11
namespace Go.Proofs.YtmiimpmfkjcjlaaGreat
open Go Go.RowKit
variable {F : Fence} {n : Nat} {P : Program}
def StopsP {α : Type} (F : Fence) (n : Nat) (P : Program) (g : Nat) (lb : Array Value) (encs : α → Array Value) (Pm : α → World → Prop) (Kp : World → World → Prop) (S Sp : List α → Prop) (N : Nat) (w : World) : Prop :=
  ∀ (l : Nat) (J Jx : List α → World → Prop) (W : World), Below w.heap.size w W → AbidesFrom W.heap.size J → AbidesFrom W.heap.size Jx →
    (∀ pre x W1, J pre W1 → pre.length < N → Pm x W1 → YieldAt F (n - 1) P l (encs x) W1 fun e W' => (e = .returned (.bool true) ∧ J (pre ++ [x]) W' ∧ Kp W1 W') ∨ (e = .returned (.bool false) ∧ Jx (pre ++ [x]) W')) →
    J [] W → CallsIn F n P g (#[.func (.yield l) #[] #[]] ++ lb) W fun e W' => (∃ v, e = .returned v) ∧ ((∃ xs, S xs ∧ J xs W') ∨ (∃ pre, Sp pre ∧ Jx pre W'))
theorem rangeFunc_P {α : Type} {g : Operand} {ps : Array Tmp} {assign body : Code} {Q : Exit → Act → World → Prop} {a : Act} {w : World} {Pm : α → World → Prop}
    (hro : F.round = none) (h1 : 1 ≤ n) {gf : Nat} {lb : Array Value} (hg : a.eval g = .func (.func gf) #[] lb) (hFg : F.fn gf) (eg : ∀ args w, (callFunc gf args).run P w = .ok (.enter gf args) w)
    {encs : α → Array Value} {Kp : World → World → Prop} {S Sp : List α → Prop} {N : Nat} {w0 : World} (hseq : StopsP F (n - 1) P gf lb encs Pm Kp S Sp N w0)
    (hKt : ∀ {A B C : World}, Kp A B → Kp B C → Kp A C) (hKb : ∀ (W : World) (l : Nat) (o o' : Obj), w.heap.size ≤ l → W.heap[l]? = some o → o.isCells = false → o.isWalk = false → Kp W (W.putObj l o')) (hb0 : Below w0.heap.size w0 w) (hps : ∀ x, (encs x).size = ps.size)
    (hPm : ∀ (x : α) (W : World) (l : Nat) (o o' : Obj), Pm x W → W.heap[l]? = some o → o.isCells = false → Pm x (W.putObj l o'))
    (I : List α → World → Prop) (Ix : Code → List α → World → Prop) (hI : OwnFrom w.heap.size I) (hIx : ∀ c, OwnFrom w.heap.size (Ix c)) (h0 : I [] w) (a₁ : α → Act)
    (hassign : ∀ (l : Nat) (x : α) (W : World) (K : Act → World → Prop), K (a₁ x) W →
      assign.wpIn (F.inRound l) (n - 1 - 1) P (Exit.then K (fun _ _ _ => False)) { tmps := (ps.zip (encs x)).foldl (fun t (p, v) => t.setIfInBounds p v) a.tmps, defers := [] } W)
    (hbody : ∀ (l : Nat) (pre : List α) (x : α) (W : World), I pre W → pre.length < N → Pm x W → body.wpIn (F.inRound l) (n - 1 - 1) P (ownPostG w.heap.size Kp I Ix (pre ++ [x]) W) (a₁ x) W)
    (hdone : ∀ (D : Nat) (xs : List α) (W : World), w.heap.size ≤ D → S xs → I xs W → W.heap[D]? = some (.deferred (some [])) → Q .normal { a with defers := { target := .collected D, args := #[] } :: a.defers } W)
    (hstop : ∀ (D : Nat) (c : Code) (pre : List α) (W : World), w.heap.size ≤ D → Sp pre → Ix c pre W → W.heap[D]? = some (.deferred (some [])) → c.wpIn F n P Q { a with defers := { target := .collected D, args := #[] } :: a.defers } W) :
    (Code.rangeFunc g ps assign body).wpIn F n P Q a w := by
  refine wpIn_rangeFunc ?_
  intro fn hfn
  rw [hro]
  obtain ⟨rec, hrec⟩ : ∃ rec : LoopState → Option Code → Loop, rec = fun st pe => { state := st, pending := pe, fn, tmps := a.tmps, params := ps, assign, body, defers := w.heap.size } := ⟨_, rfl⟩
  obtain ⟨W1, hW1⟩ : ∃ W1, (w.alloc (.deferred (some []))).alloc (.loop (rec .ready none)) = W1 := ⟨_, rfl⟩
  have hL1 : W1.heap[w.heap.size + 1]? = some (.loop (rec .ready none)) := by
    rw [← hW1]; have := World.alloc_heap_new (w.alloc (.deferred (some []))) (.loop (rec .ready none)); rwa [World.size_alloc] at this
  have hK1 : W1.heap[w.heap.size]? = some (.deferred (some [])) := by
    rw [← hW1]; exact (Below.heap_alloc _ _ _ (by simp)).trans (World.alloc_heap_new w _)
  have hI1 : I [] W1 := by rw [← hW1]; exact hI.alloc _ (hI.alloc _ h0)
  have hb1 : Below w0.heap.size w0 W1 := by
    rw [← hW1]; exact hb0.trans ((((Below.refl _ w).alloc (Nat.le_refl _) _).alloc (by simp) _).mono hb0.size)
  refine ⟨w.heap.size + 1, [{ target := .collected w.heap.size, args := #[] }], W1, { target := .fn (.func gf) lb, args := #[.func (.yield (w.heap.size + 1)) #[] #[]] }, W1, gf,
    #[.func (.yield (w.heap.size + 1)) #[] #[]] ++ lb, W1, ?_, ?_, ?_, ?_, fun _ => h1, ?_⟩
  · rw [← hW1, hrec]; exact run_enterLoop_outer _ _ _ _ _
  · simp only [resolve, hg]
    simp [go_sem]
  · intro f' hf'; simp [Target.leads] at hf'; subst hf'; exact hFg
  · simp [invoke, go_sem, eg]
  ·
    have hnw : ∀ {A B : World} {row : Option Nat}, (∀ r, row = some r → W1.heap.size ≤ r ∧ ∃ o : Obj, A.heap[r]? = some o ∧ o.isWalk = true) → (∀ r, row = some r → w.heap.size ≤ r ∧ ∃ o : Obj, A.heap[r]? = some o ∧ o.isCells = false) :=
      fun hr r e => by obtain ⟨hB, o, ho, hw⟩ := hr r e; exact ⟨by rw [← hW1] at hB; simp at hB; omega, o, ho, Obj.not_cells_of_walk hw⟩
    refine (hseq (w.heap.size + 1)
      (fun pre W => I pre W ∧ W.heap[w.heap.size + 1]? = some (.loop (rec .ready none)) ∧ W.heap[w.heap.size]? = some (.deferred (some [])))
      (fun pre W => ∃ c, Ix c pre W ∧ W.heap[w.heap.size + 1]? = some (.loop (rec .done (some c))) ∧ W.heap[w.heap.size]? = some (.deferred (some [])))
      W1 hb1
      (fun s A B row hs hg' hr => ⟨hI s A B row hs.1 hg' (hnw (B := B) hr), (grownBy_keeps hg' (fun r e => (hr r e).2) hs.2.1 rfl).trans hs.2.1, (grownBy_keeps hg' (fun r e => (hr r e).2) hs.2.2 rfl).trans hs.2.2⟩)
      (fun s A B row hs hg' hr => by
        obtain ⟨c, hc, hl, hk⟩ := hs
        exact ⟨c, hIx c s A B row hc hg' (hnw (B := B) hr), (grownBy_keeps hg' (fun r e => (hr r e).2) hl rfl).trans hl, (grownBy_keeps hg' (fun r e => (hr r e).2) hk rfl).trans hk⟩)
      ?_ ⟨hI1, hL1, hK1⟩).mono ?_
    ·
      rintro pre x W ⟨hi, hl, hk⟩ hlen hpm
      have hlt : w.heap.size + 1 < W.heap.size := (Array.getElem?_eq_some_iff.1 hl).1
      have hy := run_yield (P := P) (args := encs x) hl (by rw [hrec]; exact hps x)
      rw [hrec] at hy
      refine ⟨fn, _, assign, body, hy, roundIn_of_wpIn hfn (hassign _ x W _ ⟨_, run_beginRound hl (by rw [hrec]), ?_⟩)⟩
      have hl2 : (W.putObj (w.heap.size + 1) (.loop { rec .ready none with state := .busy })).heap[w.heap.size + 1]? = some (.loop { rec .ready none with state := .busy }) := World.putObj_heap_same hlt
      have hk2 : (W.putObj (w.heap.size + 1) (.loop { rec .ready none with state := .busy })).heap[w.heap.size]? = some (.deferred (some [])) := (World.putObj_heap_other (by omega)).trans hk
      have hw2 : Kp W (W.putObj (w.heap.size + 1) (.loop { rec .ready none with state := .busy })) := hKb _ _ _ _ (by omega) hl rfl rfl
      refine wpIn_mono (hbody _ pre x _ (hI.putObj _ hi (by omega) hl rfl) hlen (hPm _ _ _ _ _ hpm hl rfl)) ?_
      have fin : ∀ (jump : Option Code) (W3 : World), KeepsFrom w.heap.size (W.putObj (w.heap.size + 1) (.loop { rec .ready none with state := .busy })) W3 →
          (Instr.endRound (w.heap.size + 1) jump).run P W3 = .ok (.bool jump.isNone) (W3.putObj (w.heap.size + 1) (.loop (rec (if jump.isNone then .ready else .done) jump))) ∧
          W3.heap[w.heap.size + 1]? = some (.loop { rec .ready none with state := .busy }) ∧
          (W3.putObj (w.heap.size + 1) (.loop (rec (if jump.isNone then .ready else .done) jump))).heap[w.heap.size + 1]? = some (.loop (rec (if jump.isNone then .ready else .done) jump)) ∧
          (W3.putObj (w.heap.size + 1) (.loop (rec (if jump.isNone then .ready else .done) jump))).heap[w.heap.size]? = some (.deferred (some [])) := fun jump W3 hk3 => by
        have hl3 := hk3.same _ _ (by omega) hl2 rfl
        have := run_endRound (P := P) jump hl3
        rw [hrec] at this ⊢
        exact ⟨this, by rw [hrec] at hl3; exact hl3, World.putObj_heap_same (Array.getElem?_eq_some_iff.1 hl3).1, (World.putObj_heap_other (by omega)).trans (hk3.same _ _ (Nat.le_refl _) hk2 rfl)⟩
      rintro e a3 W3 hp
      cases e with
      | normal =>
        obtain ⟨hk3, hkp3, hi3⟩ := hp
        obtain ⟨hr, hl3, hl4, hk4⟩ := fin none W3 hk3
        exact ⟨_, _, hr, .inl ⟨rfl, ⟨hI.putObj _ hi3 (by omega) hl3 rfl, hl4, hk4⟩, hKt (hKt hw2 hkp3) (hKb _ _ _ _ (by omega) hl3 rfl rfl)⟩⟩
      | ret =>
        obtain ⟨hk3, hi3⟩ := hp
        obtain ⟨hr, hl3, hl4, hk4⟩ := fin (some .ret) W3 hk3
        exact ⟨_, _, hr, .inr ⟨rfl, .ret, (hIx _).putObj _ hi3 (by omega) hl3 rfl, hl4, hk4⟩⟩
      | exit id =>
        obtain ⟨hk3, hi3⟩ := hp
        obtain ⟨hr, hl3, hl4, hk4⟩ := fin (some (.exit id)) W3 hk3
        exact ⟨_, _, hr, .inr ⟨rfl, .exit id, (hIx _).putObj _ hi3 (by omega) hl3 rfl, hl4, hk4⟩⟩
      | goto t =>
        obtain ⟨hk3, hi3⟩ := hp
        obtain ⟨hr, hl3, hl4, hk4⟩ := fin (some (.goto t)) W3 hk3
        exact ⟨_, _, hr, .inr ⟨rfl, .goto t, (hIx _).putObj _ hi3 (by omega) hl3 rfl, hl4, hk4⟩⟩
      | panic ch => exact hp.elim
      | outgrown => exact hp.elim
    ·
      rintro e W2 ⟨⟨v, rfl⟩, (⟨xs, hS, hi, hl, hk⟩ | ⟨pre, hSp, c, hi, hl, hk⟩)⟩
      · exact ⟨none, _, by have := run_endLoop (P := P) hl (by rw [hrec]; simp); rw [hrec] at this; exact this, hdone _ xs _ (Nat.le_refl _) hS (hI.putObj _ hi (by omega) hl rfl) ((World.putObj_heap_other (by omega)).trans hk)⟩
      · exact ⟨some c, _, by have := run_endLoop (P := P) hl (by rw [hrec]; simp); rw [hrec] at this; exact this, hstop _ c pre _ (Nat.le_refl _) hSp ((hIx c).putObj _ hi (by omega) hl rfl) ((World.putObj_heap_other (by omega)).trans hk)⟩
end Go.Proofs.YtmiimpmfkjcjlaaGreat

namespace Go.Proofs.YtmiimpmfkjcjlaaGreat
open Go.RowKit Go.Shelf
theorem from_all (r : Option Nat) (nd : Nat) (hnd1 : 1 ≤ nd) (b : Nat) (n : Int) (S C L : Value) (specs : List Sp) (calls : List Cl) (es : List Ev) (ls : Nat → List Int) (Bs By Bf l N B0 : Nat) (J Jx : List OrdV → World → Prop) (hJ : AbidesFrom B0 J) (hE : EvsOk n calls es) (hm6 : es.length ≤ 100) (hs8 : specs.length ≤ 8)
    (hY : ∀ pre x W1, J pre W1 → pre.length < N → ordPm x W1 → YieldAt Fence.wide (nd - 1) Tryz.prog l (ordEnc x) W1 fun e W' => (e = .returned (.bool true) ∧ J (pre ++ [x]) W' ∧ KeepX r W1 W') ∨ (e = .returned (.bool false) ∧ Jx (pre ++ [x]) W')) :
    ∀ f, FromOk r b n S C L specs calls es ls Bs By Bf l N J Jx f
  | 0 => from_step r nd hnd1 b n S C L specs calls es ls Bs By Bf l N B0 J Jx hJ hE hm6 hs8 hY 0 (fun f' h => by cases h)
  | f + 1 => from_step r nd hnd1 b n S C L specs calls es ls Bs By Bf l N B0 J Jx hJ hE hm6 hs8 hY (f + 1) (fun f' h => by
    have h' : f = f' := Nat.succ.inj h
    subst h'
    exact from_all r nd hnd1 b n S C L specs calls es ls Bs By Bf l N B0 J Jx hJ hE hm6 hs8 hY f)
theorem sorders_any (b : Nat) (w : World) : Calls Tryz.prog 51 #[.pointer (some ⟨b, 0, none⟩)] w fun e w' => e = .returned (.func (.func 92) #[] #[.pointer (some ⟨w.heap.size, 0, none⟩)]) ∧ w' = w.alloc (.cells #[.pointer (some ⟨b, 0, none⟩)] 98) := by
  go_enter Tryz.func51, Tryz.ntmps51
  go_wp2
  go_ret
  exact ⟨rfl, rfl⟩
section
attribute [local go_sem] Oper.semAt_some run_store_fn run_store_nilfn
set_option maxRecDepth 100000 in
set_option maxHeartbeats 2000000 in
theorem orders_stops (r : Option Nat) (nd : Nat) (hnd1 : 1 ≤ nd) (b Bs : Nat) (n : Int) (S C L : Value) (specs : List Sp) (calls : List Cl) (es : List Ev) (ls : Nat → List Int) (w : World) (hX : SsCtx w b n S C L specs calls es ls) (hBs : w.cell? ⟨Bs, 0, none⟩ = some (.pointer (some ⟨b, 0, none⟩))) (hE : EvsOk n calls es) (hm6 : es.length ≤ 100) (hs8 : specs.length ≤ 8) (hok : ∀ s ∈ specs, sizeE n s = 0) (hnum : IsNum r w) (hnb : some b ≠ r ∧ some Bs ≠ r) (hnS : NotAt r S ∧ NotAt r C ∧ NotAt r L) (hnl : ∀ (k : Nat) (e : Ev), es[k]? = some e → NotAt r (.slice e.lA e.lN e.lC)) :
    StopsP Fence.wide nd Tryz.prog 92 #[.pointer (some ⟨Bs, 0, none⟩)] ordEnc ordPm (KeepX r) (fun ys => ys.map Prod.snd = allS n specs calls es ls es.length [] (specs.map (newM n))) (fun ys => ys ≠ [] ∧ ys.map Prod.snd <+: allS n specs calls es ls es.length [] (specs.map (newM n)))
      (allS n specs calls es ls es.length [] (specs.map (newM n))).length w := by
  intro l J Jx W hW hJ _ hY h0
  have hXW := hX.below hW
  have hBsz : Bs < w.heap.size := (Array.getElem?_eq_some_iff.1 (cells_of_cell hBs).choose_spec.1).1
  have hBW := (hW.cell (p := ⟨Bs, 0, none⟩) hBsz).trans hBs
  have hBz : Bs < W.heap.size := Nat.lt_of_lt_of_le hBsz hW.size
  have hnW : IsNum r W := hnum.keep ((KeepC.of_below hW).x r)
  have HX := hide hXW
  have HNW := hide hnW
  have HNB := hide hnb
  have HNS := hide hnS
  have HNL := hide hnl
  have HOK := hide hok
  have HE := hide hE
  have HM := hide hm6
  have H8 := hide hs8
  clear hX hBs hW hXW hok hE hm6 hs8 hBsz hnW hnum hnb hnS hnl
  show CallsIn Fence.wide nd Tryz.prog 92 #[.func (.yield l) #[] #[], .pointer (some ⟨Bs, 0, none⟩)] W _
  refine callsIn_of_wp Tryz.func92 rfl trivial ?_ rfl
  simp only [Tryz.ntmps92, List.size_toArray, List.length_cons, List.length_nil, Nat.reduceAdd, Nat.reduceSub, Array.replicate_succ, Array.replicate_zero, List.push_toArray, List.append_toArray, List.nil_append, List.cons_append]
  gi_wp2
  obtain ⟨X, hX⟩ : ∃ X, X = ((W.alloc (.cells #[.func (.yield l) #[] #[]] 155)).alloc (.cells #[fromV Bs W.heap.size (W.heap.size + 1)] 156)) := ⟨_, rfl⟩
  have hBX : Below W.heap.size W X := by rw [hX]; exact ((Below.refl _ _).alloc (Nat.le_refl _) _).alloc (by simp) _
  have hcy : X.cell? ⟨W.heap.size, 0, none⟩ = some (.func (.yield l) #[] #[]) := by rw [hX]; go_simp
  have hcf : X.cell? ⟨W.heap.size + 1, 0, none⟩ = some (fromV Bs W.heap.size (W.heap.size + 1)) := by rw [hX]; go_simp
  have hcs : X.cell? ⟨Bs, 0, none⟩ = some (.pointer (some ⟨b, 0, none⟩)) := (hBX.cell (p := ⟨Bs, 0, none⟩) hBz).trans hBW
  have hXX := HX.out.below hBX
  have HFR : Hid (FrCtx r X b n S C L specs calls es ls Bs W.heap.size (W.heap.size + 1) l) := hide ⟨hXX, hcs, hcy, hcf, HNW.out.keep ((KeepC.of_below hBX).x r), ⟨HNB.out.1, HNB.out.2, fun e => by have := HNW.out.lt _ e.symm; omega, fun e => by have := HNW.out.lt _ e.symm; omega⟩, HNS.out, HNL.out⟩
  have HJX := hide (hJ _ _ _ none h0 (grown_of_below hBX none) (fun _ e => by cases e))
  have hJ0 : ∀ Y, X.grownBy Y none → J [] Y := fun Y hg => hJ _ _ _ none HJX.out hg (fun _ e => by cases e)
  have FA := from_all r nd hnd1 b n S C L specs calls es ls Bs W.heap.size (W.heap.size + 1) l (allS n specs calls es ls es.length [] (specs.map (newM n))).length W.heap.size J Jx hJ HE.out HM.out H8.out hY es.length
  have HFA := hide FA
  have HXE := hide hX
  unfold fromV at hcf hX
  clear hY h0 hJ FA hXX hBW
  refine wpIn_wide.2 ?_
  rw [← hX]
  clear hX HXE
  refine wp_region_seql (fun Y => Y.cell? ⟨W.heap.size + 1, 0, none⟩ = some (.func (.func 93) #[] #[.pointer (some ⟨Bs, 0, none⟩), .pointer (some ⟨W.heap.size, 0, none⟩), .pointer (some ⟨W.heap.size + 1, 0, none⟩)]) ∧ Y.cell? ⟨Bs, 0, none⟩ = some (.pointer (some ⟨b, 0, none⟩))) [3] (.take 0 <| .take 1 <| .run 2 <| .run 3 <| .done) (by kernel_rfl) (by kernel_rfl) (by kernel_rfl) ⟨hcf, hcs⟩ ?_
  iterate 2 (refine seql_take (v := ?_) rfl (by rfl) ?_ ?_; rotate_left; (focus (intro wS hS; obtain ⟨hS1, hS2⟩ := hS; go_simp; exact rfl)); simp only [Act.put, List.setIfInBounds_toArray, List.set_cons_zero, List.set_cons_succ])
  refine seql_run rfl (by rfl) (fun K hK => ?_)
  go_simp
  have hXd := HFR.out.ctx.below ((Below.refl _ X).drew)
  refine (smodels_any b n S C L specs X.drew hXd.at_ hXd.specs HOK.out H8.out).mono ?_
  rintro e w2 ⟨v, ps, rfl, hst, hps, hb2⟩
  have hb := (show Below X.heap.size X w2 from ((Below.refl _ X).drew).trans hb2)
  have hkc := KeepC.of_below hb
  refine hK _ _ ⟨hkc.cell hcf, hkc.cell hcs⟩ ?_
  clear hK K
  refine seql_late rfl rfl (by rfl) (fun K hK => ?_)
  go_simp
  have hok2 : StOk n specs (ps.map Prod.fst) (80 + 2 * ([] : List Nat).length) := by
    rw [hps]
    exact StOk.new HOK.out
  refine (HFA.out [] ps (.slice none 0 0) v X.heap.size [] w2 (by simp) List.nodup_nil (fun x hx => by cases hx) ⟨none, 0, rfl, Nat.le_refl _, Nat.zero_le _, by intro k x h; simp at h⟩ (notAt_nil r 0 0) hst hb.size hok2 (HFR.out.keepC hkc) (hJ0 _ (grown_of_below hb none)) (by rw [hps]; simp)).mono ?_
  rintro e3 w3 (⟨rfl, ys, hJ3, hm3, _⟩ | ⟨rfl, ys, hne, hJ3, hm3⟩)
  · refine hK _ _ ?_
    clear hK K
    refine seql_nil ?_
    go_end0
    exact ⟨⟨_, rfl⟩, Or.inl ⟨ys, by rw [hm3, hps], hJ3⟩⟩
  · refine hK _ _ ?_
    clear hK K
    refine seql_nil ?_
    go_end0
    exact ⟨⟨_, rfl⟩, Or.inr ⟨ys, ⟨hne, by rw [← hps]; exact hm3⟩, hJ3⟩⟩
end
def okEv (n : Int) (calls : List Cl) (e : Ev) : Bool := decide (0 ≤ e.call) && (decide (e.call < calls.length) && (match calls[e.call.toNat]? with | some c => decide (0 ≤ c.thread) && decide (c.thread < n) | none => false))
theorem okEv_iff {n : Int} {calls : List Cl} {e : Ev} : okEv n calls e = true ↔ (0 ≤ e.call ∧ e.call < calls.length) ∧ ∀ c, calls[e.call.toNat]? = some c → 0 ≤ c.thread ∧ c.thread < n := by
  unfold okEv
  simp only [Bool.and_eq_true, decide_eq_true_eq]
  refine ⟨fun ⟨h1, h2, h3⟩ => ⟨⟨h1, h2⟩, fun c hc => ?_⟩, fun ⟨⟨h1, h2⟩, h3⟩ => ⟨h1, h2, ?_⟩⟩
  · rw [hc] at h3
    simpa using h3
  · obtain ⟨c, hc⟩ : ∃ c, calls[e.call.toNat]? = some c := ⟨_, List.getElem?_eq_getElem (by omega)⟩
    rw [hc]
    simpa using h3 c hc
theorem evsOk_of {n : Int} {calls : List Cl} {es : List Ev} (h : es.all (okEv n calls) = true) (hw : ∀ c ∈ calls, U64 c.a ∧ U64 c.b ∧ U64 c.c) : EvsOk n calls es := by
  rw [List.all_eq_true] at h
  exact ⟨fun k e he => (okEv_iff.1 (h e (List.mem_of_getElem? he))).1, fun k e c he hc => (okEv_iff.1 (h e (List.mem_of_getElem? he))).2 c hc, hw⟩
def srchE (n : Int) (specs : List Sp) (calls : List Cl) (es : List Ev) : Int :=
  if layE n specs ≠ 0 then layE n specs else if 6 < es.length then 3 else if es.all (okEv n calls) = true then 0 else 5
theorem okEv_no {n : Int} {calls : List Cl} {es : List Ev} {k : Nat} {e : Ev} (he : es[k]? = some e) (h : okEv n calls e = false) : es.all (okEv n calls) = false := by
  rw [List.all_eq_false]
  exact ⟨e, List.mem_of_getElem? he, by simp [h]⟩
theorem okEv_all {n : Int} {calls : List Cl} {es : List Ev} (h : ∀ (j : Nat) (e : Ev), j < es.length → es[j]? = some e → okEv n calls e = true) : es.all (okEv n calls) = true := by
  rw [List.all_eq_true]
  intro e he
  obtain ⟨j, hj⟩ := List.mem_iff_getElem?.1 he
  exact h j e (List.getElem?_eq_some_iff.1 hj).1 hj
end Go.Proofs.YtmiimpmfkjcjlaaGreat
