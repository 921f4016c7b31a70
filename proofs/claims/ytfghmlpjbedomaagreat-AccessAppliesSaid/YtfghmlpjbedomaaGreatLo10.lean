/- A play on a loom: the end (Player.end): when operations took effect that have not responded. -/
import Derived.Test.YtfghmlpjbedomaaGreatLo9
import Derived.Deep.MidRow
namespace Go.Proofs.YtfghmlpjbedomaaGreat
open Go.RowKit

def endT {M O : Type} (G : Gm M O) (P : Ps M O) (evs : List Ep) (t : Nat) : List Ep := match P.hands t with
  | none => evs
  | some (m, h) => evs.modify h fun e => { e with key := match G.late P.obj P.lw m with | some k => k | none => P.lw.marks t }
def Ps.endsK {M O : Type} (G : Gm M O) (P : Ps M O) (k : Nat) : List Ep := (List.range k).foldl (endT G P) P.evs
theorem endsK_all {M O : Type} (G : Gm M O) (P : Ps M O) : P.endsK G 16 = P.ends G := rfl
theorem endsK_succ {M O : Type} (G : Gm M O) (P : Ps M O) (k : Nat) : P.endsK G (k + 1) = endT G P (P.endsK G k) k := by
  unfold Ps.endsK
  rw [List.range_succ, List.foldl_append]
  rfl
theorem endT_len {M O : Type} (G : Gm M O) (P : Ps M O) (evs : List Ep) (k : Nat) : (endT G P evs k).length = evs.length := by
  unfold endT
  split <;> simp
theorem endsK_len {M O : Type} (G : Gm M O) (P : Ps M O) (k : Nat) : (P.endsK G k).length = P.evs.length := by
  induction k with
  | zero => rfl
  | succ k ih => rw [endsK_succ, endT_len, ih]
/-- One more block that is written. -/
theorem PLa.wider {M O : Type} {T : Th M O} {X : Fix} {w w' : World} {Mu Fo : Nat → Prop} {Fm : Nat → Nat → Prop} {hv : Nat → Value} {ev : Value} {P : Ps M O} (hT : T.Ok) (h : PLa T X w Mu Fo Fm hv ev P) {Mu' : Nat → Prop} (hK : Keep (fun k => k < w.heap.size) w w') (h1 : ∀ k, Mu k → Mu' k) (h2 : ∀ k, k < w.heap.size → Mu' k → Mu k) (h3 : ∀ k, Mu' k → k < w'.heap.size) : PLa T X w' Mu' Fo Fm hv ev P := by
  obtain ⟨f, f1, f2⟩ := h.player
  have hlt := h.lt
  have h6 : ∀ k, X.six k → k < w.heap.size := fun k hk => hlt k (h.muFix k hk)
  refine ⟨⟨f, rowIs_keep f1 hK (h6 _ (Or.inl rfl)), f2⟩, h.world.keep hK (fun k hk _ => hk) h2 (h6 _ (Or.inr (Or.inr (Or.inr (Or.inl rfl))))) (h6 _ (Or.inr (Or.inr (Or.inr (Or.inr (Or.inl rfl)))))) (h6 _ (Or.inr (Or.inr (Or.inr (Or.inr (Or.inr (Or.inl rfl))))))) (h6 _ (Or.inr (Or.inr (Or.inr (Or.inr (Or.inr (Or.inr rfl))))))),
    h.line.keep hK (h6 _ (Or.inr (Or.inl rfl))) (h6 _ (Or.inr (Or.inr (Or.inl rfl)))) (fun k h1 h2 => by have := h.gap2; omega), hT.obKeep h.objs hK (fun k hk => hlt k (h.muFo k hk).1), h.hnone, fun t m hh hm => ?_, h.evs.keep hK (fun k hk _ => hk) h2 (fun k hk => hlt k (h.muEv k hk).1), fun k hk => h1 k (h.muFix k hk), fun k hk => ⟨h1 k (h.muEv k hk).1, (h.muEv k hk).2⟩, fun k hk => ⟨h1 k (h.muFo k hk).1, (h.muFo k hk).2⟩, fun t m hh k hm hk => ⟨h1 k (h.muFm t m hh k hm hk).1, (h.muFm t m hh k hm hk).2⟩, h.apart, h3, fun k hk => ?_, ⟨h.gap2.1, Nat.le_trans h.gap2.2 hK.size⟩, h.ne, ?_, ?_, h.fin, h.thr⟩
  · obtain ⟨a1, a2, a3⟩ := h.hsome t m hh hm
    exact ⟨a1, hT.mlKeep a2 hK (fun k hk => hlt k (h.muFm t m hh k hm hk).1), a3⟩
  · by_cases e : k < w.heap.size
    · exact h.gap k (h2 k e hk)
    · have := h.gap2
      omega
  · obtain ⟨A, cc, e1, e2, e3, e4⟩ := h.calls
    exact ⟨A, cc, e1, sl_keepG e2 hK (fun a ha hl => sl_block e2 ha hl), e3, fun a ha hl hm => e4 a ha hl (h2 _ (sl_block e2 ha hl) hm)⟩
  · obtain ⟨A, cc, e1, e2, e4⟩ := h.ovs
    exact ⟨A, cc, e1, sl_keepG e2 hK (fun a ha hl => sl_block e2 ha hl), fun a ha hl hm => e4 a ha hl (h2 _ (sl_block e2 ha hl) hm)⟩
/-- The hands, as one value. -/
def handsV (f : Nat → Value) : List Value := (List.range 32).map fun j => f (5 + j)
set_option maxRecDepth 100000 in
theorem hand_at (f : Nat → Value) {t : Nat} (ht : t < 16) (w : World) : (Instr.index 139 (.agg (handsV f).toArray) (.int .i64 t)).run Tryz.prog w = .ok (.agg #[f (5 + t * 2), f (5 + t * 2 + 1)]) w := by
  match t, ht with
  | 0, _ => exact (by kernel_rfl : (Instr.index 139 (.agg (handsV f).toArray) (.int .i64 0)).run Tryz.prog w = .ok (.agg #[f 5, f 6]) w)
  | 1, _ => exact (by kernel_rfl : (Instr.index 139 (.agg (handsV f).toArray) (.int .i64 1)).run Tryz.prog w = .ok (.agg #[f 7, f 8]) w)
  | 2, _ => exact (by kernel_rfl : (Instr.index 139 (.agg (handsV f).toArray) (.int .i64 2)).run Tryz.prog w = .ok (.agg #[f 9, f 10]) w)
  | 3, _ => exact (by kernel_rfl : (Instr.index 139 (.agg (handsV f).toArray) (.int .i64 3)).run Tryz.prog w = .ok (.agg #[f 11, f 12]) w)
  | 4, _ => exact (by kernel_rfl : (Instr.index 139 (.agg (handsV f).toArray) (.int .i64 4)).run Tryz.prog w = .ok (.agg #[f 13, f 14]) w)
  | 5, _ => exact (by kernel_rfl : (Instr.index 139 (.agg (handsV f).toArray) (.int .i64 5)).run Tryz.prog w = .ok (.agg #[f 15, f 16]) w)
  | 6, _ => exact (by kernel_rfl : (Instr.index 139 (.agg (handsV f).toArray) (.int .i64 6)).run Tryz.prog w = .ok (.agg #[f 17, f 18]) w)
  | 7, _ => exact (by kernel_rfl : (Instr.index 139 (.agg (handsV f).toArray) (.int .i64 7)).run Tryz.prog w = .ok (.agg #[f 19, f 20]) w)
  | 8, _ => exact (by kernel_rfl : (Instr.index 139 (.agg (handsV f).toArray) (.int .i64 8)).run Tryz.prog w = .ok (.agg #[f 21, f 22]) w)
  | 9, _ => exact (by kernel_rfl : (Instr.index 139 (.agg (handsV f).toArray) (.int .i64 9)).run Tryz.prog w = .ok (.agg #[f 23, f 24]) w)
  | 10, _ => exact (by kernel_rfl : (Instr.index 139 (.agg (handsV f).toArray) (.int .i64 10)).run Tryz.prog w = .ok (.agg #[f 25, f 26]) w)
  | 11, _ => exact (by kernel_rfl : (Instr.index 139 (.agg (handsV f).toArray) (.int .i64 11)).run Tryz.prog w = .ok (.agg #[f 27, f 28]) w)
  | 12, _ => exact (by kernel_rfl : (Instr.index 139 (.agg (handsV f).toArray) (.int .i64 12)).run Tryz.prog w = .ok (.agg #[f 29, f 30]) w)
  | 13, _ => exact (by kernel_rfl : (Instr.index 139 (.agg (handsV f).toArray) (.int .i64 13)).run Tryz.prog w = .ok (.agg #[f 31, f 32]) w)
  | 14, _ => exact (by kernel_rfl : (Instr.index 139 (.agg (handsV f).toArray) (.int .i64 14)).run Tryz.prog w = .ok (.agg #[f 33, f 34]) w)
  | 15, _ => exact (by kernel_rfl : (Instr.index 139 (.agg (handsV f).toArray) (.int .i64 15)).run Tryz.prog w = .ok (.agg #[f 35, f 36]) w)
  | t + 16, h => exact absurd h (by omega)
def EndPost {M O : Type} (T : Th M O) (X : Fix) (Mu Fo : Nat → Prop) (Fm : Nat → Nat → Prop) (hv : Nat → Value) (ev : Value) (P : Ps M O) (w : World) (e : Ending) (w' : World) : Prop :=
  e = .returned (.tuple #[]) ∧ PLa T X w' Mu Fo Fm hv ev { P with evs := P.ends T.G } ∧ Keep (fun k => k < w.heap.size ∧ ev.ownBlock ≠ some k) w w'
set_option maxRecDepth 100000 in
set_option maxHeartbeats 2000000 in
theorem playerEnd {M O : Type} {T : Th M O} {X : Fix} {w : World} {Mu Fo : Nat → Prop} {Fm : Nat → Nat → Prop} {hv : Nat → Value} {ev : Value} {P : Ps M O} (hT : T.Ok) (h : PLa T X w Mu Fo Fm hv ev P) :
    Calls Tryz.prog 72 #[.pointer (some ⟨X.ad.pp, 0, none⟩)] w (EndPost T X Mu Fo Fm hv ev P w) := by
  have hpl := h.player
  obtain ⟨f, f1, f2, f3, f4, f5, f6, f7, f8⟩ := hpl
  have p0 := f1.cell (i := 0) (by omega)
  rw [f2] at p0
  have zp := f1.lt
  have hra : w.rangeAt X.ad.pp 5 (handsV f) := by
    intro j v hj
    unfold handsV at hj
    rw [List.getElem?_map] at hj
    have hj32 : j < 32 := by
      by_cases e : j < 32
      · exact e
      · rw [List.getElem?_eq_none (by simp; omega)] at hj
        cases hj
    rw [List.getElem?_range hj32] at hj
    cases hj
    exact f1.cell (i := 5 + j) (by omega)
  have hix : ∀ t : Nat, t < 16 → ∀ w, (Instr.index 139 (.agg (handsV f).toArray) (.int .i64 t)).run Tryz.prog w = .ok (.agg #[f (5 + t * 2), f (5 + t * 2 + 1)]) w := fun t ht w => hand_at f ht w
  have hlen : (handsV f).length = 32 := by unfold handsV; simp
  generalize handsV f = FA at hra hix hlen
  have HH := hide h
  have HF := hide f6
  have HT := hide hT
  have HX := hide hix
  have HLN := hide hlen
  clear h f1 f2 f3 f4 f5 f6 f7 f8 hT hix hlen
  go_enter Tryz.func72, Tryz.ntmps72
  go_wp2_with (refine wpList_load_mid rfl 139 (.tmp 9) rfl X.ad.pp 5 (by rfl) FA _ hra Tryz.underlying139 rfl (by rw [HLN.out]; kernel_rfl) ?_)
  go_loopw [11] (fun i wr => ∃ k : Nat, k ≤ 16 ∧ i = .int .i64 k ∧ Hid (PLa T X wr Mu Fo Fm hv ev { P with evs := P.endsK T.G k }) ∧ Hid (Keep (fun k => k < w.heap.size ∧ ev.ownBlock ≠ some k) w wr)) (fun i _ => 16 - (intOf i).toNat)
  case atStart => exact ⟨0, by omega, rfl, HH, hide (Keep.refl _ _)⟩
  case round =>
    obtain ⟨k, hk, rfl, hL, hK⟩ := hrel
    by_cases hlt : k < 16
    · have hi := HX.out k hlt
      obtain ⟨e1, e2⟩ := HF.out k hlt
      rw [e1] at hi
      have hlt' : (k : Int) < 16 := by omega
      rcases hh : P.hands k with _ | ⟨m, h⟩
      · rw [hL.out.hnone k hh hlt] at hi
        have hx1 := e2.2
        generalize f (5 + k * 2 + 1) = x at hi hx1
        have hst : ∀ W a m, (store a x m).run Tryz.prog W = stored Tryz.prog W a x m := fun W a m => run_store Tryz.prog W a x m hx1
        clear e2 e1
        go_wp2
        go_roundw
        case rel =>
          have hev : P.endsK T.G (k + 1) = P.endsK T.G k := by
            rw [endsK_succ]
            unfold endT
            rw [hh]
          have hka := (Keep.refl (fun j => j < wr.heap.size) wr).alloc (fun k hk => hk) (.cells #[.nilIface, x] 138)
          refine ⟨k + 1, by omega, by go_num, hide ?_, hide ?_⟩
          · rw [hev]
            exact hL.out.keepAll HT.out hka
          · exact hK.out.trans ⟨hka.os, hka.tape, hka.output, hka.size, fun j hj => hka.block j (Nat.lt_of_lt_of_le hj.1 hK.out.size)⟩
        case measure => first | (simp [intOf]; done) | (simp [intOf]; omega)
      · obtain ⟨ht16, hML, hhl⟩ := hL.out.hsome k m h hh
        obtain ⟨tm, um, hvt⟩ := HT.out.mlIface hML
        obtain ⟨hlate, hlate2⟩ := HT.out.late hML
        rw [hvt] at hi hlate
        rw [e2.1 m h hh] at hi
        obtain ⟨f', f1, f2, f3, f4, f5, f6, f7, f8⟩ := hL.out.player
        obtain ⟨g, g1, g2, g3, g4, g5⟩ := hL.out.world.cells
        obtain ⟨raw, hrow, hrl, hre⟩ := hL.out.evs.row
        have hrl : raw.length = (P.endsK T.G k).length := hrl
        have hlE : (P.endsK T.G k).length = P.evs.length := endsK_len _ _ _
        have hhl : h < (P.endsK T.G k).length := hhl
        obtain ⟨ge, ce, rfl, hge, hgz⟩ := own_some' hrow (by show 0 < (P.endsK T.G k).length; omega)
        obtain ⟨x, hx⟩ : ∃ x, raw[h]? = some x := ⟨_, List.getElem?_eq_getElem (by omega)⟩
        obtain ⟨ep, hep⟩ : ∃ ep, (P.endsK T.G k)[h]? = some ep := ⟨_, List.getElem?_eq_getElem hhl⟩
        have i0 := f1.cell (i := 0) (by omega)
        have i37 := f1.cell (i := 37) (by omega)
        have iz := f1.lt
        rw [f2] at i0
        rw [f7] at i37
        have j18 := g1.cell (i := 18 + k) (by omega)
        have jz := g1.lt
        obtain ⟨A8, c8, e8, hm8n, hm8, hmA⟩ := (g5 k hlt).2
        rw [e8] at j18
        have q7 := row_cells hrow hx hrl 7 _ rfl
        have qf7 := hrow.frozenAt (h * 8 + 7)
        have hh8 : ((h : Nat) : Int) < ((P.endsK T.G k).length : Nat) := by omega
        have HL := hL
        have HK := hK
        have HROW := hide hrow
        have HRE := hide hre
        have HX' := hide hx
        have HEP := hide hep
        have HMK := hide (show KeyIs wr Mu (.slice A8 (P.lw.marks k).length c8) (P.lw.marks k) from ⟨A8, c8, rfl, hm8n, hm8, hmA⟩)
        have HHK := hide hh
        have HLT := hide hlate2
        have HLE := hide hlE
        have HRL := hide hrl
        clear f1 f2 f3 f4 f5 f6 f7 f8 g1 g2 g3 g4 g5 hrow hre hx hep hm8n hm8 hmA e8 hML e1 e2 hh hvt hlE hrl
        go_wp2
        refine wp_region_seq (fun Y => Y.cell? ⟨X.ad.pp, 37, none⟩ = some (.slice (some ⟨ge, 0, none⟩) (P.endsK T.G k).length ce) ∧ Y.cell? ⟨wr.heap.size, 1, none⟩ = some (.int .i64 (h : Nat))) (.take 0 <| .take 1 <| .take 2 <| .take 3 <| .take 4 <| .take 5 <| .take 6 <| .take 7 <| .take 8 <| .done) (by kernel_rfl) (by kernel_rfl) (by kernel_rfl) (by refine ⟨?_, ?_⟩ <;> go_simp) ?_
        repeat (refine seq_take (v := ?_) rfl (by rfl) ?_ ?_; rotate_left; (focus (intro wS hS; obtain ⟨s0, s1⟩ := hS; go_simp; exact rfl)); simp only [Act.put, List.setIfInBounds_toArray, List.set_cons_zero, List.set_cons_succ])
        refine seq_nil ?_
        unfold LateNo at hlate
        go_wp2
        go_roundw
        case rel =>
          have hka : Keep (fun j => j < wr.heap.size ∧ (Value.slice (some ⟨ge, 0, none⟩) (P.endsK T.G k).length ce).ownBlock ≠ some j) wr ((((wr.setCell ⟨ge, h * 8 + 7, none⟩ (.slice A8 (P.lw.marks k).length c8)).alloc (.cells #[.iface tm um, .int .i64 (h : Nat)] 138)).drew)) :=
            (((Keep.refl _ wr).setCell (fun hk => hk.2 rfl) _).alloc (fun k hk => by simpa using hk.1) _).drew
          have hkb : Keep (fun j => j ≠ wr.heap.size ∧ j < wr.heap.size) (wr.setCell ⟨ge, h * 8 + 7, none⟩ (.slice A8 (P.lw.marks k).length c8)) ((((wr.setCell ⟨ge, h * 8 + 7, none⟩ (.slice A8 (P.lw.marks k).length c8)).alloc (.cells #[.iface tm um, .int .i64 (h : Nat)] 138)).drew)) :=
            ((Keep.refl _ _).alloc (fun k hk => by simpa using hk.2) _).drew
          have hkn : ∀ j, j < wr.heap.size → ¬ Mu j → j < wr.heap.size ∧ (Value.slice (some ⟨ge, 0, none⟩) (P.endsK T.G k).length ce).ownBlock ≠ some j := fun j h1 h2 => ⟨h1, fun e => h2 (HL.out.muEv j e).1⟩
          have hxe := (HRE.out h x ep HX'.out HEP.out).keep hka hkn (fun k _ hm => hm)
          have hrow7 := row_field (x' := { x with kA := A8, kN := (P.lw.marks k).length, kC := c8 }) (u := .slice A8 (P.lw.marks k).length c8) HROW.out HX'.out (j := 7) (by decide) rfl
          have hrowF := owns_keepV hrow7 hkb (fun j hj => by cases hj; exact ⟨Nat.ne_of_lt hgz, hgz⟩)
          have hE := EvsAt.turn (B := X.Tl) (hh := h) (x' := { x with kA := A8, kN := (P.lw.marks k).length, kC := c8 }) (ep' := { ep with key := P.lw.marks k }) (v := .slice (some ⟨ge, 0, none⟩) (P.endsK T.G k).length ce) HRL.out HRE.out hka hkn (fun k _ hm => hm) hrowF ⟨hxe.call, hxe.inv, hxe.resp, hxe.steps, hxe.err, hxe.val, hxe.list, HMK.out.keep hka hkn (fun k _ hm => hm)⟩
          have hL2 := HL.out.evsTo HT.out (es' := (P.endsK T.G k).set h { ep with key := P.lw.marks k }) (by simp) hka hE
          have hev : P.endsK T.G (k + 1) = (P.endsK T.G k).set h { ep with key := P.lw.marks k } := by
            rw [endsK_succ]
            unfold endT
            rw [HHK.out]
            simp only [HLT.out]
            exact modify_set _ HEP.out
          refine ⟨k + 1, by omega, by go_num, hide ?_, hide ?_⟩
          · rw [hev]
            exact hL2
          · exact HK.out.trans ⟨hka.os, hka.tape, hka.output, hka.size, fun j hj => hka.block j ⟨Nat.lt_of_lt_of_le hj.1 HK.out.size, hj.2⟩⟩
        case measure => first | (simp [intOf]; done) | (simp [intOf]; omega)
    · obtain rfl : k = 16 := by omega
      go_wp2
      go_end0
      exact ⟨rfl, hL.out, hK.out⟩
end Go.Proofs.YtfghmlpjbedomaaGreat
