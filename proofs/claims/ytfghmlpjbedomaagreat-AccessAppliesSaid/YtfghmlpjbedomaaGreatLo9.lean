/- A play on a loom: a pick (Player.Pick), walked. -/
import Derived.Test.YtfghmlpjbedomaaGreatLo8
namespace Go.Proofs.YtfghmlpjbedomaaGreat
open Go.RowKit

theorem pick_at {M O : Type} {G : Gm M O} {cs : List Cl} {P : Ps M O} {t i : Nat} {c : Cl} (h : nowF cs P.fin t = some i) (hc : cs[i]? = some c) : P.pick G cs t = (P.at G t i c).1.step G t i (P.at G t i c).2.1 (P.at G t i c).2.2 := by
  unfold Ps.pick Ps.at
  rw [h]
  simp only [Int.toNat_natCast]
  cases P.hands t with
  | some mh => rfl
  | none => simp only [hc]; rfl
theorem at_fin {M O : Type} {G : Gm M O} {P : Ps M O} {t i : Nat} {c : Cl} : (P.at G t i c).1.fin = P.fin := by
  unfold Ps.at
  cases P.hands t with
  | some mh => rfl
  | none => rfl
theorem step_fin_no {M O : Type} {G : Gm M O} {P : Ps M O} {t i h : Nat} {m : M} (hd : (G.step P.obj P.lw t m).2.2.2 = false) : { P.step G t i m h with fin := P.fin } = P.step G t i m h := by
  have := (step_more (i := i) (h := h) (show (P.after G t m).2.2.2 = false from hd)).2.1
  generalize P.step G t i m h = Q at this ⊢
  rw [← this]
theorem step_fin_yes {M O : Type} {G : Gm M O} {P : Ps M O} {t i h : Nat} {m : M} (hd : (G.step P.obj P.lw t m).2.2.2 = true) : { P.step G t i m h with fin := P.fin.set i true } = P.step G t i m h := by
  have := (step_done (i := i) (h := h) (show (P.after G t m).2.2.2 = true from hd)).2.1
  generalize P.step G t i m h = Q at this ⊢
  rw [← this]
def PickPost {M O : Type} (T : Th M O) (X : Fix) (Mu : Nat → Prop) (P : Ps M O) (w : World) (e : Ending) (w' : World) : Prop :=
  (∃ d, e = .returned (.bool d)) ∧ ∃ Mu' Fo Fm hv ev, PLa T X w' Mu' Fo Fm hv ev P ∧ (∀ k, Mu' k → Mu k ∨ w.heap.size ≤ k) ∧ Keep (fun k => k < w.heap.size ∧ ¬ Mu k) w w'
set_option maxRecDepth 100000 in
set_option maxHeartbeats 2000000 in
theorem playerPick {M O : Type} {T : Th M O} {X : Fix} {w : World} {Mu Fo : Nat → Prop} {Fm : Nat → Nat → Prop} {hv : Nat → Value} {ev : Value} {P : Ps M O} (hT : T.Ok) (h : PLa T X w Mu Fo Fm hv ev P) (hgd : T.good P.obj P.lw P.ms) {k : Nat} (hb : PB P k) (hk : k ≤ 1000000) (p : Int)
    (henv : ∀ (w' : World) (t : Nat), w'.cell? ⟨X.ad.pp, 0, none⟩ = some (.pointer (some ⟨X.ad.pw, 0, none⟩)) → w'.cell? ⟨X.ad.pp, 4, none⟩ = some (.int .i64 (t : Nat)) → T.env w' X.ad t) :
    Calls Tryz.prog 42 #[.pointer (some ⟨X.ad.pp, 0, none⟩), .int .i64 p] w (PickPost T X Mu (P.pick T.G X.cs p) w) := by
  obtain ⟨f, f1, f2, f3, f4, f5, f6, f7, f8⟩ := h.player
  have N0 := lineNow X.ad.pl X.ad.pg X.Bl X.Tl (remF X.cs P.fin) p w h.line
  have p0 := f1.cell (i := 0) (by omega)
  have p3 := f1.cell (i := 3) (by omega)
  have p4 := f1.cell (i := 4) (by omega)
  have p45 := f1.cell (i := 45) (by omega)
  rw [f2] at p0
  rw [f5] at p3
  rw [f8] at p45
  have q4 := f1.frozen 4
  have q45 := f1.frozen 45
  have zp := f1.lt
  have i0 := hb.idle0
  have i1 : P.idle ≤ 1000000 := by have := hb.idle; omega
  have hpm := h.muFix X.ad.pp (Or.inl rfl)
  have hlt := h.lt
  have HF := hide (show w.rowIs X.ad.pp 141 46 f ∧ f 0 = .pointer (some ⟨X.ad.pw, 0, none⟩) ∧ f 1 = X.OV ∧ f 2 = X.CV ∧ f 3 = .pointer (some ⟨X.ad.pl, 0, none⟩) ∧ (∀ t, t < 16 → f (5 + t * 2) = hv t ∧ (∀ m h, P.hands t = some (m, h) → f (5 + t * 2 + 1) = .int .i64 (h : Nat)) ∧ (f (5 + t * 2 + 1)).oneCell' = true) ∧ f 37 = ev ∧ f 45 = .int .i64 P.idle from ⟨f1, f2, f3, f4, f5, f6, f7, f8⟩)
  clear f1 f2 f3 f4 f5 f6 f7 f8
  rcases hr : remF X.cs P.fin p with _ | ⟨i, rest⟩
  · rw [hr] at N0
    have hpk : P.pick T.G X.cs p = { P with idle := P.idle + 1 } := by
      unfold Ps.pick nowF
      rw [hr]
      rfl
    rw [hpk]
    have hL := PLa.turned (z := P.idle + 1) (w' := w.setCell ⟨X.ad.pp, 45, none⟩ (.int .i64 (P.idle + 1))) hT h ((Keep.refl _ _).setCell (fun hk => hk.2 rfl) _) ⟨_, HF.out.1.set 45 _, by
      show (if 0 = 45 then _ else f 0) = _
      rw [if_neg (by decide)]; exact HF.out.2.1, by
      show (if 1 = 45 then _ else f 1) = _
      rw [if_neg (by decide)]; exact HF.out.2.2.1, by
      show (if 2 = 45 then _ else f 2) = _
      rw [if_neg (by decide)]; exact HF.out.2.2.2.1, by
      show (if 3 = 45 then _ else f 3) = _
      rw [if_neg (by decide)]; exact HF.out.2.2.2.2.1, fun t ht => ⟨by
        show (if 5 + t * 2 = 45 then _ else f (5 + t * 2)) = _
        rw [if_neg (by omega)]; exact (HF.out.2.2.2.2.2.1 t ht).1, fun m h hm => by
        show (if 5 + t * 2 + 1 = 45 then _ else f (5 + t * 2 + 1)) = _
        rw [if_neg (by omega)]; exact (HF.out.2.2.2.2.2.1 t ht).2.1 m h hm, by
        show (if 5 + t * 2 + 1 = 45 then _ else f (5 + t * 2 + 1)).oneCell' = true
        rw [if_neg (by omega)]; exact (HF.out.2.2.2.2.2.1 t ht).2.2⟩, by
      show (if 37 = 45 then _ else f 37) = _
      rw [if_neg (by decide)]; exact HF.out.2.2.2.2.2.2.1, by
      show (if 45 = 45 then _ else f 45) = _
      rw [if_pos rfl]⟩
    have HL := hide hL
    have HPM := hide hpm
    clear hL h hgd hb hr hpk HF hT hpm hlt
    go_enter Tryz.func42, Tryz.ntmps42
    go_wp2_with fail
    refine N0.mono ?_
    rintro e w1 ⟨rfl, rfl⟩
    go_wp2
    go_ret
    exact ⟨⟨_, rfl⟩, Mu, Fo, Fm, hv, ev, HL.out, fun k hk => Or.inl hk, (Keep.refl _ _).setCell (fun hk => hk.2 HPM.out) _⟩
  · have hnf : nowF X.cs P.fin p = some i := by
      unfold nowF
      rw [hr]
      rfl
    obtain ⟨hi, hth, _⟩ := nowF_some hnf
    have hC : X.cs[i]? = some (X.cs[i]'hi) := List.getElem?_eq_getElem hi
    generalize X.cs[i]'hi = c at hC
    rw [hC] at hth
    have hct : c.thread = p := Option.some.inj hth
    obtain ⟨t0, t1, _⟩ := h.thr c (List.mem_of_getElem? hC)
    obtain ⟨t, rfl⟩ : ∃ t : Nat, p = t := ⟨p.toNat, by omega⟩
    have ht : t < 16 := by omega
    rw [hr] at N0
    simp only [List.headD_cons, List.isEmpty_cons, Bool.not_false] at N0
    have hL := PLa.turned (z := P.idle) (w' := w.setCell ⟨X.ad.pp, 4, none⟩ (.int .i64 t)) hT h ((Keep.refl _ _).setCell (fun hk => hk.2 rfl) _) ⟨_, HF.out.1.set 4 _, by
      show (if 0 = 4 then _ else f 0) = _
      rw [if_neg (by decide)]; exact HF.out.2.1, by
      show (if 1 = 4 then _ else f 1) = _
      rw [if_neg (by decide)]; exact HF.out.2.2.1, by
      show (if 2 = 4 then _ else f 2) = _
      rw [if_neg (by decide)]; exact HF.out.2.2.2.1, by
      show (if 3 = 4 then _ else f 3) = _
      rw [if_neg (by decide)]; exact HF.out.2.2.2.2.1, fun t ht => ⟨by
        show (if 5 + t * 2 = 4 then _ else f (5 + t * 2)) = _
        rw [if_neg (by omega)]; exact (HF.out.2.2.2.2.2.1 t ht).1, fun m h hm => by
        show (if 5 + t * 2 + 1 = 4 then _ else f (5 + t * 2 + 1)) = _
        rw [if_neg (by omega)]; exact (HF.out.2.2.2.2.2.1 t ht).2.1 m h hm, by
        show (if 5 + t * 2 + 1 = 4 then _ else f (5 + t * 2 + 1)).oneCell' = true
        rw [if_neg (by omega)]; exact (HF.out.2.2.2.2.2.1 t ht).2.2⟩, by
      show (if 37 = 4 then _ else f 37) = _
      rw [if_neg (by decide)]; exact HF.out.2.2.2.2.2.2.1, by
      show (if 45 = 4 then _ else f 45) = _
      rw [if_neg (by decide)]; exact HF.out.2.2.2.2.2.2.2⟩
    have hL' : PLa T X (w.setCell ⟨X.ad.pp, 4, none⟩ (.int .i64 t)) Mu Fo Fm hv ev P := hL
    have N1 := playerStep hT hL' hgd ht hC hct (by have := hb.len; omega) (by have := hb.now0; have := hb.now; omega) (fun e he => by have := hb.steps e he; omega) (fun w' h0 h4 => henv w' t h0 h4) (by rw [World.cell?_setCell_same (h := p4)])
    have hfin := h.fin
    rw [pick_at hnf hC]
    have hf1 : (P.at T.G t i c).1.fin = P.fin := at_fin
    have hpl := h.types
    have hmupl := h.muFix X.ad.pl (Or.inr (Or.inl rfl))
    have hmupg := h.muFix X.ad.pg (Or.inr (Or.inr (Or.inl rfl)))
    generalize (P.at T.G t i c).1 = P1 at N1 hf1 ⊢
    generalize (P.at T.G t i c).2.1 = m1 at N1 ⊢
    generalize (P.at T.G t i c).2.2 = h1 at N1 ⊢
    obtain ⟨d, hd⟩ : ∃ d, (T.G.step P1.obj P1.lw t m1).2.2.2 = d := ⟨_, rfl⟩
    unfold StepPost at N1
    rw [hd] at N1
    have hK4 : Keep (fun k => k < w.heap.size ∧ ¬ Mu k) w (w.setCell ⟨X.ad.pp, 4, none⟩ (.int .i64 t)) := (Keep.refl _ _).setCell (fun hk => hk.2 hpm) _
    have HK4 := hide hK4
    have HT := hide hT
    have HPL := hide hpl
    have HR := hide hr
    have HD := hide hd
    have HF1 := hide hf1
    clear hL hL' h hgd hb hr hnf HF hT hpm hlt hct hC hth t0 t1 hK4 hpl hd hf1
    rcases d with _ | _
    · go_enter Tryz.func42, Tryz.ntmps42
      go_wp2_with fail
      refine N0.mono ?_
      rintro e w1 ⟨rfl, rfl⟩
      go_wp2_with fail
      refine N1.mono ?_
      rintro e w2 ⟨rfl, Mu2, Fo2, Fm2, hv2, ev2, hL2, hmu2, hk2⟩
      have HL2 := hide hL2
      have HK2 := hide hk2
      clear hL2 hk2 N0 N1
      go_wp2
      go_ret
      refine ⟨⟨_, rfl⟩, Mu2, Fo2, Fm2, hv2, ev2, ?_, fun k hk => by simpa using hmu2 k hk, ⟨HK2.out.os.trans HK4.out.os, HK2.out.tape.trans HK4.out.tape, HK2.out.output.trans HK4.out.output, Nat.le_trans HK4.out.size HK2.out.size, fun k hk => (HK2.out.block k ⟨by simpa using hk.1, hk.2⟩).trans (HK4.out.block k hk)⟩⟩
      have := HL2.out
      rw [step_fin_no HD.out] at this
      exact this
    · go_enter Tryz.func42, Tryz.ntmps42
      go_wp2_with fail
      refine N0.mono ?_
      rintro e w1 ⟨rfl, rfl⟩
      go_wp2_with fail
      refine N1.mono ?_
      rintro e w2 ⟨rfl, Mu2, Fo2, Fm2, hv2, ev2, hL2, hmu2, hk2⟩
      have hrem : remF X.cs P1.fin t = i :: rest := by rw [HF1.out]; exact HR.out
      have N2 := lineFinish X.ad.pl X.ad.pg X.Bl X.Tl (remF X.cs P1.fin) t i rest w2 hL2.line hrem
      obtain ⟨f', g1, g2, g3, g4, g5, g6⟩ := hL2.player
      have c3 := g1.cell (i := 3) (by omega)
      rw [g5] at c3
      have z2 := g1.lt
      have HL2 := hide hL2
      have HK2 := hide hk2
      clear hL2 hk2 N0 N1 g1 g2 g3 g4 g5 g6
      go_wp2_with fail
      refine N2.mono ?_
      rintro e w3 ⟨rfl, hline, hk3⟩
      have HLN := hide hline
      have HK3 := hide hk3
      clear hline hk3 N2
      go_wp2
      go_ret
      have hline := HLN.out
      have hff : (fun x => if x = (t : Int) then rest else remF X.cs P1.fin x) = remF X.cs (P1.fin.set i true) := by
        funext x
        obtain ⟨r1, r2⟩ := remF_finish (by rw [HF1.out]; exact hfin) hrem
        by_cases e : x = (t : Int)
        · rw [if_pos e, e, r1]
        · rw [if_neg e, r2 x e]
      rw [hff] at hline
      have hL3 := PLa.lined HT.out HL2.out HK3.out hline (by rw [List.length_set, HF1.out]; exact hfin)
      refine ⟨⟨_, rfl⟩, Mu2, Fo2, Fm2, hv2, ev2, ?_, fun k hk => by simpa using hmu2 k hk, ?_⟩
      · have : PLa T X w3 Mu2 Fo2 Fm2 hv2 ev2 { P1.step T.G t i m1 h1 with fin := P1.fin.set i true } := hL3
        rw [step_fin_yes HD.out] at this
        exact this
      · have hk2 : Keep (fun k => k < w1.heap.size ∧ ¬ Mu k) w1 w2 := ⟨HK2.out.os.trans HK4.out.os, HK2.out.tape.trans HK4.out.tape, HK2.out.output.trans HK4.out.output, Nat.le_trans HK4.out.size HK2.out.size, fun k hk => (HK2.out.block k ⟨by simpa using hk.1, hk.2⟩).trans (HK4.out.block k hk)⟩
        refine ⟨HK3.out.os.trans hk2.os, HK3.out.tape.trans hk2.tape, HK3.out.output.trans hk2.output, Nat.le_trans hk2.size HK3.out.size, fun k hk => (HK3.out.block k ⟨fun e => hk.2 (e ▸ hmupl), fun e => hk.2 (e ▸ hmupg), Nat.lt_of_lt_of_le hk.1 hk2.size⟩).trans (hk2.block k hk)⟩
end Go.Proofs.YtfghmlpjbedomaaGreat
