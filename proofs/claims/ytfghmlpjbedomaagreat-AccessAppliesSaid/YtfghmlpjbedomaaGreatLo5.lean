/- A play on a loom: a thread begins a call (Player.start). -/
import Derived.Test.YtfghmlpjbedomaaGreatLo4
import Derived.Test.YtfghmlpjbedomaaGreatSeqL
import Derived.Deep.QuietTactic
import Derived.BigQuiet
namespace Go.Proofs.YtfghmlpjbedomaaGreat
open Go.RowKit

theorem info_event : (Tryz.prog.info? 66).map (fun i => (i.zero, i.size, i.bytes)) = some (some (.agg #[.int .i64 0, .int .i64 0, .int .i64 0, .int .i64 0, .int .i64 0, .int .u64 0, .slice none 0 0, .slice none 0 0]), 8, 96) := by kernel_rfl
def StartPost {M O : Type} (T : Th M O) (X : Fix) (Mu : Nat → Prop) (P : Ps M O) (t i : Nat) (c : Cl) (w : World) (e : Ending) (w' : World) : Prop :=
  e = .returned (.tuple #[]) ∧ ∃ Mu' Fo Fm hv ev, PLa T X w' Mu' Fo Fm hv ev (P.start T.G t i c) ∧ (∀ k, Mu' k → Mu k ∨ w.heap.size ≤ k) ∧ Keep (fun k => k < w.heap.size ∧ ¬ Mu k) w w' ∧ ∀ u, w.cell? ⟨X.ad.pp, 4, none⟩ = some u → w'.cell? ⟨X.ad.pp, 4, none⟩ = some u


/-- What a thread's beginning leaves, from what lay ahead of the object's Start. -/
theorem start_done {M O : Type} {T : Th M O} {X : Fix} {w W6 W7 : World} {Mu Fo : Nat → Prop} {Fm : Nat → Nat → Prop} {hv : Nat → Value} {ev ev' u : Value} {P : Ps M O} (hT : T.Ok) (h : PLa T X w Mu Fo Fm hv ev P) {t i : Nat} {c : Cl} (ht : t < 16) (hn : P.hands t = none) (hc : c.thread = t) {f g : Nat → Value} {Fo' Fm' : Nat → Prop}
    (hf : w.rowIs X.ad.pp 141 46 f ∧ f 0 = .pointer (some ⟨X.ad.pw, 0, none⟩) ∧ f 1 = X.OV ∧ f 2 = X.CV ∧ f 3 = .pointer (some ⟨X.ad.pl, 0, none⟩) ∧ (∀ t, t < 16 → f (5 + t * 2) = hv t ∧ (∀ m h, P.hands t = some (m, h) → f (5 + t * 2 + 1) = .int .i64 (h : Nat)) ∧ (f (5 + t * 2 + 1)).oneCell' = true) ∧ f 37 = ev ∧ f 45 = .int .i64 P.idle)
    (hg : w.rowIs X.ad.pw 134 35 g ∧ g 0 = .pointer (some ⟨X.ad.pm, 0, none⟩) ∧ g 1 = .int .i64 P.lw.now ∧ g 34 = .map (some X.ad.pt) ∧ ∀ t, t < 16 → g (2 + t) = .int .i64 (P.lw.inv t) ∧ KeyIs w Mu (g (18 + t)) (P.lw.marks t))
    (raw : List Ev) (hrl : raw.length = P.evs.length) (hre : ∀ (i : Nat) (x : Ev) (e : Ep), raw[i]? = some x → P.evs[i]? = some e → EvIs w Mu x e) (hrow : w.ownsRow X.Tl 66 8 ev P.evs.length (raw.flatMap evEnc))
    (hpp : W6.rowIs X.ad.pp 141 46 (fun j => if j = 37 then ev' else if j = 5 + t * 2 + 1 then .int .i64 (P.evs.length : Nat) else f j))
    (hpw : W6.rowIs X.ad.pw 134 35 (fun j => if j = 18 + t then .slice none 0 0 else if j = 2 + t then .int .i64 P.lw.now else g j))
    (hK : Keep (fun k => k < w.heap.size ∧ k ≠ X.ad.pp ∧ k ≠ X.ad.pw ∧ ev.ownBlock ≠ some k) w W6)
    (hown : W6.ownsRow X.Tl 66 8 ev' (P.evs.length + 1) (raw.flatMap evEnc ++ [.int .i64 i, .int .i64 P.lw.now, .int .i64 0, .int .i64 0, .int .i64 0, .int .u64 0, .slice none 0 0, .slice none 0 0]))
    (hevb : ev'.ownBlock = ev.ownBlock ∨ ∃ b, ev'.ownBlock = some b ∧ w.heap.size ≤ b)
    (hO : T.OB W7 Fo' (T.G.start P.obj t c).1) (hM : T.ML W7 Fm' u (T.G.start P.obj t c).2) (hFo : ∀ k, Fo' k → Fo k ∨ W6.heap.size ≤ k) (hFm : ∀ k, Fm' k → Fo k ∨ W6.heap.size ≤ k) (hFF : ∀ k, Fo' k → ¬ Fm' k) (hK7 : Keep (fun k => k < W6.heap.size ∧ ¬ Fo k) W6 W7) :
    StartPost T X Mu P t i c w (.returned (.tuple #[])) (W7.setCell ⟨X.ad.pp, 5 + t * 2, none⟩ u) := by
  have hsz := hK.size
  have hlt := h.lt
  have hppl : X.ad.pp < w.heap.size := hlt _ (h.muFix _ (Or.inl rfl))
  have hpwl : X.ad.pw < w.heap.size := hlt _ (h.muFix _ (Or.inr (Or.inr (Or.inr (Or.inl rfl)))))
  have hFpp : ¬ Fo X.ad.pp := fun hf => (h.muFo _ hf).2 (Or.inl rfl)
  have hFpw : ¬ Fo X.ad.pw := fun hf => (h.muFo _ hf).2 (Or.inr (Or.inr (Or.inr (Or.inl rfl))))
  have hne : X.ad.pp ≠ X.ad.pw := h.types.1
  have hFo'pp : ∀ k, Fo' k → k ≠ X.ad.pp := by
    rintro k hk rfl
    rcases hFo _ hk with h1 | h1
    · exact hFpp h1
    · omega
  have hFm'pp : ∀ k, Fm' k → k ≠ X.ad.pp := by
    rintro k hk rfl
    rcases hFm _ hk with h1 | h1
    · exact hFpp h1
    · omega
  have hS : Keep (fun k => k ≠ X.ad.pp) W7 (W7.setCell ⟨X.ad.pp, 5 + t * 2, none⟩ u) := (Keep.refl _ _).setCell (by simp) _
  have hKw : Keep (fun k => k < w.heap.size ∧ k ≠ X.ad.pp ∧ k ≠ X.ad.pw ∧ ev.ownBlock ≠ some k ∧ ¬ Fo k) w (W7.setCell ⟨X.ad.pp, 5 + t * 2, none⟩ u) :=
    ((hK.mono (fun k hk => ⟨hk.1, hk.2.1, hk.2.2.1, hk.2.2.2.1⟩)).trans (hK7.mono (fun k hk => ⟨by omega, hk.2.2.2.2⟩))).trans (hS.mono (fun k hk => hk.2.1))
  have hEvlt : ∀ k, ev'.ownBlock = some k → k < W6.heap.size := fun k hk => (hown.lt k hk).2
  have hEvFo : ∀ k, ev'.ownBlock = some k → ¬ Fo k := by
    intro k hk hf
    rcases hevb with h1 | ⟨b, h1, h2⟩
    · rw [h1] at hk
      exact (h.muEv k hk).2.2.1 hf
    · rw [h1] at hk
      cases hk
      have := hlt _ (h.muFo _ hf).1
      omega
  have hEvpp : ∀ k, ev'.ownBlock = some k → k ≠ X.ad.pp := by
    rintro k hk rfl
    rcases hevb with h1 | ⟨b, h1, h2⟩
    · rw [h1] at hk
      exact (h.muEv _ hk).2.1 (Or.inl rfl)
    · rw [h1] at hk
      cases hk
      omega
  have hown' : (W7.setCell ⟨X.ad.pp, 5 + t * 2, none⟩ u).ownsRow X.Tl 66 8 ev' (P.evs.length + 1) (raw.flatMap evEnc ++ [.int .i64 i, .int .i64 P.lw.now, .int .i64 0, .int .i64 0, .int .i64 0, .int .u64 0, .slice none 0 0, .slice none 0 0]) :=
    owns_keepV (owns_keepV hown hK7 (fun k hk => ⟨hEvlt k hk, hEvFo k hk⟩)) hS hEvpp
  have hmo : ∀ k, k < w.heap.size → (Mu k ∨ ev'.ownBlock = some k ∨ Fo' k ∨ Fm' k) → Mu k := by
    intro k hk hm
    rcases hm with hm | hm | hm | hm
    · exact hm
    · rcases hevb with h1 | ⟨b, h1, h2⟩
      · rw [h1] at hm
        exact (h.muEv k hm).1
      · rw [h1] at hm
        cases hm
        omega
    · rcases hFo k hm with hm | hm
      · exact (h.muFo k hm).1
      · omega
    · rcases hFm k hm with hm | hm
      · exact (h.muFo k hm).1
      · omega
  have hL := PLa.start (i := i) (Z := W6.heap.size) hT h ht hn hc hf hg (((rowIs_keep hpp hK7 ⟨by omega, hFpp⟩).set (5 + t * 2) u)) ((rowIs_keep hpw hK7 ⟨by omega, hFpw⟩).setOther (by simpa using hne.symm) u) hKw
    (EvsAt.push h.evs (hKw.mono (fun k hk => ⟨hk.1, fun e => hk.2 (h.muFix k (Or.inl e)), fun e => hk.2 (h.muFix k (Or.inr (Or.inr (Or.inr (Or.inl e))))), fun e => hk.2 (h.muEv k e).1, fun e => hk.2 (h.muFo k e).1⟩)) raw hrow hrl hre hown' hmo) ?_ hsz (hT.obKeep hO hS hFo'pp) (hT.mlKeep hM hS hFm'pp) hFo hFm hFF ?_
  · refine ⟨rfl, _, _, _, _, _, hL, fun k hk => ?_, hKw.mono (fun k hk => ?_), fun u4 hu4 => ?_⟩
    · by_cases hkl : k < w.heap.size
      · exact Or.inl (hmo k hkl hk)
      · exact Or.inr (by omega)
    · exact ⟨hk.1, fun e => hk.2 (h.muFix k (Or.inl e)), fun e => hk.2 (h.muFix k (Or.inr (Or.inr (Or.inr (Or.inl e))))), fun e => hk.2 (h.muEv k e).1, fun e => hk.2 (h.muFo k e).1⟩
    · have h4 := hf.1.cell (i := 4) (by omega)
      rw [h4] at hu4
      rw [← hu4]
      have h5 := ((rowIs_keep hpp hK7 ⟨by omega, hFpp⟩).set (5 + t * 2) u).cell (i := 4) (by omega)
      rw [if_neg (by omega), if_neg (by omega), if_neg (by omega)] at h5
      exact h5
  · intro k hk
    rcases hevb with h1 | ⟨b, h1, h2⟩
    · exact Or.inl (h1 ▸ hk)
    · rw [h1] at hk
      cases hk
      exact Or.inr ⟨h2, hEvlt _ h1⟩
  · intro k hk
    have := hEvlt k hk
    have := hK7.size
    simp
    omega
set_option maxRecDepth 100000 in
set_option maxHeartbeats 4000000 in
theorem playerStart {M O : Type} {T : Th M O} {X : Fix} {w : World} {Mu Fo : Nat → Prop} {Fm : Nat → Nat → Prop} {hv : Nat → Value} {ev : Value} {P : Ps M O} (hT : T.Ok) (h : PLa T X w Mu Fo Fm hv ev P) (hgd : T.goodT P.obj P.lw P.ms) {t i : Nat} {c : Cl} (ht : t < 16) (hn : P.hands t = none) (hi : X.cs[i]? = some c) (hc : c.thread = t) (hl : P.evs.length ≤ 1000000) :
    Calls Tryz.prog 100 #[.pointer (some ⟨X.ad.pp, 0, none⟩), .int .i64 t, .int .i64 i] w (StartPost T X Mu P t i c w) := by
  obtain ⟨n1, n2, n3, n4, n5, n6, n7, n8, n9, n10, n11, n12⟩ := h.types
  obtain ⟨f, hf⟩ := h.player
  obtain ⟨g, hg⟩ := h.world.cells
  have HF := hide hf
  have HG := hide hg
  have HH := hide h
  have HGD := hide hgd
  have HT := hide hT
  obtain ⟨f1, f2, f3, f4, f5, f6, f7, f8⟩ := hf
  obtain ⟨g1, g2, g3, g4, g5⟩ := hg
  have p0 := f1.cell (i := 0) (by omega)
  have p1 := f1.cell (i := 1) (by omega)
  have p2 := f1.cell (i := 2) (by omega)
  have p37 := f1.cell (i := 37) (by omega)
  have p5 := f1.cell (i := 5 + t * 2) (by omega)
  have p6 := f1.cell (i := 5 + t * 2 + 1) (by omega)
  have q37 := f1.frozen 37
  have q5 := f1.frozen (5 + t * 2)
  have q6 := f1.frozen (5 + t * 2 + 1)
  have w1 := g1.cell (i := 1) (by omega)
  have w2 := g1.cell (i := 2 + t) (by omega)
  have w18 := g1.cell (i := 18 + t) (by omega)
  have r2 := g1.frozen (2 + t)
  have r18 := g1.frozen (18 + t)
  rw [f2] at p0
  rw [f3] at p1
  rw [f4] at p2
  rw [f7] at p37
  rw [g3] at w1
  have zp := f1.lt
  have zw := g1.lt
  obtain ⟨A, cc, eCV, hcs, hcl, hcm⟩ := h.calls
  obtain ⟨Ao, co, eOV, hov, hom⟩ := h.ovs
  have HOV := hide hov
  have hil := (List.getElem?_eq_some_iff.1 hi).1
  have hcs' := hcs
  obtain ⟨A', c', e, hl1, hl2, hcell⟩ := hcs'
  obtain ⟨bb, oo, e', hbb, hcc⟩ := hcell i c hi
  cases e
  rw [e'] at eCV
  rw [eCV] at p2
  rw [eOV] at p1
  obtain ⟨c0, c1, c2, c3, c4, c5⟩ := cl_cells hcc
  obtain ⟨raw, hrow, hrl, hre⟩ := h.evs.row
  obtain ⟨Ae, ce, eev⟩ := own_slice hrow
  have HROW := hide hrow
  have HRE := hide hre
  rw [eev] at p37
  have HC := hide hc
  have HCU := hide (h.thr c (List.mem_of_getElem? hi)).2.2.1
  have HCL := hide (h.thr c (List.mem_of_getElem? hi)).2.2.2
  have ht' : (t : Int) < 16 := by omega
  clear h hgd f1 f2 f3 f4 f5 f6 f7 f8 g1 g2 g3 g4 g5 hcell hcc hcs hov hrow hre hi hc hT
  obtain ⟨i0, hi0, hi1, hi2, hi3⟩ := info_parts info_event
  have HEL := hide (fun k (hk : ev.ownBlock = some k) => HH.out.lt k (HH.out.muEv k hk).1)
  have HEP := hide (fun k (hk : ev.ownBlock = some k) (e : k = X.ad.pp) => (HH.out.muEv k hk).2.1 (Or.inl e))
  have HEW := hide (fun k (hk : ev.ownBlock = some k) (e : k = X.ad.pw) => (HH.out.muEv k hk).2.1 (Or.inr (Or.inr (Or.inr (Or.inl e)))))
  have hgap := HH.out.gap2
  go_enter Tryz.func100, Tryz.ntmps100
  go_wp2
  refine wp_region_seq (fun Y => Y.cell? ⟨X.ad.pp, 0, none⟩ = some (.pointer (some ⟨X.ad.pw, 0, none⟩)) ∧ Y.cell? ⟨X.ad.pw, 1, none⟩ = some (.int .i64 P.lw.now)) (.take 0 <| .take 1 <| .take 2 <| .take 3 <| .take 4 <| .take 5 <| .take 6 <| .take 7 <| .take 8 <| .take 9 <| .take 10 <| .take 11 <| .take 12 <| .take 13 <| .take 14 <| .run 15 <| .done) (by kernel_rfl) (by kernel_rfl) (by kernel_rfl) (by refine ⟨?_, ?_⟩ <;> go_simp) ?_
  repeat (refine seq_take (v := ?_) rfl (by rfl) ?_ ?_; rotate_left; (focus (intro wS hS; obtain ⟨s0, s1⟩ := hS; go_simp; exact rfl)); simp only [Act.put, List.setIfInBounds_toArray, List.set_cons_zero, List.set_cons_succ])
  (refine seq_run rfl (by rfl) (fun K hK => ?_); go_simp)
  refine hK _ _ (by refine ⟨?_, ?_⟩ <;> go_simp) ?_
  clear hK K
  refine seq_nil ?_
  go_wp2
  refine wp_region_seql (fun Y => Y.cell? ⟨X.ad.pp, 0, none⟩ = some (.pointer (some ⟨X.ad.pw, 0, none⟩)) ∧ Y.cell? ⟨X.ad.pp, 37, none⟩ = some (.slice Ae P.evs.length ce) ∧ Y.cell? ⟨X.ad.pw, 1, none⟩ = some (.int .i64 P.lw.now)) [20] (.take 0 <| .take 1 <| .take 2 <| .take 3 <| .take 4 <| .take 5 <| .take 6 <| .take 7 <| .take 8 <| .take 9 <| .take 10 <| .take 11 <| .take 12 <| .take 13 <| .take 14 <| .run 15 <| .run 16 <| .take 17 <| .take 18 <| .take 19 <| .run 20 <| .done) (by kernel_rfl) (by kernel_rfl) (by kernel_rfl) (by refine ⟨?_, ?_, ?_⟩ <;> go_simp) ?_
  repeat (refine seql_take (v := ?_) rfl (by rfl) ?_ ?_; rotate_left; (focus (intro wS hS; obtain ⟨s0, s1, s2⟩ := hS; go_simp; exact rfl)); simp only [Act.put, List.setIfInBounds_toArray, List.set_cons_zero, List.set_cons_succ])
  refine seql_run rfl (by rfl) (fun K hK => ?_)
  go_simp
  refine hK _ _ (by refine ⟨?_, ?_, ?_⟩ <;> go_simp) ?_
  clear hK K
  refine seql_run rfl (by rfl) (fun K hK => ?_)
  have hkB : Keep (fun k => k < w.heap.size ∧ k ≠ X.ad.pp ∧ k ≠ X.ad.pw) w ((((((w.setCell ⟨X.ad.pw, 2 + t, none⟩ (.int .i64 P.lw.now)).setCell ⟨X.ad.pw, 18 + t, none⟩ (.slice none 0 0)).setCell ⟨X.ad.pp, 5 + t * 2 + 1, none⟩ (.int .i64 (P.evs.length : Nat))).alloc (.cells #[.int .i64 c.thread, .int .i64 c.obj, .int .i64 c.kind, .int .u64 c.a, .int .u64 c.b, .int .u64 c.c] 54)).alloc (.cells #[.int .i64 i, .int .i64 P.lw.now, .int .i64 0, .int .i64 0, .int .i64 0, .int .u64 0, .slice none 0 0, .slice none 0 0] 66)).drew.drew) := by (repeat' (first | exact Keep.refl _ _ | refine Keep.drew ?_ | refine Keep.setCell ?_ ?_ _ | refine Keep.alloc ?_ ?_ _ | (intro k hk; simp at hk ⊢; omega) | (intro hh; simp at hh; done) | (intro hh; simp at hh; omega)))
  have hszB : ((((((w.setCell ⟨X.ad.pw, 2 + t, none⟩ (.int .i64 P.lw.now)).setCell ⟨X.ad.pw, 18 + t, none⟩ (.slice none 0 0)).setCell ⟨X.ad.pp, 5 + t * 2 + 1, none⟩ (.int .i64 (P.evs.length : Nat))).alloc (.cells #[.int .i64 c.thread, .int .i64 c.obj, .int .i64 c.kind, .int .u64 c.a, .int .u64 c.b, .int .u64 c.c] 54)).alloc (.cells #[.int .i64 i, .int .i64 P.lw.now, .int .i64 0, .int .i64 0, .int .i64 0, .int .u64 0, .slice none 0 0, .slice none 0 0] 66)).drew.drew).heap.size = w.heap.size + 2 := by simp
  have hppB : ((((((w.setCell ⟨X.ad.pw, 2 + t, none⟩ (.int .i64 P.lw.now)).setCell ⟨X.ad.pw, 18 + t, none⟩ (.slice none 0 0)).setCell ⟨X.ad.pp, 5 + t * 2 + 1, none⟩ (.int .i64 (P.evs.length : Nat))).alloc (.cells #[.int .i64 c.thread, .int .i64 c.obj, .int .i64 c.kind, .int .u64 c.a, .int .u64 c.b, .int .u64 c.c] 54)).alloc (.cells #[.int .i64 i, .int .i64 P.lw.now, .int .i64 0, .int .i64 0, .int .i64 0, .int .u64 0, .slice none 0 0, .slice none 0 0] 66)).drew.drew).rowIs X.ad.pp 141 46 (fun j => if j = 5 + t * 2 + 1 then .int .i64 (P.evs.length : Nat) else f j) := ((((HF.out.1.setOther (by simpa using n1) _).setOther (by simpa using n1) _).set _ _).alloc _).alloc _
  have hpwB : ((((((w.setCell ⟨X.ad.pw, 2 + t, none⟩ (.int .i64 P.lw.now)).setCell ⟨X.ad.pw, 18 + t, none⟩ (.slice none 0 0)).setCell ⟨X.ad.pp, 5 + t * 2 + 1, none⟩ (.int .i64 (P.evs.length : Nat))).alloc (.cells #[.int .i64 c.thread, .int .i64 c.obj, .int .i64 c.kind, .int .u64 c.a, .int .u64 c.b, .int .u64 c.c] 54)).alloc (.cells #[.int .i64 i, .int .i64 P.lw.now, .int .i64 0, .int .i64 0, .int .i64 0, .int .u64 0, .slice none 0 0, .slice none 0 0] 66)).drew.drew).rowIs X.ad.pw 134 35 (fun j => if j = 18 + t then .slice none 0 0 else if j = 2 + t then .int .i64 P.lw.now else g j) := ((((HG.out.1.set _ _).set _ _).setOther (by simpa using n1.symm) _).alloc _).alloc _
  have hcB : ((((((w.setCell ⟨X.ad.pw, 2 + t, none⟩ (.int .i64 P.lw.now)).setCell ⟨X.ad.pw, 18 + t, none⟩ (.slice none 0 0)).setCell ⟨X.ad.pp, 5 + t * 2 + 1, none⟩ (.int .i64 (P.evs.length : Nat))).alloc (.cells #[.int .i64 c.thread, .int .i64 c.obj, .int .i64 c.kind, .int .u64 c.a, .int .u64 c.b, .int .u64 c.c] 54)).alloc (.cells #[.int .i64 i, .int .i64 P.lw.now, .int .i64 0, .int .i64 0, .int .i64 0, .int .u64 0, .slice none 0 0, .slice none 0 0] 66)).drew.drew).heap[w.heap.size]? = some (.cells #[.int .i64 c.thread, .int .i64 c.obj, .int .i64 c.kind, .int .u64 c.a, .int .u64 c.b, .int .u64 c.c] 54 (0, 0)) := by
    refine (heap_drew _ _).trans ((heap_drew _ _).trans ((heap_alloc_old _ _ (by simp)).trans ?_))
    have := heap_alloc_new (((w.setCell ⟨X.ad.pw, 2 + t, none⟩ (.int .i64 P.lw.now)).setCell ⟨X.ad.pw, 18 + t, none⟩ (.slice none 0 0)).setCell ⟨X.ad.pp, 5 + t * 2 + 1, none⟩ (.int .i64 (P.evs.length : Nat))) (.cells #[.int .i64 c.thread, .int .i64 c.obj, .int .i64 c.kind, .int .u64 c.a, .int .u64 c.b, .int .u64 c.c] 54)
    simpa using this
  have hnewB : ((((((w.setCell ⟨X.ad.pw, 2 + t, none⟩ (.int .i64 P.lw.now)).setCell ⟨X.ad.pw, 18 + t, none⟩ (.slice none 0 0)).setCell ⟨X.ad.pp, 5 + t * 2 + 1, none⟩ (.int .i64 (P.evs.length : Nat))).alloc (.cells #[.int .i64 c.thread, .int .i64 c.obj, .int .i64 c.kind, .int .u64 c.a, .int .u64 c.b, .int .u64 c.c] 54)).alloc (.cells #[.int .i64 i, .int .i64 P.lw.now, .int .i64 0, .int .i64 0, .int .i64 0, .int .u64 0, .slice none 0 0, .slice none 0 0] 66)).drew.drew).heap[w.heap.size + 1]? = some (.cells #[.int .i64 i, .int .i64 P.lw.now, .int .i64 0, .int .i64 0, .int .i64 0, .int .u64 0, .slice none 0 0, .slice none 0 0] 66 (0, 0)) := by
    have := heap_alloc_new ((((w.setCell ⟨X.ad.pw, 2 + t, none⟩ (.int .i64 P.lw.now)).setCell ⟨X.ad.pw, 18 + t, none⟩ (.slice none 0 0)).setCell ⟨X.ad.pp, 5 + t * 2 + 1, none⟩ (.int .i64 (P.evs.length : Nat))).alloc (.cells #[.int .i64 c.thread, .int .i64 c.obj, .int .i64 c.kind, .int .u64 c.a, .int .u64 c.b, .int .u64 c.c] 54)) (.cells #[.int .i64 i, .int .i64 P.lw.now, .int .i64 0, .int .i64 0, .int .i64 0, .int .u64 0, .slice none 0 0, .slice none 0 0] 66)
    rw [show ((((w.setCell ⟨X.ad.pw, 2 + t, none⟩ (.int .i64 P.lw.now)).setCell ⟨X.ad.pw, 18 + t, none⟩ (.slice none 0 0)).setCell ⟨X.ad.pp, 5 + t * 2 + 1, none⟩ (.int .i64 (P.evs.length : Nat))).alloc (.cells #[.int .i64 c.thread, .int .i64 c.obj, .int .i64 c.kind, .int .u64 c.a, .int .u64 c.b, .int .u64 c.c] 54)).heap.size = w.heap.size + 1 from by simp] at this
    exact this
  have hown2 : ((((((w.setCell ⟨X.ad.pw, 2 + t, none⟩ (.int .i64 P.lw.now)).setCell ⟨X.ad.pw, 18 + t, none⟩ (.slice none 0 0)).setCell ⟨X.ad.pp, 5 + t * 2 + 1, none⟩ (.int .i64 (P.evs.length : Nat))).alloc (.cells #[.int .i64 c.thread, .int .i64 c.obj, .int .i64 c.kind, .int .u64 c.a, .int .u64 c.b, .int .u64 c.c] 54)).alloc (.cells #[.int .i64 i, .int .i64 P.lw.now, .int .i64 0, .int .i64 0, .int .i64 0, .int .u64 0, .slice none 0 0, .slice none 0 0] 66)).drew.drew).ownsRow X.Tl 66 8 ev P.evs.length (raw.flatMap evEnc) := owns_keepV HROW.out hkB (fun k hk => ⟨HEL.out k hk, HEP.out k hk, HEW.out k hk⟩)
  refine wp_append_own_at _ _ 56 rfl X.Tl 66 i0 (.agg #[.int .i64 0, .int .i64 0, .int .i64 0, .int .i64 0, .int .i64 0, .int .u64 0, .slice none 0 0, .slice none 0 0]) 8 96 Tryz.underlying56 hi0 hi1 hi2 hi3 rfl (by decide) ev _ _ (by rw [eev]; rfl) hown2 ⟨w.heap.size + 1, 0, none⟩ 1 1 [.int .i64 i, .int .i64 P.lw.now, .int .i64 0, .int .i64 0, .int .i64 0, .int .u64 0, .slice none 0 0, .slice none 0 0] (by rfl) rfl ?_ (by simp [Value.oneCell']) (by unfold maxLen; omega) (by omega) (by simp; omega) ?_
  · intro j u hu
    rw [Addr.add_lit]
    rw [Nat.zero_add, cell_of_row _ _ _ _ _ _ hnewB]
    simpa using hu
  intro v0 w5 hown5 hgrow _ hloc
  obtain ⟨Av, cv, rfl⟩ := own_slice hown5
  generalize hWB : ((((((w.setCell ⟨X.ad.pw, 2 + t, none⟩ (.int .i64 P.lw.now)).setCell ⟨X.ad.pw, 18 + t, none⟩ (.slice none 0 0)).setCell ⟨X.ad.pp, 5 + t * 2 + 1, none⟩ (.int .i64 (P.evs.length : Nat))).alloc (.cells #[.int .i64 c.thread, .int .i64 c.obj, .int .i64 c.kind, .int .u64 c.a, .int .u64 c.b, .int .u64 c.c] 54)).alloc (.cells #[.int .i64 i, .int .i64 P.lw.now, .int .i64 0, .int .i64 0, .int .i64 0, .int .u64 0, .slice none 0 0, .slice none 0 0] 66)).drew.drew) = WB at hown5 hgrow hloc hkB hszB hppB hpwB hcB
  have hEL := HEL.out
  have hEP := HEP.out
  have hEW := HEW.out
  have hz5 : w.heap.size + 2 ≤ w5.heap.size := by have := hgrow.size; omega
  have bpp := hgrow.block X.ad.pp (by omega) (fun e => hEP _ e.symm rfl)
  have bpw := hgrow.block X.ad.pw (by omega) (fun e => hEW _ e.symm rfl)
  have bc := hgrow.block w.heap.size (by omega) (fun e => by have := hEL _ e.symm; omega)
  have hpp5 := hppB.of_block bpp
  have hpw5 := hpwB.of_block bpw
  have hc5 := bc.trans hcB
  have hk5 : Keep (fun k => k < w.heap.size ∧ k ≠ X.ad.pp ∧ k ≠ X.ad.pw ∧ ev.ownBlock ≠ some k) w w5 := (hkB.mono (fun k hk => ⟨hk.1, hk.2.1, hk.2.2.1⟩)).grown hgrow (fun k hk => by omega) (fun k hk hk' => hk'.2.2.2 hk)
  have hpp6 := hpp5.set 37 (.slice Av (P.evs.length + 1) cv)
  have hpw6 := hpw5.setOther (a := ⟨X.ad.pp, 37, none⟩) (by simpa using n1.symm) (.slice Av (P.evs.length + 1) cv)
  have hk6 : Keep (fun k => k < w.heap.size ∧ k ≠ X.ad.pp ∧ k ≠ X.ad.pw ∧ ev.ownBlock ≠ some k) w (w5.setCell ⟨X.ad.pp, 37, none⟩ (.slice Av (P.evs.length + 1) cv)) := hk5.setCell (by simp) _
  have hlo : (Value.slice Av (P.evs.length + 1) cv).ownBlock = ev.ownBlock ∨ ∃ b, (Value.slice Av (P.evs.length + 1) cv).ownBlock = some b ∧ w.heap.size ≤ b := by
    rcases hloc with h1 | h1
    · exact Or.inl h1
    · exact Or.inr ⟨_, h1, by omega⟩
  have hv6 : ∀ k, (Value.slice Av (P.evs.length + 1) cv).ownBlock = some k → k ≠ X.ad.pp := by
    intro k hk e
    rcases hlo with h1 | ⟨b, h1, h2⟩
    · exact hEP k (h1 ▸ hk) e
    · rw [h1] at hk
      cases hk
      omega
  have hown6 := owns_keepV hown5 ((Keep.refl (fun k => k ≠ X.ad.pp) w5).setCell (p := ⟨X.ad.pp, 37, none⟩) (by simp) (.slice Av (P.evs.length + 1) cv)) hv6
  have y0 : w5.cell? ⟨X.ad.pp, 0, none⟩ = some (.pointer (some ⟨X.ad.pw, 0, none⟩)) := by have := hpp5.cell (i := 0) (by omega); rw [this, if_neg (by omega)]; exact congrArg some HF.out.2.1
  have y1 : w5.cell? ⟨X.ad.pp, 1, none⟩ = some (.slice Ao T.objs.length co) := by have := hpp5.cell (i := 1) (by omega); rw [this, if_neg (by omega)]; exact congrArg some (HF.out.2.2.1.trans eOV)
  have y37 : w5.cell? ⟨X.ad.pp, 37, none⟩ = some (.slice Ae P.evs.length ce) := by have := hpp5.cell (i := 37) (by omega); rw [this, if_neg (by omega)]; exact congrArg some (HF.out.2.2.2.2.2.2.1.trans eev)
  have y5 : ∃ z, w5.cell? ⟨X.ad.pp, 5 + t * 2, none⟩ = some z := ⟨_, hpp5.cell (by omega)⟩
  obtain ⟨z5, y5⟩ := y5
  have x1 : w5.cell? ⟨X.ad.pw, 1, none⟩ = some (.int .i64 P.lw.now) := by have := hpw5.cell (i := 1) (by omega); rw [this, if_neg (by omega), if_neg (by omega)]; exact congrArg some HG.out.2.2.1
  have u37 := hpp5.frozen 37
  have u5 := hpp5.frozen (5 + t * 2)
  have k0 := cell_of_row w5 _ 0 _ _ _ hc5
  have k1 := cell_of_row w5 _ 1 _ _ _ hc5
  have k2 := cell_of_row w5 _ 2 _ _ _ hc5
  have k3 := cell_of_row w5 _ 3 _ _ _ hc5
  have k4 := cell_of_row w5 _ 4 _ _ _ hc5
  have k5 := cell_of_row w5 _ 5 _ _ _ hc5
  simp at k0 k1 k2 k3 k4 k5
  have l0 : X.ad.pp < w5.heap.size := by omega
  have l1 : w.heap.size < w5.heap.size := by omega
  have l2 : X.ad.pw < w5.heap.size := by omega
  have HP6 := hide hpp6
  have HW6 := hide hpw6
  have HK6 := hide hk6
  have HO6 := hide hown6
  have HLO := hide hlo
  clear hpp6 hpw6 hk6 hown6 hlo hv6 hk5 hpp5 hpw5 hc5 bc bpp bpw hEL hEP hEW hWB hown5 hgrow hloc hkB hszB hppB hpwB hcB hown2 hnewB
  clear p0 p1 p2 p37 p5 p6 q37 q5 q6 w1 w2 w18 r2 r18 c0 c1 c2 c3 c4 c5
  refine hK _ _ ⟨y0, y37, x1⟩ ?_
  clear hK K
  repeat (refine seql_take (v := ?_) rfl (by rfl) ?_ ?_; rotate_left; (focus (intro wS hS; obtain ⟨s0, s1, s2⟩ := hS; go_simp; exact rfl)); simp only [Act.put, List.setIfInBounds_toArray, List.set_cons_zero, List.set_cons_succ])
  refine seql_late rfl rfl (by rfl) (fun K hK => ?_)
  go_simp
  refine hK _ _ ?_
  clear hK K
  refine seql_nil ?_
  have a0 : (w5.setCell ⟨X.ad.pp, 37, none⟩ (.slice Av (P.evs.length + 1) cv)).cell? ⟨X.ad.pp, 0, none⟩ = some (.pointer (some ⟨X.ad.pw, 0, none⟩)) := by go_simp
  have a1 : (w5.setCell ⟨X.ad.pp, 37, none⟩ (.slice Av (P.evs.length + 1) cv)).cell? ⟨X.ad.pp, 1, none⟩ = some (.slice Ao T.objs.length co) := by go_simp
  have a5 : (w5.setCell ⟨X.ad.pp, 37, none⟩ (.slice Av (P.evs.length + 1) cv)).cell? ⟨X.ad.pp, 5 + t * 2, none⟩ = some z5 := by go_simp
  have b5 : (w5.setCell ⟨X.ad.pp, 37, none⟩ (.slice Av (P.evs.length + 1) cv)).frozen? ⟨X.ad.pp, 5 + t * 2, none⟩ = false := by go_simp
  have npw : w.heap.size ≠ X.ad.pp := by omega
  have j0 : (w5.setCell ⟨X.ad.pp, 37, none⟩ (.slice Av (P.evs.length + 1) cv)).cell? ⟨w.heap.size, 0, none⟩ = some (.int .i64 c.thread) := by go_simp
  have j1 : (w5.setCell ⟨X.ad.pp, 37, none⟩ (.slice Av (P.evs.length + 1) cv)).cell? ⟨w.heap.size, 1, none⟩ = some (.int .i64 c.obj) := by go_simp
  have j2 : (w5.setCell ⟨X.ad.pp, 37, none⟩ (.slice Av (P.evs.length + 1) cv)).cell? ⟨w.heap.size, 2, none⟩ = some (.int .i64 c.kind) := by go_simp
  have j3 : (w5.setCell ⟨X.ad.pp, 37, none⟩ (.slice Av (P.evs.length + 1) cv)).cell? ⟨w.heap.size, 3, none⟩ = some (.int .u64 c.a) := by go_simp
  have j4 : (w5.setCell ⟨X.ad.pp, 37, none⟩ (.slice Av (P.evs.length + 1) cv)).cell? ⟨w.heap.size, 4, none⟩ = some (.int .u64 c.b) := by go_simp
  have j5 : (w5.setCell ⟨X.ad.pp, 37, none⟩ (.slice Av (P.evs.length + 1) cv)).cell? ⟨w.heap.size, 5, none⟩ = some (.int .u64 c.c) := by go_simp
  have l6 : (w5.setCell ⟨X.ad.pp, 37, none⟩ (.slice Av (P.evs.length + 1) cv)).heap.size = w5.heap.size := by simp
  clear y0 y1 y37 y5 x1 u37 u5 k0 k1 k2 k3 k4 k5
  generalize (w5.setCell ⟨X.ad.pp, 37, none⟩ (.slice Av (P.evs.length + 1) cv)) = W6 at a0 a1 a5 b5 j0 j1 j2 j3 j4 j5 l6 HP6 HW6 HK6 HO6 ⊢
  have m0 : X.ad.pp < W6.heap.size := by omega
  have m1 : w.heap.size < W6.heap.size := by omega
  clear l0 l1 l2 l6 hz5
  by_cases hin : 0 ≤ c.obj ∧ c.obj < T.objs.length
  · obtain ⟨j, hj⟩ : ∃ j : Nat, c.obj = j := ⟨c.obj.toNat, by omega⟩
    have hjl : j < T.objs.length := by omega
    obtain ⟨v, hvj⟩ : ∃ v, T.objs[j]? = some v := ⟨_, List.getElem?_eq_getElem hjl⟩
    obtain ⟨t0, u0, rfl⟩ := HT.out.objIface v (List.mem_of_getElem? hvj)
    have hov := HOV.out
    obtain ⟨A2, c2, e2, hq1, hq2, hq3⟩ := hov
    obtain ⟨ob, oo2, eo, hob, hoc⟩ := hq3 j _ hvj
    cases e2
    have hobM := hom _ eo (by omega)
    have oc : W6.cell? ⟨ob, oo2 + j, none⟩ = some (.iface t0 u0) := by
      have := hoc 0 _ rfl
      simp only [Nat.mul_one, Nat.add_zero] at this
      refine (HK6.out.cell (p := ⟨ob, oo2 + j, none⟩) ⟨hob, fun e => hobM (HH.out.muFix _ (Or.inl e)), fun e => hobM (HH.out.muFix _ (Or.inr (Or.inr (Or.inr (Or.inl e))))), fun e => hobM (HH.out.muEv _ e).1⟩).trans this
    rw [eo] at a1
    rw [hj] at j1
    have zob : ob < W6.heap.size := Nat.lt_of_lt_of_le hob HK6.out.size
    have HJ := hide hj
    have HVJ := hide hvj
    have d0 : ((T.objs.length : Nat) : Int) ≤ (j : Int) ↔ False := by simp; omega
    have d1 : decide (T.objs.length ≤ j) = false := by simpa using hjl
    clear hin hj hq3 hoc hvj
    go_wp2
    go_quiet (fail)
    go_wp2
    refine wp_region_seql (fun Y => Y.cell? ⟨X.ad.pp, 0, none⟩ = some (.pointer (some ⟨X.ad.pw, 0, none⟩)) ∧ Y.cell? ⟨X.ad.pp, 1, none⟩ = some (.slice (some ⟨ob, oo2, none⟩) T.objs.length co) ∧ Y.cell? ⟨w.heap.size, 0, none⟩ = some (.int .i64 c.thread) ∧ Y.cell? ⟨w.heap.size, 1, none⟩ = some (.int .i64 j) ∧ Y.cell? ⟨w.heap.size, 2, none⟩ = some (.int .i64 c.kind) ∧ Y.cell? ⟨w.heap.size, 3, none⟩ = some (.int .u64 c.a) ∧ Y.cell? ⟨w.heap.size, 4, none⟩ = some (.int .u64 c.b) ∧ Y.cell? ⟨w.heap.size, 5, none⟩ = some (.int .u64 c.c) ∧ Y.cell? ⟨ob, oo2 + j, none⟩ = some (.iface t0 u0)) [20] (.take 0 <| .take 1 <| .take 2 <| .take 3 <| .take 4 <| .take 5 <| .take 6 <| .take 7 <| .take 8 <| .take 9 <| .take 10 <| .take 11 <| .take 12 <| .take 13 <| .take 14 <| .take 15 <| .take 16 <| .run 17 <| .take 18 <| .take 19 <| .run 20 <| .done) (by kernel_rfl) (by kernel_rfl) (by kernel_rfl) ⟨a0, a1, j0, j1, j2, j3, j4, j5, oc⟩ ?_
    repeat (refine seql_take (v := ?_) rfl (by rfl) ?_ ?_; rotate_left; (focus (intro wS hS; obtain ⟨s0, s1, s2, s3, s4, s5, s6, s7, s8⟩ := hS; go_simp; exact rfl)); simp only [Act.put, List.setIfInBounds_toArray, List.set_cons_zero, List.set_cons_succ])
    refine seql_run rfl (by rfl) (fun K hK => ?_)
    have hkS : Keep (fun k => k < w.heap.size ∧ k ≠ X.ad.pp ∧ k ≠ X.ad.pw ∧ ev.ownBlock ≠ some k) w (W6.drewN nq).drew := (HK6.out.drewN nq).drew
    have hFo : ∀ k, Fo k → k < w.heap.size ∧ k ≠ X.ad.pp ∧ k ≠ X.ad.pw ∧ ev.ownBlock ≠ some k := fun k hk => ⟨HH.out.lt k (HH.out.muFo k hk).1, fun e => (HH.out.muFo k hk).2 (Or.inl e), fun e => (HH.out.muFo k hk).2 (Or.inr (Or.inr (Or.inr (Or.inl e)))), fun e => (HH.out.muEv k e).2.2.1 hk⟩
    have hnFo : ∀ k, w.heap.size ≤ k → ¬ Fo k := fun k hk hf => by have := (hFo k hf).1; omega
    have hFpp : ¬ Fo X.ad.pp := fun hf => (hFo _ hf).2.1 rfl
    have hFob : ¬ Fo ob := fun hf => hobM (HH.out.muFo _ hf).1
    obtain ⟨fS, rS, hD, hC⟩ := HT.out.start (w := (W6.drewN nq).drew) (t := t) (j := j) (c := c) (HT.out.obKeep HH.out.objs hkS hFo) HGD.out (show P.ms t = none by unfold Ps.ms; rw [hn]; rfl) ht HC.out HCU.out HCL.out HJ.out HVJ.out
    refine wp_disp _ "Start" _ _ rfl (.iface t0 u0) rS fS (by rfl) hD [.pointer (some ⟨X.ad.pw, 0, none⟩), .int .i64 t, clV c] (by unfold clV; rw [HJ.out]; rfl) (hC _) ?_
    rintro e w7 ⟨Fo', Fm', u, rfl, hO, hM, hFo', hFm', hFF, hK7⟩
    have hkc : ∀ b o, b < W6.heap.size → ¬ Fo b → w7.cell? ⟨b, o, none⟩ = W6.cell? ⟨b, o, none⟩ := fun b o h1 h2 => hK7.cell (p := ⟨b, o, none⟩) ⟨h1, h2⟩
    have hfb : ∀ o, w7.frozen? ⟨X.ad.pp, o, none⟩ = W6.frozen? ⟨X.ad.pp, o, none⟩ := fun o => World.frozen?_of_block (w := W6) (a := ⟨X.ad.pp, o, none⟩) (hK7.block _ ⟨m0, hFpp⟩)
    have hfw := hnFo w.heap.size (Nat.le_refl _)
    have g5 : w7.cell? ⟨X.ad.pp, 5 + t * 2, none⟩ = some z5 := (hkc _ _ m0 hFpp).trans a5
    have g6 : w7.frozen? ⟨X.ad.pp, 5 + t * 2, none⟩ = false := (hfb _).trans b5
    obtain ⟨tu, uu, rfl⟩ := HT.out.mlIface hM
    refine ⟨_, rfl, hK _ _ ⟨(hkc _ _ m0 hFpp).trans a0, (hkc _ _ m0 hFpp).trans a1, (hkc _ _ m1 hfw).trans j0, (hkc _ _ m1 hfw).trans j1, (hkc _ _ m1 hfw).trans j2, (hkc _ _ m1 hfw).trans j3, (hkc _ _ m1 hfw).trans j4, (hkc _ _ m1 hfw).trans j5, (hkc _ _ zob hFob).trans oc⟩ ?_⟩
    have z7 : X.ad.pp < w7.heap.size := Nat.lt_of_lt_of_le m0 hK7.size
    have HO := hide hO
    have HM := hide hM
    have HFo := hide hFo'
    have HFm := hide hFm'
    have HFF := hide hFF
    have HK7 := hide (show Keep (fun k => k < W6.heap.size ∧ ¬ Fo k) W6 w7 from ⟨hK7.os, hK7.tape, hK7.output, hK7.size, hK7.block⟩)
    clear hK K hkc hfb hO hM hFo' hFm' hFF hK7 hC hD hkS hFo hnFo a0 a1 a5 b5 j0 j1 j2 j3 j4 j5 oc
    repeat (refine seql_take (v := ?_) rfl (by rfl) ?_ ?_; rotate_left; (focus (intro wS hS; obtain ⟨s0, s1, s2, s3, s4, s5, s6, s7, s8⟩ := hS; go_simp; exact rfl)); simp only [Act.put, List.setIfInBounds_toArray, List.set_cons_zero, List.set_cons_succ])
    refine seql_late rfl rfl (by rfl) (fun K hK => ?_)
    go_simp
    refine hK _ _ ?_
    clear hK K
    refine seql_nil ?_
    go_wp2
    go_end0
    exact start_done HT.out HH.out ht hn HC.out HF.out HG.out raw hrl HRE.out HROW.out HP6.out HW6.out HK6.out HO6.out HLO.out HO.out HM.out HFo.out HFm.out HFF.out HK7.out
  · have hd : ∃ d, (c.obj < 0 ∧ d = true ∨ 0 ≤ c.obj ∧ (T.objs.length : Int) ≤ c.obj ∧ d = false) := by
      by_cases h0 : c.obj < 0
      · exact ⟨true, Or.inl ⟨h0, rfl⟩⟩
      · exact ⟨false, Or.inr ⟨by omega, by omega, rfl⟩⟩
    have HIN := hide hin
    clear hin
    obtain ⟨d, ⟨h0, rfl⟩ | ⟨h0, h1, rfl⟩⟩ := hd
    · have d0 : decide (c.obj < 0) = true := by simpa using h0
      go_wp2
      go_quiet (fail)
      go_wp2_with fail
      refine (refuseMake 12 _).mono ?_
      rintro e w7 ⟨b, b1, rfl, hno, hb0, hb1, hbel0⟩
      have hbel : Below W6.heap.size W6 w7 := ⟨hbel0.os, hbel0.tape, hbel0.output, hbel0.size, hbel0.block⟩
      clear hbel0
      have hO := HT.out.obKeep (w' := w7) HH.out.objs (HK6.out.trans ((Keep.of_below (K := fun k => k < w.heap.size ∧ k ≠ X.ad.pp ∧ k ≠ X.ad.pw ∧ ev.ownBlock ≠ some k) hbel (fun k hk => Nat.lt_of_lt_of_le hk.1 HK6.out.size)))) (fun k hk => ⟨HH.out.lt k (HH.out.muFo k hk).1, fun e => (HH.out.muFo k hk).2 (Or.inl e), fun e => (HH.out.muFo k hk).2 (Or.inr (Or.inr (Or.inr (Or.inl e)))), fun e => (HH.out.muEv k e).2.2.1 hk⟩)
      obtain ⟨hr1, hr2⟩ := HT.out.refuse (o := P.obj) (t := t) HIN.out
      have hM := hr2 w7 b b1 hno
      rw [← hr1] at hO
      obtain ⟨hbc, hbf⟩ := bcell hbel
      have g5 := (hbc _ _ m0).trans a5
      have g6 := (hbf _ _ m0).trans b5
      have z7 : X.ad.pp < w7.heap.size := Nat.lt_of_lt_of_le m0 hbel.size
      have HO := hide hO
      have HM := hide hM
      have HB := hide hbel
      clear hO hM hbel hbc hbf hr1 hr2 hno a0 a1 a5 b5 j0 j1 j2 j3 j4 j5
      unfold onceV at *
      go_wp2
      ((try simp only [Exit.inBlock, Exit.then]); refine bodyPost_ret (results_none rfl _ _ _) rfl ?_)
      refine start_done HT.out HH.out ht hn HC.out HF.out HG.out raw hrl HRE.out HROW.out HP6.out HW6.out HK6.out HO6.out HLO.out HO.out HM.out (fun k hk => Or.inl hk) (fun k hk => Or.inr ?_) (fun k hk hk' => ?_) (Keep.of_below (K := fun k => k < W6.heap.size ∧ ¬ Fo k) HB.out (fun k hk => hk.1))
      · rcases hk with rfl | rfl <;> assumption
      · have := HH.out.lt k (HH.out.muFo k hk).1
        have := HK6.out.size
        have hb0' : W6.heap.size ≤ b := hb0
        have hb1' : W6.heap.size ≤ b1 := hb1
        rcases hk' with rfl | rfl <;> omega
    · have d0 : decide (c.obj < 0) = false := by simpa using h0
      have d1 : decide ((T.objs.length : Int) ≤ c.obj) = true := by simpa using h1
      go_wp2
      go_quiet (fail)
      go_wp2_with fail
      refine (refuseMake 12 _).mono ?_
      rintro e w7 ⟨b, b1, rfl, hno, hb0, hb1, hbel0⟩
      have hbel : Below W6.heap.size W6 w7 := ⟨hbel0.os, hbel0.tape, hbel0.output, hbel0.size, hbel0.block⟩
      clear hbel0
      have hO := HT.out.obKeep (w' := w7) HH.out.objs (HK6.out.trans ((Keep.of_below (K := fun k => k < w.heap.size ∧ k ≠ X.ad.pp ∧ k ≠ X.ad.pw ∧ ev.ownBlock ≠ some k) hbel (fun k hk => Nat.lt_of_lt_of_le hk.1 HK6.out.size)))) (fun k hk => ⟨HH.out.lt k (HH.out.muFo k hk).1, fun e => (HH.out.muFo k hk).2 (Or.inl e), fun e => (HH.out.muFo k hk).2 (Or.inr (Or.inr (Or.inr (Or.inl e)))), fun e => (HH.out.muEv k e).2.2.1 hk⟩)
      obtain ⟨hr1, hr2⟩ := HT.out.refuse (o := P.obj) (t := t) HIN.out
      have hM := hr2 w7 b b1 hno
      rw [← hr1] at hO
      obtain ⟨hbc, hbf⟩ := bcell hbel
      have g5 := (hbc _ _ m0).trans a5
      have g6 := (hbf _ _ m0).trans b5
      have z7 : X.ad.pp < w7.heap.size := Nat.lt_of_lt_of_le m0 hbel.size
      have HO := hide hO
      have HM := hide hM
      have HB := hide hbel
      clear hO hM hbel hbc hbf hr1 hr2 hno a0 a1 a5 b5 j0 j1 j2 j3 j4 j5
      unfold onceV at *
      go_wp2
      ((try simp only [Exit.inBlock, Exit.then]); refine bodyPost_ret (results_none rfl _ _ _) rfl ?_)
      refine start_done HT.out HH.out ht hn HC.out HF.out HG.out raw hrl HRE.out HROW.out HP6.out HW6.out HK6.out HO6.out HLO.out HO.out HM.out (fun k hk => Or.inl hk) (fun k hk => Or.inr ?_) (fun k hk hk' => ?_) (Keep.of_below (K := fun k => k < W6.heap.size ∧ ¬ Fo k) HB.out (fun k hk => hk.1))
      · rcases hk with rfl | rfl <;> assumption
      · have := HH.out.lt k (HH.out.muFo k hk).1
        have := HK6.out.size
        have hb0' : W6.heap.size ≤ b := hb0
        have hb1' : W6.heap.size ≤ b1 := hb1
        rcases hk' with rfl | rfl <;> omega
end Go.Proofs.YtfghmlpjbedomaaGreat
