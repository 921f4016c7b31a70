/- A play on a loom: what is told of it (Player.Report). -/
import Derived.Test.YtfghmlpjbedomaaGreatLo10
import Derived.Test.YtfghmlpjbedomaaGreatBun7
namespace Go.Proofs.YtfghmlpjbedomaaGreat
open Go.RowKit

def repV (ev wd : Value) (m : Mm) (now idle : Int) : Value := .agg #[ev, wd, .int .i64 (wrap64 m.rd), .int .i64 (wrap64 m.wr), .int .i64 (wrap64 m.sw), .int .i64 (wrap64 m.ad), .int .i64 (wrap64 m.ft), .int .i64 now, .int .i64 idle]
theorem isSome_lt {α : Type} {a : Array α} {j : Nat} (h : j < a.size) : (a[j]?).isSome = true := by simp [h]
theorem Keep.setCells {K : Nat → Prop} {w w' : World} (h : Keep K w w') {b : Nat} (hb : ¬ K b) (o : Nat) (vs : List Value) : Keep K w (w'.setCells b o vs) := by
  induction vs generalizing o w' with
  | nil => exact h
  | cons v l ih => exact ih (h.setCell hb v) (o + 1)
def ReportPost {M O : Type} (T : Th M O) (X : Fix) (Mu : Nat → Prop) (ev : Value) (P : Ps M O) (w : World) (e : Ending) (w' : World) : Prop :=
  ∃ g c, e = .returned (repV ev (.slice (some ⟨g, 0, none⟩) P.lw.mem.words.length c) P.lw.mem P.lw.now P.idle) ∧ EvsAt w' X.Tl Mu ev (P.ends T.G) ∧ WRow w' w.heap.size (.slice (some ⟨g, 0, none⟩) P.lw.mem.words.length c) P.lw.mem.words ∧ Keep (fun k => k < w.heap.size ∧ k ≠ X.ad.pp ∧ ev.ownBlock ≠ some k) w w'
set_option maxRecDepth 100000 in
set_option maxHeartbeats 2000000 in
theorem playerReport {M O : Type} {T : Th M O} {X : Fix} {w : World} {Mu Fo : Nat → Prop} {Fm : Nat → Nat → Prop} {hv : Nat → Value} {ev : Value} {P : Ps M O} (hT : T.Ok) (h : PLa T X w Mu Fo Fm hv ev P) :
    Calls Tryz.prog 46 #[.pointer (some ⟨X.ad.pp, 0, none⟩)] w (ReportPost T X Mu ev P w) := by
  have hka : Keep (fun j => j < w.heap.size) w (w.alloc (.cells #[.slice none 0 0, .slice none 0 0, .int .i64 0, .int .i64 0, .int .i64 0, .int .i64 0, .int .i64 0, .int .i64 0, .int .i64 0] 60)) := (Keep.refl _ _).alloc (fun k hk => hk) _
  have N := playerEnd hT (h.wider (Mu' := fun k => Mu k ∨ k = w.heap.size) hT hka (fun k hk => Or.inl hk) (fun k hk hm => by rcases hm with hm | hm; exact hm; omega) (fun k hm => by rcases hm with hm | hm; (have := h.lt k hm; simp; omega); (subst hm; simp)))
  have hlt := h.lt
  have hevl : ∀ k, ev.ownBlock = some k → k < w.heap.size := fun k hk => h.lt k (h.muEv k hk).1
  have hmuev : ∀ k, ev.ownBlock = some k → Mu k := fun k hk => (h.muEv k hk).1
  have hsz : w.heap.size < (w.alloc (.cells #[.slice none 0 0, .slice none 0 0, .int .i64 0, .int .i64 0, .int .i64 0, .int .i64 0, .int .i64 0, .int .i64 0, .int .i64 0] 60)).heap.size := by simp
  have hnew := heap_alloc_new w (.cells #[.slice none 0 0, .slice none 0 0, .int .i64 0, .int .i64 0, .int .i64 0, .int .i64 0, .int .i64 0, .int .i64 0, .int .i64 0] 60)
  have HKA := hide hka
  have hpw : X.ad.pp < w.heap.size := hlt _ (h.muFix _ (Or.inl rfl))
  have hpm := h.muFix X.ad.pp (Or.inl rfl)
  have HT := hide hT
  have HEL := hide hevl
  have HEM := hide hmuev
  have HLT := hide hlt
  clear h hT hka hlt
  go_enter Tryz.func46, Tryz.ntmps46
  go_wp2_with fail
  refine N.mono ?_
  rintro e w1 ⟨rfl, hL, hk⟩
  have hk1 := hk.block w.heap.size ⟨hsz, fun e => Nat.lt_irrefl _ (hevl _ e)⟩
  rw [hnew] at hk1
  obtain ⟨f, f1, f2, f3, f4, f5, f6, f7, f8⟩ := hL.player
  obtain ⟨g, g1, g2, g3, g4, g5⟩ := hL.world.cells
  obtain ⟨raw, hrow, hrl, hre⟩ := hL.evs.row
  obtain ⟨Ae, ce, eev⟩ := own_slice hrow
  have i0 := f1.cell (i := 0) (by omega)
  have i37 := f1.cell (i := 37) (by omega)
  have i38 := f1.cell (i := 38) (by omega)
  have i39 := f1.cell (i := 39) (by omega)
  have i40 := f1.cell (i := 40) (by omega)
  have i41 := f1.cell (i := 41) (by omega)
  have i42 := f1.cell (i := 42) (by omega)
  have i43 := f1.cell (i := 43) (by omega)
  have i44 := f1.cell (i := 44) (by omega)
  have i45 := f1.cell (i := 45) (by omega)
  have q38 := f1.frozen 38
  have q39 := f1.frozen 39
  have q40 := f1.frozen 40
  have q41 := f1.frozen 41
  have q42 := f1.frozen 42
  have q43 := f1.frozen 43
  have q44 := f1.frozen 44
  have iz := f1.lt
  have j0 := g1.cell (i := 0) (by omega)
  have j1 := g1.cell (i := 1) (by omega)
  have jz := g1.lt
  rw [f2] at i0
  rw [f7, eev] at i37
  rw [f8] at i45
  rw [g2] at j0
  rw [g3] at j1
  have HL := hide hL
  have HK := hide hk
  have hpp : w.heap.size ≠ X.ad.pp := fun e => Nat.lt_irrefl _ (e ▸ hpw)
  have hrz := (Array.getElem?_eq_some_iff.1 hk1).1
  have hmm := hL.world.mem
  obtain ⟨n1, n2, n3, n4, n5, n6, n7, n8, n9, n10, n11, n12⟩ := hL.types
  have HMM := hide hmm
  clear f1 f2 f3 f4 f5 f6 f7 f8 g1 g2 g3 g4 g5 hrow hrl hre hL hk hmm N hnew hsz
  go_wp2
  have hkc : Keep (fun k => k ≠ X.ad.pp) w1 (w1.setCell ⟨X.ad.pp, 44, none⟩ (.int .i64 P.lw.now)).drew := ((Keep.refl _ _).setCell (by simp) _).drew
  have hm1 := HMM.out.of_blocks (hkc.block _ n2.symm) (hkc.block _ n3.symm)
  have C1 := memWords X.ad.pm X.ad.px X.ad.hk P.lw.mem _ hm1
  have hmz := hm1.lt
  refine wp_region_seq (fun Y => Y.cell? ⟨X.ad.pp, 0, none⟩ = some (.pointer (some ⟨X.ad.pw, 0, none⟩)) ∧ Y.cell? ⟨X.ad.pw, 0, none⟩ = some (.pointer (some ⟨X.ad.pm, 0, none⟩))) (.take 0 <| .take 1 <| .take 2 <| .take 3 <| .take 4 <| .take 5 <| .take 6 <| .take 7 <| .take 8 <| .take 10 <| .take 11 <| .take 12 <| .take 13 <| .take 14 <| .take 15 <| .take 16 <| .run 9 <| .run 17 <| .take 18 <| .take 19 <| .take 20 <| .run 21 <| .take 22 <| .take 23 <| .take 24 <| .run 25 <| .done) (by kernel_rfl) (by kernel_rfl) (by kernel_rfl) (by refine ⟨?_, ?_⟩ <;> go_simp) ?_
  repeat (refine seq_take (v := ?_) rfl (by rfl) ?_ ?_; rotate_left; (focus (intro wS hS; obtain ⟨s0, s1⟩ := hS; go_simp; exact rfl)); simp only [Act.put, List.setIfInBounds_toArray, List.set_cons_zero, List.set_cons_succ])
  (refine seq_run rfl (by rfl) (fun K hK => ?_); go_simp)
  refine C1.mono ?_
  rintro e w2 ⟨gw, cw, rfl, hwr, hb2⟩
  have hm2 := hm1.of_blocks (hb2.block _ hmz.1) (hb2.block _ hmz.2)
  have s0 : w2.cell? ⟨X.ad.pp, 0, none⟩ = some (.pointer (some ⟨X.ad.pw, 0, none⟩)) := (hb2.cell (p := ⟨X.ad.pp, 0, none⟩) (by simpa using iz)).trans (by go_simp)
  have s1 : w2.cell? ⟨X.ad.pw, 0, none⟩ = some (.pointer (some ⟨X.ad.pm, 0, none⟩)) := (hb2.cell (p := ⟨X.ad.pw, 0, none⟩) (by simpa using jz)).trans (by go_simp)
  refine hK _ _ ⟨s0, s1⟩ ?_
  clear hK K
  have C2 := memCounts X.ad.pm X.ad.px X.ad.hk P.lw.mem _ hm2
  unfold cntV at C2
  (refine seq_run rfl (by rfl) (fun K hK => ?_); go_simp)
  refine C2.mono ?_
  rintro e w3 ⟨rfl, hb3⟩
  have hz2 := hb2.size
  have hz3 := hb3.size
  have hwr3 := owns_keepV hwr (Keep.of_below (K := fun k => k < w2.heap.size) hb3 (fun k hk => hk)) (fun k hk => (World.ownsRow.lt hwr k hk).2)
  have hB : Below (w1.setCell ⟨X.ad.pp, 44, none⟩ (.int .i64 P.lw.now)).drew.heap.size (w1.setCell ⟨X.ad.pp, 44, none⟩ (.int .i64 P.lw.now)).drew w3 := hb2.trans (hb3.mono hz2)
  have hq : ∀ b o, b < w1.heap.size → w3.cell? ⟨b, o, none⟩ = (w1.setCell ⟨X.ad.pp, 44, none⟩ (.int .i64 P.lw.now)).drew.cell? ⟨b, o, none⟩ := fun b o h => hB.cell (p := ⟨b, o, none⟩) (by simpa using h)
  have hqf : ∀ b o, b < w1.heap.size → w3.frozen? ⟨b, o, none⟩ = (w1.setCell ⟨X.ad.pp, 44, none⟩ (.int .i64 P.lw.now)).drew.frozen? ⟨b, o, none⟩ := fun b o h => hB.frozen (p := ⟨b, o, none⟩) (by simpa using h)
  have u0 : w3.cell? ⟨X.ad.pp, 0, none⟩ = some (.pointer (some ⟨X.ad.pw, 0, none⟩)) := (hq _ 0 iz).trans (by go_simp)
  have u37 : w3.cell? ⟨X.ad.pp, 37, none⟩ = some (.slice Ae (P.ends T.G).length ce) := (hq _ 37 iz).trans (by go_simp)
  have u38 : w3.cell? ⟨X.ad.pp, 38, none⟩ = some (f 38) := (hq _ 38 iz).trans (by go_simp)
  have u39 : w3.cell? ⟨X.ad.pp, 39, none⟩ = some (f 39) := (hq _ 39 iz).trans (by go_simp)
  have u40 : w3.cell? ⟨X.ad.pp, 40, none⟩ = some (f 40) := (hq _ 40 iz).trans (by go_simp)
  have u41 : w3.cell? ⟨X.ad.pp, 41, none⟩ = some (f 41) := (hq _ 41 iz).trans (by go_simp)
  have u42 : w3.cell? ⟨X.ad.pp, 42, none⟩ = some (f 42) := (hq _ 42 iz).trans (by go_simp)
  have u43 : w3.cell? ⟨X.ad.pp, 43, none⟩ = some (f 43) := (hq _ 43 iz).trans (by go_simp)
  have u44 : w3.cell? ⟨X.ad.pp, 44, none⟩ = some (.int .i64 P.lw.now) := (hq _ 44 iz).trans (by go_simp)
  have u45 : w3.cell? ⟨X.ad.pp, 45, none⟩ = some (.int .i64 P.idle) := (hq _ 45 iz).trans (by go_simp)
  have v38 : w3.frozen? ⟨X.ad.pp, 38, none⟩ = false := (hqf _ 38 iz).trans (by go_simp)
  have v39 : w3.frozen? ⟨X.ad.pp, 39, none⟩ = false := (hqf _ 39 iz).trans (by go_simp)
  have v40 : w3.frozen? ⟨X.ad.pp, 40, none⟩ = false := (hqf _ 40 iz).trans (by go_simp)
  have v41 : w3.frozen? ⟨X.ad.pp, 41, none⟩ = false := (hqf _ 41 iz).trans (by go_simp)
  have v42 : w3.frozen? ⟨X.ad.pp, 42, none⟩ = false := (hqf _ 42 iz).trans (by go_simp)
  have v43 : w3.frozen? ⟨X.ad.pp, 43, none⟩ = false := (hqf _ 43 iz).trans (by go_simp)
  have hk3 : w3.heap[w.heap.size]? = some (.cells #[.slice none 0 0, .slice none 0 0, .int .i64 0, .int .i64 0, .int .i64 0, .int .i64 0, .int .i64 0, .int .i64 0, .int .i64 0] 60 (0, 0)) := (hB.block _ (by simpa using hrz)).trans ((hkc.block _ hpp).trans hk1)
  have hz3' : X.ad.pp < w3.heap.size := by have := hB.size; simp at this; omega
  have hz4' : w.heap.size < w3.heap.size := by have := hB.size; simp at this; omega
  refine hK _ _ ⟨u0, (hb3.cell (p := ⟨X.ad.pw, 0, none⟩) (Nat.lt_of_lt_of_le (by simpa using jz) hz2)).trans s1⟩ ?_
  clear hK K
  repeat (refine seq_take (v := ?_) rfl (by rfl) ?_ ?_; rotate_left; (focus (intro wS hS; obtain ⟨s0, s1⟩ := hS; go_simp; exact rfl)); simp only [Act.put, List.setIfInBounds_toArray, List.set_cons_zero, List.set_cons_succ])
  (refine seq_run rfl (by rfl) (fun K hK => ?_); go_simp)
  refine hK _ _ (by refine ⟨?_, ?_⟩ <;> go_simp) ?_
  clear hK K
  repeat (refine seq_take (v := ?_) rfl (by rfl) ?_ ?_; rotate_left; (focus (intro wS hS; obtain ⟨s0, s1⟩ := hS; go_simp; exact rfl)); simp only [Act.put, List.setIfInBounds_toArray, List.set_cons_zero, List.set_cons_succ])
  (refine seq_run rfl (by rfl) (fun K hK => ?_); go_simp)
  refine hK _ _ (by refine ⟨?_, ?_⟩ <;> go_simp) ?_
  clear hK K
  have r37 : (((((((w3.setCell ⟨X.ad.pp, 38, none⟩ (.slice (some ⟨gw, 0, none⟩) P.lw.mem.words.length cw)).setCell ⟨X.ad.pp, 39, none⟩ (.int .i64 (wrap64 P.lw.mem.rd))).setCell ⟨X.ad.pp, 40, none⟩ (.int .i64 (wrap64 P.lw.mem.wr))).setCell ⟨X.ad.pp, 41, none⟩ (.int .i64 (wrap64 P.lw.mem.sw))).setCell ⟨X.ad.pp, 42, none⟩ (.int .i64 (wrap64 P.lw.mem.ad))).setCell ⟨X.ad.pp, 43, none⟩ (.int .i64 (wrap64 P.lw.mem.ft)))).cell? ⟨X.ad.pp, 37, none⟩ = some (.slice Ae (P.ends T.G).length ce) := by go_simp
  have r38 : (((((((w3.setCell ⟨X.ad.pp, 38, none⟩ (.slice (some ⟨gw, 0, none⟩) P.lw.mem.words.length cw)).setCell ⟨X.ad.pp, 39, none⟩ (.int .i64 (wrap64 P.lw.mem.rd))).setCell ⟨X.ad.pp, 40, none⟩ (.int .i64 (wrap64 P.lw.mem.wr))).setCell ⟨X.ad.pp, 41, none⟩ (.int .i64 (wrap64 P.lw.mem.sw))).setCell ⟨X.ad.pp, 42, none⟩ (.int .i64 (wrap64 P.lw.mem.ad))).setCell ⟨X.ad.pp, 43, none⟩ (.int .i64 (wrap64 P.lw.mem.ft)))).cell? ⟨X.ad.pp, 38, none⟩ = some (.slice (some ⟨gw, 0, none⟩) P.lw.mem.words.length cw) := by go_simp
  have r39 : (((((((w3.setCell ⟨X.ad.pp, 38, none⟩ (.slice (some ⟨gw, 0, none⟩) P.lw.mem.words.length cw)).setCell ⟨X.ad.pp, 39, none⟩ (.int .i64 (wrap64 P.lw.mem.rd))).setCell ⟨X.ad.pp, 40, none⟩ (.int .i64 (wrap64 P.lw.mem.wr))).setCell ⟨X.ad.pp, 41, none⟩ (.int .i64 (wrap64 P.lw.mem.sw))).setCell ⟨X.ad.pp, 42, none⟩ (.int .i64 (wrap64 P.lw.mem.ad))).setCell ⟨X.ad.pp, 43, none⟩ (.int .i64 (wrap64 P.lw.mem.ft)))).cell? ⟨X.ad.pp, 39, none⟩ = some (.int .i64 (wrap64 P.lw.mem.rd)) := by go_simp
  have r40 : (((((((w3.setCell ⟨X.ad.pp, 38, none⟩ (.slice (some ⟨gw, 0, none⟩) P.lw.mem.words.length cw)).setCell ⟨X.ad.pp, 39, none⟩ (.int .i64 (wrap64 P.lw.mem.rd))).setCell ⟨X.ad.pp, 40, none⟩ (.int .i64 (wrap64 P.lw.mem.wr))).setCell ⟨X.ad.pp, 41, none⟩ (.int .i64 (wrap64 P.lw.mem.sw))).setCell ⟨X.ad.pp, 42, none⟩ (.int .i64 (wrap64 P.lw.mem.ad))).setCell ⟨X.ad.pp, 43, none⟩ (.int .i64 (wrap64 P.lw.mem.ft)))).cell? ⟨X.ad.pp, 40, none⟩ = some (.int .i64 (wrap64 P.lw.mem.wr)) := by go_simp
  have r41 : (((((((w3.setCell ⟨X.ad.pp, 38, none⟩ (.slice (some ⟨gw, 0, none⟩) P.lw.mem.words.length cw)).setCell ⟨X.ad.pp, 39, none⟩ (.int .i64 (wrap64 P.lw.mem.rd))).setCell ⟨X.ad.pp, 40, none⟩ (.int .i64 (wrap64 P.lw.mem.wr))).setCell ⟨X.ad.pp, 41, none⟩ (.int .i64 (wrap64 P.lw.mem.sw))).setCell ⟨X.ad.pp, 42, none⟩ (.int .i64 (wrap64 P.lw.mem.ad))).setCell ⟨X.ad.pp, 43, none⟩ (.int .i64 (wrap64 P.lw.mem.ft)))).cell? ⟨X.ad.pp, 41, none⟩ = some (.int .i64 (wrap64 P.lw.mem.sw)) := by go_simp
  have r42 : (((((((w3.setCell ⟨X.ad.pp, 38, none⟩ (.slice (some ⟨gw, 0, none⟩) P.lw.mem.words.length cw)).setCell ⟨X.ad.pp, 39, none⟩ (.int .i64 (wrap64 P.lw.mem.rd))).setCell ⟨X.ad.pp, 40, none⟩ (.int .i64 (wrap64 P.lw.mem.wr))).setCell ⟨X.ad.pp, 41, none⟩ (.int .i64 (wrap64 P.lw.mem.sw))).setCell ⟨X.ad.pp, 42, none⟩ (.int .i64 (wrap64 P.lw.mem.ad))).setCell ⟨X.ad.pp, 43, none⟩ (.int .i64 (wrap64 P.lw.mem.ft)))).cell? ⟨X.ad.pp, 42, none⟩ = some (.int .i64 (wrap64 P.lw.mem.ad)) := by go_simp
  have r43 : (((((((w3.setCell ⟨X.ad.pp, 38, none⟩ (.slice (some ⟨gw, 0, none⟩) P.lw.mem.words.length cw)).setCell ⟨X.ad.pp, 39, none⟩ (.int .i64 (wrap64 P.lw.mem.rd))).setCell ⟨X.ad.pp, 40, none⟩ (.int .i64 (wrap64 P.lw.mem.wr))).setCell ⟨X.ad.pp, 41, none⟩ (.int .i64 (wrap64 P.lw.mem.sw))).setCell ⟨X.ad.pp, 42, none⟩ (.int .i64 (wrap64 P.lw.mem.ad))).setCell ⟨X.ad.pp, 43, none⟩ (.int .i64 (wrap64 P.lw.mem.ft)))).cell? ⟨X.ad.pp, 43, none⟩ = some (.int .i64 (wrap64 P.lw.mem.ft)) := by go_simp
  have r44 : (((((((w3.setCell ⟨X.ad.pp, 38, none⟩ (.slice (some ⟨gw, 0, none⟩) P.lw.mem.words.length cw)).setCell ⟨X.ad.pp, 39, none⟩ (.int .i64 (wrap64 P.lw.mem.rd))).setCell ⟨X.ad.pp, 40, none⟩ (.int .i64 (wrap64 P.lw.mem.wr))).setCell ⟨X.ad.pp, 41, none⟩ (.int .i64 (wrap64 P.lw.mem.sw))).setCell ⟨X.ad.pp, 42, none⟩ (.int .i64 (wrap64 P.lw.mem.ad))).setCell ⟨X.ad.pp, 43, none⟩ (.int .i64 (wrap64 P.lw.mem.ft)))).cell? ⟨X.ad.pp, 44, none⟩ = some (.int .i64 P.lw.now) := by go_simp
  have r45 : (((((((w3.setCell ⟨X.ad.pp, 38, none⟩ (.slice (some ⟨gw, 0, none⟩) P.lw.mem.words.length cw)).setCell ⟨X.ad.pp, 39, none⟩ (.int .i64 (wrap64 P.lw.mem.rd))).setCell ⟨X.ad.pp, 40, none⟩ (.int .i64 (wrap64 P.lw.mem.wr))).setCell ⟨X.ad.pp, 41, none⟩ (.int .i64 (wrap64 P.lw.mem.sw))).setCell ⟨X.ad.pp, 42, none⟩ (.int .i64 (wrap64 P.lw.mem.ad))).setCell ⟨X.ad.pp, 43, none⟩ (.int .i64 (wrap64 P.lw.mem.ft)))).cell? ⟨X.ad.pp, 45, none⟩ = some (.int .i64 P.idle) := by go_simp
  have hkp : Keep (fun k => k ≠ X.ad.pp) w3 (((((((w3.setCell ⟨X.ad.pp, 38, none⟩ (.slice (some ⟨gw, 0, none⟩) P.lw.mem.words.length cw)).setCell ⟨X.ad.pp, 39, none⟩ (.int .i64 (wrap64 P.lw.mem.rd))).setCell ⟨X.ad.pp, 40, none⟩ (.int .i64 (wrap64 P.lw.mem.wr))).setCell ⟨X.ad.pp, 41, none⟩ (.int .i64 (wrap64 P.lw.mem.sw))).setCell ⟨X.ad.pp, 42, none⟩ (.int .i64 (wrap64 P.lw.mem.ad))).setCell ⟨X.ad.pp, 43, none⟩ (.int .i64 (wrap64 P.lw.mem.ft)))) :=
    ((((((Keep.refl _ _).setCell (by simp) _).setCell (by simp) _).setCell (by simp) _).setCell (by simp) _).setCell (by simp) _).setCell (by simp) _
  have hk4 := (hkp.block _ hpp).trans hk3
  have hz5 : w3.heap.size ≤ (((((((w3.setCell ⟨X.ad.pp, 38, none⟩ (.slice (some ⟨gw, 0, none⟩) P.lw.mem.words.length cw)).setCell ⟨X.ad.pp, 39, none⟩ (.int .i64 (wrap64 P.lw.mem.rd))).setCell ⟨X.ad.pp, 40, none⟩ (.int .i64 (wrap64 P.lw.mem.wr))).setCell ⟨X.ad.pp, 41, none⟩ (.int .i64 (wrap64 P.lw.mem.sw))).setCell ⟨X.ad.pp, 42, none⟩ (.int .i64 (wrap64 P.lw.mem.ad))).setCell ⟨X.ad.pp, 43, none⟩ (.int .i64 (wrap64 P.lw.mem.ft)))).heap.size := hkp.size
  have hwr4 := owns_keepV hwr3 hkp (fun k hk => by have h1 := (World.ownsRow.lt hwr k hk).1; simp at h1; omega)
  have hkF : Keep (fun k => k < w1.heap.size ∧ k ≠ X.ad.pp) w1 (((((((w3.setCell ⟨X.ad.pp, 38, none⟩ (.slice (some ⟨gw, 0, none⟩) P.lw.mem.words.length cw)).setCell ⟨X.ad.pp, 39, none⟩ (.int .i64 (wrap64 P.lw.mem.rd))).setCell ⟨X.ad.pp, 40, none⟩ (.int .i64 (wrap64 P.lw.mem.wr))).setCell ⟨X.ad.pp, 41, none⟩ (.int .i64 (wrap64 P.lw.mem.sw))).setCell ⟨X.ad.pp, 42, none⟩ (.int .i64 (wrap64 P.lw.mem.ad))).setCell ⟨X.ad.pp, 43, none⟩ (.int .i64 (wrap64 P.lw.mem.ft)))) := ((hkc.mono (fun k hk => hk.2)).trans (Keep.of_below (K := fun k => k < w1.heap.size ∧ k ≠ X.ad.pp) hB (fun k hk => by simpa using hk.1))).trans (hkp.mono (fun k hk => hk.2))
  refine seq_nil ?_
  generalize ((((((w3.setCell ⟨X.ad.pp, 38, none⟩ (.slice (some ⟨gw, 0, none⟩) P.lw.mem.words.length cw)).setCell ⟨X.ad.pp, 39, none⟩ (.int .i64 (wrap64 P.lw.mem.rd))).setCell ⟨X.ad.pp, 40, none⟩ (.int .i64 (wrap64 P.lw.mem.wr))).setCell ⟨X.ad.pp, 41, none⟩ (.int .i64 (wrap64 P.lw.mem.sw))).setCell ⟨X.ad.pp, 42, none⟩ (.int .i64 (wrap64 P.lw.mem.ad))).setCell ⟨X.ad.pp, 43, none⟩ (.int .i64 (wrap64 P.lw.mem.ft))) = W4 at r37 r38 r39 r40 r41 r42 r43 r44 r45 hk4 hz5 hwr4 hkF ⊢
  have HWR := hide hwr4
  have HKF := hide hkF
  have z4 : X.ad.pp < W4.heap.size := Nat.lt_of_lt_of_le hz3' hz5
  have z5 : w.heap.size < W4.heap.size := Nat.lt_of_lt_of_le hz4' hz5
  have hra : W4.rangeAt X.ad.pp 37 ([.slice Ae (P.ends T.G).length ce, .slice (some ⟨gw, 0, none⟩) P.lw.mem.words.length cw, .int .i64 (wrap64 P.lw.mem.rd), .int .i64 (wrap64 P.lw.mem.wr), .int .i64 (wrap64 P.lw.mem.sw), .int .i64 (wrap64 P.lw.mem.ad), .int .i64 (wrap64 P.lw.mem.ft), .int .i64 P.lw.now, .int .i64 P.idle] : List Value) := by
    intro j v hj
    match j, hj with
    | 0, hj => cases hj; exact r37
    | 1, hj => cases hj; exact r38
    | 2, hj => cases hj; exact r39
    | 3, hj => cases hj; exact r40
    | 4, hj => cases hj; exact r41
    | 5, hj => cases hj; exact r42
    | 6, hj => cases hj; exact r43
    | 7, hj => cases hj; exact r44
    | 8, hj => cases hj; exact r45
    | j + 9, hj => simp at hj
  have hth : W4.there w.heap.size 0 ([.slice Ae (P.ends T.G).length ce, .slice (some ⟨gw, 0, none⟩) P.lw.mem.words.length cw, .int .i64 (wrap64 P.lw.mem.rd), .int .i64 (wrap64 P.lw.mem.wr), .int .i64 (wrap64 P.lw.mem.sw), .int .i64 (wrap64 P.lw.mem.ad), .int .i64 (wrap64 P.lw.mem.ft), .int .i64 P.lw.now, .int .i64 P.idle] : List Value).length := by
    intro j hj
    refine ⟨?_, frozen_of_row W4 _ _ _ _ hk4⟩
    rw [cell_of_row W4 _ _ _ _ _ hk4]
    simp only [Nat.zero_add]
    exact isSome_lt hj
  have hkC := Keep.setCells (K := fun k => k ≠ w.heap.size) (Keep.refl _ W4) (b := w.heap.size) (by simp) 0 ([.slice Ae (P.ends T.G).length ce, .slice (some ⟨gw, 0, none⟩) P.lw.mem.words.length cw, .int .i64 (wrap64 P.lw.mem.rd), .int .i64 (wrap64 P.lw.mem.wr), .int .i64 (wrap64 P.lw.mem.sw), .int .i64 (wrap64 P.lw.mem.ad), .int .i64 (wrap64 P.lw.mem.ft), .int .i64 P.lw.now, .int .i64 P.idle] : List Value)
  have hRS := World.rangeAt_setCells_same W4 w.heap.size 0 ([.slice Ae (P.ends T.G).length ce, .slice (some ⟨gw, 0, none⟩) P.lw.mem.words.length cw, .int .i64 (wrap64 P.lw.mem.rd), .int .i64 (wrap64 P.lw.mem.wr), .int .i64 (wrap64 P.lw.mem.sw), .int .i64 (wrap64 P.lw.mem.ad), .int .i64 (wrap64 P.lw.mem.ft), .int .i64 P.lw.now, .int .i64 P.idle] : List Value) hth
  clear hwr hwr3 hB hb2 hb3 hq hqf C1 C2 hkp hk4 hwr4 hkF hkc hm1 hm2 hk3 u0 u37 u38 u39 u40 u41 u42 u43 u44 u45 v38 v39 v40 v41 v42 v43 i0 i37 i38 i39 i40 i41 i42 i43 i44 i45 q38 q39 q40 q41 q42 q43 q44 r37 r38 r39 r40 r41 r42 r43 r44 r45 j0 j1 hk1 s0 s1
  have HKC := hide hkC
  clear hkC
  go_wp2_with (first
    | refine wpList_load_mid rfl 60 (.tmp 42) rfl X.ad.pp 37 (by rfl) ([.slice Ae (P.ends T.G).length ce, .slice (some ⟨gw, 0, none⟩) P.lw.mem.words.length cw, .int .i64 (wrap64 P.lw.mem.rd), .int .i64 (wrap64 P.lw.mem.wr), .int .i64 (wrap64 P.lw.mem.sw), .int .i64 (wrap64 P.lw.mem.ad), .int .i64 (wrap64 P.lw.mem.ft), .int .i64 P.lw.now, .int .i64 P.idle] : List Value) _ hra Tryz.underlying60 rfl (by kernel_rfl) ?_
    | refine wpList_store_mid rfl 60 (.tmp 2) (.tmp 43) rfl w.heap.size 0 ([.slice Ae (P.ends T.G).length ce, .slice (some ⟨gw, 0, none⟩) P.lw.mem.words.length cw, .int .i64 (wrap64 P.lw.mem.rd), .int .i64 (wrap64 P.lw.mem.wr), .int .i64 (wrap64 P.lw.mem.sw), .int .i64 (wrap64 P.lw.mem.ad), .int .i64 (wrap64 P.lw.mem.ft), .int .i64 P.lw.now, .int .i64 P.idle] : List Value).toArray (by rfl) (by rfl) hth (by kernel_rfl) (by kernel_rfl) ?_)
  simp only [Act.put, List.setIfInBounds_toArray, List.set_cons_zero, List.set_cons_succ]
  go_wp2
  have hld := run_loadVar_mid (P := Tryz.prog) (W4.setCells w.heap.size 0 ([.slice Ae (P.ends T.G).length ce, .slice (some ⟨gw, 0, none⟩) P.lw.mem.words.length cw, .int .i64 (wrap64 P.lw.mem.rd), .int .i64 (wrap64 P.lw.mem.wr), .int .i64 (wrap64 P.lw.mem.sw), .int .i64 (wrap64 P.lw.mem.ad), .int .i64 (wrap64 P.lw.mem.ft), .int .i64 P.lw.now, .int .i64 P.idle] : List Value)) w.heap.size 0 60 ([.slice Ae (P.ends T.G).length ce, .slice (some ⟨gw, 0, none⟩) P.lw.mem.words.length cw, .int .i64 (wrap64 P.lw.mem.rd), .int .i64 (wrap64 P.lw.mem.wr), .int .i64 (wrap64 P.lw.mem.sw), .int .i64 (wrap64 P.lw.mem.ad), .int .i64 (wrap64 P.lw.mem.ft), .int .i64 P.lw.now, .int .i64 P.idle] : List Value) _ hRS Tryz.underlying60 rfl (by kernel_rfl)
  refine bodyPost_ret (v := repV (.slice Ae (P.ends T.G).length ce) (.slice (some ⟨gw, 0, none⟩) P.lw.mem.words.length cw) P.lw.mem P.lw.now P.idle) (by simp [results, Tryz.results46, hld, repV, asAddr]) rfl ?_
  refine ⟨gw, cw, by rw [eev], ?_, ?_, ?_⟩
  · have hk5 := (HKF.out.mono (K' := fun k => (k < w1.heap.size ∧ k ≠ X.ad.pp) ∧ k ≠ w.heap.size) (fun k hk => hk.1)).trans (HKC.out.mono (fun k hk => hk.2))
    exact HL.out.evs.keep hk5 (fun k h1 h2 => ⟨⟨h1, fun e => h2 (Or.inl (e ▸ hpm))⟩, fun e => h2 (Or.inr e)⟩) (fun k _ hm => Or.inl hm) (fun k hk => ⟨⟨Nat.lt_trans (HEL.out k hk) hrz, fun e => (HL.out.muEv k hk).2.1 (e ▸ Or.inl rfl)⟩, Nat.ne_of_lt (HEL.out k hk)⟩)
  · exact owns_base (owns_keepV HWR.out HKC.out (fun k hk => by have h1 := (World.ownsRow.lt HWR.out k hk).1; simp at h1; omega)) (by simp; omega)
  · have hk5 := (HKF.out.mono (K' := fun k => (k < w1.heap.size ∧ k ≠ X.ad.pp) ∧ k ≠ w.heap.size) (fun k hk => hk.1)).trans (HKC.out.mono (fun k hk => hk.2))
    exact ((HKA.out.mono (K' := fun k => k < w.heap.size ∧ k ≠ X.ad.pp ∧ ev.ownBlock ≠ some k) (fun k hk => hk.1)).trans (HK.out.mono (fun k hk => ⟨by simp; omega, hk.2.2⟩))).trans (hk5.mono (fun k hk => ⟨⟨Nat.lt_trans hk.1 hrz, hk.2.1⟩, Nat.ne_of_lt hk.1⟩))
end Go.Proofs.YtfghmlpjbedomaaGreat
