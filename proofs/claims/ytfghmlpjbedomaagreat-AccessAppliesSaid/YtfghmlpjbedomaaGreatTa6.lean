/- The accesses of a play of one tally (access.Play), walked: those that law 44's known case has. -/
import Derived.Test.YtfghmlpjbedomaaGreatBun10
import Derived.Test.YtfghmlpjbedomaaGreatTt2
namespace Go.Proofs.YtfghmlpjbedomaaGreat
open Go.RowKit
attribute [local go_sem] run_store_fn run_store_nilfn

set_option maxRecDepth 100000 in
theorem memWatchW {pm px : Nat} {m : Mm} {w : World} {tb qb : Nat} (h : MemAt w pm px .nilFunc m) :
    Calls Tryz.prog 56 #[.pointer (some ⟨pm, 0, none⟩), hookV tb qb] w fun e w' => e = .returned (.tuple #[]) ∧ w' = w.setCell ⟨pm, 6, none⟩ (hookV tb qb) := by
  obtain ⟨c, a0, a1, a2, a3, a4, a5, a6, hc, hcm⟩ := h.cells
  have f6 := h.frozen 6
  clear h
  unfold hookV
  go_enter Tryz.func56, Tryz.ntmps56
  go_wp2
  go_end0
  exact ⟨rfl, rfl⟩
set_option maxRecDepth 100000 in
theorem playerWatchW {pp pw pm px ob : Nat} {m : Mm} {w : World} (h : MemAt w pm px .nilFunc m) (h0 : w.cell? ⟨pp, 0, none⟩ = some (.pointer (some ⟨pw, 0, none⟩))) (h1 : w.cell? ⟨pw, 0, none⟩ = some (.pointer (some ⟨pm, 0, none⟩))) (hpp : pp < w.heap.size) (hpw : pw < w.heap.size) :
    Calls Tryz.prog 40 #[.pointer (some ⟨pp, 0, none⟩), toldV ob] w fun e w' => e = .returned (.tuple #[]) ∧ w' = ((w.setCell ⟨pm, 6, none⟩ (hookV (w.heap.size + 1) w.heap.size)).alloc (.cells #[.pointer (some ⟨pp, 0, none⟩)] 94)).alloc (.cells #[toldV ob] 98) := by
  have hz := h.lt
  have hA : MemAt ((w.alloc (.cells #[.pointer (some ⟨pp, 0, none⟩)] 94)).alloc (.cells #[toldV ob] 98)) pm px .nilFunc m := (h.of_blocks (Below.heap_alloc _ _ _ hz.1) (Below.heap_alloc _ _ _ hz.2)).of_blocks (Below.heap_alloc _ _ _ (by simp; omega)) (Below.heap_alloc _ _ _ (by simp; omega))
  have N := memWatchW (tb := w.heap.size + 1) (qb := w.heap.size) hA
  have HN := hide N
  clear h hA N
  unfold toldV hookV at *
  go_enter Tryz.func40, Tryz.ntmps40
  go_wp2_with fail
  refine HN.out.mono ?_
  rintro e w1 ⟨rfl, rfl⟩
  go_wp2
  go_end0
  exact ⟨rfl, rfl⟩
def taL : List Ac := [⟨1, 1, 0, 1, 0, 0⟩, ⟨2, 1, 1, 1, 0, 1⟩]
theorem ta_chk : chkE 2 taC 3 = 0 := by decide
theorem taC_ok : (∀ c ∈ taC, ClU c) ∧ ∀ c ∈ taC, taCl c := by
  refine ⟨fun c hc => ?_, fun c hc => ?_⟩ <;> (have := List.mem_singleton.1 hc; subst this; simp [ClU, taCl])
theorem owns_sl2 {w : World} {B ob oc : Nat} {t : TypeId} {v : Value} (h : w.ownsRow B t 1 (.slice (some ⟨ob, 0, none⟩) 1 oc) 1 [v]) : Sl (fun v : Value => [v]) 1 w (.slice (some ⟨ob, 0, none⟩) 1 oc) [v] ∧ B ≤ ob :=
  ⟨sl_of_owns_en (en := fun v : Value => [v]) (fun _ => rfl) (l := [v]) h (by simp [maxLen]), (World.ownsRow.lt h ob rfl).1⟩
set_option maxRecDepth 100000 in
set_option maxHeartbeats 4000000 in
theorem accPlayW {B cc : Nat} {A : Option Addr} {c : Nat} {Ap : Option Addr} {cp : Nat} {w : World} (hs : SlSp w (.slice (some ⟨B, 0, none⟩) 1 cc) [⟨2, 0, 0⟩]) (h : SlCl w (.slice A 1 c) taC) (hp : SlI w (.slice Ap 3 cp) [1, 0, 1]) :
    Calls Tryz.prog 25 #[.int .i64 2, .slice (some ⟨B, 0, none⟩) 1 cc, .slice A 1 c, .slice Ap 3 cp] w fun e w' => ∃ v b, e = .returned (.tuple #[v, .int .i64 0]) ∧ w.heap.size ≤ b ∧ w'.ownsRow b 39 6 v 2 (taL.flatMap acEnc) ∧ Below w.heap.size w w' := by
  have N0 := loomCheck 2 A 1 c taC Ap 3 cp w h rfl
  rw [ta_chk] at N0
  have HS := hide hs
  have HC := hide h
  have HP := hide hp
  clear hs h hp
  go_enter Tryz.func25, Tryz.ntmps25
  go_wp2_with fail
  refine N0.mono ?_
  rintro e w1 ⟨rfl, hb1⟩
  have N1 := ttMake w1 (HS.out.below hb1 (Nat.le_refl _))
  have HB1 := hide hb1
  clear N0 hb1
  go_wp2_with fail
  refine N1.mono ?_
  rintro e w2 ⟨ob, oc, g, rfl, hown, hg, hgz, hb2⟩
  have hz1 := HB1.out.size
  have hb02 := HB1.out.trans (hb2.mono hz1)
  obtain ⟨hV, hob⟩ := owns_sl2 hown
  have hmc : madeCells #[Value.int .u64 0] 2 = #[Value.int .u64 0, Value.int .u64 0] := by kernel_rfl
  rw [← hmc] at hg
  have C := loomBegin (T := taTh 0 0 0 0 0) (n := 2) (AO := some ⟨ob, 0, none⟩) (co := oc) (a := ⟨g, 0, none⟩) (nw := 2) (cw := 2) (words := [0, 0]) (A := A) (m := 1) (c := c) (cs := taC) (o := none) (Fo := fun _ => False) (w := w2) (taTh_ok 0 0 0 0 0) (made_sl (N := 2) hg (by unfold maxLen; decide)) rfl (by decide) (HC.out.below hb02 (Nat.le_refl _)) rfl taC_ok.1 (by decide)
    (fun _ h => h) hV (fun a e _ hk => hk) (fun a e hl hk => hk) (hcl := fun c hc _ => taC_ok.2 c hc)
  have HB2 := hide hb02
  clear N1 hb2 hb02 hown hV hg
  go_wp2_with fail
  refine C.mono ?_
  rintro e w3 ⟨X, Mu, Fm, hv, ev, hX, hhk, rfl, hL, hmu, hXB, hb3⟩
  obtain ⟨z, hz⟩ : ∃ z, w3.heap.size = z := ⟨_, rfl⟩
  have hty := hL.types
  have hppM := hL.muFix X.ad.pp (Or.inl rfl)
  have hpwM := hL.muFix X.ad.pw (Or.inr (Or.inr (Or.inr (Or.inl rfl))))
  have hpp := hL.lt _ hppM
  have hpw := hL.lt _ hpwM
  have hmem := hL.world.mem
  rw [hhk] at hmem
  have hml := hmem.lt
  obtain ⟨f, f1, f2, fr⟩ := hL.player
  clear fr
  have p0 := f1.cell (i := 0) (by omega)
  rw [f2] at p0
  have p1 := hL.world.ptr
  have N2 := playerWatchW (ob := z) (w := w3.alloc (.cells #[.slice none 0 0] 34)) (hmem.of_blocks (Below.heap_alloc _ _ _ hml.1) (Below.heap_alloc _ _ _ hml.2)) ((World.cell?_of_block (a := ⟨X.ad.pp, 0, none⟩) (Below.heap_alloc _ _ _ hpp)).trans p0) ((World.cell?_of_block (a := ⟨X.ad.pw, 0, none⟩) (Below.heap_alloc _ _ _ hpw)).trans p1) (by simp; omega) (by simp; omega)
  have HL := hide hL
  have HB3 := hide hb3
  have HX := hide hX
  have HMU := hide hmu
  have HMEM := hide hmem
  have HTY := hide hty
  have HN2 := hide N2
  clear C hL hb3 hX hmu hmem hty N2 f1 f2 p0 p1
  unfold toldV at HN2
  go_wp2_with fail
  refine HN2.out.mono ?_
  rintro e w6 ⟨rfl, hw6⟩
  clear HN2
  have hs6 : w6.heap.size = z + 3 := by rw [hw6]; simp [hz]
  have hmw := memWatch (H' := hookV (z + 2) (z + 1)) (HMEM.out.of_blocks (w' := w3.alloc (.cells #[.slice none 0 0] 34)) (Below.heap_alloc _ _ _ hml.1) (Below.heap_alloc _ _ _ hml.2))
  have hw6' : w6 = (((w3.alloc (.cells #[.slice none 0 0] 34)).setCell ⟨X.ad.pm, 6, none⟩ (hookV (z + 2) (z + 1))).alloc (.cells #[.pointer (some ⟨X.ad.pp, 0, none⟩)] 94)).alloc (.cells #[toldV z] 98) := by
    rw [hw6]
    simp [hz, toldV]
  have hm6 : MemAt w6 X.ad.pm X.ad.px (hookV (z + 2) (z + 1)) (Ps.new [0, 0] none 1 : Ps TM (Option (List Ac))).lw.mem := by
    have hl2 := hmw.lt
    rw [hw6']
    exact (hmw.of_blocks (Below.heap_alloc _ _ _ hl2.1) (Below.heap_alloc _ _ _ hl2.2)).of_blocks (Below.heap_alloc _ _ _ (by have := hl2.1; simp at this ⊢; omega)) (Below.heap_alloc _ _ _ (by have := hl2.2; simp at this ⊢; omega))
  have hb6 : w6.heap[z]? = some (.cells #[.slice none 0 0] 34 (0, 0)) := by
    rw [hw6']
    refine (Below.heap_alloc _ _ _ (by simp [hz]; omega)).trans ((Below.heap_alloc _ _ _ (by simp [hz])).trans ((Below.heap_setCell _ _ _ _ (by show z ≠ X.ad.pm; omega)).trans ?_))
    rw [← hz]
    exact heap_alloc_new _ _
  have hq6 : w6.heap[z + 1]? = some (.cells #[.pointer (some ⟨X.ad.pp, 0, none⟩)] 94 (0, 0)) := by
    rw [hw6']
    refine (Below.heap_alloc _ _ _ (by simp [hz])).trans ?_
    have hh := heap_alloc_new ((w3.alloc (.cells #[.slice none 0 0] 34)).setCell ⟨X.ad.pm, 6, none⟩ (hookV (z + 2) (z + 1))) (.cells #[.pointer (some ⟨X.ad.pp, 0, none⟩)] 94)
    have he : ((w3.alloc (.cells #[.slice none 0 0] 34)).setCell ⟨X.ad.pm, 6, none⟩ (hookV (z + 2) (z + 1))).heap.size = z + 1 := by simp [hz]
    rw [he] at hh
    exact hh
  have ht6 : w6.heap[z + 2]? = some (.cells #[toldV z] 98 (0, 0)) := by
    rw [hw6']
    have hh := heap_alloc_new (((w3.alloc (.cells #[.slice none 0 0] 34)).setCell ⟨X.ad.pm, 6, none⟩ (hookV (z + 2) (z + 1))).alloc (.cells #[.pointer (some ⟨X.ad.pp, 0, none⟩)] 94)) (.cells #[toldV z] 98)
    have he : (((w3.alloc (.cells #[.slice none 0 0] 34)).setCell ⟨X.ad.pm, 6, none⟩ (hookV (z + 2) (z + 1))).alloc (.cells #[.pointer (some ⟨X.ad.pp, 0, none⟩)] 94)).heap.size = z + 2 := by simp [hz]
    rw [he] at hh
    exact hh
  have hk6 : Keep (fun k => k < w3.heap.size ∧ k ≠ X.ad.pm) w3 w6 := by
    rw [hw6']
    exact ((((Keep.refl _ w3).alloc (fun k hk => hk.1) _).setCell (fun hk => hk.2 rfl) _).alloc (fun k hk => by simp; omega) _).alloc (fun k hk => by simp; omega) _
  clear hw6 hw6' hmw
  have hO6 : taOB z (z + 2) (z + 1) (z + 3) X.ad.pp w6 (fun k => k = z ∨ k = z + 2 ∨ k = z + 1) (some []) := ⟨.slice none 0 0, ⟨hb6, World.ownsRow_nil _ _ _ _⟩, ht6, hq6, by omega, ⟨by omega, by omega, by omega⟩, fun k => ⟨fun hk => by rcases hk with hk | hk | hk; exact Or.inl hk; exact Or.inr (Or.inl hk); exact Or.inr (Or.inr (Or.inl hk)), fun hk => by rcases hk with hk | hk | hk | hk; exact Or.inl hk; exact Or.inr (Or.inl hk); exact Or.inr (Or.inr hk); cases hk⟩⟩
  obtain ⟨X6, hX6⟩ : ∃ X6 : Fix, X6 = { X with ad := { X.ad with hk := hookV (z + 2) (z + 1) } } := ⟨_, rfl⟩
  have hL6 : PLa (taTh z (z + 2) (z + 1) (z + 3) X.ad.pp) X6 w6 (fun k => Mu k ∨ (k = z ∨ k = z + 2 ∨ k = z + 1)) (fun k => k = z ∨ k = z + 2 ∨ k = z + 1) Fm hv ev (Ps.new [0, 0] (some []) 1) := by
    rw [hX6]
    exact PLa.rehook (T := taTh z (z + 2) (z + 1) (z + 3) X.ad.pp) (w' := w6) (Fo' := fun k => k = z ∨ k = z + 2 ∨ k = z + 1) (o' := some []) HL.out (fun _ => rfl) rfl (fun c hc => by rw [HX.out] at hc; exact taC_ok.2 c hc) hO6 (fun k hk => by rw [hz, hs6]; have hk : k = z ∨ k = z + 2 ∨ k = z + 1 := hk; omega) hk6 hm6
  have x1 : X6.cs = taC := by rw [hX6]; exact HX.out
  have x2 : X6.ad.pp = X.ad.pp := by rw [hX6]
  have henv : ∀ (w' : World) (t : Nat), w'.cell? ⟨X6.ad.pp, 0, none⟩ = some (.pointer (some ⟨X6.ad.pw, 0, none⟩)) → w'.cell? ⟨X6.ad.pp, 4, none⟩ = some (.int .i64 (t : Nat)) → (taTh z (z + 2) (z + 1) (z + 3) X.ad.pp).env w' X6.ad t := by
    intro w' t g0 g4
    have hn := HTY.out
    rw [hX6] at g0 g4 ⊢
    exact ⟨rfl, rfl, by show X.ad.pw < z + 3; omega, hn.2.1.symm, hn.2.2.1.symm, g0, g4⟩
  have hmuw : ∀ k, (Mu k ∨ (k = z ∨ k = z + 2 ∨ k = z + 1)) → w.heap.size ≤ k := by
    intro k hk
    have hz2 := HB2.out.size
    have hz3 := HB3.out.size
    rcases hk with hk | hk
    · rcases HMU.out k hk with h1 | h1
      · exact h1.elim
      · omega
    · omega
  have hkw : Keep (fun k => k < w.heap.size) w w6 := ((Keep.of_below (K := fun k => k < w.heap.size) HB2.out (fun k hk => hk)).trans (Keep.of_below (K := fun k => k < w.heap.size) HB3.out (fun k hk => by have := HB2.out.size; omega))).trans (hk6.mono (fun k hk => ⟨by have := HB2.out.size; have := HB3.out.size; omega, fun e => by
    have h1 : Mu X.ad.pm := HL.out.muFix _ (Or.inr (Or.inr (Or.inr (Or.inr (Or.inl rfl)))))
    have h2 := hmuw _ (Or.inl h1)
    omega⟩))
  have hgood0 : (taTh z (z + 2) (z + 1) (z + 3) X.ad.pp).good (Ps.new [0, 0] (some []) 1 : Ps TM (Option (List Ac))).obj (Ps.new [0, 0] (some []) 1 : Ps TM (Option (List Ac))).lw (Ps.new [0, 0] (some []) 1 : Ps TM (Option (List Ac))).ms := by
    refine ⟨⟨[], rfl, Int.le_refl _⟩, Int.le_refl _, rfl, fun x hx => ?_, fun t m hm => by cases hm⟩
    have : x = 0 := by simpa [Ps.new, Mm.new] using hx
    omega
  have hthr : ∀ c ∈ taC, 0 ≤ c.thread ∧ c.thread < 16 ∧ ClU c ∧ taCl c := by rw [← x1]; exact hL6.thr
  have HTHR := hide hthr
  have HL6 := hide hL6
  have HE := hide henv
  have HG0 := hide hgood0
  have HMW := hide hmuw
  have HKW := hide hkw
  have HX6 := hide x1
  have HP3 := hide (HP.out.below (HB1.out) (Nat.le_refl _))
  clear hL6 henv hgood0 hmuw hkw hk6 hO6 hm6 hb6 hq6 ht6 x1 hthr hX6 HL HMU HX HMEM
  go_wp2
  go_loopw [51] (fun i wr => ∃ (k : Nat) (Mu Fo' : Nat → Prop) (Fm : Nat → Nat → Prop) (hv : Nat → Value) (ev : Value), k ≤ 3 ∧ i = .int .i64 (k : Int) ∧ Hid (PLa (taTh z (z + 2) (z + 1) (z + 3) X.ad.pp) X6 wr Mu Fo' Fm hv ev ((Ps.new [0, 0] (some []) 1).play taG taC (([1, 0, 1] : List Int).take k))) ∧ Hid (∀ j, Mu j → w.heap.size ≤ j) ∧ Hid (Keep (fun j => j < w.heap.size) w wr)) (fun i _ => 3 - (intOf i).toNat)
  case atStart => exact ⟨0, _, _, Fm, hv, ev, Nat.zero_le _, rfl, HL6, HMW, HKW⟩
  case round =>
    clear HL6 HMW HKW hppM hpwM Mu Fm hv ev
    obtain ⟨k, Mu, Fo', Fm, hv, ev, hk, rfl, hL, hmu, hK⟩ := hrel
    by_cases hlt : k < 3
    · obtain ⟨p, hpk⟩ : ∃ p, ([1, 0, 1] : List Int)[k]? = some p := ⟨_, List.getElem?_eq_getElem (by simpa using hlt)⟩
      obtain ⟨A', c', e, g1, g2, g3⟩ := HP.out
      obtain ⟨bb, oo, e', hbb, hc⟩ := g3 k p hpk
      cases e
      cases e'
      have c0' := (hK.out.cell (p := ⟨bb, oo + k * 1 + 0, none⟩) hbb).trans (hc 0 (.int .i64 p) rfl)
      have c0 : wr.cell? ⟨bb, oo + k, none⟩ = some (.int .i64 p) := by simpa using c0'
      have hkk : (k : Int) < 3 := by omega
      have hk0 : (0 : Int) ≤ (k : Int) := by omega
      have hgk := good_play (taTh_ok z (z + 2) (z + 1) (z + 3) X.ad.pp) HTHR.out (([1, 0, 1] : List Int).take k) (P := Ps.new [0, 0] (some []) 1) HG0.out
      have hpb := PB.play taG_still (fun c hc => (HTHR.out c hc).1) (([1, 0, 1] : List Int).take k) (PB.new [0, 0] (some []) 1 (M := TM) (O := Option (List Ac)))
      have N0 := playerPick (taTh_ok z (z + 2) (z + 1) (z + 3) X.ad.pp) hL.out hgk hpb (by rw [List.length_take]; omega) p HE.out
      have N := N0
      rw [x2] at N
      have HN := hide (play_succ (G := taG) (cs := taC) (P := Ps.new [0, 0] (some []) 1) hpk)
      clear g3 hc c0' hgk hpb g1 g2 hpk N0
      go_wp2_with fail
      refine N.mono ?_
      rintro e w5 ⟨⟨d, rfl⟩, Mu5, Fo5, Fm5, hv5, ev5, hL5, hmu5, hk5⟩
      have HL5 := hide hL5
      have HM5 := hide hmu5
      have HK5 := hide hk5
      clear hL5 hmu5 hk5 N
      go_wp2
      go_roundw
      case rel =>
        refine ⟨k + 1, Mu5, Fo5, Fm5, hv5, ev5, by omega, by go_num, hide ?_, hide (fun j hj => ?_), hide (hK.out.trans (HK5.out.mono (fun j hj => ⟨by have := hK.out.size; omega, fun hm => by have := hmu.out j hm; omega⟩)))⟩
        · have := HL5.out
          rw [HX6.out] at this
          rw [HN.out]
          exact this
        · rcases HM5.out j hj with h1 | h1
          · exact hmu.out j h1
          · have := hK.out.size; omega
      case measure => first | (simp [intOf]; done) | (simp [intOf]; omega)
    · obtain rfl : k = 3 := by omega
      have hO := hL.out.objs
      have hob : ((Ps.new [0, 0] (some []) 1).play taG taC (([1, 0, 1] : List Int).take 3)).obj = some taL := ta_one
      rw [hob] at hO
      obtain ⟨v, h1, _⟩ := hO
      have cb : wr.cell? ⟨z, 0, none⟩ = some v := cell_of_row _ _ 0 _ _ _ h1.box
      have HR := hide h1.row
      have hzz : w.heap.size ≤ z + 3 := by have := HB2.out.size; have := HB3.out.size; omega
      obtain ⟨Av, cv, rfl⟩ := own_slice h1.row
      clear h1 hob
      go_wp2
      go_ret2
      exact ⟨_, z + 3, rfl, hzz, HR.out, hK.out.below (fun k hk => hk)⟩
end Go.Proofs.YtfghmlpjbedomaaGreat
