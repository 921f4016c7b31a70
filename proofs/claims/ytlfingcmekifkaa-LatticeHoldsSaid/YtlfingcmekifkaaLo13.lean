/- A play on a loom (loom.Play): what comes of it is what the plain play gives. -/
import Derived.Test.YtlfingcmekifkaaLo12
namespace Go.Proofs.Ytlfingcmekifkaa
open Go.RowKit

theorem good_play {M O : Type} {T : Th M O} (hT : T.Ok) {cs : List Cl} (hcs : ∀ c ∈ cs, 0 ≤ c.thread ∧ c.thread < 16 ∧ ClU c ∧ c.thread < T.nt) (picks : List Int) : ∀ {P : Ps M O}, T.good P.obj P.lw P.ms → T.good (P.play T.G cs picks).obj (P.play T.G cs picks).lw (P.play T.G cs picks).ms := by
  induction picks with
  | nil => exact fun h => h
  | cons p l ih => exact fun h => ih (good_pick hT hcs h p)
/-- One more block among the objects'. -/
def Th.hold {M O : Type} (T : Th M O) (b : Nat) (c : Obj) : Th M O := { T with OB := fun w F o => ∃ F1, T.OB w F1 o ∧ (∀ k, F k ↔ F1 k ∨ k = b) ∧ ¬ F1 b ∧ w.heap[b]? = some c }
theorem Th.hold_ok {M O : Type} {T : Th M O} (hT : T.Ok) (b : Nat) (c : Obj) : (T.hold b c).Ok := by
  refine ⟨?_, ?_, hT.mlKeep, hT.alKeep, hT.mlLt, hT.mlIface, hT.objIface, ?_, hT.refuse, ?_, hT.still, hT.ans, hT.late, hT.goodStart, hT.goodTick, hT.goodStep⟩
  · rintro w w' F o S ⟨F1, h1, h2, h3, h4⟩ hk hS
    exact ⟨F1, hT.obKeep h1 hk (fun k hk => hS k ((h2 k).2 (Or.inl hk))), h2, h3, (hk.block b (hS b ((h2 b).2 (Or.inr rfl)))).trans h4⟩
  · rintro w F o ⟨F1, h1, h2, h3, h4⟩ k hk
    rcases (h2 k).1 hk with hk | rfl
    · exact hT.obLt h1 k hk
    · exact (Array.getElem?_eq_some_iff.1 h4).1
  · rintro w Fo o lw hs t j cl v ⟨F1, h1, h2, h3, h4⟩ hg hn ht hc hu ho hv
    have hbz := (Array.getElem?_eq_some_iff.1 h4).1
    obtain ⟨f, r, hd, hcall⟩ := hT.start h1 hg hn ht hc hu ho hv
    refine ⟨f, r, hd, fun pw => (hcall pw).mono ?_⟩
    rintro e w' ⟨Fo1, Fm1, u, he, a1, a2, a3, a4, a5, a6⟩
    refine ⟨fun k => Fo1 k ∨ k = b, Fm1, u, he, ⟨Fo1, a1, fun k => Iff.rfl, fun hb => ?_, (a6.block b ⟨hbz, h3⟩).trans h4⟩, a2, fun k hk => ?_, fun k hk => ?_, fun k hk hm => ?_, a6.mono (fun k hk => ⟨hk.1, fun hf => hk.2 ((h2 k).2 (Or.inl hf))⟩)⟩
    · rcases a3 b hb with h | h
      · exact h3 h
      · omega
    · rcases hk with hk | rfl
      · rcases a3 k hk with h | h
        · exact Or.inl ((h2 k).2 (Or.inl h))
        · exact Or.inr h
      · exact Or.inl ((h2 k).2 (Or.inr rfl))
    · rcases a4 k hk with h | h
      · exact Or.inl ((h2 k).2 (Or.inl h))
      · exact Or.inr h
    · rcases hk with hk | rfl
      · exact a5 k hk hm
      · rcases a4 k hm with h | h
        · exact h3 h
        · omega
  · rintro w Fo Fm v m o lw hs ad Mu t ⟨F1, h1, h2, h3, h4⟩ hML hw hh hg hn0 hn1 ht c1 c2 c3 c4 c5
    have hbz := (Array.getElem?_eq_some_iff.1 h4).1
    have hFb := (h2 b).2 (Or.inr rfl)
    obtain ⟨cm, c4'⟩ := c1 b hFb
    obtain ⟨f, r, hd, hcall⟩ := hT.step h1 hML hw hh hg hn0 hn1 ht (fun k hk => c1 k ((h2 k).2 (Or.inl hk))) c2 (fun k hk => c3 k (by rcases hk with hk | hk; exact Or.inl ((h2 k).2 (Or.inl hk)); exact Or.inr hk)) c4 c5
    refine ⟨f, r, hd, hcall.mono ?_⟩
    rintro e w' ⟨Fo1, Fm1, he, a1, a2, a2', a3, a4, a5, a6⟩
    have hnb : ∀ k, Fo1 k ∨ Fm1 k → k ≠ b := by
      rintro k hk rfl
      rcases a4 _ hk with h | h | h
      · exact h3 h
      · exact cm h
      · omega
    refine ⟨fun k => Fo1 k ∨ k = b, Fm1, he, ⟨Fo1, a1, fun k => Iff.rfl, fun hb => hnb b (Or.inl hb) rfl, (a6.block b ⟨hbz, h3, cm, c4'⟩).trans h4⟩, a2, a2', ?_, fun k hk => ?_, fun k hk hm => ?_, a6.mono (fun k hk => ⟨hk.1, fun hf => hk.2.1 ((h2 k).2 (Or.inl hf)), hk.2.2.1, hk.2.2.2⟩)⟩
    · refine a3.keep (Keep.refl (fun _ => True) w') (fun _ _ _ => trivial) (fun k _ hk => ?_) trivial trivial trivial trivial
      rcases hk with hk | hk | hk
      · exact Or.inl ⟨hk.1, fun hf => hk.2.1 ((h2 k).2 (Or.inl hf)), hk.2.2⟩
      · rcases hk with hk | rfl
        · exact Or.inr (Or.inl hk)
        · exact Or.inl ⟨c3 _ (Or.inl hFb), h3, cm⟩
      · exact Or.inr (Or.inr hk)
    · rcases hk with (hk | rfl) | hk
      · rcases a4 k (Or.inl hk) with h | h
        · exact Or.inl ((h2 k).2 (Or.inl h))
        · exact Or.inr h
      · exact Or.inl hFb
      · rcases a4 k (Or.inr hk) with h | h
        · exact Or.inl ((h2 k).2 (Or.inl h))
        · exact Or.inr h
    · rcases hk with hk | rfl
      · exact a5 k hk hm
      · exact hnb _ (Or.inr hm) rfl
/-- What is told of a play. -/
def PlayPost {M O : Type} (T : Th M O) (n : Int) (cs : List Cl) (picks words : List Int) (o : O) (Fo : Nat → Prop) (w : World) (e : Ending) (w' : World) : Prop :=
  (chkE n cs picks.length ≠ 0 ∧ e = .returned (.tuple #[.agg #[.slice none 0 0, .slice none 0 0, .int .i64 0, .int .i64 0, .int .i64 0, .int .i64 0, .int .i64 0, .int .i64 0, .int .i64 0], .int .i64 (chkE n cs picks.length)]) ∧ Below w.heap.size w w') ∨
  (chkE n cs picks.length = 0 ∧ ∃ ev B Mu g c, e = .returned (.tuple #[repV ev (.slice (some ⟨g, 0, none⟩) ((Ps.new words o cs.length).play T.G cs picks).lw.mem.words.length c) ((Ps.new words o cs.length).play T.G cs picks).lw.mem ((Ps.new words o cs.length).play T.G cs picks).lw.now ((Ps.new words o cs.length).play T.G cs picks).idle, .int .i64 0]) ∧
    EvsAt w' B Mu ev (((Ps.new words o cs.length).play T.G cs picks).ends T.G) ∧ w.heap.size ≤ B ∧ WRow w' w.heap.size (.slice (some ⟨g, 0, none⟩) ((Ps.new words o cs.length).play T.G cs picks).lw.mem.words.length c) ((Ps.new words o cs.length).play T.G cs picks).lw.mem.words ∧ Keep (fun k => k < w.heap.size ∧ ¬ Fo k) w w' ∧ ∃ Fo', T.OB w' Fo' ((Ps.new words o cs.length).play T.G cs picks).obj ∧ ∀ k, Fo' k → Mu k)
set_option maxRecDepth 100000 in
set_option maxHeartbeats 2000000 in
theorem loomPlay {M O : Type} {T : Th M O} {n : Int} {AO : Option Addr} {co : Nat} {a : Addr} {nw cw : Nat} {words : List Int} {A : Option Addr} {m c : Nat} {cs : List Cl} {Ap : Option Addr} {np cp : Nat} {picks : List Int} {o : O} {Fo : Nat → Prop} {w : World} (hT : T.Ok) (hw : SlW w (.slice (some a) nw cw) words) (hwl : words.length = nw) (hw6 : nw ≤ 65536) (h : SlCl w (.slice A m c) cs) (hm : cs.length = m) (hp : SlI w (.slice Ap np cp) picks) (hpl : picks.length = np)
    (hO : T.OB w Fo o) (hV : Sl (fun v : Value => [v]) 1 w (.slice AO T.objs.length co) T.objs) (hVF : ∀ a : Addr, AO = some a → 0 < T.objs.length → ¬ Fo a.block) (hCF : ∀ a : Addr, A = some a → 0 < cs.length → ¬ Fo a.block) (hPF : ∀ a : Addr, Ap = some a → 0 < picks.length → ¬ Fo a.block)
    (hcu : ∀ c ∈ cs, ClU c) (hgd : T.good o (Ps.new words o cs.length : Ps M O).lw (fun _ => none)) (hnt : n ≤ T.nt ∨ T.nt = 16 := by exact Or.inr rfl) :
    Calls Try.prog 28 #[.int .i64 n, .slice AO T.objs.length co, .slice (some a) nw cw, .slice A m c, .slice Ap np cp] w (PlayPost T n cs picks words o Fo w) := by
  have hka : Keep (fun j => j < w.heap.size) w (w.alloc (.cells #[.slice none 0 0, .slice none 0 0, .int .i64 0, .int .i64 0, .int .i64 0, .int .i64 0, .int .i64 0, .int .i64 0, .int .i64 0] 32)) := (Keep.refl _ _).alloc (fun k hk => hk) _
  have hba : Below w.heap.size w (w.alloc (.cells #[.slice none 0 0, .slice none 0 0, .int .i64 0, .int .i64 0, .int .i64 0, .int .i64 0, .int .i64 0, .int .i64 0, .int .i64 0] 32)) := (Below.refl _ w).alloc (Nat.le_refl _) _
  have hrow := heap_alloc_new w (.cells #[.slice none 0 0, .slice none 0 0, .int .i64 0, .int .i64 0, .int .i64 0, .int .i64 0, .int .i64 0, .int .i64 0, .int .i64 0] 32)
  have hsz : (w.alloc (.cells #[.slice none 0 0, .slice none 0 0, .int .i64 0, .int .i64 0, .int .i64 0, .int .i64 0, .int .i64 0, .int .i64 0, .int .i64 0] 32)).heap.size = w.heap.size + 1 := by simp
  have hFl := hT.obLt hO
  have hO1 := hT.obKeep hO hka hFl
  have hw1 := hw.below hba (Nat.le_refl _)
  have h1 := h.below hba (Nat.le_refl _)
  have hp1 := hp.below hba (Nat.le_refl _)
  have hV1 := hV.below hba (Nat.le_refl _)
  have hVZ : ∀ a : Addr, AO = some a → 0 < T.objs.length → a.block < w.heap.size := fun a e hl => sl_block hV e hl
  have hCZ : ∀ a : Addr, A = some a → 0 < cs.length → a.block < w.heap.size := fun a e hl => sl_block h e hl
  have hPZ : ∀ a : Addr, Ap = some a → 0 < picks.length → a.block < w.heap.size := fun a e hl => sl_block hp e hl
  clear hw h hp hV hO hka
  have HBA := hide hba
  have HSZ := hide hsz
  have HPL := hide hpl
  have HFL := hide hFl
  have HPF := hide hPF
  have HGD := hide hgd
  have HT := hide hT
  have N0 := loomCheck n A m c cs Ap np cp _ h1 hm
  obtain ⟨E, hE⟩ : ∃ E, chkE n cs picks.length = E := ⟨_, rfl⟩
  have hE' : chkE n cs np = E := by rw [← hE, hpl]
  rw [hE'] at N0
  by_cases h0 : E = 0
  · subst h0
    have hwe : wrongE n cs = 0 := by
      unfold chkE at hE
      split at hE
      · cases hE
      · split at hE
        · cases hE
        · exact hE
    have hnp : np ≤ 65536 := by
      unfold chkE at hE
      split at hE
      · cases hE
      · split at hE
        · cases hE
        · omega
    have HE := hide hE
    have HWE := hide hwe
    have HW1 := hide hw1
    have HH1 := hide h1
    have HP1 := hide hp1
    have HV1 := hide hV1
    have HO1 := hide hO1
    have HROW := hide hrow
    clear hE hE' hwe hw1 h1 hp1 hV1 hO1 hFl hrow hT hgd hPF hpl hba
    unfold PlayPost
    rw [HE.out]
    go_enter Try.func28, Try.ntmps28
    go_wp2_with fail
    refine N0.mono ?_
    rintro e w2 ⟨rfl, hb⟩
    have HTh := hide (Th.hold_ok HT.out w.heap.size (.cells #[.slice none 0 0, .slice none 0 0, .int .i64 0, .int .i64 0, .int .i64 0, .int .i64 0, .int .i64 0, .int .i64 0, .int .i64 0] 32))
    have hFb : ¬ Fo w.heap.size := fun h1 => Nat.lt_irrefl _ (HFL.out _ h1)
    have C := loomBegin (T := T.hold w.heap.size (.cells #[.slice none 0 0, .slice none 0 0, .int .i64 0, .int .i64 0, .int .i64 0, .int .i64 0, .int .i64 0, .int .i64 0, .int .i64 0] 32)) (n := n) (Fo := fun k => Fo k ∨ k = w.heap.size) HTh.out (HW1.out.below hb (Nat.le_refl _)) hwl hw6 (HH1.out.below hb (Nat.le_refl _)) hm hcu HWE.out ⟨Fo, HT.out.obKeep HO1.out (Keep.of_below (K := fun k => k < w.heap.size) hb (fun k hk => by rw [HSZ.out]; omega)) HFL.out, fun k => Iff.rfl, hFb, (hb.block w.heap.size (by rw [HSZ.out]; omega)).trans HROW.out⟩ (HV1.out.below hb (Nat.le_refl _)) (fun a e hl hk => by rcases hk with hk | hk; exact hVF a e hl hk; exact absurd hk (Nat.ne_of_lt (hVZ a e hl))) (fun a e hl hk => by rcases hk with hk | hk; exact hCF a e hl hk; exact absurd hk (Nat.ne_of_lt (hCZ a e hl))) (hnt := hnt)
    have HB := hide hb
    clear hb N0
    have hz : w.heap.size + 1 ≤ w2.heap.size := by have := HB.out.size; rw [HSZ.out] at this; omega
    go_wp2_with fail
    refine C.mono ?_
    rintro e w3 ⟨X, Mu, Fm, hv, ev, hX, rfl, hL, hmu, hXB, hb3⟩
    have hthr : ∀ c ∈ cs, 0 ≤ c.thread ∧ c.thread < 16 ∧ ClU c ∧ c.thread < T.nt := by rw [← hX]; exact hL.thr
    have HX := hide hX
    have HL := hide hL
    have HMU := hide hmu
    have HB3 := hide hb3
    have HTHR := hide hthr
    clear C hL hmu hb3 hX hthr
    go_wp2
    go_loopw [39] (fun i wr => ∃ (k : Nat) (Mu Fo' : Nat → Prop) (Fm : Nat → Nat → Prop) (hv : Nat → Value) (ev : Value), k ≤ np ∧ i = .int .i64 k ∧ Hid (PLa (T.hold w.heap.size (.cells #[.slice none 0 0, .slice none 0 0, .int .i64 0, .int .i64 0, .int .i64 0, .int .i64 0, .int .i64 0, .int .i64 0, .int .i64 0] 32)) X wr Mu Fo' Fm hv ev ((Ps.new words o cs.length).play T.G cs (picks.take k))) ∧ Hid (∀ j, Mu j → (Fo j ∨ j = w.heap.size) ∨ w2.heap.size ≤ j) ∧ Hid (Keep (fun j => j < w2.heap.size ∧ ¬ (Fo j ∨ j = w.heap.size)) w2 wr)) (fun i _ => np - (intOf i).toNat)
    case atStart => exact ⟨0, Mu, fun k => Fo k ∨ k = w.heap.size, Fm, hv, ev, Nat.zero_le _, rfl, HL, HMU, hide (Keep.of_below (K := fun j => j < w2.heap.size ∧ ¬ (Fo j ∨ j = w.heap.size)) HB3.out (fun k hk => hk.1))⟩
    case round =>
      clear HL HMU Mu Fm hv ev
      obtain ⟨k, Mu, Fo', Fm, hv, ev, hk, rfl, hL, hmu, hK⟩ := hrel
      by_cases hlt : k < np
      · obtain ⟨p, hpk⟩ : ∃ p, picks[k]? = some p := ⟨_, List.getElem?_eq_getElem (by rw [HPL.out]; exact hlt)⟩
        obtain ⟨A', c', e, g1, g2, g3⟩ := HP1.out.below HB.out (Nat.le_refl _)
        obtain ⟨bb, oo, e', hbb, hc⟩ := g3 k p hpk
        rw [HPL.out] at e
        cases e
        cases e'
        have hnF : ¬ (Fo bb ∨ bb = w.heap.size) := fun h => by rcases h with h | h; exact HPF.out _ rfl (by rw [HPL.out]; omega) h; exact absurd h (Nat.ne_of_lt (hPZ _ rfl (by rw [HPL.out]; omega)))
        have c0' := (hK.out.cell (p := ⟨bb, oo + k * 1 + 0, none⟩) ⟨hbb, hnF⟩).trans (hc 0 (.int .i64 p) rfl)
        have c0 : wr.cell? ⟨bb, oo + k, none⟩ = some (.int .i64 p) := by simpa using c0'
        have hkk : (k : Int) < (np : Int) := by omega
        have hgk := good_play HT.out HTHR.out (picks.take k) (P := Ps.new words o cs.length) HGD.out
        have hpb := PB.play HT.out.still (fun c hc => (HTHR.out c hc).1) (picks.take k) (PB.new words o cs.length (M := M) (O := O))
        have N := playerPick HTh.out hL.out hgk hpb (by rw [List.length_take]; omega) p
        have HN := hide (play_succ (G := T.G) (cs := cs) (P := Ps.new words o cs.length) hpk)
        clear g3 hc c0' hgk hpb g1 g2 hpk
        go_wp2_with fail
        refine N.mono ?_
        rintro e w5 ⟨⟨d, rfl⟩, Mu5, Fo5, Fm5, hv5, ev5, hL5, hmu5, hk5⟩
        have HL5 := hide hL5
        have HM5 := hide hmu5
        have HK5 := hide hk5
        clear hL5 hmu5 hk5 N
        go_wp2
        go_roundw
        case rel =>
          refine ⟨k + 1, Mu5, Fo5, Fm5, hv5, ev5, by omega, by go_num, hide ?_, hide (fun j hj => ?_), hide ?_⟩
          · have := HL5.out
            rw [HX.out] at this
            rw [HN.out]
            exact this
          · rcases HM5.out j hj with h1 | h1
            · exact hmu.out j h1
            · exact Or.inr (Nat.le_trans hK.out.size h1)
          · exact hK.out.trans (HK5.out.mono (fun j hj => ⟨Nat.lt_of_lt_of_le hj.1 hK.out.size, fun hm => by
              rcases hmu.out j hm with h1 | h1
              · exact hj.2 h1
              · have := hj.1; omega⟩))
        case measure => first | (simp [intOf]; done) | (simp [intOf]; omega)
      · obtain rfl : k = np := by omega
        have hL' := hL.out
        rw [List.take_of_length_le (by rw [HPL.out]; exact Nat.le_refl _)] at hL'
        obtain ⟨P, hP⟩ : ∃ P, (Ps.new words o cs.length).play T.G cs picks = P := ⟨_, rfl⟩
        rw [hP] at hL'
        obtain ⟨raw, hrow, _, _⟩ := hL'.evs.row
        obtain ⟨Ae, ce, rfl⟩ := own_slice hrow
        clear hrow
        have N := playerReport HTh.out hL'
        have HP := hide hP
        clear hP
        go_wp2_with fail
        refine N.mono ?_
        rintro e w5 ⟨g, c5, rfl, hEv, hwr, hk5⟩
        obtain ⟨F1, o1, o2, o3, o4⟩ := hL'.objs
        have hFb' := (o2 w.heap.size).2 (Or.inr rfl)
        have HF1O := hide (show T.OB wr F1 P.obj from o1)
        have HF1M := hide (fun k (hk : F1 k) => (hL'.muFo k ((o2 k).2 (Or.inl hk))).1)
        have HF1B := hide o3
        have HF1K := hide (fun k (hk : F1 k) => (⟨HT.out.obLt o1 k hk, fun e => (hL'.muFo k ((o2 k).2 (Or.inl hk))).2 (e ▸ Or.inl rfl), fun e => (hL'.muEv k e).2.2.1 ((o2 k).2 (Or.inl hk))⟩ : k < wr.heap.size ∧ k ≠ X.ad.pp ∧ (Value.slice Ae P.evs.length ce).ownBlock ≠ some k))
        have hbz := (Array.getElem?_eq_some_iff.1 o4).1
        have hMb := (hL'.muFo _ hFb').1
        have hpp := hL'.muFix X.ad.pp (Or.inl rfl)
        have hmev := fun k hk => (hL'.muEv k hk).1
        have h5 := (hk5.block w.heap.size ⟨hbz, fun e => (hL'.muFo _ hFb').2 (e ▸ Or.inl rfl), fun e => (hL'.muEv _ e).2.2.1 hFb'⟩).trans o4
        have hTl := hL'.gap2
        have hEb : ∀ k, (Value.slice Ae P.evs.length ce).ownBlock = some k → k ≠ w.heap.size := fun k hk e => (hL'.muEv k hk).2.2.1 (e ▸ hFb')
        have hXl : w.heap.size ≤ X.Tl := by omega
        have HEV := hide hEv
        have HWR := hide hwr
        have HK5 := hide hk5
        have HMB := hide hMb
        have HPP := hide hpp
        have HMV := hide hmev
        have hth : w5.there w.heap.size 0 ([.slice Ae P.evs.length ce, .slice (some ⟨g, 0, none⟩) P.lw.mem.words.length c5, .int .i64 (wrap64 P.lw.mem.rd), .int .i64 (wrap64 P.lw.mem.wr), .int .i64 (wrap64 P.lw.mem.sw), .int .i64 (wrap64 P.lw.mem.ad), .int .i64 (wrap64 P.lw.mem.ft), .int .i64 P.lw.now, .int .i64 P.idle] : List Value).length := by
          intro j hj
          refine ⟨?_, frozen_of_row w5 _ _ _ _ h5⟩
          rw [cell_of_row w5 _ _ _ _ _ h5]
          simp only [Nat.zero_add]
          exact isSome_lt hj
        unfold repV
        clear hL' hEv hwr hk5 hMb hpp hmev N o1 o2 o3 o4 h5
        go_wp2_with (refine wpList_store_mid rfl 32 (.tmp 10) (.tmp 48) rfl w.heap.size 0 ([.slice Ae P.evs.length ce, .slice (some ⟨g, 0, none⟩) P.lw.mem.words.length c5, .int .i64 (wrap64 P.lw.mem.rd), .int .i64 (wrap64 P.lw.mem.wr), .int .i64 (wrap64 P.lw.mem.sw), .int .i64 (wrap64 P.lw.mem.ad), .int .i64 (wrap64 P.lw.mem.ft), .int .i64 P.lw.now, .int .i64 P.idle] : List Value).toArray (by rfl) (by rfl) hth (by kernel_rfl) (by kernel_rfl) ?_)
        have hRS := World.rangeAt_setCells_same w5 w.heap.size 0 ([.slice Ae P.evs.length ce, .slice (some ⟨g, 0, none⟩) P.lw.mem.words.length c5, .int .i64 (wrap64 P.lw.mem.rd), .int .i64 (wrap64 P.lw.mem.wr), .int .i64 (wrap64 P.lw.mem.sw), .int .i64 (wrap64 P.lw.mem.ad), .int .i64 (wrap64 P.lw.mem.ft), .int .i64 P.lw.now, .int .i64 P.idle] : List Value) hth
        have hld := run_loadVar_mid (P := Try.prog) (w5.setCells w.heap.size 0 ([.slice Ae P.evs.length ce, .slice (some ⟨g, 0, none⟩) P.lw.mem.words.length c5, .int .i64 (wrap64 P.lw.mem.rd), .int .i64 (wrap64 P.lw.mem.wr), .int .i64 (wrap64 P.lw.mem.sw), .int .i64 (wrap64 P.lw.mem.ad), .int .i64 (wrap64 P.lw.mem.ft), .int .i64 P.lw.now, .int .i64 P.idle] : List Value)) w.heap.size 0 32 ([.slice Ae P.evs.length ce, .slice (some ⟨g, 0, none⟩) P.lw.mem.words.length c5, .int .i64 (wrap64 P.lw.mem.rd), .int .i64 (wrap64 P.lw.mem.wr), .int .i64 (wrap64 P.lw.mem.sw), .int .i64 (wrap64 P.lw.mem.ad), .int .i64 (wrap64 P.lw.mem.ft), .int .i64 P.lw.now, .int .i64 P.idle] : List Value) _ hRS Try.underlying32 rfl (by kernel_rfl)
        refine bodyPost_ret (v := .tuple #[.agg #[.slice Ae P.evs.length ce, .slice (some ⟨g, 0, none⟩) P.lw.mem.words.length c5, .int .i64 (wrap64 P.lw.mem.rd), .int .i64 (wrap64 P.lw.mem.wr), .int .i64 (wrap64 P.lw.mem.sw), .int .i64 (wrap64 P.lw.mem.ad), .int .i64 (wrap64 P.lw.mem.ft), .int .i64 P.lw.now, .int .i64 P.idle], .int .i64 0]) (by simp [results, Try.results28, hld, asAddr]) rfl (Or.inr ⟨trivial, .slice Ae P.evs.length ce, X.Tl, Mu, g, c5, (by rw [HP.out]; rfl), ?_, hXl, ?_, ?_, F1, ?_, HF1M.out⟩)
        · rw [HP.out]
          exact HEV.out.keep (Keep.setCells (K := fun k => k ≠ w.heap.size) (Keep.refl _ w5) (by simp) 0 _) (fun k h1 h2 e => h2 (e ▸ HMB.out)) (fun k _ hm => hm) (fun k hk e => hEb k hk e)
        · rw [HP.out]
          exact owns_base (owns_keepV HWR.out (Keep.setCells (K := fun k => k ≠ w.heap.size) (Keep.refl _ w5) (by simp) 0 _) (fun k hk => by have h1 := (World.ownsRow.lt HWR.out k hk).1; omega)) (by omega)
        · have k1 : Keep (fun k => k < w.heap.size ∧ ¬ Fo k) w w2 := (Keep.of_below (K := fun k => k < w.heap.size ∧ ¬ Fo k) HBA.out (fun k hk => hk.1)).trans (Keep.of_below (K := fun k => k < w.heap.size ∧ ¬ Fo k) HB.out (fun k hk => by rw [HSZ.out]; omega))
          have k2 : Keep (fun k => k < w.heap.size ∧ ¬ Fo k) w wr := k1.trans (hK.out.mono (fun k hk => ⟨by omega, fun h => by rcases h with h | h; exact hk.2 h; omega⟩))
          have k3 : Keep (fun k => k < w.heap.size ∧ ¬ Fo k) w w5 := k2.trans (HK5.out.mono (fun k hk => by
            have hnm : ¬ Mu k := fun hm => by
              rcases hmu.out k hm with (h | h) | h
              · exact hk.2 h
              · omega
              · omega
            exact ⟨Nat.lt_of_lt_of_le hk.1 k2.size, fun e => hnm (e ▸ HPP.out), fun e => hnm (HMV.out k e)⟩))
          exact Keep.setCells k3 (b := w.heap.size) (fun hk => Nat.lt_irrefl _ hk.1) 0 _
        · rw [HP.out]
          exact HT.out.obKeep (HT.out.obKeep HF1O.out HK5.out HF1K.out) (Keep.setCells (K := fun k => k ≠ w.heap.size) (Keep.refl _ w5) (by simp) 0 _) (fun k hk e => HF1B.out (e ▸ hk))
  · have hth : ∀ w2 : World, Below (w.alloc (.cells #[.slice none 0 0, .slice none 0 0, .int .i64 0, .int .i64 0, .int .i64 0, .int .i64 0, .int .i64 0, .int .i64 0, .int .i64 0] 32)).heap.size (w.alloc (.cells #[.slice none 0 0, .slice none 0 0, .int .i64 0, .int .i64 0, .int .i64 0, .int .i64 0, .int .i64 0, .int .i64 0, .int .i64 0] 32)) w2 → w2.there w.heap.size 0 ([.slice none 0 0, .slice none 0 0, .int .i64 0, .int .i64 0, .int .i64 0, .int .i64 0, .int .i64 0, .int .i64 0, .int .i64 0] : List Value).length := by
      intro w2 hb j hj
      have hk4 := (hb.block w.heap.size (by rw [HSZ.out]; omega)).trans hrow
      refine ⟨?_, frozen_of_row w2 _ _ _ _ hk4⟩
      rw [cell_of_row w2 _ _ _ _ _ hk4]
      simp only [Nat.zero_add]
      exact isSome_lt hj
    have HE := hide hE
    have HE' := hide hE'
    have d0 : (E == 0) = false := by simpa using h0
    have HTH := hide hth
    clear hE hE' hw1 h1 hp1 hV1 hO1 hFl hT hgd hPF hpl hwl hw6 hm hVF hCF hba hth
    unfold PlayPost
    rw [HE.out]
    go_enter Try.func28, Try.ntmps28
    go_wp2_with fail
    refine N0.mono ?_
    rintro e w2 ⟨rfl, hb⟩
    have HB := hide hb
    have hth := HTH.out w2 hb
    clear hb N0
    have hz : w.heap.size < w2.heap.size := by have := HB.out.size; rw [HSZ.out] at this; omega
    go_wp2_with (refine wpList_store_mid rfl 32 (.tmp 10) (.tmp 23) rfl w.heap.size 0 ([.slice none 0 0, .slice none 0 0, .int .i64 0, .int .i64 0, .int .i64 0, .int .i64 0, .int .i64 0, .int .i64 0, .int .i64 0] : List Value).toArray (by rfl) (by rfl) hth (by kernel_rfl) (by kernel_rfl) ?_)
    have hRS := World.rangeAt_setCells_same w2 w.heap.size 0 ([.slice none 0 0, .slice none 0 0, .int .i64 0, .int .i64 0, .int .i64 0, .int .i64 0, .int .i64 0, .int .i64 0, .int .i64 0] : List Value) hth
    have hld := run_loadVar_mid (P := Try.prog) (w2.setCells w.heap.size 0 ([.slice none 0 0, .slice none 0 0, .int .i64 0, .int .i64 0, .int .i64 0, .int .i64 0, .int .i64 0, .int .i64 0, .int .i64 0] : List Value)) w.heap.size 0 32 ([.slice none 0 0, .slice none 0 0, .int .i64 0, .int .i64 0, .int .i64 0, .int .i64 0, .int .i64 0, .int .i64 0, .int .i64 0] : List Value) _ hRS Try.underlying32 rfl (by kernel_rfl)
    refine bodyPost_ret (v := .tuple #[.agg #[.slice none 0 0, .slice none 0 0, .int .i64 0, .int .i64 0, .int .i64 0, .int .i64 0, .int .i64 0, .int .i64 0, .int .i64 0], .int .i64 E]) (by simp [results, Try.results28, hld, asAddr]) rfl (Or.inl ⟨h0, rfl, ?_⟩)
    have h1 : Keep (fun k => k < w.heap.size) w w2 := (Keep.of_below (K := fun k => k < w.heap.size) HBA.out (fun k hk => hk)).trans (Keep.of_below (K := fun k => k < w.heap.size) HB.out (fun k hk => by rw [HSZ.out]; omega))
    exact (Keep.setCells h1 (b := w.heap.size) (by simp) 0 ([.slice none 0 0, .slice none 0 0, .int .i64 0, .int .i64 0, .int .i64 0, .int .i64 0, .int .i64 0, .int .i64 0, .int .i64 0] : List Value)).below (fun k hk => hk)
end Go.Proofs.Ytlfingcmekifkaa
