/- A play on a loom: Check, Begin. -/
import Derived.Test.YtfghmlpjbedomaaGreatLo11
namespace Go.Proofs.YtfghmlpjbedomaaGreat
open Go.RowKit

def chkE (n : Int) (cs : List Cl) (np : Nat) : Int := if ¬ (1 ≤ n ∧ n ≤ 16) then 1 else if 1000 < cs.length ∨ 65536 < np then 3 else wrongE n cs
set_option maxRecDepth 100000 in
set_option maxHeartbeats 1000000 in
theorem loomCheck (n : Int) (A : Option Addr) (m c : Nat) (cs : List Cl) (Ap : Option Addr) (np cp : Nat) (w : World) (h : SlCl w (.slice A m c) cs) (hm : cs.length = m) :
    Calls Tryz.prog 37 #[.int .i64 n, .slice A m c, .slice Ap np cp] w fun e w' => e = .returned (.int .i64 (chkE n cs np)) ∧ Below w.heap.size w w' := by
  have N := pickNew n A m c cs w h hm
  have HM := hide hm
  clear h hm
  by_cases hn : 1 ≤ n ∧ n ≤ 16
  · have n0 : decide (n < 1) = false := by simp; omega
    have n1 : decide (16 < n) = false := by simp; omega
    by_cases h8 : 1000 < m
    · have hE : chkE n cs np = 3 := by unfold chkE; rw [if_neg (by omega), if_pos (Or.inl (by rw [HM.out]; omega))]
      rw [hE]
      have h8' : (1000 : Int) < (m : Int) := by omega
      clear hE N hn
      go_enter Tryz.func37, Tryz.ntmps37
      go_wp2
      go_ret
      exact ⟨rfl, by (repeat' (first | exact Below.refl _ _ | assumption | refine Below.drew ?_ | refine below_drewN ?_ _ | refine Below.alloc ?_ (by simp <;> omega) _ | refine Below.setCell ?_ (by simp <;> omega) _))⟩
    · by_cases h9 : 65536 < np
      · have hE : chkE n cs np = 3 := by unfold chkE; rw [if_neg (by omega), if_pos (Or.inr h9)]
        rw [hE]
        have h8' : ¬ (1000 : Int) < (m : Int) := by omega
        have h9' : (65536 : Int) < (np : Int) := by omega
        clear hE N hn
        go_enter Tryz.func37, Tryz.ntmps37
        go_wp2
        go_ret
        exact ⟨rfl, by (repeat' (first | exact Below.refl _ _ | assumption | refine Below.drew ?_ | refine below_drewN ?_ _ | refine Below.alloc ?_ (by simp <;> omega) _ | refine Below.setCell ?_ (by simp <;> omega) _))⟩
      · have hE : chkE n cs np = wrongE n cs := by unfold chkE; rw [if_neg (by omega), if_neg (by rw [HM.out]; omega)]
        rw [hE]
        have h8' : ¬ (1000 : Int) < (m : Int) := by omega
        have h9' : ¬ (65536 : Int) < (np : Int) := by omega
        clear hE hn
        generalize hW : wrongE n cs = E at N ⊢
        unfold NewPost at N
        rw [hW] at N
        clear hW
        go_enter Tryz.func37, Tryz.ntmps37
        go_wp2_with fail
        refine N.mono ?_
        rintro e w1 (⟨hE, rfl, hb⟩ | ⟨rfl, b, g, B, rfl, _, _, _, _, hb⟩)
        · go_wp2
          go_ret
          exact ⟨rfl, hb⟩
        · go_wp2
          go_ret
          exact ⟨rfl, hb⟩
  · have hE : chkE n cs np = 1 := by unfold chkE; rw [if_pos hn]
    rw [hE]
    rcases (by omega : n < 1 ∨ 1 ≤ n ∧ 16 < n) with h0 | ⟨h0, h1⟩
    · have n0 : decide (n < 1) = true := by simp; omega
      clear hE N hn
      go_enter Tryz.func37, Tryz.ntmps37
      go_wp2
      go_ret
      exact ⟨rfl, by (repeat' (first | exact Below.refl _ _ | assumption | refine Below.drew ?_ | refine below_drewN ?_ _ | refine Below.alloc ?_ (by simp <;> omega) _ | refine Below.setCell ?_ (by simp <;> omega) _))⟩
    · have n0 : decide (n < 1) = false := by simp; omega
      have n1 : decide (16 < n) = true := by simp; omega
      clear hE N hn
      go_enter Tryz.func37, Tryz.ntmps37
      go_wp2
      go_ret
      exact ⟨rfl, by (repeat' (first | exact Below.refl _ _ | assumption | refine Below.drew ?_ | refine below_drewN ?_ _ | refine Below.alloc ?_ (by simp <;> omega) _ | refine Below.setCell ?_ (by simp <;> omega) _))⟩
def worldA (pm pt : Nat) : Array Value := #[.pointer (some ⟨pm, 0, none⟩), .int .i64 0, .int .i64 0, .int .i64 0, .int .i64 0, .int .i64 0, .int .i64 0, .int .i64 0, .int .i64 0, .int .i64 0, .int .i64 0, .int .i64 0, .int .i64 0, .int .i64 0, .int .i64 0, .int .i64 0, .int .i64 0, .int .i64 0, .slice none 0 0, .slice none 0 0, .slice none 0 0, .slice none 0 0, .slice none 0 0, .slice none 0 0, .slice none 0 0, .slice none 0 0, .slice none 0 0, .slice none 0 0, .slice none 0 0, .slice none 0 0, .slice none 0 0, .slice none 0 0, .slice none 0 0, .slice none 0 0, .map (some pt)]
def playerA (pw pl : Nat) (OV CV : Value) : Array Value := #[.pointer (some ⟨pw, 0, none⟩), OV, CV, .pointer (some ⟨pl, 0, none⟩), .int .i64 0, .nilIface, .int .i64 0, .nilIface, .int .i64 0, .nilIface, .int .i64 0, .nilIface, .int .i64 0, .nilIface, .int .i64 0, .nilIface, .int .i64 0, .nilIface, .int .i64 0, .nilIface, .int .i64 0, .nilIface, .int .i64 0, .nilIface, .int .i64 0, .nilIface, .int .i64 0, .nilIface, .int .i64 0, .nilIface, .int .i64 0, .nilIface, .int .i64 0, .nilIface, .int .i64 0, .nilIface, .int .i64 0, .slice none 0 0, .slice none 0 0, .int .i64 0, .int .i64 0, .int .i64 0, .int .i64 0, .int .i64 0, .int .i64 0, .int .i64 0]
theorem rowIs_lit {w : World} {b : Nat} {t : TypeId} {c : Array Value} {n : Nat} (h : w.heap[b]? = some (.cells c t (0, 0))) (hn : c.size = n) : w.rowIs b t n (fun i => (c[i]?).getD undef) := by
  refine ⟨c, h, hn, fun i hi => ?_⟩
  simp only [Array.getElem?_eq_getElem (show i < c.size by omega)]
  rfl
/-- How a play begins. -/
theorem PLa.new {M O : Type} {T : Th M O} {w w' : World} {pp pw pm px pt pl pg Bl Tl : Nat} {OV CV : Value} {cs : List Cl} {words : List Int} {o : O} {Fo : Nat → Prop} (hT : T.Ok)
    (hpp : w'.heap[pp]? = some (.cells (playerA pw pl OV CV) 141 (0, 0))) (hpw : w'.heap[pw]? = some (.cells (worldA pm pt) 134 (0, 0))) (hpt : IMap w' pt .i64 (fun _ => none)) (hm : MemAt w' pm px .nilFunc (Mm.new words)) (hl : LineAt w' pl pg Bl Tl (remF cs (List.replicate cs.length false)))
    (hO : T.OB w' Fo o) (hFo : ∀ k, Fo k → k < w.heap.size) (h1 : w.heap.size ≤ pm ∧ w.heap.size ≤ px ∧ pm < Bl ∧ px < Bl) (h2 : w.heap.size ≤ pl ∧ w.heap.size ≤ pg) (h3 : Bl ≤ Tl ∧ Tl ≤ pt ∧ Tl ≤ pw ∧ Tl ≤ pp) (hlt : pt < w'.heap.size ∧ pw < w'.heap.size ∧ pp < w'.heap.size)
    (hC : ∃ A c, CV = .slice A cs.length c ∧ SlCl w' (.slice A cs.length c) cs ∧ cs.length ≤ 1000 ∧ ∀ a : Addr, A = some a → 0 < cs.length → a.block < w.heap.size ∧ ¬ Fo a.block) (hV : ∃ A c, OV = .slice A T.objs.length c ∧ Sl (fun v : Value => [v]) 1 w' (.slice A T.objs.length c) T.objs ∧ ∀ a : Addr, A = some a → 0 < T.objs.length → a.block < w.heap.size ∧ ¬ Fo a.block)
    (hthr : ∀ c ∈ cs, 0 ≤ c.thread ∧ c.thread < 16 ∧ ClU c ∧ T.cl c) :
    PLa T ⟨⟨pp, pw, pm, px, pt, pl, pg, .nilFunc⟩, OV, CV, Bl, Tl, cs⟩ w' (fun k => Fo k ∨ k = pp ∨ k = pl ∨ k = pg ∨ k = pw ∨ k = pm ∨ k = px ∨ k = pt) Fo (fun _ _ => False) (fun _ => .nilIface) (.slice none 0 0) (Ps.new words o cs.length) := by
  have hml := hm.lt
  have hap := hl.apart
  have hfresh : ∀ k, (k = pp ∨ k = pl ∨ k = pg ∨ k = pw ∨ k = pm ∨ k = px ∨ k = pt) → w.heap.size ≤ k := by omega
  have hplz : pl < w'.heap.size := by
    obtain ⟨_, h6⟩ := hl.line
    exact (Array.getElem?_eq_some_iff.1 h6).1
  have hpgz : pg < w'.heap.size := by
    obtain ⟨_, ⟨_, _, h7, _⟩, _⟩ := hl.map
    exact (Array.getElem?_eq_some_iff.1 h7).1
  refine ⟨⟨_, rowIs_lit hpp rfl, rfl, rfl, rfl, rfl, fun t ht => ?_, rfl, rfl⟩, ⟨hm, ⟨_, rowIs_lit hpw rfl, rfl, rfl, rfl, fun t ht => ?_⟩, ⟨_, hpt, fun a => Or.inl ⟨rfl, rfl⟩⟩⟩, hl, hO, fun _ _ _ => rfl, fun t m h e => (by cases e), ⟨[], World.ownsRow_nil _ _ _ _, rfl, fun i x e hx => (by simp at hx)⟩, fun k hk => ?_, fun k hk => (by cases hk), fun k hk => ⟨Or.inl hk, fun h6 => ?_⟩, fun t m h k e => (by cases e), fun t s m h m' h' k _ e => (by cases e), fun k hk => ?_, fun k hk => ?_, ⟨h3.1, (by show Tl ≤ w'.heap.size; omega)⟩, (by show pt ≠ pg; omega), ?_, ?_, List.length_replicate, hthr⟩
  · refine ⟨?_, fun m h e => (by cases e), ?_⟩
    · match t, ht with
      | 0, _ => rfl
      | 1, _ => rfl
      | 2, _ => rfl
      | 3, _ => rfl
      | 4, _ => rfl
      | 5, _ => rfl
      | 6, _ => rfl
      | 7, _ => rfl
      | 8, _ => rfl
      | 9, _ => rfl
      | 10, _ => rfl
      | 11, _ => rfl
      | 12, _ => rfl
      | 13, _ => rfl
      | 14, _ => rfl
      | 15, _ => rfl
      | t + 16, h => exact absurd h (by omega)
    · match t, ht with
      | 0, _ => rfl
      | 1, _ => rfl
      | 2, _ => rfl
      | 3, _ => rfl
      | 4, _ => rfl
      | 5, _ => rfl
      | 6, _ => rfl
      | 7, _ => rfl
      | 8, _ => rfl
      | 9, _ => rfl
      | 10, _ => rfl
      | 11, _ => rfl
      | 12, _ => rfl
      | 13, _ => rfl
      | 14, _ => rfl
      | 15, _ => rfl
      | t + 16, h => exact absurd h (by omega)
  · refine ⟨?_, ?_⟩
    · match t, ht with
      | 0, _ => rfl
      | 1, _ => rfl
      | 2, _ => rfl
      | 3, _ => rfl
      | 4, _ => rfl
      | 5, _ => rfl
      | 6, _ => rfl
      | 7, _ => rfl
      | 8, _ => rfl
      | 9, _ => rfl
      | 10, _ => rfl
      | 11, _ => rfl
      | 12, _ => rfl
      | 13, _ => rfl
      | 14, _ => rfl
      | 15, _ => rfl
      | t + 16, h => exact absurd h (by omega)
    · have : ((worldA pm pt)[18 + t]?).getD undef = .slice none 0 0 := by
        match t, ht with
        | 0, _ => rfl
        | 1, _ => rfl
        | 2, _ => rfl
        | 3, _ => rfl
        | 4, _ => rfl
        | 5, _ => rfl
        | 6, _ => rfl
        | 7, _ => rfl
        | 8, _ => rfl
        | 9, _ => rfl
        | 10, _ => rfl
        | 11, _ => rfl
        | 12, _ => rfl
        | 13, _ => rfl
        | 14, _ => rfl
        | 15, _ => rfl
        | t + 16, h => exact absurd h (by omega)
      rw [this]
      exact KeyIs.nil _ _
  · unfold Fix.six Adr.four at hk
    exact Or.inr hk
  · have h8 := hFo k hk
    unfold Fix.six Adr.four at h6
    have h6 : k = pp ∨ k = pl ∨ k = pg ∨ k = pw ∨ k = pm ∨ k = px ∨ k = pt := h6
    have := hfresh k h6
    omega
  · rcases hk with hk | hk
    · exact hT.obLt hO k hk
    · omega
  · show k < Bl ∨ Tl ≤ k
    rcases hk with hk | hk
    · have := hFo k hk
      omega
    · omega
  · obtain ⟨A, c, e1, e2, e3, e4⟩ := hC
    refine ⟨A, c, e1, e2, e3, fun a ha hl hm => ?_⟩
    obtain ⟨g1, g2⟩ := e4 a ha hl
    rcases hm with hm | hm
    · exact g2 hm
    · have := hfresh _ hm
      omega
  · obtain ⟨A, c, e1, e2, e4⟩ := hV
    refine ⟨A, c, e1, e2, fun a ha hl hm => ?_⟩
    obtain ⟨g1, g2⟩ := e4 a ha hl
    rcases hm with hm | hm
    · exact g2 hm
    · have := hfresh _ hm
      omega
theorem allocs3 (w : World) (x y z : Obj) : (((w.alloc x).alloc y).alloc z).heap[w.heap.size]? = some x ∧ (((w.alloc x).alloc y).alloc z).heap[w.heap.size + 1]? = some y ∧ (((w.alloc x).alloc y).alloc z).heap[w.heap.size + 1 + 1]? = some z := by
  have e1 : (w.alloc x).heap.size = w.heap.size + 1 := by simp
  have e2 : ((w.alloc x).alloc y).heap.size = w.heap.size + 1 + 1 := by simp
  refine ⟨?_, ?_, ?_⟩
  · exact (heap_alloc_old _ _ (by omega)).trans ((heap_alloc_old _ _ (by omega)).trans (heap_alloc_new _ _))
  · rw [← e1]
    exact (heap_alloc_old _ _ (by omega)).trans (heap_alloc_new _ _)
  · rw [← e2]
    exact heap_alloc_new _ _
theorem lt3 {a n : Nat} (h : n = a + 3) : a < n ∧ a + 1 < n ∧ a + 1 + 1 < n := by omega
theorem allocs3_size (w : World) (x y z : Obj) : (((w.alloc x).alloc y).alloc z).heap.size = w.heap.size + 3 := by simp
theorem allocs3_keep (w : World) (x y z : Obj) : Below w.heap.size w (((w.alloc x).alloc y).alloc z) := (((Below.refl _ w).alloc (Nat.le_refl _) _).alloc (by simp) _).alloc (by simp; omega) _
theorem allocs3_zero (w : World) (x y z : Obj) : (((w.alloc x).alloc y).alloc z).heap[w.heap.size]? = (w.alloc x).heap[w.heap.size]? := (heap_alloc_old _ _ (by simp; omega)).trans (heap_alloc_old _ _ (by simp))
def BeginPost {M O : Type} (T : Th M O) (_OV _CV : Value) (cs : List Cl) (words : List Int) (o : O) (Fo : Nat → Prop) (w : World) (e : Ending) (w' : World) : Prop :=
  ∃ X Mu Fm hv ev, X.cs = cs ∧ X.ad.hk = .nilFunc ∧ e = .returned (.tuple #[.pointer (some ⟨X.ad.pp, 0, none⟩), .int .i64 0]) ∧ PLa T X w' Mu Fo Fm hv ev (Ps.new words o cs.length) ∧ (∀ k, Mu k → Fo k ∨ w.heap.size ≤ k) ∧ w.heap.size ≤ X.Bl ∧ Below w.heap.size w w'
set_option maxRecDepth 100000 in
set_option maxHeartbeats 2000000 in
theorem loomBegin {M O : Type} {T : Th M O} {n : Int} {AO : Option Addr} {co : Nat} {a : Addr} {nw cw : Nat} {words : List Int} {A : Option Addr} {m c : Nat} {cs : List Cl} {o : O} {Fo : Nat → Prop} {w : World} (hT : T.Ok) (hw : SlW w (.slice (some a) nw cw) words) (hwl : words.length = nw) (hw6 : nw ≤ 65536) (h : SlCl w (.slice A m c) cs) (hm : cs.length = m) (hcu : ∀ c ∈ cs, ClU c) (he : wrongE n cs = 0)
    (hO : T.OB w Fo o) (hV : Sl (fun v : Value => [v]) 1 w (.slice AO T.objs.length co) T.objs) (hVF : ∀ a : Addr, AO = some a → 0 < T.objs.length → ¬ Fo a.block) (hCF : ∀ a : Addr, A = some a → 0 < cs.length → ¬ Fo a.block) (hcl : ∀ c ∈ cs, 0 ≤ c.thread ∧ c.thread < n → T.cl c := by exact fun _ _ _ => trivial) :
    Calls Tryz.prog 39 #[.int .i64 n, .slice AO T.objs.length co, .slice (some a) nw cw, .slice A m c] w (BeginPost T (.slice AO T.objs.length co) (.slice A m c) cs words o Fo w) := by
  have C1 := memNew a nw cw words w hw hwl hw6
  have hlt := hT.obLt hO
  have HT := hide hT
  have HV := hide hV
  have HVF := hide hVF
  have HCF := hide hCF
  have HE := hide he
  have HO := hide hO
  have HM := hide hm
  have HC := hide h
  have HCU := hide hcu
  have HCLS := hide hcl
  clear hcl hcu hV hVF hCF he hO hm hT hw hwl hw6 h
  go_enter Tryz.func39, Tryz.ntmps39
  go_wp2_with fail
  refine C1.mono ?_
  rintro e w1 ⟨pm, px, rfl, hma, z1, z2, hb1⟩
  have hc1 := HC.out.below hb1 (Nat.le_refl _)
  have C2 := pickNew n A m c cs w1 hc1 HM.out
  unfold NewPost at C2
  rw [HE.out] at C2
  have hmz := hma.lt
  have HMA := hide hma
  have HB1 := hide hb1
  clear hma hb1 hc1 C1
  go_wp2_with fail
  refine C2.mono ?_
  rintro e w2 (⟨hE, rfl, hb⟩ | ⟨_, pl, pg, Bl, rfl, z3, z4, z5, hl, hb⟩)
  · exact absurd rfl hE
  have HL := hide hl
  have HB := hide hb
  clear hl hb C2
  have hmm := @run_makeMap Tryz.prog
  go_wp2
  go_ret2
  obtain ⟨m0, m1, m2⟩ := allocs3 w2 (.map #[] 0) (.cells (worldA pm w2.heap.size) 134) (.cells (playerA (w2.heap.size + 1) pl (.slice AO T.objs.length co) (.slice A m c)) 141)
  have hs3 := allocs3_size w2 (.map #[] 0) (.cells (worldA pm w2.heap.size) 134) (.cells (playerA (w2.heap.size + 1) pl (.slice AO T.objs.length co) (.slice A m c)) 141)
  have hk3 := allocs3_keep w2 (.map #[] 0) (.cells (worldA pm w2.heap.size) 134) (.cells (playerA (w2.heap.size + 1) pl (.slice AO T.objs.length co) (.slice A m c)) 141)
  have hz1 := HB1.out.size
  have hz2 := HB.out.size
  have hb12 : Below w.heap.size w w2 := HB1.out.trans (HB.out.mono hz1)
  have hbF : Below w.heap.size w _ := hb12.trans (hk3.mono (by omega))
  have hap := HL.out.apart
  have hthr : ∀ c ∈ cs, 0 ≤ c.thread ∧ c.thread < 16 ∧ ClU c ∧ T.cl c := by
    have h0 := HE.out
    unfold wrongE at h0
    split at h0
    · cases h0
    · rename_i hn
      split at h0
      · cases h0
      · split at h0
        · rename_i ha
          intro c hc
          have := List.all_eq_true.1 ha c hc
          simp at this
          exact ⟨this.1, by omega, HCU.out c hc, HCLS.out c hc ⟨this.1, this.2⟩⟩
        · cases h0
  have hc1000 : cs.length ≤ 1000 := by
    have h0 := HE.out
    unfold wrongE at h0
    split at h0
    · cases h0
    · split at h0
      · cases h0
      · omega
  refine ⟨_, _, _, _, _, rfl, rfl, rfl, PLa.new (w := w) (pp := w2.heap.size + 1 + 1) (pw := w2.heap.size + 1) (pt := w2.heap.size) (pm := pm) (px := px) (pl := pl) (pg := pg) (Bl := Bl) (Tl := w2.heap.size) HT.out m2 m1 ?_ ?_ ?_ (HT.out.obKeep HO.out (Keep.of_below (K := fun k => k < w.heap.size) hbF (fun k hk => hk)) hlt) hlt ?_ ?_ ?_ ?_ ?_ ?_ hthr, ?_, (by show w.heap.size ≤ Bl; omega), hbF⟩
  · exact (IMap.new w2 .i64).of_block (allocs3_zero w2 _ _ _)
  · exact (HMA.out.of_blocks (HB.out.block _ hmz.1) (HB.out.block _ hmz.2)).of_blocks (hk3.block _ (Nat.lt_of_lt_of_le hmz.1 hz2)) (hk3.block _ (Nat.lt_of_lt_of_le hmz.2 hz2))
  · exact HL.out.keep (Keep.of_below (K := fun k => k < w2.heap.size) hk3 (fun k hk => hk)) (by omega) (by omega) (fun k h1 h2 => h2)
  · omega
  · omega
  · omega
  · exact lt3 hs3
  · refine ⟨A, c, by rw [HM.out], ?_, hc1000, fun a ha hl => ⟨sl_block HC.out ha hl, HCF.out a ha hl⟩⟩
    rw [HM.out]
    exact HC.out.below hbF (Nat.le_refl _)
  · exact ⟨AO, co, rfl, HV.out.below hbF (Nat.le_refl _), fun a ha hl => ⟨sl_block HV.out ha hl, HVF.out a ha hl⟩⟩
  · intro k hk
    rcases hk with hk | hk
    · exact Or.inl hk
    · exact Or.inr (by omega)
end Go.Proofs.YtfghmlpjbedomaaGreat
