/- A lattice's scans (package snap): how one lies in memory; pass. -/
import Derived.Test.YtlfingcmekifkaaBun3
import Derived.Test.YtlfingcmekifkaaBun12
namespace Go.Proofs.Ytlfingcmekifkaa
open Go.RowKit

/-- The cells of a scan. -/
structure ScF (f : Nat → Value) (ps : Nat) (lv : Value) (s : Sc) : Prop where
  p : f 0 = .pointer (some ⟨ps, 0, none⟩)
  pc : f 1 = .int .i64 s.pc
  at_ : f 2 = .int .i64 s.at_
  rounds : f 3 = .int .i64 s.rounds
  old : ∀ i, i < 16 → f (4 + i) = .int .u64 (s.old i)
  now : ∀ i, i < 16 → f (20 + i) = .int .u64 (s.now i)
  last : f 36 = .int .i64 s.last
  diff : ∀ i, i < 16 → f (37 + i) = .bool (s.diff i)
  from_ : f 53 = .int .u64 s.from_
  list : f 54 = lv
  moment : f 55 = .int .i64 s.moment
/-- A scan as it lies: its block, and its list's. -/
structure ScAt (w : World) (bs ps : Nat) (lv : Value) (s : Sc) : Prop where
  row : ∃ f : Nat → Value, w.rowIs bs 199 56 f ∧ ScF f ps lv s
  lst : WRow w 0 lv s.list
  ne : lv.ownBlock ≠ some bs
theorem ScAt.keep {w w' : World} {bs ps : Nat} {lv : Value} {s : Sc} {S : Nat → Prop} (h : ScAt w bs ps lv s) (hk : Keep S w w') (h1 : S bs) (h2 : ∀ k, lv.ownBlock = some k → S k) : ScAt w' bs ps lv s := by
  obtain ⟨f, a, b⟩ := h.row
  exact ⟨⟨f, rowIs_keep a hk h1, b⟩, owns_keepV h.lst hk h2, h.ne⟩
theorem ScAt.lt {w : World} {bs ps : Nat} {lv : Value} {s : Sc} (h : ScAt w bs ps lv s) : bs < w.heap.size := by
  obtain ⟨f, a, b⟩ := h.row
  exact a.lt
theorem ScAt.set {w : World} {bs ps : Nat} {lv : Value} {s s' : Sc} (h : ScAt w bs ps lv s) (j : Nat) (v : Value) (hl : s'.list = s.list) (hf : ∀ f, ScF f ps lv s → ScF (fun i => if i = j then v else f i) ps lv s') : ScAt (w.setCell ⟨bs, j, none⟩ v) bs ps lv s' := by
  obtain ⟨f, a, b⟩ := h.row
  have hk : Keep (fun k => k ≠ bs) w (w.setCell ⟨bs, j, none⟩ v) := (Keep.refl _ w).setCell (by simp) _
  exact ⟨⟨_, a.set j v, hf f b⟩, by rw [hl]; exact owns_keepV h.lst hk (fun k hk e => h.ne (e ▸ hk)), h.ne⟩
/-- What a piece of a scan leaves. -/
def ScQ (w : World) (bs ps : Nat) (lv : Value) (s' : Sc) (w' : World) : Prop :=
  ∃ lv', ScAt w' bs ps lv' s' ∧ (∀ k, lv'.ownBlock = some k → lv.ownBlock = some k ∨ w.heap.size ≤ k) ∧ Keep (fun k => k < w.heap.size ∧ k ≠ bs ∧ lv.ownBlock ≠ some k) w w'
theorem ScQ.trans {w w1 w2 : World} {bs ps : Nat} {lv lv1 : Value} {s' : Sc} (h1 : ∀ k, lv1.ownBlock = some k → lv.ownBlock = some k ∨ w.heap.size ≤ k) (hk : Keep (fun k => k < w.heap.size ∧ k ≠ bs ∧ lv.ownBlock ≠ some k) w w1) (h : ScQ w1 bs ps lv1 s' w2) : ScQ w bs ps lv s' w2 := by
  obtain ⟨lv2, a, b, c⟩ := h
  have hz := hk.size
  refine ⟨lv2, a, fun k hk2 => ?_, hk.trans (c.mono fun k hk2 => ⟨by omega, hk2.2.1, fun e => ?_⟩)⟩
  · rcases b k hk2 with e | e
    · exact h1 k e
    · exact Or.inr (by omega)
  · rcases h1 k e with e | e
    · exact hk2.2.2 e
    · omega
def cellI (w : World) (a : Addr) : Nat := match w.cell? a with
  | some v => (intOf v).toNat
  | none => 0
theorem cellI_of {w : World} {a : Addr} {x : Nat} (h : w.cell? a = some (.int .i64 (x : Int))) : cellI w a = x := by
  unfold cellI
  rw [h]
  simp [intOf]
theorem ScAt.push {w : World} {bs ps : Nat} {lv v : Value} {s : Sc} {f : Nat → Value} {l : List Int} (hr : w.rowIs bs 199 56 f) (hf : ScF f ps lv s) (hv : WRow w 0 v l) (hn : v.ownBlock ≠ some bs) : ScAt (w.setCell ⟨bs, 54, none⟩ v) bs ps v { s with list := l } := by
  have hk : Keep (fun k => k ≠ bs) w (w.setCell ⟨bs, 54, none⟩ v) := (Keep.refl _ w).setCell (by simp) _
  refine ⟨⟨_, hr.set 54 v, ?_⟩, owns_keepV hv hk (fun k hk e => hn (e ▸ hk)), hn⟩
  obtain ⟨b0, b1, b2, b3, b4, b5, b6, b7, b8, b9, b10⟩ := hf
  refine ⟨?_, ?_, ?_, ?_, fun i hi => ?_, fun i hi => ?_, ?_, fun i hi => ?_, ?_, ?_, ?_⟩
  all_goals first | (rw [if_neg (by omega)]; first | assumption | exact b4 i hi | exact b5 i hi | exact b7 i hi) | (rw [if_pos (by omega)])
theorem ScAt.at_ {w : World} {bs ps : Nat} {lv : Value} {s : Sc} (h : ScAt w bs ps lv s) (a : Nat) : ScAt (w.setCell ⟨bs, 2, none⟩ (.int .i64 (a : Int))) bs ps lv { s with at_ := a } := h.set 2 _ rfl (fun f hf => by obtain ⟨b0, b1, b2, b3, b4, b5, b6, b7, b8, b9, b10⟩ := hf; refine ⟨?_, ?_, ?_, ?_, fun i hi => ?_, fun i hi => ?_, ?_, fun i hi => ?_, ?_, ?_, ?_⟩; all_goals first | (rw [if_neg (by omega)]; first | assumption | exact b4 i hi | exact b5 i hi | exact b7 i hi) | (rw [if_pos (by omega)]; rfl) | (rw [if_pos (by omega)]))
set_option maxRecDepth 100000 in
set_option maxHeartbeats 2000000 in
theorem scPass {w : World} {bs ps n : Nat} {lv : Value} {s : Sc} (h : ScAt w bs ps lv s) (hn : w.cell? ⟨ps, 1, none⟩ = some (.int .i64 (n : Int))) (hp : ps < w.heap.size ∧ ps ≠ bs ∧ lv.ownBlock ≠ some ps) (hn16 : n ≤ 16) (hat : s.at_ ≤ n) (hll : s.list.length = s.at_) :
    Calls Try.prog 127 #[.pointer (some ⟨bs, 0, none⟩)] w fun e w' => e = .returned (.tuple #[]) ∧ ScQ w bs ps lv (s.pass n) w' := by
  obtain ⟨iI, hii, hz0, hz1, hz2⟩ := info_parts info_word
  obtain ⟨FIN, hFIN⟩ : ∃ FIN, passN n n s = FIN := ⟨_, rfl⟩
  have HP : Hid (s.pass n = if FIN.at_ = n then { FIN with pc := 3 } else FIN) := hide (by unfold Sc.pass; rw [hFIN])
  obtain ⟨RES, hRES⟩ : ∃ RES, s.pass n = RES := ⟨_, rfl⟩
  rw [hRES]
  have HRES := hide (hRES.symm.trans HP.out)
  have HF := hide hFIN
  have HH := hide h
  have HN := hide hn
  have HPS := hide hp
  have HAT := hide hat
  have HLL := hide hll
  clear h hn hp hFIN HP hat hll hRES
  go_enter Try.func127, Try.ntmps127
  go_wp2
  go_loopw [] (fun wr => ∃ (lv' : Value) (s' : Sc) (fu : Nat), Hid (ScAt wr bs ps lv' s') ∧ Hid (∀ k, lv'.ownBlock = some k → lv.ownBlock = some k ∨ w.heap.size ≤ k) ∧ Hid (Keep (fun k => k < w.heap.size ∧ k ≠ bs ∧ lv.ownBlock ≠ some k) w wr) ∧ Hid (passN n fu s' = FIN) ∧ n - s'.at_ ≤ fu ∧ s'.at_ ≤ n ∧ s'.list.length = s'.at_) (fun wr => n - cellI wr ⟨bs, 2, none⟩)
  case atStart => exact ⟨lv, s, n, HH, hide (fun k hk => Or.inl hk), hide (Keep.refl _ _), HF, by omega, HAT.out, HLL.out⟩
  case round =>
    obtain ⟨lv', s', fu, hS, hO, hK, hF, hfu, hat, hll⟩ := hrel
    obtain ⟨f, hrow, hf⟩ := hS.out.row
    have c0 := hrow.cell (i := 0) (by omega)
    have c2 := hrow.cell (i := 2) (by omega)
    have c54 := hrow.cell (i := 54) (by omega)
    have c1 := hrow.cell (i := 1) (by omega)
    rw [hf.p] at c0
    rw [hf.pc] at c1
    rw [hf.at_] at c2
    rw [hf.list] at c54
    have f2 := hrow.frozen 2
    have f1 := hrow.frozen 1
    have f54 := hrow.frozen 54
    have zb := hrow.lt
    obtain ⟨hz, hne, hno⟩ := HPS.out
    have e1 := (hK.out.cell (p := ⟨ps, 1, none⟩) ⟨hz, hne, hno⟩).trans HN.out
    have zp := Nat.lt_of_lt_of_le hz hK.out.size
    have hne2 : ¬ bs = ps := fun e => hne e.symm
    have hn' : (n : Int) ≤ 16 := by omega
    have hCI := cellI_of c2
    by_cases hlt : s'.at_ < n
    · obtain ⟨a, ha⟩ : ∃ a, s'.at_ = a := ⟨_, rfl⟩
      obtain ⟨x, hx⟩ : ∃ x, s'.now s'.at_ = x := ⟨_, rfl⟩
      have c20 := hrow.cell (i := 20 + s'.at_) (by omega)
      rw [hf.now _ (by omega), hx] at c20
      rw [ha] at c2 c20 hlt hCI hfu hat hll
      have HA := hide ha
      have HX := hide hx
      have hlt' : (a : Int) < (n : Int) := by omega
      have ha' : (a : Int) < 16 := by omega
      have k1 : IntKind.i64.wrap ((a : Int) + 1) = (a : Int) + 1 := wrap_i64 (by omega) (by omega)
      by_cases hx0 : x = 0
      · subst hx0
        have hr := hS.out.lst
        obtain ⟨A, cp, rfl⟩ := own_slice hr
        rw [show WRow wr 0 (.slice A s'.list.length cp) s'.list = wr.ownsRow 0 37 1 (.slice A s'.list.length cp) s'.list.length (s'.list.map (Value.int .u64)) from rfl, hll] at hr
        have HR := hide hr
        obtain ⟨fu', rfl⟩ : ∃ q, fu = q + 1 := ⟨fu - 1, by omega⟩
        have hF2 : passN n fu' { s' with list := s'.list ++ [0], at_ := a + 1 } = FIN := by
          have := hF.out
          have hu : passN n (fu' + 1) s' = if s'.at_ < n ∧ s'.now s'.at_ = 0 then passN n fu' { s' with list := s'.list ++ [0], at_ := s'.at_ + 1 } else s' := rfl
          rw [hu, if_pos ⟨by omega, hx⟩, ha] at this
          exact this
        have HF2 := hide hF2
        have HLL := hide hll
        have hcap : (Value.slice A a cp).ownBlock ≠ some bs := by have := hS.out.ne; rwa [hll] at this
        have hoK : ∀ k, (Value.slice A a cp).ownBlock = some k → k < wr.heap.size := fun k hk => (hr.lt k hk).2
        have HO2 := hide (show ∀ k, (Value.slice A a cp).ownBlock = some k → lv.ownBlock = some k ∨ w.heap.size ≤ k from by have := hO.out; rwa [hll] at this)
        have HCAP := hide hcap
        have HOK := hide hoK
        have HRW := hide hrow
        have HFF := hide hf
        rw [hll] at c54
        clear hr hF hF2 hf hrow ha hx hll hcap hoK
        go_wp2
        refine wp_region_seq (fun Y => Y.cell? ⟨bs, 0, none⟩ = some (.pointer (some ⟨ps, 0, none⟩)) ∧ Y.cell? ⟨bs, 2, none⟩ = some (.int .i64 (a : Int)) ∧ Y.cell? ⟨ps, 1, none⟩ = some (.int .i64 (n : Int)) ∧ Y.cell? ⟨bs, 20 + a, none⟩ = some (.int .u64 0)) (.take 0 <| .take 1 <| .take 2 <| .take 3 <| .take 4 <| .take 5 <| .take 6 <| .take 7 <| .take 8 <| .take 9 <| .take 10 <| .take 11 <| .take 12 <| .take 13 <| .take 14 <| .take 15 <| .take 16 <| .take 17 <| .take 18 <| .take 19 <| .take 20 <| .take 21 <| .take 22 <| .take 23 <| .done) (by kernel_rfl) (by kernel_rfl) (by kernel_rfl) (by refine ⟨?_, ?_, ?_, ?_⟩ <;> go_simp) ?_
        iterate 24 (refine seq_take (v := ?_) rfl (by rfl) ?_ ?_; rotate_left; (focus (intro wS hS; obtain ⟨s0, s1, s2, s3⟩ := hS; go_simp; exact rfl)); simp only [Act.put, List.setIfInBounds_toArray, List.set_cons_zero, List.set_cons_succ])
        refine seq_nil ?_
        go_wp2_with (at_builtin; refine wpList_append_own_at _ rfl _ _ 28 rfl 0 37 iI (.int .u64 0) 1 8 Try.underlying28 hii hz0 hz1 hz2 rfl (by decide) (.slice A a cp) a (s'.list.map (Value.int .u64)) rfl (World.ownsRow.alloc HR.out.drew (.cells #[.int .u64 0] 37)) ⟨wr.heap.size, 0, none⟩ 1 1 [.int .u64 0] rfl rfl (cell_one_new _ _ _) (by simp [Value.oneCell']) (by unfold maxLen; omega) (by omega) (by simp) ?_; intro v7 w7 hown7 hgrow7 _ hloc7; obtain ⟨A7, c7, rfl⟩ := own_slice hown7; have hk7 : Keep (fun k => k < wr.heap.size ∧ (Value.slice A a cp).ownBlock ≠ some k) wr w7 := (((Keep.refl _ wr).drew).alloc (fun k hk => by have := hk.1; simpa using this) _).grown hgrow7 (fun k hk => by have := hk.1; simp; omega) (fun k hk hh => hh.2 hk); have hr7 := rowIs_keep HRW.out hk7 ⟨zb, HCAP.out⟩; have d2 := hr7.cell (i := 2) (by omega); have d54 := hr7.cell (i := 54) (by omega); have g2 := hr7.frozen 2; have g54 := hr7.frozen 54; rw [HFF.out.at_, HA.out] at d2; have zb7 := hr7.lt)
        have hvb : ∀ k, (Value.slice A7 (a + 1) c7).ownBlock = some k → (Value.slice A a cp).ownBlock = some k ∨ wr.heap.size ≤ k := fun k hk => by
          rcases hloc7 with h | h
          · exact Or.inl (h ▸ hk)
          · rw [h] at hk
            cases hk
            exact Or.inr (by simp)
        have hne7 : (Value.slice A7 (a + 1) c7).ownBlock ≠ some bs := fun e => by
          rcases hvb bs e with h | h
          · exact HCAP.out h
          · omega
        have hw7 : WRow w7 0 (.slice A7 (a + 1) c7) (s'.list ++ [0]) := by
          have hl9 : (s'.list ++ [(0 : Int)]).length = a + 1 := by have := HLL.out; simp; omega
          unfold WRow
          rw [hl9, List.map_append]
          exact hown7
        have hS8 := (ScAt.push hr7 HFF.out hw7 hne7).at_ (a + 1)
        have hkS : Keep (fun k => k < w.heap.size ∧ k ≠ bs ∧ lv.ownBlock ≠ some k) w ((w7.setCell ⟨bs, 54, none⟩ (.slice A7 (a + 1) c7)).setCell ⟨bs, 2, none⟩ (.int .i64 ((a + 1 : Nat) : Int))) := by
          refine Keep.setCell (Keep.setCell (hK.out.trans (hk7.mono fun k hk => ⟨Nat.lt_of_lt_of_le hk.1 hK.out.size, fun e => ?_⟩)) (fun hh => hh.2.1 rfl) _) (fun hh => hh.2.1 rfl) _
          rcases HO2.out k e with h | h
          · exact hk.2.2 h
          · omega
        have hO8 : ∀ k, (Value.slice A7 (a + 1) c7).ownBlock = some k → lv.ownBlock = some k ∨ w.heap.size ≤ k := fun k hk => by
          rcases hvb k hk with h | h
          · exact HO2.out k h
          · have := hK.out.size; exact Or.inr (by omega)
        have HS8 := hide hS8
        have HK8 := hide hkS
        have HO8 := hide hO8
        clear hvb hne7 hw7 hS8 hkS hO8 hown7 hgrow7 hloc7 hk7 hr7
        have k2 : ((a + 1 : Nat) : Int) = (a : Int) + 1 := by push_cast; rfl
        rw [k2] at HS8 HK8
        go_roundw
        case rel =>
          refine ⟨_, _, fu', HS8, HO8, HK8, HF2, by show n - (a + 1) ≤ fu'; omega, by show a + 1 ≤ n; omega, by show (s'.list ++ [0]).length = a + 1; have := HLL.out; simp; omega⟩
        case measure =>
          obtain ⟨f8, q1, q2⟩ := HS8.out.row
          have q3 := q1.cell (i := 2) (by omega)
          rw [q2.at_] at q3
          rw [hCI, cellI_of q3]
          show n - (a + 1) < n - a
          omega
      · have dx : (x == 0) = false := by simpa using hx0
        have dn : ((a : Int) == (n : Int)) = false := by simp; omega
        have hE : FIN = s' := by
          obtain ⟨q, rfl⟩ : ∃ q, fu = q + 1 := ⟨fu - 1, by omega⟩
          have hu : passN n (q + 1) s' = if s'.at_ < n ∧ s'.now s'.at_ = 0 then passN n q { s' with list := s'.list ++ [0], at_ := s'.at_ + 1 } else s' := rfl
          have := hF.out
          rw [hu, if_neg (fun h => hx0 (by rw [← hx]; exact h.2))] at this
          exact this.symm
        have hRE : RES = s' := by rw [HRES.out, hE, if_neg (by omega)]
        have HRE := hide hRE
        clear hF hf hrow ha hx hx0 hll hE hRE
        go_wp2
        refine wp_region_seq (fun Y => Y.cell? ⟨bs, 0, none⟩ = some (.pointer (some ⟨ps, 0, none⟩)) ∧ Y.cell? ⟨bs, 2, none⟩ = some (.int .i64 (a : Int)) ∧ Y.cell? ⟨ps, 1, none⟩ = some (.int .i64 (n : Int)) ∧ Y.cell? ⟨bs, 20 + a, none⟩ = some (.int .u64 x)) (.take 0 <| .take 1 <| .take 2 <| .take 3 <| .take 4 <| .take 5 <| .take 6 <| .take 7 <| .take 8 <| .take 9 <| .take 10 <| .take 11 <| .take 12 <| .take 13 <| .take 14 <| .take 15 <| .take 16 <| .take 17 <| .take 18 <| .take 19 <| .take 20 <| .take 21 <| .take 22 <| .take 23 <| .done) (by kernel_rfl) (by kernel_rfl) (by kernel_rfl) (by refine ⟨?_, ?_, ?_, ?_⟩ <;> go_simp) ?_
        iterate 24 (refine seq_take (v := ?_) rfl (by rfl) ?_ ?_; rotate_left; (focus (intro wS hS; obtain ⟨s0, s1, s2, s3⟩ := hS; go_simp; exact rfl)); simp only [Act.put, List.setIfInBounds_toArray, List.set_cons_zero, List.set_cons_succ])
        refine seq_nil ?_
        go_wp2
        refine wp_region_seq (fun Y => Y.cell? ⟨bs, 0, none⟩ = some (.pointer (some ⟨ps, 0, none⟩)) ∧ Y.cell? ⟨bs, 2, none⟩ = some (.int .i64 (a : Int)) ∧ Y.cell? ⟨ps, 1, none⟩ = some (.int .i64 (n : Int)) ∧ True) (.take 0 <| .take 1 <| .take 2 <| .take 3 <| .take 4 <| .take 5 <| .take 6 <| .take 7 <| .take 8 <| .take 9 <| .take 10 <| .take 11 <| .done) (by kernel_rfl) (by kernel_rfl) (by kernel_rfl) (by refine ⟨?_, ?_, ?_, trivial⟩ <;> go_simp) ?_
        iterate 12 (refine seq_take (v := ?_) rfl (by rfl) ?_ ?_; rotate_left; (focus (intro wS hS; obtain ⟨s0, s1, s2, s3⟩ := hS; go_simp; exact rfl)); simp only [Act.put, List.setIfInBounds_toArray, List.set_cons_zero, List.set_cons_succ])
        refine seq_nil ?_
        go_wp2
        go_end0
        rw [HRE.out]
        exact ⟨rfl, lv', hS.out.keep (Keep.drewN (Keep.refl (fun _ => True) wr) 2) trivial (fun _ _ => trivial), hO.out, hK.out.drewN 2⟩
    · obtain ⟨a, ha⟩ : ∃ a, s'.at_ = a := ⟨_, rfl⟩
      have hnn : a = n := by omega
      subst hnn
      have hE : FIN = s' := by
        have := hF.out
        rcases fu with _ | q
        · exact this.symm
        · have hu : passN a (q + 1) s' = if s'.at_ < a ∧ s'.now s'.at_ = 0 then passN a q { s' with list := s'.list ++ [0], at_ := s'.at_ + 1 } else s' := rfl
          rw [hu, if_neg (fun h => by omega)] at this
          exact this.symm
      rw [ha] at c2
      have hRE : RES = { s' with pc := 3 } := by rw [HRES.out, hE, if_pos ha]
      have HRE := hide hRE
      have HFF := hide hf
      have HRW := hide hrow
      clear hF hf hrow hll hE hCI hRE
      go_wp2
      refine wp_region_seq (fun Y => Y.cell? ⟨bs, 0, none⟩ = some (.pointer (some ⟨ps, 0, none⟩)) ∧ Y.cell? ⟨bs, 2, none⟩ = some (.int .i64 (a : Int)) ∧ Y.cell? ⟨ps, 1, none⟩ = some (.int .i64 (a : Int)) ∧ True) (.take 0 <| .take 1 <| .take 2 <| .take 3 <| .take 4 <| .take 5 <| .take 6 <| .take 7 <| .take 8 <| .take 9 <| .take 10 <| .take 11 <| .take 12 <| .take 13 <| .take 14 <| .take 15 <| .take 16 <| .take 17 <| .take 18 <| .take 19 <| .take 20 <| .take 21 <| .take 22 <| .take 23 <| .done) (by kernel_rfl) (by kernel_rfl) (by kernel_rfl) (by refine ⟨?_, ?_, ?_, trivial⟩ <;> go_simp) ?_
      repeat (first | (refine seq_take (v := ?_) rfl (by rfl) ?_ ?_; rotate_left; (focus (intro wS hS; obtain ⟨s0, s1, s2, s3⟩ := hS; go_simp; exact rfl)); simp only [Act.put, List.setIfInBounds_toArray, List.set_cons_zero, List.set_cons_succ]) | (refine seq_skip rfl (by rfl) ?_; simp only [Act.put, List.setIfInBounds_toArray, List.set_cons_zero, List.set_cons_succ]) | (refine seq_pass rfl (by rfl) (by assumption) ?_; simp only [Act.put, List.setIfInBounds_toArray, List.set_cons_zero, List.set_cons_succ]))
      refine seq_nil ?_
      go_wp2
      refine wp_region_seq (fun Y => Y.cell? ⟨bs, 0, none⟩ = some (.pointer (some ⟨ps, 0, none⟩)) ∧ Y.cell? ⟨bs, 2, none⟩ = some (.int .i64 (a : Int)) ∧ Y.cell? ⟨ps, 1, none⟩ = some (.int .i64 (a : Int)) ∧ True) (.take 0 <| .take 1 <| .take 2 <| .take 3 <| .take 4 <| .take 5 <| .take 6 <| .take 7 <| .take 8 <| .take 9 <| .take 10 <| .take 11 <| .done) (by kernel_rfl) (by kernel_rfl) (by kernel_rfl) (by refine ⟨?_, ?_, ?_, trivial⟩ <;> go_simp) ?_
      iterate 12 (refine seq_take (v := ?_) rfl (by rfl) ?_ ?_; rotate_left; (focus (intro wS hS; obtain ⟨s0, s1, s2, s3⟩ := hS; go_simp; exact rfl)); simp only [Act.put, List.setIfInBounds_toArray, List.set_cons_zero, List.set_cons_succ])
      refine seq_nil ?_
      go_wp2
      go_end0
      have h0 := hS.out.keep (Keep.drewN (Keep.refl (fun _ => True) wr) 2) trivial (fun _ _ => trivial)
      have h1 := h0.set (s' := { s' with pc := 3 }) 1 (.int .i64 3) rfl (fun f hf => by obtain ⟨b0, b1, b2, b3, b4, b5, b6, b7, b8, b9, b10⟩ := hf; refine ⟨?_, ?_, ?_, ?_, fun i hi => ?_, fun i hi => ?_, ?_, fun i hi => ?_, ?_, ?_, ?_⟩; all_goals first | (rw [if_neg (by omega)]; first | assumption | exact b4 i hi | exact b5 i hi | exact b7 i hi) | (rw [if_pos (by omega)]; rfl) | (rw [if_pos (by omega)]))
      rw [HRE.out]
      exact ⟨rfl, lv', h1, hO.out, (hK.out.drewN 2).setCell (fun hh => hh.2.1 rfl) _⟩
end Go.Proofs.Ytlfingcmekifkaa
