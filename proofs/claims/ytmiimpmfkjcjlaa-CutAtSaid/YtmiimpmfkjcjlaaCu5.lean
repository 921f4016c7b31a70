/- Whose each tick was (package cut): Ticks. -/
import Derived.Test.YtmiimpmfkjcjlaaCu4
namespace Go.Proofs.Ytmiimpmfkjcjlaa
open Go.RowKit

structure Tk where
  thread : Int
  call : Nat
  first : Bool
  last : Bool
def tkEnc (t : Tk) : List Value := [.int .i64 t.thread, .int .i64 t.call, .bool t.first, .bool t.last]
def tickS (cs : List Cl) (es : List Ev) (st : List Bool × List Tk) (p : Int) : List Bool × List Tk := match nowF cs st.1 p with
  | none => st
  | some i => (if lastT es i (st.2.length + 1) then st.1.set i true else st.1, st.2 ++ [⟨p, i, firstT es i (st.2.length + 1), lastT es i (st.2.length + 1)⟩])
def tickF (cs : List Cl) (es : List Ev) (picks : List Int) : List Bool × List Tk := picks.foldl (tickS cs es) (List.replicate cs.length false, [])
def wrongC (n : Int) (cs : List Cl) (picks : List Int) : Int := if (1 ≤ n ∧ n ≤ 16) ∧ 65536 < picks.length then 3 else wrongE n cs

theorem tickF_succ {cs : List Cl} {es : List Ev} {picks : List Int} {k : Nat} {p : Int} (h : picks[k]? = some p) : tickF cs es (picks.take (k + 1)) = tickS cs es (tickF cs es (picks.take k)) p := by
  unfold tickF
  rw [List.take_add_one, h, List.foldl_append]
  rfl
theorem tickS_len (cs : List Cl) (es : List Ev) (st : List Bool × List Tk) (p : Int) : (tickS cs es st p).1.length = st.1.length ∧ (tickS cs es st p).2.length ≤ st.2.length + 1 := by
  unfold tickS
  rcases nowF cs st.1 p with _ | i
  · exact ⟨rfl, Nat.le_succ _⟩
  · refine ⟨?_, by simp⟩
    show (if _ then _ else _ : List Bool).length = _
    split
    · simp
    · rfl
theorem tickF_len (cs : List Cl) (es : List Ev) (picks : List Int) : (tickF cs es picks).1.length = cs.length ∧ (tickF cs es picks).2.length ≤ picks.length := by
  have : ∀ (l : List Int) (st : List Bool × List Tk), (l.foldl (tickS cs es) st).1.length = st.1.length ∧ (l.foldl (tickS cs es) st).2.length ≤ st.2.length + l.length := by
    intro l
    induction l with
    | nil => intro st; simp
    | cons p l ih =>
      intro st
      obtain ⟨h1, h2⟩ := ih (tickS cs es st p)
      obtain ⟨h3, h4⟩ := tickS_len cs es st p
      simp only [List.foldl_cons, List.length_cons]
      omega
  obtain ⟨h1, h2⟩ := this picks (List.replicate cs.length false, [])
  unfold tickF
  simp at h1 h2
  exact ⟨h1, h2⟩

theorem line_keep {S : Nat → Prop} {w w' : World} {b g B T : Nat} {rem : Int → List Nat} (h : LineAt w b g B T rem) (hk : Keep S w w') (hS : ∀ j, j < T → S j) (hB : B ≤ T) : LineAt w' b g B T rem := by
  obtain ⟨⟨left, hl⟩, ⟨m, hm, hn, hs⟩, hap⟩ := h
  refine ⟨⟨left, (hk.block b (hS b (by omega))).trans hl⟩, ⟨m, hm.of_block (hk.block g (hS g (by omega))), hn, fun p v hv => ?_⟩, hap⟩
  obtain ⟨h1, h2⟩ := hs p v hv
  exact ⟨sl_keepB h1 hk (fun A n c a e1 e2 _ => hS _ (h2 A n c a e1 e2).2), h2⟩

theorem owns_base {w : World} {base base' : Nat} {e : TypeId} {sz : Nat} {v : Value} {n : Nat} {xs : List Value} (h : w.ownsRow base e sz v n xs) (hb : base' ≤ base) : w.ownsRow base' e sz v n xs := by
  obtain ⟨h1, h2 | ⟨g, cap, cur, e1, e2, e3⟩⟩ := h
  · exact ⟨h1, Or.inl h2⟩
  · exact ⟨h1, Or.inr ⟨g, cap, cur, e1, Nat.le_trans hb e2, e3⟩⟩

theorem own_slice {w : World} {base : Nat} {e : TypeId} {sz : Nat} {v : Value} {n : Nat} {xs : List Value} (h : w.ownsRow base e sz v n xs) : ∃ A cap, v = .slice A n cap := by
  obtain ⟨_, ⟨e, h0⟩ | ⟨g, cap, cur, e, _⟩⟩ := h
  · exact ⟨none, 0, by rw [e, h0]⟩
  · exact ⟨_, cap, e⟩
theorem info_tick : (Try.prog.info? 46).map (fun i => (i.zero, i.size, i.bytes)) = some (some (.agg #[.int .i64 0, .int .i64 0, .bool false, .bool false]), 4, 24) := by kernel_rfl
theorem evOf_at (es : List Ev) (i : Nat) : evOf es i = evAt es (i : Int) := rfl

theorem app_keep {wr w5 : World} {o1 o2 o3 : Obj} {T : Nat} {v : Value} (hg : (((wr.alloc o1).alloc o2).alloc o3).grownBy w5 v.ownBlock) (hz : T ≤ wr.heap.size) (hv : ∀ k, v.ownBlock = some k → T ≤ k) : Keep (fun j => j < T) wr w5 := by
  refine ((((Keep.refl _ wr).alloc (fun k hk => ?_) o1).alloc (fun k hk => ?_) o2).alloc (fun k hk => ?_) o3).grown hg (fun k hk => ?_) (fun k hk hh => ?_)
  · omega
  · simp; omega
  · simp; omega
  · simp; omega
  · have := hv k hk; omega

theorem app_keep2 {wr w5 : World} {o1 o2 o3 : Obj} {T : Nat} {v : Value} (hg : (((wr.alloc o1).alloc o2).drew.alloc o3).grownBy w5 v.ownBlock) (hz : T ≤ wr.heap.size) (hv : ∀ k, v.ownBlock = some k → T ≤ k) : Keep (fun j => j < T) wr w5 := by
  refine ((((Keep.refl _ wr).alloc (fun k hk => ?_) o1).alloc (fun k hk => ?_) o2).drew.alloc (fun k hk => ?_) o3).grown hg (fun k hk => ?_) (fun k hk hh => ?_)
  · omega
  · simp; omega
  · simp; omega
  · simp; omega
  · have := hv k hk; omega
theorem owns_keepB {S : Nat → Prop} {w w' : World} {base : Nat} {e : TypeId} {sz : Nat} {v : Value} {n : Nat} {xs : List Value} (h : w.ownsRow base e sz v n xs) (hk : Keep S w w') (hS : ∀ j, base ≤ j → j < w.heap.size → S j) : w'.ownsRow base e sz v n xs := by
  obtain ⟨h1, h2 | ⟨g, cap, cur, e1, e2, e3, e4⟩⟩ := h
  · exact ⟨h1, Or.inl h2⟩
  · exact ⟨h1, Or.inr ⟨g, cap, cur, e1, e2, (hk.block g (hS g e2 (Array.getElem?_eq_some_iff.1 e3).1)).trans e3, e4⟩⟩
theorem rem_set {cs : List Cl} {fin : List Bool} {p : Int} {i : Nat} {rest : List Nat} (hl : fin.length = cs.length) (h : remF cs fin p = i :: rest) : (fun x => if x = p then rest else remF cs fin x) = remF cs (fin.set i true) := by
  obtain ⟨h1, h2⟩ := remF_finish hl h
  funext x
  by_cases e : x = p
  · rw [if_pos e, e, h1]
  · rw [if_neg e, h2 x e]

theorem fin_keep (wr : World) (o1 o2 : Obj) : Keep (fun j => j < wr.heap.size) wr ((wr.alloc o1).alloc o2).drew :=
  (((Keep.refl _ wr).alloc (fun _ hk => hk) o1).alloc (fun k hk => by simp; omega) o2).drew

def TicksPost (n : Int) (cs : List Cl) (es : List Ev) (picks : List Int) (w : World) (e : Ending) (w' : World) : Prop :=
  (wrongC n cs picks ≠ 0 ∧ e = .returned (.tuple #[.slice none 0 0, .int .i64 (wrongC n cs picks)]) ∧ Below w.heap.size w w') ∨
  (wrongC n cs picks = 0 ∧ ∃ v, e = .returned (.tuple #[v, .int .i64 0]) ∧ w'.ownsRow w.heap.size 46 4 v (tickF cs es picks).2.length ((tickF cs es picks).2.flatMap tkEnc) ∧ Below w.heap.size w w')

theorem tickS_none {cs : List Cl} {es : List Ev} {fin : List Bool} {out : List Tk} {p : Int} (h : remF cs fin p = []) : tickS cs es (fin, out) p = (fin, out) := by
  unfold tickS nowF
  simp only [h, List.head?_nil]
theorem tickS_some {cs : List Cl} {es : List Ev} {fin : List Bool} {out : List Tk} {p : Int} {i : Nat} {rest : List Nat} (h : remF cs fin p = i :: rest) :
    tickS cs es (fin, out) p = (if lastT es i (out.length + 1) then fin.set i true else fin, out ++ [⟨p, i, firstT es i (out.length + 1), lastT es i (out.length + 1)⟩]) := by
  unfold tickS nowF
  simp only [h, List.head?_cons]

set_option maxRecDepth 100000 in
set_option maxHeartbeats 4000000 in
theorem cutTicks (n : Int) (A Ae Ap : Option Addr) (m c me ce mp cp : Nat) (cs : List Cl) (es : List Ev) (picks : List Int) (w : World) (h : SlCl w (.slice A m c) cs) (hm : cs.length = m)
    (he : SlEv w (.slice Ae me ce) es) (hme : es.length = me) (hp : SlI w (.slice Ap mp cp) picks) (hmp : picks.length = mp) :
    Calls Try.prog 7 #[.int .i64 n, .slice A m c, .slice Ae me ce, .slice Ap mp cp] w (TicksPost n cs es picks w) := by
  have N0 := pickNew n A m c cs w h hm
  have hle : mp ≤ maxLen := by obtain ⟨_, _, e, h1, h2, _⟩ := hp; cases e; omega
  have hzv : ∀ W, (zeroValue 44).run Try.prog W = .ok (.agg #[.int .i64 0, .int .i64 0, .int .i64 0, .int .i64 0, .int .i64 0, .int .u64 0, .slice none 0 0, .slice none 0 0]) W := fun _ => by kernel_rfl
  obtain ⟨j0, hj, hj0, hj1, hj2⟩ := info_parts info_tick
  have HE := hide he
  have HP := hide hp
  have HMP := hide hmp
  have HME := hide hme
  clear h he hp
  by_cases hq : (1 ≤ n ∧ n ≤ 16) ∧ 65536 < mp
  · have hE : wrongC n cs picks = 3 := by unfold wrongC; rw [hmp, if_pos hq]
    have HEr := hide hE
    obtain ⟨⟨q1, q2⟩, q3⟩ := hq
    have d1 : decide (1 ≤ n) = true := by simpa using q1
    have d2 : decide (n ≤ 16) = true := by simpa using q2
    have q3' : (65536 : Int) < (mp : Int) := by omega
    have d3 : decide ((65536 : Int) < (mp : Int)) = true := by simpa using q3'
    clear hE N0 hm hmp hme
    go_enter Try.func7, Try.ntmps7
    go_wp2
    go_ret2
    exact Or.inl ⟨by rw [HEr.out]; decide, by rw [HEr.out]; rfl, Below.refl _ _⟩
  · have hE : wrongC n cs picks = wrongE n cs := by unfold wrongC; rw [hmp, if_neg hq]
    have HEr := hide hE
    have HQ := hide hq
    clear hE hm hmp hme
    have hbad : ¬ (1 ≤ n ∧ n ≤ 16) → wrongE n cs = 1 := fun h => by unfold wrongE; rw [if_pos h]
    rcases (by omega : n < 1 ∨ (1 ≤ n ∧ 16 < n) ∨ (1 ≤ n ∧ n ≤ 16 ∧ mp ≤ 65536)) with h0 | ⟨h0, h1⟩ | ⟨h0, h1, h2⟩
    · have d1 : decide (1 ≤ n) = false := by simpa using h0
      have hE1 := hbad (by omega)
      have HE1 := hide hE1
      clear hbad hE1 hq
      go_enter Try.func7, Try.ntmps7
      go_wp2_with fail
      refine N0.mono ?_
      rintro e w1 (⟨_, rfl, hb⟩ | ⟨h, _⟩)
      · rw [HE1.out]
        go_wp2
        go_ret2
        exact Or.inl ⟨by rw [HEr.out, HE1.out]; decide, by rw [HEr.out, HE1.out]; rfl, hb⟩
      · rw [HE1.out] at h; cases h
    · have d1 : decide (1 ≤ n) = true := by simpa using h0
      have d2 : decide (n ≤ 16) = false := by simpa using h1
      have hE1 := hbad (by omega)
      have HE1 := hide hE1
      clear hbad hE1 hq
      go_enter Try.func7, Try.ntmps7
      go_wp2_with fail
      refine N0.mono ?_
      rintro e w1 (⟨_, rfl, hb⟩ | ⟨h, _⟩)
      · rw [HE1.out]
        go_wp2
        go_ret2
        exact Or.inl ⟨by rw [HEr.out, HE1.out]; decide, by rw [HEr.out, HE1.out]; rfl, hb⟩
      · rw [HE1.out] at h; cases h
    · have d1 : decide (1 ≤ n) = true := by simpa using h0
      have d2 : decide (n ≤ 16) = true := by simpa using h1
      have h2' : ¬ (65536 : Int) < (mp : Int) := by omega
      have d3 : decide ((65536 : Int) < (mp : Int)) = false := by simpa using h2'
      have hp63 : (mp : Int) ≤ 65536 := by omega
      clear hbad hq
      go_enter Try.func7, Try.ntmps7
      go_wp2_with fail
      refine N0.mono ?_
      rintro e w1 (⟨hne, rfl, hb⟩ | ⟨h0E, b, g, B, rfl, hb1, hg1, hBs, hL, hb⟩)
      · obtain ⟨ee, hee⟩ : ∃ ee, wrongE n cs = ee := ⟨_, rfl⟩
        rw [hee] at hne ⊢
        have hz : (ee != 0) = true := by simpa using hne
        have HEe := hide hee
        clear hee hne
        go_wp2
        go_ret2
        exact Or.inl ⟨by rw [HEr.out, HEe.out]; simpa using hz, by rw [HEr.out, HEe.out]; rfl, hb⟩
      · have HL := hide hL
        have HB := hide hb
        clear hL hb
        go_wp2_with fail
        refine (cutFirst Ae me ce es w1 (HE.out.below HB.out (Nat.le_refl _)) HME.out).mono ?_
        rintro e w2 ⟨rfl, hI2, hb2⟩
        have HL2 : Hid (LineAt w2 b g B w1.heap.size (fun p => remF cs (List.replicate cs.length false) p)) := hide (line_keep HL.out (Keep.of_below (K := fun j => j < w1.heap.size) hb2 (fun k hk => hk)) (fun j hj => hj) hBs)
        have HI2 := hide hI2
        have HB2 : Hid (Below w.heap.size w w2) := hide (HB.out.trans (hb2.mono HB.out.size))
        have hz2 : w1.heap.size + 1 ≤ w2.heap.size := by have := hI2.lt; omega
        have hz1 := HB.out.size
        clear hI2 hb2
        go_wp2
        go_loopw [13, 46] (fun vo i wr => ∃ (k : Nat) (fin : List Bool) (out : List Tk), k ≤ mp ∧ i = .int .i64 k ∧ Hid (tickF cs es (picks.take k) = (fin, out)) ∧ Hid (LineAt wr b g B w1.heap.size (remF cs fin)) ∧
          Hid (IMap wr w1.heap.size .i64 (fun c => (evAt es c).map evV)) ∧ Hid (wr.ownsRow w2.heap.size 46 4 vo out.length (out.flatMap tkEnc)) ∧ Hid (Below w.heap.size w wr) ∧ w2.heap.size ≤ wr.heap.size) (fun _ i _ => mp - (intOf i).toNat)
        case atStart => exact ⟨0, _, [], Nat.zero_le _, rfl, hide rfl, HL2, HI2, hide (World.ownsRow_nil _ _ _ _), HB2, Nat.le_refl _⟩
        case round =>
          obtain ⟨k, fin, out, hk, rfl, hst, hL, hI, hO, hB, hsz⟩ := hrel
          by_cases hlt : k < mp
          · obtain ⟨x, hxk⟩ : ∃ x, picks[k]? = some x := ⟨_, List.getElem?_eq_getElem (by have := HMP.out; omega)⟩
            obtain ⟨A', c', e, _, _, h3⟩ := HP.out.below hB.out (Nat.le_refl _)
            obtain ⟨bb, oo, e', hbb, hc⟩ := h3 k x hxk
            rw [HMP.out] at e
            cases e
            cases e'
            have c0 := nt_cell hc
            simp only [Nat.mul_one] at c0
            have HK := hide hxk
            clear h3 hc hxk
            have N1 := lineNow b g B w1.heap.size (remF cs fin) x wr hL.out
            rcases hr : remF cs fin x with _ | ⟨i, rest⟩
            · rw [hr] at N1
              have hst1 : Hid (tickF cs es (picks.take (k + 1)) = (fin, out)) := hide (by rw [tickF_succ HK.out, hst.out, tickS_none hr])
              clear hr
              go_wp2_with fail
              refine N1.mono ?_
              rintro e w3 ⟨rfl, rfl⟩
              go_wp2
              go_roundw
              case rel => exact ⟨k + 1, fin, out, by omega, by go_num, hst1, hL, hI, hO, hB, hsz⟩
              case measure => first | (simp [intOf]; done) | (simp [intOf]; omega)
            · rw [hr] at N1
              have hst1 : tickF cs es (picks.take (k + 1)) = (if lastT es i (out.length + 1) then fin.set i true else fin, out ++ [⟨x, i, firstT es i (out.length + 1), lastT es i (out.length + 1)⟩]) := by rw [tickF_succ HK.out, hst.out, tickS_some hr]
              have hlen : out.length ≤ 65536 := by
                have := (tickF_len cs es (picks.take k)).2
                rw [hst.out] at this
                simp only [List.length_take] at this
                omega
              have hlen' : (out.length : Int) ≤ 65536 := by omega
              obtain ⟨vA, vc, rfl⟩ := own_slice hO.out
              have HR := hide hr
              clear hr
              have hlk := run_lookup_imap (P := Try.prog) Try.underlying56 Try.underlying3 (hzv (wr.alloc (.cells #[.int .i64 x, .int .i64 i, .bool false, .bool false] 46))) (hI.out.alloc _) (i : Int) true
              rcases hy : evAt es (i : Int) with _ | y
              · simp only [hy, Option.map_none, if_true, Option.getD_none, Option.isSome_none] at hlk
                have hf : firstT es i (out.length + 1) = false := by unfold firstT; rw [evOf_at, hy]
                have hl : lastT es i (out.length + 1) = false := by unfold lastT; rw [evOf_at, hy]
                rw [hf, hl] at hst1
                simp only [Bool.false_eq_true, if_false] at hst1
                have HST := hide hst1
                clear hst1 hf hl hy
                go_wp2_with fail
                refine N1.mono ?_
                rintro e w3 ⟨rfl, rfl⟩
                go_wp2_with (at_builtin; refine wpList_append_own_at _ rfl _ _ 30 rfl w2.heap.size 46 j0 (.agg #[.int .i64 0, .int .i64 0, .bool false, .bool false]) 4 24 Try.underlying30 hj hj0 hj1 hj2 rfl (by decide) _ _ _ rfl (((hO.out.alloc _).alloc _).alloc _) ⟨w3.heap.size + 1 + 1, 0, none⟩ 1 1 [.int .i64 x, .int .i64 i, .bool false, .bool false] rfl rfl (by intro j u hu; rcases j with _ | _ | _ | _ | j; (cases hu; go_simp); (cases hu; go_simp); (cases hu; go_simp); (cases hu; go_simp); cases hu) (by simp [Value.oneCell']) (by unfold maxLen; omega) (by omega) (by simp; omega) ?_; intro v5 w5 hown5 hgrow _ _)
                have hK5 : Keep (fun j => j < w2.heap.size) w3 w5 := app_keep hgrow hsz (fun k hk => (hO.out.lt k hk).1)
                have hz5 := hK5.size
                go_roundw
                case rel => exact ⟨k + 1, fin, _, by omega, by go_num, HST, hide (line_keep hL.out hK5 (fun j hj => by omega) hBs), hide (hI.out.of_block (hK5.block _ (by omega))), hide (by simpa [tkEnc] using hown5), hide (hB.out.trans (hK5.below (fun k hk => by omega))), by omega⟩
                case measure => first | (simp [intOf]; done) | (simp [intOf]; omega)
              · simp only [hy, Option.map_some, if_true, Option.getD_some, Option.isSome_some] at hlk
                unfold evV at hlk
                obtain ⟨F, hF⟩ : ∃ F, (y.inv == (out.length : Int) + 1) = F := ⟨_, rfl⟩
                obtain ⟨L, hLl⟩ : ∃ L, (y.resp == (out.length : Int) + 1) = L := ⟨_, rfl⟩
                have hf : firstT es i (out.length + 1) = F := by unfold firstT; rw [evOf_at, hy, ← hF]; simp; rfl
                have hl : lastT es i (out.length + 1) = L := by unfold lastT; rw [evOf_at, hy, ← hLl]; simp; rfl
                rw [hf, hl] at hst1
                have HST := hide hst1
                clear hst1 hf hl hy
                cases L
                all_goals
                  go_wp2_with fail
                  refine N1.mono ?_
                  rintro e w3 ⟨rfl, rfl⟩
                  go_wp2_with fail
                  refine wp_region_seq (fun X => X.cell? ⟨w3.heap.size + 1, 1, none⟩ = some (.int .i64 y.inv) ∧ X.cell? ⟨w3.heap.size + 1, 2, none⟩ = some (.int .i64 y.resp)) (.take 0 <| .take 1 <| .take 2 <| .take 3 <| .take 4 <| .take 5 <| .take 6 <| .take 7 <| .take 8 <| .run 9 <| .take 10 <| .run 11 <| .done) (by kernel_rfl) (by kernel_rfl) (by kernel_rfl) (by refine ⟨?_, ?_⟩ <;> go_simp) ?_
                  repeat (refine seq_take (v := ?_) rfl (by rfl) ?_ ?_; rotate_left; (focus (intro wS hS; obtain ⟨s0, s1⟩ := hS; go_simp; exact rfl)); simp only [Act.put, List.setIfInBounds_toArray, List.set_cons_zero, List.set_cons_succ])
                  (refine seq_run rfl (by rfl) (fun K hK => ?_); go_simp)
                  refine hK _ _ (by refine ⟨?_, ?_⟩ <;> go_simp) ?_
                  clear hK K
                  repeat (refine seq_take (v := ?_) rfl (by rfl) ?_ ?_; rotate_left; (focus (intro wS hS; obtain ⟨s0, s1⟩ := hS; go_simp; exact rfl)); simp only [Act.put, List.setIfInBounds_toArray, List.set_cons_zero, List.set_cons_succ])
                  (refine seq_run rfl (by rfl) (fun K hK => ?_); go_simp)
                  refine hK _ _ (by refine ⟨?_, ?_⟩ <;> go_simp) ?_
                  clear hK K
                  refine seq_nil ?_
                · rename_i w3 _ _
                  go_wp2_with (at_builtin; refine wpList_append_own_at _ rfl _ _ 30 rfl w2.heap.size 46 j0 (.agg #[.int .i64 0, .int .i64 0, .bool false, .bool false]) 4 24 Try.underlying30 hj hj0 hj1 hj2 rfl (by decide) _ _ _ rfl (((hO.out.alloc _).alloc _).drew.alloc _) ⟨w3.heap.size + 1 + 1, 0, none⟩ 1 1 [.int .i64 x, .int .i64 i, .bool F, .bool false] rfl rfl (by intro j u hu; rcases j with _ | _ | _ | _ | j; (cases hu; go_simp); (cases hu; go_simp); (cases hu; go_simp); (cases hu; go_simp); cases hu) (by simp [Value.oneCell']) (by unfold maxLen; omega) (by omega) (by simp; omega) ?_; intro v5 w5 hown5 hgrow _ _)
                  have hK5 : Keep (fun j => j < w2.heap.size) w3 w5 := app_keep2 hgrow hsz (fun k hk => (hO.out.lt k hk).1)
                  have hz5 := hK5.size
                  go_roundw
                  case rel => exact ⟨k + 1, _, _, by omega, by go_num, HST, hide (line_keep hL.out hK5 (fun j hj => by omega) hBs), hide (hI.out.of_block (hK5.block _ (by omega))), hide (by simpa [tkEnc] using hown5), hide (hB.out.trans (hK5.below (fun k hk => by omega))), by omega⟩
                  case measure => first | (simp [intOf]; done) | (simp [intOf]; omega)
                · rename_i w3 _ _
                  go_wp2_with fail
                  have hap := hL.out.apart
                  have hL3 : LineAt ((w3.alloc (.cells #[.int .i64 x, .int .i64 i, .bool F, .bool true] 46)).alloc (.cells #[.int .i64 y.call, .int .i64 y.inv, .int .i64 y.resp, .int .i64 y.steps, .int .i64 y.err, .int .u64 y.val, .slice y.lA y.lN y.lC, .slice y.kA y.kN y.kC] 44)).drew b g B w1.heap.size (remF cs fin) := line_keep hL.out (fin_keep w3 _ _) (fun j hj => by omega) hBs
                  refine (lineFinish b g B w1.heap.size (remF cs fin) x i rest _ hL3 HR.out).mono ?_
                  rintro e w6 ⟨rfl, hL6, hk6⟩
                  have hT : w6.heap[w3.heap.size]? = some (.cells #[.int .i64 x, .int .i64 i, .bool F, .bool true] 46 (0, 0)) := (hk6.block _ ⟨by omega, by omega, by simp; omega⟩).trans ((heap_alloc_old (w3.alloc _) _ (by simp)).trans (heap_alloc_new _ _))
                  have hfl : fin.length = cs.length := by have := (tickF_len cs es (picks.take k)).1; rw [hst.out] at this; exact this
                  rw [rem_set hfl HR.out] at hL6
                  have t0 : w6.cell? ⟨w3.heap.size, 0, none⟩ = some (.int .i64 x) := cell_of_row w6 _ 0 _ _ _ hT
                  have t1 : w6.cell? ⟨w3.heap.size, 1, none⟩ = some (.int .i64 i) := cell_of_row w6 _ 1 _ _ _ hT
                  have t2 : w6.cell? ⟨w3.heap.size, 2, none⟩ = some (.bool F) := cell_of_row w6 _ 2 _ _ _ hT
                  have t3 : w6.cell? ⟨w3.heap.size, 3, none⟩ = some (.bool true) := cell_of_row w6 _ 3 _ _ _ hT
                  have hO6 := owns_keepB (((hO.out.alloc (.cells #[.int .i64 x, .int .i64 i, .bool F, .bool true] 46)).alloc (.cells #[.int .i64 y.call, .int .i64 y.inv, .int .i64 y.resp, .int .i64 y.steps, .int .i64 y.err, .int .u64 y.val, .slice y.lA y.lN y.lC, .slice y.kA y.kN y.kC] 44)).drew) hk6 (fun j hj hl => ⟨by omega, by omega, hl⟩)
                  have hz6 := hk6.size
                  simp at hz6
                  have hI6 : IMap w6 w1.heap.size .i64 (fun c => (evAt es c).map evV) := hI.out.of_block ((hk6.block _ ⟨by omega, by omega, by simp; omega⟩).trans ((fin_keep w3 _ _).block _ (by omega)))
                  have hB6 : Below w.heap.size w w6 := hB.out.trans (((fin_keep w3 _ _).below (fun k hk => by omega)).trans (hk6.below (fun k hk => ⟨by omega, by omega, by have := hB.out.size; simp; omega⟩)))
                  have HL6 := hide hL6
                  have HI6 := hide hI6
                  have HB6 := hide hB6
                  have HO6 := hide hO6
                  clear hL3 hk6 hT hL6 hI6 hB6 hO6
                  go_wp2_with (at_builtin; refine wpList_append_own_at _ rfl _ _ 30 rfl w2.heap.size 46 j0 (.agg #[.int .i64 0, .int .i64 0, .bool false, .bool false]) 4 24 Try.underlying30 hj hj0 hj1 hj2 rfl (by decide) _ _ _ rfl (HO6.out.alloc _) ⟨w6.heap.size, 0, none⟩ 1 1 [.int .i64 x, .int .i64 i, .bool F, .bool true] rfl rfl (by intro j u hu; rcases j with _ | _ | _ | _ | j; (cases hu; go_simp); (cases hu; go_simp); (cases hu; go_simp); (cases hu; go_simp); cases hu) (by simp [Value.oneCell']) (by unfold maxLen; omega) (by omega) (by simp; omega) ?_; intro v5 w5 hown5 hgrow _ _)
                  have hK5 : Keep (fun j => j < w2.heap.size) w6 w5 := ((Keep.refl _ w6).alloc (fun k hk => by omega) _).grown hgrow (fun k hk => by simp; omega) (fun k hk hh => by have := (HO6.out.lt k hk).1; omega)
                  have hz5 := hK5.size
                  go_roundw
                  case rel => exact ⟨k + 1, _, _, by omega, by go_num, HST, hide (line_keep HL6.out hK5 (fun j hj => by omega) hBs), hide (HI6.out.of_block (hK5.block _ (by omega))), hide (by simpa [tkEnc] using hown5), hide (HB6.out.trans (hK5.below (fun k hk => by omega))), by omega⟩
                  case measure => first | (simp [intOf]; done) | (simp [intOf]; omega)
          · obtain rfl : k = mp := by omega
            have hfull : tickF cs es picks = (fin, out) := by have := hst.out; rwa [List.take_of_length_le (by have := HMP.out; omega)] at this
            have HF := hide hfull
            clear hfull
            go_wp2
            go_ret2
            refine Or.inr ⟨by rw [HEr.out]; exact h0E, _, rfl, ?_, hB.out⟩
            rw [HF.out]
            exact owns_base hO.out (by omega)
end Go.Proofs.Ytmiimpmfkjcjlaa
