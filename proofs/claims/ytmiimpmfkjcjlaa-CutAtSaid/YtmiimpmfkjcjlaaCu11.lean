/- How events stood at a tick (package cut): At. Under way. -/
import Derived.Test.YtmiimpmfkjcjlaaCu10
import Derived.Test.YtmiimpmfkjcjlaaCmpI
import Derived.Deep.DeepCutAuto
namespace Go.Proofs.Ytmiimpmfkjcjlaa
open Go.RowKit

/-- How many ticks a call has in a list. -/
def cntT (l : List Tk) (c : Int) : Nat := l.countP fun t => decide ((t.call : Int) = c)
def cntM (l : List Tk) (c : Int) : Option Value := if cntT l c = 0 then none else some (.int .i64 (cntT l c))
theorem cntM_get (l : List Tk) (c : Int) : (cntM l c).getD (.int .i64 0) = .int .i64 (cntT l c) := by
  unfold cntM
  by_cases h : cntT l c = 0
  · rw [if_pos h, h]; rfl
  · rw [if_neg h]; rfl
theorem cntM_succ {l : List Tk} {k : Nat} {t : Tk} (h : l[k]? = some t) : (fun c => if c = (t.call : Int) then some (.int .i64 ((cntT (l.take k) t.call : Nat) + 1 : Int)) else cntM (l.take k) c) = cntM (l.take (k + 1)) := by
  funext c
  have hc : cntT (l.take (k + 1)) c = cntT (l.take k) c + if (t.call : Int) = c then 1 else 0 := by
    unfold cntT
    rw [List.take_add_one, h, List.countP_append]
    by_cases e : (t.call : Int) = c <;> simp [e]
  unfold cntM
  by_cases e : c = (t.call : Int)
  · rw [if_pos e, hc, if_pos e.symm, if_neg (by omega), e]
    simp
  · rw [if_neg e, hc, if_neg (show ¬ (t.call : Int) = c from fun q => e q.symm), Nat.add_zero]
def atE (tick : Int) (n : Nat) (x : Ev) : Ev := if x.resp = 0 ∨ tick < x.resp then { call := x.call, inv := x.inv, resp := 0, steps := n, err := 0, val := 0, lA := none, lN := 0, lC := 0, kA := none, kN := 0, kC := 0 } else { x with steps := n }
def atL (es : List Ev) (tick : Int) (cnt : Int → Nat) : List Ev := (es.filter fun x => decide (x.inv ≤ tick)).map fun x => atE tick (cnt x.call) x
theorem atL_succ {es : List Ev} {tick : Int} {cnt : Int → Nat} {k : Nat} {x : Ev} (h : es[k]? = some x) : atL (es.take (k + 1)) tick cnt = if x.inv ≤ tick then atL (es.take k) tick cnt ++ [atE tick (cnt x.call) x] else atL (es.take k) tick cnt := by
  unfold atL
  rw [List.take_add_one, h, List.filter_append, List.map_append]
  by_cases e : x.inv ≤ tick <;> simp [e]

theorem app_keepE {wr w5 : World} {o1 o2 : Obj} {T : Nat} {v : Value} (hg : ((wr.alloc o1).alloc o2).grownBy w5 v.ownBlock) (hz : T ≤ wr.heap.size) (hv : ∀ k, v.ownBlock = some k → T ≤ k) : Keep (fun j => j < T) wr w5 := by
  refine (((Keep.refl _ wr).alloc (fun k hk => ?_) o1).alloc (fun k hk => ?_) o2).grown hg (fun k hk => ?_) (fun k hk hh => ?_)
  · omega
  · simp; omega
  · simp; omega
  · have := hv k hk; omega
theorem info_event : (Try.prog.info? 44).map (fun i => (i.zero, i.size, i.bytes)) = some (some (.agg #[.int .i64 0, .int .i64 0, .int .i64 0, .int .i64 0, .int .i64 0, .int .u64 0, .slice none 0 0, .slice none 0 0]), 8, 96) := by kernel_rfl
theorem atL_len (es : List Ev) (k : Nat) (tick : Int) (cnt : Int → Nat) : (atL (es.take k) tick cnt).length ≤ k := by
  unfold atL
  rw [List.length_map]
  have h := List.length_filter_le (fun x : Ev => decide (x.inv ≤ tick)) (es.take k)
  rw [List.length_take] at h
  omega

def kMin (tick : Int) (m : Nat) : Nat := (max 0 (min tick (m : Int))).toNat
def tkS (cs : List Cl) (es : List Ev) (picks : List Int) (tick : Int) : List Tk := (tickF cs es picks).2.take tick.toNat
abbrev SlTk := Sl tkEnc 4

def AtPost (n : Int) (cs : List Cl) (es : List Ev) (picks : List Int) (tick : Int) (w : World) (e : Ending) (w' : World) : Prop :=
  (wrongC n cs picks ≠ 0 ∧ e = .returned (.tuple #[.slice none 0 0, .int .i64 (wrongC n cs picks)]) ∧ Below w.heap.size w w') ∨
  (wrongC n cs picks = 0 ∧ ∃ v, e = .returned (.tuple #[v, .int .i64 0]) ∧ w'.ownsRow w.heap.size 44 8 v (atL es tick (cntT (tkS cs es picks tick))).length ((atL es tick (cntT (tkS cs es picks tick))).flatMap evEnc) ∧ Below w.heap.size w w')

theorem flat_at {l : List Tk} {k : Nat} {x : Tk} (h : l[k]? = some x) (j : Nat) (u : Value) (hu : (tkEnc x)[j]? = some u) : (l.flatMap tkEnc)[k * 4 + j]? = some u := by
  induction l generalizing k with
  | nil => simp at h
  | cons y l ih =>
    have hj : j < 4 := by have := (List.getElem?_eq_some_iff.1 hu).1; simpa [tkEnc] using this
    rw [List.flatMap_cons]
    rcases k with _ | k
    · simp at h
      subst h
      rw [List.getElem?_append_left (by simp [tkEnc]; omega)]
      simpa using hu
    · rw [List.getElem?_append_right (by simp [tkEnc]; omega)]
      have e : (k + 1) * 4 + j - (tkEnc y).length = k * 4 + j := by simp [tkEnc]; omega
      rw [e]
      exact ih (by simpa using h)
theorem sl_of_owns_tk {w : World} {base : Nat} {e : TypeId} {v : Value} {l : List Tk} (h : w.ownsRow base e 4 v l.length (l.flatMap tkEnc)) (_hm : l.length ≤ maxLen) : SlTk w v l := by
  rcases h.2 with ⟨rfl, h0⟩ | ⟨g, cap, cur, rfl, _, hg, hnc, hcm, _, htake⟩
  · have : l = [] := List.eq_nil_of_length_eq_zero h0
    subst this
    exact ⟨none, 0, rfl, Nat.le_refl _, Nat.zero_le _, fun k x hx => by simp at hx⟩
  · refine ⟨_, cap, rfl, hnc, hcm, fun k x hx => ⟨g, 0, rfl, (Array.getElem?_eq_some_iff.1 hg).1, fun j u hu => ?_⟩⟩
    have hk := (List.getElem?_eq_some_iff.1 hx).1
    have h1 := flat_at hx j u hu
    rw [← htake, List.getElem?_take] at h1
    split at h1
    · rw [cell_of_row w g _ cur e (0, 0) hg]
      rw [show 0 + k * 4 + j = k * 4 + j by omega]
      simpa using h1
    · cases h1

theorem wrongC_ok {n : Int} {cs : List Cl} {picks : List Int} (h : wrongC n cs picks = 0) : cs.length ≤ 1000 ∧ picks.length ≤ 65536 := by
  unfold wrongC at h
  split at h
  · cases h
  · rename_i h1
    unfold wrongE at h
    split at h
    · cases h
    · rename_i h2
      split at h
      · cases h
      · omega

set_option maxRecDepth 100000 in
set_option maxHeartbeats 4000000 in
theorem cutAt (n tick : Int) (A Ae Ap : Option Addr) (m c me ce mp cp : Nat) (cs : List Cl) (es : List Ev) (picks : List Int) (w : World) (h : SlCl w (.slice A m c) cs) (hm : cs.length = m)
    (he : SlEv w (.slice Ae me ce) es) (hme : es.length = me) (hp : SlI w (.slice Ap mp cp) picks) (hmp : picks.length = mp) (hme1 : me ≤ 100000) :
    Calls Try.prog 11 #[.int .i64 n, .slice A m c, .slice Ae me ce, .slice Ap mp cp, .int .i64 tick] w (AtPost n cs es picks tick w) := by
  have N0 := cutTicks n A Ae Ap m c me ce mp cp cs es picks w h hm he hme hp hmp
  have hE := hide he
  have hme63 : (me : Int) ≤ 100000 := by omega
  have HME := hide hme
  have hwk := hide (fun h : wrongC n cs picks = 0 => (wrongC_ok h).2)
  obtain ⟨E, hEE⟩ : ∃ E, wrongC n cs picks = E := ⟨_, rfl⟩
  unfold TicksPost at N0
  unfold AtPost
  rw [hEE] at N0 hwk ⊢
  have hlen := (tickF_len cs es picks).2
  unfold tkS
  generalize (tickF cs es picks).2 = TK at *
  have HL0 : Hid (E = 0 → TK.length ≤ 65536) := hide (fun h => by have := hwk.out h; omega)
  clear h he hm hme hp hmp hEE hlen hwk
  have hmm := @run_makeMap Try.prog
  go_enter Try.func11, Try.ntmps11
  go_wp2_with fail
  refine N0.mono ?_
  rintro e w1 (⟨hne, rfl, hb⟩ | ⟨h0E, v, rfl, hown, hb⟩)
  · have hz : (E != 0) = true := by simpa using hne
    go_wp2
    go_ret2
    exact Or.inl ⟨hne, rfl, hb⟩
  · have HL : Hid (TK.length ≤ 65536) := hide (HL0.out h0E)
    clear HL0
    subst h0E
    obtain ⟨M, hM⟩ : ∃ M, TK.length = M := ⟨_, rfl⟩
    have hsl := sl_of_owns_tk hown (by have := HL.out; unfold maxLen; omega)
    obtain ⟨vA, vc, rfl⟩ := own_slice hown
    have hm63 : (TK.length : Int) ≤ 65536 := by have := HL.out; omega
    have HS := hide hsl
    have HB := hide hb
    have hvc : TK.length ≤ vc := by obtain ⟨_, _, e, h1, _⟩ := hsl; cases e; exact h1
    obtain ⟨K, hK⟩ : ∃ K : Nat, max 0 (min tick (TK.length : Int)) = (K : Int) := ⟨(max 0 (min tick (TK.length : Int))).toNat, by omega⟩
    have hK1 : K ≤ TK.length := by omega
    have hK2 : TK.take tick.toNat = TK.take K := by
      by_cases ht : tick ≤ (TK.length : Int)
      · congr 1; omega
      · rw [List.take_of_length_le (by omega), List.take_of_length_le (by omega)]
    have hk0 : (0 : Int) ≤ (K : Int) := by omega
    have hk1 : (K : Int) ≤ (vc : Int) := by omega
    have HK2 := hide hK2
    clear hown hsl hb hK2
    rw [hM] at *
    clear hM
    go_upto_region 4 with fail
    go_cut [14] (fun v wx => v = .int .i64 K ∧ w1 = wx)
    case first =>
      go_wp2
      all_goals
        go_meet
        exact ⟨congrArg (Value.int .i64) (by first | omega | (simp; omega) | (split <;> omega) | (simp [*]; omega)), rfl⟩
    case rest =>
      obtain ⟨rfl, rfl⟩ := hcut
      clear N0
      have hzi : ∀ W, (zeroValue 3).run Try.prog W = .ok (.int .i64 0) W := fun _ => by kernel_rfl
      have HZ := hide hzi
      clear hzi
      go_wp2
      go_loopw [44] (fun i wr => ∃ k : Nat, k ≤ K ∧ i = .int .i64 k ∧ Hid (IMap wr w1.heap.size .i64 (cntM (TK.take k))) ∧ Hid (Below w1.heap.size w1 wr) ∧ w1.heap.size + 1 ≤ wr.heap.size) (fun i _ => K - (intOf i).toNat)
      case atStart => exact ⟨0, Nat.zero_le _, rfl, hide (IMap.new w1 .i64), hide ((Below.refl _ w1).alloc (Nat.le_refl _) _), by simp⟩
      case round =>
        obtain ⟨k, hk, rfl, hI, hB1, hsz⟩ := hrel
        by_cases hlt : k < K
        · obtain ⟨x, hxk⟩ : ∃ x, TK[k]? = some x := ⟨_, List.getElem?_eq_getElem (by obtain ⟨_, _, e, _⟩ := HS.out; cases e; omega)⟩
          obtain ⟨A', c', e, _, _, h3⟩ := HS.out.below hB1.out (Nat.le_refl _)
          obtain ⟨bb, oo, e', hbb, hc⟩ := h3 k x hxk
          cases e
          cases e'
          have t0 : wr.cell? ⟨bb, oo + k * 4, none⟩ = some (.int .i64 x.thread) := hc 0 _ rfl
          have t1 : wr.cell? ⟨bb, oo + k * 4 + 1, none⟩ = some (.int .i64 x.call) := hc 1 _ rfl
          have t2 : wr.cell? ⟨bb, oo + k * 4 + 2, none⟩ = some (.bool x.first) := hc 2 _ rfl
          have t3 : wr.cell? ⟨bb, oo + k * 4 + 3, none⟩ = some (.bool x.last) := hc 3 _ rfl
          have hlk := run_lookup_imap (P := Try.prog) Try.underlying65 Try.underlying3 (HZ.out (wr.alloc (.cells #[.int .i64 x.thread, .int .i64 x.call, .bool x.first, .bool x.last] 46))) (hI.out.alloc _) x.call false
          have hcn : ((cntT (TK.take k) x.call : Nat) : Int) ≤ 65536 := by
            have h1 : cntT (TK.take k) x.call ≤ (TK.take k).length := List.countP_le_length
            have h2 := HL.out
            simp only [List.length_take] at h1
            omega
          rw [cntM_get] at hlk
          simp only [Bool.false_eq_true, if_false] at hlk
          obtain ⟨w6, hup, hI6, hg6, hs6⟩ := run_update_imap (P := Try.prog) Try.underlying65 Try.underlying3 (hI.out.alloc (.cells #[.int .i64 x.thread, .int .i64 x.call, .bool x.first, .bool x.last] 46)) x.call (.int .i64 ((cntT (TK.take k) x.call : Nat) + 1 : Int))
          rw [cntM_succ hxk] at hI6
          have HI6 := hide hI6
          have HB6 := hide (((hB1.out.alloc (by omega) _).grown hg6 (by simp; omega) (fun j hj => by cases hj; exact Nat.le_refl _)))
          have hz6 : w1.heap.size + 1 ≤ w6.heap.size := by rw [hs6]; simp; omega
          clear hI6 hg6 hs6 h3 hc hxk
          go_wp2
          go_roundw
          case rel => exact ⟨k + 1, by omega, by go_num, HI6, HB6, hz6⟩
          case measure => first | (simp [intOf]; done) | (simp [intOf]; omega)
        · obtain rfl : k = K := by omega
          rw [← HK2.out] at hI
          obtain ⟨TT, hTT⟩ : ∃ TT, TK.take tick.toNat = TT := ⟨_, rfl⟩
          rw [hTT] at hI
          have HTT := hide hTT
          clear hTT
          have HBB : Hid (Below w.heap.size w wr) := hide (HB.out.trans (hB1.out.mono HB.out.size))
          have hz1 := HB.out.size
          clear hlt hk hk0 hk1 hK hK1 hvc
          go_wp2
          obtain ⟨wo, rfl⟩ : ∃ wo : World, wo = wr := ⟨_, rfl⟩
          obtain ⟨i0, hi, hi0, hi1, hi2⟩ := info_parts info_event
          have hme2 : me ≤ 100000 := hme1
          go_loopw [18, 56] (fun vo i wr => ∃ k : Nat, k ≤ me ∧ i = .int .i64 k ∧ Hid (IMap wr w1.heap.size .i64 (cntM TT)) ∧ Hid (wr.ownsRow wo.heap.size 44 8 vo (atL (es.take k) tick (cntT TT)).length ((atL (es.take k) tick (cntT TT)).flatMap evEnc)) ∧
            Hid (Below w.heap.size w wr) ∧ wo.heap.size ≤ wr.heap.size) (fun _ i _ => me - (intOf i).toNat)
          case atStart => exact ⟨0, Nat.zero_le _, rfl, hI, hide (World.ownsRow_nil _ _ _ _), HBB, Nat.le_refl _⟩
          case round =>
            obtain ⟨k, hk, rfl, hI2, hO, hB2, hsz2⟩ := hrel
            by_cases hlt : k < me
            · obtain ⟨x, hxk⟩ : ∃ x, es[k]? = some x := ⟨_, List.getElem?_eq_getElem (by have := HME.out; omega)⟩
              obtain ⟨A', c', e, _, _, h3⟩ := hE.out.below hB2.out (Nat.le_refl _)
              obtain ⟨bb, oo, e', hbb, hc⟩ := h3 k x hxk
              rw [HME.out] at e
              cases e
              cases e'
              obtain ⟨c0, c1, c2, c3, c4, c5, c6, c7⟩ := ev_cells hc
              have hsucc := atL_succ (tick := tick) (cnt := cntT TT) hxk
              have hlk := run_lookup_imap (P := Try.prog) Try.underlying65 Try.underlying3 (HZ.out (wr.alloc (.cells #[.int .i64 x.call, .int .i64 x.inv, .int .i64 x.resp, .int .i64 x.steps, .int .i64 x.err, .int .u64 x.val, .slice x.lA x.lN x.lC, .slice x.kA x.kN x.kC] 44))) (hI2.out.alloc _) x.call false
              rw [cntM_get] at hlk
              simp only [Bool.false_eq_true, if_false] at hlk
              have hLk : (atL (es.take k) tick (cntT TT)).length ≤ k := atL_len _ _ _ _
              obtain ⟨oA, oc, rfl⟩ := own_slice hO.out
              clear h3 hc
              by_cases hq : tick < x.inv
              · have dq : decide (tick < x.inv) = true := by simpa using hq
                rw [if_neg (by omega)] at hsucc
                have HSu := hide hsucc
                clear hq hsucc
                go_wp2
                go_roundw
                case rel => exact ⟨k + 1, by omega, by go_num, hide (hI2.out.alloc _), hide (by rw [HSu.out]; exact World.ownsRow.alloc hO.out _), hide (hB2.out.alloc (by omega) _), by simp; omega⟩
                case measure => first | (simp [intOf]; done) | (simp [intOf]; omega)
              · have dq : decide (tick < x.inv) = false := by simpa using hq
                rw [if_pos (by omega)] at hsucc
                have HSu := hide hsucc
                have hHI : Hid (IMap wr w1.heap.size .i64 (cntM TT)) := hI2
                by_cases hr0 : x.resp = 0 ∨ tick < x.resp
                · have HAE : Hid (atE tick (cntT TT x.call) x = { call := x.call, inv := x.inv, resp := 0, steps := (cntT TT x.call : Nat), err := 0, val := 0, lA := none, lN := 0, lC := 0, kA := none, kN := 0, kC := 0 }) := hide (by unfold atE; rw [if_pos hr0])
                  rcases (by omega : x.resp = 0 ∨ (x.resp ≠ 0 ∧ tick < x.resp)) with hr | ⟨hr, hr'⟩
                  · have d0 : (x.resp == 0) = true := by simpa using hr
                    clear hq hsucc hr0 hr
                    go_wp2_with (at_builtin; refine wpList_append_own_at _ rfl _ _ 27 rfl wo.heap.size 44 i0 (.agg #[.int .i64 0, .int .i64 0, .int .i64 0, .int .i64 0, .int .i64 0, .int .u64 0, .slice none 0 0, .slice none 0 0]) 8 96 Try.underlying27 hi hi0 hi1 hi2 rfl (by decide) _ _ _ rfl ((World.ownsRow.alloc hO.out _).alloc _) ⟨wr.heap.size + 1, 0, none⟩ 1 1 [.int .i64 x.call, .int .i64 x.inv, .int .i64 0, .int .i64 (cntT TT x.call : Nat), .int .i64 0, .int .u64 0, .slice none 0 0, .slice none 0 0] rfl rfl (by intro j u hu; rcases j with _ | _ | _ | _ | _ | _ | _ | _ | j; (cases hu; go_simp); (cases hu; go_simp); (cases hu; go_simp); (cases hu; go_simp); (cases hu; go_simp); (cases hu; go_simp); (cases hu; go_simp); (cases hu; go_simp); cases hu) (by simp [Value.oneCell']) (by unfold maxLen; omega) (by omega) (by simp; omega) ?_; intro v5 w5 hown5 hgrow _ _)
                    have hK5 : Keep (fun j => j < wo.heap.size) wr w5 := app_keepE hgrow hsz2 (fun k hk => (hO.out.lt k hk).1)
                    have hz5 := hK5.size
                    have HO5 : Hid (w5.ownsRow wo.heap.size 44 8 v5 (atL (es.take (k + 1)) tick (cntT TT)).length ((atL (es.take (k + 1)) tick (cntT TT)).flatMap evEnc)) := hide (by rw [HSu.out, HAE.out]; simpa [evEnc] using hown5)
                    go_roundw
                    case rel => exact ⟨k + 1, by omega, by go_num, hide (hI2.out.of_block (hK5.block _ (by omega))), HO5, hide (hB2.out.trans (hK5.below (fun k hk => by omega))), by omega⟩
                    case measure => first | (simp [intOf]; done) | (simp [intOf]; omega)

                  · have d0 : (x.resp == 0) = false := by simpa using hr
                    have d1 : decide (tick < x.resp) = true := by simpa using hr'
                    clear hq hsucc hr0 hr hr'
                    go_wp2_with (at_builtin; refine wpList_append_own_at _ rfl _ _ 27 rfl wo.heap.size 44 i0 (.agg #[.int .i64 0, .int .i64 0, .int .i64 0, .int .i64 0, .int .i64 0, .int .u64 0, .slice none 0 0, .slice none 0 0]) 8 96 Try.underlying27 hi hi0 hi1 hi2 rfl (by decide) _ _ _ rfl ((World.ownsRow.alloc hO.out _).alloc _) ⟨wr.heap.size + 1, 0, none⟩ 1 1 [.int .i64 x.call, .int .i64 x.inv, .int .i64 0, .int .i64 (cntT TT x.call : Nat), .int .i64 0, .int .u64 0, .slice none 0 0, .slice none 0 0] rfl rfl (by intro j u hu; rcases j with _ | _ | _ | _ | _ | _ | _ | _ | j; (cases hu; go_simp); (cases hu; go_simp); (cases hu; go_simp); (cases hu; go_simp); (cases hu; go_simp); (cases hu; go_simp); (cases hu; go_simp); (cases hu; go_simp); cases hu) (by simp [Value.oneCell']) (by unfold maxLen; omega) (by omega) (by simp; omega) ?_; intro v5 w5 hown5 hgrow _ _)
                    have hK5 : Keep (fun j => j < wo.heap.size) wr w5 := app_keepE hgrow hsz2 (fun k hk => (hO.out.lt k hk).1)
                    have hz5 := hK5.size
                    have HO5 : Hid (w5.ownsRow wo.heap.size 44 8 v5 (atL (es.take (k + 1)) tick (cntT TT)).length ((atL (es.take (k + 1)) tick (cntT TT)).flatMap evEnc)) := hide (by rw [HSu.out, HAE.out]; simpa [evEnc] using hown5)
                    go_roundw
                    case rel => exact ⟨k + 1, by omega, by go_num, hide (hI2.out.of_block (hK5.block _ (by omega))), HO5, hide (hB2.out.trans (hK5.below (fun k hk => by omega))), by omega⟩
                    case measure => first | (simp [intOf]; done) | (simp [intOf]; omega)

                · have HAE : Hid (atE tick (cntT TT x.call) x = { x with steps := (cntT TT x.call : Nat) }) := hide (by unfold atE; rw [if_neg hr0])
                  have d0 : (x.resp == 0) = false := by simp; omega
                  have d1 : decide (tick < x.resp) = false := by simp; omega
                  clear hq hsucc hr0
                  go_wp2_with (at_builtin; refine wpList_append_own_at _ rfl _ _ 27 rfl wo.heap.size 44 i0 (.agg #[.int .i64 0, .int .i64 0, .int .i64 0, .int .i64 0, .int .i64 0, .int .u64 0, .slice none 0 0, .slice none 0 0]) 8 96 Try.underlying27 hi hi0 hi1 hi2 rfl (by decide) _ _ _ rfl ((World.ownsRow.alloc hO.out _).alloc _) ⟨wr.heap.size + 1, 0, none⟩ 1 1 [.int .i64 x.call, .int .i64 x.inv, .int .i64 x.resp, .int .i64 (cntT TT x.call : Nat), .int .i64 x.err, .int .u64 x.val, .slice x.lA x.lN x.lC, .slice x.kA x.kN x.kC] rfl rfl (by intro j u hu; rcases j with _ | _ | _ | _ | _ | _ | _ | _ | j; (cases hu; go_simp); (cases hu; go_simp); (cases hu; go_simp); (cases hu; go_simp); (cases hu; go_simp); (cases hu; go_simp); (cases hu; go_simp); (cases hu; go_simp); cases hu) (by simp [Value.oneCell']) (by unfold maxLen; omega) (by omega) (by simp; omega) ?_; intro v5 w5 hown5 hgrow _ _)
                  have hK5 : Keep (fun j => j < wo.heap.size) wr w5 := app_keepE hgrow hsz2 (fun k hk => (hO.out.lt k hk).1)
                  have hz5 := hK5.size
                  have HO5 : Hid (w5.ownsRow wo.heap.size 44 8 v5 (atL (es.take (k + 1)) tick (cntT TT)).length ((atL (es.take (k + 1)) tick (cntT TT)).flatMap evEnc)) := hide (by rw [HSu.out, HAE.out]; simpa [evEnc] using hown5)
                  go_roundw
                  case rel => exact ⟨k + 1, by omega, by go_num, hide (hI2.out.of_block (hK5.block _ (by omega))), HO5, hide (hB2.out.trans (hK5.below (fun k hk => by omega))), by omega⟩
                  case measure => first | (simp [intOf]; done) | (simp [intOf]; omega)

            · obtain rfl : k = me := by omega
              have hfull : atL es tick (cntT TT) = atL (es.take k) tick (cntT TT) := by rw [List.take_of_length_le (by have := HME.out; omega)]
              have HF := hide hfull
              clear hfull
              go_wp2
              go_ret2
              refine ⟨_, rfl, ?_, hB2.out⟩
              rw [HTT.out, HF.out]
              exact owns_base hO.out (by omega)
end Go.Proofs.Ytmiimpmfkjcjlaa
