/- The reference of package solo (roundelayref29): Wrong. -/
/- The reference of package solo (roundelayref29): how many values a thread put. -/
/- The reference of package solo (roundelayref29): what Do has laid so far, and how it turns. -/
import Derived.Test.YtmiimpmfkjcjlaaGreatBun24
namespace Go.Proofs.YtmiimpmfkjcjlaaGreat
open Go.RowKit
attribute [local go_sem] run_store_fn run_store_nilfn

set_option maxRecDepth 100000 in
set_option maxHeartbeats 2000000 in
theorem rwrong29_any (n : Int) (As Ac : Option Addr) (ms cs mc cc : Nat) (specs : List Sp) (calls : List Cl) (w : World) (hs : SlSp w (.slice As ms cs) specs) (hms : specs.length = ms) (hc : SlCl w (.slice Ac mc cc) calls) (hmc : calls.length = mc) :
    Calls Tryz.prog 20 #[.int .i64 n, .slice As ms cs, .slice Ac mc cc] w fun e w' => e = .returned (.int .i64 (soloE n specs calls)) ∧ Below w.heap.size w w' := by
  have hmx : mc ≤ maxLen := by obtain ⟨_, _, e, h1, h2, _⟩ := hc; cases e; omega
  have hm63 : (mc : Int) ≤ 9223372036854775807 := by unfold maxLen at hmx; omega
  have HC := hide hc
  have HM := hide hmc
  have NL := fun W (h : SlSp W (.slice As ms cs) specs) => refLay_any n As ms cs specs W h hms
  have HS := hide hs
  have HN := hide NL
  obtain ⟨E, hE⟩ : ∃ E, soloE n specs calls = E := ⟨_, rfl⟩
  rw [hE]
  have HE := hide hE
  clear hc hs hE NL hmc hmx
  by_cases h0 : n < 1
  · have d0 : decide (n < 1) = true := by simpa using h0
    have hr : Hid (1 = E) := hide (by rw [← HE.out]; unfold soloE; rw [if_pos (by omega)])
    clear h0
    go_enter Tryz.func20, Tryz.ntmps20
    go_wp2
    go_ret
    exact ⟨ret_int hr.out, Below.refl _ _⟩
  · have d0 : decide (n < 1) = false := by simpa using h0
    by_cases h1 : 16 < n
    · have d1 : decide (16 < n) = true := by simpa using h1
      have hr : Hid (1 = E) := hide (by rw [← HE.out]; unfold soloE; rw [if_pos (by omega)])
      clear h0 h1
      go_enter Tryz.func20, Tryz.ntmps20
      go_wp2
      go_ret
      exact ⟨ret_int hr.out, Below.refl _ _⟩
    · have d1 : decide (16 < n) = false := by simpa using h1
      by_cases h2 : 1000 < mc
      · have d2 : decide ((1000 : Int) < (mc : Int)) = true := by simp; omega
        have hr : Hid (3 = E) := hide (by rw [← HE.out]; unfold soloE; rw [if_neg (by omega), if_pos (by rw [HM.out]; exact h2)])
        clear h0 h1 h2
        go_enter Tryz.func20, Tryz.ntmps20
        go_wp2
        go_ret
        exact ⟨ret_int hr.out, Below.refl _ _⟩
      · have d2 : decide ((1000 : Int) < (mc : Int)) = false := by simp; omega
        have hne : E = if calls.all (thOk n) = false then 1 else layE n specs := by rw [← HE.out]; unfold soloE; rw [if_neg (by omega), if_neg (by rw [HM.out]; exact h2)]
        have HNE := hide hne
        clear h0 h1 h2 hne
        go_enter Tryz.func20, Tryz.ntmps20
        go_wp2
        go_loopw [19] (fun i wr => ∃ k : Nat, k ≤ mc ∧ i = .int .i64 k ∧ Hid (∀ (j : Nat) (c : Cl), j < k → calls[j]? = some c → 0 ≤ c.thread ∧ c.thread < n) ∧ Hid (Below w.heap.size w wr)) (fun i _ => mc - (intOf i).toNat)
        case atStart => exact ⟨0, Nat.zero_le _, rfl, hide (fun j c hj => by omega), hide (Below.refl _ _)⟩
        case round =>
          obtain ⟨k, hk, rfl, hok, hB⟩ := hrel
          by_cases hlt : k < mc
          · have hcl := HC.out.below hB.out (Nat.le_refl _)
            obtain ⟨c, hc⟩ : ∃ c, calls[k]? = some c := ⟨_, List.getElem?_eq_getElem (by have := HM.out; omega)⟩
            obtain ⟨A', c', e', _, _, h3⟩ := hcl
            obtain ⟨b, o, hA, hb, hcc⟩ := h3 k c hc
            cases e'
            subst hA
            obtain ⟨x0, x1, x2, x3, x4, x5⟩ := cl_cells hcc
            have q0 : (0 : Int) ≤ (k : Int) := by omega
            have q1 : (k : Int) < (calls.length : Int) := by have := HM.out; omega
            have hzr := hB.out.size
            clear h3 hcc
            by_cases t0 : c.thread < 0
            · have g0 : decide (c.thread < 0) = true := by simpa using t0
              have hr : Hid (1 = E) := hide (by rw [HNE.out, if_pos (thOk_no hc (by omega))])
              clear hc t0
              go_wp2
              go_ret
              refine ⟨ret_int hr.out, ?_⟩
              have hq := hB.out
              (repeat' (first | with_reducible assumption | with_reducible exact Below.refl _ _ | with_reducible refine Below.drew ?_ | with_reducible refine below_drewN ?_ _ | with_reducible refine Below.alloc ?_ ?_ _ | with_reducible refine Below.setCell ?_ ?_ _ | omega | (simp; done) | (simp; omega)))
            · have g0 : decide (c.thread < 0) = false := by simpa using t0
              by_cases t1 : n ≤ c.thread
              · have g1 : decide (n ≤ c.thread) = true := by simpa using t1
                have hr : Hid (1 = E) := hide (by rw [HNE.out, if_pos (thOk_no hc (by omega))])
                clear hc t0 t1
                go_wp2
                go_ret
                refine ⟨ret_int hr.out, ?_⟩
                have hq := hB.out
                (repeat' (first | with_reducible assumption | with_reducible exact Below.refl _ _ | with_reducible refine Below.drew ?_ | with_reducible refine below_drewN ?_ _ | with_reducible refine Below.alloc ?_ ?_ _ | with_reducible refine Below.setCell ?_ ?_ _ | omega | (simp; done) | (simp; omega)))
              · have g1 : decide (n ≤ c.thread) = false := by simpa using t1
                have HOK : Hid (∀ (j : Nat) (c : Cl), j < k + 1 → calls[j]? = some c → 0 ≤ c.thread ∧ c.thread < n) := hide (by
                  intro j c2 hj hc2
                  by_cases hjk : j = k
                  · subst hjk
                    rw [hc] at hc2
                    cases hc2
                    omega
                  · exact hok.out j c2 (by omega) hc2)
                clear hc t0 t1
                go_wp2
                go_roundw
                case rel =>
                  refine ⟨k + 1, by omega, by go_num, HOK, hide ?_⟩
                  have hq := hB.out
                  (repeat' (first | with_reducible assumption | with_reducible exact Below.refl _ _ | with_reducible refine Below.drew ?_ | with_reducible refine below_drewN ?_ _ | with_reducible refine Below.alloc ?_ ?_ _ | with_reducible refine Below.setCell ?_ ?_ _ | omega | (simp; done) | (simp; omega)))
                case measure => first | (simp [intOf]; done) | (simp [intOf]; omega)
          · have hr : layE n specs = E := by
              rw [HNE.out, if_neg]
              rw [thOk_all (fun j c hj hcj => hok.out j c (by have := HM.out; omega) hcj)]
              simp
            have HRR := hide hr
            clear hr
            have hlay := HN.out wr (HS.out.below hB.out (Nat.le_refl _))
            go_wp2_with fail
            refine hlay.mono ?_
            rintro e w2 ⟨rfl, hb2⟩
            go_wp2
            go_ret
            refine ⟨ret_int HRR.out, hB.out.trans (hb2.mono (by have := hB.out.size; omega))⟩
end Go.Proofs.YtmiimpmfkjcjlaaGreat

namespace Go.Proofs.YtmiimpmfkjcjlaaGreat
open Go.RowKit

set_option maxRecDepth 100000 in
set_option maxHeartbeats 1000000 in
theorem rown_any (t : Int) (A : Option Addr) (m vc : Nat) (st : List Int) (w : World) (h : SlW w (.slice A m vc) st) (hm : st.length = m) (hl : m ≤ 10000) (he : m % 2 = 0) (ht0 : 0 ≤ t) (ht1 : t < 100) :
    Calls Tryz.prog 48 #[.slice A m vc, .int .i64 t] w fun e w' => e = .returned (.int .i64 (ownN st t)) ∧ w' = w := by
  have hm63 : (m : Int) ≤ 10000 := by omega
  have hwt : IntKind.u64.wrap t = t := by rw [IntKind.wrap_u64]; omega
  have HS := hide h
  have HM := hide hm
  obtain ⟨E, hE⟩ : ∃ E, ownN st t = E := ⟨_, rfl⟩
  rw [hE]
  have HE := hide hE
  clear h hm hE
  go_enter Tryz.func48, Tryz.ntmps48
  go_wp2
  go_loopw [5, 6] (fun c i wr => ∃ k : Nat, 2 * k ≤ m ∧ i = .int .i64 (2 * (k : Int)) ∧ c = .int .i64 (ownM st t k : Nat) ∧ wr = w) (fun _ i _ => m - (intOf i).toNat)
  case atStart => exact ⟨0, Nat.zero_le _, rfl, rfl, rfl⟩
  case round =>
    obtain ⟨k, hk, rfl, rfl, rfl⟩ := hrel
    by_cases hlt : 2 * k < m
    · obtain ⟨x, hx⟩ : ∃ x, st[2 * k]? = some x := ⟨_, List.getElem?_eq_getElem (by have := HM.out; omega)⟩
      obtain ⟨sb, so, rfl, cx, hsb⟩ := sl_at HS.out (2 * k) x hx
      have hs := own_succ (t := t) hx
      have hle := own_le st t k
      have q0 : (0 : Int) ≤ 2 * (k : Int) := by omega
      have q1 : 2 * (k : Int) < (m : Int) := by omega
      have q2 : (2 * (k : Int)).toNat = 2 * k := by omega
      have q4 : 2 * (k : Int) + 1 < (m : Int) := by omega
      have q3 : ((ownM st t k : Nat) : Int) ≤ 10000 := by omega
      by_cases hxt : x = t
      · have d0 : (x == t) = true := by simpa using hxt
        rw [if_pos hxt] at hs
        have HSu := hide hs
        clear hx hs hxt
        go_wp2
        go_roundw
        case rel => exact ⟨k + 1, by omega, by first | (congr 1; done) | (congr 1; omega) | (congr 1; push_cast; omega), by rw [HSu.out]; first | (congr 1; done) | (congr 1; omega) | (congr 1; push_cast; omega), trivial⟩
        case measure => first | (simp [intOf]; done) | (simp [intOf]; omega)
      · have d0 : (x == t) = false := by simpa using hxt
        rw [if_neg hxt] at hs
        have HSu := hide hs
        clear hx hs hxt
        go_wp2
        go_roundw
        case rel => exact ⟨k + 1, by omega, by first | (congr 1; done) | (congr 1; omega) | (congr 1; push_cast; omega), by rw [HSu.out]; first | rfl | (congr 1; done) | (congr 1; omega), trivial⟩
        case measure => first | (simp [intOf]; done) | (simp [intOf]; omega)
    · have hk2 : k = m / 2 := by omega
      have hE2 : E = ownM st t k := by rw [← HE.out]; unfold ownN; rw [HM.out, hk2]
      subst hE2
      have q1 : ¬ 2 * (k : Int) + 1 < (m : Int) := by omega
      go_wp2
      go_ret
      exact ⟨rfl, rfl⟩
end Go.Proofs.YtmiimpmfkjcjlaaGreat

namespace Go.Proofs.YtmiimpmfkjcjlaaGreat
open Go.RowKit
attribute [local go_sem] run_store_fn run_store_nilfn

theorem wpList_ob_pushD {α : Type} {en : Ob α → List Value} {lst : α → List Int} {T t : TypeId} {sz : Nat} {W0 : World} {ops : Array Oper} {rest : List Oper} {o : Oper} {a : Act} {Q : Exit → Act → World → Prop} (hgd : o.guard = none) (s x : Operand)
    (ho : o.op = .call { callee := .builtin .append, args := #[s, x], argTypes := #[t, t] }) {z : Value} {bytes : Nat} (hinfo : (Tryz.prog.info? T).map (fun i => (i.zero, i.size, i.bytes)) = some (some z, sz, bytes)) (ht : Tryz.prog.underlying t = some (.slice T)) (hzs : z.cells.size = sz) (hsz : 0 < sz) (hby : bytes ≤ 1000)
    (hT : T ≠ 25) {B b : Nat} {v : Value} {ps : List (Ob α)} (h : ObRow en lst T sz W0 B v ps) (hs : a.eval s = v) (hx : a.eval x = .slice (some ⟨b, 0, none⟩) 1 1) (hb : b = W0.heap.size) (p : Ob α) {cs : Array Value} (hcs : cs = (en p).toArray) (hen : (en p).length = sz)
    (h1 : ∀ u ∈ en p, u.oneCell' = true) (hsl : SlW W0 (obV lst p) (lst p.1)) (htw : Tw W0 (obV lst p)) (hm : ps.length < 1000000) (hB : B ≤ W0.heap.size)
    (hK : ∀ v' w', ObRow en lst T sz w' B v' (ps ++ [p]) → Keep (fun j => j < W0.heap.size ∧ some j ≠ v.ownBlock) W0 w' → wpList Tryz.prog ops Q rest (a.put o.dst v') w') :
    wpList Tryz.prog ops Q (o :: rest) a (W0.alloc (.cells cs T)).drew :=
  wpList_ob_push (W0 := W0.drew) hgd s x ho hinfo ht hzs hsz hby hT (h : ObRow en lst T sz W0.drew B v ps) hs hx hb p hcs hen h1 hsl htw hm hB (fun v' w' g1 g2 => hK v' w' g1 ⟨g2.os, g2.tape, g2.output, g2.size, g2.block⟩)

structure RDo (w : World) (g : Nat) (va vs : Value) (an : List AnP) (ps : List StP) (lv : Value) (ll : List Int) : Prop where
  res : w.heap[g]? = some (.cells #[.slice none 0 0, .slice none 0 0] 53 (0, 0))
  out : w.heap[g + 1]? = some (.cells #[va, vs] 53 (0, 0))
  st : StRow w g vs ps
  an : AnRow w g va an
  last : IOwn w g lv ll.length ll

theorem owns_keepT {S : Nat → Prop} {w w' : World} {base : Nat} {e : TypeId} {sz : Nat} {v : Value} {n : Nat} {xs : List Value} (h : w.ownsRow base e sz v n xs) (hk : Keep S w w') (hS : ∀ j cs fr, w.heap[j]? = some (.cells cs e fr) → S j) : w'.ownsRow base e sz v n xs := by
  obtain ⟨h1, h2 | ⟨g, cap, cur, e1, e2, e3, e4⟩⟩ := h
  · exact ⟨h1, Or.inl h2⟩
  · exact ⟨h1, Or.inr ⟨g, cap, cur, e1, e2, (hk.block g (hS _ _ _ e3)).trans e3, e4⟩⟩
section
variable {w w' : World} {g : Nat} {va vs lv : Value} {an : List AnP} {ps : List StP} {ll : List Int}
theorem RDo.below (h : RDo w g va vs an ps lv ll) (hb : Below w.heap.size w w') : RDo w' g va vs an ps lv ll :=
  ⟨(hb.block _ (Array.getElem?_eq_some_iff.1 h.res).1).trans h.res, (hb.block _ (Array.getElem?_eq_some_iff.1 h.out).1).trans h.out, ob_below h.st hb, ob_below h.an hb,
    owns_keepB h.last (Keep.of_below (K := fun j => j < w.heap.size) hb (fun _ hk => hk)) (fun _ _ hj => hj)⟩
theorem RDo.lt (h : RDo w g va vs an ps lv ll) : g + 1 < w.heap.size := (Array.getElem?_eq_some_iff.1 h.out).1
/-- A state more. -/
theorem RDo.pushS {v5 : Value} {w5 : World} {ps' : List StP} (h : RDo w g va vs an ps lv ll) (h5 : StRow w5 g v5 ps') (hk : Keep (fun j => j < w.heap.size ∧ some j ≠ vs.ownBlock) w w5) :
    RDo (w5.setCell ⟨g + 1, 1, none⟩ v5) g va v5 an ps' lv ll := by
  have ho : w5.heap[g + 1]? = _ := (hk.block _ ⟨h.lt, own_ne h.st.1 h.out (by decide)⟩).trans h.out
  have hr : w5.heap[g]? = _ := (hk.block _ ⟨(Array.getElem?_eq_some_iff.1 h.res).1, own_ne h.st.1 h.res (by decide)⟩).trans h.res
  refine ⟨(Below.heap_setCell _ _ _ _ (by simp)).trans hr, ?_, ob_setOther h5 ho (by decide) (by decide), ob_setOther (ob_keep h.an hk (fun j cs t fr hj ht => ⟨(Array.getElem?_eq_some_iff.1 hj).1, own_ne h.st.1 hj (by rcases ht with ht | ⟨ht, _⟩ <;> rw [ht] <;> decide)⟩)) ho (by decide) (by decide), own_setT (owns_keepT h.last hk (fun j cs fr hj => ⟨(Array.getElem?_eq_some_iff.1 hj).1, own_ne h.st.1 hj (by decide)⟩)) ho (by decide)⟩
  rw [cells_set ho]
  rfl
/-- An answer more. -/
theorem RDo.pushA {v5 : Value} {w5 : World} {an' : List AnP} (h : RDo w g va vs an ps lv ll) (h5 : AnRow w5 g v5 an') (hk : Keep (fun j => j < w.heap.size ∧ some j ≠ va.ownBlock) w w5) :
    RDo (w5.setCell ⟨g + 1, 0, none⟩ v5) g v5 vs an' ps lv ll := by
  have ho : w5.heap[g + 1]? = _ := (hk.block _ ⟨h.lt, own_ne h.an.1 h.out (by decide)⟩).trans h.out
  have hr : w5.heap[g]? = _ := (hk.block _ ⟨(Array.getElem?_eq_some_iff.1 h.res).1, own_ne h.an.1 h.res (by decide)⟩).trans h.res
  refine ⟨(Below.heap_setCell _ _ _ _ (by simp)).trans hr, ?_, ob_setOther (ob_keep h.st hk (fun j cs t fr hj ht => ⟨(Array.getElem?_eq_some_iff.1 hj).1, own_ne h.an.1 hj (by rcases ht with ht | ⟨ht, _⟩ <;> rw [ht] <;> decide)⟩)) ho (by decide) (by decide), ob_setOther h5 ho (by decide) (by decide), own_setT (owns_keepT h.last hk (fun j cs fr hj => ⟨(Array.getElem?_eq_some_iff.1 hj).1, own_ne h.an.1 hj (by decide)⟩)) ho (by decide)⟩
  rw [cells_set ho]
  rfl
/-- A state laid. -/
theorem RDo.setS {gr rcap k : Nat} {p : StP} (h : RDo w g va (.slice (some ⟨gr, 0, none⟩) ps.length rcap) an ps lv ll) (h1 : SlW w (.slice p.2.1 p.1.length p.2.2) p.1) (h2 : Tw w (.slice p.2.1 p.1.length p.2.2)) :
    RDo (w.setCell ⟨gr, k, none⟩ (.slice p.2.1 p.1.length p.2.2)) g va (.slice (some ⟨gr, 0, none⟩) ps.length rcap) an (ps.set k p) lv ll := by
  obtain ⟨cur, hg⟩ : ∃ cur, w.heap[gr]? = some (.cells cur 24 (0, 0)) := by
    rcases h.st.1.2 with ⟨e, _⟩ | ⟨g', cap', cur, e, _, hg, _⟩
    · cases e
    · cases e; exact ⟨_, hg⟩
  have n1 : gr ≠ g := by intro e; have := h.res; rw [← e, hg] at this; cases this
  have n2 : gr ≠ g + 1 := by intro e; have := h.out; rw [← e, hg] at this; cases this
  exact ⟨(Below.heap_setCell _ _ _ _ (fun e => n1 e.symm)).trans h.res, (Below.heap_setCell _ _ _ _ (fun e => n2 e.symm)).trans h.out, st_set h.st h1 h2 rfl, ob_setOther h.an hg (by decide) (by decide), own_setT h.last hg (by decide)⟩
/-- A number laid. -/
theorem RDo.setL {gl lc k m : Nat} {t : Int} (hn : m = ll.length) (h : RDo w g va vs an ps (.slice (some ⟨gl, 0, none⟩) m lc) ll) : RDo (w.setCell ⟨gl, k, none⟩ (.int .i64 t)) g va vs an ps (.slice (some ⟨gl, 0, none⟩) m lc) (ll.set k t) := by
  subst hn
  obtain ⟨cur, hg⟩ : ∃ cur, w.heap[gl]? = some (.cells cur 3 (0, 0)) := by
    rcases h.last.2 with ⟨e, _⟩ | ⟨g', cap', cur, e, _, hg, _⟩
    · cases e
    · cases e; exact ⟨_, hg⟩
  have n1 : gl ≠ g := by intro e; have := h.res; rw [← e, hg] at this; cases this
  have n2 : gl ≠ g + 1 := by intro e; have := h.out; rw [← e, hg] at this; cases this
  refine ⟨(Below.heap_setCell _ _ _ _ (fun e => n1 e.symm)).trans h.res, (Below.heap_setCell _ _ _ _ (fun e => n2 e.symm)).trans h.out, ob_setOther h.st hg (by decide) (by decide), ob_setOther h.an hg (by decide) (by decide), ?_⟩
  have := (World.ownsRow.stored h.last k (.int .i64 t)).1
  show World.ownsRow _ _ _ _ _ _ _
  rw [List.length_set, List.map_set]
  exact this
theorem RDo.lastT {gl lc m : Nat} (h : RDo w g va vs an ps (.slice (some ⟨gl, 0, none⟩) m lc) ll) : ∃ cur, w.heap[gl]? = some (.cells cur 3 (0, 0)) := by
  rcases h.last.2 with ⟨e, _⟩ | ⟨g', cap', cur, e, _, hg, _⟩
  · cases e
  · cases e; exact ⟨_, hg⟩
theorem RDo.cellL {gl lc k m : Nat} {t : Int} (h : RDo w g va vs an ps (.slice (some ⟨gl, 0, none⟩) m lc) ll) (ht : ll[k]? = some t) : w.cell? ⟨gl, k, none⟩ = some (.int .i64 t) ∧ w.frozen? ⟨gl, k, none⟩ = false ∧ gl < w.heap.size ∧ g ≤ gl := by
  have hk := (List.getElem?_eq_some_iff.1 ht).1
  have h1 := (h.last).lt gl rfl
  rcases h.last.2 with ⟨e, _⟩ | ⟨g', cap', cur, e, _, hg, _, _, _, hcur⟩
  · cases e
  · cases e
    refine ⟨?_, frozen_of_row _ _ k _ _ hg, h1.2, h1.1⟩
    rw [cell_of_row _ _ _ _ _ _ hg]
    have h2 : (ll.map (Value.int .i64))[k]? = some (.int .i64 t) := by rw [List.getElem?_map, ht]; rfl
    rw [← hcur, List.getElem?_take] at h2
    split at h2
    · simpa using h2
    · cases h2
end
end Go.Proofs.YtmiimpmfkjcjlaaGreat
