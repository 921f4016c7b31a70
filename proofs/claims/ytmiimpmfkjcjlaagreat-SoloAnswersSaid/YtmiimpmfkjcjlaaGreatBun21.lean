/- Operations that are done whole (package solo): what is wrong with threads, calls, and objects. -/
/- Rows of things that each hold a slice: append; operations that are done whole (package solo): begin. -/
import Derived.Test.YtmiimpmfkjcjlaaGreatBun20
namespace Go.Proofs.YtmiimpmfkjcjlaaGreat
open Go.RowKit
attribute [local go_sem] run_store_fn run_store_nilfn

def thOk (n : Int) (c : Cl) : Bool := decide (0 ≤ c.thread) && decide (c.thread < n)
def soloE (n : Int) (specs : List Sp) (calls : List Cl) : Int :=
  if ¬ (1 ≤ n ∧ n ≤ 16) then 1 else if 1000 < calls.length then 3 else if calls.all (thOk n) = false then 1 else layE n specs
theorem thOk_all {n : Int} {calls : List Cl} (h : ∀ (j : Nat) (c : Cl), j < calls.length → calls[j]? = some c → 0 ≤ c.thread ∧ c.thread < n) : calls.all (thOk n) = true := by
  rw [List.all_eq_true]
  intro c hc
  obtain ⟨j, hj⟩ := List.mem_iff_getElem?.1 hc
  obtain ⟨h1, h2⟩ := h j c (List.getElem?_eq_some_iff.1 hj).1 hj
  simp [thOk, h1, h2]
theorem thOk_no {n : Int} {calls : List Cl} {k : Nat} {c : Cl} (hc : calls[k]? = some c) (h : ¬ (0 ≤ c.thread ∧ c.thread < n)) : calls.all (thOk n) = false := by
  rw [List.all_eq_false]
  refine ⟨c, List.mem_of_getElem? hc, ?_⟩
  simp [thOk]
  omega
set_option maxRecDepth 100000 in
set_option maxHeartbeats 2000000 in
theorem scheck_any (n : Int) (As Ac : Option Addr) (ms cs mc cc : Nat) (specs : List Sp) (calls : List Cl) (w : World) (hs : SlSp w (.slice As ms cs) specs) (hms : specs.length = ms) (hc : SlCl w (.slice Ac mc cc) calls) (hmc : calls.length = mc) :
    Calls Tryz.prog 82 #[.int .i64 n, .slice As ms cs, .slice Ac mc cc] w fun e w' => e = .returned (.int .i64 (soloE n specs calls)) ∧ Below w.heap.size w w' := by
  have hmx : mc ≤ maxLen := by obtain ⟨_, _, e, h1, h2, _⟩ := hc; cases e; omega
  have hm63 : (mc : Int) ≤ 9223372036854775807 := by unfold maxLen at hmx; omega
  have HC := hide hc
  have HM := hide hmc
  have NL := fun W (h : SlSp W (.slice As ms cs) specs) => tlay_any n As ms cs specs W h hms
  have HS := hide hs
  have HN := hide NL
  obtain ⟨E, hE⟩ : ∃ E, soloE n specs calls = E := ⟨_, rfl⟩
  rw [hE]
  have HE := hide hE
  clear hc hs hE NL hmc hmx
  by_cases h0 : n < 1
  · have d0 : decide (n < 1) = true := by simpa using h0
    have hr : Hid (1 = E) := hide (by rw [← HE.out]; unfold soloE; rw [if_pos (by omega)])
    clear h0
    go_enter Tryz.func82, Tryz.ntmps82
    go_wp2
    go_ret
    exact ⟨ret_int hr.out, Below.refl _ _⟩
  · have d0 : decide (n < 1) = false := by simpa using h0
    by_cases h1 : 16 < n
    · have d1 : decide (16 < n) = true := by simpa using h1
      have hr : Hid (1 = E) := hide (by rw [← HE.out]; unfold soloE; rw [if_pos (by omega)])
      clear h0 h1
      go_enter Tryz.func82, Tryz.ntmps82
      go_wp2
      go_ret
      exact ⟨ret_int hr.out, Below.refl _ _⟩
    · have d1 : decide (16 < n) = false := by simpa using h1
      by_cases h2 : 1000 < mc
      · have d2 : decide ((1000 : Int) < (mc : Int)) = true := by simp; omega
        have hr : Hid (3 = E) := hide (by rw [← HE.out]; unfold soloE; rw [if_neg (by omega), if_pos (by rw [HM.out]; exact h2)])
        clear h0 h1 h2
        go_enter Tryz.func82, Tryz.ntmps82
        go_wp2
        go_ret
        exact ⟨ret_int hr.out, Below.refl _ _⟩
      · have d2 : decide ((1000 : Int) < (mc : Int)) = false := by simp; omega
        have hne : E = if calls.all (thOk n) = false then 1 else layE n specs := by rw [← HE.out]; unfold soloE; rw [if_neg (by omega), if_neg (by rw [HM.out]; exact h2)]
        have HNE := hide hne
        clear h0 h1 h2 hne
        go_enter Tryz.func82, Tryz.ntmps82
        go_wp2
        go_loopw [25] (fun i wr => ∃ k : Nat, k ≤ mc ∧ i = .int .i64 k ∧ Hid (∀ (j : Nat) (c : Cl), j < k → calls[j]? = some c → 0 ≤ c.thread ∧ c.thread < n) ∧ Hid (Below w.heap.size w wr)) (fun i _ => mc - (intOf i).toNat)
        case atStart => exact ⟨0, Nat.zero_le _, rfl, hide (fun j c hj => by omega), hide (Below.refl _ _)⟩
        case round =>
          obtain ⟨k, hk, rfl, hok, hB⟩ := hrel
          by_cases hlt : k < mc
          · have hcl := HC.out.below hB.out (Nat.le_refl _)
            obtain ⟨c, hc⟩ : ∃ c, calls[k]? = some c := ⟨_, List.getElem?_eq_getElem (by have := HM.out; omega)⟩
            obtain ⟨A', c', e', _, _, h3⟩ := hcl
            obtain ⟨b, o, hA, hb, hcc⟩ := h3 k c hc
            cases e'
            subst hA
            obtain ⟨x0, x1, x2, x3, x4, x5⟩ := cl_cells hcc
            have q0 : (0 : Int) ≤ (k : Int) := by omega
            have q1 : (k : Int) < (calls.length : Int) := by have := HM.out; omega
            have hzr := hB.out.size
            clear h3 hcc
            by_cases t0 : c.thread < 0
            · have g0 : decide (c.thread < 0) = true := by simpa using t0
              have hr : Hid (1 = E) := hide (by rw [HNE.out, if_pos (thOk_no hc (by omega))])
              clear hc t0
              go_wp2
              go_ret
              refine ⟨ret_int hr.out, ?_⟩
              have hq := hB.out
              (repeat' (first | with_reducible assumption | with_reducible exact Below.refl _ _ | with_reducible refine Below.drew ?_ | with_reducible refine below_drewN ?_ _ | with_reducible refine Below.alloc ?_ ?_ _ | with_reducible refine Below.setCell ?_ ?_ _ | omega | (simp; done) | (simp; omega)))
            · have g0 : decide (c.thread < 0) = false := by simpa using t0
              by_cases t1 : n ≤ c.thread
              · have g1 : decide (n ≤ c.thread) = true := by simpa using t1
                have hr : Hid (1 = E) := hide (by rw [HNE.out, if_pos (thOk_no hc (by omega))])
                clear hc t0 t1
                go_wp2
                go_ret
                refine ⟨ret_int hr.out, ?_⟩
                have hq := hB.out
                (repeat' (first | with_reducible assumption | with_reducible exact Below.refl _ _ | with_reducible refine Below.drew ?_ | with_reducible refine below_drewN ?_ _ | with_reducible refine Below.alloc ?_ ?_ _ | with_reducible refine Below.setCell ?_ ?_ _ | omega | (simp; done) | (simp; omega)))
              · have g1 : decide (n ≤ c.thread) = false := by simpa using t1
                have HOK : Hid (∀ (j : Nat) (c : Cl), j < k + 1 → calls[j]? = some c → 0 ≤ c.thread ∧ c.thread < n) := hide (by
                  intro j c2 hj hc2
                  by_cases hjk : j = k
                  · subst hjk
                    rw [hc] at hc2
                    cases hc2
                    omega
                  · exact hok.out j c2 (by omega) hc2)
                clear hc t0 t1
                go_wp2
                go_roundw
                case rel =>
                  refine ⟨k + 1, by omega, by go_num, HOK, hide ?_⟩
                  have hq := hB.out
                  (repeat' (first | with_reducible assumption | with_reducible exact Below.refl _ _ | with_reducible refine Below.drew ?_ | with_reducible refine below_drewN ?_ _ | with_reducible refine Below.alloc ?_ ?_ _ | with_reducible refine Below.setCell ?_ ?_ _ | omega | (simp; done) | (simp; omega)))
                case measure => first | (simp [intOf]; done) | (simp [intOf]; omega)
          · have hr : layE n specs = E := by
              rw [HNE.out, if_neg]
              rw [thOk_all (fun j c hj hcj => hok.out j c (by have := HM.out; omega) hcj)]
              simp
            have HRR := hide hr
            clear hr
            have hlay := HN.out wr (HS.out.below hB.out (Nat.le_refl _))
            unfold LayPost at hlay
            go_wp2_with fail
            refine hlay.mono ?_
            rintro e w2 ⟨u, rfl, _, hb2⟩
            go_wp2
            go_ret
            refine ⟨ret_int HRR.out, hB.out.trans (hb2.mono (by have := hB.out.size; omega))⟩
end Go.Proofs.YtmiimpmfkjcjlaaGreat

namespace Go.Proofs.YtmiimpmfkjcjlaaGreat
open Go.RowKit
attribute [local go_sem] run_store_fn run_store_nilfn

theorem info_slw : (Tryz.prog.info? 24).map (fun i => (i.zero, i.size, i.bytes)) = some (some (.slice none 0 0), 1, 24) := by kernel_rfl
theorem info_ans : (Tryz.prog.info? 57).map (fun i => (i.zero, i.size, i.bytes)) = some (some (.agg #[.int .i64 0, .int .u64 0, .slice none 0 0]), 3, 40) := by kernel_rfl

theorem grown_keep {w w' : World} {r : Option Nat} (hg : w.grownBy w' r) : Keep (fun j => j < w.heap.size ∧ some j ≠ r) w w' := ⟨hg.os, hg.tape, hg.output, hg.size, fun k hk => hg.block k hk.1 hk.2⟩
theorem wpList_ob_push {α : Type} {en : Ob α → List Value} {lst : α → List Int} {T t : TypeId} {sz : Nat} {W0 : World} {ops : Array Oper} {rest : List Oper} {o : Oper} {a : Act} {Q : Exit → Act → World → Prop} (hgd : o.guard = none) (s x : Operand)
    (ho : o.op = .call { callee := .builtin .append, args := #[s, x], argTypes := #[t, t] }) {z : Value} {bytes : Nat} (hinfo : (Tryz.prog.info? T).map (fun i => (i.zero, i.size, i.bytes)) = some (some z, sz, bytes)) (ht : Tryz.prog.underlying t = some (.slice T)) (hzs : z.cells.size = sz) (hsz : 0 < sz) (hby : bytes ≤ 1000)
    (hT : T ≠ 25) {B b : Nat} {v : Value} {ps : List (Ob α)} (h : ObRow en lst T sz W0 B v ps) (hs : a.eval s = v) (hx : a.eval x = .slice (some ⟨b, 0, none⟩) 1 1) (hb : b = W0.heap.size) (p : Ob α) {cs : Array Value} (hcs : cs = (en p).toArray) (hen : (en p).length = sz)
    (h1 : ∀ u ∈ en p, u.oneCell' = true) (hsl : SlW W0 (obV lst p) (lst p.1)) (htw : Tw W0 (obV lst p)) (hm : ps.length < 1000000) (hB : B ≤ W0.heap.size)
    (hK : ∀ v' w', ObRow en lst T sz w' B v' (ps ++ [p]) → Keep (fun j => j < W0.heap.size ∧ some j ≠ v.ownBlock) W0 w' → wpList Tryz.prog ops Q rest (a.put o.dst v') w') :
    wpList Tryz.prog ops Q (o :: rest) a (W0.alloc (.cells cs T)) := by
  subst hb hcs
  obtain ⟨i, hi, hz0, hz1, hz2⟩ := info_parts hinfo
  have hmul : (ps.length + 1) * bytes ≤ 1000000 * 1000 := Nat.mul_le_mul (by omega) hby
  refine wpList_append_own_at _ hgd s x t ho B T i z sz bytes ht hi hz0 hz1 hz2 hzs hsz v ps.length (ps.flatMap en) hs (World.ownsRow.alloc h.1 _) ⟨W0.heap.size, 0, none⟩ 1 1 (en p) hx (by rw [hen, Nat.one_mul]) ?_ h1 (by unfold maxLen; omega) (by omega) (by simp; omega) ?_
  · intro j u hu
    rw [Addr.add_lit, Nat.zero_add]
    rw [cell_of_row _ _ _ _ T (0, 0) (heap_alloc_new W0 _)]
    simpa using hu
  · intro v' w' h2 h3 _ _
    have hA : ObRow en lst T sz (W0.alloc (.cells (en p).toArray T)) B v ps := ob_below h ((Below.refl _ _).alloc (Nat.le_refl _) _)
    have hb0 : Below W0.heap.size W0 (W0.alloc (.cells (en p).toArray T)) := (Below.refl _ _).alloc (Nat.le_refl _) _
    refine hK v' w' (ob_push hA hT (hsl.below hb0 (Nat.le_refl _)) (htw.keep (Keep.of_below (K := fun j => j < W0.heap.size) hb0 (fun _ hk => hk)) (fun j cs fr hj => (Array.getElem?_eq_some_iff.1 hj).1)) h2 h3) ?_
    exact (Keep.of_below hb0 (fun k hk => hk.1)).trans ((grown_keep h3).mono (fun k hk => ⟨by have := hk.1; simp; omega, hk.2⟩))
theorem wp_ob_push {α : Type} {en : Ob α → List Value} {lst : α → List Int} {T t : TypeId} {sz : Nat} {W0 : World} {o : Oper} {a : Act} {K : Act → World → Prop} {Q : Exit → Act → World → Prop} (s x : Operand)
    (ho : o.op = .call { callee := .builtin .append, args := #[s, x], argTypes := #[t, t] }) {z : Value} {bytes : Nat} (hinfo : (Tryz.prog.info? T).map (fun i => (i.zero, i.size, i.bytes)) = some (some z, sz, bytes)) (ht : Tryz.prog.underlying t = some (.slice T)) (hzs : z.cells.size = sz) (hsz : 0 < sz) (hby : bytes ≤ 1000)
    (hT : T ≠ 25) {B b : Nat} {v : Value} {ps : List (Ob α)} (h : ObRow en lst T sz W0 B v ps) (hs : a.eval s = v) (hx : a.eval x = .slice (some ⟨b, 0, none⟩) 1 1) (hb : b = W0.heap.size) (p : Ob α) {cs : Array Value} (hcs : cs = (en p).toArray) (hen : (en p).length = sz)
    (h1 : ∀ u ∈ en p, u.oneCell' = true) (hsl : SlW W0 (obV lst p) (lst p.1)) (htw : Tw W0 (obV lst p)) (hm : ps.length < 1000000) (hB : B ≤ W0.heap.size)
    (hK : ∀ v' w', ObRow en lst T sz w' B v' (ps ++ [p]) → Keep (fun j => j < W0.heap.size ∧ some j ≠ v.ownBlock) W0 w' → K (a.put o.dst v') w') :
    Oper.wp Tryz.prog o a (W0.alloc (.cells cs T)) K Q := by
  subst hb hcs
  obtain ⟨i, hi, hz0, hz1, hz2⟩ := info_parts hinfo
  have hmul : (ps.length + 1) * bytes ≤ 1000000 * 1000 := Nat.mul_le_mul (by omega) hby
  refine wp_append_own_at s x t ho B T i z sz bytes ht hi hz0 hz1 hz2 hzs hsz v ps.length (ps.flatMap en) hs (World.ownsRow.alloc h.1 _) ⟨W0.heap.size, 0, none⟩ 1 1 (en p) hx (by rw [hen, Nat.one_mul]) ?_ h1 (by unfold maxLen; omega) (by omega) (by simp; omega) ?_
  · intro j u hu
    rw [Addr.add_lit, Nat.zero_add]
    rw [cell_of_row _ _ _ _ T (0, 0) (heap_alloc_new W0 _)]
    simpa using hu
  · intro v' w' h2 h3 _ _
    have hA : ObRow en lst T sz (W0.alloc (.cells (en p).toArray T)) B v ps := ob_below h ((Below.refl _ _).alloc (Nat.le_refl _) _)
    have hb0 : Below W0.heap.size W0 (W0.alloc (.cells (en p).toArray T)) := (Below.refl _ _).alloc (Nat.le_refl _) _
    refine hK v' w' (ob_push hA hT (hsl.below hb0 (Nat.le_refl _)) (htw.keep (Keep.of_below (K := fun j => j < W0.heap.size) hb0 (fun _ hk => hk)) (fun j cs fr hj => (Array.getElem?_eq_some_iff.1 hj).1)) h2 h3) ?_
    exact (Keep.of_below hb0 (fun k hk => hk.1)).trans ((grown_keep h3).mono (fun k hk => ⟨by have := hk.1; simp; omega, hk.2⟩))

theorem tw_keepS {S : Nat → Prop} {w w' : World} {u : Value} (h : Tw w u) (hk : Keep S w w') (hS : ∀ j, j < w.heap.size → S j) : Tw w' u := h.keep hk (fun j _ _ hj => hS j (Array.getElem?_eq_some_iff.1 hj).1)
theorem tw_below {w w' : World} {u : Value} (h : Tw w u) (hb : Below w.heap.size w w') : Tw w' u := tw_keepS h (Keep.of_below (K := fun j => j < w.heap.size) hb (fun _ hk => hk)) (fun _ hj => hj)

/-- Block b holds a play that is done whole. -/
def SoAt (w : World) (b : Nat) (n : Int) (sp v : Value) (mb : Nat) : Prop := w.heap[b]? = some (.cells #[.int .i64 n, sp, v, .map (some mb)] 96 (0, 0))
def BeginPost (n : Int) (sp : Value) (specs : List Sp) (calls : List Cl) (w : World) (e : Ending) (w' : World) : Prop :=
  (soloE n specs calls ≠ 0 ∧ e = .returned (.tuple #[.pointer none, .int .i64 (soloE n specs calls)]) ∧ Below w.heap.size w w') ∨
  (soloE n specs calls = 0 ∧ ∃ b mb v ps, e = .returned (.tuple #[.pointer (some ⟨b, 0, none⟩), .int .i64 0]) ∧ w.heap.size ≤ b ∧ w.heap.size ≤ mb ∧ SoAt w' b n sp v mb ∧ StRow w' w.heap.size v ps ∧ ps.map Prod.fst = specs.map (newM n) ∧ IMap w' mb .i64 (fun _ => none) ∧ Below w.heap.size w w')
theorem cells4f {w : World} {g : Nat} {x y z u : Value} {t : TypeId} (h : w.heap[g]? = some (.cells #[x, y, z, u] t (0, 0))) : ∀ j, w.frozen? ⟨g, j, none⟩ = false := fun j => frozen_of_row w g j _ t h
theorem layE_specs {n : Int} {specs : List Sp} (h : layE n specs = 0) : specs.length ≤ 8 ∧ ∀ s ∈ specs, sizeE n s = 0 := by
  unfold layE at h
  split at h
  · cases h
  split at h
  · cases h
  split at h
  · rename_i h2 h3
    exact ⟨by omega, firstE_all h3⟩
  · rename_i h3
    exact absurd h h3
set_option maxRecDepth 100000 in
set_option maxHeartbeats 4000000 in
theorem sbegin_any (n : Int) (As Ac : Option Addr) (ms cs mc cc : Nat) (specs : List Sp) (calls : List Cl) (w : World) (hs : SlSp w (.slice As ms cs) specs) (hms : specs.length = ms) (hc : SlCl w (.slice Ac mc cc) calls) (hmc : calls.length = mc) :
    Calls Tryz.prog 45 #[.int .i64 n, .slice As ms cs, .slice Ac mc cc] w (BeginPost n (.slice As ms cs) specs calls w) := by
  have N0 := scheck_any n As Ac ms cs mc cc specs calls w hs hms hc hmc
  have HSP := hide hs
  have HMS := hide hms
  clear hs hc hmc
  obtain ⟨E, hE⟩ : ∃ E, soloE n specs calls = E := ⟨_, rfl⟩
  rw [hE] at N0
  have HE := hide hE
  by_cases h0 : E = 0
  · have hlay : layE n specs = 0 := by
      rw [h0] at hE
      unfold soloE at hE
      split at hE
      · cases hE
      split at hE
      · cases hE
      split at hE
      · cases hE
      · exact hE
    obtain ⟨hl8, hok⟩ := layE_specs hlay
    have HOKS := hide hok
    have hms8 : ms ≤ 8 := by omega
    have hms63 : (ms : Int) ≤ 8 := by omega
    subst h0
    clear hE hlay hok hms
    have hmm := @run_makeMap Tryz.prog
    go_enter Tryz.func45, Tryz.ntmps45
    go_wp2_with fail
    refine N0.mono ?_
    rintro e w1 ⟨rfl, hb1⟩
    have HB1 := hide hb1
    clear hb1
    go_wp2
    clear hmm
    go_loopw [28] (fun i wr => ∃ k : Nat, k ≤ ms ∧ i = .int .i64 k ∧ ∃ v ps, Hid (SoAt wr (w1.heap.size + 1) n (.slice As ms cs) v w1.heap.size) ∧ Hid (StRow wr w1.heap.size v ps) ∧ Hid (ps.map Prod.fst = (specs.take k).map (newM n)) ∧ Hid (wr.heap[w1.heap.size]? = some (.map #[] 0)) ∧ Hid (Below w1.heap.size w1 wr)) (fun i _ => ms - (intOf i).toNat)
    case atStart =>
      refine ⟨0, Nat.zero_le _, rfl, .slice none 0 0, [], hide ?_, hide (ob_nil _ _), hide rfl, hide ?_, hide ?_⟩
      · have h := heap_alloc_new (w1.alloc (.map #[] 0)) (.cells #[.int .i64 n, .slice As ms cs, .slice none 0 0, .map (some w1.heap.size)] 96)
        simpa [SoAt] using h
      · exact (heap_alloc_old _ _ (by simp)).trans (heap_alloc_new w1 _)
      · (repeat' (first | with_reducible assumption | with_reducible exact Below.refl _ _ | with_reducible refine Below.drew ?_ | with_reducible refine below_drewN ?_ _ | with_reducible refine Below.alloc ?_ ?_ _ | with_reducible refine Below.setCell ?_ ?_ _ | omega | (simp; done) | (simp; omega)))
    case round =>
      obtain ⟨k, hk, rfl, v, ps, hSo, hSt, hPs, hMp, hB⟩ := hrel
      obtain ⟨vA, vc, rfl, _⟩ := ob_len stEn_len hSt.out
      have hso := hSo.out
      unfold SoAt at hso
      obtain ⟨a0, a1, a2, a3, az⟩ := cells4 hso
      have hff := cells4f hso
      have f2 := hff 2
      have hzr := hB.out.size
      by_cases hlt : k < ms
      · obtain ⟨sp, hsp⟩ : ∃ sp, specs[k]? = some sp := ⟨_, List.getElem?_eq_getElem (by have := HMS.out; omega)⟩
        have hsl := HSP.out.below (HB1.out.trans (hB.out.mono (by have := HB1.out.size; omega))) (Nat.le_refl _)
        obtain ⟨A', c', e', _, _, h3⟩ := hsl
        obtain ⟨g, o, hA, hg, hcc⟩ := h3 k sp hsp
        cases e'
        subst hA
        obtain ⟨x0, x1, x2⟩ := spec_cells hcc
        have q0 : (0 : Int) ≤ (k : Int) := by omega
        have q1 : (k : Int) < (specs.length : Int) := by have := HMS.out; omega
        have hE0 := HOKS.out sp (List.mem_of_getElem? hsp)
        have NN := fun W => modelNew n sp W
        unfold NewMPost at NN
        rw [hE0] at NN
        simp only [ne_eq, not_true_eq_false, false_and, false_or, true_and] at NN
        have HSPK := hide hsp
        obtain ⟨ANS, hANS⟩ : ∃ X, newM n sp = X := ⟨_, rfl⟩
        have hnl := newM_len n sp hE0
        rw [hANS] at NN hnl
        have HANS := hide hANS
        clear h3 hcc hsp hE0 hANS hso hff
        go_wp2_with fail
        refine (NN _).mono ?_
        rintro e w2 ⟨u, rfl, hO2, hb2⟩
        obtain ⟨A2, c2, rfl⟩ := own_slice hO2
        have hb2' : Below wr.heap.size wr w2 := ((Below.refl _ _).alloc (Nat.le_refl _) _).trans (hb2.mono (by simp))
        have hSo2 : SoAt w2 (w1.heap.size + 1) n (.slice (some ⟨g, o, none⟩) specs.length cs) (.slice vA ps.length vc) w1.heap.size := (hb2'.block _ az).trans hSo.out
        have hMp2 := (hb2'.block w1.heap.size (by omega)).trans hMp.out
        have hSt2 := ob_below hSt.out hb2'
        have hsl2 : SlW w2 (.slice A2 ANS.length c2) ANS := wrow_sl (show WRow w2 _ _ ANS from hO2) (by unfold maxLen; omega)
        have htw2 := tw_own hO2
        have hplen : ps.length = k := by
          have h := congrArg List.length hPs.out
          have := HMS.out
          simp at h
          omega
        have hz2 := hb2'.size
        have HSo2 := hide hSo2
        have HMp2 := hide hMp2
        have HSt2 := hide hSt2
        have HSl2 := hide hsl2
        have HTw2 := hide htw2
        have HBX : Hid (Below w1.heap.size w1 w2) := hide (hB.out.trans (hb2'.mono (by omega)))
        have HPL := hide hplen
        replace a0 := (hb2'.cell (p := ⟨w1.heap.size + 1, 0, none⟩) az).trans a0
        replace a2 := (hb2'.cell (p := ⟨w1.heap.size + 1, 2, none⟩) az).trans a2
        replace f2 := (hb2'.frozen (p := ⟨w1.heap.size + 1, 2, none⟩) az).trans f2
        replace az : w1.heap.size + 1 < w2.heap.size := by omega
        clear hb2 hb2' hSo2 hMp2 hSt2 hsl2 htw2 hO2 a1 a3 x0 x1 x2 hplen
        go_wp2_with (at_builtin; refine wpList_ob_push rfl _ _ rfl info_slw Tryz.underlying51 rfl (by decide) (by decide) (by decide) HSt2.out rfl rfl rfl (ANS, A2, c2) rfl rfl (by simp [stEn, Value.oneCell']) HSl2.out HTw2.out (by have := HPL.out; omega) (by omega) ?_; intro v5 w5 hSt5 hk5; have hb5 := hk5.block (w1.heap.size + 1) ⟨az, own_ne HSt2.out.1 HSo2.out (by decide)⟩; have hSo5 := hb5.trans HSo2.out; have hMp5 := (hk5.block w1.heap.size ⟨by omega, own_ne_map HSt2.out.1 HMp2.out⟩).trans HMp2.out; have f5 := cells4f hSo5 2; obtain ⟨vA5, vc5, rfl, _⟩ := ob_len stEn_len hSt5; obtain ⟨p0, p1, p2, p3, pz⟩ := cells4 hSo5; have HSt5 := hide hSt5; have HMp5 := hide hMp5; have HSo5 := hide hSo5; have HB5 : Hid (Below w1.heap.size w1 w5) := hide (HBX.out.trans (hk5.below (fun k hk => ⟨by omega, fun e => by have := (HSt2.out.1.lt k e.symm).1; omega⟩))); clear hb5 hSo5 hMp5 hSt5 hk5)
        go_roundw
        case rel =>
          refine ⟨k + 1, by omega, by go_num, _, ps ++ [(ANS, A2, c2)], hide ?_, hide (ob_setOther (HSt5.out) HSo5.out (by decide) (by decide)), hide ?_, hide ?_, hide ?_⟩
          · rw [List.length_append]
            unfold SoAt
            rw [cells_set HSo5.out]
            rfl
          · rw [List.map_append, hPs.out, List.take_add_one, HSPK.out]
            simp [HANS.out]
          · exact (Below.heap_setCell _ _ _ _ (by simp)).trans HMp5.out
          · have hq := HB5.out
            (repeat' (first | with_reducible assumption | with_reducible exact Below.refl _ _ | with_reducible refine Below.drew ?_ | with_reducible refine below_drewN ?_ _ | with_reducible refine Below.alloc ?_ ?_ _ | with_reducible refine Below.setCell ?_ ?_ _ | omega | (simp; done) | (simp; omega)))
        case measure => first | (simp [intOf]; done) | (simp [intOf]; omega)
      · have hkk : k = ms := by omega
        have HKK := hide hkk
        clear hkk hlt hso hff a0 a1 a2 a3 f2
        have d9 : decide ((k : Int) < (ms : Int)) = false := by have := HKK.out; simp; omega
        have d8 : decide (k < ms) = false := by have := HKK.out; simp; omega
        go_wp2
        go_ret2
        refine Or.inr ⟨HE.out, w1.heap.size + 1, w1.heap.size, _, ps, rfl, by have := HB1.out.size; omega, HB1.out.size, hSo.out, ob_mono hSt.out HB1.out.size, ?_, ⟨_, _, hMp.out, by simp, by simp [getI]⟩, HB1.out.trans (hB.out.mono HB1.out.size)⟩
        rw [hPs.out, List.take_of_length_le (by have := HMS.out; have := HKK.out; omega)]
  · have d0 : (E != 0) = true := by simpa using h0
    have HNE := hide h0
    clear hE h0 hms
    go_enter Tryz.func45, Tryz.ntmps45
    go_wp2_with fail
    refine N0.mono ?_
    rintro e w1 ⟨rfl, hb1⟩
    go_wp2
    go_ret2
    refine Or.inl ⟨by rw [HE.out]; exact HNE.out, ?_, hb1⟩
    rw [HE.out]
    rfl
end Go.Proofs.YtmiimpmfkjcjlaaGreat
