import Derived.Test.YtmiimpmfkjcjlaaGreatBun1
import Derived.Test.YtmiimpmfkjcjlaaGreatBun29
namespace Go.Proofs.YtmiimpmfkjcjlaaGreat
open Go.RowKit
def manyB (c p : Nat) : Bool := (decide (60 < c) && decide (c ≤ 1000)) || (decide (600 < p) && decide (p ≤ 65536)) || decide (1100 < c)
set_option maxRecDepth 100000 in
set_option maxHeartbeats 2000000 in
theorem many_any (A Ap : Option Addr) (m c mp cp : Nat) (w : World) (hm : m ≤ maxLen) (hp : mp ≤ maxLen) :
    Calls Tryz.prog 44 #[.slice A m c, .slice Ap mp cp] w fun e w' => e = .returned (.bool (manyB m mp)) ∧ w' = w := by
  have hm63 : (m : Int) ≤ 9223372036854775807 := by unfold maxLen at hm; omega
  have hp63 : (mp : Int) ≤ 9223372036854775807 := by unfold maxLen at hp; omega
  obtain ⟨R, hR⟩ : ∃ R, manyB m mp = R := ⟨_, rfl⟩
  have HR := hide hR
  rw [hR]
  clear hR
  rcases (by omega : m ≤ 60 ∨ (60 < m ∧ m ≤ 1000) ∨ (1000 < m ∧ m ≤ 1100) ∨ 1100 < m) with h1 | ⟨h1, h2⟩ | ⟨h1, h2⟩ | h1 <;>
  rcases (by omega : mp ≤ 600 ∨ (600 < mp ∧ mp ≤ 65536) ∨ 65536 < mp) with g1 | ⟨g1, g2⟩ | g1
  all_goals
    have d0 : decide ((60 : Int) < (m : Int)) = decide (60 < m) := by simp; omega
    have d1 : decide ((m : Int) ≤ 1000) = decide (m ≤ 1000) := by simp; omega
    have d2 : decide ((600 : Int) < (mp : Int)) = decide (600 < mp) := by simp; omega
    have d3 : decide ((mp : Int) ≤ 65536) = decide (mp ≤ 65536) := by simp; omega
    have d4 : decide ((1100 : Int) < (m : Int)) = decide (1100 < m) := by simp; omega
    rw [show decide (60 < m) = _ by first | exact decide_eq_true (by omega) | exact decide_eq_false (by omega)] at d0
    rw [show decide (m ≤ 1000) = _ by first | exact decide_eq_true (by omega) | exact decide_eq_false (by omega)] at d1
    rw [show decide (600 < mp) = _ by first | exact decide_eq_true (by omega) | exact decide_eq_false (by omega)] at d2
    rw [show decide (mp ≤ 65536) = _ by first | exact decide_eq_true (by omega) | exact decide_eq_false (by omega)] at d3
    rw [show decide (1100 < m) = _ by first | exact decide_eq_true (by omega) | exact decide_eq_false (by omega)] at d4
    have hv := HR.out
    unfold manyB at hv
    go_enter Tryz.func44, Tryz.ntmps44
    go_wp2
    go_ret
    exact ⟨ret_bool (by rw [← hv]; simp <;> omega), rfl⟩
def largeB (sp c p : Nat) : Bool := decide (20 < sp) || manyB c p
set_option maxRecDepth 100000 in
set_option maxHeartbeats 2000000 in
theorem large_any (n : Int) (As A Ap : Option Addr) (ms cS m c mp cp : Nat) (w : World) (hs : ms ≤ maxLen) (hm : m ≤ maxLen) (hp : mp ≤ maxLen) :
    Calls Tryz.prog 16 #[.agg #[.int .i64 n, .slice As ms cS, .slice A m c, .slice Ap mp cp]] w fun e w' => e = .returned (.bool (largeB ms m mp)) ∧ Below w.heap.size w w' := by
  have hs63 : (ms : Int) ≤ 9223372036854775807 := by unfold maxLen at hs; omega
  have N0 := fun W => many_any A Ap m c mp cp W hm hp
  unfold largeB
  generalize manyB m mp = R at *
  rcases (by omega : ms ≤ 20 ∨ 20 < ms) with h1 | h1
  · have d0 : decide ((20 : Int) < (ms : Int)) = false := by simp; omega
    have e0 : decide (20 < ms) = false := by simp; omega
    rw [e0]
    clear h1 e0
    go_enter Tryz.func16, Tryz.ntmps16
    go_wp2_with fail
    refine (N0 _).mono ?_
    rintro e w1 ⟨rfl, rfl⟩
    go_wp2
    go_ret
    exact ⟨rfl, by (repeat' (first | exact Below.refl _ _ | assumption | refine Below.drew ?_ | refine below_drewN ?_ _ | refine Below.alloc ?_ (by simp <;> omega) _ | refine Below.setCell ?_ (by simp <;> omega) _))⟩
  · have d0 : decide ((20 : Int) < (ms : Int)) = true := by simp; omega
    have e0 : decide (20 < ms) = true := by simp; omega
    rw [e0]
    clear h1 e0 N0
    go_enter Tryz.func16, Tryz.ntmps16
    go_wp2
    go_ret
    exact ⟨rfl, by (repeat' (first | exact Below.refl _ _ | assumption | refine Below.drew ?_ | refine below_drewN ?_ _ | refine Below.alloc ?_ (by simp <;> omega) _ | refine Below.setCell ?_ (by simp <;> omega) _))⟩
end Go.Proofs.YtmiimpmfkjcjlaaGreat

namespace Go.Proofs.YtmiimpmfkjcjlaaGreat
open Go.RowKit
attribute [local go_sem] run_store_fn run_store_nilfn
end Go.Proofs.YtmiimpmfkjcjlaaGreat

namespace Go.Proofs.YtmiimpmfkjcjlaaGreat
open Go.RowKit
attribute [local go_sem] run_store_fn run_store_nilfn
theorem info_slw : (Tryz.prog.info? 24).map (fun i => (i.zero, i.size, i.bytes)) = some (some (.slice none 0 0), 1, 24) := by kernel_rfl
theorem grown_keep {w w' : World} {r : Option Nat} (hg : w.grownBy w' r) : Keep (fun j => j < w.heap.size ∧ some j ≠ r) w w' := ⟨hg.os, hg.tape, hg.output, hg.size, fun k hk => hg.block k hk.1 hk.2⟩
theorem wpList_ob_push {α : Type} {en : Ob α → List Value} {lst : α → List Int} {T t : TypeId} {sz : Nat} {W0 : World} {ops : Array Oper} {rest : List Oper} {o : Oper} {a : Act} {Q : Exit → Act → World → Prop} (hgd : o.guard = none) (s x : Operand)
    (ho : o.op = .call { callee := .builtin .append, args := #[s, x], argTypes := #[t, t] }) {z : Value} {bytes : Nat} (hinfo : (Tryz.prog.info? T).map (fun i => (i.zero, i.size, i.bytes)) = some (some z, sz, bytes)) (ht : Tryz.prog.underlying t = some (.slice T)) (hzs : z.cells.size = sz) (hsz : 0 < sz) (hby : bytes ≤ 1000)
    (hT : T ≠ 25) {B b : Nat} {v : Value} {ps : List (Ob α)} (h : ObRow en lst T sz W0 B v ps) (hs : a.eval s = v) (hx : a.eval x = .slice (some ⟨b, 0, none⟩) 1 1) (hb : b = W0.heap.size) (p : Ob α) {cs : Array Value} (hcs : cs = (en p).toArray) (hen : (en p).length = sz)
    (h1 : ∀ u ∈ en p, u.oneCell' = true) (hsl : SlW W0 (obV lst p) (lst p.1)) (htw : Tw W0 (obV lst p)) (hm : ps.length < 1000000) (hB : B ≤ W0.heap.size)
    (hK : ∀ v' w', ObRow en lst T sz w' B v' (ps ++ [p]) → Keep (fun j => j < W0.heap.size ∧ some j ≠ v.ownBlock) W0 w' → wpList Tryz.prog ops Q rest (a.put o.dst v') w') :
    wpList Tryz.prog ops Q (o :: rest) a (W0.alloc (.cells cs T)) := by
  subst hb hcs
  obtain ⟨i, hi, hz0, hz1, hz2⟩ := info_parts hinfo
  have hmul : (ps.length + 1) * bytes ≤ 1000000 * 1000 := Nat.mul_le_mul (by omega) hby
  refine wpList_append_own_at _ hgd s x t ho B T i z sz bytes ht hi hz0 hz1 hz2 hzs hsz v ps.length (ps.flatMap en) hs (World.ownsRow.alloc h.1 _) ⟨W0.heap.size, 0, none⟩ 1 1 (en p) hx (by rw [hen, Nat.one_mul]) ?_ h1 (by unfold maxLen; omega) (by omega) (by simp; omega) ?_
  · intro j u hu
    rw [Addr.add_lit, Nat.zero_add]
    rw [cell_of_row _ _ _ _ T (0, 0) (heap_alloc_new W0 _)]
    simpa using hu
  · intro v' w' h2 h3 _ _
    have hA : ObRow en lst T sz (W0.alloc (.cells (en p).toArray T)) B v ps := ob_below h ((Below.refl _ _).alloc (Nat.le_refl _) _)
    have hb0 : Below W0.heap.size W0 (W0.alloc (.cells (en p).toArray T)) := (Below.refl _ _).alloc (Nat.le_refl _) _
    refine hK v' w' (ob_push hA hT (hsl.below hb0 (Nat.le_refl _)) (htw.keep (Keep.of_below (K := fun j => j < W0.heap.size) hb0 (fun _ hk => hk)) (fun j cs fr hj => (Array.getElem?_eq_some_iff.1 hj).1)) h2 h3) ?_
    exact (Keep.of_below hb0 (fun k hk => hk.1)).trans ((grown_keep h3).mono (fun k hk => ⟨by have := hk.1; simp; omega, hk.2⟩))
theorem wp_ob_push {α : Type} {en : Ob α → List Value} {lst : α → List Int} {T t : TypeId} {sz : Nat} {W0 : World} {o : Oper} {a : Act} {K : Act → World → Prop} {Q : Exit → Act → World → Prop} (s x : Operand)
    (ho : o.op = .call { callee := .builtin .append, args := #[s, x], argTypes := #[t, t] }) {z : Value} {bytes : Nat} (hinfo : (Tryz.prog.info? T).map (fun i => (i.zero, i.size, i.bytes)) = some (some z, sz, bytes)) (ht : Tryz.prog.underlying t = some (.slice T)) (hzs : z.cells.size = sz) (hsz : 0 < sz) (hby : bytes ≤ 1000)
    (hT : T ≠ 25) {B b : Nat} {v : Value} {ps : List (Ob α)} (h : ObRow en lst T sz W0 B v ps) (hs : a.eval s = v) (hx : a.eval x = .slice (some ⟨b, 0, none⟩) 1 1) (hb : b = W0.heap.size) (p : Ob α) {cs : Array Value} (hcs : cs = (en p).toArray) (hen : (en p).length = sz)
    (h1 : ∀ u ∈ en p, u.oneCell' = true) (hsl : SlW W0 (obV lst p) (lst p.1)) (htw : Tw W0 (obV lst p)) (hm : ps.length < 1000000) (hB : B ≤ W0.heap.size)
    (hK : ∀ v' w', ObRow en lst T sz w' B v' (ps ++ [p]) → Keep (fun j => j < W0.heap.size ∧ some j ≠ v.ownBlock) W0 w' → K (a.put o.dst v') w') :
    Oper.wp Tryz.prog o a (W0.alloc (.cells cs T)) K Q := by
  subst hb hcs
  obtain ⟨i, hi, hz0, hz1, hz2⟩ := info_parts hinfo
  have hmul : (ps.length + 1) * bytes ≤ 1000000 * 1000 := Nat.mul_le_mul (by omega) hby
  refine wp_append_own_at s x t ho B T i z sz bytes ht hi hz0 hz1 hz2 hzs hsz v ps.length (ps.flatMap en) hs (World.ownsRow.alloc h.1 _) ⟨W0.heap.size, 0, none⟩ 1 1 (en p) hx (by rw [hen, Nat.one_mul]) ?_ h1 (by unfold maxLen; omega) (by omega) (by simp; omega) ?_
  · intro j u hu
    rw [Addr.add_lit, Nat.zero_add]
    rw [cell_of_row _ _ _ _ T (0, 0) (heap_alloc_new W0 _)]
    simpa using hu
  · intro v' w' h2 h3 _ _
    have hA : ObRow en lst T sz (W0.alloc (.cells (en p).toArray T)) B v ps := ob_below h ((Below.refl _ _).alloc (Nat.le_refl _) _)
    have hb0 : Below W0.heap.size W0 (W0.alloc (.cells (en p).toArray T)) := (Below.refl _ _).alloc (Nat.le_refl _) _
    refine hK v' w' (ob_push hA hT (hsl.below hb0 (Nat.le_refl _)) (htw.keep (Keep.of_below (K := fun j => j < W0.heap.size) hb0 (fun _ hk => hk)) (fun j cs fr hj => (Array.getElem?_eq_some_iff.1 hj).1)) h2 h3) ?_
    exact (Keep.of_below hb0 (fun k hk => hk.1)).trans ((grown_keep h3).mono (fun k hk => ⟨by have := hk.1; simp; omega, hk.2⟩))
theorem tw_keepS {S : Nat → Prop} {w w' : World} {u : Value} (h : Tw w u) (hk : Keep S w w') (hS : ∀ j, j < w.heap.size → S j) : Tw w' u := h.keep hk (fun j _ _ hj => hS j (Array.getElem?_eq_some_iff.1 hj).1)
theorem tw_below {w w' : World} {u : Value} (h : Tw w u) (hb : Below w.heap.size w w') : Tw w' u := tw_keepS h (Keep.of_below (K := fun j => j < w.heap.size) hb (fun _ hk => hk)) (fun _ hj => hj)
theorem layE_specs {n : Int} {specs : List Sp} (h : layE n specs = 0) : specs.length ≤ 8 ∧ ∀ s ∈ specs, sizeE n s = 0 := by
  unfold layE at h
  split at h
  · cases h
  split at h
  · cases h
  split at h
  · rename_i h2 h3
    exact ⟨by omega, firstE_all h3⟩
  · rename_i h3
    exact absurd h h3
end Go.Proofs.YtmiimpmfkjcjlaaGreat
