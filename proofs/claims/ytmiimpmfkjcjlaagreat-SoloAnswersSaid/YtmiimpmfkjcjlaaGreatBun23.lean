/- Operations that are done whole (package solo): all calls, as plain data; and one operation, of any call. -/
/- Operations that are done whole (package solo): Answers, Last. -/
import Derived.Test.YtmiimpmfkjcjlaaGreatSo6
namespace Go.Proofs.YtmiimpmfkjcjlaaGreat
open Go.RowKit

abbrev SoX := (List (List Int) × List Int) × List An
def soStep (n : Int) (specs : List Sp) (X : SoX) (c : Cl) : SoX := ((soDo n specs X.1.1 X.1.2 c).1, X.2 ++ [(soDo n specs X.1.1 X.1.2 c).2])
def soBegin (n : Int) (specs : List Sp) : SoX := ((specs.map (newM n), specs.map fun _ => -1), [])
def soRun (n : Int) (specs : List Sp) (calls : List Cl) : SoX := calls.foldl (soStep n specs) (soBegin n specs)
theorem soRun_zero (n : Int) (specs : List Sp) (calls : List Cl) : soRun n specs (calls.take 0) = soBegin n specs := rfl
theorem soRun_succ {n : Int} {specs : List Sp} {calls : List Cl} {k : Nat} {c : Cl} (h : calls[k]? = some c) : soRun n specs (calls.take (k + 1)) = soStep n specs (soRun n specs (calls.take k)) c := by
  unfold soRun
  rw [List.take_add_one, h]
  simp [List.foldl_append]
structure SoOk (n : Int) (specs : List Sp) (k : Nat) (X : SoX) : Prop where
  l1 : X.1.1.length = specs.length
  l2 : X.1.2.length = specs.length
  l3 : X.2.length = k
  lt : ∀ t ∈ X.1.2, t = -1 ∨ U64 t
  st : ∀ (i : Nat) (x : List Int) (s : Sp), X.1.1[i]? = some x → specs[i]? = some s → rightM n s x = true ∧ (∀ z ∈ x, U64 z) ∧ x.length ≤ 80 + 2 * k
def ClOk (n : Int) (c : Cl) : Prop := 0 ≤ c.thread ∧ c.thread < n ∧ U64 c.a ∧ U64 c.b ∧ U64 c.c
theorem newM_u64 (n : Int) (s : Sp) : ∀ z ∈ newM n s, U64 z := by
  have h0 : ∀ p, ∀ z ∈ newL p, U64 z := by
    intro p z hz
    unfold newL at hz
    repeat' split at hz
    all_goals first
      | (simp at hz; done)
      | (simp at hz; rw [hz]; exact u64_zero)
      | (simp at hz; subst hz; exact u64_zero)
      | (have := List.eq_of_mem_replicate hz; rw [this]; exact u64_zero)
  intro z hz
  unfold newM at hz
  repeat' split at hz
  all_goals first
    | (have := List.eq_of_mem_replicate hz; rw [this]; exact u64_zero)
    | (rcases List.mem_cons.1 hz with h | h; (rw [h]; exact u64_zero); exact h0 _ z h)
    | (simp at hz; done)
    | (simp at hz; rw [hz]; exact u64_zero)
theorem soOk_begin {n : Int} {specs : List Sp} (hE : ∀ s ∈ specs, sizeE n s = 0) : SoOk n specs 0 (soBegin n specs) := by
  refine ⟨by simp [soBegin], by simp [soBegin], rfl, fun t ht => ?_, fun i x s hx hs => ?_⟩
  · obtain ⟨_, _, rfl⟩ := List.mem_map.1 (show t ∈ specs.map fun _ => (-1 : Int) from ht)
    exact Or.inl rfl
  have h1 : (specs.map (newM n))[i]? = some x := hx
  rw [List.getElem?_map, hs] at h1
  have h2 : newM n s = x := Option.some.inj h1
  subst h2
  have he := hE s (List.mem_of_getElem? hs)
  exact ⟨rightM_newM n s he, newM_u64 n s, by have := newM_len n s he; omega⟩
theorem soOk_step {n : Int} {specs : List Sp} {k : Nat} {X : SoX} {c : Cl} (h : SoOk n specs k X) (hc : ClOk n c) : SoOk n specs (k + 1) (soStep n specs X c) := by
  obtain ⟨h1, h2, h3, h5, h4⟩ := h
  obtain ⟨t0, t1, ua, ub, uc⟩ := hc
  have h4' : ∀ (i : Nat) (x : List Int) (s : Sp), X.1.1[i]? = some x → specs[i]? = some s → rightM n s x = true ∧ (∀ z ∈ x, U64 z) ∧ x.length ≤ 80 + 2 * (k + 1) := fun i x s hx hs => by
    obtain ⟨g1, g2, g3⟩ := h4 i x s hx hs
    exact ⟨g1, g2, by omega⟩
  by_cases ho : 0 ≤ c.obj ∧ c.obj < specs.length
  · obtain ⟨o, hco⟩ := Int.eq_ofNat_of_zero_le ho.1
    obtain ⟨s, hs⟩ : ∃ s, specs[o]? = some s := ⟨_, List.getElem?_eq_getElem (by omega)⟩
    obtain ⟨x, hx⟩ : ∃ x, X.1.1[o]? = some x := ⟨_, List.getElem?_eq_getElem (by omega)⟩
    obtain ⟨t, ht⟩ : ∃ t, X.1.2[o]? = some t := ⟨_, List.getElem?_eq_getElem (by omega)⟩
    obtain ⟨g1, g2, g3⟩ := h4 o x s hx hs
    obtain ⟨r1, r2, r3⟩ := applyM_ok (c := c) g1 g2 ua ub uc t0 t1
    have hset : ∀ (i : Nat) (y : List Int) (s' : Sp), (X.1.1.set o (applyM n s x c).1)[i]? = some y → specs[i]? = some s' → rightM n s' y = true ∧ (∀ z ∈ y, U64 z) ∧ y.length ≤ 80 + 2 * (k + 1) := by
      intro i y s' hy hs'
      rw [List.getElem?_set] at hy
      split at hy
      · rename_i he
        subst he
        rw [hs] at hs'
        split at hy
        · cases hy
          cases hs'
          exact ⟨r1, r2, by omega⟩
        · cases hy
      · exact h4' i y s' hy hs'
    unfold soStep
    rw [soDo_in hco hs hx ht]
    generalize ((ownN x c.thread : Nat) : Int) + (if t = c.thread then 1 else 0) = uu
    split
    · exact ⟨h1, h2, by simp [h3], h5, h4'⟩
    · split
      · refine ⟨by simp [h1], by simp [h2], by simp [h3], fun t' ht' => ?_, hset⟩
        rcases List.mem_or_eq_of_mem_set ht' with ht' | rfl
        · exact h5 t' ht'
        · exact Or.inr (u64_at0 g2 0)
      · exact ⟨by simp [h1], h2, by simp [h3], h5, hset⟩
  · unfold soStep
    rw [soDo_out ho]
    exact ⟨h1, h2, by simp [h3], h5, h4'⟩
theorem soOk_run {n : Int} {specs : List Sp} {calls : List Cl} (hE : ∀ s ∈ specs, sizeE n s = 0) (hc : ∀ c ∈ calls, ClOk n c) : ∀ k, k ≤ calls.length → SoOk n specs k (soRun n specs (calls.take k))
  | 0, _ => soOk_begin hE
  | k + 1, hk => by
    obtain ⟨c, hck⟩ : ∃ c, calls[k]? = some c := ⟨_, List.getElem?_eq_getElem (by omega)⟩
    rw [soRun_succ hck]
    exact soOk_step (soOk_run hE hc k (by omega)) (hc c (List.mem_of_getElem? hck))

set_option maxRecDepth 100000 in
theorem sdo_any (n : Int) (As : Option Addr) (ms cs b mb B k : Nat) (v : Value) (specs : List Sp) (ps : List StP) (X : SoX) (c : Cl) (w : World) (hSo : SoAt w b n (.slice As ms cs) v mb) (hSt : StRow w B v ps) (hs : SlSp w (.slice As ms cs) specs) (hms : specs.length = ms)
    (hM : IMap w mb .i64 (lastMap X.1.2)) (hps : ps.map Prod.fst = X.1.1) (hX : SoOk n specs k X) (hk : k ≤ 1000) (hc : ClOk n c) (hm8 : ms ≤ 8) :
    Calls Tryz.prog 46 #[.pointer (some ⟨b, 0, none⟩), clV c] w (DoPost n (.slice As ms cs) v b mb B (soDo n specs X.1.1 X.1.2 c) w) := by
  rw [← hps]
  by_cases ho : 0 ≤ c.obj ∧ c.obj < specs.length
  · have hpl : ps.length = specs.length := by have := hX.l1; rw [← hps] at this; simpa using this
    have hll := hX.l2
    obtain ⟨o, hco⟩ := Int.eq_ofNat_of_zero_le ho.1
    obtain ⟨s, hsp⟩ : ∃ s, specs[o]? = some s := ⟨_, List.getElem?_eq_getElem (by omega)⟩
    obtain ⟨p, hp⟩ : ∃ p, ps[o]? = some p := ⟨_, List.getElem?_eq_getElem (by omega)⟩
    obtain ⟨t, ht⟩ : ∃ t, X.1.2[o]? = some t := ⟨_, List.getElem?_eq_getElem (by omega)⟩
    obtain ⟨g1, g2, g3⟩ := hX.st o p.1 s (by rw [← hps, List.getElem?_map, hp]; rfl) hsp
    exact sdo_in n As ms cs b mb B o v specs ps X.1.2 c s p t w hSo hSt hs hms hM hco hsp hp ht g1 g2 (by omega) hc.2.2.1 hc.2.2.2.1 hc.1 hc.2.1 hm8 (by omega) (by omega)
  · exact sdo_out n As ms cs b mb B v specs ps X.1.2 c w hSo hSt hM hms hm8 ho
end Go.Proofs.YtmiimpmfkjcjlaaGreat

namespace Go.Proofs.YtmiimpmfkjcjlaaGreat
open Go.RowKit
attribute [local go_sem] run_store_fn run_store_nilfn

def AnsPost (n : Int) (specs : List Sp) (calls : List Cl) (w : World) (e : Ending) (w' : World) : Prop :=
  (soloE n specs calls ≠ 0 ∧ e = .returned (.tuple #[.slice none 0 0, .int .i64 (soloE n specs calls)]) ∧ Below w.heap.size w w') ∨
  (soloE n specs calls = 0 ∧ ∃ v an, e = .returned (.tuple #[v, .int .i64 0]) ∧ AnRow w' w.heap.size v an ∧ an.map Prod.fst = (soRun n specs calls).2 ∧ Below w.heap.size w w')
def LastPost (n : Int) (specs : List Sp) (calls : List Cl) (obj : Int) (w : World) (e : Ending) (w' : World) : Prop :=
  (soloE n specs calls ≠ 0 ∧ e = .returned (.tuple #[.slice none 0 0, .int .i64 (soloE n specs calls)]) ∧ Below w.heap.size w w') ∨
  (soloE n specs calls = 0 ∧ ¬ (0 ≤ obj ∧ obj < specs.length) ∧ e = .returned (.tuple #[.slice none 0 0, .int .i64 12]) ∧ Below w.heap.size w w') ∨
  (soloE n specs calls = 0 ∧ ∃ v x, e = .returned (.tuple #[v, .int .i64 0]) ∧ SlW w' v x ∧ (soRun n specs calls).1.1[obj.toNat]? = some x ∧ (0 ≤ obj ∧ obj < specs.length) ∧ Below w.heap.size w w')
theorem soloE_parts {n : Int} {specs : List Sp} {calls : List Cl} (h : soloE n specs calls = 0) : specs.length ≤ 8 ∧ (∀ s ∈ specs, sizeE n s = 0) ∧ calls.length ≤ 1000 ∧ ∀ c ∈ calls, 0 ≤ c.thread ∧ c.thread < n := by
  unfold soloE at h
  split at h
  · cases h
  split at h
  · cases h
  split at h
  · cases h
  · rename_i h1 h2 h3
    obtain ⟨g1, g2⟩ := layE_specs h
    refine ⟨g1, g2, by omega, fun c hc => ?_⟩
    have h4 : calls.all (thOk n) = true := by simpa using h3
    have := List.all_eq_true.1 h4 c hc
    simpa [thOk] using this
/-- The rows of words, of states, are no row of answers, and no map. -/
theorem ob_move {α β : Type} {en : Ob α → List Value} {lst : α → List Int} {en' : Ob β → List Value} {lst' : β → List Int} {T T' : TypeId} {sz sz' : Nat} {w w' : World} {B B' mb : Nat} {v v' : Value} {ps : List (Ob α)} {qs : List (Ob β)} {es : Array MapEntry} {cl : Nat} (h : ObRow en lst T sz w B v ps) (h' : ObRow en' lst' T' sz' w B' v' qs) (hm : w.heap[mb]? = some (.map es cl)) (hT : T ≠ T') (hT' : T' ≠ 25)
    (hk : Keep (fun j => j < w.heap.size ∧ some j ≠ v'.ownBlock ∧ j ≠ mb) w w') : ObRow en lst T sz w' B v ps := by
  refine ob_keep h hk (fun j cs t fr hj ht => ⟨(Array.getElem?_eq_some_iff.1 hj).1, ?_, fun e => ?_⟩)
  · refine own_ne h'.1 hj ?_
    rcases ht with ht | ⟨ht, _⟩
    · rw [ht]; exact fun e => hT' e.symm
    · rw [ht]; exact hT
  · rw [e, hm] at hj
    cases hj
set_option maxRecDepth 100000 in
set_option maxHeartbeats 2000000 in
theorem sanswers_any (n : Int) (As Ac : Option Addr) (ms cs mc cc : Nat) (specs : List Sp) (calls : List Cl) (w : World) (hs : SlSp w (.slice As ms cs) specs) (hms : specs.length = ms) (hc : SlCl w (.slice Ac mc cc) calls) (hmc : calls.length = mc) (hu : ∀ c ∈ calls, U64 c.a ∧ U64 c.b ∧ U64 c.c) :
    Calls Tryz.prog 18 #[.int .i64 n, .slice As ms cs, .slice Ac mc cc] w (AnsPost n specs calls w) := by
  have N0 := sbegin_any n As Ac ms cs mc cc specs calls w hs hms hc hmc
  unfold BeginPost at N0
  have HC := hide hc
  have HS := hide hs
  have HMC := hide hmc
  have HMS := hide hms
  by_cases h0 : soloE n specs calls = 0
  · obtain ⟨hl8, hok, hl1000, hth⟩ := soloE_parts h0
    have HE := hide h0
    have HCL : Hid (∀ c ∈ calls, ClOk n c) := hide (fun c hc => ⟨(hth c hc).1, (hth c hc).2, hu c hc⟩)
    have HRUN : Hid (∀ k, k ≤ calls.length → SoOk n specs k (soRun n specs (calls.take k))) := hide (soOk_run hok HCL.out)
    rw [h0] at N0
    simp only [ne_eq, not_true_eq_false, false_and, false_or, true_and] at N0
    have hmc1 : (mc : Int) ≤ 1000 := by omega
    have HL8 := hide hl8
    have HL1 := hide hl1000
    clear h0 hs hc hms hmc hok hl8 hl1000 hth hu
    go_enter Tryz.func18, Tryz.ntmps18
    go_wp2_with fail
    refine N0.mono ?_
    rintro e w1 ⟨b, mb, v, ps0, rfl, hb0, hmb0, hSo, hSt, hps, hM, hb1⟩
    have HSo := hide hSo
    have HSt := hide hSt
    have HPS := hide hps
    have HM := hide hM
    have HB1 := hide hb1
    clear hSo hSt hps hM hb1 N0
    go_wp2
    go_loopw [10, 25] (fun vo i wr => ∃ k : Nat, k ≤ mc ∧ i = .int .i64 k ∧ ∃ ps an, Hid (SoAt wr b n (.slice As ms cs) v mb) ∧ Hid (StRow wr w.heap.size v ps) ∧ Hid (ps.map Prod.fst = (soRun n specs (calls.take k)).1.1) ∧ Hid (IMap wr mb .i64 (lastMap (soRun n specs (calls.take k)).1.2)) ∧ Hid (AnRow wr w.heap.size vo an) ∧ Hid (an.map Prod.fst = (soRun n specs (calls.take k)).2) ∧ Hid (Below w.heap.size w wr)) (fun _ i _ => mc - (intOf i).toNat)
    case atStart =>
      refine ⟨0, Nat.zero_le _, rfl, ps0, [], HSo, HSt, HPS, hide ?_, hide (ob_nil _ _), hide rfl, HB1⟩
      have : lastMap (soRun n specs (calls.take 0)).1.2 = fun _ => none := by
        funext o
        unfold lastMap
        show (if 0 ≤ o then (match (specs.map fun _ => (-1 : Int))[o.toNat]? with | some t => if t = -1 then none else _ | none => none) else none) = none
        rw [List.getElem?_map]
        rcases specs[o.toNat]? with _ | s <;> simp
      rw [this]
      exact HM.out
    case round =>
      obtain ⟨k, hk, rfl, ps, an, hSo, hSt, hPs, hM, hAn, hAs, hB⟩ := hrel
      by_cases hlt : k < mc
      · have hcl := HC.out.below hB.out (Nat.le_refl _)
        obtain ⟨c, hc⟩ : ∃ c, calls[k]? = some c := ⟨_, List.getElem?_eq_getElem (by have := HMC.out; omega)⟩
        obtain ⟨A', c', e', _, _, h3⟩ := hcl
        obtain ⟨bc, oc, hA, hbc, hcc⟩ := h3 k c hc
        cases e'
        subst hA
        obtain ⟨x0, x1, x2, x3, x4, x5⟩ := cl_cells hcc
        have q0 : (0 : Int) ≤ (k : Int) := by omega
        have q1 : (k : Int) < (calls.length : Int) := by have := HMC.out; omega
        have hzr := hB.out.size
        have HCK := hide hc
        have HCO := hide (HCL.out c (List.mem_of_getElem? hc))
        clear h3 hcc hc
        obtain ⟨oA, oc', rfl, _⟩ := ob_len anEn_len hAn.out
        have hk1 : k ≤ 1000 := by have := HL1.out; have := HMC.out; omega
        have hbb : wr.heap.size ≤ wr.heap.size := Nat.le_refl _
        have ND := hide (fun W (g1 : SoAt W b n (.slice As ms cs) v mb) (g2 : StRow W w.heap.size v ps) (g3 : SlSp W (.slice As ms cs) specs) (g4 : IMap W mb .i64 (lastMap (soRun n specs (calls.take k)).1.2)) => sdo_any n As ms cs b mb w.heap.size k v specs ps (soRun n specs (calls.take k)) c W g1 g2 g3 HMS.out g4 hPs.out (HRUN.out k (by have := HMC.out; omega)) hk1 HCO.out (by have := HL8.out; have := HMS.out; omega))
        have hSoW : SoAt (wr.alloc (.cells #[.int .i64 c.thread, .int .i64 c.obj, .int .i64 c.kind, .int .u64 c.a, .int .u64 c.b, .int .u64 c.c] 27)) b n (.slice As ms cs) v mb := (heap_alloc_old _ _ (Array.getElem?_eq_some_iff.1 hSo.out).1).trans hSo.out
        have hStW := ob_below hSt.out ((Below.refl _ wr).alloc (Nat.le_refl _) (.cells #[.int .i64 c.thread, .int .i64 c.obj, .int .i64 c.kind, .int .u64 c.a, .int .u64 c.b, .int .u64 c.c] 27))
        have hMW := hM.out.alloc (.cells #[.int .i64 c.thread, .int .i64 c.obj, .int .i64 c.kind, .int .u64 c.a, .int .u64 c.b, .int .u64 c.c] 27)
        have hAnW := ob_below hAn.out ((Below.refl _ wr).alloc (Nat.le_refl _) (.cells #[.int .i64 c.thread, .int .i64 c.obj, .int .i64 c.kind, .int .u64 c.a, .int .u64 c.b, .int .u64 c.c] 27))
        have hSpW := (HS.out.below hB.out (Nat.le_refl _)).alloc (.cells #[.int .i64 c.thread, .int .i64 c.obj, .int .i64 c.kind, .int .u64 c.a, .int .u64 c.b, .int .u64 c.c] 27)
        have NW := ND.out _ hSoW hStW hSpW hMW
        obtain ⟨D, hD⟩ : ∃ D, soDo n specs (soRun n specs (calls.take k)).1.1 (soRun n specs (calls.take k)).1.2 c = D := ⟨_, rfl⟩
        rw [hD] at NW
        have HRS : Hid (soRun n specs (calls.take (k + 1)) = (D.1, (soRun n specs (calls.take k)).2 ++ [D.2])) := hide (by rw [soRun_succ HCK.out]; unfold soStep; rw [hD])
        obtain ⟨D1, E, V, R3⟩ := D
        unfold DoPost at NW
        simp only [] at NW
        have HNW := hide NW
        have HMB := hide hmb0
        have HAW := hide hAnW
        have HSW := hide hStW
        have HMW := hide hMW
        clear hSoW hStW hMW hAnW hSpW ND
        go_wp2_with fail
        (with_reducible refine HNW.out.mono ?_)
        rintro e w2 ⟨L, ps2, rfl, hsl2, htw2, hSo2, hSt2, hps2, hM2, hk2⟩
        obtain ⟨LA, Lc, rfl, _⟩ := id hsl2
        have hA2 : AnRow w2 w.heap.size (.slice oA an.length oc') an := by
          obtain ⟨es, cl, hm, _⟩ := HMW.out
          exact ob_move HAW.out HSW.out hm (by decide) (by decide) hk2
        have HA2 := hide hA2
        have HSl2 := hide hsl2
        have HTw2 := hide htw2
        have HSo2 := hide hSo2
        have HSt2 := hide hSt2
        have HPs2 := hide hps2
        have HM2 := hide hM2
        have hal : an.length = k := by
          have h := congrArg List.length hAs.out
          rw [List.length_map, (HRUN.out k (by have := HMC.out; omega)).l3] at h
          exact h
        have HAL := hide hal
        have hz2 := hk2.size
        simp at hz2
        have hvl := fun j (e : some j = v.ownBlock) => (HSW.out.1.lt j e.symm).1
        have HB2 : Hid (Below w.heap.size w w2) := hide (hB.out.trans ((Below.mono (B := wr.heap.size) ((Below.refl _ _).alloc (Nat.le_refl _) _) hzr).trans (hk2.below (fun j hj => ⟨by simp; omega, fun e => by have := hvl j e; omega, by have := HMB.out; omega⟩))))
        clear hA2 hsl2 htw2 hSo2 hSt2 hps2 hM2 hk2 hal hvl NW hD
        go_wp2_with (at_builtin; refine wpList_ob_push rfl _ _ rfl info_ans Tryz.underlying46 rfl (by decide) (by decide) (by decide) HA2.out rfl rfl rfl (⟨E, V, R3⟩, LA, Lc) rfl rfl (by simp [anEn, Value.oneCell']) HSl2.out HTw2.out (by have := HAL.out; omega) (by have := HB2.out.size; omega) ?_; intro v5 w5 hAn5 hk5; have HSo5 : Hid (SoAt w5 b n (.slice As ms cs) v mb) := hide ((hk5.block b ⟨(Array.getElem?_eq_some_iff.1 HSo2.out).1, own_ne HA2.out.1 HSo2.out (by decide)⟩).trans HSo2.out); have HSt5 := hide (ob_keep HSt2.out hk5 (fun j cs t fr hj ht => ⟨(Array.getElem?_eq_some_iff.1 hj).1, own_ne HA2.out.1 hj (by rcases ht with ht | ⟨ht, _⟩ <;> rw [ht] <;> decide)⟩)); have HM5 := hide (HM2.out.of_block (hk5.block mb ⟨HM2.out.lt, by obtain ⟨es, cl, hm, _⟩ := HM2.out; exact own_ne_map HA2.out.1 hm⟩)); have HB5 : Hid (Below w.heap.size w w5) := hide (HB2.out.trans (hk5.below (fun j hj => ⟨by have := HB2.out.size; omega, fun e => by have := (HA2.out.1.lt j e.symm).1; omega⟩))); have HAn5 := hide hAn5; obtain ⟨vA5, vc5, rfl, _⟩ := ob_len anEn_len hAn5; clear hAn5 hk5)
        go_roundw
        case rel =>
          refine ⟨k + 1, by omega, by go_num, ps2, an ++ [(⟨E, V, R3⟩, LA, Lc)], HSo5, HSt5, hide (by rw [HRS.out]; exact HPs2.out), hide (by rw [HRS.out]; exact HM5.out), hide (by have h := HAn5.out; rw [List.length_append] at h; exact h), hide (by rw [HRS.out, List.map_append, hAs.out]; rfl), HB5⟩
        case measure => first | (simp [intOf]; done) | (simp [intOf]; omega)
      · have hkk : k = mc := by omega
        have HKK := hide hkk
        clear hkk hlt
        have d9 : decide ((k : Int) < (mc : Int)) = false := by have := HKK.out; simp; omega
        have d8 : decide (k < mc) = false := by have := HKK.out; simp; omega
        go_wp2
        go_ret2
        have hkt : calls.take k = calls := List.take_of_length_le (by have := HMC.out; have := HKK.out; omega)
        rw [hkt] at hAs
        exact Or.inr ⟨HE.out, _, an, rfl, hAn.out, hAs.out, hB.out⟩
  · have HNE := hide h0
    simp only [h0, false_and, or_false, ne_eq, not_false_eq_true, true_and] at N0
    obtain ⟨E, hE⟩ : ∃ E, soloE n specs calls = E := ⟨_, rfl⟩
    rw [hE] at N0 h0
    have HE := hide hE
    have d0 : (E != 0) = true := by simpa using h0
    clear hE h0 hs hc hms hmc hu
    go_enter Tryz.func18, Tryz.ntmps18
    go_wp2_with fail
    refine N0.mono ?_
    rintro e w1 ⟨rfl, hb1⟩
    have HB1 := hide hb1
    clear hb1 N0
    go_wp2
    go_ret2
    refine Or.inl ⟨HNE.out, ?_, HB1.out⟩
    rw [HE.out]
    rfl
end Go.Proofs.YtmiimpmfkjcjlaaGreat
