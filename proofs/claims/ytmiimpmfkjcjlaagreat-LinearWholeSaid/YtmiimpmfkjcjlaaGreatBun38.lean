import Derived.Test.YtmiimpmfkjcjlaaGreatBun37
import Derived.Test.YtmiimpmfkjcjlaaGreatBun17
import Derived.Test.YtmiimpmfkjcjlaaGreatBun9
import Derived.Test.YtmiimpmfkjcjlaaGreatBun13
import Derived.Test.YtmiimpmfkjcjlaaGreatBun11
import Derived.Test.YtmiimpmfkjcjlaaGreatBun32
namespace Go.Proofs.YtmiimpmfkjcjlaaGreat
open Go.RowKit
abbrev tOS : Obj := .cells #[.int .i64 8, .int .i64 2, .int .i64 0] 23
abbrev tOC : Obj := .cells #[.int .i64 0, .int .i64 0, .int .i64 0, .int .u64 5, .int .u64 0, .int .u64 0, .int .i64 0, .int .i64 0, .int .i64 1, .int .u64 0, .int .u64 0, .int .u64 0, .int .i64 1, .int .i64 0, .int .i64 1, .int .u64 0, .int .u64 0, .int .u64 0] 27
abbrev tOA : Obj := .cells #[.int .i64 0, .int .u64 5, .slice none 0 0] 57
abbrev tOK (x : Int) : Obj := .cells #[.int .i64 x] 3
abbrev tOE (g : Nat) : Obj := .cells #[.int .i64 0, .int .i64 1, .int .i64 1, .int .i64 1, .int .i64 0, .int .u64 0, .slice none 0 0, .slice (some ⟨g, 0, none⟩) 1 1, .int .i64 2, .int .i64 2, .int .i64 4, .int .i64 1, .int .i64 0, .int .u64 5, .slice none 0 0, .slice (some ⟨g + 1, 0, none⟩) 1 1, .int .i64 1, .int .i64 3, .int .i64 3, .int .i64 1, .int .i64 0, .int .u64 5, .slice none 0 0, .slice (some ⟨g + 2, 0, none⟩) 1 1] 62
structure TwAt (X : World) (b : Nat) : Prop where
  s : X.heap[b]? = some tOS
  c : X.heap[b + 1]? = some tOC
  k0 : X.heap[b + 3]? = some (tOK 2)
  k1 : X.heap[b + 3 + 1]? = some (tOK 8)
  k2 : X.heap[b + 3 + 2]? = some (tOK 6)
  e : X.heap[b + 6]? = some (tOE (b + 3))
theorem TwAt.lt {X : World} {b : Nat} (h : TwAt X b) : b + 6 < X.heap.size := (Array.getElem?_eq_some_iff.1 h.e).1
theorem TwAt.below {X X' : World} {b : Nat} (h : TwAt X b) (hb : Below X.heap.size X X') : TwAt X' b := by
  have hz := h.lt
  exact ⟨(hb.block _ (by omega)).trans h.s, (hb.block _ (by omega)).trans h.c, (hb.block _ (by omega)).trans h.k0, (hb.block _ (by omega)).trans h.k1, (hb.block _ (by omega)).trans h.k2, (hb.block _ (by omega)).trans h.e⟩
theorem t_specs {w : World} {g : Nat} (h : w.heap[g]? = some tOS) : SlSp w (.slice (some ⟨g, 0, none⟩) 1 1) tS := by
  refine Sl.of_block (xs := tS) h (Nat.le_refl 1) (by unfold maxLen; omega) ?_
  intro k x hx j u hu
  rcases k with _ | k <;> first | (cases hx; rcases j with _ | _ | _ | j <;> first | exact hu | cases hu) | cases hx
theorem t_calls {w : World} {g : Nat} (h : w.heap[g]? = some tOC) : SlCl w (.slice (some ⟨g, 0, none⟩) 3 3) tC := by
  refine Sl.of_block (xs := tC) h (Nat.le_refl 3) (by unfold maxLen; omega) ?_
  intro k x hx j u hu
  rcases k with _ | _ | _ | k <;> first | (cases hx; rcases j with _ | _ | _ | _ | _ | _ | j <;> first | exact hu | cases hu) | cases hx
theorem t_evs {w : World} {g b : Nat} (h : w.heap[g]? = some (tOE b)) : SlEv w (.slice (some ⟨g, 0, none⟩) 3 3) (tE b) := by
  refine Sl.of_block (xs := tE b) h (Nat.le_refl 3) (by unfold maxLen; omega) ?_
  intro k x hx j u hu
  rcases k with _ | _ | _ | k <;> first | (cases hx; rcases j with _ | _ | _ | _ | _ | _ | _ | _ | j <;> first | exact hu | cases hu) | cases hx
theorem t_key {w : World} {g : Nat} {x : Int} (h : w.heap[g]? = some (tOK x)) : SlI w (.slice (some ⟨g, 0, none⟩) 1 1) [x] := by
  refine Sl.of_block (xs := [x]) h (Nat.le_refl 1) (by unfold maxLen; omega) ?_
  intro k y hx j u hu
  rcases k with _ | k <;> first | (cases hx; rcases j with _ | j <;> first | exact hu | cases hu) | cases hx
theorem slwn (w : World) : SlW w (.slice none 0 0) [] := ⟨none, 0, rfl, Nat.le_refl _, Nat.zero_le _, by intro k x h; simp at h⟩
theorem TwAt.ctx {X : World} {b : Nat} (h : TwAt X b) : PwCtx X (.slice (some ⟨b, 0, none⟩) 1 1) (.slice (some ⟨b + 1, 0, none⟩) 3 3) (.slice (some ⟨b + 6, 0, none⟩) 3 3) tS tC (tE (b + 3)) (fun _ => []) tK := by
  refine ⟨t_specs h.s, t_calls h.c, ⟨t_evs h.e, fun k e he => ?_⟩, fun k e he => ?_⟩
  · rcases k with _ | _ | _ | k
    · cases he; exact t_key h.k0
    · cases he; exact t_key h.k1
    · cases he; exact t_key h.k2
    · cases he
  · rcases k with _ | _ | _ | k
    · cases he; exact slwn X
    · cases he; exact slwn X
    · cases he; exact slwn X
    · cases he
theorem TwAt.ctx2 {X : World} {b : Nat} (h : TwAt X b) : PwCtx X (.slice (some ⟨b, 0, none⟩) 1 1) (.slice (some ⟨b + 1, 0, none⟩) 3 3) (.slice (some ⟨b + 6, 0, none⟩) 2 3) tS tC ((tE (b + 3)).take 2) (fun _ => []) tK := by
  have h1 := h.ctx
  have hx : ∀ (k : Nat) (e : Ev), ((tE (b + 3)).take 2)[k]? = some e → (tE (b + 3))[k]? = some e := fun k e he => by
    rw [List.getElem?_take] at he
    split at he
    · exact he
    · cases he
  exact ⟨h1.specs, h1.calls, ⟨sl_take h1.key.evs (by simp [tE]), fun k e he => h1.key.key k e (hx k e he)⟩, fun k e he => h1.lst k e (hx k e he)⟩
theorem t_wf (g : Nat) : ∀ e ∈ tE g, EvWf e := by
  intro e he
  simp only [tE, List.mem_cons, List.not_mem_nil, or_false] at he
  rcases he with rfl | rfl | rfl <;> exact ⟨rfl, rfl, rfl, rfl⟩
theorem t_kw {es : List Ev} : ∀ (k : Nat) (e : Ev), es[k]? = some e → ∀ x ∈ tK k, (Lit.int .i64 x).wf = true := by
  intro k e _ x hx
  unfold tK at hx
  repeat' split at hx
  all_goals first | (simp only [List.mem_cons, List.not_mem_nil, or_false] at hx; subst hx; decide) | cases hx
theorem tw_wrong {X : World} {b : Nat} (h : TwAt X b) : Calls Tryz.prog 30 #[.int .i64 2, .slice (some ⟨b, 0, none⟩) 1 1, .slice (some ⟨b + 1, 0, none⟩) 3 3, .slice (some ⟨b + 6, 0, none⟩) 3 3] X fun e w' => e = .returned (.tuple #[.int .i64 1, .int .i64 0]) ∧ Below X.heap.size X w' := by
  refine (linWrong_any 2 _ _ _ tS tC (tE (b + 3)) (fun _ => []) tK X h.ctx (by simp [tE]) t_word).mono ?_
  rintro e w' ⟨hb, ⟨h1, _⟩ | ⟨_, h2, _⟩ | ⟨_, _, L, hL, rfl⟩⟩
  · exact absurd t_lay h1
  · rw [t_ok] at h2; cases h2
  · have hL' : IsOrd tK 3 L := hL
    rw [IsOrd.one hL' t_ord, t_run]
    exact ⟨rfl, hb⟩
theorem tw_wrong2 {X : World} {b : Nat} (h : TwAt X b) : Calls Tryz.prog 30 #[.int .i64 2, .slice (some ⟨b, 0, none⟩) 1 1, .slice (some ⟨b + 1, 0, none⟩) 3 3, .slice (some ⟨b + 6, 0, none⟩) 2 3] X fun e w' => e = .returned (.tuple #[.int .i64 (-1), .int .i64 0]) ∧ Below X.heap.size X w' := by
  refine (linWrong_any 2 _ _ _ tS tC ((tE (b + 3)).take 2) (fun _ => []) tK X h.ctx2 (by simp [tE]) t_word).mono ?_
  rintro e w' ⟨hb, ⟨h1, _⟩ | ⟨_, h2, _⟩ | ⟨_, _, L, hL, rfl⟩⟩
  · exact absurd t_lay h1
  · rw [t_ok2] at h2; cases h2
  · have hL' : IsOrd tK 2 L := hL
    rw [IsOrd.one hL' t_ord2, t_run2]
    exact ⟨rfl, hb⟩
theorem tw_order {X : World} {b : Nat} (h : TwAt X b) : Calls Tryz.prog 55 #[.slice (some ⟨b + 6, 0, none⟩) 3 3] X fun e w' => ∃ g o c, e = .returned (.slice (some ⟨g, o, none⟩) 3 c) ∧ w'.cell? ⟨g, o + 1, none⟩ = some (.int .i64 2) ∧ g < w'.heap.size ∧ 3 ≤ c ∧ c ≤ maxLen ∧ Below X.heap.size X w' := by
  refine (linOrder_any _ (tE (b + 3)) tK X h.ctx.key (by simp [tE])).mono ?_
  rintro e w' ⟨A, c, L, rfl, hs, hL, hb, _⟩
  have hL' : IsOrd tK 3 L := hL
  have hl := IsOrd.one hL' t_ord
  subst hl
  obtain ⟨g, o, rfl, hg, hc⟩ := sln_at hs (show ([0, 2, 1] : List Nat)[1]? = some 2 from rfl)
  obtain ⟨A9, c9, e9, f1, f2, _⟩ := hs
  injection e9 with _ e2 e3
  exact ⟨g, o, c, rfl, hc, hg, by rw [e3]; simpa using f1, by rw [e3]; exact f2, hb⟩
theorem tw_ahead {X : World} {b : Nat} (h : TwAt X b) : Calls Tryz.prog 56 #[.slice (some ⟨b + 6, 0, none⟩) 3 3] X fun e w' => e = .returned (.bool true) ∧ Below X.heap.size X w' := by
  have := linAhead_any _ (tE (b + 3)) tK X h.ctx.key (by simp [tE])
  rwa [t_ahead] at this
theorem tw_bad (b : Nat) : ¬ BadEv 2 tC ((tE b).take 2) tK := by
  rintro ⟨k, e, he, hb⟩
  rcases k with _ | _ | k
  · cases he; cases hb
  · cases he; cases hb
  · cases he
theorem tw_whole {X : World} {b : Nat} (h : TwAt X b) : Calls Tryz.prog 33 #[.int .i64 2, .slice (some ⟨b, 0, none⟩) 1 1, .slice (some ⟨b + 1, 0, none⟩) 3 3, repV (.slice (some ⟨b + 6, 0, none⟩) 3 3) none 0 0 0 0 0 0 0 4 0] X fun e w' => e = .returned (.bool false) ∧ Below X.heap.size X w' := by
  refine (linWhole_any 2 4 _ _ _ tS tC (tE (b + 3)) (fun _ => []) tK none 0 0 0 0 0 0 0 0 X h.ctx (by simp [tE]) t_word (t_wf _) t_kw).mono ?_
  rintro e w' ⟨R, rfl, hR, hb⟩
  rcases R with _ | _
  · exact ⟨rfl, hb⟩
  · rcases (hR.1 rfl).2.wrong with ⟨_, h⟩ | ⟨_, L, hL, h⟩
    · cases h
    · have hL' : IsOrd tK 3 L := hL
      rw [IsOrd.one hL' t_ord, t_run] at h
      cases h
theorem tw_whole2 {X : World} {b : Nat} (h : TwAt X b) : Calls Tryz.prog 33 #[.int .i64 2, .slice (some ⟨b, 0, none⟩) 1 1, .slice (some ⟨b + 1, 0, none⟩) 3 3, repV (.slice (some ⟨b + 6, 0, none⟩) 2 3) none 0 0 0 0 0 0 0 4 0] X fun e w' => e = .returned (.bool true) ∧ Below X.heap.size X w' := by
  refine (linWhole_any 2 4 _ _ _ tS tC ((tE (b + 3)).take 2) (fun _ => []) tK none 0 0 0 0 0 0 0 0 X h.ctx2 (by simp [tE]) t_word (fun e he => t_wf _ e (List.mem_of_mem_take he)) t_kw).mono ?_
  rintro e w' ⟨R, rfl, hR, hb⟩
  have := hR.2 ⟨t_lay, ⟨t_hist2 _, t_ahead2 _, Or.inr ⟨tw_bad _, [0, 1], t_ord2, by rw [t_run2]; rfl⟩, t_in2 _⟩⟩
  subst this
  exact ⟨rfl, hb⟩
set_option maxRecDepth 100000 in
set_option maxHeartbeats 4000000 in
theorem twice_any (w : World) : Calls Tryz.prog 29 #[] w fun e w' => e = .returned (.bool true) ∧ Below w.heap.size w w' := by
  obtain ⟨X, hX⟩ : ∃ X, X = ((((((w.alloc tOS).alloc tOC).alloc tOA).alloc (tOK 2)).alloc (tOK 8)).alloc (tOK 6)).alloc (tOE (w.heap.size + 3)) := ⟨_, rfl⟩
  have hBX : Below w.heap.size w X := by
    rw [hX]
    exact (((((((Below.refl _ _).alloc (Nat.le_refl _) _).alloc (by simp) _).alloc (by simp; omega) _).alloc (by simp; omega) _).alloc (by simp; omega) _).alloc (by simp; omega) _).alloc (by simp; omega) _
  have HT : Hid (TwAt X w.heap.size) := hide (by
    have n1 := heap_alloc_new (w.alloc tOS) tOC
    have n3 := heap_alloc_new (((w.alloc tOS).alloc tOC).alloc tOA) (tOK 2)
    have n4 := heap_alloc_new ((((w.alloc tOS).alloc tOC).alloc tOA).alloc (tOK 2)) (tOK 8)
    have n5 := heap_alloc_new (((((w.alloc tOS).alloc tOC).alloc tOA).alloc (tOK 2)).alloc (tOK 8)) (tOK 6)
    have n6 := heap_alloc_new ((((((w.alloc tOS).alloc tOC).alloc tOA).alloc (tOK 2)).alloc (tOK 8)).alloc (tOK 6)) (tOE (w.heap.size + 3))
    rw [hX]
    refine ⟨?_, ?_, ?_, ?_, ?_, by simpa using n6⟩
    · iterate 6 (refine (Below.heap_alloc _ _ _ (by simp <;> omega)).trans ?_)
      exact heap_alloc_new _ _
    · iterate 5 (refine (Below.heap_alloc _ _ _ (by simp <;> omega)).trans ?_)
      simpa using n1
    · iterate 3 (refine (Below.heap_alloc _ _ _ (by simp <;> omega)).trans ?_)
      simpa using n3
    · iterate 2 (refine (Below.heap_alloc _ _ _ (by simp <;> omega)).trans ?_)
      simpa using n4
    · refine (Below.heap_alloc _ _ _ (by simp <;> omega)).trans ?_
      simpa using n5)
  have HBX := hide hBX
  clear hBX
  have N5 := fun (Y : World) (h : TwAt Y w.heap.size) => tw_whole h
  have N6 := fun (Y : World) (h : TwAt Y w.heap.size) => tw_whole2 h
  unfold repV at N5 N6
  have H5 := hide N5
  have H6 := hide N6
  clear N5 N6
  go_enter Tryz.func29, Tryz.ntmps29
  go_wp2_with fail
  rw [← hX]
  clear hX
  refine (tw_wrong HT.out).mono ?_
  rintro e1 w1 ⟨rfl, hb1⟩
  have HT1 := hide (HT.out.below hb1)
  have HB1 := hide (HBX.out.trans (hb1.mono HBX.out.size))
  clear hb1
  go_wp2_with fail
  refine (tw_order HT1.out).mono ?_
  rintro e2 w2 ⟨g, o, c, rfl, hc, hg, f1, f2, hb2⟩
  have HT2 := hide (HT1.out.below hb2)
  have HB2 := hide (HB1.out.trans (hb2.mono HB1.out.size))
  unfold maxLen at f2
  clear hb2
  go_wp2_with fail
  refine (tw_wrong2 HT2.out).mono ?_
  rintro e3 w3 ⟨rfl, hb3⟩
  have HT3 := hide (HT2.out.below hb3)
  have HB3 := hide (HB2.out.trans (hb3.mono HB2.out.size))
  replace hc := (hb3.cell (p := ⟨g, o + 1, none⟩) hg).trans hc
  clear hb3
  go_wp2_with fail
  refine (tw_ahead HT3.out).mono ?_
  rintro e4 w4 ⟨rfl, hb4⟩
  have HT4 := hide (HT3.out.below hb4)
  have HB4 := hide (HB3.out.trans (hb4.mono HB3.out.size))
  clear hb4 hc
  go_wp2_with fail
  refine (H5.out _ HT4.out).mono ?_
  rintro e5 w5 ⟨rfl, hb5⟩
  have HT5 := hide (HT4.out.below hb5)
  have HB5 := hide (HB4.out.trans (hb5.mono HB4.out.size))
  clear hb5
  go_wp2_with fail
  refine (H6.out _ HT5.out).mono ?_
  rintro e6 w6 ⟨rfl, hb6⟩
  have HB6 := hide (HB5.out.trans (hb6.mono HB5.out.size))
  clear hb6
  go_wp2
  go_ret
  exact ⟨rfl, HB6.out⟩
end Go.Proofs.YtmiimpmfkjcjlaaGreat

namespace Go.Proofs.YtmiimpmfkjcjlaaGreat
open Go.RowKit
theorem sizesT_get {n : Int} {l : List Sp} {k : Nat} {s : Sp} (h : l[k]? = some s) : (sizesT n l)[k]? = some (sizeT n s.kind s.p s.q) := by unfold sizesT; rw [List.getElem?_map, h]; rfl
set_option maxRecDepth 100000 in
set_option maxHeartbeats 2000000 in
theorem bases_any (n : Int) (A : Option Addr) (m c : Nat) (l : List Sp) (w : World) (h : SlSp w (.slice A m c) l) (hm : l.length = m) (hm8 : m ≤ 8) (hn1 : 1 ≤ n) (hn2 : n ≤ 16) (hok : ∀ s ∈ l, sizeE n s = 0) :
    Calls Tryz.prog 64 #[.int .i64 n, .slice A m c] w (RegPost (sizesT n l) w) := by
  have hZ : Hid (∀ x ∈ sizesT n l, 0 ≤ x) := by
    intro x hx
    obtain ⟨s, hs, rfl⟩ := List.mem_map.1 hx
    have := sizeT_bd (hok s hs)
    omega
  have hM := hide hm
  have HH := hide h
  have HOK := hide hok
  have hlen : Hid ((sizesT n l).length = m) := by show _ = _; simp [sizesT, hm]
  obtain ⟨j0, hj, hj0, hj1, hj2⟩ := info_parts info_int
  clear hm h hok
  go_enter Tryz.func64, Tryz.ntmps64
  go_wp2
  go_loopw [7, 8, 9, 14] (fun out en lg i wr => ∃ (k : Nat) (E : Int) (b : Bool) (ys : List Int), k ≤ m ∧ en = .int .i64 E ∧ lg = .bool b ∧ i = .int .i64 k ∧ 0 ≤ E ∧ E ≤ 65536 ∧ Hid (b = false → psum (sizesT n l) k = E ∧ ys = begins (sizesT n l) k) ∧ Hid (b = true → 65536 < (sizesT n l).sum) ∧ Hid (IOwn wr w.heap.size out k ys) ∧ Hid (Below w.heap.size w wr)) (fun _ _ _ i _ => m - (intOf i).toNat)
  case atStart => exact ⟨0, 0, false, [], Nat.zero_le _, rfl, rfl, rfl, by decide, by decide, hide (fun _ => ⟨psum_zero _, rfl⟩), hide (fun h => by cases h), hide (World.ownsRow_nil _ _ _ _), hide (Below.refl _ _)⟩
  case round =>
    obtain ⟨k, E, lg, ys, hk, rfl, rfl, rfl, hE0, hE1, hF, hT, hown, hB⟩ := hrel
    by_cases hlt : k < m
    · obtain ⟨s, hsk⟩ : ∃ s, l[k]? = some s := ⟨_, List.getElem?_eq_getElem (by have := hM.out; omega)⟩
      obtain ⟨A', c', e, _, _, h3⟩ := HH.out.below hB.out (Nat.le_refl _)
      obtain ⟨b, oo, e', hb, hc⟩ := h3 k s hsk
      rw [hM.out] at e
      cases e
      cases e'
      obtain ⟨c0, c1, c2⟩ := spec_cells hc
      have hsE := HOK.out s (List.mem_of_getElem? hsk)
      obtain ⟨_, hkk, hr⟩ := sizeE_zero hsE
      have hbd := sizeT_bd hsE
      have NS1 := fun W => psize_any n s hn1 hn2 hkk.1 hkk.2 W
      rw [if_pos hr] at NS1
      have hps := psum_succ (sizesT_get (n := n) hsk)
      generalize sizeT n s.kind s.p s.q = x at *
      have HPS := hide hps
      have q0 : (0 : Int) ≤ (k : Int) := by omega
      have q1 : (k : Int) < (m : Int) := by omega
      have d0 : decide (x < 0) = false := by simp; omega
      have hmono := psum_mono hZ.out (show k + 1 ≤ (sizesT n l).length by rw [hlen.out]; omega)
      have HMO := hide hmono
      clear h3 hsk hc hsE hkk hr hps hmono
      go_wp2_with fail
      refine (NS1 _).mono ?_
      rintro e w2 ⟨rfl, hb2⟩
      have hB2 := hB.out.trans (hb2.mono hB.out.size)
      have hown' := World.ownsRow.kept hown.out (grown_of_below hb2 none) (by by_cases hh : Value.ownBlock u7 = none; (exact Or.inl hh); exact Or.inr hh)
      have hsz2 := hB2.size
      clear hb2 hown hB
      by_cases hbig : x ≤ 65536 - E
      · have d1 : decide (65536 - E < x) = false := by simp; omega
        have HT' : Hid (lg = false → psum (sizesT n l) (k + 1) = E + x ∧ ys ++ [E] = begins (sizesT n l) (k + 1)) := by
          intro hlg
          obtain ⟨a1, a2⟩ := hF.out hlg
          exact ⟨by rw [HPS.out, a1], by rw [begins_succ, a2, a1]⟩
        go_wp2_with (at_builtin; refine wpList_append_own_at _ rfl _ _ 42 rfl w.heap.size 3 j0 (.int .i64 0) 1 8 Tryz.underlying42 hj hj0 hj1 hj2 rfl (by decide) _ k _ rfl (hown'.alloc _) ⟨w2.heap.size, 0, none⟩ 1 1 [.int .i64 E] rfl rfl (new_one _ _ _) (by simp [Value.oneCell']) (by unfold maxLen; omega) (by omega) (by simp; omega) ?_; intro v5 w5 hown5 hgrow _ _; have HO : Hid (IOwn w5 w.heap.size v5 (k + 1) (ys ++ [E])) := hide (by unfold IOwn; rw [List.map_append]; exact hown5); have HB := hide ((hB2.alloc hsz2 _).grown hgrow (by simp; omega) (fun j hj => (hown'.lt j hj).1)); clear hown5 hgrow hown' hB2)
        go_roundw
        case rel => exact ⟨k + 1, E + x, lg, ys ++ [E], by omega, rfl, rfl, by go_num, by omega, by omega, HT', hT, HO, HB⟩
        case measure => simp [intOf] <;> omega
      · have d1 : decide (65536 - E < x) = true := by simp; omega
        have HT' : Hid (65536 < (sizesT n l).sum) := by
          show 65536 < (sizesT n l).sum
          by_cases hlg : lg = true
          · exact hT.out hlg
          · have a1 := (hF.out (by simpa using hlg)).1
            have a2 := HMO.out
            rw [psum_all, HPS.out, a1] at a2
            omega
        go_wp2_with (at_builtin; refine wpList_append_own_at _ rfl _ _ 42 rfl w.heap.size 3 j0 (.int .i64 0) 1 8 Tryz.underlying42 hj hj0 hj1 hj2 rfl (by decide) _ k _ rfl (hown'.alloc _) ⟨w2.heap.size, 0, none⟩ 1 1 [.int .i64 E] rfl rfl (new_one _ _ _) (by simp [Value.oneCell']) (by unfold maxLen; omega) (by omega) (by simp; omega) ?_; intro v5 w5 hown5 hgrow _ _; have HO : Hid (IOwn w5 w.heap.size v5 (k + 1) (ys ++ [E])) := hide (by unfold IOwn; rw [List.map_append]; exact hown5); have HB := hide ((hB2.alloc hsz2 _).grown hgrow (by simp; omega) (fun j hj => (hown'.lt j hj).1)); clear hown5 hgrow hown' hB2)
        go_roundw
        case rel => exact ⟨k + 1, E, true, ys ++ [E], by omega, by first | rfl | go_num, rfl, by go_num, by omega, by omega, hide (fun h => by cases h), hide (fun _ => HT'.out), HO, HB⟩
        case measure => simp [intOf] <;> omega
    · obtain rfl : k = m := by omega
      cases lg
      · obtain ⟨a1, a2⟩ := hF.out rfl
        have HA1 := hide a1
        subst a2
        clear a1
        go_wp2
        go_ret3
        have hs : (sizesT n l).sum = E := by rw [← psum_all, hlen.out]; exact HA1.out
        exact regPost_ok (by omega) hs (by rw [hlen.out]; exact hown.out) (by rw [hlen.out]; unfold maxLen; omega) hB.out
      · have ht := hT.out rfl
        go_wp2
        go_ret3
        exact regPost_no (by omega) hB.out
set_option maxRecDepth 100000 in
set_option maxHeartbeats 2000000 in
theorem refLay_any (n : Int) (A : Option Addr) (m c : Nat) (l : List Sp) (w : World) (h : SlSp w (.slice A m c) l) (hm : l.length = m) :
    Calls Tryz.prog 31 #[.int .i64 n, .slice A m c] w fun e w' => e = .returned (.int .i64 (layE n l)) ∧ Below w.heap.size w w' := by
  have hle : m ≤ maxLen := by obtain ⟨_, _, e, h1, h2, _⟩ := h; cases e; omega
  by_cases hn : 1 ≤ n ∧ n ≤ 16
  · have n0 : decide (n < 1) = false := by simp; omega
    have n1 : decide (16 < n) = false := by simp; omega
    by_cases h8 : 8 < m
    · have hE : Hid (layE n l = 3) := by show _ = _; unfold layE; rw [if_neg (by omega), if_pos (by omega)]
      have h8' : (8 : Int) < (m : Int) := by omega
      clear hm hn hle
      go_enter Tryz.func31, Tryz.ntmps31
      go_wp2
      go_ret
      exact ⟨ret_int hE.out.symm, by (repeat' (first | exact Below.refl _ _ | assumption | refine Below.drew ?_ | refine below_drewN ?_ _ | refine Below.alloc ?_ (by simp <;> omega) _ | refine Below.setCell ?_ (by simp <;> omega) _))⟩
    · have h8' : ¬ (8 : Int) < (m : Int) := by omega
      have hm0 : (m : Int) ≤ 8 := by omega
      have hM := hide hm
      have HH := hide h
      have HN := hide hn
      have NS := fun s W => refSize_any n s W
      clear hm hn hle h
      go_enter Tryz.func31, Tryz.ntmps31
      go_wp2
      go_loopw [22] (fun i wr => ∃ (k : Nat), k ≤ m ∧ i = .int .i64 k ∧ Hid (firstE n l = firstE n (l.drop k)) ∧ Hid (Below w.heap.size w wr)) (fun i _ => m - (intOf i).toNat)
      case atStart => exact ⟨0, Nat.zero_le _, rfl, hide rfl, hide (Below.refl _ _)⟩
      case round =>
        obtain ⟨k, hk, rfl, hF, hB⟩ := hrel
        by_cases hlt : k < m
        · obtain ⟨s, hsk⟩ : ∃ s, l[k]? = some s := ⟨_, List.getElem?_eq_getElem (by have := hM.out; omega)⟩
          obtain ⟨A', c', e, _, _, h3⟩ := HH.out.below hB.out (Nat.le_refl _)
          obtain ⟨b, oo, e', hb, hc⟩ := h3 k s hsk
          rw [hM.out] at e
          cases e
          cases e'
          obtain ⟨c0, c1, c2⟩ := spec_cells hc
          have q0 : (0 : Int) ≤ (k : Int) := by omega
          have q1 : (k : Int) < (m : Int) := by omega
          have hstep := firstE_step (n := n) hsk
          have NS1 := fun W => NS s W
          generalize sizeV n s = V at NS1
          clear h3 hsk hc
          by_cases hE : sizeE n s = 0
          · rw [if_pos hE] at hstep
            rw [hE] at NS1
            have HF := hide hstep
            clear hstep hE
            go_wp2_with fail
            refine (NS1 _).mono ?_
            rintro e w2 ⟨rfl, hb2⟩
            have HB2 := hide (hB.out.trans (hb2.mono hB.out.size))
            clear hb2
            go_wp2
            go_roundw
            case rel => exact ⟨k + 1, by omega, by go_num, hide (by rw [hF.out, HF.out]), HB2⟩
            case measure => simp [intOf] <;> omega
          · rw [if_neg hE] at hstep
            obtain ⟨E, hEE⟩ : ∃ E, sizeE n s = E := ⟨_, rfl⟩
            rw [hEE] at NS1 hE hstep
            have HL : Hid (layE n l = E) := by
              have hn := HN.out
              have hf := hF.out
              show _ = _
              unfold layE
              rw [if_neg (by omega), if_neg (by have := hM.out; omega), hf, hstep, if_neg hE]
            have he : (E != 0) = true := by simpa using hE
            clear hEE hstep
            go_wp2_with fail
            refine (NS1 _).mono ?_
            rintro e w2 ⟨rfl, hb2⟩
            go_wp2
            go_ret
            exact ⟨ret_int HL.out.symm, hB.out.trans (hb2.mono hB.out.size)⟩
        · obtain rfl : k = m := by omega
          have h0 : firstE n l = 0 := by rw [hF.out, ← hM.out, List.drop_length]; rfl
          have NB := fun W h => bases_any n A k c l W h hM.out (by omega) HN.out.1 HN.out.2 (firstE_all h0)
          have HL : Hid (layE n l = regE (sizesT n l)) := by
            have hn := HN.out
            show _ = _
            unfold layE
            rw [if_neg (by omega), if_neg (by have := hM.out; omega), if_pos h0]
          unfold RegPost at NB
          have hHH := HH.out.below hB.out (Nat.le_refl _)
          generalize regE (sizesT n l) = E at *
          generalize regEnd (sizesT n l) = EN at *
          generalize regL (sizesT n l) = RL at *
          clear h0
          go_wp2_with fail
          refine (NB _ hHH).mono ?_
          rintro e w2 ⟨u, rfl, hs2, hb2⟩
          go_wp2
          go_ret
          exact ⟨ret_int HL.out.symm, hB.out.trans (hb2.mono hB.out.size)⟩
  · have hE : Hid (layE n l = 1) := by show _ = _; unfold layE; rw [if_pos hn]
    rcases (by omega : n < 1 ∨ 1 ≤ n ∧ 16 < n) with h0 | ⟨h0, h1⟩
    · have n0 : decide (n < 1) = true := by simp; omega
      clear hm hn hle
      go_enter Tryz.func31, Tryz.ntmps31
      go_wp2
      go_ret
      exact ⟨ret_int hE.out.symm, by (repeat' (first | exact Below.refl _ _ | assumption | refine Below.drew ?_ | refine below_drewN ?_ _ | refine Below.alloc ?_ (by simp <;> omega) _ | refine Below.setCell ?_ (by simp <;> omega) _))⟩
    · have n0 : decide (n < 1) = false := by simp; omega
      have n1 : decide (16 < n) = true := by simp; omega
      clear hm hn hle
      go_enter Tryz.func31, Tryz.ntmps31
      go_wp2
      go_ret
      exact ⟨ret_int hE.out.symm, by (repeat' (first | exact Below.refl _ _ | assumption | refine Below.drew ?_ | refine below_drewN ?_ _ | refine Below.alloc ?_ (by simp <;> omega) _ | refine Below.setCell ?_ (by simp <;> omega) _))⟩
end Go.Proofs.YtmiimpmfkjcjlaaGreat

namespace Go.Proofs.YtmiimpmfkjcjlaaGreat
open Go.RowKit
set_option maxRecDepth 100000 in
set_option maxHeartbeats 2000000 in
theorem many28 (n ticks : Int) (As A Ap : Option Addr) (ms cS m c mp cp : Nat) (L : Value) (es : List Ev) (w : World) (hs : ms ≤ maxLen) (hm : m ≤ maxLen) (hp : mp ≤ maxLen) (h : SlEv w L es) :
    Calls Tryz.prog 28 #[.agg #[.int .i64 n, .slice As ms cS, .slice A m c, .slice Ap mp cp, L, .int .i64 ticks]] w fun e w' => ∃ B : Bool, e = .returned (.bool B) ∧ (B = false → es.length ≤ 100) ∧ Below w.heap.size w w' := by
  obtain ⟨Ae, ce, rfl, g1, g2, g3⟩ := h
  have he63 : (es.length : Int) ≤ 9223372036854775807 := by unfold maxLen at g2; omega
  have N0 := fun W => large_any n As A Ap ms cS m c mp cp W hs hm hp
  generalize largeB ms m mp = R at *
  obtain ⟨W1, hW1⟩ : ∃ W, W = w.alloc (.cells #[.int .i64 n, .slice As ms cS, .slice A m c, .slice Ap mp cp, .slice Ae es.length ce, .int .i64 ticks] 73) := ⟨_, rfl⟩
  have HB1 : Hid (Below w.heap.size w W1) := hide (by rw [hW1]; exact (Below.refl _ _).alloc (Nat.le_refl _) _)
  have r4 : W1.cell? ⟨w.heap.size, 4, none⟩ = some (.slice Ae es.length ce) := by rw [hW1]; exact cell_of_row _ _ 4 _ _ _ (heap_alloc_new _ _)
  have rz : w.heap.size < W1.heap.size := by rw [hW1]; simp
  go_enter Tryz.func28, Tryz.ntmps28
  go_wp2_with fail
  rw [← hW1]
  clear hW1
  refine (N0 _).mono ?_
  rintro e w2 ⟨rfl, hb2⟩
  have HB2 := hide (HB1.out.trans (hb2.mono HB1.out.size))
  replace r4 := (hb2.cell (p := ⟨w.heap.size, 4, none⟩) rz).trans r4
  replace rz : w.heap.size < w2.heap.size := Nat.lt_of_lt_of_le rz hb2.size
  clear hb2 N0
  cases R
  · by_cases h1 : 100 < es.length
    · have d0 : decide ((100 : Int) < (es.length : Int)) = true := by simp; omega
      have d1 : decide (100 < es.length) = true := by simp; omega
      clear h1
      go_wp2
      go_ret
      exact ⟨true, rfl, (fun h => by cases h), HB2.out⟩
    · have d0 : decide ((100 : Int) < (es.length : Int)) = false := by simp; omega
      have d1 : decide (100 < es.length) = false := by simp; omega
      have H1 := hide h1
      clear h1
      go_wp2
      go_loopw [16] (fun i wr => ∃ k : Nat, k ≤ es.length ∧ i = .int .i64 k ∧ wr = w2) (fun i _ => es.length - (intOf i).toNat)
      case atStart => exact ⟨0, Nat.zero_le _, rfl, rfl⟩
      case round =>
        obtain ⟨k, hk, rfl, rfl⟩ := hrel
        by_cases hlt : k < es.length
        · obtain ⟨e, he⟩ : ∃ e, es[k]? = some e := ⟨_, List.getElem?_eq_getElem hlt⟩
          obtain ⟨g, o, rfl, hg, hce⟩ := g3 k e he
          have u7 := (ev_cells (hce.of_block (w' := wr) (HB2.out.block g hg))).2.2.2.2.2.2.2
          have q0 : (0 : Int) ≤ (k : Int) := by omega
          have q1 : (k : Int) < (es.length : Int) := by omega
          clear he hce
          by_cases hk1 : 100 < e.kN
          · have d2 : decide ((100 : Int) < (e.kN : Int)) = true := by simp; omega
            have d3 : decide (100 < e.kN) = true := by simp; omega
            clear hk1
            go_wp2
            go_ret
            exact ⟨true, rfl, (fun h => by cases h), HB2.out⟩
          · have d2 : decide ((100 : Int) < (e.kN : Int)) = false := by simp; omega
            have d3 : decide (100 < e.kN) = false := by simp; omega
            clear hk1
            go_wp2
            go_roundw
            case rel => exact ⟨k + 1, by omega, by go_num, trivial⟩
            case measure => simp [intOf] <;> omega
        · have d9 : decide ((k : Int) < (es.length : Int)) = false := by simp; omega
          have d8 : decide (k < es.length) = false := by simp; omega
          go_wp2
          go_ret
          exact ⟨false, rfl, fun _ => by have := H1.out; omega, HB2.out⟩
  · go_wp2
    go_ret
    exact ⟨true, rfl, (fun h => by cases h), HB2.out⟩
end Go.Proofs.YtmiimpmfkjcjlaaGreat
