import Derived.Test.YtmiimpmfkjcjlaaGreatBun28
namespace Go.Proofs.YtmiimpmfkjcjlaaGreat
open Go.RowKit
theorem len_pos_of {n : Int} {s : Sp} {st : List Int} (hR : rightM n s st = true) (h8 : s.kind ≠ 8) : sizeE n s = 0 ∧ 0 < st.length ∧ st.length ≤ 80 := by
  unfold rightM at hR
  simp only [Bool.and_eq_true, decide_eq_true_eq] at hR
  obtain ⟨h1, h2⟩ := hR
  have h3 := newM_len n s h1
  obtain ⟨⟨g1, g2⟩, ⟨g3, g4⟩, g5⟩ := sizeE_zero h1
  unfold shapeM at h2
  refine ⟨h1, ?_⟩
  by_cases h7 : s.kind = 7
  · rw [if_pos h7] at h2
    simp only [Bool.and_eq_true, decide_eq_true_eq] at h2
    obtain ⟨h4, h5⟩ := h2
    refine ⟨h4, ?_⟩
    unfold rightB17 at h5
    repeat' split at h5
    all_goals first | (simp at h5; omega) | omega
  · rw [if_neg h7, if_neg h8, decide_eq_true_eq] at h2
    rw [h2]
    refine ⟨?_, h3⟩
    obtain ⟨k, p, q⟩ := s
    simp only at g3 g4 g5 h7 h8
    rcases (by omega : k = 0 ∨ k = 1 ∨ k = 2 ∨ k = 3 ∨ k = 4 ∨ k = 5 ∨ k = 6 ∨ k = 9) with rfl | rfl | rfl | rfl | rfl | rfl | rfl | rfl
    all_goals
      unfold rightT at g5
      simp at g5
      simp [newM]
      try omega
set_option maxRecDepth 100000 in
theorem rapply_any (n : Int) (s : Sp) (c : Cl) (A : Option Addr) (m vc : Nat) (st : List Int) (w : World) (h : SlW w (.slice A m vc) st) (hl : st.length ≤ 10000) (hR : rightM n s st = true) (ht0 : 0 ≤ c.thread) (ht1 : c.thread < n) (ha : U64 c.a) (hb : U64 c.b) (hu : ∀ z ∈ st, U64 z) :
    Calls Tryz.prog 47 #[.int .i64 n, spV s, .slice A m vc, clV c] w (RPost w.heap.size (applyM n s st c) w) := by
  have hA : applyM n s st c = if ¬ (0 ≤ c.kind ∧ c.kind < actsT s.kind s.p) then (st, anE 9) else actM n s st c := by
    unfold applyM
    rw [if_neg (by rw [hR]; simp; omega)]
  rw [hA]
  clear hA
  have hE : sizeE n s = 0 := by
    unfold rightM at hR
    simp only [Bool.and_eq_true, decide_eq_true_eq] at hR
    exact hR.1
  have hsh : shapeM n s st = true := by
    unfold rightM at hR
    simp only [Bool.and_eq_true, decide_eq_true_eq] at hR
    exact hR.2
  obtain ⟨⟨hn1, hn2⟩, ⟨hk0, hk9⟩, hrt⟩ := sizeE_zero hE
  have hlp := fun h8 => len_pos_of hR h8
  obtain ⟨k, p, q⟩ := s
  simp only at hk0 hk9 hrt hlp hsh ⊢
  rcases (by omega : k = 0 ∨ k = 1 ∨ k = 2 ∨ k = 3 ∨ k = 4 ∨ k = 5 ∨ k = 6 ∨ k = 7 ∨ k = 8 ∨ k = 9) with rfl | rfl | rfl | rfl | rfl | rfl | rfl | rfl | rfl | rfl
  · obtain ⟨_, l1, l2⟩ := hlp (by decide)
    refine rapply_K0 n p q c A m vc st w _ h (by omega) (fun v W hO hz => ?_)
    refine rcell_any ⟨0, p, q⟩ c (w.heap.size + 3) st.length v st W hO ?_ l1 (by omega) hz ha hb hu
    unfold shapeM newM at hsh
    simp at hsh
    show p = _
    omega
  · obtain ⟨_, l1, l2⟩ := hlp (by decide)
    refine rapply_K1 n p q c A m vc st w _ h (by omega) (fun v W hO hz => ?_)
    exact rcons_any c (w.heap.size + 3) st.length v st W hO l1 hz ha hu
  · have h1 : st.length = 1 := by
      unfold shapeM newM at hsh
      simpa using hsh
    obtain ⟨x, rfl⟩ := bell h1
    exact rapply_K2 n p q c A m vc x w h (hu x (by simp))
  · obtain ⟨_, l1, l2⟩ := hlp (by decide)
    refine rapply_K3 n p q c A m vc st w _ h (by omega) (fun v W hO hz => ?_)
    exact radder_any ⟨3, p, q⟩ c (w.heap.size + 3) st.length v st W hO l1 hz rfl
  · obtain ⟨_, l1, l2⟩ := hlp (by decide)
    refine rapply_K4 n p q c A m vc st w _ h (by omega) (fun v W hO hz => ?_)
    unfold rightT at hrt
    simp at hrt
    exact rmax_any ⟨4, p, q⟩ c (w.heap.size + 3) st.length v st W hO l1 hz ha hu (by show 1 ≤ p; omega) (by show p ≤ 12; omega)
  · obtain ⟨_, l1, l2⟩ := hlp (by decide)
    have hwt : IntKind.u64.wrap c.thread = c.thread := by rw [IntKind.wrap_u64]; omega
    refine rapply_K5 n p q c A m vc st w _ h (by omega) hwt (fun v W hO hz => ?_)
    unfold rightT at hrt
    simp at hrt
    have h2 : st.length = (2 * n).toNat := by
      unfold shapeM newM at hsh
      simpa using hsh
    obtain ⟨nn, rfl⟩ := Int.eq_ofNat_of_zero_le (by omega : 0 ≤ n)
    obtain ⟨tt, hct⟩ := Int.eq_ofNat_of_zero_le ht0
    by_cases hk1 : c.kind = 1
    · have := rsnap_1 nn st.length p nn c.thread c ⟨0, 0, 0, c.thread, c.a, 0⟩ (w.heap.size + 3) v st W hO (by omega) (by omega) hz hk1
      rw [if_neg (by rw [hk1]; show ¬¬ ((0 : Int) ≤ 1 ∧ (1 : Int) < 2); decide)]
      unfold actM partsM
      simpa [hk1] using this
    · have := rsnap_any nn tt st.length p nn c ⟨0, 0, 0, c.thread, c.a, 0⟩ (w.heap.size + 3) v st W hO (by omega) (by omega) (by omega) hz ⟨ht0, by show c.thread < _; omega⟩ hu (by omega) (by omega) (by omega) hct hk1
      rw [← hct] at this
      exact this
  · obtain ⟨_, l1, l2⟩ := hlp (by decide)
    refine rapply_K6 n p q c A m vc st w _ h (by omega) (fun v W hO hz => ?_)
    unfold rightT at hrt
    simp at hrt
    have h2 : st.length = (p + n).toNat := by
      unfold shapeM newM at hsh
      simpa using hsh
    obtain ⟨pp, rfl⟩ := Int.eq_ofNat_of_zero_le (by omega : 0 ≤ p)
    obtain ⟨tt, hct⟩ := Int.eq_ofNat_of_zero_le ht0
    by_cases hk1 : c.kind = 1
    · have := rsnap_1 pp st.length q n c.thread c c (w.heap.size + 3) v st W hO (by omega) (by omega) hz hk1
      rw [if_neg (by rw [hk1]; show ¬¬ ((0 : Int) ≤ 1 ∧ (1 : Int) < 2); decide)]
      unfold actM partsM
      simpa [hk1] using this
    · have := rsnap_any pp tt st.length q n c c (w.heap.size + 3) v st W hO (by omega) (by omega) (by omega) hz ha hu (by omega) (by omega) (by omega) hct hk1
      rw [← hct] at this
      exact this
  · obtain ⟨_, l1, l2⟩ := hlp (by decide)
    refine rapply_K7 n p q c A m vc st w _ h (by omega) (fun v W hO hz => ?_)
    unfold rightT at hrt
    simp at hrt
    have hr : rightB17 p (st.length - 1) = true := by
      unfold shapeM at hsh
      simp at hsh
      exact hsh.2
    have hac : actsT 7 p = kindsI p := rfl
    rw [hac]
    by_cases hk : 0 ≤ c.kind ∧ c.kind < kindsI p
    · rw [if_neg (by simpa using hk)]
      show Calls _ _ _ _ (RPost _ (sharedM ⟨7, p, q⟩ st c) W)
      by_cases hf1 : 4294967296 ≤ c.a
      · exact runiv_full ⟨7, p, q⟩ c (w.heap.size + 3) st.length v st W hO l1 hz hk.1 hk.2 (by show 0 ≤ q; omega) (by show q ≤ 1000; omega) (by omega) (Or.inl hf1)
      · by_cases hf2 : q ≤ at0 st 0
        · exact runiv_full ⟨7, p, q⟩ c (w.heap.size + 3) st.length v st W hO l1 hz hk.1 hk.2 (by show 0 ≤ q; omega) (by show q ≤ 1000; omega) (by omega) (Or.inr hf2)
        · exact runiv_ok ⟨7, p, q⟩ c (w.heap.size + 3) st.length v st W hO l1 hz hk.1 hk.2 (by show 0 ≤ q; omega) (by show q ≤ 1000; omega) (by omega) hf1 hf2 hr hu ha
    · rw [if_pos hk]
      exact runiv_no ⟨7, p, q⟩ c (w.heap.size + 3) st.length v st W hO l1 hz hk
  · refine rapply_K8 n p q c A m vc st w _ h (by omega) (fun v W hO hz => ?_)
    have he : st.length % 2 = 0 := by
      unfold shapeM at hsh
      simpa using hsh
    exact rqueue_any c (w.heap.size + 3) st.length v st W hO (by omega) he hz ha ht0 (by omega)
  · obtain ⟨_, l1, l2⟩ := hlp (by decide)
    refine rapply_K9 n p q c A m vc st w _ h (by omega) (fun v W hO hz => ?_)
    exact rpin_any ⟨9, p, q⟩ c (w.heap.size + 3) st.length v st W hO l1 (by omega) hz ha
end Go.Proofs.YtmiimpmfkjcjlaaGreat

namespace Go.Proofs.YtmiimpmfkjcjlaaGreat
open Go.RowKit
theorem seqL_rt {n : Int} {xs : List Int} {kind a : Int} (hr : rightB17 n xs.length = true) (_hk0 : 0 ≤ kind) (_hk1 : kind < kindsI n) : rightB17 n (seqL n xs kind a).length = true := by
  rcases cases8 n with (rfl | rfl | rfl | rfl | rfl | rfl | rfl | rfl) | hn
  · have hlen : xs.length = 1 := by simpa [rightB17] using hr
    simp [rightB17, seqL]; split <;> simp [hlen]
  · have hlen : xs.length = 1 := by simpa [rightB17] using hr
    simp [rightB17, seqL]; split <;> simp [hlen]
  · have hlen : xs.length ≤ 8 := by simpa [rightB17] using hr
    simp only [rightB17, seqL, rowL]
    simp
    repeat' split
    all_goals first
      | omega
      | (simp; omega)
      | (rw [List.length_eraseIdx]; split <;> omega)
  · have hlen : xs.length ≤ 8 := by simpa [rightB17] using hr
    simp only [rightB17, seqL, rowL]
    simp
    repeat' split
    all_goals first
      | omega
      | (simp; omega)
      | (rw [List.length_eraseIdx]; split <;> omega)
  · simp [rightB17, seqL, setL]
    repeat' split
    all_goals simp
  · have hlen : xs.length = 1 := by simpa [rightB17] using hr
    simp [rightB17, seqL]; split <;> simp [hlen]
  · simp [rightB17, seqL, swapL]
    repeat' split
    all_goals simp
  · have hlen : xs.length = 8 := by simpa [rightB17] using hr
    simp [rightB17, seqL, tabL]
    repeat' split
    all_goals simp [hlen]
  · exfalso
    unfold rightB17 at hr
    rw [if_neg (by omega), if_neg (by omega), decide_eq_false (by omega : ¬ n = 7)] at hr
    simp at hr
theorem u64_mod (x : Int) : U64 (x % 18446744073709551616) := ⟨by omega, by omega⟩
theorem u64_zero : U64 0 := ⟨by decide, by decide⟩
theorem u64_at0 {st : List Int} (hu : ∀ z ∈ st, U64 z) (i : Nat) : U64 (at0 st i) := by
  unfold at0
  rcases h : st[i]? with _ | x
  · exact u64_zero
  · exact hu x (List.mem_of_getElem? h)
theorem u64_set {st : List Int} (hu : ∀ z ∈ st, U64 z) (i : Nat) {v : Int} (hv : U64 v) : ∀ z ∈ st.set i v, U64 z := by
  intro z hz
  rcases List.mem_or_eq_of_mem_set hz with h | h
  · exact hu z h
  · rw [h]; exact hv
theorem hd0_u64 {xs : List Int} (hu : ∀ z ∈ xs, U64 z) : U64 (hd0 xs) := by
  unfold hd0
  rcases xs with _ | ⟨x, l⟩
  · exact u64_zero
  · exact hu x (by simp)
theorem seqL_u64 {n : Int} {xs : List Int} {kind a : Int} (hu : ∀ z ∈ xs, U64 z) (ha : U64 a) : ∀ z ∈ seqL n xs kind a, U64 z := by
  have hrow : ∀ p, ∀ z ∈ rowL p xs kind a, U64 z := by
    intro p z hz
    unfold rowL at hz
    repeat' split at hz
    · exact hu z hz
    · rcases List.mem_append.1 hz with h | h
      · exact hu z h
      · simp at h; rw [h]; exact ha
    · exact hu z hz
    · exact hu z (List.mem_of_mem_eraseIdx hz)
    · exact hu z hz
  have hh := hd0_u64 hu
  intro z hz
  unfold seqL at hz
  split at hz
  · split at hz
    · exact hu z hz
    · simp at hz; rw [hz]; exact ha
  split at hz
  · split at hz
    · exact hu z hz
    · simp at hz; rw [hz, IntKind.wrap_u64]; exact u64_mod _
  split at hz
  · exact hrow _ z hz
  split at hz
  · exact hrow _ z hz
  split at hz
  · unfold setL at hz
    split at hz
    · simp at hz; rw [hz]; exact hh
    · rename_i h64
      obtain ⟨sf, _⟩ := set_facts hh.1 hh.2 ha.1 (by omega)
      have hp := sf.pos
      split at hz
      · split at hz
        · rename_i h0
          simp at hz
          have := sf.or1 h0
          rw [hz]
          exact ⟨by have := hh.1; omega, this⟩
        · simp at hz; rw [hz]; exact hh
      · split at hz
        · split at hz
          · rename_i h1
            simp at hz
            have := sf.not1 h1
            rw [hz]
            exact ⟨this, by have := hh.2; omega⟩
          · simp at hz; rw [hz]; exact hh
        · simp at hz; rw [hz]; exact hh
  split at hz
  · split at hz
    · exact hu z hz
    · simp at hz
      rw [hz]
      obtain ⟨a0, a1⟩ := ha
      obtain ⟨h0, h1⟩ := hh
      exact ⟨by omega, by omega⟩
  split at hz
  · unfold swapL at hz
    obtain ⟨a0, a1⟩ := ha
    split at hz
    · simp at hz; rw [hz]; exact hh
    · split at hz
      · simp at hz; rw [hz]; exact ⟨by omega, by omega⟩
      · simp at hz; rw [hz]; exact hh
  · unfold tabL at hz
    split at hz
    · exact hu z hz
    · split at hz
      · exact u64_set hu _ ⟨by have := ha.1; omega, by omega⟩ z hz
      · exact hu z hz
theorem actM_u64 {n : Int} {s : Sp} {st : List Int} {c : Cl} (hE : sizeE n s = 0) (hu : ∀ z ∈ st, U64 z) (ha : U64 c.a) (hb : U64 c.b) (hc : U64 c.c) (ht0 : 0 ≤ c.thread) (ht1 : c.thread < 100) (hk0 : 0 ≤ c.kind) (hk1 : c.kind < actsT s.kind s.p) : ∀ z ∈ (actM n s st c).1, U64 z := by
  obtain ⟨_, _, hrt⟩ := sizeE_zero hE
  unfold rightT at hrt
  unfold actM
  have h0 := fun i => u64_at0 hu i
  obtain ⟨a0, a1⟩ := ha
  split
  · unfold cellM
    repeat' split
    all_goals first
      | exact hu
      | exact u64_set hu _ hb
      | exact u64_set hu _ hc
      | exact u64_set hu _ (u64_mod _)
  split
  · rename_i h1
    have hk2 : c.kind < 2 := by rw [h1] at hk1; exact hk1
    unfold consM
    repeat' split
    all_goals first
      | exact hu
      | exact u64_set hu _ ⟨by omega, by omega⟩
  split
  · unfold numM
    repeat' split
    all_goals first
      | exact hu
      | exact u64_set hu _ (u64_mod _)
  split
  · unfold maxM
    repeat' split
    all_goals first
      | exact hu
      | (have := h0 0; obtain ⟨h1, h2⟩ := this; exact u64_set hu _ ⟨by omega, by omega⟩)
  split
  · rename_i h5
    rw [if_pos (Or.inr h5)] at hrt
    simp at hrt
    unfold partsM
    repeat' split
    all_goals first
      | exact hu
      | (have := h0 (n + c.thread).toNat; obtain ⟨h1, h2⟩ := this; exact u64_set (u64_set hu _ ⟨a0, a1⟩) _ ⟨by omega, by omega⟩)
  split
  · rename_i h6
    rw [if_neg (by omega), if_neg (by omega), if_pos h6] at hrt
    simp at hrt
    unfold partsM
    repeat' split
    all_goals first
      | exact hu
      | (have := h0 (s.p + c.thread).toNat; obtain ⟨h1, h2⟩ := this; exact u64_set (u64_set hu _ hb) _ ⟨by omega, by omega⟩)
  split
  · rename_i h7
    rw [if_neg (by omega), if_neg (by omega), if_neg (by omega), if_pos h7] at hrt
    simp at hrt
    unfold sharedM
    repeat' split
    · exact hu
    · exact hu
    · intro z hz
      have := h0 0
      obtain ⟨h1, h2⟩ := this
      rcases List.mem_cons.1 hz with h | h
      · rw [h]; exact ⟨by omega, by omega⟩
      · have hud : ∀ z ∈ st.drop 1, U64 z := fun z hz => hu z (List.mem_of_mem_drop hz)
        unfold apL at h
        repeat' split at h
        · exact hud z h
        · exact seqL_u64 hud ⟨a0, a1⟩ z h
        · exact hud z h
  split
  · unfold queueM
    repeat' split
    · exact hu
    · intro z hz
      rcases List.mem_append.1 hz with h | h
      · exact hu z h
      · simp at h
        rcases h with h | h <;> rw [h]
        · exact ⟨ht0, by omega⟩
        · exact ⟨a0, a1⟩
    · exact hu
    · exact fun z hz => hu z (List.mem_of_mem_drop hz)
  · unfold pinM
    repeat' split
    · exact hu
    · exact hu
    · intro z hz
      unfold pinL at hz
      obtain ⟨i, _, rfl⟩ := List.mem_map.1 hz
      exact u64_mod _
theorem actM_shape {n : Int} {s : Sp} {st : List Int} {c : Cl} (hE : sizeE n s = 0) (hs : shapeM n s st = true) (hk0 : 0 ≤ c.kind) (hk1 : c.kind < actsT s.kind s.p) : shapeM n s (actM n s st c).1 = true := by
  obtain ⟨_, _, hrt⟩ := sizeE_zero hE
  unfold shapeM at hs ⊢
  unfold actM
  by_cases h7 : s.kind = 7
  · rw [if_pos h7] at hs ⊢
    rw [if_neg (by omega), if_neg (by omega), if_neg (by omega), if_neg (by omega), if_neg (by omega), if_neg (by omega), if_pos h7]
    simp only [Bool.and_eq_true, decide_eq_true_eq] at hs ⊢
    have hk2 : c.kind < kindsI s.p := by have := hk1; rw [h7] at this; exact this
    unfold sharedM
    repeat' split
    · exact hs
    · exact hs
    · refine ⟨by simp, ?_⟩
      have hd : rightB17 s.p (st.drop 1).length = true := by rw [List.length_drop]; exact hs.2
      have he : apL s.p (st.drop 1) c.kind c.a = seqL s.p (st.drop 1) c.kind c.a := by unfold apL; rw [if_neg (by rw [hd]; simp), if_pos ⟨hk0, hk2⟩]
      have := seqL_rt (a := c.a) hd hk0 hk2
      rw [← he] at this
      simpa using this
  rw [if_neg h7] at hs ⊢
  by_cases h8 : s.kind = 8
  · rw [if_pos h8] at hs ⊢
    rw [if_neg (by omega), if_neg (by omega), if_neg (by omega), if_neg (by omega), if_neg (by omega), if_neg (by omega), if_neg h7, if_pos h8]
    simp only [decide_eq_true_eq] at hs ⊢
    unfold queueM
    repeat' split
    all_goals (simp; omega)
  rw [if_neg h8] at hs ⊢
  simp only [decide_eq_true_eq] at hs ⊢
  rw [← hs]
  unfold cellM consM numM maxM partsM sharedM queueM pinM
  repeat' split
  all_goals first
    | rfl
    | (simp [List.length_set]; done)
    | omega
    | (simp [pinL]; done)
theorem applyM_ok {n : Int} {s : Sp} {st : List Int} {c : Cl} (hR : rightM n s st = true) (hu : ∀ z ∈ st, U64 z) (ha : U64 c.a) (hb : U64 c.b) (hc : U64 c.c) (ht0 : 0 ≤ c.thread) (ht1 : c.thread < n) :
    rightM n s (applyM n s st c).1 = true ∧ (∀ z ∈ (applyM n s st c).1, U64 z) ∧ (applyM n s st c).1.length ≤ max 80 (st.length + 2) := by
  have hR' := hR
  unfold rightM at hR'
  simp only [Bool.and_eq_true, decide_eq_true_eq] at hR'
  obtain ⟨hE, hs⟩ := hR'
  have hn := (sizeE_zero hE).1
  unfold applyM
  rw [if_neg (by rw [hR]; simp; omega)]
  split
  · exact ⟨hR, hu, by show st.length ≤ _; omega⟩
  · rename_i hk
    have hsh := actM_shape (c := c) hE hs (by omega) (by omega)
    have hR2 : rightM n s (actM n s st c).1 = true := by unfold rightM; rw [hsh, decide_eq_true hE]; rfl
    refine ⟨hR2, actM_u64 hE hu ha hb hc ht0 (by omega) (by omega) (by omega), ?_⟩
    by_cases h8 : s.kind = 8
    · have : (actM n s st c).1.length ≤ st.length + 2 := by
        unfold actM
        rw [if_neg (by omega), if_neg (by omega), if_neg (by omega), if_neg (by omega), if_neg (by omega), if_neg (by omega), if_neg (by omega), if_pos h8]
        unfold queueM
        repeat' split
        all_goals (simp; try omega)
      omega
    · have := (len_pos_of hR2 h8).2.2
      omega
end Go.Proofs.YtmiimpmfkjcjlaaGreat

namespace Go.Proofs.YtmiimpmfkjcjlaaGreat
open Go.RowKit
abbrev Ob (α : Type) := α × Option Addr × Nat
def obV {α : Type} (lst : α → List Int) (p : Ob α) : Value := .slice p.2.1 (lst p.1).length p.2.2
def ObRow {α : Type} (en : Ob α → List Value) (lst : α → List Int) (T : TypeId) (sz : Nat) (w : World) (B : Nat) (v : Value) (ps : List (Ob α)) : Prop :=
  w.ownsRow B T sz v ps.length (ps.flatMap en) ∧ ∀ p ∈ ps, SlW w (obV lst p) (lst p.1) ∧ Tw w (obV lst p)
section
variable {α : Type} {en : Ob α → List Value} {lst : α → List Int} {T : TypeId} {sz : Nat} {w w' : World} {B : Nat} {v : Value} {ps : List (Ob α)}
theorem ob_nil (w : World) (B : Nat) : ObRow en lst T sz w B (.slice none 0 0) [] := ⟨World.ownsRow_nil w B T sz, by simp⟩
theorem ob_keep {S : Nat → Prop} (h : ObRow en lst T sz w B v ps) (hk : Keep S w w') (hS : ∀ j cs t fr, w.heap[j]? = some (.cells cs t fr) → t = 25 ∨ (t = T ∧ B ≤ j) → S j) : ObRow en lst T sz w' B v ps := by
  refine ⟨?_, fun p hp => ?_⟩
  · obtain ⟨h1, h2 | ⟨g, cap, cur, e1, e2, e3, e4⟩⟩ := h.1
    · exact ⟨h1, Or.inl h2⟩
    · exact ⟨h1, Or.inr ⟨g, cap, cur, e1, e2, (hk.block g (hS g _ _ _ e3 (Or.inr ⟨rfl, e2⟩))).trans e3, e4⟩⟩
  · obtain ⟨h1, h2⟩ := h.2 p hp
    have hS' : ∀ j cs fr, w.heap[j]? = some (.cells cs 25 fr) → S j := fun j cs fr hj => hS j _ _ _ hj (Or.inl rfl)
    exact ⟨sl_keepT h1 h2 hk hS', h2.keep hk hS'⟩
theorem ob_below (h : ObRow en lst T sz w B v ps) (hb : Below w.heap.size w w') : ObRow en lst T sz w' B v ps :=
  ob_keep h (Keep.of_below (K := fun j => j < w.heap.size) hb (fun _ hk => hk)) (fun _ _ _ _ hj _ => (Array.getElem?_eq_some_iff.1 hj).1)
theorem ob_push {v' : Value} {p : Ob α} (h : ObRow en lst T sz w B v ps) (hT : T ≠ 25) (h1 : SlW w (obV lst p) (lst p.1)) (h2 : Tw w (obV lst p)) (ho : w'.ownsRow B T sz v' (ps.length + 1) (ps.flatMap en ++ en p)) (hg : w.grownBy w' v.ownBlock) :
    ObRow en lst T sz w' B v' (ps ++ [p]) := by
  have hk : Keep (fun j => j < w.heap.size ∧ some j ≠ v.ownBlock) w w' := ⟨hg.os, hg.tape, hg.output, hg.size, fun k hk => hg.block k hk.1 hk.2⟩
  have hS : ∀ j cs fr, w.heap[j]? = some (.cells cs 25 fr) → j < w.heap.size ∧ some j ≠ v.ownBlock := by
    intro j cs fr hj
    refine ⟨(Array.getElem?_eq_some_iff.1 hj).1, fun e => ?_⟩
    rcases h.1.2 with ⟨rfl, _⟩ | ⟨g, cap, cur, rfl, _, hg', _⟩
    · cases e
    · have : j = g := Option.some.inj e
      rw [this, hg'] at hj
      exact hT (by injection hj with h; injection h)
  refine ⟨by simpa using ho, fun q hq => ?_⟩
  rcases List.mem_append.1 hq with hq | hq
  · obtain ⟨g1, g2⟩ := h.2 q hq
    exact ⟨sl_keepT g1 g2 hk hS, g2.keep hk hS⟩
  · simp at hq
    subst hq
    exact ⟨sl_keepT h1 h2 hk hS, h2.keep hk hS⟩
theorem ob_get (hl : ∀ p, (en p).length = sz) (h : ObRow en lst T sz w B v ps) {k : Nat} {p : Ob α} (hp : ps[k]? = some p) :
    ∃ g cap, v = .slice (some ⟨g, 0, none⟩) ps.length cap ∧ B ≤ g ∧ g < w.heap.size ∧ (∃ cur, w.heap[g]? = some (.cells cur T (0, 0))) ∧ CellsAt w g (k * sz) (en p) ∧ SlW w (obV lst p) (lst p.1) ∧ Tw w (obV lst p) := by
  have hk := (List.getElem?_eq_some_iff.1 hp).1
  obtain ⟨h1, h2⟩ := h.2 p (List.mem_of_getElem? hp)
  rcases h.1.2 with ⟨_, h0⟩ | ⟨g, cap, cur, rfl, hB, hg, hnc, hcm, _, htake⟩
  · omega
  · refine ⟨g, cap, rfl, hB, (Array.getElem?_eq_some_iff.1 hg).1, ⟨_, hg⟩, ?_, h1, h2⟩
    intro j u hu
    have h1 := flat_en hl hp j u hu
    rw [← htake, List.getElem?_take] at h1
    split at h1
    · rw [cell_of_row w g _ cur T (0, 0) hg]
      simpa using h1
    · cases h1
theorem ob_len (_hl : ∀ p, (en p).length = sz) (h : ObRow en lst T sz w B v ps) : ∃ A cap, v = .slice A ps.length cap ∧ (0 < sz → ps.length ≤ maxLen) := by
  rcases h.1.2 with ⟨rfl, h0⟩ | ⟨g, cap, cur, rfl, hB, hg, hnc, hcm, _, _⟩
  · exact ⟨none, 0, by rw [h0], fun _ => by omega⟩
  · exact ⟨_, cap, rfl, fun _ => by omega⟩
end
theorem own_ne {w : World} {B : Nat} {T T' : TypeId} {sz n b : Nat} {v : Value} {xs : List Value} {cs : Array Value} {fr : Nat × Nat} (h : w.ownsRow B T sz v n xs) (hb : w.heap[b]? = some (.cells cs T' fr)) (hne : T' ≠ T) : some b ≠ v.ownBlock := by
  intro e
  rcases h.2 with ⟨rfl, _⟩ | ⟨g, cap, cur, rfl, _, hg, _⟩
  · cases e
  · have : b = g := Option.some.inj e
    rw [this, hg] at hb
    exact hne (by injection hb with h; injection h with _ h2; exact h2.symm)
theorem ob_setOther {α : Type} {en : Ob α → List Value} {lst : α → List Int} {T T' : TypeId} {sz : Nat} {w : World} {B b j : Nat} {v u : Value} {ps : List (Ob α)} {cs : Array Value} {fr : Nat × Nat} (h : ObRow en lst T sz w B v ps) (hb : w.heap[b]? = some (.cells cs T' fr)) (h1 : T' ≠ 25) (h2 : T' ≠ T) :
    ObRow en lst T sz (w.setCell ⟨b, j, none⟩ u) B v ps := by
  refine ob_keep (S := fun k => k ≠ b) h ((Keep.refl _ _).setCell (by simp) _) ?_
  intro k cs' t fr' hk ht e
  rw [e, hb] at hk
  have e2 : T' = t := by injection hk with h; injection h
  rcases ht with ht | ⟨ht, _⟩
  · exact h1 (e2.trans ht)
  · exact h2 (e2.trans ht)
abbrev StP := Ob (List Int)
def stEn (p : StP) : List Value := [.slice p.2.1 p.1.length p.2.2]
theorem stEn_len (p : StP) : (stEn p).length = 1 := rfl
abbrev StRow := ObRow stEn (fun l : List Int => l) 24 1
theorem st_flat (ps : List StP) : ps.flatMap stEn = ps.map fun p => .slice p.2.1 p.1.length p.2.2 := by
  induction ps with
  | nil => rfl
  | cons p ps ih => rw [List.flatMap_cons, ih]; rfl
theorem st_set {w w' : World} {B g cap k : Nat} {ps : List StP} {p : StP} (h : StRow w B (.slice (some ⟨g, 0, none⟩) ps.length cap) ps) (h1 : SlW w (.slice p.2.1 p.1.length p.2.2) p.1) (h2 : Tw w (.slice p.2.1 p.1.length p.2.2))
    (hw : w' = w.setCell ⟨g, k, none⟩ (.slice p.2.1 p.1.length p.2.2)) : StRow w' B (.slice (some ⟨g, 0, none⟩) ps.length cap) (ps.set k p) := by
  subst hw
  have hk : Keep (fun j => j ≠ g) w (w.setCell ⟨g, k, none⟩ (.slice p.2.1 p.1.length p.2.2)) := (Keep.refl _ _).setCell (by simp) _
  obtain ⟨cur, hg⟩ : ∃ cur, w.heap[g]? = some (.cells cur 24 (0, 0)) := by
    rcases h.1.2 with ⟨e, _⟩ | ⟨g', cap', cur, e, _, hg, _⟩
    · cases e
    · cases e; exact ⟨_, hg⟩
  have hS : ∀ j cs fr, w.heap[j]? = some (.cells cs 25 fr) → j ≠ g := by
    intro j cs fr hj e
    rw [e, hg] at hj
    cases hj
  refine ⟨?_, fun q hq => ?_⟩
  · have := (World.ownsRow.stored h.1 k (.slice p.2.1 p.1.length p.2.2)).1
    rw [st_flat] at this ⊢
    rw [List.length_set, List.map_set]
    exact this
  · rcases List.mem_or_eq_of_mem_set hq with hq | rfl
    · obtain ⟨g1, g2⟩ := h.2 q hq
      exact ⟨sl_keepT g1 g2 hk hS, g2.keep hk hS⟩
    · exact ⟨sl_keepT h1 h2 hk hS, h2.keep hk hS⟩
end Go.Proofs.YtmiimpmfkjcjlaaGreat
