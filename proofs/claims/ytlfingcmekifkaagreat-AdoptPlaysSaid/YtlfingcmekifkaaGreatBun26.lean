import Derived.Test.YtlfingcmekifkaaGreatBun17
namespace Go.Proofs.YtlfingcmekifkaaGreat
open Go.RowKit
def isProp (cs : List Cl) (e : Ep) : Prop := (callOf cs e.call).obj = 0 ∧ (callOf cs e.call).kind = 0 ∧ e.ans.err = 0
def prA (cs : List Cl) (e : Ep) : Int := (callOf cs e.call).a
def prT (cs : List Cl) (e : Ep) : Nat := (callOf cs e.call).thread.toNat
def AdPh (n : Nat) (A B : Nat → Int) (S1 S2 : Nat → List Int) (t pc : Nat) (v : Int) (seen : List Int) : Prop :=
  (pc = 0 ∧ seen = [] ∧ A t = 0) ∨ (pc = 1 ∧ A t = v ∧ seen = S1 t ∧ seen.length < n ∧ B t = 0) ∨ (pc = 2 ∧ A t = v ∧ seen = S1 t ∧ seen.length = n ∧ B t = 0) ∨ (pc = 3 ∧ A t = v ∧ B t ≠ 0 ∧ seen = S2 t ∧ seen.length < n)
def AdEnd (n : Nat) (cs : List Cl) (evs : List Ep) (A B : Nat → Int) (S2 : Nat → List Int) (e : Ep) : Prop :=
  A (prT cs e) = prA cs e + 1 ∧ B (prT cs e) ≠ 0 ∧ (S2 (prT cs e)).length = n ∧ e.ans.val = endF (prA cs e + 1) (S2 (prT cs e)) ∧ ∃ (k : Nat) (y : Ep), evs[k]? = some y ∧ isProp cs y ∧ prA cs y = e.ans.val / 2 ∧ y.inv < e.resp
structure AInv (n : Nat) (cs : List Cl) (P : Ps AM Ad) (A B : Nat → Int) (S1 S2 : Nat → List Int) : Prop where
  wf : PWf cs P
  on : P.obj.n = n
  len : P.lw.mem.words.length = 2 * n
  memA : ∀ j, j < n → P.lw.mem.at j = A j
  memB : ∀ j, j < n → P.lw.mem.at ((n : Int) + j) = B j
  c1 : Col n A S1
  c2 : Col n B S2
  bval : ∀ t, t < n → B t ≠ 0 → A t ≠ 0 ∧ (S1 t).length = n ∧ B t = markF (A t) (S1 t)
  aval : ∀ t, t < n → A t ≠ 0 → ∃ (h : Nat) (e : Ep), P.evs[h]? = some e ∧ isProp cs e ∧ prT cs e = t ∧ A t = prA cs e + 1
  has : ∀ t, t < n → P.obj.has t = false → A t = 0
  stood : ∀ (h : Nat) (e : Ep), P.evs[h]? = some e → isProp cs e → P.obj.has (prT cs e) = true
  uniq : ∀ (h k : Nat) (e e' : Ep), P.evs[h]? = some e → P.evs[k]? = some e' → isProp cs e → isProp cs e' → prT cs e = prT cs e' → h = k
  mach : ∀ t m h, P.hands t = some (m, h) → ∃ (pc : Nat) (v : Int) (seen : List Int) (val : Int) (e : Ep), m = .prop t pc v seen val ∧ P.evs[h]? = some e ∧ isProp cs e ∧ v = prA cs e + 1 ∧ AdPh n A B S1 S2 t pc v seen
  done : ∀ (h : Nat) (e : Ep), P.evs[h]? = some e → e.resp ≠ 0 → isProp cs e → AdEnd n cs P.evs A B S2 e
theorem prT_lt {n : Nat} {cs : List Cl} (hcs : ∀ c ∈ cs, 0 ≤ c.thread ∧ c.thread < n ∧ 0 ≤ c.a) {e : Ep} (h : e.call < cs.length) : prT cs e < n ∧ ((prT cs e : Nat) : Int) = (callOf cs e.call).thread ∧ 0 ≤ prA cs e := by
  have hC : callOf cs e.call ∈ cs := by
    unfold callOf
    rw [List.getElem?_eq_getElem h]
    exact List.getElem_mem h
  obtain ⟨a, b, c⟩ := hcs _ hC
  unfold prT prA
  exact ⟨by omega, by omega, c⟩
theorem AInv.next {n : Nat} {cs : List Cl} {P P' : Ps AM Ad} {A B A' B' : Nat → Int} {S1 S2 S1' S2' : Nat → List Int} (I : AInv n cs P A B S1 S2) (_hcs : ∀ c ∈ cs, 0 ≤ c.thread ∧ c.thread < n ∧ 0 ≤ c.a) {t h : Nat} {m : AM} {e e' : Ep} (ht : t < n)
    (hm : P.hands t = some (m, h)) (he : P.evs[h]? = some e) (hs : isProp cs e) (hT : prT cs e = t) (hW : PWf cs P') (hobj : P'.obj = P.obj) (hlen : P'.lw.mem.words.length = 2 * n)
    (hA : ∀ j, j < n → P'.lw.mem.at j = A' j) (hB : ∀ j, j < n → P'.lw.mem.at ((n : Int) + j) = B' j) (c1 : Col n A' S1') (c2 : Col n B' S2')
    (oA : ∀ j, j ≠ t → A' j = A j) (oB : ∀ j, j ≠ t → B' j = B j) (o1 : ∀ j, j ≠ t → S1' j = S1 j) (o2 : ∀ j, j ≠ t → S2' j = S2 j)
    (hbv : B' t ≠ 0 → A' t ≠ 0 ∧ (S1' t).length = n ∧ B' t = markF (A' t) (S1' t)) (hAt : A' t = prA cs e + 1)
    (hands : ∀ s, s ≠ t → P'.hands s = P.hands s) (hevs : ∀ (k : Nat) (x : Ep), P'.evs[k]? = some x → (k ≠ h ∧ P.evs[k]? = some x) ∨ (k = h ∧ x = e')) (hevo : ∀ (k : Nat) (x : Ep), k ≠ h → P.evs[k]? = some x → P'.evs[k]? = some x) (hevh : P'.evs[h]? = some e')
    (hec : e'.call = e.call) (hei : e'.inv = e.inv) (hee : e'.ans.err = 0)
    (hcase : (∃ pc v seen val, P'.hands t = some (.prop t pc v seen val, h) ∧ e'.resp = 0 ∧ v = prA cs e + 1 ∧ AdPh n A' B' S1' S2' t pc v seen) ∨ (P'.hands t = none ∧ e'.resp ≠ 0 ∧ AdEnd n cs P'.evs A' B' S2' e')) : AInv n cs P' A' B' S1' S2' := by
  have hs' : isProp cs e' := by
    unfold isProp
    rw [hec]
    exact ⟨hs.1, hs.2.1, hee⟩
  have hT' : prT cs e' = t := by
    unfold prT
    rw [hec]
    exact hT
  have hA' : prA cs e' = prA cs e := by
    unfold prA
    rw [hec]
  have hne : ∀ (k : Nat) (x : Ep), k ≠ h → P.evs[k]? = some x → isProp cs x → prT cs x ≠ t := by
    intro k x hk hx hxs htt
    exact hk (I.uniq k h x e hx he hxs hs (htt.trans hT.symm))
  refine ⟨hW, by rw [hobj]; exact I.on, hlen, hA, hB, c1, c2, fun s hs hb => ?_, fun s hs ha => ?_, fun s hs hh => ?_, fun k x hx hxs => ?_, fun k k' x x' hx hx' hxs hxs' htt => ?_, fun s m' k hk => ?_, fun k x hx hr hxs => ?_⟩
  · by_cases hst : s = t
    · subst hst
      exact hbv hb
    · rw [oA s hst, oB s hst, o1 s hst] at *
      exact I.bval s hs hb
  · by_cases hst : s = t
    · subst hst
      exact ⟨h, e', hevh, hs', hT', by rw [hA', hAt]⟩
    · rw [oA s hst] at ha ⊢
      obtain ⟨k, x, a1, a2, a3, a4⟩ := I.aval s hs ha
      refine ⟨k, x, hevo k x ?_ a1, a2, a3, a4⟩
      rintro rfl
      rw [he] at a1
      cases a1
      exact hst (a3.symm.trans hT)
  · rw [hobj] at hh
    by_cases hst : s = t
    · subst hst
      have := I.stood h e he ‹_›
      rw [hT, hh] at this
      cases this
    · rw [oA s hst]
      exact I.has s hs hh
  · rw [hobj]
    rcases hevs k x hx with ⟨_, hx⟩ | ⟨rfl, rfl⟩
    · exact I.stood k x hx hxs
    · rw [hT', ← hT]
      exact I.stood k e he hs
  · rcases hevs k x hx with ⟨_, hx⟩ | ⟨rfl, rfl⟩
    · rcases hevs k' x' hx' with ⟨_, hx'⟩ | ⟨rfl, rfl⟩
      · exact I.uniq k k' x x' hx hx' hxs hxs' htt
      · exact I.uniq k k' x e hx he hxs hs (htt.trans (hT'.trans hT.symm))
    · rcases hevs k' x' hx' with ⟨_, hx'⟩ | ⟨rfl, rfl⟩
      · exact I.uniq k k' e x' he hx' hs hxs' ((hT.trans hT'.symm).trans htt)
      · rfl
  · by_cases hst : s = t
    · subst hst
      rcases hcase with ⟨pc, v, seen, val, a1, _, a2, a3⟩ | ⟨a1, _⟩
      · rw [a1] at hk
        cases hk
        exact ⟨pc, v, seen, val, e', rfl, hevh, hs', by rw [hA']; exact a2, a3⟩
      · rw [a1] at hk
        cases hk
    · rw [hands s hst] at hk
      obtain ⟨pc, v, seen, val, x, a1, a2, a3, a4, a5⟩ := I.mach s m' k hk
      refine ⟨pc, v, seen, val, x, a1, hevo k x ?_ a2, a3, a4, ?_⟩
      · rintro rfl
        obtain ⟨y, hy, _, hy2, _⟩ := I.wf.hand s m' k hk
        rw [he] at hy
        cases hy
        unfold prT at hT
        omega
      · unfold AdPh at a5 ⊢
        rw [oA s hst, oB s hst, o1 s hst, o2 s hst]
        exact a5
  · rcases hevs k x hx with ⟨hk, hx⟩ | ⟨rfl, rfl⟩
    · have hxt := hne k x hk hx hxs
      obtain ⟨a1, a2, a3, a4, k2, y, b1, b2, b3, b4⟩ := I.done k x hx hr hxs
      unfold AdEnd
      rw [oA _ hxt, oB _ hxt, o2 _ hxt]
      refine ⟨a1, a2, a3, a4, ?_⟩
      by_cases hk2 : k2 = h
      · subst hk2
        rw [he] at b1
        cases b1
        exact ⟨k2, e', hevh, hs', by rw [hA']; exact b3, by rw [hei]; exact b4⟩
      · exact ⟨k2, y, hevo k2 y hk2 b1, b2, b3, b4⟩
    · rcases hcase with ⟨_, _, _, _, _, a1, _⟩ | ⟨_, _, a1⟩
      · exact absurd a1 hr
      · exact a1
end Go.Proofs.YtlfingcmekifkaaGreat

namespace Go.Proofs.YtlfingcmekifkaaGreat
open Go.RowKit
theorem markF_two {v : Int} (l : List Int) (hv : 1 ≤ v) : 2 ≤ markF v l ∧ markF v l / 2 = v ∧ (markF v l % 2 = 1 ↔ aloneF v l = true) := by
  unfold markF
  cases aloneF v l
  · simp only [Bool.false_eq_true, if_false]
    refine ⟨by omega, by omega, ⟨fun h => by omega, fun h => by cases h⟩⟩
  · simp only [if_true]
    refine ⟨by omega, by omega, ⟨fun _ => by first | trivial | rfl, fun _ => by omega⟩⟩
theorem AInv.step {n : Nat} {cs : List Cl} {P : Ps AM Ad} {A B : Nat → Int} {S1 S2 : Nat → List Int} (I : AInv n cs P A B S1 S2) (hcs : ∀ c ∈ cs, 0 ≤ c.thread ∧ c.thread < n ∧ 0 ≤ c.a) {t i h : Nat} {m : AM}
    (hm : P.hands t = some (m, h)) (h1 : 1 ≤ P.lw.now) (hinv : (∃ v seen val, m = .prop t 0 v seen val) ∨ ∀ (k : Nat) (x : Ep), P.evs[k]? = some x → x.inv < P.lw.now) : ∃ A' B' S1' S2', AInv n cs (P.step adG t i m h) A' B' S1' S2' := by
  have hW := I.wf.step (i := i) adG_still hm h1
  obtain ⟨pc, v, seen, val, e, rfl, he, hs, hv, hph⟩ := I.mach t m h hm
  obtain ⟨e0, he0, hr0, ht0, ha0⟩ := I.wf.hand t _ h hm
  rw [he] at he0
  cases he0
  have hcall := (I.wf.call h e he).1
  obtain ⟨htn, _, hpa⟩ := prT_lt hcs hcall
  have hT : prT cs e = t := by unfold prT; rw [ht0]; exact Int.toNat_natCast t
  rw [hT] at htn
  have hn0 : 0 < n := by omega
  have hv1 : 1 ≤ v := by omega
  have hin : ∀ j : Int, 0 ≤ j → j < 2 * n → P.lw.mem.in j := fun j h0 h2 => ⟨h0, by rw [I.len]; push_cast; exact h2⟩
  have q4 := step_obj adG P t i (.prop t pc v seen val) h
  have q5 := step_lw adG P t i (.prop t pc v seen val) h
  rcases hph with ⟨rfl, rfl, hA0⟩ | ⟨rfl, hAv, hS, hl, hB0⟩ | ⟨rfl, hAv, hS, hl, hB0⟩ | ⟨rfl, hAv, hB0, hS, hl⟩
  · have hAf : P.after adG t (.prop t 0 v [] val) = (P.obj, { P.lw with mem := P.lw.mem.acc 1 t v 0 }, .prop t 1 v [] val, false) := rfl
    obtain ⟨q1, q2, q3⟩ := step_more (i := i) (h := h) (by rw [hAf])
    rw [hAf] at q1 q4 q5
    obtain ⟨f1, f2, f3⟩ := mod_facts q3 he
    generalize P.step adG t i (.prop t 0 v [] val) h = P' at *
    have hB0 : B t = 0 := Decidable.byContradiction fun hb => (I.bval t htn hb).1 hA0
    have hmem : ∀ b : Int, 0 ≤ b → P'.lw.mem.at b = if b = t then v else P.lw.mem.at b := by
      intro b hb
      rw [q5]
      exact mm_at (hin t (by omega) (by omega)) hb
    refine ⟨upd A t v, B, S1, S2, I.next hcs htn hm he hs hT hW q4 ?_ ?_ ?_ (I.c1.write hA0 (by omega)) I.c2 (fun j hj => upd_other hj) (fun _ _ => rfl) (fun _ _ => rfl) (fun _ _ => rfl) (fun hb => absurd hB0 hb) (by rw [upd_same, hv]) (fun s hs => by rw [q1, upd_other hs]) f1 f2 f3 rfl rfl hs.2.2 (.inl ⟨1, v, [], val, by rw [q1, upd_same], hr0, hv, .inr (.inl ⟨rfl, upd_same _ _ _, ?_, hn0, hB0⟩)⟩)⟩
    · rw [q5]; exact (mm_len _ _ _ _ _).trans I.len
    · intro j hj
      rw [hmem j (by omega)]
      by_cases hjt : j = t
      · rw [hjt, if_pos rfl, upd_same]
      · rw [if_neg (by omega), upd_other hjt]
        exact I.memA j hj
    · intro j hj
      rw [hmem _ (by omega), if_neg (by omega)]
      exact I.memB j hj
    · exact (I.c1.w t htn hA0).symm
  · have hin1 := hin (seen.length : Int) (by omega) (by omega)
    have htell : P.lw.mem.tell 0 (seen.length : Int) 0 = A seen.length := (mm_tell hin1).trans (I.memA _ hl)
    have hAf : P.after adG t (.prop t 1 v seen val) = (P.obj, { P.lw with mem := P.lw.mem.acc 0 (seen.length : Int) 0 0 }, .prop t (if (seen ++ [A seen.length]).length = n then 2 else 1) v (seen ++ [A seen.length]) val, false) := by
      rw [← htell, ← I.on]
      rfl
    obtain ⟨q1, q2, q3⟩ := step_more (i := i) (h := h) (by rw [hAf])
    rw [hAf] at q1 q4 q5
    obtain ⟨f1, f2, f3⟩ := mod_facts q3 he
    generalize P.step adG t i (.prop t 1 v seen val) h = P' at *
    have hmem : ∀ b : Int, 0 ≤ b → P'.lw.mem.at b = P.lw.mem.at b := by
      intro b hb
      rw [q5]
      exact mm_read hin1 hb
    have hS' : upd S1 t (S1 t ++ [A (S1 t).length]) t = seen ++ [A seen.length] := by rw [upd_same, hS]
    refine ⟨A, B, upd S1 t (S1 t ++ [A (S1 t).length]), S2, I.next hcs htn hm he hs hT hW q4 ?_ ?_ ?_ (I.c1.read (by omega) (by rw [← hS]; exact hl)) I.c2 (fun _ _ => rfl) (fun _ _ => rfl) (fun j hj => upd_other hj) (fun _ _ => rfl) (fun hb => absurd hB0 hb) (by rw [hAv, hv]) (fun s hs => by rw [q1, upd_other hs]) f1 f2 f3 rfl rfl hs.2.2 (.inl ⟨_, v, _, val, by rw [q1, upd_same], hr0, hv, ?_⟩)⟩
    · rw [q5]; exact (mm_len _ _ _ _ _).trans I.len
    · intro j hj
      rw [hmem _ (by omega)]
      exact I.memA j hj
    · intro j hj
      rw [hmem _ (by omega)]
      exact I.memB j hj
    · by_cases hfull : (seen ++ [A seen.length]).length = n
      · rw [if_pos hfull]
        exact .inr (.inr (.inl ⟨rfl, hAv, hS'.symm, hfull, hB0⟩))
      · rw [if_neg hfull]
        refine .inr (.inl ⟨rfl, hAv, hS'.symm, ?_, hB0⟩)
        rw [List.length_append] at hfull ⊢
        have : ([A seen.length] : List Int).length = 1 := rfl
        omega
  · have hAf : P.after adG t (.prop t 2 v seen val) = (P.obj, { P.lw with mem := P.lw.mem.acc 1 ((n : Int) + t) (markF v seen) 0 }, .prop t 3 v [] val, false) := by
      rw [← I.on]
      rfl
    obtain ⟨q1, q2, q3⟩ := step_more (i := i) (h := h) (by rw [hAf])
    rw [hAf] at q1 q4 q5
    obtain ⟨f1, f2, f3⟩ := mod_facts q3 he
    generalize P.step adG t i (.prop t 2 v seen val) h = P' at *
    have hmem : ∀ b : Int, 0 ≤ b → P'.lw.mem.at b = if b = (n : Int) + t then markF v seen else P.lw.mem.at b := by
      intro b hb
      rw [q5]
      exact mm_at (hin _ (by omega) (by omega)) hb
    have hmk := (markF_two seen hv1).1
    refine ⟨A, upd B t (markF v seen), S1, S2, I.next hcs htn hm he hs hT hW q4 ?_ ?_ ?_ I.c1 (I.c2.write hB0 (by omega)) (fun _ _ => rfl) (fun j hj => upd_other hj) (fun _ _ => rfl) (fun _ _ => rfl) (fun _ => ⟨by omega, by rw [← hS]; exact hl, by rw [upd_same, hAv, ← hS]⟩) (by rw [hAv, hv]) (fun s hs => by rw [q1, upd_other hs]) f1 f2 f3 rfl rfl hs.2.2 (.inl ⟨3, v, [], val, by rw [q1, upd_same], hr0, hv, .inr (.inr (.inr ⟨rfl, hAv, by rw [upd_same]; omega, ?_, hn0⟩))⟩)⟩
    · rw [q5]; exact (mm_len _ _ _ _ _).trans I.len
    · intro j hj
      rw [hmem _ (by omega), if_neg (by omega)]
      exact I.memA j hj
    · intro j hj
      rw [hmem _ (by omega)]
      by_cases hjt : j = t
      · rw [hjt, if_pos rfl, upd_same]
      · rw [if_neg (by omega), upd_other hjt]
        exact I.memB j hj
    · exact (I.c2.w t htn hB0).symm
  · have hin1 := hin ((n : Int) + seen.length) (by omega) (by omega)
    have htell : P.lw.mem.tell 0 ((n : Int) + seen.length) 0 = B seen.length := (mm_tell hin1).trans (I.memB _ hl)
    have c2' := I.c2.read (t := t) hB0 (by rw [← hS]; exact hl)
    have hS' : upd S2 t (S2 t ++ [B (S2 t).length]) t = seen ++ [B seen.length] := by rw [upd_same, hS]
    by_cases hfull : (seen ++ [B seen.length]).length = n
    · have hAf : P.after adG t (.prop t 3 v seen val) = (P.obj, { P.lw with mem := P.lw.mem.acc 0 ((n : Int) + seen.length) 0 0 }, .prop t 3 v (seen ++ [B seen.length]) (endF v (seen ++ [B seen.length])), true) := by
        have hf2 := hfull
        rw [← htell] at hf2 ⊢
        rw [← I.on] at hf2 ⊢
        show adStep P.obj P.lw (.prop t 3 v seen val) = _
        unfold adStep
        dsimp only
        rw [if_neg (by decide), if_neg (by decide), if_neg (by decide), if_pos hf2]
      obtain ⟨q1, q2, key, q3⟩ := step_done (i := i) (h := h) (by rw [hAf])
      rw [hAf] at q3 q4 q5
      obtain ⟨f1, f2, f3⟩ := mod_facts q3 he
      generalize P.step adG t i (.prop t 3 v seen val) h = P' at *
      have hmem : ∀ b : Int, 0 ≤ b → P'.lw.mem.at b = P.lw.mem.at b := by
        intro b hb
        rw [q5]
        exact mm_read hin1 hb
      have hlate : ∀ (k : Nat) (x : Ep), P.evs[k]? = some x → x.inv < P.lw.now := by
        rcases hinv with ⟨_, _, _, h⟩ | h
        · cases h
        · exact h
      have hold : ∀ (k : Nat) (x : Ep), P.evs[k]? = some x → isProp cs x → ∃ (k : Nat) (y : Ep), P'.evs[k]? = some y ∧ isProp cs y ∧ prA cs y = prA cs x ∧ y.inv = x.inv := by
        intro k x hx hxs
        by_cases hk : k = h
        · subst hk
          rw [he] at hx
          cases hx
          exact ⟨k, _, f3, ⟨hs.1, hs.2.1, rfl⟩, rfl, rfl⟩
        · exact ⟨k, x, f2 k x hk hx, hxs, rfl, rfl⟩
      refine ⟨A, B, S1, upd S2 t (S2 t ++ [B (S2 t).length]), I.next hcs htn hm he hs hT hW q4 ?_ ?_ ?_ I.c1 c2' (fun _ _ => rfl) (fun _ _ => rfl) (fun _ _ => rfl) (fun j hj => upd_other hj) (I.bval t htn) (by rw [hAv, hv]) (fun s hs => by rw [q1, upd_other hs]) f1 f2 f3 rfl rfl rfl (.inr ⟨by rw [q1, upd_same], ?_, ?_⟩)⟩
      · rw [q5]; exact (mm_len _ _ _ _ _).trans I.len
      · intro j hj
        rw [hmem _ (by omega)]
        exact I.memA j hj
      · intro j hj
        rw [hmem _ (by omega)]
        exact I.memB j hj
      · show P.lw.now ≠ 0
        omega
      · refine ⟨?_, ?_, ?_, ?_, ?_⟩
        · show A (prT cs e) = prA cs e + 1
          rw [hT, hAv, hv]
        · show B (prT cs e) ≠ 0
          rw [hT]; exact hB0
        · show (upd S2 t _ (prT cs e)).length = n
          rw [hT, hS']; exact hfull
        · show endF v (seen ++ [B seen.length]) = endF (prA cs e + 1) (upd S2 t _ (prT cs e))
          rw [hT, hS', hv]
        · show ∃ (k : Nat) (y : Ep), P'.evs[k]? = some y ∧ isProp cs y ∧ prA cs y = endF v (seen ++ [B seen.length]) / 2 ∧ y.inv < P.lw.now
          have hmarks : ∀ m ∈ seen ++ [B seen.length], m = 0 ∨ ∃ j, j < n ∧ m = B j ∧ A j ≠ 0 ∧ 2 ≤ m ∧ m / 2 = A j := by
            intro m hm
            obtain ⟨j, hj⟩ := List.mem_iff_getElem?.1 hm
            rw [← hS'] at hj
            obtain ⟨a1, a2⟩ := c2'.v t j m htn hj
            rcases a2 with a2 | a2
            · exact .inl a2
            · by_cases hm0 : m = 0
              · exact .inl hm0
              · refine .inr ⟨j, a1, a2, ?_⟩
                obtain ⟨b1, b2, b3⟩ := I.bval j a1 (by rw [← a2]; exact hm0)
                obtain ⟨k, y, y1, _, _, y4⟩ := I.aval j a1 b1
                have hy := (prT_lt hcs (I.wf.call k y y1).1).2.2
                obtain ⟨z1, z2, _⟩ := markF_two (S1 j) (show 1 ≤ A j by omega)
                rw [a2, b3]
                exact ⟨b1, z1, z2⟩
          rcases firstF_cases (l := seen ++ [B seen.length]) (fun m hm => by rcases hmarks m hm with h | ⟨_, _, _, _, h, _⟩ <;> omega) with ⟨g1, _⟩ | ⟨m, hm, g1, g2, g3⟩
          · obtain ⟨k, y, y1, y2, y3, y4⟩ := hold h e he hs
            refine ⟨k, y, y1, y2, ?_, by rw [y4]; exact hlate h e he⟩
            unfold endF
            rw [g1, if_neg (by omega), y3]
            omega
          · rcases hmarks m hm with h | ⟨j, j1, _, j3, _, j5⟩
            · omega
            · obtain ⟨k, x, x1, x2, _, x4⟩ := I.aval j j1 j3
              obtain ⟨k, y, y1, y2, y3, y4⟩ := hold k x x1 x2
              refine ⟨k, y, y1, y2, ?_, by rw [y4]; exact hlate _ x x1⟩
              unfold endF
              rw [if_pos g3, y3, g2, j5]
              split <;> omega
    · have hAf : P.after adG t (.prop t 3 v seen val) = (P.obj, { P.lw with mem := P.lw.mem.acc 0 ((n : Int) + seen.length) 0 0 }, .prop t 3 v (seen ++ [B seen.length]) val, false) := by
        have hf2 := hfull
        rw [← htell] at hf2 ⊢
        rw [← I.on] at hf2 ⊢
        show adStep P.obj P.lw (.prop t 3 v seen val) = _
        unfold adStep
        dsimp only
        rw [if_neg (by decide), if_neg (by decide), if_neg (by decide), if_neg hf2]
      obtain ⟨q1, q2, q3⟩ := step_more (i := i) (h := h) (by rw [hAf])
      rw [hAf] at q1 q4 q5
      obtain ⟨f1, f2, f3⟩ := mod_facts q3 he
      generalize P.step adG t i (.prop t 3 v seen val) h = P' at *
      have hmem : ∀ b : Int, 0 ≤ b → P'.lw.mem.at b = P.lw.mem.at b := by
        intro b hb
        rw [q5]
        exact mm_read hin1 hb
      refine ⟨A, B, S1, upd S2 t (S2 t ++ [B (S2 t).length]), I.next hcs htn hm he hs hT hW q4 ?_ ?_ ?_ I.c1 c2' (fun _ _ => rfl) (fun _ _ => rfl) (fun _ _ => rfl) (fun j hj => upd_other hj) (I.bval t htn) (by rw [hAv, hv]) (fun s hs => by rw [q1, upd_other hs]) f1 f2 f3 rfl rfl hs.2.2 (.inl ⟨3, v, _, val, by rw [q1, upd_same], hr0, hv, .inr (.inr (.inr ⟨rfl, hAv, hB0, hS'.symm, ?_⟩))⟩)⟩
      · rw [q5]; exact (mm_len _ _ _ _ _).trans I.len
      · intro j hj
        rw [hmem _ (by omega)]
        exact I.memA j hj
      · intro j hj
        rw [hmem _ (by omega)]
        exact I.memB j hj
      · rw [List.length_append] at hfull ⊢
        have : ([B seen.length] : List Int).length = 1 := rfl
        omega
end Go.Proofs.YtlfingcmekifkaaGreat
