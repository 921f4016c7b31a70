/- A step of a proposal. -/
import Derived.Test.YtlfingcmekifkaaLa2
namespace Go.Proofs.Ytlfingcmekifkaa
open Go.RowKit

theorem markF_two {v : Int} (l : List Int) (hv : 1 ≤ v) : 2 ≤ markF v l ∧ markF v l / 2 = v ∧ (markF v l % 2 = 1 ↔ aloneF v l = true) := by
  unfold markF
  cases aloneF v l
  · simp only [Bool.false_eq_true, if_false]
    refine ⟨by omega, by omega, ⟨fun h => by omega, fun h => by cases h⟩⟩
  · simp only [if_true]
    refine ⟨by omega, by omega, ⟨fun _ => by first | trivial | rfl, fun _ => by omega⟩⟩
theorem AInv.step {n : Nat} {cs : List Cl} {P : Ps AM Ad} {A B : Nat → Int} {S1 S2 : Nat → List Int} (I : AInv n cs P A B S1 S2) (hcs : ∀ c ∈ cs, 0 ≤ c.thread ∧ c.thread < n ∧ 0 ≤ c.a) {t i h : Nat} {m : AM}
    (hm : P.hands t = some (m, h)) (h1 : 1 ≤ P.lw.now) (hinv : (∃ v seen val, m = .prop t 0 v seen val) ∨ ∀ (k : Nat) (x : Ep), P.evs[k]? = some x → x.inv < P.lw.now) : ∃ A' B' S1' S2', AInv n cs (P.step adG t i m h) A' B' S1' S2' := by
  have hW := I.wf.step (i := i) adG_still hm h1
  obtain ⟨pc, v, seen, val, e, rfl, he, hs, hv, hph⟩ := I.mach t m h hm
  obtain ⟨e0, he0, hr0, ht0, ha0⟩ := I.wf.hand t _ h hm
  rw [he] at he0
  cases he0
  have hcall := (I.wf.call h e he).1
  obtain ⟨htn, _, hpa⟩ := prT_lt hcs hcall
  have hT : prT cs e = t := by unfold prT; rw [ht0]; exact Int.toNat_natCast t
  rw [hT] at htn
  have hn0 : 0 < n := by omega
  have hv1 : 1 ≤ v := by omega
  have hin : ∀ j : Int, 0 ≤ j → j < 2 * n → P.lw.mem.in j := fun j h0 h2 => ⟨h0, by rw [I.len]; push_cast; exact h2⟩
  have q4 := step_obj adG P t i (.prop t pc v seen val) h
  have q5 := step_lw adG P t i (.prop t pc v seen val) h
  rcases hph with ⟨rfl, rfl, hA0⟩ | ⟨rfl, hAv, hS, hl, hB0⟩ | ⟨rfl, hAv, hS, hl, hB0⟩ | ⟨rfl, hAv, hB0, hS, hl⟩
  · have hAf : P.after adG t (.prop t 0 v [] val) = (P.obj, { P.lw with mem := P.lw.mem.acc 1 t v 0 }, .prop t 1 v [] val, false) := rfl
    obtain ⟨q1, q2, q3⟩ := step_more (i := i) (h := h) (by rw [hAf])
    rw [hAf] at q1 q4 q5
    obtain ⟨f1, f2, f3⟩ := mod_facts q3 he
    generalize P.step adG t i (.prop t 0 v [] val) h = P' at *
    have hB0 : B t = 0 := Decidable.byContradiction fun hb => (I.bval t htn hb).1 hA0
    have hmem : ∀ b : Int, 0 ≤ b → P'.lw.mem.at b = if b = t then v else P.lw.mem.at b := by
      intro b hb
      rw [q5]
      exact mm_at (hin t (by omega) (by omega)) hb
    refine ⟨upd A t v, B, S1, S2, I.next hcs htn hm he hs hT hW q4 ?_ ?_ ?_ (I.c1.write hA0 (by omega)) I.c2 (fun j hj => upd_other hj) (fun _ _ => rfl) (fun _ _ => rfl) (fun _ _ => rfl) (fun hb => absurd hB0 hb) (by rw [upd_same, hv]) (fun s hs => by rw [q1, upd_other hs]) f1 f2 f3 rfl rfl hs.2.2 (.inl ⟨1, v, [], val, by rw [q1, upd_same], hr0, hv, .inr (.inl ⟨rfl, upd_same _ _ _, ?_, hn0, hB0⟩)⟩)⟩
    · rw [q5]; exact (mm_len _ _ _ _ _).trans I.len
    · intro j hj
      rw [hmem j (by omega)]
      by_cases hjt : j = t
      · rw [hjt, if_pos rfl, upd_same]
      · rw [if_neg (by omega), upd_other hjt]
        exact I.memA j hj
    · intro j hj
      rw [hmem _ (by omega), if_neg (by omega)]
      exact I.memB j hj
    · exact (I.c1.w t htn hA0).symm
  · have hin1 := hin (seen.length : Int) (by omega) (by omega)
    have htell : P.lw.mem.tell 0 (seen.length : Int) 0 = A seen.length := (mm_tell hin1).trans (I.memA _ hl)
    have hAf : P.after adG t (.prop t 1 v seen val) = (P.obj, { P.lw with mem := P.lw.mem.acc 0 (seen.length : Int) 0 0 }, .prop t (if (seen ++ [A seen.length]).length = n then 2 else 1) v (seen ++ [A seen.length]) val, false) := by
      rw [← htell, ← I.on]
      rfl
    obtain ⟨q1, q2, q3⟩ := step_more (i := i) (h := h) (by rw [hAf])
    rw [hAf] at q1 q4 q5
    obtain ⟨f1, f2, f3⟩ := mod_facts q3 he
    generalize P.step adG t i (.prop t 1 v seen val) h = P' at *
    have hmem : ∀ b : Int, 0 ≤ b → P'.lw.mem.at b = P.lw.mem.at b := by
      intro b hb
      rw [q5]
      exact mm_read hin1 hb
    have hS' : upd S1 t (S1 t ++ [A (S1 t).length]) t = seen ++ [A seen.length] := by rw [upd_same, hS]
    refine ⟨A, B, upd S1 t (S1 t ++ [A (S1 t).length]), S2, I.next hcs htn hm he hs hT hW q4 ?_ ?_ ?_ (I.c1.read (by omega) (by rw [← hS]; exact hl)) I.c2 (fun _ _ => rfl) (fun _ _ => rfl) (fun j hj => upd_other hj) (fun _ _ => rfl) (fun hb => absurd hB0 hb) (by rw [hAv, hv]) (fun s hs => by rw [q1, upd_other hs]) f1 f2 f3 rfl rfl hs.2.2 (.inl ⟨_, v, _, val, by rw [q1, upd_same], hr0, hv, ?_⟩)⟩
    · rw [q5]; exact (mm_len _ _ _ _ _).trans I.len
    · intro j hj
      rw [hmem _ (by omega)]
      exact I.memA j hj
    · intro j hj
      rw [hmem _ (by omega)]
      exact I.memB j hj
    · by_cases hfull : (seen ++ [A seen.length]).length = n
      · rw [if_pos hfull]
        exact .inr (.inr (.inl ⟨rfl, hAv, hS'.symm, hfull, hB0⟩))
      · rw [if_neg hfull]
        refine .inr (.inl ⟨rfl, hAv, hS'.symm, ?_, hB0⟩)
        rw [List.length_append] at hfull ⊢
        have : ([A seen.length] : List Int).length = 1 := rfl
        omega
  · have hAf : P.after adG t (.prop t 2 v seen val) = (P.obj, { P.lw with mem := P.lw.mem.acc 1 ((n : Int) + t) (markF v seen) 0 }, .prop t 3 v [] val, false) := by
      rw [← I.on]
      rfl
    obtain ⟨q1, q2, q3⟩ := step_more (i := i) (h := h) (by rw [hAf])
    rw [hAf] at q1 q4 q5
    obtain ⟨f1, f2, f3⟩ := mod_facts q3 he
    generalize P.step adG t i (.prop t 2 v seen val) h = P' at *
    have hmem : ∀ b : Int, 0 ≤ b → P'.lw.mem.at b = if b = (n : Int) + t then markF v seen else P.lw.mem.at b := by
      intro b hb
      rw [q5]
      exact mm_at (hin _ (by omega) (by omega)) hb
    have hmk := (markF_two seen hv1).1
    refine ⟨A, upd B t (markF v seen), S1, S2, I.next hcs htn hm he hs hT hW q4 ?_ ?_ ?_ I.c1 (I.c2.write hB0 (by omega)) (fun _ _ => rfl) (fun j hj => upd_other hj) (fun _ _ => rfl) (fun _ _ => rfl) (fun _ => ⟨by omega, by rw [← hS]; exact hl, by rw [upd_same, hAv, ← hS]⟩) (by rw [hAv, hv]) (fun s hs => by rw [q1, upd_other hs]) f1 f2 f3 rfl rfl hs.2.2 (.inl ⟨3, v, [], val, by rw [q1, upd_same], hr0, hv, .inr (.inr (.inr ⟨rfl, hAv, by rw [upd_same]; omega, ?_, hn0⟩))⟩)⟩
    · rw [q5]; exact (mm_len _ _ _ _ _).trans I.len
    · intro j hj
      rw [hmem _ (by omega), if_neg (by omega)]
      exact I.memA j hj
    · intro j hj
      rw [hmem _ (by omega)]
      by_cases hjt : j = t
      · rw [hjt, if_pos rfl, upd_same]
      · rw [if_neg (by omega), upd_other hjt]
        exact I.memB j hj
    · exact (I.c2.w t htn hB0).symm
  · have hin1 := hin ((n : Int) + seen.length) (by omega) (by omega)
    have htell : P.lw.mem.tell 0 ((n : Int) + seen.length) 0 = B seen.length := (mm_tell hin1).trans (I.memB _ hl)
    have c2' := I.c2.read (t := t) hB0 (by rw [← hS]; exact hl)
    have hS' : upd S2 t (S2 t ++ [B (S2 t).length]) t = seen ++ [B seen.length] := by rw [upd_same, hS]
    by_cases hfull : (seen ++ [B seen.length]).length = n
    · have hAf : P.after adG t (.prop t 3 v seen val) = (P.obj, { P.lw with mem := P.lw.mem.acc 0 ((n : Int) + seen.length) 0 0 }, .prop t 3 v (seen ++ [B seen.length]) (endF v (seen ++ [B seen.length])), true) := by
        have hf2 := hfull
        rw [← htell] at hf2 ⊢
        rw [← I.on] at hf2 ⊢
        show adStep P.obj P.lw (.prop t 3 v seen val) = _
        unfold adStep
        dsimp only
        rw [if_neg (by decide), if_neg (by decide), if_neg (by decide), if_pos hf2]
      obtain ⟨q1, q2, key, q3⟩ := step_done (i := i) (h := h) (by rw [hAf])
      rw [hAf] at q3 q4 q5
      obtain ⟨f1, f2, f3⟩ := mod_facts q3 he
      generalize P.step adG t i (.prop t 3 v seen val) h = P' at *
      have hmem : ∀ b : Int, 0 ≤ b → P'.lw.mem.at b = P.lw.mem.at b := by
        intro b hb
        rw [q5]
        exact mm_read hin1 hb
      have hlate : ∀ (k : Nat) (x : Ep), P.evs[k]? = some x → x.inv < P.lw.now := by
        rcases hinv with ⟨_, _, _, h⟩ | h
        · cases h
        · exact h
      have hold : ∀ (k : Nat) (x : Ep), P.evs[k]? = some x → isProp cs x → ∃ (k : Nat) (y : Ep), P'.evs[k]? = some y ∧ isProp cs y ∧ prA cs y = prA cs x ∧ y.inv = x.inv := by
        intro k x hx hxs
        by_cases hk : k = h
        · subst hk
          rw [he] at hx
          cases hx
          exact ⟨k, _, f3, ⟨hs.1, hs.2.1, rfl⟩, rfl, rfl⟩
        · exact ⟨k, x, f2 k x hk hx, hxs, rfl, rfl⟩
      refine ⟨A, B, S1, upd S2 t (S2 t ++ [B (S2 t).length]), I.next hcs htn hm he hs hT hW q4 ?_ ?_ ?_ I.c1 c2' (fun _ _ => rfl) (fun _ _ => rfl) (fun _ _ => rfl) (fun j hj => upd_other hj) (I.bval t htn) (by rw [hAv, hv]) (fun s hs => by rw [q1, upd_other hs]) f1 f2 f3 rfl rfl rfl (.inr ⟨by rw [q1, upd_same], ?_, ?_⟩)⟩
      · rw [q5]; exact (mm_len _ _ _ _ _).trans I.len
      · intro j hj
        rw [hmem _ (by omega)]
        exact I.memA j hj
      · intro j hj
        rw [hmem _ (by omega)]
        exact I.memB j hj
      · show P.lw.now ≠ 0
        omega
      · refine ⟨?_, ?_, ?_, ?_, ?_⟩
        · show A (prT cs e) = prA cs e + 1
          rw [hT, hAv, hv]
        · show B (prT cs e) ≠ 0
          rw [hT]; exact hB0
        · show (upd S2 t _ (prT cs e)).length = n
          rw [hT, hS']; exact hfull
        · show endF v (seen ++ [B seen.length]) = endF (prA cs e + 1) (upd S2 t _ (prT cs e))
          rw [hT, hS', hv]
        · show ∃ (k : Nat) (y : Ep), P'.evs[k]? = some y ∧ isProp cs y ∧ prA cs y = endF v (seen ++ [B seen.length]) / 2 ∧ y.inv < P.lw.now
          have hmarks : ∀ m ∈ seen ++ [B seen.length], m = 0 ∨ ∃ j, j < n ∧ m = B j ∧ A j ≠ 0 ∧ 2 ≤ m ∧ m / 2 = A j := by
            intro m hm
            obtain ⟨j, hj⟩ := List.mem_iff_getElem?.1 hm
            rw [← hS'] at hj
            obtain ⟨a1, a2⟩ := c2'.v t j m htn hj
            rcases a2 with a2 | a2
            · exact .inl a2
            · by_cases hm0 : m = 0
              · exact .inl hm0
              · refine .inr ⟨j, a1, a2, ?_⟩
                obtain ⟨b1, b2, b3⟩ := I.bval j a1 (by rw [← a2]; exact hm0)
                obtain ⟨k, y, y1, _, _, y4⟩ := I.aval j a1 b1
                have hy := (prT_lt hcs (I.wf.call k y y1).1).2.2
                obtain ⟨z1, z2, _⟩ := markF_two (S1 j) (show 1 ≤ A j by omega)
                rw [a2, b3]
                exact ⟨b1, z1, z2⟩
          rcases firstF_cases (l := seen ++ [B seen.length]) (fun m hm => by rcases hmarks m hm with h | ⟨_, _, _, _, h, _⟩ <;> omega) with ⟨g1, _⟩ | ⟨m, hm, g1, g2, g3⟩
          · obtain ⟨k, y, y1, y2, y3, y4⟩ := hold h e he hs
            refine ⟨k, y, y1, y2, ?_, by rw [y4]; exact hlate h e he⟩
            unfold endF
            rw [g1, if_neg (by omega), y3]
            omega
          · rcases hmarks m hm with h | ⟨j, j1, _, j3, _, j5⟩
            · omega
            · obtain ⟨k, x, x1, x2, _, x4⟩ := I.aval j j1 j3
              obtain ⟨k, y, y1, y2, y3, y4⟩ := hold k x x1 x2
              refine ⟨k, y, y1, y2, ?_, by rw [y4]; exact hlate _ x x1⟩
              unfold endF
              rw [if_pos g3, y3, g2, j5]
              split <;> omega
    · have hAf : P.after adG t (.prop t 3 v seen val) = (P.obj, { P.lw with mem := P.lw.mem.acc 0 ((n : Int) + seen.length) 0 0 }, .prop t 3 v (seen ++ [B seen.length]) val, false) := by
        have hf2 := hfull
        rw [← htell] at hf2 ⊢
        rw [← I.on] at hf2 ⊢
        show adStep P.obj P.lw (.prop t 3 v seen val) = _
        unfold adStep
        dsimp only
        rw [if_neg (by decide), if_neg (by decide), if_neg (by decide), if_neg hf2]
      obtain ⟨q1, q2, q3⟩ := step_more (i := i) (h := h) (by rw [hAf])
      rw [hAf] at q1 q4 q5
      obtain ⟨f1, f2, f3⟩ := mod_facts q3 he
      generalize P.step adG t i (.prop t 3 v seen val) h = P' at *
      have hmem : ∀ b : Int, 0 ≤ b → P'.lw.mem.at b = P.lw.mem.at b := by
        intro b hb
        rw [q5]
        exact mm_read hin1 hb
      refine ⟨A, B, S1, upd S2 t (S2 t ++ [B (S2 t).length]), I.next hcs htn hm he hs hT hW q4 ?_ ?_ ?_ I.c1 c2' (fun _ _ => rfl) (fun _ _ => rfl) (fun _ _ => rfl) (fun j hj => upd_other hj) (I.bval t htn) (by rw [hAv, hv]) (fun s hs => by rw [q1, upd_other hs]) f1 f2 f3 rfl rfl hs.2.2 (.inl ⟨3, v, _, val, by rw [q1, upd_same], hr0, hv, .inr (.inr (.inr ⟨rfl, hAv, hB0, hS'.symm, ?_⟩))⟩)⟩
      · rw [q5]; exact (mm_len _ _ _ _ _).trans I.len
      · intro j hj
        rw [hmem _ (by omega)]
        exact I.memA j hj
      · intro j hj
        rw [hmem _ (by omega)]
        exact I.memB j hj
      · rw [List.length_append] at hfull ⊢
        have : ([B seen.length] : List Int).length = 1 := rfl
        omega
end Go.Proofs.Ytlfingcmekifkaa
