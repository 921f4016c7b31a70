import Derived.Test.YtlfingcmekifkaaGreatBun22
namespace Go.Proofs.YtlfingcmekifkaaGreat
open Go.RowKit
theorem cnt_le (n : Nat) (p : Nat → Prop) : cntP n p ≤ n := by
  unfold cntP
  have := List.countP_le_length (p := fun t => @decide (p t) (Classical.propDecidable _)) (l := List.range n)
  rw [List.length_range] at this
  exact this
theorem SInv.step {n : Nat} {cs : List Cl} {P : Ps SM Spl} {vis right down : Nat → Nat → Nat → Prop} {cur : Nat → Option (Nat × Nat × Nat)} {La Sh : Nat → Nat → Int} (I : SInv n cs P vis right down cur La Sh) {t i h : Nat} {m : SM}
    (hm : P.hands t = some (m, h)) (h1 : 1 ≤ P.lw.now) : ∃ vis' right' down' cur' La' Sh', SInv n cs (P.step spG t i m h) vis' right' down' cur' La' Sh' := by
  have hW := I.wf.step (i := i) spG_still hm h1
  obtain ⟨pc, r, c, e, rfl, hpc, hcur, he, hs, hst⟩ := I.mach t m h hm
  obtain ⟨e0, he0, hr0, ht0, ha0⟩ := I.wf.hand t _ h hm
  rw [he] at he0
  cases he0
  have hT : tkT cs e = t := by unfold tkT; rw [ht0]; exact Int.toNat_natCast t
  have hrc : r + c < n := by
    have := I.grid.near hcur
    have := cnt_le n fun t => cur t ≠ none
    omega
  have hnm := name_lt hrc
  have hin0 : P.lw.mem.in (2 * nameN r c : Nat) := ⟨by omega, by rw [I.len]; omega⟩
  have hin1 : P.lw.mem.in ((2 * nameN r c : Nat) + 1) := ⟨by omega, by rw [I.len]; omega⟩
  have hft : ∀ k a x y, P.lw.mem.in a → (P.lw.mem.acc k a x y).ft = 0 := by
    intro k a x y ha
    unfold Mm.acc
    rw [if_pos ha]
    unfold Mm.bump
    have := I.flt
    split
    · exact this
    · split
      · exact this
      · split <;> exact this
  have hhas : P.obj.has t = false := by
    cases hh : P.obj.has t with
    | false => rfl
    | true =>
      obtain ⟨r', c', h'⟩ := I.has t hh
      rw [hcur] at h'
      cases h'
      omega
  have q4 := step_obj spG P t i (.take t pc r c) h
  have q5 := step_lw spG P t i (.take t pc r c) h
  obtain rfl | rfl | rfl | rfl : pc = 0 ∨ pc = 1 ∨ pc = 2 ∨ pc = 3 := by omega
  · have hA : P.after spG t (.take t 0 r c) = (P.obj, { P.lw with mem := P.lw.mem.acc 1 (2 * nameN r c : Nat) (t + 1) 0 }, .take t 1 r c, false) := rfl
    obtain ⟨q1, q2, q3⟩ := step_more (i := i) (h := h) (by rw [hA])
    rw [hA] at q1 q4 q5
    obtain ⟨f1, f2, f3⟩ := mod_facts q3 he
    generalize P.step spG t i (.take t 0 r c) h = P' at *
    refine ⟨_, _, _, _, _, _, I.next hm he hs hT hW ?_ ?_ (I.grid.last hcur) ?_ ?_ (fun s hs => upd_other hs) (by rw [upd_same]; simp) (fun s hs => by rw [q1, upd_other hs]) f1 f2 f3 rfl hs.2.2 (.inl ⟨1, r, c, by rw [q1, upd_same], by decide, upd_same _ _ _, by rw [q4], hhas, hr0, ?_⟩)⟩
    · rw [q5]; exact (mm_len _ _ _ _ _).trans I.len
    · rw [q5]; exact hft _ _ _ _ hin0
    · intro r' c' h'
      rw [q5]
      refine (mm_at hin0 (by omega)).trans ?_
      by_cases e : r' = r ∧ c' = c
      · obtain ⟨rfl, rfl⟩ := e
        rw [if_pos rfl, updC_same]
        rfl
      · rw [if_neg (fun h => e (name_inj (by omega))), updC_other e]
        exact I.memL r' c' h'
    · intro r' c' h'
      rw [q5]
      refine (mm_at hin0 (by omega)).trans ?_
      rw [if_neg (by omega)]
      exact I.memS r' c' h'
    · show e.steps + 1 ≤ _
      omega
  · have htell : P.lw.mem.tell 0 ((2 * nameN r c : Nat) + 1) 0 = Sh r c := (mm_tell hin1).trans (I.memS r c hrc)
    by_cases hsh : Sh r c = 0
    · have hA : P.after spG t (.take t 1 r c) = (P.obj, { P.lw with mem := P.lw.mem.acc 0 ((2 * nameN r c : Nat) + 1) 0 0 }, .take t 2 r c, false) := by
        show spStep P.obj P.lw (.take t 1 r c) = _
        unfold spStep
        dsimp only
        rw [if_neg (by decide), if_pos rfl, if_neg (by rw [htell]; exact fun h => h hsh)]
      obtain ⟨q1, q2, q3⟩ := step_more (i := i) (h := h) (by rw [hA])
      rw [hA] at q1 q4 q5
      obtain ⟨f1, f2, f3⟩ := mod_facts q3 he
      generalize P.step spG t i (.take t 1 r c) h = P' at *
      refine ⟨_, _, _, _, _, _, I.next hm he hs hT hW ?_ ?_ (I.grid.ask hcur hsh) ?_ ?_ (fun s hs => upd_other hs) (by rw [upd_same]; simp) (fun s hs => by rw [q1, upd_other hs]) f1 f2 f3 rfl hs.2.2 (.inl ⟨2, r, c, by rw [q1, upd_same], by decide, upd_same _ _ _, by rw [q4], hhas, hr0, ?_⟩)⟩
      · rw [q5]; exact (mm_len _ _ _ _ _).trans I.len
      · rw [q5]; exact hft _ _ _ _ hin1
      · intro r' c' h'
        rw [q5]
        exact (mm_read hin1 (by omega)).trans (I.memL r' c' h')
      · intro r' c' h'
        rw [q5]
        exact (mm_read hin1 (by omega)).trans (I.memS r' c' h')
      · show e.steps + 1 ≤ _
        omega
    · have hA : P.after spG t (.take t 1 r c) = (P.obj, { P.lw with mem := P.lw.mem.acc 0 ((2 * nameN r c : Nat) + 1) 0 0 }, .take t 0 r (c + 1), false) := by
        show spStep P.obj P.lw (.take t 1 r c) = _
        unfold spStep
        dsimp only
        rw [if_neg (by decide), if_pos rfl, if_pos (by rw [htell]; exact hsh)]
      obtain ⟨q1, q2, q3⟩ := step_more (i := i) (h := h) (by rw [hA])
      rw [hA] at q1 q4 q5
      obtain ⟨f1, f2, f3⟩ := mod_facts q3 he
      generalize P.step spG t i (.take t 1 r c) h = P' at *
      refine ⟨_, _, _, _, _, _, I.next hm he hs hT hW ?_ ?_ (I.grid.move true hcur (by decide) hsh (fun _ => by decide) (fun h => by cases h)) ?_ ?_ (fun s hs => upd_other hs) (by rw [upd_same]; simp) (fun s hs => by rw [q1, upd_other hs]) f1 f2 f3 rfl hs.2.2 (.inl ⟨0, r, c + 1, by rw [q1, upd_same], by decide, upd_same _ _ _, by rw [q4], hhas, hr0, ?_⟩)⟩
      · rw [q5]; exact (mm_len _ _ _ _ _).trans I.len
      · rw [q5]; exact hft _ _ _ _ hin1
      · intro r' c' h'
        rw [q5]
        exact (mm_read hin1 (by omega)).trans (I.memL r' c' h')
      · intro r' c' h'
        rw [q5]
        exact (mm_read hin1 (by omega)).trans (I.memS r' c' h')
      · show e.steps + 1 ≤ _
        omega
  · have hA : P.after spG t (.take t 2 r c) = (P.obj, { P.lw with mem := P.lw.mem.acc 1 ((2 * nameN r c : Nat) + 1) 1 0 }, .take t 3 r c, false) := rfl
    obtain ⟨q1, q2, q3⟩ := step_more (i := i) (h := h) (by rw [hA])
    rw [hA] at q1 q4 q5
    obtain ⟨f1, f2, f3⟩ := mod_facts q3 he
    generalize P.step spG t i (.take t 2 r c) h = P' at *
    refine ⟨_, _, _, _, _, _, I.next hm he hs hT hW ?_ ?_ (I.grid.shut hcur) ?_ ?_ (fun s hs => upd_other hs) (by rw [upd_same]; simp) (fun s hs => by rw [q1, upd_other hs]) f1 f2 f3 rfl hs.2.2 (.inl ⟨3, r, c, by rw [q1, upd_same], by decide, upd_same _ _ _, by rw [q4], hhas, hr0, ?_⟩)⟩
    · rw [q5]; exact (mm_len _ _ _ _ _).trans I.len
    · rw [q5]; exact hft _ _ _ _ hin1
    · intro r' c' h'
      rw [q5]
      refine (mm_at hin1 (by omega)).trans ?_
      rw [if_neg (by omega)]
      exact I.memL r' c' h'
    · intro r' c' h'
      rw [q5]
      refine (mm_at hin1 (by omega)).trans ?_
      by_cases e : r' = r ∧ c' = c
      · obtain ⟨rfl, rfl⟩ := e
        rw [if_pos rfl, updC_same]
        rfl
      · rw [if_neg (fun h => e (name_inj (by omega))), updC_other e]
        exact I.memS r' c' h'
    · show e.steps + 1 ≤ _
      omega
  · have htell : P.lw.mem.tell 0 (2 * nameN r c : Nat) 0 = La r c := (mm_tell hin0).trans (I.memL r c hrc)
    by_cases hla : La r c = t + 1
    · have hA : P.after spG t (.take t 3 r c) = (⟨upd P.obj.has t true⟩, { P.lw with mem := P.lw.mem.acc 0 (2 * nameN r c : Nat) 0 0 }, .take t 3 r c, true) := by
        show spStep P.obj P.lw (.take t 3 r c) = _
        unfold spStep
        dsimp only
        rw [if_neg (by decide), if_neg (by decide), if_neg (by decide), if_pos (by rw [htell]; exact hla)]
      obtain ⟨q1, q2, key, q3⟩ := step_done (i := i) (h := h) (by rw [hA])
      rw [hA] at q3 q4 q5
      obtain ⟨f1, f2, f3⟩ := mod_facts q3 he
      generalize P.step spG t i (.take t 3 r c) h = P' at *
      refine ⟨_, _, _, _, _, _, I.next hm he hs hT hW ?_ ?_ (I.grid.take hcur hla) ?_ ?_ (fun s hs => upd_other hs) (by rw [upd_same]; simp) (fun s hs => by rw [q1, upd_other hs]) f1 f2 f3 rfl rfl (.inr ⟨r, c, by rw [q1, upd_same], upd_same _ _ _, by rw [q4], ?_, rfl, ?_⟩)⟩
      · rw [q5]; exact (mm_len _ _ _ _ _).trans I.len
      · rw [q5]; exact hft _ _ _ _ hin0
      · intro r' c' h'
        rw [q5]
        exact (mm_read hin0 (by omega)).trans (I.memL r' c' h')
      · intro r' c' h'
        rw [q5]
        exact (mm_read hin0 (by omega)).trans (I.memS r' c' h')
      · show P.lw.now ≠ 0
        omega
      · show e.steps + 1 ≤ _
        omega
    · have hA : P.after spG t (.take t 3 r c) = (P.obj, { P.lw with mem := P.lw.mem.acc 0 (2 * nameN r c : Nat) 0 0 }, .take t 0 (r + 1) c, false) := by
        show spStep P.obj P.lw (.take t 3 r c) = _
        unfold spStep
        dsimp only
        rw [if_neg (by decide), if_neg (by decide), if_neg (by decide), if_neg (by rw [htell]; exact hla)]
      obtain ⟨q1, q2, q3⟩ := step_more (i := i) (h := h) (by rw [hA])
      rw [hA] at q1 q4 q5
      obtain ⟨f1, f2, f3⟩ := mod_facts q3 he
      generalize P.step spG t i (.take t 3 r c) h = P' at *
      refine ⟨_, _, _, _, _, _, I.next hm he hs hT hW ?_ ?_ (I.grid.move false hcur (by decide) (I.grid.shut3 t r c 3 hcur (by decide)) (fun h => by cases h) (fun _ => hla)) ?_ ?_ (fun s hs => upd_other hs) (by rw [upd_same]; simp) (fun s hs => by rw [q1, upd_other hs]) f1 f2 f3 rfl hs.2.2 (.inl ⟨0, r + 1, c, by rw [q1, upd_same], by decide, upd_same _ _ _, by rw [q4], hhas, hr0, ?_⟩)⟩
      · rw [q5]; exact (mm_len _ _ _ _ _).trans I.len
      · rw [q5]; exact hft _ _ _ _ hin0
      · intro r' c' h'
        rw [q5]
        exact (mm_read hin0 (by omega)).trans (I.memL r' c' h')
      · intro r' c' h'
        rw [q5]
        exact (mm_read hin0 (by omega)).trans (I.memS r' c' h')
      · show e.steps + 1 ≤ _
        omega
end Go.Proofs.YtlfingcmekifkaaGreat

namespace Go.Proofs.YtlfingcmekifkaaGreat
open Go.RowKit
section
variable {n : Nat} {cs : List Cl} {P : Ps SM Spl} {vis right down : Nat → Nat → Nat → Prop} {cur : Nat → Option (Nat × Nat × Nat)} {La Sh : Nat → Nat → Int}
theorem SInv.new (n : Nat) (cs : List Cl) : SInv n cs (Ps.new (List.replicate (2 * tri n) 0) ⟨fun _ => false⟩ cs.length) (fun _ _ _ => False) (fun _ _ _ => False) (fun _ _ _ => False) (fun _ => none) (fun _ _ => 0) (fun _ _ => 0) := by
  have hat : ∀ j : Int, (Mm.new (List.replicate (2 * tri n) 0)).at j = 0 := by
    intro j
    unfold Mm.at Mm.new
    show ((List.replicate (2 * tri n) (0 : Int))[j.toNat]?).getD 0 = 0
    rw [List.getElem?_replicate]
    split <;> rfl
  refine ⟨PWf.new _ _ cs, Grid.new n, List.length_replicate, rfl, fun _ _ _ => hat _, fun _ _ _ => hat _, fun _ _ _ h => ?_, fun _ _ _ _ h => ?_, fun _ h => ?_, fun _ _ h => ?_, fun _ _ h => ?_, fun _ _ h => ?_, fun _ _ _ _ h => ?_, fun _ h => absurd rfl h⟩ <;> cases h
theorem SInv.tick (I : SInv n cs P vis right down cur La Sh) : SInv n cs P.tick vis right down cur La Sh := ⟨I.wf.tick, I.grid, I.len, I.flt, I.memL, I.memS, I.mach, I.held, I.has, I.done, I.ref, I.came, I.uniq, I.begun⟩
theorem SInv.idle (I : SInv n cs P vis right down cur La Sh) : SInv n cs { P with idle := P.idle + 1 } vis right down cur La Sh := ⟨⟨I.wf.finl, I.wf.now, I.wf.call, I.wf.hand, I.wf.opn⟩, I.grid, I.len, I.flt, I.memL, I.memS, I.mach, I.held, I.has, I.done, I.ref, I.came, I.uniq, I.begun⟩
theorem SInv.start (I : SInv n cs P vis right down cur La Sh) {t i : Nat} (hn : P.hands t = none) (hi : i < cs.length) (ht : (callOf cs i).thread = t) (h1 : 1 ≤ P.lw.now) (htn : t < n)
    (ho : (callOf cs i).obj = 0) (hk : (callOf cs i).kind = 0) (hst : P.obj.has t = false) : SInv n cs (P.start spG t i (callOf cs i)) (addV vis True t 0 0) right down (upd cur t (some (0, 0, 0))) La Sh ∧ (spG.start P.obj t (callOf cs i)).2 = .take t 0 0 0 := by
  have hS : spG.start P.obj t (callOf cs i) = (P.obj, .take t 0 0 0) := by
    show spStart P.obj t (callOf cs i) = _
    unfold spStart
    rw [if_neg (by omega), if_neg (by omega), if_neg (by rw [hst]; exact Bool.false_ne_true)]
  refine ⟨?_, by rw [hS]⟩
  have hc0 : cur t = none := by
    cases hc : cur t with
    | none => rfl
    | some x =>
      obtain ⟨r, c, pc⟩ := x
      obtain ⟨a1, a2⟩ := I.held t r c pc hc
      have := (I.grid.at' t r c pc hc).2.1
      by_cases h4 : pc = 4
      · rw [a2 h4] at hst
        cases hst
      · obtain ⟨m, h, hh⟩ := a1 (by omega)
        rw [hn] at hh
        cases hh
  have hW := I.wf.start (G := spG) (c := callOf cs i) hn hi ht h1
  have hobj : (P.start spG t i (callOf cs i)).obj = P.obj := by
    show (spG.start P.obj t (callOf cs i)).1 = _
    rw [hS]
  have hhands : (P.start spG t i (callOf cs i)).hands = upd P.hands t (some (.take t 0 0 0, P.evs.length)) := by
    show upd P.hands t (some ((spG.start P.obj t (callOf cs i)).2, P.evs.length)) = _
    rw [hS]
  have hevs : (P.start spG t i (callOf cs i)).evs = P.evs ++ [⟨i, P.lw.now, 0, 0, ⟨0, 0, []⟩, []⟩] := rfl
  have hT : ∀ x : Ep, x.call = i → tkT cs x = t := fun x hx => by unfold tkT; rw [hx, ht]; exact Int.toNat_natCast t
  have hne : ∀ (h : Nat) (e : Ep), P.evs[h]? = some e → isTk cs e → tkT cs e ≠ t := by
    intro h e he hs hc
    have := I.came h e he hs.1 hs.2.1
    rw [hc] at this
    exact this hc0
  refine ⟨hW, I.grid.begin' htn hc0, I.len, I.flt, I.memL, I.memS, fun s m h hs => ?_, fun s r c pc hc => ?_, fun s hh => ?_, fun h e he hr hs => ?_, fun h e he hs => ?_, fun h e he h1 h2 => ?_, fun h k e e' he he' hs hs' htt => ?_, fun s hc => ?_⟩
  · rw [hhands] at hs
    rw [hevs]
    by_cases hst' : s = t
    · subst hst'
      rw [upd_same] at hs
      cases hs
      exact ⟨0, 0, 0, _, rfl, by decide, upd_same _ _ _, snoc_new _ _, ⟨ho, hk, rfl⟩, by show (0 : Int) ≤ 4 * ((0 + 0 : Nat) : Int) + ((0 : Nat) : Int); decide⟩
    · rw [upd_other hst'] at hs
      obtain ⟨pc, r, c, e, a1, a2, a3, a4, a5⟩ := I.mach s m h hs
      exact ⟨pc, r, c, e, a1, a2, by rw [upd_other hst']; exact a3, snoc_old a4, a5⟩
  · rw [hhands, hobj]
    rcases upd_some hc with ⟨rfl, h'⟩ | ⟨hst', h'⟩
    · cases h'
      exact ⟨fun _ => ⟨_, _, upd_same _ _ _⟩, fun h => by omega⟩
    · rw [upd_other hst']
      exact I.held s r c pc h'
  · rw [hobj] at hh
    obtain ⟨r, c, h'⟩ := I.has s hh
    refine ⟨r, c, ?_⟩
    rw [upd_other ?_]
    · exact h'
    · rintro rfl
      rw [hc0] at h'
      cases h'
  · rw [hevs] at he
    rcases snoc_get he with ⟨_, he⟩ | ⟨_, rfl⟩
    · rw [upd_other (hne h e he hs)]
      exact I.done h e he hr hs
    · exact absurd rfl hr
  · rw [hevs] at he
    rcases snoc_get he with ⟨_, he⟩ | ⟨_, rfl⟩
    · exact I.ref h e he hs
    · show (0 : Int) ≤ 1
      decide
  · rw [hevs] at he
    rcases snoc_get he with ⟨_, he⟩ | ⟨_, rfl⟩
    · intro hc
      by_cases e' : tkT cs e = t
      · rw [e', upd_same] at hc
        cases hc
      · rw [upd_other e'] at hc
        exact I.came h e he h1 h2 hc
    · rw [hT _ rfl, upd_same]
      simp
  · rw [hevs] at he he'
    rcases snoc_get he with ⟨_, he⟩ | ⟨h1, rfl⟩
    · rcases snoc_get he' with ⟨_, he'⟩ | ⟨_, rfl⟩
      · exact I.uniq h k e e' he he' hs hs' htt
      · exact absurd (htt.trans (hT _ rfl)) (hne h e he hs)
    · rcases snoc_get he' with ⟨_, he'⟩ | ⟨h2, rfl⟩
      · exact absurd (htt.symm.trans (hT _ rfl)) (hne k e' he' hs')
      · omega
  · rw [hevs]
    by_cases hst' : s = t
    · exact ⟨_, _, snoc_new _ _, ⟨ho, hk, rfl⟩, by rw [hT _ rfl, hst']⟩
    · rw [upd_other hst'] at hc
      obtain ⟨k, x, a1, a2⟩ := I.begun s hc
      exact ⟨k, x, snoc_old a1, a2⟩
theorem SInv.refuse (I : SInv n cs P vis right down cur La Sh) {t i : Nat} (hn : P.hands t = none) (hi : i < cs.length) (ht : (callOf cs i).thread = t) (h1 : 1 ≤ P.lw.now) {e : Int} (he : e ≠ 0)
    (hS : spG.start P.obj t (callOf cs i) = (P.obj, .no e)) (hcm : (callOf cs i).obj = 0 → (callOf cs i).kind = 0 → cur t ≠ none) : SInv n cs ((P.start spG t i (callOf cs i)).step spG t i (.no e) P.evs.length) vis right down cur La Sh := by
  have hh : (P.start spG t i (callOf cs i)).hands t = some (.no e, P.evs.length) := by
    show upd P.hands t (some ((spG.start P.obj t (callOf cs i)).2, P.evs.length)) t = _
    rw [hS, upd_same]
  have hW := (I.wf.start (G := spG) (c := callOf cs i) hn hi ht h1).step (i := i) spG_still hh h1
  have hobj : (P.start spG t i (callOf cs i)).obj = P.obj := by
    show (spG.start P.obj t (callOf cs i)).1 = _
    rw [hS]
  have hA : (P.start spG t i (callOf cs i)).after spG t (.no e) = (P.obj, (P.start spG t i (callOf cs i)).lw, .no e, true) := by
    unfold Ps.after
    rw [hobj]
    rfl
  obtain ⟨q1, q2, key, q3⟩ := step_done (i := i) (h := P.evs.length) (G := spG) (P := P.start spG t i (callOf cs i)) (t := t) (m := .no e) (by rw [hA])
  have q4 := step_obj spG (P.start spG t i (callOf cs i)) t i (.no e) P.evs.length
  have q5 := step_lw spG (P.start spG t i (callOf cs i)) t i (.no e) P.evs.length
  rw [hA] at q3 q4 q5
  generalize hP : (P.start spG t i (callOf cs i)).step spG t i (.no e) P.evs.length = P' at *
  have hhands : ∀ s, P'.hands s = P.hands s := by
    intro s
    rw [q1]
    by_cases hs : s = t
    · rw [hs, upd_same, hn]
    · rw [upd_other hs]
      show upd P.hands t _ s = _
      rw [upd_other hs]
  have hev : P'.evs = P.evs ++ [⟨i, P.lw.now, P.lw.now, 0 + 1, ⟨e, 0, []⟩, key⟩] := by
    rw [q3]
    exact snoc_modify P.evs _ _
  have old : ∀ (k : Nat) (x : Ep), P'.evs[k]? = some x → isTk cs x → P.evs[k]? = some x := by
    intro k x hx hs
    rw [hev] at hx
    rcases snoc_get hx with ⟨_, hx⟩ | ⟨_, rfl⟩
    · exact hx
    · exact absurd hs.2.2 he
  refine ⟨hW, I.grid, by rw [q5]; exact I.len, by rw [q5]; exact I.flt, by rw [q5]; exact I.memL, by rw [q5]; exact I.memS, fun s m h hs => ?_, fun s r c pc hc => ?_, fun s hh => ?_, fun h x hx hr hs => ?_, fun h x hx hs => ?_, fun h x hx h1 h2 => ?_, fun h k x y hx hy hs hs' htt => ?_, fun s hc => ?_⟩
  · rw [hhands] at hs
    obtain ⟨pc, r, c, x, a1, a2, a3, a4, a5⟩ := I.mach s m h hs
    rw [hev]
    exact ⟨pc, r, c, x, a1, a2, a3, snoc_old a4, a5⟩
  · rw [hhands, q4]
    exact I.held s r c pc hc
  · rw [q4] at hh
    exact I.has s hh
  · exact I.done h x (old h x hx hs) hr hs
  · rw [hev] at hx
    rcases snoc_get hx with ⟨_, hx⟩ | ⟨_, rfl⟩
    · exact I.ref h x hx hs
    · show (0 : Int) + 1 ≤ 1
      decide
  · rw [hev] at hx
    rcases snoc_get hx with ⟨_, hx⟩ | ⟨_, rfl⟩
    · exact I.came h x hx h1 h2
    · have := hcm h1 h2
      unfold tkT
      rw [ht, Int.toNat_natCast]
      exact this
  · exact I.uniq h k x y (old h x hx hs) (old k y hy hs') hs hs' htt
  · obtain ⟨k, x, a1, a2⟩ := I.begun s hc
    rw [hev]
    exact ⟨k, x, snoc_old a1, a2⟩
end
end Go.Proofs.YtlfingcmekifkaaGreat

namespace Go.Proofs.YtlfingcmekifkaaGreat
open Go.RowKit
theorem SInv.pick {n : Nat} {cs : List Cl} {P : Ps SM Spl} {vis right down : Nat → Nat → Nat → Prop} {cur : Nat → Option (Nat × Nat × Nat)} {La Sh : Nat → Nat → Int} (I : SInv n cs P vis right down cur La Sh) (p : Int) (hcs : ∀ c ∈ cs, 0 ≤ c.thread ∧ c.thread < n) : ∃ vis' right' down' cur' La' Sh', SInv n cs (P.pick spG cs p) vis' right' down' cur' La' Sh' := by
  have h1 : 1 ≤ P.tick.lw.now := by
    have := I.wf.now
    show 1 ≤ P.lw.now + 1
    omega
  rcases pick_cases spG P p (fun c hc => (hcs c hc).1) with h | ⟨t, i, _, hi, ht, _, ⟨m, h, hm, hp⟩ | ⟨hn, hp⟩⟩
  · rw [h]
    exact ⟨_, _, _, _, _, _, I.idle⟩
  · rw [hp]
    exact I.tick.step (i := i) (P := P.tick) hm h1
  · rw [hp]
    have hC : callOf cs i ∈ cs := by
      unfold callOf
      rw [List.getElem?_eq_getElem hi]
      exact List.getElem_mem hi
    have htn : t < n := by
      have := hcs _ hC
      omega
    have hno : ∀ e, e ≠ 0 → ((callOf cs i).obj = 0 → (callOf cs i).kind = 0 → cur t ≠ none) → spG.start P.obj t (callOf cs i) = (P.obj, .no e) → ∃ vis' right' down' cur' La' Sh', SInv n cs ((P.tick.start spG t i (callOf cs i)).step spG t i (spG.start P.obj t (callOf cs i)).2 P.evs.length) vis' right' down' cur' La' Sh' := by
      intro e he hcm hS
      rw [hS]
      exact ⟨_, _, _, _, _, _, I.tick.refuse (P := P.tick) hn hi ht h1 he hS hcm⟩
    by_cases ho : (callOf cs i).obj = 0
    · by_cases hk : (callOf cs i).kind = 0
      · cases hst : P.obj.has t with
        | true =>
          refine hno 8 (by decide) (fun _ _ => ?_) ?_
          · obtain ⟨r, c, h⟩ := I.has t hst
            rw [h]
            simp
          · show spStart _ _ _ = _
            unfold spStart
            rw [if_neg (by omega), if_neg (by omega), if_pos hst]
        | false =>
          obtain ⟨I', hS⟩ := I.tick.start (P := P.tick) hn hi ht h1 htn ho hk hst
          have hh : (P.tick.start spG t i (callOf cs i)).hands t = some ((spG.start P.obj t (callOf cs i)).2, P.evs.length) := by
            show upd P.hands t (some ((spG.start P.obj t (callOf cs i)).2, P.evs.length)) t = _
            rw [upd_same]
          exact I'.step (i := i) hh h1
      · refine hno 9 (by decide) (fun _ h => absurd h hk) ?_
        show spStart _ _ _ = _
        unfold spStart
        rw [if_neg (by omega), if_pos hk]
    · refine hno 12 (by decide) (fun h => absurd h ho) ?_
      show spStart _ _ _ = _
      unfold spStart
      rw [if_pos ho]
theorem SInv.play {n : Nat} {cs : List Cl} (hcs : ∀ c ∈ cs, 0 ≤ c.thread ∧ c.thread < n) (picks : List Int) : ∀ {P : Ps SM Spl} {vis right down : Nat → Nat → Nat → Prop} {cur : Nat → Option (Nat × Nat × Nat)} {La Sh : Nat → Nat → Int}, SInv n cs P vis right down cur La Sh → ∃ vis' right' down' cur' La' Sh', SInv n cs (P.play spG cs picks) vis' right' down' cur' La' Sh' := by
  induction picks with
  | nil => exact fun I => ⟨_, _, _, _, _, _, I⟩
  | cons p l ih =>
    intro P vis right down cur La Sh I
    obtain ⟨_, _, _, _, _, _, I'⟩ := I.pick p hcs
    exact ih I'
def spPlay (n : Nat) (cs : List Cl) (picks : List Int) : Ps SM Spl := (Ps.new (List.replicate (2 * tri n) 0) ⟨fun _ => false⟩ cs.length).play spG cs picks
def begunT (cs : List Cl) (evs : List Ep) (t : Nat) : Prop := ∃ (h : Nat) (e : Ep), evs[h]? = some e ∧ (callOf cs e.call).obj = 0 ∧ (callOf cs e.call).kind = 0 ∧ tkT cs e = t
structure SpLaw (n : Nat) (cs : List Cl) (evs : List Ep) : Prop where
  call : ∀ (h : Nat) (e : Ep), evs[h]? = some e → e.call < cs.length
  steps : ∀ (h : Nat) (e : Ep), evs[h]? = some e → e.steps ≤ 4 * ((max (cntP n (begunT cs evs)) 1 : Nat) : Int)
  name : ∀ (h : Nat) (e : Ep), evs[h]? = some e → e.resp ≠ 0 → isTk cs e → ∃ m : Nat, e.ans.val = m ∧ m < tri (cntP n (begunT cs evs))
  one : ∀ (h k : Nat) (e e' : Ep), evs[h]? = some e → evs[k]? = some e' → e.resp ≠ 0 → e'.resp ≠ 0 → isTk cs e → isTk cs e' → e.ans.val = e'.ans.val → h = k
end Go.Proofs.YtlfingcmekifkaaGreat
