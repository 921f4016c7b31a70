/- The steps of a thread that takes a name. -/
import Derived.Test.YtlfingcmekifkaaLs4
namespace Go.Proofs.Ytlfingcmekifkaa
open Go.RowKit

theorem cnt_le (n : Nat) (p : Nat → Prop) : cntP n p ≤ n := by
  unfold cntP
  have := List.countP_le_length (p := fun t => @decide (p t) (Classical.propDecidable _)) (l := List.range n)
  rw [List.length_range] at this
  exact this
theorem SInv.step {n : Nat} {cs : List Cl} {P : Ps SM Spl} {vis right down : Nat → Nat → Nat → Prop} {cur : Nat → Option (Nat × Nat × Nat)} {La Sh : Nat → Nat → Int} (I : SInv n cs P vis right down cur La Sh) {t i h : Nat} {m : SM}
    (hm : P.hands t = some (m, h)) (h1 : 1 ≤ P.lw.now) : ∃ vis' right' down' cur' La' Sh', SInv n cs (P.step spG t i m h) vis' right' down' cur' La' Sh' := by
  have hW := I.wf.step (i := i) spG_still hm h1
  obtain ⟨pc, r, c, e, rfl, hpc, hcur, he, hs, hst⟩ := I.mach t m h hm
  obtain ⟨e0, he0, hr0, ht0, ha0⟩ := I.wf.hand t _ h hm
  rw [he] at he0
  cases he0
  have hT : tkT cs e = t := by unfold tkT; rw [ht0]; exact Int.toNat_natCast t
  have hrc : r + c < n := by
    have := I.grid.near hcur
    have := cnt_le n fun t => cur t ≠ none
    omega
  have hnm := name_lt hrc
  have hin0 : P.lw.mem.in (2 * nameN r c : Nat) := ⟨by omega, by rw [I.len]; omega⟩
  have hin1 : P.lw.mem.in ((2 * nameN r c : Nat) + 1) := ⟨by omega, by rw [I.len]; omega⟩
  have hft : ∀ k a x y, P.lw.mem.in a → (P.lw.mem.acc k a x y).ft = 0 := by
    intro k a x y ha
    unfold Mm.acc
    rw [if_pos ha]
    unfold Mm.bump
    have := I.flt
    split
    · exact this
    · split
      · exact this
      · split <;> exact this
  have hhas : P.obj.has t = false := by
    cases hh : P.obj.has t with
    | false => rfl
    | true =>
      obtain ⟨r', c', h'⟩ := I.has t hh
      rw [hcur] at h'
      cases h'
      omega
  have q4 := step_obj spG P t i (.take t pc r c) h
  have q5 := step_lw spG P t i (.take t pc r c) h
  obtain rfl | rfl | rfl | rfl : pc = 0 ∨ pc = 1 ∨ pc = 2 ∨ pc = 3 := by omega
  · have hA : P.after spG t (.take t 0 r c) = (P.obj, { P.lw with mem := P.lw.mem.acc 1 (2 * nameN r c : Nat) (t + 1) 0 }, .take t 1 r c, false) := rfl
    obtain ⟨q1, q2, q3⟩ := step_more (i := i) (h := h) (by rw [hA])
    rw [hA] at q1 q4 q5
    obtain ⟨f1, f2, f3⟩ := mod_facts q3 he
    generalize P.step spG t i (.take t 0 r c) h = P' at *
    refine ⟨_, _, _, _, _, _, I.next hm he hs hT hW ?_ ?_ (I.grid.last hcur) ?_ ?_ (fun s hs => upd_other hs) (by rw [upd_same]; simp) (fun s hs => by rw [q1, upd_other hs]) f1 f2 f3 rfl hs.2.2 (.inl ⟨1, r, c, by rw [q1, upd_same], by decide, upd_same _ _ _, by rw [q4], hhas, hr0, ?_⟩)⟩
    · rw [q5]; exact (mm_len _ _ _ _ _).trans I.len
    · rw [q5]; exact hft _ _ _ _ hin0
    · intro r' c' h'
      rw [q5]
      refine (mm_at hin0 (by omega)).trans ?_
      by_cases e : r' = r ∧ c' = c
      · obtain ⟨rfl, rfl⟩ := e
        rw [if_pos rfl, updC_same]
        rfl
      · rw [if_neg (fun h => e (name_inj (by omega))), updC_other e]
        exact I.memL r' c' h'
    · intro r' c' h'
      rw [q5]
      refine (mm_at hin0 (by omega)).trans ?_
      rw [if_neg (by omega)]
      exact I.memS r' c' h'
    · show e.steps + 1 ≤ _
      omega
  · have htell : P.lw.mem.tell 0 ((2 * nameN r c : Nat) + 1) 0 = Sh r c := (mm_tell hin1).trans (I.memS r c hrc)
    by_cases hsh : Sh r c = 0
    · have hA : P.after spG t (.take t 1 r c) = (P.obj, { P.lw with mem := P.lw.mem.acc 0 ((2 * nameN r c : Nat) + 1) 0 0 }, .take t 2 r c, false) := by
        show spStep P.obj P.lw (.take t 1 r c) = _
        unfold spStep
        dsimp only
        rw [if_neg (by decide), if_pos rfl, if_neg (by rw [htell]; exact fun h => h hsh)]
      obtain ⟨q1, q2, q3⟩ := step_more (i := i) (h := h) (by rw [hA])
      rw [hA] at q1 q4 q5
      obtain ⟨f1, f2, f3⟩ := mod_facts q3 he
      generalize P.step spG t i (.take t 1 r c) h = P' at *
      refine ⟨_, _, _, _, _, _, I.next hm he hs hT hW ?_ ?_ (I.grid.ask hcur hsh) ?_ ?_ (fun s hs => upd_other hs) (by rw [upd_same]; simp) (fun s hs => by rw [q1, upd_other hs]) f1 f2 f3 rfl hs.2.2 (.inl ⟨2, r, c, by rw [q1, upd_same], by decide, upd_same _ _ _, by rw [q4], hhas, hr0, ?_⟩)⟩
      · rw [q5]; exact (mm_len _ _ _ _ _).trans I.len
      · rw [q5]; exact hft _ _ _ _ hin1
      · intro r' c' h'
        rw [q5]
        exact (mm_read hin1 (by omega)).trans (I.memL r' c' h')
      · intro r' c' h'
        rw [q5]
        exact (mm_read hin1 (by omega)).trans (I.memS r' c' h')
      · show e.steps + 1 ≤ _
        omega
    · have hA : P.after spG t (.take t 1 r c) = (P.obj, { P.lw with mem := P.lw.mem.acc 0 ((2 * nameN r c : Nat) + 1) 0 0 }, .take t 0 r (c + 1), false) := by
        show spStep P.obj P.lw (.take t 1 r c) = _
        unfold spStep
        dsimp only
        rw [if_neg (by decide), if_pos rfl, if_pos (by rw [htell]; exact hsh)]
      obtain ⟨q1, q2, q3⟩ := step_more (i := i) (h := h) (by rw [hA])
      rw [hA] at q1 q4 q5
      obtain ⟨f1, f2, f3⟩ := mod_facts q3 he
      generalize P.step spG t i (.take t 1 r c) h = P' at *
      refine ⟨_, _, _, _, _, _, I.next hm he hs hT hW ?_ ?_ (I.grid.move true hcur (by decide) hsh (fun _ => by decide) (fun h => by cases h)) ?_ ?_ (fun s hs => upd_other hs) (by rw [upd_same]; simp) (fun s hs => by rw [q1, upd_other hs]) f1 f2 f3 rfl hs.2.2 (.inl ⟨0, r, c + 1, by rw [q1, upd_same], by decide, upd_same _ _ _, by rw [q4], hhas, hr0, ?_⟩)⟩
      · rw [q5]; exact (mm_len _ _ _ _ _).trans I.len
      · rw [q5]; exact hft _ _ _ _ hin1
      · intro r' c' h'
        rw [q5]
        exact (mm_read hin1 (by omega)).trans (I.memL r' c' h')
      · intro r' c' h'
        rw [q5]
        exact (mm_read hin1 (by omega)).trans (I.memS r' c' h')
      · show e.steps + 1 ≤ _
        omega
  · have hA : P.after spG t (.take t 2 r c) = (P.obj, { P.lw with mem := P.lw.mem.acc 1 ((2 * nameN r c : Nat) + 1) 1 0 }, .take t 3 r c, false) := rfl
    obtain ⟨q1, q2, q3⟩ := step_more (i := i) (h := h) (by rw [hA])
    rw [hA] at q1 q4 q5
    obtain ⟨f1, f2, f3⟩ := mod_facts q3 he
    generalize P.step spG t i (.take t 2 r c) h = P' at *
    refine ⟨_, _, _, _, _, _, I.next hm he hs hT hW ?_ ?_ (I.grid.shut hcur) ?_ ?_ (fun s hs => upd_other hs) (by rw [upd_same]; simp) (fun s hs => by rw [q1, upd_other hs]) f1 f2 f3 rfl hs.2.2 (.inl ⟨3, r, c, by rw [q1, upd_same], by decide, upd_same _ _ _, by rw [q4], hhas, hr0, ?_⟩)⟩
    · rw [q5]; exact (mm_len _ _ _ _ _).trans I.len
    · rw [q5]; exact hft _ _ _ _ hin1
    · intro r' c' h'
      rw [q5]
      refine (mm_at hin1 (by omega)).trans ?_
      rw [if_neg (by omega)]
      exact I.memL r' c' h'
    · intro r' c' h'
      rw [q5]
      refine (mm_at hin1 (by omega)).trans ?_
      by_cases e : r' = r ∧ c' = c
      · obtain ⟨rfl, rfl⟩ := e
        rw [if_pos rfl, updC_same]
        rfl
      · rw [if_neg (fun h => e (name_inj (by omega))), updC_other e]
        exact I.memS r' c' h'
    · show e.steps + 1 ≤ _
      omega
  · have htell : P.lw.mem.tell 0 (2 * nameN r c : Nat) 0 = La r c := (mm_tell hin0).trans (I.memL r c hrc)
    by_cases hla : La r c = t + 1
    · have hA : P.after spG t (.take t 3 r c) = (⟨upd P.obj.has t true⟩, { P.lw with mem := P.lw.mem.acc 0 (2 * nameN r c : Nat) 0 0 }, .take t 3 r c, true) := by
        show spStep P.obj P.lw (.take t 3 r c) = _
        unfold spStep
        dsimp only
        rw [if_neg (by decide), if_neg (by decide), if_neg (by decide), if_pos (by rw [htell]; exact hla)]
      obtain ⟨q1, q2, key, q3⟩ := step_done (i := i) (h := h) (by rw [hA])
      rw [hA] at q3 q4 q5
      obtain ⟨f1, f2, f3⟩ := mod_facts q3 he
      generalize P.step spG t i (.take t 3 r c) h = P' at *
      refine ⟨_, _, _, _, _, _, I.next hm he hs hT hW ?_ ?_ (I.grid.take hcur hla) ?_ ?_ (fun s hs => upd_other hs) (by rw [upd_same]; simp) (fun s hs => by rw [q1, upd_other hs]) f1 f2 f3 rfl rfl (.inr ⟨r, c, by rw [q1, upd_same], upd_same _ _ _, by rw [q4], ?_, rfl, ?_⟩)⟩
      · rw [q5]; exact (mm_len _ _ _ _ _).trans I.len
      · rw [q5]; exact hft _ _ _ _ hin0
      · intro r' c' h'
        rw [q5]
        exact (mm_read hin0 (by omega)).trans (I.memL r' c' h')
      · intro r' c' h'
        rw [q5]
        exact (mm_read hin0 (by omega)).trans (I.memS r' c' h')
      · show P.lw.now ≠ 0
        omega
      · show e.steps + 1 ≤ _
        omega
    · have hA : P.after spG t (.take t 3 r c) = (P.obj, { P.lw with mem := P.lw.mem.acc 0 (2 * nameN r c : Nat) 0 0 }, .take t 0 (r + 1) c, false) := by
        show spStep P.obj P.lw (.take t 3 r c) = _
        unfold spStep
        dsimp only
        rw [if_neg (by decide), if_neg (by decide), if_neg (by decide), if_neg (by rw [htell]; exact hla)]
      obtain ⟨q1, q2, q3⟩ := step_more (i := i) (h := h) (by rw [hA])
      rw [hA] at q1 q4 q5
      obtain ⟨f1, f2, f3⟩ := mod_facts q3 he
      generalize P.step spG t i (.take t 3 r c) h = P' at *
      refine ⟨_, _, _, _, _, _, I.next hm he hs hT hW ?_ ?_ (I.grid.move false hcur (by decide) (I.grid.shut3 t r c 3 hcur (by decide)) (fun h => by cases h) (fun _ => hla)) ?_ ?_ (fun s hs => upd_other hs) (by rw [upd_same]; simp) (fun s hs => by rw [q1, upd_other hs]) f1 f2 f3 rfl hs.2.2 (.inl ⟨0, r + 1, c, by rw [q1, upd_same], by decide, upd_same _ _ _, by rw [q4], hhas, hr0, ?_⟩)⟩
      · rw [q5]; exact (mm_len _ _ _ _ _).trans I.len
      · rw [q5]; exact hft _ _ _ _ hin0
      · intro r' c' h'
        rw [q5]
        exact (mm_read hin0 (by omega)).trans (I.memL r' c' h')
      · intro r' c' h'
        rw [q5]
        exact (mm_read hin0 (by omega)).trans (I.memS r' c' h')
      · show e.steps + 1 ≤ _
        omega
end Go.Proofs.Ytlfingcmekifkaa
