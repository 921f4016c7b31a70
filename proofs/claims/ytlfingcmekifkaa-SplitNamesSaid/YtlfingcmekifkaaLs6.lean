/- What SplitNames says of the events. -/
import Derived.Test.YtlfingcmekifkaaLs5
namespace Go.Proofs.Ytlfingcmekifkaa
open Go.RowKit

section
variable {n : Nat} {cs : List Cl} {P : Ps SM Spl} {vis right down : Nat → Nat → Nat → Prop} {cur : Nat → Option (Nat × Nat × Nat)} {La Sh : Nat → Nat → Int}
theorem SInv.new (n : Nat) (cs : List Cl) : SInv n cs (Ps.new (List.replicate (2 * tri n) 0) ⟨fun _ => false⟩ cs.length) (fun _ _ _ => False) (fun _ _ _ => False) (fun _ _ _ => False) (fun _ => none) (fun _ _ => 0) (fun _ _ => 0) := by
  have hat : ∀ j : Int, (Mm.new (List.replicate (2 * tri n) 0)).at j = 0 := by
    intro j
    unfold Mm.at Mm.new
    show ((List.replicate (2 * tri n) (0 : Int))[j.toNat]?).getD 0 = 0
    rw [List.getElem?_replicate]
    split <;> rfl
  refine ⟨PWf.new _ _ cs, Grid.new n, List.length_replicate, rfl, fun _ _ _ => hat _, fun _ _ _ => hat _, fun _ _ _ h => ?_, fun _ _ _ _ h => ?_, fun _ h => ?_, fun _ _ h => ?_, fun _ _ h => ?_, fun _ _ h => ?_, fun _ _ _ _ h => ?_, fun _ h => absurd rfl h⟩ <;> cases h
theorem SInv.tick (I : SInv n cs P vis right down cur La Sh) : SInv n cs P.tick vis right down cur La Sh := ⟨I.wf.tick, I.grid, I.len, I.flt, I.memL, I.memS, I.mach, I.held, I.has, I.done, I.ref, I.came, I.uniq, I.begun⟩
theorem SInv.idle (I : SInv n cs P vis right down cur La Sh) : SInv n cs { P with idle := P.idle + 1 } vis right down cur La Sh := ⟨⟨I.wf.finl, I.wf.now, I.wf.call, I.wf.hand, I.wf.opn⟩, I.grid, I.len, I.flt, I.memL, I.memS, I.mach, I.held, I.has, I.done, I.ref, I.came, I.uniq, I.begun⟩
theorem SInv.start (I : SInv n cs P vis right down cur La Sh) {t i : Nat} (hn : P.hands t = none) (hi : i < cs.length) (ht : (callOf cs i).thread = t) (h1 : 1 ≤ P.lw.now) (htn : t < n)
    (ho : (callOf cs i).obj = 0) (hk : (callOf cs i).kind = 0) (hst : P.obj.has t = false) : SInv n cs (P.start spG t i (callOf cs i)) (addV vis True t 0 0) right down (upd cur t (some (0, 0, 0))) La Sh ∧ (spG.start P.obj t (callOf cs i)).2 = .take t 0 0 0 := by
  have hS : spG.start P.obj t (callOf cs i) = (P.obj, .take t 0 0 0) := by
    show spStart P.obj t (callOf cs i) = _
    unfold spStart
    rw [if_neg (by omega), if_neg (by omega), if_neg (by rw [hst]; exact Bool.false_ne_true)]
  refine ⟨?_, by rw [hS]⟩
  have hc0 : cur t = none := by
    cases hc : cur t with
    | none => rfl
    | some x =>
      obtain ⟨r, c, pc⟩ := x
      obtain ⟨a1, a2⟩ := I.held t r c pc hc
      have := (I.grid.at' t r c pc hc).2.1
      by_cases h4 : pc = 4
      · rw [a2 h4] at hst
        cases hst
      · obtain ⟨m, h, hh⟩ := a1 (by omega)
        rw [hn] at hh
        cases hh
  have hW := I.wf.start (G := spG) (c := callOf cs i) hn hi ht h1
  have hobj : (P.start spG t i (callOf cs i)).obj = P.obj := by
    show (spG.start P.obj t (callOf cs i)).1 = _
    rw [hS]
  have hhands : (P.start spG t i (callOf cs i)).hands = upd P.hands t (some (.take t 0 0 0, P.evs.length)) := by
    show upd P.hands t (some ((spG.start P.obj t (callOf cs i)).2, P.evs.length)) = _
    rw [hS]
  have hevs : (P.start spG t i (callOf cs i)).evs = P.evs ++ [⟨i, P.lw.now, 0, 0, ⟨0, 0, []⟩, []⟩] := rfl
  have hT : ∀ x : Ep, x.call = i → tkT cs x = t := fun x hx => by unfold tkT; rw [hx, ht]; exact Int.toNat_natCast t
  have hne : ∀ (h : Nat) (e : Ep), P.evs[h]? = some e → isTk cs e → tkT cs e ≠ t := by
    intro h e he hs hc
    have := I.came h e he hs.1 hs.2.1
    rw [hc] at this
    exact this hc0
  refine ⟨hW, I.grid.begin' htn hc0, I.len, I.flt, I.memL, I.memS, fun s m h hs => ?_, fun s r c pc hc => ?_, fun s hh => ?_, fun h e he hr hs => ?_, fun h e he hs => ?_, fun h e he h1 h2 => ?_, fun h k e e' he he' hs hs' htt => ?_, fun s hc => ?_⟩
  · rw [hhands] at hs
    rw [hevs]
    by_cases hst' : s = t
    · subst hst'
      rw [upd_same] at hs
      cases hs
      exact ⟨0, 0, 0, _, rfl, by decide, upd_same _ _ _, snoc_new _ _, ⟨ho, hk, rfl⟩, by show (0 : Int) ≤ 4 * ((0 + 0 : Nat) : Int) + ((0 : Nat) : Int); decide⟩
    · rw [upd_other hst'] at hs
      obtain ⟨pc, r, c, e, a1, a2, a3, a4, a5⟩ := I.mach s m h hs
      exact ⟨pc, r, c, e, a1, a2, by rw [upd_other hst']; exact a3, snoc_old a4, a5⟩
  · rw [hhands, hobj]
    rcases upd_some hc with ⟨rfl, h'⟩ | ⟨hst', h'⟩
    · cases h'
      exact ⟨fun _ => ⟨_, _, upd_same _ _ _⟩, fun h => by omega⟩
    · rw [upd_other hst']
      exact I.held s r c pc h'
  · rw [hobj] at hh
    obtain ⟨r, c, h'⟩ := I.has s hh
    refine ⟨r, c, ?_⟩
    rw [upd_other ?_]
    · exact h'
    · rintro rfl
      rw [hc0] at h'
      cases h'
  · rw [hevs] at he
    rcases snoc_get he with ⟨_, he⟩ | ⟨_, rfl⟩
    · rw [upd_other (hne h e he hs)]
      exact I.done h e he hr hs
    · exact absurd rfl hr
  · rw [hevs] at he
    rcases snoc_get he with ⟨_, he⟩ | ⟨_, rfl⟩
    · exact I.ref h e he hs
    · show (0 : Int) ≤ 1
      decide
  · rw [hevs] at he
    rcases snoc_get he with ⟨_, he⟩ | ⟨_, rfl⟩
    · intro hc
      by_cases e' : tkT cs e = t
      · rw [e', upd_same] at hc
        cases hc
      · rw [upd_other e'] at hc
        exact I.came h e he h1 h2 hc
    · rw [hT _ rfl, upd_same]
      simp
  · rw [hevs] at he he'
    rcases snoc_get he with ⟨_, he⟩ | ⟨h1, rfl⟩
    · rcases snoc_get he' with ⟨_, he'⟩ | ⟨_, rfl⟩
      · exact I.uniq h k e e' he he' hs hs' htt
      · exact absurd (htt.trans (hT _ rfl)) (hne h e he hs)
    · rcases snoc_get he' with ⟨_, he'⟩ | ⟨h2, rfl⟩
      · exact absurd (htt.symm.trans (hT _ rfl)) (hne k e' he' hs')
      · omega
  · rw [hevs]
    by_cases hst' : s = t
    · exact ⟨_, _, snoc_new _ _, ⟨ho, hk, rfl⟩, by rw [hT _ rfl, hst']⟩
    · rw [upd_other hst'] at hc
      obtain ⟨k, x, a1, a2⟩ := I.begun s hc
      exact ⟨k, x, snoc_old a1, a2⟩
theorem SInv.refuse (I : SInv n cs P vis right down cur La Sh) {t i : Nat} (hn : P.hands t = none) (hi : i < cs.length) (ht : (callOf cs i).thread = t) (h1 : 1 ≤ P.lw.now) {e : Int} (he : e ≠ 0)
    (hS : spG.start P.obj t (callOf cs i) = (P.obj, .no e)) (hcm : (callOf cs i).obj = 0 → (callOf cs i).kind = 0 → cur t ≠ none) : SInv n cs ((P.start spG t i (callOf cs i)).step spG t i (.no e) P.evs.length) vis right down cur La Sh := by
  have hh : (P.start spG t i (callOf cs i)).hands t = some (.no e, P.evs.length) := by
    show upd P.hands t (some ((spG.start P.obj t (callOf cs i)).2, P.evs.length)) t = _
    rw [hS, upd_same]
  have hW := (I.wf.start (G := spG) (c := callOf cs i) hn hi ht h1).step (i := i) spG_still hh h1
  have hobj : (P.start spG t i (callOf cs i)).obj = P.obj := by
    show (spG.start P.obj t (callOf cs i)).1 = _
    rw [hS]
  have hA : (P.start spG t i (callOf cs i)).after spG t (.no e) = (P.obj, (P.start spG t i (callOf cs i)).lw, .no e, true) := by
    unfold Ps.after
    rw [hobj]
    rfl
  obtain ⟨q1, q2, key, q3⟩ := step_done (i := i) (h := P.evs.length) (G := spG) (P := P.start spG t i (callOf cs i)) (t := t) (m := .no e) (by rw [hA])
  have q4 := step_obj spG (P.start spG t i (callOf cs i)) t i (.no e) P.evs.length
  have q5 := step_lw spG (P.start spG t i (callOf cs i)) t i (.no e) P.evs.length
  rw [hA] at q3 q4 q5
  generalize hP : (P.start spG t i (callOf cs i)).step spG t i (.no e) P.evs.length = P' at *
  have hhands : ∀ s, P'.hands s = P.hands s := by
    intro s
    rw [q1]
    by_cases hs : s = t
    · rw [hs, upd_same, hn]
    · rw [upd_other hs]
      show upd P.hands t _ s = _
      rw [upd_other hs]
  have hev : P'.evs = P.evs ++ [⟨i, P.lw.now, P.lw.now, 0 + 1, ⟨e, 0, []⟩, key⟩] := by
    rw [q3]
    exact snoc_modify P.evs _ _
  have old : ∀ (k : Nat) (x : Ep), P'.evs[k]? = some x → isTk cs x → P.evs[k]? = some x := by
    intro k x hx hs
    rw [hev] at hx
    rcases snoc_get hx with ⟨_, hx⟩ | ⟨_, rfl⟩
    · exact hx
    · exact absurd hs.2.2 he
  refine ⟨hW, I.grid, by rw [q5]; exact I.len, by rw [q5]; exact I.flt, by rw [q5]; exact I.memL, by rw [q5]; exact I.memS, fun s m h hs => ?_, fun s r c pc hc => ?_, fun s hh => ?_, fun h x hx hr hs => ?_, fun h x hx hs => ?_, fun h x hx h1 h2 => ?_, fun h k x y hx hy hs hs' htt => ?_, fun s hc => ?_⟩
  · rw [hhands] at hs
    obtain ⟨pc, r, c, x, a1, a2, a3, a4, a5⟩ := I.mach s m h hs
    rw [hev]
    exact ⟨pc, r, c, x, a1, a2, a3, snoc_old a4, a5⟩
  · rw [hhands, q4]
    exact I.held s r c pc hc
  · rw [q4] at hh
    exact I.has s hh
  · exact I.done h x (old h x hx hs) hr hs
  · rw [hev] at hx
    rcases snoc_get hx with ⟨_, hx⟩ | ⟨_, rfl⟩
    · exact I.ref h x hx hs
    · show (0 : Int) + 1 ≤ 1
      decide
  · rw [hev] at hx
    rcases snoc_get hx with ⟨_, hx⟩ | ⟨_, rfl⟩
    · exact I.came h x hx h1 h2
    · have := hcm h1 h2
      unfold tkT
      rw [ht, Int.toNat_natCast]
      exact this
  · exact I.uniq h k x y (old h x hx hs) (old k y hy hs') hs hs' htt
  · obtain ⟨k, x, a1, a2⟩ := I.begun s hc
    rw [hev]
    exact ⟨k, x, snoc_old a1, a2⟩
end
end Go.Proofs.Ytlfingcmekifkaa
