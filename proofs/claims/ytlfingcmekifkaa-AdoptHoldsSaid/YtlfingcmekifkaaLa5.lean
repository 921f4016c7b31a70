/- What AdoptSame says of the events: with one call a thread none is refused. -/
import Derived.Test.YtlfingcmekifkaaLa4
import Derived.Test.YtlfingcmekifkaaLm2
namespace Go.Proofs.Ytlfingcmekifkaa
open Go.RowKit

structure ZInv (cs : List Cl) (P : Ps AM Ad) : Prop where
  all : ∀ (h : Nat) (e : Ep), P.evs[h]? = some e → isProp cs e
  has : ∀ t, P.obj.has t = true → ∃ (h : Nat) (e : Ep), P.evs[h]? = some e ∧ prT cs e = t
theorem adStep_obj (o : Ad) (w : Lw) (m : AM) : (adStep o w m).1 = o := by
  unfold adStep
  split
  · rfl
  · split
    · rfl
    · split
      · rfl
      · split
        · rfl
        · dsimp only
          split <;> rfl
theorem adStep_prop (o : Ad) (w : Lw) (t pc : Nat) (v : Int) (seen : List Int) (val : Int) : (adAns (adStep o w (.prop t pc v seen val)).2.2.1).1.err = 0 := by
  unfold adStep
  dsimp only
  split
  · rfl
  · split
    · rfl
    · split
      · rfl
      · split <;> rfl
theorem ZInv.step {cs : List Cl} {P : Ps AM Ad} (Z : ZInv cs P) {t i h : Nat} {pc : Nat} {v : Int} {seen : List Int} {val : Int} {e0 : Ep} (he0 : P.evs[h]? = some e0) : ZInv cs (P.step adG t i (.prop t pc v seen val) h) := by
  have hs0 := Z.all h e0 he0
  have q4 := step_obj adG P t i (.prop t pc v seen val) h
  have hobj : (P.step adG t i (.prop t pc v seen val) h).obj = P.obj := q4.trans (show (adStep P.obj P.lw (.prop t pc v seen val)).1 = P.obj from adStep_obj _ _ _)
  have key : ∀ f : Ep → Ep, (P.step adG t i (.prop t pc v seen val) h).evs = P.evs.modify h f → (f e0).call = e0.call → (f e0).ans.err = 0 → ZInv cs (P.step adG t i (.prop t pc v seen val) h) := by
    intro f q3 hc ha
    obtain ⟨f1, f2, f3⟩ := mod_facts q3 he0
    refine ⟨fun k e he => ?_, fun s hs => ?_⟩
    · rcases f1 k e he with ⟨_, hx⟩ | ⟨_, hx⟩
      · exact Z.all k e hx
      · subst hx
        unfold isProp
        rw [hc]
        exact ⟨hs0.1, hs0.2.1, ha⟩
    · rw [hobj] at hs
      obtain ⟨k, e, e1, e2⟩ := Z.has s hs
      by_cases hk : k = h
      · subst hk
        rw [he0] at e1
        cases e1
        refine ⟨k, _, f3, ?_⟩
        unfold prT
        rw [hc]
        exact e2
      · exact ⟨k, e, f2 k e hk e1, e2⟩
  cases hd : (P.after adG t (.prop t pc v seen val)).2.2.2 with
  | true =>
    obtain ⟨_, _, k, q3⟩ := step_done (i := i) (h := h) hd
    exact key _ q3 rfl (adStep_prop _ _ _ _ _ _ _)
  | false =>
    obtain ⟨_, _, q3⟩ := step_more (i := i) (h := h) hd
    exact key _ q3 rfl hs0.2.2
theorem ZInv.pick {n : Nat} {cs : List Cl} {P : Ps AM Ad} {A B : Nat → Int} {S1 S2 : Nat → List Int} (Z : ZInv cs P) (I : AInv n cs P A B S1 S2) (C : CWf cs P) (p : Int) (hcs : ∀ i, i < cs.length → (callOf cs i).thread = i ∧ (callOf cs i).obj = 0 ∧ (callOf cs i).kind = 0 ∧ (callOf cs i).a < 2147483648) (hc0 : ∀ c ∈ cs, 0 ≤ c.thread) : ZInv cs (P.pick adG cs p) := by
  rcases pick_cases adG P p hc0 with h | ⟨t, i, _, hi, ht, hN, ⟨m, h, hm, hp⟩ | ⟨hn, hp⟩⟩
  · rw [h]
    exact ⟨Z.all, Z.has⟩
  · rw [hp]
    obtain ⟨pc, v, seen, val, e, rfl, he, _⟩ := I.mach t m h hm
    have Z' : ZInv cs P.tick := ⟨Z.all, Z.has⟩
    exact Z'.step (P := P.tick) he
  · rw [hp]
    obtain ⟨c1, c2, c3, c4⟩ := hcs i hi
    have hst : P.obj.has t = false := by
      cases hh : P.obj.has t with
      | false => rfl
      | true =>
        exfalso
        obtain ⟨k, e, e1, e2⟩ := Z.has t hh
        have hl := (I.wf.call k e e1).1
        obtain ⟨d1, _⟩ := hcs e.call hl
        refine C.fresh I.wf hn hN ht k e e1 ?_
        unfold prT at e2
        omega
    have hS : adG.start P.obj t (callOf cs i) = ({ P.obj with has := upd P.obj.has t true }, .prop t 0 ((callOf cs i).a + 1) [] 0) := by
      show adStart P.obj t (callOf cs i) = _
      unfold adStart
      rw [if_neg (by omega), if_neg (by omega), if_neg (by omega), if_neg (by rw [hst]; exact Bool.false_ne_true)]
    have hevs : (P.tick.start adG t i (callOf cs i)).evs = P.evs ++ [⟨i, P.lw.now + 1, 0, 0, ⟨0, 0, []⟩, []⟩] := rfl
    have hobj : (P.tick.start adG t i (callOf cs i)).obj = { P.obj with has := upd P.obj.has t true } := by
      show (adG.start P.obj t (callOf cs i)).1 = _
      rw [hS]
    have Z' : ZInv cs (P.tick.start adG t i (callOf cs i)) := by
      refine ⟨fun k e he => ?_, fun s hs => ?_⟩
      · rw [hevs] at he
        rcases snoc_get he with ⟨_, he⟩ | ⟨_, rfl⟩
        · exact Z.all k e he
        · exact ⟨c2, c3, rfl⟩
      · rw [hobj] at hs
        have hs : upd P.obj.has t true s = true := hs
        rw [hevs]
        by_cases hst : s = t
        · subst hst
          refine ⟨_, _, snoc_new _ _, ?_⟩
          show (callOf cs i).thread.toNat = _
          rw [ht, Int.toNat_natCast]
        · rw [upd_other hst] at hs
          obtain ⟨k, e, e1, e2⟩ := Z.has s hs
          exact ⟨k, e, snoc_old e1, e2⟩
    rw [hS]
    exact Z'.step (e0 := ⟨i, P.lw.now + 1, 0, 0, ⟨0, 0, []⟩, []⟩) (by rw [hevs]; exact snoc_new _ _)
theorem zinv_play {n : Nat} {cs : List Cl} (hcs : ∀ i, i < cs.length → (callOf cs i).thread = i ∧ (callOf cs i).obj = 0 ∧ (callOf cs i).kind = 0 ∧ (callOf cs i).a < 2147483648) (hc : ∀ c ∈ cs, 0 ≤ c.thread ∧ c.thread < n ∧ 0 ≤ c.a) (picks : List Int) :
    ∀ {P : Ps AM Ad} {A B : Nat → Int} {S1 S2 : Nat → List Int}, ZInv cs P → AInv n cs P A B S1 S2 → CWf cs P → ZInv cs (P.play adG cs picks) := by
  induction picks with
  | nil => exact fun Z _ _ => Z
  | cons p l ih =>
    intro P A B S1 S2 Z I C
    obtain ⟨A', B', S1', S2', I'⟩ := I.pick p hc
    exact ih (Z.pick I C p hcs (fun c h => (hc c h).1)) I' (wf_pick adG_still I.wf C p (fun c h => (hc c h).1)).2
/-- One call a thread, all of the same number: all that respond agree on it. -/
theorem ad_same {n : Nat} {cs : List Cl} {u : Int} (hcs : ∀ i, i < cs.length → (callOf cs i).thread = i ∧ (callOf cs i).obj = 0 ∧ (callOf cs i).kind = 0 ∧ (callOf cs i).a < 2147483648) (hc : ∀ c ∈ cs, 0 ≤ c.thread ∧ c.thread < n ∧ 0 ≤ c.a) (hu : ∀ c ∈ cs, c.a = u) (picks : List Int) :
    ∀ (h : Nat) (e : Ep), (adPlay n cs picks).evs[h]? = some e → e.resp ≠ 0 → e.ans.val = 2 * u + 1 := by
  intro h e he hr
  have Z : ZInv cs (adPlay n cs picks) := zinv_play hcs hc picks ⟨(fun _ _ h => by cases h), (fun _ h => by cases h)⟩ (AInv.new n cs) (CWf.new _ _ _)
  obtain ⟨A, B, S1, S2, I⟩ := ad_inv (n := n) hc picks
  exact I.same hc hu he hr (Z.all h e he)
end Go.Proofs.Ytlfingcmekifkaa
