import Derived.Test.YtlfingcmekifkaaGreatBun26
import Derived.Test.YtlfingcmekifkaaGreatBun9
namespace Go.Proofs.YtlfingcmekifkaaGreat
open Go.RowKit
theorem AInv.new (n : Nat) (cs : List Cl) : AInv n cs (Ps.new (List.replicate (2 * n) 0) ⟨n, fun _ => false⟩ cs.length) (fun _ => 0) (fun _ => 0) (fun _ => []) (fun _ => []) := by
  have hat : ∀ j : Int, (Mm.new (List.replicate (2 * n) 0)).at j = 0 := by
    intro j
    unfold Mm.at Mm.new
    show ((List.replicate (2 * n) (0 : Int))[j.toNat]?).getD 0 = 0
    rw [List.getElem?_replicate]
    split <;> rfl
  refine ⟨PWf.new _ _ cs, rfl, List.length_replicate, fun j _ => hat _, fun j _ => hat _, Col.new n, Col.new n, fun _ _ h => absurd rfl h, fun _ _ h => absurd rfl h, fun _ _ _ => rfl, fun _ _ h => ?_, fun _ _ _ _ h => ?_, fun _ _ _ h => ?_, fun _ _ h => ?_⟩ <;> cases h
theorem AInv.tick {n : Nat} {cs : List Cl} {P : Ps AM Ad} {A B : Nat → Int} {S1 S2 : Nat → List Int} (I : AInv n cs P A B S1 S2) : AInv n cs P.tick A B S1 S2 := ⟨I.wf.tick, I.on, I.len, I.memA, I.memB, I.c1, I.c2, I.bval, I.aval, I.has, I.stood, I.uniq, I.mach, I.done⟩
theorem AInv.idle {n : Nat} {cs : List Cl} {P : Ps AM Ad} {A B : Nat → Int} {S1 S2 : Nat → List Int} (I : AInv n cs P A B S1 S2) : AInv n cs { P with idle := P.idle + 1 } A B S1 S2 := ⟨⟨I.wf.finl, I.wf.now, I.wf.call, I.wf.hand, I.wf.opn⟩, I.on, I.len, I.memA, I.memB, I.c1, I.c2, I.bval, I.aval, I.has, I.stood, I.uniq, I.mach, I.done⟩
theorem AInv.start {n : Nat} {cs : List Cl} {P : Ps AM Ad} {A B : Nat → Int} {S1 S2 : Nat → List Int} (I : AInv n cs P A B S1 S2) {t i : Nat} (hn : P.hands t = none) (hi : i < cs.length) (ht : (callOf cs i).thread = t) (h1 : 1 ≤ P.lw.now) (htn : t < n)
    (ho : (callOf cs i).obj = 0) (hk : (callOf cs i).kind = 0) (ha : (callOf cs i).a < 2147483648) (hst : P.obj.has t = false) : AInv n cs (P.start adG t i (callOf cs i)) A B S1 S2 ∧ (adG.start P.obj t (callOf cs i)).2 = .prop t 0 ((callOf cs i).a + 1) [] 0 := by
  have hS : adG.start P.obj t (callOf cs i) = (⟨n, upd P.obj.has t true⟩, .prop t 0 ((callOf cs i).a + 1) [] 0) := by
    show adStart P.obj t (callOf cs i) = _
    unfold adStart
    rw [if_neg (by omega), if_neg (by omega), if_neg (by omega), if_neg (by rw [hst]; exact Bool.false_ne_true), ← I.on]
  refine ⟨?_, by rw [hS]⟩
  have hW := I.wf.start (G := adG) (c := callOf cs i) hn hi ht h1
  have hobj : (P.start adG t i (callOf cs i)).obj = ⟨n, upd P.obj.has t true⟩ := by
    show (adG.start P.obj t (callOf cs i)).1 = _
    rw [hS]
  have hhands : (P.start adG t i (callOf cs i)).hands = upd P.hands t (some (.prop t 0 ((callOf cs i).a + 1) [] 0, P.evs.length)) := by
    show upd P.hands t (some ((adG.start P.obj t (callOf cs i)).2, P.evs.length)) = _
    rw [hS]
  have hevs : (P.start adG t i (callOf cs i)).evs = P.evs ++ [⟨i, P.lw.now, 0, 0, ⟨0, 0, []⟩, []⟩] := rfl
  have hT : ∀ x : Ep, x.call = i → prT cs x = t := fun x hx => by unfold prT; rw [hx, ht]; exact Int.toNat_natCast t
  have hne : ∀ (h : Nat) (e : Ep), P.evs[h]? = some e → isProp cs e → prT cs e ≠ t := by
    intro h e he hs hc
    have := I.stood h e he hs
    rw [hc, hst] at this
    cases this
  refine ⟨hW, by rw [hobj], I.len, I.memA, I.memB, I.c1, I.c2, I.bval, fun s hs h => ?_, fun s hs hh => ?_, fun h e he hs => ?_, fun h k e e' he he' hs hs' htt => ?_, fun s m h hs => ?_, fun h e he hr hs => ?_⟩
  · obtain ⟨k, x, a1, a2⟩ := I.aval s hs h
    exact ⟨k, x, by rw [hevs]; exact snoc_old a1, a2⟩
  · rw [hobj] at hh
    have hh : upd P.obj.has t true s = false := hh
    by_cases hst : s = t
    · rw [hst, upd_same] at hh
      cases hh
    · rw [upd_other hst] at hh
      exact I.has s hs hh
  · rw [hevs] at he
    rw [hobj]
    show upd P.obj.has t true _ = true
    rcases snoc_get he with ⟨_, he⟩ | ⟨_, rfl⟩
    · rw [upd_other (hne h e he hs)]
      exact I.stood h e he hs
    · rw [hT _ rfl, upd_same]
  · rw [hevs] at he he'
    rcases snoc_get he with ⟨_, he⟩ | ⟨h1, rfl⟩
    · rcases snoc_get he' with ⟨_, he'⟩ | ⟨_, rfl⟩
      · exact I.uniq h k e e' he he' hs hs' htt
      · exact absurd (htt.trans (hT _ rfl)) (hne h e he hs)
    · rcases snoc_get he' with ⟨_, he'⟩ | ⟨h2, rfl⟩
      · exact absurd (htt.symm.trans (hT _ rfl)) (hne k e' he' hs')
      · omega
  · rw [hhands] at hs
    rw [hevs]
    by_cases hst' : s = t
    · subst hst'
      rw [upd_same] at hs
      cases hs
      exact ⟨0, _, [], 0, _, rfl, snoc_new _ _, ⟨ho, hk, rfl⟩, rfl, .inl ⟨rfl, rfl, I.has s htn hst⟩⟩
    · rw [upd_other hst'] at hs
      obtain ⟨pc, v, seen, val, e, a1, a2, a3⟩ := I.mach s m h hs
      exact ⟨pc, v, seen, val, e, a1, snoc_old a2, a3⟩
  · rw [hevs] at he ⊢
    rcases snoc_get he with ⟨_, he⟩ | ⟨_, rfl⟩
    · obtain ⟨a1, a2, a3, a4, k, y, b1, b2⟩ := I.done h e he hr hs
      exact ⟨a1, a2, a3, a4, k, y, snoc_old b1, b2⟩
    · exact absurd rfl hr
theorem AInv.refuse {n : Nat} {cs : List Cl} {P : Ps AM Ad} {A B : Nat → Int} {S1 S2 : Nat → List Int} (I : AInv n cs P A B S1 S2) {t i : Nat} (hn : P.hands t = none) (hi : i < cs.length) (ht : (callOf cs i).thread = t) (h1 : 1 ≤ P.lw.now) {e : Int} (he : e ≠ 0)
    (hS : adG.start P.obj t (callOf cs i) = (P.obj, .no e)) : AInv n cs ((P.start adG t i (callOf cs i)).step adG t i (.no e) P.evs.length) A B S1 S2 := by
  have hh : (P.start adG t i (callOf cs i)).hands t = some (.no e, P.evs.length) := by
    show upd P.hands t (some ((adG.start P.obj t (callOf cs i)).2, P.evs.length)) t = _
    rw [hS, upd_same]
  have hW := (I.wf.start (G := adG) (c := callOf cs i) hn hi ht h1).step (i := i) adG_still hh h1
  have hobj : (P.start adG t i (callOf cs i)).obj = P.obj := by
    show (adG.start P.obj t (callOf cs i)).1 = _
    rw [hS]
  have hA : (P.start adG t i (callOf cs i)).after adG t (.no e) = (P.obj, (P.start adG t i (callOf cs i)).lw, .no e, true) := by
    unfold Ps.after
    rw [hobj]
    rfl
  obtain ⟨q1, q2, key, q3⟩ := step_done (i := i) (h := P.evs.length) (G := adG) (P := P.start adG t i (callOf cs i)) (t := t) (m := .no e) (by rw [hA])
  have q4 := step_obj adG (P.start adG t i (callOf cs i)) t i (.no e) P.evs.length
  have q5 := step_lw adG (P.start adG t i (callOf cs i)) t i (.no e) P.evs.length
  rw [hA] at q3 q4 q5
  generalize hP : (P.start adG t i (callOf cs i)).step adG t i (.no e) P.evs.length = P' at *
  have hhands : ∀ s, P'.hands s = P.hands s := by
    intro s
    rw [q1]
    by_cases hs : s = t
    · rw [hs, upd_same, hn]
    · rw [upd_other hs]
      show upd P.hands t _ s = _
      rw [upd_other hs]
  have hev : P'.evs = P.evs ++ [⟨i, P.lw.now, P.lw.now, 0 + 1, ⟨e, 0, []⟩, key⟩] := by
    rw [q3]
    exact snoc_modify P.evs _ _
  have old : ∀ (k : Nat) (x : Ep), P'.evs[k]? = some x → isProp cs x → P.evs[k]? = some x := by
    intro k x hx hs
    rw [hev] at hx
    rcases snoc_get hx with ⟨_, hx⟩ | ⟨_, rfl⟩
    · exact hx
    · exact absurd hs.2.2 he
  refine ⟨hW, by rw [q4]; exact I.on, by rw [q5]; exact I.len, by rw [q5]; exact I.memA, by rw [q5]; exact I.memB, I.c1, I.c2, I.bval, fun s hs h => ?_, fun s hs hh => ?_, fun h x hx hs => ?_, fun h k x y hx hy hs hs' htt => ?_, fun s m h hs => ?_, fun h x hx hr hs => ?_⟩
  · obtain ⟨k, x, a1, a2⟩ := I.aval s hs h
    exact ⟨k, x, by rw [hev]; exact snoc_old a1, a2⟩
  · rw [q4] at hh
    exact I.has s hs hh
  · rw [q4]
    exact I.stood h x (old h x hx hs) hs
  · exact I.uniq h k x y (old h x hx hs) (old k y hy hs') hs hs' htt
  · rw [hhands] at hs
    obtain ⟨pc, v, seen, val, x, a1, a2, a3⟩ := I.mach s m h hs
    rw [hev]
    exact ⟨pc, v, seen, val, x, a1, snoc_old a2, a3⟩
  · obtain ⟨a1, a2, a3, a4, k, y, b1, b2⟩ := I.done h x (old h x hx hs) hr hs
    rw [hev]
    exact ⟨a1, a2, a3, a4, k, y, snoc_old b1, b2⟩
theorem AInv.pick {n : Nat} {cs : List Cl} {P : Ps AM Ad} {A B : Nat → Int} {S1 S2 : Nat → List Int} (I : AInv n cs P A B S1 S2) (p : Int) (hcs : ∀ c ∈ cs, 0 ≤ c.thread ∧ c.thread < n ∧ 0 ≤ c.a) : ∃ A' B' S1' S2', AInv n cs (P.pick adG cs p) A' B' S1' S2' := by
  have h1 : 1 ≤ P.tick.lw.now := by
    have := I.wf.now
    show 1 ≤ P.lw.now + 1
    omega
  rcases pick_cases adG P p (fun c hc => (hcs c hc).1) with h | ⟨t, i, _, hi, ht, _, ⟨m, h, hm, hp⟩ | ⟨hn, hp⟩⟩
  · rw [h]
    exact ⟨A, B, S1, S2, I.idle⟩
  · rw [hp]
    refine I.tick.step (i := i) (P := P.tick) hcs hm h1 (.inr fun k x hx => ?_)
    have := (I.wf.call k x hx).2.2.2.1
    show x.inv < P.lw.now + 1
    omega
  · rw [hp]
    have hC : callOf cs i ∈ cs := by
      unfold callOf
      rw [List.getElem?_eq_getElem hi]
      exact List.getElem_mem hi
    have htn : t < n := by
      have := hcs _ hC
      omega
    have hno : ∀ e, e ≠ 0 → adG.start P.obj t (callOf cs i) = (P.obj, .no e) → ∃ A' B' S1' S2', AInv n cs ((P.tick.start adG t i (callOf cs i)).step adG t i (adG.start P.obj t (callOf cs i)).2 P.evs.length) A' B' S1' S2' := by
      intro e he hS
      rw [hS]
      exact ⟨A, B, S1, S2, I.tick.refuse (P := P.tick) hn hi ht h1 he hS⟩
    by_cases ho : (callOf cs i).obj = 0
    · by_cases hk : (callOf cs i).kind = 0
      · by_cases ha : 2147483648 ≤ (callOf cs i).a
        · refine hno 10 (by decide) ?_
          show adStart _ _ _ = _
          unfold adStart
          rw [if_neg (by omega), if_neg (by omega), if_pos ha]
        cases hst : P.obj.has t with
        | true =>
          refine hno 8 (by decide) ?_
          show adStart _ _ _ = _
          unfold adStart
          rw [if_neg (by omega), if_neg (by omega), if_neg ha, if_pos hst]
        | false =>
          obtain ⟨I', hS⟩ := I.tick.start (P := P.tick) hn hi ht h1 htn ho hk (by omega) hst
          have hh : (P.tick.start adG t i (callOf cs i)).hands t = some ((adG.start P.obj t (callOf cs i)).2, P.evs.length) := by
            show upd P.hands t (some ((adG.start P.obj t (callOf cs i)).2, P.evs.length)) t = _
            rw [upd_same]
          exact I'.step (i := i) hcs hh h1 (.inl ⟨_, _, _, hS⟩)
      · refine hno 9 (by decide) ?_
        show adStart _ _ _ = _
        unfold adStart
        rw [if_neg (by omega), if_pos hk]
    · refine hno 12 (by decide) ?_
      show adStart _ _ _ = _
      unfold adStart
      rw [if_pos ho]
theorem AInv.play {n : Nat} {cs : List Cl} (hcs : ∀ c ∈ cs, 0 ≤ c.thread ∧ c.thread < n ∧ 0 ≤ c.a) (picks : List Int) : ∀ {P : Ps AM Ad} {A B : Nat → Int} {S1 S2 : Nat → List Int}, AInv n cs P A B S1 S2 → ∃ A' B' S1' S2', AInv n cs (P.play adG cs picks) A' B' S1' S2' := by
  induction picks with
  | nil => exact fun I => ⟨_, _, _, _, I⟩
  | cons p l ih =>
    intro P A B S1 S2 I
    obtain ⟨A', B', S1', S2', I'⟩ := I.pick p hcs
    exact ih I'
def adPlay (n : Nat) (cs : List Cl) (picks : List Int) : Ps AM Ad := (Ps.new (List.replicate (2 * n) 0) ⟨n, fun _ => false⟩ cs.length).play adG cs picks
theorem AInv.marks {n : Nat} {cs : List Cl} {P : Ps AM Ad} {A B : Nat → Int} {S1 S2 : Nat → List Int} (I : AInv n cs P A B S1 S2) (hcs : ∀ c ∈ cs, 0 ≤ c.thread ∧ c.thread < n ∧ 0 ≤ c.a) {t : Nat} (ht : t < n) :
    ∀ m ∈ S2 t, m = 0 ∨ ∃ j, j < n ∧ m = B j ∧ A j ≠ 0 ∧ 2 ≤ m ∧ m / 2 = A j ∧ (m % 2 = 1 ↔ aloneF (A j) (S1 j) = true) ∧ (S1 j).length = n := by
  intro m hm
  obtain ⟨j, hj⟩ := List.mem_iff_getElem?.1 hm
  obtain ⟨a1, a2⟩ := I.c2.v t j m ht hj
  rcases a2 with a2 | a2
  · exact .inl a2
  · by_cases hm0 : m = 0
    · exact .inl hm0
    · refine .inr ⟨j, a1, a2, ?_⟩
      obtain ⟨b1, b2, b3⟩ := I.bval j a1 (by rw [← a2]; exact hm0)
      obtain ⟨k, y, y1, _, _, y4⟩ := I.aval j a1 b1
      have hy := (prT_lt hcs (I.wf.call k y y1).1).2.2
      obtain ⟨z1, z2, z3⟩ := markF_two (S1 j) (show 1 ≤ A j by omega)
      rw [a2, b3]
      exact ⟨b1, z1, z2, z3, b2⟩
structure AdHold (cs : List Cl) (evs : List Ep) : Prop where
  call : ∀ (h : Nat) (e : Ep), evs[h]? = some e → e.call < cs.length
  prop : ∀ (h : Nat) (e : Ep), evs[h]? = some e → e.resp ≠ 0 → isProp cs e → ∃ (k : Nat) (y : Ep), evs[k]? = some y ∧ isProp cs y ∧ prA cs y = e.ans.val / 2 ∧ y.inv < e.resp
  same : ∀ (h k : Nat) (e e' : Ep), evs[h]? = some e → evs[k]? = some e' → e.resp ≠ 0 → e'.resp ≠ 0 → isProp cs e → isProp cs e' → e.ans.val % 2 = 1 → e'.ans.val / 2 = e.ans.val / 2
theorem AInv.same {n : Nat} {cs : List Cl} {P : Ps AM Ad} {A B : Nat → Int} {S1 S2 : Nat → List Int} (I : AInv n cs P A B S1 S2) (hcs : ∀ c ∈ cs, 0 ≤ c.thread ∧ c.thread < n ∧ 0 ≤ c.a) {u : Int} (hu : ∀ c ∈ cs, c.a = u) {h : Nat} {e : Ep} (he : P.evs[h]? = some e) (hr : e.resp ≠ 0) (hs : isProp cs e) : e.ans.val = 2 * u + 1 := by
  have hpa : ∀ (k : Nat) (x : Ep), P.evs[k]? = some x → prA cs x = u := by
    intro k x hx
    have hl := (I.wf.call k x hx).1
    refine hu _ ?_
    unfold callOf
    rw [List.getElem?_eq_getElem hl]
    exact List.getElem_mem hl
  have hA : ∀ j, j < n → A j = 0 ∨ A j = u + 1 := by
    intro j hj
    by_cases h : A j = 0
    · exact .inl h
    · obtain ⟨k, x, x1, _, _, x4⟩ := I.aval j hj h
      rw [hpa k x x1] at x4
      exact .inr x4
  have hal : ∀ j, j < n → A j ≠ 0 → aloneF (A j) (S1 j) = true := by
    intro j hj h
    refine List.all_eq_true.2 fun x hx => decide_eq_true ?_
    obtain ⟨k, hk⟩ := List.mem_iff_getElem?.1 hx
    obtain ⟨k1, k2⟩ := I.c1.v j k x hj hk
    have := hA j hj
    have := hA k k1
    omega
  obtain ⟨a1, a2, a3, a4, _⟩ := I.done h e he hr hs
  have ht := (prT_lt hcs (I.wf.call h e he).1).1
  generalize prT cs e = t at *
  have mt := I.marks hcs ht
  have nt : ∀ m ∈ S2 t, 0 ≤ m ∧ m ≠ 1 := fun m hm => by rcases mt m hm with h | ⟨_, _, _, _, h, _⟩ <;> omega
  have hodd : ∀ m ∈ S2 t, m = 0 ∨ (m % 2 = 1 ∧ m / 2 = u + 1) := by
    intro m hm
    rcases mt m hm with h | ⟨j, j1, _, j3, _, j5, j6, _⟩
    · exact .inl h
    · have := hA j j1
      exact .inr ⟨j6.2 (hal j j1 j3), by omega⟩
  obtain ⟨o1, o2⟩ := I.c2.own ht a3
  have hall : allF (S2 t) = true := by
    refine List.all_eq_true.2 fun m hm => decide_eq_true ?_
    have := hodd m hm
    omega
  rw [a4]
  unfold endF
  rcases firstF_cases nt with ⟨_, g⟩ | ⟨m, hm, g1, g2, g3⟩
  · have h1 := g _ (List.mem_of_getElem? o1)
    have h2 := hodd _ (List.mem_of_getElem? o1)
    omega
  · have := hodd m hm
    rw [if_pos g3, if_pos hall]
    omega
end Go.Proofs.YtlfingcmekifkaaGreat

namespace Go.Proofs.YtlfingcmekifkaaGreat
open Go.RowKit
structure ZInv (cs : List Cl) (P : Ps AM Ad) : Prop where
  all : ∀ (h : Nat) (e : Ep), P.evs[h]? = some e → isProp cs e
  has : ∀ t, P.obj.has t = true → ∃ (h : Nat) (e : Ep), P.evs[h]? = some e ∧ prT cs e = t
theorem adStep_obj (o : Ad) (w : Lw) (m : AM) : (adStep o w m).1 = o := by
  unfold adStep
  split
  · rfl
  · split
    · rfl
    · split
      · rfl
      · split
        · rfl
        · dsimp only
          split <;> rfl
theorem adStep_prop (o : Ad) (w : Lw) (t pc : Nat) (v : Int) (seen : List Int) (val : Int) : (adAns (adStep o w (.prop t pc v seen val)).2.2.1).1.err = 0 := by
  unfold adStep
  dsimp only
  split
  · rfl
  · split
    · rfl
    · split
      · rfl
      · split <;> rfl
theorem ZInv.step {cs : List Cl} {P : Ps AM Ad} (Z : ZInv cs P) {t i h : Nat} {pc : Nat} {v : Int} {seen : List Int} {val : Int} {e0 : Ep} (he0 : P.evs[h]? = some e0) : ZInv cs (P.step adG t i (.prop t pc v seen val) h) := by
  have hs0 := Z.all h e0 he0
  have q4 := step_obj adG P t i (.prop t pc v seen val) h
  have hobj : (P.step adG t i (.prop t pc v seen val) h).obj = P.obj := q4.trans (show (adStep P.obj P.lw (.prop t pc v seen val)).1 = P.obj from adStep_obj _ _ _)
  have key : ∀ f : Ep → Ep, (P.step adG t i (.prop t pc v seen val) h).evs = P.evs.modify h f → (f e0).call = e0.call → (f e0).ans.err = 0 → ZInv cs (P.step adG t i (.prop t pc v seen val) h) := by
    intro f q3 hc ha
    obtain ⟨f1, f2, f3⟩ := mod_facts q3 he0
    refine ⟨fun k e he => ?_, fun s hs => ?_⟩
    · rcases f1 k e he with ⟨_, hx⟩ | ⟨_, hx⟩
      · exact Z.all k e hx
      · subst hx
        unfold isProp
        rw [hc]
        exact ⟨hs0.1, hs0.2.1, ha⟩
    · rw [hobj] at hs
      obtain ⟨k, e, e1, e2⟩ := Z.has s hs
      by_cases hk : k = h
      · subst hk
        rw [he0] at e1
        cases e1
        refine ⟨k, _, f3, ?_⟩
        unfold prT
        rw [hc]
        exact e2
      · exact ⟨k, e, f2 k e hk e1, e2⟩
  cases hd : (P.after adG t (.prop t pc v seen val)).2.2.2 with
  | true =>
    obtain ⟨_, _, k, q3⟩ := step_done (i := i) (h := h) hd
    exact key _ q3 rfl (adStep_prop _ _ _ _ _ _ _)
  | false =>
    obtain ⟨_, _, q3⟩ := step_more (i := i) (h := h) hd
    exact key _ q3 rfl hs0.2.2
theorem ZInv.pick {n : Nat} {cs : List Cl} {P : Ps AM Ad} {A B : Nat → Int} {S1 S2 : Nat → List Int} (Z : ZInv cs P) (I : AInv n cs P A B S1 S2) (C : CWf cs P) (p : Int) (hcs : ∀ i, i < cs.length → (callOf cs i).thread = i ∧ (callOf cs i).obj = 0 ∧ (callOf cs i).kind = 0 ∧ (callOf cs i).a < 2147483648) (hc0 : ∀ c ∈ cs, 0 ≤ c.thread) : ZInv cs (P.pick adG cs p) := by
  rcases pick_cases adG P p hc0 with h | ⟨t, i, _, hi, ht, hN, ⟨m, h, hm, hp⟩ | ⟨hn, hp⟩⟩
  · rw [h]
    exact ⟨Z.all, Z.has⟩
  · rw [hp]
    obtain ⟨pc, v, seen, val, e, rfl, he, _⟩ := I.mach t m h hm
    have Z' : ZInv cs P.tick := ⟨Z.all, Z.has⟩
    exact Z'.step (P := P.tick) he
  · rw [hp]
    obtain ⟨c1, c2, c3, c4⟩ := hcs i hi
    have hst : P.obj.has t = false := by
      cases hh : P.obj.has t with
      | false => rfl
      | true =>
        exfalso
        obtain ⟨k, e, e1, e2⟩ := Z.has t hh
        have hl := (I.wf.call k e e1).1
        obtain ⟨d1, _⟩ := hcs e.call hl
        refine C.fresh I.wf hn hN ht k e e1 ?_
        unfold prT at e2
        omega
    have hS : adG.start P.obj t (callOf cs i) = ({ P.obj with has := upd P.obj.has t true }, .prop t 0 ((callOf cs i).a + 1) [] 0) := by
      show adStart P.obj t (callOf cs i) = _
      unfold adStart
      rw [if_neg (by omega), if_neg (by omega), if_neg (by omega), if_neg (by rw [hst]; exact Bool.false_ne_true)]
    have hevs : (P.tick.start adG t i (callOf cs i)).evs = P.evs ++ [⟨i, P.lw.now + 1, 0, 0, ⟨0, 0, []⟩, []⟩] := rfl
    have hobj : (P.tick.start adG t i (callOf cs i)).obj = { P.obj with has := upd P.obj.has t true } := by
      show (adG.start P.obj t (callOf cs i)).1 = _
      rw [hS]
    have Z' : ZInv cs (P.tick.start adG t i (callOf cs i)) := by
      refine ⟨fun k e he => ?_, fun s hs => ?_⟩
      · rw [hevs] at he
        rcases snoc_get he with ⟨_, he⟩ | ⟨_, rfl⟩
        · exact Z.all k e he
        · exact ⟨c2, c3, rfl⟩
      · rw [hobj] at hs
        have hs : upd P.obj.has t true s = true := hs
        rw [hevs]
        by_cases hst : s = t
        · subst hst
          refine ⟨_, _, snoc_new _ _, ?_⟩
          show (callOf cs i).thread.toNat = _
          rw [ht, Int.toNat_natCast]
        · rw [upd_other hst] at hs
          obtain ⟨k, e, e1, e2⟩ := Z.has s hs
          exact ⟨k, e, snoc_old e1, e2⟩
    rw [hS]
    exact Z'.step (e0 := ⟨i, P.lw.now + 1, 0, 0, ⟨0, 0, []⟩, []⟩) (by rw [hevs]; exact snoc_new _ _)
end Go.Proofs.YtlfingcmekifkaaGreat
