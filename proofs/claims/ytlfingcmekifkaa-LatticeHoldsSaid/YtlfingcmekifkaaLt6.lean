/- A lattice's plays: what is so of objects, words and machines at each tick (good, for a loom). -/
import Derived.Test.YtlfingcmekifkaaBun15
import Derived.Test.YtlfingcmekifkaaBun14
import Derived.Test.YtlfingcmekifkaaBun12
namespace Go.Proofs.Ytlfingcmekifkaa
open Go.RowKit

theorem LatM.cs {n p : Nat} {g : Gh} {N : Int} {cs cs' : List Cl} {o : Lat} {w : Lw} {t : Nat} {e : Ep} {m : LM} (hc : callOf cs' e.call = callOf cs e.call) (h : LatM n p g N cs o w t e m) : LatM n p g N cs' o w t e m := by
  have e1 : isGive cs' e = isGive cs e := by unfold isGive; rw [hc]
  have e2 : isTell cs' e = isTell cs e := by unfold isTell; rw [hc]
  have e3 : argA cs' e = argA cs e := by unfold argA; rw [hc]
  cases m with
  | no x => exact h
  | full => obtain ⟨h1, h2⟩ := h; exact ⟨by rw [e1]; exact h1, h2⟩
  | tell s all => obtain ⟨h1, h2⟩ := h; exact ⟨by rw [e2]; exact h1, h2⟩
  | upd t' v r s sc next => obtain ⟨h1, h2, h3, h4⟩ := h; exact ⟨h1, by rw [e1]; exact h2, by rw [e3]; exact h3, h4⟩
  | gtl t' v s all => obtain ⟨h1, h2, h3, h4, h5, h6, h7⟩ := h; exact ⟨h1, by rw [e1]; exact h2, h3, h4, h5, by rw [e3]; exact h6, h7⟩
/-- One more call to come. -/
theorem LIv.snoc {n p : Nat} {cs : List Cl} {P : Ps LM Lat} {g : Gh} {N : Int} (I : LIv n p cs P g N) (c : Cl) : LIv n p (cs ++ [c]) { P with fin := P.fin ++ [false] } g N := by
  have hcl : ∀ k, k < cs.length → callOf (cs ++ [c]) k = callOf cs k := fun k hk => by
    unfold callOf
    rw [List.getElem?_append_left hk]
  have hce : ∀ (h : Nat) (e : Ep), P.evs[h]? = some e → callOf (cs ++ [c]) e.call = callOf cs e.call := fun h e he => hcl _ (I.wf.call h e he).1
  have hG : ∀ (h : Nat) (e : Ep), P.evs[h]? = some e → isGive (cs ++ [c]) e = isGive cs e := fun h e he => by unfold isGive; rw [hce h e he]
  have hT : ∀ (h : Nat) (e : Ep), P.evs[h]? = some e → isTell (cs ++ [c]) e = isTell cs e := fun h e he => by unfold isTell; rw [hce h e he]
  have hA : ∀ (h : Nat) (e : Ep), P.evs[h]? = some e → argA (cs ++ [c]) e = argA cs e := fun h e he => by unfold argA; rw [hce h e he]
  have hR : ∀ (h : Nat) (e : Ep), P.evs[h]? = some e → thrE (cs ++ [c]) e = thrE cs e := fun h e he => by unfold thrE; rw [hce h e he]
  refine ⟨⟨?_, I.wf.now, fun h e he => ?_, fun t m h hh => ?_, fun h e he hr => ?_⟩, I.on, I.gok, I.cnt, I.mem, I.vm, I.own, fun t τ k i h1 h2 h3 => ?_, fun t m h hh => ?_, fun h e he => ?_⟩
  · show (P.fin ++ [false]).length = (cs ++ [c]).length
    rw [List.length_append, List.length_append, I.wf.finl]
    rfl
  · obtain ⟨a, b⟩ := I.wf.call h e he
    refine ⟨by rw [List.length_append]; exact Nat.lt_of_lt_of_le a (Nat.le_add_right _ _), ?_⟩
    rw [hce h e he]
    exact b
  · obtain ⟨e, a, b, d⟩ := I.wf.hand t m h hh
    refine ⟨e, a, b, ?_⟩
    rw [hce h e a]
    exact d
  · obtain ⟨m, hm⟩ := I.wf.opn h e he hr
    refine ⟨m, ?_⟩
    rw [hce h e he]
    exact hm
  · obtain ⟨h, y, ⟨r1, r2, r3⟩, r4, r5, r6⟩ := I.wit t τ k i h1 h2 h3
    exact ⟨h, y, ⟨r1, by rw [hG h y r1]; exact r2, r3⟩, by rw [hR h y r1]; exact r4, by rw [hA h y r1]; exact r5, r6⟩
  · obtain ⟨a, e, b, d⟩ := I.mach t m h hh
    exact ⟨a, e, b, LatM.cs (hce h e b) d⟩
  · obtain ⟨⟨a1, a2⟩, a3, a4⟩ := I.evs h e he
    refine ⟨⟨a1, fun hk => a2 (by rw [hce h e he] at hk; exact hk)⟩, fun b1 b2 b3 => ?_, fun b1 b2 b3 => ?_⟩
    · rw [hG h e he] at b1
      rw [hA h e he, hR h e he]
      exact a3 b1 b2 b3
    · rw [hG h e he, hT h e he] at b1
      obtain ⟨d1, d2⟩ := a4 b1 b2 b3
      refine ⟨d1, fun k y hk hy ht => ?_⟩
      rw [hR k y hy, hR h e he] at ht
      rw [hG k y hy, hA k y hy]
      exact d2 k y hk hy ht
theorem orI_bd {a b : Int} (ha : 0 ≤ a ∧ a < 18446744073709551616) (hb : 0 ≤ b ∧ b < 18446744073709551616) : 0 ≤ orI a b ∧ orI a b < 18446744073709551616 := by
  unfold orI
  have := Nat.or_lt_two_pow (n := 64) (x := a.toNat) (y := b.toNat) (by omega) (by omega)
  omega
theorem fold_bd : ∀ (l : List Int) (a : Int), W64 l → 0 ≤ a ∧ a < 18446744073709551616 → 0 ≤ l.foldl orI a ∧ l.foldl orI a < 18446744073709551616
  | [], _, _, h => h
  | x :: l, a, hl, h => fold_bd l (orI a x) (fun y hy => hl y (List.mem_cons_of_mem _ hy)) (orI_bd h (hl x (List.mem_cons_self ..)))
theorem W64.snoc {l : List Int} {x : Int} (h : W64 l) (hx : 0 ≤ x ∧ x < 18446744073709551616) : W64 (l ++ [x]) := fun y hy => by
  rcases List.mem_append.1 hy with hy | hy
  · exact h y hy
  · rw [List.mem_singleton.1 hy]
    exact hx
theorem passN_w64 (n : Nat) : ∀ (k : Nat) (s : Sc), W64 s.list → W64 (passN n k s).list
  | 0, _, h => h
  | k + 1, s, h => by
    have hu : passN n (k + 1) s = if s.at_ < n ∧ s.now s.at_ = 0 then passN n k { s with list := s.list ++ [0], at_ := s.at_ + 1 } else s := rfl
    rw [hu]
    split
    · exact passN_w64 n k _ (W64.snoc h (by omega))
    · exact h
theorem pass_w64 {n : Nat} {s : Sc} (h : W64 s.list) : W64 (s.pass n).list := by
  unfold Sc.pass
  split
  · exact passN_w64 n n s h
  · exact passN_w64 n n s h
theorem held_w64 {n : Nat} {s : Sc} {now : Int} {tr : Int → List Int} (h : W64 s.list) : W64 (s.held n now tr).list := by
  unfold Sc.held
  split
  · exact h
  · split
    · exact pass_w64 h
    · split
      · exact h
      · exact h
theorem scstep_w64 {n : Nat} {s : Sc} {w : Lw} (h : W64 s.list) (hw : W64 w.mem.words) : W64 (s.step n w).1.list ∧ W64 (s.step n w).2.mem.words := by
  have ha : W64 (w.mem.acc 0 s.addr 0 0).words := acc_w64 hw _ _ _ _ (by unfold acY; rw [if_pos rfl]; exact at_bd hw _)
  have hp : W64 (s.push (w.mem.tell 0 s.addr 0)).list := W64.snoc h (tell0_bd hw _)
  unfold Sc.step
  dsimp only
  split
  · refine ⟨?_, ha⟩
    dsimp only
    split
    · exact held_w64 h
    · exact h
  · split
    · exact ⟨pass_w64 hp, ha⟩
    · split
      · refine ⟨?_, ha⟩
        dsimp only
        split
        · exact hp
        · exact hp
      · exact ⟨h, hw⟩
/-- What is so of a machine, beside what its play tells. -/
def latMk (n : Nat) : LM → Prop
  | .no _ => True
  | .full => True
  | .tell s all => s.Z n ∧ W64 s.list ∧ 0 ≤ all ∧ all < 18446744073709551616
  | .upd _ v _ s _ _ => s.Z n ∧ W64 s.list ∧ 0 ≤ v ∧ v < 18446744073709551616
  | .gtl _ v s all => s.Z n ∧ W64 s.list ∧ (0 ≤ v ∧ v < 18446744073709551616) ∧ 0 ≤ all ∧ all < 18446744073709551616
structure LGood (n p : Nat) (N : Int) (o : Lat) (lw : Lw) (hs : Nat → Option LM) : Prop where
  np : (1 ≤ n ∧ n ≤ 16) ∧ 1 ≤ p ∧ p ≤ 64
  w64 : W64 lw.mem.words
  own : ∀ t, 0 ≤ o.own t ∧ o.own t < 18446744073709551616
  mok : ∀ t m, hs t = some m → latMk n m
  reach : ∃ cs P g, LIv n p cs P g N ∧ P.obj = o ∧ P.lw = lw ∧ P.ms = hs
def latGood (n p : Nat) (o : Lat) (lw : Lw) (hs : Nat → Option LM) : Prop := LGood n p lw.now o lw hs
def latGoodT (n p : Nat) (o : Lat) (lw : Lw) (hs : Nat → Option LM) : Prop := ∃ N, 0 ≤ N ∧ lw.now = N + 1 ∧ LGood n p N o lw hs
theorem ms_hand {P : Ps LM Lat} {hs : Nat → Option LM} {t : Nat} {m : LM} (h : P.ms = hs) (hm : hs t = some m) : ∃ k, P.hands t = some (m, k) := by
  subst h
  unfold Ps.ms at hm
  cases hh : P.hands t with
  | none => rw [hh] at hm; cases hm
  | some x =>
    rw [hh] at hm
    cases hm
    exact ⟨x.2, rfl⟩
theorem latGood_tick {n p : Nat} {o : Lat} {lw : Lw} {hs : Nat → Option LM} (h : latGood n p o lw hs) : latGoodT n p o { lw with now := lw.now + 1 } hs := by
  obtain ⟨h1, h2, h3, h4, cs, P, g, I, rfl, rfl, rfl⟩ := h
  refine ⟨P.lw.now, I.wf.now, rfl, h1, h2, h3, h4, cs, P.tick, g, ?_, rfl, rfl, rfl⟩
  exact ⟨I.wf.tick, I.on, I.gok, I.cnt, ⟨I.mem.len, I.mem.cell, I.mem.le, I.mem.val, I.mem.view, I.mem.trace, I.mem.tmo⟩, I.vm, I.own, I.wit, fun t m h hm => by
      obtain ⟨a, e, b, c⟩ := I.mach t m h hm
      refine ⟨a, e, b, ?_⟩
      cases m <;> exact c, I.evs⟩
theorem latGood_start {n p : Nat} {o : Lat} {lw : Lw} {hs : Nat → Option LM} {t : Nat} {c : Cl} (h : latGoodT n p o lw hs) (hn : hs t = none) (ht : t < n) (hc : c.thread = t) (hu : ClU c) : latGoodT n p (latG.start o t c).1 { lw with inv := upd lw.inv t lw.now, marks := upd lw.marks t [] } (upd hs t (some (latG.start o t c).2)) := by
  obtain ⟨N, hN, hw, h1, h2, h3, h4, cs, P, g, I, rfl, rfl, rfl⟩ := h
  have hob : (latStart P.obj t c).1 = P.obj := by
    unfold latStart
    repeat' split
    all_goals rfl
  have hca : callOf (cs ++ [c]) cs.length = c := by
    unfold callOf
    rw [List.getElem?_append_right (Nat.le_refl _), Nat.sub_self]
    rfl
  have hhn : P.hands t = none := by
    unfold Ps.ms at hn
    cases hh : P.hands t with
    | none => rfl
    | some x => rw [hh] at hn; cases hn
  have I2 := (I.snoc c).start (t := t) (i := cs.length) h1.1.1 hN hw hhn (by rw [List.length_append]; exact Nat.lt_succ_self _) (by rw [hca]; exact hc) ht
  rw [hca] at I2
  refine ⟨N, hN, hw, h1, h2, fun s => ?_, fun s m hm => ?_, cs ++ [c], _, g, I2, rfl, rfl, ms_upd _ _ _⟩
  · rw [show (latG.start P.obj t c).1 = P.obj from hob]
    exact h3 s
  · by_cases e : s = t
    · subst e
      rw [upd_same] at hm
      cases hm
      show latMk n (latStart P.obj s c).2
      have hz : Sc.new.Z n := Sc.Z.new n
      have hl : W64 Sc.new.list := fun x hx => by cases hx
      unfold latStart
      split
      · trivial
      · split
        · dsimp only
          split
          · trivial
          · exact ⟨hz, hl, orI_bd (h3 s) hu.1⟩
        · split
          · exact ⟨hz, hl, by decide, by decide⟩
          · trivial
    · rw [upd_other e] at hm
      exact h4 s m hm
/-- A scan that steps: what its step needs, and when the moment is. -/
theorem LGood.scan {n p : Nat} {N : Int} {o : Lat} {lw : Lw} {hs : Nat → Option LM} {t : Nat} {s : Sc} (h : LGood n p N o lw hs) (hw : lw.now = N + 1) (ht : t < n) (hz : s.Z n) (hpc : s.pc ≠ 3)
    (hsc : ∀ {cs : List Cl} {P : Ps LM Lat} {g : Gh}, LIv n p cs P g N → P.obj = o → P.lw = lw → P.ms = hs → ∃ b, 0 ≤ b ∧ ScOk n p g t b N s) : ScB n lw s ∧ ((s.step n lw).1.pc = 3 → 0 ≤ (s.step n lw).1.moment ∧ (s.step n lw).1.moment ≤ lw.now ∧ (s.step n lw).1.list.length = n) := by
  obtain ⟨cs, P, g, I, h1, h2, h3⟩ := h.reach
  obtain ⟨b, hb, hs⟩ := hsc I h1 h2 h3
  subst h2
  have h3 := hs.pc
  refine ⟨scB_of h.np.1 h.np.2.2 ht I.gok I.mem hs hz (by omega), fun h' => ?_⟩
  obtain ⟨⟨_, _, k⟩, _⟩ := hs.step h.np.1.1 ht I.gok I.mem hw hpc
  rcases k with k | k | k | k | k
  · exact absurd (k.1.symm.trans h') (by decide)
  · exact absurd (k.1.symm.trans h') (by decide)
  · exact absurd (k.1.symm.trans h') (by decide)
  · exact absurd (k.1.symm.trans h') (by decide)
  · obtain ⟨_, _, _, k1, k2, k3⟩ := k
    refine ⟨by omega, by omega, ?_⟩
    rw [k3, view_len]
section
variable {n p : Nat} {N : Int} {o : Lat} {lw : Lw} {hs : Nat → Option LM} {t : Nat}
theorem LGood.on (h : LGood n p N o lw hs) : o.n = n ∧ o.p = p := by
  obtain ⟨cs, P, g, I, h1, h2, h3⟩ := h.reach
  subst h1
  exact I.on
theorem LGood.mach (h : LGood n p N o lw hs) {m : LM} (hm : hs t = some m) : t < n ∧ ∃ (cs : List Cl) (g : Gh) (e : Ep), 0 ≤ e.inv ∧ LatM n p g N cs o lw t e m := by
  obtain ⟨cs, P, g, I, h1, h2, h3⟩ := h.reach
  obtain ⟨k, hk⟩ := ms_hand h3 hm
  obtain ⟨a, e, he, d⟩ := I.mach t m k hk
  subst h1 h2
  have := (I.wf.call k e he).2.2.1
  exact ⟨a, cs, g, e, by omega, d⟩
theorem LGood.tell (h : LGood n p N o lw hs) (hw : lw.now = N + 1) {s : Sc} {all : Int} (hm : hs t = some (.tell s all)) : t < n ∧ s.pc ≠ 3 ∧ all = 0 ∧ ScB n lw s ∧ ((s.step n lw).1.pc = 3 → 0 ≤ (s.step n lw).1.moment ∧ (s.step n lw).1.moment ≤ lw.now ∧ (s.step n lw).1.list.length = n) := by
  obtain ⟨ht, cs, g, e, he, d1, d2, d3, _, _⟩ := h.mach hm
  refine ⟨ht, d3, d2, h.scan hw ht (h.mok t _ hm).1 d3 fun {cs P g} I h1 h2 h3 => ?_⟩
  obtain ⟨k, hk⟩ := ms_hand h3 hm
  obtain ⟨_, e, he, _, _, _, ⟨b, a4, a5⟩, _⟩ := I.mach t _ k hk
  have := (I.wf.call k e he).2.2.1
  exact ⟨b, by omega, a5⟩
theorem LGood.gtl (h : LGood n p N o lw hs) (hw : lw.now = N + 1) {t' : Nat} {v : Int} {s : Sc} {all : Int} (hm : hs t = some (.gtl t' v s all)) : t < n ∧ t' = t ∧ s.pc ≠ 3 ∧ all = 0 ∧ ScB n lw s ∧ ((s.step n lw).1.pc = 3 → 0 ≤ (s.step n lw).1.moment ∧ (s.step n lw).1.moment ≤ lw.now ∧ (s.step n lw).1.list.length = n) := by
  obtain ⟨ht, cs, g, e, he, d0, _, d2, d3, _⟩ := h.mach hm
  refine ⟨ht, d0, d3, d2, h.scan hw ht (h.mok t _ hm).1 d3 fun {cs P g} I h1 h2 h3 => ?_⟩
  obtain ⟨k, hk⟩ := ms_hand h3 hm
  obtain ⟨_, e, he, _, _, _, _, _, _, ⟨b, a4, a5⟩, _⟩ := I.mach t _ k hk
  have := (I.wf.call k e he).2.2.1
  exact ⟨b, by omega, a5⟩
theorem LGood.updA (h : LGood n p N o lw hs) {t' : Nat} {v : Int} {r : Nat} {s : Sc} {sc : Bool} {next : Nat} (hm : hs t = some (.upd t' v r s sc next)) : t < n ∧ t' = t ∧ o.used t < p ∧ r = recA n p t (o.used t) ∧ r ≤ 100000 ∧ ((sc = false ∧ s.pc ≠ 3 ∧ next = 0) ∨ (sc = true ∧ s.pc = 3 ∧ next ≤ n + 1 ∧ s.list.length = n)) := by
  obtain ⟨ht, cs, g, e, he, d0, d1, d2, d3, d4, ⟨b, _, d5⟩, d6, _⟩ := h.mach hm
  have hb0 : n * p * (n + 1) ≤ 16 * 64 * 17 := Nat.mul_le_mul (Nat.mul_le_mul h.np.1.2 h.np.2.2) (by have := h.np.1.2; omega)
  have hr := recA_in (n := n) ht d3
  have := h.np.1.2
  refine ⟨ht, d0, d3, d4, by omega, ?_⟩
  rcases d6 with d6 | ⟨q1, q2, q3⟩
  · exact Or.inl d6
  · refine Or.inr ⟨q1, q2, q3, ?_⟩
    obtain ⟨_, _, k⟩ := d5
    rcases k with k | k | k | k | k
    · exact absurd (k.1.symm.trans q2) (by decide)
    · exact absurd (k.1.symm.trans q2) (by decide)
    · exact absurd (k.1.symm.trans q2) (by decide)
    · exact absurd (k.1.symm.trans q2) (by decide)
    · rw [k.2.2.2.2.2, view_len]
theorem LGood.upd0 (h : LGood n p N o lw hs) (hw : lw.now = N + 1) {t' : Nat} {v : Int} {r : Nat} {s : Sc} {next : Nat} (hm : hs t = some (.upd t' v r s false next)) : ScB n lw s := by
  obtain ⟨ht, d0, d3, d4, _, d6⟩ := h.updA hm
  have hpc : s.pc ≠ 3 := by
    rcases d6 with d6 | d6
    · exact d6.2.1
    · exact absurd d6.1 (by decide)
  refine (h.scan hw ht (h.mok t _ hm).1 hpc fun {cs P g} I h1 h2 h3 => ?_).1
  obtain ⟨k, hk⟩ := ms_hand h3 hm
  obtain ⟨_, e, he, _, _, _, _, _, ⟨b, a4, a5⟩, _⟩ := I.mach t _ k hk
  have := (I.wf.call k e he).2.2.1
  exact ⟨b, by omega, a5⟩
end
theorem latGood_step {n p : Nat} {o : Lat} {lw : Lw} {hs : Nat → Option LM} {t : Nat} {m : LM} (h : latGoodT n p o lw hs) (hm : hs t = some m) : latGood n p (latG.step o lw t m).1 (latG.step o lw t m).2.1 (upd hs t (if (latG.step o lw t m).2.2.2 then none else some (latG.step o lw t m).2.2.1)) := by
  obtain ⟨N, hN, hw, hG⟩ := h
  have hnow : (latG.step o lw t m).2.1.now = N + 1 := (latG_still o lw t m).trans hw
  have hon := hG.on.1
  have hreach : ∃ cs P g, LIv n p cs P g (N + 1) ∧ P.obj = (latG.step o lw t m).1 ∧ P.lw = (latG.step o lw t m).2.1 ∧ P.ms = upd hs t (if (latG.step o lw t m).2.2.2 then none else some (latG.step o lw t m).2.2.1) := by
    obtain ⟨cs, P, g, I, rfl, rfl, rfl⟩ := hG.reach
    obtain ⟨k, hk⟩ := ms_hand rfl hm
    obtain ⟨g', I'⟩ := I.step (i := 0) hG.np.1.1 hN hw hk
    refine ⟨cs, _, g', I', step_obj .., step_lw .., ?_⟩
    cases hd : (latG.step P.obj P.lw t m).2.2.2
    · have e3 := (step_more (i := 0) (h := k) (show (P.after latG t m).2.2.2 = false from hd)).1
      unfold Ps.ms
      rw [e3]
      exact ms_upd _ _ _
    · have e3 := (step_done (i := 0) (h := k) (show (P.after latG t m).2.2.2 = true from hd)).1
      unfold Ps.ms
      rw [e3]
      exact ms_upd _ _ _
  have key : ∀ (r : Option LM), (∀ m', r = some m' → latMk n m') → ∀ s m', upd hs t r s = some m' → latMk n m' := by
    intro r hr s m' h
    by_cases e : s = t
    · subst e
      rw [upd_same] at h
      exact hr m' h
    · rw [upd_other e] at h
      exact hG.mok s m' h
  have hfin : W64 (latG.step o lw t m).2.1.mem.words ∧ (∀ s, 0 ≤ (latG.step o lw t m).1.own s ∧ (latG.step o lw t m).1.own s < 18446744073709551616) ∧ ((latG.step o lw t m).2.2.2 = false → latMk n (latG.step o lw t m).2.2.1) := by
    have hmk := hG.mok t m hm
    cases m with
    | no e => exact ⟨hG.w64, hG.own, fun h => by cases h⟩
    | full => exact ⟨hG.w64, hG.own, fun h => by cases h⟩
    | tell s all =>
      obtain ⟨_, _, _, hb, _⟩ := hG.tell hw hm
      obtain ⟨k1, k2, k3⟩ := hmk
      have hq := scstep_w64 (n := n) (s := s) k2 hG.w64
      show W64 (latStep o lw (.tell s all)).2.1.mem.words ∧ (∀ s', 0 ≤ (latStep o lw (.tell s all)).1.own s' ∧ (latStep o lw (.tell s all)).1.own s' < 18446744073709551616) ∧ ((latStep o lw (.tell s all)).2.2.2 = false → latMk n (latStep o lw (.tell s all)).2.2.1)
      unfold latStep
      rw [hon]
      dsimp only
      split
      · exact ⟨hq.2, hG.own, fun h => by cases h⟩
      · exact ⟨hq.2, hG.own, fun _ => ⟨k1.step hb.at_ lw, hq.1, k3⟩⟩
    | gtl t' v s all =>
      obtain ⟨_, _, _, _, hb, _⟩ := hG.gtl hw hm
      obtain ⟨k1, k2, k3, k4⟩ := hmk
      have hq := scstep_w64 (n := n) (s := s) k2 hG.w64
      show W64 (latStep o lw (.gtl t' v s all)).2.1.mem.words ∧ (∀ s', 0 ≤ (latStep o lw (.gtl t' v s all)).1.own s' ∧ (latStep o lw (.gtl t' v s all)).1.own s' < 18446744073709551616) ∧ ((latStep o lw (.gtl t' v s all)).2.2.2 = false → latMk n (latStep o lw (.gtl t' v s all)).2.2.1)
      unfold latStep
      rw [hon]
      dsimp only
      split
      · exact ⟨hq.2, hG.own, fun h => by cases h⟩
      · exact ⟨hq.2, hG.own, fun _ => ⟨k1.step hb.at_ lw, hq.1, k3, k4⟩⟩
    | upd t' v r s sc next =>
      obtain ⟨ht, rfl, hu, hr, hr2, _⟩ := hG.updA hm
      obtain ⟨k1, k2, k3⟩ := hmk
      have hwr : ∀ (a x : Int), 0 ≤ x ∧ x < 18446744073709551616 → W64 (lw.mem.acc 1 a x 0).words := fun a x hx => acc_w64 hG.w64 _ _ _ _ (by unfold acY; rw [if_neg (by decide), if_pos rfl]; exact hx)
      cases sc with
      | false =>
        have hb := hG.upd0 hw hm
        have hq := scstep_w64 (n := n) (s := s) k2 hG.w64
        show W64 (latStep o lw (.upd t' v r s false next)).2.1.mem.words ∧ (∀ s', 0 ≤ (latStep o lw (.upd t' v r s false next)).1.own s' ∧ (latStep o lw (.upd t' v r s false next)).1.own s' < 18446744073709551616) ∧ ((latStep o lw (.upd t' v r s false next)).2.2.2 = false → latMk n (latStep o lw (.upd t' v r s false next)).2.2.1)
        unfold latStep
        rw [hon]
        exact ⟨hq.2, hG.own, fun _ => ⟨k1.step hb.at_ lw, hq.1, k3⟩⟩
      | true =>
        show W64 (latStep o lw (.upd t' v r s true next)).2.1.mem.words ∧ (∀ s', 0 ≤ (latStep o lw (.upd t' v r s true next)).1.own s' ∧ (latStep o lw (.upd t' v r s true next)).1.own s' < 18446744073709551616) ∧ ((latStep o lw (.upd t' v r s true next)).2.2.2 = false → latMk n (latStep o lw (.upd t' v r s true next)).2.2.1)
        unfold latStep
        dsimp only
        split
        · exact ⟨hwr _ _ k3, hG.own, fun _ => ⟨k1, k2, k3⟩⟩
        · split
          · refine ⟨hwr _ _ ?_, hG.own, fun _ => ⟨k1, k2, k3⟩⟩
            cases hx : s.list[next - 1]? with
            | none => exact ⟨by decide, by decide⟩
            | some x => exact k2 x (List.mem_of_getElem? hx)
          · refine ⟨hwr _ _ (by omega), fun s' => ?_, fun _ => ⟨Sc.Z.new n, fun x hx => (by cases hx), k3, by decide, by decide⟩⟩
            show 0 ≤ upd o.own t' v s' ∧ upd o.own t' v s' < 18446744073709551616
            by_cases e : s' = t'
            · subst e
              rw [upd_same]
              exact k3
            · rw [upd_other e]
              exact hG.own s'
  obtain ⟨f1, f2, f3⟩ := hfin
  refine ⟨hG.np, f1, f2, key _ (fun m' h => ?_), by rw [hnow]; exact hreach⟩
  split at h
  · cases h
  · rename_i hd
    cases h
    exact f3 (by simpa using hd)
theorem latGood_new {n p : Nat} (hn : 1 ≤ n ∧ n ≤ 16) (hp : 1 ≤ p ∧ p ≤ 64) (m : Nat) : latGood n p ⟨n, p, fun _ => 0, fun _ => 0⟩ (Ps.new (List.replicate (n + n * p * (n + 1)) 0) (⟨n, p, fun _ => 0, fun _ => 0⟩ : Lat) m : Ps LM Lat).lw (fun _ => none) := by
  refine ⟨⟨hn, hp⟩, fun x hx => ?_, fun t => (by show (0 : Int) ≤ 0 ∧ (0 : Int) < 18446744073709551616; omega), fun t m hm => (by cases hm), [], Ps.new (List.replicate (n + n * p * (n + 1)) 0) ⟨n, p, fun _ => 0, fun _ => 0⟩ 0, _, LIv.new n p [], rfl, rfl, rfl⟩
  have := List.eq_of_mem_replicate hx
  subst this
  exact ⟨by decide, by decide⟩
end Go.Proofs.Ytlfingcmekifkaa
