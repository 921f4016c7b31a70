import Derived.Test.YtlfingcmekifkaaGreatBun13
import Derived.Test.YtlfingcmekifkaaGreatBun17
import Derived.Test.YtlfingcmekifkaaGreatBun15
namespace Go.Proofs.YtlfingcmekifkaaGreat
open Go.RowKit
section
variable {M O : Type} {G : Gm M O} {D : Dof} {no : Nat}
theorem foldl_same {α β : Type} {f g : α → β → α} : ∀ {l : List β} {a : α}, (∀ b ∈ l, ∀ a, f a b = g a b) → l.foldl f a = l.foldl g a
  | [], _, _ => rfl
  | b :: l, a, h => by
    rw [List.foldl_cons, List.foldl_cons, h b (by simp)]
    exact foldl_same fun b' hb' => h b' (by simp [hb'])
theorem foldl_noop {α β : Type} {f : α → β → α} : ∀ {l : List β} {a : α}, (∀ b ∈ l, ∀ a, f a b = a) → l.foldl f a = a
  | [], _, _ => rfl
  | b :: l, a, h => by
    rw [List.foldl_cons, h b (by simp)]
    exact foldl_noop fun b' hb' => h b' (by simp [hb'])
theorem Sim.ends {A : Alike G D no} {cs : List Cl} {P : Ps M O} {R : Rs} (S : Sim A cs P R) (hl : ∀ o lw m, G.late o lw m = none) {n : Nat} (h16 : n ≤ 16) (hn : ∀ t, n ≤ t → P.hands t = none) : P.ends G = R.endsK (fun _ t => R.w.marks t) n := by
  unfold Ps.ends Rs.endsK
  obtain ⟨k, hk⟩ : ∃ k, 16 = n + k := ⟨16 - n, by omega⟩
  rw [hk, List.range_add, List.foldl_append, S.evs]
  rw [foldl_noop (fun t ht a => by
    obtain ⟨j, _, rfl⟩ := List.mem_map.1 ht
    rw [hn (n + j) (by omega)])]
  refine foldl_same fun t ht a => ?_
  rcases hh : P.hands t with _ | ⟨m, h⟩
  · rw [(S.hno t hh).1]
    rfl
  · obtain ⟨q1, q2, _⟩ := S.hso t m h hh
    rw [q1, q2]
    simp only [hl, if_true, S.rel.2.2.1]
end
end Go.Proofs.YtlfingcmekifkaaGreat

namespace Go.Proofs.YtlfingcmekifkaaGreat
open Go.RowKit
def b1 (b : Bool) : Nat := if b then 1 else 0
structure Few (T : Tp) (W : Rw) (T' : Tp) (W' : Rw) : Prop where
  got : T'.got.length + b1 T'.fresh ≤ T.got.length + b1 T.fresh
  tks : T'.tks.length + b1 T'.fresh ≤ T.tks.length + b1 T.fresh
  log : W'.log.length + b1 T'.fresh ≤ W.log.length + b1 T.fresh
theorem Few.refl (T : Tp) (W : Rw) : Few T W T W := ⟨Nat.le_refl _, Nat.le_refl _, Nat.le_refl _⟩
theorem Few.trans {T T1 T2 : Tp} {W W1 W2 : Rw} (h : Few T W T1 W1) (h' : Few T1 W1 T2 W2) : Few T W T2 W2 := ⟨Nat.le_trans h'.got h.got, Nat.le_trans h'.tks h.tks, Nat.le_trans h'.log h.log⟩
theorem acc_few (t : Nat) (k a x y : Int) (T : Tp) (W : Rw) : Few T W (T.acc t k a x y W).2.1 (T.acc t k a x y W).2.2 := by
  unfold Tp.acc
  split
  · exact Few.refl T W
  · split
    · exact ⟨Nat.le_refl _, Nat.le_refl _, Nat.le_refl _⟩
    · split
      · rename_i h
        refine ⟨?_, ?_, ?_⟩
        · show (T.got ++ [_]).length + b1 false ≤ _
          rw [h]; simp [b1]
        · show (T.tks ++ [_]).length + b1 false ≤ _
          rw [h]; simp [b1]
        · show (W.log1 t k a x y).length + b1 false ≤ _
          rw [h]
          unfold Rw.log1
          split <;> simp [b1]
      · exact ⟨Nat.le_refl _, Nat.le_refl _, Nat.le_refl _⟩
structure DSm (D : Dof) : Prop where
  few : ∀ t c T W, Few T W (D t c T W).1 (D t c T W).2
  priv : ∀ t c T W, T.priv.length ≤ 1000 → (D t c T W).1.priv.length ≤ 1000
  wd : DBd D
theorem TBd.one {T : Tp} {W : Rw} (h : TBd T W) : TBd { T with priv := [1] } W := ⟨h.got, fun x hx => by obtain rfl := List.mem_singleton.1 hx; exact wd1, h.mem⟩
theorem padL_wd {m : Nat} {l : List Int} (h : ∀ x ∈ l, Wd x) : ∀ x ∈ padL m l, Wd x := by
  intro x hx
  unfold padL at hx
  rcases List.mem_append.1 hx with hx | hx
  · exact h x hx
  · rw [(List.mem_replicate.1 hx).2]
    exact wd0
theorem set_wd {l : List Int} {i : Nat} {y : Int} (h : ∀ x ∈ l, Wd x) (hy : Wd y) : ∀ x ∈ l.set i y, Wd x := by
  intro x hx
  rcases List.mem_or_eq_of_mem_set hx with hx | rfl
  · exact h x hx
  · exact hy
theorem at9_wd {l : List Int} (h : ∀ x ∈ l, Wd x) (j : Nat) : Wd (at9 l j) := by
  unfold at9
  rcases hx : l[j]? with _ | x
  · exact wd0
  · exact h x (List.mem_of_getElem? hx)
theorem ll_bd (P : Int) : DBd (llDo P) := by
  intro t c T W ht hc h
  have hp := padL_wd (m := 2 * P.toNat) h.priv
  unfold llDo
  split
  · exact ⟨h.got, h.priv, h.mem⟩
  · split
    · exact ⟨h.got, h.priv, h.mem⟩
    · rename_i q2
      split
      · exact ⟨h.got, h.priv, h.mem⟩
      · split
        · obtain ⟨b1, b2⟩ := acc_wd (t := t) (k := 0) (a := c.a) h wd0 wd0
          exact ⟨b1.got, set_wd (set_wd hp wd1) b2, b1.mem⟩
        · split
          · rename_i k1
            have hx := at9_wd h.priv (2 * c.a.toNat + 1)
            have hy : Wd (llNext (at9 T.priv (2 * c.a.toNat + 1)) c.b) := by
              have h1 : ¬ two32 ≤ c.b := fun e => q2 (Or.inr ⟨k1, e⟩)
              have h2 := hc.2.1
              unfold two32 at h1
              unfold llNext two32 Wd
              have h3 := Int.emod_nonneg (at9 T.priv (2 * c.a.toNat + 1) / 4294967296 + 1) (show (4294967296 : Int) ≠ 0 by decide)
              have h4 := Int.emod_lt_of_pos (at9 T.priv (2 * c.a.toNat + 1) / 4294967296 + 1) (show (0 : Int) < 4294967296 by decide)
              omega
            obtain ⟨b1, _⟩ := acc_wd (t := t) (k := 2) (a := c.a) h hx hy
            exact ⟨b1.got, set_wd hp wd0, b1.mem⟩
          · obtain ⟨b1, _⟩ := acc_wd (t := t) (k := 0) (a := c.a) h wd0 wd0
            exact ⟨b1.got, hp, b1.mem⟩
theorem ll_small {P : Int} (hP : P ≤ 64) : DSm (llDo P) := by
  refine ⟨fun t c T W => ?_, fun t c T W h => ?_, ll_bd P⟩
  · unfold llDo
    repeat' split
    all_goals first
      | exact ⟨Nat.le_refl _, Nat.le_refl _, Nat.le_refl _⟩
      | exact (acc_few t 0 c.a 0 0 T W).trans ⟨Nat.le_refl _, Nat.le_refl _, Nat.le_refl _⟩
      | exact (acc_few t 2 c.a _ _ T W).trans ⟨Nat.le_refl _, Nat.le_refl _, Nat.le_refl _⟩
  · have hp : (padL (2 * P.toNat) T.priv).length ≤ 1000 := by unfold padL; simp; omega
    unfold llDo
    repeat' split
    all_goals first
      | exact h
      | exact hp
      | (show (((padL _ _).set _ _).set _ _).length ≤ 1000; rw [List.length_set, List.length_set]; exact hp)
      | (show ((padL _ _).set _ _).length ≤ 1000; rw [List.length_set]; exact hp)
end Go.Proofs.YtlfingcmekifkaaGreat

namespace Go.Proofs.YtlfingcmekifkaaGreat
open Go.RowKit
structure RBnd (R : Rs) (k : Nat) : Prop where
  log : R.w.log.length ≤ k
  got : ∀ t, (R.hands t).tape.got.length ≤ k
  tks : ∀ t, (R.hands t).tape.tks.length ≤ k
  own : ∀ t j, ((R.hands t).own j).length ≤ 1000
  wd : RBd R
theorem RBnd.new {words : List Int} (hw : ∀ x ∈ words, Wd x) (m : Nat) : RBnd (Rs.new words m) 0 := ⟨Nat.le_refl _, fun _ => Nat.le_refl _, fun _ => Nat.le_refl _, fun _ _ => Nat.zero_le _, RBd.new hw m⟩
theorem RBnd.mono {R : Rs} {k k' : Nat} (h : RBnd R k) (hk : k ≤ k') : RBnd R k' := ⟨Nat.le_trans h.log hk, fun t => Nat.le_trans (h.got t) hk, fun t => Nat.le_trans (h.tks t) hk, h.own, h.wd⟩
theorem RBnd.tick {R : Rs} {k : Nat} (h : RBnd R k) : RBnd R.tick k := ⟨h.log, h.got, h.tks, h.own, h.wd.tick⟩
theorem RBnd.begin {R : Rs} {k t i : Nat} (h : RBnd R k) : RBnd (R.begin t i) k := by
  refine ⟨h.log, fun s => ?_, fun s => ?_, fun s j => ?_, h.wd.begin⟩
  · show ((upd R.hands t _ s).tape.got).length ≤ k
    by_cases e : s = t
    · subst e; rw [upd_same]; exact Nat.zero_le _
    · rw [upd_other e]; exact h.got s
  · show ((upd R.hands t _ s).tape.tks).length ≤ k
    by_cases e : s = t
    · subst e; rw [upd_same]; exact Nat.zero_le _
    · rw [upd_other e]; exact h.tks s
  · show (((upd R.hands t _ s).own) j).length ≤ 1000
    by_cases e : s = t
    · subst e; rw [upd_same]; exact h.own s j
    · rw [upd_other e]; exact h.own s j
theorem RBnd.run {D : Dof} {no : Nat} (hD : DSm D) {R : Rs} {k t : Nat} {c : Cl} (h : RBnd R k) : (R.run D no t c).2.log.length ≤ k + 1 ∧ (R.run D no t c).1.got.length ≤ k + 1 ∧ (R.run D no t c).1.tks.length ≤ k + 1 ∧ (0 ≤ c.obj ∧ c.obj < no → (R.run D no t c).1.priv.length ≤ 1000) := by
  unfold Rs.run
  have h1 := h.got t
  have h2 := h.tks t
  have h3 := h.log
  by_cases ho : 0 ≤ c.obj ∧ c.obj < no
  · rw [if_pos ho]
    have hf := hD.few t c { (R.hands t).tape.again with priv := (R.hands t).own c.obj.toNat } R.w
    have hp := hD.priv t c { (R.hands t).tape.again with priv := (R.hands t).own c.obj.toNat } R.w (h.own t _)
    have e1 : b1 ({ (R.hands t).tape.again with priv := (R.hands t).own c.obj.toNat } : Tp).fresh = 1 := rfl
    have g1 := hf.got
    have g2 := hf.tks
    have g3 := hf.log
    rw [e1] at g1 g2 g3
    refine ⟨?_, ?_, ?_, fun _ => hp⟩
    · omega
    · have : ({ (R.hands t).tape.again with priv := (R.hands t).own c.obj.toNat } : Tp).got.length ≤ k := h1
      omega
    · have : ({ (R.hands t).tape.again with priv := (R.hands t).own c.obj.toNat } : Tp).tks.length ≤ k := h2
      omega
  · rw [if_neg ho]
    exact ⟨Nat.le_succ_of_le h3, Nat.le_succ_of_le h1, Nat.le_succ_of_le h2, fun hh => absurd hh ho⟩
theorem RBnd.step {D : Dof} {no : Nat} (hD : DSm D) {R : Rs} {k t i : Nat} {c : Cl} (ht : t < 16) (hc : ClB c) (h : RBnd R k) : RBnd (R.step D no t i c) (k + 1) := by
  obtain ⟨r1, r2, r3, r4⟩ := h.run hD (no := no) (t := t) (c := c)
  have hw := h.wd.step hD.wd (no := no) (i := i) ht hc
  unfold Rs.step at hw ⊢
  dsimp only at hw ⊢
  split
  · refine ⟨r1, fun s => ?_, fun s => ?_, fun s j => ?_, by first | (rw [if_pos (by assumption)] at hw; exact hw) | (rw [if_neg (by assumption)] at hw; exact hw)⟩
    · show ((upd R.hands t _ s).tape.got).length ≤ _
      by_cases e : s = t
      · subst e; rw [upd_same]; exact r2
      · rw [upd_other e]; exact Nat.le_succ_of_le (h.got s)
    · show ((upd R.hands t _ s).tape.tks).length ≤ _
      by_cases e : s = t
      · subst e; rw [upd_same]; exact r3
      · rw [upd_other e]; exact Nat.le_succ_of_le (h.tks s)
    · show (((upd R.hands t _ s).own) j).length ≤ 1000
      by_cases e : s = t
      · subst e; rw [upd_same]; exact h.own s j
      · rw [upd_other e]; exact h.own s j
  · refine ⟨r1, fun s => ?_, fun s => ?_, fun s j => ?_, by first | (rw [if_pos (by assumption)] at hw; exact hw) | (rw [if_neg (by assumption)] at hw; exact hw)⟩
    · show ((upd R.hands t _ s).tape.got).length ≤ _
      by_cases e : s = t
      · subst e; rw [upd_same]; exact r2
      · rw [upd_other e]; exact Nat.le_succ_of_le (h.got s)
    · show ((upd R.hands t _ s).tape.tks).length ≤ _
      by_cases e : s = t
      · subst e; rw [upd_same]; exact r3
      · rw [upd_other e]; exact Nat.le_succ_of_le (h.tks s)
    · show (((upd R.hands t _ s).own) j).length ≤ 1000
      by_cases e : s = t
      · subst e
        rw [upd_same]
        show ((if 0 ≤ c.obj ∧ c.obj < no then upd (R.hands s).own c.obj.toNat (R.run D no s c).1.priv else (R.hands s).own) j).length ≤ 1000
        by_cases ho : 0 ≤ c.obj ∧ c.obj < no
        · rw [if_pos ho]
          by_cases ej : j = c.obj.toNat
          · rw [ej, upd_same]; exact r4 ho
          · rw [upd_other ej]; exact h.own s j
        · rw [if_neg ho]; exact h.own s j
      · rw [upd_other e]; exact h.own s j
end Go.Proofs.YtlfingcmekifkaaGreat

namespace Go.Proofs.YtlfingcmekifkaaGreat
open Go.RowKit
structure Pln (T : Tp) (W : Rw) (T' : Tp) (W' : Rw) : Prop where
  key : T'.key = T.key
  marks : W'.marks = W.marks
  now : W'.now = W.now
theorem Pln.refl (T : Tp) (W : Rw) : Pln T W T W := ⟨rfl, rfl, rfl⟩
theorem Pln.trans {T T1 T2 : Tp} {W W1 W2 : Rw} (h : Pln T W T1 W1) (h' : Pln T1 W1 T2 W2) : Pln T W T2 W2 := ⟨h'.key.trans h.key, h'.marks.trans h.marks, h'.now.trans h.now⟩
theorem acc_pln (t : Nat) (k a x y : Int) (T : Tp) (W : Rw) : Pln T W (T.acc t k a x y W).2.1 (T.acc t k a x y W).2.2 := by
  unfold Tp.acc
  repeat' split
  all_goals exact ⟨rfl, rfl, rfl⟩
def DPl (D : Dof) : Prop := ∀ t c T W, Pln T W (D t c T W).1 (D t c T W).2
theorem ll_pln (P : Int) : DPl (llDo P) := by
  intro t c T W
  unfold llDo
  repeat' split
  all_goals first
    | exact ⟨rfl, rfl, rfl⟩
    | exact (acc_pln t 0 c.a 0 0 T W).trans ⟨rfl, rfl, rfl⟩
    | exact (acc_pln t 2 c.a _ _ T W).trans ⟨rfl, rfl, rfl⟩
structure RInv (cs : List Cl) (no : Nat) (R : Rs) (k : Nat) : Prop where
  bnd : RBnd R k
  mrk : ∀ t, R.w.marks t = []
  now : 0 ≤ R.w.now ∧ R.w.now ≤ k
  idle : 0 ≤ R.idle ∧ R.idle ≤ k
  evl : R.evs.length ≤ k
  st : ∀ (j : Nat) (e : Ep), R.evs[j]? = some e → 0 ≤ e.steps ∧ e.steps ≤ k
  op : ∀ t, (R.hands t).opn = true → ∃ e, R.evs[(R.hands t).event]? = some e ∧ e.call < cs.length ∧ 0 ≤ (callOf cs e.call).obj ∧ (callOf cs e.call).obj < no
  fin : R.fin.length = cs.length
  cb : ∀ c ∈ cs, ClB c ∧ 0 ≤ c.thread ∧ c.thread < 16
theorem RInv.new {cs : List Cl} (hcs : ∀ c ∈ cs, ClB c ∧ 0 ≤ c.thread ∧ c.thread < 16) (no : Nat) {words : List Int} (hw : ∀ x ∈ words, Wd x) : RInv cs no (Rs.new words cs.length) 0 :=
  ⟨RBnd.new hw _, fun _ => rfl, ⟨Int.le_refl _, Int.le_refl _⟩, ⟨Int.le_refl _, Int.le_refl _⟩, Nat.le_refl _, fun j e h => (by simp [Rs.new] at h), fun t h => (by cases h), by simp [Rs.new], hcs⟩
structure RMid (cs : List Cl) (no : Nat) (R : Rs) (k t i : Nat) : Prop where
  bnd : RBnd R k
  mrk : ∀ t, R.w.marks t = []
  now : 1 ≤ R.w.now ∧ R.w.now ≤ k + 1
  idle : 0 ≤ R.idle ∧ R.idle ≤ k
  evl : R.evs.length ≤ k + 1
  st : ∀ (j : Nat) (e : Ep), R.evs[j]? = some e → 0 ≤ e.steps ∧ e.steps ≤ k
  op : ∀ s, s ≠ t → (R.hands s).opn = true → ∃ e, R.evs[(R.hands s).event]? = some e ∧ e.call < cs.length ∧ 0 ≤ (callOf cs e.call).obj ∧ (callOf cs e.call).obj < no
  ev : ∃ e, R.evs[(R.hands t).event]? = some e ∧ e.call < cs.length ∧ (e.call = i ∨ (0 ≤ (callOf cs e.call).obj ∧ (callOf cs e.call).obj < no))
  fin : R.fin.length = cs.length
  cb : ∀ c ∈ cs, ClB c ∧ 0 ≤ c.thread ∧ c.thread < 16
  t16 : t < 16
theorem RInv.begin {cs : List Cl} {no : Nat} {R : Rs} {k t i : Nat} (h : RInv cs no R k) (ht : t < 16) (hi : i < cs.length) : RMid cs no (R.tick.begin t i) k t i := by
  refine ⟨h.bnd.tick.begin, fun s => ?_, ⟨?_, ?_⟩, h.idle, ?_, fun j e he => ?_, fun s hs ho => ?_, ?_, h.fin, h.cb, ht⟩
  · show upd R.w.marks t [] s = []
    by_cases e : s = t
    · subst e; rw [upd_same]
    · rw [upd_other e]; exact h.mrk s
  · show 1 ≤ R.w.now + 1
    have := h.now.1; omega
  · show R.w.now + 1 ≤ _
    have := h.now.2; omega
  · show (R.evs ++ [_]).length ≤ _
    have := h.evl
    simp; omega
  · have he : (R.evs ++ [_])[j]? = some e := he
    rcases snoc_get he with ⟨_, he⟩ | ⟨_, rfl⟩
    · exact h.st j e he
    · exact ⟨Int.le_refl _, by show (0 : Int) ≤ k; omega⟩
  · have e1 : (R.tick.begin t i).hands s = R.hands s := upd_other hs
    rw [e1] at ho ⊢
    obtain ⟨e, h1, h2⟩ := h.op s ho
    refine ⟨e, ?_, h2⟩
    show (R.evs ++ [_])[_]? = _
    rw [List.getElem?_append_left (List.getElem?_eq_some_iff.1 h1).1]
    exact h1
  · have e1 : (R.tick.begin t i).hands t = { R.hands t with opn := true, event := R.evs.length, tape := Tp.new (R.w.now + 1) } := upd_same _ _ _
    rw [e1]
    exact ⟨_, snoc_new _ _, hi, Or.inl rfl⟩
theorem RInv.mid {cs : List Cl} {no : Nat} {R : Rs} {k t i : Nat} (h : RInv cs no R k) (ht : t < 16) (ho : (R.hands t).opn = true) : RMid cs no R.tick k t i := by
  obtain ⟨e, h1, h2, h3⟩ := h.op t ho
  refine ⟨h.bnd.tick, h.mrk, ⟨?_, ?_⟩, h.idle, by have := h.evl; exact Nat.le_succ_of_le this, h.st, fun s _ hs => h.op s hs, ⟨e, h1, h2, Or.inr h3⟩, h.fin, h.cb, ht⟩
  · show 1 ≤ R.w.now + 1
    have := h.now.1; omega
  · show R.w.now + 1 ≤ _
    have := h.now.2; omega
theorem RMid.run {D : Dof} (hD : DPl D) {cs : List Cl} {no : Nat} {R : Rs} {k t i : Nat} (_h : RMid cs no R k t i) (c : Cl) : (R.run D no t c).2.marks = R.w.marks ∧ (R.run D no t c).2.now = R.w.now ∧ (R.run D no t c).1.key = [] ∧ ((R.run D no t c).1.halt = true → 0 ≤ c.obj ∧ c.obj < no) := by
  unfold Rs.run
  by_cases ho : 0 ≤ c.obj ∧ c.obj < no
  · rw [if_pos ho]
    obtain ⟨a, b, d⟩ := hD t c { (R.hands t).tape.again with priv := (R.hands t).own c.obj.toNat } R.w
    exact ⟨b, d, a, fun _ => ho⟩
  · rw [if_neg ho]
    exact ⟨rfl, rfl, rfl, fun h => (by cases h)⟩
theorem rmod_get {l : List Ep} {h j : Nat} {f : Ep → Ep} {e : Ep} (he : (l.modify h f)[j]? = some e) : ∃ e0, l[j]? = some e0 ∧ (e = e0 ∨ (j = h ∧ e = f e0)) := by
  rw [List.getElem?_modify] at he
  rcases hl : l[j]? with _ | e0
  · rw [hl] at he; simp at he
  · rw [hl] at he
    refine ⟨e0, rfl, ?_⟩
    by_cases hj : h = j
    · subst hj
      simp at he
      exact Or.inr ⟨rfl, he.symm⟩
    · simp [hj] at he
      exact Or.inl he.symm
theorem rget_mod {l : List Ep} {h j : Nat} {f : Ep → Ep} {e : Ep} (he : l[j]? = some e) (hf : ∀ e, (f e).call = e.call) : ∃ e', (l.modify h f)[j]? = some e' ∧ e'.call = e.call := by
  rw [List.getElem?_modify, he]
  by_cases hj : h = j
  · subst hj
    exact ⟨f e, by simp, hf e⟩
  · exact ⟨e, by simp [hj], rfl⟩
theorem RMid.step {D : Dof} (hD : DPl D) (hS : DSm D) {cs : List Cl} {no : Nat} {R : Rs} {k t i : Nat} (h : RMid cs no R k t i) : RInv cs no (R.step D no t i (callOf cs i)) (k + 1) := by
  obtain ⟨r1, r2, r3, r4⟩ := h.run hD (callOf cs i)
  have hb := h.bnd.step hS (no := no) (t := t) (i := i) (c := callOf cs i) h.t16 (callOf_bd (fun c hc => (h.cb c hc).1) i)
  obtain ⟨e0, g1, g2, g3⟩ := h.ev
  have h1 := h.now
  have h2 := h.idle
  have h3 := h.evl
  by_cases hh : (R.run D no t (callOf cs i)).1.halt = true
  · have hR : R.step D no t i (callOf cs i) = { R with w := (R.run D no t (callOf cs i)).2, hands := upd R.hands t { R.hands t with tape := (R.run D no t (callOf cs i)).1 }, evs := R.evs.modify (R.hands t).event fun e => { e with steps := e.steps + 1 } } := by
      unfold Rs.step
      dsimp only
      rw [if_pos hh]
    rw [hR] at hb ⊢
    refine ⟨hb, fun s => by rw [r1]; exact h.mrk s, by rw [r2]; exact ⟨by omega, by omega⟩, ⟨h2.1, by show R.idle ≤ _; omega⟩, by simpa using h3, fun j e he => ?_, fun s hs => ?_, h.fin, h.cb⟩
    · obtain ⟨e1, q1, q2⟩ := rmod_get he
      have := h.st j e1 q1
      rcases q2 with rfl | ⟨_, rfl⟩
      · exact ⟨this.1, by omega⟩
      · exact ⟨by show 0 ≤ e1.steps + 1; omega, by show e1.steps + 1 ≤ _; omega⟩
    · show ∃ e, (R.evs.modify _ _)[(upd R.hands t _ s).event]? = _ ∧ _
      by_cases e : s = t
      · subst e
        rw [upd_same]
        obtain ⟨e', p1, p2⟩ := rget_mod (h := (R.hands s).event) (f := fun e => { e with steps := e.steps + 1 }) g1 (fun _ => rfl)
        refine ⟨e', p1, by rw [p2]; exact g2, ?_⟩
        rw [p2]
        rcases g3 with g3 | g3
        · rw [g3]; exact r4 hh
        · exact g3
      · have hs : (upd R.hands t _ s).opn = true := hs
        rw [upd_other e] at hs ⊢
        obtain ⟨e1, p0, p1⟩ := h.op s e hs
        obtain ⟨e', p2, p3⟩ := rget_mod (h := (R.hands t).event) (f := fun e => { e with steps := e.steps + 1 }) p0 (fun _ => rfl)
        exact ⟨e', p2, by rw [p3]; exact p1⟩
  · have hR : R.step D no t i (callOf cs i) = { R with w := (R.run D no t (callOf cs i)).2, fin := R.fin.set i true, hands := upd R.hands t { opn := false, event := (R.hands t).event, tape := (R.run D no t (callOf cs i)).1, own := if 0 ≤ (callOf cs i).obj ∧ (callOf cs i).obj < no then upd (R.hands t).own (callOf cs i).obj.toNat (R.run D no t (callOf cs i)).1.priv else (R.hands t).own }, evs := R.evs.modify (R.hands t).event fun e => { e with steps := e.steps + 1, resp := (R.run D no t (callOf cs i)).2.now, ans := ⟨(R.run D no t (callOf cs i)).1.err, (R.run D no t (callOf cs i)).1.val, (R.run D no t (callOf cs i)).1.list⟩, key := keyOf (R.run D no t (callOf cs i)).1.key ((R.run D no t (callOf cs i)).2.marks t) (R.run D no t (callOf cs i)).2.now } } := by
      unfold Rs.step
      dsimp only
      rw [if_neg hh]
    rw [hR] at hb ⊢
    refine ⟨hb, fun s => by rw [r1]; exact h.mrk s, by rw [r2]; exact ⟨by omega, by omega⟩, ⟨h2.1, by show R.idle ≤ _; omega⟩, by simpa using h3, fun j e he => ?_, fun s hs => ?_, by simpa using h.fin, h.cb⟩
    · obtain ⟨e1, q1, q2⟩ := rmod_get he
      have := h.st j e1 q1
      rcases q2 with rfl | ⟨_, rfl⟩
      · exact ⟨this.1, by omega⟩
      · exact ⟨by show 0 ≤ e1.steps + 1; omega, by show e1.steps + 1 ≤ _; omega⟩
    · show ∃ e, (R.evs.modify _ _)[(upd R.hands t _ s).event]? = _ ∧ _
      by_cases e : s = t
      · subst e
        have hs : (upd R.hands s _ s).opn = true := hs
        rw [upd_same] at hs
        cases hs
      · have hs : (upd R.hands t _ s).opn = true := hs
        rw [upd_other e] at hs ⊢
        obtain ⟨e1, p0, p1⟩ := h.op s e hs
        obtain ⟨e', p2, p3⟩ := rget_mod (h := (R.hands t).event) (f := fun e => { e with steps := e.steps + 1, resp := (R.run D no t (callOf cs i)).2.now, ans := ⟨(R.run D no t (callOf cs i)).1.err, (R.run D no t (callOf cs i)).1.val, (R.run D no t (callOf cs i)).1.list⟩, key := keyOf (R.run D no t (callOf cs i)).1.key ((R.run D no t (callOf cs i)).2.marks t) (R.run D no t (callOf cs i)).2.now }) p0 (fun _ => rfl)
        exact ⟨e', p2, by rw [p3]; exact p1⟩
theorem RInv.pick {D : Dof} (hD : DPl D) (hS : DSm D) {cs : List Cl} {no : Nat} {R : Rs} {k : Nat} {p : Int} (h : RInv cs no R k) : RInv cs no (R.pick D no cs p) (k + 1) := by
  unfold Rs.pick
  rcases hq : nowF cs R.fin p with _ | i
  · dsimp only
    have h1 := h.now
    have h2 := h.idle
    exact ⟨⟨Nat.le_succ_of_le h.bnd.log, fun t => Nat.le_succ_of_le (h.bnd.got t), fun t => Nat.le_succ_of_le (h.bnd.tks t), h.bnd.own, ⟨h.bnd.wd.mem, h.bnd.wd.got, h.bnd.wd.own⟩⟩, h.mrk, ⟨h1.1, by show R.w.now ≤ _; omega⟩, ⟨by show 0 ≤ R.idle + 1; omega, by show R.idle + 1 ≤ _; omega⟩, Nat.le_succ_of_le h.evl, fun j e he => ⟨(h.st j e he).1, by have := (h.st j e he).2; omega⟩, h.op, h.fin, h.cb⟩
  · dsimp only
    obtain ⟨hi, hp, _⟩ := nowF_some hq
    have ht : p.toNat < 16 := by
      rcases hc : cs[i]? with _ | c
      · rw [hc] at hp; cases hp
      · rw [hc] at hp
        have := h.cb c (List.mem_of_getElem? hc)
        have hp : c.thread = p := by simpa using hp
        omega
    by_cases ho : (R.hands p.toNat).opn = true
    · rw [if_pos ho]
      exact (h.mid ht ho).step hD hS
    · rw [if_neg ho]
      exact (h.begin ht hi).step hD hS
end Go.Proofs.YtlfingcmekifkaaGreat
