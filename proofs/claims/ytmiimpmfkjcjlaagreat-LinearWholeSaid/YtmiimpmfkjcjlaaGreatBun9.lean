import Derived.Test.YtmiimpmfkjcjlaaGreatBun8
import Derived.Test.YtmiimpmfkjcjlaaGreatBun1
import Derived.Test.YtmiimpmfkjcjlaaGreatProg
import Derived.Maps.AppendAt
namespace Go.Proofs.YtmiimpmfkjcjlaaGreat
section
variable {cf : Int → Int → Int} {d : Nat → Int}
theorem OrdOn.mono {a b a' b' : Nat} (h : OrdOn cf d a b) (h1 : a ≤ a') (h2 : b' ≤ b) : OrdOn cf d a' b' := fun i j hi hij hj => h i j (by omega) hij (by omega)
theorem OrdOn.of_eq {e : Nat → Int} {a b : Nat} (h : OrdOn cf d a b) (he : ∀ k, a ≤ k → k < b → e k = d k) : OrdOn cf e a b := fun i j hi hij hj => by
  rw [he i hi (by omega), he j (by omega) hj]
  exact h i j hi hij hj
structure MPre (cf : Int → Int → Int) (d : Nat → Int) (a m b : Nat) : Prop where
  am : a ≤ m
  mb : m ≤ b
  lo : OrdOn cf d a m
  hi : OrdOn cf d m b
  cr : Cross cf d a m b
def MPost (cf : Int → Int → Int) (d d' : Nat → Int) (a b : Nat) : Prop := SameOn d d' a b ∧ OrdOn cf d' a b
theorem MPre.yes (H : CmpOk cf) {a m b i j : Nat} (h : MPre cf d a m b) (hi : a ≤ i) (him : i < m) (hj : m ≤ j) (hjb : j < b) (hc : cf (d j) (d i) < 0) : Lt cf (d j) (d i) := (Lt.cross H (h.cr i j hi him hj hjb)).1 hc
theorem MPre.no (H : CmpOk cf) {a m b i j : Nat} (h : MPre cf d a m b) (hi : a ≤ i) (him : i < m) (hj : m ≤ j) (hjb : j < b) (hc : ¬ cf (d j) (d i) < 0) : Lt cf (d i) (d j) := (Lt.cross H (h.cr i j hi him hj hjb)).2 hc
theorem lt_down (H : CmpOk cf) {a b i j : Nat} {x : Int} (h : OrdOn cf d a b) (ha : a ≤ i) (hij : i ≤ j) (hj : j < b) (hx : Lt cf (d j) x) : Lt cf (d i) x := by
  by_cases h1 : i = j
  · subst h1; exact hx
  · exact Lt.trans H (h i j ha (by omega) hj) hx
theorem lt_up (H : CmpOk cf) {a b i j : Nat} {x : Int} (h : OrdOn cf d a b) (ha : a ≤ i) (hij : i ≤ j) (hj : j < b) (hx : Lt cf x (d i)) : Lt cf x (d j) := by
  by_cases h1 : i = j
  · subst h1; exact hx
  · exact Lt.trans H hx (h i j ha (by omega) hj)
theorem ins_first (H : CmpOk cf) {a b i : Nat} (h : MPre cf d a (a + 1) b) (hi : a + 1 ≤ i) (hib : i ≤ b) (h1 : i = a + 1 ∨ cf (d (i - 1)) (d a) < 0) (h2 : i = b ∨ ¬ cf (d i) (d a) < 0) : MPost cf d (rot d a (a + 1) i) a b := by
  have hlo : ∀ r, a + 1 ≤ r → r < i → Lt cf (d r) (d a) := fun r hr hri => by
    rcases h1 with h1 | h1
    · omega
    · exact lt_down H h.hi hr (by omega : r ≤ i - 1) (by omega) (h.yes H (Nat.le_refl _) (by omega) (by omega) (by omega) h1)
  have hhi : ∀ r, i ≤ r → r < b → Lt cf (d a) (d r) := fun r hr hrb => by
    rcases h2 with h2 | h2
    · omega
    · exact lt_up H h.hi (by omega) hr hrb (h.no H (Nat.le_refl _) (by omega) hi (by omega) h2)
  have hv : ∀ p, a ≤ p → (p + 1 < i ∧ rot d a (a + 1) i p = d (p + 1)) ∨ (p + 1 = i ∧ rot d a (a + 1) i p = d a) ∨ (i ≤ p ∧ rot d a (a + 1) i p = d p) := fun p hp => by
    by_cases g1 : p + 1 < i
    · exact Or.inl ⟨g1, (rot_fst hp (by omega)).trans (by congr 1; omega)⟩
    · by_cases g2 : p + 1 = i
      · exact Or.inr (Or.inl ⟨g2, (rot_snd (by omega) (by omega) (by omega)).trans (by congr 1; omega)⟩)
      · exact Or.inr (Or.inr ⟨by omega, rot_hi (by omega) (by omega)⟩)
  refine ⟨(rot_same (by omega) hi).wide (Nat.le_refl _) hib (by omega), fun p q hp hpq hq => ?_⟩
  rcases hv p hp with ⟨g1, e1⟩ | ⟨g1, e1⟩ | ⟨g1, e1⟩ <;> rcases hv q (by omega) with ⟨g2, e2⟩ | ⟨g2, e2⟩ | ⟨g2, e2⟩ <;> rw [e1, e2]
  · exact h.hi _ _ (by omega) (by omega) (by omega)
  · exact hlo _ (by omega) g1
  · exact h.hi _ _ (by omega) (by omega) hq
  · omega
  · omega
  · exact hhi _ g2 hq
  · omega
  · omega
  · exact h.hi _ _ (by omega) hpq hq
theorem ins_done (H : CmpOk cf) {a i j : Nat} (h : OrdOn cf d a i) (haj : a ≤ j) (hji : j ≤ i) (h1 : ∀ k, j ≤ k → k < i → Lt cf (d i) (d k)) (h2 : j = a ∨ Lt cf (d (j - 1)) (d i)) : MPost cf d (rot d j i (i + 1)) a (i + 1) := by
  have hlo : ∀ r, a ≤ r → r < j → Lt cf (d r) (d i) := fun r hr hrj => by
    rcases h2 with h2 | h2
    · omega
    · exact lt_down H h hr (by omega : r ≤ j - 1) (by omega) h2
  have hv : ∀ p, a ≤ p → p < i + 1 → (p < j ∧ rot d j i (i + 1) p = d p) ∨ (p = j ∧ rot d j i (i + 1) p = d i) ∨ (j < p ∧ rot d j i (i + 1) p = d (p - 1)) := fun p hp hpi => by
    by_cases g1 : p < j
    · exact Or.inl ⟨g1, rot_lo g1⟩
    · by_cases g2 : p = j
      · exact Or.inr (Or.inl ⟨g2, (rot_fst (by omega) (by omega)).trans (by congr 1; omega)⟩)
      · exact Or.inr (Or.inr ⟨by omega, (rot_snd (by omega) (by omega) hpi).trans (by congr 1; omega)⟩)
  refine ⟨(rot_same hji (by omega)).wide haj (Nat.le_refl _) (by omega), fun p q hp hpq hq => ?_⟩
  rcases hv p hp (by omega) with ⟨g1, e1⟩ | ⟨g1, e1⟩ | ⟨g1, e1⟩ <;> rcases hv q (by omega) hq with ⟨g2, e2⟩ | ⟨g2, e2⟩ | ⟨g2, e2⟩ <;> rw [e1, e2]
  · exact h _ _ hp hpq (by omega)
  · exact hlo _ hp g1
  · exact h _ _ hp (by omega) (by omega)
  · omega
  · omega
  · exact h1 _ (by omega) (by omega)
  · omega
  · omega
  · exact h _ _ (by omega) (by omega) (by omega)
theorem ins_last (H : CmpOk cf) {a m i : Nat} (h : MPre cf d a m (m + 1)) (hai : a ≤ i) (him : i ≤ m) (h1 : i = a ∨ ¬ cf (d m) (d (i - 1)) < 0) (h2 : i = m ∨ cf (d m) (d i) < 0) : MPost cf d (rot d i m (m + 1)) a (m + 1) := by
  refine ins_done H h.lo hai him (fun k hk hkm => ?_) ?_
  · rcases h2 with h2 | h2
    · omega
    · exact lt_up H h.lo hai hk hkm (h.yes H hai (by omega) (Nat.le_refl _) (by omega) h2)
  · rcases h1 with h1 | h1
    · exact Or.inl h1
    · by_cases h0 : i = a
      · exact Or.inl h0
      · exact Or.inr (h.no H (by omega) (by omega) (Nat.le_refl _) (by omega) h1)
theorem sym_cut (H : CmpOk cf) {a m b s z mid : Nat} (h : MPre cf d a m b) (h1 : a ≤ s) (h2 : s ≤ m) (h3 : m ≤ z) (h4 : z ≤ b) (h5 : s + (z - m) = mid) (b1 : s = a ∨ z = b ∨ ¬ cf (d z) (d (s - 1)) < 0) (b2 : s = m ∨ z = m ∨ cf (d (z - 1)) (d s) < 0) :
    MPre cf (rot d s m z) a s mid ∧ MPre cf (rot d s m z) mid z b ∧ (∀ i j, a ≤ i → i < mid → mid ≤ j → j < b → Lt cf (rot d s m z i) (rot d s m z j)) ∧ SameOn d (rot d s m z) a b := by
  have v1 : ∀ k, k < s → rot d s m z k = d k := fun k hk => rot_lo hk
  have v2 : ∀ k, s ≤ k → k < mid → rot d s m z k = d (k + (m - s)) := fun k hk hk2 => rot_fst hk (by omega)
  have v3 : ∀ k, mid ≤ k → k < z → rot d s m z k = d (k - (z - m)) := fun k hk hk2 => rot_snd h2 (by omega) hk2
  have v4 : ∀ k, z ≤ k → rot d s m z k = d k := fun k hk => rot_hi ⟨h2, h3⟩ hk
  have LR : ∀ i j, a ≤ i → i < s → z ≤ j → j < b → Lt cf (d i) (d j) := fun i j hi his hj hjb => by
    rcases b1 with b1 | b1 | b1
    · omega
    · omega
    · exact lt_down H h.lo hi (by omega : i ≤ s - 1) (by omega) (lt_up H h.hi h3 hj hjb (h.no H (by omega) (by omega) h3 (by omega) b1))
  have RL : ∀ i j, m ≤ i → i < z → s ≤ j → j < m → Lt cf (d i) (d j) := fun i j hi hiz hj hjm => by
    rcases b2 with b2 | b2 | b2
    · omega
    · omega
    · exact lt_down H h.hi hi (by omega : i ≤ z - 1) (by omega) (lt_up H h.lo h1 hj hjm (h.yes H h1 (by omega) (by omega) (by omega) b2))
  refine ⟨⟨h1, by omega, ?_, ?_, ?_⟩, ⟨by omega, h4, ?_, ?_, ?_⟩, ?_, (rot_same h2 h3).wide h1 h4 (by omega)⟩
  · intro i j hi hij hj
    rw [v1 i (by omega), v1 j hj]
    exact h.lo i j hi hij (by omega)
  · intro i j hi hij hj
    rw [v2 i hi (by omega), v2 j (by omega) hj]
    exact h.hi _ _ (by omega) (by omega) (by omega)
  · intro i j hi him hj hjb
    rw [v1 i him, v2 j hj hjb]
    exact h.cr _ _ hi (by omega) (by omega) (by omega)
  · intro i j hi hij hj
    rw [v3 i hi (by omega), v3 j (by omega) hj]
    exact h.lo _ _ (by omega) (by omega) (by omega)
  · intro i j hi hij hj
    rw [v4 i hi, v4 j (by omega)]
    exact h.hi _ _ (by omega) hij hj
  · intro i j hi him hj hjb
    rw [v3 i hi him, v4 j hj]
    exact h.cr _ _ (by omega) (by omega) (by omega) hjb
  · intro i j hi him hj hjb
    by_cases c1 : i < s <;> by_cases c2 : j < z
    · rw [v1 i c1, v3 j hj c2]
      exact h.lo _ _ hi (by omega) (by omega)
    · rw [v1 i c1, v4 j (by omega)]
      exact LR i j hi c1 (by omega) hjb
    · rw [v2 i (by omega) him, v3 j hj c2]
      exact RL _ _ (by omega) (by omega) (by omega) (by omega)
    · rw [v2 i (by omega) him, v4 j (by omega)]
      exact h.hi _ _ (by omega) (by omega) hjb
theorem MPre.triv {a m b : Nat} (h : MPre cf d a m b) (hm : m ≤ a ∨ b ≤ m) : OrdOn cf d a b := by
  have h1 := h.am
  have h2 := h.mb
  rcases hm with hm | hm
  · have : m = a := by omega
    subst this
    exact h.hi
  · have : m = b := by omega
    subst this
    exact h.lo
theorem MPre.of_eq {e : Nat → Int} {a m b : Nat} (h : MPre cf d a m b) (he : ∀ k, a ≤ k → k < b → e k = d k) : MPre cf e a m b :=
  ⟨h.am, h.mb, h.lo.of_eq fun k h1 h2 => he k h1 (by have := h.mb; omega), h.hi.of_eq fun k h1 h2 => he k (by have := h.am; omega) h2, fun i j h1 h2 h3 h4 => by
    rw [he i h1 (by have := h.mb; omega), he j (by have := h.am; omega) h4]
    exact h.cr i j h1 h2 h3 h4⟩
theorem sym_join {e f : Nat → Int} {a mid b : Nat} (ham : a ≤ mid) (hmb : mid ≤ b) (h : ∀ i j, a ≤ i → i < mid → mid ≤ j → j < b → Lt cf (d i) (d j)) (h1 : MPost cf d e a mid) (h2 : MPost cf e f mid b) : MPost cf d f a b := by
  refine ⟨(h1.1.wide (Nat.le_refl _) hmb ham).trans (h2.1.wide ham (Nat.le_refl _) hmb), fun i j hi hij hj => ?_⟩
  by_cases c1 : i < mid
  · have e1 : f i = e i := h2.1.1 i (Or.inl c1)
    by_cases c2 : j < mid
    · rw [e1, h2.1.1 j (Or.inl c2)]
      exact h1.2 i j hi hij c2
    · obtain ⟨i', g1, g2, g3⟩ := h1.1.has hi c1
      obtain ⟨j', k1, k2, k3⟩ := h2.1.has (by omega : mid ≤ j) hj
      rw [e1, g3, k3, h1.1.1 j' (Or.inr k1)]
      exact h i' j' g1 g2 k1 k2
  · exact h2.2 i j (by omega) hij hj
theorem MPost.triv {a b : Nat} (h : OrdOn cf d a b) : MPost cf d d a b := ⟨SameOn.refl _ _ _, h⟩
end
def InBlk (d : Nat → Int) (n s : Nat) : Prop := ∀ q k, k < n → (k < q * s ↔ d k < ((q * s : Nat) : Int))
theorem InBlk.double {d : Nat → Int} {n s : Nat} (h : InBlk d n s) : InBlk d n (2 * s) := fun q k hk => by
  have := h (q * 2) k hk
  rwa [Nat.mul_assoc] at this
theorem InBlk.same {d e : Nat → Int} {n s a b : Nat} (h : InBlk d n s) (hs : SameOn d e a b) (hb : b ≤ n) (hq : ∀ q, q * s ≤ a ∨ b ≤ q * s) : InBlk e n s := fun q k hk => by
  by_cases hk2 : k < a ∨ b ≤ k
  · rw [hs.1 k hk2]
    exact h q k hk
  · obtain ⟨k', g1, g2, g3⟩ := hs.has (by omega : a ≤ k) (by omega)
    have h1 := h q k' (by omega)
    have h2 := hq q
    rw [g3, ← h1]
    omega
theorem InBlk.id {d : Nat → Int} {n : Nat} (s : Nat) (h : ∀ k, k < n → d k = (k : Int)) : InBlk d n s := fun q k hk => by
  rw [h k hk]
  omega
theorem blk_sides (s Q q : Nat) {b : Nat} (hb : b ≤ Q * s + s) : q * s ≤ Q * s ∨ b ≤ q * s := by
  by_cases h : q ≤ Q
  · exact Or.inl (Nat.mul_le_mul_right s h)
  · right
    have := Nat.mul_le_mul_right s (show Q + 1 ≤ q by omega)
    rw [Nat.add_mul, Nat.one_mul] at this
    omega
section
variable {cf : Int → Int → Int}
structure Pass (cf : Int → Int → Int) (z e d : Nat → Int) (n s Q : Nat) : Prop where
  old : ∀ k, Q * s ≤ k → d k = e k
  ord : ∀ q, q < Q → OrdOn cf d (q * s) (q * s + s)
  blk : InBlk d n s
  same : SameOn z d 0 n
theorem Pass.step {z e d f : Nat → Int} {n s Q : Nat} (h : Pass cf z e d n s Q) (hb : Q * s + s ≤ n) (hp : MPost cf d f (Q * s) (Q * s + s)) : Pass cf z e f n s (Q + 1) := by
  have hm : (Q + 1) * s = Q * s + s := by rw [Nat.add_mul, Nat.one_mul]
  refine ⟨fun k hk => ?_, fun q hq => ?_, h.blk.same hp.1 hb (fun q => blk_sides s Q q (Nat.le_refl _)), h.same.trans (hp.1.wide (Nat.zero_le _) hb (by omega))⟩
  · rw [hp.1.1 k (by omega)]
    exact h.old k (by omega)
  · by_cases hqQ : q = Q
    · subst hqQ
      exact hp.2
    · have hle := Nat.mul_le_mul_right s (show q + 1 ≤ Q by omega)
      rw [Nat.add_mul, Nat.one_mul] at hle
      exact (h.ord q (by omega)).of_eq fun k h1 h2 => hp.1.1 k (by omega)
structure Blks (cf : Int → Int → Int) (z d : Nat → Int) (n s : Nat) : Prop where
  ord : ∀ q, OrdOn cf d (q * s) (min (q * s + s) n)
  blk : InBlk d n s
  same : SameOn z d 0 n
theorem Pass.fin {z e d f : Nat → Int} {n s Q : Nat} (h : Pass cf z e d n s Q) (hb : n < Q * s + s) (hQ : Q * s ≤ n) (hp : MPost cf d f (Q * s) n) : Blks cf z f n s := by
  refine ⟨fun q => ?_, h.blk.same hp.1 (Nat.le_refl _) (fun q => blk_sides s Q q (by omega)), h.same.trans (hp.1.wide (Nat.zero_le _) (Nat.le_refl _) hQ)⟩
  by_cases h1 : q < Q
  · have hle := Nat.mul_le_mul_right s (show q + 1 ≤ Q by omega)
    rw [Nat.add_mul, Nat.one_mul] at hle
    exact ((h.ord q h1).of_eq fun k h1 h2 => hp.1.1 k (by omega)).mono (Nat.le_refl _) (by omega)
  · by_cases h2 : q = Q
    · subst h2
      exact hp.2.mono (Nat.le_refl _) (by omega)
    · have hle := Nat.mul_le_mul_right s (show Q + 1 ≤ q by omega)
      rw [Nat.add_mul, Nat.one_mul] at hle
      exact fun i j hi hij hj => by omega
theorem Pass.start {z d : Nat → Int} {n s : Nat} (h : InBlk d n s) (hs : SameOn z d 0 n) : Pass cf z d d n s 0 := ⟨fun _ _ => rfl, fun q hq => by omega, h, hs⟩
theorem Pass.pre {z e d : Nat → Int} {n s Q b : Nat} (h : Pass cf z e d n (2 * s) Q) (he : Blks cf z e n s) (h1 : Q * (2 * s) + s ≤ b) (h2 : b ≤ n) (h3 : b ≤ Q * (2 * s) + 2 * s) : MPre cf d (Q * (2 * s)) (Q * (2 * s) + s) b := by
  have e1 : (2 * Q) * s = Q * (2 * s) := by rw [Nat.mul_comm 2 Q, Nat.mul_assoc]
  have e2 : (2 * Q + 1) * s = Q * (2 * s) + s := by rw [Nat.add_mul, Nat.one_mul, e1]
  have o1 := he.ord (2 * Q)
  have o2 := he.ord (2 * Q + 1)
  rw [e1] at o1
  rw [e2] at o2
  have hc := he.blk (2 * Q + 1)
  rw [e2] at hc
  refine ⟨by omega, h1, ?_, ?_, ?_⟩
  · exact (o1.mono (Nat.le_refl _) (by omega)).of_eq fun k g1 g2 => h.old k g1
  · exact (o2.mono (Nat.le_refl _) (by omega)).of_eq fun k g1 g2 => h.old k (by omega)
  · intro i j g1 g2 g3 g4 _
    rw [h.old i g1, h.old j (by omega)]
    have k1 := (hc i (by omega)).1 g2
    have k2 := hc j (by omega)
    omega
theorem Pass.rest {z e d : Nat → Int} {n s Q : Nat} (h : Pass cf z e d n (2 * s) Q) (he : Blks cf z e n s) (h1 : n ≤ Q * (2 * s) + s) : MPost cf d d (Q * (2 * s)) n := by
  have e1 : (2 * Q) * s = Q * (2 * s) := by rw [Nat.mul_comm 2 Q, Nat.mul_assoc]
  have o1 := he.ord (2 * Q)
  rw [e1] at o1
  exact MPost.triv ((o1.mono (Nat.le_refl _) (by omega)).of_eq fun k g1 g2 => h.old k g1)
theorem Blks.whole {z d : Nat → Int} {n s : Nat} (h : Blks cf z d n s) (hs : n ≤ s) : OrdOn cf d 0 n := by
  have := h.ord 0
  rw [Nat.zero_mul] at this
  exact this.mono (Nat.le_refl _) (by omega)
end
end Go.Proofs.YtmiimpmfkjcjlaaGreat

namespace Go.Proofs.YtmiimpmfkjcjlaaGreat
def aheadE (a b : Ev) : Bool := decide (a.resp ≠ 0) && decide (a.resp < b.inv)
def aheadB (es : List Ev) (i k : Int) : Bool :=
  decide (0 ≤ i ∧ 0 ≤ k ∧ i < es.length ∧ k < es.length) && (match es[i.toNat]?, es[k.toNat]? with | some a, some b => aheadE a b | _, _ => false)
def mayB (e : Ev) (ticks : Int) : Bool :=
  decide (1 ≤ e.inv ∧ e.inv ≤ ticks ∧ 1 ≤ e.steps) && (decide (e.resp = 0) || decide (e.inv ≤ e.resp ∧ e.resp ≤ ticks ∧ e.steps - 1 ≤ e.resp - e.inv))
def evCall (cs : List Cl) (e : Ev) : Option Cl := if 0 ≤ e.call ∧ e.call < cs.length then cs[e.call.toNat]? else none
theorem evCall_some {cs : List Cl} {e : Ev} (h : 0 ≤ e.call ∧ e.call < cs.length) : ∃ c, cs[e.call.toNat]? = some c ∧ evCall cs e = some c := by
  have hl : e.call.toNat < cs.length := by omega
  exact ⟨cs[e.call.toNat], List.getElem?_eq_getElem hl, by unfold evCall; rw [if_pos h, List.getElem?_eq_getElem hl]⟩
theorem evCall_none {cs : List Cl} {e : Ev} (h : ¬ (0 ≤ e.call ∧ e.call < cs.length)) : evCall cs e = none := by unfold evCall; rw [if_neg h]
def lastIx (cs : List Cl) (es : List Ev) : Nat → Int → Option Nat
  | 0, _ => none
  | k + 1, t => if ((es[k]?).bind (evCall cs)).map (·.thread) = some t then some k else lastIx cs es k t
def invAt (es : List Ev) : Nat → Int
  | 0 => 0
  | k + 1 => ((es[k]?).map (·.inv)).getD 0
def behindB (es : List Ev) (j k : Nat) : Bool :=
  aheadB es j k && (match es[j]?, es[k]? with | some d, some e => decide (d.call < e.call) | _, _ => false)
def lastB (cs : List Cl) (es : List Ev) (k : Nat) (t : Int) : Bool :=
  match lastIx cs es k t with
  | none => true
  | some j => behindB es j k
def okB (n : Int) (cs : List Cl) (es : List Ev) (ticks : Int) (k : Nat) : Bool :=
  match es[k]? with
  | none => false
  | some e => match evCall cs e with
    | none => false
    | some c => decide (0 ≤ c.thread ∧ c.thread < n) && mayB e ticks && decide (invAt es k < e.inv) && lastB cs es k c.thread
theorem okB_eq {n : Int} {cs : List Cl} {es : List Ev} {ticks : Int} {k : Nat} {e : Ev} {c : Cl} (he : es[k]? = some e) (hc : evCall cs e = some c) :
    okB n cs es ticks k = (decide (0 ≤ c.thread ∧ c.thread < n) && mayB e ticks && decide (invAt es k < e.inv) && lastB cs es k c.thread) := by
  unfold okB; rw [he]; simp only [hc]
theorem okB_none {n : Int} {cs : List Cl} {es : List Ev} {ticks : Int} {k : Nat} {e : Ev} (he : es[k]? = some e) (hc : evCall cs e = none) : okB n cs es ticks k = false := by
  unfold okB; rw [he]; simp only [hc]
def fstB (n : Int) (cs : List Cl) (es : List Ev) (ticks : Int) (k : Nat) : Bool :=
  match es[k]? with
  | none => false
  | some e => match evCall cs e with
    | none => false
    | some c => decide (0 ≤ c.thread ∧ c.thread < n) && mayB e ticks && decide (invAt es k < e.inv)
theorem fstB_eq {n : Int} {cs : List Cl} {es : List Ev} {ticks : Int} {k : Nat} {e : Ev} {c : Cl} (he : es[k]? = some e) (hc : evCall cs e = some c) :
    fstB n cs es ticks k = (decide (0 ≤ c.thread ∧ c.thread < n) && mayB e ticks && decide (invAt es k < e.inv)) := by unfold fstB; rw [he]; simp only [hc]
theorem fstB_none {n : Int} {cs : List Cl} {es : List Ev} {ticks : Int} {k : Nat} {e : Ev} (he : es[k]? = some e) (hc : evCall cs e = none) : fstB n cs es ticks k = false := by
  unfold fstB; rw [he]; simp only [hc]
theorem fstB_true {n : Int} {cs : List Cl} {es : List Ev} {ticks : Int} {k : Nat} (h : fstB n cs es ticks k = true) :
    ∃ e c, es[k]? = some e ∧ evCall cs e = some c ∧ (0 ≤ c.thread ∧ c.thread < n) ∧ mayB e ticks = true ∧ invAt es k < e.inv := by
  unfold fstB at h
  split at h
  · cases h
  · rename_i e he
    split at h
    · cases h
    · rename_i c hc
      simp only [Bool.and_eq_true, decide_eq_true_eq] at h
      exact ⟨e, c, he, hc, h.1.1, h.1.2, h.2⟩
theorem fstAll_succ {n : Int} {cs : List Cl} {es : List Ev} {ticks : Int} {k : Nat} (h : ∀ j, j < k → fstB n cs es ticks j = true) (hk : fstB n cs es ticks k = true) : ∀ j, j < k + 1 → fstB n cs es ticks j = true := by
  intro j hj
  by_cases h' : j = k
  · subst h'; exact hk
  · exact h j (by omega)
def sndB (cs : List Cl) (es : List Ev) (k i : Nat) : Bool :=
  match es[k]?, es[i]? with
  | some d, some e => !decide ((evCall cs d).map (·.thread) = (evCall cs e).map (·.thread)) || (aheadE d e && decide (d.call < e.call))
  | _, _ => false
theorem sndB_eq {cs : List Cl} {es : List Ev} {k i : Nat} {d e : Ev} (hd : es[k]? = some d) (he : es[i]? = some e) :
    sndB cs es k i = (!decide ((evCall cs d).map (·.thread) = (evCall cs e).map (·.thread)) || (aheadE d e && decide (d.call < e.call))) := by unfold sndB; rw [hd, he]
theorem sndAll_succ {cs : List Cl} {es : List Ev} {i : Nat} (h : ∀ a, a < i → ∀ j, j < a → sndB cs es j a = true) (hk : ∀ j, j < i → sndB cs es j i = true) : ∀ a, a < i + 1 → ∀ j, j < a → sndB cs es j a = true := by
  intro a ha
  by_cases h' : a = i
  · subst h'; exact hk
  · exact h a (by omega)
theorem sndTo_succ {cs : List Cl} {es : List Ev} {i j : Nat} (h : ∀ a, a < j → sndB cs es a i = true) (hk : sndB cs es j i = true) : ∀ a, a < j + 1 → sndB cs es a i = true := by
  intro a ha
  by_cases h' : a = j
  · subst h'; exact hk
  · exact h a (by omega)
theorem evCall_bounds {cs : List Cl} {e : Ev} {c : Cl} (h : evCall cs e = some c) : 0 ≤ e.call ∧ e.call < cs.length ∧ cs[e.call.toNat]? = some c := by
  unfold evCall at h
  split at h
  · rename_i hc; exact ⟨hc.1, hc.2, h⟩
  · cases h
def refB (n : Int) (cs : List Cl) (es : List Ev) (ticks : Int) : Bool :=
  (List.range es.length).all (fstB n cs es ticks) && (List.range es.length).all fun i => (List.range i).all fun k => sndB cs es k i
theorem refB_false1 {n : Int} {cs : List Cl} {es : List Ev} {ticks : Int} {k : Nat} (hk : k < es.length) (h : fstB n cs es ticks k = false) : refB n cs es ticks = false := by
  unfold refB
  have : (List.range es.length).all (fstB n cs es ticks) = false := by rw [List.all_eq_false]; exact ⟨k, by simpa using hk, by simp [h]⟩
  rw [this]; rfl
theorem refB_false2 {n : Int} {cs : List Cl} {es : List Ev} {ticks : Int} {k i : Nat} (hi : i < es.length) (hk : k < i) (h : sndB cs es k i = false) : refB n cs es ticks = false := by
  unfold refB
  have : (List.range es.length).all (fun i => (List.range i).all fun k => sndB cs es k i) = false := by
    rw [List.all_eq_false]
    refine ⟨i, by simpa using hi, ?_⟩
    simp only [Bool.not_eq_true]
    rw [List.all_eq_false]
    exact ⟨k, by simpa using hk, by simp [h]⟩
  rw [this, Bool.and_false]
theorem refB_true {n : Int} {cs : List Cl} {es : List Ev} {ticks : Int} (h1 : ∀ k, k < es.length → fstB n cs es ticks k = true) (h2 : ∀ i, i < es.length → ∀ k, k < i → sndB cs es k i = true) : refB n cs es ticks = true := by
  unfold refB
  rw [Bool.and_eq_true, List.all_eq_true, List.all_eq_true]
  refine ⟨fun k hk => h1 k (by simpa using hk), fun i hi => ?_⟩
  rw [List.all_eq_true]
  exact fun k hk => h2 i (by simpa using hi) k (by simpa using hk)
def rightB (n : Int) (cs : List Cl) (es : List Ev) (ticks : Int) : Bool := (List.range es.length).all (okB n cs es ticks)
theorem lastIx_succ {cs : List Cl} {es : List Ev} {k : Nat} {e : Ev} {c : Cl} (he : es[k]? = some e) (hc : evCall cs e = some c) (t : Int) :
    lastIx cs es (k + 1) t = if t = c.thread then some k else lastIx cs es k t := by
  rw [lastIx, he]
  simp only [Option.bind_some, hc, Option.map_some, Option.some.injEq]
  by_cases h : c.thread = t
  · rw [if_pos h, if_pos h.symm]
  · rw [if_neg h, if_neg (fun e => h e.symm)]
theorem invAt_succ {es : List Ev} {k : Nat} {e : Ev} (he : es[k]? = some e) : invAt es (k + 1) = e.inv := by simp [invAt, he]
theorem invAt_pos {es : List Ev} {k : Nat} {e : Ev} (hk : 0 < k) (he : es[k - 1]? = some e) : invAt es k = e.inv := by
  obtain ⟨k, rfl⟩ : ∃ j, k = j + 1 := ⟨k - 1, by omega⟩
  exact invAt_succ (by simpa using he)
theorem rightB_false {n : Int} {cs : List Cl} {es : List Ev} {ticks : Int} {k : Nat} (hk : k < es.length) (h : okB n cs es ticks k = false) : rightB n cs es ticks = false := by
  unfold rightB
  rw [List.all_eq_false]
  exact ⟨k, by simpa using hk, by simp [h]⟩
theorem rightB_true {n : Int} {cs : List Cl} {es : List Ev} {ticks : Int} (h : ∀ k, k < es.length → okB n cs es ticks k = true) : rightB n cs es ticks = true := by
  unfold rightB
  rw [List.all_eq_true]
  exact fun k hk => h k (by simpa using hk)
theorem okAll_succ {n : Int} {cs : List Cl} {es : List Ev} {ticks : Int} {k : Nat} (h : ∀ j, j < k → okB n cs es ticks j = true) (hk : okB n cs es ticks k = true) : ∀ j, j < k + 1 → okB n cs es ticks j = true := by
  intro j hj
  by_cases h' : j = k
  · subst h'; exact hk
  · exact h j (by omega)
theorem lastIx_lt {cs : List Cl} {es : List Ev} {t : Int} : ∀ {k j : Nat}, lastIx cs es k t = some j → j < k
  | 0, j, h => by simp [lastIx] at h
  | k + 1, j, h => by
    unfold lastIx at h
    split at h
    · simp only [Option.some.injEq] at h; omega
    · have := lastIx_lt h; omega
theorem lastIx_some {cs : List Cl} {es : List Ev} {t : Int} : ∀ {k j : Nat}, lastIx cs es k t = some j → ∃ e c, es[j]? = some e ∧ evCall cs e = some c ∧ c.thread = t
  | 0, j, h => by simp [lastIx] at h
  | k + 1, j, h => by
    unfold lastIx at h
    split at h
    · rename_i hc
      simp only [Option.some.injEq] at h
      subst h
      rcases he : es[k]? with _ | e
      · rw [he] at hc; simp at hc
      · rw [he] at hc
        simp only [Option.bind_some] at hc
        rcases hcc : evCall cs e with _ | c
        · rw [hcc] at hc; simp at hc
        · rw [hcc] at hc; simp at hc; exact ⟨e, c, rfl, hcc, hc⟩
    · exact lastIx_some h
theorem lastIx_ge {cs : List Cl} {es : List Ev} {t : Int} : ∀ {k i : Nat} {e : Ev} {c : Cl}, i < k → es[i]? = some e → evCall cs e = some c → c.thread = t → ∃ j, lastIx cs es k t = some j ∧ i ≤ j
  | 0, i, _, _, h, _, _, _ => by omega
  | k + 1, i, e, c, h, he, hc, ht => by
    unfold lastIx
    split
    · exact ⟨k, rfl, by omega⟩
    · rename_i hn
      by_cases hik : i = k
      · subst hik; rw [he] at hn; simp [hc, ht] at hn
      · obtain ⟨j, hj, hij⟩ := lastIx_ge (k := k) (by omega) he hc ht
        exact ⟨j, hj, hij⟩
theorem aheadB_nat {es : List Ev} {j k : Nat} {d e : Ev} (hd : es[j]? = some d) (he : es[k]? = some e) : aheadB es j k = aheadE d e := by
  have h1 := (List.getElem?_eq_some_iff.1 hd).1
  have h2 := (List.getElem?_eq_some_iff.1 he).1
  unfold aheadB
  rw [decide_eq_true (by omega)]
  simp [hd, he]
theorem aheadE_iff {a b : Ev} : aheadE a b = true ↔ a.resp ≠ 0 ∧ a.resp < b.inv := by unfold aheadE; simp
theorem aheadE_trans {t : Int} {a b c : Ev} (h1 : aheadE a b = true) (h2 : aheadE b c = true) (hb : mayB b t = true) : aheadE a c = true := by
  rw [aheadE_iff] at *
  unfold mayB at hb
  simp only [Bool.and_eq_true, Bool.or_eq_true, decide_eq_true_eq] at hb
  refine ⟨h1.1, ?_⟩
  rcases hb.2 with h | h
  · exact absurd h h2.1
  · omega
theorem right_ref (n : Int) (cs : List Cl) (es : List Ev) (ticks : Int) : rightB n cs es ticks = refB n cs es ticks := by
  by_cases h : ∀ k, k < es.length → okB n cs es ticks k = true
  · rw [rightB_true h]
    symm
    have hf : ∀ k, k < es.length → fstB n cs es ticks k = true ∧ ∀ e c, es[k]? = some e → evCall cs e = some c → lastB cs es k c.thread = true := by
      intro k hk
      have hk' := h k hk
      obtain ⟨e, he⟩ : ∃ e, es[k]? = some e := ⟨_, List.getElem?_eq_getElem hk⟩
      rcases hc : evCall cs e with _ | c
      · rw [okB_none he hc] at hk'; cases hk'
      · rw [okB_eq he hc, Bool.and_eq_true] at hk'
        refine ⟨by rw [fstB_eq he hc]; exact hk'.1, fun e' c' he' hc' => ?_⟩
        rw [he] at he'; cases he'
        rw [hc] at hc'; cases hc'
        exact hk'.2
    refine refB_true (fun k hk => (hf k hk).1) ?_
    have main : ∀ m i, i ≤ m → i < es.length → ∀ k, k < i → sndB cs es k i = true := by
      intro m
      induction m with
      | zero => intro i h1 _ k hk; omega
      | succ m ih =>
        intro i him hi k hk
        obtain ⟨e, c, he, hc, _, hme, _⟩ := fstB_true (hf i hi).1
        obtain ⟨d, c', hd, hc', _, hmd, _⟩ := fstB_true (hf k (by omega)).1
        rw [sndB_eq hd he, hc, hc']
        by_cases ht : c'.thread = c.thread
        · simp only [Option.map_some, ht, decide_true, Bool.not_true, Bool.false_or, Bool.and_eq_true, decide_eq_true_eq]
          obtain ⟨j, hj, hkj⟩ := lastIx_ge (k := i) hk hd hc' ht
          obtain ⟨f, cf, hfj, hcf, htf⟩ := lastIx_some hj
          have hji := lastIx_lt hj
          have hb := (hf i hi).2 e c he hc
          unfold lastB at hb
          rw [hj] at hb
          simp only at hb
          unfold behindB at hb
          rw [hfj, he] at hb
          simp only [Bool.and_eq_true, decide_eq_true_eq] at hb
          rw [aheadB_nat hfj he] at hb
          by_cases hkj' : k = j
          · subst hkj'
            rw [hd] at hfj; cases hfj
            exact hb
          · have := ih j (by omega) (by omega) k (by omega)
            rw [sndB_eq hd hfj, hcf, hc'] at this
            simp only [Option.map_some, ht, htf, decide_true, Bool.not_true, Bool.false_or, Bool.and_eq_true, decide_eq_true_eq] at this
            obtain ⟨_, _, hfj', _, _, hmf, _⟩ := fstB_true (hf j (by omega)).1
            rw [hfj] at hfj'; cases hfj'
            exact ⟨aheadE_trans this.1 hb.1 hmf, by omega⟩
        · simp [ht]
    exact fun i hi => main i i (Nat.le_refl _) hi
  · have h' : ∃ k, k < es.length ∧ okB n cs es ticks k = false := by
      refine Classical.byContradiction fun hn => h fun k hk => ?_
      rcases ho : okB n cs es ticks k with _ | _
      · exact absurd ⟨k, hk, ho⟩ hn
      · rfl
    obtain ⟨k, hk, hf⟩ := h'
    rw [rightB_false hk hf]
    symm
    obtain ⟨e, he⟩ : ∃ e, es[k]? = some e := ⟨_, List.getElem?_eq_getElem hk⟩
    rcases hc : evCall cs e with _ | c
    · exact refB_false1 hk (fstB_none he hc)
    · rw [okB_eq he hc] at hf
      rcases h1 : fstB n cs es ticks k with _ | _
      · exact refB_false1 hk h1
      · rw [fstB_eq he hc] at h1
        rw [h1, Bool.true_and] at hf
        unfold lastB at hf
        rcases hl : lastIx cs es k c.thread with _ | j
        · rw [hl] at hf; cases hf
        · rw [hl] at hf
          simp only at hf
          obtain ⟨f, cf, hfj, hcf, htf⟩ := lastIx_some hl
          refine refB_false2 hk (lastIx_lt hl) ?_
          rw [sndB_eq hfj he, hc, hcf]
          unfold behindB at hf
          rw [hfj, he] at hf
          simp only at hf
          rw [aheadB_nat hfj he] at hf
          simp [htf, hf]
end Go.Proofs.YtmiimpmfkjcjlaaGreat

namespace Go.Proofs.YtmiimpmfkjcjlaaGreat
def kcmp : List Int → List Int → Int
  | [], [] => 0
  | [], _ :: _ => -1
  | _ :: _, [] => 1
  | x :: a, y :: b => if x < y then -1 else if y < x then 1 else kcmp a b
theorem kcmp_anti : ∀ a b, kcmp a b < 0 ↔ 0 < kcmp b a
  | [], [] => by simp [kcmp]
  | [], _ :: _ => by simp [kcmp]
  | _ :: _, [] => by simp [kcmp]
  | x :: a, y :: b => by
    have ih := kcmp_anti a b
    unfold kcmp
    repeat' split
    all_goals first | omega | exact ih
theorem kcmp_trans : ∀ a b c, kcmp a b ≤ 0 → kcmp b c ≤ 0 → kcmp a c ≤ 0
  | [], b, [], _, _ => by simp [kcmp]
  | [], b, _ :: _, _, _ => by simp [kcmp]
  | x :: a, [], c, h, _ => by simp [kcmp] at h
  | x :: a, y :: b, [], _, h => by simp [kcmp] at h
  | x :: a, y :: b, z :: c, h1, h2 => by
    have ih := kcmp_trans a b c
    unfold kcmp at h1 h2 ⊢
    repeat' split at h1
    all_goals repeat' split at h2
    all_goals repeat' split
    all_goals first | omega | exact ih h1 h2
def cfK (ky : Nat → List Int) (x y : Int) : Int := kcmp (ky x.toNat) (ky y.toNat)
theorem cfK_ok (ky : Nat → List Int) : CmpOk (cfK ky) := ⟨fun _ _ => kcmp_anti _ _, fun _ _ _ => kcmp_trans _ _ _⟩
def LtK (ky : Nat → List Int) (a b : Nat) : Prop := Lt (cfK ky) (a : Int) (b : Int)
def IsOrd (ky : Nat → List Int) (m : Nat) (L : List Nat) : Prop := L.Pairwise (LtK ky) ∧ ∀ x, x ∈ L ↔ x < m ∧ ky x ≠ []
theorem LtK.irr {ky : Nat → List Int} {a : Nat} (h : LtK ky a a) : False := Lt.irr (cfK_ok ky) h
theorem LtK.trans {ky : Nat → List Int} {a b c : Nat} (h1 : LtK ky a b) (h2 : LtK ky b c) : LtK ky a c := Lt.trans (cfK_ok ky) h1 h2
theorem pair_one {ky : Nat → List Int} : ∀ {L M : List Nat}, L.Pairwise (LtK ky) → M.Pairwise (LtK ky) → (∀ x, x ∈ L ↔ x ∈ M) → L = M
  | [], [], _, _, _ => rfl
  | [], b :: M, _, _, h => by
    have := (h b).2 (by simp)
    simp at this
  | a :: L, [], _, _, h => by
    have := (h a).1 (by simp)
    simp at this
  | a :: L, b :: M, h1, h2, h => by
    rw [List.pairwise_cons] at h1 h2
    have hab : a = b := by
      rcases List.mem_cons.1 ((h a).1 (by simp)) with e | e
      · exact e
      · rcases List.mem_cons.1 ((h b).2 (by simp)) with e' | e'
        · exact e'.symm
        · exact (LtK.irr (LtK.trans (h2.1 a e) (h1.1 b e'))).elim
    subst hab
    congr 1
    refine pair_one h1.2 h2.2 (fun x => ⟨fun hx => ?_, fun hx => ?_⟩)
    · rcases List.mem_cons.1 ((h x).1 (List.mem_cons_of_mem _ hx)) with e | e
      · subst e
        exact (LtK.irr (h1.1 x hx)).elim
      · exact e
    · rcases List.mem_cons.1 ((h x).2 (List.mem_cons_of_mem _ hx)) with e | e
      · subst e
        exact (LtK.irr (h2.1 x hx)).elim
      · exact e
theorem IsOrd.one {ky : Nat → List Int} {m : Nat} {L M : List Nat} (h1 : IsOrd ky m L) (h2 : IsOrd ky m M) : L = M :=
  pair_one h1.1 h2.1 (fun x => (h1.2 x).trans (h2.2 x).symm)
section
variable (n : Int) (specs : List Sp) (calls : List Cl) (es : List Ev) (ls : Nat → List Int)
def stepC (sts : List (List Int)) (e : Ev) (l : List Int) (c : Cl) : List (List Int) × Bool :=
  if ¬ (0 ≤ c.obj ∧ c.obj < specs.length) then (sts, decide (e.resp = 0) || (decide (e.err = 12) && (decide (e.val = 0) && decide (l = [])))) else
  if e.resp = 0 then (sts.set c.obj.toNat (applyM n ((specs[c.obj.toNat]?).getD ⟨0, 0, 0⟩) ((sts[c.obj.toNat]?).getD []) c).1, true)
  else (sts.set c.obj.toNat (legalM n ((specs[c.obj.toNat]?).getD ⟨0, 0, 0⟩) ((sts[c.obj.toNat]?).getD []) c ⟨e.err, e.val, l⟩).1, (legalM n ((specs[c.obj.toNat]?).getD ⟨0, 0, 0⟩) ((sts[c.obj.toNat]?).getD []) c ⟨e.err, e.val, l⟩).2)
def stepL (sts : List (List Int)) (i : Nat) : List (List Int) × Bool :=
  match es[i]? with
  | none => (sts, false)
  | some e => match calls[e.call.toNat]? with
    | none => (sts, false)
    | some c => stepC n specs sts e (ls i) c
def runL : List Nat → List (List Int) → Option Nat
  | [], _ => none
  | i :: r, sts => if (stepL n specs calls es ls sts i).2 = true then runL r (stepL n specs calls es ls sts i).1 else some i
end
def aheadK (es : List Ev) (ky : Nat → List Int) : Bool := (List.range es.length).all fun i => (List.range es.length).all fun k => !(aheadB es i k) || (decide (ky i = []) || (decide (ky k = []) || decide (kcmp (ky i) (ky k) < 0)))
theorem nodup_le : ∀ {m : Nat} {l : List Nat}, l.Nodup → (∀ x ∈ l, x < m) → l.length ≤ m
  | 0, [], _, _ => Nat.le_refl _
  | 0, x :: l, _, h => by have := h x (by simp); omega
  | m + 1, l, h1, h2 => by
    have h3 := nodup_le (m := m) (h1.erase m) (fun x hx => by
      have h4 := (h1.mem_erase_iff).1 hx
      have := h2 x h4.2
      have := h4.1
      omega)
    have h5 := List.length_erase (a := m) (l := l)
    split at h5 <;> omega
theorem IsOrd.nodup {ky : Nat → List Int} {m : Nat} {L : List Nat} (h : IsOrd ky m L) : L.Nodup := by
  refine h.1.imp (fun {a b} hab e => ?_)
  subst e
  exact LtK.irr hab
end Go.Proofs.YtmiimpmfkjcjlaaGreat

namespace Go.Proofs.YtmiimpmfkjcjlaaGreat
open Go.RowKit
theorem info_int : (Tryz.prog.info? 3).map (fun i => (i.zero, i.size, i.bytes)) = some (some (.int .i64 0), 1, 8) := by kernel_rfl
abbrev IOwn (w : World) (B : Nat) (v : Value) (n : Nat) (xs : List Int) : Prop := w.ownsRow B 3 1 v n (xs.map (Value.int .i64))
end Go.Proofs.YtmiimpmfkjcjlaaGreat
