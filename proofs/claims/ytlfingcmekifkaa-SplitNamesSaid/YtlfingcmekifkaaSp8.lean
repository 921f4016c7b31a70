/- Threads that take names (law 39): what the law counts. -/
import Derived.Test.YtlfingcmekifkaaBun9
import Derived.Test.YtlfingcmekifkaaBun10
namespace Go.Proofs.Ytlfingcmekifkaa
open Go.RowKit

def tkB (cs : List Cl) (e : Ep) : Bool := decide ((callOf cs e.call).obj = 0) && decide ((callOf cs e.call).kind = 0)
def begF (cs : List Cl) (es : List Ep) (p : Nat) : Bool := es.any fun e => tkB cs e && decide (tkT cs e = p)
def begN (n : Nat) (cs : List Cl) (es : List Ep) : Nat := (List.range n).countP (begF cs es)
def tookB (cs : List Cl) (e : Ep) : Bool := tkB cs e && decide (e.resp ≠ 0) && decide (e.ans.err = 0)
def namF (cs : List Cl) (es : List Ep) (q : Nat) : Bool := es.any fun e => tookB cs e && decide (e.ans.val = q)
theorem begF_iff {cs : List Cl} {es : List Ep} {p : Nat} : begF cs es p = true ↔ begunT cs es p := by
  unfold begF begunT tkB
  rw [List.any_eq_true]
  constructor
  · rintro ⟨e, he, hx⟩
    obtain ⟨k, hk⟩ := List.mem_iff_getElem?.1 he
    simp at hx
    exact ⟨k, e, hk, hx.1.1, hx.1.2, hx.2⟩
  · rintro ⟨k, e, hk, h1, h2, h3⟩
    exact ⟨e, List.mem_of_getElem? hk, by simp [h1, h2, h3]⟩
theorem begN_cnt (n : Nat) (cs : List Cl) (es : List Ep) : cntP n (begunT cs es) = begN n cs es := by
  unfold cntP begN
  refine List.countP_congr fun p _ => ?_
  simp [begF_iff]
theorem begF_take {cs : List Cl} {es : List Ep} {k : Nat} {e : Ep} (he : es[k]? = some e) (p : Nat) : begF cs (es.take (k + 1)) p = (begF cs (es.take k) p || (tkB cs e && decide (tkT cs e = p))) := by
  unfold begF
  rw [List.take_add_one, he]
  simp
theorem namF_take {cs : List Cl} {es : List Ep} {k : Nat} {e : Ep} (he : es[k]? = some e) (q : Nat) : namF cs (es.take (k + 1)) q = (namF cs (es.take k) q || (tookB cs e && decide (e.ans.val = q))) := by
  unfold namF
  rw [List.take_add_one, he]
  simp
theorem countP_one_more {n t : Nat} {f g : Nat → Bool} (ht : t < n) (h0 : f t = false) (h1 : ∀ p, g p = (f p || decide (t = p))) : (List.range n).countP g = (List.range n).countP f + 1 := by
  induction n with
  | zero => omega
  | succ n ih =>
    rw [List.range_succ, List.countP_append, List.countP_append]
    by_cases e : t = n
    · subst e
      have : (List.range t).countP g = (List.range t).countP f := List.countP_congr fun p hp => by
        have := List.mem_range.1 hp
        rw [h1 p]
        simp
        omega
      rw [this]
      simp [h0, h1 t]
    · rw [ih (by omega)]
      have : g n = f n := by rw [h1 n]; simp [e]
      simp [this]
      omega
theorem begN_more {n : Nat} {cs : List Cl} {es : List Ep} {k : Nat} {e : Ep} (he : es[k]? = some e) (ht : tkT cs e < n) (hb : tkB cs e = true) (h0 : begF cs (es.take k) (tkT cs e) = false) : begN n cs (es.take (k + 1)) = begN n cs (es.take k) + 1 := by
  unfold begN
  refine countP_one_more ht h0 fun p => ?_
  rw [begF_take he, hb]
  simp
theorem begN_same {n : Nat} {cs : List Cl} {es : List Ep} {k : Nat} {e : Ep} (he : es[k]? = some e) (h : tkB cs e = false ∨ begF cs (es.take k) (tkT cs e) = true) : begN n cs (es.take (k + 1)) = begN n cs (es.take k) ∧ ∀ p, begF cs (es.take (k + 1)) p = begF cs (es.take k) p := by
  have key : ∀ p, begF cs (es.take (k + 1)) p = begF cs (es.take k) p := by
    intro p
    rw [begF_take he]
    rcases h with h | h
    · rw [h]; simp
    · by_cases e : tkT cs e = p
      · subst e
        rw [h]
        rfl
      · simp [e]
  exact ⟨List.countP_congr fun p _ => by rw [key p], key⟩
theorem begN_nil (n : Nat) (cs : List Cl) : begN n cs [] = 0 := by
  unfold begN
  rw [List.countP_eq_zero]
  intro p _
  simp [begF]
theorem begN_le (n : Nat) (cs : List Cl) (es : List Ep) : begN n cs es ≤ n := by
  have := List.countP_le_length (p := begF cs es) (l := List.range n)
  simpa [begN] using this
theorem SpLaw.ends {n : Nat} {cs : List Cl} {P : Ps SM Spl} (h : SpLaw n cs P.evs) : SpLaw n cs (P.ends spG) := by
  have hb : begunT cs (P.ends spG) = begunT cs P.evs := by
    funext t
    refine propext ⟨?_, ?_⟩
    · rintro ⟨k, e, he, a1, a2, a3⟩
      obtain ⟨e0, h0, h1, _⟩ := ends_get he
      refine ⟨k, e0, h0, ?_⟩
      unfold tkT at a3 ⊢
      rw [h1] at a1 a2 a3
      exact ⟨a1, a2, a3⟩
    · rintro ⟨k, e, he, a1, a2, a3⟩
      obtain ⟨e0, h0, h1, _⟩ := ends_has (G := spG) he
      refine ⟨k, e0, h0, ?_⟩
      unfold tkT at a3 ⊢
      rw [h1]
      exact ⟨a1, a2, a3⟩
  have hp : ∀ (e e0 : Ep), e.call = e0.call → e.ans = e0.ans → (isTk cs e ↔ isTk cs e0) := fun e e0 h1 h2 => by unfold isTk; rw [h1, h2]
  refine ⟨fun k e he => ?_, fun k e he => ?_, fun k e he hr hs => ?_, fun k j e e' he he' hr hr' hs hs' hv => ?_⟩
  · obtain ⟨e0, h0, h1, _⟩ := ends_get he
    rw [h1]
    exact h.call k e0 h0
  · obtain ⟨e0, h0, h1, h2, h3, h4, h5⟩ := ends_get he
    rw [hb, h4]
    exact h.steps k e0 h0
  · obtain ⟨e0, h0, h1, h2, h3, h4, h5⟩ := ends_get he
    rw [hb, h5]
    exact h.name k e0 h0 (by rw [← h3]; exact hr) ((hp e e0 h1 h5).1 hs)
  · obtain ⟨e0, h0, h1, h2, h3, h4, h5⟩ := ends_get he
    obtain ⟨f0, g0, g1, g2, g3, g4, g5⟩ := ends_get he'
    exact h.one k j e0 f0 h0 g0 (by rw [← h3]; exact hr) (by rw [← g3]; exact hr') ((hp e e0 h1 h5).1 hs) ((hp e' f0 g1 g5).1 hs') (by rw [← h5, ← g5]; exact hv)
theorem tookB_iff {cs : List Cl} {e : Ep} : tookB cs e = true ↔ isTk cs e ∧ e.resp ≠ 0 := by
  unfold tookB isTk tkB
  simp
  constructor
  · rintro ⟨⟨⟨a, b⟩, c⟩, d⟩
    exact ⟨⟨a, b, d⟩, c⟩
  · rintro ⟨⟨a, b, d⟩, c⟩
    exact ⟨⟨⟨a, b⟩, c⟩, d⟩
/-- A name that an event tells is new, and not too great. -/
theorem nam_new {n : Nat} {cs : List Cl} {es : List Ep} (h : SpLaw n cs es) {k : Nat} {e : Ep} (he : es[k]? = some e) (ht : tookB cs e = true) : ∃ q : Nat, e.ans.val = q ∧ q < tri (begN n cs es) ∧ namF cs (es.take k) q = false := by
  obtain ⟨h1, h2⟩ := tookB_iff.1 ht
  obtain ⟨q, hq, hl⟩ := h.name k e he h2 h1
  rw [begN_cnt] at hl
  refine ⟨q, hq, hl, ?_⟩
  rw [Bool.eq_false_iff]
  intro hn
  unfold namF at hn
  obtain ⟨x, hx, hxx⟩ := List.any_eq_true.1 hn
  rw [Bool.and_eq_true] at hxx
  obtain ⟨hx1, hx2⟩ := hxx
  simp at hx2
  obtain ⟨g1, g2⟩ := tookB_iff.1 hx1
  obtain ⟨j, hj⟩ := List.mem_iff_getElem?.1 hx
  have hjk : j < k := by
    have := (List.getElem?_eq_some_iff.1 hj).1
    simp at this
    omega
  rw [List.getElem?_take_of_lt hjk] at hj
  have := h.one j k x e hj he g2 h2 g1 h1 (by rw [hx2, hq])
  omega
theorem tri_half (d : Nat) : Int.tdiv ((d : Int) * (d + 1)) 2 = tri d := by
  rw [← tri_two, Int.tdiv_eq_ediv_of_nonneg (by omega)]
  omega
end Go.Proofs.Ytlfingcmekifkaa
