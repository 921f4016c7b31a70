/- A play on a loom, as it lies in memory: keys, events, what machines step in, the player. -/
import Derived.Test.YtfghmlpjbedomaaGreatBun7
import Derived.Test.YtfghmlpjbedomaaGreatCu3
import Derived.Test.YtfghmlpjbedomaaGreatLm1
import Derived.Deep.OwnRows
namespace Go.Proofs.YtfghmlpjbedomaaGreat
open Go.RowKit

/-- A key: nil just if it is empty; it lies where nothing is written any more (Mu: what is still written). -/
def KeyIs (w : World) (Mu : Nat → Prop) (v : Value) (l : List Int) : Prop := ∃ A c, v = .slice A l.length c ∧ (A = none ↔ l = []) ∧ SlI w (.slice A l.length c) l ∧ ∀ a : Addr, A = some a → ¬ Mu a.block ∧ a.block < w.heap.size
/-- A list of words, likewise. -/
def LstIs (w : World) (Mu : Nat → Prop) (v : Value) (l : List Int) : Prop := ∃ A c, v = .slice A l.length c ∧ SlW w (.slice A l.length c) l ∧ ∀ a : Addr, A = some a → ¬ Mu a.block ∧ a.block < w.heap.size
theorem sl_at_keep {en : Int → List Value} {w w' : World} {v : Value} {xs : List Int} {S : Nat → Prop} (h : Sl en 1 w v xs) (hk : Keep S w w') (hS : ∀ A n c (a : Addr), v = .slice A n c → A = some a → a.block < w.heap.size → S a.block) : Sl en 1 w' v xs := by
  obtain ⟨A, c, e, h1, h2, h3⟩ := h
  refine ⟨A, c, e, h1, h2, fun k x hx => ?_⟩
  obtain ⟨b, o, e', hb, hc⟩ := h3 k x hx
  refine ⟨b, o, e', Nat.lt_of_lt_of_le hb hk.size, fun j u hj => ?_⟩
  have := hS _ _ _ _ e e' hb
  exact (hk.cell (p := ⟨b, o + k * 1 + j, none⟩) this).trans (hc j u hj)
section
variable {w w' : World} {Mu Mu' S : Nat → Prop} {v : Value} {l : List Int}
theorem KeyIs.keep (h : KeyIs w Mu v l) (hk : Keep S w w') (hS : ∀ k, k < w.heap.size → ¬ Mu k → S k) (hM : ∀ k, k < w.heap.size → Mu' k → Mu k) : KeyIs w' Mu' v l := by
  obtain ⟨A, c, e, h1, h2, h3⟩ := h
  refine ⟨A, c, e, h1, sl_at_keep h2 hk (fun A' n c' a e1 e2 h4 => ?_), fun a ha => ?_⟩
  · cases e1
    exact hS _ h4 (h3 a e2).1
  · obtain ⟨g1, g2⟩ := h3 a ha
    exact ⟨fun hm => g1 (hM _ g2 hm), Nat.lt_of_lt_of_le g2 hk.size⟩
theorem LstIs.keep (h : LstIs w Mu v l) (hk : Keep S w w') (hS : ∀ k, k < w.heap.size → ¬ Mu k → S k) (hM : ∀ k, k < w.heap.size → Mu' k → Mu k) : LstIs w' Mu' v l := by
  obtain ⟨A, c, e, h2, h3⟩ := h
  refine ⟨A, c, e, sl_at_keep h2 hk (fun A' n c' a e1 e2 h4 => ?_), fun a ha => ?_⟩
  · cases e1
    exact hS _ h4 (h3 a e2).1
  · obtain ⟨g1, g2⟩ := h3 a ha
    exact ⟨fun hm => g1 (hM _ g2 hm), Nat.lt_of_lt_of_le g2 hk.size⟩
theorem KeyIs.nil (w : World) (Mu : Nat → Prop) : KeyIs w Mu (.slice none 0 0) [] := ⟨none, 0, rfl, by simp, ⟨none, 0, rfl, Nat.le_refl _, Nat.zero_le _, fun k x hx => by simp at hx⟩, fun a h => by cases h⟩
theorem LstIs.nil (w : World) (Mu : Nat → Prop) : LstIs w Mu (.slice none 0 0) [] := ⟨none, 0, rfl, ⟨none, 0, rfl, Nat.le_refl _, Nat.zero_le _, fun k x hx => by simp at hx⟩, fun a h => by cases h⟩
theorem KeyIs.isNone (h : KeyIs w Mu v l) : ∃ A n c, v = .slice A n c ∧ A.isNone = decide (l = []) := by
  obtain ⟨A, c, e, h1, _⟩ := h
  refine ⟨A, _, c, e, ?_⟩
  rcases A with _ | a
  · simp [h1.1 rfl]
  · have : l ≠ [] := fun e => by have := h1.2 e; cases this
    simp [this]
end

/-- An event in memory is that event. -/
structure EvIs (w : World) (Mu : Nat → Prop) (x : Ev) (e : Ep) : Prop where
  call : x.call = e.call
  inv : x.inv = e.inv
  resp : x.resp = e.resp
  steps : x.steps = e.steps
  err : x.err = e.ans.err
  val : x.val = e.ans.val
  list : LstIs w Mu (.slice x.lA x.lN x.lC) e.ans.list
  key : KeyIs w Mu (.slice x.kA x.kN x.kC) e.key
theorem EvIs.keep {w w' : World} {Mu Mu' S : Nat → Prop} {x : Ev} {e : Ep} (h : EvIs w Mu x e) (hk : Keep S w w') (hS : ∀ k, k < w.heap.size → ¬ Mu k → S k) (hM : ∀ k, k < w.heap.size → Mu' k → Mu k) : EvIs w' Mu' x e :=
  ⟨h.call, h.inv, h.resp, h.steps, h.err, h.val, h.list.keep hk hS hM, h.key.keep hk hS hM⟩
/-- The row of a play's events. -/
structure EvsAt (w : World) (B : Nat) (Mu : Nat → Prop) (v : Value) (es : List Ep) : Prop where
  row : ∃ raw : List Ev, w.ownsRow B 66 8 v es.length (raw.flatMap evEnc) ∧ raw.length = es.length ∧ ∀ (i : Nat) (x : Ev) (e : Ep), raw[i]? = some x → es[i]? = some e → EvIs w Mu x e
theorem evEnc_len (x : Ev) : (evEnc x).length = 8 := rfl
theorem EvsAt.keep {w w' : World} {B : Nat} {Mu Mu' S : Nat → Prop} {v : Value} {es : List Ep} (h : EvsAt w B Mu v es) (hk : Keep S w w') (hS : ∀ k, k < w.heap.size → ¬ Mu k → S k) (hM : ∀ k, k < w.heap.size → Mu' k → Mu k) (hv : ∀ k, v.ownBlock = some k → S k) : EvsAt w' B Mu' v es := by
  obtain ⟨raw, h1, h2, h3⟩ := h.row
  refine ⟨raw, ?_, h2, fun i x e hx he => (h3 i x e hx he).keep hk hS hM⟩
  obtain ⟨g1, g2 | ⟨g, cap, cur, e1, e2, e3, e4⟩⟩ := h1
  · exact ⟨g1, Or.inl g2⟩
  · subst e1
    exact ⟨g1, Or.inr ⟨g, cap, cur, rfl, e2, (hk.block g (hv g rfl)).trans e3, e4⟩⟩

/-- Where the parts of a play lie: the player, what machines step in, the memory and its words, what is noted, the line and its map. -/
structure Adr where
  pp : Nat
  pw : Nat
  pm : Nat
  px : Nat
  pt : Nat
  pl : Nat
  pg : Nat
/-- What machines step in. -/
structure WL (w : World) (ad : Adr) (Mu : Nat → Prop) (lw : Lw) : Prop where
  mem : MemAt w ad.pm ad.px .nilFunc lw.mem
  cells : ∃ f : Nat → Value, w.rowIs ad.pw 134 35 f ∧ f 0 = .pointer (some ⟨ad.pm, 0, none⟩) ∧ f 1 = .int .i64 lw.now ∧ f 34 = .map (some ad.pt) ∧ ∀ t, t < 16 → f (2 + t) = .int .i64 (lw.inv t) ∧ KeyIs w Mu (f (18 + t)) (lw.marks t)
  notes : ∃ m : Int → Option Value, IMap w ad.pt .i64 m ∧ ∀ a, (m a = none ∧ lw.traces a = []) ∨ ∃ v, m a = some v ∧ KeyIs w Mu v (lw.traces a)
theorem rowIs_keep {w w' : World} {b n : Nat} {t : TypeId} {f : Nat → Value} {S : Nat → Prop} (h : w.rowIs b t n f) (hk : Keep S w w') (hS : S b) : w'.rowIs b t n f := h.of_block (hk.block b hS)
theorem WL.keep {w w' : World} {ad : Adr} {Mu Mu' S : Nat → Prop} {lw : Lw} (h : WL w ad Mu lw) (hk : Keep S w w') (hS : ∀ k, k < w.heap.size → ¬ Mu k → S k) (hM : ∀ k, k < w.heap.size → Mu' k → Mu k) (h1 : S ad.pw) (h2 : S ad.pm) (h3 : S ad.px) (h4 : S ad.pt) : WL w' ad Mu' lw := by
  obtain ⟨f, f1, f2, f3, f4, f5⟩ := h.cells
  obtain ⟨m, m1, m2⟩ := h.notes
  refine ⟨h.mem.of_blocks (hk.block _ h2) (hk.block _ h3), ⟨f, rowIs_keep f1 hk h1, f2, f3, f4, fun t ht => ⟨(f5 t ht).1, (f5 t ht).2.keep hk hS hM⟩⟩, ⟨m, m1.of_block (hk.block _ h4), fun a => ?_⟩⟩
  rcases m2 a with h | ⟨v, hv, hk'⟩
  · exact .inl h
  · exact .inr ⟨v, hv, hk'.keep hk hS hM⟩
end Go.Proofs.YtfghmlpjbedomaaGreat
