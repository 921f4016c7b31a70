/- Objects on a loom: what they have in common: the memory turns; operations that may not be. -/
/- Agreeing, or taking over (adopt), as plain data: threads write, then collect, twice. -/
import Derived.Test.YtlfingcmekifkaaLo13
import Derived.Test.YtlfingcmekifkaaMe4
import Derived.Test.YtlfingcmekifkaaLm1
namespace Go.Proofs.Ytlfingcmekifkaa
open Go.RowKit

section
variable {w w' : World} {ad : Adr} {Mu Mu' : Nat → Prop} {lw : Lw}
theorem WL.ne (h : WL w ad Mu lw) : ad.pw ≠ ad.pm ∧ ad.pw ≠ ad.px ∧ ad.pw ≠ ad.pt ∧ ad.pt ≠ ad.pm ∧ ad.pt ≠ ad.px ∧ ad.pm ≠ ad.px := by
  obtain ⟨f', ⟨c2, h2, _⟩, _⟩ := h.cells
  obtain ⟨_, h3, _⟩ := h.mem.blk
  obtain ⟨_, h4, _⟩ := h.mem.row
  obtain ⟨_, ⟨_, _, h5, _⟩, _⟩ := h.notes
  refine ⟨?_, ?_, ?_, ?_, ?_, h.mem.ne⟩ <;> intro e
  · rw [e, h3] at h2; injection h2 with h1; injection h1 with _ h1 _; exact absurd h1 (by decide)
  · rw [e, h4] at h2; injection h2 with h1; injection h1 with _ h1 _; exact absurd h1 (by decide)
  · rw [e, h5] at h2; cases h2
  · rw [e, h3] at h5; cases h5
  · rw [e, h4] at h5; cases h5
theorem WL.lt (h : WL w ad Mu lw) : ad.pw < w.heap.size ∧ ad.pm < w.heap.size ∧ ad.px < w.heap.size ∧ ad.pt < w.heap.size := by
  obtain ⟨f', h2, _⟩ := h.cells
  obtain ⟨_, ⟨_, _, h5, _⟩, _⟩ := h.notes
  exact ⟨h2.lt, h.mem.lt.1, h.mem.lt.2, (Array.getElem?_eq_some_iff.1 h5).1⟩
/-- An access: the memory turns, and nothing else. -/
theorem WL.memTo (h : WL w ad Mu lw) {m' : Mm} (hm : MemAt w' ad.pm ad.px .nilFunc m') (hk : MKeep w ad.pm ad.px w') (h4 : ∀ k, ad.four k → Mu k) (hM : ∀ k, k < w.heap.size → Mu' k → Mu k) : WL w' ad Mu' { lw with mem := m' } := by
  obtain ⟨n1, n2, n3, n4, n5, n6⟩ := h.ne
  obtain ⟨z1, z2, z3, z4⟩ := h.lt
  obtain ⟨f, f1, f2, f3, f4, f5⟩ := h.cells
  obtain ⟨m, m1, m2⟩ := h.notes
  have hS : ∀ k, k < w.heap.size → ¬ Mu k → k ≠ ad.pm ∧ k ≠ ad.px ∧ k < w.heap.size := fun k h1 h2 => ⟨fun e => h2 (h4 k (Or.inr (Or.inl e))), fun e => h2 (h4 k (Or.inr (Or.inr (Or.inl e)))), h1⟩
  refine ⟨hm, ⟨f, rowIs_keep f1 hk ⟨n1, n2, z1⟩, f2, f3, f4, fun t ht => ⟨(f5 t ht).1, (f5 t ht).2.keep hk hS hM⟩⟩, ⟨m, m1.of_block (hk.block _ ⟨n4, n5, z4⟩), fun a => ?_⟩⟩
  rcases m2 a with h | ⟨v, hv, hk'⟩
  · exact .inl h
  · exact .inr ⟨v, hv, hk'.keep hk hS hM⟩
/-- The memory's pointer. -/
theorem WL.ptr (h : WL w ad Mu lw) : w.cell? ⟨ad.pw, 0, none⟩ = some (.pointer (some ⟨ad.pm, 0, none⟩)) := by
  obtain ⟨f, f1, f2, _⟩ := h.cells
  rw [← f2]
  exact f1.cell (i := 0) (by omega)
end

/-- An operation that may not be, as it lies; and when it has told so. -/
def NoAt (w : World) (F : Nat → Prop) (v : Value) (e : Int) : Prop := ∃ b b1, v = onceV b ∧ OnceNo w b b1 e ∧ ∀ k, F k ↔ k = b ∨ k = b1
def NoAl (w : World) (F : Nat → Prop) (v : Value) (e : Int) : Prop := ∃ b b1, v = onceV b ∧ w.heap[b]? = some (.cells #[.func (.func 60) #[] #[.pointer (some ⟨b1, 0, none⟩)], .int .i64 e, .int .u64 0, .slice none 0 0] 147 (0, 0)) ∧ ∀ k, F k ↔ k = b ∨ k = b1
section
variable {w w' : World} {F S : Nat → Prop} {v : Value} {e : Int}
theorem NoAt.keep (h : NoAt w F v e) (hk : Keep S w w') (hS : ∀ k, F k → S k) : NoAt w' F v e := by
  obtain ⟨b, b1, h1, h2, h3⟩ := h
  have hb := hk.block b (hS b ((h3 b).2 (Or.inl rfl)))
  refine ⟨b, b1, h1, ⟨?_, (hk.block b1 (hS b1 ((h3 b1).2 (Or.inr rfl)))).trans h2.box⟩, h3⟩
  rw [hb]
  exact h2.once
theorem NoAl.keep (h : NoAl w F v e) (hk : Keep S w w') (hS : ∀ k, F k → S k) : NoAl w' F v e := by
  obtain ⟨b, b1, h1, h2, h3⟩ := h
  exact ⟨b, b1, h1, (hk.block b (hS b ((h3 b).2 (Or.inl rfl)))).trans h2, h3⟩
theorem NoAt.lt (h : NoAt w F v e) : ∀ k, F k → k < w.heap.size := by
  obtain ⟨b, b1, h1, h2, h3⟩ := h
  intro k hk
  rcases (h3 k).1 hk with rfl | rfl
  · rcases h2.once with h | h <;> exact (Array.getElem?_eq_some_iff.1 h).1
  · exact (Array.getElem?_eq_some_iff.1 h2.box).1
theorem NoAt.iface (h : NoAt w F v e) : ∃ t u, v = .iface t u := by
  obtain ⟨b, b1, h1, _⟩ := h
  exact ⟨_, _, h1⟩
theorem NoAt.late (h : NoAt w F v e) : LateNo v := by
  obtain ⟨b, b1, rfl, _⟩ := h
  exact onceLateNo b
theorem NoAt.step (h : NoAt w F v e) (pw : Nat) : ∃ f r, Disp Try.prog v "Step" f r ∧ Calls Try.prog f #[r, .pointer (some ⟨pw, 0, none⟩)] w fun x w' => x = .returned (.bool true) ∧ NoAt w' F v e ∧ NoAl w' F v e ∧ Keep (fun k => k < w.heap.size ∧ ¬ F k) w w' := by
  obtain ⟨b, b1, rfl, h2, h3⟩ := h
  refine ⟨_, _, onceDispStep b, (refuseStep b b1 pw e w h2).mono ?_⟩
  rintro x w' ⟨rfl, a1, a2, a3⟩
  exact ⟨rfl, ⟨b, b1, rfl, a1, h3⟩, ⟨b, b1, rfl, a2, h3⟩, a3.mono (fun k hk => ⟨fun e => hk.2 ((h3 k).2 (Or.inl e)), hk.1⟩)⟩
theorem NoAl.ans (h : NoAl w F v e) (Mu : Nat → Prop) : ∃ f r, Disp Try.prog v "Answer" f r ∧ Calls Try.prog f #[r] w fun x w' => ∃ lv kv, x = .returned (.tuple #[.agg #[.int .i64 e, .int .u64 0, lv], kv]) ∧ LstIs w' Mu lv [] ∧ KeyIs w' Mu kv [] ∧ Below w.heap.size w w' := by
  obtain ⟨b, b1, rfl, h2, h3⟩ := h
  refine ⟨_, _, onceDispAnswer b, (onceAnswer b e 0 (.slice none 0 0) _ w h2 ⟨_, _, _, rfl⟩).mono ?_⟩
  rintro x w' ⟨rfl, hb⟩
  exact ⟨_, _, rfl, LstIs.nil _ _, KeyIs.nil _ _, hb⟩
theorem noAt_made {b b1 : Nat} (h : OnceNo w b b1 e) : NoAt w (fun k => k = b ∨ k = b1) (onceV b) e := ⟨b, b1, rfl, h, fun _ => Iff.rfl⟩
end
end Go.Proofs.Ytlfingcmekifkaa

namespace Go.Proofs.Ytlfingcmekifkaa
open Go.RowKit

/-- Threads write a word each, and then read all of them, in order. -/
structure Col (n : Nat) (A : Nat → Int) (S : Nat → List Int) : Prop where
  w : ∀ t, t < n → A t = 0 → S t = []
  v : ∀ t s a, t < n → (S t)[s]? = some a → s < n ∧ (a = 0 ∨ a = A s)
  s : ∀ t s a b, t < n → s < n → (S t)[s]? = some a → (S s)[t]? = some b → a ≠ 0 ∨ b ≠ 0
theorem Col.new (n : Nat) : Col n (fun _ => 0) (fun _ => []) := ⟨fun _ _ _ => rfl, (fun _ _ _ _ h => by cases h), (fun _ _ _ _ _ _ h _ => by cases h)⟩
theorem Col.write {n : Nat} {A : Nat → Int} {S : Nat → List Int} (C : Col n A S) {t : Nat} {x : Int} (h0 : A t = 0) (hx : x ≠ 0) : Col n (upd A t x) S := by
  refine ⟨fun s hs h => ?_, fun s k a hs h => ?_, C.s⟩
  · by_cases e : s = t
    · rw [e, upd_same] at h
      exact absurd h hx
    · rw [upd_other e] at h
      exact C.w s hs h
  · obtain ⟨h1, h2⟩ := C.v s k a hs h
    refine ⟨h1, ?_⟩
    by_cases e : k = t
    · subst e
      rw [h0] at h2
      rcases h2 with h2 | h2 <;> exact .inl h2
    · rw [upd_other e]
      exact h2
theorem Col.read {n : Nat} {A : Nat → Int} {S : Nat → List Int} (C : Col n A S) {t : Nat} (h0 : A t ≠ 0) (hl : (S t).length < n) : Col n A (upd S t (S t ++ [A (S t).length])) := by
  have key : ∀ s k a, s < n → (upd S t (S t ++ [A (S t).length]) s)[k]? = some a → (S s)[k]? = some a ∨ (s = t ∧ k = (S t).length ∧ a = A k) := by
    intro s k a _ h
    by_cases e : s = t
    · subst e
      rw [upd_same] at h
      rcases snoc_get h with ⟨_, h⟩ | ⟨h1, h2⟩
      · exact .inl h
      · exact .inr ⟨rfl, h1, by rw [h2, h1]⟩
    · rw [upd_other e] at h
      exact .inl h
  refine ⟨fun s hs h => ?_, fun s k a hs h => ?_, fun s k a b hs hk ha hb => ?_⟩
  · rw [upd_other (by rintro rfl; exact h0 h)]
    exact C.w s hs h
  · rcases key s k a hs h with h | ⟨_, h2, h3⟩
    · exact C.v s k a hs h
    · exact ⟨by omega, .inr h3⟩
  · rcases key s k a hs ha with ha' | ⟨rfl, h2, rfl⟩
    · rcases key k s b hk hb with hb' | ⟨rfl, h2, rfl⟩
      · exact C.s s k a b hs hk ha' hb'
      · refine .inr (fun hA => ?_)
        rw [C.w s hs hA] at ha'
        cases ha'
    · refine .inl (fun hA => ?_)
      have hks : k ≠ s := by rintro rfl; exact h0 hA
      rw [upd_other hks, C.w k hk hA] at hb
      cases hb
/-- The thread's own word was seen. -/
theorem Col.own {n : Nat} {A : Nat → Int} {S : Nat → List Int} (C : Col n A S) {t : Nat} (ht : t < n) (hl : (S t).length = n) : (S t)[t]? = some (A t) ∧ A t ≠ 0 := by
  have h : (S t)[t]? = some ((S t)[t]'(by omega)) := List.getElem?_eq_getElem _
  have h1 := C.s t t _ _ ht ht h h
  have h2 := (C.v t t _ ht h).2
  rcases h2 with h2 | h2
  · rcases h1 with h1 | h1 <;> exact absurd h2 h1
  · rw [h2] at h h1
    exact ⟨h, by rcases h1 with h1 | h1 <;> exact h1⟩

structure Ad where
  n : Nat
  has : Nat → Bool
inductive AM where
  | no (e : Int)
  | prop (t pc : Nat) (v : Int) (seen : List Int) (val : Int)
def aloneF (v : Int) (l : List Int) : Bool := l.all fun x => decide (x = 0 ∨ x = v)
def firstF (l : List Int) : Int := l.foldl (fun f m => if m = 0 then f else if m % 2 = 0 then f else if f = 0 then m / 2 else f) 0
def allF (l : List Int) : Bool := l.all fun m => decide (m = 0 ∨ m % 2 ≠ 0)
def markF (v : Int) (l : List Int) : Int := 2 * v + if aloneF v l then 1 else 0
def endF (v : Int) (l : List Int) : Int := if 0 < firstF l then 2 * (firstF l - 1) + (if allF l then 1 else 0) else 2 * (v - 1)
def adStart (o : Ad) (t : Nat) (c : Cl) : Ad × AM :=
  if c.obj ≠ 0 then (o, .no 12) else if c.kind ≠ 0 then (o, .no 9) else if 2147483648 ≤ c.a then (o, .no 10) else if o.has t then (o, .no 8) else ({ o with has := upd o.has t true }, .prop t 0 (c.a + 1) [] 0)
def adStep (o : Ad) (w : Lw) (m : AM) : Ad × Lw × AM × Bool :=
  match m with
  | .no e => (o, w, .no e, true)
  | .prop t pc v seen val =>
    if pc = 0 then (o, { w with mem := w.mem.acc 1 t v 0 }, .prop t 1 v seen val, false)
    else if pc = 1 then
      let s := seen ++ [w.mem.tell 0 (seen.length : Int) 0]
      (o, { w with mem := w.mem.acc 0 (seen.length : Int) 0 0 }, .prop t (if s.length = o.n then 2 else 1) v s val, false)
    else if pc = 2 then (o, { w with mem := w.mem.acc 1 ((o.n : Int) + t) (markF v seen) 0 }, .prop t 3 v [] val, false)
    else
      let s := seen ++ [w.mem.tell 0 ((o.n : Int) + seen.length) 0]
      if s.length = o.n then (o, { w with mem := w.mem.acc 0 ((o.n : Int) + seen.length) 0 0 }, .prop t 3 v s (endF v s), true)
      else (o, { w with mem := w.mem.acc 0 ((o.n : Int) + seen.length) 0 0 }, .prop t 3 v s val, false)
def adAns : AM → An × List Int
  | .no e => (⟨e, 0, []⟩, [])
  | .prop _ _ _ _ val => (⟨0, val, []⟩, [])
def adG : Gm AM Ad := ⟨adStart, fun o w _ m => adStep o w m, fun _ m => adAns m, fun _ _ _ => none⟩
theorem adG_still : adG.Still := by
  intro o w t m
  show (adStep o w m).2.1.now = w.now
  unfold adStep
  split
  · rfl
  · split
    · rfl
    · split
      · rfl
      · split
        · rfl
        · dsimp only
          split <;> rfl
/-- The odd ones among marks. -/
theorem firstF_go (l : List Int) (hl : ∀ m ∈ l, 0 ≤ m ∧ m ≠ 1) : ∀ f : Int, 0 ≤ f → (0 < f → l.foldl (fun f m => if m = 0 then f else if m % 2 = 0 then f else if f = 0 then m / 2 else f) f = f) ∧
    (f = 0 → (l.foldl (fun f m => if m = 0 then f else if m % 2 = 0 then f else if f = 0 then m / 2 else f) f = 0 ∧ ∀ m ∈ l, m % 2 = 0) ∨ ∃ m ∈ l, m % 2 = 1 ∧ l.foldl (fun f m => if m = 0 then f else if m % 2 = 0 then f else if f = 0 then m / 2 else f) f = m / 2) := by
  induction l with
  | nil =>
    intro f hf
    exact ⟨fun _ => rfl, fun h => .inl ⟨h, fun m hm => by cases hm⟩⟩
  | cons x l ih =>
    intro f hf
    have hx := hl x (List.mem_cons_self ..)
    have hl' : ∀ m ∈ l, 0 ≤ m ∧ m ≠ 1 := fun m hm => hl m (List.mem_cons_of_mem _ hm)
    simp only [List.foldl_cons]
    constructor
    · intro hp
      have e : (if x = 0 then f else if x % 2 = 0 then f else if f = 0 then x / 2 else f) = f := by
        split
        · rfl
        · split
          · rfl
          · rw [if_neg (by omega)]
      rw [e]
      exact (ih hl' f hf).1 hp
    · intro h0
      by_cases h2 : x % 2 = 0
      · have e : (if x = 0 then f else if x % 2 = 0 then f else if f = 0 then x / 2 else f) = f := by
          split
          · rfl
          · first | rfl | rw [if_pos h2]
        rw [e]
        rcases (ih hl' f hf).2 h0 with ⟨a, b⟩ | ⟨m, hm, a, b⟩
        · refine .inl ⟨a, fun m hm => ?_⟩
          rcases List.mem_cons.1 hm with rfl | hm
          · exact h2
          · exact b m hm
        · exact .inr ⟨m, List.mem_cons_of_mem _ hm, a, b⟩
      · have e : (if x = 0 then f else if x % 2 = 0 then f else if f = 0 then x / 2 else f) = x / 2 := by
          rw [if_neg (by omega), if_neg h2, if_pos h0]
        rw [e]
        refine .inr ⟨x, List.mem_cons_self .., by omega, ?_⟩
        exact (ih hl' (x / 2) (by omega)).1 (by omega)
theorem firstF_cases {l : List Int} (hl : ∀ m ∈ l, 0 ≤ m ∧ m ≠ 1) : (firstF l = 0 ∧ ∀ m ∈ l, m % 2 = 0) ∨ ∃ m ∈ l, m % 2 = 1 ∧ firstF l = m / 2 ∧ 0 < firstF l := by
  rcases (firstF_go l hl 0 (Int.le_refl _)).2 rfl with h | ⟨m, hm, h1, h2⟩
  · exact .inl h
  · have := hl m hm
    refine .inr ⟨m, hm, h1, h2, ?_⟩
    unfold firstF
    rw [h2]
    omega
end Go.Proofs.Ytlfingcmekifkaa
