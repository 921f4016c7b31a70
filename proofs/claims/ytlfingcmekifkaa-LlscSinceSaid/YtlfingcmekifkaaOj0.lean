/- Objects on a loom: what they have in common: the memory turns; operations that may not be. -/
import Derived.Test.YtlfingcmekifkaaLo13
import Derived.Test.YtlfingcmekifkaaMe4
namespace Go.Proofs.Ytlfingcmekifkaa
open Go.RowKit

section
variable {w w' : World} {ad : Adr} {Mu Mu' : Nat → Prop} {lw : Lw}
theorem WL.ne (h : WL w ad Mu lw) : ad.pw ≠ ad.pm ∧ ad.pw ≠ ad.px ∧ ad.pw ≠ ad.pt ∧ ad.pt ≠ ad.pm ∧ ad.pt ≠ ad.px ∧ ad.pm ≠ ad.px := by
  obtain ⟨f', ⟨c2, h2, _⟩, _⟩ := h.cells
  obtain ⟨_, h3, _⟩ := h.mem.blk
  obtain ⟨_, h4, _⟩ := h.mem.row
  obtain ⟨_, ⟨_, _, h5, _⟩, _⟩ := h.notes
  refine ⟨?_, ?_, ?_, ?_, ?_, h.mem.ne⟩ <;> intro e
  · rw [e, h3] at h2; injection h2 with h1; injection h1 with _ h1 _; exact absurd h1 (by decide)
  · rw [e, h4] at h2; injection h2 with h1; injection h1 with _ h1 _; exact absurd h1 (by decide)
  · rw [e, h5] at h2; cases h2
  · rw [e, h3] at h5; cases h5
  · rw [e, h4] at h5; cases h5
theorem WL.lt (h : WL w ad Mu lw) : ad.pw < w.heap.size ∧ ad.pm < w.heap.size ∧ ad.px < w.heap.size ∧ ad.pt < w.heap.size := by
  obtain ⟨f', h2, _⟩ := h.cells
  obtain ⟨_, ⟨_, _, h5, _⟩, _⟩ := h.notes
  exact ⟨h2.lt, h.mem.lt.1, h.mem.lt.2, (Array.getElem?_eq_some_iff.1 h5).1⟩
/-- An access: the memory turns, and nothing else. -/
theorem WL.memTo (h : WL w ad Mu lw) {m' : Mm} (hm : MemAt w' ad.pm ad.px .nilFunc m') (hk : MKeep w ad.pm ad.px w') (h4 : ∀ k, ad.four k → Mu k) (hM : ∀ k, k < w.heap.size → Mu' k → Mu k) : WL w' ad Mu' { lw with mem := m' } := by
  obtain ⟨n1, n2, n3, n4, n5, n6⟩ := h.ne
  obtain ⟨z1, z2, z3, z4⟩ := h.lt
  obtain ⟨f, f1, f2, f3, f4, f5⟩ := h.cells
  obtain ⟨m, m1, m2⟩ := h.notes
  have hS : ∀ k, k < w.heap.size → ¬ Mu k → k ≠ ad.pm ∧ k ≠ ad.px ∧ k < w.heap.size := fun k h1 h2 => ⟨fun e => h2 (h4 k (Or.inr (Or.inl e))), fun e => h2 (h4 k (Or.inr (Or.inr (Or.inl e)))), h1⟩
  refine ⟨hm, ⟨f, rowIs_keep f1 hk ⟨n1, n2, z1⟩, f2, f3, f4, fun t ht => ⟨(f5 t ht).1, (f5 t ht).2.keep hk hS hM⟩⟩, ⟨m, m1.of_block (hk.block _ ⟨n4, n5, z4⟩), fun a => ?_⟩⟩
  rcases m2 a with h | ⟨v, hv, hk'⟩
  · exact .inl h
  · exact .inr ⟨v, hv, hk'.keep hk hS hM⟩
/-- The memory's pointer. -/
theorem WL.ptr (h : WL w ad Mu lw) : w.cell? ⟨ad.pw, 0, none⟩ = some (.pointer (some ⟨ad.pm, 0, none⟩)) := by
  obtain ⟨f, f1, f2, _⟩ := h.cells
  rw [← f2]
  exact f1.cell (i := 0) (by omega)
end

/-- An operation that may not be, as it lies; and when it has told so. -/
def NoAt (w : World) (F : Nat → Prop) (v : Value) (e : Int) : Prop := ∃ b b1, v = onceV b ∧ OnceNo w b b1 e ∧ ∀ k, F k ↔ k = b ∨ k = b1
def NoAl (w : World) (F : Nat → Prop) (v : Value) (e : Int) : Prop := ∃ b b1, v = onceV b ∧ w.heap[b]? = some (.cells #[.func (.func 60) #[] #[.pointer (some ⟨b1, 0, none⟩)], .int .i64 e, .int .u64 0, .slice none 0 0] 147 (0, 0)) ∧ ∀ k, F k ↔ k = b ∨ k = b1
section
variable {w w' : World} {F S : Nat → Prop} {v : Value} {e : Int}
theorem NoAt.keep (h : NoAt w F v e) (hk : Keep S w w') (hS : ∀ k, F k → S k) : NoAt w' F v e := by
  obtain ⟨b, b1, h1, h2, h3⟩ := h
  have hb := hk.block b (hS b ((h3 b).2 (Or.inl rfl)))
  refine ⟨b, b1, h1, ⟨?_, (hk.block b1 (hS b1 ((h3 b1).2 (Or.inr rfl)))).trans h2.box⟩, h3⟩
  rw [hb]
  exact h2.once
theorem NoAl.keep (h : NoAl w F v e) (hk : Keep S w w') (hS : ∀ k, F k → S k) : NoAl w' F v e := by
  obtain ⟨b, b1, h1, h2, h3⟩ := h
  exact ⟨b, b1, h1, (hk.block b (hS b ((h3 b).2 (Or.inl rfl)))).trans h2, h3⟩
theorem NoAt.lt (h : NoAt w F v e) : ∀ k, F k → k < w.heap.size := by
  obtain ⟨b, b1, h1, h2, h3⟩ := h
  intro k hk
  rcases (h3 k).1 hk with rfl | rfl
  · rcases h2.once with h | h <;> exact (Array.getElem?_eq_some_iff.1 h).1
  · exact (Array.getElem?_eq_some_iff.1 h2.box).1
theorem NoAt.iface (h : NoAt w F v e) : ∃ t u, v = .iface t u := by
  obtain ⟨b, b1, h1, _⟩ := h
  exact ⟨_, _, h1⟩
theorem NoAt.late (h : NoAt w F v e) : LateNo v := by
  obtain ⟨b, b1, rfl, _⟩ := h
  exact onceLateNo b
theorem NoAt.step (h : NoAt w F v e) (pw : Nat) : ∃ f r, Disp Try.prog v "Step" f r ∧ Calls Try.prog f #[r, .pointer (some ⟨pw, 0, none⟩)] w fun x w' => x = .returned (.bool true) ∧ NoAt w' F v e ∧ NoAl w' F v e ∧ Keep (fun k => k < w.heap.size ∧ ¬ F k) w w' := by
  obtain ⟨b, b1, rfl, h2, h3⟩ := h
  refine ⟨_, _, onceDispStep b, (refuseStep b b1 pw e w h2).mono ?_⟩
  rintro x w' ⟨rfl, a1, a2, a3⟩
  exact ⟨rfl, ⟨b, b1, rfl, a1, h3⟩, ⟨b, b1, rfl, a2, h3⟩, a3.mono (fun k hk => ⟨fun e => hk.2 ((h3 k).2 (Or.inl e)), hk.1⟩)⟩
theorem NoAl.ans (h : NoAl w F v e) (Mu : Nat → Prop) : ∃ f r, Disp Try.prog v "Answer" f r ∧ Calls Try.prog f #[r] w fun x w' => ∃ lv kv, x = .returned (.tuple #[.agg #[.int .i64 e, .int .u64 0, lv], kv]) ∧ LstIs w' Mu lv [] ∧ KeyIs w' Mu kv [] ∧ Below w.heap.size w w' := by
  obtain ⟨b, b1, rfl, h2, h3⟩ := h
  refine ⟨_, _, onceDispAnswer b, (onceAnswer b e 0 (.slice none 0 0) _ w h2 ⟨_, _, _, rfl⟩).mono ?_⟩
  rintro x w' ⟨rfl, hb⟩
  exact ⟨_, _, rfl, LstIs.nil _ _, KeyIs.nil _ _, hb⟩
theorem noAt_made {b b1 : Nat} (h : OnceNo w b b1 e) : NoAt w (fun k => k = b ∨ k = b1) (onceV b) e := ⟨b, b1, rfl, h, fun _ => Iff.rfl⟩
end
theorem WL.memTo2 {w w' : World} {ad : Adr} {Mu Mu' S : Nat → Prop} {lw : Lw} (h : WL w ad Mu lw) {m' : Mm} (hm : MemAt w' ad.pm ad.px .nilFunc m') (hk : Keep S w w') (hS : ∀ k, k < w.heap.size → ¬ Mu k → S k) (hp : S ad.pw ∧ S ad.pt) (hM : ∀ k, k < w.heap.size → Mu' k → Mu k) : WL w' ad Mu' { lw with mem := m' } := by
  obtain ⟨f, f1, f2, f3, f4, f5⟩ := h.cells
  obtain ⟨m, m1, m2⟩ := h.notes
  refine ⟨hm, ⟨f, rowIs_keep f1 hk hp.1, f2, f3, f4, fun t ht => ⟨(f5 t ht).1, (f5 t ht).2.keep hk hS hM⟩⟩, ⟨m, m1.of_block (hk.block _ hp.2), fun a => ?_⟩⟩
  rcases m2 a with h | ⟨v, hv, hk'⟩
  · exact .inl h
  · exact .inr ⟨v, hv, hk'.keep hk hS hM⟩
end Go.Proofs.Ytlfingcmekifkaa
