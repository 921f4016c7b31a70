/- Objects on a loom: what they have in common: the memory turns; operations that may not be. -/
/- Objects on a loom: what is told of a play, and put where the caller wants it; words; rows. -/
import Derived.Test.YtfghmlpjbedomaaGreatHold
import Derived.Test.YtfghmlpjbedomaaGreatMe4
namespace Go.Proofs.YtfghmlpjbedomaaGreat
open Go.RowKit

section
variable {w w' : World} {ad : Adr} {Mu Mu' : Nat → Prop} {lw : Lw}
theorem WL.ne (h : WL w ad Mu lw) : ad.pw ≠ ad.pm ∧ ad.pw ≠ ad.px ∧ ad.pw ≠ ad.pt ∧ ad.pt ≠ ad.pm ∧ ad.pt ≠ ad.px ∧ ad.pm ≠ ad.px := by
  obtain ⟨f', ⟨c2, h2, _⟩, _⟩ := h.cells
  obtain ⟨_, h3, _⟩ := h.mem.blk
  obtain ⟨_, h4, _⟩ := h.mem.row
  obtain ⟨_, ⟨_, _, h5, _⟩, _⟩ := h.notes
  refine ⟨?_, ?_, ?_, ?_, ?_, h.mem.ne⟩ <;> intro e
  · rw [e, h3] at h2; injection h2 with h1; injection h1 with _ h1 _; exact absurd h1 (by decide)
  · rw [e, h4] at h2; injection h2 with h1; injection h1 with _ h1 _; exact absurd h1 (by decide)
  · rw [e, h5] at h2; cases h2
  · rw [e, h3] at h5; cases h5
  · rw [e, h4] at h5; cases h5
theorem WL.lt (h : WL w ad Mu lw) : ad.pw < w.heap.size ∧ ad.pm < w.heap.size ∧ ad.px < w.heap.size ∧ ad.pt < w.heap.size := by
  obtain ⟨f', h2, _⟩ := h.cells
  obtain ⟨_, ⟨_, _, h5, _⟩, _⟩ := h.notes
  exact ⟨h2.lt, h.mem.lt.1, h.mem.lt.2, (Array.getElem?_eq_some_iff.1 h5).1⟩
/-- An access: the memory turns, and nothing else. -/
theorem WL.memTo (h : WL w ad Mu lw) {m' : Mm} (hm : MemAt w' ad.pm ad.px ad.hk m') (hk : MKeep w ad.pm ad.px w') (h4 : ∀ k, ad.four k → Mu k) (hM : ∀ k, k < w.heap.size → Mu' k → Mu k) : WL w' ad Mu' { lw with mem := m' } := by
  obtain ⟨n1, n2, n3, n4, n5, n6⟩ := h.ne
  obtain ⟨z1, z2, z3, z4⟩ := h.lt
  obtain ⟨f, f1, f2, f3, f4, f5⟩ := h.cells
  obtain ⟨m, m1, m2⟩ := h.notes
  have hS : ∀ k, k < w.heap.size → ¬ Mu k → k ≠ ad.pm ∧ k ≠ ad.px ∧ k < w.heap.size := fun k h1 h2 => ⟨fun e => h2 (h4 k (Or.inr (Or.inl e))), fun e => h2 (h4 k (Or.inr (Or.inr (Or.inl e)))), h1⟩
  refine ⟨hm, ⟨f, rowIs_keep f1 hk ⟨n1, n2, z1⟩, f2, f3, f4, fun t ht => ⟨(f5 t ht).1, (f5 t ht).2.keep hk hS hM⟩⟩, ⟨m, m1.of_block (hk.block _ ⟨n4, n5, z4⟩), fun a => ?_⟩⟩
  rcases m2 a with h | ⟨v, hv, hk'⟩
  · exact .inl h
  · exact .inr ⟨v, hv, hk'.keep hk hS hM⟩
/-- The memory's pointer. -/
theorem WL.ptr (h : WL w ad Mu lw) : w.cell? ⟨ad.pw, 0, none⟩ = some (.pointer (some ⟨ad.pm, 0, none⟩)) := by
  obtain ⟨f, f1, f2, _⟩ := h.cells
  rw [← f2]
  exact f1.cell (i := 0) (by omega)
end

/-- An operation that may not be, as it lies; and when it has told so. -/
def NoAt (w : World) (F : Nat → Prop) (v : Value) (e : Int) : Prop := ∃ b b1, v = onceV b ∧ OnceNo w b b1 e ∧ ∀ k, F k ↔ k = b ∨ k = b1
def NoAl (w : World) (F : Nat → Prop) (v : Value) (e : Int) : Prop := ∃ b b1, v = onceV b ∧ w.heap[b]? = some (.cells #[.func (.func 143) #[] #[.pointer (some ⟨b1, 0, none⟩)], .int .i64 e, .int .u64 0, .slice none 0 0] 256 (0, 0)) ∧ ∀ k, F k ↔ k = b ∨ k = b1
section
variable {w w' : World} {F S : Nat → Prop} {v : Value} {e : Int}
theorem NoAt.keep (h : NoAt w F v e) (hk : Keep S w w') (hS : ∀ k, F k → S k) : NoAt w' F v e := by
  obtain ⟨b, b1, h1, h2, h3⟩ := h
  have hb := hk.block b (hS b ((h3 b).2 (Or.inl rfl)))
  refine ⟨b, b1, h1, ⟨?_, (hk.block b1 (hS b1 ((h3 b1).2 (Or.inr rfl)))).trans h2.box⟩, h3⟩
  rw [hb]
  exact h2.once
theorem NoAl.keep (h : NoAl w F v e) (hk : Keep S w w') (hS : ∀ k, F k → S k) : NoAl w' F v e := by
  obtain ⟨b, b1, h1, h2, h3⟩ := h
  exact ⟨b, b1, h1, (hk.block b (hS b ((h3 b).2 (Or.inl rfl)))).trans h2, h3⟩
theorem NoAt.lt (h : NoAt w F v e) : ∀ k, F k → k < w.heap.size := by
  obtain ⟨b, b1, h1, h2, h3⟩ := h
  intro k hk
  rcases (h3 k).1 hk with rfl | rfl
  · rcases h2.once with h | h <;> exact (Array.getElem?_eq_some_iff.1 h).1
  · exact (Array.getElem?_eq_some_iff.1 h2.box).1
theorem NoAt.iface (h : NoAt w F v e) : ∃ t u, v = .iface t u := by
  obtain ⟨b, b1, h1, _⟩ := h
  exact ⟨_, _, h1⟩
theorem NoAt.late (h : NoAt w F v e) : LateNo v := by
  obtain ⟨b, b1, rfl, _⟩ := h
  exact onceLateNo b
theorem NoAt.step (h : NoAt w F v e) (pw : Nat) : ∃ f r, Disp Tryz.prog v "Step" f r ∧ Calls Tryz.prog f #[r, .pointer (some ⟨pw, 0, none⟩)] w fun x w' => x = .returned (.bool true) ∧ NoAt w' F v e ∧ NoAl w' F v e ∧ Keep (fun k => k < w.heap.size ∧ ¬ F k) w w' := by
  obtain ⟨b, b1, rfl, h2, h3⟩ := h
  refine ⟨_, _, onceDispStep b, (refuseStep b b1 pw e w h2).mono ?_⟩
  rintro x w' ⟨rfl, a1, a2, a3⟩
  exact ⟨rfl, ⟨b, b1, rfl, a1, h3⟩, ⟨b, b1, rfl, a2, h3⟩, a3.mono (fun k hk => ⟨fun e => hk.2 ((h3 k).2 (Or.inl e)), hk.1⟩)⟩
theorem NoAl.ans (h : NoAl w F v e) (Mu : Nat → Prop) : ∃ f r, Disp Tryz.prog v "Answer" f r ∧ Calls Tryz.prog f #[r] w fun x w' => ∃ lv kv, x = .returned (.tuple #[.agg #[.int .i64 e, .int .u64 0, lv], kv]) ∧ LstIs w' Mu lv [] ∧ KeyIs w' Mu kv [] ∧ Below w.heap.size w w' := by
  obtain ⟨b, b1, rfl, h2, h3⟩ := h
  refine ⟨_, _, onceDispAnswer b, (onceAnswer b e 0 (.slice none 0 0) _ w h2 ⟨_, _, _, rfl⟩).mono ?_⟩
  rintro x w' ⟨rfl, hb⟩
  exact ⟨_, _, rfl, LstIs.nil _ _, KeyIs.nil _ _, hb⟩
theorem noAt_made {b b1 : Nat} (h : OnceNo w b b1 e) : NoAt w (fun k => k = b ∨ k = b1) (onceV b) e := ⟨b, b1, rfl, h, fun _ => Iff.rfl⟩
end
theorem WL.memTo2 {w w' : World} {ad : Adr} {Mu Mu' S : Nat → Prop} {lw : Lw} (h : WL w ad Mu lw) {m' : Mm} (hm : MemAt w' ad.pm ad.px ad.hk m') (hk : Keep S w w') (hS : ∀ k, k < w.heap.size → ¬ Mu k → S k) (hp : S ad.pw ∧ S ad.pt) (hM : ∀ k, k < w.heap.size → Mu' k → Mu k) : WL w' ad Mu' { lw with mem := m' } := by
  obtain ⟨f, f1, f2, f3, f4, f5⟩ := h.cells
  obtain ⟨m, m1, m2⟩ := h.notes
  refine ⟨hm, ⟨f, rowIs_keep f1 hk hp.1, f2, f3, f4, fun t ht => ⟨(f5 t ht).1, (f5 t ht).2.keep hk hS hM⟩⟩, ⟨m, m1.of_block (hk.block _ hp.2), fun a => ?_⟩⟩
  rcases m2 a with h | ⟨v, hv, hk'⟩
  · exact .inl h
  · exact .inr ⟨v, hv, hk'.keep hk hS hM⟩
end Go.Proofs.YtfghmlpjbedomaaGreat

namespace Go.Proofs.YtfghmlpjbedomaaGreat
open Go.RowKit

/-- A report that tells nothing, as it lies. -/
def zeroRep : Obj := .cells #[.slice none 0 0, .slice none 0 0, .int .i64 0, .int .i64 0, .int .i64 0, .int .i64 0, .int .i64 0, .int .i64 0, .int .i64 0] 60
def zeroV : Value := .agg #[.slice none 0 0, .slice none 0 0, .int .i64 0, .int .i64 0, .int .i64 0, .int .i64 0, .int .i64 0, .int .i64 0, .int .i64 0]
/-- What comes of a play, as a package's Play tells it. -/
def OutPost (E : Int) (evs : List Ep) (m : Mm) (now idle : Int) (w : World) (e : Ending) (w' : World) : Prop :=
  (E ≠ 0 ∧ e = .returned (.tuple #[zeroV, .int .i64 E]) ∧ Below w.heap.size w w') ∨
  (E = 0 ∧ ∃ ev B Mu g c, e = .returned (.tuple #[repV ev (.slice (some ⟨g, 0, none⟩) m.words.length c) m now idle, .int .i64 0]) ∧ EvsAt w' B Mu ev evs ∧ w.heap.size ≤ B ∧ WRow w' w.heap.size (.slice (some ⟨g, 0, none⟩) m.words.length c) m.words ∧ Below w.heap.size w w')
/-- What loom.Play tells, with the place where the report shall go. -/
def MidPost (b0 : Nat) (Fo : Nat → Prop) (evs : List Ep) (m : Mm) (now idle : Int) (w : World) (e : Ending) (w' : World) : Prop :=
  ∃ Ae ce B Mu g c, e = .returned (.tuple #[repV (.slice Ae evs.length ce) (.slice (some ⟨g, 0, none⟩) m.words.length c) m now idle, .int .i64 0]) ∧ EvsAt w' B Mu (.slice Ae evs.length ce) evs ∧ w.heap.size ≤ B ∧ WRow w' w.heap.size (.slice (some ⟨g, 0, none⟩) m.words.length c) m.words ∧
    Keep (fun k => k < w.heap.size ∧ ¬ Fo k ∧ k ≠ b0) w w' ∧ w'.heap[b0]? = some zeroRep ∧ Mu b0
theorem ends_len {M O : Type} (G : Gm M O) (P : Ps M O) : (P.ends G).length = P.evs.length := by
  rw [← endsK_all, endsK_len]
/-- The report is put there. -/
theorem out_done {b0 : Nat} {Fo : Nat → Prop} {evs : List Ep} {m : Mm} {now idle : Int} {w0 w w5 : World} {Ae : Option Addr} {ce B g c : Nat} {Mu : Nat → Prop} (CR : List Value) (h1 : EvsAt w5 B Mu (.slice Ae evs.length ce) evs) (h2 : w.heap.size ≤ B) (h3 : WRow w5 w.heap.size (.slice (some ⟨g, 0, none⟩) m.words.length c) m.words) (h4 : Keep (fun k => k < w.heap.size ∧ ¬ Fo k ∧ k ≠ b0) w w5) (h6 : Mu b0)
    (hw : Below w0.heap.size w0 w) (hF : ∀ k, Fo k → w0.heap.size ≤ k) (hb : w0.heap.size ≤ b0) (hbw : b0 < w.heap.size) :
    OutPost 0 evs m now idle w0 (.returned (.tuple #[repV (.slice Ae evs.length ce) (.slice (some ⟨g, 0, none⟩) m.words.length c) m now idle, .int .i64 0])) (w5.setCells b0 0 CR) := by
  have hz := hw.size
  have hk := Keep.setCells (K := fun k => k ≠ b0) (b := b0) (Keep.refl _ w5) (by simp) 0 CR
  refine Or.inr ⟨rfl, _, B, Mu, g, c, rfl, h1.keep hk (fun k _ h e => h (e ▸ h6)) (fun k _ hm => hm) (fun k hk e => ?_), Nat.le_trans hz h2, ?_, ?_⟩
  · obtain ⟨raw, hrow, _⟩ := h1.row
    have := (World.ownsRow.lt hrow k hk).1
    omega
  · refine owns_base (owns_keepV h3 hk (fun k hk => ?_)) hz
    have := (World.ownsRow.lt h3 k hk).1
    omega
  · have k1 : Keep (fun k => k < w0.heap.size) w0 w5 := (Keep.of_below hw (fun k hk => hk)).trans (h4.mono (fun k hk => ⟨Nat.lt_of_lt_of_le hk hz, fun h => by have := hF k h; omega, by omega⟩))
    exact (k1.trans (hk.mono (fun k hk e => by omega))).below (fun k hk => hk)
theorem zero_there {w : World} {b : Nat} (h : w.heap[b]? = some zeroRep) (CR : List Value) (hl : CR.length = 9) : w.there b 0 CR.length := by
  intro j hj
  refine ⟨?_, frozen_of_row w _ _ _ _ h⟩
  rw [cell_of_row w _ _ _ _ _ h]
  simp only [Nat.zero_add]
  exact isSome_lt (by rw [hl] at hj; exact hj)
theorem made_words (W : World) (N g : Nat) (hg : g = W.heap.size) (hN : N ≤ maxLen) : SlW (W.alloc (.cells (madeCells #[.int .u64 0] N) 37)) (.slice (some ⟨g, 0, none⟩) N N) (List.replicate N 0) := by
  subst hg
  have := Sl.of_block (enc := ntEnc .u64) (sz := 1) (xs := List.replicate N (0 : Int)) (c := N) (heap_alloc_new W (.cells (madeCells #[.int .u64 0] N) 37)) (by simp) hN (fun k x hx j u hu => by
    have hk : k < N := by have := (List.getElem?_eq_some_iff.1 hx).1; simpa using this
    have hx0 : x = 0 := by
      have h1 := List.getElem?_eq_some_iff.1 hx
      obtain ⟨_, h2⟩ := h1
      simpa using h2.symm
    subst hx0
    rcases j with _ | j
    · simp [ntEnc] at hu
      subst hu
      rw [← Array.getElem?_toList, toList_madeCells_one]
      simp [hk]
    · simp [ntEnc] at hu)
  rw [List.length_replicate] at this
  exact this
theorem made_sl {W : World} {N g : Nat} (h : W.heap[g]? = some (.cells (madeCells #[.int .u64 0] N) 37 (0, 0))) (hN : N ≤ maxLen) : SlW W (.slice (some ⟨g, 0, none⟩) N N) (List.replicate N 0) := by
  have := Sl.of_block (enc := ntEnc .u64) (sz := 1) (xs := List.replicate N (0 : Int)) (c := N) h (by simp) hN (fun k x hx j u hu => by
    have hk : k < N := by have := (List.getElem?_eq_some_iff.1 hx).1; simpa using this
    have hx0 : x = 0 := by
      have h1 := List.getElem?_eq_some_iff.1 hx
      obtain ⟨_, h2⟩ := h1
      simpa using h2.symm
    subst hx0
    rcases j with _ | j
    · simp [ntEnc] at hu
      subst hu
      rw [← Array.getElem?_toList, toList_madeCells_one]
      simp [hk]
    · simp [ntEnc] at hu)
  rw [List.length_replicate] at this
  exact this
def W64 (l : List Int) : Prop := ∀ x ∈ l, 0 ≤ x ∧ x < 18446744073709551616
theorem tell0_bd {m : Mm} (h : W64 m.words) (a : Int) : 0 ≤ m.tell 0 a 0 ∧ m.tell 0 a 0 < 18446744073709551616 := by
  unfold Mm.tell acV
  split
  · rename_i hin
    rw [if_pos rfl]
    unfold Mm.at
    unfold Mm.in at hin
    rw [List.getElem?_eq_getElem (by omega)]
    exact h _ (List.getElem_mem _)
  · omega
theorem acc_w64 {m : Mm} (h : W64 m.words) (k a x y : Int) (hy : 0 ≤ acY k (m.at a) x y ∧ acY k (m.at a) x y < 18446744073709551616) : W64 (m.acc k a x y).words := by
  unfold Mm.acc
  split
  · intro z hz
    have hz : z ∈ m.words.set a.toNat (acY k (m.at a) x y) := hz
    rcases List.mem_or_eq_of_mem_set hz with h1 | h1
    · exact h z h1
    · rw [h1]; exact hy
  · exact h
theorem at_bd {m : Mm} (h : W64 m.words) (a : Int) : 0 ≤ m.at a ∧ m.at a < 18446744073709551616 := by
  unfold Mm.at
  rcases hw : m.words[a.toNat]? with _ | z
  · simp
  · exact h _ (List.mem_of_getElem? hw)
theorem cells6 {w : World} {b : Nat} {a0 a1 a2 a3 a4 a5 : Value} {t : TypeId} (h : w.heap[b]? = some (.cells #[a0, a1, a2, a3, a4, a5] t (0, 0))) : w.cell? ⟨b, 0, none⟩ = some a0 ∧ w.cell? ⟨b, 1, none⟩ = some a1 ∧ w.cell? ⟨b, 2, none⟩ = some a2 ∧ w.cell? ⟨b, 3, none⟩ = some a3 ∧ w.cell? ⟨b, 4, none⟩ = some a4 ∧ w.cell? ⟨b, 5, none⟩ = some a5 ∧ b < w.heap.size :=
  ⟨cell_of_row w b 0 _ _ _ h, cell_of_row w b 1 _ _ _ h, cell_of_row w b 2 _ _ _ h, cell_of_row w b 3 _ _ _ h, cell_of_row w b 4 _ _ _ h, cell_of_row w b 5 _ _ _ h, (Array.getElem?_eq_some_iff.1 h).1⟩
/-- The objects' slice. -/
theorem objs_one {w : World} {ps : Nat} {v : Value} {t : TypeId} (h : w.heap[ps]? = some (.cells #[v] t (0, 0))) : Sl (fun v : Value => [v]) 1 w (.slice (some ⟨ps, 0, none⟩) 1 1) [v] := by
  refine Sl.of_block (enc := fun v : Value => [v]) (sz := 1) (xs := [v]) (c := 1) h (Nat.le_refl _) (by unfold maxLen; decide) ?_
  intro k x hx j u hu
  rcases k with _ | k
  · simp at hx
    subst hx
    rcases j with _ | j
    · simpa using hu
    · simp at hu
  · simp at hx
end Go.Proofs.YtfghmlpjbedomaaGreat
