/- Objects on a loom: what is told of a play, and put where the caller wants it. -/
/- Objects on a loom: how a law reads the events that are told. -/
import Derived.Test.YtlfingcmekifkaaBun11
namespace Go.Proofs.Ytlfingcmekifkaa
open Go.RowKit

/-- A report that tells nothing, as it lies. -/
def zeroRep : Obj := .cells #[.slice none 0 0, .slice none 0 0, .int .i64 0, .int .i64 0, .int .i64 0, .int .i64 0, .int .i64 0, .int .i64 0, .int .i64 0] 32
def zeroV : Value := .agg #[.slice none 0 0, .slice none 0 0, .int .i64 0, .int .i64 0, .int .i64 0, .int .i64 0, .int .i64 0, .int .i64 0, .int .i64 0]
/-- What comes of a play, as a package's Play tells it. -/
def OutPost (E : Int) (evs : List Ep) (m : Mm) (now idle : Int) (w : World) (e : Ending) (w' : World) : Prop :=
  (E ≠ 0 ∧ e = .returned (.tuple #[zeroV, .int .i64 E]) ∧ Below w.heap.size w w') ∨
  (E = 0 ∧ ∃ ev B Mu g c, e = .returned (.tuple #[repV ev (.slice (some ⟨g, 0, none⟩) m.words.length c) m now idle, .int .i64 0]) ∧ EvsAt w' B Mu ev evs ∧ w.heap.size ≤ B ∧ WRow w' w.heap.size (.slice (some ⟨g, 0, none⟩) m.words.length c) m.words ∧ Below w.heap.size w w')
/-- What loom.Play tells, with the place where the report shall go. -/
def MidPost (b0 : Nat) (Fo : Nat → Prop) (evs : List Ep) (m : Mm) (now idle : Int) (w : World) (e : Ending) (w' : World) : Prop :=
  ∃ Ae ce B Mu g c, e = .returned (.tuple #[repV (.slice Ae evs.length ce) (.slice (some ⟨g, 0, none⟩) m.words.length c) m now idle, .int .i64 0]) ∧ EvsAt w' B Mu (.slice Ae evs.length ce) evs ∧ w.heap.size ≤ B ∧ WRow w' w.heap.size (.slice (some ⟨g, 0, none⟩) m.words.length c) m.words ∧
    Keep (fun k => k < w.heap.size ∧ ¬ Fo k ∧ k ≠ b0) w w' ∧ w'.heap[b0]? = some zeroRep ∧ Mu b0
theorem ends_len {M O : Type} (G : Gm M O) (P : Ps M O) : (P.ends G).length = P.evs.length := by
  rw [← endsK_all, endsK_len]
theorem loomPlayMid {M O : Type} {T : Th M O} {n : Int} {AO : Option Addr} {co : Nat} {a : Addr} {nw cw : Nat} {words : List Int} {A : Option Addr} {m c : Nat} {cs : List Cl} {Ap : Option Addr} {np cp : Nat} {picks : List Int} {o : O} {Fo : Nat → Prop} {w : World} (hT : T.Ok) (hw : SlW w (.slice (some a) nw cw) words) (hwl : words.length = nw) (hw6 : nw ≤ 65536) (h : SlCl w (.slice A m c) cs) (hm : cs.length = m) (hp : SlI w (.slice Ap np cp) picks) (hpl : picks.length = np)
    (hO : T.OB w Fo o) (hV : Sl (fun v : Value => [v]) 1 w (.slice AO T.objs.length co) T.objs) (hVF : ∀ a : Addr, AO = some a → 0 < T.objs.length → ¬ Fo a.block) (hCF : ∀ a : Addr, A = some a → 0 < cs.length → ¬ Fo a.block) (hPF : ∀ a : Addr, Ap = some a → 0 < picks.length → ¬ Fo a.block)
    (hcu : ∀ c ∈ cs, ClU c) (hgd : T.good o (Ps.new words o cs.length : Ps M O).lw (fun _ => none)) (hE : chkE n cs picks.length = 0) {b0 : Nat} (hb0 : w.heap[b0]? = some zeroRep) (hbF : ¬ Fo b0) (hbV : ∀ a : Addr, AO = some a → a.block ≠ b0) (hbC : ∀ a : Addr, A = some a → 0 < cs.length → a.block ≠ b0) (hbP : ∀ a : Addr, Ap = some a → 0 < picks.length → a.block ≠ b0) (hnt : n ≤ T.nt ∨ T.nt = 16 := by exact Or.inr rfl) :
    Calls Try.prog 28 #[.int .i64 n, .slice AO T.objs.length co, .slice (some a) nw cw, .slice A m c, .slice Ap np cp] w (MidPost b0 Fo (((Ps.new words o cs.length).play T.G cs picks).ends T.G) ((Ps.new words o cs.length).play T.G cs picks).lw.mem ((Ps.new words o cs.length).play T.G cs picks).lw.now ((Ps.new words o cs.length).play T.G cs picks).idle w) := by
  have N := loomPlay (T := T.hold b0 zeroRep) (n := n) (Fo := fun k => Fo k ∨ k = b0) (Th.hold_ok hT b0 zeroRep) hw hwl hw6 h hm hp hpl ⟨Fo, hO, fun k => Iff.rfl, hbF, hb0⟩ hV (fun a e hl hk => by rcases hk with hk | hk; exact hVF a e hl hk; exact hbV a e hk) (fun a e hl hk => by rcases hk with hk | hk; exact hCF a e hl hk; exact hbC a e hl hk) (fun a e hl hk => by rcases hk with hk | hk; exact hPF a e hl hk; exact hbP a e hl hk) hcu hgd (hnt := hnt)
  refine N.mono ?_
  rintro e w' (⟨hE', _⟩ | ⟨_, ev, B, Mu, g, c', rfl, h1, h2, h3, h4, Fo', ⟨F1, o1, o2, o3, o4⟩, h6⟩)
  · exact absurd hE hE'
  · obtain ⟨raw, hrow, hrl, hre⟩ := h1.row
    obtain ⟨Ae, ce, rfl⟩ := own_slice hrow
    exact ⟨Ae, ce, B, Mu, g, c', rfl, h1, h2, h3, h4.mono (fun k hk => ⟨hk.1, fun e => by rcases e with e | e; exact hk.2.1 e; exact hk.2.2 e⟩), o4, h6 b0 ((o2 b0).2 (Or.inr rfl))⟩
/-- The report is put there. -/
theorem out_done {b0 : Nat} {Fo : Nat → Prop} {evs : List Ep} {m : Mm} {now idle : Int} {w0 w w5 : World} {Ae : Option Addr} {ce B g c : Nat} {Mu : Nat → Prop} (CR : List Value) (h1 : EvsAt w5 B Mu (.slice Ae evs.length ce) evs) (h2 : w.heap.size ≤ B) (h3 : WRow w5 w.heap.size (.slice (some ⟨g, 0, none⟩) m.words.length c) m.words) (h4 : Keep (fun k => k < w.heap.size ∧ ¬ Fo k ∧ k ≠ b0) w w5) (h6 : Mu b0)
    (hw : Below w0.heap.size w0 w) (hF : ∀ k, Fo k → w0.heap.size ≤ k) (hb : w0.heap.size ≤ b0) (hbw : b0 < w.heap.size) :
    OutPost 0 evs m now idle w0 (.returned (.tuple #[repV (.slice Ae evs.length ce) (.slice (some ⟨g, 0, none⟩) m.words.length c) m now idle, .int .i64 0])) (w5.setCells b0 0 CR) := by
  have hz := hw.size
  have hk := Keep.setCells (K := fun k => k ≠ b0) (b := b0) (Keep.refl _ w5) (by simp) 0 CR
  refine Or.inr ⟨rfl, _, B, Mu, g, c, rfl, h1.keep hk (fun k _ h e => h (e ▸ h6)) (fun k _ hm => hm) (fun k hk e => ?_), Nat.le_trans hz h2, ?_, ?_⟩
  · obtain ⟨raw, hrow, _⟩ := h1.row
    have := (World.ownsRow.lt hrow k hk).1
    omega
  · refine owns_base (owns_keepV h3 hk (fun k hk => ?_)) hz
    have := (World.ownsRow.lt h3 k hk).1
    omega
  · have k1 : Keep (fun k => k < w0.heap.size) w0 w5 := (Keep.of_below hw (fun k hk => hk)).trans (h4.mono (fun k hk => ⟨Nat.lt_of_lt_of_le hk hz, fun h => by have := hF k h; omega, by omega⟩))
    exact (k1.trans (hk.mono (fun k hk e => by omega))).below (fun k hk => hk)
theorem zero_there {w : World} {b : Nat} (h : w.heap[b]? = some zeroRep) (CR : List Value) (hl : CR.length = 9) : w.there b 0 CR.length := by
  intro j hj
  refine ⟨?_, frozen_of_row w _ _ _ _ h⟩
  rw [cell_of_row w _ _ _ _ _ h]
  simp only [Nat.zero_add]
  exact isSome_lt (by rw [hl] at hj; exact hj)
theorem made_words (W : World) (N g : Nat) (hg : g = W.heap.size) (hN : N ≤ maxLen) : SlW (W.alloc (.cells (madeCells #[.int .u64 0] N) 37)) (.slice (some ⟨g, 0, none⟩) N N) (List.replicate N 0) := by
  subst hg
  have := Sl.of_block (enc := ntEnc .u64) (sz := 1) (xs := List.replicate N (0 : Int)) (c := N) (heap_alloc_new W (.cells (madeCells #[.int .u64 0] N) 37)) (by simp) hN (fun k x hx j u hu => by
    have hk : k < N := by have := (List.getElem?_eq_some_iff.1 hx).1; simpa using this
    have hx0 : x = 0 := by
      have h1 := List.getElem?_eq_some_iff.1 hx
      obtain ⟨_, h2⟩ := h1
      simpa using h2.symm
    subst hx0
    rcases j with _ | j
    · simp [ntEnc] at hu
      subst hu
      rw [← Array.getElem?_toList, toList_madeCells_one]
      simp [hk]
    · simp [ntEnc] at hu)
  rw [List.length_replicate] at this
  exact this
theorem made_sl {W : World} {N g : Nat} (h : W.heap[g]? = some (.cells (madeCells #[.int .u64 0] N) 37 (0, 0))) (hN : N ≤ maxLen) : SlW W (.slice (some ⟨g, 0, none⟩) N N) (List.replicate N 0) := by
  have := Sl.of_block (enc := ntEnc .u64) (sz := 1) (xs := List.replicate N (0 : Int)) (c := N) h (by simp) hN (fun k x hx j u hu => by
    have hk : k < N := by have := (List.getElem?_eq_some_iff.1 hx).1; simpa using this
    have hx0 : x = 0 := by
      have h1 := List.getElem?_eq_some_iff.1 hx
      obtain ⟨_, h2⟩ := h1
      simpa using h2.symm
    subst hx0
    rcases j with _ | j
    · simp [ntEnc] at hu
      subst hu
      rw [← Array.getElem?_toList, toList_madeCells_one]
      simp [hk]
    · simp [ntEnc] at hu)
  rw [List.length_replicate] at this
  exact this
def W64 (l : List Int) : Prop := ∀ x ∈ l, 0 ≤ x ∧ x < 18446744073709551616
theorem tell0_bd {m : Mm} (h : W64 m.words) (a : Int) : 0 ≤ m.tell 0 a 0 ∧ m.tell 0 a 0 < 18446744073709551616 := by
  unfold Mm.tell acV
  split
  · rename_i hin
    rw [if_pos rfl]
    unfold Mm.at
    unfold Mm.in at hin
    rw [List.getElem?_eq_getElem (by omega)]
    exact h _ (List.getElem_mem _)
  · omega
theorem acc_w64 {m : Mm} (h : W64 m.words) (k a x y : Int) (hy : 0 ≤ acY k (m.at a) x y ∧ acY k (m.at a) x y < 18446744073709551616) : W64 (m.acc k a x y).words := by
  unfold Mm.acc
  split
  · intro z hz
    have hz : z ∈ m.words.set a.toNat (acY k (m.at a) x y) := hz
    rcases List.mem_or_eq_of_mem_set hz with h1 | h1
    · exact h z h1
    · rw [h1]; exact hy
  · exact h
theorem at_bd {m : Mm} (h : W64 m.words) (a : Int) : 0 ≤ m.at a ∧ m.at a < 18446744073709551616 := by
  unfold Mm.at
  rcases hw : m.words[a.toNat]? with _ | z
  · simp
  · exact h _ (List.mem_of_getElem? hw)
theorem cells6 {w : World} {b : Nat} {a0 a1 a2 a3 a4 a5 : Value} {t : TypeId} (h : w.heap[b]? = some (.cells #[a0, a1, a2, a3, a4, a5] t (0, 0))) : w.cell? ⟨b, 0, none⟩ = some a0 ∧ w.cell? ⟨b, 1, none⟩ = some a1 ∧ w.cell? ⟨b, 2, none⟩ = some a2 ∧ w.cell? ⟨b, 3, none⟩ = some a3 ∧ w.cell? ⟨b, 4, none⟩ = some a4 ∧ w.cell? ⟨b, 5, none⟩ = some a5 ∧ b < w.heap.size :=
  ⟨cell_of_row w b 0 _ _ _ h, cell_of_row w b 1 _ _ _ h, cell_of_row w b 2 _ _ _ h, cell_of_row w b 3 _ _ _ h, cell_of_row w b 4 _ _ _ h, cell_of_row w b 5 _ _ _ h, (Array.getElem?_eq_some_iff.1 h).1⟩
/-- The objects' slice. -/
theorem objs_one {w : World} {ps : Nat} {v : Value} {t : TypeId} (h : w.heap[ps]? = some (.cells #[v] t (0, 0))) : Sl (fun v : Value => [v]) 1 w (.slice (some ⟨ps, 0, none⟩) 1 1) [v] := by
  refine Sl.of_block (enc := fun v : Value => [v]) (sz := 1) (xs := [v]) (c := 1) h (Nat.le_refl _) (by unfold maxLen; decide) ?_
  intro k x hx j u hu
  rcases k with _ | k
  · simp at hx
    subst hx
    rcases j with _ | j
    · simpa using hu
    · simp at hu
  · simp at hx
end Go.Proofs.Ytlfingcmekifkaa

namespace Go.Proofs.Ytlfingcmekifkaa
open Go.RowKit

theorem owns_max {w : World} {base sz n : Nat} {e : TypeId} {v : Value} {xs : List Value} (h : w.ownsRow base e sz v n xs) : n ≤ maxLen := by
  rcases h.2 with ⟨_, h0⟩ | ⟨g, cap, cur, _, _, _, h1, h2, _⟩
  · omega
  · omega
/-- The events that are told are the play's, but for keys. -/
theorem ends_get {M O : Type} {G : Gm M O} {P : Ps M O} {h : Nat} {e : Ep} (he : (P.ends G)[h]? = some e) : ∃ e0, P.evs[h]? = some e0 ∧ e.call = e0.call ∧ e.inv = e0.inv ∧ e.resp = e0.resp ∧ e.steps = e0.steps ∧ e.ans = e0.ans := by
  rw [← endsK_all] at he
  have key : ∀ k (e : Ep), (P.endsK G k)[h]? = some e → ∃ e0, P.evs[h]? = some e0 ∧ e.call = e0.call ∧ e.inv = e0.inv ∧ e.resp = e0.resp ∧ e.steps = e0.steps ∧ e.ans = e0.ans := by
    intro k
    induction k with
    | zero => exact fun e he => ⟨e, he, rfl, rfl, rfl, rfl, rfl⟩
    | succ k ih =>
      intro e he
      rw [endsK_succ] at he
      unfold endT at he
      split at he
      · exact ih e he
      · rcases mod_get he with ⟨_, h1⟩ | ⟨_, d, hd, rfl⟩
        · exact ih e h1
        · exact ih d hd
  exact key 16 e he
/-- What is so of an event of a row. -/
theorem ev_of {w : World} {B : Nat} {Mu : Nat → Prop} {v : Value} {es : List Ep} (h : EvsAt w B Mu v es) (hn : 0 < es.length) : ∃ g c, v = .slice (some ⟨g, 0, none⟩) es.length c ∧ B ≤ g ∧ g < w.heap.size ∧ ∀ (k : Nat) (e : Ep), es[k]? = some e → ∃ x : Ev, EvIs w Mu x e ∧ ∀ (j : Nat) (u : Value), (evEnc x)[j]? = some u → w.cell? ⟨g, k * 8 + j, none⟩ = some u := by
  obtain ⟨raw, hrow, hrl, hre⟩ := h.row
  obtain ⟨g, c, rfl, hg, hz⟩ := own_some' hrow hn
  refine ⟨g, c, rfl, hg, hz, fun k e he => ?_⟩
  obtain ⟨x, hx⟩ : ∃ x, raw[k]? = some x := ⟨_, List.getElem?_eq_getElem (by rw [hrl]; exact (List.getElem?_eq_some_iff.1 he).1)⟩
  exact ⟨x, hre k x e hx he, fun j u hu => row_cells hrow hx hrl j u hu⟩
theorem evs_len {w : World} {B : Nat} {Mu : Nat → Prop} {v : Value} {es : List Ep} (h : EvsAt w B Mu v es) : ∃ A c, v = .slice A es.length c ∧ es.length ≤ maxLen := by
  obtain ⟨raw, hrow, hrl, hre⟩ := h.row
  obtain ⟨A, c, e⟩ := own_slice hrow
  exact ⟨A, c, e, owns_max hrow⟩
/-- The cells of an event of a row. -/
theorem ev_at {w : World} {B c : Nat} {Mu : Nat → Prop} {A : Option Addr} {es : List Ep} (h : EvsAt w B Mu (.slice A es.length c) es) {k : Nat} {e : Ep} (he : es[k]? = some e) : ∃ g, A = some ⟨g, 0, none⟩ ∧ g < w.heap.size ∧ ∃ x : Ev, EvIs w Mu x e ∧ w.cell? ⟨g, k * 8, none⟩ = some (.int .i64 e.call) ∧ w.cell? ⟨g, k * 8 + 1, none⟩ = some (.int .i64 e.inv) ∧ w.cell? ⟨g, k * 8 + 2, none⟩ = some (.int .i64 e.resp) ∧
    w.cell? ⟨g, k * 8 + 3, none⟩ = some (.int .i64 e.steps) ∧ w.cell? ⟨g, k * 8 + 4, none⟩ = some (.int .i64 e.ans.err) ∧ w.cell? ⟨g, k * 8 + 5, none⟩ = some (.int .u64 e.ans.val) ∧ w.cell? ⟨g, k * 8 + 6, none⟩ = some (.slice x.lA x.lN x.lC) ∧ w.cell? ⟨g, k * 8 + 7, none⟩ = some (.slice x.kA x.kN x.kC) := by
  have hl := (List.getElem?_eq_some_iff.1 he).1
  obtain ⟨g, c', e1, _, hz, hx⟩ := ev_of h (by omega)
  obtain ⟨x, hi, hr⟩ := hx k e he
  cases e1
  refine ⟨g, rfl, hz, x, hi, ?_, ?_, ?_, ?_, ?_, ?_, ?_, ?_⟩
  · rw [← hi.call]; exact hr 0 _ rfl
  · rw [← hi.inv]; exact hr 1 _ rfl
  · rw [← hi.resp]; exact hr 2 _ rfl
  · rw [← hi.steps]; exact hr 3 _ rfl
  · rw [← hi.err]; exact hr 4 _ rfl
  · rw [← hi.val]; exact hr 5 _ rfl
  · exact hr 6 _ rfl
  · exact hr 7 _ rfl
theorem EvsAt.below {w w' : World} {B : Nat} {Mu : Nat → Prop} {v : Value} {es : List Ep} (h : EvsAt w B Mu v es) (hb : Below w.heap.size w w') : EvsAt w' B Mu v es := by
  obtain ⟨raw, hrow, hrl, hre⟩ := h.row
  have hk := Keep.of_below (K := fun k => k < w.heap.size) hb (fun k hk => hk)
  exact h.keep hk (fun k hk _ => hk) (fun k _ hm => hm) (fun k hk => (World.ownsRow.lt hrow k hk).2)
end Go.Proofs.Ytlfingcmekifkaa
