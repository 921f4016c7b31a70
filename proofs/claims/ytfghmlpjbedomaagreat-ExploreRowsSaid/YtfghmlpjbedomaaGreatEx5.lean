/- All plays of two threads that propose: what is so in each round (explore.All). -/
import Derived.Test.YtfghmlpjbedomaaGreatBun5
import Derived.Test.YtfghmlpjbedomaaGreatRn1
import Derived.Test.YtfghmlpjbedomaaGreatBun14
import Derived.WalkMore
namespace Go.Proofs.YtfghmlpjbedomaaGreat
open Go.RowKit Go.Maps

/-- Plays, those that are done, and most steps, of some rows. -/
def exStep (s : Int × Int × Int) (i : Nat) : Int × Int × Int := (s.1 + 1, (if exDone (exEvs i) = 2 then s.2.1 + 1 else s.2.1), exMost s.2.2 (exEvs i))
def exF (l : List Nat) : Int × Int × Int := l.foldl exStep (0, 0, 0)
theorem exF_snoc (l : List Nat) (i : Nat) : exF (l ++ [i]) = exStep (exF l) i := by simp [exF, List.foldl_append]
theorem exF_all : exF (List.range 16) = (16, 6, 2) := by kernel_rfl
/-- The keys of what has responded. -/
def exKeys (l : List Ep) : List Lit := (l.filter fun e => decide (e.resp ≠ 0)).map fun e => Lit.int .i64 (e.call : Int)
theorem ex_facts (i : Nat) (h : i < 16) : ((exKeys (exEvs i)).foldl addKey []).length = exDone (exEvs i) ∧ (exEvs i).length ≤ 2 ∧ ∀ e ∈ exEvs i, e.call < 2 ∧ e.ans.list = [] := by
  have key : ∀ i : Fin 16, ((exKeys (exEvs i)).foldl addKey []).length = exDone (exEvs i) ∧ (exEvs i).length ≤ 2 ∧ ∀ e ∈ exEvs i, e.call < 2 ∧ e.ans.list = [] := by
    decide +kernel
  exact key ⟨i, h⟩
theorem exKeys_step {l : List Ep} {k : Nat} {e : Ep} (h : l[k]? = some e) : exKeys (l.take (k + 1)) = if e.resp = 0 then exKeys (l.take k) else exKeys (l.take k) ++ [Lit.int .i64 (e.call : Int)] := by
  unfold exKeys
  rw [List.take_add_one, h, List.filter_append, List.map_append]
  by_cases h0 : e.resp = 0 <;> simp [h0]
theorem exMost_step {l : List Ep} {k : Nat} {e : Ep} {m : Int} (h : l[k]? = some e) : exMost m (l.take (k + 1)) = max (exMost m (l.take k)) e.steps := by
  unfold exMost
  rw [List.take_add_one, h, List.foldl_append]
  rfl
theorem exF_bd (l : List Nat) : (exF l).1 = l.length ∧ 0 ≤ (exF l).2.1 ∧ (exF l).2.1 ≤ l.length := by
  have key : ∀ (l : List Nat) (s : Int × Int × Int), (l.foldl exStep s).1 = s.1 + l.length ∧ s.2.1 ≤ (l.foldl exStep s).2.1 ∧ (l.foldl exStep s).2.1 ≤ s.2.1 + l.length := by
    intro l
    induction l with
    | nil => intro s; simp
    | cons i l ih =>
      intro s
      obtain ⟨h1, h2, h3⟩ := ih (exStep s i)
      rw [List.foldl_cons, List.length_cons]
      have e1 : (exStep s i).1 = s.1 + 1 := rfl
      have e2 : s.2.1 ≤ (exStep s i).2.1 ∧ (exStep s i).2.1 ≤ s.2.1 + 1 := by
        unfold exStep
        simp only
        split <;> omega
      rw [e1] at h1
      refine ⟨by omega, by omega, by omega⟩
  obtain ⟨h1, h2, h3⟩ := key l (0, 0, 0)
  exact ⟨by rw [exF, h1]; simp, h2, by unfold exF; simpa using h3⟩
theorem max_if (a b : Int) : (if a < b then b else a) = max a b := by
  split <;> omega
/-- What is so behind some rows: what was found; the plays that differ. -/
structure AllI (z0 fb kb : Nat) (Y : World) (l : List Nat) (W : World) : Prop where
  found : W.heap[fb]? = some (.cells #[.int .i64 (exF l).1, .int .i64 (exF l).2.1, .int .i64 (exF l).2.2, .int .i64 0] 46 (0, 0))
  kinds : ∃ (v : Value) (ms : List Nat), Boxed W kb 80 v ∧ W.ownsRow z0 84 1 v ms.length (ms.map fun b => Value.map (some b)) ∧ ms.length ≤ l.length ∧ ∀ b ∈ ms, ∃ n D, AnsM W b n D
  keep : Keep (fun k => k < z0 ∧ k ≠ fb ∧ k ≠ kb) Y W
theorem AllI.turn {z0 fb kb : Nat} {Y : World} {l : List Nat} {W W' : World} (h : AllI z0 fb kb Y l W) (hf : fb < z0) (hk : kb < z0) {row : Option Nat} (hg : W.grownBy W' row) (hr : ∀ r, row = some r → z0 ≤ r ∧ ∃ o : Obj, W.heap[r]? = some o ∧ o.isCells = false ∧ o.isWalk = false) (hz : z0 ≤ W.heap.size) : AllI z0 fb kb Y l W' := by
  have hlow : ∀ k, k < z0 → W'.heap[k]? = W.heap[k]? := fun k hk => hg.block k (by omega) (fun e => by have := (hr k e.symm).1; omega)
  have hcell : ∀ (k : Nat) (o : Obj), W.heap[k]? = some o → (o.isCells = true ∨ o.isWalk = true) → W'.heap[k]? = some o := fun k o ho hc => (hg.block k (Array.getElem?_eq_some_iff.1 ho).1 (fun e => by
    obtain ⟨_, o2, h1, h2, h3⟩ := hr k e.symm
    rw [ho] at h1
    cases h1
    rcases hc with hc | hc
    · rw [hc] at h2; cases h2
    · rw [hc] at h3; cases h3)).trans ho
  refine ⟨(hlow _ hf).trans h.found, ?_, h.keep.trans ⟨hg.os, hg.tape, hg.output, hg.size, fun k hk => hlow k hk.1⟩⟩
  obtain ⟨v, ms, h1, h2, h3, h4⟩ := h.kinds
  refine ⟨v, ms, (hlow _ hk).trans h1, ?_, h3, fun b hb => ?_⟩
  · obtain ⟨g1, g2 | ⟨g, cap, cur, e1, e2, e3, e4⟩⟩ := h2
    · exact ⟨g1, Or.inl g2⟩
    · exact ⟨g1, Or.inr ⟨g, cap, cur, e1, e2, hcell _ _ e3 (Or.inl rfl), e4⟩⟩
  · obtain ⟨n, D, es, clock, g1, g2⟩ := h4 b hb
    exact ⟨n, D, es, clock, hcell _ _ g1 (Or.inr rfl), g2⟩
theorem five_at {Y : World} (w : World) (o1 o2 o3 o4 o5 : Obj) (h : Y = ((((w.alloc o1).alloc o2).alloc o3).alloc o4).alloc o5) : Y.heap[w.heap.size + 1]? = some o2 ∧ Y.heap[w.heap.size + 2]? = some o3 ∧ Y.heap[w.heap.size + 3]? = some o4 ∧ Y.heap[w.heap.size + 3 + 1]? = some o5 := by
  subst h
  have key : ∀ (k : Nat) (o : Obj), (((((w.heap.push o1).push o2).push o3).push o4).push o5)[k]? = some o ↔ ((((((w.alloc o1).alloc o2).alloc o3).alloc o4).alloc o5).heap[k]? = some o) := fun _ _ => Iff.rfl
  refine ⟨(key _ _).1 ?_, (key _ _).1 ?_, (key _ _).1 ?_, (key _ _).1 ?_⟩
  all_goals
    simp only [Array.getElem?_push, Array.size_push]
    repeat first | rw [if_pos trivial] | rw [if_pos (by omega)] | rw [if_neg (by omega)]
/-- In a round: what was found so far, the play's answers, and what stays. -/
structure RdI (fb zr mb : Nat) (Z : World) (p d m : Int) (n : Nat) (D : DataW Unit) (wr : World) : Prop where
  found : wr.heap[fb]? = some (.cells #[.int .i64 p, .int .i64 d, .int .i64 m, .int .i64 0] 46 (0, 0))
  map : AnsM wr mb n D
  keep : Keep (fun k => k < zr ∧ k ≠ fb) Z wr
  le : zr ≤ mb
theorem RdI.alloc {fb zr mb : Nat} {Z : World} {p d m : Int} {n : Nat} {D : DataW Unit} {wr : World} (h : RdI fb zr mb Z p d m n D wr) (o : Obj) : RdI fb zr mb Z p d m n D (wr.alloc o) :=
  ⟨(Below.heap_alloc _ _ _ (Array.getElem?_eq_some_iff.1 h.found).1).trans h.found, World.ownsMap.alloc h.map o, h.keep.alloc (fun k hk => by have := h.map.lt; have := h.le; omega) o, h.le⟩
theorem RdI.put {fb zr mb : Nat} {Z : World} {p d m : Int} {n : Nat} {D : DataW Unit} {wr : World} (h : RdI fb zr mb Z p d m n D wr) (hne : mb ≠ fb) (i : Nat) (v : Value) {p' d' m' : Int} (he : (#[Value.int .i64 p, .int .i64 d, .int .i64 m, .int .i64 0] : Array Value).setIfInBounds i v = #[.int .i64 p', .int .i64 d', .int .i64 m', .int .i64 0]) : RdI fb zr mb Z p' d' m' n D (wr.setCell ⟨fb, i, none⟩ v) := by
  refine ⟨?_, ?_, h.keep.setCell (fun hk => hk.2 rfl) v, h.le⟩
  · rw [cells_set h.found, he]
  · obtain ⟨es, clock, h1, h2⟩ := h.map
    exact ⟨es, clock, (Below.heap_setCell _ _ _ _ hne).trans h1, h2⟩
theorem RdI.mono {fb zr mb : Nat} {Z : World} {p d m : Int} {n n' : Nat} {D : DataW Unit} {wr : World} (h : RdI fb zr mb Z p d m n D wr) (hn : n ≤ n') : RdI fb zr mb Z p d m n' D wr := ⟨h.found, World.ownsMap.mono h.map hn, h.keep, h.le⟩
theorem RdI.upd {fb zr mb : Nat} {Z : World} {p d m : Int} {n n' : Nat} {D D' : DataW Unit} {wr w' : World} (h : RdI fb zr mb Z p d m n D wr) (hne : mb ≠ fb) (hm : AnsM w' mb n' D') (hg : wr.grownBy w' (some mb)) : RdI fb zr mb Z p d m n' D' w' :=
  ⟨(hg.block _ (Array.getElem?_eq_some_iff.1 h.found).1 (fun e => hne (by cases e; rfl))).trans h.found, hm, h.keep.trans ⟨hg.os, hg.tape, hg.output, hg.size, fun k hk => hg.block k (by have := h.map.lt; have := h.le; omega) (fun e => by cases e; have := h.le; omega)⟩, h.le⟩
theorem RdI.cell {fb zr mb : Nat} {Z : World} {p d m : Int} {n : Nat} {D : DataW Unit} {wr : World} (h : RdI fb zr mb Z p d m n D wr) : wr.cell? ⟨fb, 0, none⟩ = some (.int .i64 p) ∧ wr.cell? ⟨fb, 1, none⟩ = some (.int .i64 d) ∧ wr.cell? ⟨fb, 2, none⟩ = some (.int .i64 m) ∧ wr.cell? ⟨fb, 3, none⟩ = some (.int .i64 0) :=
  ⟨cell_of_row _ _ 0 _ _ _ h.found, cell_of_row _ _ 1 _ _ _ h.found, cell_of_row _ _ 2 _ _ _ h.found, cell_of_row _ _ 3 _ _ _ h.found⟩
theorem RdI.frozen {fb zr mb i : Nat} {Z : World} {p d m : Int} {n : Nat} {D : DataW Unit} {wr : World} (h : RdI fb zr mb Z p d m n D wr) : wr.frozen? ⟨fb, i, none⟩ = false := frozen_of_row wr fb i _ _ h.found
theorem RdI.lt {fb zr mb : Nat} {Z : World} {p d m : Int} {n : Nat} {D : DataW Unit} {wr : World} (h : RdI fb zr mb Z p d m n D wr) : fb < wr.heap.size := (Array.getElem?_eq_some_iff.1 h.found).1
theorem key_lt2 {c : Nat} (h : c < 2) : Go.keyOf Tryz.prog 3 (.int .i64 (c : Int)) = some (Lit.int .i64 (c : Int)) := by
  have h2 : c = 0 ∨ c = 1 := by omega
  rcases h2 with rfl | rfl
  · exact Maps.keyOf_int_mk Tryz.underlying3 (by kernel_rfl)
  · exact Maps.keyOf_int_mk Tryz.underlying3 (by kernel_rfl)
theorem ans_list0 {w : World} {Mu : Nat → Prop} {x : Ev} {e : Ep} (h : EvIs w Mu x e) (hl : e.ans.list = []) : x.lN = 0 := by
  obtain ⟨A, c, e1, _⟩ := h.list
  rw [hl] at e1
  injection e1 with _ e2 _
abbrev exD (l : List Ep) : DataW Unit := setOf (.lit (.bool true)) (exKeys l)
theorem exD_nil : exD [] = .map [] := rfl
theorem exD_step {l : List Ep} {k : Nat} {e : Ep} (h : l[k]? = some e) : exD (l.take (k + 1)) = if e.resp = 0 then exD (l.take k) else (exD (l.take k)).put (Lit.int .i64 (e.call : Int)) (.lit (.bool true)) := by
  unfold exD
  rw [exKeys_step h]
  split
  · rfl
  · simp [setOf, List.foldl_append]
theorem exD_size {i : Nat} (h : i < 16) : Maps.size (exD (exEvs i)) = exDone (exEvs i) := by
  unfold exD
  rw [size_setOf]
  · exact (ex_facts i h).1
  · intro x hx
    simp only [exKeys, List.mem_map, List.mem_filter] at hx
    obtain ⟨e, ⟨he, _⟩, rfl⟩ := hx
    trivial
theorem exC_ok : (∀ c ∈ exC, ClU c) ∧ (∀ c ∈ exC, cnCl c) := by
  constructor
  · intro c hc
    simp [exC] at hc
    rcases hc with rfl | rfl <;> simp [ClU]
  · intro c hc
    simp [exC] at hc
    rcases hc with rfl | rfl <;> simp [cnCl]
theorem exC_chk (np : Nat) (h : np ≤ 65536) : chkE 2 exC np = 0 := by
  have h1 : wrongE 2 exC = 0 := by decide
  unfold chkE
  rw [if_neg (by omega), if_neg (by simp [exC]; omega)]
  exact h1
/-- What a run hands back, told without what is not read. -/
theorem rnOut {evs : List Ep} {m : Mm} {now idle : Int} {w w' : World} {e : Ending} (h : OutPost 0 evs m now idle w e w') : ∃ (Ae : Option Addr) (ce B : Nat) (Mu : Nat → Prop) (Aw : Option Addr) (nw cw : Nat) (r1 r2 r3 r4 r5 r6 r7 : Int), e = .returned (.tuple #[.agg #[.slice Ae evs.length ce, .slice Aw nw cw, .int .i64 r1, .int .i64 r2, .int .i64 r3, .int .i64 r4, .int .i64 r5, .int .i64 r6, .int .i64 r7], .int .i64 0]) ∧ EvsAt w' B Mu (.slice Ae evs.length ce) evs ∧ w.heap.size ≤ B ∧ Below w.heap.size w w' := by
  rcases h with ⟨hne, _⟩ | ⟨_, ev, B, Mu, g, c, rfl, h1, h2, _, h3⟩
  · exact absurd rfl hne
  · obtain ⟨raw, hrow, _⟩ := h1.row
    obtain ⟨Ae, ce, rfl⟩ := own_slice hrow
    exact ⟨Ae, ce, B, Mu, _, _, _, _, _, _, _, _, _, _, rfl, h1, h2, h3⟩
theorem _root_.Go.Boxed.keepK {W W' : World} {K : Nat → Prop} {B : Nat} {t : TypeId} {v : Value} (h : Boxed W B t v) (hk : Keep K W W') (hB : K B) : Boxed W' B t v := (hk.block B hB).trans h
theorem exF_next {l : List Nat} {pi : Nat} {p d m : Int} (hp : (exF l).1 = p) (hd : (exF l).2.1 = d) (hm : (exF l).2.2 = m) : (exF (l ++ [pi])).1 = p + 1 ∧ (exF (l ++ [pi])).2.1 = (if exDone (exEvs pi) = 2 then d + 1 else d) ∧ (exF (l ++ [pi])).2.2 = exMost m (exEvs pi) := by
  rw [exF_snoc, ← hp, ← hd, ← hm]
  exact ⟨rfl, rfl, rfl⟩
/-- A round is done. -/
theorem AllI.fin {zb : Nat} {Y W W' : World} {l : List Nat} {pi : Nat} {v v' : Value} {ms ms' : List Nat} (hI : AllI (zb + 5) (zb + 1) (zb + 2) Y l W) (hbx : Boxed W (zb + 2) 80 v) (hrow : W.ownsRow (zb + 5) 84 1 v ms.length (ms.map fun b => Value.map (some b))) (hms : ∀ b ∈ ms, ∃ n D, AnsM W b n D) (hz : zb + 5 ≤ W.heap.size)
    (hK : Keep (fun k => k < W.heap.size ∧ k ≠ zb + 1 ∧ k ≠ zb + 2 ∧ v.ownBlock ≠ some k) W W')
    (hf : W'.heap[zb + 1]? = some (.cells #[.int .i64 (exF (l ++ [pi])).1, .int .i64 (exF (l ++ [pi])).2.1, .int .i64 (exF (l ++ [pi])).2.2, .int .i64 0] 46 (0, 0)))
    (hbx' : Boxed W' (zb + 2) 80 v') (hrow' : W'.ownsRow (zb + 5) 84 1 v' ms'.length (ms'.map fun b => Value.map (some b))) (hml' : ms'.length ≤ l.length + 1) (hms' : ∀ b ∈ ms', b ∈ ms ∨ ∃ n D, AnsM W' b n D) :
    KeepsFrom (zb + 5) W W' ∧ Keep (fun k => k = zb + 3 ∨ k = zb + 3 + 1) W W' ∧ AllI (zb + 5) (zb + 1) (zb + 2) Y (l ++ [pi]) W' ∧ zb + 5 ≤ W'.heap.size := by
  have hcl : ∀ k, v.ownBlock = some k → zb + 5 ≤ k ∧ ∃ cs, W.heap[k]? = some (.cells cs 84 (0, 0)) := by
    intro k hk
    refine ⟨(World.ownsRow.lt hrow k hk).1, ?_⟩
    rcases hrow.2 with ⟨rfl, _⟩ | ⟨g, cap, cur, rfl, _, h3, _⟩
    · cases hk
    · cases hk
      exact ⟨cur, h3⟩
  refine ⟨⟨hK.size, fun k o hB ho hc => ?_⟩, hK.mono (fun k hk => ⟨by omega, by omega, by omega, fun e => by have := (hcl k e).1; omega⟩), ⟨hf, ⟨v', ms', hbx', hrow', by simpa using hml', fun b hb => ?_⟩, ?_⟩, Nat.le_trans hz hK.size⟩
  · have hlt := (Array.getElem?_eq_some_iff.1 ho).1
    refine (hK.block k ⟨hlt, by omega, by omega, fun e => ?_⟩).trans ho
    obtain ⟨_, cs, h2⟩ := hcl k e
    rw [ho] at h2
    cases h2
    cases hc
  · rcases hms' b hb with h1 | h1
    · obtain ⟨n, D, es, clock, g1, g2⟩ := hms b h1
      have hlt := (Array.getElem?_eq_some_iff.1 g1).1
      refine ⟨n, D, es, clock, (hK.block b ⟨hlt, fun e => ?_, fun e => ?_, fun e => ?_⟩).trans g1, g2⟩
      · have := hI.found
        rw [← e, g1] at this
        cases this
      · have h3 : W.heap[b]? = some (.cells #[v] 80 (0, 0)) := by rw [e]; exact hbx
        rw [g1] at h3
        cases h3
      · obtain ⟨_, cs, h2⟩ := hcl b e
        rw [g1] at h2
        cases h2
    · exact h1
  · exact hI.keep.trans (hK.mono (fun k hk => ⟨by omega, hk.2.1, hk.2.2, fun e => by have := (hcl k e).1; omega⟩))
theorem info_amap : (Tryz.prog.info? 84).map (fun i => (i.zero, i.size, i.bytes)) = some (some (.map none), 1, 8) := by kernel_rfl
end Go.Proofs.YtfghmlpjbedomaaGreat
