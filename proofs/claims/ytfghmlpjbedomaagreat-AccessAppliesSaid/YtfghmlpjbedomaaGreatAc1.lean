/- Accesses that are told (package access, law 44): the hook that a player lays, walked: what it is told it puts to the others. -/
import Derived.Test.YtfghmlpjbedomaaGreatBun4
import Derived.Test.YtfghmlpjbedomaaGreatBun1
import Derived.Test.YtfghmlpjbedomaaGreatLo6
import Derived.Deep.DeepCutAuto
namespace Go.Proofs.YtfghmlpjbedomaaGreat
open Go.RowKit

/-- An access as it is told. -/
structure Ac where
  tick : Int
  thread : Int
  kind : Int
  at_ : Int
  old : Int
  now : Int
def acEnc (a : Ac) : List Value := [.int .i64 a.tick, .int .i64 a.thread, .int .i64 a.kind, .int .i64 a.at_, .int .u64 a.old, .int .u64 a.now]
theorem acEnc_len (a : Ac) : (acEnc a).length = 6 := rfl
theorem info_access : (Tryz.prog.info? 39).map (fun i => (i.zero, i.size, i.bytes)) = some (some (.agg #[.int .i64 0, .int .i64 0, .int .i64 0, .int .i64 0, .int .u64 0, .int .u64 0]), 6, 48) := by kernel_rfl
def toldV (ob : Nat) : Value := .func (.func 41) #[] #[.pointer (some ⟨ob, 0, none⟩)]
def hookV (tb qb : Nat) : Value := .func (.func 57) #[] #[.pointer (some ⟨tb, 0, none⟩), .pointer (some ⟨qb, 0, none⟩)]
/-- The list as it lies. -/
structure AcRow (w : World) (ob B : Nat) (v : Value) (l : List Ac) : Prop where
  box : w.heap[ob]? = some (.cells #[v] 34 (0, 0))
  row : w.ownsRow B 39 6 v l.length (l.flatMap acEnc)
theorem AcRow.keep {w w' : World} {ob B : Nat} {v : Value} {l : List Ac} {S : Nat → Prop} (h : AcRow w ob B v l) (hk : Keep S w w') (h1 : S ob) (h2 : ∀ k, v.ownBlock = some k → S k) : AcRow w' ob B v l :=
  ⟨(hk.block _ h1).trans h.box, owns_keepV h.row hk h2⟩
theorem AcRow.ne {w : World} {ob B : Nat} {v : Value} {l : List Ac} (h : AcRow w ob B v l) : v.ownBlock ≠ some ob := by
  rcases h.row.2 with ⟨rfl, _⟩ | ⟨g, cap, cur, rfl, _, h3, _⟩
  · intro e; cases e
  · intro e
    cases e
    have := h.box
    rw [h3] at this
    injection this with h1
    injection h1 with _ h1 _
    exact absurd h1 (by decide)
def ToldPost (w : World) (ob B : Nat) (v : Value) (l : List Ac) (x : Ac) (e : Ending) (w' : World) : Prop :=
  e = .returned (.tuple #[]) ∧ ∃ v', AcRow w' ob B v' (l ++ [x]) ∧ (v'.ownBlock = v.ownBlock ∨ ∃ b, v'.ownBlock = some b ∧ w.heap.size ≤ b) ∧ Keep (fun k => k < w.heap.size ∧ k ≠ ob ∧ v.ownBlock ≠ some k) w w'
set_option maxRecDepth 100000 in
set_option maxHeartbeats 2000000 in
theorem toldW {w : World} {ob B : Nat} {v : Value} {l : List Ac} (x : Ac) (h : AcRow w ob B v l) (hB : B ≤ w.heap.size) (hl : l.length ≤ 2000000) :
    Calls Tryz.prog 41 #[.int .i64 x.tick, .int .i64 x.thread, .int .i64 x.kind, .int .i64 x.at_, .int .u64 x.old, .int .u64 x.now, .pointer (some ⟨ob, 0, none⟩)] w (ToldPost w ob B v l x) := by
  obtain ⟨A, c, rfl⟩ := own_slice h.row
  have c0 : w.cell? ⟨ob, 0, none⟩ = some (.slice A l.length c) := cell_of_row _ _ 0 _ _ _ h.box
  have f0 := frozen_of_row _ ob 0 _ _ h.box
  have hz := (Array.getElem?_eq_some_iff.1 h.box).1
  obtain ⟨i0, hi, hi1, hi2, hi3⟩ := info_parts info_access
  have HH := hide h
  have hnews : ∀ j u, (acEnc x)[j]? = some u → (w.alloc (.cells #[.int .i64 x.tick, .int .i64 x.thread, .int .i64 x.kind, .int .i64 x.at_, .int .u64 x.old, .int .u64 x.now] 39)).cell? (Addr.add ⟨w.heap.size, 0, none⟩ j) = some u := by
    intro j u hu
    rw [Addr.add_lit, Nat.zero_add, cell_of_row _ _ _ _ _ _ (heap_alloc_new _ _), ← hu, ← Array.getElem?_toList]
    rfl
  have HNW := hide hnews
  clear h hnews
  go_enter Tryz.func41, Tryz.ntmps41
  go_wp2_with (first | (at_builtin; refine wpList_append_own_at _ rfl _ _ 34 rfl B 39 i0 _ 6 48 Tryz.underlying34 hi hi1 hi2 hi3 rfl (by decide) _ l.length (l.flatMap acEnc) rfl (World.ownsRow.alloc HH.out.row _) ⟨w.heap.size, 0, none⟩ 1 1 (acEnc x) rfl rfl HNW.out (by intro u hu; simp [acEnc] at hu; rcases hu with rfl | rfl | rfl | rfl | rfl | rfl <;> rfl) (by unfold maxLen; omega) (by omega) (by simp; omega) ?_; intro v7 w7 hown7 hgrow7 _ hat7; obtain ⟨A7, cc7, rfl⟩ := own_slice hown7; have c7 : w7.cell? ⟨ob, 0, none⟩ = some (.slice A l.length c) := ((World.cell?_of_block (hgrow7.block ob (by simp; omega) (fun e => HH.out.ne e.symm))).trans (World.cell?_of_block (a := ⟨ob, 0, none⟩) (Below.heap_alloc _ _ _ hz))).trans c0; have f7 : w7.frozen? ⟨ob, 0, none⟩ = false := ((World.frozen?_of_block (hgrow7.block ob (by simp; omega) (fun e => HH.out.ne e.symm))).trans (World.frozen?_of_block (a := ⟨ob, 0, none⟩) (Below.heap_alloc _ _ _ hz))).trans f0) | fail)
  go_end0
  have hkk : Keep (fun k => k < w.heap.size ∧ k ≠ ob ∧ (Value.slice A l.length c).ownBlock ≠ some k) w w7 := ((Keep.refl _ w).alloc (fun k hk => hk.1) _).grown hgrow7 (fun k hk => by simp; omega) (fun k hk hk2 => hk2.2.2 hk)
  have hb7 : w7.heap[ob]? = some (.cells #[.slice A l.length c] 34 (0, 0)) := (hgrow7.block ob (by simp; omega) (fun e => HH.out.ne e.symm)).trans ((Below.heap_alloc _ _ _ hz).trans HH.out.box)
  refine ⟨rfl, .slice A7 (l.length + 1) cc7, ⟨?_, ?_⟩, ?_, hkk.setCell (fun hk => hk.2.1 rfl) _⟩
  · rw [cells_set hb7]
    rfl
  · rw [List.length_append, List.flatMap_append]
    refine owns_keepV hown7 ((Keep.refl (fun k => k ≠ ob) w7).setCell (by simp) _) (fun k hk e => ?_)
    subst e
    rcases hown7.2 with ⟨e1, _⟩ | ⟨g, cap, cur, e1, _, h3, _⟩
    · rw [e1] at hk; cases hk
    · rw [e1] at hk
      cases hk
      rw [hb7] at h3
      injection h3 with h1
      injection h1 with _ h1 _
      exact absurd h1 (by decide)
  · rcases hat7 with h1 | h1
    · exact Or.inl h1
    · exact Or.inr ⟨_, h1, by simp⟩
/-- What the hook reads. -/
structure HookAt (w : World) (ob tb qb pp pw : Nat) (now turn : Int) : Prop where
  told : w.heap[tb]? = some (.cells #[toldV ob] 98 (0, 0))
  ply : w.heap[qb]? = some (.cells #[.pointer (some ⟨pp, 0, none⟩)] 94 (0, 0))
  p0 : w.cell? ⟨pp, 0, none⟩ = some (.pointer (some ⟨pw, 0, none⟩))
  p4 : w.cell? ⟨pp, 4, none⟩ = some (.int .i64 turn)
  w1 : w.cell? ⟨pw, 1, none⟩ = some (.int .i64 now)
theorem HookAt.keep {w w' : World} {ob tb qb pp pw : Nat} {now turn : Int} {S : Nat → Prop} (h : HookAt w ob tb qb pp pw now turn) (hk : Keep S w w') (h1 : S tb) (h2 : S qb) (h3 : S pp) (h4 : S pw) : HookAt w' ob tb qb pp pw now turn :=
  ⟨(hk.block _ h1).trans h.told, (hk.block _ h2).trans h.ply, (hk.cell (p := ⟨pp, 0, none⟩) h3).trans h.p0, (hk.cell (p := ⟨pp, 4, none⟩) h3).trans h.p4, (hk.cell (p := ⟨pw, 1, none⟩) h4).trans h.w1⟩
set_option maxRecDepth 100000 in
set_option maxHeartbeats 2000000 in
theorem hookW {w : World} {ob tb qb pp pw B : Nat} {now turn : Int} {v : Value} {l : List Ac} (kind a old fresh : Int) (h : AcRow w ob B v l) (hh : HookAt w ob tb qb pp pw now turn) (hB : B ≤ w.heap.size) (hl : l.length ≤ 2000000) (hlow : tb < B ∧ qb < B ∧ pp < B ∧ pw < B) :
    Calls Tryz.prog 57 #[.int .i64 kind, .int .i64 a, .int .u64 old, .int .u64 fresh, .pointer (some ⟨tb, 0, none⟩), .pointer (some ⟨qb, 0, none⟩)] w (ToldPost w ob B v l ⟨now, turn, kind, a, old, fresh⟩) := by
  have t0 : w.cell? ⟨tb, 0, none⟩ = some (toldV ob) := cell_of_row _ _ 0 _ _ _ hh.told
  have y0 : w.cell? ⟨qb, 0, none⟩ = some (.pointer (some ⟨pp, 0, none⟩)) := cell_of_row _ _ 0 _ _ _ hh.ply
  have p0 := hh.p0
  have p4 := hh.p4
  have w1 := hh.w1
  have N := toldW ⟨now, turn, kind, a, old, fresh⟩ (h.keep (Keep.refl (fun _ => True) w).drew trivial (fun _ _ => trivial)) hB hl
  have hne : tb ≠ ob ∧ qb ≠ ob ∧ pp ≠ ob ∧ pw ≠ ob := by
    obtain ⟨A, c, rfl⟩ := own_slice h.row
    have c0 : w.cell? ⟨ob, 0, none⟩ = some (.slice A l.length c) := cell_of_row _ _ 0 _ _ _ h.box
    have c1 : w.cell? ⟨ob, 1, none⟩ = none := cell_of_row _ _ 1 _ _ _ h.box
    refine ⟨?_, ?_, ?_, ?_⟩ <;> rintro rfl
    · rw [t0] at c0; cases c0
    · rw [y0] at c0; cases c0
    · rw [p0] at c0; cases c0
    · rw [w1] at c1; cases c1
  have hvB : ∀ k, v.ownBlock = some k → B ≤ k := fun k hk => (World.ownsRow.lt h.row k hk).1
  have hS : ∀ k, k < B → k ≠ ob → k < w.heap.size ∧ k ≠ ob ∧ v.ownBlock ≠ some k := fun k h1 h2 => ⟨by omega, h2, fun e => by have := hvB k e; omega⟩
  have HS := hide hS
  have HN := hide N
  clear N h hh hS hvB
  unfold toldV at *
  go_enter Tryz.func57, Tryz.ntmps57
  refine wp_region_seq (fun Y => Y.cell? ⟨tb, 0, none⟩ = some (.func (.func 41) #[] #[.pointer (some ⟨ob, 0, none⟩)]) ∧ Y.cell? ⟨qb, 0, none⟩ = some (.pointer (some ⟨pp, 0, none⟩)) ∧ Y.cell? ⟨pp, 0, none⟩ = some (.pointer (some ⟨pw, 0, none⟩)) ∧ Y.cell? ⟨pp, 4, none⟩ = some (.int .i64 turn) ∧ Y.cell? ⟨pw, 1, none⟩ = some (.int .i64 now)) (.take 0 <| .take 1 <| .take 2 <| .take 3 <| .take 4 <| .take 5 <| .take 6 <| .take 7 <| .take 8 <| .take 9 <| .take 10 <| .take 11 <| .take 12 <| .take 13 <| .take 14 <| .take 15 <| .run 16 <| .done) (by kernel_rfl) (by kernel_rfl) (by kernel_rfl) ⟨t0, y0, p0, p4, w1⟩ ?_
  iterate 16 (refine seq_take (v := ?_) rfl (by rfl) ?_ ?_; rotate_left; (focus (intro wS hS; obtain ⟨s0, s1, s2, s3, s4⟩ := hS; go_simp; exact rfl)); simp only [Act.put, List.setIfInBounds_toArray, List.set_cons_zero, List.set_cons_succ])
  (refine seq_run rfl (by rfl) (fun K hK => ?_); go_simp)
  refine HN.out.mono ?_
  rintro e w2 hp
  obtain ⟨rfl, hp⟩ : e = .returned (.tuple #[]) ∧ ToldPost w.drew ob B v l ⟨now, turn, kind, a, old, fresh⟩ e w2 := ⟨hp.1, hp⟩
  obtain ⟨_, v', q1, q2, q3⟩ := id hp
  have q3' : Keep (fun k => k < w.heap.size ∧ k ≠ ob ∧ v.ownBlock ≠ some k) w w2 := ((Keep.refl _ w).drew).trans q3
  refine hK _ _ ⟨(q3'.cell (p := ⟨tb, 0, none⟩) (HS.out _ hlow.1 hne.1)).trans t0, (q3'.cell (p := ⟨qb, 0, none⟩) (HS.out _ hlow.2.1 hne.2.1)).trans y0, (q3'.cell (p := ⟨pp, 0, none⟩) (HS.out _ hlow.2.2.1 hne.2.2.1)).trans p0, (q3'.cell (p := ⟨pp, 4, none⟩) (HS.out _ hlow.2.2.1 hne.2.2.1)).trans p4, (q3'.cell (p := ⟨pw, 1, none⟩) (HS.out _ hlow.2.2.2 hne.2.2.2)).trans w1⟩ ?_
  clear hK K
  refine seq_nil ?_
  go_wp2
  go_end0
  exact ⟨rfl, v', q1, q2, q3'⟩
end Go.Proofs.YtfghmlpjbedomaaGreat
