/- Accesses that are told: mem.Read and mem.Write where a hook is told. -/
import Derived.Test.YtfghmlpjbedomaaGreatAc1
import Derived.Test.YtfghmlpjbedomaaGreatBun4
namespace Go.Proofs.YtfghmlpjbedomaaGreat
open Go.RowKit
attribute [local go_sem] run_store_fn run_store_nilfn

/-- The memory, what the hook reads, and the list lie apart. -/
structure HkAp (w : World) (pm px ob tb qb pp pw : Nat) (v : Value) : Prop where
  m : pm ≠ ob ∧ pm ≠ tb ∧ pm ≠ qb ∧ pm ≠ pp ∧ pm ≠ pw ∧ v.ownBlock ≠ some pm
  x : px ≠ ob ∧ px ≠ tb ∧ px ≠ qb ∧ px ≠ pp ∧ px ≠ pw ∧ v.ownBlock ≠ some px
theorem type_ne {w : World} {a b : Nat} {c c' : Array Value} {t t' : TypeId} {f f' : Nat × Nat} (h : w.heap[a]? = some (.cells c t f)) (h' : w.heap[b]? = some (.cells c' t' f')) (hn : t ≠ t') : a ≠ b := by
  rintro rfl
  rw [h] at h'
  injection h' with h1
  injection h1 with _ h1 _
  exact hn h1
theorem AcRow.type {w : World} {ob B : Nat} {v : Value} {l : List Ac} (h : AcRow w ob B v l) {k : Nat} (hk : v.ownBlock = some k) : ∃ c, w.heap[k]? = some (.cells c 39 (0, 0)) := by
  rcases h.row.2 with ⟨rfl, _⟩ | ⟨g, cap, cur, rfl, _, h3, _⟩
  · cases hk
  · cases hk
    exact ⟨cur, h3⟩
theorem HkAp.mk' {w : World} {pm px ob tb qb pp pw B : Nat} {hk v : Value} {m : Mm} {l : List Ac} {now turn : Int} (h : MemAt w pm px hk m) (hr : AcRow w ob B v l) (hh : HookAt w ob tb qb pp pw now turn) (h1 : pm ≠ pp ∧ pm ≠ pw) (h2 : px ≠ pp ∧ px ≠ pw) : HkAp w pm px ob tb qb pp pw v := by
  obtain ⟨c, m1, _⟩ := h.blk
  obtain ⟨cur, x1, _⟩ := h.row
  refine ⟨⟨type_ne m1 hr.box (by decide), type_ne m1 hh.told (by decide), type_ne m1 hh.ply (by decide), h1.1, h1.2, fun e => ?_⟩, type_ne x1 hr.box (by decide), type_ne x1 hh.told (by decide), type_ne x1 hh.ply (by decide), h2.1, h2.2, fun e => ?_⟩
  · obtain ⟨c', e'⟩ := hr.type e
    exact type_ne m1 e' (by decide) rfl
  · obtain ⟨c', e'⟩ := hr.type e
    exact type_ne x1 e' (by decide) rfl
theorem ToldPost.undrew {w w' : World} {ob B : Nat} {v : Value} {l : List Ac} {x : Ac} {e : Ending} (h : ToldPost w.drew ob B v l x e w') : ToldPost w ob B v l x e w' := by
  obtain ⟨h1, v', h2, h3, h4⟩ := h
  exact ⟨h1, v', h2, h3, ((Keep.refl _ w).drew).trans h4⟩
set_option maxRecDepth 100000 in
set_option maxHeartbeats 2000000 in
theorem accReadH {pm px k b ob tb qb pp pw B : Nat} {m : Mm} {w : World} {v : Value} {l : List Ac} {now turn : Int} (h : MemAt w pm px (hookV tb qb) m) (hk : k < m.words.length) (hb : w.heap[b]? = some (.cells #[.int .u64 0] 37 (0, 0))) (hne : b ≠ px ∧ b ≠ pw ∧ b ≠ pp) (hr : AcRow w ob B v l) (hh : HookAt w ob tb qb pp pw now turn) (hB : B ≤ w.heap.size) (hl : l.length ≤ 2000000) (hlow : tb < B ∧ qb < B ∧ pp < B ∧ pw < B) (hap : HkAp w pm px ob tb qb pp pw v) :
    Calls Tryz.prog 181 #[.pointer (some ⟨pm, 0, none⟩), .int .i64 0, .int .i64 k, .func (.func 182) #[] #[], .func (.func 183) #[] #[.pointer (some ⟨b, 0, none⟩)]] w
      (ToldPost ((w.setCell ⟨pm, 1, none⟩ (.int .i64 (wrap64 (wrap64 m.rd + 1)))).setCell ⟨b, 0, none⟩ (.int .u64 (m.at k))) ob B v l ⟨now, turn, 0, k, m.at k, m.at k⟩) := by
  obtain ⟨c, a0, a1, a2, a3, a4, a5, a6, hc, hcm⟩ := h.cells
  obtain ⟨x0, x1⟩ := h.word hk
  have f1 := h.frozen 1
  obtain ⟨z0, z1⟩ := h.lt
  have hpp := h.ne
  have g0 : w.cell? ⟨b, 0, none⟩ = some (.int .u64 0) := cell_of_row w b 0 _ _ _ hb
  have g1 : w.frozen? ⟨b, 0, none⟩ = false := frozen_of_row w b 0 _ _ hb
  have gz : b < w.heap.size := (Array.getElem?_eq_some_iff.1 hb).1
  have hl0 := h.len
  have d0 : decide (m.words.length ≤ k) = false := by simpa using hk
  have qF : ∀ W, (binOp .neq 184 (.func (.func 57) #[] #[.pointer (some ⟨tb, 0, none⟩), .pointer (some ⟨qb, 0, none⟩)]) .nilFunc).run Tryz.prog W = .ok (.bool true) W := fun _ => by kernel_rfl
  obtain ⟨y, hy⟩ : ∃ y, m.at k = y := ⟨_, rfl⟩
  rw [hy] at x0 ⊢
  obtain ⟨W2, hW2⟩ : ∃ W2, W2 = (w.setCell ⟨pm, 1, none⟩ (.int .i64 (wrap64 (wrap64 m.rd + 1)))).setCell ⟨b, 0, none⟩ (.int .u64 y) := ⟨_, rfl⟩
  have hzW : W2.heap.size = w.heap.size := by rw [hW2]; simp
  obtain ⟨cm, m1, _⟩ := h.blk
  have hbm : b ≠ pm := type_ne hb m1 (by decide)
  have kW : Keep (fun j => j ≠ pm ∧ j ≠ b) w W2 := by rw [hW2]; exact ((Keep.refl _ w).setCell (fun hj => hj.1 rfl) _).setCell (fun hj => hj.2 rfl) _
  have hrow : ∀ j, v.ownBlock = some j → j ≠ pm ∧ j ≠ b := fun j hj => by
    obtain ⟨c', e'⟩ := hr.type hj
    exact ⟨fun e => hap.m.2.2.2.2.2 (e ▸ hj), type_ne e' hb (by decide)⟩
  have hr2 := hr.keep kW ⟨hap.m.1.symm, type_ne hr.box hb (by decide)⟩ hrow
  have hh2 := hh.keep kW ⟨hap.m.2.1.symm, type_ne hh.told hb (by decide)⟩ ⟨hap.m.2.2.1.symm, type_ne hh.ply hb (by decide)⟩ ⟨hap.m.2.2.2.1.symm, hne.2.2.symm⟩ ⟨hap.m.2.2.2.2.1.symm, hne.2.1.symm⟩
  have NH := hookW (w := W2.drew) 0 k y y (hr2.keep ((Keep.refl (fun _ => True) W2).drew) trivial (fun _ _ => trivial)) (hh2.keep ((Keep.refl (fun _ => True) W2).drew) trivial trivial trivial trivial) (by show B ≤ W2.heap.size; rw [hzW]; exact hB) hl hlow
  have HNH := hide NH
  have HAP := hide hap
  have hneb := hne.1
  have a6' : w.cell? ⟨pm, 6, none⟩ = some (.func (.func 57) #[] #[.pointer (some ⟨tb, 0, none⟩), .pointer (some ⟨qb, 0, none⟩)]) := a6
  clear a6
  have Q6 : W2.cell? ⟨pm, 6, none⟩ = some (.func (.func 57) #[] #[.pointer (some ⟨tb, 0, none⟩), .pointer (some ⟨qb, 0, none⟩)]) := by rw [hW2]; go_simp
  have Q0 : W2.cell? ⟨pm, 0, none⟩ = some (.slice (some ⟨px, 0, none⟩) m.words.length c) := by rw [hW2]; go_simp
  have QX : W2.cell? ⟨px, k, none⟩ = some (.int .u64 y) := by rw [hW2]; go_simp
  have HW2 := hide hW2
  have HY := hide hy
  rw [← hW2]
  clear h hb hr hh hap NH hr2 hh2 kW hrow hW2 hy hne m1
  go_enter Tryz.func181, Tryz.ntmps181
  go_wp2_with fail
  refine (cntRead _ _).mono ?_
  rintro e w1 ⟨rfl, rfl⟩
  go_wp2_with fail
  refine (doRead px k b y _ (by go_simp) (by go_simp) (by go_simp)).mono ?_
  rintro e w2 ⟨rfl, rfl⟩
  rw [← HW2.out]
  clear a0 a1 a2 a3 a4 a5 a6' x0 x1 f1 g0 g1
  go_upto_region 7 with fail
  refine wp_region_seq (fun Y => Y.cell? ⟨pm, 6, none⟩ = some (.func (.func 57) #[] #[.pointer (some ⟨tb, 0, none⟩), .pointer (some ⟨qb, 0, none⟩)]) ∧ Y.cell? ⟨pm, 0, none⟩ = some (.slice (some ⟨px, 0, none⟩) m.words.length c) ∧ Y.cell? ⟨px, k, none⟩ = some (.int .u64 y)) (.take 0 <| .take 1 <| .take 2 <| .take 3 <| .take 4 <| .take 5 <| .take 6 <| .take 7 <| .take 8 <| .take 9 <| .take 10 <| .take 11 <| .take 12 <| .take 13 <| .run 14 <| .done) (by kernel_rfl) (by kernel_rfl) (by kernel_rfl) ⟨Q6, Q0, QX⟩ ?_
  iterate 14 (refine seq_take (v := ?_) rfl (by rfl) ?_ ?_; rotate_left; (focus (intro wS hS; obtain ⟨s0, s1, s2⟩ := hS; go_simp; exact rfl)); simp only [Act.put, List.setIfInBounds_toArray, List.set_cons_zero, List.set_cons_succ])
  (refine seq_run rfl (by rfl) (fun K hK => ?_); go_simp)
  refine HNH.out.mono ?_
  rintro e w2 hp
  replace hp := hp.undrew
  obtain ⟨rfl, hp⟩ : e = .returned (.tuple #[]) ∧ ToldPost _ ob B v l _ e w2 := ⟨hp.1, hp⟩
  obtain ⟨_, v', q1, q2, q3⟩ := id hp
  have z0' : pm < W2.heap.size := by omega
  have z1' : px < W2.heap.size := by omega
  refine hK _ _ ⟨(q3.cell (p := ⟨pm, 6, none⟩) ⟨z0', HAP.out.m.1, HAP.out.m.2.2.2.2.2⟩).trans Q6, (q3.cell (p := ⟨pm, 0, none⟩) ⟨z0', HAP.out.m.1, HAP.out.m.2.2.2.2.2⟩).trans Q0, (q3.cell (p := ⟨px, k, none⟩) ⟨z1', HAP.out.x.1, HAP.out.x.2.2.2.2.2⟩).trans QX⟩ ?_
  clear hK K
  refine seq_nil ?_
  go_wp2
  go_end0
  exact ⟨rfl, v', q1, q2, q3⟩
set_option maxRecDepth 100000 in
set_option maxHeartbeats 2000000 in
theorem accWriteH {pm px k b ob tb qb pp pw B : Nat} {m : Mm} {w : World} {v : Value} {l : List Ac} {now turn : Int} (h : MemAt w pm px (hookV tb qb) m) (hk : k < m.words.length) (y : Int) (g0 : w.cell? ⟨b, 0, none⟩ = some (.int .u64 y)) (_gz : b < w.heap.size) (hne : b ≠ px ∧ b ≠ pm) (hr : AcRow w ob B v l) (hh : HookAt w ob tb qb pp pw now turn) (hB : B ≤ w.heap.size) (hl : l.length ≤ 2000000) (hlow : tb < B ∧ qb < B ∧ pp < B ∧ pw < B) (hap : HkAp w pm px ob tb qb pp pw v) :
    Calls Tryz.prog 181 #[.pointer (some ⟨pm, 0, none⟩), .int .i64 1, .int .i64 k, .func (.func 203) #[] #[], .func (.func 204) #[] #[.pointer (some ⟨b, 0, none⟩)]] w
      (ToldPost ((w.setCell ⟨pm, 2, none⟩ (.int .i64 (wrap64 (wrap64 m.wr + 1)))).setCell ⟨px, k, none⟩ (.int .u64 y)) ob B v l ⟨now, turn, 1, k, m.at k, y⟩) := by
  obtain ⟨c, a0, a1, a2, a3, a4, a5, a6, hc, hcm⟩ := h.cells
  obtain ⟨x0, x1⟩ := h.word hk
  have f2 := h.frozen 2
  obtain ⟨z0, z1⟩ := h.lt
  have hpp := h.ne
  have hl0 := h.len
  have d0 : decide (m.words.length ≤ k) = false := by simpa using hk
  have qF : ∀ W, (binOp .neq 184 (.func (.func 57) #[] #[.pointer (some ⟨tb, 0, none⟩), .pointer (some ⟨qb, 0, none⟩)]) .nilFunc).run Tryz.prog W = .ok (.bool true) W := fun _ => by kernel_rfl
  obtain ⟨z, hy⟩ : ∃ z, m.at k = z := ⟨_, rfl⟩
  rw [hy] at x0 ⊢
  obtain ⟨W2, hW2⟩ : ∃ W2, W2 = (w.setCell ⟨pm, 2, none⟩ (.int .i64 (wrap64 (wrap64 m.wr + 1)))).setCell ⟨px, k, none⟩ (.int .u64 y) := ⟨_, rfl⟩
  have hzW : W2.heap.size = w.heap.size := by rw [hW2]; simp
  obtain ⟨cm, m1, _⟩ := h.blk
  have kW : Keep (fun j => j ≠ pm ∧ j ≠ px) w W2 := by rw [hW2]; exact ((Keep.refl _ w).setCell (fun hj => hj.1 rfl) _).setCell (fun hj => hj.2 rfl) _
  have hrow : ∀ j, v.ownBlock = some j → j ≠ pm ∧ j ≠ px := fun j hj => by
    exact ⟨fun e => hap.m.2.2.2.2.2 (e ▸ hj), fun e => hap.x.2.2.2.2.2 (e ▸ hj)⟩
  have hr2 := hr.keep kW ⟨hap.m.1.symm, hap.x.1.symm⟩ hrow
  have hh2 := hh.keep kW ⟨hap.m.2.1.symm, hap.x.2.1.symm⟩ ⟨hap.m.2.2.1.symm, hap.x.2.2.1.symm⟩ ⟨hap.m.2.2.2.1.symm, hap.x.2.2.2.1.symm⟩ ⟨hap.m.2.2.2.2.1.symm, hap.x.2.2.2.2.1.symm⟩
  have NH := hookW (w := W2.drew) 1 k z y (hr2.keep ((Keep.refl (fun _ => True) W2).drew) trivial (fun _ _ => trivial)) (hh2.keep ((Keep.refl (fun _ => True) W2).drew) trivial trivial trivial trivial) (by show B ≤ W2.heap.size; rw [hzW]; exact hB) hl hlow
  have HNH := hide NH
  have HAP := hide hap
  obtain ⟨hneb, hnem⟩ := hne
  have a6' : w.cell? ⟨pm, 6, none⟩ = some (.func (.func 57) #[] #[.pointer (some ⟨tb, 0, none⟩), .pointer (some ⟨qb, 0, none⟩)]) := a6
  clear a6
  have Q6 : W2.cell? ⟨pm, 6, none⟩ = some (.func (.func 57) #[] #[.pointer (some ⟨tb, 0, none⟩), .pointer (some ⟨qb, 0, none⟩)]) := by rw [hW2]; go_simp
  have Q0 : W2.cell? ⟨pm, 0, none⟩ = some (.slice (some ⟨px, 0, none⟩) m.words.length c) := by rw [hW2]; go_simp
  have QX : W2.cell? ⟨px, k, none⟩ = some (.int .u64 y) := by rw [hW2]; go_simp
  have HW2 := hide hW2
  have HY := hide hy
  rw [← hW2]
  clear h hr hh hap NH hr2 hh2 kW hrow hW2 hy m1
  go_enter Tryz.func181, Tryz.ntmps181
  go_wp2_with fail
  refine (cntWrite _ _).mono ?_
  rintro e w1 ⟨rfl, rfl⟩
  go_wp2_with fail
  refine (doWrite px k b z y _ (by go_simp) (by go_simp) (by go_simp)).mono ?_
  rintro e w2 ⟨rfl, rfl⟩
  rw [← HW2.out]
  clear a0 a1 a2 a3 a4 a5 a6' x0 x1 f2 g0
  go_upto_region 7 with fail
  refine wp_region_seq (fun Y => Y.cell? ⟨pm, 6, none⟩ = some (.func (.func 57) #[] #[.pointer (some ⟨tb, 0, none⟩), .pointer (some ⟨qb, 0, none⟩)]) ∧ Y.cell? ⟨pm, 0, none⟩ = some (.slice (some ⟨px, 0, none⟩) m.words.length c) ∧ Y.cell? ⟨px, k, none⟩ = some (.int .u64 y)) (.take 0 <| .take 1 <| .take 2 <| .take 3 <| .take 4 <| .take 5 <| .take 6 <| .take 7 <| .take 8 <| .take 9 <| .take 10 <| .take 11 <| .take 12 <| .take 13 <| .run 14 <| .done) (by kernel_rfl) (by kernel_rfl) (by kernel_rfl) ⟨Q6, Q0, QX⟩ ?_
  iterate 14 (refine seq_take (v := ?_) rfl (by rfl) ?_ ?_; rotate_left; (focus (intro wS hS; obtain ⟨s0, s1, s2⟩ := hS; go_simp; exact rfl)); simp only [Act.put, List.setIfInBounds_toArray, List.set_cons_zero, List.set_cons_succ])
  (refine seq_run rfl (by rfl) (fun K hK => ?_); go_simp)
  refine HNH.out.mono ?_
  rintro e w2 hp
  replace hp := hp.undrew
  obtain ⟨rfl, hp⟩ : e = .returned (.tuple #[]) ∧ ToldPost _ ob B v l _ e w2 := ⟨hp.1, hp⟩
  obtain ⟨_, v', q1, q2, q3⟩ := id hp
  have z0' : pm < W2.heap.size := by omega
  have z1' : px < W2.heap.size := by omega
  refine hK _ _ ⟨(q3.cell (p := ⟨pm, 6, none⟩) ⟨z0', HAP.out.m.1, HAP.out.m.2.2.2.2.2⟩).trans Q6, (q3.cell (p := ⟨pm, 0, none⟩) ⟨z0', HAP.out.m.1, HAP.out.m.2.2.2.2.2⟩).trans Q0, (q3.cell (p := ⟨px, k, none⟩) ⟨z1', HAP.out.x.1, HAP.out.x.2.2.2.2.2⟩).trans QX⟩ ?_
  clear hK K
  refine seq_nil ?_
  go_wp2
  go_end0
  exact ⟨rfl, v', q1, q2, q3⟩
end Go.Proofs.YtfghmlpjbedomaaGreat
