import Derived.Test.YtlfingcmekifkaaGreatBun20
namespace Go.Proofs.YtlfingcmekifkaaGreat
open Go.RowKit
def handZ : Array Value := #[.bool false, .int .i64 0, .pointer none, .int .i64 0, .int .i64 0, .slice none 0 0, .slice none 0 0, .int .i64 0, .bool false, .bool false, .slice none 0 0, .int .i64 0, .int .u64 0, .slice none 0 0, .slice none 0 0, .slice none 0 0]
theorem info_hand : (Tryz.prog.info? 102).map (fun i => (i.zero, i.size, Nat.ble i.bytes 1000)) = some (some (.agg handZ), 16, true) := by kernel_rfl
theorem info_ints : (Tryz.prog.info? 24).map (fun i => (i.zero, i.size, i.bytes)) = some (some (.slice none 0 0), 1, 24) := by kernel_rfl
theorem info_lists : (Tryz.prog.info? 28).map (fun i => (i.zero, i.size, i.bytes)) = some (some (.slice none 0 0), 1, 24) := by kernel_rfl
theorem info_boolR : (Tryz.prog.info? 4).map (fun i => (i.zero, i.size, i.bytes)) = some (some (.bool false), 1, 1) := by kernel_rfl
theorem make_hands (n : Nat) (hn : n ≤ 1000) (w : World) : (Instr.makeSlice 97 (.int .i64 (n : Int)) (.int .i64 (n : Int))).run Tryz.prog w = .ok (.slice (some ⟨w.heap.size, 0, none⟩) n n) (w.alloc (.cells (madeCells handZ (n * 16)) 102)) := by
  obtain ⟨i, hi, hzz⟩ := Option.map_eq_some_iff.1 info_hand
  simp only [Prod.mk.injEq] at hzz
  obtain ⟨hz, hs, hb⟩ := hzz
  have hb := Nat.le_of_ble_eq_true hb
  have h1 : ((i.bytes * n : Nat) : Int) ≤ 281474976710656 := by
    have := Nat.mul_le_mul hb hn
    omega
  rw [Int.natCast_mul] at h1
  have hr := run_make (P := Tryz.prog) w 97 102 i (.agg handZ) Tryz.underlying97 hi hz .i64 .i64 n n (by omega) (Int.le_refl _) h1 (by omega)
  simp only [Int.toNat_natCast, hs] at hr
  exact hr
theorem row_hands (w : World) (n : Nat) : (w.alloc (.cells (madeCells handZ (n * 16)) 102)).rowIs w.heap.size 102 (n * 16) (fun i => handZ[i % 16]!) :=
  ⟨madeCells handZ (n * 16), heap_alloc_new _ _, size_madeCells _ _, fun i hi => by simp [madeCells, hi, show handZ.size = 16 from rfl]⟩
theorem made_one (z : Value) : madeCells #[z] 1 = #[z] := by apply Array.ext'; rw [toList_madeCells_one]; rfl
structure IW (w0 w : World) (n size wp mb : Nat) (u : Value) (f : Nat → Value) : Prop where
  row : w.rowIs wp 95 10 f
  is : RmF f u (Mm.new (List.replicate size 0))
  now : f 6 = .int .i64 0
  f7 : f 7 = .slice (some ⟨mb, 0, none⟩) n n
  f9 : f 9 = .slice none 0 0
  mks : w.heap[mb]? = some (.cells (madeCells #[.slice none 0 0] n) 24 (0, 0))
  wr : WRow w w0.heap.size u (List.replicate size 0)
  ne : wp ≠ mb ∧ ∀ k, u.ownBlock = some k → k ≠ wp ∧ k ≠ mb
  lo : w0.heap.size ≤ wp ∧ w0.heap.size ≤ mb
  kp : Below w0.heap.size w0 w
structure IH (w w' : World) (n k hb : Nat) (g : Nat → Value) : Prop where
  row : w'.rowIs hb 102 (n * 16) g
  op : ∀ t, t < n → g (t * 16) = .bool false
  own : ∀ t, t < k → g (t * 16 + 15) = .slice (some ⟨w.heap.size + t, 0, none⟩) 1 1 ∧ w'.heap[w.heap.size + t]? = some (.cells #[.slice none 0 0] 28 (0, 0))
  sz : w'.heap.size = w.heap.size + k
  kp : Keep (fun j => j < w.heap.size ∧ j ≠ hb) w w'
theorem IH.next {w w' : World} {n k hb : Nat} {g : Nat → Value} (h : IH w w' n k hb g) (hk : k < n) (hb' : hb < w.heap.size) : IH w ((w'.setCell ⟨hb, k * 16 + 15, none⟩ (.slice (some ⟨w'.heap.size, 0, none⟩) 1 1)).alloc (.cells (madeCells #[.slice none 0 0] 1) 28)) n (k + 1) hb (fun i => if i = k * 16 + 15 then .slice (some ⟨w'.heap.size, 0, none⟩) 1 1 else g i) := by
  have hz := h.sz
  refine ⟨(h.row.set _ _).alloc _, fun t ht => ?_, fun t ht => ?_, by simp [hz]; omega, (h.kp.setCell (fun e => e.2 rfl) _).alloc (fun j hj => by simp; omega) _⟩
  · show (if _ then _ else _) = _
    rw [if_neg (by omega)]
    exact h.op t ht
  · by_cases e : t = k
    · subst e
      refine ⟨?_, ?_⟩
      · show (if _ then _ else _) = _
        rw [if_pos rfl, hz]
      · have := heap_alloc_new (w'.setCell ⟨hb, t * 16 + 15, none⟩ (.slice (some ⟨w'.heap.size, 0, none⟩) 1 1)) (.cells (madeCells #[.slice none 0 0] 1) 28)
        rw [show (w'.setCell ⟨hb, t * 16 + 15, none⟩ (.slice (some ⟨w'.heap.size, 0, none⟩) 1 1)).heap.size = w.heap.size + t by simp [hz], made_one] at this
        rw [made_one]
        exact this
    · obtain ⟨o1, o2⟩ := h.own t (by omega)
      refine ⟨?_, ?_⟩
      · show (if _ then _ else _) = _
        rw [if_neg (by omega)]
        exact o1
      · refine (Below.heap_alloc _ _ _ (by simp; omega)).trans ((Below.heap_setCell _ _ _ _ (by simp; omega)).trans o2)
def fxOf (hb wp mb fb ep bb Z : Nat) (i : Nat) : Nat := if i = 0 then hb else if i = 1 then wp else if i = 2 then mb else if i = 3 then fb else if i = 4 then ep else if i = 5 then bb else Z + (i - 6)
theorem fx_cases (hb wp mb fb ep bb Z i : Nat) : (i = 0 ∧ fxOf hb wp mb fb ep bb Z i = hb) ∨ (i = 1 ∧ fxOf hb wp mb fb ep bb Z i = wp) ∨ (i = 2 ∧ fxOf hb wp mb fb ep bb Z i = mb) ∨ (i = 3 ∧ fxOf hb wp mb fb ep bb Z i = fb) ∨ (i = 4 ∧ fxOf hb wp mb fb ep bb Z i = ep) ∨ (i = 5 ∧ fxOf hb wp mb fb ep bb Z i = bb) ∨ (6 ≤ i ∧ fxOf hb wp mb fb ep bb Z i = Z + (i - 6)) := by
  by_cases h0 : i = 0
  · subst h0; exact Or.inl ⟨rfl, rfl⟩
  by_cases h1 : i = 1
  · subst h1; exact Or.inr (Or.inl ⟨rfl, rfl⟩)
  by_cases h2 : i = 2
  · subst h2; exact Or.inr (Or.inr (Or.inl ⟨rfl, rfl⟩))
  by_cases h3 : i = 3
  · subst h3; exact Or.inr (Or.inr (Or.inr (Or.inl ⟨rfl, rfl⟩)))
  by_cases h4 : i = 4
  · subst h4; exact Or.inr (Or.inr (Or.inr (Or.inr (Or.inl ⟨rfl, rfl⟩))))
  by_cases h5 : i = 5
  · subst h5; exact Or.inr (Or.inr (Or.inr (Or.inr (Or.inr (Or.inl ⟨rfl, rfl⟩)))))
  · refine Or.inr (Or.inr (Or.inr (Or.inr (Or.inr (Or.inr ⟨by omega, ?_⟩)))))
    unfold fxOf
    rw [if_neg h0, if_neg h1, if_neg h2, if_neg h3, if_neg h4, if_neg h5]
set_option maxHeartbeats 1000000 in
theorem LgAt.new {w0 w1 w2 w3 w4 : World} {n m cb size wp mb bb : Nat} {u : Value} {f g : Nat → Value} {cs : List Cl} (hn : 1 ≤ n) (hsz : size ≤ 65536) (hm : cs.length = m) (hw01 : Below w0.heap.size w0 w1) (hr8 : w1.heap[w0.heap.size]? = some zeroRep) (hbb : w0.heap.size < bb ∧ bb < w1.heap.size) (hbs : SlI w1 (.slice (some ⟨bb, 0, none⟩) 1 cb) [0])
    (hI : IW w1 w2 n size wp mb u f) (h3 : w3 = (w2.alloc (.cells (madeCells #[.bool false] m) 4)).alloc (.cells (madeCells handZ (n * 16)) 102)) (h4 : IH w3 w4 n n (w2.heap.size + 1) g) :
    LgAt w0 (w4.alloc zeroRep) (fxOf (w2.heap.size + 1) wp mb w2.heap.size (w2.heap.size + 2 + n) bb (w2.heap.size + 2)) n m cb (fun k => k < w2.heap.size + 3 + n) g f (fun _ => ⟨u, .slice none 0 0, .slice none 0 0, .slice none 0 0, .slice none 0 0, .slice none 0 0, .slice none 0 0⟩) (.slice none 0 0) (Rs.new (List.replicate size 0) cs.length) ∧ Inj (fxOf (w2.heap.size + 1) wp mb w2.heap.size (w2.heap.size + 2 + n) bb (w2.heap.size + 2)) n := by
  have z1 := hw01.size
  have z8 : w0.heap.size < w1.heap.size := (Array.getElem?_eq_some_iff.1 hr8).1
  have z2 := hI.kp.size
  have z3 : w3.heap.size = w2.heap.size + 2 := by rw [h3]; simp
  have z4 : w4.heap.size = w2.heap.size + 2 + n := by rw [h4.sz, z3]
  have z5 : (w4.alloc zeroRep).heap.size = w2.heap.size + 3 + n := by simp [z4]; omega
  have hwz := hI.row.lt
  have hmz : mb < w2.heap.size := (Array.getElem?_eq_some_iff.1 hI.mks).1
  have huz : ∀ k, u.ownBlock = some k → w1.heap.size ≤ k ∧ k < w2.heap.size := fun k hk => World.ownsRow.lt hI.wr k hk
  have hk23 : Keep (fun k => k < w2.heap.size) w2 w3 := by
    rw [h3]
    exact ((Keep.refl _ w2).alloc (fun k hk => hk) _).alloc (fun k hk => by simp; omega) _
  have hk24 : Keep (fun k => k < w2.heap.size) w2 w4 := hk23.trans (h4.kp.mono fun k hk => ⟨by omega, by omega⟩)
  have hk4 : Keep (fun k => k < w4.heap.size) w4 (w4.alloc zeroRep) := (Keep.refl _ w4).alloc (fun k hk => hk) _
  have hk25 : Keep (fun k => k < w2.heap.size) w2 (w4.alloc zeroRep) := hk24.trans (hk4.mono fun k hk => by omega)
  have hinj : Inj (fxOf (w2.heap.size + 1) wp mb w2.heap.size (w2.heap.size + 2 + n) bb (w2.heap.size + 2)) n := by
    intro i j hi hj e
    have n1 := hI.ne.1
    have n2 := hI.lo
    rcases fx_cases (w2.heap.size + 1) wp mb w2.heap.size (w2.heap.size + 2 + n) bb (w2.heap.size + 2) i with ⟨a, b⟩ | ⟨a, b⟩ | ⟨a, b⟩ | ⟨a, b⟩ | ⟨a, b⟩ | ⟨a, b⟩ | ⟨a, b⟩ <;> rcases fx_cases (w2.heap.size + 1) wp mb w2.heap.size (w2.heap.size + 2 + n) bb (w2.heap.size + 2) j with ⟨c, d⟩ | ⟨c, d⟩ | ⟨c, d⟩ | ⟨c, d⟩ | ⟨c, d⟩ | ⟨c, d⟩ | ⟨c, d⟩ <;> (rw [b, d] at e; omega)
  refine ⟨⟨⟨⟨rowIs_keep hI.row hk25 hwz, hI.is, owns_base (owns_keepV hI.wr hk25 (fun k hk => (huz k hk).2)) (Nat.zero_le _), fun k hk => (hI.ne.2 k hk).1, by show (List.replicate size (0 : Int)).length ≤ 65536; simpa using hsz⟩, hI.now, hI.f7, ⟨_, (hk25.block _ hmz).trans hI.mks, fun j hj => by simp [madeCells, hj, Nat.mod_one]⟩, hI.f9, World.ownsRow_nil _ _ _ _, ?_, fun k _ e => (by cases e), fun t _ => ⟨rfl, rfl⟩, fun t ht k hk => ?_, fun s t hs ht _ k hk => ?_, h4.op, fun t ht => ?_, fun t ht e => (by cases e), fun i hi => ?_, fun k hk => ?_⟩, ?_, fun k e => (by cases e), ?_, ?_, ?_, ⟨?_, ?_⟩, fun k hk => by show k < w2.heap.size + 3 + n; omega, ?_, (hk25.block _ (by show w0.heap.size < w2.heap.size; omega)).trans ((hI.kp.block _ z8).trans hr8), ⟨by show w0.heap.size < w2.heap.size + 3 + n; omega, ?_, ?_, fun e => (by cases e)⟩⟩, hinj⟩
  · exact h4.row.alloc _
  · have hu : u.ownBlock = some k := by
      rcases hk with hk | hk | hk | hk
      · exact hk
      · cases hk
      · cases hk
      · cases hk
    have h1 := huz k hu
    have h2 := hI.ne.2 k hu
    refine ⟨fun i hi e => ?_, by show k < w2.heap.size + 3 + n; omega⟩
    rcases fx_cases (w2.heap.size + 1) wp mb w2.heap.size (w2.heap.size + 2 + n) bb (w2.heap.size + 2) i with ⟨a, b⟩ | ⟨a, b⟩ | ⟨a, b⟩ | ⟨a, b⟩ | ⟨a, b⟩ | ⟨a, b⟩ | ⟨a, b⟩ <;> (rw [b] at e; omega)
  · rcases hk with hk | hk <;> cases hk
  · obtain ⟨o1, o2⟩ := h4.own t ht
    have e : fxOf (w2.heap.size + 1) wp mb w2.heap.size (w2.heap.size + 2 + n) bb (w2.heap.size + 2) (6 + t) = w3.heap.size + t := by
      rcases fx_cases (w2.heap.size + 1) wp mb w2.heap.size (w2.heap.size + 2 + n) bb (w2.heap.size + 2) (6 + t) with ⟨a, b⟩ | ⟨a, b⟩ | ⟨a, b⟩ | ⟨a, b⟩ | ⟨a, b⟩ | ⟨a, b⟩ | ⟨a, b⟩ <;> (rw [b]; omega)
    rw [e]
    exact ⟨o1, _, (hk4.block _ (show w3.heap.size + t < w4.heap.size by omega)).trans o2, LstIs.nil _ _⟩
  · have n2 := hI.lo
    show fxOf _ _ _ _ _ _ _ i < _
    rcases fx_cases (w2.heap.size + 1) wp mb w2.heap.size (w2.heap.size + 2 + n) bb (w2.heap.size + 2) i with ⟨a, b⟩ | ⟨a, b⟩ | ⟨a, b⟩ | ⟨a, b⟩ | ⟨a, b⟩ | ⟨a, b⟩ | ⟨a, b⟩ <;> (rw [b]; omega)
  · rw [z5]; exact hk
  · exact ⟨[], World.ownsRow_nil _ _ _ _, rfl, fun i x e h => by simp at h⟩
  · have := heap_alloc_new w4 zeroRep
    rw [z4] at this
    exact this
  · refine ⟨madeCells #[.bool false] m, ?_, ?_⟩
    · refine (hk4.block _ (show w2.heap.size < w4.heap.size by omega)).trans ((h4.kp.block _ ⟨by omega, by omega⟩).trans ?_)
      rw [h3]
      exact (Below.heap_alloc _ _ _ (by simp)).trans (heap_alloc_new _ _)
    · rw [toList_madeCells_one, hm]
      simp [Rs.new]
  · refine sl_keepG (hbs.below hI.kp (Nat.le_refl _)) hk25 (fun a e _ => ?_)
    cases e
    show bb < w2.heap.size
    omega
  · intro i hi
    have n2 := hI.lo
    rcases fx_cases (w2.heap.size + 1) wp mb w2.heap.size (w2.heap.size + 2 + n) bb (w2.heap.size + 2) i with ⟨a, b⟩ | ⟨a, b⟩ | ⟨a, b⟩ | ⟨a, b⟩ | ⟨a, b⟩ | ⟨a, b⟩ | ⟨a, b⟩ <;> (rw [b]; omega)
  · intro t ht k hk
    rcases hk with hk | hk | hk | hk
    · have := huz k hk; omega
    · cases hk
    · cases hk
    · cases hk
  · exact (hw01.trans (hI.kp.mono z1)).trans ((hk25.mono fun k (hk : k < w0.heap.size) => by omega).below fun k hk => hk)
  · intro i hi e
    have n2 := hI.lo
    rcases fx_cases (w2.heap.size + 1) wp mb w2.heap.size (w2.heap.size + 2 + n) bb (w2.heap.size + 2) i with ⟨a, b⟩ | ⟨a, b⟩ | ⟨a, b⟩ | ⟨a, b⟩ | ⟨a, b⟩ | ⟨a, b⟩ | ⟨a, b⟩ <;> (rw [b] at e; omega)
  · intro t ht hk
    rcases hk with hk | hk | hk | hk
    · have := huz _ hk; omega
    · cases hk
    · cases hk
    · cases hk
end Go.Proofs.YtlfingcmekifkaaGreat
