import Derived.Test.YtlfingcmekifkaaGreatBun15
import Derived.Test.YtlfingcmekifkaaGreatBun16
import Derived.Test.YtlfingcmekifkaaGreatBun4
import Derived.Test.YtlfingcmekifkaaGreatBun11
namespace Go.Proofs.YtlfingcmekifkaaGreat
open Go.RowKit
theorem acc_stop {t : Nat} {k a x y : Int} {T : Tp} {W : Rw} (hh : T.halt = true) : T.acc t k a x y W = (0, T, W) := by
  unfold Tp.acc
  rw [hh]
  rfl
def spLoop (t : Nat) : Nat → Nat → Nat → Tp → Rw → Tp × Rw
  | 0, _, _, T, W => (T, W)
  | f + 1, r, c, T, W =>
    if T.halt = true then (T, W) else
    let A := T.acc t 1 (2 * nameN r c : Nat) (t + 1) 0 W
    let B := A.2.1.acc t 0 ((2 * nameN r c : Nat) + 1) 0 0 A.2.2
    if B.1 ≠ 0 then spLoop t f r (c + 1) B.2.1 B.2.2 else
    let C := B.2.1.acc t 1 ((2 * nameN r c : Nat) + 1) 1 0 B.2.2
    let E := C.2.1.acc t 0 (2 * nameN r c : Nat) 0 0 C.2.2
    if E.1 = t + 1 then ({ E.2.1 with val := (nameN r c : Nat), priv := [1] }, E.2.2) else spLoop t f (r + 1) c E.2.1 E.2.2
def spDo : Dof := fun t c T W => if c.kind ≠ 0 then ({ T with err := 9 }, W) else if T.priv ≠ [] then ({ T with err := 8 }, W) else spLoop t (T.got.length + 4) 0 0 T W
theorem spLoop_succ (t f r c : Nat) (T : Tp) (W : Rw) : spLoop t (f + 1) r c T W = if T.halt = true then (T, W) else
    if ((T.acc t 1 (2 * nameN r c : Nat) (t + 1) 0 W).2.1.acc t 0 ((2 * nameN r c : Nat) + 1) 0 0 (T.acc t 1 (2 * nameN r c : Nat) (t + 1) 0 W).2.2).1 ≠ 0 then spLoop t f r (c + 1) ((T.acc t 1 (2 * nameN r c : Nat) (t + 1) 0 W).2.1.acc t 0 ((2 * nameN r c : Nat) + 1) 0 0 (T.acc t 1 (2 * nameN r c : Nat) (t + 1) 0 W).2.2).2.1 ((T.acc t 1 (2 * nameN r c : Nat) (t + 1) 0 W).2.1.acc t 0 ((2 * nameN r c : Nat) + 1) 0 0 (T.acc t 1 (2 * nameN r c : Nat) (t + 1) 0 W).2.2).2.2 else
    let B := (T.acc t 1 (2 * nameN r c : Nat) (t + 1) 0 W).2.1.acc t 0 ((2 * nameN r c : Nat) + 1) 0 0 (T.acc t 1 (2 * nameN r c : Nat) (t + 1) 0 W).2.2
    let C := B.2.1.acc t 1 ((2 * nameN r c : Nat) + 1) 1 0 B.2.2
    let E := C.2.1.acc t 0 (2 * nameN r c : Nat) 0 0 C.2.2
    if E.1 = t + 1 then ({ E.2.1 with val := (nameN r c : Nat), priv := [1] }, E.2.2) else spLoop t f (r + 1) c E.2.1 E.2.2 := rfl
theorem spLoop_stop {t f r c : Nat} {T : Tp} {W : Rw} (hh : T.halt = true) : spLoop t f r c T W = (T, W) := by
  cases f with
  | zero => rfl
  | succ f => rw [spLoop_succ, if_pos hh]
theorem spLoop_right {t f r c : Nat} {T TA TB : Tp} {W WA WB : Rw} {a x : Int} (hh : T.halt = false) (hA : T.acc t 1 (2 * nameN r c : Nat) (t + 1) 0 W = (a, TA, WA)) (hB : TA.acc t 0 ((2 * nameN r c : Nat) + 1) 0 0 WA = (x, TB, WB)) (hx : x ≠ 0) : spLoop t (f + 1) r c T W = spLoop t f r (c + 1) TB WB := by
  rw [spLoop_succ, if_neg (by rw [hh]; decide), hA]
  dsimp only
  rw [hB, if_pos hx]
theorem spLoop_down {t f r c : Nat} {T TA TB TC TE : Tp} {W WA WB WC WE : Rw} {a k y : Int} (hh : T.halt = false) (hA : T.acc t 1 (2 * nameN r c : Nat) (t + 1) 0 W = (a, TA, WA)) (hB : TA.acc t 0 ((2 * nameN r c : Nat) + 1) 0 0 WA = (0, TB, WB)) (hC : TB.acc t 1 ((2 * nameN r c : Nat) + 1) 1 0 WB = (k, TC, WC)) (hE : TC.acc t 0 (2 * nameN r c : Nat) 0 0 WC = (y, TE, WE)) (hy : y ≠ t + 1) : spLoop t (f + 1) r c T W = spLoop t f (r + 1) c TE WE := by
  rw [spLoop_succ, if_neg (by rw [hh]; decide), hA]
  dsimp only
  rw [hB, if_neg (by simp)]
  dsimp only
  rw [hC]
  dsimp only
  rw [hE, if_neg hy]
theorem spLoop_take {t f r c : Nat} {T TA TB TC TE : Tp} {W WA WB WC WE : Rw} {a k : Int} (hh : T.halt = false) (hA : T.acc t 1 (2 * nameN r c : Nat) (t + 1) 0 W = (a, TA, WA)) (hB : TA.acc t 0 ((2 * nameN r c : Nat) + 1) 0 0 WA = (0, TB, WB)) (hC : TB.acc t 1 ((2 * nameN r c : Nat) + 1) 1 0 WB = (k, TC, WC)) (hE : TC.acc t 0 (2 * nameN r c : Nat) 0 0 WC = (((t : Int) + 1), TE, WE)) : spLoop t (f + 1) r c T W = ({ TE with val := (nameN r c : Nat), priv := [1] }, WE) := by
  rw [spLoop_succ, if_neg (by rw [hh]; decide), hA]
  dsimp only
  rw [hB, if_neg (by simp)]
  dsimp only
  rw [hC]
  dsimp only
  rw [hE, if_pos rfl]
inductive SpGot (t : Nat) : Nat → Nat → List Int → Prop
  | nil : SpGot t 0 0 []
  | right {r c : Nat} {g : List Int} {x : Int} : SpGot t r c g → x ≠ 0 → SpGot t r (c + 1) (g ++ [0, x])
  | down {r c : Nat} {g : List Int} {y : Int} : SpGot t r c g → y ≠ t + 1 → SpGot t (r + 1) c (g ++ [0, 0, 0, y])
theorem got_at {g h : List Int} {j : Nat} {v : Int} (hv : h[j]? = some v) : (g ++ h)[g.length + j]? = some v := by
  rw [List.getElem?_append_right (by omega), Nat.add_sub_cancel_left, hv]
theorem sp_replay {t : Nat} {W : Rw} {T : Tp} (hh : T.halt = false) (h0 : T.at_ = 0) {r c : Nat} {g : List Int} (hg : SpGot t r c g) : ∀ (rest : List Int), T.got = g ++ rest → ∃ k, k ≤ g.length ∧ ∀ f, spLoop t (f + k) 0 0 T W = spLoop t f r c { T with at_ := g.length } W := by
  induction hg with
  | nil =>
    intro rest _
    exact ⟨0, Nat.zero_le _, fun f => by rw [Nat.add_zero, List.length_nil, ← h0]⟩
  | @right r c g x hg hx ih =>
    intro rest hr
    obtain ⟨k, hk, hf⟩ := ih ([0, x] ++ rest) (by rw [hr, List.append_assoc])
    refine ⟨k + 1, by simp; omega, fun f => ?_⟩
    rw [show f + (k + 1) = (f + 1) + k by omega, hf (f + 1)]
    have hr' : T.got = g ++ ([0, x] ++ rest) := by rw [hr, List.append_assoc]
    have e1 : ({ T with at_ := g.length } : Tp).acc t 1 (2 * nameN r c : Nat) (t + 1) 0 W = (0, { T with at_ := g.length + 1 }, W) := acc_old hh (by show T.got[g.length]? = _; rw [hr']; exact got_at (j := 0) rfl)
    have e2 : ({ T with at_ := g.length + 1 } : Tp).acc t 0 ((2 * nameN r c : Nat) + 1) 0 0 W = (x, { T with at_ := g.length + 1 + 1 }, W) := acc_old hh (by show T.got[g.length + 1]? = _; rw [hr']; exact got_at (j := 1) rfl)
    rw [spLoop_right (T := { T with at_ := g.length }) hh e1 e2 hx]
    simp
  | @down r c g y hg hy ih =>
    intro rest hr
    obtain ⟨k, hk, hf⟩ := ih ([0, 0, 0, y] ++ rest) (by rw [hr, List.append_assoc])
    refine ⟨k + 1, by simp; omega, fun f => ?_⟩
    rw [show f + (k + 1) = (f + 1) + k by omega, hf (f + 1)]
    have hr' : T.got = g ++ ([0, 0, 0, y] ++ rest) := by rw [hr, List.append_assoc]
    have e1 : ({ T with at_ := g.length } : Tp).acc t 1 (2 * nameN r c : Nat) (t + 1) 0 W = (0, { T with at_ := g.length + 1 }, W) := acc_old hh (by show T.got[g.length]? = _; rw [hr']; exact got_at (j := 0) rfl)
    have e2 : ({ T with at_ := g.length + 1 } : Tp).acc t 0 ((2 * nameN r c : Nat) + 1) 0 0 W = (0, { T with at_ := g.length + 1 + 1 }, W) := acc_old hh (by show T.got[g.length + 1]? = _; rw [hr']; exact got_at (j := 1) rfl)
    have e3 : ({ T with at_ := g.length + 1 + 1 } : Tp).acc t 1 ((2 * nameN r c : Nat) + 1) 1 0 W = (0, { T with at_ := g.length + 1 + 1 + 1 }, W) := acc_old hh (by show T.got[g.length + 1 + 1]? = _; rw [hr']; exact got_at (j := 2) rfl)
    have e4 : ({ T with at_ := g.length + 1 + 1 + 1 } : Tp).acc t 0 (2 * nameN r c : Nat) 0 0 W = (y, { T with at_ := g.length + 1 + 1 + 1 + 1 }, W) := acc_old hh (by show T.got[g.length + 1 + 1 + 1]? = _; rw [hr']; exact got_at (j := 3) rfl)
    rw [spLoop_down (T := { T with at_ := g.length }) hh e1 e2 e3 e4 hy]
    simp
def spOwn (o : Spl) (t : Nat) (ow : Nat → List Int) : Prop := o.has t = true ↔ ow 0 ≠ []
def pcL (pc : Nat) : List Int := List.replicate pc 0
def spRep (o : Spl) (t : Nat) (c : Cl) (ow : Nat → List Int) (T : Tp) : SM → Prop
  | .no e => T.got = [] ∧ spOwn o t ow ∧ ((c.obj ≠ 0 ∧ e = 12) ∨ (c.obj = 0 ∧ c.kind ≠ 0 ∧ e = 9) ∨ (c.obj = 0 ∧ c.kind = 0 ∧ ow 0 ≠ [] ∧ e = 8))
  | .take t' pc r cc => t' = t ∧ c.obj = 0 ∧ c.kind = 0 ∧ ow 0 = [] ∧ o.has t = false ∧ pc ≤ 3 ∧ ∃ g, SpGot t r cc g ∧ T.got = g ++ pcL pc
def spA : Alike spG spDo 1 := ⟨spOwn, spRep⟩
theorem spStep_has {o : Spl} {lw : Lw} {t s pc r c : Nat} (h : s ≠ t) : (spStep o lw (.take t pc r c)).1.has s = o.has s := by
  unfold spStep
  dsimp only
  repeat' split
  all_goals first | rfl | exact upd_other h
theorem tell1 (m : Mm) (a x : Int) : m.tell 1 a x = 0 := by
  unfold Mm.tell acV
  split
  · rw [if_neg (by decide), if_pos rfl]
  · rfl
theorem spLoop_wait {t f r c : Nat} {T : Tp} {W : Rw} (hh : T.halt = false) (hf : T.fresh = false) (hl : T.at_ = T.got.length) : spLoop t (f + 1) r c T W = ({ T with halt := true }, W) := by
  rw [spLoop_down hh (acc_halt hh hf hl) (acc_stop rfl) (acc_stop rfl) (acc_stop rfl) (by omega), spLoop_stop rfl]
theorem sp_alike : spA.Ok := by
  refine ⟨?_, ?_, ?_, ?_, ?_, ?_⟩
  · intro o t c ow inv ho hc ht hu
    show spRep (spStart o t c).1 t c ow (Tp.new inv) (spStart o t c).2
    have ho' : o.has t = true ↔ ow 0 ≠ [] := ho
    unfold spStart
    by_cases q1 : c.obj ≠ 0
    · rw [if_pos q1]
      exact ⟨rfl, ho, Or.inl ⟨q1, rfl⟩⟩
    · rw [if_neg q1]
      by_cases q2 : c.kind ≠ 0
      · rw [if_pos q2]
        exact ⟨rfl, ho, Or.inr (Or.inl ⟨by omega, q2, rfl⟩)⟩
      · rw [if_neg q2]
        by_cases q3 : o.has t = true
        · rw [if_pos q3]
          exact ⟨rfl, ho, Or.inr (Or.inr ⟨by omega, by omega, ho'.1 q3, rfl⟩)⟩
        · rw [if_neg q3]
          exact ⟨rfl, by omega, by omega, Decidable.byContradiction fun h => q3 (ho'.2 h), by simpa using q3, by decide, [], SpGot.nil, rfl⟩
  · intro o t s c ow hst ho
    show spOwn (spStart o t c).1 s ow
    have : (spStart o t c).1 = o := by unfold spStart; repeat' split
                                       all_goals rfl
    rw [this]
    exact ho
  · intro o t s c c' ow T m hst hr
    show spRep (spStart o t c).1 s c' ow T m
    have : (spStart o t c).1 = o := by unfold spStart; repeat' split
                                       all_goals rfl
    rw [this]
    exact hr
  · intro o t c ow T m lw W hr hW hu hct ht
    have hW' := hW
    obtain ⟨w1, w2, w3, w4⟩ := hW
    show WRel (spStep o lw m).2.1 _ ∧ _ = !(spStep o lw m).2.2.2 ∧ ((spStep o lw m).2.2.2 = false → spRep (spStep o lw m).1 t c ow _ (spStep o lw m).2.2.1) ∧ ((spStep o lw m).2.2.2 = true → spOwn (spStep o lw m).1 t _ ∧ spAns (spStep o lw m).2.2.1 = _)
    cases m with
    | no e =>
      obtain ⟨a, ho, hcase⟩ := hr
      have hs : spStep o lw (.no e) = (o, lw, .no e, true) := rfl
      rw [hs]
      rcases hcase with ⟨q1, rfl⟩ | ⟨q1, q2, rfl⟩ | ⟨q1, q2, q3, rfl⟩
      · have hrun : runT spDo 1 t c ow T W = ({ T.again with err := 12 }, W) := if_neg (by omega)
        rw [hrun]
        refine ⟨hW', rfl, (fun h => by cases h), fun _ => ⟨?_, rfl⟩⟩
        rw [if_neg (by omega)]
        exact ho
      · have hrun : runT spDo 1 t c ow T W = ({ T.again with priv := ow c.obj.toNat, err := 9 }, W) := by
          unfold runT spDo
          rw [if_pos (by omega), if_pos q2]
        rw [hrun]
        refine ⟨hW', rfl, (fun h => by cases h), fun _ => ⟨?_, rfl⟩⟩
        rw [if_pos (by omega), q1]
        show _ ↔ upd ow 0 (ow 0) 0 ≠ []
        rw [upd_same]
        exact ho
      · have hrun : runT spDo 1 t c ow T W = ({ T.again with priv := ow c.obj.toNat, err := 8 }, W) := by
          unfold runT spDo
          rw [if_pos (by omega), if_neg (by omega), if_pos (by rw [q1]; exact q3)]
        rw [hrun]
        refine ⟨hW', rfl, (fun h => by cases h), fun _ => ⟨?_, rfl⟩⟩
        rw [if_pos (by omega), q1]
        show _ ↔ upd ow 0 (ow 0) 0 ≠ []
        rw [upd_same]
        exact ho
    | take t' pc r cc =>
      obtain ⟨rfl, a3, a4, a5, a7, a8, g, hg, hgot⟩ := hr
      obtain ⟨T1, hT1⟩ : ∃ T1 : Tp, T1 = { T.again with priv := ow c.obj.toNat } := ⟨_, rfl⟩
      have p1 : T1.halt = false := by rw [hT1]; rfl
      have p2 : T1.at_ = 0 := by rw [hT1]; rfl
      have p3 : T1.got = g ++ pcL pc := by rw [hT1]; exact hgot
      have p4 : T1.fresh = true := by rw [hT1]; rfl
      have p5 : T1.err = 0 ∧ T1.list = [] ∧ T1.key = [] := by rw [hT1]; exact ⟨rfl, rfl, rfl⟩
      obtain ⟨k, hk, hf⟩ := sp_replay (W := W) p1 p2 hg (pcL pc) p3
      have hrun : runT spDo 1 t' c ow T W = spLoop t' (g.length + pc - k + 4) r cc { T1 with at_ := g.length } W := by
        have hl : T.got.length = g.length + pc := by rw [hgot]; simp [pcL]
        have : runT spDo 1 t' c ow T W = spLoop t' (T.got.length + 4) 0 0 T1 W := by
          unfold runT spDo
          rw [if_pos (by omega), if_neg (by omega), if_neg (by rw [a3]; simpa using a5), hT1]
          rfl
        rw [this, hl, ← hf]
        congr 1
        omega
      rw [hrun]
      have hl2 : (pcL pc).length = pc := by simp [pcL]
      have hat : ∀ j, j < pc → T1.got[g.length + j]? = some 0 := fun j hj => by
        rw [p3]
        refine got_at ?_
        unfold pcL
        rw [List.getElem?_replicate, if_pos hj]
      have hlen : T1.got.length = g.length + pc := by rw [p3]; simp [pcL]
      obtain ⟨f, hfe⟩ : ∃ f, g.length + pc - k + 4 = f + 1 + 1 := ⟨g.length + pc - k + 2, by omega⟩
      rw [hfe]
      clear hrun hf hk hT1 hfe
      have hmem : W.mem = lw.mem := w1
      have hg0 : ({ T1 with at_ := g.length } : Tp).halt = false := p1
      have hh7 : o.has t' = false := a7
      have hrep : ∀ (T' : Tp) (pc' r' c' : Nat) (g' : List Int), pc' ≤ 3 → SpGot t' r' c' g' → T'.got = g' ++ pcL pc' → spRep o t' c ow T' (.take t' pc' r' c') := fun T' pc' r' c' g' h1 h2 h3 => ⟨rfl, a3, a4, a5, a7, h1, g', h2, h3⟩
      have hpc : pc = 0 ∨ pc = 1 ∨ pc = 2 ∨ pc = 3 := by omega
      have A0 : ∀ k a x y, 0 < pc → ({ T1 with at_ := g.length } : Tp).acc t' k a x y W = (0, { T1 with at_ := g.length + 1 }, W) := fun k a x y h => acc_old p1 (hat 0 h)
      have A1 : ∀ k a x y, 1 < pc → ({ T1 with at_ := g.length + 1 } : Tp).acc t' k a x y W = (0, { T1 with at_ := g.length + 1 + 1 }, W) := fun k a x y h => acc_old p1 (hat 1 h)
      have A2 : ∀ k a x y, 2 < pc → ({ T1 with at_ := g.length + 1 + 1 } : Tp).acc t' k a x y W = (0, { T1 with at_ := g.length + 1 + 1 + 1 }, W) := fun k a x y h => acc_old p1 (hat 2 h)
      have new : ∀ k a x y, ({ T1 with at_ := g.length + pc } : Tp).acc t' k a x y W = (lw.mem.tell k a x, { T1 with at_ := g.length + pc + 1, fresh := false, got := T1.got ++ [lw.mem.tell k a x], tks := T1.tks ++ [W.now] }, { W with mem := lw.mem.acc k a x y, log := W.log1 t' k a x y }) := fun k a x y => by
        rw [acc_new (T := { T1 with at_ := g.length + pc }) p1 p4 hlen.symm, hmem]
      have wr : ∀ k a x y, WRel { lw with mem := lw.mem.acc k a x y } { W with mem := lw.mem.acc k a x y, log := W.log1 t' k a x y } := fun k a x y => by
        have := wrel_acc hW' k a x y (W.log1 t' k a x y)
        rw [w1] at this
        exact this
      have more : ∀ x, ({ T1 with at_ := g.length + pc + 1, fresh := false, got := T1.got ++ [x], tks := T1.tks ++ [W.now] } : Tp).at_ = ({ T1 with at_ := g.length + pc + 1, fresh := false, got := T1.got ++ [x], tks := T1.tks ++ [W.now] } : Tp).got.length := fun x => by
        show g.length + pc + 1 = (T1.got ++ [x]).length
        simp [hlen]
      rcases hpc with rfl | rfl | rfl | rfl
      · have hs : spStep o lw (.take t' 0 r cc) = (o, { lw with mem := lw.mem.acc 1 (2 * nameN r cc : Nat) (t' + 1) 0 }, .take t' 1 r cc, false) := rfl
        rw [hs, spLoop_down hg0 (new 1 _ _ _) (acc_halt p1 rfl (more _)) (acc_stop rfl) (acc_stop rfl) (by omega), spLoop_stop rfl]
        refine ⟨wr _ _ _ _, rfl, fun _ => hrep _ 1 r cc g (by decide) hg ?_, (fun h => by cases h)⟩
        show T1.got ++ [_] = _
        rw [p3, tell1]
        simp [pcL]
      · by_cases hx : lw.mem.tell 0 ((2 * nameN r cc : Nat) + 1) 0 = 0
        · have hs : spStep o lw (.take t' 1 r cc) = (o, { lw with mem := lw.mem.acc 0 ((2 * nameN r cc : Nat) + 1) 0 0 }, .take t' 2 r cc, false) := by
            unfold spStep
            dsimp only
            rw [if_neg (by decide), if_pos rfl, if_neg (fun h => h hx)]
          have n1 := new 0 ((2 * nameN r cc : Nat) + 1) 0 0
          rw [hx] at n1
          rw [hs, spLoop_down hg0 (A0 _ _ _ _ (by decide)) n1 (acc_halt p1 rfl (more _)) (acc_stop rfl) (by omega), spLoop_stop rfl]
          refine ⟨wr _ _ _ _, rfl, fun _ => hrep _ 2 r cc g (by decide) hg ?_, (fun h => by cases h)⟩
          show T1.got ++ [_] = _
          rw [p3]
          simp [pcL]
        · have hs : spStep o lw (.take t' 1 r cc) = (o, { lw with mem := lw.mem.acc 0 ((2 * nameN r cc : Nat) + 1) 0 0 }, .take t' 0 r (cc + 1), false) := by
            unfold spStep
            dsimp only
            rw [if_neg (by decide), if_pos rfl, if_pos hx]
          rw [hs, spLoop_right hg0 (A0 _ _ _ _ (by decide)) (new 0 ((2 * nameN r cc : Nat) + 1) 0 0) hx, spLoop_wait (T := { T1 with at_ := g.length + 1 + 1, fresh := false, got := T1.got ++ [lw.mem.tell 0 ((2 * nameN r cc : Nat) + 1) 0], tks := T1.tks ++ [W.now] }) p1 rfl (more _)]
          refine ⟨wr _ _ _ _, rfl, fun _ => hrep _ 0 r (cc + 1) _ (by decide) (SpGot.right hg hx) ?_, (fun h => by cases h)⟩
          show T1.got ++ [_] = _
          rw [p3]
          simp [pcL]
      · have hs : spStep o lw (.take t' 2 r cc) = (o, { lw with mem := lw.mem.acc 1 ((2 * nameN r cc : Nat) + 1) 1 0 }, .take t' 3 r cc, false) := rfl
        rw [hs, spLoop_down hg0 (A0 _ _ _ _ (by decide)) (A1 _ _ _ _ (by decide)) (new 1 ((2 * nameN r cc : Nat) + 1) 1 0) (acc_halt p1 rfl (more _)) (by omega), spLoop_stop rfl]
        refine ⟨wr _ _ _ _, rfl, fun _ => hrep _ 3 r cc g (by decide) hg ?_, (fun h => by cases h)⟩
        show T1.got ++ [_] = _
        rw [p3, tell1]
        simp [pcL, List.replicate]
      · by_cases hy : lw.mem.tell 0 (2 * nameN r cc : Nat) 0 = t' + 1
        · have hs : spStep o lw (.take t' 3 r cc) = (⟨upd o.has t' true⟩, { lw with mem := lw.mem.acc 0 (2 * nameN r cc : Nat) 0 0 }, .take t' 3 r cc, true) := by
            unfold spStep
            dsimp only
            rw [if_neg (by decide), if_neg (by decide), if_neg (by decide), if_pos hy]
          have n1 := new 0 (2 * nameN r cc : Nat) 0 0
          rw [hy] at n1
          rw [hs, spLoop_take hg0 (A0 _ _ _ _ (by decide)) (A1 _ _ _ _ (by decide)) (A2 _ _ _ _ (by decide)) n1]
          refine ⟨wr _ _ _ _, p1, (fun h => by cases h), fun _ => ⟨?_, ?_⟩⟩
          · rw [if_pos (by omega), a3]
            show upd o.has t' true t' = true ↔ upd ow 0 [1] 0 ≠ []
            rw [upd_same, upd_same]
            simp
          · show ((⟨0, nameN r cc, []⟩ : An), ([] : List Int)) = (⟨T1.err, (nameN r cc : Nat), T1.list⟩, T1.key)
            rw [p5.1, p5.2.1, p5.2.2]
        · have hs : spStep o lw (.take t' 3 r cc) = (o, { lw with mem := lw.mem.acc 0 (2 * nameN r cc : Nat) 0 0 }, .take t' 0 (r + 1) cc, false) := by
            unfold spStep
            dsimp only
            rw [if_neg (by decide), if_neg (by decide), if_neg (by decide), if_neg hy]
          rw [hs, spLoop_down hg0 (A0 _ _ _ _ (by decide)) (A1 _ _ _ _ (by decide)) (A2 _ _ _ _ (by decide)) (new 0 (2 * nameN r cc : Nat) 0 0) hy, spLoop_wait (T := { T1 with at_ := g.length + 3 + 1, fresh := false, got := T1.got ++ [lw.mem.tell 0 (2 * nameN r cc : Nat) 0], tks := T1.tks ++ [W.now] }) p1 rfl (more _)]
          refine ⟨wr _ _ _ _, rfl, fun _ => hrep _ 0 (r + 1) cc _ (by decide) (SpGot.down hg hy) ?_, (fun h => by cases h)⟩
          show T1.got ++ [_] = _
          rw [p3]
          simp [pcL, List.replicate]
  · intro o t s c2 ow2 T2 ow m lw hst hr ho
    show spOwn (spStep o lw m).1 s ow
    cases m with
    | no e => exact ho
    | take t' pc r cc =>
      obtain ⟨rfl, _⟩ := hr
      unfold spOwn
      rw [spStep_has hst]
      exact ho
  · intro o t s c2 ow2 T2 c' ow T m m' lw hst hr hr'
    show spRep (spStep o lw m).1 s c' ow T m'
    cases m with
    | no e => exact hr'
    | take t' pc r cc =>
      obtain ⟨rfl, _⟩ := hr
      cases m' with
      | no e =>
        obtain ⟨b1, b2, b3⟩ := hr'
        exact ⟨b1, by unfold spOwn; rw [spStep_has hst]; exact b2, b3⟩
      | take t2 pc2 r2 c2 =>
        obtain ⟨b1, b2, b3, b4, b5, b6⟩ := hr'
        exact ⟨b1, b2, b3, b4, by rw [spStep_has hst]; exact b5, b6⟩
end Go.Proofs.YtlfingcmekifkaaGreat

namespace Go.Proofs.YtlfingcmekifkaaGreat
open Go.RowKit
structure Col (n : Nat) (A : Nat → Int) (S : Nat → List Int) : Prop where
  w : ∀ t, t < n → A t = 0 → S t = []
  v : ∀ t s a, t < n → (S t)[s]? = some a → s < n ∧ (a = 0 ∨ a = A s)
  s : ∀ t s a b, t < n → s < n → (S t)[s]? = some a → (S s)[t]? = some b → a ≠ 0 ∨ b ≠ 0
theorem Col.new (n : Nat) : Col n (fun _ => 0) (fun _ => []) := ⟨fun _ _ _ => rfl, (fun _ _ _ _ h => by cases h), (fun _ _ _ _ _ _ h _ => by cases h)⟩
theorem Col.own {n : Nat} {A : Nat → Int} {S : Nat → List Int} (C : Col n A S) {t : Nat} (ht : t < n) (hl : (S t).length = n) : (S t)[t]? = some (A t) ∧ A t ≠ 0 := by
  have h : (S t)[t]? = some ((S t)[t]'(by omega)) := List.getElem?_eq_getElem _
  have h1 := C.s t t _ _ ht ht h h
  have h2 := (C.v t t _ ht h).2
  rcases h2 with h2 | h2
  · rcases h1 with h1 | h1 <;> exact absurd h2 h1
  · rw [h2] at h h1
    exact ⟨h, by rcases h1 with h1 | h1 <;> exact h1⟩
structure Ad where
  n : Nat
  has : Nat → Bool
inductive AM where
  | no (e : Int)
  | prop (t pc : Nat) (v : Int) (seen : List Int) (val : Int)
end Go.Proofs.YtlfingcmekifkaaGreat

namespace Go.Proofs.YtlfingcmekifkaaGreat
open Go.RowKit
end Go.Proofs.YtlfingcmekifkaaGreat

namespace Go.Proofs.YtlfingcmekifkaaGreat
open Go.RowKit
section
variable {M O : Type} {G : Gm M O} {D : Dof} {no : Nat}
theorem foldl_same {α β : Type} {f g : α → β → α} : ∀ {l : List β} {a : α}, (∀ b ∈ l, ∀ a, f a b = g a b) → l.foldl f a = l.foldl g a
  | [], _, _ => rfl
  | b :: l, a, h => by
    rw [List.foldl_cons, List.foldl_cons, h b (by simp)]
    exact foldl_same fun b' hb' => h b' (by simp [hb'])
theorem foldl_noop {α β : Type} {f : α → β → α} : ∀ {l : List β} {a : α}, (∀ b ∈ l, ∀ a, f a b = a) → l.foldl f a = a
  | [], _, _ => rfl
  | b :: l, a, h => by
    rw [List.foldl_cons, h b (by simp)]
    exact foldl_noop fun b' hb' => h b' (by simp [hb'])
theorem Sim.ends {A : Alike G D no} {cs : List Cl} {P : Ps M O} {R : Rs} (S : Sim A cs P R) (hl : ∀ o lw m, G.late o lw m = none) {n : Nat} (h16 : n ≤ 16) (hn : ∀ t, n ≤ t → P.hands t = none) : P.ends G = R.endsK (fun _ t => R.w.marks t) n := by
  unfold Ps.ends Rs.endsK
  obtain ⟨k, hk⟩ : ∃ k, 16 = n + k := ⟨16 - n, by omega⟩
  rw [hk, List.range_add, List.foldl_append, S.evs]
  rw [foldl_noop (fun t ht a => by
    obtain ⟨j, _, rfl⟩ := List.mem_map.1 ht
    rw [hn (n + j) (by omega)])]
  refine foldl_same fun t ht a => ?_
  rcases hh : P.hands t with _ | ⟨m, h⟩
  · rw [(S.hno t hh).1]
    rfl
  · obtain ⟨q1, q2, _⟩ := S.hso t m h hh
    rw [q1, q2]
    simp only [hl, if_true, S.rel.2.2.1]
end
end Go.Proofs.YtlfingcmekifkaaGreat
