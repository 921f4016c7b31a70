import Derived.Test.YtlfingcmekifkaaGreatBun17
import Derived.Test.YtlfingcmekifkaaGreatBun12
import Derived.Test.YtlfingcmekifkaaGreatBun14
namespace Go.Proofs.YtlfingcmekifkaaGreat
open Go.RowKit
def colT (t : Nat) (b : Int) : Nat → Tp → Rw → List Int × Tp × Rw
  | 0, T, W => ([], T, W)
  | n + 1, T, W => ((colT t b n T W).1 ++ [((colT t b n T W).2.1.acc t 0 (b + n) 0 0 (colT t b n T W).2.2).1], ((colT t b n T W).2.1.acc t 0 (b + n) 0 0 (colT t b n T W).2.2).2)
theorem colT_succ (t : Nat) (b : Int) (n : Nat) (T : Tp) (W : Rw) : colT t b (n + 1) T W = ((colT t b n T W).1 ++ [((colT t b n T W).2.1.acc t 0 (b + n) 0 0 (colT t b n T W).2.2).1], ((colT t b n T W).2.1.acc t 0 (b + n) 0 0 (colT t b n T W).2.2).2) := rfl
theorem colT_stop {t : Nat} {b : Int} {T : Tp} {W : Rw} (hh : T.halt = true) : ∀ n, colT t b n T W = (List.replicate n 0, T, W)
  | 0 => rfl
  | n + 1 => by rw [colT_succ, colT_stop hh n]; dsimp only; rw [acc_stop hh, List.replicate_succ']
theorem colT_old {t : Nat} {b : Int} {T : Tp} {W : Rw} {l : List Int} (hh : T.halt = false) (hg : ∀ j v, l[j]? = some v → T.got[T.at_ + j]? = some v) : ∀ n, n ≤ l.length → colT t b n T W = (l.take n, { T with at_ := T.at_ + n }, W)
  | 0, _ => rfl
  | n + 1, hn => by
    have hv : l[n]? = some l[n] := List.getElem?_eq_getElem (by omega)
    have e := acc_old (t := t) (k := 0) (a := b + n) (x := 0) (y := 0) (T := { T with at_ := T.at_ + n }) (W := W) hh (hg n _ hv)
    rw [colT_succ, colT_old hh hg n (by omega)]
    dsimp only
    rw [e, List.take_add_one, hv]
    rfl
theorem colT_add (t : Nat) (b : Int) (m : Nat) (T : Tp) (W : Rw) : ∀ n, colT t b (m + n) T W = ((colT t b m T W).1 ++ (colT t (b + m) n (colT t b m T W).2.1 (colT t b m T W).2.2).1, (colT t (b + m) n (colT t b m T W).2.1 (colT t b m T W).2.2).2)
  | 0 => by show colT t b m T W = _; simp [colT]
  | n + 1 => by
    rw [← Nat.add_assoc, colT_succ, colT_add t b m T W n, colT_succ]
    dsimp only
    rw [show b + ((m + n : Nat) : Int) = b + m + n by omega, List.append_assoc]
theorem colT_one (t : Nat) (b : Int) (T : Tp) (W : Rw) : colT t b 1 T W = ([(T.acc t 0 b 0 0 W).1], (T.acc t 0 b 0 0 W).2) := by
  rw [colT_succ]
  simp [colT]
theorem colT_wait {t : Nat} {b : Int} {T : Tp} {W : Rw} {n : Nat} (hn : 1 ≤ n) (hh : T.halt = false) (hf : T.fresh = false) (hl : T.at_ = T.got.length) : colT t b n T W = (List.replicate n 0, { T with halt := true }, W) := by
  obtain ⟨m, rfl⟩ : ∃ m, n = 1 + m := ⟨n - 1, by omega⟩
  rw [colT_add, colT_one, acc_halt hh hf hl]
  dsimp only
  rw [colT_stop rfl]
  dsimp only
  rw [show 1 + m = m + 1 by omega, List.replicate_succ]
  rfl
theorem colT_next {t : Nat} {b : Int} {T : Tp} {W : Rw} {l : List Int} {n : Nat} (hn : l.length < n) (hh : T.halt = false) (hf : T.fresh = true) (hg : ∀ j v, l[j]? = some v → T.got[T.at_ + j]? = some v) (hl : T.got.length = T.at_ + l.length) :
    ∃ T' L, colT t b n T W = (L, T', { W with mem := W.mem.acc 0 (b + l.length) 0 0, log := W.log1 t 0 (b + l.length) 0 0 }) ∧ T'.got = T.got ++ [W.mem.tell 0 (b + l.length) 0] ∧ T'.priv = T.priv ∧ T'.err = T.err ∧ T'.list = T.list ∧ T'.key = T.key ∧ T'.fresh = false ∧ T'.halt = decide (l.length + 1 < n) ∧
      (l.length + 1 = n → T'.at_ = T'.got.length ∧ L = l ++ [W.mem.tell 0 (b + l.length) 0]) := by
  have e0 := colT_old (t := t) (b := b) (W := W) hh hg l.length (Nat.le_refl _)
  have e1 : ({ T with at_ := T.at_ + l.length } : Tp).acc t 0 (b + l.length) 0 0 W = (W.mem.tell 0 (b + l.length) 0, { T with at_ := T.at_ + l.length + 1, fresh := false, got := T.got ++ [W.mem.tell 0 (b + l.length) 0], tks := T.tks ++ [W.now] }, { W with mem := W.mem.acc 0 (b + l.length) 0 0, log := W.log1 t 0 (b + l.length) 0 0 }) := acc_new hh hf hl.symm
  by_cases h : l.length + 1 < n
  · obtain ⟨m, rfl⟩ : ∃ m, n = l.length + (1 + m) := ⟨n - l.length - 1, by omega⟩
    have hm : 1 ≤ m := by omega
    have e2 : colT t (b + l.length) (1 + m) { T with at_ := T.at_ + l.length } W = ([W.mem.tell 0 (b + l.length) 0] ++ List.replicate m 0, { T with at_ := T.at_ + l.length + 1, fresh := false, got := T.got ++ [W.mem.tell 0 (b + l.length) 0], tks := T.tks ++ [W.now], halt := true }, { W with mem := W.mem.acc 0 (b + l.length) 0 0, log := W.log1 t 0 (b + l.length) 0 0 }) := by
      rw [colT_add, colT_one, e1]
      dsimp only
      rw [colT_wait (T := { T with at_ := T.at_ + l.length + 1, fresh := false, got := T.got ++ [W.mem.tell 0 (b + l.length) 0], tks := T.tks ++ [W.now] }) hm hh rfl (by show T.at_ + l.length + 1 = (T.got ++ [_]).length; simp; omega)]
    refine ⟨{ T with at_ := T.at_ + l.length + 1, fresh := false, got := T.got ++ [W.mem.tell 0 (b + l.length) 0], tks := T.tks ++ [W.now], halt := true }, l.take l.length ++ ([W.mem.tell 0 (b + l.length) 0] ++ List.replicate m 0), by rw [colT_add, e0]; dsimp only; rw [e2], rfl, rfl, rfl, rfl, rfl, rfl, (decide_eq_true h).symm, fun h' => by omega⟩
  · obtain rfl : n = l.length + 1 := by omega
    refine ⟨{ T with at_ := T.at_ + l.length + 1, fresh := false, got := T.got ++ [W.mem.tell 0 (b + l.length) 0], tks := T.tks ++ [W.now] }, l.take l.length ++ [W.mem.tell 0 (b + l.length) 0], by rw [colT_add, e0]; dsimp only; rw [colT_one, e1], rfl, rfl, rfl, rfl, rfl, rfl, by rw [decide_eq_false h]; exact hh, fun _ => ⟨by show T.at_ + l.length + 1 = (T.got ++ [_]).length; simp; omega, by simp⟩⟩
def adDo (n : Nat) : Dof := fun t c T W =>
  if c.kind ≠ 0 then ({ T with err := 9 }, W) else if 2147483648 ≤ c.a then ({ T with err := 10 }, W) else if T.priv ≠ [] then ({ T with err := 8 }, W) else
  let A := ({ T with priv := [1] } : Tp).acc t 1 t (c.a + 1) 0 W
  let B := colT t 0 n A.2.1 A.2.2
  let C := B.2.1.acc t 1 ((n : Int) + t) (markF (c.a + 1) B.1) 0 B.2.2
  let D := colT t n n C.2.1 C.2.2
  ({ D.2.1 with val := endF (c.a + 1) D.1 }, D.2.2)
def adOwn (n : Nat) (o : Ad) (t : Nat) (ow : Nat → List Int) : Prop := o.n = n ∧ (o.has t = true ↔ ow 0 ≠ [])
def adRep (n : Nat) (o : Ad) (t : Nat) (c : Cl) (ow : Nat → List Int) (T : Tp) : AM → Prop
  | .no e => T.got = [] ∧ adOwn n o t ow ∧ ((c.obj ≠ 0 ∧ e = 12) ∨ (c.obj = 0 ∧ c.kind ≠ 0 ∧ e = 9) ∨ (c.obj = 0 ∧ c.kind = 0 ∧ 2147483648 ≤ c.a ∧ e = 10) ∨ (c.obj = 0 ∧ c.kind = 0 ∧ ¬ 2147483648 ≤ c.a ∧ ow 0 ≠ [] ∧ e = 8))
  | .prop t' pc v seen _ => t' = t ∧ c.obj = 0 ∧ c.kind = 0 ∧ ¬ 2147483648 ≤ c.a ∧ ow 0 = [] ∧ o.has t = true ∧ o.n = n ∧ v = c.a + 1 ∧
      ((pc = 0 ∧ T.got = [] ∧ seen = []) ∨ (pc = 1 ∧ T.got = 0 :: seen ∧ seen.length < n) ∨ (pc = 2 ∧ T.got = 0 :: seen ∧ seen.length = n) ∨ (pc = 3 ∧ seen.length < n ∧ ∃ S1 : List Int, S1.length = n ∧ T.got = 0 :: (S1 ++ 0 :: seen)))
def adA (n : Nat) : Alike adG (adDo n) 1 := ⟨adOwn n, adRep n⟩
theorem ad_objs (o : Ad) (lw : Lw) (m : AM) : (adStep o lw m).1 = o := by
  unfold adStep
  split
  · rfl
  · split
    · rfl
    · split
      · rfl
      · split
        · rfl
        · dsimp only
          split <;> rfl
theorem adDo_go {n t : Nat} {c : Cl} {T TA TB TC TD : Tp} {W WA WB WC WD : Rw} {a k : Int} {L M : List Int} (h1 : c.kind = 0) (h2 : ¬ 2147483648 ≤ c.a) (h3 : T.priv = []) (hA : ({ T with priv := [1] } : Tp).acc t 1 t (c.a + 1) 0 W = (a, TA, WA)) (hB : colT t 0 n TA WA = (L, TB, WB))
    (hC : TB.acc t 1 ((n : Int) + t) (markF (c.a + 1) L) 0 WB = (k, TC, WC)) (hD : colT t n n TC WC = (M, TD, WD)) : adDo n t c T W = ({ TD with val := endF (c.a + 1) M }, WD) := by
  unfold adDo
  rw [if_neg (by omega), if_neg h2, if_neg (by rw [h3]; simp), hA]
  dsimp only
  rw [hB]
  dsimp only
  rw [hC]
  dsimp only
  rw [hD]
theorem ad_alike {n : Nat} (hn : 1 ≤ n) : (adA n).Ok := by
  refine ⟨?_, ?_, ?_, ?_, ?_, ?_⟩
  · intro o t c ow inv ho hc ht hu
    obtain ⟨o1, o2⟩ := ho
    show adRep n (adStart o t c).1 t c ow (Tp.new inv) (adStart o t c).2
    unfold adStart
    by_cases q1 : c.obj ≠ 0
    · rw [if_pos q1]
      exact ⟨rfl, ⟨o1, o2⟩, Or.inl ⟨q1, rfl⟩⟩
    rw [if_neg q1]
    by_cases q2 : c.kind ≠ 0
    · rw [if_pos q2]
      exact ⟨rfl, ⟨o1, o2⟩, Or.inr (Or.inl ⟨by omega, q2, rfl⟩)⟩
    rw [if_neg q2]
    by_cases q4 : 2147483648 ≤ c.a
    · rw [if_pos q4]
      exact ⟨rfl, ⟨o1, o2⟩, Or.inr (Or.inr (Or.inl ⟨by omega, by omega, q4, rfl⟩))⟩
    rw [if_neg q4]
    by_cases q3 : o.has t = true
    · rw [if_pos q3]
      exact ⟨rfl, ⟨o1, o2⟩, Or.inr (Or.inr (Or.inr ⟨by omega, by omega, q4, o2.1 q3, rfl⟩))⟩
    · rw [if_neg q3]
      exact ⟨rfl, by omega, by omega, q4, Decidable.byContradiction fun h => q3 (o2.2 h), upd_same _ _ _, o1, rfl, Or.inl ⟨rfl, rfl, rfl⟩⟩
  · intro o t s c ow hst ho
    obtain ⟨o1, o2⟩ := ho
    show adOwn n (adStart o t c).1 s ow
    unfold adStart
    repeat' split
    all_goals first | exact ⟨o1, o2⟩ | exact ⟨o1, by show (upd o.has t true s = true ↔ _); rw [upd_other hst]; exact o2⟩
  · intro o t s c c' ow T m hst hr
    have key : ∀ o' : Ad, o'.n = o.n → o'.has s = o.has s → adRep n o' s c' ow T m := by
      intro o' e1 e2
      cases m with
      | no e =>
        obtain ⟨a, ⟨b1, b2⟩, d⟩ := hr
        exact ⟨a, ⟨by rw [e1]; exact b1, by rw [e2]; exact b2⟩, d⟩
      | prop t' pc v seen val =>
        obtain ⟨a, b, d, e, f, g, h, i⟩ := hr
        exact ⟨a, b, d, e, f, by rw [e2]; exact g, by rw [e1]; exact h, i⟩
    refine key _ ?_ ?_
    · show (adStart o t c).1.n = _
      unfold adStart
      repeat' split
      all_goals rfl
    · show (adStart o t c).1.has s = _
      unfold adStart
      repeat' split
      all_goals first | rfl | exact upd_other hst
  · intro o t c ow T m lw W hr hW hu hct ht
    have hW' := hW
    obtain ⟨w1, w2, w3, w4⟩ := hW
    show WRel (adStep o lw m).2.1 _ ∧ _ = !(adStep o lw m).2.2.2 ∧ ((adStep o lw m).2.2.2 = false → adRep n (adStep o lw m).1 t c ow _ (adStep o lw m).2.2.1) ∧ ((adStep o lw m).2.2.2 = true → adOwn n (adStep o lw m).1 t _ ∧ adAns (adStep o lw m).2.2.1 = _)
    cases m with
    | no e =>
      obtain ⟨a, ho, hcase⟩ := hr
      have hs : adStep o lw (.no e) = (o, lw, .no e, true) := rfl
      rw [hs]
      have fin : ∀ e', (c.obj = 0 → runT (adDo n) 1 t c ow T W = ({ T.again with priv := ow c.obj.toNat, err := e' }, W)) → c.obj = 0 → WRel lw (runT (adDo n) 1 t c ow T W).2 ∧ (runT (adDo n) 1 t c ow T W).1.halt = !true ∧ (true = false → adRep n o t c ow (runT (adDo n) 1 t c ow T W).1 (.no e')) ∧ (true = true → adOwn n o t (if 0 ≤ c.obj ∧ c.obj < (1 : Nat) then upd ow c.obj.toNat (runT (adDo n) 1 t c ow T W).1.priv else ow) ∧ adAns (.no e') = (⟨(runT (adDo n) 1 t c ow T W).1.err, (runT (adDo n) 1 t c ow T W).1.val, (runT (adDo n) 1 t c ow T W).1.list⟩, (runT (adDo n) 1 t c ow T W).1.key)) := by
        intro e' hrun q1
        rw [hrun q1]
        refine ⟨hW', rfl, (fun h => by cases h), fun _ => ⟨?_, rfl⟩⟩
        rw [if_pos (by omega), q1]
        refine ⟨ho.1, ?_⟩
        show _ ↔ upd ow 0 (ow 0) 0 ≠ []
        rw [upd_same]
        exact ho.2
      rcases hcase with ⟨q1, rfl⟩ | ⟨q1, q2, rfl⟩ | ⟨q1, q2, q3, rfl⟩ | ⟨q1, q2, q3, q4, rfl⟩
      · have hrun : runT (adDo n) 1 t c ow T W = ({ T.again with err := 12 }, W) := if_neg (by omega)
        rw [hrun]
        refine ⟨hW', rfl, (fun h => by cases h), fun _ => ⟨?_, rfl⟩⟩
        rw [if_neg (by omega)]
        exact ho
      · exact fin 9 (fun q1 => by unfold runT adDo; rw [if_pos (by omega), if_pos q2]) q1
      · exact fin 10 (fun q1 => by unfold runT adDo; rw [if_pos (by omega), if_neg (by omega), if_pos q3]) q1
      · exact fin 8 (fun q1 => by unfold runT adDo; rw [if_pos (by omega), if_neg (by omega), if_neg q3, if_pos (by rw [q1]; exact q4)]) q1
    | prop t' pc v seen val =>
      obtain ⟨rfl, a3, a4, a5, a6, a7, a8, rfl, hcase⟩ := hr
      obtain ⟨T1, hT1⟩ : ∃ T1 : Tp, T1 = { T.again with priv := ow c.obj.toNat } := ⟨_, rfl⟩
      have hrun : runT (adDo n) 1 t' c ow T W = adDo n t' c T1 W := by rw [hT1]; exact if_pos (by omega)
      have p0 : T1.priv = [] := by rw [hT1, ← a6, a3]; rfl
      have p1 : ({ T1 with priv := [1] } : Tp).halt = false := by rw [hT1]; rfl
      have p2 : ({ T1 with priv := [1] } : Tp).at_ = 0 := by rw [hT1]; rfl
      have p3 : ({ T1 with priv := [1] } : Tp).got = T.got := by rw [hT1]; rfl
      have p4 : ({ T1 with priv := [1] } : Tp).fresh = true := by rw [hT1]; rfl
      have p5 : T1.err = 0 ∧ T1.list = [] ∧ T1.key = [] := by rw [hT1]; exact ⟨rfl, rfl, rfl⟩
      have p6 : ({ T1 with priv := [1] } : Tp).priv = [1] := rfl
      have p7 : ({ T1 with priv := [1] } : Tp).err = 0 ∧ ({ T1 with priv := [1] } : Tp).list = [] ∧ ({ T1 with priv := [1] } : Tp).key = [] := p5
      rw [hrun]
      have hgo := fun TA TB TC TD WA WB WC WD a k L M => adDo_go (n := n) (t := t') (TA := TA) (TB := TB) (TC := TC) (TD := TD) (W := W) (WA := WA) (WB := WB) (WC := WC) (WD := WD) (a := a) (k := k) (L := L) (M := M) a4 a5 p0
      clear hrun hT1 p0 p5
      generalize ({ T1 with priv := [1] } : Tp) = T2 at *
      have wr : ∀ k a x y, WRel { lw with mem := lw.mem.acc k a x y } { W with mem := W.mem.acc k a x y, log := W.log1 t' k a x y } := fun k a x y => wrel_acc hW' k a x y (W.log1 t' k a x y)
      have hrep : ∀ (T' : Tp) (pc' : Nat) (s' : List Int) (val' : Int), ((pc' = 0 ∧ T'.got = [] ∧ s' = []) ∨ (pc' = 1 ∧ T'.got = 0 :: s' ∧ s'.length < n) ∨ (pc' = 2 ∧ T'.got = 0 :: s' ∧ s'.length = n) ∨ (pc' = 3 ∧ s'.length < n ∧ ∃ S1 : List Int, S1.length = n ∧ T'.got = 0 :: (S1 ++ 0 :: s'))) → adRep n o t' c ow T' (.prop t' pc' (c.a + 1) s' val') := fun T' pc' s' val' h => ⟨rfl, a3, a4, a5, a6, a7, a8, rfl, h⟩
      rcases hcase with ⟨rfl, g1, rfl⟩ | ⟨rfl, g1, g2⟩ | ⟨rfl, g1, g2⟩ | ⟨rfl, g2, S1, g3, g1⟩
      · have hs : adStep o lw (.prop t' 0 (c.a + 1) [] val) = (o, { lw with mem := lw.mem.acc 1 t' (c.a + 1) 0 }, .prop t' 1 (c.a + 1) [] val, false) := rfl
        rw [hs, hgo _ _ _ _ _ _ _ _ _ _ _ _ (acc_new p1 p4 (by rw [p2, p3, g1]; rfl)) (colT_wait (T := { T2 with fresh := false, got := T2.got ++ [W.mem.tell 1 t' (c.a + 1)], tks := T2.tks ++ [W.now], at_ := T2.at_ + 1 }) hn p1 rfl (by show T2.at_ + 1 = (T2.got ++ [_]).length; rw [p2, p3, g1]; rfl)) (acc_stop rfl) (colT_stop rfl n)]
        refine ⟨wr _ _ _ _, rfl, fun _ => hrep _ 1 [] val (Or.inr (Or.inl ⟨rfl, ?_, hn⟩)), (fun h => by cases h)⟩
        show T2.got ++ [_] = _
        rw [p3, g1, tell1]
        rfl
      · have hA : T2.acc t' 1 t' (c.a + 1) 0 W = (0, { T2 with at_ := T2.at_ + 1 }, W) := acc_old p1 (by rw [p2, p3, g1]; rfl)
        obtain ⟨TB, L, hB, b1, b2, b3, b4, b5, b6, b7, b8⟩ := colT_next (t := t') (b := 0) (T := { T2 with at_ := T2.at_ + 1 }) (W := W) (l := seen) (n := n) g2 p1 p4 (fun j v hv => by show T2.got[T2.at_ + 1 + j]? = _; rw [p2, p3, g1, show 0 + 1 + j = j + 1 by omega]; exact hv) (by show T2.got.length = T2.at_ + 1 + _; rw [p2, p3, g1]; simp; omega)
        rw [Int.zero_add] at hB b1 b8
        have hx : W.mem.tell 0 (seen.length : Int) 0 = lw.mem.tell 0 (seen.length : Int) 0 := by rw [w1]
        have hs : adStep o lw (.prop t' 1 (c.a + 1) seen val) = (o, { lw with mem := lw.mem.acc 0 (seen.length : Int) 0 0 }, .prop t' (if (seen ++ [lw.mem.tell 0 (seen.length : Int) 0]).length = o.n then 2 else 1) (c.a + 1) (seen ++ [lw.mem.tell 0 (seen.length : Int) 0]) val, false) := rfl
        rw [hs, a8]
        have hgot : TB.got = 0 :: (seen ++ [lw.mem.tell 0 (seen.length : Int) 0]) := by rw [b1, hx]; show T2.got ++ _ = _; rw [p3, g1]; rfl
        have hln : (seen ++ [lw.mem.tell 0 (seen.length : Int) 0]).length = seen.length + 1 := by simp
        by_cases hl : seen.length + 1 < n
        · have hTB : TB.halt = true := by rw [b7]; exact decide_eq_true hl
          rw [hgo _ _ _ _ _ _ _ _ _ _ _ _ hA hB (acc_stop hTB) (colT_stop hTB n), hln, if_neg (by omega)]
          refine ⟨wr _ _ _ _, hTB, fun _ => hrep _ 1 _ val (Or.inr (Or.inl ⟨rfl, hgot, by rw [hln]; exact hl⟩)), (fun h => by cases h)⟩
        · have hTB : TB.halt = false := by rw [b7]; exact decide_eq_false hl
          rw [hgo _ _ _ _ _ _ _ _ _ _ _ _ hA hB (acc_halt hTB b6 (b8 (by omega)).1) (colT_stop rfl n), hln, if_pos (by omega)]
          refine ⟨wr _ _ _ _, rfl, fun _ => hrep _ 2 _ val (Or.inr (Or.inr (Or.inl ⟨rfl, hgot, by rw [hln]; omega⟩))), (fun h => by cases h)⟩
      · have hA : T2.acc t' 1 t' (c.a + 1) 0 W = (0, { T2 with at_ := T2.at_ + 1 }, W) := acc_old p1 (by rw [p2, p3, g1]; rfl)
        have hB := colT_old (t := t') (b := 0) (T := { T2 with at_ := T2.at_ + 1 }) (W := W) (l := seen) p1 (fun j v hv => by show T2.got[T2.at_ + 1 + j]? = _; rw [p2, p3, g1, show 0 + 1 + j = j + 1 by omega]; exact hv) n (by omega)
        rw [List.take_of_length_le (by omega)] at hB
        have hs : adStep o lw (.prop t' 2 (c.a + 1) seen val) = (o, { lw with mem := lw.mem.acc 1 ((o.n : Int) + t') (markF (c.a + 1) seen) 0 }, .prop t' 3 (c.a + 1) [] val, false) := rfl
        have hC := acc_new (t := t') (k := 1) (a := (n : Int) + t') (x := markF (c.a + 1) seen) (y := 0) (T := { T2 with at_ := T2.at_ + 1 + n }) (W := W) p1 p4 (by show T2.at_ + 1 + n = T2.got.length; rw [p2, p3, g1]; simp; omega)
        rw [hs, a8, hgo _ _ _ _ _ _ _ _ _ _ _ _ hA hB hC (colT_wait (T := { T2 with at_ := T2.at_ + 1 + n + 1, fresh := false, got := T2.got ++ [W.mem.tell 1 ((n : Int) + t') (markF (c.a + 1) seen)], tks := T2.tks ++ [W.now] }) hn p1 rfl (by show T2.at_ + 1 + n + 1 = (T2.got ++ [_]).length; rw [p2, p3, g1]; simp; omega))]
        refine ⟨wr _ _ _ _, rfl, fun _ => hrep _ 3 [] val (Or.inr (Or.inr (Or.inr ⟨rfl, hn, seen, g2, ?_⟩))), (fun h => by cases h)⟩
        show T2.got ++ [_] = _
        rw [p3, g1, tell1]
        rfl
      · have hA : T2.acc t' 1 t' (c.a + 1) 0 W = (0, { T2 with at_ := T2.at_ + 1 }, W) := acc_old p1 (by rw [p2, p3, g1]; rfl)
        have hB := colT_old (t := t') (b := 0) (T := { T2 with at_ := T2.at_ + 1 }) (W := W) (l := S1) p1 (fun j v hv => by
          show T2.got[T2.at_ + 1 + j]? = _
          rw [p2, p3, g1, show 0 + 1 + j = j + 1 by omega, List.getElem?_cons_succ, List.getElem?_append_left (List.getElem?_eq_some_iff.1 hv).1]
          exact hv) n (by omega)
        rw [List.take_of_length_le (by omega)] at hB
        have hC := acc_old (t := t') (k := 1) (a := (n : Int) + t') (x := markF (c.a + 1) S1) (y := 0) (v := 0) (T := { T2 with at_ := T2.at_ + 1 + n }) (W := W) p1 (by
          show T2.got[T2.at_ + 1 + n]? = _
          rw [p2, p3, g1, show 0 + 1 + n = n + 1 by omega, List.getElem?_cons_succ, List.getElem?_append_right (by omega), g3, Nat.sub_self]
          rfl)
        obtain ⟨TD, M, hD, b1, b2, b3, b4, b5, b6, b7, b8⟩ := colT_next (t := t') (b := (n : Int)) (T := { T2 with at_ := T2.at_ + 1 + n + 1 }) (W := W) (l := seen) (n := n) g2 p1 p4 (fun j v hv => by
          show T2.got[T2.at_ + 1 + n + 1 + j]? = _
          rw [p2, p3, g1, show 0 + 1 + n + 1 + j = (n + 1 + j) + 1 by omega, List.getElem?_cons_succ, List.getElem?_append_right (by omega), g3, show n + 1 + j - n = j + 1 by omega, List.getElem?_cons_succ]
          exact hv) (by show T2.got.length = T2.at_ + 1 + n + 1 + _; rw [p2, p3, g1]; simp; omega)
        have hx : W.mem.tell 0 ((n : Int) + seen.length) 0 = lw.mem.tell 0 ((n : Int) + seen.length) 0 := by rw [w1]
        have hgot : TD.got = 0 :: (S1 ++ 0 :: (seen ++ [lw.mem.tell 0 ((n : Int) + seen.length) 0])) := by rw [b1, hx]; show T2.got ++ _ = _; rw [p3, g1]; simp
        have hln : (seen ++ [lw.mem.tell 0 ((n : Int) + seen.length) 0]).length = seen.length + 1 := by simp
        rw [hgo _ _ _ _ _ _ _ _ _ _ _ _ hA hB hC hD]
        by_cases hl : seen.length + 1 < n
        · have hs : adStep o lw (.prop t' 3 (c.a + 1) seen val) = (o, { lw with mem := lw.mem.acc 0 ((n : Int) + seen.length) 0 0 }, .prop t' 3 (c.a + 1) (seen ++ [lw.mem.tell 0 ((n : Int) + seen.length) 0]) val, false) := by
            unfold adStep
            dsimp only
            rw [if_neg (by decide), if_neg (by decide), if_neg (by decide), a8, hln, if_neg (by omega)]
          have hTD : TD.halt = true := by rw [b7]; exact decide_eq_true hl
          rw [hs]
          refine ⟨wr _ _ _ _, hTD, fun _ => hrep _ 3 _ val (Or.inr (Or.inr (Or.inr ⟨rfl, by rw [hln]; exact hl, S1, g3, hgot⟩))), (fun h => by cases h)⟩
        · have hs : adStep o lw (.prop t' 3 (c.a + 1) seen val) = (o, { lw with mem := lw.mem.acc 0 ((n : Int) + seen.length) 0 0 }, .prop t' 3 (c.a + 1) (seen ++ [lw.mem.tell 0 ((n : Int) + seen.length) 0]) (endF (c.a + 1) (seen ++ [lw.mem.tell 0 ((n : Int) + seen.length) 0])), true) := by
            unfold adStep
            dsimp only
            rw [if_neg (by decide), if_neg (by decide), if_neg (by decide), a8, hln, if_pos (by omega)]
          have hTD : TD.halt = false := by rw [b7]; exact decide_eq_false hl
          rw [hs]
          refine ⟨wr _ _ _ _, hTD, (fun h => by cases h), fun _ => ⟨⟨a8, ?_⟩, ?_⟩⟩
          · rw [if_pos (by omega), a3]
            show o.has t' = true ↔ upd ow 0 TD.priv 0 ≠ []
            rw [upd_same, b2, a7]
            show _ ↔ T2.priv ≠ []
            rw [p6]
            simp
          · show ((⟨0, endF (c.a + 1) (seen ++ [lw.mem.tell 0 ((n : Int) + seen.length) 0]), []⟩ : An), ([] : List Int)) = (⟨TD.err, endF (c.a + 1) M, TD.list⟩, TD.key)
            rw [(b8 (by omega)).2, hx, b3, b4, b5]
            show _ = ((⟨T2.err, _, T2.list⟩ : An), T2.key)
            rw [p7.1, p7.2.1, p7.2.2]
  · intro o t s c2 ow2 T2 ow m lw hst _ ho
    have hs : (adStep o lw m).1 = o := ad_objs o lw m
    show adOwn n (adStep o lw m).1 s ow
    rw [hs]
    exact ho
  · intro o t s c2 ow2 T2 c' ow T m m' lw hst _ hr
    have hs : (adStep o lw m).1 = o := ad_objs o lw m
    show adRep n (adStep o lw m).1 s c' ow T m'
    rw [hs]
    exact hr
end Go.Proofs.YtlfingcmekifkaaGreat

namespace Go.Proofs.YtlfingcmekifkaaGreat
open Go.RowKit
section
variable {M O : Type} {G : Gm M O} {D : Dof} {no : Nat}
theorem foldl_same {α β : Type} {f g : α → β → α} : ∀ {l : List β} {a : α}, (∀ b ∈ l, ∀ a, f a b = g a b) → l.foldl f a = l.foldl g a
  | [], _, _ => rfl
  | b :: l, a, h => by
    rw [List.foldl_cons, List.foldl_cons, h b (by simp)]
    exact foldl_same fun b' hb' => h b' (by simp [hb'])
theorem foldl_noop {α β : Type} {f : α → β → α} : ∀ {l : List β} {a : α}, (∀ b ∈ l, ∀ a, f a b = a) → l.foldl f a = a
  | [], _, _ => rfl
  | b :: l, a, h => by
    rw [List.foldl_cons, h b (by simp)]
    exact foldl_noop fun b' hb' => h b' (by simp [hb'])
theorem Sim.ends {A : Alike G D no} {cs : List Cl} {P : Ps M O} {R : Rs} (S : Sim A cs P R) (hl : ∀ o lw m, G.late o lw m = none) {n : Nat} (h16 : n ≤ 16) (hn : ∀ t, n ≤ t → P.hands t = none) : P.ends G = R.endsK (fun _ t => R.w.marks t) n := by
  unfold Ps.ends Rs.endsK
  obtain ⟨k, hk⟩ : ∃ k, 16 = n + k := ⟨16 - n, by omega⟩
  rw [hk, List.range_add, List.foldl_append, S.evs]
  rw [foldl_noop (fun t ht a => by
    obtain ⟨j, _, rfl⟩ := List.mem_map.1 ht
    rw [hn (n + j) (by omega)])]
  refine foldl_same fun t ht a => ?_
  rcases hh : P.hands t with _ | ⟨m, h⟩
  · rw [(S.hno t hh).1]
    rfl
  · obtain ⟨q1, q2, _⟩ := S.hso t m h hh
    rw [q1, q2]
    simp only [hl, if_true, S.rel.2.2.1]
end
end Go.Proofs.YtlfingcmekifkaaGreat

namespace Go.Proofs.YtlfingcmekifkaaGreat
open Go.RowKit
def b1 (b : Bool) : Nat := if b then 1 else 0
structure Few (T : Tp) (W : Rw) (T' : Tp) (W' : Rw) : Prop where
  got : T'.got.length + b1 T'.fresh ≤ T.got.length + b1 T.fresh
  tks : T'.tks.length + b1 T'.fresh ≤ T.tks.length + b1 T.fresh
  log : W'.log.length + b1 T'.fresh ≤ W.log.length + b1 T.fresh
theorem Few.refl (T : Tp) (W : Rw) : Few T W T W := ⟨Nat.le_refl _, Nat.le_refl _, Nat.le_refl _⟩
theorem Few.trans {T T1 T2 : Tp} {W W1 W2 : Rw} (h : Few T W T1 W1) (h' : Few T1 W1 T2 W2) : Few T W T2 W2 := ⟨Nat.le_trans h'.got h.got, Nat.le_trans h'.tks h.tks, Nat.le_trans h'.log h.log⟩
theorem acc_few (t : Nat) (k a x y : Int) (T : Tp) (W : Rw) : Few T W (T.acc t k a x y W).2.1 (T.acc t k a x y W).2.2 := by
  unfold Tp.acc
  split
  · exact Few.refl T W
  · split
    · exact ⟨Nat.le_refl _, Nat.le_refl _, Nat.le_refl _⟩
    · split
      · rename_i h
        refine ⟨?_, ?_, ?_⟩
        · show (T.got ++ [_]).length + b1 false ≤ _
          rw [h]; simp [b1]
        · show (T.tks ++ [_]).length + b1 false ≤ _
          rw [h]; simp [b1]
        · show (W.log1 t k a x y).length + b1 false ≤ _
          rw [h]
          unfold Rw.log1
          split <;> simp [b1]
      · exact ⟨Nat.le_refl _, Nat.le_refl _, Nat.le_refl _⟩
theorem acc_priv (t : Nat) (k a x y : Int) (T : Tp) (W : Rw) : (T.acc t k a x y W).2.1.priv = T.priv := by
  unfold Tp.acc
  repeat' split
  all_goals rfl
structure DSm (D : Dof) : Prop where
  few : ∀ t c T W, Few T W (D t c T W).1 (D t c T W).2
  priv : ∀ t c T W, T.priv.length ≤ 1000 → (D t c T W).1.priv.length ≤ 1000
  wd : DBd D
theorem TBd.one {T : Tp} {W : Rw} (h : TBd T W) : TBd { T with priv := [1] } W := ⟨h.got, fun x hx => by obtain rfl := List.mem_singleton.1 hx; exact wd1, h.mem⟩
theorem colT_few (t : Nat) (b : Int) (T : Tp) (W : Rw) : ∀ n, Few T W (colT t b n T W).2.1 (colT t b n T W).2.2 ∧ (colT t b n T W).2.1.priv = T.priv
  | 0 => ⟨Few.refl T W, rfl⟩
  | n + 1 => by
    obtain ⟨h1, h2⟩ := colT_few t b T W n
    rw [colT_succ]
    exact ⟨h1.trans (acc_few _ _ _ _ _ _ _), (acc_priv _ _ _ _ _ _ _).trans h2⟩
theorem colT_bd {t : Nat} {b : Int} {T : Tp} {W : Rw} (h : TBd T W) : ∀ n, TBd (colT t b n T W).2.1 (colT t b n T W).2.2 ∧ ∀ x ∈ (colT t b n T W).1, Wd x
  | 0 => ⟨h, fun x hx => by cases hx⟩
  | n + 1 => by
    obtain ⟨h1, h2⟩ := colT_bd (t := t) (b := b) h n
    obtain ⟨b1, b2⟩ := acc_wd (t := t) (k := 0) (a := b + n) h1 wd0 wd0
    rw [colT_succ]
    refine ⟨b1, fun x hx => ?_⟩
    rcases List.mem_append.1 hx with hx | hx
    · exact h2 x hx
    · obtain rfl := List.mem_singleton.1 hx
      exact b2
theorem markF_wd {v : Int} (l : List Int) (h : 0 ≤ v ∧ v ≤ 2147483648) : Wd (markF v l) := by
  unfold markF Wd
  split <;> omega
theorem ad_bd (n : Nat) : DBd (adDo n) := by
  intro t c T W ht hc h
  unfold adDo
  split
  · exact ⟨h.got, h.priv, h.mem⟩
  · split
    · exact ⟨h.got, h.priv, h.mem⟩
    · rename_i q2
      split
      · exact ⟨h.got, h.priv, h.mem⟩
      · have hv : 0 ≤ c.a + 1 ∧ c.a + 1 ≤ 2147483648 := by have := hc.1; omega
        have b1 := (acc_wd (t := t) (k := 1) (a := t) h.one (show Wd (c.a + 1) from ⟨hv.1, by omega⟩) wd0).1
        obtain ⟨b2, _⟩ := colT_bd (t := t) (b := 0) b1 n
        have b3 := (acc_wd (t := t) (k := 1) (a := (n : Int) + t) b2 (markF_wd (colT t 0 n (({ T with priv := [1] } : Tp).acc t 1 t (c.a + 1) 0 W).2.1 (({ T with priv := [1] } : Tp).acc t 1 t (c.a + 1) 0 W).2.2).1 hv) wd0).1
        obtain ⟨b4, _⟩ := colT_bd (t := t) (b := n) b3 n
        exact ⟨b4.got, b4.priv, b4.mem⟩
theorem ad_small (n : Nat) : DSm (adDo n) := by
  refine ⟨fun t c T W => ?_, fun t c T W h => ?_, ad_bd n⟩
  · unfold adDo
    split
    · exact ⟨Nat.le_refl _, Nat.le_refl _, Nat.le_refl _⟩
    · split
      · exact ⟨Nat.le_refl _, Nat.le_refl _, Nat.le_refl _⟩
      · split
        · exact ⟨Nat.le_refl _, Nat.le_refl _, Nat.le_refl _⟩
        · refine Few.trans (T1 := { T with priv := [1] }) (W1 := W) ⟨Nat.le_refl _, Nat.le_refl _, Nat.le_refl _⟩ ?_
          exact (acc_few t 1 t (c.a + 1) 0 { T with priv := [1] } W).trans ((colT_few t 0 _ _ n).1.trans ((acc_few t 1 ((n : Int) + t) (markF (c.a + 1) (colT t 0 n (({ T with priv := [1] } : Tp).acc t 1 t (c.a + 1) 0 W).2.1 (({ T with priv := [1] } : Tp).acc t 1 t (c.a + 1) 0 W).2.2).1) 0 _ _).trans ((colT_few t n _ _ n).1.trans ⟨Nat.le_refl _, Nat.le_refl _, Nat.le_refl _⟩)))
  · unfold adDo
    split
    · exact h
    · split
      · exact h
      · split
        · exact h
        · show (colT _ _ _ _ _).2.1.priv.length ≤ 1000
          rw [(colT_few _ _ _ _ _).2, acc_priv, (colT_few _ _ _ _ _).2, acc_priv]
          show ([1] : List Int).length ≤ 1000
          decide
end Go.Proofs.YtlfingcmekifkaaGreat
