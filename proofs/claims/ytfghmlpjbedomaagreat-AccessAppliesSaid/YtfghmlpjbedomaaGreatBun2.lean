/- Copies of rows of words (slices.Clone), and stores of function values. -/
/- Whose each tick was, as plain data (package cut): calls by threads, what is left of them, ticks. -/
/- Answers, as plain data. -/
/- A play on a loom, as plain data: a memory, machines that make a step at a time, events. -/
import Derived.Test.YtfghmlpjbedomaaGreatBase
import Derived.Test.YtfghmlpjbedomaaGreatBun1
import Derived.Test.YtfghmlpjbedomaaGreatProg
import Derived.Maps.AppendAt
import Derived.Lib.SliceRun
namespace Go.Proofs.YtfghmlpjbedomaaGreat
open Go.RowKit

theorem info_word : (Tryz.prog.info? 37).map (fun i => (i.zero, i.size, i.bytes)) = some (some (.int .u64 0), 1, 8) := by kernel_rfl

abbrev WRow (w : World) (B : Nat) (v : Value) (l : List Int) : Prop := w.ownsRow B 37 1 v l.length (l.map (Value.int .u64))

set_option maxRecDepth 100000 in
set_option maxHeartbeats 1000000 in
/-- A copy: the same words, in memory of the call's own. -/
theorem clone_any (v : Value) (xs : List Int) (w : World) (h : SlW w v xs) (hb : xs.length ≤ 1000000) :
    Calls Tryz.prog 26 #[v] w fun e w' => ∃ v', e = .returned v' ∧ WRow w' w.heap.size v' xs ∧ Below w.heap.size w w' := by
  obtain ⟨A, cap, rfl, h1, h2, h3⟩ := h
  obtain ⟨i0, hi, hz0, hz1, hz2⟩ := info_parts info_word
  have q32 : ∀ (w : World) (a : Option Addr) (n c n' c' : Nat), (binOp .eql 33 (.slice a n c) (.slice none n' c')).run Tryz.prog w = .ok (.bool a.isNone) w := fun w a n c n' c' => Lib.run_eql_slice_nil w _ _ a n c n' c' Tryz.underlying33
  rcases A with _ | a
  · have hx : xs = [] := by
      rcases xs with _ | ⟨x, xs⟩
      · rfl
      · obtain ⟨b, o, hA, _⟩ := h3 0 x rfl
        cases hA
    subst hx
    clear h3
    go_enter Tryz.func26, Tryz.ntmps26
    go_wp2
    go_ret
    exact ⟨_, rfl, World.ownsRow_nil _ _ _ _, by (repeat' (first | exact Below.refl _ _ | assumption | refine Below.drew ?_ | refine below_drewN ?_ _ | refine Below.alloc ?_ (by simp <;> omega) _ | refine Below.setCell ?_ (by simp <;> omega) _))⟩
  · have hnews : ∀ j u, (xs.map (Value.int .u64))[j]? = some u → (w.alloc (.cells #[] 37)).cell? (a.add j) = some u := by
      intro j u hu
      rw [List.getElem?_map] at hu
      rcases hx : xs[j]? with _ | x
      · rw [hx] at hu; cases hu
      · rw [hx] at hu
        obtain ⟨b, o, hA, hbw, hc⟩ := h3 j x hx
        cases hA
        cases hu
        have := nt_cell hc
        rw [Addr.add_lit]
        simp only [Nat.mul_one] at this
        exact Lib.cell?_alloc_some _ this
    clear h3
    go_enter Tryz.func26, Tryz.ntmps26
    go_wp2_with (first
      | (at_builtin; refine wpList_append_own_at _ rfl _ _ 33 rfl w.heap.size 37 i0 (.int .u64 0) 1 8 Tryz.underlying33 hi hz0 hz1 hz2 rfl (by decide) _ _ _ rfl (World.ownsRow_made w #[] 0 (Nat.le_refl _) (Nat.zero_le _) rfl) a xs.length cap (xs.map (Value.int .u64)) rfl (by simp) hnews (ints_oneCell .u64 xs) (by unfold maxLen; omega) (by omega) (by simp) ?_; intro v' w5 hown' hgrow hnil hloc)
      | go_in)
    go_ret
    exact ⟨_, rfl, by simpa using hown', ((Below.refl _ w).alloc (Nat.le_refl _) _).grown hgrow (by simp) (by intro k hk; cases hk; exact Nat.le_refl _)⟩

/-- A row of words that the call owns reads as a list. -/
theorem wrow_sl {w : World} {B : Nat} {v : Value} {l : List Int} (h : WRow w B v l) (hm : l.length ≤ maxLen) : SlW w v l := sl_of_owns h hm

theorem run_store_fn {P : Program} {w : World} {a : Addr} {m : Mode} (g : Fn) (p q : Array Value) : (store a (.func g p q) m).run P w = stored P w a (.func g p q) m := run_store P w a _ m rfl
theorem run_store_nilfn {P : Program} {w : World} {a : Addr} {m : Mode} : (store a .nilFunc m).run P w = stored P w a .nilFunc m := run_store P w a _ m rfl
end Go.Proofs.YtfghmlpjbedomaaGreat

namespace Go.Proofs.YtfghmlpjbedomaaGreat
open Go.RowKit

/-- The calls of a thread that are not finished. -/
def remF (cs : List Cl) (fin : List Bool) (p : Int) : List Nat := (List.range cs.length).filter fun i => decide ((cs[i]?).map (·.thread) = some p) && !(fin[i]?.getD false)
def nowF (cs : List Cl) (fin : List Bool) (p : Int) : Option Nat := (remF cs fin p).head?
def evOf (es : List Ev) (i : Nat) : Option Ev := es.find? fun e => decide (e.call = i)
def firstT (es : List Ev) (i now : Nat) : Bool := match evOf es i with
  | some e => decide (e.inv = now)
  | none => false
def lastT (es : List Ev) (i now : Nat) : Bool := match evOf es i with
  | some e => decide (e.resp = now)
  | none => false
def stepT (cs : List Cl) (es : List Ev) (st : List Bool × List Nat) (p : Int) : List Bool × List Nat := match nowF cs st.1 p with
  | none => st
  | some i => (if lastT es i (st.2.length + 1) then st.1.set i true else st.1, st.2 ++ [i])
def playT (cs : List Cl) (es : List Ev) (picks : List Int) : List Bool × List Nat := picks.foldl (stepT cs es) (List.replicate cs.length false, [])

theorem nodup_range_filter (n : Nat) (f : Nat → Bool) : ((List.range n).filter f).Nodup := List.Pairwise.filter _ List.nodup_range
theorem remF_nodup (cs : List Cl) (fin : List Bool) (p : Int) : (remF cs fin p).Nodup := nodup_range_filter _ _
theorem remF_mem {cs : List Cl} {fin : List Bool} {p : Int} {i : Nat} : i ∈ remF cs fin p ↔ i < cs.length ∧ (cs[i]?).map (·.thread) = some p ∧ fin[i]?.getD false = false := by
  unfold remF
  rw [List.mem_filter, List.mem_range]
  simp
theorem nowF_some {cs : List Cl} {fin : List Bool} {p : Int} {i : Nat} (h : nowF cs fin p = some i) : i < cs.length ∧ (cs[i]?).map (·.thread) = some p ∧ fin[i]?.getD false = false := by
  unfold nowF at h
  exact remF_mem.1 (List.mem_of_mem_head? h)

theorem set_get (fin : List Bool) (i j : Nat) (hi : i < fin.length) : (fin.set i true)[j]?.getD false = if j = i then true else fin[j]?.getD false := by
  rw [List.getElem?_set]
  by_cases h : i = j
  · subst h; simp [hi]
  · simp [h, Ne.symm h]

theorem filter_tail {l : List Nat} {i : Nat} {rest : List Nat} {f : Nat → Bool} (hf : l.filter f = i :: rest) (hn : l.Nodup) : l.filter (fun j => f j && !decide (j = i)) = rest := by
  have h1 : l.filter (fun j => f j && !decide (j = i)) = (l.filter f).filter (fun j => !decide (j = i)) := by
    rw [List.filter_filter]
    congr 1
    funext j
    exact Bool.and_comm _ _
  rw [h1, hf]
  have hnd : (i :: rest).Nodup := by rw [← hf]; exact List.Pairwise.filter _ hn
  rw [List.nodup_cons] at hnd
  rw [List.filter_cons]
  simp
  intro a ha e
  subst e
  exact hnd.1 ha

theorem remF_finish {cs : List Cl} {fin : List Bool} {p : Int} {i : Nat} {rest : List Nat} (hl : fin.length = cs.length) (h : remF cs fin p = i :: rest) :
    remF cs (fin.set i true) p = rest ∧ ∀ p', p' ≠ p → remF cs (fin.set i true) p' = remF cs fin p' := by
  have hi := remF_mem.1 (show i ∈ remF cs fin p by rw [h]; simp)
  refine ⟨?_, fun p' hp => ?_⟩
  · have := filter_tail h List.nodup_range
    rw [← this]
    unfold remF
    apply List.filter_congr
    intro j _
    rw [set_get _ _ _ (by omega)]
    by_cases hj : j = i
    · subst hj; simp
    · simp [hj]
  · unfold remF
    apply List.filter_congr
    intro j _
    rw [set_get _ _ _ (by omega)]
    by_cases hj : j = i
    · subst hj
      simp [hi.2.1, hi.2.2]
      intro e
      exact hp e.symm
    · simp [hj]
end Go.Proofs.YtfghmlpjbedomaaGreat

namespace Go.Proofs.YtfghmlpjbedomaaGreat
open Go.RowKit

/-- An answer: the error, the number, the words. -/
structure An where
  err : Int
  val : Int
  list : List Int
def anE (e : Int) : An := ⟨e, 0, []⟩
def anV (v : Int) : An := ⟨0, v, []⟩

end Go.Proofs.YtfghmlpjbedomaaGreat

namespace Go.Proofs.YtfghmlpjbedomaaGreat
open Go.RowKit

/-- What an access makes of a word, and answers (0 Read, 1 Write, 2 Swap, 3 Add). -/
def acY (k x b c : Int) : Int := if k = 0 then x else if k = 1 then b else if k = 2 then (if x = b then c else x) else (x + b) % 18446744073709551616
def acV (k x b : Int) : Int := if k = 0 then x else if k = 1 then 0 else if k = 2 then (if x = b then 1 else 0) else x
/-- A memory: its words, and how many accesses of each kind it had; how many were none. -/
structure Mm where
  words : List Int
  rd : Int
  wr : Int
  sw : Int
  ad : Int
  ft : Int
def Mm.in (m : Mm) (a : Int) : Prop := 0 ≤ a ∧ a < m.words.length
instance (m : Mm) (a : Int) : Decidable (m.in a) := by unfold Mm.in; infer_instance
def Mm.at (m : Mm) (a : Int) : Int := (m.words[a.toNat]?).getD 0
def Mm.bump (m : Mm) (k : Int) : Mm := if k = 0 then { m with rd := m.rd + 1 } else if k = 1 then { m with wr := m.wr + 1 } else if k = 2 then { m with sw := m.sw + 1 } else { m with ad := m.ad + 1 }
/-- The memory behind an access. -/
def Mm.acc (m : Mm) (k a x y : Int) : Mm := if m.in a then { m.bump k with words := m.words.set a.toNat (acY k (m.at a) x y) } else { m with ft := m.ft + 1 }
/-- What it tells. -/
def Mm.tell (m : Mm) (k a x : Int) : Int := if m.in a then acV k (m.at a) x else 0
def Mm.new (words : List Int) : Mm := ⟨words, 0, 0, 0, 0, 0⟩

/-- What machines step in. -/
structure Lw where
  mem : Mm
  now : Int
  inv : Nat → Int
  marks : Nat → List Int
  traces : Int → List Int
/-- An event. -/
structure Ep where
  call : Nat
  inv : Int
  resp : Int
  steps : Int
  ans : An
  key : List Int
/-- Objects (O), and machines (M): how an operation is begun, what a step makes, and what is answered (and by which key). -/
structure Gm (M O : Type) where
  start : O → Nat → Cl → O × M
  step : O → Lw → Nat → M → O × Lw × M × Bool
  ans : O → M → An × List Int
  late : O → Lw → M → Option (List Int)
structure Ps (M O : Type) where
  lw : Lw
  obj : O
  fin : List Bool
  hands : Nat → Option (M × Nat)
  evs : List Ep
  idle : Int

section
variable {M O : Type}
def upd {α : Type} (f : Nat → α) (t : Nat) (x : α) : Nat → α := fun i => if i = t then x else f i
theorem upd_same {α : Type} (f : Nat → α) (t : Nat) (x : α) : upd f t x t = x := by simp [upd]
theorem upd_other {α : Type} {f : Nat → α} {t i : Nat} {x : α} (h : i ≠ t) : upd f t x i = f i := by simp [upd, h]
def Ps.new (words : List Int) (o : O) (m : Nat) : Ps M O := ⟨⟨Mm.new words, 0, fun _ => 0, fun _ => [], fun _ => []⟩, o, List.replicate m false, fun _ => none, [], 0⟩
/-- A thread begins a call. -/
def Ps.start (G : Gm M O) (P : Ps M O) (t i : Nat) (c : Cl) : Ps M O :=
  { P with lw := { P.lw with inv := upd P.lw.inv t P.lw.now, marks := upd P.lw.marks t [] }, obj := (G.start P.obj t c).1, hands := upd P.hands t (some ((G.start P.obj t c).2, P.evs.length)), evs := P.evs ++ [⟨i, P.lw.now, 0, 0, ⟨0, 0, []⟩, []⟩] }
/-- The key of an operation that responds. -/
def keyOf (k : List Int) (marks : List Int) (now : Int) : List Int := if k ≠ [] then k else if marks ≠ [] then marks else [2 * now]
/-- The machine at hand makes a step. -/
def Ps.step (G : Gm M O) (P : Ps M O) (t i : Nat) (m : M) (h : Nat) : Ps M O :=
  let S := G.step P.obj P.lw t m
  if S.2.2.2 then
    { P with obj := S.1, lw := S.2.1, hands := upd P.hands t none, fin := P.fin.set i true,
             evs := P.evs.modify h fun e => { e with steps := e.steps + 1, ans := (G.ans S.1 S.2.2.1).1, resp := S.2.1.now, key := keyOf (G.ans S.1 S.2.2.1).2 (S.2.1.marks t) S.2.1.now } }
  else { P with obj := S.1, lw := S.2.1, hands := upd P.hands t (some (S.2.2.1, h)), evs := P.evs.modify h fun e => { e with steps := e.steps + 1 } }
/-- A pick. -/
def Ps.pick (G : Gm M O) (cs : List Cl) (P : Ps M O) (p : Int) : Ps M O :=
  match nowF cs P.fin p with
  | none => { P with idle := P.idle + 1 }
  | some i =>
    let P1 : Ps M O := { P with lw := { P.lw with now := P.lw.now + 1 } }
    match P.hands p.toNat with
    | some (m, h) => P1.step G p.toNat i m h
    | none =>
      let c := (cs[i]?).getD ⟨0, 0, 0, 0, 0, 0⟩
      (P1.start G p.toNat i c).step G p.toNat i (G.start P.obj p.toNat c).2 P.evs.length
def Ps.play (G : Gm M O) (cs : List Cl) (P : Ps M O) (picks : List Int) : Ps M O := picks.foldl (Ps.pick G cs) P
/-- The events that are told: those under way have the key of what took effect. -/
def Ps.ends (G : Gm M O) (P : Ps M O) : List Ep :=
  (List.range 16).foldl (fun evs t => match P.hands t with
    | none => evs
    | some (m, h) => evs.modify h fun e => { e with key := match G.late P.obj P.lw m with | some k => k | none => P.lw.marks t }) P.evs
theorem play_zero (G : Gm M O) (cs : List Cl) (P : Ps M O) (picks : List Int) : P.play G cs (picks.take 0) = P := rfl
theorem play_succ {G : Gm M O} {cs : List Cl} {P : Ps M O} {picks : List Int} {k : Nat} {p : Int} (h : picks[k]? = some p) : P.play G cs (picks.take (k + 1)) = (P.play G cs (picks.take k)).pick G cs p := by
  unfold Ps.play
  rw [List.take_add_one, h]
  simp [List.foldl_append]
end
end Go.Proofs.YtfghmlpjbedomaaGreat
