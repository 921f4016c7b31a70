/- A play on a loom, as plain data: a memory, machines that make a step at a time, events. -/
import Derived.Test.YtlfingcmekifkaaBun2
namespace Go.Proofs.Ytlfingcmekifkaa
open Go.RowKit

/-- What an access makes of a word, and answers (0 Read, 1 Write, 2 Swap, 3 Add). -/
def acY (k x b c : Int) : Int := if k = 0 then x else if k = 1 then b else if k = 2 then (if x = b then c else x) else (x + b) % 18446744073709551616
def acV (k x b : Int) : Int := if k = 0 then x else if k = 1 then 0 else if k = 2 then (if x = b then 1 else 0) else x
/-- A memory: its words, and how many accesses of each kind it had; how many were none. -/
structure Mm where
  words : List Int
  rd : Int
  wr : Int
  sw : Int
  ad : Int
  ft : Int
def Mm.in (m : Mm) (a : Int) : Prop := 0 ≤ a ∧ a < m.words.length
instance (m : Mm) (a : Int) : Decidable (m.in a) := by unfold Mm.in; infer_instance
def Mm.at (m : Mm) (a : Int) : Int := (m.words[a.toNat]?).getD 0
def Mm.bump (m : Mm) (k : Int) : Mm := if k = 0 then { m with rd := m.rd + 1 } else if k = 1 then { m with wr := m.wr + 1 } else if k = 2 then { m with sw := m.sw + 1 } else { m with ad := m.ad + 1 }
/-- The memory behind an access. -/
def Mm.acc (m : Mm) (k a x y : Int) : Mm := if m.in a then { m.bump k with words := m.words.set a.toNat (acY k (m.at a) x y) } else { m with ft := m.ft + 1 }
/-- What it tells. -/
def Mm.tell (m : Mm) (k a x : Int) : Int := if m.in a then acV k (m.at a) x else 0
def Mm.new (words : List Int) : Mm := ⟨words, 0, 0, 0, 0, 0⟩

/-- What machines step in. -/
structure Lw where
  mem : Mm
  now : Int
  inv : Nat → Int
  marks : Nat → List Int
  traces : Int → List Int
/-- An event. -/
structure Ep where
  call : Nat
  inv : Int
  resp : Int
  steps : Int
  ans : An
  key : List Int
/-- Objects (O), and machines (M): how an operation is begun, what a step makes, and what is answered (and by which key). -/
structure Gm (M O : Type) where
  start : O → Nat → Cl → O × M
  step : O → Lw → Nat → M → O × Lw × M × Bool
  ans : O → M → An × List Int
  late : O → Lw → M → Option (List Int)
structure Ps (M O : Type) where
  lw : Lw
  obj : O
  fin : List Bool
  hands : Nat → Option (M × Nat)
  evs : List Ep
  idle : Int

section
variable {M O : Type}
def upd {α : Type} (f : Nat → α) (t : Nat) (x : α) : Nat → α := fun i => if i = t then x else f i
theorem upd_same {α : Type} (f : Nat → α) (t : Nat) (x : α) : upd f t x t = x := by simp [upd]
theorem upd_other {α : Type} {f : Nat → α} {t i : Nat} {x : α} (h : i ≠ t) : upd f t x i = f i := by simp [upd, h]
def Ps.new (words : List Int) (o : O) (m : Nat) : Ps M O := ⟨⟨Mm.new words, 0, fun _ => 0, fun _ => [], fun _ => []⟩, o, List.replicate m false, fun _ => none, [], 0⟩
/-- A thread begins a call. -/
def Ps.start (G : Gm M O) (P : Ps M O) (t i : Nat) (c : Cl) : Ps M O :=
  { P with lw := { P.lw with inv := upd P.lw.inv t P.lw.now, marks := upd P.lw.marks t [] }, obj := (G.start P.obj t c).1, hands := upd P.hands t (some ((G.start P.obj t c).2, P.evs.length)), evs := P.evs ++ [⟨i, P.lw.now, 0, 0, ⟨0, 0, []⟩, []⟩] }
/-- The key of an operation that responds. -/
def keyOf (k : List Int) (marks : List Int) (now : Int) : List Int := if k ≠ [] then k else if marks ≠ [] then marks else [2 * now]
/-- The machine at hand makes a step. -/
def Ps.step (G : Gm M O) (P : Ps M O) (t i : Nat) (m : M) (h : Nat) : Ps M O :=
  let S := G.step P.obj P.lw t m
  if S.2.2.2 then
    { P with obj := S.1, lw := S.2.1, hands := upd P.hands t none, fin := P.fin.set i true,
             evs := P.evs.modify h fun e => { e with steps := e.steps + 1, ans := (G.ans S.1 S.2.2.1).1, resp := S.2.1.now, key := keyOf (G.ans S.1 S.2.2.1).2 (S.2.1.marks t) S.2.1.now } }
  else { P with obj := S.1, lw := S.2.1, hands := upd P.hands t (some (S.2.2.1, h)), evs := P.evs.modify h fun e => { e with steps := e.steps + 1 } }
/-- A pick. -/
def Ps.pick (G : Gm M O) (cs : List Cl) (P : Ps M O) (p : Int) : Ps M O :=
  match nowF cs P.fin p with
  | none => { P with idle := P.idle + 1 }
  | some i =>
    let P1 : Ps M O := { P with lw := { P.lw with now := P.lw.now + 1 } }
    match P.hands p.toNat with
    | some (m, h) => P1.step G p.toNat i m h
    | none =>
      let c := (cs[i]?).getD ⟨0, 0, 0, 0, 0, 0⟩
      (P1.start G p.toNat i c).step G p.toNat i (G.start P.obj p.toNat c).2 P.evs.length
def Ps.play (G : Gm M O) (cs : List Cl) (P : Ps M O) (picks : List Int) : Ps M O := picks.foldl (Ps.pick G cs) P
/-- The events that are told: those under way have the key of what took effect. -/
def Ps.ends (G : Gm M O) (P : Ps M O) : List Ep :=
  (List.range 16).foldl (fun evs t => match P.hands t with
    | none => evs
    | some (m, h) => evs.modify h fun e => { e with key := match G.late P.obj P.lw m with | some k => k | none => P.lw.marks t }) P.evs
theorem play_zero (G : Gm M O) (cs : List Cl) (P : Ps M O) (picks : List Int) : P.play G cs (picks.take 0) = P := rfl
theorem play_succ {G : Gm M O} {cs : List Cl} {P : Ps M O} {picks : List Int} {k : Nat} {p : Int} (h : picks[k]? = some p) : P.play G cs (picks.take (k + 1)) = (P.play G cs (picks.take k)).pick G cs p := by
  unfold Ps.play
  rw [List.take_add_one, h]
  simp [List.foldl_append]
end
end Go.Proofs.Ytlfingcmekifkaa
