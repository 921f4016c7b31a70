/- Whose each tick was, as plain data (package cut): calls by threads, what is left of them, ticks. -/
import Derived.Test.YtmiimpmfkjcjlaaBase
namespace Go.Proofs.Ytmiimpmfkjcjlaa
open Go.RowKit

/-- The calls of a thread that are not finished. -/
def remF (cs : List Cl) (fin : List Bool) (p : Int) : List Nat := (List.range cs.length).filter fun i => decide ((cs[i]?).map (·.thread) = some p) && !(fin[i]?.getD false)
def nowF (cs : List Cl) (fin : List Bool) (p : Int) : Option Nat := (remF cs fin p).head?
def evOf (es : List Ev) (i : Nat) : Option Ev := es.find? fun e => decide (e.call = i)
def firstT (es : List Ev) (i now : Nat) : Bool := match evOf es i with
  | some e => decide (e.inv = now)
  | none => false
def lastT (es : List Ev) (i now : Nat) : Bool := match evOf es i with
  | some e => decide (e.resp = now)
  | none => false
def stepT (cs : List Cl) (es : List Ev) (st : List Bool × List Nat) (p : Int) : List Bool × List Nat := match nowF cs st.1 p with
  | none => st
  | some i => (if lastT es i (st.2.length + 1) then st.1.set i true else st.1, st.2 ++ [i])
def playT (cs : List Cl) (es : List Ev) (picks : List Int) : List Bool × List Nat := picks.foldl (stepT cs es) (List.replicate cs.length false, [])

theorem nodup_range_filter (n : Nat) (f : Nat → Bool) : ((List.range n).filter f).Nodup := List.Pairwise.filter _ List.nodup_range
theorem remF_nodup (cs : List Cl) (fin : List Bool) (p : Int) : (remF cs fin p).Nodup := nodup_range_filter _ _
theorem remF_mem {cs : List Cl} {fin : List Bool} {p : Int} {i : Nat} : i ∈ remF cs fin p ↔ i < cs.length ∧ (cs[i]?).map (·.thread) = some p ∧ fin[i]?.getD false = false := by
  unfold remF
  rw [List.mem_filter, List.mem_range]
  simp
theorem nowF_some {cs : List Cl} {fin : List Bool} {p : Int} {i : Nat} (h : nowF cs fin p = some i) : i < cs.length ∧ (cs[i]?).map (·.thread) = some p ∧ fin[i]?.getD false = false := by
  unfold nowF at h
  exact remF_mem.1 (List.mem_of_mem_head? h)

theorem set_get (fin : List Bool) (i j : Nat) (hi : i < fin.length) : (fin.set i true)[j]?.getD false = if j = i then true else fin[j]?.getD false := by
  rw [List.getElem?_set]
  by_cases h : i = j
  · subst h; simp [hi]
  · simp [h, Ne.symm h]

theorem filter_tail {l : List Nat} {i : Nat} {rest : List Nat} {f : Nat → Bool} (hf : l.filter f = i :: rest) (hn : l.Nodup) : l.filter (fun j => f j && !decide (j = i)) = rest := by
  have h1 : l.filter (fun j => f j && !decide (j = i)) = (l.filter f).filter (fun j => !decide (j = i)) := by
    rw [List.filter_filter]
    congr 1
    funext j
    exact Bool.and_comm _ _
  rw [h1, hf]
  have hnd : (i :: rest).Nodup := by rw [← hf]; exact List.Pairwise.filter _ hn
  rw [List.nodup_cons] at hnd
  rw [List.filter_cons]
  simp
  intro a ha e
  subst e
  exact hnd.1 ha

theorem remF_finish {cs : List Cl} {fin : List Bool} {p : Int} {i : Nat} {rest : List Nat} (hl : fin.length = cs.length) (h : remF cs fin p = i :: rest) :
    remF cs (fin.set i true) p = rest ∧ ∀ p', p' ≠ p → remF cs (fin.set i true) p' = remF cs fin p' := by
  have hi := remF_mem.1 (show i ∈ remF cs fin p by rw [h]; simp)
  refine ⟨?_, fun p' hp => ?_⟩
  · have := filter_tail h List.nodup_range
    rw [← this]
    unfold remF
    apply List.filter_congr
    intro j _
    rw [set_get _ _ _ (by omega)]
    by_cases hj : j = i
    · subst hj; simp
    · simp [hj]
  · unfold remF
    apply List.filter_congr
    intro j _
    rw [set_get _ _ _ (by omega)]
    by_cases hj : j = i
    · subst hj
      simp [hi.2.1, hi.2.2]
      intro e
      exact hp e.symm
    · simp [hj]
end Go.Proofs.Ytmiimpmfkjcjlaa
