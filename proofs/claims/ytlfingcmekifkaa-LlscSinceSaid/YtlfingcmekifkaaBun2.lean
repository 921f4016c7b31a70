/- Copies of rows of words (slices.Clone), and stores of function values. -/
/- Whose each tick was, as plain data (package cut): calls by threads, what is left of them, ticks. -/
/- Answers, as plain data. -/
import Derived.Test.YtlfingcmekifkaaBase
import Derived.Test.YtlfingcmekifkaaBun1
import Derived.Test.YtlfingcmekifkaaProg
import Derived.Maps.AppendAt
import Derived.Lib.SliceRun
namespace Go.Proofs.Ytlfingcmekifkaa
open Go.RowKit

theorem info_word : (Try.prog.info? 37).map (fun i => (i.zero, i.size, i.bytes)) = some (some (.int .u64 0), 1, 8) := by kernel_rfl

abbrev WRow (w : World) (B : Nat) (v : Value) (l : List Int) : Prop := w.ownsRow B 37 1 v l.length (l.map (Value.int .u64))

set_option maxRecDepth 100000 in
set_option maxHeartbeats 1000000 in
/-- A copy: the same words, in memory of the call's own. -/
theorem clone_any (v : Value) (xs : List Int) (w : World) (h : SlW w v xs) (hb : xs.length ≤ 1000000) :
    Calls Try.prog 55 #[v] w fun e w' => ∃ v', e = .returned v' ∧ WRow w' w.heap.size v' xs ∧ Below w.heap.size w w' := by
  obtain ⟨A, cap, rfl, h1, h2, h3⟩ := h
  obtain ⟨i0, hi, hz0, hz1, hz2⟩ := info_parts info_word
  have q32 : ∀ (w : World) (a : Option Addr) (n c n' c' : Nat), (binOp .eql 28 (.slice a n c) (.slice none n' c')).run Try.prog w = .ok (.bool a.isNone) w := fun w a n c n' c' => Lib.run_eql_slice_nil w _ _ a n c n' c' Try.underlying28
  rcases A with _ | a
  · have hx : xs = [] := by
      rcases xs with _ | ⟨x, xs⟩
      · rfl
      · obtain ⟨b, o, hA, _⟩ := h3 0 x rfl
        cases hA
    subst hx
    clear h3
    go_enter Try.func55, Try.ntmps55
    go_wp2
    go_ret
    exact ⟨_, rfl, World.ownsRow_nil _ _ _ _, by (repeat' (first | exact Below.refl _ _ | assumption | refine Below.drew ?_ | refine below_drewN ?_ _ | refine Below.alloc ?_ (by simp <;> omega) _ | refine Below.setCell ?_ (by simp <;> omega) _))⟩
  · have hnews : ∀ j u, (xs.map (Value.int .u64))[j]? = some u → (w.alloc (.cells #[] 37)).cell? (a.add j) = some u := by
      intro j u hu
      rw [List.getElem?_map] at hu
      rcases hx : xs[j]? with _ | x
      · rw [hx] at hu; cases hu
      · rw [hx] at hu
        obtain ⟨b, o, hA, hbw, hc⟩ := h3 j x hx
        cases hA
        cases hu
        have := nt_cell hc
        rw [Addr.add_lit]
        simp only [Nat.mul_one] at this
        exact Lib.cell?_alloc_some _ this
    clear h3
    go_enter Try.func55, Try.ntmps55
    go_wp2_with (first
      | (at_builtin; refine wpList_append_own_at _ rfl _ _ 28 rfl w.heap.size 37 i0 (.int .u64 0) 1 8 Try.underlying28 hi hz0 hz1 hz2 rfl (by decide) _ _ _ rfl (World.ownsRow_made w #[] 0 (Nat.le_refl _) (Nat.zero_le _) rfl) a xs.length cap (xs.map (Value.int .u64)) rfl (by simp) hnews (ints_oneCell .u64 xs) (by unfold maxLen; omega) (by omega) (by simp) ?_; intro v' w5 hown' hgrow hnil hloc)
      | go_in)
    go_ret
    exact ⟨_, rfl, by simpa using hown', ((Below.refl _ w).alloc (Nat.le_refl _) _).grown hgrow (by simp) (by intro k hk; cases hk; exact Nat.le_refl _)⟩

/-- A row of words that the call owns reads as a list. -/
theorem wrow_sl {w : World} {B : Nat} {v : Value} {l : List Int} (h : WRow w B v l) (hm : l.length ≤ maxLen) : SlW w v l := sl_of_owns h hm

theorem run_store_fn {P : Program} {w : World} {a : Addr} {m : Mode} (g : Fn) (p q : Array Value) : (store a (.func g p q) m).run P w = stored P w a (.func g p q) m := run_store P w a _ m rfl
theorem run_store_nilfn {P : Program} {w : World} {a : Addr} {m : Mode} : (store a .nilFunc m).run P w = stored P w a .nilFunc m := run_store P w a _ m rfl
end Go.Proofs.Ytlfingcmekifkaa

namespace Go.Proofs.Ytlfingcmekifkaa
open Go.RowKit

/-- The calls of a thread that are not finished. -/
def remF (cs : List Cl) (fin : List Bool) (p : Int) : List Nat := (List.range cs.length).filter fun i => decide ((cs[i]?).map (·.thread) = some p) && !(fin[i]?.getD false)
def nowF (cs : List Cl) (fin : List Bool) (p : Int) : Option Nat := (remF cs fin p).head?
def evOf (es : List Ev) (i : Nat) : Option Ev := es.find? fun e => decide (e.call = i)
def firstT (es : List Ev) (i now : Nat) : Bool := match evOf es i with
  | some e => decide (e.inv = now)
  | none => false
def lastT (es : List Ev) (i now : Nat) : Bool := match evOf es i with
  | some e => decide (e.resp = now)
  | none => false
def stepT (cs : List Cl) (es : List Ev) (st : List Bool × List Nat) (p : Int) : List Bool × List Nat := match nowF cs st.1 p with
  | none => st
  | some i => (if lastT es i (st.2.length + 1) then st.1.set i true else st.1, st.2 ++ [i])
def playT (cs : List Cl) (es : List Ev) (picks : List Int) : List Bool × List Nat := picks.foldl (stepT cs es) (List.replicate cs.length false, [])

theorem nodup_range_filter (n : Nat) (f : Nat → Bool) : ((List.range n).filter f).Nodup := List.Pairwise.filter _ List.nodup_range
theorem remF_nodup (cs : List Cl) (fin : List Bool) (p : Int) : (remF cs fin p).Nodup := nodup_range_filter _ _
theorem remF_mem {cs : List Cl} {fin : List Bool} {p : Int} {i : Nat} : i ∈ remF cs fin p ↔ i < cs.length ∧ (cs[i]?).map (·.thread) = some p ∧ fin[i]?.getD false = false := by
  unfold remF
  rw [List.mem_filter, List.mem_range]
  simp
theorem nowF_some {cs : List Cl} {fin : List Bool} {p : Int} {i : Nat} (h : nowF cs fin p = some i) : i < cs.length ∧ (cs[i]?).map (·.thread) = some p ∧ fin[i]?.getD false = false := by
  unfold nowF at h
  exact remF_mem.1 (List.mem_of_mem_head? h)

theorem set_get (fin : List Bool) (i j : Nat) (hi : i < fin.length) : (fin.set i true)[j]?.getD false = if j = i then true else fin[j]?.getD false := by
  rw [List.getElem?_set]
  by_cases h : i = j
  · subst h; simp [hi]
  · simp [h, Ne.symm h]

theorem filter_tail {l : List Nat} {i : Nat} {rest : List Nat} {f : Nat → Bool} (hf : l.filter f = i :: rest) (hn : l.Nodup) : l.filter (fun j => f j && !decide (j = i)) = rest := by
  have h1 : l.filter (fun j => f j && !decide (j = i)) = (l.filter f).filter (fun j => !decide (j = i)) := by
    rw [List.filter_filter]
    congr 1
    funext j
    exact Bool.and_comm _ _
  rw [h1, hf]
  have hnd : (i :: rest).Nodup := by rw [← hf]; exact List.Pairwise.filter _ hn
  rw [List.nodup_cons] at hnd
  rw [List.filter_cons]
  simp
  intro a ha e
  subst e
  exact hnd.1 ha

theorem remF_finish {cs : List Cl} {fin : List Bool} {p : Int} {i : Nat} {rest : List Nat} (hl : fin.length = cs.length) (h : remF cs fin p = i :: rest) :
    remF cs (fin.set i true) p = rest ∧ ∀ p', p' ≠ p → remF cs (fin.set i true) p' = remF cs fin p' := by
  have hi := remF_mem.1 (show i ∈ remF cs fin p by rw [h]; simp)
  refine ⟨?_, fun p' hp => ?_⟩
  · have := filter_tail h List.nodup_range
    rw [← this]
    unfold remF
    apply List.filter_congr
    intro j _
    rw [set_get _ _ _ (by omega)]
    by_cases hj : j = i
    · subst hj; simp
    · simp [hj]
  · unfold remF
    apply List.filter_congr
    intro j _
    rw [set_get _ _ _ (by omega)]
    by_cases hj : j = i
    · subst hj
      simp [hi.2.1, hi.2.2]
      intro e
      exact hp e.symm
    · simp [hj]
end Go.Proofs.Ytlfingcmekifkaa

namespace Go.Proofs.Ytlfingcmekifkaa
open Go.RowKit

/-- An answer: the error, the number, the words. -/
structure An where
  err : Int
  val : Int
  list : List Int
def anE (e : Int) : An := ⟨e, 0, []⟩
def anV (v : Int) : An := ⟨0, v, []⟩

end Go.Proofs.Ytlfingcmekifkaa
