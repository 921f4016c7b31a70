/- The first event of each call (package cut): first. -/
import Derived.Test.YtmiimpmfkjcjlaaCu3
namespace Go.Proofs.Ytmiimpmfkjcjlaa
open Go.RowKit

def evV (e : Ev) : Value := .agg #[.int .i64 e.call, .int .i64 e.inv, .int .i64 e.resp, .int .i64 e.steps, .int .i64 e.err, .int .u64 e.val, .slice e.lA e.lN e.lC, .slice e.kA e.kN e.kC]
def evAt (es : List Ev) (c : Int) : Option Ev := es.find? fun e => decide (e.call = c)
def firstM (es : List Ev) (k : Nat) (c : Int) : Option Value := (evAt (es.take k) c).map evV
theorem evAt_succ {es : List Ev} {k : Nat} {x : Ev} (h : es[k]? = some x) (c : Int) : evAt (es.take (k + 1)) c = (evAt (es.take k) c).or (if x.call = c then some x else none) := by
  unfold evAt
  rw [List.take_add_one, h, List.find?_append]
  congr 1
  by_cases e : x.call = c
  · simp [e]
  · simp [e]
theorem firstM_had {es : List Ev} {k : Nat} {x : Ev} {v : Value} (h : es[k]? = some x) (hv : firstM es k x.call = some v) : firstM es (k + 1) = firstM es k := by
  funext c
  unfold firstM at hv ⊢
  rw [evAt_succ h]
  by_cases e : x.call = c
  · subst e
    rcases hh : evAt (es.take k) x.call with _ | y
    · rw [hh] at hv; cases hv
    · rfl
  · rw [if_neg e]; simp
theorem firstM_new {es : List Ev} {k : Nat} {x : Ev} (h : es[k]? = some x) (hv : firstM es k x.call = none) : firstM es (k + 1) = fun c => if c = x.call then some (evV x) else firstM es k c := by
  funext c
  unfold firstM at hv ⊢
  rw [evAt_succ h]
  by_cases e : x.call = c
  · subst e
    rcases hh : evAt (es.take k) x.call with _ | y
    · simp
    · rw [hh] at hv; cases hv
  · rw [if_neg e, if_neg (fun q => e q.symm)]; simp

set_option maxRecDepth 100000 in
set_option maxHeartbeats 2000000 in
theorem cutFirst (A : Option Addr) (n c : Nat) (es : List Ev) (w : World) (h : SlEv w (.slice A n c) es) (hn : es.length = n) :
    Calls Try.prog 16 #[.slice A n c] w fun e w' => e = .returned (.map (some w.heap.size)) ∧ IMap w' w.heap.size .i64 (fun c => (evAt es c).map evV) ∧ Below w.heap.size w w' := by
  have hle : n ≤ maxLen := by obtain ⟨_, _, e, h1, h2, _⟩ := h; cases e; omega
  have hn63 : (n : Int) ≤ 9223372036854775807 := by unfold maxLen at hle; omega
  have HH := hide h
  have HN := hide hn
  have hmm := @run_makeMap Try.prog
  have hzv : ∀ W, (zeroValue 44).run Try.prog W = .ok (.agg #[.int .i64 0, .int .i64 0, .int .i64 0, .int .i64 0, .int .i64 0, .int .u64 0, .slice none 0 0, .slice none 0 0]) W := fun _ => by kernel_rfl
  clear h hn
  go_enter Try.func16, Try.ntmps16
  go_wp2
  go_loopw [11] (fun i wr => ∃ k : Nat, k ≤ n ∧ i = .int .i64 k ∧ Hid (IMap wr w.heap.size .i64 (firstM es k)) ∧ Hid (Below w.heap.size w wr) ∧ w.heap.size + 1 ≤ wr.heap.size) (fun i _ => n - (intOf i).toNat)
  case atStart => exact ⟨0, Nat.zero_le _, rfl, hide (IMap.new w .i64), hide ((Below.refl _ w).alloc (Nat.le_refl _) _), by simp⟩
  case round =>
    obtain ⟨k, hk, rfl, hI, hB, hsz⟩ := hrel
    by_cases hlt : k < n
    · obtain ⟨x, hxk⟩ : ∃ x, es[k]? = some x := ⟨_, List.getElem?_eq_getElem (by have := HN.out; omega)⟩
      obtain ⟨A', c', e, _, _, h3⟩ := HH.out.below hB.out (Nat.le_refl _)
      obtain ⟨b, oo, e', hb, hc⟩ := h3 k x hxk
      rw [HN.out] at e
      cases e
      cases e'
      obtain ⟨c0, c1, c2, c3, c4, c5, c6, c7⟩ := ev_cells hc
      have HK := hide hxk
      clear h3 hc hxk
      have hlk := run_lookup_imap (P := Try.prog) Try.underlying56 Try.underlying3 (hzv (wr.alloc (.cells #[.int .i64 x.call, .int .i64 x.inv, .int .i64 x.resp, .int .i64 x.steps, .int .i64 x.err, .int .u64 x.val, .slice x.lA x.lN x.lC, .slice x.kA x.kN x.kC] 44))) (hI.out.alloc _) x.call true
      rcases hy : evAt (es.take k) x.call with _ | y
      · have hnone : firstM es k x.call = none := by unfold firstM; rw [hy]; rfl
        rw [hnone] at hlk
        simp only [if_true, Option.getD_none, Option.isSome_none] at hlk
        obtain ⟨w6, hup, hI6, hg6, hs6⟩ := run_update_imap (P := Try.prog) Try.underlying56 Try.underlying3 (((hI.out.alloc (.cells #[.int .i64 x.call, .int .i64 x.inv, .int .i64 x.resp, .int .i64 x.steps, .int .i64 x.err, .int .u64 x.val, .slice x.lA x.lN x.lC, .slice x.kA x.kN x.kC] 44)).alloc (.cells #[.int .i64 0, .int .i64 0, .int .i64 0, .int .i64 0, .int .i64 0, .int .u64 0, .slice none 0 0, .slice none 0 0] 44))) x.call (evV x)
        rw [← firstM_new HK.out hnone] at hI6
        have HI6 := hide hI6
        have HB6 := hide ((((hB.out.alloc (by omega) _).alloc (by simp; omega) _).grown hg6 (by simp; omega) (fun j hj => by cases hj; exact Nat.le_refl _)))
        have hz6 : w.heap.size + 1 ≤ w6.heap.size := by rw [hs6]; simp; omega
        unfold evV at hup
        clear hI6 hg6 hs6 hnone hy
        go_wp2
        go_roundw
        case rel => exact ⟨k + 1, by omega, by go_num, HI6, HB6, hz6⟩
        case measure => first | (simp [intOf]; done) | (simp [intOf]; omega)
      · have hsome : firstM es k x.call = some (evV y) := by unfold firstM; rw [hy]; rfl
        rw [hsome] at hlk
        simp only [if_true, Option.getD_some, Option.isSome_some] at hlk
        unfold evV at hlk
        have HI6 : Hid (IMap wr w.heap.size .i64 (firstM es (k + 1))) := hide (by rw [firstM_had HK.out hsome]; exact hI.out)
        clear hsome hy
        go_wp2
        go_roundw
        case rel => exact ⟨k + 1, by omega, by go_num, hide ((HI6.out.alloc _).alloc _), hide ((hB.out.alloc (by omega) _).alloc (by simp; omega) _), by simp; omega⟩
        case measure => first | (simp [intOf]; done) | (simp [intOf]; omega)
    · obtain rfl : k = n := by omega
      go_wp2
      go_ret
      exact ⟨rfl, by have := hI.out; unfold firstM at this; rw [List.take_of_length_le (by have := HN.out; omega)] at this; exact this, hB.out⟩
end Go.Proofs.Ytmiimpmfkjcjlaa
