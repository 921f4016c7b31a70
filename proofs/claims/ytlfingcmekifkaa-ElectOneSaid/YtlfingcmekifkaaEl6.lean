/- An election (law 42): the known case (alone). -/
import Derived.Test.YtlfingcmekifkaaEl5
import Derived.Test.YtlfingcmekifkaaOj2
namespace Go.Proofs.Ytlfingcmekifkaa
open Go.RowKit

def lateC : List Cl := [⟨2, 0, 0, 0, 0, 0⟩, ⟨0, 0, 0, 0, 0, 0⟩]
def lateP : List Int := [2, 2, 0, 0]
theorem late_evs : ((elPlay 2 lateC lateP).ends elG).map (fun e => (e.steps, e.ans.val, e.resp)) = [(2, 1, 2), (2, 0, 4)] := by kernel_rfl
theorem late_words : (elPlay 2 lateC lateP).lw.mem.words = [3, 1, 3] := by kernel_rfl
theorem late_chk : chkE 3 lateC lateP.length = 0 := by kernel_rfl
theorem late_calls {w : World} {b : Nat} {t : TypeId} (h : w.heap[b]? = some (.cells #[.int .i64 2, .int .i64 0, .int .i64 0, .int .u64 0, .int .u64 0, .int .u64 0, .int .i64 0, .int .i64 0, .int .i64 0, .int .u64 0, .int .u64 0, .int .u64 0] t (0, 0))) : SlCl w (.slice (some ⟨b, 0, none⟩) 2 2) lateC := by
  refine Sl.of_block (enc := clEnc) (sz := 6) (xs := lateC) (c := 2) h (Nat.le_refl _) (by unfold maxLen; decide) ?_
  intro k x hx j u hu
  rcases k with _ | _ | k
  · simp [lateC] at hx
    subst hx
    rcases j with _ | _ | _ | _ | _ | _ | j <;> simp [clEnc] at hu ⊢ <;> exact hu
  · simp [lateC] at hx
    subst hx
    rcases j with _ | _ | _ | _ | _ | _ | j <;> simp [clEnc] at hu ⊢ <;> exact hu
  · simp [lateC] at hx
theorem late_picks {w : World} {b : Nat} {t : TypeId} (h : w.heap[b]? = some (.cells #[.int .i64 2, .int .i64 2, .int .i64 0, .int .i64 0] t (0, 0))) : SlI w (.slice (some ⟨b, 0, none⟩) 4 4) lateP := by
  refine Sl.of_block (enc := ntEnc .i64) (sz := 1) (xs := lateP) (c := 4) h (Nat.le_refl _) (by unfold maxLen; decide) ?_
  intro k x hx j u hu
  rcases j with _ | j
  · rcases k with _ | _ | _ | _ | k <;> simp [lateP] at hx <;> subst hx <;> simp [ntEnc] at hu ⊢ <;> exact hu
  · simp [ntEnc] at hu
set_option maxRecDepth 100000 in
set_option maxHeartbeats 2000000 in
theorem aloneW (w : World) : Calls Try.prog 24 #[] w fun e w' => e = .returned (.bool true) ∧ Below w.heap.size w w' := by
  have hc : SlCl ((w.alloc (.cells #[.int .i64 2, .int .i64 0, .int .i64 0, .int .u64 0, .int .u64 0, .int .u64 0, .int .i64 0, .int .i64 0, .int .i64 0, .int .u64 0, .int .u64 0, .int .u64 0] 43)).alloc (.cells #[.int .i64 2, .int .i64 2, .int .i64 0, .int .i64 0] 3)) (.slice (some ⟨w.heap.size, 0, none⟩) 2 2) lateC := late_calls ((heap_alloc_old _ _ (by simp)).trans (heap_alloc_new _ _))
  have hp : SlI ((w.alloc (.cells #[.int .i64 2, .int .i64 0, .int .i64 0, .int .u64 0, .int .u64 0, .int .u64 0, .int .i64 0, .int .i64 0, .int .i64 0, .int .u64 0, .int .u64 0, .int .u64 0] 43)).alloc (.cells #[.int .i64 2, .int .i64 2, .int .i64 0, .int .i64 0] 3)) (.slice (some ⟨w.heap.size + 1, 0, none⟩) 4 4) lateP := late_picks (by
    have : (w.alloc (.cells #[.int .i64 2, .int .i64 0, .int .i64 0, .int .u64 0, .int .u64 0, .int .u64 0, .int .i64 0, .int .i64 0, .int .i64 0, .int .u64 0, .int .u64 0, .int .u64 0] 43)).heap.size = w.heap.size + 1 := by simp
    rw [← this]
    exact heap_alloc_new _ _)
  have N := electPlay 3 _ _ _ lateC _ _ _ lateP _ hc rfl hp rfl (fun c hc => by
    simp [lateC] at hc
    rcases hc with rfl | rfl <;> (unfold ClU; decide))
  rw [late_chk, show dep (3 : Int).toNat = 2 from rfl] at N
  have he := late_evs
  have hwd := late_words
  clear hc hp
  generalize hPe : (elPlay 2 lateC lateP).ends elG = es at N he
  generalize (elPlay 2 lateC lateP).lw.mem = mm at N hwd
  generalize (elPlay 2 lateC lateP).lw.now = now at N
  generalize (elPlay 2 lateC lateP).idle = idle at N
  clear hPe
  have hel : es.length = 2 := by have := congrArg List.length he; simpa using this
  go_enter Try.func24, Try.ntmps24
  go_wp2_with fail
  refine N.mono ?_
  rintro e w1 (⟨h, _⟩ | ⟨_, ev, B, Mu, g, c, rfl, hEv, hB, hwr, hb⟩)
  · exact absurd rfl h
  obtain ⟨ge, ce, rfl, hge, hgz, hev⟩ := ev_of hEv (by rw [hel]; decide)
  match es, he with
  | [e0, e1], he =>
    simp at he
    obtain ⟨⟨s0, v0, t0⟩, s1, v1, t1⟩ := he
    obtain ⟨x0, i0, r0⟩ := hev 0 e0 rfl
    obtain ⟨x1, i1, r1⟩ := hev 1 e1 rfl
    have a3 := r0 3 _ rfl
    have a5 := r0 5 _ rfl
    have b5 := r1 5 _ rfl
    have b2 := r1 2 _ rfl
    rw [i0.steps, s0] at a3
    rw [i0.val, v0] at a5
    rw [i1.val, v1] at b5
    rw [i1.resp, t1] at b2
    have hw3 : w1.cell? ⟨g, 0, none⟩ = some (.int .u64 3) := by
      have := World.ownsRow.cellAt hwr 0 (by rw [hwd]; decide)
      rw [hwd] at this
      exact this
    have hwl : mm.words.length = 3 := by rw [hwd]; rfl
    have hgz2 : g < w1.heap.size := (World.ownsRow.lt hwr g rfl).2
    unfold repV
    rw [hwl]
    simp only [List.length_cons, List.length_nil]
    have HB := hide hb
    clear hwr hEv hev r0 r1 i0 i1 N hb hwd hwl hel
    simp at a3 a5 b5 b2
    go_wp2
    go_ret
    have hb2 : Below w.heap.size w ((w.alloc (.cells #[.int .i64 2, .int .i64 0, .int .i64 0, .int .u64 0, .int .u64 0, .int .u64 0, .int .i64 0, .int .i64 0, .int .i64 0, .int .u64 0, .int .u64 0, .int .u64 0] 43)).alloc (.cells #[.int .i64 2, .int .i64 2, .int .i64 0, .int .i64 0] 3)) := ((Below.refl _ w).alloc (Nat.le_refl _) _).alloc (by simp) _
    have hb3 := hb2.trans (HB.out.mono hb2.size)
    exact ⟨rfl, hb3.alloc hb3.size _⟩
end Go.Proofs.Ytlfingcmekifkaa
