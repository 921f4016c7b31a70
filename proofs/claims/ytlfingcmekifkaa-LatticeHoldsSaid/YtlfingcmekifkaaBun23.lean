/- Objects on a loom: what is so of all answers of a play. -/
/- A lattice (law 41): which events told a set (told). -/
/- A lattice (package lattice): New, Size, Play. -/
import Derived.Test.YtlfingcmekifkaaBun12
import Derived.Test.YtlfingcmekifkaaLt6
import Derived.Test.YtlfingcmekifkaaBun22
namespace Go.Proofs.Ytlfingcmekifkaa
open Go.RowKit

section
variable {M O : Type} {T : Th M O} {Q : An → Prop}
theorem ans_step {P : Ps M O} {t i h : Nat} {m : M} (hs : ∀ (o : O) (lw : Lw) (hs : Nat → Option M) (t : Nat) (m : M), T.goodT o lw hs → hs t = some m → t < 16 → (T.G.step o lw t m).2.2.2 = true → Q (T.G.ans (T.G.step o lw t m).1 (T.G.step o lw t m).2.2.1).1) (hg : T.goodT P.obj P.lw P.ms) (hm : P.hands t = some (m, h)) (ht : t < 16) (hq : ∀ e ∈ P.evs, Q e.ans) : ∀ e ∈ (P.step T.G t i m h).evs, Q e.ans := by
  intro e he
  cases hd : (P.after T.G t m).2.2.2
  · obtain ⟨_, _, h3⟩ := step_more (i := i) (h := h) hd
    rw [h3] at he
    rcases modify_mem he with he | ⟨y, hy, rfl⟩
    · exact hq e he
    · exact hq y hy
  · obtain ⟨_, _, key, h3⟩ := step_done (i := i) (h := h) hd
    rw [h3] at he
    rcases modify_mem he with he | ⟨y, hy, rfl⟩
    · exact hq e he
    · exact hs P.obj P.lw P.ms t m hg (by unfold Ps.ms; rw [hm]; rfl) ht hd
theorem ans_play (hT : T.Ok) (h0 : Q ⟨0, 0, []⟩) (hs : ∀ (o : O) (lw : Lw) (hs : Nat → Option M) (t : Nat) (m : M), T.goodT o lw hs → hs t = some m → t < 16 → (T.G.step o lw t m).2.2.2 = true → Q (T.G.ans (T.G.step o lw t m).1 (T.G.step o lw t m).2.2.1).1) {cs : List Cl} (hcs : ∀ c ∈ cs, 0 ≤ c.thread ∧ c.thread < 16 ∧ ClU c ∧ c.thread < T.nt) (picks : List Int) :
    ∀ {P : Ps M O}, T.good P.obj P.lw P.ms → (∀ e ∈ P.evs, Q e.ans) → ∀ e ∈ (P.play T.G cs picks).evs, Q e.ans := by
  induction picks with
  | nil => exact fun _ h => h
  | cons p l ih =>
    intro P hg hq
    refine ih (P := P.pick T.G cs p) (good_pick hT hcs hg p) ?_
    rcases pick_cases T.G P p (fun c hc => (hcs c hc).1) with e | ⟨t, i, _, hi, hth, _, ⟨m, h, hm, e⟩ | ⟨hn, e⟩⟩
    · rw [e]
      exact hq
    all_goals
      have hC : callOf cs i ∈ cs := by
        unfold callOf
        rw [List.getElem?_eq_getElem hi]
        exact List.getElem_mem hi
      have ht : t < 16 := by
        have := hcs _ hC
        omega
      rw [e]
    · exact ans_step (P := P.tick) hs (hT.goodTick hg) hm ht hq
    · have h1 := hT.goodStart (t := t) (c := callOf cs i) (hT.goodTick hg) (show P.ms t = none by unfold Ps.ms; rw [hn]; rfl) ht (by have := (hcs _ hC).2.2.2; omega) hth (hcs _ hC).2.2.1
      refine ans_step (P := P.tick.start T.G t i (callOf cs i)) hs ?_ (upd_same _ _ _) ht (fun e he => ?_)
      · have : (P.tick.start T.G t i (callOf cs i)).ms = upd P.ms t (some (T.G.start P.obj t (callOf cs i)).2) := ms_upd _ _ _
        rw [this]
        exact h1
      · rcases List.mem_append.1 he with he | he
        · exact hq e he
        · have := List.mem_singleton.1 he
          subst this
          exact h0
theorem ans_ends {G : Gm M O} {P : Ps M O} (h : ∀ e ∈ P.evs, Q e.ans) : ∀ e ∈ P.ends G, Q e.ans := by
  intro e he
  obtain ⟨k, hk⟩ := List.mem_iff_getElem?.1 he
  obtain ⟨e0, h0, _, _, _, _, h5⟩ := ends_get hk
  rw [h5]
  exact h e0 (List.mem_of_getElem? h0)
end
theorem ends_has {M O : Type} {G : Gm M O} {P : Ps M O} {h : Nat} {e0 : Ep} (he : P.evs[h]? = some e0) : ∃ e, (P.ends G)[h]? = some e ∧ e.call = e0.call ∧ e.inv = e0.inv ∧ e.resp = e0.resp ∧ e.steps = e0.steps ∧ e.ans = e0.ans := by
  have hl : h < (P.ends G).length := by rw [ends_len]; exact (List.getElem?_eq_some_iff.1 he).1
  obtain ⟨e1, h1, r⟩ := ends_get (List.getElem?_eq_getElem hl)
  rw [he] at h1
  cases h1
  exact ⟨_, List.getElem?_eq_getElem hl, r⟩
/-- Calls that a play takes: whose threads are. -/
theorem chk_calls {n : Int} {cs : List Cl} {np : Nat} (h : chkE n cs np = 0) : (1 ≤ n ∧ n ≤ 16) ∧ cs.length ≤ 1000 ∧ np ≤ 65536 ∧ ∀ c ∈ cs, 0 ≤ c.thread ∧ c.thread < n := by
  unfold chkE at h
  split at h
  · cases h
  · rename_i h1
    split at h
    · cases h
    · rename_i h2
      refine ⟨by omega, by omega, by omega, ?_⟩
      unfold wrongE at h
      split at h
      · cases h
      · split at h
        · cases h
        · split at h
          · rename_i ha
            intro c hc
            have := List.all_eq_true.1 ha c hc
            simp at this
            exact this
          · cases h
/-- A call of a play. -/
theorem call_get {cs : List Cl} {i : Nat} (h : i < cs.length) : cs[i]? = some (callOf cs i) := by
  unfold callOf
  rw [List.getElem?_eq_getElem h]
  rfl
end Go.Proofs.Ytlfingcmekifkaa

namespace Go.Proofs.Ytlfingcmekifkaa
open Go.RowKit

def toldB (cs : List Cl) (e : Ep) : Bool := decide ((callOf cs e.call).obj = 0) && (decide ((callOf cs e.call).kind = 0) || decide ((callOf cs e.call).kind = 1)) && decide (e.resp ≠ 0) && decide (e.ans.err = 0)
theorem toldB_is {cs : List Cl} {e : Ep} : toldB cs e = true ↔ toldE cs e := by
  unfold toldB toldE isGive isTell
  simp only [Bool.and_eq_true, Bool.or_eq_true, decide_eq_true_eq]
  constructor
  · rintro ⟨⟨⟨a, b⟩, c⟩, d⟩
    exact ⟨b.imp (fun h => ⟨a, h⟩) (fun h => ⟨a, h⟩), c, d⟩
  · rintro ⟨a, c, d⟩
    refine ⟨⟨⟨?_, ?_⟩, c⟩, d⟩
    · rcases a with a | a <;> exact a.1
    · exact a.imp (fun h => h.2) (fun h => h.2)
set_option maxRecDepth 100000 in
set_option maxHeartbeats 2000000 in
theorem toldW {A : Option Addr} {m c : Nat} {cs : List Cl} {e : Ep} {x y : Value} {w : World} (h : SlCl w (.slice A m c) cs) (hm : cs.length = m) (hL : e.call < cs.length) :
    Calls Try.prog 23 #[.slice A m c, .agg #[.int .i64 e.call, .int .i64 e.inv, .int .i64 e.resp, .int .i64 e.steps, .int .i64 e.ans.err, .int .u64 e.ans.val, x, y]] w fun v w' => v = .returned (.bool (toldB cs e)) ∧ Below w.heap.size w w' := by
  obtain ⟨A', c', e1, g1, g2, g3⟩ := h
  obtain ⟨bb, oo, e2, hbb, hcc⟩ := g3 _ _ (call_get hL)
  rw [hm] at e1
  cases e1
  cases e2
  obtain ⟨c0, c1, c2, c3, c4, c5⟩ := cl_cells hcc
  have hLm : (e.call : Int) < (m : Int) := by omega
  have hL0 : (0 : Int) ≤ (e.call : Int) := by omega
  obtain ⟨V, hV⟩ : ∃ V, toldB cs e = V := ⟨_, rfl⟩
  have HV := hide hV
  unfold toldB at hV
  clear g1 g2 g3 hcc hL hm
  by_cases q0 : (callOf cs e.call).obj = 0
  · have p0 : ((callOf cs e.call).obj == 0) = true := by simpa using q0
    by_cases q1 : (callOf cs e.call).kind = 0
    · have p1 : ((callOf cs e.call).kind == 0) = true := by simpa using q1
      by_cases q2 : e.resp = 0
      · have p2 : (e.resp != 0) = false := by simpa using q2
        obtain rfl : V = false := by rw [← hV]; simp [q2]
        clear hV q0 q1 q2
        go_enter Try.func23, Try.ntmps23
        go_wp2
        go_ret
        exact ⟨by rw [HV.out]; rfl, by (repeat' (first | exact Below.refl _ _ | assumption | refine Below.drew ?_ | refine below_drewN ?_ _ | refine Below.alloc ?_ (by simp <;> omega) _ | refine Below.setCell ?_ (by simp <;> omega) _))⟩
      · have p2 : (e.resp != 0) = true := by simpa using q2
        by_cases q3 : e.ans.err = 0
        · have p3 : (e.ans.err == 0) = true := by simpa using q3
          obtain rfl : V = true := by rw [← hV]; simp [q0, q1, q2, q3]
          clear hV q0 q1 q2 q3
          go_enter Try.func23, Try.ntmps23
          go_wp2
          go_ret
          exact ⟨by rw [HV.out]; rfl, by (repeat' (first | exact Below.refl _ _ | assumption | refine Below.drew ?_ | refine below_drewN ?_ _ | refine Below.alloc ?_ (by simp <;> omega) _ | refine Below.setCell ?_ (by simp <;> omega) _))⟩
        · have p3 : (e.ans.err == 0) = false := by simpa using q3
          obtain rfl : V = false := by rw [← hV]; simp [q3]
          clear hV q0 q1 q2 q3
          go_enter Try.func23, Try.ntmps23
          go_wp2
          go_ret
          exact ⟨by rw [HV.out]; rfl, by (repeat' (first | exact Below.refl _ _ | assumption | refine Below.drew ?_ | refine below_drewN ?_ _ | refine Below.alloc ?_ (by simp <;> omega) _ | refine Below.setCell ?_ (by simp <;> omega) _))⟩
    · have p1 : ((callOf cs e.call).kind == 0) = false := by simpa using q1
      by_cases q4 : (callOf cs e.call).kind = 1
      · have p4 : ((callOf cs e.call).kind == 1) = true := by simpa using q4
        by_cases q2 : e.resp = 0
        · have p2 : (e.resp != 0) = false := by simpa using q2
          obtain rfl : V = false := by rw [← hV]; simp [q2]
          clear hV q0 q1 q2 q4
          go_enter Try.func23, Try.ntmps23
          go_wp2
          go_ret
          exact ⟨by rw [HV.out]; rfl, by (repeat' (first | exact Below.refl _ _ | assumption | refine Below.drew ?_ | refine below_drewN ?_ _ | refine Below.alloc ?_ (by simp <;> omega) _ | refine Below.setCell ?_ (by simp <;> omega) _))⟩
        · have p2 : (e.resp != 0) = true := by simpa using q2
          by_cases q3 : e.ans.err = 0
          · have p3 : (e.ans.err == 0) = true := by simpa using q3
            obtain rfl : V = true := by rw [← hV]; simp [q0, q4, q2, q3]
            clear hV q0 q1 q2 q3 q4
            go_enter Try.func23, Try.ntmps23
            go_wp2
            go_ret
            exact ⟨by rw [HV.out]; rfl, by (repeat' (first | exact Below.refl _ _ | assumption | refine Below.drew ?_ | refine below_drewN ?_ _ | refine Below.alloc ?_ (by simp <;> omega) _ | refine Below.setCell ?_ (by simp <;> omega) _))⟩
          · have p3 : (e.ans.err == 0) = false := by simpa using q3
            obtain rfl : V = false := by rw [← hV]; simp [q3]
            clear hV q0 q1 q2 q3 q4
            go_enter Try.func23, Try.ntmps23
            go_wp2
            go_ret
            exact ⟨by rw [HV.out]; rfl, by (repeat' (first | exact Below.refl _ _ | assumption | refine Below.drew ?_ | refine below_drewN ?_ _ | refine Below.alloc ?_ (by simp <;> omega) _ | refine Below.setCell ?_ (by simp <;> omega) _))⟩
      · have p4 : ((callOf cs e.call).kind == 1) = false := by simpa using q4
        obtain rfl : V = false := by rw [← hV]; simp [q1, q4]
        clear hV q0 q1 q4
        go_enter Try.func23, Try.ntmps23
        go_wp2
        go_ret
        exact ⟨by rw [HV.out]; rfl, by (repeat' (first | exact Below.refl _ _ | assumption | refine Below.drew ?_ | refine below_drewN ?_ _ | refine Below.alloc ?_ (by simp <;> omega) _ | refine Below.setCell ?_ (by simp <;> omega) _))⟩
  · have p0 : ((callOf cs e.call).obj == 0) = false := by simpa using q0
    obtain rfl : V = false := by rw [← hV]; simp [q0]
    clear hV q0
    go_enter Try.func23, Try.ntmps23
    go_wp2
    go_ret
    exact ⟨by rw [HV.out]; rfl, by (repeat' (first | exact Below.refl _ _ | assumption | refine Below.drew ?_ | refine below_drewN ?_ _ | refine Below.alloc ?_ (by simp <;> omega) _ | refine Below.setCell ?_ (by simp <;> omega) _))⟩
end Go.Proofs.Ytlfingcmekifkaa

namespace Go.Proofs.Ytlfingcmekifkaa
open Go.RowKit

def snA19 (n p : Int) : Array Value := #[.int .i64 0, .int .i64 n, .int .i64 p, .int .i64 0, .int .i64 0, .int .i64 0, .int .i64 0, .int .i64 0, .int .i64 0, .int .i64 0, .int .i64 0, .int .i64 0, .int .i64 0, .int .i64 0, .int .i64 0, .int .i64 0, .int .i64 0, .int .i64 0, .int .i64 0]
def laA17 (ps : Nat) : Array Value := #[.pointer (some ⟨ps, 0, none⟩), .int .u64 0, .int .u64 0, .int .u64 0, .int .u64 0, .int .u64 0, .int .u64 0, .int .u64 0, .int .u64 0, .int .u64 0, .int .u64 0, .int .u64 0, .int .u64 0, .int .u64 0, .int .u64 0, .int .u64 0, .int .u64 0]
theorem zero_snap (w : World) : (zeroValue 122).run Try.prog w = .ok (.agg #[.int .i64 0, .int .i64 0, .int .i64 0, .int .i64 0, .int .i64 0, .int .i64 0, .int .i64 0, .int .i64 0, .int .i64 0, .int .i64 0, .int .i64 0, .int .i64 0, .int .i64 0, .int .i64 0, .int .i64 0, .int .i64 0, .int .i64 0, .int .i64 0, .int .i64 0]) w := by kernel_rfl
theorem zero_lattice (w : World) : (zeroValue 92).run Try.prog w = .ok (.agg #[.pointer none, .int .u64 0, .int .u64 0, .int .u64 0, .int .u64 0, .int .u64 0, .int .u64 0, .int .u64 0, .int .u64 0, .int .u64 0, .int .u64 0, .int .u64 0, .int .u64 0, .int .u64 0, .int .u64 0, .int .u64 0, .int .u64 0]) w := by kernel_rfl
set_option maxRecDepth 100000 in
theorem snNewW (n p : Int) (w : World) : Calls Try.prog 44 #[.int .i64 0, .int .i64 n, .int .i64 p] w fun e w' => e = .returned (.pointer (some ⟨w.heap.size, 0, none⟩)) ∧ w' = w.alloc (.cells (snA19 n p) 122) := by
  unfold snA19
  have hzt := zero_snap
  go_enter Try.func44, Try.ntmps44
  go_wp2
  go_ret
  exact ⟨rfl, rfl⟩
set_option maxRecDepth 100000 in
theorem laNewW (n p : Int) (w : World) : Calls Try.prog 34 #[.int .i64 0, .int .i64 n, .int .i64 p] w fun e w' => e = .returned (.pointer (some ⟨w.heap.size + 1, 0, none⟩)) ∧ w' = (w.alloc (.cells (snA19 n p) 122)).alloc (.cells (laA17 w.heap.size) 92) := by
  unfold laA17
  have hzt := zero_lattice
  have N := snNewW n p w
  go_enter Try.func34, Try.ntmps34
  go_wp2_with fail
  refine N.mono ?_
  rintro e w1 ⟨rfl, rfl⟩
  clear N
  go_wp2
  go_ret
  exact ⟨by simp, rfl⟩
theorem laOB_new {w : World} {pe ps n p : Nat} (h : w.heap[ps]? = some (.cells (snA19 n p) 122 (0, 0))) (h' : w.heap[pe]? = some (.cells (laA17 ps) 92 (0, 0))) (hne : pe ≠ ps) : LaOB pe ps w (fun k => k = pe ∨ k = ps) ⟨n, p, fun _ => 0, fun _ => 0⟩ := by
  refine ⟨fun k => Iff.rfl, hne, ⟨_, rowIs_lit h' rfl, rfl, fun t ht => ?_⟩, _, rowIs_lit h rfl, rfl, rfl, rfl, fun t ht => ?_⟩
  · match t, ht with
  | 0, _ => rfl
  | 1, _ => rfl
  | 2, _ => rfl
  | 3, _ => rfl
  | 4, _ => rfl
  | 5, _ => rfl
  | 6, _ => rfl
  | 7, _ => rfl
  | 8, _ => rfl
  | 9, _ => rfl
  | 10, _ => rfl
  | 11, _ => rfl
  | 12, _ => rfl
  | 13, _ => rfl
  | 14, _ => rfl
  | 15, _ => rfl
  | t + 16, h => exact absurd h (by omega)
  · match t, ht with
  | 0, _ => rfl
  | 1, _ => rfl
  | 2, _ => rfl
  | 3, _ => rfl
  | 4, _ => rfl
  | 5, _ => rfl
  | 6, _ => rfl
  | 7, _ => rfl
  | 8, _ => rfl
  | 9, _ => rfl
  | 10, _ => rfl
  | 11, _ => rfl
  | 12, _ => rfl
  | 13, _ => rfl
  | 14, _ => rfl
  | 15, _ => rfl
  | t + 16, h => exact absurd h (by omega)
theorem latSize_bd {n p : Nat} (hn : n ≤ 16) (hp : p ≤ 64) : n + n * p * (n + 1) ≤ 17424 := by
  have : n * p * (n + 1) ≤ 16 * 64 * 17 := Nat.mul_le_mul (Nat.mul_le_mul hn hp) (by omega)
  omega
set_option maxRecDepth 100000 in
theorem snSizeW (n p : Nat) (hn : n ≤ 16) (hp : p ≤ 64) (w : World) : Calls Try.prog 35 #[.int .i64 n, .int .i64 p] w fun e w' => e = .returned (.int .i64 ((n + n * p * (n + 1) : Nat) : Int)) ∧ w' = w := by
  have hb := latSize_bd hn hp
  have b1 : n * p ≤ 16 * 64 := Nat.mul_le_mul hn hp
  have e1 : (n : Int) * (p : Int) = ((n * p : Nat) : Int) := by push_cast; rfl
  obtain ⟨Q, hQ⟩ : ∃ Q, n * p = Q := ⟨_, rfl⟩
  rw [hQ] at hb b1 e1 ⊢
  have e2 : (Q : Int) * ((n : Int) + 1) = ((Q * (n + 1) : Nat) : Int) := by push_cast; rfl
  obtain ⟨R, hR⟩ : ∃ R, Q * (n + 1) = R := ⟨_, rfl⟩
  rw [hR] at hb e2 ⊢
  have k1 : IntKind.i64.wrap ((n : Int) * (p : Int)) = (Q : Int) := by rw [e1]; exact wrap_i64 (by omega) (by omega)
  have k2 : IntKind.i64.wrap ((n : Int) + 1) = (n : Int) + 1 := wrap_i64 (by omega) (by omega)
  have k3 : IntKind.i64.wrap ((Q : Int) * ((n : Int) + 1)) = (R : Int) := by rw [e2]; exact wrap_i64 (by omega) (by omega)
  have k4 : IntKind.i64.wrap ((n : Int) + (R : Int)) = (n : Int) + (R : Int) := wrap_i64 (by omega) (by omega)
  clear hb b1 e1 e2 hQ hR hn hp
  go_enter Try.func35, Try.ntmps35
  go_wp2
  go_ret
  exact ⟨by push_cast; rfl, rfl⟩
theorem laGo {W : World} {pe ps po pz nn p b0 L : Nat} {A : Option Addr} {m c : Nat} {cs : List Cl} {Ap : Option Addr} {np cp : Nat} {picks : List Int} (hn : 1 ≤ nn ∧ nn ≤ 16) (hp1 : 1 ≤ p ∧ p ≤ 64) (hL : L = nn + nn * p * (nn + 1)) (hs : W.heap[ps]? = some (.cells (snA19 nn p) 122 (0, 0))) (he : W.heap[pe]? = some (.cells (laA17 ps) 92 (0, 0))) (ho : W.heap[po]? = some (.cells #[.iface 64 (.pointer (some ⟨pe, 0, none⟩))] 141 (0, 0))) (hz : W.heap[pz]? = some (.cells (madeCells #[.int .u64 0] L) 37 (0, 0)))
    (h : SlCl W (.slice A m c) cs) (hm : cs.length = m) (hp : SlI W (.slice Ap np cp) picks) (hpl : picks.length = np) (hcu : ∀ c ∈ cs, ClU c) (hE : chkE nn cs picks.length = 0) (hb : W.heap[b0]? = some zeroRep) (hbs : b0 ≠ pe ∧ b0 ≠ ps ∧ b0 ≠ po ∧ pe ≠ ps ∧ po ≠ pe ∧ po ≠ ps) (hC : ∀ a : Addr, A = some a → 0 < cs.length → a.block ≠ pe ∧ a.block ≠ ps ∧ a.block ≠ b0) (hP : ∀ a : Addr, Ap = some a → 0 < picks.length → a.block ≠ pe ∧ a.block ≠ ps ∧ a.block ≠ b0) :
    Calls Try.prog 28 #[.int .i64 nn, .slice (some ⟨po, 0, none⟩) 1 1, .slice (some ⟨pz, 0, none⟩) L L, .slice A m c, .slice Ap np cp] W (MidPost b0 (fun k => k = pe ∨ k = ps) ((latPlay nn p cs picks).ends latG) (latPlay nn p cs picks).lw.mem (latPlay nn p cs picks).lw.now (latPlay nn p cs picks).idle W) := by
  subst hL
  have hbd := latSize_bd hn.2 hp1.2
  exact loomPlayMid (T := latTh pe ps nn p) (n := nn) (AO := some ⟨po, 0, none⟩) (co := 1) (latTh_ok pe ps nn p) (made_sl hz (by unfold maxLen; omega)) (by simp) (by omega) h hm hp hpl (laOB_new hs he hbs.2.2.2.1) (objs_one ho) (fun a e _ h => by cases e; rcases h with h | h; exact hbs.2.2.2.2.1 h; exact hbs.2.2.2.2.2 h) (fun a e hl h => by rcases h with h | h; exact (hC a e hl).1 h; exact (hC a e hl).2.1 h) (fun a e hl h => by rcases h with h | h; exact (hP a e hl).1 h; exact (hP a e hl).2.1 h) hcu (latGood_new hn hp1 cs.length) hE hb (fun h => by rcases h with h | h; exact hbs.1 h; exact hbs.2.1 h) (fun a e h => by cases e; exact hbs.2.2.1 h.symm) (fun a e hl => (hC a e hl).2.2) (fun a e hl => (hP a e hl).2.2) (hnt := Or.inl (Int.le_refl _))
end Go.Proofs.Ytlfingcmekifkaa
