/- What SplitNames says of the events of a play. -/
/- Threads that take names (package split): Name, Place, last, move. -/
import Derived.Test.YtlfingcmekifkaaLs6
import Derived.Test.YtlfingcmekifkaaOj1
import Derived.WalkMore
import Derived.ScopeJumps
namespace Go.Proofs.Ytlfingcmekifkaa
open Go.RowKit

theorem SInv.pick {n : Nat} {cs : List Cl} {P : Ps SM Spl} {vis right down : Nat → Nat → Nat → Prop} {cur : Nat → Option (Nat × Nat × Nat)} {La Sh : Nat → Nat → Int} (I : SInv n cs P vis right down cur La Sh) (p : Int) (hcs : ∀ c ∈ cs, 0 ≤ c.thread ∧ c.thread < n) : ∃ vis' right' down' cur' La' Sh', SInv n cs (P.pick spG cs p) vis' right' down' cur' La' Sh' := by
  have h1 : 1 ≤ P.tick.lw.now := by
    have := I.wf.now
    show 1 ≤ P.lw.now + 1
    omega
  rcases pick_cases spG P p (fun c hc => (hcs c hc).1) with h | ⟨t, i, _, hi, ht, _, ⟨m, h, hm, hp⟩ | ⟨hn, hp⟩⟩
  · rw [h]
    exact ⟨_, _, _, _, _, _, I.idle⟩
  · rw [hp]
    exact I.tick.step (i := i) (P := P.tick) hm h1
  · rw [hp]
    have hC : callOf cs i ∈ cs := by
      unfold callOf
      rw [List.getElem?_eq_getElem hi]
      exact List.getElem_mem hi
    have htn : t < n := by
      have := hcs _ hC
      omega
    have hno : ∀ e, e ≠ 0 → ((callOf cs i).obj = 0 → (callOf cs i).kind = 0 → cur t ≠ none) → spG.start P.obj t (callOf cs i) = (P.obj, .no e) → ∃ vis' right' down' cur' La' Sh', SInv n cs ((P.tick.start spG t i (callOf cs i)).step spG t i (spG.start P.obj t (callOf cs i)).2 P.evs.length) vis' right' down' cur' La' Sh' := by
      intro e he hcm hS
      rw [hS]
      exact ⟨_, _, _, _, _, _, I.tick.refuse (P := P.tick) hn hi ht h1 he hS hcm⟩
    by_cases ho : (callOf cs i).obj = 0
    · by_cases hk : (callOf cs i).kind = 0
      · cases hst : P.obj.has t with
        | true =>
          refine hno 8 (by decide) (fun _ _ => ?_) ?_
          · obtain ⟨r, c, h⟩ := I.has t hst
            rw [h]
            simp
          · show spStart _ _ _ = _
            unfold spStart
            rw [if_neg (by omega), if_neg (by omega), if_pos hst]
        | false =>
          obtain ⟨I', hS⟩ := I.tick.start (P := P.tick) hn hi ht h1 htn ho hk hst
          have hh : (P.tick.start spG t i (callOf cs i)).hands t = some ((spG.start P.obj t (callOf cs i)).2, P.evs.length) := by
            show upd P.hands t (some ((spG.start P.obj t (callOf cs i)).2, P.evs.length)) t = _
            rw [upd_same]
          exact I'.step (i := i) hh h1
      · refine hno 9 (by decide) (fun _ h => absurd h hk) ?_
        show spStart _ _ _ = _
        unfold spStart
        rw [if_neg (by omega), if_pos hk]
    · refine hno 12 (by decide) (fun h => absurd h ho) ?_
      show spStart _ _ _ = _
      unfold spStart
      rw [if_pos ho]
theorem SInv.play {n : Nat} {cs : List Cl} (hcs : ∀ c ∈ cs, 0 ≤ c.thread ∧ c.thread < n) (picks : List Int) : ∀ {P : Ps SM Spl} {vis right down : Nat → Nat → Nat → Prop} {cur : Nat → Option (Nat × Nat × Nat)} {La Sh : Nat → Nat → Int}, SInv n cs P vis right down cur La Sh → ∃ vis' right' down' cur' La' Sh', SInv n cs (P.play spG cs picks) vis' right' down' cur' La' Sh' := by
  induction picks with
  | nil => exact fun I => ⟨_, _, _, _, _, _, I⟩
  | cons p l ih =>
    intro P vis right down cur La Sh I
    obtain ⟨_, _, _, _, _, _, I'⟩ := I.pick p hcs
    exact ih I'
def spPlay (n : Nat) (cs : List Cl) (picks : List Int) : Ps SM Spl := (Ps.new (List.replicate (2 * tri n) 0) ⟨fun _ => false⟩ cs.length).play spG cs picks
theorem sp_inv {n : Nat} {cs : List Cl} (hcs : ∀ c ∈ cs, 0 ≤ c.thread ∧ c.thread < n) (picks : List Int) : ∃ vis right down cur La Sh, SInv n cs (spPlay n cs picks) vis right down cur La Sh := (SInv.new n cs).play hcs picks
/-- Whether a thread began: it has an event of a call that takes a name. -/
def begunT (cs : List Cl) (evs : List Ep) (t : Nat) : Prop := ∃ (h : Nat) (e : Ep), evs[h]? = some e ∧ (callOf cs e.call).obj = 0 ∧ (callOf cs e.call).kind = 0 ∧ tkT cs e = t
/-- What SplitNames says of the events. -/
structure SpLaw (n : Nat) (cs : List Cl) (evs : List Ep) : Prop where
  call : ∀ (h : Nat) (e : Ep), evs[h]? = some e → e.call < cs.length
  steps : ∀ (h : Nat) (e : Ep), evs[h]? = some e → e.steps ≤ 4 * ((max (cntP n (begunT cs evs)) 1 : Nat) : Int)
  name : ∀ (h : Nat) (e : Ep), evs[h]? = some e → e.resp ≠ 0 → isTk cs e → ∃ m : Nat, e.ans.val = m ∧ m < tri (cntP n (begunT cs evs))
  one : ∀ (h k : Nat) (e e' : Ep), evs[h]? = some e → evs[k]? = some e' → e.resp ≠ 0 → e'.resp ≠ 0 → isTk cs e → isTk cs e' → e.ans.val = e'.ans.val → h = k
theorem SInv.law {n : Nat} {cs : List Cl} {P : Ps SM Spl} {vis right down : Nat → Nat → Nat → Prop} {cur : Nat → Option (Nat × Nat × Nat)} {La Sh : Nat → Nat → Int} (I : SInv n cs P vis right down cur La Sh) : SpLaw n cs P.evs := by
  have hk : begunT cs P.evs = fun t => cur t ≠ none := by
    funext t
    apply propext
    constructor
    · rintro ⟨h, e, he, h1, h2, rfl⟩
      exact I.came h e he h1 h2
    · intro hc
      obtain ⟨h, e, he, hs, ht⟩ := I.begun t hc
      exact ⟨h, e, he, hs.1, hs.2.1, ht⟩
  refine ⟨fun h e he => (I.wf.call h e he).1, fun h e he => ?_, fun h e he hr hs => ?_, fun h k e e' he he' hr hr' hs hs' hv => ?_⟩
  · rw [hk]
    by_cases hs : isTk cs e
    · by_cases hr : e.resp = 0
      · obtain ⟨m, hm⟩ := I.wf.opn h e he hr
        obtain ⟨pc, r, c, x, _, a2, a3, a4, _, a5⟩ := I.mach _ m h hm
        rw [he] at a4
        cases a4
        have := I.grid.near a3
        omega
      · obtain ⟨r, c, a1, _, a3⟩ := I.done h e he hr hs
        have := I.grid.near a1
        omega
    · have := I.ref h e he hs
      omega
  · rw [hk]
    obtain ⟨r, c, a1, a2, _⟩ := I.done h e he hr hs
    exact ⟨nameN r c, a2, name_lt (I.grid.near a1)⟩
  · obtain ⟨r, c, a1, a2, _⟩ := I.done h e he hr hs
    obtain ⟨r', c', b1, b2, _⟩ := I.done k e' he' hr' hs'
    obtain ⟨rfl, rfl⟩ := name_inj (r := r) (c := c) (r' := r') (c' := c') (by omega)
    refine I.uniq h k e e' he he' hs hs' (Decidable.byContradiction fun hne => ?_)
    exact (I.grid.st _ r c a1 _ 4 (fun h => hne h.symm) b1 (by decide)).2 rfl
theorem sp_law {n : Nat} {cs : List Cl} (hcs : ∀ c ∈ cs, 0 ≤ c.thread ∧ c.thread < n) (picks : List Int) : SpLaw n cs (spPlay n cs picks).evs ∧ (spPlay n cs picks).lw.mem.ft = 0 := by
  obtain ⟨_, _, _, _, _, _, I⟩ := sp_inv hcs picks
  exact ⟨I.law, I.flt⟩
end Go.Proofs.Ytlfingcmekifkaa

namespace Go.Proofs.Ytlfingcmekifkaa
open Go.RowKit

theorem tri_two (d : Nat) : 2 * (tri d : Int) = (d : Int) * (d + 1) := by
  induction d with
  | zero => rfl
  | succ d ih =>
    show 2 * ((tri d + (d + 1) : Nat) : Int) = _
    have h1 : ((d + 1 : Nat) : Int) = (d : Int) + 1 := by omega
    have h2 : ((tri d + (d + 1) : Nat) : Int) = (tri d : Int) + (d + 1) := by omega
    rw [h1, h2, Int.mul_add, ih]
    have : ((d : Int) + 1) * (d + 1 + 1) = (d : Int) * (d + 1) + 2 * ((d : Int) + 1) := by
      generalize (d : Int) = x
      simp only [Int.add_mul, Int.mul_add, Int.one_mul, Int.mul_one]
      omega
    omega
theorem tri_bd {d : Nat} (h : d ≤ 2000000) : (d : Int) * (d + 1) ≤ 4000002000000 := by
  have h1 : (d : Int) ≤ 2000000 := by omega
  have h2 : (d : Int) * (d + 1) ≤ 2000000 * 2000001 := Int.mul_le_mul h1 (by omega) (by omega) (by omega)
  omega
theorem tri_le {d : Nat} (h : d ≤ 2000000) : (tri d : Int) ≤ 2000001000000 := by
  have h1 := tri_bd h
  have h2 := tri_two d
  omega
theorem name_le {r c : Nat} (h : r + c ≤ 2000000) : (nameN r c : Int) ≤ 2000003000000 := by
  have := tri_le h
  unfold nameN
  omega
set_option maxRecDepth 100000 in
theorem spNameW (r c : Nat) (h : r + c ≤ 2000000) (w : World) : Calls Try.prog 113 #[.int .i64 r, .int .i64 c] w fun e w' => e = .returned (.int .i64 (nameN r c)) ∧ w' = w := by
  have hb := tri_bd h
  have ht := tri_two (r + c)
  have hl := name_le h
  obtain ⟨d, hd⟩ : ∃ d : Nat, r + c = d := ⟨_, rfl⟩
  have hn : (nameN r c : Int) = (tri d : Int) + r := by unfold nameN; rw [hd]; omega
  rw [hd] at hb ht h
  have hdi : (r : Int) + (c : Int) = d := by omega
  have hw1 : IntKind.i64.wrap ((r : Int) + (c : Int)) = d := by rw [hdi]; exact wrap_i64 (by omega) (by omega)
  have hw2 : IntKind.i64.wrap ((d : Int) + 1) = (d : Int) + 1 := wrap_i64 (by omega) (by omega)
  have hw3 : IntKind.i64.wrap ((d : Int) * ((d : Int) + 1)) = 2 * (tri d : Int) := by rw [← ht]; exact wrap_i64 (by omega) (by omega)
  have hw4 : IntKind.i64.wrap (tri d : Int) = tri d := wrap_i64 (by omega) (by omega)
  have hw5 : IntKind.i64.wrap ((tri d : Int) + (r : Int)) = nameN r c := by rw [hn]; exact wrap_i64 (by omega) (by omega)
  clear hb ht hl hn hd
  go_enter Try.func113, Try.ntmps113
  go_wp2
  go_ret
  exact ⟨rfl, rfl⟩
/-- What is left of a name behind so many diagonals. -/
def restN (r c i : Nat) : Nat := nameN r c - tri i
theorem rest_step {r c i : Nat} (h : i < r + c) : i < restN r c i ∧ restN r c (i + 1) + (i + 1) = restN r c i := by
  have h1 : tri (i + 1) ≤ tri (r + c) := tri_mono h
  have h2 : tri (i + 1) = tri i + (i + 1) := rfl
  unfold restN nameN
  omega
theorem rest_le (r c i : Nat) : restN r c i ≤ nameN r c := Nat.sub_le _ _
theorem rest_last (r c : Nat) : restN r c (r + c) = r := by
  unfold restN nameN
  omega
set_option maxRecDepth 1000000 in
theorem spPlaceW (r c : Nat) (h : r + c ≤ 2000000) (w : World) : Calls Try.prog 112 #[.int .i64 (nameN r c)] w fun e w' => e = .returned (.tuple #[.int .i64 r, .int .i64 c]) ∧ w' = w := by
  have hl := name_le h
  have h0 : (r : Int) + c ≤ 2000000 := by omega
  go_enter Try.func112, Try.ntmps112
  go_wp2
  refine wp_scope_jumps 0 (fun a' w' => w' = w ∧ ∃ (i : Nat) (u5 u6 u7 u8 u9 u10 u11 u12 u13 u14 u15 u16 u17 : Value), i ≤ r + c ∧ a' = { tmps := #[.int .i64 (restN r c i), undef, .int .i64 0, .int .i64 0, .int .i64 i, u5, u6, u7, u8, u9, u10, u11, u12, u13, u14, u15, u16, u17], defers := [] }) (fun a' _ => (intOf (a'.tmps.getD 0 undef)).toNat) rfl ?_ ?_
  · go_wp2
    go_step3
    by_cases hlt : 0 < r + c
    · obtain ⟨r1, r2⟩ := rest_step hlt
      have e0 : restN r c 0 = nameN r c := rfl
      rw [e0] at r1
      have r3 : restN r c 1 + 1 = nameN r c := r2
      have hw2 : IntKind.i64.wrap ((nameN r c : Int) - 1) = (restN r c 1 : Nat) := by rw [wrap_i64 (by omega) (by omega)]; omega
      go_wp2
      go_step3
      refine ⟨rfl, rfl, 1, _, _, _, _, _, _, _, _, _, _, _, _, _, by omega, rfl⟩
    · obtain ⟨rfl, rfl⟩ : r = 0 ∧ c = 0 := by omega
      have e0 : nameN 0 0 = 0 := rfl
      rw [e0]
      go_wp2
      simp only [Exit.jump]
      go_ret2
      exact ⟨rfl, rfl⟩
  · rintro a' w' ⟨rfl, i, u5, u6, u7, u8, u9, u10, u11, u12, u13, u14, u15, u16, u17, hi, rfl⟩
    have HQ := rest_le r c i
    by_cases hlt : i < r + c
    · obtain ⟨r1, r2⟩ := rest_step hlt
      obtain ⟨q, hq⟩ : ∃ q, restN r c i = q := ⟨_, rfl⟩
      rw [hq] at r1 r2 HQ ⊢
      have r1' : (i : Int) < (q : Int) := by omega
      have hw1 : IntKind.i64.wrap ((i : Int) + 1) = (i : Int) + 1 := wrap_i64 (by omega) (by omega)
      have hw2 : IntKind.i64.wrap ((q : Int) - ((i : Int) + 1)) = (restN r c (i + 1) : Nat) := by rw [wrap_i64 (by omega) (by omega)]; omega
      clear hq
      go_wp2
      go_step3
      refine ⟨rfl, ⟨rfl, i + 1, _, _, _, _, _, _, _, _, _, _, _, _, _, by omega, rfl⟩, ?_⟩
      · simp [intOf]
        omega
    · obtain rfl : i = r + c := by omega
      have HL := rest_last r c
      rw [HL]
      have hlt2 : ¬ (r : Int) > ((r + c : Nat) : Int) := by omega
      have hcc : ((r + c : Nat) : Int) - (r : Int) = c := by omega
      have hw1 : IntKind.i64.wrap (((r + c : Nat) : Int) - (r : Int)) = c := by rw [hcc]; exact wrap_i64 (by omega) (by omega)
      have hcc2 : (r : Int) + (c : Int) - (r : Int) = c := by omega
      go_wp2
      simp only [Exit.jump]
      go_ret2
      exact ⟨rfl, rfl⟩
end Go.Proofs.Ytlfingcmekifkaa
