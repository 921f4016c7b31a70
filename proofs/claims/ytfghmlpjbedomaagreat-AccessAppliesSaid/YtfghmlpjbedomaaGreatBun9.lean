/- A tally whose accesses are told (law 44's known case), as plain data. No program in sight. -/
/- A copy of a row of numbers (slices.Clone of ints); taken out of Sr2 for seats without search. -/
/- What is noted at a place (World.Note, World.Trace). -/
import Derived.Test.YtfghmlpjbedomaaGreatAc3
import Derived.Test.YtfghmlpjbedomaaGreatBun8
import Derived.Test.YtfghmlpjbedomaaGreatBun5
import Derived.Test.YtfghmlpjbedomaaGreatBun2
import Derived.Test.YtfghmlpjbedomaaGreatLo6
namespace Go.Proofs.YtfghmlpjbedomaaGreat
open Go.RowKit

inductive TM where
  | no (e : Int)
  | cnt (t : Nat) (v : Int) (seen : Bool)
def taStart (c : Cl) : TM := if c.obj ≠ 0 then .no 12 else .cnt c.thread.toNat 0 false
def taUp (v : Int) : Int := (v + 1) % 18446744073709551616
def taStep (o : Option (List Ac)) (w : Lw) : TM → Option (List Ac) × Lw × TM × Bool
  | .no e => (o, w, .no e, true)
  | .cnt t _ false => (o.map (· ++ [⟨w.now, t, 0, t, w.mem.at t, w.mem.at t⟩]), { w with mem := w.mem.acc 0 t 0 0 }, .cnt t (w.mem.at t) true, false)
  | .cnt t v true => (o.map (· ++ [⟨w.now, t, 1, t, w.mem.at t, taUp v⟩]), { w with mem := w.mem.acc 1 t (taUp v) 0, traces := fun a => if a = 0 then w.traces 0 ++ [w.now] else w.traces a }, .cnt t v true, true)
def taAns : TM → An × List Int
  | .no e => (⟨e, 0, []⟩, [])
  | .cnt _ _ _ => (⟨0, 0, []⟩, [])
def taG : Gm TM (Option (List Ac)) := ⟨fun o _ c => (o, taStart c), fun o w _ m => taStep o w m, fun _ m => taAns m, fun _ _ _ => none⟩
theorem taG_still : taG.Still := by
  intro o w t m
  show (taStep o w m).2.1.now = w.now
  unfold taStep
  split <;> rfl
def taMok (t : Nat) : TM → Prop
  | .no _ => True
  | .cnt t' v _ => t' = t ∧ t < 2 ∧ 0 ≤ v ∧ v < 18446744073709551616
def taGood (d : Int) (o : Option (List Ac)) (lw : Lw) (hs : Nat → Option TM) : Prop :=
  (∃ l, o = some l ∧ (l.length : Int) + d ≤ lw.now) ∧ ((lw.traces 0).length : Int) + d ≤ lw.now ∧ lw.mem.words.length = 2 ∧ W64 lw.mem.words ∧ ∀ t m, hs t = some m → taMok t m
def taCl (c : Cl) : Prop := c.kind = 0 ∧ c.thread < 2
theorem acc_words_len (m : Mm) (k a x y : Int) : (m.acc k a x y).words.length = m.words.length := by
  unfold Mm.acc
  split <;> simp
theorem taUp_bd (v : Int) : 0 ≤ taUp v ∧ taUp v < 18446744073709551616 := by unfold taUp; omega
theorem taGood_start {o : Option (List Ac)} {lw : Lw} {hs : Nat → Option TM} {t : Nat} {c : Cl} (h : taGood 1 o lw hs) (hc : c.thread = t) (hk : taCl c) : taGood 1 o { lw with inv := upd lw.inv t lw.now, marks := upd lw.marks t [] } (upd hs t (some (taStart c))) := by
  refine ⟨h.1, h.2.1, h.2.2.1, h.2.2.2.1, fun s m hm => ?_⟩
  by_cases e : s = t
  · subst e
    rw [upd_same] at hm
    cases hm
    unfold taStart
    split
    · trivial
    · have := hk.2
      exact ⟨by omega, by omega, by omega, by omega⟩
  · rw [upd_other e] at hm
    exact h.2.2.2.2 s m hm
theorem taGood_step {o : Option (List Ac)} {lw : Lw} {hs : Nat → Option TM} {t : Nat} {m : TM} (h : taGood 1 o lw hs) (hm : hs t = some m) : taGood 0 (taStep o lw m).1 (taStep o lw m).2.1 (upd hs t (if (taStep o lw m).2.2.2 then none else some (taStep o lw m).2.2.1)) := by
  obtain ⟨⟨l, rfl, hl⟩, h2, h3, h4, h5⟩ := h
  have hk := h5 t m hm
  have key : ∀ (r : Option TM), (∀ m', r = some m' → taMok t m') → ∀ s m', upd hs t r s = some m' → taMok s m' := by
    intro r hr s m' hh
    by_cases e : s = t
    · subst e
      rw [upd_same] at hh
      exact hr m' hh
    · rw [upd_other e] at hh
      exact h5 s m' hh
  cases m with
  | no e => exact ⟨⟨l, rfl, by show (l.length : Int) + 0 ≤ lw.now; omega⟩, by show ((lw.traces 0).length : Int) + 0 ≤ lw.now; omega, h3, h4, key _ (fun m' hh => by cases hh)⟩
  | cnt t' v seen =>
    obtain ⟨k1, k2, k3, k4⟩ := hk
    cases seen with
    | false =>
      refine ⟨⟨_, rfl, ?_⟩, by show ((lw.traces 0).length : Int) + 0 ≤ lw.now; omega, (acc_words_len _ _ _ _ _).trans h3, acc_w64 h4 _ _ _ _ ?_, key _ (fun m' hh => ?_)⟩
      · show (((l ++ [_]).length : Nat) : Int) + 0 ≤ lw.now
        rw [List.length_append, List.length_singleton]
        omega
      · unfold acY
        rw [if_pos rfl]
        exact at_bd h4 _
      · cases hh
        exact ⟨k1, k2, at_bd h4 _⟩
    | true =>
      refine ⟨⟨_, rfl, ?_⟩, ?_, (acc_words_len _ _ _ _ _).trans h3, acc_w64 h4 _ _ _ _ ?_, key _ (fun m' hh => by cases hh)⟩
      · show (((l ++ [_]).length : Nat) : Int) + 0 ≤ lw.now
        rw [List.length_append, List.length_singleton]
        omega
      · show (((lw.traces 0 ++ [lw.now]).length : Nat) : Int) + 0 ≤ lw.now
        rw [List.length_append, List.length_singleton]
        omega
      · unfold acY
        rw [if_neg (by decide), if_pos rfl]
        exact taUp_bd v
def taC : List Cl := [⟨1, 0, 0, 0, 0, 0⟩]
theorem ta_one : ((Ps.new [0, 0] (some []) 1).play taG taC [1, 0, 1]).obj = some [⟨1, 1, 0, 1, 0, 0⟩, ⟨2, 1, 1, 1, 0, 1⟩] := by kernel_rfl
end Go.Proofs.YtfghmlpjbedomaaGreat

namespace Go.Proofs.YtfghmlpjbedomaaGreat
open Go.RowKit

set_option maxRecDepth 100000 in
set_option maxHeartbeats 1000000 in
/-- A copy of a row of numbers, in memory of the call's own. -/
theorem iclone_any (v : Value) (xs : List Int) (w : World) (h : SlI w v xs) (hb : xs.length ≤ 2000000) :
    Calls Tryz.prog 34 #[v] w fun e w' => ∃ v', e = .returned v' ∧ IOwn w' w.heap.size v' xs.length xs ∧ Below w.heap.size w w' := by
  obtain ⟨A, cap, rfl, h1, h2, h3⟩ := h
  obtain ⟨i0, hi, hz0, hz1, hz2⟩ := info_parts info_int
  have q32 : ∀ (w : World) (a : Option Addr) (n c n' c' : Nat), (binOp .eql 22 (.slice a n c) (.slice none n' c')).run Tryz.prog w = .ok (.bool a.isNone) w := fun w a n c n' c' => Lib.run_eql_slice_nil w _ _ a n c n' c' Tryz.underlying22
  rcases A with _ | a
  · have hx : xs = [] := by
      rcases xs with _ | ⟨x, xs⟩
      · rfl
      · obtain ⟨b, o, hA, _⟩ := h3 0 x rfl
        cases hA
    subst hx
    clear h3
    go_enter Tryz.func34, Tryz.ntmps34
    go_wp2
    go_ret
    exact ⟨_, rfl, World.ownsRow_nil _ _ _ _, by (repeat' (first | exact Below.refl _ _ | assumption | refine Below.drew ?_ | refine below_drewN ?_ _ | refine Below.alloc ?_ (by simp <;> omega) _ | refine Below.setCell ?_ (by simp <;> omega) _))⟩
  · have hnews : ∀ j u, (xs.map (Value.int .i64))[j]? = some u → (w.alloc (.cells #[] 3)).cell? (a.add j) = some u := by
      intro j u hu
      rw [List.getElem?_map] at hu
      rcases hx : xs[j]? with _ | x
      · rw [hx] at hu; cases hu
      · rw [hx] at hu
        obtain ⟨b, o, hA, hbw, hc⟩ := h3 j x hx
        cases hA
        cases hu
        have := nt_cell hc
        rw [Addr.add_lit]
        simp only [Nat.mul_one] at this
        exact Lib.cell?_alloc_some _ this
    clear h3
    go_enter Tryz.func34, Tryz.ntmps34
    go_wp2_with (first
      | (at_builtin; refine wpList_append_own_at _ rfl _ _ 22 rfl w.heap.size 3 i0 (.int .i64 0) 1 8 Tryz.underlying22 hi hz0 hz1 hz2 rfl (by decide) _ _ _ rfl (World.ownsRow_made w #[] 0 (Nat.le_refl _) (Nat.zero_le _) rfl) a xs.length cap (xs.map (Value.int .i64)) rfl (by simp) hnews (ints_oneCell .i64 xs) (by unfold maxLen; omega) (by omega) (by simp) ?_; intro v' w5 hown' hgrow hnil hloc)
      | go_in)
    go_ret
    exact ⟨_, rfl, by simpa using hown', ((Below.refl _ w).alloc (Nat.le_refl _) _).grown hgrow (by simp) (by intro k hk; cases hk; exact Nat.le_refl _)⟩

end Go.Proofs.YtfghmlpjbedomaaGreat

namespace Go.Proofs.YtfghmlpjbedomaaGreat
open Go.RowKit

theorem zero_intsN (w : World) : (zeroValue 22).run Tryz.prog w = .ok (.slice none 0 0) w := by kernel_rfl
set_option maxRecDepth 100000 in
theorem traceN (pw pt : Nat) (a : Int) (m : Int → Option Value) (w : World) (h1 : w.cell? ⟨pw, 34, none⟩ = some (.map (some pt))) (h2 : IMap w pt .i64 m) :
    Calls Tryz.prog 234 #[.pointer (some ⟨pw, 0, none⟩), .int .i64 a] w fun e w' => e = .returned ((m a).getD (.slice none 0 0)) ∧ w' = w := by
  have H2 := hide h2
  clear h2
  go_enter Tryz.func234, Tryz.ntmps234
  go_wp2_with (at_lookup; refine wpList_lookup_imap _ rfl _ _ _ rfl 3 22 .i64 Tryz.underlying130 Tryz.underlying3 (.slice none 0 0) (zero_intsN _) pt m rfl H2.out a rfl ?_)
  go_ret
  exact ⟨rfl, rfl⟩
set_option maxRecDepth 100000 in
set_option maxHeartbeats 2000000 in
theorem noteN {w : World} {pw pt n c : Nat} {A : Option Addr} {V : Int} {l : List Int} {m : Int → Option Value} (h34 : w.cell? ⟨pw, 34, none⟩ = some (.map (some pt))) (hm : IMap w pt .i64 m) (hl : SlI w (.slice A n c) l) (hb : l.length ≤ 2000000) (hpw : pw < w.heap.size) (hne : pw ≠ pt) :
    Calls Tryz.prog 235 #[.pointer (some ⟨pw, 0, none⟩), .int .i64 V, .slice A n c] w fun e w' => e = .returned (.tuple #[]) ∧ ∃ v', IMap w' pt .i64 (fun x => if x = V then some v' else m x) ∧ IOwn w' w.heap.size v' l.length l ∧ Keep (fun k => k < w.heap.size ∧ k ≠ pt) w w' := by
  have N := iclone_any (.slice A n c) l w.drew (sl_at_keep (S := fun _ => True) hl (Keep.refl _ w).drew (fun _ _ _ _ _ _ _ => trivial)) hb
  have hzt := hm.lt
  have HM := hide hm
  have HN := hide N
  clear hm hl N
  go_enter Tryz.func235, Tryz.ntmps235
  go_wp2
  refine wp_region_seq (fun Y => Y.cell? ⟨pw, 34, none⟩ = some (.map (some pt))) (.take 0 <| .take 1 <| .take 2 <| .take 3 <| .take 4 <| .take 5 <| .run 6 <| .run 7 <| .done) (by kernel_rfl) (by kernel_rfl) (by kernel_rfl) (by go_simp) ?_
  iterate 6 (refine seq_take (v := ?_) rfl (by rfl) ?_ ?_; rotate_left; (focus (intro wS hS; go_simp; exact rfl)); simp only [Act.put, List.setIfInBounds_toArray, List.set_cons_zero, List.set_cons_succ])
  (refine seq_run rfl (by rfl) (fun K hK => ?_); go_simp)
  refine HN.out.mono ?_
  rintro e w1 ⟨v1, rfl, ho, hk⟩
  have hm1 : IMap w1 pt .i64 m := (HM.out.drewN 1).below hk hzt
  have h1 : w1.cell? ⟨pw, 34, none⟩ = some (.map (some pt)) := ((Keep.of_below (K := fun k => k < w.heap.size) hk (fun k h => h)).cell (p := ⟨pw, 34, none⟩) hpw).trans h34
  refine hK _ _ h1 ?_
  clear hK K
  refine seq_run rfl (by rfl) (fun K hK => ?_)
  refine wp_update_imap _ _ _ 130 rfl 3 22 .i64 Tryz.underlying130 Tryz.underlying3 pt m (by rfl) hm1 V v1 (by rfl) (by rfl) ?_
  intro w2 hm2 hg2 hz2
  have hk2 : Keep (fun k => k < w1.heap.size ∧ k ≠ pt) w1 w2 := (Keep.refl _ w1).grown hg2 (fun k h => h.1) (fun k h hh => hh.2 (Option.some.inj h).symm)
  have ho2 : IOwn w2 w.heap.size v1 l.length l := owns_keepV ho hk2 (fun k hk' => ⟨(ho.lt k hk').2, fun e => by have h := (ho.lt k hk').1; have h' : w.heap.size ≤ k := h; omega⟩)
  have h2 : w2.cell? ⟨pw, 34, none⟩ = some (.map (some pt)) := (hk2.cell (p := ⟨pw, 34, none⟩) ⟨Nat.lt_of_lt_of_le hpw hk.size, hne⟩).trans h1
  have hkk : Keep (fun k => k < w.heap.size ∧ k ≠ pt) w w2 := ((Keep.refl _ w).drew.trans (Keep.of_below hk (fun k h => h.1))).trans (hk2.mono (fun k h => ⟨Nat.lt_of_lt_of_le h.1 hk.size, h.2⟩))
  refine hK _ _ h2 ?_
  clear hK K
  refine seq_nil ?_
  go_wp2
  go_end0
  exact ⟨rfl, v1, hm2, ho2, hkk⟩
end Go.Proofs.YtfghmlpjbedomaaGreat
