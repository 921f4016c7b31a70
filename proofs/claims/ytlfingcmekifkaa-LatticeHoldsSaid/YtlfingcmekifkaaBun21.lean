/- A lattice (package lattice): a giver's step while it updates. -/
/- A lattice's scans (package snap): where a record lies (record). -/
/- A lattice's scans (package snap): a writer starts (Snap.Start). -/
import Derived.Test.YtlfingcmekifkaaBun20
import Derived.Test.YtlfingcmekifkaaLw1
import Derived.Test.YtlfingcmekifkaaBun16
import Derived.Test.YtlfingcmekifkaaBun7
namespace Go.Proofs.Ytlfingcmekifkaa
open Go.RowKit

section
variable {pe ps n p : Nat} {w : World} {Fo Fm Mu : Nat → Prop} {ad : Adr} {v : Value} {o : Lat} {lw : Lw} {N : Int} {hs : Nat → Option LM} {t : Nat}
theorem latStepUp {t' : Nat} {vv : Int} {r : Nat} {s : Sc} {sc : Bool} {next : Nat} (hG : LGood n p N o lw hs) (hw : lw.now = N + 1) (hO : LaOB pe ps w Fo o) (hm : latML pe ps w Fm v (.upd t' vv r s sc next)) (hW : WL w ad Mu lw) (hh : hs t = some (.upd t' vv r s sc next)) (ht : t < 16) (c1 : ∀ k, Fo k → ¬ Fm k ∧ ¬ ad.four k) (c2 : ∀ k, Fm k → ¬ ad.four k) (c3 : ∀ k, Fo k ∨ Fm k ∨ ad.four k → Mu k) (c5 : ∀ k, Mu k → k < w.heap.size) :
    ∃ f r', Disp Try.prog v "Step" f r' ∧ Calls Try.prog f #[r', .pointer (some ⟨ad.pw, 0, none⟩)] w (latStepQ pe ps w Fo Fm ad Mu v (latStep o lw (.upd t' vv r s sc next))) := by
  have hFl := latML_lt hm
  obtain ⟨bg, bu, bs, lv, rfl, ⟨hg, hu, hsc, g1, g2, g3, g4, g5⟩, hF⟩ := hm
  obtain ⟨htn, rfl, hus, hr, hr5, hcase⟩ := hG.updA hh
  obtain ⟨k1, k2, k3⟩ := hG.mok t' _ hh
  have hon := hG.on
  have hn16 := hG.np.1.2
  have nf := La.nf hO c1 c2
  have qg := nf bg ((hF bg).2 (Or.inl rfl))
  have qu := nf bu ((hF bu).2 (Or.inr (Or.inl rfl)))
  have qs := nf bs ((hF bs).2 (Or.inr (Or.inr (Or.inl rfl))))
  have hS := hO.scS hW hon.1 hn16 hsc ((hF bs).2 (Or.inr (Or.inr (Or.inl rfl)))) (fun k hk => (hF k).2 (Or.inr (Or.inr (Or.inr hk)))) c1 c2 c3
  have zg := heap_lt hg
  have zs := hsc.lt
  refine ⟨_, _, gvDispStep bg, ?_⟩
  have fin : ∀ {e : Ending} {w' : World} {nx : Nat} {m' : Mm}, UwQ w bu bs t' r nx vv ad m' e w' → latStepQ pe ps w Fo Fm ad Mu (gvV bg) (o, { lw with mem := m' }, .upd t' vv r s true nx, false) e w' := by
    intro e w' nx m' h
    obtain ⟨rfl, b1, b2, b3⟩ := h
    have hgb := (b3.block bg ⟨zg, g1, qg.2.1, qg.2.2.1⟩).trans hg
    have hkk : Keep (fun k => k < w.heap.size ∧ ¬ Fm k ∧ k ≠ ad.pm ∧ k ≠ ad.px) w w' := b3.mono (fun k hk => ⟨hk.1, fun e => hk.2.1 ((hF k).2 (Or.inr (Or.inl e))), hk.2.2⟩)
    have hsc' := hsc.keep b3 ⟨zs, Ne.symm g3, qs.2.1, qs.2.2.1⟩ (fun k hk => by
      have q := nf k ((hF k).2 (Or.inr (Or.inr (Or.inr hk))))
      exact ⟨(hsc.lst.lt k hk).2, fun e => g5 (e ▸ hk), q.2.1, q.2.2.1⟩)
    exact lat_after (Fm' := Fm) hO hW hFl c1 c2 c3 rfl ⟨bg, bu, bs, lv, rfl, ⟨hgb, b2, hsc', g1, g2, g3, g4, g5⟩, hF⟩ (fun h => by cases h) b1 (fun k hk => Or.inl hk) hkk
  rcases hcase with ⟨rfl, hpc, rfl⟩ | ⟨rfl, hpc, hnx, hll⟩
  · have hB := hG.upd0 hw hh
    have hlw := sc_lw n lw s
    show Calls Try.prog _ _ w (latStepQ pe ps w Fo Fm ad Mu (gvV bg) (o, (s.step o.n lw).2, .upd t' vv r (s.step o.n lw).1 (decide ((s.step o.n lw).1.pc = 3)) 0, false))
    rw [hon.1]
    refine (gvStepF hg (upDispStep bu) (upStep0 hS hB hu ⟨g3, qu.2.1, qu.2.2.1, g5⟩) (fun e w' h => h.1)).mono fun e w' h => ?_
    obtain ⟨rfl, ⟨lv', a1, a2⟩, a3, a4, a5⟩ := h
    have hgb := (a5.block bg ⟨zg, g1, g2, g4, qg.2.1, qg.2.2.1⟩).trans hg
    have hkk : Keep (fun k => k < w.heap.size ∧ ¬ Fm k ∧ k ≠ ad.pm ∧ k ≠ ad.px) w w' := a5.mono (fun k hk => ⟨hk.1, fun e => hk.2.1 ((hF k).2 (Or.inr (Or.inl e))), fun e => hk.2.1 ((hF k).2 (Or.inr (Or.inr (Or.inl e)))), fun e => hk.2.1 ((hF k).2 (Or.inr (Or.inr (Or.inr e)))), hk.2.2⟩)
    have zu := heap_lt hu
    rw [hlw]
    refine lat_after (Fm' := fun k => k = bg ∨ k = bu ∨ k = bs ∨ lv'.ownBlock = some k) hO hW hFl c1 c2 c3 rfl ⟨bg, bu, bs, lv', rfl, ⟨hgb, a4, a1, g1, g2, g3, fun e => ?_, fun e => ?_⟩, fun k => Iff.rfl⟩ (fun h => by cases h) a3 (fun k hk => ?_) hkk
    · rcases a2 _ e with h | h
      · exact g4 h
      · omega
    · rcases a2 _ e with h | h
      · exact g5 h
      · omega
    · rcases hk with h | h | h | h
      · exact Or.inl ((hF k).2 (Or.inl h))
      · exact Or.inl ((hF k).2 (Or.inr (Or.inl h)))
      · exact Or.inl ((hF k).2 (Or.inr (Or.inr (Or.inl h))))
      · rcases a2 k h with h | h
        · exact Or.inl ((hF k).2 (Or.inr (Or.inr (Or.inr h))))
        · exact Or.inr h
  · unfold latStep
    dsimp only
    by_cases h0 : next = 0
    · rw [if_pos h0]
      exact (gvStepF hg (upDispStep bu) (upStep1 hW h0 hu ⟨qu.1, qu.2.1, qu.2.2.1⟩) (fun e w' h => h.1)).mono fun e w' h => fin h
    · rw [if_neg h0]
      by_cases h1 : next ≤ n
      · rw [if_pos (by rw [hon.1]; exact h1)]
        obtain ⟨x, hx⟩ : ∃ x, s.list[next - 1]? = some x := ⟨_, List.getElem?_eq_getElem (by omega)⟩
        rw [hx]
        exact (gvStepF hg (upDispStep bu) (upStep2 (a := next) (k := next - 1) hS hu ⟨g3, qu.1, qu.2.1, qu.2.2.1, g5, qu.2.2.2.2.2⟩ (by omega) h1 hx (by omega) hr5) (fun e w' h => h.1)).mono fun e w' h => fin h
      · rw [if_neg (by rw [hon.1]; exact h1)]
        obtain ⟨e1, e2, ⟨f, hf, f0, f1⟩, g, hgg, y0, y1, y2, y3⟩ := hO
        have hO : LaOB pe ps w Fo o := ⟨e1, e2, ⟨f, hf, f0, f1⟩, g, hgg, y0, y1, y2, y3⟩
        obtain ⟨mp, hmp, hms⟩ := hW.notes
        obtain ⟨fw, w1, w2, w3, w4, w5⟩ := hW.cells
        have h34 : w.cell? ⟨ad.pw, 34, none⟩ = some (.map (some ad.pt)) := by rw [w1.cell (by omega), w4]
        obtain ⟨fs, s1, s2⟩ := hsc.row
        have b0 : w.cell? ⟨bs, 0, none⟩ = some (.pointer (some ⟨ps, 0, none⟩)) := by rw [s1.cell (by omega), s2.p]
        have b55 : w.cell? ⟨bs, 55, none⟩ = some (.int .i64 s.moment) := by rw [s1.cell (by omega), s2.moment]
        have n4 : ∀ k, Fo k → k ≠ ad.pw ∧ k ≠ ad.pm ∧ k ≠ ad.px ∧ k ≠ ad.pt := fun k hk => ⟨fun e => (c1 k hk).2 (Or.inl e), fun e => (c1 k hk).2 (Or.inr (Or.inl e)), fun e => (c1 k hk).2 (Or.inr (Or.inr (Or.inl e))), fun e => (c1 k hk).2 (Or.inr (Or.inr (Or.inr e)))⟩
        have hFe := (e1 pe).2 (Or.inl rfl)
        have hFs := (e1 ps).2 (Or.inr rfl)
        have qe := n4 pe hFe
        have qp := n4 ps hFs
        have NU := upStep3 hW hu h34 hmp hgg y0 (by rw [y1, hon.1]) (y3 t' ht) b0 b55 zs ⟨g3, qu.1, qu.2.1, qu.2.2.1, qu.2.2.2.1, qu.2.2.2.2.2⟩ ⟨qs.2.1, qs.2.2.1, qs.2.2.2.1, qs.2.2.2.2.2⟩ ⟨qp.2.1, qp.2.2.1, qp.2.2.2, qp.1⟩ (by omega) (by omega) ht (by have := hG.np.2.2; omega) hr5
        refine (gvStepU hg NU hf f0 ht ⟨g1, qg.2.2.2.2.1, qg.2.2.2.2.2, qg.2.2.2.1, qg.2.1, qg.2.2.1⟩ ⟨Ne.symm qu.2.2.2.2.1, e2, qe.2.2.2, qe.2.1, qe.2.2.1⟩).mono fun e w' h => ?_
        obtain ⟨rfl, ⟨bt, br, bs', v', ⟨z1, z2, z3⟩, a1, a2, a3, a4⟩, a5, a6, a7, a8⟩ := h
        have hlt := hW.lt
        have hwn := hW.ne
        have F4 : ∀ k, ad.four k → ¬ Fo k ∧ ¬ Fm k := fun k hk => ⟨fun h => (c1 k h).2 hk, fun h => c2 k h hk⟩
        have hkS : Keep (fun k => k < w.heap.size ∧ ¬ Fo k ∧ ¬ Fm k ∧ k ≠ ad.pt ∧ k ≠ ad.pm ∧ k ≠ ad.px) w w' := a8.mono (fun k hk => ⟨hk.1, fun e => hk.2.2.1 ((hF k).2 (Or.inl e)), fun e => hk.2.2.1 ((hF k).2 (Or.inr (Or.inl e))), fun e => hk.2.1 ((e1 k).2 (Or.inl e)), fun e => hk.2.1 ((e1 k).2 (Or.inr e)), hk.2.2.2⟩)
        have hMk : ∀ k, k < w.heap.size → ((Mu k ∧ ¬ Fo k ∧ ¬ Fm k) ∨ Fo k ∨ (k = bg ∨ TlF bt br bs' (.slice none 0 0) k)) → Mu k := fun k hk hm => by
          rcases hm with hm | hm | hm | hm
          · exact hm.1
          · exact c3 k (Or.inl hm)
          · exact c3 k (Or.inr (Or.inl ((hF k).2 (Or.inl hm))))
          · rcases hm with h | h | h | h
            · omega
            · omega
            · omega
            · cases h
        have hSk : ∀ k, k < w.heap.size → ¬ Mu k → (k < w.heap.size ∧ ¬ Fo k ∧ ¬ Fm k ∧ k ≠ ad.pt ∧ k ≠ ad.pm ∧ k ≠ ad.px) := fun k h1 h2 => ⟨h1, fun h => h2 (c3 k (Or.inl h)), fun h => h2 (c3 k (Or.inr (Or.inl h))), fun h => h2 (c3 k (Or.inr (Or.inr (Or.inr (Or.inr (Or.inr h)))))), fun h => h2 (c3 k (Or.inr (Or.inr (Or.inr (Or.inl h))))), fun h => h2 (c3 k (Or.inr (Or.inr (Or.inr (Or.inr (Or.inl h))))))⟩
        refine ⟨Fo, fun k => k = bg ∨ TlF bt br bs' (.slice none 0 0) k, rfl, ⟨e1, e2, ⟨_, a6, ?_, fun s hs => ?_⟩, _, a7, ?_, ?_, ?_, fun s hs => ?_⟩, ⟨bg, bt, br, bs', .slice none 0 0, rfl, a1, fun k => Iff.rfl⟩, fun h => (by cases h), ⟨a5, ⟨fw, rowIs_keep w1 hkS ⟨hlt.1, (F4 _ (Or.inl rfl)).1, (F4 _ (Or.inl rfl)).2, hwn.2.2.1, hwn.1, hwn.2.1⟩, w2, w3, w4, fun s hs => ⟨(w5 s hs).1, (w5 s hs).2.keep hkS hSk hMk⟩⟩, _, a2, fun a => ?_⟩, fun k hk => ?_, fun k hk hm => ?_, hkS.mono (fun k hk => ⟨hk.1, hk.2.1, hk.2.2.1, fun e => hk.2.2.2 (Or.inr (Or.inr (Or.inr e))), fun e => hk.2.2.2 (Or.inr (Or.inl e)), fun e => hk.2.2.2 (Or.inr (Or.inr (Or.inl e)))⟩)⟩
        · show (if 0 = 1 + t' then _ else f 0) = _
          rw [if_neg (by omega)]; exact f0
        · show (if 1 + s = 1 + t' then _ else f (1 + s)) = Value.int .u64 (upd o.own t' vv s)
          by_cases e : s = t'
          · subst e
            rw [if_pos rfl, upd_same]
          · rw [if_neg (by omega), upd_other e]
            exact f1 s hs
        · show (if 0 = 3 + t' then _ else g 0) = _
          rw [if_neg (by omega)]; exact y0
        · show (if 1 = 3 + t' then _ else g 1) = _
          rw [if_neg (by omega)]; exact y1
        · show (if 2 = 3 + t' then _ else g 2) = _
          rw [if_neg (by omega)]; exact y2
        · show (if 3 + s = 3 + t' then _ else g (3 + s)) = Value.int .i64 ((upd o.used t' (o.used t' + 1) s : Nat) : Int)
          by_cases e : s = t'
          · subst e
            rw [if_pos rfl, upd_same]
            push_cast
            rfl
          · rw [if_neg (by omega), upd_other e]
            exact y3 s hs
        · by_cases e : a = (r : Int)
          · subst e
            refine Or.inr ⟨v', by simp, ?_⟩
            show KeyIs w' _ v' (if (r : Int) = (r : Int) then [s.moment] else lw.traces r)
            rw [if_pos rfl]
            obtain ⟨A, c, rfl⟩ := own_slice a3
            refine ⟨A, c, rfl, ?_, sl_of_owns (kk := .i64) a3 (by unfold maxLen; simp), fun a ha => ?_⟩
            · constructor
              · intro h
                subst h
                rcases a3.2 with ⟨h, _⟩ | ⟨_, _, _, h, _⟩
                · cases h
                · cases h
              · intro h
                cases h
            · subst ha
              have hl := a3.lt a.block rfl
              have hq := a4 a.block rfl
              have hl1 : w.heap.size ≤ a.block := hl.1
              refine ⟨fun hm => ?_, hl.2⟩
              rcases hm with hm | hm | hm | hm
              · have := c5 _ hm.1; omega
              · have := hO.lt _ hm; omega
              · omega
              · rcases hm with h | h | h | h
                · exact hq.1 h
                · exact hq.2.1 h
                · exact hq.2.2 h
                · cases h
          · have e1' : (if a = (r : Int) then some v' else mp a) = mp a := if_neg e
            show (_ ∧ (if a = (r : Int) then [s.moment] else lw.traces a) = []) ∨ ∃ v, _ ∧ KeyIs w' _ v (if a = (r : Int) then [s.moment] else lw.traces a)
            rw [if_neg e, if_neg e]
            rcases hms a with h | ⟨x, h1, h2⟩
            · exact Or.inl h
            · exact Or.inr ⟨x, h1, h2.keep hkS hSk hMk⟩
        · rcases hk with hk | hk | hk
          · exact Or.inl hk
          · exact Or.inr (Or.inl ((hF k).2 (Or.inl hk)))
          · rcases hk with h | h | h | h
            · exact Or.inr (Or.inr (h ▸ z1))
            · exact Or.inr (Or.inr (h ▸ z2))
            · exact Or.inr (Or.inr (h ▸ z3))
            · cases h
        · have := hO.lt k hk
          rcases hm with hm | hm
          · exact (c1 k hk).1 ((hF k).2 (Or.inl hm))
          · rcases hm with h | h | h | h
            · omega
            · omega
            · omega
            · cases h
end
end Go.Proofs.Ytlfingcmekifkaa

namespace Go.Proofs.Ytlfingcmekifkaa
open Go.RowKit

set_option maxRecDepth 100000 in
set_option maxHeartbeats 2000000 in
theorem snRecord (ps n p t u : Nat) (w : World) (h0 : w.cell? ⟨ps, 0, none⟩ = some (.int .i64 0)) (h1 : w.cell? ⟨ps, 1, none⟩ = some (.int .i64 (n : Int))) (h2 : w.cell? ⟨ps, 2, none⟩ = some (.int .i64 (p : Int))) (hn : n ≤ 16) (hp : p ≤ 64) (ht : t < 16) (hu : u ≤ 64) :
    Calls Try.prog 94 #[.pointer (some ⟨ps, 0, none⟩), .int .i64 (t : Int), .int .i64 (u : Int)] w fun e w' => e = .returned (.int .i64 ((n : Int) + ((t : Int) * (p : Int) + (u : Int)) * ((n : Int) + 1))) ∧ w' = w.drew := by
  have b1 : (t : Int) * (p : Int) ≤ 16 * 64 := by
    have : t * p ≤ 16 * 64 := Nat.mul_le_mul (by omega) hp
    exact_mod_cast this
  have b2 : 0 ≤ (t : Int) * (p : Int) := by
    have : 0 ≤ t * p := Nat.zero_le _
    exact_mod_cast this
  obtain ⟨Q, hQ⟩ : ∃ Q : Int, (t : Int) * (p : Int) = Q := ⟨_, rfl⟩
  rw [hQ] at b1 b2 ⊢
  have b3 : (Q + (u : Int)) * ((n : Int) + 1) ≤ 1088 * 17 := Int.mul_le_mul (by omega) (by omega) (by omega) (by omega)
  have b4 : 0 ≤ (Q + (u : Int)) * ((n : Int) + 1) := Int.mul_nonneg (by omega) (by omega)
  obtain ⟨Z, hZ⟩ : ∃ Z : Int, (Q + (u : Int)) * ((n : Int) + 1) = Z := ⟨_, rfl⟩
  rw [hZ] at b3 b4 ⊢
  have k1 : IntKind.i64.wrap ((t : Int) * (p : Int)) = Q := by rw [hQ]; exact wrap_i64 (by omega) (by omega)
  have k2 : IntKind.i64.wrap (Q + (u : Int)) = Q + (u : Int) := wrap_i64 (by omega) (by omega)
  have k3 : IntKind.i64.wrap ((n : Int) + 1) = (n : Int) + 1 := wrap_i64 (by omega) (by omega)
  have k4 : IntKind.i64.wrap ((Q + (u : Int)) * ((n : Int) + 1)) = Z := by rw [hZ]; exact wrap_i64 (by omega) (by omega)
  have k5 : IntKind.i64.wrap ((n : Int) + Z) = (n : Int) + Z := wrap_i64 (by omega) (by omega)
  have k6 : IntKind.i64.wrap (n : Int) = (n : Int) := wrap_i64 (by omega) (by omega)
  clear hQ hZ
  go_enter Try.func94, Try.ntmps94
  go_upto_region 1 with fail
  refine wp_region_seq (fun Y => Y.cell? ⟨ps, 0, none⟩ = some (.int .i64 0) ∧ Y.cell? ⟨ps, 1, none⟩ = some (.int .i64 (n : Int)) ∧ Y.cell? ⟨ps, 2, none⟩ = some (.int .i64 (p : Int))) (.take 0 <| .take 1 <| .take 2 <| .take 3 <| .take 4 <| .take 5 <| .take 6 <| .take 7 <| .take 8 <| .take 9 <| .take 10 <| .take 11 <| .take 12 <| .take 13 <| .take 14 <| .take 15 <| .take 16 <| .take 17 <| .take 18 <| .take 19 <| .take 20 <| .take 21 <| .take 22 <| .take 23 <| .take 24 <| .done) (by kernel_rfl) (by kernel_rfl) (by kernel_rfl) (by exact ⟨h0, h1, h2⟩) ?_
  iterate 25 (refine seq_take (v := ?_) rfl (by rfl) ?_ ?_; rotate_left; (focus (intro wS hS; obtain ⟨s0, s1, s2⟩ := hS; go_simp; exact rfl)); simp only [Act.put, List.setIfInBounds_toArray, List.set_cons_zero, List.set_cons_succ])
  refine seq_nil ?_
  go_wp2
  go_ret
  exact ⟨rfl, rfl⟩
end Go.Proofs.Ytlfingcmekifkaa

namespace Go.Proofs.Ytlfingcmekifkaa
open Go.RowKit

set_option maxRecDepth 100000 in
set_option maxHeartbeats 2000000 in
theorem snStartW {ps pw : Nat} {w : World} {t u p n : Nat} {c : Cl} (hk : c.kind = 0) (ht : t < 16) (h0 : w.cell? ⟨ps, 0, none⟩ = some (.int .i64 0)) (h1 : w.cell? ⟨ps, 1, none⟩ = some (.int .i64 (n : Int))) (hu : w.cell? ⟨ps, 3 + t, none⟩ = some (.int .i64 (u : Int))) (hp : w.cell? ⟨ps, 2, none⟩ = some (.int .i64 (p : Int))) (hpu : u < p) (hp64 : p ≤ 64) (hn : n ≤ 16) (hz : ps < w.heap.size) :
    Calls Try.prog 95 #[.pointer (some ⟨ps, 0, none⟩), .pointer (some ⟨pw, 0, none⟩), .int .i64 t, clV c] w fun e w' => e = .returned (.iface 192 (.pointer (some ⟨w.heap.size + 2, 0, none⟩))) ∧ w' = (((((w.alloc (.cells #[.int .i64 c.thread, .int .i64 c.obj, .int .i64 c.kind, .int .u64 c.a, .int .u64 c.b, .int .u64 c.c] 43)).drew.drew).alloc (.cells (scA56 ps) 199)).drew).alloc (.cells #[.pointer (some ⟨w.heap.size + 1, 0, none⟩), .int .i64 t, .int .i64 ((n : Int) + ((t : Int) * (p : Int) + (u : Int)) * ((n : Int) + 1)), .int .i64 0, .int .u64 c.a, .bool false] 194)) := by
  have d1 : (c.kind == 1) = false := by simp [hk]
  have d0 : (c.kind != 0) = false := by simp [hk]
  have hq : ¬ (p : Int) ≤ (u : Int) := by omega
  have hq' : (u : Int) < (p : Int) := by omega
  have ht' : (t : Int) < 16 := by omega
  have N1 := snNewScan ps ((w.alloc (.cells #[.int .i64 c.thread, .int .i64 c.obj, .int .i64 c.kind, .int .u64 c.a, .int .u64 c.b, .int .u64 c.c] 43)).drew.drew)
  have N2 := snRecord ps n p t u (((w.alloc (.cells #[.int .i64 c.thread, .int .i64 c.obj, .int .i64 c.kind, .int .u64 c.a, .int .u64 c.b, .int .u64 c.c] 43)).drew.drew).alloc (.cells (scA56 ps) 199)) (by go_simp) (by go_simp) (by go_simp) hn hp64 ht (by omega)
  unfold clV
  clear hk
  go_enter Try.func95, Try.ntmps95
  go_upto_region 5 with fail
  refine wp_region_seq (fun Y => Y.cell? ⟨ps, 3 + t, none⟩ = some (.int .i64 (u : Int)) ∧ Y.cell? ⟨ps, 2, none⟩ = some (.int .i64 (p : Int))) (.take 0 <| .take 1 <| .take 2 <| .take 3 <| .take 4 <| .take 5 <| .take 6 <| .take 7 <| .take 8 <| .take 9 <| .take 10 <| .take 11 <| .done) (by kernel_rfl) (by kernel_rfl) (by kernel_rfl) (by refine ⟨?_, ?_⟩ <;> go_simp) ?_
  iterate 12 (refine seq_take (v := ?_) rfl (by rfl) ?_ ?_; rotate_left; (focus (intro wS hS; obtain ⟨s0, s1⟩ := hS; go_simp; exact rfl)); simp only [Act.put, List.setIfInBounds_toArray, List.set_cons_zero, List.set_cons_succ])
  refine seq_nil ?_
  go_upto_region 7 with fail
  refine wp_region_seq (fun Y => Y.cell? ⟨ps, 3 + t, none⟩ = some (.int .i64 (u : Int)) ∧ Y.cell? ⟨w.heap.size, 3, none⟩ = some (.int .u64 c.a)) (.take 0 <| .take 2 <| .take 3 <| .take 4 <| .take 5 <| .take 6 <| .take 7 <| .take 8 <| .take 9 <| .take 10 <| .take 12 <| .take 13 <| .run 1 <| .run 11 <| .take 14 <| .run 15 <| .run 16 <| .take 17 <| .done) (by kernel_rfl) (by kernel_rfl) (by kernel_rfl) (by refine ⟨?_, ?_⟩ <;> go_simp) ?_
  iterate 12 (refine seq_take (v := ?_) rfl (by rfl) ?_ ?_; rotate_left; (focus (intro wS hS; obtain ⟨s0, s1⟩ := hS; go_simp; exact rfl)); simp only [Act.put, List.setIfInBounds_toArray, List.set_cons_zero, List.set_cons_succ])
  (refine seq_run rfl (by rfl) (fun K hK => ?_); go_simp)
  refine N1.mono ?_
  rintro e w1 ⟨rfl, rfl⟩
  refine hK _ _ ?_ ?_
  · refine ⟨?_, ?_⟩ <;> first | (go_simp; done) | exact Lib.cell?_alloc_some _ (Lib.cell?_alloc_some _ (Lib.cell?_alloc_some _ hu))
  clear hK K
  (refine seq_run rfl (by rfl) (fun K hK => ?_); go_simp)
  refine N2.mono ?_
  rintro e w1 ⟨rfl, rfl⟩
  refine hK _ _ ?_ ?_
  · refine ⟨?_, ?_⟩ <;> first | (go_simp; done) | exact Lib.cell?_alloc_some _ (Lib.cell?_alloc_some _ (Lib.cell?_alloc_some _ hu))
  clear hK K
  (refine seq_take (v := ?_) rfl (by rfl) ?_ ?_; rotate_left; (focus (intro wS hS; obtain ⟨s0, s1⟩ := hS; go_simp; exact rfl)); simp only [Act.put, List.setIfInBounds_toArray, List.set_cons_zero, List.set_cons_succ])
  (refine seq_run rfl (by rfl) (fun K hK => ?_); go_simp)
  refine hK _ _ ?_ ?_
  · refine ⟨?_, ?_⟩ <;> first | (go_simp; done) | exact Lib.cell?_alloc_some _ (Lib.cell?_alloc_some _ (Lib.cell?_alloc_some _ hu))
  clear hK K
  (refine seq_run rfl (by rfl) (fun K hK => ?_); go_simp)
  refine hK _ _ ?_ ?_
  · refine ⟨?_, ?_⟩ <;> first | (go_simp; done) | exact Lib.cell?_alloc_some _ (Lib.cell?_alloc_some _ (Lib.cell?_alloc_some _ hu))
  clear hK K
  (refine seq_take (v := ?_) rfl (by rfl) ?_ ?_; rotate_left; (focus (intro wS hS; obtain ⟨s0, s1⟩ := hS; go_simp; exact rfl)); simp only [Act.put, List.setIfInBounds_toArray, List.set_cons_zero, List.set_cons_succ])
  refine seq_nil ?_
  go_wp2
  go_ret
  exact ⟨by simp, rfl⟩
end Go.Proofs.Ytlfingcmekifkaa
