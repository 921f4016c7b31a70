/- A step of a thread that takes a name: what stays. -/
import Derived.Test.YtlfingcmekifkaaBun7
namespace Go.Proofs.Ytlfingcmekifkaa
open Go.RowKit

theorem SInv.next {n : Nat} {cs : List Cl} {P P' : Ps SM Spl} {vis right down vis' right' down' : Nat → Nat → Nat → Prop} {cur cur' : Nat → Option (Nat × Nat × Nat)} {La Sh La' Sh' : Nat → Nat → Int} (I : SInv n cs P vis right down cur La Sh) {t h : Nat} {m : SM} {e e' : Ep}
    (hm : P.hands t = some (m, h)) (he : P.evs[h]? = some e) (hs : isTk cs e) (hT : tkT cs e = t) (hW : PWf cs P') (hlen : P'.lw.mem.words.length = 2 * tri n) (hft : P'.lw.mem.ft = 0) (hG : Grid n vis' right' down' cur' La' Sh')
    (memL : ∀ r c, r + c < n → P'.lw.mem.at (2 * nameN r c : Nat) = La' r c) (memS : ∀ r c, r + c < n → P'.lw.mem.at ((2 * nameN r c : Nat) + 1) = Sh' r c) (oC : ∀ s, s ≠ t → cur' s = cur s) (hC : cur' t ≠ none)
    (hands : ∀ s, s ≠ t → P'.hands s = P.hands s) (hevs : ∀ (k : Nat) (x : Ep), P'.evs[k]? = some x → (k ≠ h ∧ P.evs[k]? = some x) ∨ (k = h ∧ x = e')) (hevo : ∀ (k : Nat) (x : Ep), k ≠ h → P.evs[k]? = some x → P'.evs[k]? = some x) (hevh : P'.evs[h]? = some e')
    (hec : e'.call = e.call) (hee : e'.ans.err = 0)
    (hcase : (∃ pc r c : Nat, P'.hands t = some (.take t pc r c, h) ∧ pc ≤ 3 ∧ cur' t = some (r, c, pc) ∧ P'.obj.has = P.obj.has ∧ P.obj.has t = false ∧ e'.resp = 0 ∧ e'.steps ≤ 4 * ((r + c : Nat) : Int) + pc) ∨
      (∃ r c : Nat, P'.hands t = none ∧ cur' t = some (r, c, 4) ∧ P'.obj.has = upd P.obj.has t true ∧ e'.resp ≠ 0 ∧ e'.ans.val = (nameN r c : Nat) ∧ e'.steps ≤ 4 * ((r + c : Nat) : Int) + 4)) : SInv n cs P' vis' right' down' cur' La' Sh' := by
  have hs' : isTk cs e' := by
    unfold isTk
    rw [hec]
    exact ⟨hs.1, hs.2.1, hee⟩
  have hT' : tkT cs e' = t := by
    unfold tkT
    rw [hec]
    exact hT
  have hne : ∀ (k : Nat) (x : Ep), k ≠ h → P.evs[k]? = some x → isTk cs x → tkT cs x ≠ t := by
    intro k x hk hx hxs htt
    exact hk (I.uniq k h x e hx he hxs hs (htt.trans hT.symm))
  have hno : ∀ s, cur' s = none → cur s = none := by
    intro s h'
    by_cases e : s = t
    · subst e
      exact absurd h' hC
    · rw [← oC s e]
      exact h'
  have hhas : ∀ s, s ≠ t → P'.obj.has s = P.obj.has s := by
    intro s hst
    rcases hcase with ⟨_, _, _, _, _, _, h1, _⟩ | ⟨_, _, _, _, h1, _⟩
    · rw [h1]
    · rw [h1, upd_other hst]
  refine ⟨hW, hG, hlen, hft, memL, memS, fun s m' k hk => ?_, fun s r c pc hc => ?_, fun s hh => ?_, fun k x hx hr hxs => ?_, fun k x hx hxs => ?_, fun k x hx h1 h2 => ?_, fun k k' x x' hx hx' hxs hxs' htt => ?_, fun s hc => ?_⟩
  · by_cases hst : s = t
    · subst hst
      rcases hcase with ⟨pc, r, c, h1, h2, h3, _, _, _, h4⟩ | ⟨r, c, h1, _⟩
      · rw [h1] at hk
        cases hk
        exact ⟨pc, r, c, e', rfl, h2, h3, hevh, hs', h4⟩
      · rw [h1] at hk
        cases hk
    · rw [hands s hst] at hk
      obtain ⟨pc, r, c, x, a1, a2, a3, a4, a5⟩ := I.mach s m' k hk
      refine ⟨pc, r, c, x, a1, a2, by rw [oC s hst]; exact a3, hevo k x ?_ a4, a5⟩
      rintro rfl
      obtain ⟨y, hy, _, hy2, _⟩ := I.wf.hand s m' k hk
      rw [he] at hy
      cases hy
      unfold tkT at hT
      omega
  · by_cases hst : s = t
    · subst hst
      rcases hcase with ⟨pc', r', c', h1, h2, h3, _⟩ | ⟨r', c', h1, h2, h3, _⟩
      · rw [h3] at hc
        cases hc
        exact ⟨fun _ => ⟨_, _, h1⟩, fun h => by omega⟩
      · rw [h2] at hc
        cases hc
        exact ⟨fun h => by omega, fun _ => by rw [h3, upd_same]⟩
    · rw [oC s hst] at hc
      rw [hands s hst, hhas s hst]
      exact I.held s r c pc hc
  · by_cases hst : s = t
    · subst hst
      rcases hcase with ⟨pc', r', c', h1, h2, h3, h4, h5, _⟩ | ⟨r', c', h1, h2, h3, _⟩
      · rw [h4, h5] at hh
        cases hh
      · exact ⟨r', c', h2⟩
    · rw [hhas s hst] at hh
      rw [oC s hst]
      exact I.has s hh
  · rcases hevs k x hx with ⟨hk, hx⟩ | ⟨rfl, rfl⟩
    · rw [oC _ (hne k x hk hx hxs)]
      exact I.done k x hx hr hxs
    · rcases hcase with ⟨_, _, _, _, _, _, _, _, h1, _⟩ | ⟨r', c', _, h2, _, _, h3, h4⟩
      · exact absurd h1 hr
      · rw [hT']
        exact ⟨r', c', h2, h3, h4⟩
  · rcases hevs k x hx with ⟨hk, hx⟩ | ⟨rfl, rfl⟩
    · exact I.ref k x hx hxs
    · exact absurd hs' hxs
  · intro hc
    rcases hevs k x hx with ⟨hk, hx⟩ | ⟨rfl, rfl⟩
    · exact I.came k x hx h1 h2 (hno _ hc)
    · rw [hT'] at hc
      exact hC hc
  · rcases hevs k x hx with ⟨_, hx⟩ | ⟨rfl, rfl⟩
    · rcases hevs k' x' hx' with ⟨_, hx'⟩ | ⟨rfl, rfl⟩
      · exact I.uniq k k' x x' hx hx' hxs hxs' htt
      · exact I.uniq k k' x e hx he hxs hs (htt.trans (hT'.trans hT.symm))
    · rcases hevs k' x' hx' with ⟨_, hx'⟩ | ⟨rfl, rfl⟩
      · exact I.uniq k k' e x' he hx' hs hxs' ((hT.trans hT'.symm).trans htt)
      · rfl
  · by_cases hst : s = t
    · subst hst
      exact ⟨h, e', hevh, hs', hT'⟩
    · rw [oC s hst] at hc
      obtain ⟨k, x, a1, a2, a3⟩ := I.begun s hc
      refine ⟨k, x, hevo k x ?_ a1, a2, a3⟩
      rintro rfl
      rw [he] at a1
      cases a1
      exact hst (a3.symm.trans hT)
end Go.Proofs.Ytlfingcmekifkaa
