import Derived.Test.YtlfingcmekifkaaGreatBun19
import Derived.Test.YtlfingcmekifkaaGreatBun4
import Derived.Test.YtlfingcmekifkaaGreatBun17
import Derived.Test.YtlfingcmekifkaaGreatBun8
namespace Go.Proofs.YtlfingcmekifkaaGreat
open Go.RowKit
theorem sim_ends {M O : Type} {G : Gm M O} {D : Dof} {no : Nat} {A : Alike G D no} (hA : A.Ok) (hG : G.Still) (hl : ∀ o lw m, G.late o lw m = none) {n : Nat} (h16 : n ≤ 16) {cs : List Cl} (hcs : ∀ c ∈ cs, (0 ≤ c.thread ∧ c.thread < n) ∧ ClB c) (words : List Int) (o : O) (ho : ∀ t, A.own o t (fun _ => [])) (picks : List Int) :
    ((Ps.new words o cs.length : Ps M O).play G cs picks).ends G = ((Rs.new words cs.length).play D no cs picks).endsK (fun _ t => ((Rs.new words cs.length).play D no cs picks).w.marks t) n ∧ ((Ps.new words o cs.length : Ps M O).play G cs picks).lw.mem = ((Rs.new words cs.length).play D no cs picks).w.mem ∧
      ((Ps.new words o cs.length : Ps M O).play G cs picks).lw.now = ((Rs.new words cs.length).play D no cs picks).w.now ∧ ((Ps.new words o cs.length : Ps M O).play G cs picks).idle = ((Rs.new words cs.length).play D no cs picks).idle := by
  have S := (Sim.new (A := A) cs words o ho).play hA (fun c hc => by obtain ⟨⟨h1, h2⟩, h3⟩ := hcs c hc; exact ⟨h1, by omega, h3⟩) picks
  have W := (wf_play hG (fun c hc => (hcs c hc).1.1) picks (PWf.new words o cs) (CWf.new words o cs)).1
  refine ⟨S.ends hl h16 (fun t ht => ?_), S.rel.1.symm, S.rel.2.1.symm, S.idle.symm⟩
  rcases hh : ((Ps.new words o cs.length : Ps M O).play G cs picks).hands t with _ | ⟨m, h⟩
  · rfl
  · exfalso
    obtain ⟨e, h1, _, h3, _⟩ := W.hand t m h hh
    have h4 := (W.call h e h1).1
    have hC : callOf cs e.call ∈ cs := by
      unfold callOf
      rw [List.getElem?_eq_getElem h4]
      exact List.getElem_mem h4
    have := (hcs _ hC).1
    omega
end Go.Proofs.YtlfingcmekifkaaGreat

namespace Go.Proofs.YtlfingcmekifkaaGreat
open Go.RowKit
section
variable {M O : Type}
structure StLe (G : Gm M O) (J : O → Prop) (K : M → Prop) (f : M → Int) (B : Int) : Prop where
  start : ∀ o t c, J o → J (G.start o t c).1 ∧ K (G.start o t c).2 ∧ 0 ≤ f (G.start o t c).2
  step : ∀ o lw t m, J o → K m → J (G.step o lw t m).1 ∧ f m + 1 ≤ B ∧ ((G.step o lw t m).2.2.2 = false → K (G.step o lw t m).2.2.1 ∧ f m + 1 ≤ f (G.step o lw t m).2.2.1)
structure StInv (J : O → Prop) (K : M → Prop) (f : M → Int) (B : Int) (P : Ps M O) : Prop where
  obj : J P.obj
  evs : ∀ (k : Nat) (e : Ep), P.evs[k]? = some e → e.steps ≤ B
  hand : ∀ t m h, P.hands t = some (m, h) → K m ∧ h < P.evs.length ∧ ∀ e : Ep, P.evs[h]? = some e → e.steps ≤ f m
  uniq : ∀ t s m m' h, P.hands t = some (m, h) → P.hands s = some (m', h) → s = t
variable {G : Gm M O} {J : O → Prop} {K : M → Prop} {f : M → Int} {B : Int}
theorem StInv.step (S : StLe G J K f B) {P : Ps M O} (I : StInv J K f B P) {t i : Nat} {m : M} {h : Nat} (hh : P.hands t = some (m, h)) : StInv J K f B (P.step G t i m h) := by
  obtain ⟨a1, a2, a3⟩ := I.hand t m h hh
  obtain ⟨b1, b2, b3⟩ := S.step P.obj P.lw t m I.obj a1
  unfold Ps.step
  by_cases hd : (G.step P.obj P.lw t m).2.2.2 = true
  · rw [if_pos hd]
    refine ⟨b1, fun k e he => ?_, fun s m' h' hs => ?_, fun s s' m' m'' h' hs hs' => ?_⟩
    · rcases mod_get he with ⟨_, h1⟩ | ⟨rfl, d, h1, rfl⟩
      · exact I.evs k e h1
      · have := a3 d h1
        show d.steps + 1 ≤ B
        omega
    · replace hs : upd P.hands t none s = some (m', h') := hs
      by_cases e : s = t
      · rw [e, upd_same] at hs; cases hs
      · rw [upd_other e] at hs
        obtain ⟨c1, c2, c3⟩ := I.hand s m' h' hs
        refine ⟨c1, by simpa using c2, fun x hx => ?_⟩
        rcases mod_get hx with ⟨_, h1⟩ | ⟨rfl, d, h1, rfl⟩
        · exact c3 x h1
        · exact absurd (I.uniq t s m m' h' hh hs) e
    · replace hs : upd P.hands t none s = some (m', h') := hs
      have hs' : upd P.hands t none s' = some (m'', h') := hs'
      by_cases e : s = t
      · rw [e, upd_same] at hs; cases hs
      · by_cases e' : s' = t
        · rw [e', upd_same] at hs'; cases hs'
        · rw [upd_other e] at hs
          rw [upd_other e'] at hs'
          exact I.uniq s s' m' m'' h' hs hs'
  · rw [if_neg hd]
    have hd' : (G.step P.obj P.lw t m).2.2.2 = false := by simpa using hd
    obtain ⟨b4, b5⟩ := b3 hd'
    refine ⟨b1, fun k e he => ?_, fun s m' h' hs => ?_, fun s s' m' m'' h' hs hs' => ?_⟩
    · rcases mod_get he with ⟨_, h1⟩ | ⟨rfl, d, h1, rfl⟩
      · exact I.evs k e h1
      · have := a3 d h1
        show d.steps + 1 ≤ B
        omega
    · replace hs : upd P.hands t (some ((G.step P.obj P.lw t m).2.2.1, h)) s = some (m', h') := hs
      by_cases e : s = t
      · rw [e, upd_same] at hs
        cases hs
        refine ⟨b4, by simpa using a2, fun x hx => ?_⟩
        rcases mod_get hx with ⟨h0, _⟩ | ⟨_, d, h1, rfl⟩
        · exact absurd rfl h0
        · have := a3 d h1
          show d.steps + 1 ≤ _
          omega
      · rw [upd_other e] at hs
        obtain ⟨c1, c2, c3⟩ := I.hand s m' h' hs
        refine ⟨c1, by simpa using c2, fun x hx => ?_⟩
        rcases mod_get hx with ⟨_, h1⟩ | ⟨rfl, d, h1, rfl⟩
        · exact c3 x h1
        · exact absurd (I.uniq t s m m' h' hh hs) e
    · replace hs : upd P.hands t (some ((G.step P.obj P.lw t m).2.2.1, h)) s = some (m', h') := hs
      have hs' : upd P.hands t (some ((G.step P.obj P.lw t m).2.2.1, h)) s' = some (m'', h') := hs'
      by_cases e : s = t
      · rw [e, upd_same] at hs
        cases hs
        by_cases e' : s' = t
        · rw [e, e']
        · rw [upd_other e'] at hs'
          exact absurd (I.uniq t s' m m'' h hh hs') e'
      · rw [upd_other e] at hs
        by_cases e' : s' = t
        · rw [e', upd_same] at hs'
          cases hs'
          exact absurd (I.uniq t s m m' h hh hs) e
        · rw [upd_other e'] at hs'
          exact I.uniq s s' m' m'' h' hs hs'
theorem StInv.start (S : StLe G J K f B) {P : Ps M O} (I : StInv J K f B P) {t i : Nat} {c : Cl} (hB : 0 ≤ B) (_hh : P.hands t = none) : StInv J K f B (P.start G t i c) := by
  obtain ⟨b1, b2, b3⟩ := S.start P.obj t c I.obj
  refine ⟨b1, fun k e he => ?_, fun s m' h' hs => ?_, fun s s' m' m'' h' hs hs' => ?_⟩
  · rcases snoc_get he with ⟨_, h1⟩ | ⟨_, rfl⟩
    · exact I.evs k e h1
    · exact hB
  · have hs : upd P.hands t (some ((G.start P.obj t c).2, P.evs.length)) s = some (m', h') := hs
    by_cases e : s = t
    · rw [e, upd_same] at hs
      cases hs
      refine ⟨b2, by show P.evs.length < (P.evs ++ [_]).length; simp, fun x hx => ?_⟩
      rcases snoc_get hx with ⟨h0, _⟩ | ⟨_, rfl⟩
      · omega
      · exact b3
    · rw [upd_other e] at hs
      obtain ⟨c1, c2, c3⟩ := I.hand s m' h' hs
      refine ⟨c1, by show h' < (P.evs ++ [_]).length; simp; omega, fun x hx => ?_⟩
      rcases snoc_get hx with ⟨_, h1⟩ | ⟨h0, _⟩
      · exact c3 x h1
      · omega
  · have hs : upd P.hands t (some ((G.start P.obj t c).2, P.evs.length)) s = some (m', h') := hs
    have hs' : upd P.hands t (some ((G.start P.obj t c).2, P.evs.length)) s' = some (m'', h') := hs'
    by_cases e : s = t
    · rw [e, upd_same] at hs
      cases hs
      by_cases e' : s' = t
      · rw [e, e']
      · rw [upd_other e'] at hs'
        have := (I.hand s' m'' _ hs').2.1
        omega
    · rw [upd_other e] at hs
      by_cases e' : s' = t
      · rw [e', upd_same] at hs'
        cases hs'
        have := (I.hand s m' _ hs).2.1
        omega
      · rw [upd_other e'] at hs'
        exact I.uniq s s' m' m'' h' hs hs'
theorem StInv.pick (S : StLe G J K f B) {P : Ps M O} (hB : 0 ≤ B) (cs : List Cl) (I : StInv J K f B P) (p : Int) : StInv J K f B (P.pick G cs p) := by
  unfold Ps.pick
  split
  · exact ⟨I.obj, I.evs, I.hand, I.uniq⟩
  · dsimp only
    have I1 : StInv J K f B ({ P with lw := { P.lw with now := P.lw.now + 1 } } : Ps M O) := ⟨I.obj, I.evs, I.hand, I.uniq⟩
    split
    · rename_i hh
      exact I1.step S hh
    · rename_i hh
      refine StInv.step S (StInv.start S I1 hB hh) ?_
      exact upd_same _ _ _
theorem StInv.play (S : StLe G J K f B) (hB : 0 ≤ B) (cs : List Cl) : ∀ (picks : List Int) {P : Ps M O}, StInv J K f B P → StInv J K f B (P.play G cs picks)
  | [], _, I => I
  | p :: l, _, I => StInv.play S hB cs l (I.pick S hB cs p)
theorem StInv.new (words : List Int) (o : O) (ho : J o) (m : Nat) : StInv J K f B (Ps.new words o m : Ps M O) := ⟨ho, fun _ _ h => (by cases h), fun _ _ _ h => (by cases h), fun _ _ _ _ _ h => (by cases h)⟩
theorem steps_le (S : StLe G J K f B) (hB : 0 ≤ B) (cs : List Cl) (words : List Int) (o : O) (ho : J o) (picks : List Int) : ∀ e ∈ ((Ps.new words o cs.length : Ps M O).play G cs picks).ends G, e.steps ≤ B := by
  have I := StInv.play (K := K) (f := f) S hB cs picks (StInv.new words o ho cs.length)
  have key : ∀ (l : List Nat) (evs : List Ep), (∀ (k : Nat) (e : Ep), evs[k]? = some e → e.steps ≤ B) → ∀ (k : Nat) (e : Ep), (l.foldl (fun evs t => match ((Ps.new words o cs.length : Ps M O).play G cs picks).hands t with | none => evs | some (m, h) => evs.modify h fun e => { e with key := match G.late ((Ps.new words o cs.length : Ps M O).play G cs picks).obj ((Ps.new words o cs.length : Ps M O).play G cs picks).lw m with | some k => k | none => ((Ps.new words o cs.length : Ps M O).play G cs picks).lw.marks t }) evs)[k]? = some e → e.steps ≤ B := by
    intro l
    induction l with
    | nil => exact fun evs h => h
    | cons t l ih =>
      intro evs h
      rw [List.foldl_cons]
      refine ih _ ?_
      split
      · exact h
      · intro k e he
        rcases mod_get he with ⟨_, h1⟩ | ⟨_, d, h1, rfl⟩
        · exact h k e h1
        · exact h _ d h1
  intro e he
  obtain ⟨k, hk⟩ := List.getElem?_of_mem he
  exact key _ _ I.evs k e hk
end
end Go.Proofs.YtlfingcmekifkaaGreat

namespace Go.Proofs.YtlfingcmekifkaaGreat
open Go.RowKit
def adK (n : Nat) : AM → Prop
  | .no _ => True
  | .prop _ pc _ seen _ => (pc = 0 ∧ seen = []) ∨ (pc = 1 ∧ seen.length < n) ∨ pc = 2 ∨ (pc = 3 ∧ seen.length < n)
def adF (n : Nat) : AM → Int
  | .no _ => 0
  | .prop _ pc _ seen _ => if pc = 0 then 0 else if pc = 1 then 1 + seen.length else if pc = 2 then n + 1 else n + 2 + seen.length
theorem ad_stle {n : Nat} (hn : 1 ≤ n) : StLe adG (fun o => o.n = n) (adK n) (adF n) (2 * n + 2) := by
  refine ⟨fun o t c ho => ?_, fun o lw t m ho hk => ?_⟩
  · show (adStart o t c).1.n = n ∧ adK n (adStart o t c).2 ∧ 0 ≤ adF n (adStart o t c).2
    unfold adStart
    repeat' split
    all_goals first | exact ⟨ho, trivial, Int.le_refl _⟩ | exact ⟨ho, Or.inl ⟨rfl, rfl⟩, Int.le_refl _⟩
  · show (adStep o lw m).1.n = n ∧ adF n m + 1 ≤ 2 * n + 2 ∧ ((adStep o lw m).2.2.2 = false → adK n (adStep o lw m).2.2.1 ∧ adF n m + 1 ≤ adF n (adStep o lw m).2.2.1)
    cases m with
    | no e => exact ⟨ho, by show (0 : Int) + 1 ≤ _; omega, fun h => by cases h⟩
    | prop t' pc v seen val =>
      rcases hk with ⟨rfl, rfl⟩ | ⟨rfl, hs⟩ | rfl | ⟨rfl, hs⟩
      · exact ⟨ho, by show (0 : Int) + 1 ≤ _; omega, fun _ => ⟨Or.inr (Or.inl ⟨rfl, hn⟩), by show (0 : Int) + 1 ≤ 1 + ((0 : Nat) : Int); omega⟩⟩
      · have hl : ∀ x : Int, (seen ++ [x]).length = seen.length + 1 := fun x => by simp
        have e : adStep o lw (.prop t' 1 v seen val) = (o, { lw with mem := lw.mem.acc 0 (seen.length : Int) 0 0 }, .prop t' (if (seen ++ [lw.mem.tell 0 (seen.length : Int) 0]).length = o.n then 2 else 1) v (seen ++ [lw.mem.tell 0 (seen.length : Int) 0]) val, false) := rfl
        rw [e, hl, ho]
        refine ⟨by first | exact ho | rfl, by show 1 + (seen.length : Int) + 1 ≤ _; omega, fun _ => ?_⟩
        by_cases h : seen.length + 1 = n
        · rw [if_pos h]
          exact ⟨Or.inr (Or.inr (Or.inl rfl)), by show 1 + (seen.length : Int) + 1 ≤ (n : Int) + 1; omega⟩
        · rw [if_neg h]
          refine ⟨Or.inr (Or.inl ⟨rfl, by rw [hl]; omega⟩), ?_⟩
          show 1 + (seen.length : Int) + 1 ≤ 1 + ((seen ++ [_]).length : Int)
          rw [hl]
          omega
      · exact ⟨ho, by show (n : Int) + 1 + 1 ≤ _; omega, fun _ => ⟨Or.inr (Or.inr (Or.inr ⟨rfl, hn⟩)), by show (n : Int) + 1 + 1 ≤ n + 2 + ((0 : Nat) : Int); omega⟩⟩
      · have hl : ∀ x : Int, (seen ++ [x]).length = seen.length + 1 := fun x => by simp
        have e : adStep o lw (.prop t' 3 v seen val) = if (seen ++ [lw.mem.tell 0 ((o.n : Int) + seen.length) 0]).length = o.n then (o, { lw with mem := lw.mem.acc 0 ((o.n : Int) + seen.length) 0 0 }, .prop t' 3 v (seen ++ [lw.mem.tell 0 ((o.n : Int) + seen.length) 0]) (endF v (seen ++ [lw.mem.tell 0 ((o.n : Int) + seen.length) 0])), true) else (o, { lw with mem := lw.mem.acc 0 ((o.n : Int) + seen.length) 0 0 }, .prop t' 3 v (seen ++ [lw.mem.tell 0 ((o.n : Int) + seen.length) 0]) val, false) := rfl
        rw [e, hl, ho]
        have hf : adF n (.prop t' 3 v seen val) = n + 2 + seen.length := rfl
        rw [hf]
        by_cases h : seen.length + 1 = n
        · rw [if_pos h]
          exact ⟨by first | exact ho | rfl, by omega, fun h => by cases h⟩
        · rw [if_neg h]
          refine ⟨by first | exact ho | rfl, by omega, fun _ => ⟨Or.inr (Or.inr (Or.inr ⟨rfl, by rw [hl]; omega⟩)), ?_⟩⟩
          show (n : Int) + 2 + (seen.length : Int) + 1 ≤ n + 2 + ((seen ++ [_]).length : Int)
          rw [hl]
          omega
end Go.Proofs.YtlfingcmekifkaaGreat

namespace Go.Proofs.YtlfingcmekifkaaGreat
open Go.RowKit
theorem aloneF_snoc (v : Int) (l : List Int) (x : Int) : aloneF v (l ++ [x]) = (aloneF v l && decide (x = 0 ∨ x = v)) := by unfold aloneF; simp
theorem firstF_snoc (l : List Int) (x : Int) : firstF (l ++ [x]) = if x = 0 then firstF l else if x % 2 = 0 then firstF l else if firstF l = 0 then x / 2 else firstF l := by unfold firstF; simp
theorem allF_snoc (l : List Int) (x : Int) : allF (l ++ [x]) = (allF l && decide (x = 0 ∨ x % 2 ≠ 0)) := by unfold allF; simp
theorem take_snoc {l : List Int} {k : Nat} {x : Int} (h : l[k]? = some x) : l.take (k + 1) = l.take k ++ [x] := by
  rw [List.take_add_one, h]
  rfl
theorem aloneF_false {v : Int} {l : List Int} {x : Int} (h : x ∈ l) (h0 : x ≠ 0) (hv : x ≠ v) : aloneF v l = false := by
  rw [Bool.eq_false_iff]
  intro ha
  have := List.all_eq_true.1 ha x h
  simp at this
  omega
set_option maxRecDepth 100000 in
theorem adAlone (v : Int) (A : Option Addr) (n c : Nat) (xs : List Int) (w : World) (h : SlW w (.slice A n c) xs) (hn : xs.length = n) (hl : n ≤ 1000) :
    Calls Tryz.prog 201 #[.int .u64 v, .slice A n c] w fun e w' => e = .returned (.bool (aloneF v xs)) ∧ w' = w := by
  have HH := hide h
  have HN := hide hn
  have hl' : (n : Int) ≤ 1000 := by omega
  clear h hn
  go_enter Tryz.func201, Tryz.ntmps201
  go_wp2
  go_loopw [9] (fun i wr => ∃ k : Nat, k ≤ n ∧ i = .int .i64 k ∧ wr = w ∧ Hid (aloneF v (xs.take k) = true)) (fun i _ => n - (intOf i).toNat)
  case atStart => exact ⟨0, Nat.zero_le _, rfl, rfl, hide rfl⟩
  case round =>
    obtain ⟨k, hk, rfl, hW, hA⟩ := hrel
    subst hW
    by_cases hlt : k < n
    · obtain ⟨x, hx⟩ : ∃ x, xs[k]? = some x := ⟨_, List.getElem?_eq_getElem (by rw [HN.out]; exact hlt)⟩
      obtain ⟨A', c', e, g1, g2, g3⟩ := HH.out
      obtain ⟨bb, oo, e', hbb, hc⟩ := g3 k x hx
      rw [HN.out] at e
      cases e
      cases e'
      have c0 := nt_cell hc
      simp only [Nat.mul_one] at c0
      have hkk : (k : Int) < (n : Int) := by omega
      have HX := hide hx
      clear g3 hc g1 g2 hx
      by_cases hb : x ≠ 0 ∧ x ≠ v
      · obtain ⟨h0, h1⟩ := hb
        have hF := aloneF_false (List.mem_of_getElem? HX.out) h0 h1
        have h0 : ¬ x = 0 := h0
        have h1 : ¬ x = v := h1
        have d0 : (x != 0) = true := by simpa using h0
        have d1 : (x != v) = true := by simpa using h1
        go_wp2
        go_ret
        exact ⟨by rw [hF]; rfl, rfl⟩
      · have hF : aloneF v (xs.take (k + 1)) = true := by
          rw [take_snoc HX.out, aloneF_snoc, hA.out]
          simp
          omega
        have HF := hide hF
        clear hF
        by_cases h0 : x = 0
        · subst h0
          clear hb
          go_wp2
          go_roundw
          case rel => exact ⟨k + 1, by omega, by go_num, by trivial, HF⟩
          case measure => first | (simp [intOf]; done) | (simp [intOf]; omega)
        · obtain rfl : x = v := by omega
          have d0 : (x != 0) = true := by simpa using h0
          clear hb h0
          go_wp2
          go_roundw
          case rel => exact ⟨k + 1, by omega, by go_num, by trivial, HF⟩
          case measure => first | (simp [intOf]; done) | (simp [intOf]; omega)
    · obtain rfl : k = n := by omega
      have hF := hA.out
      rw [List.take_of_length_le (by rw [HN.out]; exact Nat.le_refl _)] at hF
      have HF := hide hF
      clear hF
      go_wp2
      go_ret
      exact ⟨by rw [HF.out]; rfl, rfl⟩
set_option maxRecDepth 100000 in
theorem adVerdict (A : Option Addr) (n c : Nat) (xs : List Int) (w : World) (h : SlW w (.slice A n c) xs) (hn : xs.length = n) (hl : n ≤ 1000) (hb : ∀ x ∈ xs, 0 ≤ x ∧ x < 18446744073709551616) :
    Calls Tryz.prog 200 #[.slice A n c] w fun e w' => e = .returned (.tuple #[.int .u64 (firstF xs), .bool (allF xs)]) ∧ w' = w := by
  have HH := hide h
  have HN := hide hn
  have hl' : (n : Int) ≤ 1000 := by omega
  have HB := hide hb
  clear h hn hb
  go_enter Tryz.func200, Tryz.ntmps200
  go_wp2
  go_loopw [10, 4, 5] (fun i f a wr => ∃ k : Nat, k ≤ n ∧ i = .int .i64 k ∧ wr = w ∧ f = .int .u64 (firstF (xs.take k)) ∧ a = .bool (allF (xs.take k))) (fun i _ _ _ => n - (intOf i).toNat)
  case atStart => exact ⟨0, Nat.zero_le _, rfl, rfl, rfl, rfl⟩
  case round =>
    obtain ⟨k, hk, rfl, hW, rfl, rfl⟩ := hrel
    subst hW
    by_cases hlt : k < n
    · obtain ⟨x, hx⟩ : ∃ x, xs[k]? = some x := ⟨_, List.getElem?_eq_getElem (by rw [HN.out]; exact hlt)⟩
      obtain ⟨A', c', e, g1, g2, g3⟩ := HH.out
      obtain ⟨bb, oo, e', hbb, hc⟩ := g3 k x hx
      rw [HN.out] at e
      cases e
      cases e'
      have c0 := nt_cell hc
      simp only [Nat.mul_one] at c0
      have hkk : (k : Int) < (n : Int) := by omega
      obtain ⟨x0, x1⟩ := HB.out x (List.mem_of_getElem? hx)
      have hsn := take_snoc hx
      have HF : firstF (xs.take (k + 1)) = if x = 0 then firstF (xs.take k) else if x % 2 = 0 then firstF (xs.take k) else if firstF (xs.take k) = 0 then x / 2 else firstF (xs.take k) := by rw [hsn, firstF_snoc]
      have HA : allF (xs.take (k + 1)) = (allF (xs.take k) && decide (x = 0 ∨ x % 2 ≠ 0)) := by rw [hsn, allF_snoc]
      have HF := hide HF
      have HA := hide HA
      clear g3 hc g1 g2 hx hsn
      generalize firstF (xs.take k) = f at HF ⊢
      generalize allF (xs.take k) = a at HA ⊢
      by_cases h0 : x = 0
      · subst h0
        go_wp2
        go_roundw
        case rel => exact ⟨k + 1, by omega, by go_num, by trivial, by rw [HF.out]; simp, by rw [HA.out]; simp⟩
        case measure => first | (simp [intOf]; done) | (simp [intOf]; omega)
      · have h0' : ¬ x = 0 := h0
        have hr : Int.tmod x 2 = x % 2 := Int.tmod_eq_emod_of_nonneg x0
        have hq : Int.tdiv x 2 = x / 2 := Int.tdiv_eq_ediv_of_nonneg x0
        by_cases h2 : x % 2 = 0
        · have d2 : (x % 2 == 0) = true := by simpa using h2
          have d0 : (x == 0) = false := by simpa using h0
          go_wp2
          go_roundw
          case rel => exact ⟨k + 1, by omega, by go_num, by trivial, by rw [HF.out, if_neg h0, if_pos h2], by rw [HA.out]; simp [h0, h2]⟩
          case measure => first | (simp [intOf]; done) | (simp [intOf]; omega)
        · have h2' : ¬ x % 2 = 0 := h2
          have d0 : (x == 0) = false := by simpa using h0
          have d2 : (x % 2 == 0) = false := by simpa using h2
          by_cases h3 : f = 0
          · subst h3
            go_wp2
            go_roundw
            case rel => exact ⟨k + 1, by omega, by go_num, by trivial, by rw [HF.out, if_neg h0, if_neg h2, if_pos rfl], by rw [HA.out]; simp [h0, h2]⟩
            case measure => first | (simp [intOf]; done) | (simp [intOf]; omega)
          · have h3' : ¬ f = 0 := h3
            have d3 : (f == 0) = false := by simpa using h3
            go_wp2
            go_roundw
            case rel => exact ⟨k + 1, by omega, by go_num, by trivial, by rw [HF.out, if_neg h0, if_neg h2, if_neg h3], by rw [HA.out]; simp [h0, h2]⟩
            case measure => first | (simp [intOf]; done) | (simp [intOf]; omega)
    · obtain rfl : k = n := by omega
      rw [List.take_of_length_le (by rw [HN.out]; exact Nat.le_refl _)]
      go_wp2
      go_ret2
      exact ⟨rfl, rfl⟩
end Go.Proofs.YtlfingcmekifkaaGreat
