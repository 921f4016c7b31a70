import Derived.Test.YtlfingcmekifkaaGreatBun4
import Derived.Test.YtlfingcmekifkaaGreatLq1
import Derived.Test.YtlfingcmekifkaaGreatBun1
namespace Go.Proofs.YtlfingcmekifkaaGreat
open Go.RowKit
section
variable {M O : Type}
structure StLe (G : Gm M O) (J : O → Prop) (K : M → Prop) (f : M → Int) (B : Int) : Prop where
  start : ∀ o t c, J o → J (G.start o t c).1 ∧ K (G.start o t c).2 ∧ 0 ≤ f (G.start o t c).2
  step : ∀ o lw t m, J o → K m → J (G.step o lw t m).1 ∧ f m + 1 ≤ B ∧ ((G.step o lw t m).2.2.2 = false → K (G.step o lw t m).2.2.1 ∧ f m + 1 ≤ f (G.step o lw t m).2.2.1)
structure StInv (J : O → Prop) (K : M → Prop) (f : M → Int) (B : Int) (P : Ps M O) : Prop where
  obj : J P.obj
  evs : ∀ (k : Nat) (e : Ep), P.evs[k]? = some e → e.steps ≤ B
  hand : ∀ t m h, P.hands t = some (m, h) → K m ∧ h < P.evs.length ∧ ∀ e : Ep, P.evs[h]? = some e → e.steps ≤ f m
  uniq : ∀ t s m m' h, P.hands t = some (m, h) → P.hands s = some (m', h) → s = t
variable {G : Gm M O} {J : O → Prop} {K : M → Prop} {f : M → Int} {B : Int}
theorem StInv.step (S : StLe G J K f B) {P : Ps M O} (I : StInv J K f B P) {t i : Nat} {m : M} {h : Nat} (hh : P.hands t = some (m, h)) : StInv J K f B (P.step G t i m h) := by
  obtain ⟨a1, a2, a3⟩ := I.hand t m h hh
  obtain ⟨b1, b2, b3⟩ := S.step P.obj P.lw t m I.obj a1
  unfold Ps.step
  by_cases hd : (G.step P.obj P.lw t m).2.2.2 = true
  · rw [if_pos hd]
    refine ⟨b1, fun k e he => ?_, fun s m' h' hs => ?_, fun s s' m' m'' h' hs hs' => ?_⟩
    · rcases mod_get he with ⟨_, h1⟩ | ⟨rfl, d, h1, rfl⟩
      · exact I.evs k e h1
      · have := a3 d h1
        show d.steps + 1 ≤ B
        omega
    · replace hs : upd P.hands t none s = some (m', h') := hs
      by_cases e : s = t
      · rw [e, upd_same] at hs; cases hs
      · rw [upd_other e] at hs
        obtain ⟨c1, c2, c3⟩ := I.hand s m' h' hs
        refine ⟨c1, by simpa using c2, fun x hx => ?_⟩
        rcases mod_get hx with ⟨_, h1⟩ | ⟨rfl, d, h1, rfl⟩
        · exact c3 x h1
        · exact absurd (I.uniq t s m m' h' hh hs) e
    · replace hs : upd P.hands t none s = some (m', h') := hs
      have hs' : upd P.hands t none s' = some (m'', h') := hs'
      by_cases e : s = t
      · rw [e, upd_same] at hs; cases hs
      · by_cases e' : s' = t
        · rw [e', upd_same] at hs'; cases hs'
        · rw [upd_other e] at hs
          rw [upd_other e'] at hs'
          exact I.uniq s s' m' m'' h' hs hs'
  · rw [if_neg hd]
    have hd' : (G.step P.obj P.lw t m).2.2.2 = false := by simpa using hd
    obtain ⟨b4, b5⟩ := b3 hd'
    refine ⟨b1, fun k e he => ?_, fun s m' h' hs => ?_, fun s s' m' m'' h' hs hs' => ?_⟩
    · rcases mod_get he with ⟨_, h1⟩ | ⟨rfl, d, h1, rfl⟩
      · exact I.evs k e h1
      · have := a3 d h1
        show d.steps + 1 ≤ B
        omega
    · replace hs : upd P.hands t (some ((G.step P.obj P.lw t m).2.2.1, h)) s = some (m', h') := hs
      by_cases e : s = t
      · rw [e, upd_same] at hs
        cases hs
        refine ⟨b4, by simpa using a2, fun x hx => ?_⟩
        rcases mod_get hx with ⟨h0, _⟩ | ⟨_, d, h1, rfl⟩
        · exact absurd rfl h0
        · have := a3 d h1
          show d.steps + 1 ≤ _
          omega
      · rw [upd_other e] at hs
        obtain ⟨c1, c2, c3⟩ := I.hand s m' h' hs
        refine ⟨c1, by simpa using c2, fun x hx => ?_⟩
        rcases mod_get hx with ⟨_, h1⟩ | ⟨rfl, d, h1, rfl⟩
        · exact c3 x h1
        · exact absurd (I.uniq t s m m' h' hh hs) e
    · replace hs : upd P.hands t (some ((G.step P.obj P.lw t m).2.2.1, h)) s = some (m', h') := hs
      have hs' : upd P.hands t (some ((G.step P.obj P.lw t m).2.2.1, h)) s' = some (m'', h') := hs'
      by_cases e : s = t
      · rw [e, upd_same] at hs
        cases hs
        by_cases e' : s' = t
        · rw [e, e']
        · rw [upd_other e'] at hs'
          exact absurd (I.uniq t s' m m'' h hh hs') e'
      · rw [upd_other e] at hs
        by_cases e' : s' = t
        · rw [e', upd_same] at hs'
          cases hs'
          exact absurd (I.uniq t s m m' h hh hs) e
        · rw [upd_other e'] at hs'
          exact I.uniq s s' m' m'' h' hs hs'
theorem StInv.start (S : StLe G J K f B) {P : Ps M O} (I : StInv J K f B P) {t i : Nat} {c : Cl} (hB : 0 ≤ B) (_hh : P.hands t = none) : StInv J K f B (P.start G t i c) := by
  obtain ⟨b1, b2, b3⟩ := S.start P.obj t c I.obj
  refine ⟨b1, fun k e he => ?_, fun s m' h' hs => ?_, fun s s' m' m'' h' hs hs' => ?_⟩
  · rcases snoc_get he with ⟨_, h1⟩ | ⟨_, rfl⟩
    · exact I.evs k e h1
    · exact hB
  · have hs : upd P.hands t (some ((G.start P.obj t c).2, P.evs.length)) s = some (m', h') := hs
    by_cases e : s = t
    · rw [e, upd_same] at hs
      cases hs
      refine ⟨b2, by show P.evs.length < (P.evs ++ [_]).length; simp, fun x hx => ?_⟩
      rcases snoc_get hx with ⟨h0, _⟩ | ⟨_, rfl⟩
      · omega
      · exact b3
    · rw [upd_other e] at hs
      obtain ⟨c1, c2, c3⟩ := I.hand s m' h' hs
      refine ⟨c1, by show h' < (P.evs ++ [_]).length; simp; omega, fun x hx => ?_⟩
      rcases snoc_get hx with ⟨_, h1⟩ | ⟨h0, _⟩
      · exact c3 x h1
      · omega
  · have hs : upd P.hands t (some ((G.start P.obj t c).2, P.evs.length)) s = some (m', h') := hs
    have hs' : upd P.hands t (some ((G.start P.obj t c).2, P.evs.length)) s' = some (m'', h') := hs'
    by_cases e : s = t
    · rw [e, upd_same] at hs
      cases hs
      by_cases e' : s' = t
      · rw [e, e']
      · rw [upd_other e'] at hs'
        have := (I.hand s' m'' _ hs').2.1
        omega
    · rw [upd_other e] at hs
      by_cases e' : s' = t
      · rw [e', upd_same] at hs'
        cases hs'
        have := (I.hand s m' _ hs).2.1
        omega
      · rw [upd_other e'] at hs'
        exact I.uniq s s' m' m'' h' hs hs'
theorem StInv.pick (S : StLe G J K f B) {P : Ps M O} (hB : 0 ≤ B) (cs : List Cl) (I : StInv J K f B P) (p : Int) : StInv J K f B (P.pick G cs p) := by
  unfold Ps.pick
  split
  · exact ⟨I.obj, I.evs, I.hand, I.uniq⟩
  · dsimp only
    have I1 : StInv J K f B ({ P with lw := { P.lw with now := P.lw.now + 1 } } : Ps M O) := ⟨I.obj, I.evs, I.hand, I.uniq⟩
    split
    · rename_i hh
      exact I1.step S hh
    · rename_i hh
      refine StInv.step S (StInv.start S I1 hB hh) ?_
      exact upd_same _ _ _
theorem StInv.play (S : StLe G J K f B) (hB : 0 ≤ B) (cs : List Cl) : ∀ (picks : List Int) {P : Ps M O}, StInv J K f B P → StInv J K f B (P.play G cs picks)
  | [], _, I => I
  | p :: l, _, I => StInv.play S hB cs l (I.pick S hB cs p)
theorem StInv.new (words : List Int) (o : O) (ho : J o) (m : Nat) : StInv J K f B (Ps.new words o m : Ps M O) := ⟨ho, fun _ _ h => (by cases h), fun _ _ _ h => (by cases h), fun _ _ _ _ _ h => (by cases h)⟩
theorem steps_le (S : StLe G J K f B) (hB : 0 ≤ B) (cs : List Cl) (words : List Int) (o : O) (ho : J o) (picks : List Int) : ∀ e ∈ ((Ps.new words o cs.length : Ps M O).play G cs picks).ends G, e.steps ≤ B := by
  have I := StInv.play (K := K) (f := f) S hB cs picks (StInv.new words o ho cs.length)
  have key : ∀ (l : List Nat) (evs : List Ep), (∀ (k : Nat) (e : Ep), evs[k]? = some e → e.steps ≤ B) → ∀ (k : Nat) (e : Ep), (l.foldl (fun evs t => match ((Ps.new words o cs.length : Ps M O).play G cs picks).hands t with | none => evs | some (m, h) => evs.modify h fun e => { e with key := match G.late ((Ps.new words o cs.length : Ps M O).play G cs picks).obj ((Ps.new words o cs.length : Ps M O).play G cs picks).lw m with | some k => k | none => ((Ps.new words o cs.length : Ps M O).play G cs picks).lw.marks t }) evs)[k]? = some e → e.steps ≤ B := by
    intro l
    induction l with
    | nil => exact fun evs h => h
    | cons t l ih =>
      intro evs h
      rw [List.foldl_cons]
      refine ih _ ?_
      split
      · exact h
      · intro k e he
        rcases mod_get he with ⟨_, h1⟩ | ⟨_, d, h1, rfl⟩
        · exact h k e h1
        · exact h _ d h1
  intro e he
  obtain ⟨k, hk⟩ := List.getElem?_of_mem he
  exact key _ _ I.evs k e hk
end
end Go.Proofs.YtlfingcmekifkaaGreat

namespace Go.Proofs.YtlfingcmekifkaaGreat
open Go.RowKit
theorem ll_stle : StLe llG (fun _ => True) (fun _ => True) (fun _ => 0) 1 :=
  ⟨fun _ _ _ _ => ⟨trivial, trivial, Int.le_refl _⟩, fun _ _ _ _ _ _ => ⟨trivial, by decide, fun h => (by cases h)⟩⟩
end Go.Proofs.YtlfingcmekifkaaGreat

namespace Go.Proofs.YtlfingcmekifkaaGreat
open Go.RowKit Go.ChangeMaps Go.MapKept
def IMapD (w : World) (b : Nat) (kk : IntKind) (m : Int → Option Value) : Prop :=
  ∃ es clock, w.heap[b]? = some (.map es clock) ∧ (∀ e ∈ es.toList, ∃ n, e.key = .int kk n) ∧ (es.toList.map (·.key)).Nodup ∧ ∀ n, getI es.toList n = m n
theorem IMapD.imap {w : World} {b : Nat} {kk : IntKind} {m : Int → Option Value} (h : IMapD w b kk m) : IMap w b kk m := by
  obtain ⟨es, clock, h1, h2, h3, h4⟩ := h
  exact ⟨es, clock, h1, h2, h4⟩
theorem IMapD.lt {w : World} {b : Nat} {kk : IntKind} {m : Int → Option Value} (h : IMapD w b kk m) : b < w.heap.size := h.imap.lt
theorem IMapD.of_block {w w' : World} {b : Nat} {kk : IntKind} {m : Int → Option Value} (h : IMapD w b kk m) (hb : w'.heap[b]? = w.heap[b]?) : IMapD w' b kk m := by
  obtain ⟨es, clock, h1, h2⟩ := h
  exact ⟨es, clock, hb.trans h1, h2⟩
theorem IMapD.new (w : World) (kk : IntKind) : IMapD (w.alloc (.map #[] 0)) w.heap.size kk (fun _ => none) :=
  ⟨#[], 0, heap_alloc_new w _, by simp, by simp, fun n => by simp [getI]⟩
theorem getI_none {kk : IntKind} {n : Int} : ∀ {es : List MapEntry}, (∀ e ∈ es, ∃ m, e.key = .int kk m) → (getI es n = none ↔ Value.int kk n ∉ es.map (·.key)) := by
  intro es
  induction es with
  | nil => intro _; simp [getI]
  | cons e es ih =>
    intro h
    obtain ⟨k, hk⟩ := h e (by simp)
    have := ih (fun e he => h e (by simp [he]))
    simp only [getI, hk, List.map_cons, List.mem_cons, not_or]
    by_cases hnk : n = k
    · subst hnk
      simp
    · rw [if_neg hnk, this]
      constructor
      · intro h2
        exact ⟨fun e => by cases e; exact hnk rfl, h2⟩
      · intro h2
        exact h2.2
theorem getI_erase {kk : IntKind} {n : Int} : ∀ {es : List MapEntry} {j : Nat}, (∀ e ∈ es, ∃ m, e.key = .int kk m) → (es.map (·.key)).Nodup → (es[j]?).map (·.key) = some (.int kk n) → ∀ x, getI (es.eraseIdx j) x = if x = n then none else getI es x := by
  intro es
  induction es with
  | nil => intro j _ _ h; simp at h
  | cons e es ih =>
    intro j h hnd hj x
    obtain ⟨k, hk⟩ := h e (by simp)
    rw [List.map_cons, List.nodup_cons] at hnd
    rcases j with _ | j
    · simp only [List.getElem?_cons_zero, Option.map_some, Option.some.injEq] at hj
      rw [hk] at hj
      cases hj
      simp only [List.eraseIdx_zero, List.tail_cons, getI, hk]
      by_cases hx : x = n
      · subst hx
        rw [if_pos rfl]
        rw [hk] at hnd
        exact (getI_none (fun e he => h e (by simp [he]))).2 hnd.1
      · rw [if_neg hx, if_neg hx]
    · have := ih (j := j) (fun e he => h e (by simp [he])) hnd.2 (by simpa using hj) x
      simp only [List.eraseIdx_cons_succ, getI, hk]
      by_cases hx : x = k
      · subst hx
        rw [if_pos rfl, if_pos rfl]
        have hne : x ≠ n := by
          rintro rfl
          refine hnd.1 ?_
          rw [hk]
          have hj' : (es[j]?).map (·.key) = some (Value.int kk x) := by simpa using hj
          rw [← List.getElem?_map] at hj'
          exact List.mem_of_getElem? hj'
        rw [if_neg hne]
      · rw [if_neg hx, if_neg hx]
        exact this
section
variable {P : Program} {w : World} {b : Nat} {kk : IntKind} {m : Int → Option Value} {t k e : TypeId}
theorem run_update_imapD (ht : P.underlying t = some (.map k e)) (hk : P.underlying k = some (.int kk)) (h : IMapD w b kk m) (n : Int) (u : Value) :
    ∃ w', (Instr.mapUpdate t (.map (some b)) (.int kk n) u).run P w = .ok () w' ∧ IMapD w' b kk (fun x => if x = n then some u else m x) ∧ w.grownBy w' (some b) ∧ w'.heap.size = w.heap.size := by
  obtain ⟨es, clock, hb, hes, hnd, hm⟩ := h
  obtain ⟨r, h1, h2, h3⟩ := run_findKey_int (w := w) hk n es.toList hes
  rcases r with _ | ⟨j, v⟩
  · refine ⟨setBlock w b (.map (es.push { key := .int kk n, val := u, born := clock }) (clock + 1)), ?_, ⟨_, _, heap_setBlock_same hb _, ?_, ?_, ?_⟩, ⟨rfl, rfl, rfl, by simp [setBlock], fun i _ hi => heap_setBlock_other hb _ (fun e => hi (by rw [e]))⟩, by simp [setBlock]⟩
    · simp [Instr.mapUpdate, run_underlying ht, MapKept.run_getObj_map hb, run_checkKey_int hk, h1, MapKept.run_setObj_map _ hb, Result.andThen, setBlock]
    · intro e he
      simp only [Array.toList_push, List.mem_append, List.mem_singleton] at he
      rcases he with he | rfl
      · exact hes e he
      · exact ⟨n, rfl⟩
    · rw [Array.toList_push, List.map_append, List.nodup_append]
      refine ⟨hnd, by simp, ?_⟩
      intro a ha c hc
      simp only [List.map_cons, List.map_nil, List.mem_singleton] at hc
      subst hc
      rintro rfl
      exact (getI_none hes).1 h2.symm ha
    · intro x
      rw [Array.toList_push, getI_push kk n u clock es.toList hes h2.symm x, hm x]
  · obtain ⟨hj, hu⟩ := h3 j v rfl
    obtain ⟨g1, g2, g3⟩ := hu u
    have hjs : j < es.size := by simpa using hj
    have e1 : (es[j]?.map (·.key)).getD (.int kk n) = .int kk n := by
      have := g3
      rw [Array.getElem?_toList] at this
      rw [this]; rfl
    have hsb : Instr.sameBits 10000 (Value.int kk n) (Value.int kk n) = true := by simp [Instr.sameBits]
    refine ⟨setBlock w b (.map (es.modify j fun e => { e with key := .int kk n, val := u }) clock), ?_, ⟨_, _, heap_setBlock_same hb _, ?_, ?_, ?_⟩, ⟨rfl, rfl, rfl, by simp [setBlock], fun i _ hi => heap_setBlock_other hb _ (fun e => hi (by rw [e]))⟩, by simp [setBlock]⟩
    · simp [Instr.mapUpdate, run_underlying ht, MapKept.run_getObj_map hb, run_checkKey_int hk, h1, e1, Instr.keyThatStays, hsb, MapKept.run_setObj_map _ hb, Result.andThen, setBlock]
    · rw [Array.toList_modify]; exact g2
    · have hkeys : (es.toList.modify j fun e => { e with key := .int kk n, val := u }).map (·.key) = es.toList.map (·.key) := by
        apply List.ext_getElem?
        intro i
        rw [List.getElem?_map, List.getElem?_map, List.getElem?_modify]
        rcases hx : es.toList[i]? with _ | z
        · rfl
        · by_cases hij : j = i
          · subst hij
            rw [hx] at g3
            simp at g3 ⊢
            exact g3.symm
          · simp [hij]
      rw [Array.toList_modify, hkeys]
      exact hnd
    · intro x
      rw [Array.toList_modify, g1 x, hm x]
theorem run_delete_imapD (ht : P.underlying t = some (.map k e)) (hk : P.underlying k = some (.int kk)) (h : IMapD w b kk m) (n : Int) (ty : TypeId) :
    ∃ w', (Builtin.delete_ #[t, k] ty #[.map (some b), .int kk n]).run P w = .ok (.tuple #[]) w' ∧ IMapD w' b kk (fun x => if x = n then none else m x) ∧ w.grownBy w' (some b) ∧ w'.heap.size = w.heap.size := by
  obtain ⟨es, clock, hb, hes, hnd, hm⟩ := h
  obtain ⟨r, h1, h2, h3⟩ := run_findKey_int (w := w) hk n es.toList hes
  rcases r with _ | ⟨j, v⟩
  · refine ⟨setBlock w b (.map es clock), ?_, ⟨_, _, heap_setBlock_same hb _, hes, hnd, ?_⟩, ⟨rfl, rfl, rfl, by simp [setBlock], fun i _ hi => heap_setBlock_other hb _ (fun e => hi (by rw [e]))⟩, by simp [setBlock]⟩
    · simp [Builtin.delete_, run_underlying ht, MapKept.run_getObj_map hb, run_checkKey_int hk, h1, MapKept.run_setObj_map _ hb, Result.andThen, setBlock]
    · intro x
      rw [hm x]
      show m x = if x = n then none else m x
      by_cases hx : x = n
      · subst hx
        rw [if_pos rfl, ← hm x, ← h2]
        rfl
      · rw [if_neg hx]
  · obtain ⟨hj, hu⟩ := h3 j v rfl
    obtain ⟨g1, g2, g3⟩ := hu (.bool true)
    have hjs : j < es.size := by simpa using hj
    have he : (es.eraseIdxIfInBounds j).toList = es.toList.eraseIdx j := by
      unfold Array.eraseIdxIfInBounds
      rw [dif_pos hjs, Array.toList_eraseIdx]
    refine ⟨setBlock w b (.map (es.eraseIdxIfInBounds j) clock), ?_, ⟨_, _, heap_setBlock_same hb _, ?_, ?_, ?_⟩, ⟨rfl, rfl, rfl, by simp [setBlock], fun i _ hi => heap_setBlock_other hb _ (fun e => hi (by rw [e]))⟩, by simp [setBlock]⟩
    · simp [Builtin.delete_, run_underlying ht, MapKept.run_getObj_map hb, run_checkKey_int hk, h1, MapKept.run_setObj_map _ hb, Result.andThen, setBlock]
    · rw [he]
      exact fun e h => hes e ((List.eraseIdx_sublist _ _).subset h)
    · rw [he]
      exact ((List.eraseIdx_sublist _ _).map _).nodup hnd
    · intro x
      rw [he, getI_erase hes hnd g3 x, hm x]
end
theorem wpList_update_imapD {P : Program} (w : World) {ops : Array Oper} {rest : List Oper} {o : Oper} {a : Act} {Q : Exit → Act → World → Prop}
    (hg : o.guard = none) (xm x xv : Operand) (t : TypeId) (hop : o.op = Op.mapUpdate t xm x xv) (k e : TypeId) (kk : IntKind) (ht : P.underlying t = some (.map k e)) (hk : P.underlying k = some (.int kk))
    (b : Nat) (m : Int → Option Value) (hm : a.eval xm = .map (some b)) (h : IMapD w b kk m) (n : Int) (u : Value) (hx : a.eval x = .int kk n) (hv : a.eval xv = u)
    (hK : ∀ w', IMapD w' b kk (fun x => if x = n then some u else m x) → w.grownBy w' (some b) → w'.heap.size = w.heap.size → wpList P ops Q rest (a.put o.dst undef) w') :
    wpList P ops Q (o :: rest) a w := by
  refine wpList_plain hg fun K' hK' => ?_
  obtain ⟨w', hrun, r1, r2, r3⟩ := run_update_imapD ht hk h n u
  unfold Oper.wp
  simp [execOp, hop, hm, hx, hv, hrun, Result.andThen]
  exact hK' _ _ (hK w' r1 r2 r3)
theorem wpList_delete_imapD {P : Program} (w : World) {ops : Array Oper} {rest : List Oper} {o : Oper} {a : Act} {Q : Exit → Act → World → Prop}
    (hg : o.guard = none) (xm x : Operand) (t k : TypeId) (hop : o.op = Op.call { callee := Callee.builtin Builtin.delete, args := #[xm, x], argTypes := #[t, k] }) (e : TypeId) (kk : IntKind) (ht : P.underlying t = some (.map k e)) (hk : P.underlying k = some (.int kk))
    (b : Nat) (m : Int → Option Value) (hm : a.eval xm = .map (some b)) (h : IMapD w b kk m) (n : Int) (hx : a.eval x = .int kk n)
    (hK : ∀ w', IMapD w' b kk (fun x => if x = n then none else m x) → w.grownBy w' (some b) → w'.heap.size = w.heap.size → wpList P ops Q rest (a.put o.dst (.tuple #[])) w') :
    wpList P ops Q (o :: rest) a w := by
  refine wpList_plain hg fun K' hK' => ?_
  obtain ⟨w', hrun, r1, r2, r3⟩ := run_delete_imapD ht hk h n o.type
  unfold Oper.wp
  simp [execOp, hop, resolve, invoke, builtin, hm, hx, hrun, Result.andThen]
  exact hK' _ _ (hK w' r1 r2 r3)
theorem run_lookup_nilD {P : Program} {w : World} {kk : IntKind} {t k e : TypeId} (ht : P.underlying t = some (.map k e)) (hk : P.underlying k = some (.int kk)) {z : Value} (hz : (zeroValue e).run P w = .ok z w) (n : Int) :
    (Instr.lookup t (.map none) (.int kk n) false).run P w = .ok z w := by
  have := run_lookup_nil (w := w) ht hk hz n false
  simpa using this
end Go.Proofs.YtlfingcmekifkaaGreat
