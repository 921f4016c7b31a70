import Derived.Test.YtmiimpmfkjcjlaaGreatBun1
import Derived.Test.YtmiimpmfkjcjlaaGreatBun10
namespace Go.Proofs.YtmiimpmfkjcjlaaGreat
open Go.RowKit
def needs (ops : Array Oper) : Nat → Nat → Nat → Bool
  | 0, _, _ => false
  | k + 1, j, i => match ops[j]? with
    | none => false
    | some o => o.after.any fun e => Region.binds .any e && (e.on == i || needs ops k e.on i)
def Closed (ops : Array Oper) (listed : Array Bool) : Prop := ∀ (j : Nat) (o : Oper), ops[j]? = some o → listed[j]? = some true → ∀ e ∈ o.after, Region.binds .any e = true → listed[e.on]? = some true
theorem getD_off {l : Array Bool} {i : Nat} (h : l.getD i false = true) : l[i]? = some true := by
  rw [Array.getD_eq_getD_getElem?] at h
  rcases hq : l[i]? with _ | b
  · rw [hq] at h; cases h
  · rw [hq] at h; simp at h; rw [h]
theorem getD_on {l : Array Bool} {i : Nat} (h : l.getD i true = false) : l[i]? = some false := by
  rw [Array.getD_eq_getD_getElem?] at h
  rcases hq : l[i]? with _ | b
  · rw [hq] at h; cases h
  · rw [hq] at h; simp at h; rw [h]
theorem set_on {l : Array Bool} {i j : Nat} (h : l[j]? = some true) : (l.setIfInBounds i true)[j]? = some true := by
  rw [Array.getElem?_setIfInBounds]
  split
  · rename_i e
    subst e
    have := (Array.getElem?_eq_some_iff.1 h).1
    simp [this]
  · exact h
section
variable {P : Program} {ops : Array Oper} {Q : Exit → Act → World → Prop} {S : World → Prop} {late : List Nat}
theorem closed_start : Closed ops (Array.replicate ops.size false) := by
  intro j o _ hj
  rw [Array.getElem?_replicate] at hj
  split at hj <;> cases hj
theorem closed_set {listed : Array Bool} {i : Nat} (h : Closed ops listed) (hi : i ∈ Region.ready .any ops listed) : Closed ops (listed.setIfInBounds i true) := by
  intro j o ho hj e he hb
  refine set_on ?_
  by_cases hji : j = i
  · subst hji
    obtain ⟨_, o', ho', hall⟩ := mem_ready.1 hi
    rw [ho] at ho'
    cases ho'
    exact getD_off (hall e he hb)
  · rw [Array.getElem?_setIfInBounds, if_neg (Ne.symm hji)] at hj
    exact h j o ho hj e he hb
theorem needs_listed {listed : Array Bool} (h : Closed ops listed) {i : Nat} : ∀ (k j : Nat), (∀ o, ops[j]? = some o → ∀ e ∈ o.after, Region.binds .any e = true → listed[e.on]? = some true) → needs ops k j i = true → listed[i]? = some true
  | 0, _, _, hn => by simp [needs] at hn
  | k + 1, j, hj, hn => by
    unfold needs at hn
    rcases ho : ops[j]? with _ | o
    · rw [ho] at hn; simp at hn
    · rw [ho] at hn
      simp only [Array.any_eq_true, Bool.and_eq_true, Bool.or_eq_true, beq_iff_eq] at hn
      obtain ⟨m, hm, hb, hh⟩ := hn
      have hl := hj o ho o.after[m] (Array.getElem_mem hm) hb
      rcases hh with hh | hh
      · rw [← hh]; exact hl
      · exact needs_listed h k _ (fun o' ho' e he hb' => h _ o' ho' hl e he hb') hh
def anyL (P : Program) (ops : Array Oper) (Q : Exit → Act → World → Prop) (S : World → Prop) (late : List Nat) : Nat → Array Bool → Act → World → Prop
  | 0, listed, a, w => Region.ready .any ops listed = [] ∧ Q .normal a w
  | k + 1, listed, a, w =>
    (Region.ready .any ops listed = [] → Q .normal a w) ∧
    ∀ i ∈ Region.ready .any ops listed, wpOp P ops Q i (fun a' w' => (late.contains i = false → S w') ∧ anyL P ops Q S late k (listed.setIfInBounds i true) a' w') a w
theorem anyL_any : ∀ (k : Nat) (listed : Array Bool) (a : Act) (w : World), anyL P ops Q S late k listed a w → wpAny P .any ops Q k listed a w
  | 0, _, _, _, h => h
  | k + 1, _, _, _, h => ⟨h.1, fun i hi => wpOp_mono (fun _ _ q => anyL_any k _ _ _ q.2) (h.2 i hi)⟩
theorem anyL_done {listed : Array Bool} {a : Act} {w : World} (hr : Region.ready .any ops listed = []) (h : Q .normal a w) : ∀ k, anyL P ops Q S late k listed a w
  | 0 => ⟨hr, h⟩
  | _ + 1 => ⟨fun _ => h, by rw [hr]; simp⟩
theorem anyL_first {i : Nat} {oi : Oper} {v : Value} (hi : ops[i]? = some oi) (hsel : ∀ (j : Nat) (o : Oper) cs b, ops[j]? = some o → o.op ≠ .select cs b) (hQ : ∀ c a w, Q (.panic c) (a.put oi.dst v) w → Q (.panic c) a w)
    (m : Nat) (hlate : ∀ j, late.contains j = true → j ≠ i → needs ops m j i = true) (k : Nat) :
    ∀ (listed : Array Bool) (a : Act) (w : World), Closed ops listed → (∀ j oj, ops[j]? = some oj → j ≠ i → listed.getD j true = false → (∀ e ∈ oj.after, Region.binds .any e = true → e.on ≠ i) → oi.apart ops oj = true) →
      i ∈ Region.ready .any ops listed → YieldsIf P ops S oi v a → S w → anyL P ops Q S late k (listed.setIfInBounds i true) (a.put oi.dst v) w → anyL P ops Q S late (k + 1) listed a w := by
  induction k with
  | zero =>
    intro listed a w _ _ hr hy hS H
    refine ⟨fun e => by rw [e] at hr; exact absurd hr (by simp), fun j hj => ?_⟩
    rcases Decidable.em (j = i) with rfl | hne
    · exact hy.wpOp hi hS ⟨fun _ => hS, H⟩
    · have := ready_mono hj hne
      rw [H.1] at this
      exact absurd this (by simp)
  | succ k ih =>
    intro listed a w hcl hfree hr hy hS H
    refine ⟨fun e => by rw [e] at hr; exact absurd hr (by simp), fun j hj => ?_⟩
    rcases Decidable.em (j = i) with rfl | hne
    · exact hy.wpOp hi hS ⟨fun _ => hS, H⟩
    · obtain ⟨hjun, oj, hoj, hall⟩ := mem_ready.1 hj
      have hun := (mem_ready.1 hr).1
      have hnot : ∀ e ∈ oj.after, Region.binds .any e = true → e.on ≠ i := by
        intro e he hb hei
        have := getD_off (hall e he hb)
        rw [hei, getD_on hun] at this
        cases this
      have hnl : late.contains j = false := by
        rcases hq : late.contains j with _ | _
        · rfl
        · have := needs_listed hcl m j (fun o ho e he hb => by rw [hoj] at ho; cases ho; exact getD_off (hall e he hb)) (hlate j hq hne)
          rw [getD_on hun] at this
          cases this
      have step := wpOp_putIf hoj (hfree j oj hoj hne hjun hnot) (fun cs b => hsel i oi cs b hi) (fun cs b => hsel j oj cs b hoj) hQ hy (H.2 j (ready_mono hj hne))
      refine wpOp_mono ?_ step
      rintro a' w' ⟨hy', hS', H'⟩
      refine ⟨fun _ => hS' hnl, ih _ a' w' (closed_set hcl hj) (fun q om hm hmi hmu hmn => hfree q om hm hmi ?_ hmn) (ready_mono hr (Ne.symm hne)) hy' (hS' hnl) ?_⟩
      · rcases Decidable.em (j = q) with rfl | hjm
        · exact hjun
        · rwa [getD_set_ne true hjm] at hmu
      · rw [Array.setIfInBounds_comm _ _ hne]
        exact H'
def seqChkL (ops : Array Oper) (late : List Nat) : Plan → Array Bool → Bool → Bool
  | .done, listed, _ => (Region.ready .any ops listed).isEmpty
  | .take i r, listed, d => (!d) && (Region.free .any ops listed i && ((Region.ready .any ops listed).contains i && ((late.all fun j => j == i || needs ops ops.size j i) && seqChkL ops late r (listed.setIfInBounds i true) d)))
  | .run i r, listed, d => (Region.ready .any ops listed == [i]) && seqChkL ops late r (listed.setIfInBounds i true) (d || late.contains i)
  | .fork i p j q, listed, d => (Region.ready .any ops listed == [i, j]) && ((p.size == q.size) && (seqChkL ops late p (listed.setIfInBounds i true) (d || late.contains i) && seqChkL ops late q (listed.setIfInBounds j true) (d || late.contains j)))
def wpSeqL (P : Program) (ops : Array Oper) (Q : Exit → Act → World → Prop) (S : World → Prop) (late : List Nat) : Plan → Act → World → Prop
  | .done, a, w => Q .normal a w
  | .take i r, a, w => ∃ o v, ops[i]? = some o ∧ YieldsIf P ops S o v a ∧ wpSeqL P ops Q S late r (a.put o.dst v) w
  | .run i r, a, w => wpOp P ops Q i (fun a' w' => (late.contains i = false → S w') ∧ wpSeqL P ops Q S late r a' w') a w
  | .fork i p j q, a, w => wpOp P ops Q i (fun a' w' => (late.contains i = false → S w') ∧ wpSeqL P ops Q S late p a' w') a w ∧ wpOp P ops Q j (fun a' w' => (late.contains j = false → S w') ∧ wpSeqL P ops Q S late q a' w') a w
theorem wpSeqL_sound (hs : Region.noSelect ops = true) (hQ : ∀ c d v (a : Act) w, Q (.panic c) (a.put d v) w → Q (.panic c) a w) :
    ∀ (ord : Plan) (listed : Array Bool) (d : Bool) (a : Act) (w : World), seqChkL ops late ord listed d = true → Closed ops listed → (d = false → S w) → wpSeqL P ops Q S late ord a w → anyL P ops Q S late ord.size listed a w
  | .done, listed, d, a, w, hc, _, _, h => anyL_done (by simpa [seqChkL] using hc) h _
  | .take i r, listed, d, a, w, hc, hcl, hS, h => by
    obtain ⟨o, v, ho, hy, h⟩ := h
    simp only [seqChkL, Bool.and_eq_true, Bool.not_eq_true', List.all_eq_true, Bool.or_eq_true, beq_iff_eq] at hc
    obtain ⟨hd, hf, hr, hl, hc⟩ := hc
    have hr' : i ∈ Region.ready .any ops listed := by simpa using hr
    refine anyL_first ho (Region.noSelect_spec hs) (fun c a w => hQ c _ _ a w) ops.size (fun j hj hne => ?_) r.size listed a w hcl (Region.free_spec ho hf) hr' hy (hS hd) ?_
    · exact (hl j (by simpa using hj)).resolve_left hne
    · exact wpSeqL_sound hs hQ r _ d _ w hc (closed_set hcl hr') hS h
  | .run i r, listed, d, a, w, hc, hcl, hS, h => by
    simp only [seqChkL, Bool.and_eq_true, beq_iff_eq] at hc
    refine ⟨fun e => (by rw [hc.1] at e; cases e), fun j hj => ?_⟩
    have hj' := hj
    rw [hc.1] at hj
    obtain rfl : j = i := by simpa using hj
    exact wpOp_mono (fun a' w' h' => ⟨h'.1, wpSeqL_sound hs hQ r _ _ a' w' hc.2 (closed_set hcl hj') (fun e => h'.1 (by simp at e; simpa using e.2)) h'.2⟩) h
  | .fork i p j q, listed, d, a, w, hc, hcl, hS, h => by
    simp only [seqChkL, Bool.and_eq_true, beq_iff_eq] at hc
    refine ⟨fun e => (by rw [hc.1] at e; cases e), fun k hk => ?_⟩
    have hk' := hk
    rw [hc.1] at hk
    simp only [List.mem_cons, List.not_mem_nil, or_false] at hk
    rcases hk with rfl | rfl
    · exact wpOp_mono (fun a' w' h' => ⟨h'.1, wpSeqL_sound hs hQ p _ _ a' w' hc.2.2.1 (closed_set hcl hk') (fun e => h'.1 (by simp at e; simpa using e.2)) h'.2⟩) h.1
    · have hsz : p.size = q.size := hc.2.1
      show wpOp P ops Q k (fun a' w' => _ ∧ anyL P ops Q S late p.size _ a' w') a w
      rw [hsz]
      exact wpOp_mono (fun a' w' h' => ⟨h'.1, wpSeqL_sound hs hQ q _ _ a' w' hc.2.2.2 (closed_set hcl hk') (fun e => h'.1 (by simp at e; simpa using e.2)) h'.2⟩) h.2
end
theorem wp_region_seql {P : Program} {l : List Oper} {Q : Exit → Act → World → Prop} {id : Nat} {a : Act} {w : World} (S : World → Prop) (late : List Nat) (ord : Plan)
    (hm : P.follows .mixedOrders = true) (hs : Region.noSelect l.toArray = true) (hc : (seqChkL l.toArray late ord (Array.replicate l.toArray.size false) false && (ord.size == l.toArray.size)) = true)
    (hS : S w.drew) (h : wpSeqL P l.toArray (NoPanic Q) S late ord a w.drew) : (Code.region id l.toArray true).wp P Q a w := by
  simp only [Bool.and_eq_true, beq_iff_eq] at hc
  refine wp_region_noPanic (wp_region_any hm ?_)
  have := wpSeqL_sound (P := P) (Q := NoPanic Q) hs (fun c d v a w h => (h : False).elim) ord (Array.replicate l.toArray.size false) false a w.drew hc.1 closed_start (fun _ => hS) h
  rw [hc.2] at this
  exact anyL_any _ _ _ _ this
section
variable {P : Program} {l : List Oper} {Q : Exit → Act → World → Prop} {S : World → Prop} {late : List Nat} {i : Nat} {r : Plan} {a : Act} {w : World}
theorem seql_take {o : Oper} {v : Value} (ho : nth l i = some o) (hw : Region.wanted o (yielded l.toArray a.tmps) = true) (hy : ∀ w, S w → (execOp a.eval o).run P w = .ok (.value v) w)
    (h : wpSeqL P l.toArray Q S late r (a.put o.dst v) w) : wpSeqL P l.toArray Q S late (.take i r) a w := ⟨o, v, nth_arr ho, Or.inl ⟨hw, hy⟩, h⟩
theorem opl_run {Z : World → Prop} {K : Act → World → Prop} {o : Oper} (ho : nth l i = some o) (hw : Region.wanted o (yielded l.toArray a.tmps) = true)
    (h : ∀ K' : Act → World → Prop, (∀ a w, Z w → K a w → K' a w) → Oper.wp P o a w K' Q) : wpOp P l.toArray Q i (fun a' w' => Z w' ∧ K a' w') a w := by
  unfold wpOp
  rw [nth_arr ho]
  simp only [hw, if_true]
  exact Or.inl (h _ fun a w hS hr => ⟨hS, hr⟩)
theorem seql_run {o : Oper} (ho : nth l i = some o) (hw : Region.wanted o (yielded l.toArray a.tmps) = true)
    (h : ∀ K : Act → World → Prop, (∀ a w, S w → wpSeqL P l.toArray Q S late r a w → K a w) → Oper.wp P o a w K Q) : wpSeqL P l.toArray Q S late (.run i r) a w :=
  opl_run (Z := fun w' => late.contains i = false → S w') (K := wpSeqL P l.toArray Q S late r) ho hw fun K hK => h K fun a w hS hr => hK a w (fun _ => hS) hr
theorem seql_late {o : Oper} (hl : late.contains i = true) (ho : nth l i = some o) (hw : Region.wanted o (yielded l.toArray a.tmps) = true)
    (h : ∀ K : Act → World → Prop, (∀ a w, wpSeqL P l.toArray Q S late r a w → K a w) → Oper.wp P o a w K Q) : wpSeqL P l.toArray Q S late (.run i r) a w :=
  opl_run (Z := fun w' => late.contains i = false → S w') (K := wpSeqL P l.toArray Q S late r) ho hw fun K hK => h K fun a w hr => hK a w (fun e => by rw [hl] at e; cases e) hr
theorem seql_fork {j : Nat} {q : Plan} (h1 : wpSeqL P l.toArray Q S late (.run i r) a w) (h2 : wpSeqL P l.toArray Q S late (.run j q) a w) : wpSeqL P l.toArray Q S late (.fork i r j q) a w := ⟨h1, h2⟩
theorem seql_nil (h : Q .normal a w) : wpSeqL P l.toArray (NoPanic Q) S late .done a w := h
end
attribute [irreducible] wpSeqL
end Go.Proofs.YtmiimpmfkjcjlaaGreat

namespace Go.Proofs.YtmiimpmfkjcjlaaGreat
open Go.RowKit
section
variable {P : Program} {ops : Array Oper} {Q : Exit → Act → World → Prop} {S : World → Prop} {late pures : List Nat}
def anyM (P : Program) (ops : Array Oper) (Q : Exit → Act → World → Prop) (S : World → Prop) (late : List Nat) : Nat → Array Bool → Act → World → Prop
  | 0, listed, a, w => Region.ready .any ops listed = [] ∧ Q .normal a w
  | k + 1, listed, a, w =>
    (Region.ready .any ops listed = [] → Q .normal a w) ∧
    ∀ i ∈ Region.ready .any ops listed, wpOp P ops Q i (fun a' w' => (S w → late.contains i = false → S w') ∧ anyM P ops Q S late k (listed.setIfInBounds i true) a' w') a w
theorem anyM_any : ∀ (k : Nat) (listed : Array Bool) (a : Act) (w : World), anyM P ops Q S late k listed a w → wpAny P .any ops Q k listed a w
  | 0, _, _, _, h => h
  | k + 1, _, _, _, h => ⟨h.1, fun i hi => wpOp_mono (fun _ _ q => anyM_any k _ _ _ q.2) (h.2 i hi)⟩
theorem anyM_done {listed : Array Bool} {a : Act} {w : World} (hr : Region.ready .any ops listed = []) (h : Q .normal a w) : ∀ k, anyM P ops Q S late k listed a w
  | 0 => ⟨hr, h⟩
  | _ + 1 => ⟨fun _ => h, by rw [hr]; simp⟩
theorem anyM_first {i : Nat} {oi : Oper} {v : Value} (hi : ops[i]? = some oi) (hsel : ∀ (j : Nat) (o : Oper) cs b, ops[j]? = some o → o.op ≠ .select cs b) (hQ : ∀ c a w, Q (.panic c) (a.put oi.dst v) w → Q (.panic c) a w)
    (m : Nat) (hlate : ∀ j, late.contains j = true → j ≠ i → needs ops m j i = true) (k : Nat) :
    ∀ (listed : Array Bool) (a : Act) (w : World), Closed ops listed → (∀ j oj, ops[j]? = some oj → j ≠ i → listed.getD j true = false → (∀ e ∈ oj.after, Region.binds .any e = true → e.on ≠ i) → oi.apart ops oj = true) →
      i ∈ Region.ready .any ops listed → YieldsIf P ops S oi v a → S w → anyM P ops Q S late k (listed.setIfInBounds i true) (a.put oi.dst v) w → anyM P ops Q S late (k + 1) listed a w := by
  induction k with
  | zero =>
    intro listed a w _ _ hr hy hS H
    refine ⟨fun e => by rw [e] at hr; exact absurd hr (by simp), fun j hj => ?_⟩
    rcases Decidable.em (j = i) with rfl | hne
    · exact hy.wpOp hi hS ⟨fun _ _ => hS, H⟩
    · have := ready_mono hj hne
      rw [H.1] at this
      exact absurd this (by simp)
  | succ k ih =>
    intro listed a w hcl hfree hr hy hS H
    refine ⟨fun e => by rw [e] at hr; exact absurd hr (by simp), fun j hj => ?_⟩
    rcases Decidable.em (j = i) with rfl | hne
    · exact hy.wpOp hi hS ⟨fun _ _ => hS, H⟩
    · obtain ⟨hjun, oj, hoj, hall⟩ := mem_ready.1 hj
      have hun := (mem_ready.1 hr).1
      have hnot : ∀ e ∈ oj.after, Region.binds .any e = true → e.on ≠ i := by
        intro e he hb hei
        have := getD_off (hall e he hb)
        rw [hei, getD_on hun] at this
        cases this
      have hnl : late.contains j = false := by
        rcases hq : late.contains j with _ | _
        · rfl
        · have := needs_listed hcl m j (fun o ho e he hb => by rw [hoj] at ho; cases ho; exact getD_off (hall e he hb)) (hlate j hq hne)
          rw [getD_on hun] at this
          cases this
      have step := wpOp_putIf hoj (hfree j oj hoj hne hjun hnot) (fun cs b => hsel i oi cs b hi) (fun cs b => hsel j oj cs b hoj) hQ hy (H.2 j (ready_mono hj hne))
      refine wpOp_mono ?_ step
      rintro a' w' ⟨hy', hS', H'⟩
      refine ⟨fun _ _ => hS' hS hnl, ih _ a' w' (closed_set hcl hj) (fun q om hm hmi hmu hmn => hfree q om hm hmi ?_ hmn) (ready_mono hr (Ne.symm hne)) hy' (hS' hS hnl) ?_⟩
      · rcases Decidable.em (j = q) with rfl | hjm
        · exact hjun
        · rwa [getD_set_ne true hjm] at hmu
      · rw [Array.setIfInBounds_comm _ _ hne]
        exact H'
theorem anyM_pure {i : Nat} {oi : Oper} {v : Value} (hi : ops[i]? = some oi) (hsel : ∀ (j : Nat) (o : Oper) cs b, ops[j]? = some o → o.op ≠ .select cs b) (hQ : ∀ c a w, Q (.panic c) (a.put oi.dst v) w → Q (.panic c) a w) (k : Nat) :
    ∀ (listed : Array Bool) (a : Act) (w : World), Closed ops listed → (∀ j oj, ops[j]? = some oj → j ≠ i → listed.getD j true = false → (∀ e ∈ oj.after, Region.binds .any e = true → e.on ≠ i) → oi.apart ops oj = true) →
      i ∈ Region.ready .any ops listed → YieldsIf P ops (fun _ => True) oi v a → anyM P ops Q S late k (listed.setIfInBounds i true) (a.put oi.dst v) w → anyM P ops Q S late (k + 1) listed a w := by
  induction k with
  | zero =>
    intro listed a w _ _ hr hy H
    refine ⟨fun e => by rw [e] at hr; exact absurd hr (by simp), fun j hj => ?_⟩
    rcases Decidable.em (j = i) with rfl | hne
    · exact hy.wpOp hi trivial ⟨fun h _ => h, H⟩
    · have := ready_mono hj hne
      rw [H.1] at this
      exact absurd this (by simp)
  | succ k ih =>
    intro listed a w hcl hfree hr hy H
    refine ⟨fun e => by rw [e] at hr; exact absurd hr (by simp), fun j hj => ?_⟩
    rcases Decidable.em (j = i) with rfl | hne
    · exact hy.wpOp hi trivial ⟨fun h _ => h, H⟩
    · obtain ⟨hjun, oj, hoj, hall⟩ := mem_ready.1 hj
      have hun := (mem_ready.1 hr).1
      have hnot : ∀ e ∈ oj.after, Region.binds .any e = true → e.on ≠ i := by
        intro e he hb hei
        have := getD_off (hall e he hb)
        rw [hei, getD_on hun] at this
        cases this
      have step := wpOp_putIf hoj (hfree j oj hoj hne hjun hnot) (fun cs b => hsel i oi cs b hi) (fun cs b => hsel j oj cs b hoj) hQ hy (H.2 j (ready_mono hj hne))
      refine wpOp_mono ?_ step
      rintro a' w' ⟨hy', hS', H'⟩
      refine ⟨hS', ih _ a' w' (closed_set hcl hj) (fun q om hm hmi hmu hmn => hfree q om hm hmi ?_ hmn) (ready_mono hr (Ne.symm hne)) hy' ?_⟩
      · rcases Decidable.em (j = q) with rfl | hjm
        · exact hjun
        · rwa [getD_set_ne true hjm] at hmu
      · rw [Array.setIfInBounds_comm _ _ hne]
        exact H'
def seqChkM (ops : Array Oper) (late pures : List Nat) : Plan → Array Bool → Bool → Bool
  | .done, listed, _ => (Region.ready .any ops listed).isEmpty
  | .take i r, listed, d => (pures.contains i || ((!d) && late.all fun j => j == i || needs ops ops.size j i)) && (Region.free .any ops listed i && ((Region.ready .any ops listed).contains i && seqChkM ops late pures r (listed.setIfInBounds i true) d))
  | .run i r, listed, d => (Region.ready .any ops listed == [i]) && seqChkM ops late pures r (listed.setIfInBounds i true) (d || late.contains i)
  | .fork i p j q, listed, d => (Region.ready .any ops listed == [i, j]) && ((p.size == q.size) && (seqChkM ops late pures p (listed.setIfInBounds i true) (d || late.contains i) && seqChkM ops late pures q (listed.setIfInBounds j true) (d || late.contains j)))
def wpSeqM (P : Program) (ops : Array Oper) (Q : Exit → Act → World → Prop) (S : World → Prop) (late pures : List Nat) : Plan → Act → World → Prop
  | .done, a, w => Q .normal a w
  | .take i r, a, w => ∃ o v, ops[i]? = some o ∧ YieldsIf P ops (fun X => pures.contains i = true ∨ S X) o v a ∧ wpSeqM P ops Q S late pures r (a.put o.dst v) w
  | .run i r, a, w => wpOp P ops Q i (fun a' w' => (late.contains i = false → S w') ∧ wpSeqM P ops Q S late pures r a' w') a w
  | .fork i p j q, a, w => wpOp P ops Q i (fun a' w' => (late.contains i = false → S w') ∧ wpSeqM P ops Q S late pures p a' w') a w ∧ wpOp P ops Q j (fun a' w' => (late.contains j = false → S w') ∧ wpSeqM P ops Q S late pures q a' w') a w
theorem wpSeqM_sound (hs : Region.noSelect ops = true) (hQ : ∀ c d v (a : Act) w, Q (.panic c) (a.put d v) w → Q (.panic c) a w) :
    ∀ (ord : Plan) (listed : Array Bool) (d : Bool) (a : Act) (w : World), seqChkM ops late pures ord listed d = true → Closed ops listed → (d = false → S w) → wpSeqM P ops Q S late pures ord a w → anyM P ops Q S late ord.size listed a w
  | .done, listed, d, a, w, hc, _, _, h => anyM_done (by simpa [seqChkM] using hc) h _
  | .take i r, listed, d, a, w, hc, hcl, hS, h => by
    obtain ⟨o, v, ho, hy, h⟩ := h
    simp only [seqChkM, Bool.and_eq_true, Bool.or_eq_true, Bool.not_eq_true', List.all_eq_true, beq_iff_eq] at hc
    obtain ⟨hp, hf, hr, hc⟩ := hc
    have hr' : i ∈ Region.ready .any ops listed := by simpa using hr
    have H := wpSeqM_sound hs hQ r _ d _ w hc (closed_set hcl hr') hS h
    rcases hp with hp | ⟨hd, hl⟩
    · refine anyM_pure ho (Region.noSelect_spec hs) (fun c a w => hQ c _ _ a w) r.size listed a w hcl (Region.free_spec ho hf) hr' ?_ H
      rcases hy with ⟨hw, hy⟩ | hy
      · exact Or.inl ⟨hw, fun X _ => hy X (Or.inl hp)⟩
      · exact Or.inr hy
    · refine anyM_first ho (Region.noSelect_spec hs) (fun c a w => hQ c _ _ a w) ops.size (fun j hj hne => ?_) r.size listed a w hcl (Region.free_spec ho hf) hr' ?_ (hS hd) H
      · exact (hl j (by simpa using hj)).resolve_left hne
      · rcases hy with ⟨hw, hy⟩ | hy
        · exact Or.inl ⟨hw, fun X hX => hy X (Or.inr hX)⟩
        · exact Or.inr hy
  | .run i r, listed, d, a, w, hc, hcl, hS, h => by
    simp only [seqChkM, Bool.and_eq_true, beq_iff_eq] at hc
    refine ⟨fun e => (by rw [hc.1] at e; cases e), fun j hj => ?_⟩
    have hj' := hj
    rw [hc.1] at hj
    obtain rfl : j = i := by simpa using hj
    exact wpOp_mono (fun a' w' h' => ⟨fun _ => h'.1, wpSeqM_sound hs hQ r _ _ a' w' hc.2 (closed_set hcl hj') (fun e => h'.1 (by simp at e; simpa using e.2)) h'.2⟩) h
  | .fork i p j q, listed, d, a, w, hc, hcl, hS, h => by
    simp only [seqChkM, Bool.and_eq_true, beq_iff_eq] at hc
    refine ⟨fun e => (by rw [hc.1] at e; cases e), fun k hk => ?_⟩
    have hk' := hk
    rw [hc.1] at hk
    simp only [List.mem_cons, List.not_mem_nil, or_false] at hk
    rcases hk with rfl | rfl
    · exact wpOp_mono (fun a' w' h' => ⟨fun _ => h'.1, wpSeqM_sound hs hQ p _ _ a' w' hc.2.2.1 (closed_set hcl hk') (fun e => h'.1 (by simp at e; simpa using e.2)) h'.2⟩) h.1
    · have hsz : p.size = q.size := hc.2.1
      show wpOp P ops Q k (fun a' w' => _ ∧ anyM P ops Q S late p.size _ a' w') a w
      rw [hsz]
      exact wpOp_mono (fun a' w' h' => ⟨fun _ => h'.1, wpSeqM_sound hs hQ q _ _ a' w' hc.2.2.2 (closed_set hcl hk') (fun e => h'.1 (by simp at e; simpa using e.2)) h'.2⟩) h.2
end
theorem wp_region_seqm {P : Program} {l : List Oper} {Q : Exit → Act → World → Prop} {id : Nat} {a : Act} {w : World} (S : World → Prop) (late pures : List Nat) (ord : Plan)
    (hm : P.follows .mixedOrders = true) (hs : Region.noSelect l.toArray = true) (hc : (seqChkM l.toArray late pures ord (Array.replicate l.toArray.size false) false && (ord.size == l.toArray.size)) = true)
    (hS : S w.drew) (h : wpSeqM P l.toArray (NoPanic Q) S late pures ord a w.drew) : (Code.region id l.toArray true).wp P Q a w := by
  simp only [Bool.and_eq_true, beq_iff_eq] at hc
  refine wp_region_noPanic (wp_region_any hm ?_)
  have := wpSeqM_sound (P := P) (Q := NoPanic Q) hs (fun c d v a w h => (h : False).elim) ord (Array.replicate l.toArray.size false) false a w.drew hc.1 closed_start (fun _ => hS) h
  rw [hc.2] at this
  exact anyM_any _ _ _ _ this
section
variable {P : Program} {l : List Oper} {Q : Exit → Act → World → Prop} {S : World → Prop} {late pures : List Nat} {i : Nat} {r : Plan} {a : Act} {w : World}
theorem seqm_pure {o : Oper} {v : Value} (hp : pures.contains i = true) (ho : nth l i = some o) (hw : Region.wanted o (yielded l.toArray a.tmps) = true) (hy : ∀ w, (execOp a.eval o).run P w = .ok (.value v) w)
    (h : wpSeqM P l.toArray Q S late pures r (a.put o.dst v) w) : wpSeqM P l.toArray Q S late pures (.take i r) a w := ⟨o, v, nth_arr ho, Or.inl ⟨hw, fun w _ => hy w⟩, h⟩
theorem seqm_take {o : Oper} {v : Value} (hp : pures.contains i = false) (ho : nth l i = some o) (hw : Region.wanted o (yielded l.toArray a.tmps) = true) (hy : ∀ w, S w → (execOp a.eval o).run P w = .ok (.value v) w)
    (h : wpSeqM P l.toArray Q S late pures r (a.put o.dst v) w) : wpSeqM P l.toArray Q S late pures (.take i r) a w := ⟨o, v, nth_arr ho, Or.inl ⟨hw, fun w hX => hy w (hX.resolve_left (by rw [hp]; decide))⟩, h⟩
theorem seqm_run {o : Oper} (ho : nth l i = some o) (hw : Region.wanted o (yielded l.toArray a.tmps) = true)
    (h : ∀ K : Act → World → Prop, (∀ a w, S w → wpSeqM P l.toArray Q S late pures r a w → K a w) → Oper.wp P o a w K Q) : wpSeqM P l.toArray Q S late pures (.run i r) a w :=
  opl_run (Z := fun w' => late.contains i = false → S w') (K := wpSeqM P l.toArray Q S late pures r) ho hw fun K hK => h K fun a w hS hr => hK a w (fun _ => hS) hr
theorem seqm_late {o : Oper} (hl : late.contains i = true) (ho : nth l i = some o) (hw : Region.wanted o (yielded l.toArray a.tmps) = true)
    (h : ∀ K : Act → World → Prop, (∀ a w, wpSeqM P l.toArray Q S late pures r a w → K a w) → Oper.wp P o a w K Q) : wpSeqM P l.toArray Q S late pures (.run i r) a w :=
  opl_run (Z := fun w' => late.contains i = false → S w') (K := wpSeqM P l.toArray Q S late pures r) ho hw fun K hK => h K fun a w hr => hK a w (fun e => by rw [hl] at e; cases e) hr
theorem seqm_nil (h : Q .normal a w) : wpSeqM P l.toArray (NoPanic Q) S late pures .done a w := h
end
end Go.Proofs.YtmiimpmfkjcjlaaGreat

namespace Go.Proofs.YtmiimpmfkjcjlaaGreat
open Go.RowKit
structure DAt (w : World) (g n : Nat) (d : Nat → Int) : Prop where
  lt : g < w.heap.size
  cell : ∀ k, k < n → w.cell? ⟨g, k, none⟩ = some (.int .i64 (d k))
  free : ∀ k, k < n → w.frozen? ⟨g, k, none⟩ = false
theorem DAt.drew {w : World} {g n : Nat} {d : Nat → Int} (h : DAt w g n d) : DAt w.drew g n d := ⟨h.lt, fun k hk => by simpa using h.cell k hk, fun k hk => by simpa using h.free k hk⟩
theorem DAt.drewN {w : World} {g n : Nat} {d : Nat → Int} (h : DAt w g n d) (m : Nat) : DAt (w.drewN m) g n d := ⟨h.lt, h.cell, h.free⟩
theorem DAt.put {w : World} {g n i : Nat} {d : Nat → Int} {x : Int} (h : DAt w g n d) (hi : i < n) : DAt (w.setCell ⟨g, i, none⟩ (.int .i64 x)) g n (fun k => if k = i then x else d k) := by
  refine ⟨by simpa [World.setCell] using h.lt, fun k hk => ?_, fun k hk => by simpa using h.free k hk⟩
  by_cases e : k = i
  · subst e
    rw [World.cell?_setCell_same (h := h.cell k hk), if_pos rfl]
  · rw [World.cell?_setCell_other (h := fun e' => e (by cases e'; rfl)), if_neg e]
    exact h.cell k hk
theorem DAt.swap {w : World} {g n i j : Nat} {d : Nat → Int} (h : DAt w g n d) (hi : i < n) (hj : j < n) : DAt ((w.setCell ⟨g, i, none⟩ (.int .i64 (d j))).setCell ⟨g, j, none⟩ (.int .i64 (d i))) g n (sw2 d i j) := by
  have H := (h.put (x := d j) hi).put (x := d i) hj
  have e : (fun k => if k = j then d i else if k = i then d j else d k) = sw2 d i j := by
    funext k
    unfold sw2
    by_cases e1 : k = j
    · by_cases e2 : k = i
      · rw [if_pos e1, if_pos e2, ← e1, ← e2]
      · rw [if_pos e1, if_neg e2, if_pos e1]
    · by_cases e2 : k = i
      · rw [if_neg e1, if_pos e2, if_pos e2]
      · rw [if_neg e1, if_neg e2, if_neg e2, if_neg e1]
  rw [← e]
  exact H
theorem DAt.same {w : World} {g n : Nat} {d e : Nat → Int} (h : DAt w g n d) (he : ∀ k, k < n → e k = d k) : DAt w g n e := ⟨h.lt, fun k hk => by rw [he k hk]; exact h.cell k hk, h.free⟩
def SPost (g n : Nat) (d : Nat → Int) (w : World) (e : Ending) (w' : World) : Prop := (∃ v, e = .returned v) ∧ DAt w' g n d ∧ Below g w w'
set_option maxRecDepth 100000 in
set_option maxHeartbeats 4000000 in
theorem swapRange_any (g N a b n : Nat) (fv : Value) (d : Nat → Int) (w : World) (hd : DAt w g N d) (h1 : a + n ≤ b) (h2 : b + n ≤ N) (hN : N ≤ 1000000) :
    Calls Tryz.prog 214 #[.slice (some ⟨g, 0, none⟩) N N, .int .i64 a, .int .i64 b, .int .i64 n, fv] w (SPost g N (swr d a b n) w) := by
  have HD := hide hd
  clear hd
  go_enter Tryz.func214, Tryz.ntmps214
  go_wp2
  go_loopw [10] (fun i wr => ∃ k : Nat, k ≤ n ∧ i = .int .i64 k ∧ Hid (DAt wr g N (swr d a b k)) ∧ Hid (Below g w wr)) (fun i _ => n - (intOf i).toNat)
  case atStart => exact ⟨0, Nat.zero_le _, rfl, hide (by rw [swr_zero]; exact HD.out), hide (Below.refl _ _)⟩
  case round =>
    obtain ⟨k, hk, rfl, hD, hB⟩ := hrel
    by_cases l1 : k < n
    · have d1 : decide ((k : Int) < (n : Int)) = true := by simp; omega
      have d2 : decide (k < n) = true := by simp; omega
      have e1 : IntKind.i64.wrap ((a : Int) + (k : Int)) = (a : Int) + (k : Int) := IntWalk.i64_in _ (by omega)
      have t1 : ((a : Int) + (k : Int)).toNat = a + k := by omega
      have e2 : IntKind.i64.wrap ((b : Int) + (k : Int)) = (b : Int) + (k : Int) := IntWalk.i64_in _ (by omega)
      have t2 : ((b : Int) + (k : Int)).toNat = b + k := by omega
      have q1 : (0 : Int) ≤ (a : Int) + (k : Int) := by omega
      have q2 : (a : Int) + (k : Int) < (N : Int) := by omega
      have q3 : (0 : Int) ≤ (b : Int) + (k : Int) := by omega
      have q4 : (b : Int) + (k : Int) < (N : Int) := by omega
      have c1 := hD.out.cell (a + k) (by omega)
      have c2 := hD.out.cell (b + k) (by omega)
      have f1 := hD.out.free (a + k) (by omega)
      have f2 := hD.out.free (b + k) (by omega)
      go_wp2_with fail
      refine wp_region_seqm (fun Y => Y.cell? ⟨g, a + k, none⟩ = some (.int .i64 (swr d a b k (a + k))) ∧ Y.cell? ⟨g, b + k, none⟩ = some (.int .i64 (swr d a b k (b + k)))) [21, 23] [0, 1, 2, 3, 4, 5, 6, 7, 8, 9, 10, 11, 12, 14, 15, 16, 17, 18, 20, 22] (.take 0 <| .take 1 <| .take 2 <| .take 3 <| .take 4 <| .take 5 <| .take 6 <| .take 7 <| .take 8 <| .take 9 <| .take 10 <| .take 11 <| .take 12 <| .take 13 <| .take 14 <| .take 15 <| .take 16 <| .take 17 <| .take 18 <| .take 19 <| .take 20 <| .run 21 <| .take 22 <| .run 23 <| .done) (by kernel_rfl) (by kernel_rfl) (by kernel_rfl) ⟨c1, c2⟩ ?_
      repeat (first | (refine seqm_take (v := ?_) rfl rfl (by rfl) ?_ ?_; rotate_left; (focus (intro wS hS; have s0 := hS.1; have s1 := hS.2; go_simp; exact rfl)); simp only [Act.put, sqA, sqB, sqC]) | (refine seqm_pure (v := ?_) rfl rfl (by rfl) ?_ ?_; rotate_left; (focus (intro wS; go_simp; exact rfl)); simp only [Act.put, sqA, sqB, sqC]))
      (refine seqm_late rfl rfl (by rfl) (fun K hK => ?_); go_simp; refine hK _ _ ?_; clear hK K)
      repeat (first | (refine seqm_take (v := ?_) rfl rfl (by rfl) ?_ ?_; rotate_left; (focus (intro wS hS; have s0 := hS.1; have s1 := hS.2; go_simp; exact rfl)); simp only [Act.put, sqA, sqB, sqC]) | (refine seqm_pure (v := ?_) rfl rfl (by rfl) ?_ ?_; rotate_left; (focus (intro wS; go_simp; exact rfl)); simp only [Act.put, sqA, sqB, sqC]))
      (refine seqm_late rfl rfl (by rfl) (fun K hK => ?_); go_simp; refine hK _ _ ?_; clear hK K)
      refine seqm_nil ?_
      have HN : Hid (∀ X : World, X = (wr.setCell ⟨g, a + k, none⟩ (.int .i64 (swr d a b k (b + k)))).setCell ⟨g, b + k, none⟩ (.int .i64 (swr d a b k (a + k))) → DAt X.drew g N (swr d a b (k + 1)) ∧ Below g w X.drew) := hide (fun X hX => by
        subst hX
        refine ⟨by rw [← swr_succ (by omega)]; exact (hD.out.swap (by omega) (by omega)).drew, ?_⟩
        have hq := hB.out
        (repeat' (first | with_reducible (first | assumption | exact Below.refl _ _ | refine Below.drew ?_ | refine below_drewN ?_ _ | refine Below.alloc ?_ ?_ _ | refine Below.setCell ?_ ?_ _) | omega | (simp; done) | (simp; omega))))
      go_wp2
      go_roundw
      case rel => exact ⟨k + 1, by omega, by go_num, hide (HN.out _ rfl).1, hide (HN.out _ rfl).2⟩
      case measure => simp [intOf] <;> omega
    · have d1 : decide ((k : Int) < (n : Int)) = false := by simp; omega
      have d2 : decide (k < n) = false := by simp; omega
      obtain rfl : k = n := by omega
      go_wp2
      ((try simp only [Exit.inBlock, Exit.then]); refine bodyPost_ret (results_none rfl _ _ _) rfl ?_)
      exact ⟨⟨_, rfl⟩, hD.out, hB.out⟩
set_option maxRecDepth 100000 in
set_option maxHeartbeats 4000000 in
theorem rotate_any (g N a m b : Nat) (fv : Value) (d : Nat → Int) (w : World) (hd : DAt w g N d) (h1 : a < m) (h2 : m < b) (h3 : b ≤ N) (hN : N ≤ 1000000) :
    Calls Tryz.prog 212 #[.slice (some ⟨g, 0, none⟩) N N, .int .i64 a, .int .i64 m, .int .i64 b, fv] w (SPost g N (rot d a m b) w) := by
  have HD := hide hd
  have e1 : IntKind.i64.wrap ((m : Int) - (a : Int)) = (m : Int) - (a : Int) := IntWalk.i64_in _ (by omega)
  have e2 : IntKind.i64.wrap ((b : Int) - (m : Int)) = (b : Int) - (m : Int) := IntWalk.i64_in _ (by omega)
  clear hd
  go_enter Tryz.func212, Tryz.ntmps212
  go_wp2
  go_loopw [10, 11] (fun x y wr => ∃ (i j : Nat) (e : Nat → Int), 0 < i ∧ 0 < j ∧ i ≤ m ∧ m + j ≤ N ∧ x = .int .i64 i ∧ y = .int .i64 j ∧ Hid (rot e (m - i) m (m + j) = rot d a m b) ∧ Hid (DAt wr g N e) ∧ Hid (Below g w wr)) (fun x y _ => (intOf x).toNat + (intOf y).toNat)
  case atStart => exact ⟨m - a, b - m, d, by omega, by omega, by omega, by omega, by go_num, by go_num, hide (by rw [show m - (m - a) = a from by omega, show m + (b - m) = b from by omega]), HD, hide (Below.refl _ _)⟩
  case round =>
    obtain ⟨i, j, e, hi, hj, him, hjN, rfl, rfl, hr, hD, hB⟩ := hrel
    have k1 : IntKind.i64.wrap ((m : Int) - (i : Int)) = ((m - i : Nat) : Int) := (IntWalk.i64_in _ (by omega)).trans (by omega)
    rcases Nat.lt_trichotomy i j with hc | hc | hc
    · have x1 : ((i : Int) != (j : Int)) = true := by simp; omega
      have x2 : ¬ (i : Int) = (j : Int) := by omega
      have x2' : ¬ i = j := by omega
      have x3 : decide ((j : Int) < (i : Int)) = false := by simp; omega
      have x4 : decide (j < i) = false := by simp; omega
      have k2 : IntKind.i64.wrap ((m : Int) + (j : Int)) = (m : Int) + (j : Int) := IntWalk.i64_in _ (by omega)
      have k3 : IntKind.i64.wrap ((m : Int) + (j : Int) - (i : Int)) = ((m + j - i : Nat) : Int) := (IntWalk.i64_in _ (by omega)).trans (by omega)
      have k4 : IntKind.i64.wrap ((j : Int) - (i : Int)) = ((j - i : Nat) : Int) := (IntWalk.i64_in _ (by omega)).trans (by omega)
      have N1 := fun W h => swapRange_any g N (m - i) (m + j - i) i fv e W h (by omega) (by omega) hN
      have HR : Hid (rot (swr e (m - i) (m + j - i) i) (m - i) m (m + (j - i)) = rot d a m b) := hide ((rot_right him hc).trans hr.out)
      go_wp2_with fail
      refine (N1 _ (by first | exact hD.out | exact hD.out.drew)).mono ?_
      rintro e w1 ⟨⟨v, rfl⟩, hD1, hB1⟩
      have HD1 := hide hD1
      have HB1 : Hid (Below g w w1) := hide (hB.out.trans (hB1.mono (Nat.le_refl _)))
      clear hD1 hB1 N1
      go_wp2
      go_roundw
      case rel => exact ⟨i, j - i, _, by omega, by omega, by omega, by omega, rfl, by go_num, HR, HD1, HB1⟩
      case measure => simp [intOf] <;> omega
    · subst hc
      have x1 : ((i : Int) != (i : Int)) = false := by simp
      have N1 := fun W h => swapRange_any g N (m - i) m i fv e W h (by omega) (by omega) hN
      have HR : Hid (swr e (m - i) m i = rot d a m b) := hide ((rot_eq him).trans hr.out)
      go_wp2_with fail
      refine (N1 _ (by first | exact hD.out | exact hD.out.drew)).mono ?_
      rintro e w1 ⟨⟨v, rfl⟩, hD1, hB1⟩
      have HD1 := hide hD1
      have HB1 : Hid (Below g w w1) := hide (hB.out.trans (hB1.mono (Nat.le_refl _)))
      clear hD1 hB1 N1
      go_wp2
      ((try simp only [Exit.inBlock, Exit.then]); refine bodyPost_ret (results_none rfl _ _ _) rfl ?_)
      exact ⟨⟨_, rfl⟩, by rw [← HR.out]; exact HD1.out, HB1.out⟩
    · have x1 : ((i : Int) != (j : Int)) = true := by simp; omega
      have x2 : ¬ (i : Int) = (j : Int) := by omega
      have x2' : ¬ i = j := by omega
      have x3 : decide ((j : Int) < (i : Int)) = true := by simp; omega
      have x4 : decide (j < i) = true := by simp; omega
      have k4 : IntKind.i64.wrap ((i : Int) - (j : Int)) = ((i - j : Nat) : Int) := (IntWalk.i64_in _ (by omega)).trans (by omega)
      have N1 := fun W h => swapRange_any g N (m - i) m j fv e W h (by omega) (by omega) hN
      have HR : Hid (rot (swr e (m - i) m j) (m - (i - j)) m (m + j) = rot d a m b) := hide ((rot_left him hc).trans hr.out)
      go_wp2_with fail
      refine (N1 _ (by first | exact hD.out | exact hD.out.drew)).mono ?_
      rintro e w1 ⟨⟨v, rfl⟩, hD1, hB1⟩
      have HD1 := hide hD1
      have HB1 : Hid (Below g w w1) := hide (hB.out.trans (hB1.mono (Nat.le_refl _)))
      clear hD1 hB1 N1
      go_wp2
      go_roundw
      case rel => exact ⟨i - j, j, _, by omega, by omega, by omega, by omega, by go_num, rfl, HR, HD1, HB1⟩
      case measure => simp [intOf] <;> omega
end Go.Proofs.YtmiimpmfkjcjlaaGreat
