/- A region whose order Go leaves open, walked in one order, of which the last operations (the late ones: each waits for all that is taken) may turn what the others read. -/
import Derived.Test.YtfghmlpjbedomaaGreatBun1
namespace Go.Proofs.YtfghmlpjbedomaaGreat
open Go.RowKit

/-- Does number j wait for number i, itself or through others? -/
def needs (ops : Array Oper) : Nat → Nat → Nat → Bool
  | 0, _, _ => false
  | k + 1, j, i => match ops[j]? with
    | none => false
    | some o => o.after.any fun e => Region.binds .any e && (e.on == i || needs ops k e.on i)
def Closed (ops : Array Oper) (listed : Array Bool) : Prop := ∀ (j : Nat) (o : Oper), ops[j]? = some o → listed[j]? = some true → ∀ e ∈ o.after, Region.binds .any e = true → listed[e.on]? = some true

theorem getD_off {l : Array Bool} {i : Nat} (h : l.getD i false = true) : l[i]? = some true := by
  rw [Array.getD_eq_getD_getElem?] at h
  rcases hq : l[i]? with _ | b
  · rw [hq] at h; cases h
  · rw [hq] at h; simp at h; rw [h]
theorem getD_on {l : Array Bool} {i : Nat} (h : l.getD i true = false) : l[i]? = some false := by
  rw [Array.getD_eq_getD_getElem?] at h
  rcases hq : l[i]? with _ | b
  · rw [hq] at h; cases h
  · rw [hq] at h; simp at h; rw [h]
theorem set_on {l : Array Bool} {i j : Nat} (h : l[j]? = some true) : (l.setIfInBounds i true)[j]? = some true := by
  rw [Array.getElem?_setIfInBounds]
  split
  · rename_i e
    subst e
    have := (Array.getElem?_eq_some_iff.1 h).1
    simp [this]
  · exact h

section
variable {P : Program} {ops : Array Oper} {Q : Exit → Act → World → Prop} {S : World → Prop} {late : List Nat}

theorem closed_start : Closed ops (Array.replicate ops.size false) := by
  intro j o _ hj
  rw [Array.getElem?_replicate] at hj
  split at hj <;> cases hj
theorem closed_set {listed : Array Bool} {i : Nat} (h : Closed ops listed) (hi : i ∈ Region.ready .any ops listed) : Closed ops (listed.setIfInBounds i true) := by
  intro j o ho hj e he hb
  refine set_on ?_
  by_cases hji : j = i
  · subst hji
    obtain ⟨_, o', ho', hall⟩ := mem_ready.1 hi
    rw [ho] at ho'
    cases ho'
    exact getD_off (hall e he hb)
  · rw [Array.getElem?_setIfInBounds, if_neg (Ne.symm hji)] at hj
    exact h j o ho hj e he hb
theorem needs_listed {listed : Array Bool} (h : Closed ops listed) {i : Nat} : ∀ (k j : Nat), (∀ o, ops[j]? = some o → ∀ e ∈ o.after, Region.binds .any e = true → listed[e.on]? = some true) → needs ops k j i = true → listed[i]? = some true
  | 0, _, _, hn => by simp [needs] at hn
  | k + 1, j, hj, hn => by
    unfold needs at hn
    rcases ho : ops[j]? with _ | o
    · rw [ho] at hn; simp at hn
    · rw [ho] at hn
      simp only [Array.any_eq_true, Bool.and_eq_true, Bool.or_eq_true, beq_iff_eq] at hn
      obtain ⟨m, hm, hb, hh⟩ := hn
      have hl := hj o ho o.after[m] (Array.getElem_mem hm) hb
      rcases hh with hh | hh
      · rw [← hh]; exact hl
      · exact needs_listed h k _ (fun o' ho' e he hb' => h _ o' ho' hl e he hb') hh

/-- Whatever order is picked from here on, and S holds behind every operation that is not late. -/
def anyL (P : Program) (ops : Array Oper) (Q : Exit → Act → World → Prop) (S : World → Prop) (late : List Nat) : Nat → Array Bool → Act → World → Prop
  | 0, listed, a, w => Region.ready .any ops listed = [] ∧ Q .normal a w
  | k + 1, listed, a, w =>
    (Region.ready .any ops listed = [] → Q .normal a w) ∧
    ∀ i ∈ Region.ready .any ops listed, wpOp P ops Q i (fun a' w' => (late.contains i = false → S w') ∧ anyL P ops Q S late k (listed.setIfInBounds i true) a' w') a w

theorem anyL_any : ∀ (k : Nat) (listed : Array Bool) (a : Act) (w : World), anyL P ops Q S late k listed a w → wpAny P .any ops Q k listed a w
  | 0, _, _, _, h => h
  | k + 1, _, _, _, h => ⟨h.1, fun i hi => wpOp_mono (fun _ _ q => anyL_any k _ _ _ q.2) (h.2 i hi)⟩
theorem anyL_done {listed : Array Bool} {a : Act} {w : World} (hr : Region.ready .any ops listed = []) (h : Q .normal a w) : ∀ k, anyL P ops Q S late k listed a w
  | 0 => ⟨hr, h⟩
  | _ + 1 => ⟨fun _ => h, by rw [hr]; simp⟩

theorem anyL_first {i : Nat} {oi : Oper} {v : Value} (hi : ops[i]? = some oi) (hsel : ∀ (j : Nat) (o : Oper) cs b, ops[j]? = some o → o.op ≠ .select cs b) (hQ : ∀ c a w, Q (.panic c) (a.put oi.dst v) w → Q (.panic c) a w)
    (m : Nat) (hlate : ∀ j, late.contains j = true → j ≠ i → needs ops m j i = true) (k : Nat) :
    ∀ (listed : Array Bool) (a : Act) (w : World), Closed ops listed → (∀ j oj, ops[j]? = some oj → j ≠ i → listed.getD j true = false → (∀ e ∈ oj.after, Region.binds .any e = true → e.on ≠ i) → oi.apart ops oj = true) →
      i ∈ Region.ready .any ops listed → YieldsIf P ops S oi v a → S w → anyL P ops Q S late k (listed.setIfInBounds i true) (a.put oi.dst v) w → anyL P ops Q S late (k + 1) listed a w := by
  induction k with
  | zero =>
    intro listed a w _ _ hr hy hS H
    refine ⟨fun e => by rw [e] at hr; exact absurd hr (by simp), fun j hj => ?_⟩
    rcases Decidable.em (j = i) with rfl | hne
    · exact hy.wpOp hi hS ⟨fun _ => hS, H⟩
    · have := ready_mono hj hne
      rw [H.1] at this
      exact absurd this (by simp)
  | succ k ih =>
    intro listed a w hcl hfree hr hy hS H
    refine ⟨fun e => by rw [e] at hr; exact absurd hr (by simp), fun j hj => ?_⟩
    rcases Decidable.em (j = i) with rfl | hne
    · exact hy.wpOp hi hS ⟨fun _ => hS, H⟩
    · obtain ⟨hjun, oj, hoj, hall⟩ := mem_ready.1 hj
      have hun := (mem_ready.1 hr).1
      have hnot : ∀ e ∈ oj.after, Region.binds .any e = true → e.on ≠ i := by
        intro e he hb hei
        have := getD_off (hall e he hb)
        rw [hei, getD_on hun] at this
        cases this
      have hnl : late.contains j = false := by
        rcases hq : late.contains j with _ | _
        · rfl
        · have := needs_listed hcl m j (fun o ho e he hb => by rw [hoj] at ho; cases ho; exact getD_off (hall e he hb)) (hlate j hq hne)
          rw [getD_on hun] at this
          cases this
      have step := wpOp_putIf hoj (hfree j oj hoj hne hjun hnot) (fun cs b => hsel i oi cs b hi) (fun cs b => hsel j oj cs b hoj) hQ hy (H.2 j (ready_mono hj hne))
      refine wpOp_mono ?_ step
      rintro a' w' ⟨hy', hS', H'⟩
      refine ⟨fun _ => hS' hnl, ih _ a' w' (closed_set hcl hj) (fun q om hm hmi hmu hmn => hfree q om hm hmi ?_ hmn) (ready_mono hr (Ne.symm hne)) hy' (hS' hnl) ?_⟩
      · rcases Decidable.em (j = q) with rfl | hjm
        · exact hjun
        · rwa [getD_set_ne true hjm] at hmu
      · rw [Array.setIfInBounds_comm _ _ hne]
        exact H'

def seqChkL (ops : Array Oper) (late : List Nat) : Plan → Array Bool → Bool → Bool
  | .done, listed, _ => (Region.ready .any ops listed).isEmpty
  | .take i r, listed, d => (!d) && (Region.free .any ops listed i && ((Region.ready .any ops listed).contains i && ((late.all fun j => j == i || needs ops ops.size j i) && seqChkL ops late r (listed.setIfInBounds i true) d)))
  | .run i r, listed, d => (Region.ready .any ops listed == [i]) && seqChkL ops late r (listed.setIfInBounds i true) (d || late.contains i)
  | .fork i p j q, listed, d => (Region.ready .any ops listed == [i, j]) && ((p.size == q.size) && (seqChkL ops late p (listed.setIfInBounds i true) (d || late.contains i) && seqChkL ops late q (listed.setIfInBounds j true) (d || late.contains j)))

def wpSeqL (P : Program) (ops : Array Oper) (Q : Exit → Act → World → Prop) (S : World → Prop) (late : List Nat) : Plan → Act → World → Prop
  | .done, a, w => Q .normal a w
  | .take i r, a, w => ∃ o v, ops[i]? = some o ∧ YieldsIf P ops S o v a ∧ wpSeqL P ops Q S late r (a.put o.dst v) w
  | .run i r, a, w => wpOp P ops Q i (fun a' w' => (late.contains i = false → S w') ∧ wpSeqL P ops Q S late r a' w') a w
  | .fork i p j q, a, w => wpOp P ops Q i (fun a' w' => (late.contains i = false → S w') ∧ wpSeqL P ops Q S late p a' w') a w ∧ wpOp P ops Q j (fun a' w' => (late.contains j = false → S w') ∧ wpSeqL P ops Q S late q a' w') a w

theorem wpSeqL_sound (hs : Region.noSelect ops = true) (hQ : ∀ c d v (a : Act) w, Q (.panic c) (a.put d v) w → Q (.panic c) a w) :
    ∀ (ord : Plan) (listed : Array Bool) (d : Bool) (a : Act) (w : World), seqChkL ops late ord listed d = true → Closed ops listed → (d = false → S w) → wpSeqL P ops Q S late ord a w → anyL P ops Q S late ord.size listed a w
  | .done, listed, d, a, w, hc, _, _, h => anyL_done (by simpa [seqChkL] using hc) h _
  | .take i r, listed, d, a, w, hc, hcl, hS, h => by
    obtain ⟨o, v, ho, hy, h⟩ := h
    simp only [seqChkL, Bool.and_eq_true, Bool.not_eq_true', List.all_eq_true, Bool.or_eq_true, beq_iff_eq] at hc
    obtain ⟨hd, hf, hr, hl, hc⟩ := hc
    have hr' : i ∈ Region.ready .any ops listed := by simpa using hr
    refine anyL_first ho (Region.noSelect_spec hs) (fun c a w => hQ c _ _ a w) ops.size (fun j hj hne => ?_) r.size listed a w hcl (Region.free_spec ho hf) hr' hy (hS hd) ?_
    · exact (hl j (by simpa using hj)).resolve_left hne
    · exact wpSeqL_sound hs hQ r _ d _ w hc (closed_set hcl hr') hS h
  | .run i r, listed, d, a, w, hc, hcl, hS, h => by
    simp only [seqChkL, Bool.and_eq_true, beq_iff_eq] at hc
    refine ⟨fun e => (by rw [hc.1] at e; cases e), fun j hj => ?_⟩
    have hj' := hj
    rw [hc.1] at hj
    obtain rfl : j = i := by simpa using hj
    exact wpOp_mono (fun a' w' h' => ⟨h'.1, wpSeqL_sound hs hQ r _ _ a' w' hc.2 (closed_set hcl hj') (fun e => h'.1 (by simp at e; simpa using e.2)) h'.2⟩) h
  | .fork i p j q, listed, d, a, w, hc, hcl, hS, h => by
    simp only [seqChkL, Bool.and_eq_true, beq_iff_eq] at hc
    refine ⟨fun e => (by rw [hc.1] at e; cases e), fun k hk => ?_⟩
    have hk' := hk
    rw [hc.1] at hk
    simp only [List.mem_cons, List.not_mem_nil, or_false] at hk
    rcases hk with rfl | rfl
    · exact wpOp_mono (fun a' w' h' => ⟨h'.1, wpSeqL_sound hs hQ p _ _ a' w' hc.2.2.1 (closed_set hcl hk') (fun e => h'.1 (by simp at e; simpa using e.2)) h'.2⟩) h.1
    · have hsz : p.size = q.size := hc.2.1
      show wpOp P ops Q k (fun a' w' => _ ∧ anyL P ops Q S late p.size _ a' w') a w
      rw [hsz]
      exact wpOp_mono (fun a' w' h' => ⟨h'.1, wpSeqL_sound hs hQ q _ _ a' w' hc.2.2.2 (closed_set hcl hk') (fun e => h'.1 (by simp at e; simpa using e.2)) h'.2⟩) h.2
end

theorem wp_region_seql {P : Program} {l : List Oper} {Q : Exit → Act → World → Prop} {id : Nat} {a : Act} {w : World} (S : World → Prop) (late : List Nat) (ord : Plan)
    (hm : P.follows .mixedOrders = true) (hs : Region.noSelect l.toArray = true) (hc : (seqChkL l.toArray late ord (Array.replicate l.toArray.size false) false && (ord.size == l.toArray.size)) = true)
    (hS : S w.drew) (h : wpSeqL P l.toArray (NoPanic Q) S late ord a w.drew) : (Code.region id l.toArray true).wp P Q a w := by
  simp only [Bool.and_eq_true, beq_iff_eq] at hc
  refine wp_region_noPanic (wp_region_any hm ?_)
  have := wpSeqL_sound (P := P) (Q := NoPanic Q) hs (fun c d v a w h => (h : False).elim) ord (Array.replicate l.toArray.size false) false a w.drew hc.1 closed_start (fun _ => hS) h
  rw [hc.2] at this
  exact anyL_any _ _ _ _ this

section
variable {P : Program} {l : List Oper} {Q : Exit → Act → World → Prop} {S : World → Prop} {late : List Nat} {i : Nat} {r : Plan} {a : Act} {w : World}
theorem seql_take {o : Oper} {v : Value} (ho : nth l i = some o) (hw : Region.wanted o (yielded l.toArray a.tmps) = true) (hy : ∀ w, S w → (execOp a.eval o).run P w = .ok (.value v) w)
    (h : wpSeqL P l.toArray Q S late r (a.put o.dst v) w) : wpSeqL P l.toArray Q S late (.take i r) a w := ⟨o, v, nth_arr ho, Or.inl ⟨hw, hy⟩, h⟩
theorem seql_skip {o : Oper} (ho : nth l i = some o) (hw : Region.wanted o (yielded l.toArray a.tmps) = false) (h : wpSeqL P l.toArray Q S late r (a.put o.dst undef) w) : wpSeqL P l.toArray Q S late (.take i r) a w :=
  ⟨o, undef, nth_arr ho, Or.inr ⟨hw, rfl⟩, h⟩
theorem opl_run {Z : World → Prop} {K : Act → World → Prop} {o : Oper} (ho : nth l i = some o) (hw : Region.wanted o (yielded l.toArray a.tmps) = true)
    (h : ∀ K' : Act → World → Prop, (∀ a w, Z w → K a w → K' a w) → Oper.wp P o a w K' Q) : wpOp P l.toArray Q i (fun a' w' => Z w' ∧ K a' w') a w := by
  unfold wpOp
  rw [nth_arr ho]
  simp only [hw, if_true]
  exact Or.inl (h _ fun a w hS hr => ⟨hS, hr⟩)
/-- An operation that is not late. -/
theorem seql_run {o : Oper} (ho : nth l i = some o) (hw : Region.wanted o (yielded l.toArray a.tmps) = true)
    (h : ∀ K : Act → World → Prop, (∀ a w, S w → wpSeqL P l.toArray Q S late r a w → K a w) → Oper.wp P o a w K Q) : wpSeqL P l.toArray Q S late (.run i r) a w :=
  opl_run (Z := fun w' => late.contains i = false → S w') (K := wpSeqL P l.toArray Q S late r) ho hw fun K hK => h K fun a w hS hr => hK a w (fun _ => hS) hr
/-- A late one. -/
theorem seql_late {o : Oper} (hl : late.contains i = true) (ho : nth l i = some o) (hw : Region.wanted o (yielded l.toArray a.tmps) = true)
    (h : ∀ K : Act → World → Prop, (∀ a w, wpSeqL P l.toArray Q S late r a w → K a w) → Oper.wp P o a w K Q) : wpSeqL P l.toArray Q S late (.run i r) a w :=
  opl_run (Z := fun w' => late.contains i = false → S w') (K := wpSeqL P l.toArray Q S late r) ho hw fun K hK => h K fun a w hr => hK a w (fun e => by rw [hl] at e; cases e) hr
theorem seql_pass {o : Oper} (ho : nth l i = some o) (hw : Region.wanted o (yielded l.toArray a.tmps) = false) (hS : late.contains i = false → S w) (h : wpSeqL P l.toArray Q S late r (a.put o.dst undef) w) : wpSeqL P l.toArray Q S late (.run i r) a w := by
  show wpOp P l.toArray Q i (fun a' w' => (late.contains i = false → S w') ∧ wpSeqL P l.toArray Q S late r a' w') a w
  unfold wpOp
  rw [nth_arr ho]
  simp only [hw]
  exact ⟨hS, h⟩
theorem seql_fork {j : Nat} {q : Plan} (h1 : wpSeqL P l.toArray Q S late (.run i r) a w) (h2 : wpSeqL P l.toArray Q S late (.run j q) a w) : wpSeqL P l.toArray Q S late (.fork i r j q) a w := ⟨h1, h2⟩
theorem seql_nil (h : Q .normal a w) : wpSeqL P l.toArray (NoPanic Q) S late .done a w := h
end

attribute [irreducible] wpSeqL
end Go.Proofs.YtfghmlpjbedomaaGreat
