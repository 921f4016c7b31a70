/- Rows, the core: from arguments that can be read to plain data (slices of calls, of events, of numbers), and from a walk that says 'true, and all that lay lies as it lay' to the row. -/
/- Reading accesses (access.Access), and slices of them. -/
import Derived.Test.YtfghmlpjbedomaaGreatChecked
import Derived.Test.YtfghmlpjbedomaaGreatRows
import Derived.Test.YtfghmlpjbedomaaGreatBase
import Derived.Deep.Slices
import Derived.Deep.Fields
import Derived.ChangeSame
import Derived.OpenShut
import Derived.ProofKit
import Derived.Test.YtfghmlpjbedomaaGreatAq1
namespace Go.Proofs.YtfghmlpjbedomaaGreat
open Go.ChangeShapes Go.WideShapes Go.ChangeAt Go.RowKit Go.Deep

theorem Tryz.own : ownKnob Tryz.prog.godebug = none := by kernel_rfl
theorem Tryz.laidOut : laidOutB Tryz.prog = true := by kernel_rfl

section
variable {H : Type} {enc : TypeId × Value → H} {P : Program}
theorem post_of_below {f : Func} {s : ChangeSpec} {apart fresh handsOn again : Bool} {W W' : World} {args : Array Value} {v : Value} {ds gs : List (DataW H)} {before pa pv : List MemPlace}
    (hW : DataW.Whole enc P f.params.toList s.vars apart W args.toList ds gs before)
    (hres : ∀ (b : Nat) (sp : Nat → Bool) (hd : Bool), DataW.TrodAll enc P W' b sp hd f.resultTypes.toList (v.resultList f.resultTypes.size) (s.fn H (ds ++ gs)).results [])
    (hargs : ∀ sp : Nat → Bool, (∀ p ∈ before, sp p.block = true) → DataW.TrodAll enc P W' 0 sp true f.params.toList args.toList (s.fn H (ds ++ gs)).args pa)
    (hvars : ∀ sp : Nat → Bool, (∀ p ∈ before, sp p.block = true) → DataW.TrodVars enc P W' sp s.vars (s.fn H (ds ++ gs)).vars pv)
    (hps : before = pa ++ pv) (hb : Below W.heap.size W W')
    (hok : ∀ (j : Nat) (t : TypeId) (r : Value), f.resultTypes[j]? = some t → (v.resultList f.resultTypes.size)[j]? = some r → Value.okWide P W' .any 0 t r) :
    s.post enc P f apart fresh handsOn again W args v W' := by
  have hlt : ∀ p ∈ before, p.block < W.heap.size := fun p hp => hW.lt p hp
  have hold : ∀ p ∈ before, (fun b => decide (b < W.heap.size)) p.block = true := fun p hp => by simpa using hlt p hp
  refine ⟨ds, gs, before, [], pa, pv, hW, hres _ _ _, hargs _ hold, hvars _ hold, World.keptBut_mono (fun p hp => ⟨hp, ?_⟩) (hb.frame (· ∈ before)), fun _ => ?_⟩
  · rw [hps, List.mem_append] at hp
    exact Or.inr hp
  · obtain ⟨_, _, _, _, _, hz, hn⟩ := hW
    refine ⟨hok, _, _, ([] ++ pa) ++ pv, ⟨[] ++ pa, pv, trodAll_append (hargs _ (fun _ _ => rfl)) (hres _ _ _), hvars _ (fun _ _ => rfl), rfl, ?_, ?_⟩, ?_⟩
    · intro b off hp
      have hin : MemPlace.cell b off ∈ before := by rw [hps]; simpa using hp
      rw [hb.frozen (hlt _ hin)]
      exact hz b off hin
    · intro ha
      have := hn ha
      rw [hps] at this
      simpa using this
    · intro p hp _
      rw [hps]
      simpa using hp

theorem trodAll_stays (hl : laidOutB P = true) {W W' : World} (hb : Below W.heap.size W W') {sp : Nat → Bool} : ∀ {ts : List TypeId} {vs : List Value} {ds : List (DataW H)} {ps : List MemPlace},
    (∀ t ∈ ts, P.readableRec t = true ∧ t < P.types.size) → DataW.TrodAll enc P W 0 (fun _ => true) true ts vs ds ps → (∀ p ∈ ps, p.block < W.heap.size) → (∀ p ∈ ps, sp p.block = true) →
    DataW.TrodAll enc P W' 0 sp true ts vs ds ps
  | [], [], [], _, _, h, _, _ => h
  | t :: ts, v :: vs, d :: ds, ps, ht, h, hlt, hs => by
    obtain ⟨p, q, h1, h2, rfl⟩ := h
    obtain ⟨hr, hrow⟩ := ht t (by simp)
    exact ⟨p, q, WideElems.Trod_stays hl hr hrow h1 (fun x hx => hb.same (hlt x (by simp [hx]))) (fun x hx => hs x (by simp [hx])), trodAll_stays hl hb (fun t h => ht t (by simp [h])) h2 (fun p h => hlt p (by simp [h])) (fun p h => hs p (by simp [h])), rfl⟩

/-- A slice that can be read is a list of encoded things, if each element that can be read is one. -/
theorem read_slv {α : Type} (en : α → List Value) (sz : Nat) (good : α → Prop) {W : World} {t e : TypeId} {v : Value} {d : DataW H} {p : List MemPlace} (ht : P.underlying t = some (.slice e)) (hC : P.cellsOf e = sz)
    (hel : ∀ (n : Nat) (cs : List Value) (x : DataW H × List MemPlace), cs.length = sz → DataW.trod enc P W 0 (fun _ => true) true n e cs = some x → ∃ a, cs = en a ∧ good a)
    (hv : ∃ a0 len0 cap0, v = .slice a0 len0 cap0) (h : DataW.Trod enc P W 0 (fun _ => true) true t v d p) (hsz : 0 < sz) : ∃ xs : List α, Sl en sz W v xs ∧ (∀ x ∈ xs, good x) ∧ xs.length ≤ maxLen := by
  obtain ⟨a0, len0, cap0, rfl⟩ := hv
  obtain ⟨fuel, hf⟩ := h
  rcases open_slice ht hf with ⟨hcs, _⟩ | ⟨a, len, cap, m, n, D, Pl, hcs, _, hlc, hcm, hm, _, hi⟩
  · simp only [Value.cells] at hcs
    cases hcs
    exact ⟨[], ⟨none, 0, rfl, Nat.le_refl _, Nat.zero_le _, fun k x hx => by simp at hx⟩, by simp, Nat.zero_le _⟩
  · simp only [Value.cells] at hcs
    cases hcs
    simp only [if_true] at hm
    subst hm
    have hel' : ∀ i, i < len0 → ∃ x : α, (∀ j u, (en x)[j]? = some u → W.cell? ((a.add (i * sz)).add j) = some u) ∧ good x ∧ (en x).length = sz := by
      intro i him
      obtain ⟨cs', hc, ht'⟩ := hi i (by omega)
      rw [hC] at hc
      obtain ⟨_, hcl, hat⟩ := World.cells?_some hc
      obtain ⟨x, rfl, hg⟩ := hel n cs' _ hcl ht'
      refine ⟨x, fun j u hu => ?_, hg, hcl⟩
      have hj : j < (en x).length := (List.getElem?_eq_some_iff.1 hu).1
      exact (hat j (by omega)).trans hu
    have hx : ∃ xs : List α, xs.length = len0 ∧ ∀ (i : Nat) (x : α), xs[i]? = some x → (∀ j u, (en x)[j]? = some u → W.cell? ((a.add (i * sz)).add j) = some u) ∧ good x ∧ (en x).length = sz := by
      clear hi hf
      have : ∀ k, k ≤ len0 → ∃ xs : List α, xs.length = k ∧ ∀ (i : Nat) (x : α), xs[i]? = some x → (∀ j u, (en x)[j]? = some u → W.cell? ((a.add (i * sz)).add j) = some u) ∧ good x ∧ (en x).length = sz := by
        intro k
        induction k with
        | zero => intro _; exact ⟨[], rfl, by simp⟩
        | succ k ih =>
          intro hk
          obtain ⟨xs, hl, hxs⟩ := ih (by omega)
          obtain ⟨x, hx⟩ := hel' k (by omega)
          refine ⟨xs ++ [x], by simp [hl], fun i y hy => ?_⟩
          rw [List.getElem?_append] at hy
          split at hy
          · exact hxs i y hy
          · rename_i hge
            have hik : i = k := by
              have := (List.getElem?_eq_some_iff.1 hy).1
              simp at this; omega
            subst hik
            rw [hl] at hy; simp at hy; subst hy; exact hx
      exact this len0 (Nat.le_refl _)
    obtain ⟨xs, hl, hxs⟩ := hx
    refine ⟨xs, ⟨some a, m, by rw [hl], by omega, hcm, fun k x hk => ?_⟩, fun x hx => ?_, by omega⟩
    · obtain ⟨h1, _, h2⟩ := hxs k x hk
      have h0 : 0 < xs.length := by have := (List.getElem?_eq_some_iff.1 hk).1; omega
      obtain ⟨y, hy⟩ : ∃ y, xs[0]? = some y := ⟨_, List.getElem?_eq_getElem h0⟩
      obtain ⟨g1, _, g2⟩ := hxs 0 y hy
      have hu : ∃ u, (en y)[0]? = some u := ⟨_, List.getElem?_eq_getElem (by omega)⟩
      obtain ⟨u, hu⟩ := hu
      have hcell : W.cell? a = some u := by have := g1 0 u hu; simpa [Addr.add] using this
      have hspot : a.spot = none := by
        unfold World.cell? at hcell
        split at hcell
        · split at hcell
          · cases hcell
          · rename_i hs; simpa using hs
        · cases hcell
      have hblk := World.block_lt_of_cell? W a hcell
      obtain ⟨b, o, sp⟩ := a
      simp only at hspot
      subst hspot
      refine ⟨b, o, rfl, hblk, fun j u hu => ?_⟩
      have := h1 j u hu
      rw [← this]
      congr 1
      unfold Addr.add
      by_cases e1 : k * sz = 0 <;> by_cases e2 : j = 0 <;> simp [e1, e2, Nat.add_assoc]
    · obtain ⟨i, hi, rfl⟩ := List.getElem_of_mem hx
      exact (hxs i _ (List.getElem?_eq_getElem hi)).2.1
/-- A slice argument is a list of encoded things, if each element that can be read is one. -/
theorem read_sl {α : Type} (en : α → List Value) (sz : Nat) (good : α → Prop) {W : World} {t e : TypeId} {v : Value} {d : DataW H} {p : List MemPlace} (ht : P.underlying t = some (.slice e)) (hC : P.cellsOf e = sz)
    (hel : ∀ (n : Nat) (cs : List Value) (x : DataW H × List MemPlace), cs.length = sz → DataW.trod enc P W 0 (fun _ => true) true n e cs = some x → ∃ a, cs = en a ∧ good a)
    {r : Reach} {b0 : Nat} (hv : Value.okWide P W r b0 t v) (h : DataW.Trod enc P W 0 (fun _ => true) true t v d p) (hsz : 0 < sz) : ∃ xs : List α, Sl en sz W v xs ∧ (∀ x ∈ xs, good x) ∧ xs.length ≤ maxLen :=
  read_slv en sz good ht hC hel (by obtain ⟨a, b, c, rfl⟩ := okWide_slice ht hv; exact ⟨_, _, _, rfl⟩) h hsz
end

theorem c_int : Tryz.prog.cellsOf 3 = 1 := by kernel_rfl
theorem c_u64 : Tryz.prog.cellsOf 37 = 1 := by kernel_rfl

section
variable {H : Type} {enc : TypeId × Value → H} {W : World} {r : Reach} {b0 : Nat} {v : Value} {d : DataW H} {p : List MemPlace}

set_option maxRecDepth 100000 in
theorem read_int (hv : Value.okWide Tryz.prog W r b0 3 v) (h : DataW.Trod enc Tryz.prog W 0 (fun _ => true) true 3 v d p) : ∃ n : Int, v = .int .i64 n ∧ (Lit.int .i64 n).wf = true := by
  obtain ⟨n, rfl⟩ := okWide_int Tryz.underlying3 hv
  obtain ⟨fuel, hf⟩ := h
  obtain ⟨a, e, _, w⟩ := DataW.trod_int Tryz.underlying3 hf
  simp [Value.cells] at e
  subst e
  exact ⟨_, rfl, w⟩
set_option maxRecDepth 100000 in
theorem read_word (hv : Value.okWide Tryz.prog W r b0 37 v) (h : DataW.Trod enc Tryz.prog W 0 (fun _ => true) true 37 v d p) : ∃ n : Int, v = .int .u64 n ∧ (Lit.int .u64 n).wf = true := by
  obtain ⟨n, rfl⟩ := okWide_int Tryz.underlying37 hv
  obtain ⟨fuel, hf⟩ := h
  obtain ⟨a, e, _, w⟩ := DataW.trod_int Tryz.underlying37 hf
  simp [Value.cells] at e
  subst e
  exact ⟨_, rfl, w⟩

set_option maxRecDepth 100000 in
theorem read_ints (hv : Value.okWide Tryz.prog W r b0 22 v) (h : DataW.Trod enc Tryz.prog W 0 (fun _ => true) true 22 v d p) : ∃ xs : List Int, SlI W v xs ∧ (∀ x ∈ xs, (Lit.int .i64 x).wf = true) ∧ xs.length ≤ maxLen :=
  read_sl (ntEnc .i64) 1 (fun x => (Lit.int .i64 x).wf = true) Tryz.underlying22 c_int (fun n cs x _ hx => by obtain ⟨a, e, _, w⟩ := DataW.trod_int Tryz.underlying3 hx; exact ⟨a, e, w⟩) hv h (by decide)
set_option maxRecDepth 100000 in
theorem read_words (hv : Value.okWide Tryz.prog W r b0 33 v) (h : DataW.Trod enc Tryz.prog W 0 (fun _ => true) true 33 v d p) : ∃ xs : List Int, SlW W v xs ∧ (∀ x ∈ xs, (Lit.int .u64 x).wf = true) ∧ xs.length ≤ maxLen :=
  read_sl (ntEnc .u64) 1 (fun x => (Lit.int .u64 x).wf = true) Tryz.underlying33 c_u64 (fun n cs x _ hx => by obtain ⟨a, e, _, w⟩ := DataW.trod_int Tryz.underlying37 hx; exact ⟨a, e, w⟩) hv h (by decide)
end

set_option maxRecDepth 100000 in
/-- A row's end: the law returned true, and all that lay lies as it lay. -/
theorem law_post {H : Type} {enc : TypeId × Value → H} {f : Func} {s : ChangeSpec} {apart : Bool} {W W' : World} {args : Array Value} {ds : List (DataW H)} {before : List MemPlace}
    (hr : f.resultTypes = #[4]) (hvars : s.vars = []) (hW : DataW.Whole enc Tryz.prog f.params.toList s.vars apart W args.toList ds [] before)
    (hA : DataW.TrodAll enc Tryz.prog W 0 (fun _ => true) true f.params.toList args.toList ds before)
    (hres : (s.fn H (ds ++ [])).results = [.lit (.bool true)]) (hargs : (s.fn H (ds ++ [])).args = ds) (hv : (s.fn H (ds ++ [])).vars = [])
    (hts : ∀ t ∈ f.params.toList, Tryz.prog.readableRec t = true ∧ t < Tryz.prog.types.size) (hb : Below W.heap.size W W') :
    s.post enc Tryz.prog f apart true false false W args (.bool true) W' := by
  have hlt : ∀ p ∈ before, p.block < W.heap.size := fun p hp => hW.lt p hp
  refine post_of_below (pa := before) (pv := []) hW (fun b sp hd => ?_) (fun sp hsp => ?_) (fun sp hsp => ?_) (by simp) hb ?_
  · rw [hres, hr]
    exact trodAll_mk1 (shut_bool Tryz.underlying4 true)
  · rw [hargs]
    exact trodAll_stays Tryz.laidOut hb hts hA hlt hsp
  · rw [hv, hvars]; rfl
  · exact ok_one hr rfl (okWide_bool_mk Tryz.underlying4 true)
end Go.Proofs.YtfghmlpjbedomaaGreat

namespace Go.Proofs.YtfghmlpjbedomaaGreat
open Go.ChangeShapes Go.WideShapes Go.ChangeAt Go.RowKit Go.Deep

theorem c_access : Tryz.prog.cellsOf 39 = 6 := by kernel_rfl
section
variable {H : Type} {enc : TypeId × Value → H} {W : World}

theorem read_access (n : Nat) (cs : List Value) (x : DataW H × List MemPlace) (hl : cs.length = 6) (h : DataW.trod enc Tryz.prog W 0 (fun _ => true) true n 39 cs = some x) : ∃ a : Ac, cs = acEnc a ∧ True := by
  match cs, hl with
  | [v0, v1, v2, v3, v4, v5], _ =>
    obtain ⟨xs, m, _, _, _, hxl, hf⟩ := DataW.trod_struct Tryz.underlying39 h
    match xs, hxl with
    | [x0, x1, x2, x3, x4, x5], _ =>
      have g0 : DataW.trod enc Tryz.prog W 0 (fun _ => true) true m 3 (List.take (Tryz.prog.cellsOf 3) (List.drop 0 [v0, v1, v2, v3, v4, v5])) = some x0 := hf 0 _ rfl
      have g1 : DataW.trod enc Tryz.prog W 0 (fun _ => true) true m 3 (List.take (Tryz.prog.cellsOf 3) (List.drop 1 [v0, v1, v2, v3, v4, v5])) = some x1 := hf 1 _ rfl
      have g2 : DataW.trod enc Tryz.prog W 0 (fun _ => true) true m 3 (List.take (Tryz.prog.cellsOf 3) (List.drop 2 [v0, v1, v2, v3, v4, v5])) = some x2 := hf 2 _ rfl
      have g3 : DataW.trod enc Tryz.prog W 0 (fun _ => true) true m 3 (List.take (Tryz.prog.cellsOf 3) (List.drop 3 [v0, v1, v2, v3, v4, v5])) = some x3 := hf 3 _ rfl
      have g4 : DataW.trod enc Tryz.prog W 0 (fun _ => true) true m 37 (List.take (Tryz.prog.cellsOf 37) (List.drop 4 [v0, v1, v2, v3, v4, v5])) = some x4 := hf 4 _ rfl
      have g5 : DataW.trod enc Tryz.prog W 0 (fun _ => true) true m 37 (List.take (Tryz.prog.cellsOf 37) (List.drop 5 [v0, v1, v2, v3, v4, v5])) = some x5 := hf 5 _ rfl
      simp only [c_int, c_u64] at g0 g1 g2 g3 g4 g5
      obtain ⟨a0, e0, _, w0⟩ := DataW.trod_int Tryz.underlying3 g0
      obtain ⟨a1, e1, _, w1⟩ := DataW.trod_int Tryz.underlying3 g1
      obtain ⟨a2, e2, _, w2⟩ := DataW.trod_int Tryz.underlying3 g2
      obtain ⟨a3, e3, _, w3⟩ := DataW.trod_int Tryz.underlying3 g3
      obtain ⟨a4, e4, _, w4⟩ := DataW.trod_int Tryz.underlying37 g4
      obtain ⟨a5, e5, _, w5⟩ := DataW.trod_int Tryz.underlying37 g5
      cases e0; cases e1; cases e2; cases e3; cases e4; cases e5
      exact ⟨⟨a0, a1, a2, a3, a4, a5⟩, rfl, trivial⟩
end
section
variable {H : Type} {enc : TypeId × Value → H} {W : World} {r : Reach} {b0 : Nat} {v : Value} {d : DataW H} {p : List MemPlace}
set_option maxRecDepth 100000 in
theorem read_accs (hv : Value.okWide Tryz.prog W r b0 34 v) (h : DataW.Trod enc Tryz.prog W 0 (fun _ => true) true 34 v d p) : ∃ l : List Ac, SlAc W v l ∧ l.length ≤ maxLen := by
  obtain ⟨l, h1, _, h2⟩ := read_sl acEnc 6 (fun _ => True) Tryz.underlying34 c_access (fun n cs x hl hx => read_access n cs x hl hx) hv h (by decide)
  exact ⟨l, h1, h2⟩
end
end Go.Proofs.YtfghmlpjbedomaaGreat
