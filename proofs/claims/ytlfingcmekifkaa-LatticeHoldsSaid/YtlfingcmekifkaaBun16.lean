/- A lattice on a loom (package lattice): how the object and its machines lie. -/
/- A lattice (package lattice): a teller's step, when its scan does not end. -/
/- A lattice's scans (package snap): a new one (NewScan). -/
import Derived.Test.YtlfingcmekifkaaLw9
import Derived.Test.YtlfingcmekifkaaLt6
import Derived.Test.YtlfingcmekifkaaBun14
import Derived.Test.YtlfingcmekifkaaLw1
namespace Go.Proofs.Ytlfingcmekifkaa
open Go.RowKit

structure LaOB (pe ps : Nat) (w : World) (F : Nat → Prop) (o : Lat) : Prop where
  blk : ∀ k, F k ↔ k = pe ∨ k = ps
  ne : pe ≠ ps
  e : ∃ f : Nat → Value, w.rowIs pe 92 17 f ∧ f 0 = .pointer (some ⟨ps, 0, none⟩) ∧ ∀ t, t < 16 → f (1 + t) = .int .u64 (o.own t)
  s : ∃ g : Nat → Value, w.rowIs ps 122 19 g ∧ g 0 = .int .i64 0 ∧ g 1 = .int .i64 (o.n : Int) ∧ g 2 = .int .i64 (o.p : Int) ∧ ∀ t, t < 16 → g (3 + t) = .int .i64 (o.used t : Int)
/-- A teller: its block, the reader's, the scan's. -/
structure TlAt (w : World) (bt br bs ps : Nat) (lv : Value) (s : Sc) (all : Int) : Prop where
  hb : w.heap[bt]? = some (.cells #[.iface 187 (.pointer (some ⟨br, 0, none⟩)), .int .u64 all] 196 (0, 0))
  hr : ∃ kv, w.heap[br]? = some (.cells #[.pointer (some ⟨bs, 0, none⟩), kv] 191 (0, 0))
  sc : ScAt w bs ps lv s
  ne : bt ≠ br ∧ bt ≠ bs ∧ br ≠ bs ∧ lv.ownBlock ≠ some bt ∧ lv.ownBlock ≠ some br
def TlF (bt br bs : Nat) (lv : Value) (k : Nat) : Prop := k = bt ∨ k = br ∨ k = bs ∨ lv.ownBlock = some k
def gvA (pe : Nat) (m : Value) (t : Nat) (v err : Int) (sc : Bool) : Array Value := #[.pointer (some ⟨pe, 0, none⟩), m, .int .i64 t, .int .u64 v, .int .i64 err, .bool sc]
def upA (bs t r next : Nat) (v : Int) (sc : Bool) : Array Value := #[.pointer (some ⟨bs, 0, none⟩), .int .i64 t, .int .i64 (r : Int), .int .i64 (next : Int), .int .u64 v, .bool sc]
/-- A giver that updates. -/
structure UpAt (w : World) (bg bu bs pe ps : Nat) (lv : Value) (t : Nat) (v : Int) (r : Nat) (s : Sc) (sc : Bool) (next : Nat) : Prop where
  hg : w.heap[bg]? = some (.cells (gvA pe (.iface 192 (.pointer (some ⟨bu, 0, none⟩))) t v 0 false) 184 (0, 0))
  hu : w.heap[bu]? = some (.cells (upA bs t r next v sc) 194 (0, 0))
  scn : ScAt w bs ps lv s
  ne : bg ≠ bu ∧ bg ≠ bs ∧ bu ≠ bs ∧ lv.ownBlock ≠ some bg ∧ lv.ownBlock ≠ some bu
/-- A giver that tells. -/
structure GtAt (w : World) (bg bt br bs pe ps : Nat) (lv : Value) (t : Nat) (v : Int) (s : Sc) (all : Int) : Prop where
  hg : w.heap[bg]? = some (.cells (gvA pe (.iface 185 (.pointer (some ⟨bt, 0, none⟩))) t v 0 true) 184 (0, 0))
  tl : TlAt w bt br bs ps lv s all
  ne : bg ≠ bt ∧ bg ≠ br ∧ bg ≠ bs ∧ lv.ownBlock ≠ some bg
/-- A giver that may not. -/
structure FuAt (w : World) (bg b b1 pe t : Nat) (v x : Int) : Prop where
  hg : w.heap[bg]? = some (.cells (gvA pe (onceV b) t v x false) 184 (0, 0))
  no : OnceNo w b b1 6
  ne : bg ≠ b ∧ bg ≠ b1 ∧ b ≠ b1
def gvV (bg : Nat) : Value := .iface 182 (.pointer (some ⟨bg, 0, none⟩))
def tlV (bt : Nat) : Value := .iface 185 (.pointer (some ⟨bt, 0, none⟩))
def latML (pe ps : Nat) (w : World) (F : Nat → Prop) (v : Value) : LM → Prop
  | .no e => NoAt w F v e
  | .full => ∃ bg b b1 t vv x, v = gvV bg ∧ FuAt w bg b b1 pe t vv x ∧ ∀ k, F k ↔ k = bg ∨ k = b ∨ k = b1
  | .tell s all => ∃ bt br bs lv, v = tlV bt ∧ TlAt w bt br bs ps lv s all ∧ ∀ k, F k ↔ TlF bt br bs lv k
  | .upd t vv r s sc next => ∃ bg bu bs lv, v = gvV bg ∧ UpAt w bg bu bs pe ps lv t vv r s sc next ∧ ∀ k, F k ↔ k = bg ∨ k = bu ∨ k = bs ∨ lv.ownBlock = some k
  | .gtl t vv s all => ∃ bg bt br bs lv, v = gvV bg ∧ GtAt w bg bt br bs pe ps lv t vv s all ∧ ∀ k, F k ↔ k = bg ∨ TlF bt br bs lv k
def latAL (pe ps : Nat) (w : World) (F : Nat → Prop) (v : Value) : LM → Prop
  | .no e => NoAl w F v e
  | .full => ∃ bg b b1 t vv, v = gvV bg ∧ FuAt w bg b b1 pe t vv 6 ∧ ∀ k, F k ↔ k = bg ∨ k = b ∨ k = b1
  | .tell s all => latML pe ps w F v (.tell s all)
  | .upd _ _ _ _ _ _ => False
  | .gtl t vv s all => latML pe ps w F v (.gtl t vv s all)
section
variable {w w' : World} {S : Nat → Prop} {bt br bs bg bu b b1 pe ps t r next : Nat} {lv v : Value} {s : Sc} {all vv x : Int} {sc : Bool} {F : Nat → Prop} {o : Lat}
theorem heap_lt {b : Nat} {o : Obj} (h : w.heap[b]? = some o) : b < w.heap.size := (Array.getElem?_eq_some_iff.1 h).1
theorem LaOB.keep (h : LaOB pe ps w F o) (hk : Keep S w w') (hS : ∀ k, F k → S k) : LaOB pe ps w' F o := by
  obtain ⟨h1, h2, ⟨f, a1, a2⟩, g, b1, b2⟩ := h
  exact ⟨h1, h2, ⟨f, rowIs_keep a1 hk (hS pe ((h1 pe).2 (Or.inl rfl))), a2⟩, g, rowIs_keep b1 hk (hS ps ((h1 ps).2 (Or.inr rfl))), b2⟩
theorem LaOB.lt (h : LaOB pe ps w F o) : ∀ k, F k → k < w.heap.size := by
  obtain ⟨h1, h2, ⟨f, a1, a2⟩, g, b1, b2⟩ := h
  intro k hk
  rcases (h1 k).1 hk with rfl | rfl
  · exact a1.lt
  · exact b1.lt
theorem TlAt.keep (h : TlAt w bt br bs ps lv s all) (hk : Keep S w w') (hS : ∀ k, TlF bt br bs lv k → S k) : TlAt w' bt br bs ps lv s all := by
  obtain ⟨h1, ⟨kv, h2⟩, h3, h4⟩ := h
  exact ⟨(hk.block bt (hS bt (Or.inl rfl))).trans h1, ⟨kv, (hk.block br (hS br (Or.inr (Or.inl rfl)))).trans h2⟩, h3.keep hk (hS bs (Or.inr (Or.inr (Or.inl rfl)))) (fun k hk => hS k (Or.inr (Or.inr (Or.inr hk)))), h4⟩
theorem TlAt.lt (h : TlAt w bt br bs ps lv s all) : ∀ k, TlF bt br bs lv k → k < w.heap.size := by
  obtain ⟨h1, ⟨kv, h2⟩, h3, h4⟩ := h
  intro k hk
  rcases hk with rfl | rfl | rfl | hk
  · exact heap_lt h1
  · exact heap_lt h2
  · exact h3.lt
  · exact (h3.lst.lt k hk).2
theorem UpAt.keep (h : UpAt w bg bu bs pe ps lv t vv r s sc next) (hk : Keep S w w') (h1 : S bg) (h2 : S bu) (h3 : S bs) (h4 : ∀ k, lv.ownBlock = some k → S k) : UpAt w' bg bu bs pe ps lv t vv r s sc next :=
  ⟨(hk.block bg h1).trans h.hg, (hk.block bu h2).trans h.hu, h.scn.keep hk h3 h4, h.ne⟩
theorem GtAt.keep (h : GtAt w bg bt br bs pe ps lv t vv s all) (hk : Keep S w w') (h1 : S bg) (h2 : ∀ k, TlF bt br bs lv k → S k) : GtAt w' bg bt br bs pe ps lv t vv s all :=
  ⟨(hk.block bg h1).trans h.hg, h.tl.keep hk h2, h.ne⟩
theorem OnceNo.keep {e : Int} (h : OnceNo w b b1 e) (hk : Keep S w w') (h1 : S b) (h2 : S b1) : OnceNo w' b b1 e := by
  refine ⟨?_, (hk.block b1 h2).trans h.box⟩
  rw [hk.block b h1]
  exact h.once
theorem OnceNo.lt {e : Int} (h : OnceNo w b b1 e) : b < w.heap.size ∧ b1 < w.heap.size := by
  refine ⟨?_, heap_lt h.box⟩
  rcases h.once with h | h <;> exact heap_lt h
theorem FuAt.keep (h : FuAt w bg b b1 pe t vv x) (hk : Keep S w w') (h1 : S bg) (h2 : S b) (h3 : S b1) : FuAt w' bg b b1 pe t vv x :=
  ⟨(hk.block bg h1).trans h.hg, h.no.keep hk h2 h3, h.ne⟩
theorem latML_keep {m : LM} (h : latML pe ps w F v m) (hk : Keep S w w') (hS : ∀ k, F k → S k) : latML pe ps w' F v m := by
  cases m with
  | no e => exact NoAt.keep h hk hS
  | full =>
    obtain ⟨bg, b, b1, t, vv, x, h1, h2, h3⟩ := h
    exact ⟨bg, b, b1, t, vv, x, h1, h2.keep hk (hS _ ((h3 _).2 (Or.inl rfl))) (hS _ ((h3 _).2 (Or.inr (Or.inl rfl)))) (hS _ ((h3 _).2 (Or.inr (Or.inr rfl)))), h3⟩
  | tell s all =>
    obtain ⟨bt, br, bs, lv, h1, h2, h3⟩ := h
    exact ⟨bt, br, bs, lv, h1, h2.keep hk (fun k hk => hS k ((h3 k).2 hk)), h3⟩
  | upd t vv r s sc next =>
    obtain ⟨bg, bu, bs, lv, h1, h2, h3⟩ := h
    exact ⟨bg, bu, bs, lv, h1, h2.keep hk (hS _ ((h3 _).2 (Or.inl rfl))) (hS _ ((h3 _).2 (Or.inr (Or.inl rfl)))) (hS _ ((h3 _).2 (Or.inr (Or.inr (Or.inl rfl))))) (fun k hk => hS k ((h3 k).2 (Or.inr (Or.inr (Or.inr hk))))), h3⟩
  | gtl t vv s all =>
    obtain ⟨bg, bt, br, bs, lv, h1, h2, h3⟩ := h
    exact ⟨bg, bt, br, bs, lv, h1, h2.keep hk (hS _ ((h3 _).2 (Or.inl rfl))) (fun k hk => hS k ((h3 k).2 (Or.inr hk))), h3⟩
theorem latML_lt {m : LM} (h : latML pe ps w F v m) : ∀ k, F k → k < w.heap.size := by
  cases m with
  | no e => exact NoAt.lt h
  | full =>
    obtain ⟨bg, b, b1, t, vv, x, h1, h2, h3⟩ := h
    intro k hk
    rcases (h3 k).1 hk with rfl | rfl | rfl
    · exact heap_lt h2.hg
    · exact h2.no.lt.1
    · exact h2.no.lt.2
  | tell s all =>
    obtain ⟨bt, br, bs, lv, h1, h2, h3⟩ := h
    exact fun k hk => h2.lt k ((h3 k).1 hk)
  | upd t vv r s sc next =>
    obtain ⟨bg, bu, bs, lv, h1, h2, h3⟩ := h
    intro k hk
    rcases (h3 k).1 hk with rfl | rfl | rfl | hk
    · exact heap_lt h2.hg
    · exact heap_lt h2.hu
    · exact h2.scn.lt
    · exact (h2.scn.lst.lt k hk).2
  | gtl t vv s all =>
    obtain ⟨bg, bt, br, bs, lv, h1, h2, h3⟩ := h
    intro k hk
    rcases (h3 k).1 hk with rfl | hk
    · exact heap_lt h2.hg
    · exact h2.tl.lt k hk
theorem latAL_keep {m : LM} (h : latAL pe ps w F v m) (hk : Keep S w w') (hS : ∀ k, F k → S k) : latAL pe ps w' F v m := by
  cases m with
  | no e => exact NoAl.keep h hk hS
  | full =>
    obtain ⟨bg, b, b1, t, vv, h1, h2, h3⟩ := h
    exact ⟨bg, b, b1, t, vv, h1, h2.keep hk (hS _ ((h3 _).2 (Or.inl rfl))) (hS _ ((h3 _).2 (Or.inr (Or.inl rfl)))) (hS _ ((h3 _).2 (Or.inr (Or.inr rfl)))), h3⟩
  | tell s all => exact latML_keep (pe := pe) (ps := ps) (m := .tell s all) h hk hS
  | upd t vv r s sc next => exact h
  | gtl t vv s all => exact latML_keep (pe := pe) (ps := ps) (m := .gtl t vv s all) h hk hS
/-- A scan of a machine's, where it steps. -/
theorem LaOB.scS {n : Nat} {Fm Mu : Nat → Prop} {ad : Adr} {lw : Lw} (hO : LaOB pe ps w F o) (hW : WL w ad Mu lw) (hn : o.n = n) (hn16 : n ≤ 16) (hs : ScAt w bs ps lv s) (h1 : Fm bs) (h2 : ∀ k, lv.ownBlock = some k → Fm k) (c1 : ∀ k, F k → ¬ Fm k ∧ ¬ ad.four k) (c2 : ∀ k, Fm k → ¬ ad.four k) (c3 : ∀ k, F k ∨ Fm k ∨ ad.four k → Mu k) : ScS w bs ps n lv s ad Mu lw := by
  obtain ⟨e1, e2, _, g, b1, b2, b3, b4, b5⟩ := hO
  have f4 : ∀ k, ¬ ad.four k → k ≠ ad.pw ∧ k ≠ ad.pm ∧ k ≠ ad.px ∧ k ≠ ad.pt := fun k hk => ⟨fun e => hk (Or.inl e), fun e => hk (Or.inr (Or.inl e)), fun e => hk (Or.inr (Or.inr (Or.inl e))), fun e => hk (Or.inr (Or.inr (Or.inr e)))⟩
  have hp := (e1 ps).2 (Or.inr rfl)
  have np : ∀ k, Fm k → k ≠ ps := fun k hk e => (c1 ps hp).1 (e ▸ hk)
  have q := f4 bs (c2 bs h1)
  refine ⟨hs, hW, fun k hk => c3 k (Or.inr (Or.inr hk)), c3 bs (Or.inr (Or.inl h1)), fun k hk => c3 k (Or.inr (Or.inl (h2 k hk))), ⟨q.1, q.2.1, q.2.2.1, q.2.2.2, np bs h1⟩, fun k hk => ?_, f4 ps (c1 ps hp).2, b1.lt, ?_, ?_, hn16⟩
  · have q := f4 k (c2 k (h2 k hk))
    exact ⟨q.1, q.2.1, q.2.2.1, q.2.2.2, np k (h2 k hk)⟩
  · rw [b1.cell (i := 0) (by omega), b2]
  · rw [b1.cell (i := 1) (by omega), b3, hn]
end
theorem sc_lw (n : Nat) (w : Lw) (s : Sc) : (s.step n w).2 = { w with mem := (s.step n w).2.mem } := by
  unfold Sc.step
  dsimp only
  split
  · rfl
  · split
    · rfl
    · split <;> rfl
def latStepQ (pe ps : Nat) (w : World) (Fo Fm : Nat → Prop) (ad : Adr) (Mu : Nat → Prop) (v : Value) (r : Lat × Lw × LM × Bool) (e : Ending) (w' : World) : Prop :=
  ∃ Fo' Fm', e = .returned (.bool r.2.2.2) ∧ LaOB pe ps w' Fo' r.1 ∧ latML pe ps w' Fm' v r.2.2.1 ∧ (r.2.2.2 = true → latAL pe ps w' Fm' v r.2.2.1) ∧ WL w' ad (fun k => (Mu k ∧ ¬ Fo k ∧ ¬ Fm k) ∨ Fo' k ∨ Fm' k) r.2.1 ∧
    (∀ k, Fo' k ∨ Fm' k → Fo k ∨ Fm k ∨ w.heap.size ≤ k) ∧ (∀ k, Fo' k → ¬ Fm' k) ∧ Keep (fun k => k < w.heap.size ∧ ¬ Fo k ∧ ¬ Fm k ∧ ¬ ad.four k) w w'
/-- A step that turns the words, the machine, and no object. -/
theorem lat_after {pe ps : Nat} {w w' : World} {Fo Fm Fm' : Nat → Prop} {ad : Adr} {Mu : Nat → Prop} {v : Value} {o : Lat} {lw : Lw} {m' : LM} {d : Bool} {mm : Mm} {e : Ending} (hO : LaOB pe ps w Fo o) (hW : WL w ad Mu lw) (_hFl : ∀ k, Fm k → k < w.heap.size) (c1 : ∀ k, Fo k → ¬ Fm k ∧ ¬ ad.four k) (c2 : ∀ k, Fm k → ¬ ad.four k) (c3 : ∀ k, Fo k ∨ Fm k ∨ ad.four k → Mu k)
    (he : e = .returned (.bool d)) (h1 : latML pe ps w' Fm' v m') (h2 : d = true → latAL pe ps w' Fm' v m') (h3 : MemAt w' ad.pm ad.px .nilFunc mm) (h4 : ∀ k, Fm' k → Fm k ∨ w.heap.size ≤ k) (h6 : Keep (fun k => k < w.heap.size ∧ ¬ Fm k ∧ k ≠ ad.pm ∧ k ≠ ad.px) w w') :
    latStepQ pe ps w Fo Fm ad Mu v (o, { lw with mem := mm }, m', d) e w' := by
  subst he
  have hlt := hW.lt
  have hn := hW.ne
  have hOl := hO.lt
  have n4 : ∀ k, ¬ ad.four k → k ≠ ad.pm ∧ k ≠ ad.px := fun k hk => ⟨fun e => hk (Or.inr (Or.inl e)), fun e => hk (Or.inr (Or.inr (Or.inl e)))⟩
  refine ⟨Fo, Fm', rfl, hO.keep h6 (fun k hk => ⟨hOl k hk, (c1 k hk).1, n4 k (c1 k hk).2⟩), h1, h2, ?_, ?_, ?_, ?_⟩
  · refine hW.memTo2 h3 h6 (fun k h1 h2 => ⟨h1, fun h => h2 (c3 k (Or.inr (Or.inl h))), n4 k (fun h => h2 (c3 k (Or.inr (Or.inr h))))⟩) ⟨?_, ?_⟩ (fun k hk hm => ?_)
    · exact ⟨hlt.1, fun h => c2 _ h (Or.inl rfl), hn.1, hn.2.1⟩
    · exact ⟨hlt.2.2.2, fun h => c2 _ h (Or.inr (Or.inr (Or.inr rfl))), hn.2.2.2.1, hn.2.2.2.2.1⟩
    · rcases hm with hm | hm | hm
      · exact hm.1
      · exact c3 k (Or.inl hm)
      · rcases h4 k hm with h | h
        · exact c3 k (Or.inr (Or.inl h))
        · omega
  · intro k hk
    rcases hk with hk | hk
    · exact Or.inl hk
    · exact Or.inr (h4 k hk)
  · intro k hk hm
    rcases h4 k hm with h | h
    · exact (c1 k hk).1 h
    · have := hOl k hk; omega
  · exact h6.mono (fun k hk => ⟨hk.1, hk.2.2.1, n4 k hk.2.2.2⟩)
end Go.Proofs.Ytlfingcmekifkaa

namespace Go.Proofs.Ytlfingcmekifkaa
open Go.RowKit

/-- A call of one argument through an interface value, where the walk has taken it apart. -/
theorem upon_disp1 {P : Program} {w : World} {o : Oper} {a : Act} {K : Act → World → Prop} {Q : Exit → Act → World → Prop} {tm : TypeId} {um r x : Value} {name : String} {f : FuncId} {n : Nat} (hd : Disp P (.iface tm um) name f r) (hn : P.types.size + Made.depth = n)
    {R : Ending → World → Prop} (hc : Calls P f #[r, x] w R) (hK : ∀ e w', R e w' → ∃ u, e = .returned u ∧ K (a.put o.dst u) w') : o.upon P a K Q ((Sem.run P (method n tm um name) w).andThen fun a w' => Sem.run P (callFunc a.fst #[a.snd, x]) w') := by
  have h1 := hd #[x] w
  have h2 : (callMethod (.iface tm um) name #[x]).run P w = (Sem.run P (method n tm um name) w).andThen fun a w' => Sem.run P (callFunc a.fst #[a.snd, x]) w' := by
    unfold callMethod
    simp [← hn]
  rw [← h2, h1, Oper.upon_enter]
  refine hc.mono fun e w' he => ?_
  obtain ⟨u, rfl, hk⟩ := hK e w' he
  exact hk
/-- What a teller's step leaves. -/
def TlQ (w : World) (bt br bs ps : Nat) (lv : Value) (s' : Sc) (all : Int) (ad : Adr) (m' : Mm) (e : Ending) (w' : World) : Prop :=
  e = .returned (.bool (decide (s'.pc = 3))) ∧ (∃ lv', TlAt w' bt br bs ps lv' s' (if s'.pc = 3 then s'.list.foldl orI all else all) ∧ ∀ k, lv'.ownBlock = some k → lv.ownBlock = some k ∨ w.heap.size ≤ k) ∧ MemAt w' ad.pm ad.px .nilFunc m' ∧
    Keep (fun k => k < w.heap.size ∧ k ≠ bt ∧ k ≠ br ∧ k ≠ bs ∧ lv.ownBlock ≠ some k ∧ k ≠ ad.pm ∧ k ≠ ad.px) w w'
theorem rdDispStep (b : Nat) : Disp Try.prog (.iface 187 (.pointer (some ⟨b, 0, none⟩))) "Step" 126 (.pointer (some ⟨b, 0, none⟩)) := fun _ _ => by kernel_rfl
set_option maxRecDepth 100000 in
set_option maxHeartbeats 2000000 in
theorem tlStep0 {w : World} {bt br bs ps n : Nat} {lv : Value} {s : Sc} {all : Int} {ad : Adr} {Mu : Nat → Prop} {lw : Lw} (h : ScS w bs ps n lv s ad Mu lw) (b : ScB n lw s) (hT : TlAt w bt br bs ps lv s all) (hne : (bt ≠ ad.pm ∧ bt ≠ ad.px) ∧ br ≠ ad.pm ∧ br ≠ ad.px) (hp : (s.step n lw).1.pc ≠ 3) :
    Calls Try.prog 124 #[.pointer (some ⟨bt, 0, none⟩), .pointer (some ⟨ad.pw, 0, none⟩)] w (TlQ w bt br bs ps lv (s.step n lw).1 all ad (s.step n lw).2.mem) := by
  obtain ⟨hb, ⟨kv, hr⟩, _, t1, t2, t3, t4, t5⟩ := hT
  have NS := rdStep0 h b hr hp
  have hd : decide ((s.step n lw).1.pc = 3) = false := by simpa using hp
  have c0 : w.cell? ⟨bt, 0, none⟩ = some (.iface 187 (.pointer (some ⟨br, 0, none⟩))) := cell_of_row w bt 0 _ _ _ hb
  have zb := heap_lt hb
  have zr := heap_lt hr
  have HN := hide NS
  have HD := hide hd
  have HB := hide hb
  have HR := hide hr
  have HPP := hide hp
  clear NS hd h b hb hr hp
  go_enter Try.func124, Try.ntmps124
  go_wp2_with fail
  refine upon_disp1 (rdDispStep br) (by kernel_rfl) HN.out ?_
  rintro e w1 ⟨rfl, ⟨lv', h1, h2⟩, h3, h4⟩
  refine ⟨_, rfl, ?_⟩
  rw [HD.out]
  simp only [Act.put, List.setIfInBounds_toArray, List.set_cons_zero, List.set_cons_succ]
  have H1 := hide h1
  have H2 := hide h2
  have H3 := hide h3
  have H4 := hide h4
  clear h1 h2 h3 h4 HN
  go_wp2
  go_ret
  refine ⟨by rw [HD.out]; rfl, ⟨lv', ?_, H2.out⟩, H3.out, H4.out.mono (fun k hk => ⟨hk.1, hk.2.2.2⟩)⟩
  rw [if_neg HPP.out]
  refine ⟨(H4.out.block bt ⟨zb, t2, t4, hne.1.1, hne.1.2⟩).trans HB.out, ⟨kv, (H4.out.block br ⟨zr, t3, t5, hne.2.1, hne.2.2⟩).trans HR.out⟩, H1.out, t1, t2, t3, fun e => ?_, fun e => ?_⟩
  · rcases H2.out _ e with h | h
    · exact t4 h
    · omega
  · rcases H2.out _ e with h | h
    · exact t5 h
    · omega
end Go.Proofs.Ytlfingcmekifkaa

namespace Go.Proofs.Ytlfingcmekifkaa
open Go.RowKit

def scA56 (ps : Nat) : Array Value := #[.pointer (some ⟨ps, 0, none⟩), .int .i64 0, .int .i64 0, .int .i64 0, .int .u64 0, .int .u64 0, .int .u64 0, .int .u64 0, .int .u64 0, .int .u64 0, .int .u64 0, .int .u64 0, .int .u64 0, .int .u64 0, .int .u64 0, .int .u64 0, .int .u64 0, .int .u64 0, .int .u64 0, .int .u64 0, .int .u64 0, .int .u64 0, .int .u64 0, .int .u64 0, .int .u64 0, .int .u64 0, .int .u64 0, .int .u64 0, .int .u64 0, .int .u64 0, .int .u64 0, .int .u64 0, .int .u64 0, .int .u64 0, .int .u64 0, .int .u64 0, .int .i64 0, .bool false, .bool false, .bool false, .bool false, .bool false, .bool false, .bool false, .bool false, .bool false, .bool false, .bool false, .bool false, .bool false, .bool false, .bool false, .bool false, .int .u64 0, .slice none 0 0, .int .i64 0]
theorem zero_scan (w : World) : (zeroValue 199).run Try.prog w = .ok (.agg #[.pointer none, .int .i64 0, .int .i64 0, .int .i64 0, .int .u64 0, .int .u64 0, .int .u64 0, .int .u64 0, .int .u64 0, .int .u64 0, .int .u64 0, .int .u64 0, .int .u64 0, .int .u64 0, .int .u64 0, .int .u64 0, .int .u64 0, .int .u64 0, .int .u64 0, .int .u64 0, .int .u64 0, .int .u64 0, .int .u64 0, .int .u64 0, .int .u64 0, .int .u64 0, .int .u64 0, .int .u64 0, .int .u64 0, .int .u64 0, .int .u64 0, .int .u64 0, .int .u64 0, .int .u64 0, .int .u64 0, .int .u64 0, .int .i64 0, .bool false, .bool false, .bool false, .bool false, .bool false, .bool false, .bool false, .bool false, .bool false, .bool false, .bool false, .bool false, .bool false, .bool false, .bool false, .bool false, .int .u64 0, .slice none 0 0, .int .i64 0]) w := by kernel_rfl
set_option maxRecDepth 100000 in
set_option maxHeartbeats 1000000 in
theorem snNewScan (ps : Nat) (w : World) : Calls Try.prog 97 #[.pointer (some ⟨ps, 0, none⟩)] w fun e w' => e = .returned (.pointer (some ⟨w.heap.size, 0, none⟩)) ∧ w' = w.alloc (.cells (scA56 ps) 199) := by
  unfold scA56
  have hzt := zero_scan
  go_enter Try.func97, Try.ntmps97
  go_wp2
  go_ret
  exact ⟨rfl, rfl⟩
set_option maxRecDepth 10000 in
theorem scAt_new {w : World} {bs ps : Nat} (h : w.heap[bs]? = some (.cells (scA56 ps) 199 (0, 0))) : ScAt w bs ps (.slice none 0 0) Sc.new := by
  refine ⟨⟨_, rowIs_lit h rfl, ⟨rfl, rfl, rfl, rfl, fun i hi => ?_, fun i hi => ?_, rfl, fun i hi => ?_, rfl, rfl, rfl⟩⟩, ?_, by simp [Value.ownBlock]⟩
  · match i, hi with
    | 0, _ => rfl
    | 1, _ => rfl
    | 2, _ => rfl
    | 3, _ => rfl
    | 4, _ => rfl
    | 5, _ => rfl
    | 6, _ => rfl
    | 7, _ => rfl
    | 8, _ => rfl
    | 9, _ => rfl
    | 10, _ => rfl
    | 11, _ => rfl
    | 12, _ => rfl
    | 13, _ => rfl
    | 14, _ => rfl
    | 15, _ => rfl
    | t + 16, h => exact absurd h (by omega)
  · match i, hi with
    | 0, _ => rfl
    | 1, _ => rfl
    | 2, _ => rfl
    | 3, _ => rfl
    | 4, _ => rfl
    | 5, _ => rfl
    | 6, _ => rfl
    | 7, _ => rfl
    | 8, _ => rfl
    | 9, _ => rfl
    | 10, _ => rfl
    | 11, _ => rfl
    | 12, _ => rfl
    | 13, _ => rfl
    | 14, _ => rfl
    | 15, _ => rfl
    | t + 16, h => exact absurd h (by omega)
  · match i, hi with
    | 0, _ => rfl
    | 1, _ => rfl
    | 2, _ => rfl
    | 3, _ => rfl
    | 4, _ => rfl
    | 5, _ => rfl
    | 6, _ => rfl
    | 7, _ => rfl
    | 8, _ => rfl
    | 9, _ => rfl
    | 10, _ => rfl
    | 11, _ => rfl
    | 12, _ => rfl
    | 13, _ => rfl
    | 14, _ => rfl
    | 15, _ => rfl
    | t + 16, h => exact absurd h (by omega)
  · exact World.ownsRow_nil _ _ _ _
end Go.Proofs.Ytlfingcmekifkaa
