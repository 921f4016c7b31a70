/- A play on a loom, as it lies in memory: keys, events, what machines step in, the player. -/
/- A play on a loom: what objects and machines must be (Th), and how a play lies in memory (PLa). -/
import Derived.Test.YtfghmlpjbedomaaGreatMe1
import Derived.Test.YtfghmlpjbedomaaGreatBun5
import Derived.Test.YtfghmlpjbedomaaGreatCu3
import Derived.Test.YtfghmlpjbedomaaGreatLm1
import Derived.Deep.OwnRows
namespace Go.Proofs.YtfghmlpjbedomaaGreat
open Go.RowKit

/-- A key: nil just if it is empty; it lies where nothing is written any more (Mu: what is still written). -/
def KeyIs (w : World) (Mu : Nat → Prop) (v : Value) (l : List Int) : Prop := ∃ A c, v = .slice A l.length c ∧ (A = none ↔ l = []) ∧ SlI w (.slice A l.length c) l ∧ ∀ a : Addr, A = some a → ¬ Mu a.block ∧ a.block < w.heap.size
/-- A list of words, likewise. -/
def LstIs (w : World) (Mu : Nat → Prop) (v : Value) (l : List Int) : Prop := ∃ A c, v = .slice A l.length c ∧ SlW w (.slice A l.length c) l ∧ ∀ a : Addr, A = some a → ¬ Mu a.block ∧ a.block < w.heap.size
theorem sl_at_keep {en : Int → List Value} {w w' : World} {v : Value} {xs : List Int} {S : Nat → Prop} (h : Sl en 1 w v xs) (hk : Keep S w w') (hS : ∀ A n c (a : Addr), v = .slice A n c → A = some a → a.block < w.heap.size → S a.block) : Sl en 1 w' v xs := by
  obtain ⟨A, c, e, h1, h2, h3⟩ := h
  refine ⟨A, c, e, h1, h2, fun k x hx => ?_⟩
  obtain ⟨b, o, e', hb, hc⟩ := h3 k x hx
  refine ⟨b, o, e', Nat.lt_of_lt_of_le hb hk.size, fun j u hj => ?_⟩
  have := hS _ _ _ _ e e' hb
  exact (hk.cell (p := ⟨b, o + k * 1 + j, none⟩) this).trans (hc j u hj)
section
variable {w w' : World} {Mu Mu' S : Nat → Prop} {v : Value} {l : List Int}
theorem KeyIs.keep (h : KeyIs w Mu v l) (hk : Keep S w w') (hS : ∀ k, k < w.heap.size → ¬ Mu k → S k) (hM : ∀ k, k < w.heap.size → Mu' k → Mu k) : KeyIs w' Mu' v l := by
  obtain ⟨A, c, e, h1, h2, h3⟩ := h
  refine ⟨A, c, e, h1, sl_at_keep h2 hk (fun A' n c' a e1 e2 h4 => ?_), fun a ha => ?_⟩
  · cases e1
    exact hS _ h4 (h3 a e2).1
  · obtain ⟨g1, g2⟩ := h3 a ha
    exact ⟨fun hm => g1 (hM _ g2 hm), Nat.lt_of_lt_of_le g2 hk.size⟩
theorem LstIs.keep (h : LstIs w Mu v l) (hk : Keep S w w') (hS : ∀ k, k < w.heap.size → ¬ Mu k → S k) (hM : ∀ k, k < w.heap.size → Mu' k → Mu k) : LstIs w' Mu' v l := by
  obtain ⟨A, c, e, h2, h3⟩ := h
  refine ⟨A, c, e, sl_at_keep h2 hk (fun A' n c' a e1 e2 h4 => ?_), fun a ha => ?_⟩
  · cases e1
    exact hS _ h4 (h3 a e2).1
  · obtain ⟨g1, g2⟩ := h3 a ha
    exact ⟨fun hm => g1 (hM _ g2 hm), Nat.lt_of_lt_of_le g2 hk.size⟩
theorem KeyIs.nil (w : World) (Mu : Nat → Prop) : KeyIs w Mu (.slice none 0 0) [] := ⟨none, 0, rfl, by simp, ⟨none, 0, rfl, Nat.le_refl _, Nat.zero_le _, fun k x hx => by simp at hx⟩, fun a h => by cases h⟩
theorem LstIs.nil (w : World) (Mu : Nat → Prop) : LstIs w Mu (.slice none 0 0) [] := ⟨none, 0, rfl, ⟨none, 0, rfl, Nat.le_refl _, Nat.zero_le _, fun k x hx => by simp at hx⟩, fun a h => by cases h⟩
theorem KeyIs.isNone (h : KeyIs w Mu v l) : ∃ A n c, v = .slice A n c ∧ A.isNone = decide (l = []) := by
  obtain ⟨A, c, e, h1, _⟩ := h
  refine ⟨A, _, c, e, ?_⟩
  rcases A with _ | a
  · simp [h1.1 rfl]
  · have : l ≠ [] := fun e => by have := h1.2 e; cases this
    simp [this]
end

/-- An event in memory is that event. -/
structure EvIs (w : World) (Mu : Nat → Prop) (x : Ev) (e : Ep) : Prop where
  call : x.call = e.call
  inv : x.inv = e.inv
  resp : x.resp = e.resp
  steps : x.steps = e.steps
  err : x.err = e.ans.err
  val : x.val = e.ans.val
  list : LstIs w Mu (.slice x.lA x.lN x.lC) e.ans.list
  key : KeyIs w Mu (.slice x.kA x.kN x.kC) e.key
theorem EvIs.keep {w w' : World} {Mu Mu' S : Nat → Prop} {x : Ev} {e : Ep} (h : EvIs w Mu x e) (hk : Keep S w w') (hS : ∀ k, k < w.heap.size → ¬ Mu k → S k) (hM : ∀ k, k < w.heap.size → Mu' k → Mu k) : EvIs w' Mu' x e :=
  ⟨h.call, h.inv, h.resp, h.steps, h.err, h.val, h.list.keep hk hS hM, h.key.keep hk hS hM⟩
/-- The row of a play's events. -/
structure EvsAt (w : World) (B : Nat) (Mu : Nat → Prop) (v : Value) (es : List Ep) : Prop where
  row : ∃ raw : List Ev, w.ownsRow B 66 8 v es.length (raw.flatMap evEnc) ∧ raw.length = es.length ∧ ∀ (i : Nat) (x : Ev) (e : Ep), raw[i]? = some x → es[i]? = some e → EvIs w Mu x e
theorem evEnc_len (x : Ev) : (evEnc x).length = 8 := rfl
theorem EvsAt.keep {w w' : World} {B : Nat} {Mu Mu' S : Nat → Prop} {v : Value} {es : List Ep} (h : EvsAt w B Mu v es) (hk : Keep S w w') (hS : ∀ k, k < w.heap.size → ¬ Mu k → S k) (hM : ∀ k, k < w.heap.size → Mu' k → Mu k) (hv : ∀ k, v.ownBlock = some k → S k) : EvsAt w' B Mu' v es := by
  obtain ⟨raw, h1, h2, h3⟩ := h.row
  refine ⟨raw, ?_, h2, fun i x e hx he => (h3 i x e hx he).keep hk hS hM⟩
  obtain ⟨g1, g2 | ⟨g, cap, cur, e1, e2, e3, e4⟩⟩ := h1
  · exact ⟨g1, Or.inl g2⟩
  · subst e1
    exact ⟨g1, Or.inr ⟨g, cap, cur, rfl, e2, (hk.block g (hv g rfl)).trans e3, e4⟩⟩

/-- Where the parts of a play lie: the player, what machines step in, the memory and its words, what is noted, the line and its map. -/
structure Adr where
  pp : Nat
  pw : Nat
  pm : Nat
  px : Nat
  pt : Nat
  pl : Nat
  pg : Nat
  hk : Value
/-- What machines step in. -/
structure WL (w : World) (ad : Adr) (Mu : Nat → Prop) (lw : Lw) : Prop where
  mem : MemAt w ad.pm ad.px ad.hk lw.mem
  cells : ∃ f : Nat → Value, w.rowIs ad.pw 134 35 f ∧ f 0 = .pointer (some ⟨ad.pm, 0, none⟩) ∧ f 1 = .int .i64 lw.now ∧ f 34 = .map (some ad.pt) ∧ ∀ t, t < 16 → f (2 + t) = .int .i64 (lw.inv t) ∧ KeyIs w Mu (f (18 + t)) (lw.marks t)
  notes : ∃ m : Int → Option Value, IMap w ad.pt .i64 m ∧ ∀ a, (m a = none ∧ lw.traces a = []) ∨ ∃ v, m a = some v ∧ KeyIs w Mu v (lw.traces a)
theorem rowIs_keep {w w' : World} {b n : Nat} {t : TypeId} {f : Nat → Value} {S : Nat → Prop} (h : w.rowIs b t n f) (hk : Keep S w w') (hS : S b) : w'.rowIs b t n f := h.of_block (hk.block b hS)
theorem WL.keep {w w' : World} {ad : Adr} {Mu Mu' S : Nat → Prop} {lw : Lw} (h : WL w ad Mu lw) (hk : Keep S w w') (hS : ∀ k, k < w.heap.size → ¬ Mu k → S k) (hM : ∀ k, k < w.heap.size → Mu' k → Mu k) (h1 : S ad.pw) (h2 : S ad.pm) (h3 : S ad.px) (h4 : S ad.pt) : WL w' ad Mu' lw := by
  obtain ⟨f, f1, f2, f3, f4, f5⟩ := h.cells
  obtain ⟨m, m1, m2⟩ := h.notes
  refine ⟨h.mem.of_blocks (hk.block _ h2) (hk.block _ h3), ⟨f, rowIs_keep f1 hk h1, f2, f3, f4, fun t ht => ⟨(f5 t ht).1, (f5 t ht).2.keep hk hS hM⟩⟩, ⟨m, m1.of_block (hk.block _ h4), fun a => ?_⟩⟩
  rcases m2 a with h | ⟨v, hv, hk'⟩
  · exact .inl h
  · exact .inr ⟨v, hv, hk'.keep hk hS hM⟩
end Go.Proofs.YtfghmlpjbedomaaGreat

namespace Go.Proofs.YtfghmlpjbedomaaGreat
open Go.RowKit

/-- A call's words are words. -/
def ClU (c : Cl) : Prop := (0 ≤ c.a ∧ c.a < 18446744073709551616) ∧ (0 ≤ c.b ∧ c.b < 18446744073709551616) ∧ (0 ≤ c.c ∧ c.c < 18446744073709551616)
/-- Objects, their machines as plain data, and how these lie. -/
structure Th (M O : Type) where
  G : Gm M O
  objs : List Value
  OB : World → (Nat → Prop) → O → Prop
  ML : World → (Nat → Prop) → Value → M → Prop
  AL : World → (Nat → Prop) → Value → M → Prop
  good : O → Lw → (Nat → Option M) → Prop
  goodT : O → Lw → (Nat → Option M) → Prop
  cl : Cl → Prop
  env : World → Adr → Nat → Prop
/-- An operation that may not be: the machine that tells the error. -/
structure OnceNo (w : World) (b b1 : Nat) (e : Int) : Prop where
  once : w.heap[b]? = some (.cells #[.func (.func 143) #[] #[.pointer (some ⟨b1, 0, none⟩)], .int .i64 0, .int .u64 0, .slice none 0 0] 256 (0, 0)) ∨ w.heap[b]? = some (.cells #[.func (.func 143) #[] #[.pointer (some ⟨b1, 0, none⟩)], .int .i64 e, .int .u64 0, .slice none 0 0] 256 (0, 0))
  box : w.heap[b1]? = some (.cells #[.int .i64 e] 47 (0, 0))
def onceV (b : Nat) : Value := .iface 254 (.pointer (some ⟨b, 0, none⟩))
def LateNo (v : Value) : Prop := ∀ w, (Instr.typeAssert v 136 201 true).run Tryz.prog w = .ok (.tuple #[.nilIface, .bool false]) w
def clV (c : Cl) : Value := .agg #[.int .i64 c.thread, .int .i64 c.obj, .int .i64 c.kind, .int .u64 c.a, .int .u64 c.b, .int .u64 c.c]
/-- The blocks of what machines step in. -/
def Adr.four (ad : Adr) (k : Nat) : Prop := k = ad.pw ∨ k = ad.pm ∨ k = ad.px ∨ k = ad.pt
structure Th.Ok {M O : Type} (T : Th M O) : Prop where
  obKeep : ∀ {w w' F o} {S : Nat → Prop}, T.OB w F o → Keep S w w' → (∀ k, F k → S k) → T.OB w' F o
  obLt : ∀ {w F o}, T.OB w F o → ∀ k, F k → k < w.heap.size
  mlKeep : ∀ {w w' F v m} {S : Nat → Prop}, T.ML w F v m → Keep S w w' → (∀ k, F k → S k) → T.ML w' F v m
  alKeep : ∀ {w w' F v m} {S : Nat → Prop}, T.AL w F v m → Keep S w w' → (∀ k, F k → S k) → T.AL w' F v m
  mlLt : ∀ {w F v m}, T.ML w F v m → ∀ k, F k → k < w.heap.size
  mlIface : ∀ {w F v m}, T.ML w F v m → ∃ t u, v = .iface t u
  objIface : ∀ v ∈ T.objs, ∃ t u, v = .iface t u
  start : ∀ {w Fo o lw hs} {t j : Nat} {c : Cl} {v : Value}, T.OB w Fo o → T.goodT o lw hs → hs t = none → t < 16 → c.thread = t → ClU c → T.cl c → c.obj = j → T.objs[j]? = some v → ∃ f r, Disp Tryz.prog v "Start" f r ∧
    ∀ pw, Calls Tryz.prog f #[r, .pointer (some ⟨pw, 0, none⟩), .int .i64 t, clV c] w fun e w' => ∃ Fo' Fm' u, e = .returned u ∧ T.OB w' Fo' (T.G.start o t c).1 ∧ T.ML w' Fm' u (T.G.start o t c).2 ∧
      (∀ k, Fo' k → Fo k ∨ w.heap.size ≤ k) ∧ (∀ k, Fm' k → Fo k ∨ w.heap.size ≤ k) ∧ (∀ k, Fo' k → ¬ Fm' k) ∧ Keep (fun k => k < w.heap.size ∧ ¬ Fo k) w w'
  refuse : ∀ {o} {t : Nat} {c : Cl}, ¬ (0 ≤ c.obj ∧ c.obj < T.objs.length) → (T.G.start o t c).1 = o ∧ ∀ w b b1, OnceNo w b b1 12 → T.ML w (fun k => k = b ∨ k = b1) (onceV b) (T.G.start o t c).2
  step : ∀ {w Fo Fm v m o lw hs ad Mu} {t : Nat}, T.OB w Fo o → T.ML w Fm v m → WL w ad Mu lw → T.env w ad t → hs t = some m → T.goodT o lw hs → 0 ≤ lw.now → lw.now ≤ 1048576 → t < 16 →
    (∀ k, Fo k → ¬ Fm k ∧ ¬ ad.four k) → (∀ k, Fm k → ¬ ad.four k) → (∀ k, Fo k ∨ Fm k ∨ ad.four k → Mu k) → ad.pt ≠ ad.pm → (∀ k, Mu k → k < w.heap.size) → ∃ f r, Disp Tryz.prog v "Step" f r ∧
    Calls Tryz.prog f #[r, .pointer (some ⟨ad.pw, 0, none⟩)] w fun e w' => ∃ Fo' Fm', e = .returned (.bool (T.G.step o lw t m).2.2.2) ∧ T.OB w' Fo' (T.G.step o lw t m).1 ∧ T.ML w' Fm' v (T.G.step o lw t m).2.2.1 ∧ ((T.G.step o lw t m).2.2.2 = true → T.AL w' Fm' v (T.G.step o lw t m).2.2.1) ∧
      WL w' ad (fun k => (Mu k ∧ ¬ Fo k ∧ ¬ Fm k) ∨ Fo' k ∨ Fm' k) (T.G.step o lw t m).2.1 ∧
      (∀ k, Fo' k ∨ Fm' k → Fo k ∨ Fm k ∨ w.heap.size ≤ k) ∧ (∀ k, Fo' k → ¬ Fm' k) ∧ Keep (fun k => k < w.heap.size ∧ ¬ Fo k ∧ ¬ Fm k ∧ ¬ ad.four k) w w'
  still : T.G.Still
  ans : ∀ {w Fm v m} (o : O), T.AL w Fm v m → ∃ f r, Disp Tryz.prog v "Answer" f r ∧ Calls Tryz.prog f #[r] w fun e w' => ∃ lv kv, e = .returned (.tuple #[.agg #[.int .i64 (T.G.ans o m).1.err, .int .u64 (T.G.ans o m).1.val, lv], kv]) ∧
    LstIs w' (fun k => k < w.heap.size ∧ ¬ Fm k) lv (T.G.ans o m).1.list ∧ KeyIs w' (fun k => k < w.heap.size ∧ ¬ Fm k) kv (T.G.ans o m).2 ∧ Below w.heap.size w w'
  late : ∀ {w Fm v m}, T.ML w Fm v m → LateNo v ∧ ∀ o lw, T.G.late o lw m = none
  goodStart : ∀ {o lw hs} {t : Nat} {c : Cl}, T.goodT o lw hs → hs t = none → t < 16 → T.cl c → c.thread = t → ClU c → T.goodT (T.G.start o t c).1 { lw with inv := upd lw.inv t lw.now, marks := upd lw.marks t [] } (upd hs t (some (T.G.start o t c).2))
  goodTick : ∀ {o lw hs}, T.good o lw hs → T.goodT o { lw with now := lw.now + 1 } hs
  goodStep : ∀ {o lw hs} {t : Nat} {m : M}, T.goodT o lw hs → hs t = some m → t < 16 → T.good (T.G.step o lw t m).1 (T.G.step o lw t m).2.1 (upd hs t (if (T.G.step o lw t m).2.2.2 then none else some (T.G.step o lw t m).2.2.1))

/-- What does not turn in a play: where its parts lie, the objects' and the calls' slices, the calls, and where the line's rows lie. -/
structure Fix where
  ad : Adr
  OV : Value
  CV : Value
  Bl : Nat
  Tl : Nat
  cs : List Cl
def Fix.six (X : Fix) (k : Nat) : Prop := k = X.ad.pp ∨ k = X.ad.pl ∨ k = X.ad.pg ∨ X.ad.four k
def Ps.ms {M O : Type} (P : Ps M O) : Nat → Option M := fun t => (P.hands t).map Prod.fst
structure PLa {M O : Type} (T : Th M O) (X : Fix) (w : World) (Mu Fo : Nat → Prop) (Fm : Nat → Nat → Prop) (hv : Nat → Value) (ev : Value) (P : Ps M O) : Prop where
  player : ∃ f : Nat → Value, w.rowIs X.ad.pp 141 46 f ∧ f 0 = .pointer (some ⟨X.ad.pw, 0, none⟩) ∧ f 1 = X.OV ∧ f 2 = X.CV ∧ f 3 = .pointer (some ⟨X.ad.pl, 0, none⟩) ∧ (∀ t, t < 16 → f (5 + t * 2) = hv t ∧ (∀ m h, P.hands t = some (m, h) → f (5 + t * 2 + 1) = .int .i64 (h : Nat)) ∧ (f (5 + t * 2 + 1)).oneCell' = true) ∧ f 37 = ev ∧ f 45 = .int .i64 P.idle
  world : WL w X.ad Mu P.lw
  line : LineAt w X.ad.pl X.ad.pg X.Bl X.Tl (remF X.cs P.fin)
  objs : T.OB w Fo P.obj
  hnone : ∀ t, P.hands t = none → t < 16 → hv t = .nilIface
  hsome : ∀ t m h, P.hands t = some (m, h) → t < 16 ∧ T.ML w (Fm t) (hv t) m ∧ h < P.evs.length
  evs : EvsAt w X.Tl Mu ev P.evs
  muFix : ∀ k, X.six k → Mu k
  muEv : ∀ k, ev.ownBlock = some k → Mu k ∧ ¬ X.six k ∧ ¬ Fo k ∧ ∀ t m h, P.hands t = some (m, h) → ¬ Fm t k
  muFo : ∀ k, Fo k → Mu k ∧ ¬ X.six k
  muFm : ∀ t m h k, P.hands t = some (m, h) → Fm t k → Mu k ∧ ¬ X.six k ∧ ¬ Fo k
  apart : ∀ t s m h m' h' k, t ≠ s → P.hands t = some (m, h) → P.hands s = some (m', h') → Fm t k → ¬ Fm s k
  lt : ∀ k, Mu k → k < w.heap.size
  gap : ∀ k, Mu k → k < X.Bl ∨ X.Tl ≤ k
  gap2 : X.Bl ≤ X.Tl ∧ X.Tl ≤ w.heap.size
  ne : X.ad.pt ≠ X.ad.pg
  calls : ∃ A c, X.CV = .slice A X.cs.length c ∧ SlCl w (.slice A X.cs.length c) X.cs ∧ X.cs.length ≤ 1000 ∧ ∀ a : Addr, A = some a → 0 < X.cs.length → ¬ Mu a.block
  ovs : ∃ A c, X.OV = .slice A T.objs.length c ∧ Sl (fun v : Value => [v]) 1 w (.slice A T.objs.length c) T.objs ∧ ∀ a : Addr, A = some a → 0 < T.objs.length → ¬ Mu a.block
  fin : P.fin.length = X.cs.length
  thr : ∀ c ∈ X.cs, 0 ≤ c.thread ∧ c.thread < 16 ∧ ClU c ∧ T.cl c

end Go.Proofs.YtfghmlpjbedomaaGreat
