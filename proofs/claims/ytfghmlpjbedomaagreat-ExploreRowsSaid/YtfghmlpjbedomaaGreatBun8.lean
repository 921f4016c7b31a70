/- A play on a loom: what objects and machines must be (Th), and how a play lies in memory (PLa). -/
/- Machines of one step that tell an error (loom.Refuse): made, stepped, asked. -/
import Derived.Test.YtfghmlpjbedomaaGreatLo1
import Derived.Stop.Asserts
namespace Go.Proofs.YtfghmlpjbedomaaGreat
open Go.RowKit

/-- A call's words are words. -/
def ClU (c : Cl) : Prop := (0 ≤ c.a ∧ c.a < 18446744073709551616) ∧ (0 ≤ c.b ∧ c.b < 18446744073709551616) ∧ (0 ≤ c.c ∧ c.c < 18446744073709551616)
/-- Objects, their machines as plain data, and how these lie. -/
structure Th (M O : Type) where
  G : Gm M O
  objs : List Value
  OB : World → (Nat → Prop) → O → Prop
  ML : World → (Nat → Prop) → Value → M → Prop
  AL : World → (Nat → Prop) → Value → M → Prop
  good : O → Lw → (Nat → Option M) → Prop
  goodT : O → Lw → (Nat → Option M) → Prop
  cl : Cl → Prop
/-- An operation that may not be: the machine that tells the error. -/
structure OnceNo (w : World) (b b1 : Nat) (e : Int) : Prop where
  once : w.heap[b]? = some (.cells #[.func (.func 143) #[] #[.pointer (some ⟨b1, 0, none⟩)], .int .i64 0, .int .u64 0, .slice none 0 0] 256 (0, 0)) ∨ w.heap[b]? = some (.cells #[.func (.func 143) #[] #[.pointer (some ⟨b1, 0, none⟩)], .int .i64 e, .int .u64 0, .slice none 0 0] 256 (0, 0))
  box : w.heap[b1]? = some (.cells #[.int .i64 e] 47 (0, 0))
def onceV (b : Nat) : Value := .iface 254 (.pointer (some ⟨b, 0, none⟩))
def LateNo (v : Value) : Prop := ∀ w, (Instr.typeAssert v 136 201 true).run Tryz.prog w = .ok (.tuple #[.nilIface, .bool false]) w
def clV (c : Cl) : Value := .agg #[.int .i64 c.thread, .int .i64 c.obj, .int .i64 c.kind, .int .u64 c.a, .int .u64 c.b, .int .u64 c.c]
/-- The blocks of what machines step in. -/
def Adr.four (ad : Adr) (k : Nat) : Prop := k = ad.pw ∨ k = ad.pm ∨ k = ad.px ∨ k = ad.pt
structure Th.Ok {M O : Type} (T : Th M O) : Prop where
  obKeep : ∀ {w w' F o} {S : Nat → Prop}, T.OB w F o → Keep S w w' → (∀ k, F k → S k) → T.OB w' F o
  obLt : ∀ {w F o}, T.OB w F o → ∀ k, F k → k < w.heap.size
  mlKeep : ∀ {w w' F v m} {S : Nat → Prop}, T.ML w F v m → Keep S w w' → (∀ k, F k → S k) → T.ML w' F v m
  alKeep : ∀ {w w' F v m} {S : Nat → Prop}, T.AL w F v m → Keep S w w' → (∀ k, F k → S k) → T.AL w' F v m
  mlLt : ∀ {w F v m}, T.ML w F v m → ∀ k, F k → k < w.heap.size
  mlIface : ∀ {w F v m}, T.ML w F v m → ∃ t u, v = .iface t u
  objIface : ∀ v ∈ T.objs, ∃ t u, v = .iface t u
  start : ∀ {w Fo o lw hs} {t j : Nat} {c : Cl} {v : Value}, T.OB w Fo o → T.goodT o lw hs → hs t = none → t < 16 → c.thread = t → ClU c → T.cl c → c.obj = j → T.objs[j]? = some v → ∃ f r, Disp Tryz.prog v "Start" f r ∧
    ∀ pw, Calls Tryz.prog f #[r, .pointer (some ⟨pw, 0, none⟩), .int .i64 t, clV c] w fun e w' => ∃ Fo' Fm' u, e = .returned u ∧ T.OB w' Fo' (T.G.start o t c).1 ∧ T.ML w' Fm' u (T.G.start o t c).2 ∧
      (∀ k, Fo' k → Fo k ∨ w.heap.size ≤ k) ∧ (∀ k, Fm' k → Fo k ∨ w.heap.size ≤ k) ∧ (∀ k, Fo' k → ¬ Fm' k) ∧ Keep (fun k => k < w.heap.size ∧ ¬ Fo k) w w'
  refuse : ∀ {o} {t : Nat} {c : Cl}, ¬ (0 ≤ c.obj ∧ c.obj < T.objs.length) → (T.G.start o t c).1 = o ∧ ∀ w b b1, OnceNo w b b1 12 → T.ML w (fun k => k = b ∨ k = b1) (onceV b) (T.G.start o t c).2
  step : ∀ {w Fo Fm v m o lw hs ad Mu} {t : Nat}, T.OB w Fo o → T.ML w Fm v m → WL w ad Mu lw → hs t = some m → T.goodT o lw hs → 0 ≤ lw.now → lw.now ≤ 1048576 → t < 16 →
    (∀ k, Fo k → ¬ Fm k ∧ ¬ ad.four k) → (∀ k, Fm k → ¬ ad.four k) → (∀ k, Fo k ∨ Fm k ∨ ad.four k → Mu k) → ad.pt ≠ ad.pm → (∀ k, Mu k → k < w.heap.size) → ∃ f r, Disp Tryz.prog v "Step" f r ∧
    Calls Tryz.prog f #[r, .pointer (some ⟨ad.pw, 0, none⟩)] w fun e w' => ∃ Fo' Fm', e = .returned (.bool (T.G.step o lw t m).2.2.2) ∧ T.OB w' Fo' (T.G.step o lw t m).1 ∧ T.ML w' Fm' v (T.G.step o lw t m).2.2.1 ∧ ((T.G.step o lw t m).2.2.2 = true → T.AL w' Fm' v (T.G.step o lw t m).2.2.1) ∧
      WL w' ad (fun k => (Mu k ∧ ¬ Fo k ∧ ¬ Fm k) ∨ Fo' k ∨ Fm' k) (T.G.step o lw t m).2.1 ∧
      (∀ k, Fo' k ∨ Fm' k → Fo k ∨ Fm k ∨ w.heap.size ≤ k) ∧ (∀ k, Fo' k → ¬ Fm' k) ∧ Keep (fun k => k < w.heap.size ∧ ¬ Fo k ∧ ¬ Fm k ∧ ¬ ad.four k) w w'
  still : T.G.Still
  ans : ∀ {w Fm v m} (o : O), T.AL w Fm v m → ∃ f r, Disp Tryz.prog v "Answer" f r ∧ Calls Tryz.prog f #[r] w fun e w' => ∃ lv kv, e = .returned (.tuple #[.agg #[.int .i64 (T.G.ans o m).1.err, .int .u64 (T.G.ans o m).1.val, lv], kv]) ∧
    LstIs w' (fun k => k < w.heap.size ∧ ¬ Fm k) lv (T.G.ans o m).1.list ∧ KeyIs w' (fun k => k < w.heap.size ∧ ¬ Fm k) kv (T.G.ans o m).2 ∧ Below w.heap.size w w'
  late : ∀ {w Fm v m}, T.ML w Fm v m → LateNo v ∧ ∀ o lw, T.G.late o lw m = none
  goodStart : ∀ {o lw hs} {t : Nat} {c : Cl}, T.goodT o lw hs → hs t = none → t < 16 → T.cl c → c.thread = t → ClU c → T.goodT (T.G.start o t c).1 { lw with inv := upd lw.inv t lw.now, marks := upd lw.marks t [] } (upd hs t (some (T.G.start o t c).2))
  goodTick : ∀ {o lw hs}, T.good o lw hs → T.goodT o { lw with now := lw.now + 1 } hs
  goodStep : ∀ {o lw hs} {t : Nat} {m : M}, T.goodT o lw hs → hs t = some m → t < 16 → T.good (T.G.step o lw t m).1 (T.G.step o lw t m).2.1 (upd hs t (if (T.G.step o lw t m).2.2.2 then none else some (T.G.step o lw t m).2.2.1))

/-- What does not turn in a play: where its parts lie, the objects' and the calls' slices, the calls, and where the line's rows lie. -/
structure Fix where
  ad : Adr
  OV : Value
  CV : Value
  Bl : Nat
  Tl : Nat
  cs : List Cl
def Fix.six (X : Fix) (k : Nat) : Prop := k = X.ad.pp ∨ k = X.ad.pl ∨ k = X.ad.pg ∨ X.ad.four k
def Ps.ms {M O : Type} (P : Ps M O) : Nat → Option M := fun t => (P.hands t).map Prod.fst
structure PLa {M O : Type} (T : Th M O) (X : Fix) (w : World) (Mu Fo : Nat → Prop) (Fm : Nat → Nat → Prop) (hv : Nat → Value) (ev : Value) (P : Ps M O) : Prop where
  player : ∃ f : Nat → Value, w.rowIs X.ad.pp 141 46 f ∧ f 0 = .pointer (some ⟨X.ad.pw, 0, none⟩) ∧ f 1 = X.OV ∧ f 2 = X.CV ∧ f 3 = .pointer (some ⟨X.ad.pl, 0, none⟩) ∧ (∀ t, t < 16 → f (5 + t * 2) = hv t ∧ (∀ m h, P.hands t = some (m, h) → f (5 + t * 2 + 1) = .int .i64 (h : Nat)) ∧ (f (5 + t * 2 + 1)).oneCell' = true) ∧ f 37 = ev ∧ f 45 = .int .i64 P.idle
  world : WL w X.ad Mu P.lw
  line : LineAt w X.ad.pl X.ad.pg X.Bl X.Tl (remF X.cs P.fin)
  objs : T.OB w Fo P.obj
  hnone : ∀ t, P.hands t = none → t < 16 → hv t = .nilIface
  hsome : ∀ t m h, P.hands t = some (m, h) → t < 16 ∧ T.ML w (Fm t) (hv t) m ∧ h < P.evs.length
  evs : EvsAt w X.Tl Mu ev P.evs
  muFix : ∀ k, X.six k → Mu k
  muEv : ∀ k, ev.ownBlock = some k → Mu k ∧ ¬ X.six k ∧ ¬ Fo k ∧ ∀ t m h, P.hands t = some (m, h) → ¬ Fm t k
  muFo : ∀ k, Fo k → Mu k ∧ ¬ X.six k
  muFm : ∀ t m h k, P.hands t = some (m, h) → Fm t k → Mu k ∧ ¬ X.six k ∧ ¬ Fo k
  apart : ∀ t s m h m' h' k, t ≠ s → P.hands t = some (m, h) → P.hands s = some (m', h') → Fm t k → ¬ Fm s k
  lt : ∀ k, Mu k → k < w.heap.size
  gap : ∀ k, Mu k → k < X.Bl ∨ X.Tl ≤ k
  gap2 : X.Bl ≤ X.Tl ∧ X.Tl ≤ w.heap.size
  ne : X.ad.pt ≠ X.ad.pg
  calls : ∃ A c, X.CV = .slice A X.cs.length c ∧ SlCl w (.slice A X.cs.length c) X.cs ∧ X.cs.length ≤ 1000 ∧ ∀ a : Addr, A = some a → 0 < X.cs.length → ¬ Mu a.block
  ovs : ∃ A c, X.OV = .slice A T.objs.length c ∧ Sl (fun v : Value => [v]) 1 w (.slice A T.objs.length c) T.objs ∧ ∀ a : Addr, A = some a → 0 < T.objs.length → ¬ Mu a.block
  fin : P.fin.length = X.cs.length
  thr : ∀ c ∈ X.cs, 0 ≤ c.thread ∧ c.thread < 16 ∧ ClU c ∧ T.cl c

end Go.Proofs.YtfghmlpjbedomaaGreat

namespace Go.Proofs.YtfghmlpjbedomaaGreat
open Go.RowKit
attribute [local go_sem] run_store_fn run_store_nilfn

set_option maxRecDepth 100000 in
theorem refuseMake (e : Int) (w : World) : Calls Tryz.prog 137 #[.int .i64 e] w fun x w' => ∃ b b1, x = .returned (onceV b) ∧ OnceNo w' b b1 e ∧ w.heap.size ≤ b ∧ w.heap.size ≤ b1 ∧ Below w.heap.size w w' := by
  unfold onceV
  go_enter Tryz.func137, Tryz.ntmps137
  go_wp2_with go_in
  go_ret
  refine ⟨w.heap.size + 1, w.heap.size, rfl, ⟨Or.inl ?_, ?_⟩, by omega, Nat.le_refl _, by (repeat' (first | exact Below.refl _ _ | assumption | refine Below.drew ?_ | refine below_drewN ?_ _ | refine Below.alloc ?_ (by simp <;> omega) _ | refine Below.setCell ?_ (by simp <;> omega) _))⟩
  · have := heap_alloc_new (w.alloc (.cells #[.int .i64 e] 47)) (.cells #[.func (.func 143) #[] #[.pointer (some ⟨w.heap.size, 0, none⟩)], .int .i64 0, .int .u64 0, .slice none 0 0] 256)
    simpa using this
  · exact (heap_alloc_old _ _ (by simp)).trans (heap_alloc_new _ _)
set_option maxRecDepth 100000 in
theorem refuseSay (e : Int) (b1 pw : Nat) (w : World) (h : w.heap[b1]? = some (.cells #[.int .i64 e] 47 (0, 0))) :
    Calls Tryz.prog 143 #[.pointer (some ⟨pw, 0, none⟩), .pointer (some ⟨b1, 0, none⟩)] w fun x w' => x = .returned (.agg #[.int .i64 e, .int .u64 0, .slice none 0 0]) ∧ w' = w.alloc (.cells #[.int .i64 e, .int .u64 0, .slice none 0 0] 64) := by
  have c0 : w.cell? ⟨b1, 0, none⟩ = some (.int .i64 e) := cell_of_row w b1 0 _ _ _ h
  have hz := (Array.getElem?_eq_some_iff.1 h).1
  clear h
  go_enter Tryz.func143, Tryz.ntmps143
  go_wp2
  refine bodyPost_ret (v := .agg #[.int .i64 e, .int .u64 0, .slice none 0 0]) (by simp [results, Tryz.results143, go_sem, *]) rfl ⟨rfl, ?_⟩
  first | rfl | simp [go_sem]
set_option maxRecDepth 100000 in
theorem refuseStep (b b1 pw : Nat) (e : Int) (w : World) (h : OnceNo w b b1 e) :
    Calls Tryz.prog 227 #[.pointer (some ⟨b, 0, none⟩), .pointer (some ⟨pw, 0, none⟩)] w fun x w' => x = .returned (.bool true) ∧ OnceNo w' b b1 e ∧ w'.heap[b]? = some (.cells #[.func (.func 143) #[] #[.pointer (some ⟨b1, 0, none⟩)], .int .i64 e, .int .u64 0, .slice none 0 0] 256 (0, 0)) ∧ Keep (fun k => k ≠ b ∧ k < w.heap.size) w w' := by
  obtain ⟨e1, hb⟩ : ∃ e1, w.heap[b]? = some (.cells #[.func (.func 143) #[] #[.pointer (some ⟨b1, 0, none⟩)], .int .i64 e1, .int .u64 0, .slice none 0 0] 256 (0, 0)) := by
    rcases h.once with h | h <;> exact ⟨_, h⟩
  have hx := h.box
  obtain ⟨c0, c1, c2, c3, hz⟩ := cells4 hb
  have f0 := frozen_of_row w b 1 _ _ hb
  have f1 := frozen_of_row w b 2 _ _ hb
  have f2 := frozen_of_row w b 3 _ _ hb
  have hne : b ≠ b1 := by intro h'; rw [h', hx] at hb; cases hb
  have hz1 := (Array.getElem?_eq_some_iff.1 hx).1
  have HX := hide hx
  have HB := hide hb
  clear hx hb h
  go_enter Tryz.func227, Tryz.ntmps227
  go_wp2_with fail
  refine (refuseSay e b1 pw w HX.out).mono ?_
  rintro x w1 ⟨rfl, rfl⟩
  go_wp2
  go_ret
  have hB : ((((w.setCell ⟨b, 1, none⟩ (.int .i64 e)).setCell ⟨b, 2, none⟩ (.int .u64 0)).setCell ⟨b, 3, none⟩ (.slice none 0 0)).alloc (.cells #[.int .i64 e, .int .u64 0, .slice none 0 0] 64)).heap[b]? = some (.cells #[.func (.func 143) #[] #[.pointer (some ⟨b1, 0, none⟩)], .int .i64 e, .int .u64 0, .slice none 0 0] 256 (0, 0)) := by
    refine (heap_alloc_old _ _ (by simpa using hz)).trans ?_
    rw [cells_set (cells_set (cells_set HB.out))]
    rfl
  refine ⟨rfl, ⟨Or.inr hB, ?_⟩, hB, ?_⟩
  · refine Eq.trans ?_ HX.out
    (repeat' (first | with_reducible rfl | with_reducible assumption | with_reducible refine heap_set_congr ?_ | with_reducible refine (heap_drew _ _).trans ?_ | with_reducible refine (heap_drewN _ _ _).trans ?_ | (with_reducible refine (heap_alloc_old _ _ ?_).trans ?_) | (with_reducible refine (Below.heap_setCell _ _ _ _ ?_).trans ?_) | omega | (simp; done) | (simp; omega)))
  · repeat' (first | exact Keep.refl _ _ | refine Keep.setCell ?_ ?_ _ | refine Keep.alloc ?_ ?_ _ | (intro k hk; simp at hk ⊢; omega) | (intro hh; simp at hh; done))
set_option maxRecDepth 100000 in
theorem onceAnswer (b : Nat) (e v : Int) (l d : Value) (w : World) (h : w.heap[b]? = some (.cells #[d, .int .i64 e, .int .u64 v, l] 256 (0, 0))) (hl : ∃ A n c, l = .slice A n c) :
    Calls Tryz.prog 226 #[.pointer (some ⟨b, 0, none⟩)] w fun x w' => x = .returned (.tuple #[.agg #[.int .i64 e, .int .u64 v, l], .slice none 0 0]) ∧ Below w.heap.size w w' := by
  obtain ⟨A, n, c, rfl⟩ := hl
  obtain ⟨c0, c1, c2, c3, hz⟩ := cells4 h
  clear h
  go_enter Tryz.func226, Tryz.ntmps226
  go_wp2
  refine bodyPost_ret (v := .tuple #[.agg #[.int .i64 e, .int .u64 v, .slice A n c], .slice none 0 0]) (by simp [results, Tryz.results226, go_sem, *]) rfl ⟨rfl, ?_⟩
  (repeat' (first | exact Below.refl _ _ | assumption | refine Below.drew ?_ | refine below_drewN ?_ _ | refine Below.alloc ?_ (by simp <;> omega) _ | refine Below.setCell ?_ (by simp <;> omega) _))
theorem onceDispStep (b : Nat) : Disp Tryz.prog (onceV b) "Step" 227 (.pointer (some ⟨b, 0, none⟩)) := fun _ _ => by kernel_rfl
theorem onceDispAnswer (b : Nat) : Disp Tryz.prog (onceV b) "Answer" 226 (.pointer (some ⟨b, 0, none⟩)) := fun _ _ => by kernel_rfl
theorem onceLateNo (b : Nat) : LateNo (onceV b) := fun w => run_typeAssert_lacksB Tryz.underlying201 (by kernel_rfl) (by kernel_rfl) _ _ w
end Go.Proofs.YtfghmlpjbedomaaGreat
