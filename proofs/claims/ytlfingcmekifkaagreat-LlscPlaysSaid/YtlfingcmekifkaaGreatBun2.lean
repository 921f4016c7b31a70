import Derived.Test.YtlfingcmekifkaaGreatBun1
import Derived.Maps.AppendAt
import Derived.Deep.AppendLies
import Derived.Lib.SliceRun
import Derived.OwnWalk
import Derived.Deep.OwnRows
namespace Go.Proofs.YtlfingcmekifkaaGreat
open Go.RowKit
def remF (cs : List Cl) (fin : List Bool) (p : Int) : List Nat := (List.range cs.length).filter fun i => decide ((cs[i]?).map (·.thread) = some p) && !(fin[i]?.getD false)
def nowF (cs : List Cl) (fin : List Bool) (p : Int) : Option Nat := (remF cs fin p).head?
theorem remF_mem {cs : List Cl} {fin : List Bool} {p : Int} {i : Nat} : i ∈ remF cs fin p ↔ i < cs.length ∧ (cs[i]?).map (·.thread) = some p ∧ fin[i]?.getD false = false := by
  unfold remF
  rw [List.mem_filter, List.mem_range]
  simp
theorem nowF_some {cs : List Cl} {fin : List Bool} {p : Int} {i : Nat} (h : nowF cs fin p = some i) : i < cs.length ∧ (cs[i]?).map (·.thread) = some p ∧ fin[i]?.getD false = false := by
  unfold nowF at h
  exact remF_mem.1 (List.mem_of_mem_head? h)
theorem set_get (fin : List Bool) (i j : Nat) (hi : i < fin.length) : (fin.set i true)[j]?.getD false = if j = i then true else fin[j]?.getD false := by
  rw [List.getElem?_set]
  by_cases h : i = j
  · subst h; simp [hi]
  · simp [h, Ne.symm h]
theorem filter_tail {l : List Nat} {i : Nat} {rest : List Nat} {f : Nat → Bool} (hf : l.filter f = i :: rest) (hn : l.Nodup) : l.filter (fun j => f j && !decide (j = i)) = rest := by
  have h1 : l.filter (fun j => f j && !decide (j = i)) = (l.filter f).filter (fun j => !decide (j = i)) := by
    rw [List.filter_filter]
    congr 1
    funext j
    exact Bool.and_comm _ _
  rw [h1, hf]
  have hnd : (i :: rest).Nodup := by rw [← hf]; exact List.Pairwise.filter _ hn
  rw [List.nodup_cons] at hnd
  rw [List.filter_cons]
  simp
  intro a ha e
  subst e
  exact hnd.1 ha
theorem remF_finish {cs : List Cl} {fin : List Bool} {p : Int} {i : Nat} {rest : List Nat} (hl : fin.length = cs.length) (h : remF cs fin p = i :: rest) :
    remF cs (fin.set i true) p = rest ∧ ∀ p', p' ≠ p → remF cs (fin.set i true) p' = remF cs fin p' := by
  have hi := remF_mem.1 (show i ∈ remF cs fin p by rw [h]; simp)
  refine ⟨?_, fun p' hp => ?_⟩
  · have := filter_tail h List.nodup_range
    rw [← this]
    unfold remF
    apply List.filter_congr
    intro j _
    rw [set_get _ _ _ (by omega)]
    by_cases hj : j = i
    · subst hj; simp
    · simp [hj]
  · unfold remF
    apply List.filter_congr
    intro j _
    rw [set_get _ _ _ (by omega)]
    by_cases hj : j = i
    · subst hj
      simp [hi.2.1, hi.2.2]
      intro e
      exact hp e.symm
    · simp [hj]
end Go.Proofs.YtlfingcmekifkaaGreat

namespace Go.Proofs.YtlfingcmekifkaaGreat
open Go.RowKit
structure An where
  err : Int
  val : Int
  list : List Int
end Go.Proofs.YtlfingcmekifkaaGreat

namespace Go.Proofs.YtlfingcmekifkaaGreat
open Go.RowKit
def acY (k x b c : Int) : Int := if k = 0 then x else if k = 1 then b else if k = 2 then (if x = b then c else x) else (x + b) % 18446744073709551616
def acV (k x b : Int) : Int := if k = 0 then x else if k = 1 then 0 else if k = 2 then (if x = b then 1 else 0) else x
structure Mm where
  words : List Int
  rd : Int
  wr : Int
  sw : Int
  ad : Int
  ft : Int
def Mm.in (m : Mm) (a : Int) : Prop := 0 ≤ a ∧ a < m.words.length
instance (m : Mm) (a : Int) : Decidable (m.in a) := by unfold Mm.in; infer_instance
def Mm.at (m : Mm) (a : Int) : Int := (m.words[a.toNat]?).getD 0
def Mm.bump (m : Mm) (k : Int) : Mm := if k = 0 then { m with rd := m.rd + 1 } else if k = 1 then { m with wr := m.wr + 1 } else if k = 2 then { m with sw := m.sw + 1 } else { m with ad := m.ad + 1 }
def Mm.acc (m : Mm) (k a x y : Int) : Mm := if m.in a then { m.bump k with words := m.words.set a.toNat (acY k (m.at a) x y) } else { m with ft := m.ft + 1 }
def Mm.tell (m : Mm) (k a x : Int) : Int := if m.in a then acV k (m.at a) x else 0
def Mm.new (words : List Int) : Mm := ⟨words, 0, 0, 0, 0, 0⟩
structure Lw where
  mem : Mm
  now : Int
  inv : Nat → Int
  marks : Nat → List Int
  traces : Int → List Int
structure Ep where
  call : Nat
  inv : Int
  resp : Int
  steps : Int
  ans : An
  key : List Int
structure Gm (M O : Type) where
  start : O → Nat → Cl → O × M
  step : O → Lw → Nat → M → O × Lw × M × Bool
  ans : O → M → An × List Int
  late : O → Lw → M → Option (List Int)
structure Ps (M O : Type) where
  lw : Lw
  obj : O
  fin : List Bool
  hands : Nat → Option (M × Nat)
  evs : List Ep
  idle : Int
section
variable {M O : Type}
def upd {α : Type} (f : Nat → α) (t : Nat) (x : α) : Nat → α := fun i => if i = t then x else f i
theorem upd_same {α : Type} (f : Nat → α) (t : Nat) (x : α) : upd f t x t = x := by simp [upd]
theorem upd_other {α : Type} {f : Nat → α} {t i : Nat} {x : α} (h : i ≠ t) : upd f t x i = f i := by simp [upd, h]
def Ps.new (words : List Int) (o : O) (m : Nat) : Ps M O := ⟨⟨Mm.new words, 0, fun _ => 0, fun _ => [], fun _ => []⟩, o, List.replicate m false, fun _ => none, [], 0⟩
def Ps.start (G : Gm M O) (P : Ps M O) (t i : Nat) (c : Cl) : Ps M O :=
  { P with lw := { P.lw with inv := upd P.lw.inv t P.lw.now, marks := upd P.lw.marks t [] }, obj := (G.start P.obj t c).1, hands := upd P.hands t (some ((G.start P.obj t c).2, P.evs.length)), evs := P.evs ++ [⟨i, P.lw.now, 0, 0, ⟨0, 0, []⟩, []⟩] }
def keyOf (k : List Int) (marks : List Int) (now : Int) : List Int := if k ≠ [] then k else if marks ≠ [] then marks else [2 * now]
def Ps.step (G : Gm M O) (P : Ps M O) (t i : Nat) (m : M) (h : Nat) : Ps M O :=
  let S := G.step P.obj P.lw t m
  if S.2.2.2 then
    { P with obj := S.1, lw := S.2.1, hands := upd P.hands t none, fin := P.fin.set i true,
             evs := P.evs.modify h fun e => { e with steps := e.steps + 1, ans := (G.ans S.1 S.2.2.1).1, resp := S.2.1.now, key := keyOf (G.ans S.1 S.2.2.1).2 (S.2.1.marks t) S.2.1.now } }
  else { P with obj := S.1, lw := S.2.1, hands := upd P.hands t (some (S.2.2.1, h)), evs := P.evs.modify h fun e => { e with steps := e.steps + 1 } }
def Ps.pick (G : Gm M O) (cs : List Cl) (P : Ps M O) (p : Int) : Ps M O :=
  match nowF cs P.fin p with
  | none => { P with idle := P.idle + 1 }
  | some i =>
    let P1 : Ps M O := { P with lw := { P.lw with now := P.lw.now + 1 } }
    match P.hands p.toNat with
    | some (m, h) => P1.step G p.toNat i m h
    | none =>
      let c := (cs[i]?).getD ⟨0, 0, 0, 0, 0, 0⟩
      (P1.start G p.toNat i c).step G p.toNat i (G.start P.obj p.toNat c).2 P.evs.length
def Ps.play (G : Gm M O) (cs : List Cl) (P : Ps M O) (picks : List Int) : Ps M O := picks.foldl (Ps.pick G cs) P
def Ps.ends (G : Gm M O) (P : Ps M O) : List Ep :=
  (List.range 16).foldl (fun evs t => match P.hands t with
    | none => evs
    | some (m, h) => evs.modify h fun e => { e with key := match G.late P.obj P.lw m with | some k => k | none => P.lw.marks t }) P.evs
theorem play_succ {G : Gm M O} {cs : List Cl} {P : Ps M O} {picks : List Int} {k : Nat} {p : Int} (h : picks[k]? = some p) : P.play G cs (picks.take (k + 1)) = (P.play G cs (picks.take k)).pick G cs p := by
  unfold Ps.play
  rw [List.take_add_one, h]
  simp [List.foldl_append]
end
end Go.Proofs.YtlfingcmekifkaaGreat

namespace Go.Proofs.YtlfingcmekifkaaGreat
open Go.RowKit
theorem wp_append_own_at {P : Program} {w : World} {o : Oper} {a : Act} {K : Act → World → Prop} {Q : Exit → Act → World → Prop} (s x : Operand) (t : TypeId)
    (ho : o.op = .call { callee := .builtin .append, args := #[s, x], argTypes := #[t, t] })
    (base : Nat) (e : TypeId) (i : TypeInfo) (z : Value) (size bytes : Nat) (ht : P.underlying t = some (.slice e)) (hi : P.info? e = some i) (hz : i.zero = some z)
    (hsize : i.size = size) (hby : i.bytes = bytes) (hzs : z.cells.size = size) (hsz : 0 < size)
    (v : Value) (n : Nat) (xs : List Value) (hs : a.eval s = v) (hown : w.ownsRow base e size v n xs)
    (ad : Addr) (m c : Nat) (news : List Value) (hx : a.eval x = .slice (some ad) m c) (hl : news.length = m * size) (hnews : ∀ (j : Nat) (u : Value), news[j]? = some u → w.cell? (ad.add j) = some u) (h1 : ∀ u ∈ news, u.oneCell' = true)
    (h63 : n + m ≤ maxLen) (hbytes : (n + m) * bytes ≤ 140737488355328) (hbase : base ≤ w.heap.size)
    (h : ∀ v' w', w'.ownsRow base e size v' (n + m) (xs ++ news) → w.grownBy w' v.ownBlock → (v' = .slice none 0 0 ↔ v = .slice none 0 0 ∧ m = 0) → (v'.ownBlock = v.ownBlock ∨ v'.ownBlock = some w.heap.size) → K (a.put o.dst v') w') :
    Oper.wp P o a w K Q := by
  obtain ⟨v', w', hr, h2, h3, h4, h5⟩ := run_append_own_at (P := P) w base t o.type e i z size bytes ht hi hz hsize hby hzs hsz v n xs hown ad m c news hl hnews h1 h63 hbytes hbase
  unfold Oper.wp execOp
  simp only [ho, resolve, invoke, builtin, Sem.run_bind, Sem.run_pure, Result.andThen_ok, List.map_toArray, List.map_cons, List.map_nil, hs, hx, hr]
  exact h _ _ h2 h3 h4 h5
section
variable {P : Program} {w : World} {kk : IntKind}
theorem run_append_null (base : Nat) (t ty e : TypeId) (i : TypeInfo) (size : Nat) (ht : P.underlying t = some (.slice e)) (hi : P.info? e = some i)
    {v : Value} {n : Nat} {xs : List Value} (hown : w.ownsRow base e size v n xs) (c : Nat) : (Builtin.append_ #[t, t] ty #[v, .slice none 0 c]).run P w = .ok v w := by
  have hcell : ∀ cap : Nat, n ≤ cap → ¬ cap < n := fun cap h => Nat.not_lt.2 h
  obtain ⟨_, ⟨rfl, rfl⟩ | ⟨g, cap, cur, rfl, _, _, hle, _⟩⟩ := hown
  · simp [Builtin.append_, run_underlying ht, sizeOf, typeInfo, hi, Builtin.lenOf, Builtin.firstCells]
  · simp [Builtin.append_, run_underlying ht, sizeOf, typeInfo, hi, Builtin.lenOf, Builtin.firstCells, storeCells, hle]
theorem sl_news {A : Option Addr} {m c : Nat} {ys : List Int} (h : Sl (ntEnc kk) 1 w (.slice A m c) ys) {ad : Addr} (hA : A = some ad) :
    ∀ (j : Nat) (u : Value), (ys.map (Value.int kk))[j]? = some u → w.cell? (ad.add j) = some u := by
  intro j u hu
  rw [List.getElem?_map] at hu
  rcases hy : ys[j]? with _ | y
  · rw [hy] at hu; cases hu
  · rw [hy] at hu
    cases hu
    obtain ⟨A', c', e, _, _, h3⟩ := h
    obtain ⟨b, o, e', _, hc⟩ := h3 j y hy
    cases e
    subst hA
    cases e'
    rw [Addr.add_lit]
    have := nt_cell hc
    simpa only [Nat.mul_one] using this
theorem sl_len {A : Option Addr} {m c : Nat} {ys : List Int} (h : Sl (ntEnc kk) 1 w (.slice A m c) ys) : m = ys.length := by
  obtain ⟨A', c', e, _⟩ := h
  cases e
  rfl
theorem sl_null {m c : Nat} {ys : List Int} (h : Sl (ntEnc kk) 1 w (.slice none m c) ys) : ys = [] := by
  obtain ⟨A', c', e, _, _, h3⟩ := h
  cases e
  rcases ys with _ | ⟨y, l⟩
  · rfl
  · obtain ⟨b, o, e', _⟩ := h3 0 y rfl
    cases e'
theorem run_append_sl (base : Nat) (t ty e : TypeId) (i : TypeInfo) (z : Value) (bytes : Nat) (ht : P.underlying t = some (.slice e)) (hi : P.info? e = some i) (hz : i.zero = some z) (hsize : i.size = 1) (hby : i.bytes = bytes) (hzs : z.cells.size = 1)
    {v : Value} {n : Nat} {xs : List Int} (hown : w.ownsRow base e 1 v n (xs.map (Value.int kk))) {A : Option Addr} {m c : Nat} {ys : List Int} (hs : Sl (ntEnc kk) 1 w (.slice A m c) ys)
    (h63 : n + ys.length ≤ maxLen) (hbytes : (n + ys.length) * bytes ≤ 140737488355328) (hbase : base ≤ w.heap.size) :
    ∃ v' w', (Builtin.append_ #[t, t] ty #[v, .slice A m c]).run P w = .ok v' w' ∧ w'.ownsRow base e 1 v' (n + ys.length) ((xs ++ ys).map (Value.int kk)) ∧ w.grownBy w' v.ownBlock ∧ (v'.ownBlock = v.ownBlock ∨ v'.ownBlock = some w.heap.size) := by
  have hm := sl_len hs
  rcases A with _ | ad
  · have hy := sl_null hs
    subst hy
    have : m = 0 := hm
    subst this
    exact ⟨v, w, run_append_null base t ty e i 1 ht hi hown c, by simpa using hown, World.grownBy.refl w _, Or.inl rfl⟩
  · subst hm
    obtain ⟨v', w', hr, h2, h3, _, h5⟩ := run_append_own_at (P := P) w base t ty e i z 1 bytes ht hi hz hsize hby hzs (by decide) v n (xs.map (Value.int kk)) hown ad ys.length c (ys.map (Value.int kk)) (by simp) (sl_news hs rfl) (ints_oneCell kk ys) h63 hbytes hbase
    exact ⟨v', w', hr, by rw [List.map_append]; exact h2, h3, h5⟩
theorem wp_append_sl {o : Oper} {a : Act} {K : Act → World → Prop} {Q : Exit → Act → World → Prop} (s x : Operand) (t : TypeId) (ho : o.op = .call { callee := .builtin .append, args := #[s, x], argTypes := #[t, t] })
    (base : Nat) (e : TypeId) (i : TypeInfo) (z : Value) (bytes : Nat) (ht : P.underlying t = some (.slice e)) (hi : P.info? e = some i) (hz : i.zero = some z) (hsize : i.size = 1) (hby : i.bytes = bytes) (hzs : z.cells.size = 1)
    (v : Value) (n : Nat) (xs : List Int) (hv : a.eval s = v) (hown : w.ownsRow base e 1 v n (xs.map (Value.int kk))) (A : Option Addr) (m c : Nat) (ys : List Int) (hx : a.eval x = .slice A m c) (hs : Sl (ntEnc kk) 1 w (.slice A m c) ys)
    (h63 : n + ys.length ≤ maxLen) (hbytes : (n + ys.length) * bytes ≤ 140737488355328) (hbase : base ≤ w.heap.size)
    (h : ∀ v' w', w'.ownsRow base e 1 v' (n + ys.length) ((xs ++ ys).map (Value.int kk)) → w.grownBy w' v.ownBlock → (v'.ownBlock = v.ownBlock ∨ v'.ownBlock = some w.heap.size) → K (a.put o.dst v') w') : Oper.wp P o a w K Q := by
  obtain ⟨v', w', hr, h2, h3, h4⟩ := run_append_sl (P := P) base t o.type e i z bytes ht hi hz hsize hby hzs hown hs h63 hbytes hbase
  unfold Oper.wp execOp
  simp only [ho, resolve, invoke, builtin, Sem.run_bind, Sem.run_pure, Result.andThen_ok, List.map_toArray, List.map_cons, List.map_nil, hv, hx, hr]
  exact h _ _ h2 h3 h4
theorem wpList_append_sl {ops : Array Oper} {rest : List Oper} {o : Oper} {a : Act} {Q : Exit → Act → World → Prop} (hgd : o.guard = none) (s x : Operand) (t : TypeId) (ho : o.op = .call { callee := .builtin .append, args := #[s, x], argTypes := #[t, t] })
    (base : Nat) (e : TypeId) (i : TypeInfo) (z : Value) (bytes : Nat) (ht : P.underlying t = some (.slice e)) (hi : P.info? e = some i) (hz : i.zero = some z) (hsize : i.size = 1) (hby : i.bytes = bytes) (hzs : z.cells.size = 1)
    (v : Value) (n : Nat) (xs : List Int) (hv : a.eval s = v) (hown : w.ownsRow base e 1 v n (xs.map (Value.int kk))) (A : Option Addr) (m c : Nat) (ys : List Int) (hx : a.eval x = .slice A m c) (hs : Sl (ntEnc kk) 1 w (.slice A m c) ys)
    (h63 : n + ys.length ≤ maxLen) (hbytes : (n + ys.length) * bytes ≤ 140737488355328) (hbase : base ≤ w.heap.size)
    (h : ∀ v' w', w'.ownsRow base e 1 v' (n + ys.length) ((xs ++ ys).map (Value.int kk)) → w.grownBy w' v.ownBlock → (v'.ownBlock = v.ownBlock ∨ v'.ownBlock = some w.heap.size) → wpList P ops Q rest (a.put o.dst v') w') : wpList P ops Q (o :: rest) a w :=
  wpList_plain hgd fun _ hK => wp_append_sl s x t ho base e i z bytes ht hi hz hsize hby hzs v n xs hv hown A m c ys hx hs h63 hbytes hbase fun v' w' h2 h3 h4 => hK _ _ (h v' w' h2 h3 h4)
end
end Go.Proofs.YtlfingcmekifkaaGreat

namespace Go.Proofs.YtlfingcmekifkaaGreat
open Go.RowKit
theorem owns_base {w : World} {base base' : Nat} {e : TypeId} {sz : Nat} {v : Value} {n : Nat} {xs : List Value} (h : w.ownsRow base e sz v n xs) (hb : base' ≤ base) : w.ownsRow base' e sz v n xs := by
  obtain ⟨h1, h2 | ⟨g, cap, cur, e1, e2, e3⟩⟩ := h
  · exact ⟨h1, Or.inl h2⟩
  · exact ⟨h1, Or.inr ⟨g, cap, cur, e1, Nat.le_trans hb e2, e3⟩⟩
theorem own_slice {w : World} {base : Nat} {e : TypeId} {sz : Nat} {v : Value} {n : Nat} {xs : List Value} (h : w.ownsRow base e sz v n xs) : ∃ A cap, v = .slice A n cap := by
  obtain ⟨_, ⟨e, h0⟩ | ⟨g, cap, cur, e, _⟩⟩ := h
  · exact ⟨none, 0, by rw [e, h0]⟩
  · exact ⟨_, cap, e⟩
theorem owns_keepB {S : Nat → Prop} {w w' : World} {base : Nat} {e : TypeId} {sz : Nat} {v : Value} {n : Nat} {xs : List Value} (h : w.ownsRow base e sz v n xs) (hk : Keep S w w') (hS : ∀ j, base ≤ j → j < w.heap.size → S j) : w'.ownsRow base e sz v n xs := by
  obtain ⟨h1, h2 | ⟨g, cap, cur, e1, e2, e3, e4⟩⟩ := h
  · exact ⟨h1, Or.inl h2⟩
  · exact ⟨h1, Or.inr ⟨g, cap, cur, e1, e2, (hk.block g (hS g e2 (Array.getElem?_eq_some_iff.1 e3).1)).trans e3, e4⟩⟩
theorem cells_set {w : World} {b i : Nat} {cs : Array Value} {t : TypeId} {u : Value} (h : w.heap[b]? = some (.cells cs t (0, 0))) : (w.setCell ⟨b, i, none⟩ u).heap[b]? = some (.cells (cs.setIfInBounds i u) t (0, 0)) := by
  simp [World.setCell, Array.getElem?_modify, h]
theorem wrap_i64 {x : Int} (h1 : -9223372036854775808 ≤ x) (h2 : x ≤ 9223372036854775807) : IntKind.i64.wrap x = x := by
  rw [IntKind.wrap_i64]; omega
theorem flat_en {α : Type} {en : α → List Value} {sz : Nat} (hl : ∀ x, (en x).length = sz) {l : List α} {k : Nat} {x : α} (h : l[k]? = some x) (j : Nat) (u : Value) (hu : (en x)[j]? = some u) : (l.flatMap en)[k * sz + j]? = some u := by
  induction l generalizing k with
  | nil => simp at h
  | cons y l ih =>
    have hj : j < sz := by have := (List.getElem?_eq_some_iff.1 hu).1; rwa [hl] at this
    rw [List.flatMap_cons]
    rcases k with _ | k
    · simp at h
      subst h
      rw [List.getElem?_append_left (by rw [hl]; omega)]
      simpa using hu
    · rw [List.getElem?_append_right (by rw [hl, Nat.succ_mul]; omega)]
      have e : (k + 1) * sz + j - (en y).length = k * sz + j := by rw [hl, Nat.succ_mul]; omega
      rw [e]
      exact ih (by simpa using h)
end Go.Proofs.YtlfingcmekifkaaGreat

namespace Go.Proofs.YtlfingcmekifkaaGreat
open Go.RowKit
attribute [local go_sem] run_store_fn run_store_nilfn
structure MemAt (w : World) (pm px : Nat) (hk : Value) (m : Mm) : Prop where
  blk : ∃ c, w.heap[pm]? = some (.cells #[.slice (some ⟨px, 0, none⟩) m.words.length c, .int .i64 (wrap64 m.rd), .int .i64 (wrap64 m.wr), .int .i64 (wrap64 m.sw), .int .i64 (wrap64 m.ad), .int .i64 (wrap64 m.ft), hk] 158 (0, 0)) ∧ m.words.length ≤ c ∧ c ≤ maxLen
  row : ∃ cur, w.heap[px]? = some (.cells cur 46 (0, 0)) ∧ ∀ (i : Nat) (x : Int), m.words[i]? = some x → cur[i]? = some (.int .u64 x)
  len : m.words.length ≤ 65536
theorem heap_set_congr {w1 w2 : World} {a : Addr} {u : Value} {k : Nat} (h : w1.heap[k]? = w2.heap[k]?) : (w1.setCell a u).heap[k]? = (w2.setCell a u).heap[k]? := by
  simp only [World.setCell, Array.getElem?_modify, h]
theorem heap_drew (w : World) (k : Nat) : w.drew.heap[k]? = w.heap[k]? := rfl
theorem heap_drewN (w : World) (n k : Nat) : (w.drewN n).heap[k]? = w.heap[k]? := rfl
theorem wrap64_one (x : Int) : wrap64 (wrap64 x + 1) = wrap64 (x + 1) := by unfold wrap64; omega
section
variable {w w' : World} {pm px : Nat} {hk : Value} {m : Mm}
theorem MemAt.ne (h : MemAt w pm px hk m) : pm ≠ px := by
  intro e
  obtain ⟨_, h1, _⟩ := h.blk
  obtain ⟨_, h2, _⟩ := h.row
  rw [e, h2] at h1
  injection h1 with h1
  injection h1 with _ h1 _
  exact absurd h1 (by decide)
theorem MemAt.lt (h : MemAt w pm px hk m) : pm < w.heap.size ∧ px < w.heap.size := by
  obtain ⟨_, h1, _⟩ := h.blk
  obtain ⟨_, h2, _⟩ := h.row
  exact ⟨(Array.getElem?_eq_some_iff.1 h1).1, (Array.getElem?_eq_some_iff.1 h2).1⟩
theorem MemAt.of_blocks (h : MemAt w pm px hk m) (h1 : w'.heap[pm]? = w.heap[pm]?) (h2 : w'.heap[px]? = w.heap[px]?) : MemAt w' pm px hk m := by
  obtain ⟨c, b1, b2, b3⟩ := h.blk
  obtain ⟨cur, r1, r2⟩ := h.row
  exact ⟨⟨c, h1.trans b1, b2, b3⟩, ⟨cur, h2.trans r1, r2⟩, h.len⟩
theorem MemAt.cells (h : MemAt w pm px hk m) : ∃ c, w.cell? ⟨pm, 0, none⟩ = some (.slice (some ⟨px, 0, none⟩) m.words.length c) ∧ w.cell? ⟨pm, 1, none⟩ = some (.int .i64 (wrap64 m.rd)) ∧ w.cell? ⟨pm, 2, none⟩ = some (.int .i64 (wrap64 m.wr)) ∧ w.cell? ⟨pm, 3, none⟩ = some (.int .i64 (wrap64 m.sw)) ∧
    w.cell? ⟨pm, 4, none⟩ = some (.int .i64 (wrap64 m.ad)) ∧ w.cell? ⟨pm, 5, none⟩ = some (.int .i64 (wrap64 m.ft)) ∧ w.cell? ⟨pm, 6, none⟩ = some hk ∧ m.words.length ≤ c ∧ c ≤ maxLen := by
  obtain ⟨c, b1, b2, b3⟩ := h.blk
  exact ⟨c, cell_of_row w pm 0 _ _ _ b1, cell_of_row w pm 1 _ _ _ b1, cell_of_row w pm 2 _ _ _ b1, cell_of_row w pm 3 _ _ _ b1, cell_of_row w pm 4 _ _ _ b1, cell_of_row w pm 5 _ _ _ b1, cell_of_row w pm 6 _ _ _ b1, b2, b3⟩
theorem MemAt.frozen (h : MemAt w pm px hk m) (i : Nat) : w.frozen? ⟨pm, i, none⟩ = false := by
  obtain ⟨c, b1, _⟩ := h.blk
  exact frozen_of_row w pm i _ _ b1
theorem MemAt.word (h : MemAt w pm px hk m) {k : Nat} (hk : k < m.words.length) : w.cell? ⟨px, k, none⟩ = some (.int .u64 (m.at k)) ∧ w.frozen? ⟨px, k, none⟩ = false := by
  obtain ⟨cur, r1, r2⟩ := h.row
  have hx : m.words[k]? = some (m.at k) := by
    unfold Mm.at
    rw [Int.toNat_natCast, List.getElem?_eq_getElem hk]
    rfl
  exact ⟨(cell_of_row w px k _ _ _ r1).trans (r2 k _ hx), frozen_of_row w px k _ _ r1⟩
end
def Mm.cnt (m : Mm) (k : Nat) : Int := if k = 0 then m.rd else if k = 1 then m.wr else if k = 2 then m.sw else if k = 3 then m.ad else m.ft
section
variable {w w' : World} {pm px : Nat} {hk : Value} {m : Mm}
theorem MemAt.row_same (h : MemAt w pm px hk m) {k : Nat} {y : Int} (hy : y = m.at k) (hx : w'.heap[px]? = w.heap[px]?) : ∃ cur, w'.heap[px]? = some (.cells cur 46 (0, 0)) ∧ ∀ (i : Nat) (x : Int), (m.words.set k y)[i]? = some x → cur[i]? = some (.int .u64 x) := by
  obtain ⟨cur, r1, r2⟩ := h.row
  refine ⟨cur, hx.trans r1, fun i x hi => r2 i x ?_⟩
  rw [List.getElem?_set] at hi
  by_cases e : k = i
  · subst e
    rw [if_pos rfl] at hi
    split at hi
    · rename_i hlt
      rw [← hi, hy]
      unfold Mm.at
      rw [Int.toNat_natCast, List.getElem?_eq_getElem hlt]
      rfl
    · cases hi
  · rw [if_neg e] at hi
    exact hi
theorem MemAt.row_set (h : MemAt w pm px hk m) {k : Nat} (hk' : k < m.words.length) (y : Int) (hx : w'.heap[px]? = (w.setCell ⟨px, k, none⟩ (.int .u64 y)).heap[px]?) : ∃ cur, w'.heap[px]? = some (.cells cur 46 (0, 0)) ∧ ∀ (i : Nat) (x : Int), (m.words.set k y)[i]? = some x → cur[i]? = some (.int .u64 x) := by
  obtain ⟨cur, r1, r2⟩ := h.row
  refine ⟨cur.setIfInBounds k (.int .u64 y), hx.trans (cells_set r1), fun i x hi => ?_⟩
  have hc : k < cur.size := by
    have := r2 k _ (List.getElem?_eq_getElem hk')
    exact (Array.getElem?_eq_some_iff.1 this).1
  rw [List.getElem?_set] at hi
  rw [Array.getElem?_setIfInBounds]
  by_cases e : k = i
  · subst e
    rw [if_pos rfl, if_pos hk'] at hi
    cases hi
    rw [if_pos rfl, if_pos hc]
  · rw [if_neg e] at hi
    rw [if_neg e]
    exact r2 i x hi
theorem MemAt.acc_in (h : MemAt w pm px hk m) {kind k : Nat} {x y : Int} (hkd : kind ≤ 3) (hk' : k < m.words.length) (hm : w'.heap[pm]? = (w.setCell ⟨pm, 1 + kind, none⟩ (.int .i64 (wrap64 (wrap64 (m.cnt kind) + 1)))).heap[pm]?)
    (hx : ∃ cur, w'.heap[px]? = some (.cells cur 46 (0, 0)) ∧ ∀ (i : Nat) (z : Int), (m.words.set k (acY kind (m.at k) x y))[i]? = some z → cur[i]? = some (.int .u64 z)) : MemAt w' pm px hk (m.acc kind k x y) := by
  obtain ⟨c, b1, b2, b3⟩ := h.blk
  rw [cells_set b1, wrap64_one] at hm
  have hin : m.in k := ⟨by omega, by omega⟩
  have hl : (m.acc kind k x y).words.length = m.words.length := by unfold Mm.acc; split <;> simp
  have hw : (m.acc kind k x y).words = m.words.set k (acY kind (m.at k) x y) := by unfold Mm.acc; rw [if_pos hin, Int.toNat_natCast]
  refine ⟨⟨c, ?_, by rw [hl]; exact b2, b3⟩, by rw [hw]; exact hx, by rw [hl]; exact h.len⟩
  rw [hm, hl]
  unfold Mm.acc
  rw [if_pos hin]
  have h4 : kind = 0 ∨ kind = 1 ∨ kind = 2 ∨ kind = 3 := by omega
  rcases h4 with rfl | rfl | rfl | rfl <;> rfl
theorem MemAt.acc_out (h : MemAt w pm px hk m) {kind a x y : Int} (hn : ¬ m.in a) (hm : w'.heap[pm]? = (w.setCell ⟨pm, 5, none⟩ (.int .i64 (wrap64 (wrap64 m.ft + 1)))).heap[pm]?) (hx : w'.heap[px]? = w.heap[px]?) : MemAt w' pm px hk (m.acc kind a x y) := by
  obtain ⟨c, b1, b2, b3⟩ := h.blk
  rw [cells_set b1, wrap64_one] at hm
  obtain ⟨cur, r1, r2⟩ := h.row
  unfold Mm.acc
  rw [if_neg hn]
  exact ⟨⟨c, hm, b2, b3⟩, ⟨cur, hx.trans r1, r2⟩, h.len⟩
end
theorem MemAt.did0 {w w' : World} {pm px : Nat} {hk : Value} {m : Mm} (h : MemAt w pm px hk m) {k : Nat} (hk' : k < m.words.length) (x y : Int) (hm : w'.heap[pm]? = (w.setCell ⟨pm, 1, none⟩ (.int .i64 (wrap64 (wrap64 m.rd + 1)))).heap[pm]?) (hx : w'.heap[px]? = w.heap[px]?) : MemAt w' pm px hk (m.acc 0 k x y) :=
  h.acc_in (kind := 0) (by omega) hk' hm (h.row_same rfl hx)
theorem MemAt.did2 {w w' : World} {pm px : Nat} {hk : Value} {m : Mm} (h : MemAt w pm px hk m) {k : Nat} (hk' : k < m.words.length) (x y : Int) (he : m.at k = x) (hm : w'.heap[pm]? = (w.setCell ⟨pm, 3, none⟩ (.int .i64 (wrap64 (wrap64 m.sw + 1)))).heap[pm]?) (hx : w'.heap[px]? = (w.setCell ⟨px, k, none⟩ (.int .u64 y)).heap[px]?) : MemAt w' pm px hk (m.acc 2 k x y) := by
  refine h.acc_in (kind := 2) (by omega) hk' hm ?_
  have e : acY (2 : Nat) (m.at k) x y = y := by unfold acY; rw [if_neg (by decide), if_neg (by decide), if_pos (show ((2 : Nat) : Int) = 2 from rfl), if_pos he]
  rw [e]
  exact h.row_set hk' y hx
theorem MemAt.did2no {w w' : World} {pm px : Nat} {hk : Value} {m : Mm} (h : MemAt w pm px hk m) {k : Nat} (hk' : k < m.words.length) (x y : Int) (he : m.at k ≠ x) (hm : w'.heap[pm]? = (w.setCell ⟨pm, 3, none⟩ (.int .i64 (wrap64 (wrap64 m.sw + 1)))).heap[pm]?) (hx : w'.heap[px]? = w.heap[px]?) : MemAt w' pm px hk (m.acc 2 k x y) := by
  refine h.acc_in (kind := 2) (by omega) hk' hm (h.row_same ?_ hx)
  unfold acY
  rw [if_neg (by decide), if_neg (by decide), if_pos (show ((2 : Nat) : Int) = 2 from rfl), if_neg he]
end Go.Proofs.YtlfingcmekifkaaGreat

namespace Go.Proofs.YtlfingcmekifkaaGreat
open Go.RowKit
def Disp (P : Program) (v : Value) (name : String) (f : FuncId) (r : Value) : Prop := ∀ (args : Array Value) (w : World), (callMethod v name args).run P w = .ok (.enter f (#[r] ++ args)) w
theorem run_invoke {P : Program} {v r : Value} {name : String} {f : FuncId} (h : Disp P v name f r) (args : Array Value) (w : World) : (invoke (.fn (.method name) #[]) (#[v] ++ args)).run P w = .ok (.enter f (#[r] ++ args)) w := by
  have := h args w
  have e : (#[v] ++ args).extract 1 (#[v] ++ args).size = args := by
    apply Array.ext'
    simp
  unfold invoke
  simp only [Array.getElem?_append]
  simpa [e] using this
theorem wp_disp {P : Program} {w : World} {o : Oper} {a : Act} {K : Act → World → Prop} {Q : Exit → Act → World → Prop} (x : Operand) (name : String) (xs : List Operand) (types : Array TypeId)
    (ho : o.op = .call { callee := .invoke x name, args := xs.toArray, argTypes := types }) (v r : Value) (f : FuncId) (hv : a.eval x = v) (hd : Disp P v name f r) (vs : List Value) (hvs : xs.map a.eval = vs)
    {R : Ending → World → Prop} (hc : Calls P f (#[r] ++ vs.toArray) w R) (hK : ∀ e w', R e w' → ∃ u, e = .returned u ∧ K (a.put o.dst u) w') : o.wp P a w K Q := by
  unfold Oper.wp
  have hr : (execOp a.eval o).run P w = .ok (.enter f (#[r] ++ vs.toArray)) w := by
    unfold execOp
    simp only [ho, resolve, Sem.run_bind, Sem.run_pure, Result.andThen_ok, hv, List.map_toArray, hvs]
    exact run_invoke hd vs.toArray w
  rw [hr, Oper.upon_enter]
  refine hc.mono fun e w' he => ?_
  obtain ⟨u, rfl, hk⟩ := hK e w' he
  exact hk
theorem upon_disp0 {P : Program} {w : World} {o : Oper} {a : Act} {K : Act → World → Prop} {Q : Exit → Act → World → Prop} {tm : TypeId} {um r : Value} {name : String} {f : FuncId} {n : Nat} (hd : Disp P (.iface tm um) name f r) (hn : P.types.size + Made.depth = n)
    {R : Ending → World → Prop} (hc : Calls P f #[r] w R) (hK : ∀ e w', R e w' → ∃ u, e = .returned u ∧ K (a.put o.dst u) w') : o.upon P a K Q ((Sem.run P (method n tm um name) w).andThen fun a w' => Sem.run P (callFunc a.fst #[a.snd]) w') := by
  have h1 := hd #[] w
  have h2 : (callMethod (.iface tm um) name #[]).run P w = (Sem.run P (method n tm um name) w).andThen fun a w' => Sem.run P (callFunc a.fst #[a.snd]) w' := by
    unfold callMethod
    simp [← hn]
  rw [← h2, h1, Oper.upon_enter]
  refine hc.mono fun e w' he => ?_
  obtain ⟨u, rfl, hk⟩ := hK e w' he
  exact hk
end Go.Proofs.YtlfingcmekifkaaGreat

namespace Go.Proofs.YtlfingcmekifkaaGreat
open Go.RowKit
theorem cells3 {w : World} {g : Nat} {x y z : Value} {t : TypeId} (h : w.heap[g]? = some (.cells #[x, y, z] t (0, 0))) :
    w.cell? ⟨g, 0, none⟩ = some x ∧ w.cell? ⟨g, 1, none⟩ = some y ∧ w.cell? ⟨g, 2, none⟩ = some z ∧ w.frozen? ⟨g, 0, none⟩ = false ∧ w.frozen? ⟨g, 1, none⟩ = false ∧ w.frozen? ⟨g, 2, none⟩ = false ∧ g < w.heap.size :=
  ⟨cell_of_row w g 0 _ t _ h, cell_of_row w g 1 _ t _ h, cell_of_row w g 2 _ t _ h, frozen_of_row w g 0 _ t h, frozen_of_row w g 1 _ t h, frozen_of_row w g 2 _ t h, (Array.getElem?_eq_some_iff.1 h).1⟩
theorem cells4 {w : World} {g : Nat} {x y z u : Value} {t : TypeId} (h : w.heap[g]? = some (.cells #[x, y, z, u] t (0, 0))) :
    w.cell? ⟨g, 0, none⟩ = some x ∧ w.cell? ⟨g, 1, none⟩ = some y ∧ w.cell? ⟨g, 2, none⟩ = some z ∧ w.cell? ⟨g, 3, none⟩ = some u ∧ g < w.heap.size :=
  ⟨cell_of_row w g 0 _ t _ h, cell_of_row w g 1 _ t _ h, cell_of_row w g 2 _ t _ h, cell_of_row w g 3 _ t _ h, (Array.getElem?_eq_some_iff.1 h).1⟩
end Go.Proofs.YtlfingcmekifkaaGreat
