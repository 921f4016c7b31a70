import Derived.Test.YtlfingcmekifkaaGreatProg
import Derived.Test.YtlfingcmekifkaaGreatBun1
import Derived.Deep.QuietTactic
import Derived.BigQuiet
import Derived.Maps.AppendAt
import Derived.Lib.SliceRun
import Derived.Deep.AppendLies
import Derived.OwnWalk
import Derived.Deep.OwnRows
namespace Go.Proofs.YtlfingcmekifkaaGreat
open Go.RowKit
theorem sl_of_owns {w : World} {base : Nat} {e : TypeId} {v : Value} {kk : IntKind} {xs : List Int} (h : w.ownsRow base e 1 v xs.length (xs.map (Value.int kk))) (hm : xs.length ≤ maxLen) : Sl (ntEnc kk) 1 w v xs := by
  rcases h.2 with ⟨rfl, h0⟩ | ⟨g, cap, cur, rfl, _, hg, hnc, hcm, _, htake⟩
  · have : xs = [] := List.eq_nil_of_length_eq_zero h0
    subst this
    exact ⟨none, 0, rfl, Nat.le_refl _, Nat.zero_le _, fun k x hx => by simp at hx⟩
  · refine ⟨_, cap, rfl, hnc, hcm, fun k x hx => ⟨g, 0, rfl, (Array.getElem?_eq_some_iff.1 hg).1, fun j u hu => ?_⟩⟩
    have hk := (List.getElem?_eq_some_iff.1 hx).1
    rcases j with _ | j
    · simp only [ntEnc, List.getElem?_cons_zero, Option.some.injEq] at hu
      subst hu
      rw [cell_of_row w g _ cur e (0, 0) hg]
      have : (cur.toList.take (xs.length * 1))[k]? = some (.int kk x) := by rw [htake]; simp [hx]
      rw [List.getElem?_take] at this
      split at this
      · simpa using this
      · cases this
    · simp [ntEnc] at hu
theorem nt_cell {w : World} {kk : IntKind} {b p : Nat} {n : Int} (h : CellsAt w b p (ntEnc kk n)) : w.cell? ⟨b, p, none⟩ = some (.int kk n) := h 0 _ rfl
theorem list_ext_of {xs ys : List Int} (hl : xs.length = ys.length) (h : ∀ j, j < xs.length → xs[j]? = ys[j]?) : xs = ys := by
  apply List.ext_getElem?
  intro i
  by_cases hi : i < xs.length
  · exact h i hi
  · rw [List.getElem?_eq_none (by omega), List.getElem?_eq_none (by omega)]
set_option maxHeartbeats 1000000 in
theorem same_any (v1 v2 : Value) (xs ys : List Int) (w : World) (h1 : SlW w v1 xs) (h2 : SlW w v2 ys) :
    Calls Tryz.prog 26 #[v1, v2] w fun e w' => e = .returned (.bool (decide (xs = ys))) ∧ ∃ n, w' = w.drewN n := by
  obtain ⟨A, cA, rfl, a1, a2, a3⟩ := h1
  obtain ⟨B, cB, rfl, b1, b2, b3⟩ := h2
  have hlx : (xs.length : Int) ≤ 9223372036854775807 := by unfold maxLen at a2; omega
  by_cases hl : xs.length = ys.length
  · have hl1 : ((xs.length : Int) != (ys.length : Int)) = false := by simp [hl]
    have hl2 : ((xs.length : Int) == (ys.length : Int)) = true := by simp [hl]
    have HL := hide hl
    clear hl
    obtain ⟨R, hR⟩ : ∃ R, decide (xs = ys) = R := ⟨_, rfl⟩
    have HR := hide hR
    rw [hR]
    clear hR
    go_enter Tryz.func26, Tryz.ntmps26
    go_wp2
    go_loopw [13] (fun i wr => ∃ k : Nat, k ≤ xs.length ∧ i = .int .i64 k ∧ Hid (∀ j, j < k → xs[j]? = ys[j]?) ∧ Hid (∃ n, wr = w.drewN n)) (fun i _ => xs.length - (intOf i).toNat)
    case atStart => exact ⟨0, Nat.zero_le _, rfl, hide (fun j hj => by omega), hide ⟨0, rfl⟩⟩
    case round =>
      obtain ⟨k, hk, rfl, hok, hn⟩ := hrel
      obtain ⟨n, rfl⟩ := hn.out
      clear hn
      by_cases hlt : k < xs.length
      · obtain ⟨x, hx⟩ : ∃ x, xs[k]? = some x := ⟨_, List.getElem?_eq_getElem hlt⟩
        obtain ⟨y, hy⟩ : ∃ y, ys[k]? = some y := ⟨_, List.getElem?_eq_getElem (by have := HL.out; omega)⟩
        obtain ⟨b, o, rfl, hb, hc⟩ := a3 k x hx
        obtain ⟨b', o', rfl, hb', hc'⟩ := b3 k y hy
        have c1 := nt_cell hc
        have c2 := nt_cell hc'
        simp only [Nat.mul_one] at c1 c2
        have q0 : (0 : Int) ≤ (k : Int) := by omega
        have q1 : (k : Int) < (xs.length : Int) := by omega
        have q2 : (k : Int) < (ys.length : Int) := by have := HL.out; omega
        clear a3 b3 hc hc'
        by_cases hxy : x = y
        · have e1 : (x == y) = true := by simp [hxy]
          have e2 : (x != y) = false := by simp [hxy]
          have HN := hide (show xs[k]? = ys[k]? by rw [hx, hy, hxy])
          clear hx hy hxy
          go_wp2
          go_quiet (fail)
          go_wp2
          go_roundw
          case rel => exact ⟨k + 1, by omega, by go_num, hide (fun j hj => by by_cases h : j = k; (subst h; exact HN.out); exact hok.out j (by omega)), hide ⟨_, rfl⟩⟩
          case measure => simp [intOf] <;> omega
        · have e1 : (x == y) = false := by simp [hxy]
          have e2 : (x != y) = true := by simp [hxy]
          have HF : Hid (false = R) := by
            show _ = _
            rw [← HR.out, eq_comm, decide_eq_false_iff_not]
            intro he
            subst he
            rw [hx] at hy
            exact hxy (Option.some.inj hy)
          clear hx hy hxy hok
          go_wp2
          go_quiet (fail)
          go_wp2
          go_ret
          exact ⟨ret_bool HF.out, _, World.drewN_drewN _ _ _⟩
      · go_wp2
        go_ret
        refine ⟨ret_bool ?_, n, rfl⟩
        rw [← HR.out, eq_comm, decide_eq_true_eq]
        exact list_ext_of HL.out (fun j hj => hok.out j (by omega))
  · have hl1 : ((xs.length : Int) != (ys.length : Int)) = true := by simp; omega
    have hl2 : ((xs.length : Int) == (ys.length : Int)) = false := by simp; omega
    have HF : Hid (decide (xs = ys) = false) := by show _ = _; simp; intro he; exact hl (by rw [he])
    rw [HF.out]
    clear hl a3 b3
    go_enter Tryz.func26, Tryz.ntmps26
    go_wp2
    go_ret
    exact ⟨rfl, 0, rfl⟩
end Go.Proofs.YtlfingcmekifkaaGreat

namespace Go.Proofs.YtlfingcmekifkaaGreat
open Go.RowKit
theorem info_word : (Tryz.prog.info? 46).map (fun i => (i.zero, i.size, i.bytes)) = some (some (.int .u64 0), 1, 8) := by kernel_rfl
abbrev WRow (w : World) (B : Nat) (v : Value) (l : List Int) : Prop := w.ownsRow B 46 1 v l.length (l.map (Value.int .u64))
theorem wrow_sl {w : World} {B : Nat} {v : Value} {l : List Int} (h : WRow w B v l) (hm : l.length ≤ maxLen) : SlW w v l := sl_of_owns h hm
theorem run_store_fn {P : Program} {w : World} {a : Addr} {m : Mode} (g : Fn) (p q : Array Value) : (store a (.func g p q) m).run P w = stored P w a (.func g p q) m := run_store P w a _ m rfl
theorem run_store_nilfn {P : Program} {w : World} {a : Addr} {m : Mode} : (store a .nilFunc m).run P w = stored P w a .nilFunc m := run_store P w a _ m rfl
end Go.Proofs.YtlfingcmekifkaaGreat

namespace Go.Proofs.YtlfingcmekifkaaGreat
open Go.RowKit
def remF (cs : List Cl) (fin : List Bool) (p : Int) : List Nat := (List.range cs.length).filter fun i => decide ((cs[i]?).map (·.thread) = some p) && !(fin[i]?.getD false)
def nowF (cs : List Cl) (fin : List Bool) (p : Int) : Option Nat := (remF cs fin p).head?
theorem remF_mem {cs : List Cl} {fin : List Bool} {p : Int} {i : Nat} : i ∈ remF cs fin p ↔ i < cs.length ∧ (cs[i]?).map (·.thread) = some p ∧ fin[i]?.getD false = false := by
  unfold remF
  rw [List.mem_filter, List.mem_range]
  simp
theorem nowF_some {cs : List Cl} {fin : List Bool} {p : Int} {i : Nat} (h : nowF cs fin p = some i) : i < cs.length ∧ (cs[i]?).map (·.thread) = some p ∧ fin[i]?.getD false = false := by
  unfold nowF at h
  exact remF_mem.1 (List.mem_of_mem_head? h)
theorem set_get (fin : List Bool) (i j : Nat) (hi : i < fin.length) : (fin.set i true)[j]?.getD false = if j = i then true else fin[j]?.getD false := by
  rw [List.getElem?_set]
  by_cases h : i = j
  · subst h; simp [hi]
  · simp [h, Ne.symm h]
theorem filter_tail {l : List Nat} {i : Nat} {rest : List Nat} {f : Nat → Bool} (hf : l.filter f = i :: rest) (hn : l.Nodup) : l.filter (fun j => f j && !decide (j = i)) = rest := by
  have h1 : l.filter (fun j => f j && !decide (j = i)) = (l.filter f).filter (fun j => !decide (j = i)) := by
    rw [List.filter_filter]
    congr 1
    funext j
    exact Bool.and_comm _ _
  rw [h1, hf]
  have hnd : (i :: rest).Nodup := by rw [← hf]; exact List.Pairwise.filter _ hn
  rw [List.nodup_cons] at hnd
  rw [List.filter_cons]
  simp
  intro a ha e
  subst e
  exact hnd.1 ha
theorem remF_finish {cs : List Cl} {fin : List Bool} {p : Int} {i : Nat} {rest : List Nat} (hl : fin.length = cs.length) (h : remF cs fin p = i :: rest) :
    remF cs (fin.set i true) p = rest ∧ ∀ p', p' ≠ p → remF cs (fin.set i true) p' = remF cs fin p' := by
  have hi := remF_mem.1 (show i ∈ remF cs fin p by rw [h]; simp)
  refine ⟨?_, fun p' hp => ?_⟩
  · have := filter_tail h List.nodup_range
    rw [← this]
    unfold remF
    apply List.filter_congr
    intro j _
    rw [set_get _ _ _ (by omega)]
    by_cases hj : j = i
    · subst hj; simp
    · simp [hj]
  · unfold remF
    apply List.filter_congr
    intro j _
    rw [set_get _ _ _ (by omega)]
    by_cases hj : j = i
    · subst hj
      simp [hi.2.1, hi.2.2]
      intro e
      exact hp e.symm
    · simp [hj]
end Go.Proofs.YtlfingcmekifkaaGreat

namespace Go.Proofs.YtlfingcmekifkaaGreat
open Go.RowKit
structure An where
  err : Int
  val : Int
  list : List Int
end Go.Proofs.YtlfingcmekifkaaGreat

namespace Go.Proofs.YtlfingcmekifkaaGreat
open Go.RowKit
def acY (k x b c : Int) : Int := if k = 0 then x else if k = 1 then b else if k = 2 then (if x = b then c else x) else (x + b) % 18446744073709551616
def acV (k x b : Int) : Int := if k = 0 then x else if k = 1 then 0 else if k = 2 then (if x = b then 1 else 0) else x
structure Mm where
  words : List Int
  rd : Int
  wr : Int
  sw : Int
  ad : Int
  ft : Int
def Mm.in (m : Mm) (a : Int) : Prop := 0 ≤ a ∧ a < m.words.length
instance (m : Mm) (a : Int) : Decidable (m.in a) := by unfold Mm.in; infer_instance
def Mm.at (m : Mm) (a : Int) : Int := (m.words[a.toNat]?).getD 0
def Mm.bump (m : Mm) (k : Int) : Mm := if k = 0 then { m with rd := m.rd + 1 } else if k = 1 then { m with wr := m.wr + 1 } else if k = 2 then { m with sw := m.sw + 1 } else { m with ad := m.ad + 1 }
def Mm.acc (m : Mm) (k a x y : Int) : Mm := if m.in a then { m.bump k with words := m.words.set a.toNat (acY k (m.at a) x y) } else { m with ft := m.ft + 1 }
def Mm.tell (m : Mm) (k a x : Int) : Int := if m.in a then acV k (m.at a) x else 0
def Mm.new (words : List Int) : Mm := ⟨words, 0, 0, 0, 0, 0⟩
structure Lw where
  mem : Mm
  now : Int
  inv : Nat → Int
  marks : Nat → List Int
  traces : Int → List Int
structure Ep where
  call : Nat
  inv : Int
  resp : Int
  steps : Int
  ans : An
  key : List Int
structure Gm (M O : Type) where
  start : O → Nat → Cl → O × M
  step : O → Lw → Nat → M → O × Lw × M × Bool
  ans : O → M → An × List Int
  late : O → Lw → M → Option (List Int)
structure Ps (M O : Type) where
  lw : Lw
  obj : O
  fin : List Bool
  hands : Nat → Option (M × Nat)
  evs : List Ep
  idle : Int
section
variable {M O : Type}
def upd {α : Type} (f : Nat → α) (t : Nat) (x : α) : Nat → α := fun i => if i = t then x else f i
theorem upd_same {α : Type} (f : Nat → α) (t : Nat) (x : α) : upd f t x t = x := by simp [upd]
theorem upd_other {α : Type} {f : Nat → α} {t i : Nat} {x : α} (h : i ≠ t) : upd f t x i = f i := by simp [upd, h]
def Ps.new (words : List Int) (o : O) (m : Nat) : Ps M O := ⟨⟨Mm.new words, 0, fun _ => 0, fun _ => [], fun _ => []⟩, o, List.replicate m false, fun _ => none, [], 0⟩
def Ps.start (G : Gm M O) (P : Ps M O) (t i : Nat) (c : Cl) : Ps M O :=
  { P with lw := { P.lw with inv := upd P.lw.inv t P.lw.now, marks := upd P.lw.marks t [] }, obj := (G.start P.obj t c).1, hands := upd P.hands t (some ((G.start P.obj t c).2, P.evs.length)), evs := P.evs ++ [⟨i, P.lw.now, 0, 0, ⟨0, 0, []⟩, []⟩] }
def keyOf (k : List Int) (marks : List Int) (now : Int) : List Int := if k ≠ [] then k else if marks ≠ [] then marks else [2 * now]
def Ps.step (G : Gm M O) (P : Ps M O) (t i : Nat) (m : M) (h : Nat) : Ps M O :=
  let S := G.step P.obj P.lw t m
  if S.2.2.2 then
    { P with obj := S.1, lw := S.2.1, hands := upd P.hands t none, fin := P.fin.set i true,
             evs := P.evs.modify h fun e => { e with steps := e.steps + 1, ans := (G.ans S.1 S.2.2.1).1, resp := S.2.1.now, key := keyOf (G.ans S.1 S.2.2.1).2 (S.2.1.marks t) S.2.1.now } }
  else { P with obj := S.1, lw := S.2.1, hands := upd P.hands t (some (S.2.2.1, h)), evs := P.evs.modify h fun e => { e with steps := e.steps + 1 } }
def Ps.pick (G : Gm M O) (cs : List Cl) (P : Ps M O) (p : Int) : Ps M O :=
  match nowF cs P.fin p with
  | none => { P with idle := P.idle + 1 }
  | some i =>
    let P1 : Ps M O := { P with lw := { P.lw with now := P.lw.now + 1 } }
    match P.hands p.toNat with
    | some (m, h) => P1.step G p.toNat i m h
    | none =>
      let c := (cs[i]?).getD ⟨0, 0, 0, 0, 0, 0⟩
      (P1.start G p.toNat i c).step G p.toNat i (G.start P.obj p.toNat c).2 P.evs.length
def Ps.play (G : Gm M O) (cs : List Cl) (P : Ps M O) (picks : List Int) : Ps M O := picks.foldl (Ps.pick G cs) P
def Ps.ends (G : Gm M O) (P : Ps M O) : List Ep :=
  (List.range 16).foldl (fun evs t => match P.hands t with
    | none => evs
    | some (m, h) => evs.modify h fun e => { e with key := match G.late P.obj P.lw m with | some k => k | none => P.lw.marks t }) P.evs
theorem play_succ {G : Gm M O} {cs : List Cl} {P : Ps M O} {picks : List Int} {k : Nat} {p : Int} (h : picks[k]? = some p) : P.play G cs (picks.take (k + 1)) = (P.play G cs (picks.take k)).pick G cs p := by
  unfold Ps.play
  rw [List.take_add_one, h]
  simp [List.foldl_append]
end
end Go.Proofs.YtlfingcmekifkaaGreat

namespace Go.Proofs.YtlfingcmekifkaaGreat
open Go.RowKit
theorem wp_append_own_at {P : Program} {w : World} {o : Oper} {a : Act} {K : Act → World → Prop} {Q : Exit → Act → World → Prop} (s x : Operand) (t : TypeId)
    (ho : o.op = .call { callee := .builtin .append, args := #[s, x], argTypes := #[t, t] })
    (base : Nat) (e : TypeId) (i : TypeInfo) (z : Value) (size bytes : Nat) (ht : P.underlying t = some (.slice e)) (hi : P.info? e = some i) (hz : i.zero = some z)
    (hsize : i.size = size) (hby : i.bytes = bytes) (hzs : z.cells.size = size) (hsz : 0 < size)
    (v : Value) (n : Nat) (xs : List Value) (hs : a.eval s = v) (hown : w.ownsRow base e size v n xs)
    (ad : Addr) (m c : Nat) (news : List Value) (hx : a.eval x = .slice (some ad) m c) (hl : news.length = m * size) (hnews : ∀ (j : Nat) (u : Value), news[j]? = some u → w.cell? (ad.add j) = some u) (h1 : ∀ u ∈ news, u.oneCell' = true)
    (h63 : n + m ≤ maxLen) (hbytes : (n + m) * bytes ≤ 140737488355328) (hbase : base ≤ w.heap.size)
    (h : ∀ v' w', w'.ownsRow base e size v' (n + m) (xs ++ news) → w.grownBy w' v.ownBlock → (v' = .slice none 0 0 ↔ v = .slice none 0 0 ∧ m = 0) → (v'.ownBlock = v.ownBlock ∨ v'.ownBlock = some w.heap.size) → K (a.put o.dst v') w') :
    Oper.wp P o a w K Q := by
  obtain ⟨v', w', hr, h2, h3, h4, h5⟩ := run_append_own_at (P := P) w base t o.type e i z size bytes ht hi hz hsize hby hzs hsz v n xs hown ad m c news hl hnews h1 h63 hbytes hbase
  unfold Oper.wp execOp
  simp only [ho, resolve, invoke, builtin, Sem.run_bind, Sem.run_pure, Result.andThen_ok, List.map_toArray, List.map_cons, List.map_nil, hs, hx, hr]
  exact h _ _ h2 h3 h4 h5
section
variable {P : Program} {w : World} {kk : IntKind}
theorem run_append_null (base : Nat) (t ty e : TypeId) (i : TypeInfo) (size : Nat) (ht : P.underlying t = some (.slice e)) (hi : P.info? e = some i)
    {v : Value} {n : Nat} {xs : List Value} (hown : w.ownsRow base e size v n xs) (c : Nat) : (Builtin.append_ #[t, t] ty #[v, .slice none 0 c]).run P w = .ok v w := by
  have hcell : ∀ cap : Nat, n ≤ cap → ¬ cap < n := fun cap h => Nat.not_lt.2 h
  obtain ⟨_, ⟨rfl, rfl⟩ | ⟨g, cap, cur, rfl, _, _, hle, _⟩⟩ := hown
  · simp [Builtin.append_, run_underlying ht, sizeOf, typeInfo, hi, Builtin.lenOf, Builtin.firstCells]
  · simp [Builtin.append_, run_underlying ht, sizeOf, typeInfo, hi, Builtin.lenOf, Builtin.firstCells, storeCells, hle]
theorem sl_news {A : Option Addr} {m c : Nat} {ys : List Int} (h : Sl (ntEnc kk) 1 w (.slice A m c) ys) {ad : Addr} (hA : A = some ad) :
    ∀ (j : Nat) (u : Value), (ys.map (Value.int kk))[j]? = some u → w.cell? (ad.add j) = some u := by
  intro j u hu
  rw [List.getElem?_map] at hu
  rcases hy : ys[j]? with _ | y
  · rw [hy] at hu; cases hu
  · rw [hy] at hu
    cases hu
    obtain ⟨A', c', e, _, _, h3⟩ := h
    obtain ⟨b, o, e', _, hc⟩ := h3 j y hy
    cases e
    subst hA
    cases e'
    rw [Addr.add_lit]
    have := nt_cell hc
    simpa only [Nat.mul_one] using this
theorem sl_len {A : Option Addr} {m c : Nat} {ys : List Int} (h : Sl (ntEnc kk) 1 w (.slice A m c) ys) : m = ys.length := by
  obtain ⟨A', c', e, _⟩ := h
  cases e
  rfl
theorem sl_null {m c : Nat} {ys : List Int} (h : Sl (ntEnc kk) 1 w (.slice none m c) ys) : ys = [] := by
  obtain ⟨A', c', e, _, _, h3⟩ := h
  cases e
  rcases ys with _ | ⟨y, l⟩
  · rfl
  · obtain ⟨b, o, e', _⟩ := h3 0 y rfl
    cases e'
theorem run_append_sl (base : Nat) (t ty e : TypeId) (i : TypeInfo) (z : Value) (bytes : Nat) (ht : P.underlying t = some (.slice e)) (hi : P.info? e = some i) (hz : i.zero = some z) (hsize : i.size = 1) (hby : i.bytes = bytes) (hzs : z.cells.size = 1)
    {v : Value} {n : Nat} {xs : List Int} (hown : w.ownsRow base e 1 v n (xs.map (Value.int kk))) {A : Option Addr} {m c : Nat} {ys : List Int} (hs : Sl (ntEnc kk) 1 w (.slice A m c) ys)
    (h63 : n + ys.length ≤ maxLen) (hbytes : (n + ys.length) * bytes ≤ 140737488355328) (hbase : base ≤ w.heap.size) :
    ∃ v' w', (Builtin.append_ #[t, t] ty #[v, .slice A m c]).run P w = .ok v' w' ∧ w'.ownsRow base e 1 v' (n + ys.length) ((xs ++ ys).map (Value.int kk)) ∧ w.grownBy w' v.ownBlock ∧ (v'.ownBlock = v.ownBlock ∨ v'.ownBlock = some w.heap.size) := by
  have hm := sl_len hs
  rcases A with _ | ad
  · have hy := sl_null hs
    subst hy
    have : m = 0 := hm
    subst this
    exact ⟨v, w, run_append_null base t ty e i 1 ht hi hown c, by simpa using hown, World.grownBy.refl w _, Or.inl rfl⟩
  · subst hm
    obtain ⟨v', w', hr, h2, h3, _, h5⟩ := run_append_own_at (P := P) w base t ty e i z 1 bytes ht hi hz hsize hby hzs (by decide) v n (xs.map (Value.int kk)) hown ad ys.length c (ys.map (Value.int kk)) (by simp) (sl_news hs rfl) (ints_oneCell kk ys) h63 hbytes hbase
    exact ⟨v', w', hr, by rw [List.map_append]; exact h2, h3, h5⟩
theorem wp_append_sl {o : Oper} {a : Act} {K : Act → World → Prop} {Q : Exit → Act → World → Prop} (s x : Operand) (t : TypeId) (ho : o.op = .call { callee := .builtin .append, args := #[s, x], argTypes := #[t, t] })
    (base : Nat) (e : TypeId) (i : TypeInfo) (z : Value) (bytes : Nat) (ht : P.underlying t = some (.slice e)) (hi : P.info? e = some i) (hz : i.zero = some z) (hsize : i.size = 1) (hby : i.bytes = bytes) (hzs : z.cells.size = 1)
    (v : Value) (n : Nat) (xs : List Int) (hv : a.eval s = v) (hown : w.ownsRow base e 1 v n (xs.map (Value.int kk))) (A : Option Addr) (m c : Nat) (ys : List Int) (hx : a.eval x = .slice A m c) (hs : Sl (ntEnc kk) 1 w (.slice A m c) ys)
    (h63 : n + ys.length ≤ maxLen) (hbytes : (n + ys.length) * bytes ≤ 140737488355328) (hbase : base ≤ w.heap.size)
    (h : ∀ v' w', w'.ownsRow base e 1 v' (n + ys.length) ((xs ++ ys).map (Value.int kk)) → w.grownBy w' v.ownBlock → (v'.ownBlock = v.ownBlock ∨ v'.ownBlock = some w.heap.size) → K (a.put o.dst v') w') : Oper.wp P o a w K Q := by
  obtain ⟨v', w', hr, h2, h3, h4⟩ := run_append_sl (P := P) base t o.type e i z bytes ht hi hz hsize hby hzs hown hs h63 hbytes hbase
  unfold Oper.wp execOp
  simp only [ho, resolve, invoke, builtin, Sem.run_bind, Sem.run_pure, Result.andThen_ok, List.map_toArray, List.map_cons, List.map_nil, hv, hx, hr]
  exact h _ _ h2 h3 h4
theorem wpList_append_sl {ops : Array Oper} {rest : List Oper} {o : Oper} {a : Act} {Q : Exit → Act → World → Prop} (hgd : o.guard = none) (s x : Operand) (t : TypeId) (ho : o.op = .call { callee := .builtin .append, args := #[s, x], argTypes := #[t, t] })
    (base : Nat) (e : TypeId) (i : TypeInfo) (z : Value) (bytes : Nat) (ht : P.underlying t = some (.slice e)) (hi : P.info? e = some i) (hz : i.zero = some z) (hsize : i.size = 1) (hby : i.bytes = bytes) (hzs : z.cells.size = 1)
    (v : Value) (n : Nat) (xs : List Int) (hv : a.eval s = v) (hown : w.ownsRow base e 1 v n (xs.map (Value.int kk))) (A : Option Addr) (m c : Nat) (ys : List Int) (hx : a.eval x = .slice A m c) (hs : Sl (ntEnc kk) 1 w (.slice A m c) ys)
    (h63 : n + ys.length ≤ maxLen) (hbytes : (n + ys.length) * bytes ≤ 140737488355328) (hbase : base ≤ w.heap.size)
    (h : ∀ v' w', w'.ownsRow base e 1 v' (n + ys.length) ((xs ++ ys).map (Value.int kk)) → w.grownBy w' v.ownBlock → (v'.ownBlock = v.ownBlock ∨ v'.ownBlock = some w.heap.size) → wpList P ops Q rest (a.put o.dst v') w') : wpList P ops Q (o :: rest) a w :=
  wpList_plain hgd fun _ hK => wp_append_sl s x t ho base e i z bytes ht hi hz hsize hby hzs v n xs hv hown A m c ys hx hs h63 hbytes hbase fun v' w' h2 h3 h4 => hK _ _ (h v' w' h2 h3 h4)
end
end Go.Proofs.YtlfingcmekifkaaGreat

namespace Go.Proofs.YtlfingcmekifkaaGreat
open Go.RowKit
theorem owns_base {w : World} {base base' : Nat} {e : TypeId} {sz : Nat} {v : Value} {n : Nat} {xs : List Value} (h : w.ownsRow base e sz v n xs) (hb : base' ≤ base) : w.ownsRow base' e sz v n xs := by
  obtain ⟨h1, h2 | ⟨g, cap, cur, e1, e2, e3⟩⟩ := h
  · exact ⟨h1, Or.inl h2⟩
  · exact ⟨h1, Or.inr ⟨g, cap, cur, e1, Nat.le_trans hb e2, e3⟩⟩
theorem own_slice {w : World} {base : Nat} {e : TypeId} {sz : Nat} {v : Value} {n : Nat} {xs : List Value} (h : w.ownsRow base e sz v n xs) : ∃ A cap, v = .slice A n cap := by
  obtain ⟨_, ⟨e, h0⟩ | ⟨g, cap, cur, e, _⟩⟩ := h
  · exact ⟨none, 0, by rw [e, h0]⟩
  · exact ⟨_, cap, e⟩
theorem owns_keepB {S : Nat → Prop} {w w' : World} {base : Nat} {e : TypeId} {sz : Nat} {v : Value} {n : Nat} {xs : List Value} (h : w.ownsRow base e sz v n xs) (hk : Keep S w w') (hS : ∀ j, base ≤ j → j < w.heap.size → S j) : w'.ownsRow base e sz v n xs := by
  obtain ⟨h1, h2 | ⟨g, cap, cur, e1, e2, e3, e4⟩⟩ := h
  · exact ⟨h1, Or.inl h2⟩
  · exact ⟨h1, Or.inr ⟨g, cap, cur, e1, e2, (hk.block g (hS g e2 (Array.getElem?_eq_some_iff.1 e3).1)).trans e3, e4⟩⟩
theorem cells_set {w : World} {b i : Nat} {cs : Array Value} {t : TypeId} {u : Value} (h : w.heap[b]? = some (.cells cs t (0, 0))) : (w.setCell ⟨b, i, none⟩ u).heap[b]? = some (.cells (cs.setIfInBounds i u) t (0, 0)) := by
  simp [World.setCell, Array.getElem?_modify, h]
theorem wrap_i64 {x : Int} (h1 : -9223372036854775808 ≤ x) (h2 : x ≤ 9223372036854775807) : IntKind.i64.wrap x = x := by
  rw [IntKind.wrap_i64]; omega
theorem flat_en {α : Type} {en : α → List Value} {sz : Nat} (hl : ∀ x, (en x).length = sz) {l : List α} {k : Nat} {x : α} (h : l[k]? = some x) (j : Nat) (u : Value) (hu : (en x)[j]? = some u) : (l.flatMap en)[k * sz + j]? = some u := by
  induction l generalizing k with
  | nil => simp at h
  | cons y l ih =>
    have hj : j < sz := by have := (List.getElem?_eq_some_iff.1 hu).1; rwa [hl] at this
    rw [List.flatMap_cons]
    rcases k with _ | k
    · simp at h
      subst h
      rw [List.getElem?_append_left (by rw [hl]; omega)]
      simpa using hu
    · rw [List.getElem?_append_right (by rw [hl, Nat.succ_mul]; omega)]
      have e : (k + 1) * sz + j - (en y).length = k * sz + j := by rw [hl, Nat.succ_mul]; omega
      rw [e]
      exact ih (by simpa using h)
end Go.Proofs.YtlfingcmekifkaaGreat
