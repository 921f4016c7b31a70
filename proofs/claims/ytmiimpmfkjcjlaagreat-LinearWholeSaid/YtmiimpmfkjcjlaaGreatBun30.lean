import Derived.Test.YtmiimpmfkjcjlaaGreatBun18
import Derived.Test.YtmiimpmfkjcjlaaGreatBun29
import Derived.Test.YtmiimpmfkjcjlaaGreatBun1
import Derived.Test.YtmiimpmfkjcjlaaGreatBun10
namespace Go.Proofs.YtmiimpmfkjcjlaaGreat
open Go.RowKit
def withK (ky : Nat → List Int) (k : Nat) : List Nat := (List.range k).filter fun i => !(ky i).isEmpty
theorem withK_succ (ky : Nat → List Int) (k : Nat) : withK ky (k + 1) = withK ky k ++ if ky k = [] then [] else [k] := by
  unfold withK
  rw [List.range_succ, List.filter_append]
  by_cases h : ky k = [] <;> simp [h]
theorem withK_len (ky : Nat → List Int) (k : Nat) : (withK ky k).length ≤ k := by
  unfold withK
  exact Nat.le_trans (List.length_filter_le _ _) (by simp)
theorem withK_mem {ky : Nat → List Int} {k x : Nat} : x ∈ withK ky k ↔ x < k ∧ ky x ≠ [] := by
  unfold withK
  simp
theorem withK_up (ky : Nat → List Int) (k : Nat) : (withK ky k).Pairwise (· < ·) := by
  unfold withK
  exact (List.pairwise_lt_range).filter _
def kyOf (es : List Ev) (i : Nat) : KyV := match es[i]? with | some e => (e.kA, e.kN, e.kC) | none => (none, 0, 0)
def kyL (es : List Ev) (L : List Nat) : List Value := L.map fun i => .slice (kyOf es i).1 (kyOf es i).2.1 (kyOf es i).2.2
theorem info_ki : (Tryz.prog.info? 42).map (fun i => (i.zero, i.size, i.bytes)) = some (some (.slice none 0 0), 1, 24) := by kernel_rfl
theorem own_apart {w : World} {B B' : Nat} {T T' : TypeId} {s s' n m : Nat} {u v : Value} {xs ys : List Value} (hu : w.ownsRow B T s u n xs) (hv : w.ownsRow B' T' s' v m ys) (hne : T' ≠ T) : v.ownBlock = none ∨ v.ownBlock ≠ u.ownBlock := by
  obtain ⟨_, ⟨rfl, _⟩ | ⟨g, cap, cur, rfl, _, hg, _⟩⟩ := hv
  · exact Or.inl rfl
  · exact Or.inr (own_ne hu hg hne)
theorem rows_map {es : List Ev} {L : List Nat} : kyL es L = (L.map (kyOf es)).flatMap kyEn := by
  unfold kyL
  induction L with
  | nil => rfl
  | cons a L ih => rw [List.map_cons, List.map_cons, List.flatMap_cons, ih]; rfl
theorem order_back {ky : Nat → List Int} {m : Nat} {L : List Nat} (hL : L = withK ky m) {d : Nat → Int} (ho : OrdOn (cfK fun j => ky ((L[j]?).getD 0)) d 0 L.length) (hh : ∀ x : Int, Has d 0 L.length x ↔ ∃ k : Nat, k < L.length ∧ x = (k : Int)) :
    IsOrd ky m ((List.range L.length).map fun i => (L[(d i).toNat]?).getD 0) := by
  have hd : ∀ i, i < L.length → ∃ k : Nat, k < L.length ∧ d i = (k : Int) := fun i hi => (hh (d i)).1 ⟨i, Nat.zero_le _, hi, rfl⟩
  have hup := withK_up ky m
  rw [← hL] at hup
  refine ⟨?_, fun x => ?_⟩
  · rw [List.pairwise_map]
    refine List.Pairwise.imp_of_mem (R := fun a b => a < b) ?_ List.pairwise_lt_range
    intro a b ha hb hab
    obtain ⟨ka, hka, ea⟩ := hd a (by simpa using ha)
    obtain ⟨kb, hkb, eb⟩ := hd b (by simpa using hb)
    have := ho a b (Nat.zero_le _) hab (by simpa using hb)
    unfold Lt cfK at this
    rw [ea, eb] at this
    unfold LtK Lt cfK
    rw [ea, eb]
    simp only [Int.toNat_natCast] at this ⊢
    rcases this with h | ⟨h1, h2⟩
    · exact Or.inl h
    · refine Or.inr ⟨h1, ?_⟩
      have hlt : ka < kb := by omega
      have := (List.pairwise_iff_getElem.1 hup) ka kb hka hkb hlt
      rw [List.getElem?_eq_getElem hka, List.getElem?_eq_getElem hkb]
      simp only [Option.getD_some]
      omega
  · rw [← withK_mem, ← hL, List.mem_map]
    constructor
    · rintro ⟨i, hi, rfl⟩
      obtain ⟨k, hk, e⟩ := hd i (by simpa using hi)
      rw [e, Int.toNat_natCast, List.getElem?_eq_getElem hk]
      exact List.getElem_mem hk
    · intro hx
      obtain ⟨k, hk, e⟩ := List.getElem_of_mem hx
      obtain ⟨i, _, hi, ei⟩ := (hh (k : Int)).2 ⟨k, hk, rfl⟩
      exact ⟨i, by simpa using hi, by rw [ei, Int.toNat_natCast, List.getElem?_eq_getElem hk]; exact e⟩
theorem dat_sl {w : World} {g n : Nat} {d : Nat → Int} (h : DAt w g n d) (hn : n ≤ maxLen) : SlI w (.slice (some ⟨g, 0, none⟩) n n) ((List.range n).map d) := by
  refine ⟨some ⟨g, 0, none⟩, n, by simp, by simp, hn, fun k x hx => ⟨g, 0, rfl, h.lt, fun j u hj => ?_⟩⟩
  have hk : k < n := by have := (List.getElem?_eq_some_iff.1 hx).1; simpa using this
  rw [List.getElem?_map, List.getElem?_range hk] at hx
  cases hx
  rcases j with _ | j
  · cases hj
    simpa using h.cell k hk
  · simp [ntEnc] at hj
def LoPost (ky : Nat → List Int) (m : Nat) (w : World) (e : Ending) (w' : World) : Prop :=
  ∃ (A : Option Addr) (c : Nat) (L : List Nat), e = .returned (.slice A L.length c) ∧ SlI w' (.slice A L.length c) (ordI L) ∧ IsOrd ky m L ∧ Below w.heap.size w w' ∧ ∀ a, A = some a → w.heap.size ≤ a.block
set_option maxRecDepth 100000 in
set_option maxHeartbeats 4000000 in
theorem linOrder_any (v : Value) (es : List Ev) (ky : Nat → List Int) (w : World) (h : EvKey w v es ky) (hm : es.length ≤ 100000) :
    Calls Tryz.prog 55 #[v] w (LoPost ky es.length w) := by
  obtain ⟨A, cap, rfl, h1, h2, h3⟩ := id h.evs
  have hlen : (es.length : Int) ≤ 9223372036854775807 := by omega
  have HK := hide h
  obtain ⟨i0, hi, hz0, hz1, hz2⟩ := info_parts info_int
  obtain ⟨j0, hj, hy0, hy1, hy2⟩ := info_parts info_ki
  have HM := hide hm
  clear h hm
  go_enter Tryz.func55, Tryz.ntmps55
  go_wp2
  go_loopw [12, 3, 4] (fun i u v wr => ∃ k : Nat, k ≤ es.length ∧ i = .int .i64 k ∧ Hid (IOwn wr w.heap.size u (withK ky k).length (ordI (withK ky k))) ∧ Hid (wr.ownsRow w.heap.size 42 1 v (withK ky k).length (kyL es (withK ky k))) ∧ Hid (Below w.heap.size w wr)) (fun i _ _ _ => es.length - (intOf i).toNat)
  case atStart => exact ⟨0, Nat.zero_le _, rfl, hide (World.ownsRow_nil _ _ _ _), hide (World.ownsRow_nil _ _ _ _), hide (Below.refl _ _)⟩
  case round =>
    obtain ⟨k, hki, rfl, hO, hS, hB⟩ := hrel
    obtain ⟨wo, rfl⟩ : ∃ wo : World, wo = wr := ⟨_, rfl⟩
    obtain ⟨uA, uc, rfl⟩ := own_slice hO.out
    obtain ⟨sA, sc, rfl⟩ := own_slice hS.out
    by_cases hlt : k < es.length
    · obtain ⟨e, he⟩ : ∃ e, es[k]? = some e := ⟨_, List.getElem?_eq_getElem hlt⟩
      obtain ⟨ge, oe, rfl, hge, hce⟩ := h3 k e he
      have hcells := ev_cells (hce.of_block (w' := wo) (hB.out.block ge hge))
      obtain ⟨k0, k1, k2, k3, k4, k5, k6, k7⟩ := hcells
      have hky := HK.out.key k e he
      have hkN : e.kN = (ky k).length := by obtain ⟨_, _, e1, _⟩ := hky; injection e1
      have q0 : (0 : Int) ≤ (k : Int) := by omega
      have q1 : (k : Int) < (es.length : Int) := by omega
      have hsz := hB.out.size
      by_cases hk0 : ky k = []
      · have g0 : decide ((0 : Int) < (e.kN : Int)) = false := by rw [hkN, hk0]; rfl
        have g1 : decide (0 < e.kN) = false := by rw [hkN, hk0]; rfl
        have HO2 : Hid (IOwn (wo.alloc (.cells #[.int .i64 e.call, .int .i64 e.inv, .int .i64 e.resp, .int .i64 e.steps, .int .i64 e.err, .int .u64 e.val, .slice e.lA e.lN e.lC, .slice e.kA e.kN e.kC] 62)) w.heap.size (.slice uA (withK ky k).length uc) (withK ky (k + 1)).length (ordI (withK ky (k + 1)))) := hide (by
          rw [withK_succ, if_pos hk0, List.append_nil]
          exact hO.out.alloc _)
        have HS2 : Hid ((wo.alloc (.cells #[.int .i64 e.call, .int .i64 e.inv, .int .i64 e.resp, .int .i64 e.steps, .int .i64 e.err, .int .u64 e.val, .slice e.lA e.lN e.lC, .slice e.kA e.kN e.kC] 62)).ownsRow w.heap.size 42 1 (.slice sA (withK ky k).length sc) (withK ky (k + 1)).length (kyL es (withK ky (k + 1)))) := hide (by
          rw [withK_succ, if_pos hk0, List.append_nil]
          exact hS.out.alloc _)
        clear he hce hky hkN hk0 h3
        go_wp2
        go_roundw
        case rel => exact ⟨k + 1, by omega, by go_num, HO2, HS2, hide (hB.out.alloc hsz _)⟩
        case measure => simp [intOf] <;> omega
      · have hpos : 0 < e.kN := by
          rw [hkN]
          exact List.length_pos_iff.2 hk0
        have g0 : decide ((0 : Int) < (e.kN : Int)) = true := by simp; omega
        have g1 : decide (0 < e.kN) = true := by simp; omega
        have hkv : kyOf es k = (e.kA, e.kN, e.kC) := by unfold kyOf; rw [he]
        have HKV := hide hkv
        have hlL := withK_len ky k
        have HL1 : Hid (withK ky (k + 1) = withK ky k ++ [k]) := hide (by rw [withK_succ, if_neg hk0])
        obtain ⟨L, hL⟩ : ∃ L, withK ky k = L := ⟨_, rfl⟩
        rw [hL] at hO hS HL1 hlL ⊢
        clear he hce hky hkN hk0 h3 hpos hkv hL
        obtain ⟨Wv, hWv⟩ : ∃ W, W = wo.alloc (.cells #[.int .i64 e.call, .int .i64 e.inv, .int .i64 e.resp, .int .i64 e.steps, .int .i64 e.err, .int .u64 e.val, .slice e.lA e.lN e.lC, .slice e.kA e.kN e.kC] 62) := ⟨_, rfl⟩
        have p7 : Wv.cell? ⟨wo.heap.size, 7, none⟩ = some (.slice e.kA e.kN e.kC) := by rw [hWv]; exact cell_of_row _ _ 7 _ _ _ (heap_alloc_new _ _)
        have pz : wo.heap.size < Wv.heap.size := by rw [hWv]; simp
        have HOv : Hid (IOwn Wv w.heap.size (.slice uA L.length uc) L.length (ordI L)) := hide (by rw [hWv]; exact hO.out.alloc _)
        have HSv : Hid (Wv.ownsRow w.heap.size 42 1 (.slice sA L.length sc) L.length (kyL es L)) := hide (by rw [hWv]; exact hS.out.alloc _)
        have HBv : Hid (Below w.heap.size w Wv) := hide (by rw [hWv]; exact hB.out.alloc hsz _)
        have HWZ : Hid (∀ j, (Value.slice uA L.length uc).ownBlock = some j → j < wo.heap.size) := hide (fun j hj => (hO.out.lt j hj).2)
        have hszv := HBv.out.size
        go_upto_region 7 with fail
        rw [← hWv]
        clear hWv k0 k1 k2 k3 k4 k5 k6 k7 hO hS hB
        go_upto_region 8 with (at_builtin; refine wpList_append_own_at _ rfl _ _ 42 rfl w.heap.size 3 i0 (.int .i64 0) 1 8 Tryz.underlying42 hi hz0 hz1 hz2 rfl (by decide) _ L.length ((ordI L).map (Value.int .i64)) rfl (World.ownsRow.alloc HOv.out _) ⟨Wv.heap.size, 0, none⟩ 1 1 [.int .i64 (k : Int)] rfl rfl (cell_one_new _ _ _) (by simp [Value.oneCell']) (by have := HM.out; simp [maxLen]; omega) (by have := HM.out; omega) (by have := HBv.out.size; simp; omega) ?_; intro v7 w7 hown7 hgrow7 _ _; obtain ⟨A7, c7, rfl⟩ := own_slice hown7)
        have HB7 : Hid (Below w.heap.size w w7) := hide ((HBv.out.alloc HBv.out.size _).grown hgrow7 (by have := HBv.out.size; simp; omega) (fun j hj => (HOv.out.lt j hj).1))
        have HO7 : Hid (IOwn w7 w.heap.size (.slice A7 (L.length + 1) c7) (L.length + 1) (ordI L ++ [(k : Int)])) := hide (by unfold IOwn; rw [List.map_append]; exact hown7)
        have HS7 := hide (World.ownsRow.kept (HSv.out.alloc (.cells #[.int .i64 (k : Int)] 3)) hgrow7 (own_apart HOv.out HSv.out (by decide)))
        have hp7 : w7.cell? ⟨wo.heap.size, 7, none⟩ = some (.slice e.kA e.kN e.kC) := by
          refine (World.cell?_of_block (hgrow7.block wo.heap.size (by simp; omega) (fun hh => ?_))).trans ?_
          · have := HWZ.out _ hh.symm
            omega
          · exact (World.cell?_of_block (heap_alloc_old _ _ pz)).trans p7
        have hz7 : w.heap.size ≤ w7.heap.size := HB7.out.size
        clear hown7 hgrow7 p7
        go_wp2_with (at_builtin; refine wpList_append_own_at _ rfl _ _ 164 rfl w.heap.size 42 j0 (.slice none 0 0) 1 24 Tryz.underlying164 hj hy0 hy1 hy2 rfl (by decide) _ L.length (kyL es L) rfl (World.ownsRow.alloc HS7.out _) ⟨w7.heap.size, 0, none⟩ 1 1 [.slice e.kA e.kN e.kC] rfl rfl (cell_one_new _ _ _) (by simp [Value.oneCell']) (by have := HM.out; simp [maxLen]; omega) (by have := HM.out; omega) (by simp; omega) ?_; intro v8 w8 hown8 hgrow8 _ _; obtain ⟨A8, c8, rfl⟩ := own_slice hown8)
        have HB8 : Hid (Below w.heap.size w w8) := hide ((HB7.out.alloc HB7.out.size _).grown hgrow8 (by simp; omega) (fun j hj => (HS7.out.lt j hj).1))
        have HO8 : Hid (IOwn w8 w.heap.size (.slice A7 (L.length + 1) c7) (withK ky (k + 1)).length (ordI (withK ky (k + 1)))) := hide (by
          have := World.ownsRow.kept (HO7.out.alloc (.cells #[.slice e.kA e.kN e.kC] 42)) hgrow8 (own_apart HS7.out HO7.out (by decide))
          rw [HL1.out]
          unfold ordI
          rw [List.length_append, List.map_append]
          exact this)
        have HS8 : Hid (w8.ownsRow w.heap.size 42 1 (.slice A8 (L.length + 1) c8) (withK ky (k + 1)).length (kyL es (withK ky (k + 1)))) := hide (by
          rw [HL1.out]
          unfold kyL
          rw [List.length_append, List.map_append]
          simp only [List.map_cons, List.map_nil, HKV.out]
          exact hown8)
        clear hown8 hgrow8 hp7
        go_roundw
        case rel => exact ⟨k + 1, by omega, by go_num, HO8, HS8, HB8⟩
        case measure => simp [intOf] <;> omega
    · have d1 : decide ((k : Int) < (es.length : Int)) = false := by simp; omega
      have d2 : decide (k < es.length) = false := by simp; omega
      obtain rfl : k = es.length := by omega
      obtain ⟨L, hL⟩ : ∃ L, L = withK ky es.length := ⟨_, rfl⟩
      have hlL : L.length ≤ es.length := by rw [hL]; exact withK_len _ _
      have hLm : ∀ x ∈ L, x < es.length := fun x hx => by rw [hL] at hx; exact (withK_mem.1 hx).1
      rw [← hL] at hO hS ⊢
      have HL := hide hL
      have hKs : KsAt wo (.slice sA L.length sc) (L.map (kyOf es)) (fun j => ky ((L[j]?).getD 0)) := by
        have hS' := hS.out
        rw [rows_map] at hS'
        refine ⟨?_, fun j x hx => ?_⟩
        · have := sl_of_owns_en (en := kyEn) (fun _ => rfl) (l := L.map (kyOf es)) (show wo.ownsRow w.heap.size 42 1 (.slice sA L.length sc) (L.map (kyOf es)).length _ from by rw [List.length_map]; exact hS') (by rw [List.length_map]; have := HM.out; simp [maxLen]; omega)
          exact this
        · rw [List.getElem?_map] at hx
          obtain ⟨y, hy, rfl⟩ := Option.map_eq_some_iff.1 hx
          have hy2 := hLm y (List.mem_of_getElem? hy)
          obtain ⟨e, he⟩ : ∃ e, es[y]? = some e := ⟨_, List.getElem?_eq_getElem hy2⟩
          have := (HK.out.key y e he).below hB.out (Nat.le_refl _)
          simp only [hy, Option.getD_some]
          unfold kyOf
          rw [he]
          exact this
      have N1 := fun W h => korder_any (.slice sA L.length sc) (L.map (kyOf es)) (fun j => ky ((L[j]?).getD 0)) W h (by rw [List.length_map]; have := HM.out; omega)
      have HKS := hide hKs
      have hnum : SlI wo (.slice uA L.length uc) (ordI L) := by
        have := sl_of_owns_en (en := ntEnc .i64) (sz := 1) (fun _ => rfl) (l := ordI L) (w := wo) (base := w.heap.size) (e := 3) (v := .slice uA L.length uc) (by have := hO.out; unfold IOwn at this; rw [show (ordI L).length = L.length by simp]; rw [show (ordI L).flatMap (ntEnc .i64) = (ordI L).map (Value.int .i64) from by rw [List.flatMap_def]; induction (ordI L) with | nil => rfl | cons x l ih => simp [ntEnc] at ih ⊢; exact ih]; exact this) (by have := HM.out; simp [maxLen]; omega)
        exact this
      have HNUM := hide hnum
      clear hL hKs hnum hO hS h3
      go_wp2_with fail
      refine (N1 _ HKS.out).mono ?_
      rw [List.length_map]
      rintro e w2 ⟨g, d, rfl, hg0, hd2, ho2, hh2, hb2⟩
      have HD2 := hide hd2
      have HO2 := hide ho2
      have HH2 := hide hh2
      have HB2 := hide hb2
      have HB0 : Hid (wo.heap.size ≤ g ∧ Below wo.heap.size wo w2) := hide ⟨hg0, hb2⟩
      have HBW := hide (hB.out.trans (hb2.mono (by exact hB.out.size)))
      obtain ⟨hna, hnb⟩ : L.length ≤ uc ∧ uc ≤ maxLen := by obtain ⟨A9, c9, e9, f1, f2, _⟩ := HNUM.out; injection e9 with _ e2 e3; rw [e3]; rw [← e2] at f1; exact ⟨f1, f2⟩
      clear hd2 ho2 hh2 hb2 N1
      have hg1 : w.heap.size ≤ g := Nat.le_trans hB.out.size hg0
      clear hB HKS
      obtain ⟨n, hn⟩ : ∃ n, L.length = n := ⟨_, rfl⟩
      have HN := hide hn
      rw [hn] at HD2 HO2 HH2 hlL HNUM hna
      rw [hn]
      clear hn
      have hn6 : n ≤ 100000 := by have := HM.out; omega
      obtain ⟨Dm, hDm⟩ : ∃ Dm : Nat → Nat → Int, Dm = fun i j => if j < i then (((L[(d j).toNat]?).getD 0 : Nat) : Int) else d j := ⟨_, rfl⟩
      have HDM := hide hDm
      clear hDm
      go_wp2
      go_loopw [35] (fun x wr => ∃ i : Nat, i ≤ n ∧ x = .int .i64 i ∧ Hid (DAt wr g n (Dm i)) ∧ Hid (Below g w2 wr)) (fun x _ => n - (intOf x).toNat)
      case atStart => exact ⟨0, Nat.zero_le _, rfl, hide (by rw [HDM.out]; exact HD2.out.same (fun j _ => by show (if j < 0 then _ else d j) = d j; rw [if_neg (by omega)])), hide (Below.refl _ _)⟩
      case round =>
        obtain ⟨i, hi, rfl, hD, hBx⟩ := hrel
        by_cases l1 : i < n
        · have d1 : decide ((i : Int) < (n : Int)) = true := by simp; omega
          have d2 : decide (i < n) = true := by simp; omega
          obtain ⟨kk, hkk, hdk⟩ := (HH2.out (d i)).1 ⟨i, Nat.zero_le _, l1, rfl⟩
          obtain ⟨x, hx⟩ : ∃ x, L[kk]? = some x := ⟨_, List.getElem?_eq_getElem (by have := HN.out; omega)⟩
          obtain ⟨A9, c9, e9, f1, f2, f3⟩ := HNUM.out
          obtain ⟨gn, on, e8, hgn, hcn⟩ := f3 kk (x : Int) (by simp [ordI, hx])
          have e10 : A9 = uA := by injection e9 with e1; exact e1.symm
          rw [e8] at e10
          subst e10
          clear e9 f1
          have c0 := nt_cell hcn
          simp only [Nat.mul_one] at c0
          have hbt : Below wo.heap.size wo wr := HB0.out.2.trans (hBx.out.mono HB0.out.1)
          replace c0 := (hbt.cell (p := ⟨gn, on + kk, none⟩) hgn).trans c0
          have hne : gn ≠ g := by have := HB0.out.1; omega
          have c1 := hD.out.cell i l1
          have f1 := hD.out.free i l1
          have hdi : Dm i i = (kk : Int) := by rw [HDM.out]; simp only []; rw [if_neg (by omega)]; exact hdk
          rw [hdi] at c1
          have q0 : (0 : Int) ≤ (i : Int) := by omega
          have q1 : (i : Int) < (n : Int) := by omega
          have q2 : (0 : Int) ≤ (kk : Int) := by omega
          have q3 : (kk : Int) < (n : Int) := by omega
          have HDN : Hid (DAt (wr.setCell ⟨g, i, none⟩ (.int .i64 (x : Int))) g n (Dm (i + 1))) := hide ((hD.out.put (x := (x : Int)) l1).same (fun j _ => by
            rw [HDM.out]
            simp only []
            by_cases e : j = i
            · rw [if_pos e, if_pos (by omega), e, hdk, Int.toNat_natCast, hx]
              rfl
            · rw [if_neg e]
              by_cases e2 : j < i
              · rw [if_pos e2, if_pos (by omega)]
              · rw [if_neg e2, if_neg (by omega)]))
          have HBN : Hid (Below g w2 (wr.setCell ⟨g, i, none⟩ (.int .i64 (x : Int)))) := hide (hBx.out.setCell (by simp) _)
          clear hcn f3 hdk hx hbt hdi hkk
          go_wp2
          go_roundw
          case rel => exact ⟨i + 1, by omega, by go_num, HDN, HBN⟩
          case measure => simp [intOf] <;> omega
        · have d1 : decide ((i : Int) < (n : Int)) = false := by simp; omega
          have d2 : decide (i < n) = false := by simp; omega
          obtain rfl : i = n := by omega
          have HP : Hid (LoPost ky es.length w (.returned (.slice (some ⟨g, 0, none⟩) i i)) wr) := hide (by
            obtain ⟨M, hM⟩ : ∃ M, (List.range L.length).map (fun j => (L[(d j).toNat]?).getD 0) = M := ⟨_, rfl⟩
            have hML : M.length = i := by rw [← hM, ← HN.out]; simp
            refine ⟨some ⟨g, 0, none⟩, i, M, by rw [hML], ?_, ?_, HBW.out.trans (hBx.out.mono hg1), fun a ha => by cases ha; exact hg1⟩
            · rw [hML]
              have := dat_sl hD.out (by simp [maxLen]; omega)
              rw [show ordI M = (List.range i).map (Dm i) from ?_]
              · exact this
              · rw [← hM, HN.out]
                unfold ordI
                rw [List.map_map]
                refine List.map_congr_left (fun j hj => ?_)
                rw [HDM.out]
                simp only [Function.comp]
                rw [if_pos (by simpa using hj)]
            · rw [← hM]
              exact order_back HL.out (by rw [HN.out]; exact HO2.out) (by rw [HN.out]; exact HH2.out))
          clear hD hBx
          go_wp2
          go_ret
          exact HP
end Go.Proofs.YtmiimpmfkjcjlaaGreat

namespace Go.Proofs.YtmiimpmfkjcjlaaGreat
open Go.RowKit
def EvWf (e : Ev) : Prop := (Lit.int .i64 e.call).wf = true ∧ (Lit.int .i64 e.inv).wf = true ∧ (Lit.int .i64 e.resp).wf = true ∧ (Lit.int .i64 e.steps).wf = true
end Go.Proofs.YtmiimpmfkjcjlaaGreat

namespace Go.Proofs.YtmiimpmfkjcjlaaGreat
open Go.RowKit
theorem zero_int (w : World) : (zeroValue 3).run Tryz.prog w = .ok (.int .i64 0) w := by kernel_rfl
def mapOf (cs : List Cl) (es : List Ev) (k : Nat) (x : Int) : Option Value := (lastIx cs es k x).map fun j => Value.int .i64 (j : Int)
theorem mapOf_succ {cs : List Cl} {es : List Ev} {k : Nat} {e : Ev} {c : Cl} (he : es[k]? = some e) (hc : evCall cs e = some c) :
    mapOf cs es (k + 1) = fun x => if x = c.thread then some (.int .i64 (k : Int)) else mapOf cs es k x := by
  funext x
  unfold mapOf
  rw [lastIx_succ he hc]
  split <;> simp
set_option maxHeartbeats 2000000 in
set_option maxRecDepth 100000 in
theorem hright_any (n ticks : Int) (vc ve : Value) (cs : List Cl) (es : List Ev) (w : World) (hcs : SlCl w vc cs) (hes : SlEv w ve es) (hwf : ∀ e ∈ es, EvWf e) :
    Calls Tryz.prog 67 #[.int .i64 n, vc, ve, .int .i64 ticks] w fun e w' => e = .returned (.bool (rightB n cs es ticks)) ∧ Below w.heap.size w w' := by
  have hes' := hes
  obtain ⟨A, cap, rfl, h1, h2, h3⟩ := hes
  have hmm := @run_makeMap Tryz.prog
  obtain ⟨R, hR⟩ : ∃ R, rightB n cs es ticks = R := ⟨_, rfl⟩
  have HR := hide hR
  rw [hR]
  clear hR
  have hlen : (es.length : Int) ≤ 9223372036854775807 := by unfold maxLen at h2; omega
  go_enter Tryz.func67, Tryz.ntmps67
  go_wp2
  go_loopw [10, 20] (fun vi vk wr => ∃ k : Nat, k ≤ es.length ∧ vk = .int .i64 k ∧ vi = .int .i64 (invAt es k) ∧ Hid (∀ j, j < k → okB n cs es ticks j = true) ∧ IMap wr w.heap.size .i64 (mapOf cs es k) ∧ Below w.heap.size w wr) (fun _ vk _ => es.length - (intOf vk).toNat)
  case atStart =>
    refine ⟨0, by omega, rfl, rfl, hide (fun j hj => by omega), ?_, ?_⟩
    · exact IMap.new _ _
    · (repeat' (first | exact Below.refl _ _ | assumption | refine Below.drew ?_ | refine below_drewN ?_ _ | refine Below.alloc ?_ (by simp <;> omega) _ | refine Below.setCell ?_ (by simp <;> omega) _))
  case round =>
    obtain ⟨k, hk, rfl, rfl, hok, hmap, hbw⟩ := hrel
    by_cases hlt : k < es.length
    · obtain ⟨e, hee⟩ : ∃ e, es[k]? = some e := ⟨_, List.getElem?_eq_getElem hlt⟩
      obtain ⟨b, o, rfl, hb, hce⟩ := h3 k e hee
      have hce' := hce.of_block (w' := wr) (hbw.block b hb)
      obtain ⟨c0, c1, c2, c3, c4, c5, c6, c7⟩ := ev_cells hce'
      clear hce hce'
      have hmem : e ∈ es := List.mem_of_getElem? hee
      obtain ⟨_, wf1, wf2, wf3⟩ := hwf e hmem
      have HSl : SlEv wr (.slice (some ⟨b, o, none⟩) es.length cap) es := hes'.below hbw (Nat.le_refl _)
      rcases hA : evCall cs e with _ | c
      · have HF : Hid (false = R) := (rightB_false hlt (okB_none hee hA)).symm.trans HR.out
        have Hc := hide hA
        clear hA hee hok h3 HR
        go_wp2_with ((go_at_call 107; refine (call_none _ cs e _ (hcs.below (hbw.alloc hbw.size _) (Nat.le_refl _)) Hc).mono ?_; rintro en w1 ⟨rfl, hb1⟩; have hb1' : Below w.heap.size w w1 := (hbw.alloc hbw.size _).trans (hb1.mono (by have := hbw.size; simp; omega))))
        go_ret
        exact ⟨ret_bool HF.out, hb1'.alloc hb1'.size _⟩
      · have Hc := hide hA
        have hokk := okB_eq (n := n) (ticks := ticks) hee hA
        clear hA
        by_cases hT : 0 ≤ c.thread ∧ c.thread < n
        · obtain ⟨hT0, hT1⟩ := hT
          rcases hM : mayB e ticks with _ | _
          · have HF : Hid (false = R) := (rightB_false hlt (by rw [hokk, hM]; simp)).symm.trans HR.out
            have HM := hide hM
            clear hM hokk hee hok h3 HR
            go_wp2_with (first | (go_at_call 107; refine (call_some _ cs e c _ (hcs.below (hbw.alloc hbw.size _) (Nat.le_refl _)) Hc).mono ?_; rintro en w1 ⟨rfl, hb1⟩; have hb1' : Below w.heap.size w w1 := (hbw.alloc hbw.size _).trans (hb1.mono (by have := hbw.size; simp; omega)); have hz1 : wr.heap.size < w1.heap.size := (by have := hb1.size; simp at this; omega); have hm1 : IMap w1 w.heap.size .i64 (mapOf cs es k) := (hmap.alloc _).below hb1 (hmap.alloc _).lt; have hl1 := (HSl.alloc _).below hb1 (Nat.le_refl _); have hbc1 := bcell hb1; have hbw1 : b < w1.heap.size + 1 := (by have := hbw.size; omega); clear hb1) | (go_at_call 108; refine (may_any e ticks _ wf3 wf2 wf1).mono ?_; rw [HM.out]; rintro en w2 ⟨rfl, hb2⟩; have hb2' : Below w.heap.size w w2 := (hb1'.alloc hb1'.size _).trans (hb2.mono (by have := hb1'.size; simp; omega)); have hz2 : w1.heap.size < w2.heap.size := (by have := hb2.size; simp at this; omega); have hm2 : IMap w2 w.heap.size .i64 (mapOf cs es k) := (hm1.alloc _).below hb2 (hm1.alloc _).lt; have hl2 := (hl1.alloc _).below hb2 (Nat.le_refl _); have hbc2 := bcell hb2; clear hb2))
            go_ret
            exact ⟨ret_bool HF.out, hb2'⟩
          · have HM := hide hM
            by_cases hI : invAt es k < e.inv
            · rcases hL : lastIx cs es k c.thread with _ | j
              · have HN : Hid (okB n cs es ticks k = true) := by show _ = _; rw [hokk, hM]; unfold lastB; rw [hL]; simp [hT0, hT1, hI]
                have HLm : Hid (mapOf cs es k c.thread = none) := by show _ = _; unfold mapOf; rw [hL]; rfl
                clear hM hokk hL
                have Hee := hide hee
                clear hee h3
                go_wp2_with (first | (go_at_call 107; refine (call_some _ cs e c _ (hcs.below (hbw.alloc hbw.size _) (Nat.le_refl _)) Hc).mono ?_; rintro en w1 ⟨rfl, hb1⟩; have hb1' : Below w.heap.size w w1 := (hbw.alloc hbw.size _).trans (hb1.mono (by have := hbw.size; simp; omega)); have hz1 : wr.heap.size < w1.heap.size := (by have := hb1.size; simp at this; omega); have hm1 : IMap w1 w.heap.size .i64 (mapOf cs es k) := (hmap.alloc _).below hb1 (hmap.alloc _).lt; have hl1 := (HSl.alloc _).below hb1 (Nat.le_refl _); have hbc1 := bcell hb1; have hbw1 : b < w1.heap.size + 1 := (by have := hbw.size; omega); clear hb1) | (go_at_call 108; refine (may_any e ticks _ wf3 wf2 wf1).mono ?_; rw [HM.out]; rintro en w2 ⟨rfl, hb2⟩; have hb2' : Below w.heap.size w w2 := (hb1'.alloc hb1'.size _).trans (hb2.mono (by have := hb1'.size; simp; omega)); have hz2 : w1.heap.size < w2.heap.size := (by have := hb2.size; simp at this; omega); have hm2 : IMap w2 w.heap.size .i64 (mapOf cs es k) := (hm1.alloc _).below hb2 (hm1.alloc _).lt; have hl2 := (hl1.alloc _).below hb2 (Nat.le_refl _); have hbc2 := bcell hb2; clear hb2) | (at_lookup; refine wpList_lookup_ok_imap _ rfl _ _ _ rfl 3 3 .i64 Tryz.underlying171 Tryz.underlying3 (.int .i64 0) (zero_int _) w.heap.size (mapOf cs es k) rfl hm2 c.thread rfl ?_; intro v ok hok1 hv; rw [HLm.out] at hok1; subst hok1; subst hv))
                go_quiet (fail)
                have hm3 := hm2.drewN nq
                go_wp2_with (first | (at_mapUpdate; refine wpList_update_imap _ rfl _ _ _ _ rfl 3 3 .i64 Tryz.underlying171 Tryz.underlying3 w.heap.size (mapOf cs es k) rfl hm3 c.thread (.int .i64 k) rfl rfl ?_; intro w4 hm4 hg4 hz4))
                (have hb4 : Below w.heap.size w w4 := (below_drewN hb2' nq).grown hg4 hb2'.size (fun k h => (by cases h; exact Nat.le_refl _)); go_roundw; (case rel => exact ⟨k + 1, hlt, by go_num, by rw [invAt_succ Hee.out], hide (okAll_succ hok.out HN.out), (by rw [mapOf_succ Hee.out Hc.out]; exact hm4), hb4⟩); (case measure => (simp [intOf] <;> omega)))
              · have hjk : j < k := lastIx_lt hL
                have hjl : j < es.length := by omega
                obtain ⟨d, hd⟩ : ∃ d, es[j]? = some d := ⟨_, List.getElem?_eq_getElem hjl⟩
                obtain ⟨b', o', hA', hb', hcd⟩ := h3 j d hd
                simp only [Option.some.injEq, Addr.mk.injEq, and_true] at hA'
                obtain ⟨rfl, rfl⟩ := hA'
                have HLm : Hid (mapOf cs es k c.thread = some (.int .i64 (j : Int))) := by show _ = _; unfold mapOf; rw [hL]; rfl
                have hji : (j : Int) < (es.length : Int) := by omega
                have hj0 : (0 : Int) ≤ (j : Int) := by omega
                have hbr : b < wr.heap.size + 1 := by have := hbw.size; omega
                have hbh : behindB es j k = (aheadB es j k && decide (d.call < e.call)) := by unfold behindB; rw [hd, hee]
                rcases hAh : aheadB es j k with _ | _
                · have HF : Hid (false = R) := (rightB_false hlt (by rw [hokk]; unfold lastB; rw [hL]; simp [hbh, hAh])).symm.trans HR.out
                  have HAh := hide hAh
                  clear hM hokk hL hee hok h3 HR hcd hd hAh hbh
                  go_wp2_with (first | (go_at_call 107; refine (call_some _ cs e c _ (hcs.below (hbw.alloc hbw.size _) (Nat.le_refl _)) Hc).mono ?_; rintro en w1 ⟨rfl, hb1⟩; have hb1' : Below w.heap.size w w1 := (hbw.alloc hbw.size _).trans (hb1.mono (by have := hbw.size; simp; omega)); have hz1 : wr.heap.size < w1.heap.size := (by have := hb1.size; simp at this; omega); have hm1 : IMap w1 w.heap.size .i64 (mapOf cs es k) := (hmap.alloc _).below hb1 (hmap.alloc _).lt; have hl1 := (HSl.alloc _).below hb1 (Nat.le_refl _); have hbc1 := bcell hb1; have hbw1 : b < w1.heap.size + 1 := (by have := hbw.size; omega); clear hb1) | (go_at_call 108; refine (may_any e ticks _ wf3 wf2 wf1).mono ?_; rw [HM.out]; rintro en w2 ⟨rfl, hb2⟩; have hb2' : Below w.heap.size w w2 := (hb1'.alloc hb1'.size _).trans (hb2.mono (by have := hb1'.size; simp; omega)); have hz2 : w1.heap.size < w2.heap.size := (by have := hb2.size; simp at this; omega); have hm2 : IMap w2 w.heap.size .i64 (mapOf cs es k) := (hm1.alloc _).below hb2 (hm1.alloc _).lt; have hl2 := (hl1.alloc _).below hb2 (Nat.le_refl _); have hbc2 := bcell hb2; clear hb2) | (at_lookup; refine wpList_lookup_ok_imap _ rfl _ _ _ rfl 3 3 .i64 Tryz.underlying171 Tryz.underlying3 (.int .i64 0) (zero_int _) w.heap.size (mapOf cs es k) rfl hm2 c.thread rfl ?_; intro v ok hok1 hv; rw [HLm.out] at hok1; subst hok1; subst hv))
                  go_quiet ((go_at_call 102; exact ahead_q _ es _ _ false _ hl2 HAh _))
                  go_wp2
                  go_ret
                  exact ⟨ret_bool HF.out, below_drewN hb2' _⟩
                · have HAh := hide hAh
                  by_cases hD : d.call < e.call
                  · have HN : Hid (okB n cs es ticks k = true) := by show _ = _; rw [hokk, hM]; unfold lastB; rw [hL]; simp [hbh, hAh, hD, hT0, hT1, hI]
                    have Hee := hide hee
                    clear hM hokk hL hee h3 hd hAh hbh
                    go_wp2_with (first | (go_at_call 107; refine (call_some _ cs e c _ (hcs.below (hbw.alloc hbw.size _) (Nat.le_refl _)) Hc).mono ?_; rintro en w1 ⟨rfl, hb1⟩; have hb1' : Below w.heap.size w w1 := (hbw.alloc hbw.size _).trans (hb1.mono (by have := hbw.size; simp; omega)); have hz1 : wr.heap.size < w1.heap.size := (by have := hb1.size; simp at this; omega); have hm1 : IMap w1 w.heap.size .i64 (mapOf cs es k) := (hmap.alloc _).below hb1 (hmap.alloc _).lt; have hl1 := (HSl.alloc _).below hb1 (Nat.le_refl _); have hbc1 := bcell hb1; have hbw1 : b < w1.heap.size + 1 := (by have := hbw.size; omega); clear hb1) | (go_at_call 108; refine (may_any e ticks _ wf3 wf2 wf1).mono ?_; rw [HM.out]; rintro en w2 ⟨rfl, hb2⟩; have hb2' : Below w.heap.size w w2 := (hb1'.alloc hb1'.size _).trans (hb2.mono (by have := hb1'.size; simp; omega)); have hz2 : w1.heap.size < w2.heap.size := (by have := hb2.size; simp at this; omega); have hm2 : IMap w2 w.heap.size .i64 (mapOf cs es k) := (hm1.alloc _).below hb2 (hm1.alloc _).lt; have hl2 := (hl1.alloc _).below hb2 (Nat.le_refl _); have hbc2 := bcell hb2; clear hb2) | (at_lookup; refine wpList_lookup_ok_imap _ rfl _ _ _ rfl 3 3 .i64 Tryz.underlying171 Tryz.underlying3 (.int .i64 0) (zero_int _) w.heap.size (mapOf cs es k) rfl hm2 c.thread rfl ?_; intro v ok hok1 hv; rw [HLm.out] at hok1; subst hok1; subst hv))
                    have d2 := (ev_cells (hcd.of_block (w' := w2) (hb2'.block b hb))).1
                    have e2 : w2.cell? ⟨wr.heap.size, 0, none⟩ = some (.int .i64 e.call) := by clear d2; go_simp
                    have e4 : w2.cell? ⟨wr.heap.size, 1, none⟩ = some (.int .i64 e.inv) := by clear d2 e2; go_simp
                    have e3 : w2.cell? ⟨w1.heap.size, 0, none⟩ = some (.int .i64 c.thread) := by clear d2 e2 e4; go_simp
                    clear hbc1 hbc2
                    go_quiet ((go_at_call 102; exact ahead_q _ es _ _ true _ hl2 HAh _))
                    have hm3 := hm2.drewN nq
                    go_wp2_with (first | (at_mapUpdate; refine wpList_update_imap _ rfl _ _ _ _ rfl 3 3 .i64 Tryz.underlying171 Tryz.underlying3 w.heap.size (mapOf cs es k) rfl hm3 c.thread (.int .i64 k) rfl rfl ?_; intro w4 hm4 hg4 hz4))
                    (have hb4 : Below w.heap.size w w4 := (below_drewN hb2' nq).grown hg4 hb2'.size (fun k h => (by cases h; exact Nat.le_refl _)); go_roundw; (case rel => exact ⟨k + 1, hlt, by go_num, by rw [invAt_succ Hee.out], hide (okAll_succ hok.out HN.out), (by rw [mapOf_succ Hee.out Hc.out]; exact hm4), hb4⟩); (case measure => (simp [intOf] <;> omega)))
                  · have HF : Hid (false = R) := (rightB_false hlt (by rw [hokk]; unfold lastB; rw [hL]; simp [hbh, hD])).symm.trans HR.out
                    clear hM hokk hL hee hok h3 HR hd hAh hbh
                    go_wp2_with (first | (go_at_call 107; refine (call_some _ cs e c _ (hcs.below (hbw.alloc hbw.size _) (Nat.le_refl _)) Hc).mono ?_; rintro en w1 ⟨rfl, hb1⟩; have hb1' : Below w.heap.size w w1 := (hbw.alloc hbw.size _).trans (hb1.mono (by have := hbw.size; simp; omega)); have hz1 : wr.heap.size < w1.heap.size := (by have := hb1.size; simp at this; omega); have hm1 : IMap w1 w.heap.size .i64 (mapOf cs es k) := (hmap.alloc _).below hb1 (hmap.alloc _).lt; have hl1 := (HSl.alloc _).below hb1 (Nat.le_refl _); have hbc1 := bcell hb1; have hbw1 : b < w1.heap.size + 1 := (by have := hbw.size; omega); clear hb1) | (go_at_call 108; refine (may_any e ticks _ wf3 wf2 wf1).mono ?_; rw [HM.out]; rintro en w2 ⟨rfl, hb2⟩; have hb2' : Below w.heap.size w w2 := (hb1'.alloc hb1'.size _).trans (hb2.mono (by have := hb1'.size; simp; omega)); have hz2 : w1.heap.size < w2.heap.size := (by have := hb2.size; simp at this; omega); have hm2 : IMap w2 w.heap.size .i64 (mapOf cs es k) := (hm1.alloc _).below hb2 (hm1.alloc _).lt; have hl2 := (hl1.alloc _).below hb2 (Nat.le_refl _); have hbc2 := bcell hb2; clear hb2) | (at_lookup; refine wpList_lookup_ok_imap _ rfl _ _ _ rfl 3 3 .i64 Tryz.underlying171 Tryz.underlying3 (.int .i64 0) (zero_int _) w.heap.size (mapOf cs es k) rfl hm2 c.thread rfl ?_; intro v ok hok1 hv; rw [HLm.out] at hok1; subst hok1; subst hv))
                    have d2 := (ev_cells (hcd.of_block (w' := w2) (hb2'.block b hb))).1
                    have e2 : w2.cell? ⟨wr.heap.size, 0, none⟩ = some (.int .i64 e.call) := by clear d2; go_simp
                    have e4 : w2.cell? ⟨wr.heap.size, 1, none⟩ = some (.int .i64 e.inv) := by clear d2 e2; go_simp
                    have e3 : w2.cell? ⟨w1.heap.size, 0, none⟩ = some (.int .i64 c.thread) := by clear d2 e2 e4; go_simp
                    clear hbc1 hbc2
                    go_quiet ((go_at_call 102; exact ahead_q _ es _ _ true _ hl2 HAh _))
                    go_wp2
                    go_ret
                    exact ⟨ret_bool HF.out, below_drewN hb2' _⟩
            · have HF : Hid (false = R) := (rightB_false hlt (by rw [hokk, decide_eq_false hI]; simp)).symm.trans HR.out
              clear hM hokk hee hok h3 HR
              go_wp2_with (first | (go_at_call 107; refine (call_some _ cs e c _ (hcs.below (hbw.alloc hbw.size _) (Nat.le_refl _)) Hc).mono ?_; rintro en w1 ⟨rfl, hb1⟩; have hb1' : Below w.heap.size w w1 := (hbw.alloc hbw.size _).trans (hb1.mono (by have := hbw.size; simp; omega)); have hz1 : wr.heap.size < w1.heap.size := (by have := hb1.size; simp at this; omega); have hm1 : IMap w1 w.heap.size .i64 (mapOf cs es k) := (hmap.alloc _).below hb1 (hmap.alloc _).lt; have hl1 := (HSl.alloc _).below hb1 (Nat.le_refl _); have hbc1 := bcell hb1; have hbw1 : b < w1.heap.size + 1 := (by have := hbw.size; omega); clear hb1) | (go_at_call 108; refine (may_any e ticks _ wf3 wf2 wf1).mono ?_; rw [HM.out]; rintro en w2 ⟨rfl, hb2⟩; have hb2' : Below w.heap.size w w2 := (hb1'.alloc hb1'.size _).trans (hb2.mono (by have := hb1'.size; simp; omega)); have hz2 : w1.heap.size < w2.heap.size := (by have := hb2.size; simp at this; omega); have hm2 : IMap w2 w.heap.size .i64 (mapOf cs es k) := (hm1.alloc _).below hb2 (hm1.alloc _).lt; have hl2 := (hl1.alloc _).below hb2 (Nat.le_refl _); have hbc2 := bcell hb2; clear hb2))
              all_goals first | (exfalso; omega) | (go_ret; exact ⟨ret_bool HF.out, hb2'⟩)
        · have HF : Hid (false = R) := (rightB_false hlt (by rw [hokk, decide_eq_false hT]; rfl)).symm.trans HR.out
          clear hokk hee hok h3 HR
          go_wp2_with (go_at_call 107; refine (call_some _ cs e c _ (hcs.below (hbw.alloc hbw.size _) (Nat.le_refl _)) Hc).mono ?_; rintro en w1 ⟨rfl, hb1⟩; have hb1' : Below w.heap.size w w1 := (hbw.alloc hbw.size _).trans (hb1.mono (by have := hbw.size; simp; omega)); have hz1 : wr.heap.size < w1.heap.size := (by have := hb1.size; simp at this; omega); have hm1 : IMap w1 w.heap.size .i64 (mapOf cs es k) := (hmap.alloc _).below hb1 (hmap.alloc _).lt; have hl1 := (HSl.alloc _).below hb1 (Nat.le_refl _); have hbc1 := bcell hb1; have hbw1 : b < w1.heap.size + 1 := (by have := hbw.size; omega); clear hb1)
          all_goals first | (exfalso; omega) | (go_ret; exact ⟨ret_bool HF.out, hb1'.alloc hb1'.size _⟩)
    · go_wp2
      go_ret
      refine ⟨ret_bool ?_, hbw⟩
      rw [← HR.out]
      exact (rightB_true (fun j hj => hok.out j (by omega))).symm
end Go.Proofs.YtmiimpmfkjcjlaaGreat
