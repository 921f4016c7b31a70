import Derived.Test.YtlfingcmekifkaaGreatBun22
import Derived.Test.YtlfingcmekifkaaGreatBun26
import Derived.Deep.DeepCutAuto
import Derived.Great.BuildSlice
namespace Go.Proofs.YtlfingcmekifkaaGreat
open Go.RowKit
theorem exec_build {P : Program} {o : Oper} {a : Act} {t : TypeId} {parts : Array (Nat × Operand)} {cells : Array Value} (ho : o.op = .build t parts) (h : P.built t (parts.map fun (i, x) => (i, a.eval x)).toList = some cells) (w : World) : (execOp a.eval o).run P w = .ok (.value (.agg cells)) w := by
  unfold execOp
  simp only [ho, Sem.run_bind, run_build w t _ cells h, Result.andThen_ok]
  rfl
theorem exec_build3 {P : Program} {o : Oper} {a : Act} {t : TypeId} {i0 i1 i2 : Nat} {p0 p1 p2 : Operand} {v0 v1 v2 : Value} {cells : Array Value} (ho : o.op = .build t #[(i0, p0), (i1, p1), (i2, p2)]) (h0 : a.eval p0 = v0) (h1 : a.eval p1 = v1) (h2 : a.eval p2 = v2) (h : P.built t [(i0, v0), (i1, v1), (i2, v2)] = some cells) (w : World) : (execOp a.eval o).run P w = .ok (.value (.agg cells)) w :=
  exec_build ho (by simp only [List.map_toArray, List.map_cons, List.map_nil, h0, h1, h2]; exact h) w
section
variable {P : Program} {l : List Oper} {Q : Exit → Act → World → Prop} {S : World → Prop} {i : Nat} {r : Plan} {a : Act} {w : World} {o : Oper} {t : TypeId} {i0 i1 i2 : Nat} {p0 p1 p2 : Operand} {v0 v1 v2 : Value} {cells : Array Value} {late : List Nat}
theorem seq_build3 (hb : P.built t [(i0, v0), (i1, v1), (i2, v2)] = some cells) (ho : nth l i = some o) (hop : o.op = .build t #[(i0, p0), (i1, p1), (i2, p2)]) (hw : Region.wanted o (yielded l.toArray a.tmps) = true) (h0 : a.eval p0 = v0) (h1 : a.eval p1 = v1) (h2 : a.eval p2 = v2) (h : wpSeq P l.toArray Q S r (a.put o.dst (.agg cells)) w) : wpSeq P l.toArray Q S (.take i r) a w :=
  seq_take ho hw (fun wS _ => exec_build3 hop h0 h1 h2 hb wS) h
theorem seql_build2 (hb : P.built t [(i0, v0), (i1, v1)] = some cells) (ho : nth l i = some o) (hop : o.op = .build t #[(i0, p0), (i1, p1)]) (hw : Region.wanted o (yielded l.toArray a.tmps) = true) (h0 : a.eval p0 = v0) (h1 : a.eval p1 = v1) (h : wpSeqL P l.toArray Q S late r (a.put o.dst (.agg cells)) w) : wpSeqL P l.toArray Q S late (.take i r) a w :=
  seql_take ho hw (fun wS _ => exec_build hop (by simp only [List.map_toArray, List.map_cons, List.map_nil, h0, h1]; exact hb) wS) h
end
theorem built_event (i now : Int) : Tryz.prog.built 52 [(0, .int .i64 i), (1, .int .i64 now)] = some #[.int .i64 i, .int .i64 now, .int .i64 0, .int .i64 0, .int .i64 0, .int .u64 0, .slice none 0 0, .slice none 0 0] := by kernel_rfl
theorem fill_event (i now : Int) : Instr.fill (fun k => some (k * 8, 8)) ((Array.range (1 * 8)).map ((Value.agg #[.int .i64 0, .int .i64 0, .int .i64 0, .int .i64 0, .int .i64 0, .int .u64 0, .slice none 0 0, .slice none 0 0]).cells[· % (Value.agg #[.int .i64 0, .int .i64 0, .int .i64 0, .int .i64 0, .int .i64 0, .int .u64 0, .slice none 0 0, .slice none 0 0]).cells.size]!)) [(0, .agg #[.int .i64 i, .int .i64 now, .int .i64 0, .int .i64 0, .int .i64 0, .int .u64 0, .slice none 0 0, .slice none 0 0])] = some #[.int .i64 i, .int .i64 now, .int .i64 0, .int .i64 0, .int .i64 0, .int .u64 0, .slice none 0 0, .slice none 0 0] := by kernel_rfl
theorem wp_buildEvent {o : Oper} {a : Act} {w : World} {K : Act → World → Prop} {Q : Exit → Act → World → Prop} {p0 : Operand} {i now : Int} (ho : o.op = .buildSlice 27 1 #[(0, p0)]) (h0 : a.eval p0 = .agg #[.int .i64 i, .int .i64 now, .int .i64 0, .int .i64 0, .int .i64 0, .int .u64 0, .slice none 0 0, .slice none 0 0]) (h : K (a.put o.dst (.slice (some ⟨w.heap.size, 0, none⟩) 1 1)) (w.alloc (.cells #[.int .i64 i, .int .i64 now, .int .i64 0, .int .i64 0, .int .i64 0, .int .u64 0, .slice none 0 0, .slice none 0 0] 52))) : o.wp Tryz.prog a w K Q := by
  obtain ⟨i0, hi0, hi1, hi2, hi3⟩ := info_parts info_event
  refine wp_buildSlice 27 52 1 _ ho #[.int .i64 i, .int .i64 now, .int .i64 0, .int .i64 0, .int .i64 0, .int .u64 0, .slice none 0 0, .slice none 0 0] i0 _ Tryz.underlying27 hi0 hi1 (by rw [hi2]; decide) (by rw [hi2]; decide) ?_ h
  rw [hi2]
  simp only [List.map_toArray, List.map_cons, List.map_nil, h0]
  exact fill_event i now
theorem built_world (u : Value) (A B : Option Addr) (n c k d : Nat) : Tryz.prog.built 95 [(0, memV u), (2, .slice A n c), (3, .slice B k d)] = some #[u, .int .i64 0, .int .i64 0, .int .i64 0, .int .i64 0, .int .i64 0, .int .i64 0, .slice A n c, .slice B k d, .slice none 0 0] := by kernel_rfl
set_option maxRecDepth 100000 in
set_option maxHeartbeats 100000000 in
theorem plainLog {D : Dof} {nn : Nat} {As : Option Addr} {cs0 : Nat} {sp : Int × Int × Int} {size : Nat} {A : Option Addr} {m c : Nat} {cs : List Cl} {Ap : Option Addr} {np cp : Nat} {picks : List Int} {w : World} (hD : PlainDo D nn [sp] [0]) (hS : DSm D) (hP : DPl D)
    (hSize : ∀ W, Calls Tryz.prog 60 #[.int .i64 (nn : Int), spV sp.1 sp.2.1 sp.2.2] W fun e w' => e = .returned (.int .i64 (size : Int)) ∧ Below W.heap.size W w') (hsz : size ≤ 65536) (hk : sp.1 ≠ 8 ∧ sp.1 ≠ 4) (hsp : SlSp w (.slice As 1 cs0) [sp])
    (h : SlCl w (.slice A m c) cs) (hm : cs.length = m) (hp : SlI w (.slice Ap np cp) picks) (hpl : picks.length = np) (hcu : ∀ c ∈ cs, ClU c) (hE : chkE nn cs np = 0) :
    Calls Tryz.prog 25 #[.int .i64 (nn : Int), .slice As 1 cs0, .slice A m c, .slice Ap np cp] w (LogPost (((Rs.new (List.replicate size 0) cs.length).play D 1 cs picks).endsK (fun _ t => ((Rs.new (List.replicate size 0) cs.length).play D 1 cs picks).w.marks t) nn) ((Rs.new (List.replicate size 0) cs.length).play D 1 cs picks).w.mem ((Rs.new (List.replicate size 0) cs.length).play D 1 cs picks).w.now ((Rs.new (List.replicate size 0) cs.length).play D 1 cs picks).idle w) := by
  obtain ⟨hn, hcl, hnp, hth⟩ := chk_calls hE
  have hn' : 1 ≤ nn ∧ nn ≤ 16 := by omega
  have N0 := plainWrong nn A m c cs Ap np cp (w.alloc zeroRep) (h.alloc _) hm
  rw [hE] at N0
  have NB := plainBases1 (n := (nn : Int)) (size := (size : Int)) hSize (hsp.alloc zeroRep) (by omega)
  have HSP := hide hsp
  have HC := hide h
  have HP := hide hp
  have HCU := hide hcu
  have HTH := hide hth
  have HM := hide hm
  have HPL := hide hpl
  have HK := hide hk
  have HN := hide hn'
  have HE := hide hE
  have HL := hide (show cs.length ≤ 1000 ∧ np ≤ 65536 from ⟨hcl, hnp⟩)
  have HZ0 := hide (show w.heap.size < (w.alloc zeroRep).heap.size by simp)
  have HW0 := hide (show Below w.heap.size w (w.alloc zeroRep) from (Below.refl _ _).alloc (Nat.le_refl _) _)
  have HSZ := hide hsz
  have HR8 := hide (show (w.alloc zeroRep).heap[w.heap.size]? = some zeroRep from heap_alloc_new w zeroRep)
  unfold zeroRep at NB N0 HZ0 HW0 HR8
  obtain ⟨FE, hFE⟩ : ∃ FE, ((Rs.new (List.replicate size 0) cs.length).play D 1 cs picks).endsK (fun _ t => ((Rs.new (List.replicate size 0) cs.length).play D 1 cs picks).w.marks t) nn = FE := ⟨_, rfl⟩
  obtain ⟨FR, hFR⟩ : ∃ FR, (Rs.new (List.replicate size 0) cs.length).play D 1 cs picks = FR := ⟨_, rfl⟩
  rw [hFE, hFR]
  rw [hFR] at hFE
  have HFE := hide hFE
  have HFR := hide hFR
  clear h hp hcu hth hm hpl hE hk hcl hnp hn hFE hFR hsp
  go_enter Tryz.func25, Tryz.ntmps25
  go_wp2_with fail
  refine N0.mono ?_
  rintro e w1 ⟨rfl, rfl⟩
  go_wp2_with fail
  refine NB.mono ?_
  rintro e w4 ⟨bb, cb, rfl, hbb, hbo, hb4⟩
  obtain ⟨W0, hW0⟩ : ∃ W0, W0 = w.alloc (.cells #[.slice none 0 0, .slice none 0 0, .int .i64 0, .int .i64 0, .int .i64 0, .int .i64 0, .int .i64 0, .int .i64 0, .int .i64 0] 32) := ⟨_, rfl⟩
  rw [← hW0] at hbb hbo hb4 HZ0 HW0 HR8
  have hbz : bb < w4.heap.size := (World.ownsRow.lt hbo bb rfl).2
  have hBS : SlI w4 (.slice (some ⟨bb, 0, none⟩) 1 cb) [0] := by
    rcases hbo.2 with ⟨_, h0⟩ | ⟨g0, c0, cur, e0, hg0, hh0, h0c, hcm, hcur, hco⟩
    · omega
    · cases e0
      refine ⟨some ⟨bb, 0, none⟩, cb, rfl, ?_, ?_, fun k x hx => ⟨bb, 0, rfl, hbz, fun j u hu => ?_⟩⟩
      · simpa using h0c
      · exact hcm
      · rcases k with _ | k
        · simp at hx
          subst hx
          rcases j with _ | j
          · simp [ntEnc] at hu
            subst hu
            have h2 : cur.toList[0]? = some (.int .i64 0) := by
              have := congrArg (fun l : List Value => l[0]?) hco
              simpa [List.getElem?_take] using this
            rw [cell_of_row _ _ _ _ _ _ hh0]
            simpa using h2
          · simp [ntEnc] at hu
        · simp at hx
  have HRES := hide ((hb4.block _ HZ0.out).trans HR8.out)
  have HBB := hide (show w.heap.size < bb ∧ bb < w4.heap.size from ⟨Nat.lt_of_lt_of_le HZ0.out hbb, hbz⟩)
  have HB4 := hide (show Below w.heap.size w w4 from HW0.out.trans (hb4.mono HW0.out.size))
  have HBS := hide hBS
  clear N0 NB hW0 hb4 hbo hbb hbz hBS HZ0 HW0 HR8
  go_upto_region 7 with fail
  go_cut [15] (fun v wx => ∃ wp mb u f, v = .pointer (some ⟨wp, 0, none⟩) ∧ Hid (IW w4 wx nn size wp mb u f))
  case first =>
    as_aux_lemma =>
      have hmkI : ∀ W, (Instr.makeSlice 93 (.int .i64 (nn : Int)) (.int .i64 (nn : Int))).run Tryz.prog W = .ok (.slice (some ⟨W.heap.size, 0, none⟩) nn nn) (W.alloc (.cells (madeCells #[.slice none 0 0] nn) 24)) :=
        fun W => run_make_row' (P := Tryz.prog) 93 24 (.slice none 0 0) 24 Tryz.underlying93 info_ints rfl .i64 .i64 nn (by have := HN.out; omega) (by have := HN.out; omega) W
      have hmkJ : ∀ W, (Instr.makeSlice 93 (.int .i64 (size : Int)) (.int .i64 (size : Int))).run Tryz.prog W = .ok (.slice (some ⟨W.heap.size, 0, none⟩) size size) (W.alloc (.cells (madeCells #[.slice none 0 0] size) 24)) :=
        fun W => run_make_row' (P := Tryz.prog) 93 24 (.slice none 0 0) 24 Tryz.underlying93 info_ints rfl .i64 .i64 size (by omega) (by omega) W
      have NW := fun (W : World) (hb : Below w4.heap.size w4 W) => plainWords1 (n := (nn : Int)) (Ab := some ⟨bb, 0, none⟩) (nb := 1) (cb := cb) (size := size) ((HSP.out.below HB4.out (Nat.le_refl _)).below hb (Nat.le_refl _)) HK.out.1 hsz
      have HSZ' := hide hsz
      clear hsz hSize
      obtain ⟨wc, hwc⟩ : ∃ x, x = w4 := ⟨_, rfl⟩
      have hP : P7 w4 wc nn size false false false 0 .nilFunc 0 := by rw [hwc]; exact P7.start w4 nn size
      rw [← hwc]
      clear hwc
      go_wp2_with fail
      refine wp_region_seq3 (fun _ => True) (.take 0 <| .take 1 <| .take 2 <| .take 3 <| .take 6 <| .take 8 <| .fork3 4 (.fork3 5 (.fork 7 (.base (.run 9 <| .take 10 <| .run 11 <| .take 12 <| .done)) 9 (.base (.run 7 <| .take 10 <| .run 11 <| .take 12 <| .done))) 7 (.fork 5 (.base (.run 9 <| .take 10 <| .run 11 <| .take 12 <| .done)) 9 (.base (.run 5 <| .take 10 <| .run 11 <| .take 12 <| .done))) 9 (.fork 5 (.base (.run 7 <| .take 10 <| .run 11 <| .take 12 <| .done)) 7 (.base (.run 5 <| .take 10 <| .run 11 <| .take 12 <| .done)))) 7 (.fork 4 (.fork 5 (.base (.run 9 <| .take 10 <| .run 11 <| .take 12 <| .done)) 9 (.base (.run 5 <| .take 10 <| .run 11 <| .take 12 <| .done))) 9 (.base (.run 4 <| .run 5 <| .take 10 <| .run 11 <| .take 12 <| .done))) 9 (.fork 4 (.fork 5 (.base (.run 7 <| .take 10 <| .run 11 <| .take 12 <| .done)) 7 (.base (.run 5 <| .take 10 <| .run 11 <| .take 12 <| .done))) 7 (.base (.run 4 <| .run 5 <| .take 10 <| .run 11 <| .take 12 <| .done)))) (by kernel_rfl) (by kernel_rfl) (by kernel_rfl) trivial ?_
      iterate 6 (refine seq3_take (v := ?_) rfl (by rfl) ?_ ?_; rotate_left; (focus (intro wS hS; go_simp; exact rfl)); simp only [Act.put, List.setIfInBounds_toArray, List.set_cons_zero, List.set_cons_succ])
      obtain ⟨wd, hwd, hP⟩ := hP.d'
      rw [← hwd]
      clear hwd
      refine seq3_fork3 ?_ ?_ ?_
      · first | refine seq3_run rfl (by rfl) (fun K hK => ?_) | refine seq_run rfl (by rfl) (fun K hK => ?_)
        go_simp
        refine (NW _ hP.kp).mono ?_
        rintro e wc ⟨rfl, hwc⟩
        replace hP := hP.wd HSZ'.out hwc
        refine hK _ _ trivial ?_
        clear hK K hwc
        refine seq3_fork3 ?_ ?_ ?_
        · first | refine seq3_run rfl (by rfl) (fun K hK => ?_) | refine seq_run rfl (by rfl) (fun K hK => ?_)
          go_simp
          refine (memOf_any _ _ _ (hP.hW rfl) (by have := HSZ'.out; simp; omega)).mono ?_
          rintro e wc ⟨uu, rfl, hr, hb⟩
          replace hP := hP.o hr hb
          refine hK _ _ trivial ?_
          clear hK K hr hb
          refine seq3_fork ?_ ?_
          · first | refine seq3_run rfl (by rfl) (fun K hK => ?_) | refine seq_run rfl (by rfl) (fun K hK => ?_)
            go_simp
            refine hK _ _ trivial ?_
            clear hK K
            obtain ⟨wc, hwc, hP⟩ := hP.a'
            rw [← hwc]
            clear hwc
            refine seq3_base ?_
            first | refine seq3_run rfl (by rfl) (fun K hK => ?_) | refine seq_run rfl (by rfl) (fun K hK => ?_)
            go_simp
            refine hK _ _ trivial ?_
            clear hK K
            obtain ⟨wc, hwc, hP⟩ := hP.b' size
            rw [← hwc]
            clear hwc
            refine seq_build3 (p0 := .tmp 51) (p1 := .tmp 53) (p2 := .tmp 55) (built_world _ _ _ _ _ _ _) rfl rfl (by rfl) rfl rfl rfl ?_
            simp only [Act.put, List.setIfInBounds_toArray, List.set_cons_zero, List.set_cons_succ]
            first | refine seq3_run rfl (by rfl) (fun K hK => ?_) | refine seq_run rfl (by rfl) (fun K hK => ?_)
            go_simp
            refine hK _ _ trivial ?_
            clear hK K
            (refine seq_take (v := ?_) rfl (by rfl) ?_ ?_; rotate_left; (focus (intro wS hS; go_simp; exact rfl)); simp only [Act.put, List.setIfInBounds_toArray, List.set_cons_zero, List.set_cons_succ])
            refine seq_nil ?_
            go_wp2
            go_meet
            exact ⟨_, _, _, _, rfl, hide (hP.fin _)⟩
          · first | refine seq3_run rfl (by rfl) (fun K hK => ?_) | refine seq_run rfl (by rfl) (fun K hK => ?_)
            go_simp
            refine hK _ _ trivial ?_
            clear hK K
            obtain ⟨wc, hwc, hP⟩ := hP.b' size
            rw [← hwc]
            clear hwc
            refine seq3_base ?_
            first | refine seq3_run rfl (by rfl) (fun K hK => ?_) | refine seq_run rfl (by rfl) (fun K hK => ?_)
            go_simp
            refine hK _ _ trivial ?_
            clear hK K
            obtain ⟨wc, hwc, hP⟩ := hP.a'
            rw [← hwc]
            clear hwc
            refine seq_build3 (p0 := .tmp 51) (p1 := .tmp 53) (p2 := .tmp 55) (built_world _ _ _ _ _ _ _) rfl rfl (by rfl) rfl rfl rfl ?_
            simp only [Act.put, List.setIfInBounds_toArray, List.set_cons_zero, List.set_cons_succ]
            first | refine seq3_run rfl (by rfl) (fun K hK => ?_) | refine seq_run rfl (by rfl) (fun K hK => ?_)
            go_simp
            refine hK _ _ trivial ?_
            clear hK K
            (refine seq_take (v := ?_) rfl (by rfl) ?_ ?_; rotate_left; (focus (intro wS hS; go_simp; exact rfl)); simp only [Act.put, List.setIfInBounds_toArray, List.set_cons_zero, List.set_cons_succ])
            refine seq_nil ?_
            go_wp2
            go_meet
            exact ⟨_, _, _, _, rfl, hide (hP.fin _)⟩
        · first | refine seq3_run rfl (by rfl) (fun K hK => ?_) | refine seq_run rfl (by rfl) (fun K hK => ?_)
          go_simp
          refine hK _ _ trivial ?_
          clear hK K
          obtain ⟨wc, hwc, hP⟩ := hP.a'
          rw [← hwc]
          clear hwc
          refine seq3_fork ?_ ?_
          · first | refine seq3_run rfl (by rfl) (fun K hK => ?_) | refine seq_run rfl (by rfl) (fun K hK => ?_)
            go_simp
            refine (memOf_any _ _ _ (hP.hW rfl) (by have := HSZ'.out; simp; omega)).mono ?_
            rintro e wc ⟨uu, rfl, hr, hb⟩
            replace hP := hP.o hr hb
            refine hK _ _ trivial ?_
            clear hK K hr hb
            refine seq3_base ?_
            first | refine seq3_run rfl (by rfl) (fun K hK => ?_) | refine seq_run rfl (by rfl) (fun K hK => ?_)
            go_simp
            refine hK _ _ trivial ?_
            clear hK K
            obtain ⟨wc, hwc, hP⟩ := hP.b' size
            rw [← hwc]
            clear hwc
            refine seq_build3 (p0 := .tmp 51) (p1 := .tmp 53) (p2 := .tmp 55) (built_world _ _ _ _ _ _ _) rfl rfl (by rfl) rfl rfl rfl ?_
            simp only [Act.put, List.setIfInBounds_toArray, List.set_cons_zero, List.set_cons_succ]
            first | refine seq3_run rfl (by rfl) (fun K hK => ?_) | refine seq_run rfl (by rfl) (fun K hK => ?_)
            go_simp
            refine hK _ _ trivial ?_
            clear hK K
            (refine seq_take (v := ?_) rfl (by rfl) ?_ ?_; rotate_left; (focus (intro wS hS; go_simp; exact rfl)); simp only [Act.put, List.setIfInBounds_toArray, List.set_cons_zero, List.set_cons_succ])
            refine seq_nil ?_
            go_wp2
            go_meet
            exact ⟨_, _, _, _, rfl, hide (hP.fin _)⟩
          · first | refine seq3_run rfl (by rfl) (fun K hK => ?_) | refine seq_run rfl (by rfl) (fun K hK => ?_)
            go_simp
            refine hK _ _ trivial ?_
            clear hK K
            obtain ⟨wc, hwc, hP⟩ := hP.b' size
            rw [← hwc]
            clear hwc
            refine seq3_base ?_
            first | refine seq3_run rfl (by rfl) (fun K hK => ?_) | refine seq_run rfl (by rfl) (fun K hK => ?_)
            go_simp
            refine (memOf_any _ _ _ (hP.hW rfl) (by have := HSZ'.out; simp; omega)).mono ?_
            rintro e wc ⟨uu, rfl, hr, hb⟩
            replace hP := hP.o hr hb
            refine hK _ _ trivial ?_
            clear hK K hr hb
            refine seq_build3 (p0 := .tmp 51) (p1 := .tmp 53) (p2 := .tmp 55) (built_world _ _ _ _ _ _ _) rfl rfl (by rfl) rfl rfl rfl ?_
            simp only [Act.put, List.setIfInBounds_toArray, List.set_cons_zero, List.set_cons_succ]
            first | refine seq3_run rfl (by rfl) (fun K hK => ?_) | refine seq_run rfl (by rfl) (fun K hK => ?_)
            go_simp
            refine hK _ _ trivial ?_
            clear hK K
            (refine seq_take (v := ?_) rfl (by rfl) ?_ ?_; rotate_left; (focus (intro wS hS; go_simp; exact rfl)); simp only [Act.put, List.setIfInBounds_toArray, List.set_cons_zero, List.set_cons_succ])
            refine seq_nil ?_
            go_wp2
            go_meet
            exact ⟨_, _, _, _, rfl, hide (hP.fin _)⟩
        · first | refine seq3_run rfl (by rfl) (fun K hK => ?_) | refine seq_run rfl (by rfl) (fun K hK => ?_)
          go_simp
          refine hK _ _ trivial ?_
          clear hK K
          obtain ⟨wc, hwc, hP⟩ := hP.b' size
          rw [← hwc]
          clear hwc
          refine seq3_fork ?_ ?_
          · first | refine seq3_run rfl (by rfl) (fun K hK => ?_) | refine seq_run rfl (by rfl) (fun K hK => ?_)
            go_simp
            refine (memOf_any _ _ _ (hP.hW rfl) (by have := HSZ'.out; simp; omega)).mono ?_
            rintro e wc ⟨uu, rfl, hr, hb⟩
            replace hP := hP.o hr hb
            refine hK _ _ trivial ?_
            clear hK K hr hb
            refine seq3_base ?_
            first | refine seq3_run rfl (by rfl) (fun K hK => ?_) | refine seq_run rfl (by rfl) (fun K hK => ?_)
            go_simp
            refine hK _ _ trivial ?_
            clear hK K
            obtain ⟨wc, hwc, hP⟩ := hP.a'
            rw [← hwc]
            clear hwc
            refine seq_build3 (p0 := .tmp 51) (p1 := .tmp 53) (p2 := .tmp 55) (built_world _ _ _ _ _ _ _) rfl rfl (by rfl) rfl rfl rfl ?_
            simp only [Act.put, List.setIfInBounds_toArray, List.set_cons_zero, List.set_cons_succ]
            first | refine seq3_run rfl (by rfl) (fun K hK => ?_) | refine seq_run rfl (by rfl) (fun K hK => ?_)
            go_simp
            refine hK _ _ trivial ?_
            clear hK K
            (refine seq_take (v := ?_) rfl (by rfl) ?_ ?_; rotate_left; (focus (intro wS hS; go_simp; exact rfl)); simp only [Act.put, List.setIfInBounds_toArray, List.set_cons_zero, List.set_cons_succ])
            refine seq_nil ?_
            go_wp2
            go_meet
            exact ⟨_, _, _, _, rfl, hide (hP.fin _)⟩
          · first | refine seq3_run rfl (by rfl) (fun K hK => ?_) | refine seq_run rfl (by rfl) (fun K hK => ?_)
            go_simp
            refine hK _ _ trivial ?_
            clear hK K
            obtain ⟨wc, hwc, hP⟩ := hP.a'
            rw [← hwc]
            clear hwc
            refine seq3_base ?_
            first | refine seq3_run rfl (by rfl) (fun K hK => ?_) | refine seq_run rfl (by rfl) (fun K hK => ?_)
            go_simp
            refine (memOf_any _ _ _ (hP.hW rfl) (by have := HSZ'.out; simp; omega)).mono ?_
            rintro e wc ⟨uu, rfl, hr, hb⟩
            replace hP := hP.o hr hb
            refine hK _ _ trivial ?_
            clear hK K hr hb
            refine seq_build3 (p0 := .tmp 51) (p1 := .tmp 53) (p2 := .tmp 55) (built_world _ _ _ _ _ _ _) rfl rfl (by rfl) rfl rfl rfl ?_
            simp only [Act.put, List.setIfInBounds_toArray, List.set_cons_zero, List.set_cons_succ]
            first | refine seq3_run rfl (by rfl) (fun K hK => ?_) | refine seq_run rfl (by rfl) (fun K hK => ?_)
            go_simp
            refine hK _ _ trivial ?_
            clear hK K
            (refine seq_take (v := ?_) rfl (by rfl) ?_ ?_; rotate_left; (focus (intro wS hS; go_simp; exact rfl)); simp only [Act.put, List.setIfInBounds_toArray, List.set_cons_zero, List.set_cons_succ])
            refine seq_nil ?_
            go_wp2
            go_meet
            exact ⟨_, _, _, _, rfl, hide (hP.fin _)⟩
      · first | refine seq3_run rfl (by rfl) (fun K hK => ?_) | refine seq_run rfl (by rfl) (fun K hK => ?_)
        go_simp
        refine hK _ _ trivial ?_
        clear hK K
        obtain ⟨wc, hwc, hP⟩ := hP.a'
        rw [← hwc]
        clear hwc
        refine seq3_fork ?_ ?_
        · first | refine seq3_run rfl (by rfl) (fun K hK => ?_) | refine seq_run rfl (by rfl) (fun K hK => ?_)
          go_simp
          refine (NW _ hP.kp).mono ?_
          rintro e wc ⟨rfl, hwc⟩
          replace hP := hP.wd HSZ'.out hwc
          refine hK _ _ trivial ?_
          clear hK K hwc
          refine seq3_fork ?_ ?_
          · first | refine seq3_run rfl (by rfl) (fun K hK => ?_) | refine seq_run rfl (by rfl) (fun K hK => ?_)
            go_simp
            refine (memOf_any _ _ _ (hP.hW rfl) (by have := HSZ'.out; simp; omega)).mono ?_
            rintro e wc ⟨uu, rfl, hr, hb⟩
            replace hP := hP.o hr hb
            refine hK _ _ trivial ?_
            clear hK K hr hb
            refine seq3_base ?_
            first | refine seq3_run rfl (by rfl) (fun K hK => ?_) | refine seq_run rfl (by rfl) (fun K hK => ?_)
            go_simp
            refine hK _ _ trivial ?_
            clear hK K
            obtain ⟨wc, hwc, hP⟩ := hP.b' size
            rw [← hwc]
            clear hwc
            refine seq_build3 (p0 := .tmp 51) (p1 := .tmp 53) (p2 := .tmp 55) (built_world _ _ _ _ _ _ _) rfl rfl (by rfl) rfl rfl rfl ?_
            simp only [Act.put, List.setIfInBounds_toArray, List.set_cons_zero, List.set_cons_succ]
            first | refine seq3_run rfl (by rfl) (fun K hK => ?_) | refine seq_run rfl (by rfl) (fun K hK => ?_)
            go_simp
            refine hK _ _ trivial ?_
            clear hK K
            (refine seq_take (v := ?_) rfl (by rfl) ?_ ?_; rotate_left; (focus (intro wS hS; go_simp; exact rfl)); simp only [Act.put, List.setIfInBounds_toArray, List.set_cons_zero, List.set_cons_succ])
            refine seq_nil ?_
            go_wp2
            go_meet
            exact ⟨_, _, _, _, rfl, hide (hP.fin _)⟩
          · first | refine seq3_run rfl (by rfl) (fun K hK => ?_) | refine seq_run rfl (by rfl) (fun K hK => ?_)
            go_simp
            refine hK _ _ trivial ?_
            clear hK K
            obtain ⟨wc, hwc, hP⟩ := hP.b' size
            rw [← hwc]
            clear hwc
            refine seq3_base ?_
            first | refine seq3_run rfl (by rfl) (fun K hK => ?_) | refine seq_run rfl (by rfl) (fun K hK => ?_)
            go_simp
            refine (memOf_any _ _ _ (hP.hW rfl) (by have := HSZ'.out; simp; omega)).mono ?_
            rintro e wc ⟨uu, rfl, hr, hb⟩
            replace hP := hP.o hr hb
            refine hK _ _ trivial ?_
            clear hK K hr hb
            refine seq_build3 (p0 := .tmp 51) (p1 := .tmp 53) (p2 := .tmp 55) (built_world _ _ _ _ _ _ _) rfl rfl (by rfl) rfl rfl rfl ?_
            simp only [Act.put, List.setIfInBounds_toArray, List.set_cons_zero, List.set_cons_succ]
            first | refine seq3_run rfl (by rfl) (fun K hK => ?_) | refine seq_run rfl (by rfl) (fun K hK => ?_)
            go_simp
            refine hK _ _ trivial ?_
            clear hK K
            (refine seq_take (v := ?_) rfl (by rfl) ?_ ?_; rotate_left; (focus (intro wS hS; go_simp; exact rfl)); simp only [Act.put, List.setIfInBounds_toArray, List.set_cons_zero, List.set_cons_succ])
            refine seq_nil ?_
            go_wp2
            go_meet
            exact ⟨_, _, _, _, rfl, hide (hP.fin _)⟩
        · first | refine seq3_run rfl (by rfl) (fun K hK => ?_) | refine seq_run rfl (by rfl) (fun K hK => ?_)
          go_simp
          refine hK _ _ trivial ?_
          clear hK K
          obtain ⟨wc, hwc, hP⟩ := hP.b' size
          rw [← hwc]
          clear hwc
          refine seq3_base ?_
          first | refine seq3_run rfl (by rfl) (fun K hK => ?_) | refine seq_run rfl (by rfl) (fun K hK => ?_)
          go_simp
          refine (NW _ hP.kp).mono ?_
          rintro e wc ⟨rfl, hwc⟩
          replace hP := hP.wd HSZ'.out hwc
          refine hK _ _ trivial ?_
          clear hK K hwc
          first | refine seq3_run rfl (by rfl) (fun K hK => ?_) | refine seq_run rfl (by rfl) (fun K hK => ?_)
          go_simp
          refine (memOf_any _ _ _ (hP.hW rfl) (by have := HSZ'.out; simp; omega)).mono ?_
          rintro e wc ⟨uu, rfl, hr, hb⟩
          replace hP := hP.o hr hb
          refine hK _ _ trivial ?_
          clear hK K hr hb
          refine seq_build3 (p0 := .tmp 51) (p1 := .tmp 53) (p2 := .tmp 55) (built_world _ _ _ _ _ _ _) rfl rfl (by rfl) rfl rfl rfl ?_
          simp only [Act.put, List.setIfInBounds_toArray, List.set_cons_zero, List.set_cons_succ]
          first | refine seq3_run rfl (by rfl) (fun K hK => ?_) | refine seq_run rfl (by rfl) (fun K hK => ?_)
          go_simp
          refine hK _ _ trivial ?_
          clear hK K
          (refine seq_take (v := ?_) rfl (by rfl) ?_ ?_; rotate_left; (focus (intro wS hS; go_simp; exact rfl)); simp only [Act.put, List.setIfInBounds_toArray, List.set_cons_zero, List.set_cons_succ])
          refine seq_nil ?_
          go_wp2
          go_meet
          exact ⟨_, _, _, _, rfl, hide (hP.fin _)⟩
      · first | refine seq3_run rfl (by rfl) (fun K hK => ?_) | refine seq_run rfl (by rfl) (fun K hK => ?_)
        go_simp
        refine hK _ _ trivial ?_
        clear hK K
        obtain ⟨wc, hwc, hP⟩ := hP.b' size
        rw [← hwc]
        clear hwc
        refine seq3_fork ?_ ?_
        · first | refine seq3_run rfl (by rfl) (fun K hK => ?_) | refine seq_run rfl (by rfl) (fun K hK => ?_)
          go_simp
          refine (NW _ hP.kp).mono ?_
          rintro e wc ⟨rfl, hwc⟩
          replace hP := hP.wd HSZ'.out hwc
          refine hK _ _ trivial ?_
          clear hK K hwc
          refine seq3_fork ?_ ?_
          · first | refine seq3_run rfl (by rfl) (fun K hK => ?_) | refine seq_run rfl (by rfl) (fun K hK => ?_)
            go_simp
            refine (memOf_any _ _ _ (hP.hW rfl) (by have := HSZ'.out; simp; omega)).mono ?_
            rintro e wc ⟨uu, rfl, hr, hb⟩
            replace hP := hP.o hr hb
            refine hK _ _ trivial ?_
            clear hK K hr hb
            refine seq3_base ?_
            first | refine seq3_run rfl (by rfl) (fun K hK => ?_) | refine seq_run rfl (by rfl) (fun K hK => ?_)
            go_simp
            refine hK _ _ trivial ?_
            clear hK K
            obtain ⟨wc, hwc, hP⟩ := hP.a'
            rw [← hwc]
            clear hwc
            refine seq_build3 (p0 := .tmp 51) (p1 := .tmp 53) (p2 := .tmp 55) (built_world _ _ _ _ _ _ _) rfl rfl (by rfl) rfl rfl rfl ?_
            simp only [Act.put, List.setIfInBounds_toArray, List.set_cons_zero, List.set_cons_succ]
            first | refine seq3_run rfl (by rfl) (fun K hK => ?_) | refine seq_run rfl (by rfl) (fun K hK => ?_)
            go_simp
            refine hK _ _ trivial ?_
            clear hK K
            (refine seq_take (v := ?_) rfl (by rfl) ?_ ?_; rotate_left; (focus (intro wS hS; go_simp; exact rfl)); simp only [Act.put, List.setIfInBounds_toArray, List.set_cons_zero, List.set_cons_succ])
            refine seq_nil ?_
            go_wp2
            go_meet
            exact ⟨_, _, _, _, rfl, hide (hP.fin _)⟩
          · first | refine seq3_run rfl (by rfl) (fun K hK => ?_) | refine seq_run rfl (by rfl) (fun K hK => ?_)
            go_simp
            refine hK _ _ trivial ?_
            clear hK K
            obtain ⟨wc, hwc, hP⟩ := hP.a'
            rw [← hwc]
            clear hwc
            refine seq3_base ?_
            first | refine seq3_run rfl (by rfl) (fun K hK => ?_) | refine seq_run rfl (by rfl) (fun K hK => ?_)
            go_simp
            refine (memOf_any _ _ _ (hP.hW rfl) (by have := HSZ'.out; simp; omega)).mono ?_
            rintro e wc ⟨uu, rfl, hr, hb⟩
            replace hP := hP.o hr hb
            refine hK _ _ trivial ?_
            clear hK K hr hb
            refine seq_build3 (p0 := .tmp 51) (p1 := .tmp 53) (p2 := .tmp 55) (built_world _ _ _ _ _ _ _) rfl rfl (by rfl) rfl rfl rfl ?_
            simp only [Act.put, List.setIfInBounds_toArray, List.set_cons_zero, List.set_cons_succ]
            first | refine seq3_run rfl (by rfl) (fun K hK => ?_) | refine seq_run rfl (by rfl) (fun K hK => ?_)
            go_simp
            refine hK _ _ trivial ?_
            clear hK K
            (refine seq_take (v := ?_) rfl (by rfl) ?_ ?_; rotate_left; (focus (intro wS hS; go_simp; exact rfl)); simp only [Act.put, List.setIfInBounds_toArray, List.set_cons_zero, List.set_cons_succ])
            refine seq_nil ?_
            go_wp2
            go_meet
            exact ⟨_, _, _, _, rfl, hide (hP.fin _)⟩
        · first | refine seq3_run rfl (by rfl) (fun K hK => ?_) | refine seq_run rfl (by rfl) (fun K hK => ?_)
          go_simp
          refine hK _ _ trivial ?_
          clear hK K
          obtain ⟨wc, hwc, hP⟩ := hP.a'
          rw [← hwc]
          clear hwc
          refine seq3_base ?_
          first | refine seq3_run rfl (by rfl) (fun K hK => ?_) | refine seq_run rfl (by rfl) (fun K hK => ?_)
          go_simp
          refine (NW _ hP.kp).mono ?_
          rintro e wc ⟨rfl, hwc⟩
          replace hP := hP.wd HSZ'.out hwc
          refine hK _ _ trivial ?_
          clear hK K hwc
          first | refine seq3_run rfl (by rfl) (fun K hK => ?_) | refine seq_run rfl (by rfl) (fun K hK => ?_)
          go_simp
          refine (memOf_any _ _ _ (hP.hW rfl) (by have := HSZ'.out; simp; omega)).mono ?_
          rintro e wc ⟨uu, rfl, hr, hb⟩
          replace hP := hP.o hr hb
          refine hK _ _ trivial ?_
          clear hK K hr hb
          refine seq_build3 (p0 := .tmp 51) (p1 := .tmp 53) (p2 := .tmp 55) (built_world _ _ _ _ _ _ _) rfl rfl (by rfl) rfl rfl rfl ?_
          simp only [Act.put, List.setIfInBounds_toArray, List.set_cons_zero, List.set_cons_succ]
          first | refine seq3_run rfl (by rfl) (fun K hK => ?_) | refine seq_run rfl (by rfl) (fun K hK => ?_)
          go_simp
          refine hK _ _ trivial ?_
          clear hK K
          (refine seq_take (v := ?_) rfl (by rfl) ?_ ?_; rotate_left; (focus (intro wS hS; go_simp; exact rfl)); simp only [Act.put, List.setIfInBounds_toArray, List.set_cons_zero, List.set_cons_succ])
          refine seq_nil ?_
          go_wp2
          go_meet
          exact ⟨_, _, _, _, rfl, hide (hP.fin _)⟩
  case rest =>
    obtain ⟨wp, mb, u, f, rfl, hI⟩ := hcut
    obtain ⟨w7, rfl⟩ : ∃ X, X = wc := ⟨_, rfl⟩
    have hmkB : ∀ W, (Instr.makeSlice 96 (.int .i64 (m : Int)) (.int .i64 (m : Int))).run Tryz.prog W = .ok (.slice (some ⟨W.heap.size, 0, none⟩) m m) (W.alloc (.cells (madeCells #[.bool false] m) 4)) :=
      fun W => run_make_row' (P := Tryz.prog) 96 4 (.bool false) 1 Tryz.underlying96 info_boolR rfl .i64 .i64 m (by have := HL.out.1; have := HM.out; omega) (by have := HL.out.1; have := HM.out; omega) W
    have hmkH := make_hands nn (by have := HN.out; omega)
    go_upto_region 10 with fail
    obtain ⟨w8, hw8⟩ : ∃ w8, w8 = (w7.alloc (.cells (madeCells #[.bool false] m) 4)).alloc (.cells (madeCells handZ (nn * 16)) 102) := ⟨_, rfl⟩
    rw [← hw8]
    have hz8 : w8.heap.size = w7.heap.size + 2 := by rw [hw8]; simp
    have hr8 : w8.rowIs (w7.heap.size + 1) 102 (nn * 16) (fun i => handZ[i % 16]!) := by
      have := row_hands (w7.alloc (.cells (madeCells #[.bool false] m) 4)) nn
      rw [hw8]
      simpa using this
    have hI0 : IH w8 w8 nn 0 (w7.heap.size + 1) (fun i => handZ[i % 16]!) := ⟨hr8, fun t _ => by show handZ[t * 16 % 16]! = _; rw [Nat.mul_mod_left]; rfl, fun t ht => absurd ht (Nat.not_lt_zero t), rfl, Keep.refl _ _⟩
    have HW8 := hide hw8
    have HZ8 := hide hz8
    have HI0 := hide hI0
    have hmk1 : ∀ W, (Instr.makeSlice 98 (.int .i64 1) (.int .i64 1)).run Tryz.prog W = .ok (.slice (some ⟨W.heap.size, 0, none⟩) 1 1) (W.alloc (.cells (madeCells #[.slice none 0 0] 1) 28)) :=
      fun W => run_make_row' (P := Tryz.prog) 98 28 (.slice none 0 0) 24 Tryz.underlying98 info_lists rfl .i64 .i64 1 (by decide) (by decide) W
    clear hw8 hz8 hr8 hI0 hmkB hmkH
    obtain ⟨hb, hhb⟩ : ∃ hb, hb = w7.heap.size + 1 := ⟨_, rfl⟩
    rw [← hhb] at HI0 ⊢
    obtain ⟨fb, hfb⟩ : ∃ fb, fb = w7.heap.size := ⟨_, rfl⟩
    rw [← hfb]
    have HHB := hide hhb
    have HFB := hide hfb
    clear hhb hfb
    go_wp2_with fail
    go_loopw [65] (fun v wr => ∃ (k : Nat) (g : Nat → Value), k ≤ nn ∧ v = .int .i64 (k : Int) ∧ Hid (IH w8 wr nn k hb g)) (fun v _ => nn - (intOf v).toNat)
    case atStart => exact ⟨0, _, Nat.zero_le _, rfl, HI0⟩
    case round =>
      obtain ⟨k, g, hkn, rfl, hIH⟩ := hrel
      have hn16 := HN.out
      by_cases hlt : k < nn
      · have c15 := hIH.out.row.cell (i := k * 16 + 15) (by omega)
        have f15 := hIH.out.row.frozen (k * 16 + 15)
        have hzb := hIH.out.row.lt
        have hlt' : (k : Int) < (nn : Int) := by omega
        have HX := hide (hIH.out.next hlt (by have := HZ8.out; have := HHB.out; omega))
        clear hIH
        go_wp2
        go_roundw
        case rel => exact ⟨k + 1, _, by omega, by go_num, HX⟩
        case measure => first | (simp [intOf]; done) | (simp [intOf]; omega)
      · obtain rfl : nn = k := by omega
        go_upto_region 16 with fail
        obtain ⟨ep, hep⟩ : ∃ ep, ep = wr.heap.size := ⟨_, rfl⟩
        obtain ⟨w9, hw9⟩ : ∃ w9, w9 = wr.alloc (.cells #[.slice none 0 0, .slice none 0 0, .int .i64 0, .int .i64 0, .int .i64 0, .int .i64 0, .int .i64 0, .int .i64 0, .int .i64 0] 32) := ⟨_, rfl⟩
        rw [← hw9, ← hep]
        obtain ⟨Fx, e5, e1, e3, e0, e4, hinj, hL0⟩ : ∃ Fx : Nat → Nat, bb = Fx 5 ∧ wp = Fx 1 ∧ fb = Fx 3 ∧ hb = Fx 0 ∧ ep = Fx 4 ∧ Inj Fx nn ∧ Hid (LgI w Fx nn m cb cs (Rs.new (List.replicate size 0) cs.length) 0 w9) := by
          obtain ⟨q1, q2⟩ := LgAt.new (cs := cs) HN.out.1 HSZ.out HM.out HB4.out HRES.out HBB.out HBS.out hI.out HW8.out (by have := hIH.out; rw [HHB.out] at this; exact this)
          refine ⟨_, rfl, rfl, HFB.out, HHB.out, ?_, q2, hide ⟨RInv.new (fun c hc => ⟨HCU.out c hc, (HTH.out c hc).1, by have := (HTH.out c hc).2; have := HN.out; omega⟩) 1 (fun x hx => by rw [(List.mem_replicate.1 hx).2]; exact wd0), _, _, _, _, _, by rw [hw9]; exact q1⟩⟩
          rw [hep, hIH.out.sz, HZ8.out]
          rfl
        subst e5 e1 e3 e0 e4
        clear hIH hI HW8 HZ8 HI0 HHB HFB HBB HBS HB4 hmk1 hw9 hep
        obtain ⟨R0, hR0⟩ : ∃ R0, Rs.new (List.replicate size 0) cs.length = R0 := ⟨_, rfl⟩
        have HF := HFR.out
        rw [hR0] at hL0 HF
        have HFR := hide HF
        clear HF hR0
        go_wp2_with fail
        go_loopw [78] (fun v wr => ∃ k : Nat, k ≤ np ∧ v = .int .i64 (k : Int) ∧ Hid (LgI w Fx nn m cb cs (R0.play D 1 cs (picks.take k)) k wr)) (fun v _ => np - (intOf v).toNat)
        case atStart => exact ⟨0, Nat.zero_le _, rfl, hL0⟩
        case round =>
          obtain ⟨k, hkn, rfl, hIk⟩ := hrel
          by_cases hlt : k < np
          · obtain ⟨p, hpk⟩ : ∃ p, picks[k]? = some p := ⟨_, List.getElem?_eq_getElem (by have := HPL.out; omega)⟩
            have hR1 : R0.play D 1 cs (picks.take (k + 1)) = (R0.play D 1 cs (picks.take k)).pick D 1 cs p := rplay_succ hpk
            obtain ⟨R, hR⟩ : ∃ R, R0.play D 1 cs (picks.take k) = R := ⟨_, rfl⟩
            rw [hR] at hIk hR1
            obtain ⟨hV, M, g, f, X, ev, hL⟩ := hIk.out
            have hcw : SlCl wr (.slice A m c) cs := HC.out.below hL.kp (Nat.le_refl _)
            have hpw : SlI w (.slice Ap np cp) picks := HP.out
            have hfw := hL.finB (m := m) (hV.fin.trans HM.out) (by have := HL.out.1; have := HM.out; unfold maxLen; omega)
            have N := refNow05 A (some ⟨Fx 3, 0, none⟩) m c m cs R.fin p wr hcw HM.out hfw (hV.fin.trans HM.out)
            obtain ⟨_, _, e1, _, _, h31⟩ := hpw
            injection e1 with e1a e1b e1c
            subst e1a
            obtain ⟨pb, po, rfl, hpz, hpc⟩ := h31 k p hpk
            have x0 := nt_cell hpc
            rw [Nat.mul_one] at x0
            have HX0 := hide x0
            replace x0 := (hL.kp.cell (p := ⟨pb, po + k, none⟩) hpz).trans x0
            have hlt' : (k : Int) < (np : Int) := by omega
            obtain ⟨l0, l8, l4, l6, l1, lz⟩ := hL.cells
            have hcap := HL.out.2
            have HR1 := hide hR1
            have HV := hide hV
            have HLg := hide hL
            have HPK := hide hpk
            have HPZ := hide hpz
            have HCW := hide hcw
            clear hR1 hR hIk h31 hpc hfw e1b e1c hpk hpz hcw
            rcases hq : nowF cs R.fin p with _ | i
            · have hv : nowV cs R.fin p = -1 := by unfold nowV; rw [hq]
              rw [hv] at N
              have k1 : IntKind.i64.wrap (R.idle + 1) = R.idle + 1 := wrap_i64 (by have := HV.out.idle; omega) (by have := HV.out.idle; omega)
              have z4 := lz 4 (by omega)
              have l4' := l4 8
              have hpick : R.pick D 1 cs p = { R with idle := R.idle + 1 } := by unfold Rs.pick; rw [hq]
              have HX : Hid (LgI w Fx nn m cb cs (R0.play D 1 cs (picks.take (k + 1))) (k + 1) (wr.setCell ⟨Fx 4, 8, none⟩ (.int .i64 (R.idle + 1)))) := hide (by
                rw [HR1.out]
                refine ⟨HV.out.pick hP hS, M, g, f, X, ev, ?_⟩
                rw [hpick]
                exact HLg.out.nextIdle hinj HN.out.1 _)
              clear hq hv hpick hV hL l4
              as_aux_lemma =>
                go_wp2_with fail
                refine N.mono ?_
                rintro e w1 ⟨rfl, rfl⟩
                go_wp2
                go_roundw
                case rel => exact ⟨k + 1, by omega, by go_num, HX⟩
                case measure => first | (simp [intOf]; done) | (simp [intOf]; omega)
            · obtain ⟨hil, hthr, _⟩ := nowF_some hq
              obtain ⟨cl, hcl⟩ : ∃ cl, cs[i]? = some cl := ⟨_, List.getElem?_eq_getElem hil⟩
              have hct : cl.thread = p := by rw [hcl] at hthr; simpa using hthr
              have hth := HTH.out cl (List.mem_of_getElem? hcl)
              have HCLB : Hid (ClB cl) := hide (HCU.out cl (List.mem_of_getElem? hcl))
              obtain ⟨t, rfl⟩ : ∃ t : Nat, p = t := ⟨p.toNat, by omega⟩
              have ht : t < nn := by omega
              have hco : callOf cs i = cl := by unfold callOf; rw [hcl]; rfl
              have hv : nowV cs R.fin t = i := by unfold nowV; rw [hq]
              rw [hv] at N
              obtain ⟨RB, hRB⟩ : ∃ RB, (if (R.hands t).opn then R.tick else R.tick.begin t i) = RB := ⟨_, rfl⟩
              have hpick : R.pick D 1 cs t = RB.step D 1 t i (callOf cs i) := by
                unfold Rs.pick
                rw [hq]
                dsimp only
                rw [Int.toNat_natCast, hRB]
              have hmid : RMid cs 1 RB k t i ∧ (RB.hands t).opn = true := by
                rw [← hRB]
                by_cases ho : (R.hands t).opn = true
                · rw [if_pos ho]
                  exact ⟨HV.out.mid (by omega) ho, ho⟩
                · rw [if_neg ho]
                  exact ⟨HV.out.begin (by omega) hil, by show (upd R.hands t _ t).opn = true; rw [upd_same]⟩
              obtain ⟨_, _, e2, e2n, _, h32⟩ := HC.out
              injection e2 with e2a e2b e2c
              subst e2a
              obtain ⟨ab, ao, rfl, haz, hac⟩ := h32 i cl hcl
              obtain ⟨y0, y1, y2, y3, y4, y5⟩ := cl_cells hac
              replace y0 := (HLg.out.kp.cell (p := ⟨ab, ao + i * 6, none⟩) haz).trans y0
              replace y1 := (HLg.out.kp.cell (p := ⟨ab, ao + i * 6 + 1, none⟩) haz).trans y1
              replace y2 := (HLg.out.kp.cell (p := ⟨ab, ao + i * 6 + 2, none⟩) haz).trans y2
              replace y3 := (HLg.out.kp.cell (p := ⟨ab, ao + i * 6 + 3, none⟩) haz).trans y3
              replace y4 := (HLg.out.kp.cell (p := ⟨ab, ao + i * 6 + 4, none⟩) haz).trans y4
              replace y5 := (HLg.out.kp.cell (p := ⟨ab, ao + i * 6 + 5, none⟩) haz).trans y5
              have hi' : (i : Int) < (m : Int) := by have := HM.out; omega
              have hi0 : ¬ ((i : Int) < 0) := by omega
              have ht' : (t : Int) < (nn : Int) := by omega
              have n01 : Fx 0 ≠ Fx 1 := fun e => by have := hinj 0 1 (by omega) (by omega) e; omega
              have n14 : Fx 1 ≠ Fx 4 := fun e => by have := hinj 1 4 (by omega) (by omega) e; omega
              have o0 : wr.cell? ⟨Fx 0, t * 16, none⟩ = some (.bool (R.hands t).opn) := by rw [HLg.out.hs.row.cell (by omega), HLg.out.hs.op t ht]
              have k1 : IntKind.i64.wrap (R.w.now + 1) = R.w.now + 1 := wrap_i64 (by have := HV.out.now; omega) (by have := HV.out.now; omega)
              have z0 := lz 0 (by omega)
              have z1 := lz 1 (by omega)
              have z4 := lz 4 (by omega)
              have l16 := l1 6
              have hW0n : ∀ q, q < w.heap.size → ∀ i, i < 6 + nn → q ≠ Fx i := fun q hq i hi e => by have := HLg.out.lo.1 i hi; omega
              have npb := hW0n pb HPZ.out 1 (by omega)
              have nab := hW0n ab haz 1 (by omega)
              have zab : ab < wr.heap.size := Nat.lt_of_lt_of_le haz HLg.out.kp.size
              have zpb : pb < wr.heap.size := Nat.lt_of_lt_of_le HPZ.out HLg.out.kp.size
              have HAZ := hide haz
              have HWN := hide hW0n
              clear hW0n
              obtain ⟨f1, hT1⟩ := HLg.out.ticked hinj HN.out.1
              have HL1 := hide (hT1.grow HN.out.1 ((Below.refl _ _).alloc (Nat.le_refl _) (.cells #[.int .i64 cl.thread, .int .i64 cl.obj, .int .i64 cl.kind, .int .u64 cl.a, .int .u64 cl.b, .int .u64 cl.c] 48)))
              have HM1 := hide (show ¬ M wr.heap.size from fun e => by have := HLg.out.hs.lt _ e; omega)
              have HO1 : Hid (((wr.setCell ⟨Fx 1, 6, none⟩ (.int .i64 (R.w.now + 1))).alloc (.cells #[.int .i64 cl.thread, .int .i64 cl.obj, .int .i64 cl.kind, .int .u64 cl.a, .int .u64 cl.b, .int .u64 cl.c] 48)).heap[wr.heap.size]? = some (.cells #[.int .i64 cl.thread, .int .i64 cl.obj, .int .i64 cl.kind, .int .u64 cl.a, .int .u64 cl.b, .int .u64 cl.c] 48 (0, 0))) := hide (by
                have := heap_alloc_new (wr.setCell ⟨Fx 1, 6, none⟩ (.int .i64 (R.w.now + 1))) (.cells #[.int .i64 cl.thread, .int .i64 cl.obj, .int .i64 cl.kind, .int .u64 cl.a, .int .u64 cl.b, .int .u64 cl.c] 48)
                simpa using this)
              have HRB := hide hRB
              have HPI := hide hpick
              have HMI := hide hmid
              have HCL := hide hcl
              have HT := hide ht
              have HCO := hide hco
              clear hq hv hRB hpick hmid hT1 hV hL h32 hac hcl hct hthr hth hco e2b e2c e2n hil ht l1 haz
              go_wp2_with fail
              refine N.mono ?_
              rintro e w1 ⟨rfl, hw1⟩
              obtain rfl : wr = w1 := hw1.symm
              go_upto_if 116 with fail
              go_cut [] (fun wx => Hid (LgJ w Fx nn m cb wr.heap.size (.cells #[.int .i64 cl.thread, .int .i64 cl.obj, .int .i64 cl.kind, .int .u64 cl.a, .int .u64 cl.b, .int .u64 cl.c] 48 (0, 0)) RB wx))
              case first =>
                obtain ⟨W1, hW1⟩ : ∃ W1, W1 = (wr.setCell ⟨Fx 1, 6, none⟩ (.int .i64 (R.w.now + 1))).alloc (.cells #[.int .i64 cl.thread, .int .i64 cl.obj, .int .i64 cl.kind, .int .u64 cl.a, .int .u64 cl.b, .int .u64 cl.c] 48) := ⟨_, rfl⟩
                rw [← hW1] at HL1 HO1 ⊢
                have HZW := hide (show wr.heap.size < W1.heap.size from obj_lt HO1.out)
                clear hW1 o0 x0 y0 y1 y2 y3 y4 y5 l0 l8 l4 l6 l16 z0 z1 z4 zab zpb N
                by_cases ho : (R.hands t).opn = true
                · rw [ho]
                  go_wp2
                  go_meet
                  have hB := HRB.out
                  rw [if_pos ho] at hB
                  have hL := HL1.out
                  rw [hB] at hL
                  exact hide ⟨M, g, f1, X, ev, hL, HM1.out, HO1.out⟩
                · skip
                  as_aux_lemma =>
                    have hB := HRB.out
                    rw [if_neg ho] at hB
                    have HB := hide hB
                    rw [show (R.hands t).opn = false by simpa using ho]
                    clear hB ho
                    obtain ⟨RT, hRT⟩ : ∃ RT, R.tick = RT := ⟨_, rfl⟩
                    rw [hRT] at HL1 HB
                    have hL1 := HL1.out.grow HN.out.1 (Below.refl _ W1).drew
                    obtain ⟨xs, m1, m2⟩ := hL1.hs.mks
                    have NB := plainBegin (ev := (RT.evs.length : Int)) hL1.hs.row (show t * 16 + 16 ≤ nn * 16 by have := HT.out; omega) hL1.hs.mem.row hL1.hs.now hL1.hs.mrk HT.out ⟨_, by rw [Nat.zero_add, cell_of_row _ _ _ _ _ _ m1]; exact m2 t HT.out⟩ (frozen_of_row _ _ _ _ _ m1) ⟨n01, fun e => (by have := hinj 2 0 (by omega) (by omega) e; omega), fun e => (by have := hinj 2 1 (by omega) (by omega) e; omega)⟩
                    have hJ2 := hL1.begun hinj HM1.out HO1.out HN.out.1 HT.out RT.evs.length
                    obtain ⟨raw1, hrow1, hrl1, -⟩ := hL1.evs.row
                    obtain ⟨Ae, ce, rfl⟩ := own_slice hrow1
                    have c4 := hL1.cells.1
                    have xk := (hL1.kp.cell (p := ⟨pb, po + k, none⟩) HPZ.out).trans HX0.out
                    have c4' : W1.cell? ⟨Fx 4, 0, none⟩ = some (.slice Ae RT.evs.length ce) := c4
                    have xk' : W1.cell? ⟨pb, po + k, none⟩ = some (.int .i64 (t : Int)) := xk
                    have HJ2 := hide hJ2
                    clear hRT hL1 m1 m2 hrow1 hrl1 hJ2 c4 xk raw1 xs
                    go_wp2_with fail
                    refine wp_region_seq (fun Y => Y.cell? ⟨Fx 4, 0, none⟩ = some (.slice Ae RT.evs.length ce) ∧ Y.cell? ⟨pb, po + k, none⟩ = some (.int .i64 (t : Int))) (.take 0 <| .take 1 <| .take 2 <| .take 3 <| .take 4 <| .take 5 <| .take 6 <| .take 7 <| .take 8 <| .run 9 <| .done) (by kernel_rfl) (by kernel_rfl) (by kernel_rfl) (by refine ⟨?_, ?_⟩ <;> go_simp) ?_
                    iterate 9 (refine seq_take (v := ?_) rfl (by rfl) ?_ ?_; rotate_left; (focus (intro wS hS; obtain ⟨s0, s1⟩ := hS; go_simp; exact rfl)); simp only [Act.put, List.setIfInBounds_toArray, List.set_cons_zero, List.set_cons_succ])
                    (refine seq_run rfl (by rfl) (fun K hK => ?_); go_simp)
                    refine NB.mono ?_
                    rintro e wB ⟨rfl, hwB⟩
                    have c4B : wB.cell? ⟨Fx 4, 0, none⟩ = some (.slice Ae RT.evs.length ce) := by
                      rw [hwB]
                      exact ((beginW_keep _ _ _ _ _ _ _ _ _).cell (p := ⟨Fx 4, 0, none⟩) ⟨fun e => (by have := hinj 4 0 (by omega) (by omega) e; omega), fun e => (by have := hinj 4 2 (by omega) (by omega) e; omega)⟩).trans c4'
                    rw [← hwB] at HJ2
                    clear NB hwB c4' xk' HL1 HO1 HM1 HZW
                    obtain ⟨M2, g2, f2, X2, ev2, hL2, hM2, hO2⟩ := HJ2.out
                    obtain ⟨s0, s8, s4, s6, s1, sz⟩ := hL2.cells
                    have xk := (hL2.kp.cell (p := ⟨pb, po + k, none⟩) HPZ.out).trans HX0.out
                    obtain ⟨raw, hrow, hrl, hre⟩ := hL2.evs.row
                    obtain ⟨Ae2, ce2, rfl⟩ := own_slice hrow
                    refine hK _ _ ⟨c4B, xk⟩ ?_
                    clear hK K c4B
                    refine seq_nil ?_
                    obtain ⟨R2, hR2⟩ : ∃ R2 : Rs, ({ RT with w := { RT.w with marks := upd RT.w.marks t [] }, hands := upd RT.hands t { RT.hands t with opn := true, event := RT.evs.length, tape := Tp.new RT.w.now } } : Rs) = R2 := ⟨_, rfl⟩
                    have hB : { R2 with evs := R2.evs ++ [⟨i, R2.w.now, 0, 0, ⟨0, 0, []⟩, []⟩] } = RB := by rw [← hR2]; exact HB.out
                    rw [hR2] at hL2 s0 s8 s6 hrow hrl hre
                    have hl4 := s4 0
                    have hz4 := sz 4 (by omega)
                    have hz1 := sz 1 (by omega)
                    have hev : R2.evs.length ≤ 65537 := by
                      have h1 := HMI.out.1.evl
                      rw [← hB] at h1
                      simp at h1
                      omega
                    obtain ⟨i0, hi0, hi1, hi2, hi3⟩ := info_parts info_event
                    have HL2 := hide hL2
                    have HROW := hide hrow
                    have HRE := hide hre
                    have HRL := hide hrl
                    have HM2 := hide hM2
                    have HO2 := hide hO2
                    have HBB := hide hB
                    clear hL2 hrow hre hrl hM2 hO2 hB hR2 HJ2 HB s1 s4 s8 sz xk
                    have c41 : wB.cell? ⟨Fx 4, 0, none⟩ = some (.slice Ae2 R2.evs.length ce2) := s0
                    have c16 : wB.cell? ⟨Fx 1, 6, none⟩ = some (.int .i64 R2.w.now) := s6
                    clear s0 s6
                    go_wp2_with fail
                    refine wp_region_seql (fun Y => Y.cell? ⟨Fx 4, 0, none⟩ = some (.slice Ae2 R2.evs.length ce2) ∧ Y.cell? ⟨Fx 1, 6, none⟩ = some (.int .i64 R2.w.now)) [11] (.take 0 <| .take 1 <| .take 2 <| .take 3 <| .take 4 <| .take 5 <| .take 6 <| .take 7 <| .run 8 <| .run 9 <| .take 10 <| .run 11 <| .done) (by kernel_rfl) (by kernel_rfl) (by kernel_rfl) (by refine ⟨?_, ?_⟩ <;> go_simp) ?_
                    iterate 7 (refine seql_take (v := ?_) rfl (by rfl) ?_ ?_; rotate_left; (focus (intro wS hS; obtain ⟨s0, s1⟩ := hS; go_simp; exact rfl)); simp only [Act.put, List.setIfInBounds_toArray, List.set_cons_zero, List.set_cons_succ])
                    refine seql_build2 (p0 := .tmp 129) (p1 := .tmp 133) (built_event _ _) rfl rfl (by rfl) rfl rfl ?_
                    simp only [Act.put, List.setIfInBounds_toArray, List.set_cons_zero, List.set_cons_succ]
                    refine seql_run rfl (by rfl) (fun K hK => ?_)
                    refine wp_buildEvent (i := (i : Int)) (now := R2.w.now) rfl (by rfl) ?_
                    simp only [Act.put, List.setIfInBounds_toArray, List.set_cons_zero, List.set_cons_succ]
                    refine hK _ _ (by refine ⟨?_, ?_⟩ <;> go_simp) ?_
                    clear hK K
                    refine seql_run rfl (by rfl) (fun K hK => ?_)
                    obtain ⟨wn, hwn⟩ : ∃ wn, wn = wB.drew.alloc (.cells #[.int .i64 (i : Int), .int .i64 R2.w.now, .int .i64 0, .int .i64 0, .int .i64 0, .int .u64 0, .slice none 0 0, .slice none 0 0] 52) := ⟨_, rfl⟩
                    rw [← hwn]
                    have hkn : Keep (fun j => j < wB.heap.size) wB wn := by rw [hwn]; exact ((Keep.refl _ wB).drew).alloc (fun j hj => hj) _
                    have hnb : wn.heap[wB.heap.size]? = some (.cells #[.int .i64 (i : Int), .int .i64 R2.w.now, .int .i64 0, .int .i64 0, .int .i64 0, .int .u64 0, .slice none 0 0, .slice none 0 0] 52 (0, 0)) := by rw [hwn]; exact heap_alloc_new wB.drew _
                    have hown2 := owns_keepV HROW.out hkn (fun j hj => (World.ownsRow.lt HROW.out j hj).2)
                    have hzn : wn.heap.size = wB.heap.size + 1 := by rw [hwn]; simp
                    have hW0z := HL2.out.kp.size
                    refine wp_append_own_at _ _ 27 rfl w.heap.size 52 i0 (.agg #[.int .i64 0, .int .i64 0, .int .i64 0, .int .i64 0, .int .i64 0, .int .u64 0, .slice none 0 0, .slice none 0 0]) 8 96 Tryz.underlying27 hi0 hi1 hi2 hi3 rfl (by decide) (.slice Ae2 R2.evs.length ce2) _ _ (by rfl) hown2 ⟨wB.heap.size, 0, none⟩ 1 1 [.int .i64 (i : Int), .int .i64 R2.w.now, .int .i64 0, .int .i64 0, .int .i64 0, .int .u64 0, .slice none 0 0, .slice none 0 0] (by rfl) rfl ?_ (by simp [Value.oneCell']) (by unfold maxLen; omega) (by omega) (by omega) ?_
                    · intro j u hu
                      rw [Addr.add_lit]
                      rw [Nat.zero_add, cell_of_row _ _ _ _ _ _ hnb]
                      simpa using hu
                    intro v0 w5 hown5 hgrow _ hloc
                    obtain ⟨Av, cv, rfl⟩ := own_slice hown5
                    have hk5 : Keep (fun j => j < wB.heap.size ∧ (Value.slice Ae2 R2.evs.length ce2).ownBlock ≠ some j) wB w5 := (hkn.mono fun j hj => hj.1).grown hgrow (fun j hj => by omega) (fun j hj hj' => hj'.2 hj)
                    have hJ5 := HL2.out.pushed hinj HM2.out HO2.out HN.out.1 hk5 raw HROW.out HRL.out HRE.out hown5 (fun j hj => by
                      rcases hloc with h1 | h1
                      · exact Or.inl (h1 ▸ hj)
                      · rw [h1] at hj
                        cases hj
                        exact Or.inr (by omega))
                    rw [HBB.out] at hJ5
                    have hevx : ∀ j, j < 6 + nn → Fx j < wB.heap.size ∧ (Value.slice Ae2 R2.evs.length ce2).ownBlock ≠ some (Fx j) := fun j hj => ⟨HL2.out.hs.lt _ (HL2.out.hs.fx j hj), fun e => (HL2.out.evM _ e).2.1 j hj rfl⟩
                    have d0 : w5.cell? ⟨Fx 4, 0, none⟩ = some (.slice Ae2 R2.evs.length ce2) := (hk5.cell (p := ⟨Fx 4, 0, none⟩) (hevx 4 (by omega))).trans c41
                    have d1 : w5.cell? ⟨Fx 1, 6, none⟩ = some (.int .i64 R2.w.now) := (hk5.cell (p := ⟨Fx 1, 6, none⟩) (hevx 1 (by omega))).trans c16
                    have d4 : w5.frozen? ⟨Fx 4, 0, none⟩ = false := (World.frozen?_of_block (w := wB) (hk5.block _ (hevx 4 (by omega)))).trans hl4
                    have HJ5 := hide hJ5
                    refine hK _ _ ⟨d0, d1⟩ ?_
                    clear hK K hJ5 hloc hgrow hown5 hk5 hevx hown2 hnb hkn hzn hwn hW0z c41 c16 hl4
                    iterate 1 (refine seql_take (v := ?_) rfl (by rfl) ?_ ?_; rotate_left; (focus (intro wS hS; obtain ⟨s0, s1⟩ := hS; go_simp; exact rfl)); simp only [Act.put, List.setIfInBounds_toArray, List.set_cons_zero, List.set_cons_succ])
                    refine seql_late rfl rfl (by rfl) (fun K hK => ?_)
                    go_simp
                    refine hK _ _ ?_
                    clear hK K
                    refine seql_nil ?_
                    go_wp2
                    go_meet
                    exact HJ5
              case rest =>
                obtain ⟨wC, rfl⟩ : ∃ X, X = wc := ⟨_, rfl⟩
                obtain ⟨M3, g3, f3, X3, ev3, hL3, hM3, hO3⟩ := hcut.out
                clear HL1 HO1 HM1 hcut x0 y0 y1 y2 y3 y4 y5 l0 l8 l4 l6 l16 z0 z1 z4 zab zpb N o0 npb nab n01 n14
                have hbd := HMI.out.1.bnd
                have hdo := hL3.hs.doAt hinj HT.out HMI.out.2 (by have := hbd.log; omega) (by have := hbd.got t; omega) (by have := hbd.tks t; omega)
                have hspW := HSP.out.below hL3.kp (Nat.le_refl _)
                have hspb : ∀ a : Addr, As = some a → a.block ≠ Fx 0 := fun a e he => by
                  have h1 := sl_block HSP.out e (by simp)
                  have h2 := hL3.lo.1 0 (by omega)
                  omega
                obtain ⟨o1, ov, o2, o3⟩ := hL3.hs.own t HT.out
                have h06 : Fx (6 + t) ≠ Fx 0 := fun e => by have := hinj (6 + t) 0 (by have := HT.out; omega) (by omega) e; omega
                have N3 := plainStep (p := t * 16) (nh := nn * 16) (no := 1) (ow := (RB.hands t).own) cl hD hdo (by have := HT.out; omega) (by have := HT.out; have := HN.out; omega) ⟨by have := hbd.got t; omega, by have := hbd.tks t; omega, by have := hbd.log; omega⟩ HCLB.out ⟨hbd.wd.got t, hbd.wd.own t, hbd.wd.mem⟩ o1 ⟨hL3.hs.lt _ (hL3.hs.fx (6 + t) (by have := HT.out; omega)), h06, by decide⟩
                  (fun q hq => by
                    obtain rfl : q = 0 := by omega
                    exact ⟨by have := hbd.own t 0; omega, ov, by rw [Nat.zero_add, cell_of_row _ _ _ _ _ _ o2]; rfl, o3⟩) hspW rfl hspb hL3.bas rfl (fun a e he => by cases e; have := hinj 5 0 (by omega) (by omega) he; omega)
                have hrun : runT D 1 t cl (RB.hands t).own (RB.hands t).tape RB.w = RB.run D 1 t cl := rfl
                rw [hrun] at N3
                have q0 := cell_of_row _ _ 0 _ _ _ hO3
                have q1 := cell_of_row _ _ 1 _ _ _ hO3
                have q2 := cell_of_row _ _ 2 _ _ _ hO3
                have q3 := cell_of_row _ _ 3 _ _ _ hO3
                have q4 := cell_of_row _ _ 4 _ _ _ hO3
                have q5 := cell_of_row _ _ 5 _ _ _ hO3
                simp at q0 q1 q2 q3 q4 q5
                unfold clV at N3
                have HL3 := hide hL3
                have HM3 := hide hM3
                have HO3 := hide hO3
                clear hbd hdo hspW hspb o1 o2 o3 hrun hL3 hM3 hO3
                go_wp2_with fail
                refine N3.mono ?_
                rintro e w5 ⟨rfl, hDR⟩
                have hJ4 : LgJ w Fx nn m cb wr.heap.size (.cells #[.int .i64 cl.thread, .int .i64 cl.obj, .int .i64 cl.kind, .int .u64 cl.a, .int .u64 cl.b, .int .u64 cl.c] 48 (0, 0)) (RB.s4 D t cl) w5 := HL3.out.ran hinj HM3.out HO3.out HT.out HMI.out.2 hDR
                clear hDR N3 q0 q1 q2 q3 q4 q5 HL3 HM3 HO3
                obtain ⟨R4, hR4⟩ : ∃ R4, RB.s4 D t cl = R4 := ⟨_, rfl⟩
                rw [hR4] at hJ4
                obtain ⟨M4, g4, f4, X4, ev4, hL4, hM4, hO4⟩ := hJ4
                have e4 : R4.hands t = { RB.hands t with tape := (RB.run D 1 t cl).1 } := by rw [← hR4]; exact upd_same _ _ _
                have e4o : (R4.hands t).opn = true := by rw [e4]; exact HMI.out.2
                obtain ⟨hh, hhh⟩ : ∃ hh, (RB.hands t).event = hh := ⟨_, rfl⟩
                have e4h : (R4.hands t).event = hh := by rw [e4]; exact hhh
                obtain ⟨ep, hep, hepc, -⟩ := HMI.out.1.ev
                rw [hhh] at hep
                have e4e : R4.evs = RB.evs := by rw [← hR4]; rfl
                have hd4 := hL4.hs.hd t HT.out e4o
                obtain ⟨raw, hrow, hrl, hre⟩ := hL4.evs.row
                rw [e4e] at hrow hrl hre
                have hhl : hh < RB.evs.length := (List.getElem?_eq_some_iff.1 hep).1
                obtain ⟨ge, ce, rfl, hge, hgz⟩ := own_some' hrow (by omega)
                obtain ⟨x, hx⟩ : ∃ x, raw[hh]? = some x := ⟨_, List.getElem?_eq_getElem (by omega)⟩
                have hxe := hre hh x ep hx hep
                have hst := HMI.out.1.st hh ep hep
                have c4 := hL4.cells.1
                have c1 : w5.cell? ⟨Fx 0, t * 16 + 1, none⟩ = some (.int .i64 (hh : Int)) := by rw [hL4.hs.row.cell (by have := HT.out; omega), hd4.ev, e4h]
                have c7 := row_cells hrow hx hrl 3 _ rfl
                have f7 := hrow.frozenAt (hh * 8 + 3)
                have hh8 : (hh : Int) < (RB.evs.length : Int) := by omega
                have k1' : IntKind.i64.wrap (x.steps + 1) = x.steps + 1 := wrap_i64 (by have := hxe.steps; omega) (by have := hxe.steps; omega)
                have HR4 := hide hR4
                have HE4 := hide e4
                have HEO := hide e4o
                have HEH := hide e4h
                have HHH := hide hhh
                have HEP := hide hep
                have HEE := hide e4e
                have HL4 := hide hL4
                have HM4 := hide hM4
                have HO4 := hide hO4
                have HROW := hide hrow
                have HRL := hide hrl
                have HRE := hide hre
                have HXX := hide hx
                have HXE := hide hxe
                clear hR4 e4 e4o e4h hhh hep hepc e4e hL4 hM4 hO4 hrow hrl hre hx hxe hst hd4 hhl hge
                go_wp2_with fail
                refine wp_region_seql (fun Y => Y.cell? ⟨Fx 4, 0, none⟩ = some (.slice (some ⟨ge, 0, none⟩) RB.evs.length ce) ∧ Y.cell? ⟨Fx 0, t * 16 + 1, none⟩ = some (.int .i64 (hh : Int)) ∧ Y.cell? ⟨ge, hh * 8 + 3, none⟩ = some (.int .i64 x.steps)) [12] (.take 0 <| .take 1 <| .take 2 <| .take 3 <| .take 4 <| .take 5 <| .take 6 <| .take 7 <| .take 8 <| .take 9 <| .take 10 <| .take 11 <| .run 12 <| .done) (by kernel_rfl) (by kernel_rfl) (by kernel_rfl) (by refine ⟨?_, ?_, ?_⟩ <;> go_simp) ?_
                iterate 12 (refine seql_take (v := ?_) rfl (by rfl) ?_ ?_; rotate_left; (focus (intro wS hS; obtain ⟨s0, s1, s2⟩ := hS; go_simp; exact rfl)); simp only [Act.put, List.setIfInBounds_toArray, List.set_cons_zero, List.set_cons_succ])
                refine seql_late rfl rfl (by rfl) (fun K hK => ?_)
                go_simp
                refine hK _ _ ?_
                clear hK K
                refine seql_nil ?_
                have hJ6 := (HL4.out.evField HM4.out HO4.out HN.out.1 (e := ep) (x' := { x with steps := x.steps + 1 }) (e' := { ep with steps := ep.steps + 1 }) (by rw [HEE.out]) (by rw [HEE.out]; exact HROW.out) (by rw [HEE.out]; exact HRL.out) (by rw [HEE.out]; exact HRE.out) HXX.out (by rw [HEE.out]; exact HEP.out) (j := 3) (by decide) rfl (fun w' _ q => ⟨q.call, q.inv, q.resp, by show x.steps + 1 = ep.steps + 1; rw [q.steps], q.err, q.val, q.list, q.key⟩)).grow HN.out.1 (Below.refl _ _).drew
                obtain ⟨w6, hw6⟩ : ∃ w6, w6 = (w5.setCell ⟨ge, hh * 8 + 3, none⟩ (.int .i64 (x.steps + 1))).drew := ⟨_, rfl⟩
                rw [← hw6] at hJ6
                have hJ6 : LgJ w Fx nn m cb wr.heap.size (.cells #[.int .i64 cl.thread, .int .i64 cl.obj, .int .i64 cl.kind, .int .u64 cl.a, .int .u64 cl.b, .int .u64 cl.c] 48 (0, 0)) (R4.s6 hh { ep with steps := ep.steps + 1 }) w6 := hJ6
                rw [← hw6]
                have HEX : Hid (∀ e, ((R4.s6 hh e).hands t) = R4.hands t) := hide (fun _ => rfl)
                clear hw6 HL4 HM4 HO4 HROW HRL HRE HXX HXE c4 c1 c7 f7 hh8 k1' hgz
                obtain ⟨ep1, hep1⟩ : ∃ ep1 : Ep, ep1 = { ep with steps := ep.steps + 1 } := ⟨_, rfl⟩
                rw [← hep1] at hJ6
                obtain ⟨R6, hR6⟩ : ∃ R6, R4.s6 hh ep1 = R6 := ⟨_, rfl⟩
                rw [hR6] at hJ6
                have e6 : R6.hands t = { RB.hands t with tape := (RB.run D 1 t cl).1 } := by rw [← hR6]; exact HE4.out
                have e6o : (R6.hands t).opn = true := by rw [e6]; exact HMI.out.2
                have e6e : R6.evs = RB.evs.set hh ep1 := by rw [← hR6]; show R4.evs.set hh ep1 = _; rw [HEE.out]
                have hrunk := RMid.run hP HMI.out.1 cl
                have e6k : (R6.hands t).tape.key = [] := by rw [e6]; exact hrunk.2.2.1
                have e6w : R6.w = (RB.run D 1 t cl).2 := by rw [← hR6, ← HR4.out]; rfl
                obtain ⟨M6, g6, f6, X6, ev6, hL6, hM6, hO6⟩ := id hJ6
                have hd6 := hL6.hs.hd t HT.out e6o
                have cH : w6.cell? ⟨Fx 0, t * 16 + 9, none⟩ = some (.bool (RB.run D 1 t cl).1.halt) := by
                  rw [hL6.hs.row.cell (by have := HT.out; omega), show t * 16 + 9 = t * 16 + 2 + 7 from rfl, hd6.tp.halt, e6]
                have HL6 := hide hL6
                have HM6 := hide hM6
                have HO6 := hide hO6
                have HD6 := hide hd6
                have HR6 := hide hR6
                have HE6 := hide e6
                have HO6o := hide e6o
                have HE6e := hide e6e
                have HE6k := hide e6k
                have HE6w := hide e6w
                have HRK := hide hrunk
                have HEP1 := hide hep1
                clear hL6 hM6 hO6 hd6 hR6 e6 e6o e6e e6k e6w hrunk hJ6 hep1 HEX
                rcases hha : (RB.run D 1 t cl).1.halt with _ | _
                · rw [hha] at cH
                  as_aux_lemma =>
                    obtain ⟨raw6, hrow6, hrl6, hre6⟩ := HL6.out.evs.row
                    have hle6 : R6.evs.length = RB.evs.length := by rw [HE6e.out]; simp
                    have hhl : hh < RB.evs.length := (List.getElem?_eq_some_iff.1 HEP.out).1
                    obtain ⟨ge, ce, rfl, hge, hgz⟩ := own_some' hrow6 (by omega)
                    obtain ⟨x6, hx6⟩ : ∃ x, raw6[hh]? = some x := ⟨_, List.getElem?_eq_getElem (by omega)⟩
                    have hep6 : R6.evs[hh]? = some ep1 := by rw [HE6e.out, List.getElem?_set_self hhl]
                    have c4 := HL6.out.cells.1
                    have ht16 : t * 16 + 16 ≤ nn * 16 := by have := HT.out; omega
                    have c1 : w6.cell? ⟨Fx 0, t * 16 + 1, none⟩ = some (.int .i64 (hh : Int)) := by rw [HL6.out.hs.row.cell (by omega), HD6.out.ev, HE6.out]; exact congrArg (fun q : Nat => some (Value.int .i64 (q : Int))) HHH.out
                    have v0 := row_cells hrow6 hx6 hrl6 0 _ rfl
                    have v1 := row_cells hrow6 hx6 hrl6 1 _ rfl
                    have v2 := row_cells hrow6 hx6 hrl6 2 _ rfl
                    have v3 := row_cells hrow6 hx6 hrl6 3 _ rfl
                    have v4 := row_cells hrow6 hx6 hrl6 4 _ rfl
                    have v5 := row_cells hrow6 hx6 hrl6 5 _ rfl
                    have v6 := row_cells hrow6 hx6 hrl6 6 _ rfl
                    have v7 := row_cells hrow6 hx6 hrl6 7 _ rfl
                    have v0 : w6.cell? ⟨ge, hh * 8, none⟩ = some (.int .i64 x6.call) := v0
                    obtain ⟨lA, lC, hlv, -, -⟩ := HD6.out.li
                    obtain ⟨kA, kC, hkv, hkn, -, -⟩ := HD6.out.ky
                    rw [HE6k.out] at hkn hkv
                    have hkA : kA = none := hkn.2 rfl
                    subst hkA
                    obtain ⟨xs, m1, m2⟩ := HL6.out.hs.mks
                    have hT := HD6.out.tp
                    have hrc := HL6.out.hs.row
                    have hDn : DnAt w6 (Fx 0) (Fx 1) (t * 16) t (Fx 2) 0 nn nn R6.w.now (R6.hands t).tape.err (R6.hands t).tape.val (X6 t).lv none none 0 kC 0 0 := by
                      refine ⟨by rw [hrc.cell (by omega), hT.w], by rw [hrc.cell (by omega), show t * 16 + 3 = t * 16 + 2 + 1 from rfl, hT.th], by rw [hrc.cell (by omega), show t * 16 + 11 = t * 16 + 2 + 9 from rfl, hT.err], by rw [hrc.cell (by omega), show t * 16 + 12 = t * 16 + 2 + 10 from rfl, hT.val], by rw [hrc.cell (by omega), show t * 16 + 13 = t * 16 + 2 + 11 from rfl, hT.list], by rw [hrc.cell (by omega), show t * 16 + 14 = t * 16 + 2 + 12 from rfl, hT.key, hkv]; rfl, HL6.out.cells.2.2.2.1, ?_, ?_, hrc.lt, HL6.out.hs.mem.row.lt, ?_⟩
                      · rw [HL6.out.hs.mem.row.cell (by omega), HL6.out.hs.mrk]
                      · rw [cell_of_row _ _ _ _ _ _ m1, Nat.zero_add]
                        exact m2 t HT.out
                      · exact (Array.getElem?_eq_some_iff.1 m1).1
                    have hnow : 0 ≤ R6.w.now ∧ R6.w.now ≤ 1048576 := by
                      rw [HE6w.out, HRK.out.2.1]
                      have := HMI.out.1.now
                      omega
                    have N6 := fun W (hW : Below w6.heap.size w6 W) => plainDone x6.call x6.inv x6.resp x6.steps x6.err x6.val (.slice x6.lA x6.lN x6.lC) (.slice x6.kA x6.kN x6.kC) (hDn.below hW) HT.out hnow ⟨lA, _, lC, hlv⟩ rfl rfl
                    have HN6 := hide N6
                    have HROW6 := hide hrow6
                    have HRL6 := hide hrl6
                    have HRE6 := hide hre6
                    have HX6 := hide hx6
                    have HP6 := hide hep6
                    have HGZ := hide hgz
                    have HLV := hide hlv
                    have HT16 := hide ht16
                    have HLE6 := hide hle6
                    have hhL : (hh : Int) < (R6.evs.length : Int) := by omega
                    clear N6 hrow6 hrl6 hre6 hx6 hep6 hlv hkv hkn m1 m2 hT hrc hDn hnow hle6 hhl hge ht16
                    go_wp2_with fail
                    refine wp_region_seql (fun Y => Y.cell? ⟨Fx 4, 0, none⟩ = some (.slice (some ⟨ge, 0, none⟩) R6.evs.length ce) ∧ Y.cell? ⟨Fx 0, t * 16 + 1, none⟩ = some (.int .i64 (hh : Int)) ∧ Y.cell? ⟨ge, hh * 8, none⟩ = some (.int .i64 x6.call) ∧ Y.cell? ⟨ge, hh * 8 + 1, none⟩ = some (.int .i64 x6.inv) ∧ Y.cell? ⟨ge, hh * 8 + 2, none⟩ = some (.int .i64 x6.resp) ∧ Y.cell? ⟨ge, hh * 8 + 3, none⟩ = some (.int .i64 x6.steps) ∧ Y.cell? ⟨ge, hh * 8 + 4, none⟩ = some (.int .i64 x6.err) ∧ Y.cell? ⟨ge, hh * 8 + 5, none⟩ = some (.int .u64 x6.val) ∧ Y.cell? ⟨ge, hh * 8 + 6, none⟩ = some (.slice x6.lA x6.lN x6.lC) ∧ Y.cell? ⟨ge, hh * 8 + 7, none⟩ = some (.slice x6.kA x6.kN x6.kC)) [17] (.take 0 <| .take 1 <| .take 2 <| .take 3 <| .take 4 <| .take 5 <| .take 6 <| .take 7 <| .take 8 <| .take 9 <| .take 10 <| .take 11 <| .take 12 <| .take 13 <| .take 14 <| .run 15 <| .take 16 <| .run 17 <| .done) (by kernel_rfl) (by kernel_rfl) (by kernel_rfl) (by refine ⟨?_, ?_, ?_, ?_, ?_, ?_, ?_, ?_, ?_, ?_⟩ <;> go_simp) ?_
                    iterate 15 (refine seql_take (v := ?_) rfl (by rfl) ?_ ?_; rotate_left; (focus (intro wS hS; obtain ⟨s0, s1, s2, s3, s4, s5, s6, s7, s8, s9⟩ := hS; go_simp; exact rfl)); simp only [Act.put, List.setIfInBounds_toArray, List.set_cons_zero, List.set_cons_succ])
                    refine seql_run rfl (by rfl) (fun K hK => ?_)
                    go_simp
                    refine (HN6.out w6.drew (Below.refl _ _).drew).mono ?_
                    rintro e w7 ⟨KV, rfl, hKV, hb7⟩
                    rcases hKV with ⟨h, _⟩ | ⟨_, h, _⟩ | ⟨_, _, gk, rfl, hgk, hgo⟩
                    · exact absurd rfl h
                    · exact absurd rfl h
                    have hgk : w6.heap.size ≤ gk := hgk
                    have hb7 : Below w6.heap.size w6 w7 := (Below.refl _ w6).drew.trans hb7
                    have hk7 := Keep.of_below (K := fun j => j < w6.heap.size) hb7 (fun j hj => hj)
                    have hrow7 := owns_keepV HROW6.out hk7 (fun j hj => by cases hj; exact HGZ.out)
                    have hre7 := fun i x e h1 h2 => (HRE6.out i x e h1 h2).keep hk7 (fun j j1 _ => j1) (fun _ _ h => h)
                    have hL7 := HL6.out.grow HN.out.1 hb7
                    have hO7 := (hb7.block _ (obj_lt HO6.out)).trans HO6.out
                    have hR46 : R6.hands = R4.hands ∧ R6.w = R4.w := by rw [← HR6.out]; exact ⟨rfl, rfl⟩
                    obtain ⟨ed, hed⟩ : ∃ ed : Ep, ed = { ep with steps := ep.steps + 1, resp := R6.w.now, ans := ⟨(R6.hands t).tape.err, (R6.hands t).tape.val, (R6.hands t).tape.list⟩, key := [2 * R6.w.now] } := ⟨_, rfl⟩
                    have hde : doneE R4 t ep = ed := by
                      unfold doneE
                      rw [← hR46.1, ← hR46.2, HE6k.out, HE6w.out, HRK.out.1, HMI.out.1.mrk t, hed, HE6w.out]
                      rfl
                    rw [HLV.out]
                    have hJ8 := hL7.evAll HM6.out hO7 HN.out.1 (x' := ⟨x6.call, x6.inv, R6.w.now, x6.steps, (R6.hands t).tape.err, (R6.hands t).tape.val, lA, (R6.hands t).tape.list.length, lC, some ⟨gk, 0, none⟩, 1, 1⟩) (e := ep1) (e' := ed) rfl hrow7 HRL6.out hre7 HX6.out HP6.out (fun w' hk q => by
                      rw [hed]
                      have hep1 := HEP1.out
                      refine ⟨by rw [q.call, hep1], by rw [q.inv, hep1], rfl, by rw [q.steps, hep1], rfl, rfl, ?_, ?_⟩
                      · have hli := HD6.out.li
                        rw [HLV.out] at hli
                        exact (hli.keep hk7 (fun j j1 _ => j1) (fun _ _ h => h)).keep hk (fun j j1 j2 => ⟨j1, fun e => j2 (HL6.out.evM j e).1⟩) (fun _ _ h => h)
                      · refine ⟨some ⟨gk, 0, none⟩, 1, rfl, by simp, Sl.of_block (enc := ntEnc .i64) (sz := 1) (xs := [2 * R6.w.now]) ((hk.block gk ⟨obj_lt hgo, fun e => by have e2 : ge = gk := Option.some.inj e; have := HGZ.out; omega⟩).trans hgo) (Nat.le_refl _) (by unfold maxLen; decide) ?_, fun a ha => ?_⟩
                        · intro k x hx j u hu
                          rcases k with _ | k
                          · simp at hx
                            subst hx
                            rcases j with _ | j
                            · simpa [ntEnc] using hu
                            · simp [ntEnc] at hu
                          · simp at hx
                        · cases ha
                          exact ⟨fun e => by have h7 : gk < w6.heap.size := HL6.out.hs.lt gk e; omega, Nat.lt_of_lt_of_le (obj_lt hgo) hk.size⟩)
                    have hth7 : w7.there ge (hh * 8) ([.int .i64 x6.call, .int .i64 x6.inv, .int .i64 R6.w.now, .int .i64 x6.steps, .int .i64 (R6.hands t).tape.err, .int .u64 (R6.hands t).tape.val, .slice lA (R6.hands t).tape.list.length lC, .slice (some ⟨gk, 0, none⟩) 1 1] : List Value).length := fun j hj => by
                      have hj : j < 8 := hj
                      refine ⟨?_, hrow7.frozenAt _⟩
                      rw [row_cells hrow7 HX6.out HRL6.out j ((evEnc x6)[j]'hj) (List.getElem?_eq_getElem _)]
                      rfl
                    have hfz := fun j (hj : j < 6 + nn) => HL6.out.hs.lt _ (HL6.out.hs.fx j hj)
                    have HJ8 := hide hJ8
                    have HTH7 := hide hth7
                    have HDE := hide hde
                    refine hK _ _ ⟨(hb7.cell (p := ⟨Fx 4, 0, none⟩) (hfz 4 (by omega))).trans c4, (hb7.cell (p := ⟨Fx 0, t * 16 + 1, none⟩) (hfz 0 (by omega))).trans c1, (hb7.cell (p := ⟨ge, hh * 8, none⟩) HGZ.out).trans v0, (hb7.cell (p := ⟨ge, hh * 8 + 1, none⟩) HGZ.out).trans v1, (hb7.cell (p := ⟨ge, hh * 8 + 2, none⟩) HGZ.out).trans v2, (hb7.cell (p := ⟨ge, hh * 8 + 3, none⟩) HGZ.out).trans v3, (hb7.cell (p := ⟨ge, hh * 8 + 4, none⟩) HGZ.out).trans v4, (hb7.cell (p := ⟨ge, hh * 8 + 5, none⟩) HGZ.out).trans v5, (hb7.cell (p := ⟨ge, hh * 8 + 6, none⟩) HGZ.out).trans v6, (hb7.cell (p := ⟨ge, hh * 8 + 7, none⟩) HGZ.out).trans v7⟩ ?_
                    clear hK K hgk hb7 hk7 hrow7 hre7 hL7 hO7 hR46 hed hde hJ8 hth7 hfz hgo HN6 HROW6 HRL6 HRE6 c4 c1 v0 v1 v2 v3 v4 v5 v6 v7 cH HL6 HM6 HO6
                    iterate 1 (refine seql_take (v := ?_) rfl (by rfl) ?_ ?_; rotate_left; (focus (intro wS hS; obtain ⟨s0, s1, s2, s3, s4, s5, s6, s7, s8, s9⟩ := hS; go_simp; exact rfl)); simp only [Act.put, List.setIfInBounds_toArray, List.set_cons_zero, List.set_cons_succ])
                    refine seql_late rfl rfl (by rfl) (fun K hK => ?_)
                    refine wp_store_mid 52 (.tmp 177) (.tmp 176) rfl ge (hh * 8) ([.int .i64 x6.call, .int .i64 x6.inv, .int .i64 R6.w.now, .int .i64 x6.steps, .int .i64 (R6.hands t).tape.err, .int .u64 (R6.hands t).tape.val, .slice lA (R6.hands t).tape.list.length lC, .slice (some ⟨gk, 0, none⟩) 1 1] : List Value).toArray (by rfl) (by rfl) HTH7.out (by kernel_rfl) (by kernel_rfl) ?_
                    refine hK _ _ ?_
                    clear hK K
                    refine seql_nil ?_
                    obtain ⟨w8, hw8⟩ : ∃ w8, w8 = w7.setCells ge (hh * 8) [.int .i64 x6.call, .int .i64 x6.inv, .int .i64 R6.w.now, .int .i64 x6.steps, .int .i64 (R6.hands t).tape.err, .int .u64 (R6.hands t).tape.val, .slice lA (R6.hands t).tape.list.length lC, .slice (some ⟨gk, 0, none⟩) 1 1] := ⟨_, rfl⟩
                    rw [← hw8]
                    have hJ8 : LgJ w Fx nn m cb wr.heap.size (.cells #[.int .i64 cl.thread, .int .i64 cl.obj, .int .i64 cl.kind, .int .u64 cl.a, .int .u64 cl.b, .int .u64 cl.c] 48 (0, 0)) (R6.s6 hh ed) w8 := by rw [hw8]; exact HJ8.out
                    clear HJ8 HTH7 hw8
                    obtain ⟨R8, hR8⟩ : ∃ R8, R6.s6 hh ed = R8 := ⟨_, rfl⟩
                    rw [hR8] at hJ8
                    obtain ⟨M8, g8, f8, X8, ev8, hL8, hM8, hO8⟩ := hJ8
                    have e8 : R8.hands t = R6.hands t := by rw [← hR8]; rfl
                    have hstep : RB.s4 D t cl = R4 := HR4.out
                    have ht16 := HT16.out
                    have q1 := cell_of_row _ _ 1 _ _ _ hO8
                    simp at q1
                    have qz := obj_lt hO8
                    have z0 := hL8.hs.lt _ (hL8.hs.fx 0 (by omega))
                    have z3 := hL8.hs.lt _ (hL8.hs.fx 3 (by omega))
                    have hxx := HT.out
                    have hil : i < m := by omega
                    have n03 : Fx 0 ≠ Fx 3 := fun e => by have := hinj 0 3 (by omega) (by omega) e; omega
                    by_cases hin : cl.obj = 0
                    · have g0 : (cl.obj ≥ 0) := by omega
                      have hd8 := hL8.hs.hd t HT.out (by rw [e8]; exact HO6o.out)
                      obtain ⟨o1, ov, o2, o3⟩ := hL8.hs.own t HT.out
                      have c15 : w8.cell? ⟨Fx 0, t * 16 + 15, none⟩ = some (.slice (some ⟨Fx (6 + t), 0, none⟩) 1 1) := by rw [hL8.hs.row.cell (by omega), o1]
                      have c10 : w8.cell? ⟨Fx 0, t * 16 + 10, none⟩ = some (X8 t).pv := by rw [hL8.hs.row.cell (by omega), show t * 16 + 10 = t * 16 + 2 + 8 from rfl, hd8.tp.priv]
                      have cv := cell_of_row _ _ 0 _ _ _ o2
                      have fv := frozen_of_row _ _ 0 _ _ o2
                      simp at cv
                      have n60 : Fx (6 + t) ≠ Fx 0 := fun e => by have := hinj (6 + t) 0 (by omega) (by omega) e; omega
                      have n63 : Fx (6 + t) ≠ Fx 3 := fun e => by have := hinj (6 + t) 3 (by omega) (by omega) e; omega
                      have n6c : Fx (6 + t) ≠ wr.heap.size := fun e => hM8 (e ▸ hL8.hs.fx (6 + t) (by omega))
                      obtain ⟨pA, pC, hpv, -, -⟩ := hd8.pr
                      have hpr := hd8.pr
                      rw [hpv] at c10
                      rw [hin] at q1
                      have HIN := hide hin
                      obtain ⟨LL, hPV⟩ : ∃ LL, LL = (R8.hands t).tape.priv.length := ⟨_, rfl⟩
                      rw [← hPV] at c10 hpv
                      rw [hpv] at hpr
                      have hJ9 : LgJ w Fx nn m cb wr.heap.size (.cells #[.int .i64 cl.thread, .int .i64 cl.obj, .int .i64 cl.kind, .int .u64 cl.a, .int .u64 cl.b, .int .u64 cl.c] 48 (0, 0)) (R8.s8 t (R8.hands t).tape.priv) (w8.setCell ⟨Fx (6 + t), 0, none⟩ (.slice pA LL pC)) := hL8.kept hinj hM8 hO8 HN.out.1 HT.out hpr
                      have HJ9 := hide (hJ9.grow HN.out.1 (Below.refl _ _).drew)
                      obtain ⟨R9, hR9⟩ : ∃ R9, R8.s8 t (R8.hands t).tape.priv = R9 := ⟨_, rfl⟩
                      rw [hR9] at HJ9
                      have HFI : Hid (R0.play D 1 cs (picks.take (k + 1)) = (R9.s9 t).s10 i) := hide (by
                        rw [HR1.out, HPI.out, HCO.out, step_in (e1 := ep1) hha (by rw [HHH.out]; exact HEP.out) hin, hstep, HHH.out, HR6.out, HDE.out, hR8, ← hR9, e8, ← HR6.out]
                        rfl)
                      clear hin hd8 o1 o2 o3 hJ9 hL8 hpr hM8 hO8 g0 hpv hstep e8 hR8 hR9 hha hPV
                      as_aux_lemma =>
                        go_wp2_with fail
                        refine wp_region_seq (fun Y => Y.cell? ⟨Fx 0, t * 16 + 15, none⟩ = some (.slice (some ⟨Fx (6 + t), 0, none⟩) 1 1) ∧ Y.cell? ⟨Fx 0, t * 16 + 10, none⟩ = some (.slice pA LL pC) ∧ Y.cell? ⟨wr.heap.size, 1, none⟩ = some (.int .i64 0)) (.take 0 <| .take 1 <| .take 2 <| .take 3 <| .take 4 <| .take 5 <| .take 6 <| .take 7 <| .take 8 <| .take 9 <| .take 10 <| .take 11 <| .run 12 <| .done) (by kernel_rfl) (by kernel_rfl) (by kernel_rfl) (by refine ⟨?_, ?_, ?_⟩ <;> go_simp) ?_
                        iterate 12 (refine seq_take (v := ?_) rfl (by rfl) ?_ ?_; rotate_left; (focus (intro wS hS; obtain ⟨s0, s1, s2⟩ := hS; go_simp; exact rfl)); simp only [Act.put, List.setIfInBounds_toArray, List.set_cons_zero, List.set_cons_succ])
                        (refine seq_run rfl (by rfl) (fun K hK => ?_); go_simp)
                        refine hK _ _ (by refine ⟨?_, ?_, ?_⟩ <;> go_simp) ?_
                        clear hK K c15 c10 cv fv q1 qz z0 z3 n60 n63 n6c
                        refine seq_nil ?_
                        go_upto_region 34 with fail
                        obtain ⟨w9, hw9⟩ : ∃ w9, w9 = (w8.setCell ⟨Fx (6 + t), 0, none⟩ (.slice pA LL pC)).drew := ⟨_, rfl⟩
                        rw [← hw9] at HJ9 ⊢
                        clear hw9
                        obtain ⟨M9, g9, f9, X9, ev9, hL9, hM9, hO9⟩ := HJ9.out
                        have c0 := hL9.hs.row.cell (i := t * 16) (by omega)
                        have b0 := hL9.hs.row.frozen (t * 16)
                        obtain ⟨fs, fs1, fs2⟩ := hL9.fin
                        have z0 := hL9.hs.lt _ (hL9.hs.fx 0 (by omega))
                        have z3 := hL9.hs.lt _ (hL9.hs.fx 3 (by omega))
                        have hJ10 : LgJ w Fx nn m cb wr.heap.size (.cells #[.int .i64 cl.thread, .int .i64 cl.obj, .int .i64 cl.kind, .int .u64 cl.a, .int .u64 cl.b, .int .u64 cl.c] 48 (0, 0)) (R9.s9 t) (w9.setCell ⟨Fx 0, t * 16, none⟩ (.bool false)) := hL9.shut hinj hM9 hO9 HN.out.1 HT.out
                        obtain ⟨M10, g10, f10, X10, ev10, hL10, -, -⟩ := hJ10
                        have hL11 := hL10.nextFin hinj HN.out.1 i
                        have hfl : fs.size = m := by
                          have h1 : fs.toList.length = R9.fin.length := by rw [fs2]; simp
                          have h2 := (HV.out.pick (p := (t : Int)) hP hS).fin
                          rw [← HR1.out, HFI.out] at h2
                          have h3 : (R9.fin.set i true).length = cs.length := h2
                          have h4 := HM.out
                          simp at h1 h3
                          omega
                        have c3 : ∃ v, w9.cell? ⟨Fx 3, i, none⟩ = some v := ⟨_, by rw [cell_of_row _ _ _ _ _ _ fs1]; exact Array.getElem?_eq_getElem (by omega)⟩
                        obtain ⟨v3, c3⟩ := c3
                        have b3 := frozen_of_row _ _ i _ _ fs1
                        have HX : Hid (LgI w Fx nn m cb cs (R0.play D 1 cs (picks.take (k + 1))) (k + 1) ((w9.setCell ⟨Fx 0, t * 16, none⟩ (.bool false)).setCell ⟨Fx 3, i, none⟩ (.bool true))) := hide (by
                          refine ⟨by rw [HR1.out]; exact HV.out.pick hP hS, M10, g10, f10, X10, ev10, ?_⟩
                          rw [HFI.out]
                          exact hL11)
                        clear hL9 hM9 hO9 hL10 hL11 fs1 fs2 hfl HJ9
                        go_wp2
                        go_roundw
                        case rel => exact ⟨k + 1, by omega, by go_num, HX⟩
                        case measure => first | (simp [intOf]; done) | (simp [intOf]; omega)
                    · have g0 : ((0 ≤ cl.obj ∧ cl.obj < 1) → False) := fun h => hin (by omega)
                      obtain ⟨w9, hw9⟩ : ∃ w9, w9 = w8 := ⟨_, rfl⟩
                      have HJ9 : Hid (LgJ w Fx nn m cb wr.heap.size (.cells #[.int .i64 cl.thread, .int .i64 cl.obj, .int .i64 cl.kind, .int .u64 cl.a, .int .u64 cl.b, .int .u64 cl.c] 48 (0, 0)) R8 w8) := hide ⟨M8, g8, f8, X8, ev8, hL8, hM8, hO8⟩
                      have HFI : Hid (R0.play D 1 cs (picks.take (k + 1)) = (R8.s9 t).s10 i) := hide (by
                        rw [HR1.out, HPI.out, HCO.out, step_out (e1 := ep1) hha (by rw [HHH.out]; exact HEP.out) g0, hstep, HHH.out, HR6.out, HDE.out, hR8])
                      obtain ⟨R9, hR9⟩ : ∃ R9, R8 = R9 := ⟨_, rfl⟩
                      rw [hR9] at HJ9 HFI
                      clear hL8 hM8 hO8 hstep e8 hR8 hR9 hha g0 z0 z3
                      rcases (by omega : cl.obj < 0 ∨ (0 ≤ cl.obj ∧ 1 ≤ cl.obj)) with h0 | ⟨h0, h1⟩
                      · have d0 : decide (0 ≤ cl.obj) = false := by simpa using h0
                        clear hin h0
                        go_upto_region 34 with fail
                        rw [← hw9] at HJ9 ⊢
                        clear hw9 q1 qz d0
                        obtain ⟨M9, g9, f9, X9, ev9, hL9, hM9, hO9⟩ := HJ9.out
                        have c0 := hL9.hs.row.cell (i := t * 16) (by omega)
                        have b0 := hL9.hs.row.frozen (t * 16)
                        obtain ⟨fs, fs1, fs2⟩ := hL9.fin
                        have z0 := hL9.hs.lt _ (hL9.hs.fx 0 (by omega))
                        have z3 := hL9.hs.lt _ (hL9.hs.fx 3 (by omega))
                        have hJ10 : LgJ w Fx nn m cb wr.heap.size (.cells #[.int .i64 cl.thread, .int .i64 cl.obj, .int .i64 cl.kind, .int .u64 cl.a, .int .u64 cl.b, .int .u64 cl.c] 48 (0, 0)) (R9.s9 t) (w9.setCell ⟨Fx 0, t * 16, none⟩ (.bool false)) := hL9.shut hinj hM9 hO9 HN.out.1 HT.out
                        obtain ⟨M10, g10, f10, X10, ev10, hL10, -, -⟩ := hJ10
                        have hL11 := hL10.nextFin hinj HN.out.1 i
                        have hfl : fs.size = m := by
                          have h1 : fs.toList.length = R9.fin.length := by rw [fs2]; simp
                          have h2 := (HV.out.pick (p := (t : Int)) hP hS).fin
                          rw [← HR1.out, HFI.out] at h2
                          have h3 : (R9.fin.set i true).length = cs.length := h2
                          have h4 := HM.out
                          simp at h1 h3
                          omega
                        have c3 : ∃ v, w9.cell? ⟨Fx 3, i, none⟩ = some v := ⟨_, by rw [cell_of_row _ _ _ _ _ _ fs1]; exact Array.getElem?_eq_getElem (by omega)⟩
                        obtain ⟨v3, c3⟩ := c3
                        have b3 := frozen_of_row _ _ i _ _ fs1
                        have HX : Hid (LgI w Fx nn m cb cs (R0.play D 1 cs (picks.take (k + 1))) (k + 1) ((w9.setCell ⟨Fx 0, t * 16, none⟩ (.bool false)).setCell ⟨Fx 3, i, none⟩ (.bool true))) := hide (by
                          refine ⟨by rw [HR1.out]; exact HV.out.pick hP hS, M10, g10, f10, X10, ev10, ?_⟩
                          rw [HFI.out]
                          exact hL11)
                        clear hL9 hM9 hO9 hL10 hL11 fs1 fs2 hfl HJ9
                        go_wp2
                        go_roundw
                        case rel => exact ⟨k + 1, by omega, by go_num, HX⟩
                        case measure => first | (simp [intOf]; done) | (simp [intOf]; omega)
                      · have d0 : decide (0 ≤ cl.obj) = true := by simpa using h0
                        have d1 : decide (cl.obj < 1) = false := by simp; omega
                        clear hin h0 h1
                        go_upto_region 34 with fail
                        rw [← hw9] at HJ9 ⊢
                        clear hw9 q1 qz d0 d1
                        obtain ⟨M9, g9, f9, X9, ev9, hL9, hM9, hO9⟩ := HJ9.out
                        have c0 := hL9.hs.row.cell (i := t * 16) (by omega)
                        have b0 := hL9.hs.row.frozen (t * 16)
                        obtain ⟨fs, fs1, fs2⟩ := hL9.fin
                        have z0 := hL9.hs.lt _ (hL9.hs.fx 0 (by omega))
                        have z3 := hL9.hs.lt _ (hL9.hs.fx 3 (by omega))
                        have hJ10 : LgJ w Fx nn m cb wr.heap.size (.cells #[.int .i64 cl.thread, .int .i64 cl.obj, .int .i64 cl.kind, .int .u64 cl.a, .int .u64 cl.b, .int .u64 cl.c] 48 (0, 0)) (R9.s9 t) (w9.setCell ⟨Fx 0, t * 16, none⟩ (.bool false)) := hL9.shut hinj hM9 hO9 HN.out.1 HT.out
                        obtain ⟨M10, g10, f10, X10, ev10, hL10, -, -⟩ := hJ10
                        have hL11 := hL10.nextFin hinj HN.out.1 i
                        have hfl : fs.size = m := by
                          have h1 : fs.toList.length = R9.fin.length := by rw [fs2]; simp
                          have h2 := (HV.out.pick (p := (t : Int)) hP hS).fin
                          rw [← HR1.out, HFI.out] at h2
                          have h3 : (R9.fin.set i true).length = cs.length := h2
                          have h4 := HM.out
                          simp at h1 h3
                          omega
                        have c3 : ∃ v, w9.cell? ⟨Fx 3, i, none⟩ = some v := ⟨_, by rw [cell_of_row _ _ _ _ _ _ fs1]; exact Array.getElem?_eq_getElem (by omega)⟩
                        obtain ⟨v3, c3⟩ := c3
                        have b3 := frozen_of_row _ _ i _ _ fs1
                        have HX : Hid (LgI w Fx nn m cb cs (R0.play D 1 cs (picks.take (k + 1))) (k + 1) ((w9.setCell ⟨Fx 0, t * 16, none⟩ (.bool false)).setCell ⟨Fx 3, i, none⟩ (.bool true))) := hide (by
                          refine ⟨by rw [HR1.out]; exact HV.out.pick hP hS, M10, g10, f10, X10, ev10, ?_⟩
                          rw [HFI.out]
                          exact hL11)
                        clear hL9 hM9 hO9 hL10 hL11 fs1 fs2 hfl HJ9
                        go_wp2
                        go_roundw
                        case rel => exact ⟨k + 1, by omega, by go_num, HX⟩
                        case measure => first | (simp [intOf]; done) | (simp [intOf]; omega)
                · skip
                  as_aux_lemma =>
                    rw [hha] at cH
                    have HX : Hid (LgI w Fx nn m cb cs (R0.play D 1 cs (picks.take (k + 1))) (k + 1) w6) := hide (by
                      rw [HR1.out]
                      refine ⟨HV.out.pick hP hS, M6, g6, f6, X6, ev6, ?_⟩
                      rw [HPI.out, HCO.out, step_halt hha (by rw [HHH.out]; exact HEP.out), HR4.out, HHH.out, ← HEP1.out, HR6.out]
                      exact HL6.out)
                    clear hha
                    go_wp2
                    go_roundw
                    case rel => exact ⟨k + 1, by omega, by go_num, HX⟩
                    case measure => first | (simp [intOf]; done) | (simp [intOf]; omega)
          · obtain rfl : np = k := by omega
            have htk : picks.take np = picks := List.take_of_length_le (by have := HPL.out; omega)
            rw [htk, HFR.out] at hIk
            have HV := hide hIk.out.1
            have hA0 : Hid (LgE w Fx nn m cb { FR with evs := FR.endsK (fun _ t => FR.w.marks t) 0 } wr) := hide (by
              obtain ⟨M, g, f, X, ev, hL⟩ := hIk.out.2
              exact ⟨M, g, f, X, ev, hL⟩)
            clear hIk hlt hkn htk
            go_wp2_with fail
            go_loopw [209] (fun v wr => ∃ k : Nat, k ≤ nn ∧ v = .int .i64 (k : Int) ∧ Hid (LgE w Fx nn m cb { FR with evs := FR.endsK (fun _ t => FR.w.marks t) k } wr)) (fun v _ => nn - (intOf v).toNat)
            case atStart => exact ⟨0, Nat.zero_le _, rfl, hA0⟩
            case round =>
              obtain ⟨k, hkn, rfl, hJ⟩ := hrel
              have hle : (FR.endsK (fun _ t => FR.w.marks t) k).length = FR.evs.length := rends_len k
              have hsu := rends_succ FR (fun _ t => FR.w.marks t) k
              have hge := fun (e : Ep) (h : FR.evs[(FR.hands k).event]? = some e) => rends_get (R := FR) (late := fun _ t => FR.w.marks t) (k := k) h
              obtain ⟨E, hEE⟩ : ∃ E, FR.endsK (fun _ t => FR.w.marks t) k = E := ⟨_, rfl⟩
              obtain ⟨E1, hE1⟩ : ∃ E1, FR.endsK (fun _ t => FR.w.marks t) (k + 1) = E1 := ⟨_, rfl⟩
              rw [hEE] at hJ hle hsu hge
              rw [hE1] at hsu
              have HE1 := hide hE1
              have HEE := hide hEE
              clear hEE hE1
              obtain ⟨M, g, f, X, ev, hL⟩ := hJ.out
              obtain ⟨l0, l8, l4, l6, l1, lz⟩ := hL.cells
              by_cases hlt : k < nn
              · skip
                as_aux_lemma =>
                  have hk16 : k * 16 + 16 ≤ nn * 16 := by omega
                  have hlt' : (k : Int) < (nn : Int) := by omega
                  have o0 : wr.cell? ⟨Fx 0, k * 16, none⟩ = some (.bool (FR.hands k).opn) := by rw [hL.hs.row.cell (by omega), hL.hs.op k hlt]
                  have z0 := lz 0 (by omega)
                  have z4 := lz 4 (by omega)
                  by_cases ho : (FR.hands k).opn = true
                  · rw [ho] at o0
                    rw [if_pos ho] at hsu
                    obtain ⟨e0, he0, hec, hob0, hob1⟩ := HV.out.op k ho
                    obtain ⟨e1, he1, he1c⟩ := hge e0 he0
                    have hob : (callOf cs e0.call).obj = 0 := by omega
                    obtain ⟨cl, hcl⟩ : ∃ cl, cs[e0.call]? = some cl := ⟨_, List.getElem?_eq_getElem hec⟩
                    have hco : callOf cs e0.call = cl := by unfold callOf; rw [hcl]; rfl
                    rw [hco] at hob
                    obtain ⟨hh, hhh⟩ : ∃ hh, (FR.hands k).event = hh := ⟨_, rfl⟩
                    have hd := hL.hs.hd k hlt ho
                    have c1 : wr.cell? ⟨Fx 0, k * 16 + 1, none⟩ = some (.int .i64 (hh : Int)) := by rw [hL.hs.row.cell (by omega), hd.ev]; exact congrArg (fun q : Nat => some (Value.int .i64 (q : Int))) hhh
                    have c2 : wr.cell? ⟨Fx 0, k * 16 + 2, none⟩ = some (.pointer (some ⟨Fx 1, 0, none⟩)) := by rw [hL.hs.row.cell (by omega), hd.tp.w]
                    have c3 : wr.cell? ⟨Fx 0, k * 16 + 2 + 1, none⟩ = some (.int .i64 (k : Int)) := by rw [hL.hs.row.cell (by omega), hd.tp.th]
                    have c7 : wr.cell? ⟨Fx 1, 7, none⟩ = some (.slice (some ⟨Fx 2, 0, none⟩) nn nn) := by rw [hL.hs.mem.row.cell (by omega), hL.hs.mrk]
                    obtain ⟨xs, m1, m2⟩ := hL.hs.mks
                    have cm : wr.cell? ⟨Fx 2, 0 + k, none⟩ = some (.slice none 0 0) := by rw [cell_of_row _ _ _ _ _ _ m1, Nat.zero_add]; exact m2 k hlt
                    rw [hhh] at he0 he1 hsu
                    obtain ⟨raw, hrow, hrl, hre⟩ := hL.evs.row
                    have hhl : hh < E.length := (List.getElem?_eq_some_iff.1 he1).1
                    obtain ⟨ge, ce, rfl, hgB, hgz⟩ := own_some' hrow (by show 0 < E.length; omega)
                    have hrl' : raw.length = E.length := hrl
                    obtain ⟨x, hx⟩ : ∃ x, raw[hh]? = some x := ⟨_, List.getElem?_eq_getElem (by omega)⟩
                    have hxe := hre hh x e1 hx he1
                    have v0 : wr.cell? ⟨ge, hh * 8, none⟩ = some (.int .i64 (e0.call : Int)) := by
                      have := row_cells hrow hx hrl 0 _ rfl
                      rw [hxe.call, he1c] at this
                      exact this
                    have f7 := hrow.frozenAt (hh * 8 + 7)
                    have v7 := row_cells hrow hx hrl 7 _ rfl
                    have hpo : ∃ ab ao, A = some ⟨ab, ao, none⟩ ∧ ab < w.heap.size ∧ CellsAt w ab (ao + e0.call * 6) (clEnc cl) := by
                      obtain ⟨_, _, e2, e2n, _, h32⟩ := HC.out
                      injection e2 with e2a e2b e2c
                      obtain ⟨ab, ao, h1, h2, h3⟩ := h32 e0.call cl hcl
                      exact ⟨ab, ao, by rw [e2a]; exact h1, h2, h3⟩
                    obtain ⟨ab, ao, rfl, haz, hac⟩ := hpo
                    obtain ⟨y0, y1, y2, y3, y4, y5⟩ := cl_cells hac
                    rw [hob] at y1
                    replace y0 := (hL.kp.cell (p := ⟨ab, ao + e0.call * 6, none⟩) haz).trans y0
                    replace y1 := (hL.kp.cell (p := ⟨ab, ao + e0.call * 6 + 1, none⟩) haz).trans y1
                    replace y2 := (hL.kp.cell (p := ⟨ab, ao + e0.call * 6 + 2, none⟩) haz).trans y2
                    replace y3 := (hL.kp.cell (p := ⟨ab, ao + e0.call * 6 + 3, none⟩) haz).trans y3
                    replace y4 := (hL.kp.cell (p := ⟨ab, ao + e0.call * 6 + 4, none⟩) haz).trans y4
                    replace y5 := (hL.kp.cell (p := ⟨ab, ao + e0.call * 6 + 5, none⟩) haz).trans y5
                    have hpo : ∃ sb so, As = some ⟨sb, so, none⟩ ∧ sb < w.heap.size ∧ CellsAt w sb so (spEnc sp) := by
                      obtain ⟨_, _, e2, e2n, _, h32⟩ := HSP.out
                      injection e2 with e2a e2b e2c
                      obtain ⟨ab, ao, h1, h2, h3⟩ := h32 0 sp rfl
                      exact ⟨ab, ao, by rw [e2a]; exact h1, h2, by simpa using h3⟩
                    obtain ⟨sb, so, rfl, hsz', hsc⟩ := hpo
                    obtain ⟨u0, u1, u2⟩ := sp_cells hsc
                    replace u0 := (hL.kp.cell (p := ⟨sb, so, none⟩) hsz').trans u0
                    replace u1 := (hL.kp.cell (p := ⟨sb, so + 1, none⟩) hsz').trans u1
                    replace u2 := (hL.kp.cell (p := ⟨sb, so + 2, none⟩) hsz').trans u2
                    have b5 : wr.cell? ⟨Fx 5, 0, none⟩ = some (.int .i64 0) := by
                      obtain ⟨_, _, e2, _, _, h32⟩ := hL.bas
                      injection e2 with e2a _ _
                      obtain ⟨ab', ao', h1, _, h3⟩ := h32 0 0 rfl
                      rw [← e2a] at h1
                      cases h1
                      have := nt_cell h3
                      simpa using this
                    have zab : ab < wr.heap.size := Nat.lt_of_lt_of_le haz hL.kp.size
                    have zsb : sb < wr.heap.size := Nat.lt_of_lt_of_le hsz' hL.kp.size
                    have z1 := lz 1 (by omega)
                    have z2 := lz 2 (by omega)
                    have z5 := lz 5 (by omega)
                    have hhl' : (hh : Int) < (E.length : Int) := by omega
                    have hec' : (e0.call : Int) < (m : Int) := by have := HM.out; omega
                    have NL := fun (W : World) (h0 : W.cell? ⟨Fx 0, k * 16 + 2, none⟩ = some (.pointer (some ⟨Fx 1, 0, none⟩))) (h1 : W.cell? ⟨Fx 0, k * 16 + 2 + 1, none⟩ = some (.int .i64 (k : Int))) (h2 : W.cell? ⟨Fx 1, 7, none⟩ = some (.slice (some ⟨Fx 2, 0, none⟩) nn nn)) (h3 : W.cell? ⟨Fx 2, 0 + k, none⟩ = some (.slice none 0 0)) (hz : Fx 0 < W.heap.size ∧ Fx 1 < W.heap.size ∧ Fx 2 < W.heap.size) => plainLate sp cl (nn : Int) 0 h0 h1 h2 h3 hlt hz HK.out.2
                    have c4 : wr.cell? ⟨Fx 4, 0, none⟩ = some (.slice (some ⟨ge, 0, none⟩) E.length ce) := l0
                    have HNL := hide NL
                    have HLL := hide hL
                    have HROW := hide hrow
                    have HRL := hide hrl
                    have HRE := hide hre
                    have HXX := hide hx
                    have HE1' := hide he1
                    have HSU := hide (hsu)
                    have HOB := hide hob
                    have HLE := hide hle
                    clear hle NL hL hrow hrl hrl' hre hx he1 hsu hob hac hsc hxe l0 l8 l4 l6 l1 lz hd m1 m2 hge he0 hec hob0 hob1 he1c hcl hco hhh hhl haz hsz' ho hJ
                    rw [show k * 16 + 2 + 1 = k * 16 + 3 from rfl] at c3
                    go_wp2_with fail
                    refine wp_region_seq (fun Y => Y.cell? ⟨Fx 4, 0, none⟩ = some (.slice (some ⟨ge, 0, none⟩) E.length ce) ∧ Y.cell? ⟨Fx 0, k * 16 + 1, none⟩ = some (.int .i64 (hh : Int)) ∧ Y.cell? ⟨ge, hh * 8, none⟩ = some (.int .i64 (e0.call : Int)) ∧ Y.cell? ⟨ab, ao + e0.call * 6, none⟩ = some (.int .i64 cl.thread) ∧ Y.cell? ⟨ab, ao + e0.call * 6 + 1, none⟩ = some (.int .i64 0) ∧ Y.cell? ⟨ab, ao + e0.call * 6 + 2, none⟩ = some (.int .i64 cl.kind) ∧ Y.cell? ⟨ab, ao + e0.call * 6 + 3, none⟩ = some (.int .u64 cl.a) ∧ Y.cell? ⟨ab, ao + e0.call * 6 + 4, none⟩ = some (.int .u64 cl.b) ∧ Y.cell? ⟨ab, ao + e0.call * 6 + 5, none⟩ = some (.int .u64 cl.c) ∧ True) (.take 0 <| .take 1 <| .take 2 <| .take 3 <| .take 4 <| .take 5 <| .take 6 <| .take 7 <| .take 8 <| .take 9 <| .take 10 <| .take 11 <| .run 12 <| .run 13 <| .done) (by kernel_rfl) (by kernel_rfl) (by kernel_rfl) (by refine ⟨?_, ?_, ?_, ?_, ?_, ?_, ?_, ?_, ?_, trivial⟩ <;> go_simp) ?_
                    iterate 12 (refine seq_take (v := ?_) rfl (by rfl) ?_ ?_; rotate_left; (focus (intro wS hS; obtain ⟨s0, s1, s2, s3, s4, s5, s6, s7, s8, s9⟩ := hS; go_simp; exact rfl)); simp only [Act.put, List.setIfInBounds_toArray, List.set_cons_zero, List.set_cons_succ])
                    (refine seq_run rfl (by rfl) (fun K hK => ?_); go_simp)
                    refine hK _ _ (by refine ⟨?_, ?_, ?_, ?_, ?_, ?_, ?_, ?_, ?_, trivial⟩ <;> go_simp) ?_
                    clear hK K
                    (refine seq_run rfl (by rfl) (fun K hK => ?_); go_simp)
                    refine hK _ _ (by refine ⟨?_, ?_, ?_, ?_, ?_, ?_, ?_, ?_, ?_, trivial⟩ <;> go_simp) ?_
                    clear hK K
                    refine seq_nil ?_
                    go_upto_region 43 with fail
                    obtain ⟨w1, hw1⟩ : ∃ w1, w1 = (wr.alloc (.cells #[.int .i64 cl.thread, .int .i64 0, .int .i64 cl.kind, .int .u64 cl.a, .int .u64 cl.b, .int .u64 cl.c] 48)).drew := ⟨_, rfl⟩
                    rw [← hw1]
                    have hb1 : Below wr.heap.size wr w1 := by rw [hw1]; exact ((Below.refl _ wr).alloc (Nat.le_refl _) _).drew
                    have hbx : w1.heap[wr.heap.size]? = some (.cells #[.int .i64 cl.thread, .int .i64 0, .int .i64 cl.kind, .int .u64 cl.a, .int .u64 cl.b, .int .u64 cl.c] 48 (0, 0)) := by rw [hw1]; exact heap_alloc_new wr _
                    have q0 := cell_of_row _ _ 0 _ _ _ hbx
                    have q1 := cell_of_row _ _ 1 _ _ _ hbx
                    have q2 := cell_of_row _ _ 2 _ _ _ hbx
                    have q3 := cell_of_row _ _ 3 _ _ _ hbx
                    have q4 := cell_of_row _ _ 4 _ _ _ hbx
                    have q5 := cell_of_row _ _ 5 _ _ _ hbx
                    simp at q0 q1 q2 q3 q4 q5
                    have hzb := obj_lt hbx
                    replace c1 := (hb1.cell (p := ⟨Fx 0, k * 16 + 1, none⟩) z0).trans c1
                    replace c2 := (hb1.cell (p := ⟨Fx 0, k * 16 + 2, none⟩) z0).trans c2
                    replace c3 := (hb1.cell (p := ⟨Fx 0, k * 16 + 3, none⟩) z0).trans c3
                    replace c4 := (hb1.cell (p := ⟨Fx 4, 0, none⟩) z4).trans c4
                    replace c7 := (hb1.cell (p := ⟨Fx 1, 7, none⟩) z1).trans c7
                    replace cm := (hb1.cell (p := ⟨Fx 2, 0 + k, none⟩) z2).trans cm
                    replace b5 := (hb1.cell (p := ⟨Fx 5, 0, none⟩) z5).trans b5
                    replace u0 := (hb1.cell (p := ⟨sb, so, none⟩) zsb).trans u0
                    replace u1 := (hb1.cell (p := ⟨sb, so + 1, none⟩) zsb).trans u1
                    replace u2 := (hb1.cell (p := ⟨sb, so + 2, none⟩) zsb).trans u2
                    have NL := HNL.out w1.drew c2 c3 c7 cm ⟨Nat.lt_of_lt_of_le z0 hb1.size, Nat.lt_of_lt_of_le z1 hb1.size, Nat.lt_of_lt_of_le z2 hb1.size⟩
                    unfold clV spV at NL
                    rw [HOB.out] at NL
                    have hz0 : Fx 0 < w1.heap.size := Nat.lt_of_lt_of_le z0 hb1.size
                    have hz4 : Fx 4 < w1.heap.size := Nat.lt_of_lt_of_le z4 hb1.size
                    have hz5 : Fx 5 < w1.heap.size := Nat.lt_of_lt_of_le z5 hb1.size
                    have hzs : sb < w1.heap.size := Nat.lt_of_lt_of_le zsb hb1.size
                    have HB1 := hide hb1
                    clear hbx hb1 hw1 c2 c3 c7 cm z0 z1 z2 z4 z5 zsb HNL y0 y1 y2 y3 y4 y5 v0 f7 v7 o0
                    go_wp2_with fail
                    refine wp_region_seql (fun Y => Y.cell? ⟨Fx 4, 0, none⟩ = some (.slice (some ⟨ge, 0, none⟩) E.length ce) ∧ Y.cell? ⟨Fx 0, k * 16 + 1, none⟩ = some (.int .i64 (hh : Int)) ∧ Y.cell? ⟨wr.heap.size, 0, none⟩ = some (.int .i64 cl.thread) ∧ Y.cell? ⟨wr.heap.size, 1, none⟩ = some (.int .i64 0) ∧ Y.cell? ⟨wr.heap.size, 2, none⟩ = some (.int .i64 cl.kind) ∧ Y.cell? ⟨wr.heap.size, 3, none⟩ = some (.int .u64 cl.a) ∧ Y.cell? ⟨wr.heap.size, 4, none⟩ = some (.int .u64 cl.b) ∧ Y.cell? ⟨wr.heap.size, 5, none⟩ = some (.int .u64 cl.c) ∧ Y.cell? ⟨Fx 5, 0, none⟩ = some (.int .i64 0) ∧ Y.cell? ⟨sb, so, none⟩ = some (.int .i64 sp.1) ∧ Y.cell? ⟨sb, so + 1, none⟩ = some (.int .i64 sp.2.1) ∧ Y.cell? ⟨sb, so + 2, none⟩ = some (.int .i64 sp.2.2)) [24] (.take 0 <| .take 1 <| .take 2 <| .take 3 <| .take 4 <| .take 5 <| .take 6 <| .take 7 <| .take 8 <| .take 9 <| .take 10 <| .take 11 <| .take 12 <| .take 13 <| .take 14 <| .take 15 <| .take 16 <| .take 17 <| .take 18 <| .take 19 <| .take 20 <| .run 21 <| .take 22 <| .take 23 <| .run 24 <| .done) (by kernel_rfl) (by kernel_rfl) (by kernel_rfl) ⟨c4, c1, q0, q1, q2, q3, q4, q5, b5, u0, u1, u2⟩ ?_
                    iterate 21 (refine seql_take (v := ?_) rfl (by rfl) ?_ ?_; rotate_left; (focus (intro wS hS; obtain ⟨s0, s1, s2, s3, s4, s5, s6, s7, s8, s9, s10, s11⟩ := hS; go_simp; exact rfl)); simp only [Act.put, List.setIfInBounds_toArray, List.set_cons_zero, List.set_cons_succ])
                    refine seql_run rfl (by rfl) (fun K hK => ?_)
                    go_simp
                    refine NL.mono ?_
                    rintro e w2 ⟨rfl, hb2⟩
                    have hb2 : Below w1.heap.size w1 w2 := (Below.refl _ w1).drew.trans hb2
                    have hb12 : Below wr.heap.size wr w2 := HB1.out.trans (hb2.mono HB1.out.size)
                    have hk2 := Keep.of_below (K := fun j => j < wr.heap.size) hb12 (fun j hj => hj)
                    have hrow2 := owns_keepV HROW.out hk2 (fun j hj => by cases hj; exact hgz)
                    have f7 := hrow2.frozenAt (hh * 8 + 7)
                    have v7 := row_cells hrow2 HXX.out HRL.out 7 _ rfl
                    have hJ2 := (HLL.out.grow HN.out.1 hb12).evField0 HN.out.1 (e := e1) (x' := { x with kA := none, kN := 0, kC := 0 }) (e' := { e1 with key := FR.w.marks k }) rfl hrow2 HRL.out (fun i x e h1 h2 => (HRE.out i x e h1 h2).keep hk2 (fun j j1 _ => j1) (fun _ _ h => h)) HXX.out HE1'.out (j := 7) (u := .slice none 0 0) (by decide) rfl (fun w' _ q => ⟨q.call, q.inv, q.resp, q.steps, q.err, q.val, q.list, by
                      show KeyIs w' M (.slice none 0 0) (FR.w.marks k)
                      rw [HV.out.mrk k]
                      exact KeyIs.nil _ _⟩)
                    have HX : Hid (LgE w Fx nn m cb { FR with evs := FR.endsK (fun _ t => FR.w.marks t) (k + 1) } (w2.setCell ⟨ge, hh * 8 + 7, none⟩ (.slice none 0 0))) := hide (by
                      rw [HE1.out, HSU.out, modify_set _ HE1'.out]
                      exact hJ2)
                    refine hK _ _ ⟨(hb2.cell (p := ⟨Fx 4, 0, none⟩) hz4).trans c4, (hb2.cell (p := ⟨Fx 0, k * 16 + 1, none⟩) hz0).trans c1, (hb2.cell (p := ⟨wr.heap.size, 0, none⟩) hzb).trans q0, (hb2.cell (p := ⟨wr.heap.size, 1, none⟩) hzb).trans q1, (hb2.cell (p := ⟨wr.heap.size, 2, none⟩) hzb).trans q2, (hb2.cell (p := ⟨wr.heap.size, 3, none⟩) hzb).trans q3, (hb2.cell (p := ⟨wr.heap.size, 4, none⟩) hzb).trans q4, (hb2.cell (p := ⟨wr.heap.size, 5, none⟩) hzb).trans q5, (hb2.cell (p := ⟨Fx 5, 0, none⟩) hz5).trans b5, (hb2.cell (p := ⟨sb, so, none⟩) hzs).trans u0, (hb2.cell (p := ⟨sb, so + 1, none⟩) hzs).trans u1, (hb2.cell (p := ⟨sb, so + 2, none⟩) hzs).trans u2⟩ ?_
                    clear hK K NL hb2 hb12 hk2 hrow2 hJ2 c1 c4 q0 q1 q2 q3 q4 q5 b5 u0 u1 u2 hz0 hz4 hz5 hzs hzb HLL HROW HRL HRE HXX HE1' HSU HOB
                    iterate 2 (refine seql_take (v := ?_) rfl (by rfl) ?_ ?_; rotate_left; (focus (intro wS hS; obtain ⟨s0, s1, s2, s3, s4, s5, s6, s7, s8, s9, s10, s11⟩ := hS; go_simp; exact rfl)); simp only [Act.put, List.setIfInBounds_toArray, List.set_cons_zero, List.set_cons_succ])
                    refine seql_late rfl rfl (by rfl) (fun K hK => ?_)
                    go_simp
                    refine hK _ _ ?_
                    clear hK K
                    refine seql_nil ?_
                    go_wp2
                    go_roundw
                    case rel => exact ⟨k + 1, by omega, by go_num, HX⟩
                    case measure => first | (simp [intOf]; done) | (simp [intOf]; omega)
                  · have hX : Hid (LgE w Fx nn m cb { FR with evs := FR.endsK (fun _ t => FR.w.marks t) (k + 1) } wr) := hide (by
                      rw [HE1.out, hsu, if_neg ho]
                      exact hJ.out)
                    rw [show (FR.hands k).opn = false by simpa using ho] at o0
                    clear hsu ho hL hle l1 l4 lz hge
                    go_wp2
                    go_roundw
                    case rel => exact ⟨k + 1, by omega, by go_num, hX⟩
                    case measure => first | (simp [intOf]; done) | (simp [intOf]; omega)
              · obtain rfl : nn = k := by omega
                as_aux_lemma =>
                  have hEF : E = FE := by
                    have h1 := rends_succ FR (fun _ t => FR.w.marks t) nn
                    have h2 := HFE.out
                    rw [← h2]
                    exact HEE.out.symm
                  have hrep := hL.rep
                  have hmr := hL.hs.mem.row
                  obtain ⟨i0, i1, i2, i3, i4, i5⟩ := hL.hs.mem.is
                  have m0 := hmr.cell (i := 0) (by omega)
                  have m1 := hmr.cell (i := 1) (by omega)
                  have m2 := hmr.cell (i := 2) (by omega)
                  have m3 := hmr.cell (i := 3) (by omega)
                  have m4 := hmr.cell (i := 4) (by omega)
                  have m5 := hmr.cell (i := 5) (by omega)
                  have m9 := hmr.cell (i := 9) (by omega)
                  rw [i0] at m0
                  rw [i1] at m1
                  rw [i2] at m2
                  rw [i3] at m3
                  rw [i4] at m4
                  rw [i5] at m5
                  rw [hL.hs.lgf] at m9
                  have r1 := cell_of_row _ _ 1 _ _ _ hrep
                  have r7 := cell_of_row _ _ 7 _ _ _ hrep
                  simp [repC] at r1 r7
                  have f1 := l4 1
                  have f7 := l4 7
                  have z1 := lz 1 (by omega)
                  have z4 := lz 4 (by omega)
                  have n14 : Fx 1 ≠ Fx 4 := fun e => by have := hinj 1 4 (by omega) (by omega) e; omega
                  obtain ⟨Aw, cw, hwv⟩ := own_slice hL.hs.mem.own
                  obtain ⟨Al, cl', hlv⟩ := own_slice hL.hs.log
                  obtain ⟨Ae, ce, hevv⟩ : ∃ Ae ce, ev = .slice Ae E.length ce := by
                    obtain ⟨raw, hrow, _⟩ := hL.evs.row
                    exact own_slice hrow
                  rw [hwv] at m0
                  rw [hlv] at m9
                  rw [hevv] at l0 hrep
                  have HLL := hide hL
                  have HWV := hide hwv
                  have HLV := hide hlv
                  have HEV := hide hevv
                  have HREP := hide hrep
                  have HEF := hide hEF
                  clear hL hwv hlv hevv hrep hEF hmr i0 i1 i2 i3 i4 i5 hJ hge hsu hle l1 l4 lz hkn hlt
                  go_upto_region 47 with fail
                  obtain ⟨WV, hWV⟩ : ∃ WV, WV = Value.slice Aw FR.w.mem.words.length cw := ⟨_, rfl⟩
                  obtain ⟨w47, hw47⟩ : ∃ x, x = (wr.setCell ⟨Fx 4, 7, none⟩ (.int .i64 FR.w.now)).setCell ⟨Fx 4, 1, none⟩ (.slice Aw FR.w.mem.words.length cw) := ⟨_, rfl⟩
                  rw [← hw47]
                  have h47 : w47.heap[Fx 4]? = some (.cells #[.slice Ae E.length ce, .slice Aw FR.w.mem.words.length cw, .int .i64 0, .int .i64 0, .int .i64 0, .int .i64 0, .int .i64 0, .int .i64 FR.w.now, .int .i64 FR.idle] 32 (0, 0)) := by rw [hw47]; exact cells_set (cells_set HREP.out)
                  have hk47 : Keep (fun j => j ≠ Fx 4) wr w47 := by rw [hw47]; exact ((Keep.refl _ wr).setCell (by simp) _).setCell (by simp) _
                  have hth : w47.there (Fx 4) 2 ([.int .i64 (wrap64 FR.w.mem.rd), .int .i64 (wrap64 FR.w.mem.wr), .int .i64 (wrap64 FR.w.mem.sw), .int .i64 (wrap64 FR.w.mem.ad), .int .i64 (wrap64 FR.w.mem.ft)] : List Value).length := by
                    intro j hj
                    have hj : j < 5 := hj
                    refine ⟨?_, frozen_of_row _ _ _ _ _ h47⟩
                    rw [cell_of_row _ _ _ _ _ _ h47]
                    exact isSome_lt (by simp; omega)
                  replace m1 := (hk47.cell (p := ⟨Fx 1, 1, none⟩) n14).trans m1
                  replace m2 := (hk47.cell (p := ⟨Fx 1, 2, none⟩) n14).trans m2
                  replace m3 := (hk47.cell (p := ⟨Fx 1, 3, none⟩) n14).trans m3
                  replace m4 := (hk47.cell (p := ⟨Fx 1, 4, none⟩) n14).trans m4
                  replace m5 := (hk47.cell (p := ⟨Fx 1, 5, none⟩) n14).trans m5
                  replace m9 := (hk47.cell (p := ⟨Fx 1, 9, none⟩) n14).trans m9
                  have HK47 := hide hk47
                  have H47 := hide h47
                  have HTH' := hide hth
                  clear hw47 hk47 h47 hth m0 l0 l8 l6 r1 r7 f1 f7 hWV WV
                  go_upto_region 48 with (refine wpList_store_mid rfl 30 (.tmp 272) (.tmp 271) rfl (Fx 4) 2 ([.int .i64 (wrap64 FR.w.mem.rd), .int .i64 (wrap64 FR.w.mem.wr), .int .i64 (wrap64 FR.w.mem.sw), .int .i64 (wrap64 FR.w.mem.ad), .int .i64 (wrap64 FR.w.mem.ft)] : List Value).toArray (by rfl) (by rfl) HTH'.out (by kernel_rfl) (by kernel_rfl) ?_)
                  obtain ⟨w48, hw48⟩ : ∃ x, x = w47.setCells (Fx 4) 2 [.int .i64 (wrap64 FR.w.mem.rd), .int .i64 (wrap64 FR.w.mem.wr), .int .i64 (wrap64 FR.w.mem.sw), .int .i64 (wrap64 FR.w.mem.ad), .int .i64 (wrap64 FR.w.mem.ft)] := ⟨_, rfl⟩
                  rw [← hw48]
                  have h48 : w48.heap[Fx 4]? = some (.cells #[.slice Ae E.length ce, .slice Aw FR.w.mem.words.length cw, .int .i64 (wrap64 FR.w.mem.rd), .int .i64 (wrap64 FR.w.mem.wr), .int .i64 (wrap64 FR.w.mem.sw), .int .i64 (wrap64 FR.w.mem.ad), .int .i64 (wrap64 FR.w.mem.ft), .int .i64 FR.w.now, .int .i64 FR.idle] 32 (0, 0)) := by rw [hw48]; exact cells_set (cells_set (cells_set (cells_set (cells_set H47.out))))
                  have hk48 : Keep (fun j => j ≠ Fx 4) w47 w48 := by rw [hw48]; exact keep_setCells (by simp) _ _ (Keep.refl _ _)
                  have hk8 : Keep (fun j => j ≠ Fx 4) wr w48 := HK47.out.trans hk48
                  replace m9 := (hk48.cell (p := ⟨Fx 1, 9, none⟩) n14).trans m9
                  have q0 := cell_of_row _ _ 0 _ _ _ h48
                  have q1 := cell_of_row _ _ 1 _ _ _ h48
                  have q2 := cell_of_row _ _ 2 _ _ _ h48
                  have q3 := cell_of_row _ _ 3 _ _ _ h48
                  have q4 := cell_of_row _ _ 4 _ _ _ h48
                  have q5 := cell_of_row _ _ 5 _ _ _ h48
                  have q6 := cell_of_row _ _ 6 _ _ _ h48
                  have q7 := cell_of_row _ _ 7 _ _ _ h48
                  have q8 := cell_of_row _ _ 8 _ _ _ h48
                  simp at q0 q1 q2 q3 q4 q5 q6 q7 q8
                  have n4 : w.heap.size ≠ Fx 4 := HLL.out.resN.2.1 4 (by omega)
                  have n1 : w.heap.size ≠ Fx 1 := HLL.out.resN.2.1 1 (by omega)
                  have hb8 : w48.heap[w.heap.size]? = some (.cells #[.slice none 0 0, .slice none 0 0, .int .i64 0, .int .i64 0, .int .i64 0, .int .i64 0, .int .i64 0, .int .i64 0, .int .i64 0] 32 (0, 0)) := (hk8.block _ n4).trans HLL.out.res
                  have HB8 := hide hb8
                  have HK8 := hide hk8
                  clear hw48 h48 hk48 hk8 m1 m2 m3 m4 m5 HK47 H47 HTH' hb8 z1 z4
                  go_wp2_with fail
                  refine wp_region_seq (fun Y => Y.cell? ⟨Fx 4, 0, none⟩ = some (.slice Ae E.length ce) ∧ Y.cell? ⟨Fx 4, 1, none⟩ = some (.slice Aw FR.w.mem.words.length cw) ∧ Y.cell? ⟨Fx 4, 2, none⟩ = some (.int .i64 (wrap64 FR.w.mem.rd)) ∧ Y.cell? ⟨Fx 4, 3, none⟩ = some (.int .i64 (wrap64 FR.w.mem.wr)) ∧ Y.cell? ⟨Fx 4, 4, none⟩ = some (.int .i64 (wrap64 FR.w.mem.sw)) ∧ Y.cell? ⟨Fx 4, 5, none⟩ = some (.int .i64 (wrap64 FR.w.mem.ad)) ∧ Y.cell? ⟨Fx 4, 6, none⟩ = some (.int .i64 (wrap64 FR.w.mem.ft)) ∧ Y.cell? ⟨Fx 4, 7, none⟩ = some (.int .i64 FR.w.now) ∧ Y.cell? ⟨Fx 4, 8, none⟩ = some (.int .i64 FR.idle) ∧ Y.cell? ⟨Fx 1, 9, none⟩ = some (.slice Al FR.w.log.length cl')) (.take 0 <| .take 1 <| .take 2 <| .take 3 <| .take 4 <| .run 5 <| .take 6 <| .take 7 <| .done) (by kernel_rfl) (by kernel_rfl) (by kernel_rfl) ⟨q0, q1, q2, q3, q4, q5, q6, q7, q8, m9⟩ ?_
                  iterate 5 (refine seq_take (v := ?_) rfl (by rfl) ?_ ?_; rotate_left; (focus (intro wS hS; obtain ⟨s0, s1, s2, s3, s4, s5, s6, s7, s8, s9⟩ := hS; go_simp; exact rfl)); simp only [Act.put, List.setIfInBounds_toArray, List.set_cons_zero, List.set_cons_succ])
                  refine seq_run rfl (by rfl) (fun K hK => ?_)
                  refine wp_store_mid 32 (.tmp 8) (.tmp 273) rfl w.heap.size 0 ([.slice Ae E.length ce, .slice Aw FR.w.mem.words.length cw, .int .i64 (wrap64 FR.w.mem.rd), .int .i64 (wrap64 FR.w.mem.wr), .int .i64 (wrap64 FR.w.mem.sw), .int .i64 (wrap64 FR.w.mem.ad), .int .i64 (wrap64 FR.w.mem.ft), .int .i64 FR.w.now, .int .i64 FR.idle] : List Value).toArray (by rfl) (by rfl) (zero_there (w := w48.drew) HB8.out ([.slice Ae E.length ce, .slice Aw FR.w.mem.words.length cw, .int .i64 (wrap64 FR.w.mem.rd), .int .i64 (wrap64 FR.w.mem.wr), .int .i64 (wrap64 FR.w.mem.sw), .int .i64 (wrap64 FR.w.mem.ad), .int .i64 (wrap64 FR.w.mem.ft), .int .i64 FR.w.now, .int .i64 FR.idle] : List Value) rfl) (by kernel_rfl) (by kernel_rfl) ?_
                  have hkW : Keep (fun j => j ≠ w.heap.size) w48 (w48.drew.setCells w.heap.size 0 [.slice Ae E.length ce, .slice Aw FR.w.mem.words.length cw, .int .i64 (wrap64 FR.w.mem.rd), .int .i64 (wrap64 FR.w.mem.wr), .int .i64 (wrap64 FR.w.mem.sw), .int .i64 (wrap64 FR.w.mem.ad), .int .i64 (wrap64 FR.w.mem.ft), .int .i64 FR.w.now, .int .i64 FR.idle]) := keep_setCells (by simp) _ _ (Keep.refl _ _).drew
                  have S := fun (a : Addr) (ha : a.block ≠ w.heap.size) => hkW.cell (p := a) ha
                  refine hK _ _ ⟨(S ⟨Fx 4, 0, none⟩ n4.symm).trans q0, (S ⟨Fx 4, 1, none⟩ n4.symm).trans q1, (S ⟨Fx 4, 2, none⟩ n4.symm).trans q2, (S ⟨Fx 4, 3, none⟩ n4.symm).trans q3, (S ⟨Fx 4, 4, none⟩ n4.symm).trans q4, (S ⟨Fx 4, 5, none⟩ n4.symm).trans q5, (S ⟨Fx 4, 6, none⟩ n4.symm).trans q6, (S ⟨Fx 4, 7, none⟩ n4.symm).trans q7, (S ⟨Fx 4, 8, none⟩ n4.symm).trans q8, (S ⟨Fx 1, 9, none⟩ n1.symm).trans m9⟩ ?_
                  clear hK K S
                  iterate 2 (refine seq_take (v := ?_) rfl (by rfl) ?_ ?_; rotate_left; (focus (intro wS hS; obtain ⟨s0, s1, s2, s3, s4, s5, s6, s7, s8, s9⟩ := hS; go_simp; exact rfl)); simp only [Act.put, List.setIfInBounds_toArray, List.set_cons_zero, List.set_cons_succ])
                  refine seq_nil ?_
                  have HKW := hide hkW
                  clear hkW q0 q1 q2 q3 q4 q5 q6 q7 q8 m9
                  go_wp2
                  have hRS := World.rangeAt_setCells_same w48.drew w.heap.size 0 ([.slice Ae E.length ce, .slice Aw FR.w.mem.words.length cw, .int .i64 (wrap64 FR.w.mem.rd), .int .i64 (wrap64 FR.w.mem.wr), .int .i64 (wrap64 FR.w.mem.sw), .int .i64 (wrap64 FR.w.mem.ad), .int .i64 (wrap64 FR.w.mem.ft), .int .i64 FR.w.now, .int .i64 FR.idle] : List Value) (zero_there (w := w48.drew) HB8.out ([.slice Ae E.length ce, .slice Aw FR.w.mem.words.length cw, .int .i64 (wrap64 FR.w.mem.rd), .int .i64 (wrap64 FR.w.mem.wr), .int .i64 (wrap64 FR.w.mem.sw), .int .i64 (wrap64 FR.w.mem.ad), .int .i64 (wrap64 FR.w.mem.ft), .int .i64 FR.w.now, .int .i64 FR.idle] : List Value) rfl)
                  have hld := run_loadVar_mid (P := Tryz.prog) (w48.drew.setCells w.heap.size 0 ([.slice Ae E.length ce, .slice Aw FR.w.mem.words.length cw, .int .i64 (wrap64 FR.w.mem.rd), .int .i64 (wrap64 FR.w.mem.wr), .int .i64 (wrap64 FR.w.mem.sw), .int .i64 (wrap64 FR.w.mem.ad), .int .i64 (wrap64 FR.w.mem.ft), .int .i64 FR.w.now, .int .i64 FR.idle] : List Value)) w.heap.size 0 32 ([.slice Ae E.length ce, .slice Aw FR.w.mem.words.length cw, .int .i64 (wrap64 FR.w.mem.rd), .int .i64 (wrap64 FR.w.mem.wr), .int .i64 (wrap64 FR.w.mem.sw), .int .i64 (wrap64 FR.w.mem.ad), .int .i64 (wrap64 FR.w.mem.ft), .int .i64 FR.w.now, .int .i64 FR.idle] : List Value) _ hRS Tryz.underlying32 rfl (by kernel_rfl)
                  refine bodyPost_ret (v := .tuple #[.agg #[.slice Ae E.length ce, .slice Aw FR.w.mem.words.length cw, .int .i64 (wrap64 FR.w.mem.rd), .int .i64 (wrap64 FR.w.mem.wr), .int .i64 (wrap64 FR.w.mem.sw), .int .i64 (wrap64 FR.w.mem.ad), .int .i64 (wrap64 FR.w.mem.ft), .int .i64 FR.w.now, .int .i64 FR.idle], .slice Al FR.w.log.length cl', .int .i64 0]) (by simp [results, Tryz.results25, hld, asAddr]) rfl ?_
                  have hkE := HK8.out.mono (K' := fun j => j ≠ Fx 4 ∧ j ≠ w.heap.size) (fun j hj => hj.1) |>.trans (HKW.out.mono fun j hj => hj.2)
                  have hL := HLL.out
                  refine ⟨.slice Ae E.length ce, .slice Al FR.w.log.length cl', .slice Aw FR.w.mem.words.length cw, w.heap.size, M, rfl, ?_, Nat.le_refl _, hL.old, ?_, ?_⟩
                  · have he := hL.evs
                    rw [HEV.out] at he
                    rw [← HEF.out]
                    exact he.keep hkE (fun j _ j2 => ⟨fun e => j2 (e ▸ hL.hs.fx 4 (by omega)), fun e => j2 (e ▸ hL.resN.1)⟩) (fun _ _ h => h) (fun j j1 => by rw [← HEV.out] at j1; exact ⟨(hL.evM j j1).2.1 4 (by omega), fun e => hL.resN.2.2.2 (e ▸ j1)⟩)
                  · have hw := hL.hs.mem.own
                    rw [HWV.out] at hw
                    exact owns_keepV hw hkE (fun j j1 => by
                      have h4 : (X 0).four j := Or.inl (by rw [HWV.out]; exact j1)
                      exact ⟨(hL.hs.nf 0 (by omega) j h4).1 4 (by omega), fun e => hL.resN.2.2.1 0 (by omega) (e ▸ h4)⟩)
                  · exact ((Keep.of_below (K := fun j => j < w.heap.size) hL.kp (fun j hj => hj)).trans (hkE.mono fun j hj => ⟨fun e => by have := hL.lo.1 4 (by omega); omega, by omega⟩)).below (fun j hj => hj)
end Go.Proofs.YtlfingcmekifkaaGreat
