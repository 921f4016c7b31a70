/- Sorted numbers (slices.Sort) and each one once (slices.Compact): what the shelf proves of both, at this program. The numbers in the two layings are those of the seat Ytfghmlpjbedomaa.Z. -/
import Derived.Shelf.SlGeneric
import Derived.Shelf.SortG.Plain
import Derived.Shelf.SortG.SortNone
import Derived.Shelf.SlicesG.CompactI
import Derived.Sort.OwnSortedInts
import Derived.Lib.RowBridge
import Derived.Test.YtfghmlpjbedomaaGreatBun5
namespace Go.Proofs.YtfghmlpjbedomaaGreat
open Go.Shelf Go.Sort Go.RowKit Go.Proofs

def shl53_ren : Go.Shelf.Ren := ⟨fun | 53 => 27 | 64 => 44 | 63 => 43 | 78 => 70 | 79 => 71 | 70 => 61 | 71 => 62 | 72 => 63 | 73 => 64 | 74 => 65 | 75 => 66 | 59 => 67 | 76 => 68 | 77 => 69 | 88 => 102 | 89 => 103 | 90 => 104 | 91 => 105 | 92 => 106 | 68 => 107 | 96 => 138 | n => n, fun | 22 => 22 | 23 => 3 | 3 => 3 | 51 => 102 | 0 => 0 | 67 => 155 | 69 => 37 | 4 => 4 | 61 => 149 | 60 => 148 | 44 => 144 | 5 => 5 | 9 => 9 | 75 => 194 | 79 => 198 | 83 => 220 | 84 => 221 | n => n, fun | n => n⟩
theorem shl53 : Go.Proofs.SlLaysN.n53 Tryz.prog shl53_ren := {
  mixed := by kernel_rfl
  f53 := ⟨Tryz.f27.name, by decide, Tryz.func27.trans (congrArg some (by kernel_rfl))⟩
  f59 := ⟨Tryz.f67.name, by decide, Tryz.func67.trans (congrArg some (by kernel_rfl))⟩
  f63 := ⟨Tryz.f43.name, by decide, Tryz.func43.trans (congrArg some (by kernel_rfl))⟩
  f64 := Tryz.func44.trans (congrArg some (by kernel_rfl))
  f68 := ⟨Tryz.f107.name, by decide, Tryz.func107.trans (congrArg some (by kernel_rfl))⟩
  f70 := ⟨Tryz.f61.name, by decide, Tryz.func61.trans (congrArg some (by kernel_rfl))⟩
  f71 := ⟨Tryz.f62.name, by decide, Tryz.func62.trans (congrArg some (by kernel_rfl))⟩
  f72 := ⟨Tryz.f63.name, by decide, Tryz.func63.trans (congrArg some (by kernel_rfl))⟩
  f73 := ⟨Tryz.f64.name, by decide, Tryz.func64.trans (congrArg some (by kernel_rfl))⟩
  f74 := ⟨Tryz.f65.name, by decide, Tryz.func65.trans (congrArg some (by kernel_rfl))⟩
  f75 := ⟨Tryz.f66.name, by decide, Tryz.func66.trans (congrArg some (by kernel_rfl))⟩
  f76 := ⟨Tryz.f68.name, by decide, Tryz.func68.trans (congrArg some (by kernel_rfl))⟩
  f77 := ⟨Tryz.f69.name, by decide, Tryz.func69.trans (congrArg some (by kernel_rfl))⟩
  f78 := Tryz.func70.trans (congrArg some (by kernel_rfl))
  f79 := Tryz.func71.trans (congrArg some (by kernel_rfl))
  f88 := ⟨Tryz.f102.name, by decide, Tryz.func102.trans (congrArg some (by kernel_rfl))⟩
  f89 := Tryz.func103.trans (congrArg some (by kernel_rfl))
  f90 := Tryz.func104.trans (congrArg some (by kernel_rfl))
  f91 := ⟨Tryz.f105.name, by decide, Tryz.func105.trans (congrArg some (by kernel_rfl))⟩
  f92 := ⟨Tryz.f106.name, by decide, Tryz.func106.trans (congrArg some (by kernel_rfl))⟩
  f96 := ⟨Tryz.f138.name, by decide, Tryz.func138.trans (congrArg some (by kernel_rfl))⟩
  t0 := Tryz.underlying0
  a0 := Tryz.isAgg0
  z0 := Tryz.sizeOf0
  v0 := Tryz.zeroValue0
  t3 := Tryz.underlying3
  a3 := Tryz.isAgg3
  z3 := Tryz.sizeOf3
  v3 := Tryz.zeroValue3
  t4 := Tryz.underlying4
  a4 := Tryz.isAgg4
  z4 := Tryz.sizeOf4
  v4 := Tryz.zeroValue4
  t5 := Tryz.underlying5
  a5 := Tryz.isAgg5
  z5 := Tryz.sizeOf5
  v5 := Tryz.zeroValue5
  t9 := Tryz.underlying9
  a9 := Tryz.isAgg9
  z9 := Tryz.sizeOf9
  v9 := Tryz.zeroValue9
  t22 := Tryz.underlying22
  a22 := Tryz.isAgg22
  z22 := Tryz.sizeOf22
  v22 := Tryz.zeroValue22
  t23 := Tryz.underlying3
  a23 := Tryz.isAgg3
  z23 := Tryz.sizeOf3
  v23 := Tryz.zeroValue3
  t44 := Tryz.underlying144
  a44 := Tryz.isAgg144
  z44 := Tryz.sizeOf144
  v44 := Tryz.zeroValue144
  t51 := Tryz.underlying102
  a51 := Tryz.isAgg102
  z51 := Tryz.sizeOf102
  v51 := Tryz.zeroValue102
  t60 := Tryz.underlying148
  a60 := Tryz.isAgg148
  z60 := Tryz.sizeOf148
  v60 := Tryz.zeroValue148
  t61 := Tryz.underlying149
  a61 := Tryz.isAgg149
  z61 := Tryz.sizeOf149
  v61 := Tryz.zeroValue149
  t67 := Tryz.underlying155
  a67 := Tryz.isAgg155
  z67 := Tryz.sizeOf155
  v67 := Tryz.zeroValue155
  t69 := Tryz.underlying37
  a69 := Tryz.isAgg37
  z69 := Tryz.sizeOf37
  v69 := Tryz.zeroValue37
  t75 := Tryz.underlying194
  a75 := Tryz.isAgg194
  z75 := Tryz.sizeOf194
  v75 := Tryz.zeroValue194
  t79 := Tryz.underlying198
  a79 := Tryz.isAgg198
  z79 := Tryz.sizeOf198
  v79 := Tryz.zeroValue198
  t83 := Tryz.underlying220
  a83 := Tryz.isAgg220
  z83 := Tryz.sizeOf220
  v83 := Tryz.zeroValue220
  t84 := Tryz.underlying221
  a84 := Tryz.isAgg221
  z84 := Tryz.sizeOf221
  v84 := Tryz.zeroValue221 }
def shl43_ren : Go.Shelf.Ren := ⟨fun | 43 => 28 | n => n, fun | 22 => 22 | 23 => 3 | 3 => 3 | 4 => 4 | 0 => 0 | n => n, fun | n => n⟩
theorem shl43 : Go.Proofs.SlLaysN.n43 Tryz.prog shl43_ren := {
  mixed := by kernel_rfl
  f43 := ⟨Tryz.f28.name, by decide, Tryz.func28.trans (congrArg some (by kernel_rfl))⟩
  t0 := Tryz.underlying0
  a0 := Tryz.isAgg0
  z0 := Tryz.sizeOf0
  v0 := Tryz.zeroValue0
  t3 := Tryz.underlying3
  a3 := Tryz.isAgg3
  z3 := Tryz.sizeOf3
  v3 := Tryz.zeroValue3
  t4 := Tryz.underlying4
  a4 := Tryz.isAgg4
  z4 := Tryz.sizeOf4
  v4 := Tryz.zeroValue4
  t22 := Tryz.underlying22
  a22 := Tryz.isAgg22
  z22 := Tryz.sizeOf22
  v22 := Tryz.zeroValue22
  t23 := Tryz.underlying3
  a23 := Tryz.isAgg3
  z23 := Tryz.sizeOf3
  v23 := Tryz.zeroValue3
  i23 := by kernel_rfl }

def srt (xs : List Int) : List Int := xs.mergeSort fun x y => decide (x ≤ y)
theorem sortW {w : World} {B : Nat} {v : Value} {xs : List Int} (h : IOwn w B v xs.length xs) (hl : xs.length ≤ 1000000) :
    Calls Tryz.prog 27 #[v] w fun e w' => e = .returned (.tuple #[]) ∧ IOwn w' B v (srt xs).length (srt xs) ∧ w.grownBy w' v.ownBlock := by
  rcases h.2 with ⟨rfl, h0⟩ | ⟨g, cap, cur, rfl, hg, hh, hnc, hcm, hsz, htk⟩
  · have hx : xs = [] := List.eq_nil_of_length_eq_zero h0
    subst hx
    refine (AnyG.slices_Sort_int_none shl53 none 0 w).mono ?_
    rintro e w' ⟨rfl, rfl⟩
    exact ⟨rfl, by rw [show srt [] = [] from by simp [srt]]; exact World.ownsRow_nil _ _ _ _, ⟨rfl, rfl, rfl, Nat.le_refl _, fun k _ _ => rfl⟩⟩
  · rw [Nat.mul_one] at htk
    refine (AnyG.slices_Sort_int shl53 g 0 cap xs w (holds_of_blockI hh htk) (Array.getElem?_eq_some_iff.1 hh).1 (by omega)).mono ?_
    rintro e w' ⟨rfl, n, os, rfl⟩
    have hle : (srt xs).length = xs.length := by unfold srt; exact List.length_mergeSort xs
    refine ⟨rfl, ?_, grownBy_sortedI _⟩
    rw [IOwn, hle]
    exact ownsRow_sortedI hle hg hh hnc hcm hsz
theorem compactW {w : World} {B : Nat} {v : Value} {xs : List Int} (h : IOwn w B v xs.length xs) (hl : xs.length ≤ 1000000) :
    Calls Tryz.prog 28 #[v] w fun e w' => (∃ u, e = .returned u ∧ SlI w' u (Lib.compact xs)) ∧ w.grownBy w' v.ownBlock := by
  rcases h.2 with ⟨rfl, h0⟩ | ⟨g, cap, cur, rfl, hg, hh, hnc, hcm, hsz, htk⟩
  · have hx : xs = [] := List.eq_nil_of_length_eq_zero h0
    subst hx
    refine (AnyG.slices_Compact_int_empty shl43 none 0 w).mono ?_
    rintro e w' ⟨rfl, rfl⟩
    exact ⟨⟨_, rfl, none, 0, rfl, Nat.le_refl _, Nat.zero_le _, fun k x hx => by simp [Lib.compact, Lib.compactUpTo] at hx⟩, ⟨rfl, rfl, rfl, Nat.le_refl _, fun k _ _ => rfl⟩⟩
  · rw [Nat.mul_one] at htk
    refine (AnyG.slices_Compact_int shl43 g 0 cap xs w (holds_of_blockI hh htk) (by omega) hnc).mono ?_
    rintro e w' ⟨rfl, n, rfl⟩
    have hcl := Lib.compact_length_le xs
    have hgr : ∀ X : World, grow X #[] = X := by
      intro X
      simp [grow]
    have hLl : (Lib.compact xs ++ List.replicate (xs.length - (Lib.compact xs).length) 0).length = xs.length := by simp; omega
    have ho := ownsRow_sortedI (n := n) (os := #[]) (base := B) hLl hg hh hnc hcm hsz
    have hgg := grownBy_sortedI (w := w) (g := g) (n := n) (os := #[]) (Lib.compact xs ++ List.replicate (xs.length - (Lib.compact xs).length) 0).toArray
    rw [hgr] at ho hgg
    refine ⟨⟨_, rfl, some ⟨g, 0, none⟩, cap, rfl, by omega, hcm, fun k x hx => ⟨g, 0, rfl, ?_, fun j u hu => ?_⟩⟩, hgg⟩
    · exact (World.ownsRow.lt ho g rfl).2
    · rcases j with _ | j
      · simp [ntEnc] at hu
        subst hu
        have hk := (List.getElem?_eq_some_iff.1 hx).1
        have hc := (World.ownsRow.cells ho (g := g) rfl) k (.int .i64 x) (by rw [List.getElem?_map, List.getElem?_append_left hk, hx]; rfl)
        rw [Addr.add_lit] at hc
        simpa using hc
      · simp [ntEnc] at hu
end Go.Proofs.YtfghmlpjbedomaaGreat
