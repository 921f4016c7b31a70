/- Types of things (package seq): slices.Delete of one word, in memory of the call's own. -/
import Derived.Test.YtmiimpmfkjcjlaaGreatSq6
import Derived.Shelf.SlicesE.Delete
namespace Go.Proofs.YtmiimpmfkjcjlaaGreat
open Go.RowKit Go.Shelf Go.Sort

def delRen : Ren := ⟨fun n => if n = 45 then 194 else n, fun n => if n = 0 then 0 else if n = 3 then 3 else if n = 4 then 4 else if n = 22 then 24 else if n = 23 then 25 else n, fun n => n⟩

theorem delLays : SlLaysE.n45 Tryz.prog delRen := {
  mixed := by kernel_rfl
  f45 := ⟨Tryz.f194.name, by decide, Tryz.func194.trans (congrArg some (by kernel_rfl))⟩
  t0 := by kernel_rfl
  a0 := fun _ => by kernel_rfl
  z0 := fun _ => by kernel_rfl
  v0 := fun _ => by kernel_rfl
  t3 := by kernel_rfl
  a3 := fun _ => by kernel_rfl
  z3 := fun _ => by kernel_rfl
  v3 := fun _ => by kernel_rfl
  t4 := by kernel_rfl
  a4 := fun _ => by kernel_rfl
  z4 := fun _ => by kernel_rfl
  v4 := fun _ => by kernel_rfl
  t22 := by kernel_rfl
  a22 := fun _ => by kernel_rfl
  z22 := fun _ => by kernel_rfl
  v22 := fun _ => by kernel_rfl
  a23 := fun _ => by kernel_rfl
  z23 := fun _ => by kernel_rfl }

theorem grown_putRow {α : Type} [Inhabited α] (enc : α → Value) (w : World) (g off : Nat) (d : Array α) : w.grownBy (putRow enc w g off d) (some g) := by
  refine ⟨rfl, rfl, rfl, by simp [putRow, mapBlock], fun k hk hne => ?_⟩
  have hgk : g ≠ k := fun e => hne (by rw [e])
  simp [putRow, mapBlock, Array.getElem?_modify, hgk]

theorem del_get (L R : List Int) (k : Nat) (x : Int) (h : L[k]? = some x) : (L ++ R).toArray[k]! = x := by
  obtain ⟨hk, rfl⟩ := List.getElem?_eq_some_iff.1 h
  rw [getElem!_pos _ _ (by simp; omega)]
  simp [List.getElem_append_left hk]

/-- One word is taken out of a row that the call owns. -/
theorem delete_any (B g cap : Nat) (xs : List Int) (i : Nat) (j : Int) (w : World) (hown : WRow w B (.slice (some ⟨g, 0, none⟩) xs.length cap) xs) (hi : i < xs.length) (hj : j = (i : Int) + 1) (hm : xs.length ≤ maxLen) :
    Calls Tryz.prog 194 #[.slice (some ⟨g, 0, none⟩) xs.length cap, .int .i64 i, .int .i64 j] w fun e w' =>
      e = .returned (.slice (some ⟨g, 0, none⟩) (xs.length - 1) cap) ∧ SlW w' (.slice (some ⟨g, 0, none⟩) (xs.length - 1) cap) (xs.eraseIdx i) ∧ w.grownBy w' (some g) := by
  obtain ⟨i0, hi0, hz0, hz1, hz2⟩ := info_parts info_word
  obtain ⟨A, c', hA, hnc, hcm, hsl⟩ := wrow_sl hown hm
  cases hA
  have hH : Holds (Value.int .u64) w g 0 xs.toArray := by
    intro k hk
    have hk' : k < xs.length := by simpa using hk
    refine ⟨?_, ?_⟩
    · rw [Nat.zero_add, hown.cellAt k (by simpa using hk'), List.getElem?_map]
      simp [hk']
    · rw [Nat.zero_add]; exact hown.frozenAt k
  have H := AnyE.slices_Delete delLays (Value.int .u64) (fun _ => rfl) 0 (fun _ => by kernel_rfl) i0 hi0 hz1 g 0 cap i (i + 1) xs.toArray w hH (by simpa using hnc) (by unfold maxLen at hcm; exact hcm) (by omega) (by simp; omega)
  subst hj
  rw [show (i : Int) + 1 = ((i + 1 : Nat) : Int) by omega]
  refine Calls.mono H ?_
  rintro e w' ⟨rfl, q, rfl⟩
  have hlen : (xs.toArray.toList.take i ++ xs.toArray.toList.drop (i + 1) ++ List.replicate (i + 1 - i) 0).toArray.size = xs.toArray.size := by simp; omega
  have hH' := holds_putRow (Value.int .u64) (Go.Sort.ahead w q) g 0 xs.toArray _ (fun k hk => hH k hk) hlen
  have hgr := grown_putRow (Value.int .u64) (Go.Sort.ahead w q) g 0 (xs.toArray.toList.take i ++ xs.toArray.toList.drop (i + 1) ++ List.replicate (i + 1 - i) 0).toArray
  have hgr' : w.grownBy (putRow (Value.int .u64) (Go.Sort.ahead w q) g 0 (xs.toArray.toList.take i ++ xs.toArray.toList.drop (i + 1) ++ List.replicate (i + 1 - i) 0).toArray) (some g) := ⟨hgr.os, hgr.tape, hgr.output, hgr.size, hgr.block⟩
  have hlt := hown.lt g rfl
  refine ⟨by simp, ⟨_, cap, by rw [List.length_eraseIdx, if_pos hi], by rw [List.length_eraseIdx, if_pos hi]; omega, hcm, fun k x hx => ⟨g, 0, rfl, ?_, fun t u hu => ?_⟩⟩, hgr'⟩
  · exact Nat.lt_of_lt_of_le hlt.2 hgr'.size
  · rcases t with _ | t
    · cases hu
      have hk := (List.getElem?_eq_some_iff.1 hx).1
      rw [List.length_eraseIdx, if_pos hi] at hk
      have := (hH' k (by rw [hlen]; simp; omega)).1
      simp only [Nat.mul_one, Nat.zero_add, Nat.add_zero] at this ⊢
      rw [this]
      rw [List.eraseIdx_eq_take_drop_succ] at hx
      rw [del_get _ _ k x hx]
    · cases hu

theorem sl_setCell {w : World} {g k cap : Nat} {xs : List Int} (h : SlW w (.slice (some ⟨g, 0, none⟩) k cap) xs) (p : Addr) (u : Value) (hp : p.block ≠ g) : SlW (w.setCell p u) (.slice (some ⟨g, 0, none⟩) k cap) xs := by
  obtain ⟨A, c, hA, h1, h2, h3⟩ := h
  refine ⟨A, c, hA, h1, h2, fun i x hx => ?_⟩
  obtain ⟨b, o, rfl, hb, hc⟩ := h3 i x hx
  cases hA
  exact ⟨g, 0, rfl, by simpa [World.setCell] using hb, hc.of_block (by simp [World.setCell, Array.getElem?_modify, hp])⟩
end Go.Proofs.YtmiimpmfkjcjlaaGreat
