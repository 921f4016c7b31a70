import Derived.Test.YtmiimpmfkjcjlaaGreatBun14
import Derived.Test.YtmiimpmfkjcjlaaGreatBun6
import Derived.Test.YtmiimpmfkjcjlaaGreatBun5
namespace Go.Proofs.YtmiimpmfkjcjlaaGreat
open Go.RowKit
attribute [local go_sem] run_store_fn run_store_nilfn
def Act1 (lo : Nat) (w1 : World) (fv arg res : Value) : Prop :=
  (∃ g B c, fv = .func (.func g) #[] #[.pointer (some ⟨B, 0, none⟩)] ∧ (∀ args w, (callFunc g args).run Tryz.prog w = .ok (.enter g args) w) ∧ lo ≤ B ∧ B < w1.heap.size ∧ w1.cell? ⟨B, 0, none⟩ = some c ∧
    ∀ W : World, W.cell? ⟨B, 0, none⟩ = some c → B < W.heap.size → Calls Tryz.prog g #[arg, .pointer (some ⟨B, 0, none⟩)] W fun e w' => e = .returned res ∧ Below W.heap.size W w') ∨
  (∃ g, fv = .func (.func g) #[] #[] ∧ (∀ args w, (callFunc g args).run Tryz.prog w = .ok (.enter g args) w) ∧
    ∀ W, Calls Tryz.prog g #[arg] W fun e w' => e = .returned res ∧ Below W.heap.size W w')
def Act2 (fv arg arg' res : Value) : Prop :=
  ∃ g, fv = .func (.func g) #[] #[] ∧ (∀ args w, (callFunc g args).run Tryz.prog w = .ok (.enter g args) w) ∧
    ∀ W, Calls Tryz.prog g #[arg, arg'] W fun e w' => e = .returned res ∧ Below W.heap.size W w'
theorem Act1.later {lo : Nat} {w1 w2 : World} {fv a r : Value} (h : Act1 lo w1 fv a r) (hb : Below w1.heap.size w1 w2) : Act1 lo w2 fv a r := by
  rcases h with ⟨g, B, c, h1, h2, h3, h4, h5, h6⟩ | h
  · exact Or.inl ⟨g, B, c, h1, h2, h3, Nat.lt_of_lt_of_le h4 hb.size, (hb.cell (p := ⟨B, 0, none⟩) h4).trans h5, h6⟩
  · exact Or.inr h
theorem Act1.mono {lo lo' : Nat} {w1 : World} {fv a r : Value} (h : Act1 lo w1 fv a r) (hl : lo' ≤ lo) : Act1 lo' w1 fv a r := by
  rcases h with ⟨g, B, c, h1, h2, h3, h4, h5, h6⟩ | h
  · exact Or.inl ⟨g, B, c, h1, h2, Nat.le_trans hl h3, h4, h5, h6⟩
  · exact Or.inr h
theorem Act1.setCell {lo : Nat} {w1 : World} {fv a r : Value} (h : Act1 lo w1 fv a r) (p : Addr) (u : Value) (hp : p.block < lo) : Act1 lo (w1.setCell p u) fv a r := by
  rcases h with ⟨g, B, c, h1, h2, h3, h4, h5, h6⟩ | h
  · have hne : p.block ≠ B := by omega
    exact Or.inl ⟨g, B, c, h1, h2, h3, by simpa [World.setCell] using h4, (World.cell?_of_block (w := w1) (a := ⟨B, 0, none⟩) (by simp [World.setCell, Array.getElem?_modify, hne])).trans h5, h6⟩
  · exact Or.inr h
theorem act_upTo (lo : Nat) (w1 : World) (B : Nat) (m : Int) (s : Sp) (hlo : lo ≤ B) (hB : w1.cell? ⟨B, 0, none⟩ = some (.int .i64 m)) (hBl : B < w1.heap.size) :
    Act1 lo w1 (.func (.func 163) #[] #[.pointer (some ⟨B, 0, none⟩)]) (spV s) (.bool (decide (1 ≤ s.p) && decide (s.p ≤ m))) :=
  Or.inl ⟨_, B, _, rfl, enter_of Tryz.func163 (by kernel_rfl) (by kernel_rfl), hlo, hBl, hB, fun W h1 h2 => tupTo1 s B m W h1 h2⟩
theorem act_acts (lo : Nat) (w1 : World) (B : Nat) (m : Int) (s : Sp) (hlo : lo ≤ B) (hB : w1.cell? ⟨B, 0, none⟩ = some (.int .i64 m)) (hBl : B < w1.heap.size) :
    Act1 lo w1 (.func (.func 162) #[] #[.pointer (some ⟨B, 0, none⟩)]) (spV s) (.int .i64 m) :=
  Or.inl ⟨_, B, _, rfl, enter_of Tryz.func162 (by kernel_rfl) (by kernel_rfl), hlo, hBl, hB, fun W h1 h2 => tacts1 s B m W h1 h2⟩
def makeNo (k : Int) : Nat := if k = 0 then 117 else if k = 1 then 121 else if k = 2 then 124 else if k = 3 then 126 else if k = 4 then 130 else if k = 5 then 166 else if k = 6 then 171 else if k = 7 then 178 else if k = 8 then 184 else 188
structure KindSem (lo : Nat) (k : Int) (f1 f2 f3 f4 : Value) (w1 : World) : Prop where
  acts : ∀ s : Sp, s.kind = k → Act1 lo w1 f1 (spV s) (.int .i64 (actsT k s.p))
  right : ∀ s : Sp, s.kind = k → Act1 lo w1 f2 (spV s) (.bool (rightT k s.p s.q))
  size : ∀ (n : Int) (s : Sp), s.kind = k → 1 ≤ n → n ≤ 16 → rightT k s.p s.q = true → Act2 f3 (.int .i64 n) (spV s) (.int .i64 (sizeT n k s.p s.q))
  make : f4 = .func (.func (makeNo k)) #[] #[]
theorem KindSem.later {lo : Nat} {k : Int} {f1 f2 f3 f4 : Value} {w1 w2 : World} (h : KindSem lo k f1 f2 f3 f4 w1) (hb : Below w1.heap.size w1 w2) : KindSem lo k f1 f2 f3 f4 w2 :=
  ⟨fun s hs => (h.acts s hs).later hb, fun s hs => (h.right s hs).later hb, h.size, h.make⟩
theorem KindSem.mono {lo lo' : Nat} {k : Int} {f1 f2 f3 f4 : Value} {w1 : World} (h : KindSem lo k f1 f2 f3 f4 w1) (hl : lo' ≤ lo) : KindSem lo' k f1 f2 f3 f4 w1 :=
  ⟨fun s hs => (h.acts s hs).mono hl, fun s hs => (h.right s hs).mono hl, h.size, h.make⟩
theorem KindSem.setCell {lo : Nat} {k : Int} {f1 f2 f3 f4 : Value} {w1 : World} (h : KindSem lo k f1 f2 f3 f4 w1) (p : Addr) (u : Value) (hp : p.block < lo) : KindSem lo k f1 f2 f3 f4 (w1.setCell p u) :=
  ⟨fun s hs => (h.acts s hs).setCell p u hp, fun s hs => (h.right s hs).setCell p u hp, h.size, h.make⟩
def OfPost (k : Int) (w : World) (e : Ending) (w' : World) : Prop :=
  ∃ f1 f2 f3 f4, e = .returned (.tuple #[.agg #[f1, f2, f3, f4], .bool (decide (0 ≤ k ∧ k ≤ 9))]) ∧ f1.oneCell' = true ∧ f2.oneCell' = true ∧ f3.oneCell' = true ∧ f4.oneCell' = true ∧ ((0 ≤ k ∧ k ≤ 9) → KindSem w.heap.size k f1 f2 f3 f4 w') ∧ Below w.heap.size w w'
set_option maxRecDepth 100000 in
set_option maxHeartbeats 1000000 in
theorem tof_0 (k : Int) (hk : k = 0) (w : World) : Calls Tryz.prog 71 #[.int .i64 k] w (OfPost k w) := by
  subst hk
  go_enter Tryz.func71, Tryz.ntmps71
  go_wp2_with (first | (go_at_call 114; refine (tacts_c _ _).mono ?_; rintro e w1 ⟨rfl, rfl⟩) | (go_at_call 115; refine (tupTo_c _ _).mono ?_; rintro e w1 ⟨rfl, rfl⟩))
  refine bodyPost_ret (v := .tuple #[.agg #[.func (.func 162) #[] #[.pointer (some ⟨w.heap.size + 1, 0, none⟩)], .func (.func 163) #[] #[.pointer (some ⟨w.heap.size + 1 + 1, 0, none⟩)], .func (.func 116) #[] #[], .func (.func 117) #[] #[]], .bool true]) (by simp [results, Tryz.results71, go_sem]) rfl ⟨_, _, _, _, rfl, rfl, rfl, rfl, rfl, fun _ => ⟨fun s hs => ?_, fun s hs => ?_, fun n s hs h1 h2 hr => ?_, rfl⟩, ?_⟩
  · exact act_acts _ _ _ 4 s (by omega) (by go_simp) (by simp <;> omega)
  · exact act_upTo _ _ _ 64 s (by omega) (by go_simp) (by simp <;> omega)
  · exact ⟨_, rfl, enter_of Tryz.func116 (by kernel_rfl) (by kernel_rfl), fun W => tsizeCell n s W⟩
  · (repeat' (first | exact Below.refl _ _ | assumption | refine Below.drew ?_ | refine below_drewN ?_ _ | refine Below.alloc ?_ (by simp <;> omega) _ | refine Below.setCell ?_ (by simp <;> omega) _))
set_option maxRecDepth 100000 in
set_option maxHeartbeats 1000000 in
theorem tof_1 (k : Int) (hk : k = 1) (w : World) : Calls Tryz.prog 71 #[.int .i64 k] w (OfPost k w) := by
  subst hk
  go_enter Tryz.func71, Tryz.ntmps71
  go_wp2_with (first | (go_at_call 114; refine (tacts_c _ _).mono ?_; rintro e w1 ⟨rfl, rfl⟩) | (go_at_call 115; refine (tupTo_c _ _).mono ?_; rintro e w1 ⟨rfl, rfl⟩))
  refine bodyPost_ret (v := .tuple #[.agg #[.func (.func 162) #[] #[.pointer (some ⟨w.heap.size + 1, 0, none⟩)], .func (.func 119) #[] #[], .func (.func 120) #[] #[], .func (.func 121) #[] #[]], .bool true]) (by simp [results, Tryz.results71, go_sem]) rfl ⟨_, _, _, _, rfl, rfl, rfl, rfl, rfl, fun _ => ⟨fun s hs => ?_, fun s hs => ?_, fun n s hs h1 h2 hr => ?_, rfl⟩, ?_⟩
  · exact act_acts _ _ _ 2 s (by omega) (by go_simp) (by simp <;> omega)
  · exact Or.inr ⟨_, rfl, enter_of Tryz.func119 (by kernel_rfl) (by kernel_rfl), fun W => twhatever s W⟩
  · exact ⟨_, rfl, enter_of Tryz.func120 (by kernel_rfl) (by kernel_rfl), fun W => tone n s W⟩
  · (repeat' (first | exact Below.refl _ _ | assumption | refine Below.drew ?_ | refine below_drewN ?_ _ | refine Below.alloc ?_ (by simp <;> omega) _ | refine Below.setCell ?_ (by simp <;> omega) _))
set_option maxRecDepth 100000 in
set_option maxHeartbeats 1000000 in
theorem tof_2 (k : Int) (hk : k = 2) (w : World) : Calls Tryz.prog 71 #[.int .i64 k] w (OfPost k w) := by
  subst hk
  go_enter Tryz.func71, Tryz.ntmps71
  go_wp2_with (first | (go_at_call 114; refine (tacts_c _ _).mono ?_; rintro e w1 ⟨rfl, rfl⟩) | (go_at_call 115; refine (tupTo_c _ _).mono ?_; rintro e w1 ⟨rfl, rfl⟩))
  refine bodyPost_ret (v := .tuple #[.agg #[.func (.func 162) #[] #[.pointer (some ⟨w.heap.size + 1, 0, none⟩)], .func (.func 119) #[] #[], .func (.func 123) #[] #[], .func (.func 124) #[] #[]], .bool true]) (by simp [results, Tryz.results71, go_sem]) rfl ⟨_, _, _, _, rfl, rfl, rfl, rfl, rfl, fun _ => ⟨fun s hs => ?_, fun s hs => ?_, fun n s hs h1 h2 hr => ?_, rfl⟩, ?_⟩
  · exact act_acts _ _ _ 2 s (by omega) (by go_simp) (by simp <;> omega)
  · exact Or.inr ⟨_, rfl, enter_of Tryz.func119 (by kernel_rfl) (by kernel_rfl), fun W => twhatever s W⟩
  · exact ⟨_, rfl, enter_of Tryz.func123 (by kernel_rfl) (by kernel_rfl), fun W => tsizeTally n s W⟩
  · (repeat' (first | exact Below.refl _ _ | assumption | refine Below.drew ?_ | refine below_drewN ?_ _ | refine Below.alloc ?_ (by simp <;> omega) _ | refine Below.setCell ?_ (by simp <;> omega) _))
set_option maxRecDepth 100000 in
set_option maxHeartbeats 1000000 in
theorem tof_3 (k : Int) (hk : k = 3) (w : World) : Calls Tryz.prog 71 #[.int .i64 k] w (OfPost k w) := by
  subst hk
  go_enter Tryz.func71, Tryz.ntmps71
  go_wp2_with (first | (go_at_call 114; refine (tacts_c _ _).mono ?_; rintro e w1 ⟨rfl, rfl⟩) | (go_at_call 115; refine (tupTo_c _ _).mono ?_; rintro e w1 ⟨rfl, rfl⟩))
  refine bodyPost_ret (v := .tuple #[.agg #[.func (.func 162) #[] #[.pointer (some ⟨w.heap.size + 1, 0, none⟩)], .func (.func 119) #[] #[], .func (.func 120) #[] #[], .func (.func 126) #[] #[]], .bool true]) (by simp [results, Tryz.results71, go_sem]) rfl ⟨_, _, _, _, rfl, rfl, rfl, rfl, rfl, fun _ => ⟨fun s hs => ?_, fun s hs => ?_, fun n s hs h1 h2 hr => ?_, rfl⟩, ?_⟩
  · exact act_acts _ _ _ 3 s (by omega) (by go_simp) (by simp <;> omega)
  · exact Or.inr ⟨_, rfl, enter_of Tryz.func119 (by kernel_rfl) (by kernel_rfl), fun W => twhatever s W⟩
  · exact ⟨_, rfl, enter_of Tryz.func120 (by kernel_rfl) (by kernel_rfl), fun W => tone n s W⟩
  · (repeat' (first | exact Below.refl _ _ | assumption | refine Below.drew ?_ | refine below_drewN ?_ _ | refine Below.alloc ?_ (by simp <;> omega) _ | refine Below.setCell ?_ (by simp <;> omega) _))
set_option maxRecDepth 100000 in
set_option maxHeartbeats 1000000 in
theorem tof_4 (k : Int) (hk : k = 4) (w : World) : Calls Tryz.prog 71 #[.int .i64 k] w (OfPost k w) := by
  subst hk
  go_enter Tryz.func71, Tryz.ntmps71
  go_wp2_with (first | (go_at_call 114; refine (tacts_c _ _).mono ?_; rintro e w1 ⟨rfl, rfl⟩) | (go_at_call 115; refine (tupTo_c _ _).mono ?_; rintro e w1 ⟨rfl, rfl⟩))
  refine bodyPost_ret (v := .tuple #[.agg #[.func (.func 162) #[] #[.pointer (some ⟨w.heap.size + 1, 0, none⟩)], .func (.func 163) #[] #[.pointer (some ⟨w.heap.size + 1 + 1, 0, none⟩)], .func (.func 128) #[] #[], .func (.func 130) #[] #[]], .bool true]) (by simp [results, Tryz.results71, go_sem]) rfl ⟨_, _, _, _, rfl, rfl, rfl, rfl, rfl, fun _ => ⟨fun s hs => ?_, fun s hs => ?_, fun n s hs h1 h2 hr => ?_, rfl⟩, ?_⟩
  · exact act_acts _ _ _ 2 s (by omega) (by go_simp) (by simp <;> omega)
  · exact act_upTo _ _ _ 12 s (by omega) (by go_simp) (by simp <;> omega)
  · simp [rightT] at hr
    exact ⟨_, rfl, enter_of Tryz.func128 (by kernel_rfl) (by kernel_rfl), fun W => tsizeMax n s hr.1 hr.2 W⟩
  · (repeat' (first | exact Below.refl _ _ | assumption | refine Below.drew ?_ | refine below_drewN ?_ _ | refine Below.alloc ?_ (by simp <;> omega) _ | refine Below.setCell ?_ (by simp <;> omega) _))
set_option maxRecDepth 100000 in
set_option maxHeartbeats 1000000 in
theorem tgreat_5 (k : Int) (hk : k = 5) (w : World) : Calls Tryz.prog 132 #[.int .i64 k] w (OfPost k w) := by
  subst hk
  go_enter Tryz.func132, Tryz.ntmps132
  go_wp2_with (first | (go_at_call 114; refine (tacts_c _ _).mono ?_; rintro e w1 ⟨rfl, rfl⟩) | (go_at_call 115; refine (tupTo_c _ _).mono ?_; rintro e w1 ⟨rfl, rfl⟩))
  refine bodyPost_ret (v := .tuple #[.agg #[.func (.func 162) #[] #[.pointer (some ⟨w.heap.size + 1, 0, none⟩)], .func (.func 163) #[] #[.pointer (some ⟨w.heap.size + 1 + 1, 0, none⟩)], .func (.func 164) #[] #[], .func (.func 166) #[] #[]], .bool true]) (by simp [results, Tryz.results132, go_sem]) rfl ⟨_, _, _, _, rfl, rfl, rfl, rfl, rfl, fun _ => ⟨fun s hs => ?_, fun s hs => ?_, fun n s hs h1 h2 hr => ?_, rfl⟩, ?_⟩
  · exact act_acts _ _ _ 2 s (by omega) (by go_simp) (by simp <;> omega)
  · exact act_upTo _ _ _ 64 s (by omega) (by go_simp) (by simp <;> omega)
  · simp [rightT] at hr
    exact ⟨_, rfl, enter_of Tryz.func164 (by kernel_rfl) (by kernel_rfl), fun W => tsizeSnap n s h1 h2 hr.1 hr.2 W⟩
  · (repeat' (first | exact Below.refl _ _ | assumption | refine Below.drew ?_ | refine below_drewN ?_ _ | refine Below.alloc ?_ (by simp <;> omega) _ | refine Below.setCell ?_ (by simp <;> omega) _))
set_option maxRecDepth 100000 in
set_option maxHeartbeats 1000000 in
theorem tgreat_6 (k : Int) (hk : k = 6) (w : World) : Calls Tryz.prog 132 #[.int .i64 k] w (OfPost k w) := by
  subst hk
  go_enter Tryz.func132, Tryz.ntmps132
  go_wp2_with (first | (go_at_call 114; refine (tacts_c _ _).mono ?_; rintro e w1 ⟨rfl, rfl⟩) | (go_at_call 115; refine (tupTo_c _ _).mono ?_; rintro e w1 ⟨rfl, rfl⟩))
  refine bodyPost_ret (v := .tuple #[.agg #[.func (.func 162) #[] #[.pointer (some ⟨w.heap.size + 1, 0, none⟩)], .func (.func 168) #[] #[], .func (.func 169) #[] #[], .func (.func 171) #[] #[]], .bool true]) (by simp [results, Tryz.results132, go_sem]) rfl ⟨_, _, _, _, rfl, rfl, rfl, rfl, rfl, fun _ => ⟨fun s hs => ?_, fun s hs => ?_, fun n s hs h1 h2 hr => ?_, rfl⟩, ?_⟩
  · exact act_acts _ _ _ 2 s (by omega) (by go_simp) (by simp <;> omega)
  · exact Or.inr ⟨_, rfl, enter_of Tryz.func168 (by kernel_rfl) (by kernel_rfl), fun W => trightMulti s W⟩
  · simp [rightT] at hr
    exact ⟨_, rfl, enter_of Tryz.func169 (by kernel_rfl) (by kernel_rfl), fun W => tsizeMulti n s h1 h2 hr.1 hr.2.1 hr.2.2.1 hr.2.2.2 W⟩
  · (repeat' (first | exact Below.refl _ _ | assumption | refine Below.drew ?_ | refine below_drewN ?_ _ | refine Below.alloc ?_ (by simp <;> omega) _ | refine Below.setCell ?_ (by simp <;> omega) _))
set_option maxRecDepth 100000 in
set_option maxHeartbeats 1000000 in
theorem tgreat_7 (k : Int) (hk : k = 7) (w : World) : Calls Tryz.prog 132 #[.int .i64 k] w (OfPost k w) := by
  subst hk
  go_enter Tryz.func132, Tryz.ntmps132
  go_wp2_with (first | (go_at_call 114; refine (tacts_c _ _).mono ?_; rintro e w1 ⟨rfl, rfl⟩) | (go_at_call 115; refine (tupTo_c _ _).mono ?_; rintro e w1 ⟨rfl, rfl⟩))
  refine bodyPost_ret (v := .tuple #[.agg #[.func (.func 173) #[] #[], .func (.func 175) #[] #[], .func (.func 177) #[] #[], .func (.func 178) #[] #[]], .bool true]) (by simp [results, Tryz.results132, go_sem]) rfl ⟨_, _, _, _, rfl, rfl, rfl, rfl, rfl, fun _ => ⟨fun s hs => ?_, fun s hs => ?_, fun n s hs h1 h2 hr => ?_, rfl⟩, ?_⟩
  · exact Or.inr ⟨_, rfl, enter_of Tryz.func173 (by kernel_rfl) (by kernel_rfl), fun W => tactsUniv s W⟩
  · exact Or.inr ⟨_, rfl, enter_of Tryz.func175 (by kernel_rfl) (by kernel_rfl), fun W => trightUniv s W⟩
  · simp [rightT] at hr
    exact ⟨_, rfl, enter_of Tryz.func177 (by kernel_rfl) (by kernel_rfl), fun W => tsizeUniv n s h1 h2 hr.2.1 hr.2.2 W⟩
  · (repeat' (first | exact Below.refl _ _ | assumption | refine Below.drew ?_ | refine below_drewN ?_ _ | refine Below.alloc ?_ (by simp <;> omega) _ | refine Below.setCell ?_ (by simp <;> omega) _))
set_option maxRecDepth 100000 in
set_option maxHeartbeats 1000000 in
theorem tgreat_8 (k : Int) (hk : k = 8) (w : World) : Calls Tryz.prog 132 #[.int .i64 k] w (OfPost k w) := by
  subst hk
  go_enter Tryz.func132, Tryz.ntmps132
  go_wp2_with (first | (go_at_call 114; refine (tacts_c _ _).mono ?_; rintro e w1 ⟨rfl, rfl⟩) | (go_at_call 115; refine (tupTo_c _ _).mono ?_; rintro e w1 ⟨rfl, rfl⟩))
  refine bodyPost_ret (v := .tuple #[.agg #[.func (.func 162) #[] #[.pointer (some ⟨w.heap.size + 1, 0, none⟩)], .func (.func 180) #[] #[], .func (.func 182) #[] #[], .func (.func 184) #[] #[]], .bool true]) (by simp [results, Tryz.results132, go_sem]) rfl ⟨_, _, _, _, rfl, rfl, rfl, rfl, rfl, fun _ => ⟨fun s hs => ?_, fun s hs => ?_, fun n s hs h1 h2 hr => ?_, rfl⟩, ?_⟩
  · exact act_acts _ _ _ 2 s (by omega) (by go_simp) (by simp <;> omega)
  · exact Or.inr ⟨_, rfl, enter_of Tryz.func180 (by kernel_rfl) (by kernel_rfl), fun W => trightQueue s W⟩
  · simp [rightT] at hr
    exact ⟨_, rfl, enter_of Tryz.func182 (by kernel_rfl) (by kernel_rfl), fun W => tsizeQueue n s h1 h2 hr.1 hr.2.1 W⟩
  · (repeat' (first | exact Below.refl _ _ | assumption | refine Below.drew ?_ | refine below_drewN ?_ _ | refine Below.alloc ?_ (by simp <;> omega) _ | refine Below.setCell ?_ (by simp <;> omega) _))
set_option maxRecDepth 100000 in
set_option maxHeartbeats 1000000 in
theorem tgreat_9 (k : Int) (hk : k = 9) (w : World) : Calls Tryz.prog 132 #[.int .i64 k] w (OfPost k w) := by
  subst hk
  go_enter Tryz.func132, Tryz.ntmps132
  go_wp2_with (first | (go_at_call 114; refine (tacts_c _ _).mono ?_; rintro e w1 ⟨rfl, rfl⟩) | (go_at_call 115; refine (tupTo_c _ _).mono ?_; rintro e w1 ⟨rfl, rfl⟩))
  refine bodyPost_ret (v := .tuple #[.agg #[.func (.func 162) #[] #[.pointer (some ⟨w.heap.size + 1, 0, none⟩)], .func (.func 163) #[] #[.pointer (some ⟨w.heap.size + 1 + 1, 0, none⟩)], .func (.func 186) #[] #[], .func (.func 188) #[] #[]], .bool true]) (by simp [results, Tryz.results132, go_sem]) rfl ⟨_, _, _, _, rfl, rfl, rfl, rfl, rfl, fun _ => ⟨fun s hs => ?_, fun s hs => ?_, fun n s hs h1 h2 hr => ?_, rfl⟩, ?_⟩
  · exact act_acts _ _ _ 2 s (by omega) (by go_simp) (by simp <;> omega)
  · exact act_upTo _ _ _ 8 s (by omega) (by go_simp) (by simp <;> omega)
  · simp [rightT] at hr
    exact ⟨_, rfl, enter_of Tryz.func186 (by kernel_rfl) (by kernel_rfl), fun W => tsizePin n s h1 h2 hr.1 hr.2 W⟩
  · (repeat' (first | exact Below.refl _ _ | assumption | refine Below.drew ?_ | refine below_drewN ?_ _ | refine Below.alloc ?_ (by simp <;> omega) _ | refine Below.setCell ?_ (by simp <;> omega) _))
set_option maxRecDepth 100000 in
set_option maxHeartbeats 1000000 in
theorem tgreat_none (k : Int) (hk : ¬ (5 ≤ k ∧ k ≤ 9)) (w : World) : Calls Tryz.prog 132 #[.int .i64 k] w fun e w' => e = .returned (.tuple #[.agg #[.nilFunc, .nilFunc, .nilFunc, .nilFunc], .bool false]) ∧ Below w.heap.size w w' := by
  have e5 : (k == 5) = false := by simp; omega
  have e6 : (k == 6) = false := by simp; omega
  have e7 : (k == 7) = false := by simp; omega
  have e8 : (k == 8) = false := by simp; omega
  have e9 : (k == 9) = false := by simp; omega
  clear hk
  go_enter Tryz.func132, Tryz.ntmps132
  go_wp2
  refine bodyPost_ret (v := .tuple #[.agg #[.nilFunc, .nilFunc, .nilFunc, .nilFunc], .bool false]) (by simp [results, Tryz.results132, go_sem]) rfl ⟨rfl, ?_⟩
  (repeat' (first | exact Below.refl _ _ | assumption | refine Below.drew ?_ | refine below_drewN ?_ _ | refine Below.alloc ?_ (by simp <;> omega) _ | refine Below.setCell ?_ (by simp <;> omega) _))
theorem tgreat_any (k : Int) (hk : ¬ (0 ≤ k ∧ k ≤ 4)) (w : World) : Calls Tryz.prog 132 #[.int .i64 k] w (OfPost k w) := by
  by_cases h : 5 ≤ k ∧ k ≤ 9
  · have h5 : k = 5 ∨ k = 6 ∨ k = 7 ∨ k = 8 ∨ k = 9 := by omega
    rcases h5 with h | h | h | h | h
    · exact tgreat_5 k h w
    · exact tgreat_6 k h w
    · exact tgreat_7 k h w
    · exact tgreat_8 k h w
    · exact tgreat_9 k h w
  · refine (tgreat_none k h w).mono ?_
    rintro e w' ⟨rfl, hb⟩
    refine ⟨.nilFunc, .nilFunc, .nilFunc, .nilFunc, ?_, rfl, rfl, rfl, rfl, fun h' => by omega, hb⟩
    rw [decide_eq_false (by omega)]
set_option maxRecDepth 100000 in
set_option maxHeartbeats 1000000 in
theorem tof_great (k : Int) (hk : ¬ (0 ≤ k ∧ k ≤ 4)) (w : World) : Calls Tryz.prog 71 #[.int .i64 k] w (OfPost k w) := by
  have N0 := fun W => tgreat_any k hk W
  unfold OfPost at N0
  obtain ⟨I, hI⟩ : ∃ I, decide (0 ≤ k ∧ k ≤ 9) = I := ⟨_, rfl⟩
  rw [hI] at N0
  have HI := hide hI
  have e0 : (k == 0) = false := by simp; omega
  have e1 : (k == 1) = false := by simp; omega
  have e2 : (k == 2) = false := by simp; omega
  have e3 : (k == 3) = false := by simp; omega
  have e4 : (k == 4) = false := by simp; omega
  clear hk hI
  go_enter Tryz.func71, Tryz.ntmps71
  go_wp2_with fail
  refine (N0 _).mono ?_
  rintro e w1 ⟨f1, f2, f3, f4, rfl, o1, o2, o3, o4, hsem, hb1⟩
  have hst1 : ∀ (w : World) (a : Addr) (m : Mode), (store a f1 m).run Tryz.prog w = stored Tryz.prog w a f1 m := fun w a m => run_store _ w a f1 m o1
  have hst2 : ∀ (w : World) (a : Addr) (m : Mode), (store a f2 m).run Tryz.prog w = stored Tryz.prog w a f2 m := fun w a m => run_store _ w a f2 m o2
  have hst3 : ∀ (w : World) (a : Addr) (m : Mode), (store a f3 m).run Tryz.prog w = stored Tryz.prog w a f3 m := fun w a m => run_store _ w a f3 m o3
  have hst4 : ∀ (w : World) (a : Addr) (m : Mode), (store a f4 m).run Tryz.prog w = stored Tryz.prog w a f4 m := fun w a m => run_store _ w a f4 m o4
  have hk1 : w1.heap[w.heap.size]? = some (.cells #[.nilFunc, .nilFunc, .nilFunc, .nilFunc] 131 (0, 0)) := (hb1.block _ (by simp)).trans (heap_alloc_new _ _)
  have z0 : w1.cell? ⟨w.heap.size, 0, none⟩ = some .nilFunc := cell_of_row w1 _ 0 _ _ _ hk1
  have z1 : w1.cell? ⟨w.heap.size, 1, none⟩ = some .nilFunc := cell_of_row w1 _ 1 _ _ _ hk1
  have z2 : w1.cell? ⟨w.heap.size, 2, none⟩ = some .nilFunc := cell_of_row w1 _ 2 _ _ _ hk1
  have z3 : w1.cell? ⟨w.heap.size, 3, none⟩ = some .nilFunc := cell_of_row w1 _ 3 _ _ _ hk1
  have y0 := frozen_of_row w1 w.heap.size 0 _ _ hk1
  have y1 := frozen_of_row w1 w.heap.size 1 _ _ hk1
  have y2 := frozen_of_row w1 w.heap.size 2 _ _ hk1
  have y3 := frozen_of_row w1 w.heap.size 3 _ _ hk1
  have hz : w.heap.size < w1.heap.size := (Array.getElem?_eq_some_iff.1 hk1).1
  have HS := hide hsem
  clear hsem hk1 N0
  go_wp2
  refine bodyPost_ret (v := .tuple #[.agg #[f1, f2, f3, f4], .bool I]) (by simp [results, Tryz.results71, go_sem, z0, z1, z2, z3]) rfl ⟨f1, f2, f3, f4, by rw [HI.out], o1, o2, o3, o4, fun h => ?_, ?_⟩
  · have hs := (HS.out h).mono (lo' := w.heap.size + 1) (by simp)
    refine KindSem.mono (lo := w.heap.size + 1) ?_ (by omega)
    repeat' (first | with_reducible exact hs | with_reducible refine KindSem.setCell ?_ _ _ ?_ | (simp; done) | omega)
  · have hB : Below w.heap.size w w1 := ((Below.refl _ w).alloc (Nat.le_refl _) _).trans (hb1.mono (by simp))
    repeat' (first | with_reducible exact hB | with_reducible refine Below.setCell ?_ ?_ _ | (simp; done) | omega)
theorem tof_any (k : Int) (w : World) : Calls Tryz.prog 71 #[.int .i64 k] w (OfPost k w) := by
  by_cases h : 0 ≤ k ∧ k ≤ 4
  · have h5 : k = 0 ∨ k = 1 ∨ k = 2 ∨ k = 3 ∨ k = 4 := by omega
    rcases h5 with h | h | h | h | h
    · exact tof_0 k h w
    · exact tof_1 k h w
    · exact tof_2 k h w
    · exact tof_3 k h w
    · exact tof_4 k h w
  · exact tof_great k h w
end Go.Proofs.YtmiimpmfkjcjlaaGreat

namespace Go.Proofs.YtmiimpmfkjcjlaaGreat
open Go.RowKit
attribute [local go_sem] run_store_fn run_store_nilfn
theorem threads_any (n : Int) (w : World) : Calls Tryz.prog 70 #[.int .i64 n] w fun e w' => e = .returned (.bool (decide (1 ≤ n) && decide (n ≤ 16))) ∧ w' = w := by
  go_enter Tryz.func70, Tryz.ntmps70
  go_wp2
  all_goals (go_ret; exact ⟨ret_bool (by first | rfl | (simp; done) | (rw [Bool.eq_iff_iff]; simp; done) | (rw [Bool.eq_iff_iff]; simp; omega)), rfl⟩)
set_option maxRecDepth 100000 in
set_option maxHeartbeats 1000000 in
theorem tsize_1 (n : Int) (s : Sp) (hn : ¬ (1 ≤ n ∧ n ≤ 16)) (w : World) : Calls Tryz.prog 36 #[.int .i64 n, spV s] w fun e w' => e = .returned (.tuple #[.int .i64 (sizeV n s), .int .i64 (sizeE n s)]) ∧ Below w.heap.size w w' := by
  have hE : sizeE n s = 1 := by unfold sizeE; rw [if_pos hn]
  have hV : sizeV n s = 0 := by unfold sizeV; rw [hE]; rfl
  rw [hE, hV]
  have hd : (decide (1 ≤ n) && decide (n ≤ 16)) = false := by rw [Bool.eq_false_iff]; simp; omega
  have N0 := fun W => threads_any n W
  rw [hd] at N0
  clear hE hV hn hd
  go_enter Tryz.func36, Tryz.ntmps36
  go_wp2_with fail
  refine (N0 _).mono ?_
  rintro e w1 ⟨rfl, rfl⟩
  go_wp2
  go_ret2
  exact ⟨rfl, by (repeat' (first | exact Below.refl _ _ | assumption | refine Below.drew ?_ | refine below_drewN ?_ _ | refine Below.alloc ?_ (by simp <;> omega) _ | refine Below.setCell ?_ (by simp <;> omega) _))⟩
set_option maxRecDepth 100000 in
set_option maxHeartbeats 1000000 in
theorem tsize_9 (n : Int) (s : Sp) (hn : 1 ≤ n ∧ n ≤ 16) (hk : ¬ (0 ≤ s.kind ∧ s.kind ≤ 9)) (w : World) : Calls Tryz.prog 36 #[.int .i64 n, spV s] w fun e w' => e = .returned (.tuple #[.int .i64 (sizeV n s), .int .i64 (sizeE n s)]) ∧ Below w.heap.size w w' := by
  have hE : sizeE n s = 9 := by unfold sizeE; rw [if_neg (by omega), if_pos hk]
  have hV : sizeV n s = 0 := by unfold sizeV; rw [hE]; rfl
  rw [hE, hV]
  have hd : (decide (1 ≤ n) && decide (n ≤ 16)) = true := by simp; omega
  have N0 := fun W => threads_any n W
  rw [hd] at N0
  have N1 := fun W => tof_any s.kind W
  unfold OfPost at N1
  rw [decide_eq_false hk] at N1
  clear hE hV hn hd hk
  go_enter Tryz.func36, Tryz.ntmps36
  go_wp2_with fail
  refine (N0 _).mono ?_
  rintro e w1 ⟨rfl, rfl⟩
  go_wp2_with fail
  refine (N1 _).mono ?_
  rintro e w2 ⟨f1, f2, f3, f4, rfl, o1, o2, o3, o4, hsem, hb1⟩
  (have hst1 : ∀ (w : World) (a : Addr) (m : Mode), (store a f1 m).run Tryz.prog w = stored Tryz.prog w a f1 m := fun w a m => run_store _ w a f1 m o1; have hst2 : ∀ (w : World) (a : Addr) (m : Mode), (store a f2 m).run Tryz.prog w = stored Tryz.prog w a f2 m := fun w a m => run_store _ w a f2 m o2; have hst3 : ∀ (w : World) (a : Addr) (m : Mode), (store a f3 m).run Tryz.prog w = stored Tryz.prog w a f3 m := fun w a m => run_store _ w a f3 m o3; have hst4 : ∀ (w : World) (a : Addr) (m : Mode), (store a f4 m).run Tryz.prog w = stored Tryz.prog w a f4 m := fun w a m => run_store _ w a f4 m o4)
  have hB := ((Below.refl _ w).alloc (Nat.le_refl _) (.cells #[.int .i64 s.kind, .int .i64 s.p, .int .i64 s.q] 23)).trans (hb1.mono (by simp))
  clear hsem hb1
  go_wp2
  go_ret2
  exact ⟨rfl, hB.alloc hB.size _⟩
set_option maxRecDepth 100000 in
set_option maxHeartbeats 1000000 in
theorem tsize_10 (n : Int) (s : Sp) (hn : 1 ≤ n ∧ n ≤ 16) (hk : 0 ≤ s.kind ∧ s.kind ≤ 9) (hr : rightT s.kind s.p s.q = false) (w : World) : Calls Tryz.prog 36 #[.int .i64 n, spV s] w fun e w' => e = .returned (.tuple #[.int .i64 (sizeV n s), .int .i64 (sizeE n s)]) ∧ Below w.heap.size w w' := by
  have hE : sizeE n s = 10 := by unfold sizeE; rw [if_neg (by omega), if_neg (by omega), if_pos hr]
  have hV : sizeV n s = 0 := by unfold sizeV; rw [hE]; rfl
  rw [hE, hV]
  have hd : (decide (1 ≤ n) && decide (n ≤ 16)) = true := by simp; omega
  have N0 := fun W => threads_any n W
  rw [hd] at N0
  have N1 := fun W => tof_any s.kind W
  unfold OfPost at N1
  rw [decide_eq_true hk] at N1
  have HR := hide hr
  clear hE hV hd hr
  go_enter Tryz.func36, Tryz.ntmps36
  go_wp2_with fail
  refine (N0 _).mono ?_
  rintro e w1 ⟨rfl, rfl⟩
  go_wp2_with fail
  refine (N1 _).mono ?_
  rintro e w2 ⟨f1, f2, f3, f4, rfl, o1, o2, o3, o4, hsem, hb1⟩
  have hB2 : Below (w.heap.size + 1) (w.alloc (.cells #[.int .i64 s.kind, .int .i64 s.p, .int .i64 s.q] 23)) w2 := hb1.mono (by simp)
  have hbox : w2.heap[w.heap.size]? = some (.cells #[.int .i64 s.kind, .int .i64 s.p, .int .i64 s.q] 23 (0, 0)) := (hB2.block _ (by omega)).trans (heap_alloc_new _ _)
  obtain ⟨x0, x1, x2, _, _, _, xz⟩ := cells3 hbox
  have hsem1 := hsem (by omega)
  clear hsem hb1
  (have hst1 : ∀ (w : World) (a : Addr) (m : Mode), (store a f1 m).run Tryz.prog w = stored Tryz.prog w a f1 m := fun w a m => run_store _ w a f1 m o1; have hst2 : ∀ (w : World) (a : Addr) (m : Mode), (store a f2 m).run Tryz.prog w = stored Tryz.prog w a f2 m := fun w a m => run_store _ w a f2 m o2; have hst3 : ∀ (w : World) (a : Addr) (m : Mode), (store a f3 m).run Tryz.prog w = stored Tryz.prog w a f3 m := fun w a m => run_store _ w a f3 m o3; have hst4 : ∀ (w : World) (a : Addr) (m : Mode), (store a f4 m).run Tryz.prog w = stored Tryz.prog w a f4 m := fun w a m => run_store _ w a f4 m o4)
  have hA := hsem1.right s rfl
  rw [HR.out] at hA
  clear hsem1
  rcases hA with ⟨g, B, c, rfl, hent, _, hBl, hBc, hcall⟩ | ⟨g, rfl, hent, hcall⟩
  · have HC := hide hcall
    have hc' := Lib.cell?_alloc_some (o := .cells #[f1, .func (.func g) #[] #[.pointer (some ⟨B, 0, none⟩)], f3, f4] 131) hBc
    clear hcall
    go_wp2_with fail
    refine (HC.out _ hc' (by simp; omega)).mono ?_
    rintro e w3 ⟨rfl, hb3⟩
    have hB3 : Below w.heap.size w w3 := (((Below.refl _ w).alloc (Nat.le_refl _) _).trans (hB2.mono (by omega))).alloc (by omega) _ |>.trans (hb3.mono (by simp; omega))
    go_wp2
    go_ret2
    exact ⟨rfl, hB3⟩
  · have HC := hide hcall
    clear hcall
    go_wp2_with fail
    refine (HC.out _).mono ?_
    rintro e w3 ⟨rfl, hb3⟩
    have hB3 : Below w.heap.size w w3 := (((Below.refl _ w).alloc (Nat.le_refl _) _).trans (hB2.mono (by omega))).alloc (by omega) _ |>.trans (hb3.mono (by simp; omega))
    go_wp2
    go_ret2
    exact ⟨rfl, hB3⟩
set_option maxRecDepth 100000 in
set_option maxHeartbeats 1000000 in
theorem tsize_0 (n : Int) (s : Sp) (hn : 1 ≤ n ∧ n ≤ 16) (hk : 0 ≤ s.kind ∧ s.kind ≤ 9) (hr : rightT s.kind s.p s.q = true) (w : World) : Calls Tryz.prog 36 #[.int .i64 n, spV s] w fun e w' => e = .returned (.tuple #[.int .i64 (sizeV n s), .int .i64 (sizeE n s)]) ∧ Below w.heap.size w w' := by
  have hE : sizeE n s = 0 := by unfold sizeE; rw [if_neg (by omega), if_neg (by omega), if_neg (by rw [hr]; decide)]
  have hV : sizeV n s = sizeT n s.kind s.p s.q := by unfold sizeV; rw [hE]; rfl
  rw [hE, hV]
  have hd : (decide (1 ≤ n) && decide (n ≤ 16)) = true := by simp; omega
  have N0 := fun W => threads_any n W
  rw [hd] at N0
  have N1 := fun W => tof_any s.kind W
  unfold OfPost at N1
  rw [decide_eq_true hk] at N1
  have HR := hide hr
  clear hE hV hd hr
  generalize hT : sizeT n s.kind s.p s.q = T
  have HT := hide hT
  clear hT
  go_enter Tryz.func36, Tryz.ntmps36
  go_wp2_with fail
  refine (N0 _).mono ?_
  rintro e w1 ⟨rfl, rfl⟩
  go_wp2_with fail
  refine (N1 _).mono ?_
  rintro e w2 ⟨f1, f2, f3, f4, rfl, o1, o2, o3, o4, hsem, hb1⟩
  have hB2 : Below (w.heap.size + 1) (w.alloc (.cells #[.int .i64 s.kind, .int .i64 s.p, .int .i64 s.q] 23)) w2 := hb1.mono (by simp)
  have hbox : w2.heap[w.heap.size]? = some (.cells #[.int .i64 s.kind, .int .i64 s.p, .int .i64 s.q] 23 (0, 0)) := (hB2.block _ (by omega)).trans (heap_alloc_new _ _)
  obtain ⟨x0, x1, x2, _, _, _, xz⟩ := cells3 hbox
  have hsem1 := hsem (by omega)
  clear hsem hb1
  (have hst1 : ∀ (w : World) (a : Addr) (m : Mode), (store a f1 m).run Tryz.prog w = stored Tryz.prog w a f1 m := fun w a m => run_store _ w a f1 m o1; have hst2 : ∀ (w : World) (a : Addr) (m : Mode), (store a f2 m).run Tryz.prog w = stored Tryz.prog w a f2 m := fun w a m => run_store _ w a f2 m o2; have hst3 : ∀ (w : World) (a : Addr) (m : Mode), (store a f3 m).run Tryz.prog w = stored Tryz.prog w a f3 m := fun w a m => run_store _ w a f3 m o3; have hst4 : ∀ (w : World) (a : Addr) (m : Mode), (store a f4 m).run Tryz.prog w = stored Tryz.prog w a f4 m := fun w a m => run_store _ w a f4 m o4)
  have hA := hsem1.right s rfl
  rw [HR.out] at hA
  have hA2 := hsem1.size n s rfl hn.1 hn.2 HR.out
  rw [HT.out] at hA2
  clear hsem1
  obtain ⟨g3, rfl, hent3, hcall3⟩ := hA2
  have HC3 := hide hcall3
  clear hcall3
  rcases hA with ⟨g, B, c, rfl, hent, _, hBl, hBc, hcall⟩ | ⟨g, rfl, hent, hcall⟩
  all_goals
    have HC := hide hcall
    clear hcall
    try have hc' := Lib.cell?_alloc_some (o := .cells #[f1, .func (.func g) #[] #[.pointer (some ⟨B, 0, none⟩)], .func (.func g3) #[] #[], f4] 131) hBc
    go_wp2_with fail
    first
      | (with_reducible refine (HC.out _ hc' (by simp; omega)).mono ?_)
      | (with_reducible refine (HC.out _).mono ?_)
    rintro e w3 ⟨rfl, hb3⟩
    obtain ⟨y0, y1, y2, y3, yz⟩ := cells4 ((hb3.block w2.heap.size (by simp)).trans (heap_alloc_new _ _))
    obtain ⟨u0, u1, u2, _, _, _, uz⟩ := cells3 ((hb3.block w.heap.size (by simp; omega)).trans ((heap_alloc_old _ _ xz).trans hbox))
    have hB3 : Below w.heap.size w w3 := (((Below.refl _ w).alloc (Nat.le_refl _) _).trans (hB2.mono (by omega))).alloc (by omega) _ |>.trans (hb3.mono (by simp; omega))
    clear x0 x1 x2 hB2 hbox hb3
    go_wp2_with fail
    refine (HC3.out _).mono ?_
    rintro e w4 ⟨rfl, hb4⟩
    go_wp2
    go_ret2
    exact ⟨rfl, hB3.trans (hb4.mono hB3.size)⟩
theorem tsize_any (n : Int) (s : Sp) (w : World) : Calls Tryz.prog 36 #[.int .i64 n, spV s] w fun e w' => e = .returned (.tuple #[.int .i64 (sizeV n s), .int .i64 (sizeE n s)]) ∧ Below w.heap.size w w' := by
  by_cases hn : 1 ≤ n ∧ n ≤ 16
  · by_cases hk : 0 ≤ s.kind ∧ s.kind ≤ 9
    · by_cases hr : rightT s.kind s.p s.q = true
      · exact tsize_0 n s hn hk hr w
      · exact tsize_10 n s hn hk (by simpa using hr) w
    · exact tsize_9 n s hn hk w
  · exact tsize_1 n s hn w
set_option maxRecDepth 100000 in
set_option maxHeartbeats 1000000 in
theorem tkinds_any (s : Sp) (w : World) : Calls Tryz.prog 78 #[spV s] w fun e w' => e = .returned (.int .i64 (actsT s.kind s.p)) ∧ Below w.heap.size w w' := by
  have N1 := fun W => tof_any s.kind W
  unfold OfPost at N1
  by_cases hk : 0 ≤ s.kind ∧ s.kind ≤ 9
  · rw [decide_eq_true hk] at N1
    generalize hT : actsT s.kind s.p = T
    have HT := hide hT
    have HK := hide hk
    clear hT hk
    go_enter Tryz.func78, Tryz.ntmps78
    go_wp2_with fail
    refine (N1 _).mono ?_
    rintro e w2 ⟨f1, f2, f3, f4, rfl, o1, o2, o3, o4, hsem, hb1⟩
    have hB2 : Below (w.heap.size + 1) (w.alloc (.cells #[.int .i64 s.kind, .int .i64 s.p, .int .i64 s.q] 23)) w2 := hb1.mono (by simp)
    have hbox : w2.heap[w.heap.size]? = some (.cells #[.int .i64 s.kind, .int .i64 s.p, .int .i64 s.q] 23 (0, 0)) := (hB2.block _ (by omega)).trans (heap_alloc_new _ _)
    obtain ⟨x0, x1, x2, _, _, _, xz⟩ := cells3 hbox
    have hA := (hsem HK.out).acts s rfl
    rw [HT.out] at hA
    clear hsem hb1
    (have hst1 : ∀ (w : World) (a : Addr) (m : Mode), (store a f1 m).run Tryz.prog w = stored Tryz.prog w a f1 m := fun w a m => run_store _ w a f1 m o1; have hst2 : ∀ (w : World) (a : Addr) (m : Mode), (store a f2 m).run Tryz.prog w = stored Tryz.prog w a f2 m := fun w a m => run_store _ w a f2 m o2; have hst3 : ∀ (w : World) (a : Addr) (m : Mode), (store a f3 m).run Tryz.prog w = stored Tryz.prog w a f3 m := fun w a m => run_store _ w a f3 m o3; have hst4 : ∀ (w : World) (a : Addr) (m : Mode), (store a f4 m).run Tryz.prog w = stored Tryz.prog w a f4 m := fun w a m => run_store _ w a f4 m o4)
    rcases hA with ⟨g, B, c, rfl, hent, _, hBl, hBc, hcall⟩ | ⟨g, rfl, hent, hcall⟩
    all_goals
      have HC := hide hcall
      clear hcall
      try have hc' := Lib.cell?_alloc_some (o := .cells #[.func (.func g) #[] #[.pointer (some ⟨B, 0, none⟩)], f2, f3, f4] 131) hBc
      go_wp2_with fail
      first
        | (with_reducible refine (HC.out _ hc' (by simp; omega)).mono ?_)
        | (with_reducible refine (HC.out _).mono ?_)
      rintro e w3 ⟨rfl, hb3⟩
      have hB3 : Below w.heap.size w w3 := (((Below.refl _ w).alloc (Nat.le_refl _) _).trans (hB2.mono (by omega))).alloc (by omega) _ |>.trans (hb3.mono (by simp; omega))
      go_wp2
      go_ret
      exact ⟨rfl, hB3⟩
  · rw [decide_eq_false hk] at N1
    have hT : actsT s.kind s.p = 0 := by unfold actsT; rw [if_neg (by omega), if_neg (by omega), if_neg (by omega), if_neg (by omega)]
    rw [hT]
    clear hT hk
    go_enter Tryz.func78, Tryz.ntmps78
    go_wp2_with fail
    refine (N1 _).mono ?_
    rintro e w2 ⟨f1, f2, f3, f4, rfl, o1, o2, o3, o4, hsem, hb1⟩
    (have hst1 : ∀ (w : World) (a : Addr) (m : Mode), (store a f1 m).run Tryz.prog w = stored Tryz.prog w a f1 m := fun w a m => run_store _ w a f1 m o1; have hst2 : ∀ (w : World) (a : Addr) (m : Mode), (store a f2 m).run Tryz.prog w = stored Tryz.prog w a f2 m := fun w a m => run_store _ w a f2 m o2; have hst3 : ∀ (w : World) (a : Addr) (m : Mode), (store a f3 m).run Tryz.prog w = stored Tryz.prog w a f3 m := fun w a m => run_store _ w a f3 m o3; have hst4 : ∀ (w : World) (a : Addr) (m : Mode), (store a f4 m).run Tryz.prog w = stored Tryz.prog w a f4 m := fun w a m => run_store _ w a f4 m o4)
    have hB := ((Below.refl _ w).alloc (Nat.le_refl _) (.cells #[.int .i64 s.kind, .int .i64 s.p, .int .i64 s.q] 23)).trans (hb1.mono (by simp))
    clear hsem hb1
    go_wp2
    go_ret
    exact ⟨rfl, hB.alloc hB.size _⟩
end Go.Proofs.YtmiimpmfkjcjlaaGreat
