/- Scans of a lattice's snapshot: what they see is how all stood at a tick of theirs. -/
import Derived.Test.YtlfingcmekifkaaBun3
namespace Go.Proofs.Ytlfingcmekifkaa
open Go.RowKit

/-- What the words do not tell: how many updates each thread had made at each tick; the values, and the moments, of updates. -/
structure Gh where
  H : Int → Nat → Nat
  v : Nat → Nat → Int
  tm : Nat → Nat → Int
def Gh.vv (g : Gh) (t k : Nat) : Int := if k = 0 then 0 else g.v t k
def cellV (n p t k : Nat) : Int := if k = 0 then 0 else (recA n p t (k - 1) : Nat)
def Gh.view (g : Gh) (m : Int) (k : Nat) : List Int := (List.range k).map fun j => g.vv j (g.H m j)
theorem view_succ (g : Gh) (m : Int) (k : Nat) : g.view m (k + 1) = g.view m k ++ [g.vv k (g.H m k)] := by
  unfold Gh.view
  rw [List.range_succ, List.map_append]
  rfl
theorem view_len (g : Gh) (m : Int) (k : Nat) : (g.view m k).length = k := by unfold Gh.view; simp
structure GOk (g : Gh) (N : Int) : Prop where
  mono : ∀ τ τ' t, τ ≤ τ' → g.H τ t ≤ g.H τ' t
  fut : ∀ τ t, N ≤ τ → g.H τ t = g.H N t
theorem recA_inj {n p t r r' : Nat} (h : recA n p t r = recA n p t r') : r = r' := by
  unfold recA at h
  have h1 : (t * p + r) * (n + 1) = (t * p + r') * (n + 1) := by omega
  have := Nat.eq_of_mul_eq_mul_right (Nat.succ_pos n) h1
  omega
theorem cellV_inj {n p t k k' : Nat} (hn : 1 ≤ n) (h : cellV n p t k = cellV n p t k') : k = k' := by
  unfold cellV at h
  have hp : ∀ r, 1 ≤ recA n p t r := fun r => by unfold recA; omega
  split at h <;> split at h
  · omega
  · have := hp (k' - 1); omega
  · have := hp (k - 1); omega
  · have := recA_inj (Int.ofNat.inj h)
    omega
theorem cellV_zero {n p t k : Nat} (hn : 1 ≤ n) (h : cellV n p t k = 0) : k = 0 := cellV_inj (p := p) (t := t) hn (h.trans rfl)
/-- How many of the first n are marked. -/
def cntD : Nat → (Nat → Bool) → Nat
  | 0, _ => 0
  | n + 1, d => cntD n d + if d n then 1 else 0
theorem cntD_le (d : Nat → Bool) : ∀ n, cntD n d ≤ n
  | 0 => Nat.le_refl _
  | n + 1 => by
    have := cntD_le d n
    show cntD n d + _ ≤ _
    split <;> omega
theorem cntD_lt {d : Nat → Bool} {t : Nat} (h : d t = false) : ∀ n, t < n → cntD n d + 1 ≤ n
  | 0, ht => by omega
  | n + 1, ht => by
    show cntD n d + _ + 1 ≤ _
    by_cases e : t = n
    · subst e
      have := cntD_le d t
      rw [h]
      simp
      omega
    · have := cntD_lt h n (by omega)
      split <;> omega
theorem cntD_mono {d d' : Nat → Bool} (h : ∀ i, d i = true → d' i = true) : ∀ n, cntD n d ≤ cntD n d'
  | 0 => Nat.le_refl _
  | n + 1 => by
    have := cntD_mono h n
    show cntD n d + _ ≤ cntD n d' + _
    by_cases e : d n = true
    · rw [e, h n e]; omega
    · rw [if_neg e]; split <;> omega
theorem cntD_more {d d' : Nat → Bool} {t : Nat} (h : ∀ i, d i = true → d' i = true) (h0 : d t = false) (h1 : d' t = true) : ∀ n, t < n → cntD n d + 1 ≤ cntD n d'
  | 0, ht => by omega
  | n + 1, ht => by
    show cntD n d + _ + 1 ≤ cntD n d' + _
    by_cases e : t = n
    · subst e
      have := cntD_mono h t
      rw [h0, h1]
      simp
      omega
    · have := cntD_more h h0 h1 n (by omega)
      by_cases e : d n = true
      · rw [e, h n e]; omega
      · rw [if_neg e]; split <;> omega

/-- A scan of the thread t, begun at tick b, as it stands behind tick N. -/
def ScOk (n p : Nat) (g : Gh) (t : Nat) (b N : Int) (s : Sc) : Prop :=
  (∀ τ, b ≤ τ → g.H τ t = g.H N t) ∧ b ≤ N + 1 ∧
  ((s.pc = 0 ∧ s.at_ < n ∧ s.list = [] ∧ s.rounds = 0 ∧ (∀ i, s.diff i = false) ∧ ∀ i, i < s.at_ → ∃ τ, b ≤ τ ∧ τ ≤ N ∧ s.now i = cellV n p i (g.H τ i)) ∨
   (s.pc = 0 ∧ s.at_ < n ∧ s.list = [] ∧ 1 ≤ s.rounds ∧ s.rounds ≤ 1 + cntD n s.diff ∧ s.diff t = false ∧ b ≤ s.last ∧ s.last ≤ N ∧
     (∀ i, i < n → ∃ k, s.old i = cellV n p i k ∧ (∃ τ, b ≤ τ ∧ τ ≤ s.last ∧ g.H τ i = k) ∧ (s.diff i = true → ∃ τ, b ≤ τ ∧ τ ≤ N ∧ g.H τ i < k)) ∧
     ∀ i, i < s.at_ → ∃ σ, s.last < σ ∧ σ ≤ N ∧ s.now i = cellV n p i (g.H σ i)) ∨
   (s.pc = 1 ∧ s.at_ < n ∧ s.now s.at_ ≠ 0 ∧ s.rounds ≤ n + 1 ∧ b ≤ s.moment ∧ s.moment ≤ N ∧ s.list = g.view s.moment s.at_ ∧ ∀ i, i < n → s.now i = cellV n p i (g.H s.moment i)) ∨
   (s.pc = 2 ∧ s.at_ < n ∧ s.rounds ≤ n + 1 ∧ b ≤ s.moment ∧ s.moment ≤ N ∧ s.list = g.view s.moment s.at_ ∧ ∃ a k, a < n ∧ 1 ≤ k ∧ k ≤ g.H N a ∧ s.from_ = (recA n p a (k - 1) : Nat) ∧ s.moment = g.tm a k) ∨
   (s.pc = 3 ∧ s.at_ = n ∧ s.rounds ≤ n + 1 ∧ b ≤ s.moment ∧ s.moment ≤ N ∧ s.list = g.view s.moment n))
theorem ScOk.pc {n p : Nat} {g : Gh} {t : Nat} {b N : Int} {s : Sc} (h : ScOk n p g t b N s) : s.pc ≤ 3 := by
  obtain ⟨_, _, h | h | h | h | h⟩ := h <;> (have := h.1; omega)
theorem ScOk.new {n p : Nat} (hn : 1 ≤ n) {g : Gh} {t : Nat} {b N : Int} (h : ∀ τ, b ≤ τ → g.H τ t = g.H N t) (hb : b ≤ N + 1) : ScOk n p g t b N Sc.new :=
  ⟨h, hb, Or.inl ⟨rfl, hn, rfl, rfl, fun _ => rfl, fun i hi => absurd hi (Nat.not_lt_zero i)⟩⟩
/-- The words, as they stand behind tick N. -/
structure MemOk (n p : Nat) (g : Gh) (N : Int) (w : Lw) : Prop where
  len : w.mem.words.length = n + n * p * (n + 1)
  cell : ∀ t, t < n → w.mem.at t = cellV n p t (g.H N t)
  le : ∀ t, g.H N t ≤ p
  val : ∀ t k, t < n → 1 ≤ k → k ≤ g.H N t → w.mem.at (recA n p t (k - 1) : Nat) = g.v t k
  view : ∀ t k, t < n → 1 ≤ k → k ≤ g.H N t → ∀ s, s < n → w.mem.at ((recA n p t (k - 1) : Nat) + 1 + s) = g.vv s (g.H (g.tm t k) s)
  trace : ∀ t k, t < n → 1 ≤ k → k ≤ g.H N t → w.traces (recA n p t (k - 1) : Nat) = [g.tm t k]
  tmo : ∀ t k, t < n → 1 ≤ k → k ≤ g.H N t → g.H (g.tm t k) t = k - 1 ∧ g.tm t k ≤ N
theorem recA_in {n p t r : Nat} (ht : t < n) (hr : r < p) : recA n p t r + n + 1 ≤ n + n * p * (n + 1) := by
  unfold recA
  have h1 : t * p + r + 1 ≤ n * p := by
    have : (t + 1) * p ≤ n * p := Nat.mul_le_mul_right p ht
    rw [Nat.succ_mul] at this
    omega
  have h2 : (t * p + r + 1) * (n + 1) ≤ n * p * (n + 1) := Nat.mul_le_mul_right (n + 1) h1
  rw [Nat.succ_mul] at h2
  omega
theorem passN_ok (n p : Nat) (g : Gh) (hn : 1 ≤ n) : ∀ (f : Nat) (s : Sc), s.at_ ≤ n → n - s.at_ ≤ f → s.list = g.view s.moment s.at_ → (∀ i, i < n → s.now i = cellV n p i (g.H s.moment i)) →
    ∃ k, s.at_ ≤ k ∧ k ≤ n ∧ passN n f s = { s with list := g.view s.moment k, at_ := k } ∧ (k < n → s.now k ≠ 0)
  | 0, s, h1, h2, h3, _ => ⟨s.at_, Nat.le_refl _, h1, by show s = _; rw [← h3], fun h => by omega⟩
  | f + 1, s, h1, h2, h3, h4 => by
    have hu : passN n (f + 1) s = if s.at_ < n ∧ s.now s.at_ = 0 then passN n f { s with list := s.list ++ [0], at_ := s.at_ + 1 } else s := rfl
    rw [hu]
    by_cases h : s.at_ < n ∧ s.now s.at_ = 0
    · rw [if_pos h]
      have hz : g.vv s.at_ (g.H s.moment s.at_) = 0 := by
        have := h4 s.at_ h.1
        rw [h.2] at this
        rw [cellV_zero hn this.symm]
        rfl
      obtain ⟨k, a1, a2, a3, a4⟩ := passN_ok n p g hn f { s with list := s.list ++ [0], at_ := s.at_ + 1 } h.1 (by show n - (s.at_ + 1) ≤ f; omega) (by show s.list ++ [0] = g.view s.moment (s.at_ + 1); rw [view_succ, hz, h3]) h4
      exact ⟨k, by have : s.at_ + 1 ≤ k := a1; omega, a2, a3, a4⟩
    · rw [if_neg h]
      refine ⟨s.at_, Nat.le_refl _, h1, by rw [← h3], fun hk hz => h ⟨hk, hz⟩⟩
theorem pass_ok {n p : Nat} {g : Gh} (hn : 1 ≤ n) {t : Nat} {b N : Int} {s : Sc} (ho : ∀ τ, b ≤ τ → g.H τ t = g.H N t) (hb : b ≤ N + 1) (hp : s.pc = 1) (ha : s.at_ ≤ n) (hr : s.rounds ≤ n + 1) (hm : b ≤ s.moment) (hm' : s.moment ≤ N) (hl : s.list = g.view s.moment s.at_) (hc : ∀ i, i < n → s.now i = cellV n p i (g.H s.moment i)) :
    ScOk n p g t b N (s.pass n) ∧ (s.pass n).rounds = s.rounds ∧ s.at_ ≤ (s.pass n).at_ := by
  obtain ⟨k, k1, k2, k3, k4⟩ := passN_ok n p g hn n s ha (by omega) hl hc
  unfold Sc.pass
  rw [k3]
  by_cases h : k = n
  · rw [if_pos h]
    exact ⟨⟨ho, hb, Or.inr (Or.inr (Or.inr (Or.inr ⟨rfl, h, hr, hm, hm', by show g.view s.moment k = _; rw [h]⟩)))⟩, rfl, k1⟩
  · rw [if_neg h]
    exact ⟨⟨ho, hb, Or.inr (Or.inr (Or.inl ⟨hp, by show k < n; omega, k4 (by omega), hr, hm, hm', rfl, hc⟩))⟩, rfl, k1⟩
theorem eqN_true {n : Nat} {s : Sc} (h : eqN n s = true) : ∀ i, i < n → s.old i = s.now i := fun i hi => of_decide_eq_true (List.all_eq_true.1 h i (List.mem_range.2 hi))
theorem eqN_false {n : Nat} {s : Sc} (h : ¬ eqN n s = true) : ∃ i, i < n ∧ s.old i ≠ s.now i := by
  refine Classical.byContradiction fun hc => h (List.all_eq_true.2 fun i hi => decide_eq_true ?_)
  exact Classical.byContradiction fun he => hc ⟨i, List.mem_range.1 hi, he⟩
/-- The collect is whole. -/
theorem held_ok {n p : Nat} {g : Gh} (hn : 1 ≤ n) {t : Nat} (ht : t < n) {b N : Int} {s : Sc} {w : Lw} (hg : GOk g N) (hm : MemOk n p g N w) (ho : ∀ τ, b ≤ τ → g.H τ t = g.H N t) (hb : b ≤ N + 1) (hpc : s.pc = 0) (hat : s.at_ = n) (hli : s.list = [])
    (h : (s.rounds = 0 ∧ (∀ i, s.diff i = false) ∧ ∀ i, i < n → ∃ τ, b ≤ τ ∧ τ ≤ N + 1 ∧ s.now i = cellV n p i (g.H τ i)) ∨
      (1 ≤ s.rounds ∧ s.rounds ≤ 1 + cntD n s.diff ∧ s.diff t = false ∧ b ≤ s.last ∧ s.last ≤ N ∧
     (∀ i, i < n → ∃ k, s.old i = cellV n p i k ∧ (∃ τ, b ≤ τ ∧ τ ≤ s.last ∧ g.H τ i = k) ∧ (s.diff i = true → ∃ τ, b ≤ τ ∧ τ ≤ N ∧ g.H τ i < k)) ∧
     ∀ i, i < n → ∃ σ, s.last < σ ∧ σ ≤ N + 1 ∧ s.now i = cellV n p i (g.H σ i))) :
    ScOk n p g t b (N + 1) (s.held n (N + 1) w.traces) ∧ s.rounds * n + n ≤ (s.held n (N + 1) w.traces).rounds * n + (s.held n (N + 1) w.traces).at_ := by
  have hN : g.H (N + 1) t = g.H N t := hg.fut _ _ (by omega)
  have ho' : ∀ τ, b ≤ τ → g.H τ t = g.H (N + 1) t := fun τ h => by rw [hN]; exact ho τ h
  have hmul : (s.rounds + 1) * n = s.rounds * n + n := Nat.succ_mul _ _
  unfold Sc.held
  rcases h with ⟨h1, h2, h3⟩ | ⟨h1, h2, h3, h4, h5, h6, h7⟩
  · rw [if_pos h1]
    refine ⟨⟨ho', by omega, Or.inr (Or.inl ⟨hpc, hn, hli, by show 1 ≤ s.rounds + 1; omega, by show s.rounds + 1 ≤ _; omega, h2 t, hb, Int.le_refl _, fun i hi => ?_, fun i hi => absurd hi (Nat.not_lt_zero i)⟩)⟩, by show _ ≤ (s.rounds + 1) * n + 0; omega⟩
    obtain ⟨τ, a1, a2, a3⟩ := h3 i hi
    exact ⟨_, a3, ⟨τ, a1, a2, rfl⟩, fun hd => by have hd : s.diff i = true := hd; rw [h2 i] at hd; cases hd⟩
  · rw [if_neg (by omega)]
    have hcd := cntD_lt h3 n ht
    -- what is seen now is no less than what was seen
    have hle : ∀ i, i < n → ∃ k k', s.old i = cellV n p i k ∧ s.now i = cellV n p i k' ∧ k ≤ k' ∧ k ≤ g.H s.last i ∧ g.H s.last i ≤ k' ∧ k' ≤ g.H N i ∧ (s.diff i = true → ∃ τ, b ≤ τ ∧ τ ≤ N ∧ g.H τ i < k) ∧ ∃ τ, b ≤ τ ∧ τ ≤ N ∧ g.H τ i = k := by
      intro i hi
      obtain ⟨k, a1, ⟨τ, a2, a3, a4⟩, a5⟩ := h6 i hi
      obtain ⟨σ, c1, c2, c3⟩ := h7 i hi
      have m1 := hg.mono τ s.last i a3
      have m2 := hg.mono s.last σ i (by omega)
      have m3 := hg.mono σ (N + 1) i c2
      rw [hg.fut (N + 1) i (by omega)] at m3
      exact ⟨k, _, a1, c3, by omega, by omega, m2, m3, a5, τ, a2, by omega, a4⟩
    by_cases he : eqN n s = true
    · rw [if_pos he]
      have := pass_ok (n := n) (p := p) (g := g) (t := t) (b := b) (N := N + 1) (s := { s with at_ := 0, rounds := s.rounds + 1, pc := 1, moment := s.last }) hn ho' (by omega) rfl (Nat.zero_le _) (by show s.rounds + 1 ≤ _; omega) h4 (by show s.last ≤ _; omega) (by show s.list = _; rw [hli]; rfl) (fun i hi => by
        obtain ⟨k, k', a1, a2, a3, a4, a5, _⟩ := hle i hi
        have e := eqN_true he i hi
        rw [a1, a2] at e
        have e := cellV_inj hn e
        show s.now i = cellV n p i (g.H s.last i)
        rw [a2, show k' = g.H s.last i by omega])
      obtain ⟨q1, q2, q3⟩ := this
      refine ⟨q1, ?_⟩
      rw [q2]
      show _ ≤ (s.rounds + 1) * n + _
      omega
    · rw [if_neg he]
      cases hf : fndN n s with
      | some i =>
        have hp := List.find?_some hf
        have hi : i < n := List.mem_range.1 (List.mem_of_find?_eq_some hf)
        simp only [Bool.and_eq_true, decide_eq_true_eq] at hp
        obtain ⟨d1, d2⟩ := hp
        obtain ⟨k, k', a1, a2, a3, a4, a5, a6, a7, _⟩ := hle i hi
        obtain ⟨τ, e1, e2, e3⟩ := a7 d2
        have hne : k ≠ k' := fun e => d1 (by rw [a1, a2, e])
        have hnw : s.now i = (recA n p i (k' - 1) : Nat) := by rw [a2]; unfold cellV; rw [if_neg (by omega)]
        have htr := hm.trace i k' hi (by omega) a6
        obtain ⟨t1, t2⟩ := hm.tmo i k' hi (by omega) a6
        have hmo : (w.traces (s.now i)).headD 0 = g.tm i k' := by rw [hnw, htr]; rfl
        have hbm : b ≤ g.tm i k' := by
          rcases Int.lt_or_le (g.tm i k') τ with hlt | hge
          · have := hg.mono _ _ i (Int.le_of_lt hlt)
            omega
          · omega
        refine ⟨⟨ho', by omega, Or.inr (Or.inr (Or.inr (Or.inl ⟨rfl, hn, by show s.rounds + 1 ≤ _; omega, ?_, ?_, ?_, i, k', hi, by omega, ?_, hnw, hmo⟩)))⟩, by show _ ≤ (s.rounds + 1) * n + 0; omega⟩
        · show b ≤ (w.traces (s.now i)).headD 0
          rw [hmo]; exact hbm
        · show (w.traces (s.now i)).headD 0 ≤ N + 1
          rw [hmo]; omega
        · show s.list = _
          rw [hli]
          rfl
        · rw [hg.fut (N + 1) i (by omega)]; exact a6
      | none =>
        have hno : ∀ i, i < n → s.old i ≠ s.now i → s.diff i = false := fun i hi hne => by
          have := List.find?_eq_none.1 hf i (List.mem_range.2 hi)
          simp only [Bool.and_eq_true, decide_eq_true_eq, not_and] at this
          simpa using this hne
        obtain ⟨j, j1, j2⟩ := eqN_false he
        have hmk : ∀ i, i < n → s.old i ≠ s.now i → markN n s i = true := fun i hi hne => by
          unfold markN
          rw [decide_eq_true hi, decide_eq_true hne]
          simp
        have hmo : ∀ i, s.diff i = true → markN n s i = true := fun i hi => by unfold markN; rw [hi]; rfl
        have hown : s.old t = s.now t := by
          obtain ⟨k, a1, ⟨τ, a2, a3, a4⟩, a5⟩ := h6 t ht
          obtain ⟨σ, c1, c2, c3⟩ := h7 t ht
          rw [a1, c3, ← a4, ho τ a2, ho σ (by omega)]
        have hmt : markN n s t = false := by
          unfold markN
          rw [h3, decide_eq_false (fun h : s.old t ≠ s.now t => h hown)]
          simp
        have hmore := cntD_more hmo (hno j j1 j2) (hmk j j1 j2) n j1
        refine ⟨⟨ho', by omega, Or.inr (Or.inl ⟨hpc, hn, hli, by show 1 ≤ s.rounds + 1; omega, by show s.rounds + 1 ≤ 1 + cntD n (markN n s); omega, hmt, hb, Int.le_refl _, fun i hi => ?_, fun i hi => absurd hi (Nat.not_lt_zero i)⟩)⟩, by show _ ≤ (s.rounds + 1) * n + 0; omega⟩
        obtain ⟨k, k', a1, a2, a3, a4, a5, a6, a7, τ, a8, a9, a10⟩ := hle i hi
        obtain ⟨σ, c1, c2, c3⟩ := h7 i hi
        refine ⟨k', a2, ⟨σ, by omega, c2, ?_⟩, fun hd => ?_⟩
        · rw [a2] at c3
          exact (cellV_inj hn c3).symm
        · by_cases hne : s.old i = s.now i
          · have e : k = k' := cellV_inj hn (by rw [← a1, ← a2, hne])
            have hd0 : s.diff i = true := by
              have hd : markN n s i = true := hd
              unfold markN at hd
              rw [decide_eq_false (fun h : s.old i ≠ s.now i => h hne)] at hd
              simpa using hd
            obtain ⟨τ', e1, e2, e3⟩ := a7 hd0
            exact ⟨τ', e1, by omega, by omega⟩
          · have hkk : k ≠ k' := fun e => hne (by rw [a1, a2, e])
            exact ⟨τ, a8, by omega, by omega⟩
theorem ScOk.step {n p : Nat} {g : Gh} (hn : 1 ≤ n) {t : Nat} (ht : t < n) {b N : Int} {s : Sc} {w : Lw} (hg : GOk g N) (hm : MemOk n p g N w) (hw : w.now = N + 1) (h : ScOk n p g t b N s) (hpc : s.pc ≠ 3) :
    ScOk n p g t b (N + 1) (s.step n w).1 ∧ s.rounds * n + s.at_ + 1 ≤ (s.step n w).1.rounds * n + (s.step n w).1.at_ ∧ (s.step n w).2.mem = w.mem.acc 0 s.addr 0 0 ∧ w.mem.in s.addr := by
  obtain ⟨ho, hb, hc⟩ := h
  have hN : g.H (N + 1) t = g.H N t := hg.fut _ _ (by omega)
  have ho' : ∀ τ, b ≤ τ → g.H τ t = g.H (N + 1) t := fun τ h => by rw [hN]; exact ho τ h
  have hcell : ∀ i, i < n → w.mem.in (i : Int) ∧ w.mem.tell 0 (i : Int) 0 = cellV n p i (g.H (N + 1) i) := fun i hi => by
    have hin : w.mem.in (i : Int) := ⟨by omega, by rw [hm.len]; omega⟩
    refine ⟨hin, ?_⟩
    rw [mm_tell hin, hg.fut (N + 1) i (by omega), ← hm.cell i hi]
    rfl
  unfold Sc.step
  dsimp only
  rcases hc with ⟨c1, c2, c3, c4, c5, c6⟩ | ⟨c1, c2, c3, c4, c5, c6, c7, c8, c9, c10⟩ | ⟨c1, c2, c3, c4, c5, c6, c7, c8⟩ | ⟨c1, c2, c3, c4, c5, c6, a, k, c7, c8, c9, c10, c11⟩ | ⟨c1, _⟩
  · have had : s.addr = (s.at_ : Int) := by unfold Sc.addr; rw [if_pos c1]
    obtain ⟨hin, htl⟩ := hcell s.at_ c2
    rw [if_pos c1, had, htl, hw]
    dsimp only
    have hnow : ∀ i, i < s.at_ + 1 → ∃ τ, b ≤ τ ∧ τ ≤ N + 1 ∧ (s.read (cellV n p s.at_ (g.H (N + 1) s.at_))).now i = cellV n p i (g.H τ i) := fun i hi => by
      show ∃ τ, b ≤ τ ∧ τ ≤ N + 1 ∧ upd s.now s.at_ _ i = _
      by_cases e : i = s.at_
      · subst e
        exact ⟨N + 1, hb, Int.le_refl _, upd_same _ _ _⟩
      · obtain ⟨τ, q1, q2, q3⟩ := c6 i (by omega)
        exact ⟨τ, q1, by omega, by rw [upd_other e]; exact q3⟩
    refine ⟨?_, ?_, rfl, hin⟩
    · by_cases e : s.at_ + 1 = n
      · rw [if_pos e]
        exact (held_ok (s := s.read _) hn ht hg hm ho hb c1 e c3 (Or.inl ⟨c4, c5, fun i hi => hnow i (by omega)⟩)).1
      · rw [if_neg e]
        exact ⟨ho', by omega, Or.inl ⟨c1, by show s.at_ + 1 < n; omega, c3, c4, c5, hnow⟩⟩
    · by_cases e : s.at_ + 1 = n
      · rw [if_pos e]
        have := (held_ok (s := s.read (cellV n p s.at_ (g.H (N + 1) s.at_))) hn ht hg hm ho hb c1 e c3 (Or.inl ⟨c4, c5, fun i hi => hnow i (by omega)⟩)).2
        have h2 : (s.read (cellV n p s.at_ (g.H (N + 1) s.at_))).rounds = s.rounds := rfl
        rw [h2] at this
        omega
      · rw [if_neg e]
        show _ ≤ s.rounds * n + (s.at_ + 1)
        omega
  · have had : s.addr = (s.at_ : Int) := by unfold Sc.addr; rw [if_pos c1]
    obtain ⟨hin, htl⟩ := hcell s.at_ c2
    rw [if_pos c1, had, htl, hw]
    dsimp only
    have hnow : ∀ i, i < s.at_ + 1 → ∃ σ, s.last < σ ∧ σ ≤ N + 1 ∧ (s.read (cellV n p s.at_ (g.H (N + 1) s.at_))).now i = cellV n p i (g.H σ i) := fun i hi => by
      show ∃ τ, s.last < τ ∧ τ ≤ N + 1 ∧ upd s.now s.at_ _ i = _
      by_cases e : i = s.at_
      · subst e
        exact ⟨N + 1, by omega, Int.le_refl _, upd_same _ _ _⟩
      · obtain ⟨τ, q1, q2, q3⟩ := c10 i (by omega)
        exact ⟨τ, q1, by omega, by rw [upd_other e]; exact q3⟩
    refine ⟨?_, ?_, rfl, hin⟩
    · by_cases e : s.at_ + 1 = n
      · rw [if_pos e]
        exact (held_ok (s := s.read _) hn ht hg hm ho hb c1 e c3 (Or.inr ⟨c4, c5, c6, c7, c8, c9, fun i hi => hnow i (by omega)⟩)).1
      · rw [if_neg e]
        refine ⟨ho', by omega, Or.inr (Or.inl ⟨c1, by show s.at_ + 1 < n; omega, c3, c4, c5, c6, c7, by show s.last ≤ N + 1; omega, fun i hi => ?_, hnow⟩)⟩
        obtain ⟨k, q1, q2, q3⟩ := c9 i hi
        exact ⟨k, q1, q2, fun hd => by obtain ⟨τ, r1, r2, r3⟩ := q3 hd; exact ⟨τ, r1, by omega, r3⟩⟩
    · by_cases e : s.at_ + 1 = n
      · rw [if_pos e]
        have := (held_ok (s := s.read (cellV n p s.at_ (g.H (N + 1) s.at_))) hn ht hg hm ho hb c1 e c3 (Or.inr ⟨c4, c5, c6, c7, c8, c9, fun i hi => hnow i (by omega)⟩)).2
        have h2 : (s.read (cellV n p s.at_ (g.H (N + 1) s.at_))).rounds = s.rounds := rfl
        rw [h2] at this
        omega
      · rw [if_neg e]
        show _ ≤ s.rounds * n + (s.at_ + 1)
        omega
  · have had : s.addr = s.now s.at_ := by unfold Sc.addr; rw [if_neg (by omega), if_pos c1]
    have hcv := c8 s.at_ c2
    have hk : g.H s.moment s.at_ ≠ 0 := fun e => c3 (by rw [hcv, e]; rfl)
    have hkN : g.H s.moment s.at_ ≤ g.H N s.at_ := hg.mono _ _ _ c6
    have hnw : s.now s.at_ = (recA n p s.at_ (g.H s.moment s.at_ - 1) : Nat) := by rw [hcv]; unfold cellV; rw [if_neg hk]
    have hle := hm.le s.at_
    have hri := recA_in (n := n) (p := p) (t := s.at_) (r := g.H s.moment s.at_ - 1) c2 (by omega)
    have hin : w.mem.in (s.now s.at_) := ⟨by rw [hnw]; omega, by rw [hnw, hm.len]; omega⟩
    have htl : w.mem.tell 0 (s.now s.at_) 0 = g.vv s.at_ (g.H s.moment s.at_) := by
      rw [mm_tell hin, hnw]
      show w.mem.at _ = _
      rw [hm.val s.at_ _ c2 (by omega) hkN]
      unfold Gh.vv
      rw [if_neg hk]
    rw [if_neg (by omega), if_pos c1, had, htl]
    dsimp only
    obtain ⟨q1, q2, q3⟩ := pass_ok (n := n) (p := p) (g := g) (t := t) (b := b) (N := N + 1) (s := s.push (g.vv s.at_ (g.H s.moment s.at_))) hn ho' (by omega) c1 (by show s.at_ + 1 ≤ n; omega) c4 c5 (by show s.moment ≤ _; omega) (by show s.list ++ [_] = g.view s.moment (s.at_ + 1); rw [view_succ, c7]) c8
    refine ⟨q1, ?_, rfl, hin⟩
    rw [q2]
    show _ ≤ s.rounds * n + _
    have : s.at_ + 1 ≤ _ := q3
    omega
  · have had : s.addr = s.from_ + 1 + s.at_ := by unfold Sc.addr; rw [if_neg (by omega), if_neg (by omega)]
    have hle := hm.le a
    have hri := recA_in (n := n) (p := p) (t := a) (r := k - 1) c7 (by omega)
    have hin : w.mem.in (s.from_ + 1 + s.at_) := ⟨by rw [c10]; omega, by rw [c10, hm.len]; omega⟩
    have htl : w.mem.tell 0 (s.from_ + 1 + s.at_) 0 = g.vv s.at_ (g.H s.moment s.at_) := by
      rw [mm_tell hin, c10]
      show w.mem.at _ = _
      rw [hm.view a k c7 c8 c9 s.at_ c2, c11]
    rw [if_neg (by omega), if_neg (by omega), if_pos c1, had, htl]
    dsimp only
    have hli : (s.push (g.vv s.at_ (g.H s.moment s.at_))).list = g.view s.moment (s.at_ + 1) := by show s.list ++ [_] = _; rw [view_succ, c6]
    refine ⟨?_, ?_, rfl, hin⟩
    · by_cases e : s.at_ + 1 = n
      · rw [if_pos e]
        exact ⟨ho', by omega, Or.inr (Or.inr (Or.inr (Or.inr ⟨rfl, e, c3, c4, by show s.moment ≤ _; omega, by show (s.push _).list = _; rw [hli, e]; rfl⟩)))⟩
      · rw [if_neg e]
        exact ⟨ho', by omega, Or.inr (Or.inr (Or.inr (Or.inl ⟨c1, by show s.at_ + 1 < n; omega, c3, c4, by show s.moment ≤ _; omega, hli, a, k, c7, c8, by rw [hg.fut (N + 1) a (by omega)]; exact c9, c10, c11⟩)))⟩
    · by_cases e : s.at_ + 1 = n
      · rw [if_pos e]
        show _ ≤ s.rounds * n + (s.at_ + 1)
        omega
      · rw [if_neg e]
        show _ ≤ s.rounds * n + (s.at_ + 1)
        omega
  · exact absurd c1 hpc
end Go.Proofs.Ytlfingcmekifkaa
