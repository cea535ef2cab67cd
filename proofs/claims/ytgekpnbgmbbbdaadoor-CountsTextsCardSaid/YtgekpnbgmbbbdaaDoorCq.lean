/- Plain law: the algebra of sums and unions of sets of numbers. -/
import Derived.Test.YtgekpnbgmbbbdaaDoorCp
namespace Go.Proofs.YtgekpnbgmbbbdaaDoor
open Go
theorem mem_elsTo (c : Nat) (i : Fin 64) : ∀ (k : Nat) (h : k ≤ 64), i ∈ elsTo c k h ↔ i.1 < k ∧ isin c i.1 = true
  | 0, _ => by simp [elsTo]
  | k + 1, h => by
    rw [elsTo, List.mem_append, mem_elsTo c i k (by omega)]
    constructor
    · rintro (⟨h1, h2⟩ | h1)
      · exact ⟨by omega, h2⟩
      · split at h1
        · rename_i h3
          rw [List.mem_singleton] at h1
          subst h1
          exact ⟨by simp, h3⟩
        · simp at h1
    · rintro ⟨h1, h2⟩
      by_cases h3 : i.1 < k
      · exact .inl ⟨h3, h2⟩
      · refine .inr ?_
        have h4 : i.1 = k := by omega
        rw [h4] at h2
        rw [if_pos h2, List.mem_singleton]
        exact Fin.ext h4
theorem mem_els {t c i : Nat} (ht : t ≤ 62) : i ∈ els t c ↔ i ≤ t + 1 ∧ c.testBit i = true := by
  unfold els
  rw [dif_pos (by omega), List.mem_map]
  constructor
  · rintro ⟨x, hx, rfl⟩
    have := (mem_elsTo c x _ _).1 hx
    exact ⟨by omega, this.2⟩
  · rintro ⟨h1, h2⟩
    exact ⟨⟨i, by omega⟩, (mem_elsTo c _ _ _).2 ⟨by show i < t + 2; omega, h2⟩, rfl⟩
theorem on_bit (t n j : Nat) : (on t n).testBit j = true ↔ min n (t + 1) = j := by
  unfold on
  rw [Nat.testBit_two_pow]
  simp
theorem fold_bit (t : Nat) (f : Nat → Nat) (j : Nat) : ∀ (l : List Nat) (acc : Nat), (l.foldl (fun acc k => acc ||| on t (f k)) acc).testBit j = true ↔ acc.testBit j = true ∨ ∃ k ∈ l, min (f k) (t + 1) = j
  | [], acc => by simp
  | x :: l, acc => by
    rw [List.foldl_cons, fold_bit t f j l, Nat.testBit_or, Bool.or_eq_true, on_bit]
    simp [or_assoc]
theorem orL_bit (t : Nat) (l : List Nat) (j : Nat) : (orL t l).testBit j = true ↔ ∃ n ∈ l, min n (t + 1) = j := by
  unfold orL
  rw [fold_bit t (fun n => n)]
  simp
theorem fold2_bit (t : Nat) (lb : List Nat) (j : Nat) : ∀ (l : List Nat) (acc : Nat), (l.foldl (fun acc i => lb.foldl (fun acc k => acc ||| on t (i + k)) acc) acc).testBit j = true ↔ acc.testBit j = true ∨ ∃ i ∈ l, ∃ k ∈ lb, min (i + k) (t + 1) = j
  | [], acc => by simp
  | x :: l, acc => by
    rw [List.foldl_cons, fold2_bit t lb j l, fold_bit t (fun k => x + k)]
    simp [or_assoc]
theorem addF_bit {t : Nat} (ht : t ≤ 62) (a b j : Nat) : (addF t a b).testBit j = true ↔ ∃ i k, i ≤ t + 1 ∧ k ≤ t + 1 ∧ a.testBit i = true ∧ b.testBit k = true ∧ min (i + k) (t + 1) = j := by
  unfold addF
  rw [fold2_bit]
  constructor
  · rintro (h | ⟨i, hi, k, hk, h⟩)
    · simp at h
    · rw [mem_els ht] at hi hk
      exact ⟨i, k, hi.1, hk.1, hi.2, hk.2, h⟩
  · rintro ⟨i, k, h1, h2, h3, h4, h5⟩
    exact .inr ⟨i, (mem_els ht).2 ⟨h1, h3⟩, k, (mem_els ht).2 ⟨h2, h4⟩, h5⟩
theorem eq_bits {a b : Nat} (h : ∀ j, a.testBit j = true ↔ b.testBit j = true) : a = b := by
  apply Nat.eq_of_testBit_eq
  intro j
  have := h j
  cases h1 : a.testBit j <;> cases h2 : b.testBit j <;> simp_all
theorem addF_comm {t : Nat} (ht : t ≤ 62) (a b : Nat) : addF t a b = addF t b a := by
  apply eq_bits
  intro j
  rw [addF_bit ht, addF_bit ht]
  constructor
  · rintro ⟨i, k, h1, h2, h3, h4, h5⟩
    exact ⟨k, i, h2, h1, h4, h3, by rw [Nat.add_comm]; exact h5⟩
  · rintro ⟨i, k, h1, h2, h3, h4, h5⟩
    exact ⟨k, i, h2, h1, h4, h3, by rw [Nat.add_comm]; exact h5⟩
theorem addF_assoc {t : Nat} (ht : t ≤ 62) (a b c : Nat) : addF t (addF t a b) c = addF t a (addF t b c) := by
  apply eq_bits
  intro j
  rw [addF_bit ht, addF_bit ht]
  constructor
  · rintro ⟨i, k, h1, h2, h3, h4, h5⟩
    obtain ⟨x, y, g1, g2, g3, g4, g5⟩ := (addF_bit ht a b i).1 h3
    refine ⟨x, min (y + k) (t + 1), g1, Nat.min_le_right _ _, g3, (addF_bit ht b c _).2 ⟨y, k, g2, h2, g4, h4, rfl⟩, ?_⟩
    omega
  · rintro ⟨i, k, h1, h2, h3, h4, h5⟩
    obtain ⟨x, y, g1, g2, g3, g4, g5⟩ := (addF_bit ht b c k).1 h4
    refine ⟨min (i + x) (t + 1), y, Nat.min_le_right _ _, g2, (addF_bit ht a b _).2 ⟨i, x, h1, g1, h3, g3, rfl⟩, g4, ?_⟩
    omega
theorem addF_or {t : Nat} (ht : t ≤ 62) (a b c : Nat) : addF t (a ||| b) c = addF t a c ||| addF t b c := by
  apply eq_bits
  intro j
  rw [addF_bit ht, Nat.testBit_or, Bool.or_eq_true, addF_bit ht, addF_bit ht]
  constructor
  · rintro ⟨i, k, h1, h2, h3, h4, h5⟩
    rw [Nat.testBit_or, Bool.or_eq_true] at h3
    rcases h3 with h3 | h3
    · exact .inl ⟨i, k, h1, h2, h3, h4, h5⟩
    · exact .inr ⟨i, k, h1, h2, h3, h4, h5⟩
  · rintro (⟨i, k, h1, h2, h3, h4, h5⟩ | ⟨i, k, h1, h2, h3, h4, h5⟩)
    · exact ⟨i, k, h1, h2, by rw [Nat.testBit_or, h3]; rfl, h4, h5⟩
    · exact ⟨i, k, h1, h2, by rw [Nat.testBit_or, h3, Bool.or_true], h4, h5⟩
theorem may_lt {t c : Nat} (h : may t c = true) : c < 2 ^ (t + 2) := by
  unfold may at h
  rw [Bool.and_eq_true, Nat.shiftRight_eq_div_pow] at h
  have := h.2
  rw [beq_iff_eq, Nat.div_eq_zero_iff_lt (Nat.two_pow_pos _)] at this
  exact this
theorem may_bit {t c i : Nat} (h : may t c = true) (hi : c.testBit i = true) : i ≤ t + 1 := by
  rcases Nat.lt_or_ge i (t + 2) with h1 | h1
  · omega
  · rw [Nat.testBit_lt_two_pow (Nat.lt_of_lt_of_le (may_lt h) (Nat.pow_le_pow_right (by decide) h1))] at hi
    cases hi
theorem addF_one {t a : Nat} (ht : t ≤ 62) (h : may t a = true) : addF t a 1 = a := by
  apply eq_bits
  intro j
  rw [addF_bit ht]
  constructor
  · rintro ⟨i, k, h1, h2, h3, h4, h5⟩
    have hk : k = 0 := by
      rcases Nat.eq_zero_or_pos k with h0 | h0
      · exact h0
      · exfalso
        rw [Nat.testBit_lt_two_pow (show 1 < 2 ^ k from Nat.one_lt_two_pow (by omega))] at h4
        cases h4
    subst hk
    have : i = j := by omega
    rw [← this]; exact h3
  · intro hj
    exact ⟨j, 0, may_bit h hj, by omega, hj, by decide, by have := may_bit h hj; omega⟩
theorem one_addF {t a : Nat} (ht : t ≤ 62) (h : may t a = true) : addF t 1 a = a := by rw [addF_comm ht, addF_one ht h]
theorem addF_lt {t : Nat} (ht : t ≤ 62) (a b : Nat) : addF t a b < 2 ^ (t + 2) := by
  apply Nat.lt_pow_two_of_testBit
  intro j hj
  cases h : (addF t a b).testBit j with
  | false => rfl
  | true =>
    obtain ⟨i, k, _, _, _, _, h5⟩ := (addF_bit ht a b j).1 h
    omega
theorem nz_bit {a : Nat} (h : a ≠ 0) : ∃ i, a.testBit i = true := by
  apply Classical.byContradiction
  intro h0
  apply h
  apply Nat.eq_of_testBit_eq
  intro j
  rw [Nat.zero_testBit]
  cases h1 : a.testBit j with
  | false => rfl
  | true => exact absurd ⟨j, h1⟩ h0
theorem may_of {t c : Nat} (h0 : c ≠ 0) (h : c < 2 ^ (t + 2)) : may t c = true := by
  unfold may
  rw [Bool.and_eq_true, Nat.shiftRight_eq_div_pow, Nat.div_eq_of_lt h]
  exact ⟨by simpa using h0, rfl⟩
theorem may_nz {t c : Nat} (h : may t c = true) : c ≠ 0 := by
  unfold may at h
  rw [Bool.and_eq_true] at h
  simpa using h.1
theorem may_add {t a b : Nat} (ht : t ≤ 62) (ha : may t a = true) (hb : may t b = true) : may t (addF t a b) = true := by
  refine may_of ?_ (addF_lt ht a b)
  obtain ⟨i, hi⟩ := nz_bit (may_nz ha)
  obtain ⟨k, hk⟩ := nz_bit (may_nz hb)
  have h := (addF_bit ht a b _).2 ⟨i, k, may_bit ha hi, may_bit hb hk, hi, hk, rfl⟩
  intro h0
  rw [h0, Nat.zero_testBit] at h
  cases h
theorem may_or {t a b : Nat} (ha : may t a = true) (hb : may t b = true) : may t (a ||| b) = true := by
  refine may_of ?_ (Nat.or_lt_two_pow (may_lt ha) (may_lt hb))
  have := or_pos_right (a := a) (Nat.pos_of_ne_zero (may_nz hb))
  omega
theorem may_one (t : Nat) : may t 1 = true := may_of (by decide) (Nat.one_lt_two_pow (by omega))
theorem orL_lt2 (t : Nat) (l : List Nat) : orL t l < 2 ^ (t + 2) := by
  apply Nat.lt_pow_two_of_testBit
  intro j hj
  cases h : (orL t l).testBit j with
  | false => rfl
  | true =>
    obtain ⟨n, _, h5⟩ := (orL_bit t l j).1 h
    omega
theorem may_orL {t : Nat} {l : List Nat} (h : l ≠ []) : may t (orL t l) = true := may_of (by have := orL_pos (t := t) h; omega) (orL_lt2 t l)
/-- Numbers added and then cut, or cut and then added. -/
theorem addF_orL {t : Nat} (ht : t ≤ 62) (l m s : List Nat) (hs : ∀ x, x ∈ s ↔ ∃ i ∈ l, ∃ k ∈ m, x = min i 100 + min k 100) : addF t (orL t l) (orL t m) = orL t s := by
  apply eq_bits
  intro j
  rw [addF_bit ht, orL_bit]
  constructor
  · rintro ⟨i, k, h1, h2, h3, h4, h5⟩
    obtain ⟨x, hx, rfl⟩ := (orL_bit t l i).1 h3
    obtain ⟨y, hy, rfl⟩ := (orL_bit t m k).1 h4
    exact ⟨_, (hs _).2 ⟨x, hx, y, hy, rfl⟩, by omega⟩
  · rintro ⟨n, hn, h⟩
    obtain ⟨x, hx, y, hy, rfl⟩ := (hs n).1 hn
    exact ⟨min x (t + 1), min y (t + 1), by omega, by omega, (orL_bit t l _).2 ⟨x, hx, rfl⟩, (orL_bit t m _).2 ⟨y, hy, rfl⟩, by omega⟩
end Go.Proofs.YtgekpnbgmbbbdaaDoor
