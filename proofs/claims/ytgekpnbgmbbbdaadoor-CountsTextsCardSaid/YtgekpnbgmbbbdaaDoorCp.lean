/- Plain law of sets of numbers: a set as the bits of a number. -/
import Derived.Laws.BitsLemmas
import Derived.Laws.Shifts
namespace Go.Proofs.YtgekpnbgmbbbdaaDoor
open Go
/-- The set of one number, cut. -/
def on (t n : Nat) : Nat := 2 ^ min n (t + 1)
theorem on_lt {t n : Nat} (ht : t ≤ 62) : on t n < 2 ^ 64 := Nat.pow_lt_pow_right (by decide) (by omega)
theorem on_pos (t n : Nat) : 0 < on t n := Nat.two_pow_pos _
/-- The set of some numbers. -/
def orL (t : Nat) (l : List Nat) : Nat := l.foldl (fun c n => c ||| on t n) 0
theorem foldl_or_lt {t : Nat} (ht : t ≤ 62) : ∀ (l : List Nat) (c : Nat), c < 2 ^ 64 → l.foldl (fun c n => c ||| on t n) c < 2 ^ 64
  | [], _, h => h
  | _ :: l, _, h => foldl_or_lt ht l _ (Nat.or_lt_two_pow h (on_lt ht))
theorem orL_lt {t : Nat} (ht : t ≤ 62) (l : List Nat) : orL t l < 2 ^ 64 := foldl_or_lt ht l 0 (by decide)
theorem orL_snoc (t : Nat) (l : List Nat) (n : Nat) : orL t (l ++ [n]) = orL t l ||| on t n := by simp [orL]
theorem or_pos_right {a b : Nat} (h : 0 < b) : 0 < a ||| b := by
  have := @Nat.right_le_or a b
  omega
theorem orL_pos {t : Nat} {l : List Nat} (h : l ≠ []) : 0 < orL t l := by
  rcases List.eq_nil_or_concat l with h0 | ⟨l', n, h0⟩
  · exact absurd h0 h
  · subst h0
    rw [List.concat_eq_append, orL_snoc]
    exact or_pos_right (on_pos _ _)
/-- Is a number in a set? -/
def isin (c i : Nat) : Bool := c.testBit i
/-- A set's elements below k, rising. -/
def elsTo (c : Nat) : (k : Nat) → k ≤ 64 → List (Fin 64)
  | 0, _ => []
  | k + 1, h => elsTo c k (by omega) ++ (if isin c k then [⟨k, by omega⟩] else [])
theorem elsTo_le (c : Nat) : ∀ (k : Nat) (h : k ≤ 64), (elsTo c k h).length ≤ k
  | 0, _ => Nat.le_refl _
  | k + 1, h => by
    have := elsTo_le c k (by omega)
    rw [elsTo, List.length_append]
    split <;> simp <;> omega
theorem elsTo_prefix (c : Nat) : ∀ (d k : Nat) (h : k + d ≤ 64), elsTo c k (by omega) <+: elsTo c (k + d) h
  | 0, _, _ => List.prefix_refl _
  | d + 1, k, h => by
    have := elsTo_prefix c d k (by omega)
    exact this.trans ⟨_, rfl⟩
/-- A set's elements, as numbers. -/
def els (t c : Nat) : List Nat := if h : t + 2 ≤ 64 then (elsTo c (t + 2) h).map (·.1) else []
/-- May a set be? -/
def may (t c : Nat) : Bool := c != 0 && (c >>> (t + 2) == 0)
/-- All sums of two sets' elements, cut. -/
def addF (t a b : Nat) : Nat := (els t a).foldl (fun acc i => (els t b).foldl (fun acc k => acc ||| on t (i + k)) acc) 0
def sumF (t : Nat) (l : List Nat) : Nat := l.foldl (fun s c => addF t s c) 1
def uniF (l : List Nat) : Nat := l.foldl (fun s c => s ||| c) 0
theorem and_on {t c i : Nat} (hi : i ≤ t + 1) : (c &&& on t i != 0) = isin c i := by
  unfold on isin
  rw [Nat.min_eq_left hi]
  cases h : c.testBit i with
  | true =>
    have : (c &&& 2 ^ i).testBit i = true := by rw [Nat.testBit_and, h, Nat.testBit_two_pow_self]; rfl
    simp only [bne_iff_ne, ne_eq]
    intro h0
    rw [h0, Nat.zero_testBit] at this
    cases this
  | false =>
    have : c &&& 2 ^ i = 0 := by
      apply Nat.eq_of_testBit_eq
      intro j
      rw [Nat.testBit_and, Nat.zero_testBit]
      by_cases hj : i = j
      · subst hj; rw [h]; rfl
      · rw [Nat.testBit_two_pow_of_ne hj, Bool.and_false]
    rw [this]; rfl
theorem shr_in (c i : Nat) : (c / 2 ^ i % 2 == 1) = isin c i := by
  unfold isin
  rw [Nat.testBit_eq_decide_div_mod_eq]
  rfl
/-- Above the bound there is no element. -/
theorem shr_zero {t c : Nat} (hc : c < 2 ^ 64) : (c / 2 ^ (t + 2) = 0) ↔ ∀ i, t + 2 ≤ i → i < 64 → isin c i = false := by
  constructor
  · intro h i h1 _
    have hlt : c < 2 ^ (t + 2) := (Nat.div_eq_zero_iff_lt (Nat.two_pow_pos _)).1 h
    exact Nat.testBit_lt_two_pow (Nat.lt_of_lt_of_le hlt (Nat.pow_le_pow_right (by decide) h1))
  · intro h
    rw [Nat.div_eq_zero_iff_lt (Nat.two_pow_pos _)]
    apply Nat.lt_pow_two_of_testBit
    intro i hi
    by_cases h64 : i < 64
    · exact h i hi h64
    · exact Nat.testBit_lt_two_pow (Nat.lt_of_lt_of_le hc (Nat.pow_le_pow_right (by decide) (by omega)))
end Go.Proofs.YtgekpnbgmbbbdaaDoor
