/- The plain law of pieces: what Cut tells, by the program and by the reference. -/
namespace Go.Proofs.Ytleomcilhhdngaa

/-- How many pieces a message of so many bytes has, in parts of p. -/
def many (len p : Nat) : Nat := max 1 ((len + p - 1) / p)
/-- Piece i of n. -/
def pc (b : List Int) (p n i : Nat) : List Int :=
  ((if i = 0 then 1 else 0) + (if i + 1 = n then 2 else 0)) :: (b.drop (i * p)).take p
def pcs (b : List Int) (p : Nat) : List (List Int) := (List.range (many b.length p)).map (pc b p (many b.length p))

theorem many_pos (len p : Nat) : 1 ≤ many len p := Nat.le_max_left _ _
theorem many_last {len p i : Nat} (hp : 1 ≤ p) (hi : i < many len p) : len ≤ (i + 1) * p ↔ i + 1 = many len p := by
  have h1 : (len + p - 1) / p < i + 2 ↔ len + p - 1 < (i + 2) * p := Nat.div_lt_iff_lt_mul (by omega)
  have h2 : (i + 2) * p = (i + 1) * p + p := by rw [show i + 2 = (i + 1) + 1 from rfl, Nat.add_mul (i + 1) 1 p, Nat.one_mul]
  have h3 : many len p = max 1 ((len + p - 1) / p) := rfl
  omega
theorem many_before {len p i : Nat} (hp : 1 ≤ p) (hi : i < many len p) : i * p ≤ len := by
  cases i with
  | zero => omega
  | succ j =>
    have h1 := many_last (len := len) (p := p) (i := j) hp (by omega)
    have : ¬ (j + 1 = many len p) := by omega
    have : ¬ len ≤ (j + 1) * p := fun h => this (h1.1 h)
    omega

theorem range_map_snoc (f : Nat → List Int) (i : Nat) : (List.range (i + 1)).map f = (List.range i).map f ++ [f i] := by
  rw [List.range_succ, List.map_append]; rfl

theorem pc_ne {b : List Int} {p n i : Nat} (h0 : i + 1 ≠ n) : [(if i = 0 then 1 else 0 : Int)] ++ (b.drop (i * p)).take p = pc b p n i := by
  unfold pc
  rw [if_neg h0]
  by_cases h : i = 0 <;> simp [h]
theorem pc_eq {b : List Int} {p n i : Nat} (h0 : i + 1 = n) (hd : b.length ≤ (i + 1) * p) : [(if i = 0 then 3 else 2 : Int)] ++ b.drop (i * p) = pc b p n i := by
  have hmul : (i + 1) * p = i * p + p := by rw [Nat.add_mul, Nat.one_mul]
  unfold pc
  rw [if_pos h0, List.take_of_length_le (by rw [List.length_drop]; omega)]
  by_cases h : i = 0 <;> simp [h]
end Go.Proofs.Ytleomcilhhdngaa
