/- For the walk of Read: what it reads. -/
import Derived.Test.YtgekpnbgmbbbdaaDoorCr3
namespace Go.Proofs.YtgekpnbgmbbbdaaDoor
open Go Go.RowKit Go.Proofs.YtgekpnbgmbbbdaaDoorW.PrintWords Go.Proofs.YtgekpnbgmbbbdaaDoorW.PrintLast Go.Proofs.YtgekpnbgmbbbdaaDoorW.PrintMore
theorem elemG_le (t lo : Nat) (d : List UInt8) : ∀ f j, (elemG t lo d f j).1 ≤ j + f
  | 0, j => by simp [elemG]
  | f + 1, j => by
    have := elemG_le t lo d f (j + 1)
    rw [elemG]
    split
    · omega
    · show j ≤ j + (f + 1); omega
theorem wholeD_range (t lo : Nat) (m : List UInt8) : ∀ d, wholeD t lo m d = -1 ∨ ∃ n : Nat, wholeD t lo m d = n ∧ lo ≤ n ∧ n < lo + d ∧ wordL t n = m
  | 0 => .inl rfl
  | d + 1 => by
    rw [wholeD]
    by_cases h : wordL t (lo + d) = m
    · rw [if_pos h]; exact .inr ⟨lo + d, rfl, by omega, by omega, h⟩
    · rw [if_neg h]
      rcases wholeD_range t lo m d with h1 | ⟨n, h1, h2, h3, h4⟩
      · exact .inl h1
      · exact .inr ⟨n, h1, h2, by omega, h4⟩
theorem elemG_range (t lo : Nat) (d : List UInt8) (hlo : lo ≤ t + 2) : ∀ f j, (elemG t lo d f j).2 < 0 ∨ ∃ n : Nat, (elemG t lo d f j).2 = n ∧ lo ≤ n ∧ n ≤ t + 1
  | 0, j => by
    rw [elemG]
    rcases wholeD_range t lo (d.take j) (t + 2 - lo) with h1 | ⟨n, h1, h2, h3, _⟩
    · left; show wholeD _ _ _ _ < 0; omega
    · exact .inr ⟨n, h1, h2, by omega⟩
  | f + 1, j => by
    rw [elemG]
    split
    · exact elemG_range t lo d hlo f (j + 1)
    · rcases wholeD_range t lo (d.take j) (t + 2 - lo) with h1 | ⟨n, h1, h2, h3, _⟩
      · left; show wholeD _ _ _ _ < 0; omega
      · exact .inr ⟨n, h1, h2, by omega⟩
/-- What Read reads, behind the sign '{'. -/
def readG (t : Nat) (D : List UInt8) : Nat → Nat → Nat → Nat → Nat × Int × Int
  | 0, _, k, _ => (0, k, 21)
  | f + 1, lo, k, c =>
    if (elemF t lo (D.drop k)).2 < 0 then (0, ((k + (elemF t lo (D.drop k)).1 : Nat) : Int), 21)
    else match D[k + (elemF t lo (D.drop k)).1]? with
      | none => (0, ((k + (elemF t lo (D.drop k)).1 : Nat) : Int), 21)
      | some b =>
        if b = 125 then (if k + (elemF t lo (D.drop k)).1 + 1 < D.length then (0, ((k + (elemF t lo (D.drop k)).1 + 1 : Nat) : Int), 21) else (c ||| on t (elemF t lo (D.drop k)).2.toNat, 0, 0))
        else if b = 44 ∧ (elemF t lo (D.drop k)).2 ≤ t then readG t D f ((elemF t lo (D.drop k)).2.toNat + 1) (k + (elemF t lo (D.drop k)).1 + 1) (c ||| on t (elemF t lo (D.drop k)).2.toNat)
        else (0, ((k + (elemF t lo (D.drop k)).1 : Nat) : Int), 21)
def readF (t : Int) (D : List UInt8) : Nat × Int × Int := if bnd t then (if D[0]? = some 123 then readG t.toNat D D.length 0 1 0 else (0, 0, 21)) else (0, 0, 1)
theorem beq_no {a b : UInt8} (h : b ≠ a) : (a == b) = false := by simpa using Ne.symm h
theorem ix_open (b : UInt8) : (Lib.indexByte [123] b < 0) ↔ b ≠ 123 := by
  by_cases h : b = 123
  · subst h; simp [Lib.indexByte]
  · simp [Lib.indexByte, beq_no h, h]
theorem ix_close (b : UInt8) : (Lib.indexByte [125] b < 0) ↔ b ≠ 125 := by
  by_cases h : b = 125
  · subst h; simp [Lib.indexByte]
  · simp [Lib.indexByte, beq_no h, h]
theorem ix_two (b : UInt8) : (Lib.indexByte [44, 125] b < 0) ↔ (b ≠ 44 ∧ b ≠ 125) := by
  by_cases h : b = 44
  · subst h; simp [Lib.indexByte]
  · by_cases h1 : b = 125
    · subst h1; simp [Lib.indexByte]
    · simp [Lib.indexByte, beq_no h, beq_no h1, h, h1]
/-- Between two steps of Read: the results, the reader. -/
structure RS (t : Int) (s : ByteArray) (w : World) (k c : Nat) (W : World) : Prop where
  r0 : Boxed W w.heap.size 24 (.int .u64 0)
  r1 : Boxed W (w.heap.size + 1) 3 (.int .i64 0)
  r2 : Boxed W (w.heap.size + 1 + 1) 25 (.int .i64 0)
  rd : Rd W (w.heap.size + 1 + 1 + 1) t s k c
  below : Below w.heap.size w W
theorem RS.chg {t : Int} {s : ByteArray} {w : World} {k c k' c' : Nat} {W W' : World} (h : RS t s w k c W) (hc : Chg (fun i => i = w.heap.size + 1 + 1 + 1) W W') (hr : Rd W' (w.heap.size + 1 + 1 + 1) t s k' c') : RS t s w k' c' W' :=
  ⟨(hc.block _ h.r0.lt (by omega)).trans h.r0, (hc.block _ h.r1.lt (by omega)).trans h.r1, (hc.block _ h.r2.lt (by omega)).trans h.r2, hr, h.below.trans (hc.below (B := w.heap.size) (fun i hi => by omega) h.below.size)⟩
theorem RS.made (t : Int) (s : ByteArray) (w : World) : RS t s w 0 0 ((((w.alloc (.cells #[.int .u64 0] 24)).alloc (.cells #[.int .i64 0] 3)).alloc (.cells #[.int .i64 0] 25)).alloc (.cells #[.int .i64 t, .string s, .int .i64 0, .int .u64 0] 71)) := by
  have h0 := ((Boxed.new w 24 (.int .u64 0)).alloc (.cells #[.int .i64 0] 3)).alloc (.cells #[.int .i64 0] 25) |>.alloc (.cells #[.int .i64 t, .string s, .int .i64 0, .int .u64 0] 71)
  have h1 := ((Boxed.new (w.alloc (.cells #[.int .u64 0] 24)) 3 (.int .i64 0)).alloc (.cells #[.int .i64 0] 25)).alloc (.cells #[.int .i64 t, .string s, .int .i64 0, .int .u64 0] 71)
  have h2 := (Boxed.new ((w.alloc (.cells #[.int .u64 0] 24)).alloc (.cells #[.int .i64 0] 3)) 25 (.int .i64 0)).alloc (.cells #[.int .i64 t, .string s, .int .i64 0, .int .u64 0] 71)
  have h3 := heap_alloc_new (((w.alloc (.cells #[.int .u64 0] 24)).alloc (.cells #[.int .i64 0] 3)).alloc (.cells #[.int .i64 0] 25)) (.cells #[.int .i64 t, .string s, .int .i64 0, .int .u64 0] 71)
  simp only [World.size_alloc] at h1 h2 h3
  exact ⟨h0, h1, h2, h3, below_alloc (below_alloc (below_alloc (below_alloc (Below.refl _ _) _) _) _) _⟩
end Go.Proofs.YtgekpnbgmbbbdaaDoor
