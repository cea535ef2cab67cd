/- What breaks a compare: the plain law; the walks of the document's right, Breaks, Holds. -/
import Derived.Test.YtgekpnbgmbbbdaaDoorCl3
namespace Go.Proofs.YtgekpnbgmbbbdaaDoor
open Go Go.RowKit Go.Proofs.YtgekpnbgmbbbdaaDoorW.PrintWords Go.Proofs.YtgekpnbgmbbbdaaDoorW.PrintLast Go.Proofs.YtgekpnbgmbbbdaaDoorW.PrintMore
/-- Does a compare hold of a number? -/
def rightB (m : Nat) (k : Int) (i : Nat) : Bool := if k = 1 then i == m else if k = 2 then decide (i ≤ m) else decide (m ≤ i)
/-- The least element below n that breaks it. -/
def firstB (m : Nat) (k : Int) (c : Nat) : Nat → Option Nat
  | 0 => none
  | n + 1 => (firstB m k c n).or (if isin c n && !rightB m k n then some n else none)
def breaksF (t k : Int) (c : Nat) : Int × Bool × Int :=
  if chkF t [c] = 0 then (if k < 1 ∨ 3 < k then (0, false, 81) else match firstB t.toNat k c (t.toNat + 2) with | some i => ((i : Int), true, 0) | none => (0, false, 0)) else (0, false, chkF t [c])
def holdsF (t k : Int) (c : Nat) : Bool × Int := ((breaksF t k c).2.2 == 0 && !(breaksF t k c).2.1, (breaksF t k c).2.2)
theorem firstB_none {m : Nat} {k : Int} {c : Nat} : ∀ n, firstB m k c n = none ↔ ∀ i, i < n → isin c i = true → rightB m k i = true
  | 0 => by simp [firstB]
  | n + 1 => by
    rw [firstB, Option.or_eq_none_iff, firstB_none n]
    constructor
    · rintro ⟨h1, h2⟩ i hi hin
      by_cases h : i = n
      · subst h
        cases hr : rightB m k i with
        | true => rfl
        | false => rw [hin, hr] at h2; cases h2
      · exact h1 i (by omega) hin
    · intro h
      refine ⟨fun i hi => h i (by omega), ?_⟩
      cases hin : isin c n with
      | false => rfl
      | true => rw [h n (by omega) hin]; rfl
theorem firstB_step {m : Nat} {k : Int} {c n : Nat} (h : firstB m k c n = none) : firstB m k c (n + 1) = if isin c n && !rightB m k n then some n else none := by rw [firstB, h]; rfl
theorem firstB_some {m : Nat} {k : Int} {c i : Nat} : ∀ {n}, firstB m k c n = some i → i < n ∧ isin c i = true
  | 0, h => by cases h
  | n + 1, h => by
    rw [firstB] at h
    cases h1 : firstB m k c n with
    | some j =>
      rw [h1] at h
      have := firstB_some h1
      cases h
      exact ⟨by omega, this.2⟩
    | none =>
      rw [h1, Option.none_or] at h
      split at h
      · rename_i h2
        cases h
        rw [Bool.and_eq_true] at h2
        exact ⟨by omega, h2.1⟩
      · cases h
theorem firstB_stay {m : Nat} {k : Int} {c n i : Nat} (h : firstB m k c n = some i) : ∀ d, firstB m k c (n + d) = some i
  | 0 => h
  | d + 1 => by rw [← Nat.add_assoc, firstB, firstB_stay h d]; rfl
theorem eq_nat (i m : Nat) : ((i : Int) == (m : Int)) = (i == m) := by
  cases h : (i == m)
  · simp at h ⊢; omega
  · simp at h ⊢; omega
theorem right_w (m : Nat) (k : Int) (i : Nat) (w : World) : Calls Tryd.prog 42 #[.int .i64 m, .int .i64 k, .int .i64 i] w fun e w' => e = .returned (.bool (rightB m k i)) ∧ w' = w := by
  unfold rightB
  by_cases h1 : k = 1
  · subst h1
    rw [if_pos rfl, ← eq_nat]
    have e1 : ((1 : Int) == 1) = true := rfl
    generalize hb : ((i : Int) == (m : Int)) = b
    go_enter Tryd.func42, Tryd.ntmps42
    go_wp2_with fail
    go_ret
    exact ⟨rfl, rfl⟩
  · rw [if_neg h1]
    have e1 : (k == 1) = false := by simpa using h1
    by_cases h2 : k = 2
    · subst h2
      rw [if_pos rfl]
      clear h1
      go_enter Tryd.func42, Tryd.ntmps42
      go_wp2_with fail
      go_ret
      exact ⟨rfl, rfl⟩
    · rw [if_neg h2]
      have e2 : (k == 2) = false := by simpa using h2
      clear h1 h2
      go_enter Tryd.func42, Tryd.ntmps42
      go_wp2_with fail
      go_ret
      exact ⟨rfl, rfl⟩
end Go.Proofs.YtgekpnbgmbbbdaaDoor
