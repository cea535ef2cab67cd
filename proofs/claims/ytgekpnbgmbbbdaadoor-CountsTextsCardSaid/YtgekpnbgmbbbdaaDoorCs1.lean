/- The walks of the document's add and Sum. -/
import Derived.Test.YtgekpnbgmbbbdaaDoorCi3
import Derived.Test.YtgekpnbgmbbbdaaDoorCq
namespace Go.Proofs.YtgekpnbgmbbbdaaDoor
open Go Go.RowKit Go.Proofs.YtgekpnbgmbbbdaaDoorW.PrintWords Go.Proofs.YtgekpnbgmbbbdaaDoorW.PrintLast Go.Proofs.YtgekpnbgmbbbdaaDoorW.PrintMore
attribute [local go_sem] max2_mx min2_mn max_two min_two
/-- What one element adds, up to k. -/
def inR (t b i acc : Nat) : Nat → Nat
  | 0 => acc
  | k + 1 => if isin b k then inR t b i acc k ||| on t (i + k) else inR t b i acc k
/-- What the elements below i add. -/
def outR (t a b : Nat) : Nat → Nat
  | 0 => 0
  | i + 1 => if isin a i then inR t b i (outR t a b i) (t + 2) else outR t a b i
def gR (ai : Bool) (t b i o k : Nat) : Nat := if ai then inR t b i o k else o
theorem gR_true (t b i o k : Nat) : gR true t b i o k = inR t b i o k := rfl
theorem gR_false (t b i o k : Nat) : gR false t b i o k = o := rfl
theorem gR_zero (ai : Bool) (t b i o : Nat) : gR ai t b i o 0 = o := by cases ai <;> rfl
theorem inR_bit (t b i acc j : Nat) : ∀ n, (inR t b i acc n).testBit j = true ↔ acc.testBit j = true ∨ ∃ k, k < n ∧ b.testBit k = true ∧ min (i + k) (t + 1) = j
  | 0 => by simp [inR]
  | n + 1 => by
    have h := inR_bit t b i acc j n
    rw [inR]
    by_cases hb : isin b n = true
    · rw [if_pos hb, Nat.testBit_or, Bool.or_eq_true, h, on_bit]
      constructor
      · rintro ((h1 | ⟨k, h1, h2, h3⟩) | h1)
        · exact .inl h1
        · exact .inr ⟨k, by omega, h2, h3⟩
        · exact .inr ⟨n, by omega, hb, h1⟩
      · rintro (h1 | ⟨k, h1, h2, h3⟩)
        · exact .inl (.inl h1)
        · by_cases hk : k = n
          · subst hk; exact .inr h3
          · exact .inl (.inr ⟨k, by omega, h2, h3⟩)
    · rw [if_neg hb, h]
      constructor
      · rintro (h1 | ⟨k, h1, h2, h3⟩)
        · exact .inl h1
        · exact .inr ⟨k, by omega, h2, h3⟩
      · rintro (h1 | ⟨k, h1, h2, h3⟩)
        · exact .inl h1
        · refine .inr ⟨k, ?_, h2, h3⟩
          rcases Nat.lt_or_ge k n with h4 | h4
          · exact h4
          · have : k = n := by omega
            subst this; exact absurd h2 hb
theorem outR_bit (t a b j : Nat) : ∀ n, (outR t a b n).testBit j = true ↔ ∃ i, i < n ∧ a.testBit i = true ∧ ∃ k, k < t + 2 ∧ b.testBit k = true ∧ min (i + k) (t + 1) = j
  | 0 => by simp [outR]
  | n + 1 => by
    have h := outR_bit t a b j n
    rw [outR]
    by_cases ha : isin a n = true
    · rw [if_pos ha, inR_bit, h]
      constructor
      · rintro (⟨i, h1, h2⟩ | h1)
        · exact ⟨i, by omega, h2⟩
        · exact ⟨n, by omega, ha, h1⟩
      · rintro ⟨i, h1, h2, h3⟩
        by_cases hi : i = n
        · subst hi; exact .inr h3
        · exact .inl ⟨i, by omega, h2, h3⟩
    · rw [if_neg ha, h]
      constructor
      · rintro ⟨i, h1, h2⟩
        exact ⟨i, by omega, h2⟩
      · rintro ⟨i, h1, h2, h3⟩
        refine ⟨i, ?_, h2, h3⟩
        rcases Nat.lt_or_ge i n with h4 | h4
        · exact h4
        · have : i = n := by omega
          subst this; exact absurd h2 ha
theorem outR_all {t : Nat} (ht : t ≤ 62) (a b : Nat) : outR t a b (t + 2) = addF t a b := by
  apply eq_bits
  intro j
  rw [outR_bit, addF_bit ht]
  constructor
  · rintro ⟨i, h1, h2, k, h3, h4, h5⟩
    exact ⟨i, k, by omega, by omega, h2, h4, h5⟩
  · rintro ⟨i, k, h1, h2, h3, h4, h5⟩
    exact ⟨i, by omega, h3, k, by omega, h4, h5⟩
theorem inR_lt {t : Nat} (ht : t ≤ 62) (b i : Nat) {acc : Nat} (h : acc < 2 ^ 64) : ∀ n, inR t b i acc n < 2 ^ 64
  | 0 => h
  | n + 1 => by
    rw [inR]
    split
    · exact Nat.or_lt_two_pow (inR_lt ht b i h n) (on_lt ht)
    · exact inR_lt ht b i h n
theorem outR_lt {t : Nat} (ht : t ≤ 62) (a b : Nat) : ∀ n, outR t a b n < 2 ^ 64
  | 0 => by rw [outR]; decide
  | n + 1 => by
    rw [outR]
    split
    · exact inR_lt ht b n (outR_lt ht a b n) _
    · exact outR_lt ht a b n
set_option maxRecDepth 100000 in
set_option maxHeartbeats 1000000 in
theorem radd_w (m a b : Nat) (hm : m ≤ 62) (ha : a < 2 ^ 64) (hb : b < 2 ^ 64) (w : World) :
    Calls Tryd.prog 37 #[.int .i64 m, .int .u64 a, .int .u64 b] w fun e w' => e = .returned (.int .u64 (addF m a b : Nat)) ∧ w' = w := by
  have hall := outR_all hm a b
  have HALL := Lib.hid hall
  have HA := Lib.hid ha
  have HB := Lib.hid hb
  have hm2 : (m : Int) ≤ 62 := by omega
  clear hall ha hb
  go_enter Tryd.func37, Tryd.ntmps37
  go_wp2_with fail
  go_loopw [7, 8] (fun vc v wr => ∃ i : Nat, v = .int .i64 i ∧ vc = .int .u64 (outR m a b i : Nat) ∧ i ≤ m + 2 ∧ wr = w) (fun _ v _ => m + 2 - (intOf v).toNat)
  case atStart => exact ⟨0, rfl, rfl, Nat.zero_le _, rfl⟩
  case round =>
    obtain ⟨i, rfl, rfl, hi, rfl⟩ := hrel
    by_cases hlt : i < m + 2
    · have hi64 : decide ((i : Int) ≤ (m : Int) + 1) = true := decide_eq_true (by omega)
      have hi63 : (i : Int) ≤ 63 := by omega
      have hstep : outR m a b (i + 1) = gR (isin a i) m b i (outR m a b i) (m + 2) := rfl
      have holt := outR_lt hm a b i
      generalize hoo : outR m a b i = o at hstep holt
      have HS := Lib.hid hstep
      have HO := Lib.hid holt
      clear hstep holt hoo
      go_wp2_with fail
      go_loopw [7, 9] (fun vc v wq => ∃ k : Nat, v = .int .i64 k ∧ vc = .int .u64 (gR (isin a i) m b i o k : Nat) ∧ k ≤ m + 2 ∧ wq = wr) (fun _ v _ => m + 2 - (intOf v).toNat)
      case atStart => exact ⟨0, rfl, by rw [gR_zero], Nat.zero_le _, rfl⟩
      case round =>
        obtain ⟨k, rfl, rfl, hk, rfl⟩ := hrel
        by_cases hkt : k < m + 2
        · have hk64 : decide ((k : Int) ≤ (m : Int) + 1) = true := decide_eq_true (by omega)
          have hk63 : (k : Int) ≤ 63 := by omega
          go_wp2_with fail
          refine (rin_w a i HA.out (by omega) _).mono ?_
          rintro e w2 ⟨rfl, rfl⟩
          cases hai : isin a i with
          | false =>
            go_wp2_with fail
            go_roundw
            case rel => exact ⟨k + 1, by simp, by rw [hai, gR_false, gR_false], by omega, by first | trivial | rfl⟩
            case measure => simp [intOf]; omega
          | true =>
            rw [gR_true]
            go_wp2_with fail
            refine (rin_w b k HB.out (by omega) _).mono ?_
            rintro e w3 ⟨rfl, rfl⟩
            have hin : inR m b i o (k + 1) = if isin b k then inR m b i o k ||| on m (i + k) else inR m b i o k := rfl
            have hilt := inR_lt hm b i HO.out k
            cases hbk : isin b k with
            | false =>
              rw [hbk] at hin
              have HIN := Lib.hid hin
              clear hin hilt
              go_wp2_with fail
              go_roundw
              case rel => exact ⟨k + 1, by simp, by rw [hai, gR_true, HIN.out]; rfl, by omega, by first | trivial | rfl⟩
              case measure => simp [intOf]; omega
            | true =>
              rw [hbk] at hin
              have HIN := Lib.hid hin
              have hor := or_u64 _ _ hilt (on_lt (n := i + k) hm)
              have hmn : mn ((i : Int) + (k : Int)) ((m : Int) + 1) = ((min (i + k) (m + 1) : Nat) : Int) := by unfold mn; split <;> omega
              have hkk := rone_w (min (i + k) (m + 1)) (by omega)
              have ho : (2 ^ min (i + k) (m + 1) : Nat) = on m (i + k) := rfl
              rw [ho] at hkk
              generalize inR m b i o k = p at HIN hor
              generalize on m (i + k) = q at HIN hor hkk
              generalize min (i + k) (m + 1) = z at hmn hkk
              have HK := Lib.hid hkk
              clear hin hilt ho hkk
              go_wp2_with fail
              refine (HK.out _).mono ?_
              rintro e w4 ⟨rfl, rfl⟩
              clear HK
              go_wp2_with fail
              go_roundw
              case rel => exact ⟨k + 1, by simp, by rw [hai, gR_true, HIN.out]; rfl, by omega, by first | trivial | rfl⟩
              case measure => simp [intOf]; omega
        · have hk64 : decide ((k : Int) ≤ (m : Int) + 1) = false := decide_eq_false (by omega)
          have hk9 : k = m + 2 := by omega
          subst hk9
          rw [← HS.out]
          go_wp2_with fail
          go_roundw
          case rel => exact ⟨i + 1, by simp, by first | rfl | trivial, by omega, by first | trivial | rfl⟩
          case measure => simp [intOf]; omega
    · have hi64 : decide ((i : Int) ≤ (m : Int) + 1) = false := decide_eq_false (by omega)
      have hi9 : i = m + 2 := by omega
      subst hi9
      rw [HALL.out]
      go_wp2_with fail
      go_ret
      exact ⟨rfl, rfl⟩
end Go.Proofs.YtgekpnbgmbbbdaaDoor
