/- The walks of bound, one, Check; of the document's Bound, In, one, may, Check. -/
import Derived.Test.YtgekpnbgmbbbdaaDoorGen
import Derived.Test.YtgekpnbgmbbbdaaDoorCp
import Derived.Test.YtgekpnbgmbbbdaaDoorProg
namespace Go.Proofs.YtgekpnbgmbbbdaaDoor
open Go Go.RowKit Go.Proofs.YtgekpnbgmbbbdaaDoorW.PrintWords Go.Proofs.YtgekpnbgmbbbdaaDoorW.PrintLast Go.Proofs.YtgekpnbgmbbbdaaDoorW.PrintMore
attribute [local go_sem] max2_mx min2_mn max_two min_two
def bnd (t : Int) : Bool := decide (0 ≤ t) && decide (t ≤ 62)
theorem bound_w (t : Int) (w : World) : Calls Tryd.prog 32 #[.int .i64 t] w fun e w' => e = .returned (.bool (bnd t)) ∧ w' = w := by
  unfold bnd
  by_cases h0 : 0 ≤ t
  · have h1 : decide (0 ≤ t) = true := decide_eq_true h0
    clear h0
    rw [h1, Bool.true_and]
    go_enter Tryd.func32, Tryd.ntmps32
    go_wp2_with fail
    go_ret
    exact ⟨rfl, rfl⟩
  · have h1 : decide (0 ≤ t) = false := decide_eq_false h0
    clear h0
    rw [h1, Bool.false_and]
    go_enter Tryd.func32, Tryd.ntmps32
    go_wp2_with fail
    go_ret
    exact ⟨rfl, rfl⟩
theorem rbound_w (t : Int) (w : World) : Calls Tryd.prog 34 #[.int .i64 t] w fun e w' => e = .returned (.bool (bnd t)) ∧ w' = w := by
  unfold bnd
  by_cases h0 : 0 ≤ t
  · have h1 : decide (0 ≤ t) = true := decide_eq_true h0
    clear h0
    rw [h1, Bool.true_and]
    go_enter Tryd.func34, Tryd.ntmps34
    go_wp2_with fail
    go_ret
    exact ⟨rfl, rfl⟩
  · have h1 : decide (0 ≤ t) = false := decide_eq_false h0
    clear h0
    rw [h1, Bool.false_and]
    go_enter Tryd.func34, Tryd.ntmps34
    go_wp2_with fail
    go_ret
    exact ⟨rfl, rfl⟩
theorem wrap_u64_nat {n : Nat} (h : n < 2 ^ 64) : IntKind.u64.wrap (n : Int) = n := by
  have h2 : IntKind.u64.wrap (n : Int) = (n : Int) % 18446744073709551616 := by simp [IntKind.wrap, IntKind.bits, IntKind.signed]
  have h3 : n < 18446744073709551616 := h
  rw [h2]
  omega
theorem wraps_u64 (n : Int) (h0 : 0 ≤ n) (h1 : n < 2 ^ 64) : IntKind.u64.wrap n = n := by
  obtain ⟨m, rfl⟩ := Int.eq_ofNat_of_zero_le h0
  exact wrap_u64_nat (by exact_mod_cast h1)
theorem and_u64 (a b : Nat) (ha : a < 2 ^ 64) (hb : b < 2 ^ 64) : bits .and .u64 (a : Int) (b : Int) = ((a &&& b : Nat) : Int) := (bits_nat .u64 64 (by decide) wraps_u64 a b ha hb).1
theorem or_u64 (a b : Nat) (ha : a < 2 ^ 64) (hb : b < 2 ^ 64) : bits .or .u64 (a : Int) (b : Int) = ((a ||| b : Nat) : Int) := (bits_nat .u64 64 (by decide) wraps_u64 a b ha hb).2
theorem two_cast (k : Nat) : ((2 : Int) ^ k) = ((2 ^ k : Nat) : Int) := by simp
theorem wrap_pow {k : Nat} (hk : k ≤ 63) : IntKind.u64.wrap ((2 : Int) ^ k) = ((2 ^ k : Nat) : Int) := by
  rw [two_cast]
  exact wrap_u64_nat (Nat.pow_lt_pow_right (by decide) (by omega))
theorem shl_on (k : Nat) (hk : k ≤ 63) : Op.shift .shl .u64 1 .i64 (k : Int) = pure (.int .u64 ((2 ^ k : Nat) : Int)) := by
  rw [shift_shl .u64 .i64 1 (k : Int) (by omega) (by simp only [IntKind.bits]; omega), Int.one_mul, Int.toNat_natCast, wrap_pow hk]
theorem in_bits {c i : Nat} (hc : c < 2 ^ 64) : (bits .and .u64 ((c : Int) / 2 ^ i) 1 == 1) = isin c i := by
  have h1 : ((c : Int) / 2 ^ i) = ((c / 2 ^ i : Nat) : Int) := by rw [two_cast]; simp
  have h2 : bits .and .u64 ((c / 2 ^ i : Nat) : Int) ((1 : Nat) : Int) = ((c / 2 ^ i &&& 1 : Nat) : Int) := and_u64 _ _ (Nat.lt_of_le_of_lt (Nat.div_le_self _ _) hc) (by decide)
  rw [h1, show (1 : Int) = ((1 : Nat) : Int) from rfl, h2, Nat.and_one_is_mod, ← shr_in c i]
  cases h : (c / 2 ^ i % 2 == 1) with
  | true =>
    have : c / 2 ^ i % 2 = 1 := by simpa using h
    rw [this]; rfl
  | false =>
    have : c / 2 ^ i % 2 ≠ 1 := by simpa using h
    simp only [beq_eq_false_iff_ne, ne_eq]
    omega
theorem one_w (t n : Nat) (ht : t ≤ 62) (w : World) : Calls Tryd.prog 33 #[.int .i64 t, .int .i64 n] w fun e w' => e = .returned (.int .u64 (on t n : Nat)) ∧ w' = w := by
  have hm : mn (n : Int) ((t : Int) + 1) = ((min n (t + 1) : Nat) : Int) := by unfold mn; split <;> omega
  have hs := shl_on (min n (t + 1)) (by omega)
  have ht2 : (t : Int) ≤ 62 := by omega
  have ho : (2 ^ min n (t + 1) : Nat) = on t n := rfl
  rw [ho] at hs
  obtain ⟨k, hk⟩ : ∃ k, k = min n (t + 1) := ⟨_, rfl⟩
  rw [← hk] at hs hm
  clear ht ho hk
  go_enter Tryd.func33, Tryd.ntmps33
  go_wp2_with fail
  go_ret
  exact ⟨rfl, rfl⟩
theorem rone_w (i : Nat) (hi : i ≤ 63) (w : World) : Calls Tryd.prog 35 #[.int .i64 i] w fun e w' => e = .returned (.int .u64 ((2 ^ i : Nat) : Int)) ∧ w' = w := by
  have hs := shl_on i hi
  have hi2 : (i : Int) ≤ 63 := by omega
  have hw := wrap_pow hi
  clear hs
  go_enter Tryd.func35, Tryd.ntmps35
  go_wp2_with fail
  go_ret
  exact ⟨rfl, rfl⟩
theorem rin_w (c i : Nat) (hc : c < 2 ^ 64) (hi : i ≤ 63) (w : World) : Calls Tryd.prog 27 #[.int .u64 c, .int .i64 i] w fun e w' => e = .returned (.bool (isin c i)) ∧ w' = w := by
  have hi2 : (i : Int) ≤ 63 := by omega
  have hb := in_bits (i := i) hc
  clear hc
  go_enter Tryd.func27, Tryd.ntmps27
  go_wp2_with fail
  go_ret
  exact ⟨rfl, rfl⟩
set_option maxRecDepth 100000 in
theorem rmay_w (t c : Nat) (ht : t ≤ 62) (hc : c < 2 ^ 64) (w : World) : Calls Tryd.prog 38 #[.int .i64 t, .int .u64 c] w fun e w' => e = .returned (.bool (may t c)) ∧ w' = w := by
  have hm : may t c = (c != 0 && (c / 2 ^ (t + 2) == 0)) := by unfold may; rw [Nat.shiftRight_eq_div_pow]
  have hz := shr_zero (t := t) hc
  have HC := Lib.hid hc
  have HM := Lib.hid hm
  have HZ := Lib.hid hz
  have ht2 : (t : Int) ≤ 62 := by omega
  clear hm hz hc
  go_enter Tryd.func38, Tryd.ntmps38
  go_wp2_with fail
  go_loopw [5] (fun v wr => ∃ i : Nat, v = .int .i64 i ∧ t + 2 ≤ i ∧ i ≤ 64 ∧ (∀ j, t + 2 ≤ j → j < i → isin c j = false) ∧ wr = w) (fun v _ => 64 - (intOf v).toNat)
  case atStart => exact ⟨t + 2, by simp, Nat.le_refl _, by omega, fun j h1 h2 => by omega, rfl⟩
  case round =>
    obtain ⟨i, rfl, h1, h2, hall, rfl⟩ := hrel
    have HA := Lib.hid hall
    clear hall
    by_cases hlt : i < 64
    · have hi64 : decide ((i : Int) < 64) = true := decide_eq_true (by omega)
      go_wp2_with fail
      refine (rin_w c i HC.out (by omega) _).mono ?_
      rintro e w1 ⟨rfl, rfl⟩
      cases hin : isin c i with
      | true =>
        have hf : may t c = false := by
          rw [HM.out]
          have : ¬ c / 2 ^ (t + 2) = 0 := fun h0 => by have := HZ.out.1 h0 i h1 hlt; rw [hin] at this; cases this
          simp [this]
        have HF := Lib.hid hf
        clear hf hin
        go_wp2_with fail
        go_ret
        exact ⟨by rw [HF.out]; rfl, rfl⟩
      | false =>
        have HI := Lib.hid hin
        clear hin
        go_wp2_with fail
        go_roundw
        case rel =>
          refine ⟨i + 1, by simp, by omega, by omega, fun j h3 h4 => ?_, by first | trivial | rfl⟩
          rcases Nat.lt_or_ge j i with h | h
          · exact HA.out j h3 h
          · have : j = i := by omega
            rw [this]; exact HI.out
        case measure => simp [intOf]; omega
    · have hi64 : decide ((i : Int) < 64) = false := decide_eq_false (by omega)
      have hi65 : ¬ i < 64 := hlt
      have hf : may t c = (c != 0) := by
        rw [HM.out, HZ.out.2 (fun j h3 h4 => HA.out j h3 (by omega))]
        simp
      have hcast : ((c : Int) != 0) = (c != 0) := by
        cases h : (c != 0) <;> simp_all
      have HF := Lib.hid hf
      have HCC := Lib.hid hcast
      clear hf hcast
      go_wp2_with fail
      go_ret
      refine ⟨?_, rfl⟩
      rw [HF.out, ← HCC.out]
      rfl
end Go.Proofs.YtgekpnbgmbbbdaaDoor
