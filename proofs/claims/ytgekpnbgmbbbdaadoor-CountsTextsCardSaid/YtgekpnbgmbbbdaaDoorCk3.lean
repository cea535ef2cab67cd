/- The walk of the program's Check. -/
import Derived.Test.YtgekpnbgmbbbdaaDoorCk2
namespace Go.Proofs.YtgekpnbgmbbbdaaDoor
open Go Go.RowKit Go.Proofs.YtgekpnbgmbbbdaaDoorW.PrintWords Go.Proofs.YtgekpnbgmbbbdaaDoorW.PrintLast Go.Proofs.YtgekpnbgmbbbdaaDoorW.PrintMore
theorem shr_nat (y k : Nat) (hk : k ≤ 64) : Op.shift .shr .u64 (y : Int) .i64 (k : Int) = pure (.int .u64 ((y / 2 ^ k : Nat) : Int)) := by
  rw [shift_shr .u64 .i64 (y : Int) (k : Int) (by omega) (by simp only [IntKind.bits]; omega), Int.toNat_natCast, two_cast]
  simp
theorem nz_cast (y : Nat) : ((y : Int) == 0) = (y == 0) := by
  cases h : (y == 0) <;> simp_all
set_option maxRecDepth 100000 in
theorem check_w (t : Int) (okp : Nat → Prop) (A : Option Addr) (n c : Nat) (L : List Nat) (w : World) (hV : Kd.V (Kd.int .u64) 24 w 0 okp (.slice A n c) (u64s L)) (hlt : ∀ x ∈ L, x < 2 ^ 64) (hn : L.length ≤ 1152921504606846976) :
    Calls Tryd.prog 21 #[.int .i64 t, .slice A n c] w fun e w' => e = .returned (.int .i64 (chkF t L)) ∧ w' = w := by
  have hnl : n = L.length := by have := (Kd.V_at hV).1; rw [u64s_len] at this; exact this
  cases hb : bnd t with
  | false =>
    have hc : chkF t L = 1 := by unfold chkF; rw [hb]; rfl
    rw [hc]
    clear hV hlt hc
    go_enter Tryd.func21, Tryd.ntmps21
    go_wp2_with fail
    refine (bound_w t _).mono ?_
    rintro e w1 ⟨rfl, rfl⟩
    rw [hb]
    go_wp2_with fail
    go_ret
    exact ⟨rfl, rfl⟩
  | true =>
    obtain ⟨m, rfl, hm⟩ := bnd_nat hb
    have hc : chkF (m : Int) L = if L.all (may m) then 0 else 80 := by unfold chkF; rw [hb]; rfl
    have HC := Lib.hid hc
    have HV := Lib.hid hV
    have HLT := Lib.hid hlt
    have hm2 : (m : Int) ≤ 62 := by omega
    have HN := Lib.hid hnl
    have hn2 : n ≤ 1152921504606846976 := by omega
    clear hV hlt hc hnl hn
    go_enter Tryd.func21, Tryd.ntmps21
    go_wp2_with fail
    refine (bound_w (m : Int) _).mono ?_
    rintro e w1 ⟨rfl, rfl⟩
    rw [hb]
    go_wp2_with fail
    go_loopw [6, 12] (fun _ v wr => ∃ i : Nat, v = .int .i64 i ∧ i ≤ n ∧ (L.take i).all (may m) = true ∧ wr = w1) (fun _ v _ => n - (intOf v).toNat)
    case atStart => exact ⟨0, rfl, Nat.zero_le _, by simp, rfl⟩
    case round =>
      obtain ⟨i, rfl, hi, hall, rfl⟩ := hrel
      have HA := Lib.hid hall
      clear hall
      have hn64 : (n : Int) ≤ 1152921504606846976 := by omega
      by_cases hlt : i < n
      · obtain ⟨ad, x, rfl, hcell, HX, _⟩ := V_int HV.out i (by rw [u64s_len]; rw [← HN.out]; exact hlt)
        have hxn : x = ((L.getD i 0 : Nat) : Int) := by rw [HX.out, u64s_getD]
        obtain ⟨y, hy⟩ : ∃ y, y = L.getD i 0 := ⟨_, rfl⟩
        rw [← hy] at hxn
        subst hxn
        have hil : i < L.length := by rw [← HN.out]; exact hlt
        have hy64 : y < 2 ^ 64 := by rw [hy, List.getD_eq_getElem?_getD, List.getElem?_eq_getElem hil, Option.getD_some]; exact HLT.out _ (List.getElem_mem hil)
        have HY := Lib.hid hy
        have HIL := Lib.hid hil
        have hi64 : (i : Int) < (n : Int) := by omega
        have hmd : may m y = (y != 0 && (y / 2 ^ (m + 2) == 0)) := by unfold may; rw [Nat.shiftRight_eq_div_pow]
        have HMD := Lib.hid hmd
        have hbad : may m y = false → chkF (m : Int) L = 80 := fun h => by rw [HC.out, all_false HIL.out (by rw [← HY.out]; exact h)]; rfl
        have hgood : may m y = true → (L.take (i + 1)).all (may m) = true := fun h => by rw [all_take HIL.out, HA.out, ← HY.out, h]; rfl
        have HBAD := Lib.hid hbad
        have HGOOD := Lib.hid hgood
        have HY64 := Lib.hid hy64
        clear hy hil HX hmd hbad hgood hy64
        by_cases h0 : y = 0
        · have e0 : ((y : Int) == 0) = true := by rw [h0]; rfl
          have HCF := Lib.hid (HBAD.out (by rw [HMD.out, h0]; rfl))
          clear h0
          go_wp2_with fail
          go_ret
          exact ⟨by rw [HCF.out]; rfl, rfl⟩
        · have e0 : ((y : Int) == 0) = false := by simpa using h0
          have h00 : (y != 0) = true := by simpa using h0
          have HNZ := Lib.hid h00
          by_cases hm6 : m ≤ 61
          · have e1 : decide ((m : Int) + 2 < 64) = true := decide_eq_true (by omega)
            have hsh : (y : Int) / 2 ^ (m + 2) = ((y / 2 ^ (m + 2) : Nat) : Int) := by rw [two_cast]; simp
            obtain ⟨z, hz⟩ : ∃ z, z = y / 2 ^ (m + 2) := ⟨_, rfl⟩
            rw [← hz] at hsh
            rw [← hz] at HMD
            clear hz h0 h00
            by_cases hz0 : z = 0
            · have e2 : ((z : Int) != 0) = false := by rw [hz0]; rfl
              have HG := Lib.hid (HGOOD.out (by rw [HMD.out, HNZ.out, hz0]; rfl))
              clear hz0
              go_wp2_with fail
              go_roundw
              case rel =>
                refine ⟨i + 1, by simp, by omega, HG.out, by first | trivial | rfl⟩
              case measure => simp [intOf]; omega
            · have e2 : ((z : Int) != 0) = true := by simpa using hz0
              have HCF := Lib.hid (HBAD.out (by rw [HMD.out, HNZ.out]; simpa using hz0))
              clear hz0
              go_wp2_with fail
              go_ret
              exact ⟨by rw [HCF.out]; rfl, rfl⟩
          · have e1 : decide ((m : Int) + 2 < 64) = false := decide_eq_false (by omega)
            have hz : y / 2 ^ (m + 2) = 0 := Nat.div_eq_of_lt (by rw [show m + 2 = 64 by omega]; exact HY64.out)
            have HG := Lib.hid (HGOOD.out (by rw [HMD.out, HNZ.out, hz]; rfl))
            clear hz h0 h00
            go_wp2_with fail
            go_roundw
            case rel =>
              refine ⟨i + 1, by simp, by omega, HG.out, by first | trivial | rfl⟩
            case measure => simp [intOf]; omega
      · have hi64 : decide ((i : Int) < (n : Int)) = false := decide_eq_false (by omega)
        have hi65 : ¬ i < n := hlt
        have hcf : chkF (m : Int) L = 0 := by
          have h9 := HA.out
          rw [List.take_of_length_le (by have := HN.out; omega)] at h9
          rw [HC.out, h9]; rfl
        have HCF := Lib.hid hcf
        clear hcf hlt
        go_wp2_with fail
        go_ret
        exact ⟨by rw [HCF.out]; rfl, rfl⟩
end Go.Proofs.YtgekpnbgmbbbdaaDoor
