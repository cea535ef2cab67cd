/- The walk of Same: of two slices of slices of bytes that read alike it tells true. -/
import Derived.Test.YtleomcilhhdngaaBase
namespace Go.Proofs.Ytleomcilhhdngaa
open Go.RowKit Go.Proofs.YtleomcilhhdngaaW.PrintWords Go.Proofs.YtleomcilhhdngaaW.PrintLast Go.Proofs.YtleomcilhhdngaaW.PrintMore
set_option maxHeartbeats 400000 in
theorem same_true (A B : Option Addr) (n m c1 c2 : Nat) (xs : List (List Int)) (w : World) (ok1 ok2 : Nat → Prop) (ha : Kd.V KBB 22 w 0 ok1 (.slice A n c1) xs) (hb : Kd.V KBB 22 w 0 ok2 (.slice B m c2) xs) :
    Calls Try.prog 12 #[.slice A n c1, .slice B m c2] w fun e w' => e = .returned (.bool true) ∧ Drawn0 w w' := by
  obtain ⟨rfl, hl1, hF1⟩ := Kd.V_at ha
  obtain ⟨rfl, hl2, hF2⟩ := Kd.V_at hb
  have hm1 : xs.length ≤ 9223372036854775807 := Kd.F_max hF1
  clear hF1 hF2
  have HA := Lib.hid ha
  have HB := Lib.hid hb
  clear ha hb
  go_enter Try.func12, Try.ntmps12
  go_wp2
  go_loopw [5] (fun i wr => ∃ k : Nat, i = .int .i64 k ∧ k ≤ xs.length ∧ Drawn0 w wr) (fun i _ => xs.length - (intOf i).toNat)
  case atStart => exact ⟨0, rfl, Nat.zero_le _, Drawn0.refl _⟩
  case round =>
    obtain ⟨k, rfl, hk, hd⟩ := hrel
    obtain ⟨⟨nd, rfl⟩⟩ := hd
    by_cases hlt : k < xs.length
    · obtain ⟨ad, A0, c0, x, rfl, hc0, hl0, hC0, HX⟩ := V_slice_at HA.out k hlt
      obtain ⟨bd, B0, e0, y, rfl, hd0, hk0, hD0, HY⟩ := V_slice_at HB.out k hlt
      obtain rfl : x = y := HX.out.trans HY.out.symm
      have hcv : ∀ q, (convert 22 9 (.slice A0 x.length c0)).run Try.prog (w.drewN q) = .ok (.string (strOfNums x)) (w.drewN q) := fun q => Kd.C_string (P := Try.prog) (A := A0) (c := c0) Try.underlying22 Try.underlying5 Try.underlying9 hC0
      have hcw : ∀ q, (convert 22 9 (.slice B0 x.length e0)).run Try.prog (w.drewN q) = .ok (.string (strOfNums x)) (w.drewN q) := fun q => Kd.C_string (P := Try.prog) (A := B0) (c := e0) Try.underlying22 Try.underlying5 Try.underlying9 hD0
      clear hC0 hD0
      have hlt2 : (k : Int) < (xs.length : Int) := by omega
      have hlt4 : (0 : Int) ≤ (k : Int) := by omega
      go_wp2
      go_quiet (fail)
      go_wp2
      go_roundw
      case rel => exact ⟨k + 1, by go_num, by omega, ⟨⟨_, rfl⟩⟩⟩
      case measure => simp [intOf]; omega
    · go_wp2
      go_ret
      exact ⟨rfl, ⟨⟨_, rfl⟩⟩⟩
end Go.Proofs.Ytleomcilhhdngaa
