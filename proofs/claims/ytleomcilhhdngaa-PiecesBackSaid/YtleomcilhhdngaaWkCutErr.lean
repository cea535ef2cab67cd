/- The walk of the program's Cut, where it tells an error. -/
import Derived.Test.YtleomcilhhdngaaBase
import Derived.Test.YtleomcilhhdngaaPlCut
namespace Go.Proofs.Ytleomcilhhdngaa
open Go.RowKit Go.Proofs.YtleomcilhhdngaaW.PrintWords Go.Proofs.YtleomcilhhdngaaW.PrintLast Go.Proofs.YtleomcilhhdngaaW.PrintMore
attribute [local go_sem] max2_mx min2_mn max_two min_two
theorem cut_low (A : Option Addr) (n c : Nat) (mtu : Int) (w : World) (h : mtu < 2) :
    Calls Try.prog 8 #[.slice A n c, .int .i64 mtu] w fun e w' => e = .returned (.tuple #[.slice none 0 0, .int .i64 1]) ∧ w = w' := by
  go_enter Try.func8, Try.ntmps8
  go_wp2
  go_ret2
  exact ⟨rfl, rfl⟩
theorem cut_high (A : Option Addr) (n c : Nat) (mtu : Int) (w : World) (h : 65536 < mtu) :
    Calls Try.prog 8 #[.slice A n c, .int .i64 mtu] w fun e w' => e = .returned (.tuple #[.slice none 0 0, .int .i64 1]) ∧ w = w' := by
  go_enter Try.func8, Try.ntmps8
  go_wp2
  go_ret2
  exact ⟨rfl, rfl⟩
theorem cut_long (A : Option Addr) (n c : Nat) (mtu : Int) (w : World) (h1 : 2 ≤ mtu) (h2 : mtu ≤ 65536) (h : (16777216 : Int) < (n : Int)) :
    Calls Try.prog 8 #[.slice A n c, .int .i64 mtu] w fun e w' => e = .returned (.tuple #[.slice none 0 0, .int .i64 2]) ∧ w = w' := by
  go_enter Try.func8, Try.ntmps8
  go_wp2
  go_ret2
  exact ⟨rfl, rfl⟩
set_option maxHeartbeats 400000 in
theorem cut_many (A : Option Addr) (n c p : Nat) (w : World) (h1 : 1 ≤ p) (h2 : p ≤ 65535) (h : n ≤ 16777216) (hm : 65536 < many n p) :
    Calls Try.prog 8 #[.slice A n c, .int .i64 ((p : Int) + 1)] w fun e w' => e = .returned (.tuple #[.slice none 0 0, .int .i64 3]) ∧ w = w' := by
  have hq1 : 65536 < mx 1 (((n : Int) + (p : Int) - 1) / (p : Int)) := by
    have h1 : ((n : Int) + (p : Int) - 1) / (p : Int) = (((n + p - 1) / p : Nat) : Int) := by
      rw [show ((n : Int) + (p : Int) - 1) = ((n + p - 1 : Nat) : Int) from by omega]; rfl
    rw [h1]; unfold many at hm; unfold mx; split <;> omega
  have hp3 : (0 : Int) ≤ (p : Int) := by omega
  go_enter Try.func8, Try.ntmps8
  go_wp2
  go_ret2
  exact ⟨rfl, rfl⟩
end Go.Proofs.Ytleomcilhhdngaa
