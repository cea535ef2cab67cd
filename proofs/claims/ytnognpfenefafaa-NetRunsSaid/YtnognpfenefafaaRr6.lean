/- The walks of the document's Send and Twice. -/
import Derived.Test.YtnognpfenefafaaRr3
import Derived.Test.YtnognpfenefafaaRr4
namespace Go.Proofs.Ytnognpfenefafaa
open Go.Proofs.Ytnognpfenefafaa.PNetRuns (S39 S73 k39 k73 z39 z73)
open Go.RowKit Go.Proofs.YtnognpfenefafaaW.PrintWords Go.Proofs.YtnognpfenefafaaW.PrintLast Go.Proofs.YtnognpfenefafaaW.PrintMore
set_option maxRecDepth 100000 in
set_option maxHeartbeats 2000000 in
theorem rsend_any (S okp : Nat → Prop) (g : Nat) (dev last : Int) (ps : List S73) (w : World) (fr to_ : Int) (fo : Bool) (A : Option Addr) (n c : Nat) (bs : List Int) (h : Rn S g dev last ps w) (hV : Kd.V KB 5 w 0 okp (.slice A n c) bs) (hok : ∀ k, okp k → k ≠ g)
    (hps : ps.length < 16384) (h0 : 0 ≤ last) (h1 : last ≤ 4611686018427387904) (r : Rs) (hr : r = enterF dev last ps fr to_ fo bs) :
    Calls Try.prog 24 #[.pointer (some ⟨g, 0, none⟩), .int .i64 fr, .int .i64 to_, .slice A n c, .bool fo] w fun e w' => e = .returned (.tuple #[.int .i64 r.a, .bool r.ok, .int .i64 r.e]) ∧ RP S g dev r.last r.ps w w' := by
  unfold enterF at hr
  have hn : n = bs.length := (Kd.V_at hV).1
  by_cases hE : 0 ≤ fr ∧ fr < dev ∧ 0 ≤ to_ ∧ to_ < dev
  · rw [if_pos hE] at hr
    have H := Lib.hid (rhas S g dev last fr ps _ h)
    have H2 := Lib.hid (rhas S g dev last to_ ps _ h)
    have hb : (decide (0 ≤ fr) && decide (fr < dev)) = true := by simp; exact ⟨hE.1, hE.2.1⟩
    have hb2 : (decide (0 ≤ to_) && decide (to_ < dev)) = true := by simp; exact ⟨hE.2.2.1, hE.2.2.2⟩
    rw [hb] at H
    rw [hb2] at H2
    by_cases hL : bs.length ≤ 65536
    · rw [if_pos hL] at hr
      subst hr
      have hn2 : decide ((65536 : Int) < (n : Int)) = false := by simp; omega
      have HP := Lib.hid (rput_no S okp g dev last ps w fr to_ fo A n c bs h hV hok hL hps h0 h1)
      clear h hV hn hE hL hps h0 h1 hok hb hb2
      go_enter Try.func24, Try.ntmps24
      go_wp2_with fail
      refine H.out.mono ?_
      rintro e w1 ⟨rfl, rfl⟩
      clear H
      go_wp2_with fail
      refine H2.out.mono ?_
      rintro e w2 ⟨rfl, rfl⟩
      clear H2
      go_wp2_with fail
      refine HP.out.mono ?_
      clear HP
      rintro e w3 ⟨rfl, h2, h3⟩
      have H3 := Lib.hid (And.intro h2 h3)
      clear h2 h3
      go_wp2_with fail
      go_ret3
      exact ⟨rfl, H3.out⟩
    · rw [if_neg hL] at hr
      subst hr
      have hn2 : decide ((65536 : Int) < (n : Int)) = true := by simp; omega
      have HP := Lib.hid h
      clear h hV hn hE hL hps h0 h1 hok hb hb2
      go_enter Try.func24, Try.ntmps24
      go_wp2_with fail
      refine H.out.mono ?_
      rintro e w1 ⟨rfl, rfl⟩
      clear H
      go_wp2_with fail
      refine H2.out.mono ?_
      rintro e w2 ⟨rfl, rfl⟩
      clear H2
      go_wp2_with fail
      go_ret3
      exact ⟨rfl, RP.same HP.out (Below.refl _ _)⟩
  · rw [if_neg hE] at hr
    subst hr
    refine (rsend_end S g dev last ps w fr to_ _ fo h hE).mono ?_
    rintro e w1 ⟨rfl, rfl⟩
    exact ⟨rfl, RP.same h (Below.refl _ _)⟩
end Go.Proofs.Ytnognpfenefafaa
