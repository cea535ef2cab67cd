/- The walks of enter, Send, Forge, New, Flying at a made net. -/
import Derived.Test.YtnognpfenefafaaNk8
import Derived.Test.YtnognpfenefafaaNk7
namespace Go.Proofs.Ytnognpfenefafaa
open Go.Proofs.Ytnognpfenefafaa.PNetRuns (S39 S73 k39 k73 z39 z73)
open Go.RowKit Go.Proofs.YtnognpfenefafaaW.PrintWords Go.Proofs.YtnognpfenefafaaW.PrintLast Go.Proofs.YtnognpfenefafaaW.PrintMore
attribute [local go_sem] max2_mx min2_mn max_two min_two
set_option maxRecDepth 100000 in
set_option maxHeartbeats 2000000 in
theorem enter_no (S okp : Nat → Prop) (g : Nat) (dev last : Int) (ps : List S73) (w : World) (fr to_ : Int) (fo : Bool) (A : Option Addr) (n c : Nat) (bs : List Int) (h : No S g dev last ps w) (hV : Kd.V KB 5 w 0 okp (.slice A n c) bs) (hok : ∀ k, okp k → k ≠ g)
    (hl : bs.length ≤ 65536) (hps : ps.length < 16384) (h0 : 0 ≤ last) (h1 : last ≤ 4611686018427387904) (hf0 : 0 ≤ fr) (hf1 : fr < dev) (ht0 : 0 ≤ to_) (ht1 : to_ < dev) :
    Calls Try.prog 23 #[.pointer (some ⟨g, 0, none⟩), .int .i64 fr, .int .i64 to_, .slice A n c, .bool fo] w fun e w' => e = .returned (.tuple #[.int .i64 (last + 1), .bool true, .int .i64 0]) ∧ (∃ S' : Nat → Prop, No S' g dev (last + 1) (ps ++ [⟨⟨last + 1, fr, to_, bs.length, fo⟩, bs⟩]) w' ∧ ∀ k, S' k → S k ∨ w.heap.size ≤ k) ∧ Chg S w w' := by
  have hmn : decide (mn fr to_ < 0) = false := decide_eq_false (by unfold mn; split <;> omega)
  have hmx : decide (dev ≤ mx fr to_) = false := decide_eq_false (by unfold mx; split <;> omega)
  have hd : decide (0 < dev) = true := by simp; omega
  have hn : n = bs.length := (Kd.V_at hV).1
  have hn2 : decide ((65536 : Int) < (n : Int)) = false := by simp; omega
  obtain ⟨hg, hlt, v, hblk, hR⟩ := id h
  have d0 := blk_cell hblk 0 (.int .i64 dev) rfl
  have HP := Lib.hid h
  have HV := Lib.hid hV
  clear h hblk hR hlt hg hV hn hf0 hf1 ht0 ht1
  go_enter Try.func23, Try.ntmps23
  go_wp2_with fail
  refine (made_no _ _ _ _ _ _ HP.out).mono ?_
  rintro e w1 ⟨rfl, rfl⟩
  rw [hd]
  go_wp2_with fail
  refine (put_no S okp g dev last ps _ _ _ _ _ _ A n c bs HP.out HV.out hok hl hps h0 h1).mono ?_
  rintro e w2 ⟨rfl, h2, h3⟩
  have H2 := Lib.hid h2
  have H3 := Lib.hid h3
  clear h2 h3
  go_wp2_with fail
  go_ret3
  exact ⟨rfl, H2.out, H3.out⟩
end Go.Proofs.Ytnognpfenefafaa
