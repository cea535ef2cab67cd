/- The walks of enter, Send, Forge, New, Flying at a made net. -/
import Derived.Test.YtnognpfenefafaaNk9
namespace Go.Proofs.Ytnognpfenefafaa
open Go.Proofs.Ytnognpfenefafaa.PNetRuns (S39 S73 k39 k73 z39 z73)
open Go.RowKit Go.Proofs.YtnognpfenefafaaW.PrintWords Go.Proofs.YtnognpfenefafaaW.PrintLast Go.Proofs.YtnognpfenefafaaW.PrintMore
attribute [local go_sem] max2_mx min2_mn max_two min_two
theorem send_no (S okp : Nat → Prop) (g : Nat) (dev last : Int) (ps : List S73) (w : World) (fr to_ : Int) (A : Option Addr) (n c : Nat) (bs : List Int) (h : No S g dev last ps w) (hV : Kd.V KB 5 w 0 okp (.slice A n c) bs) (hok : ∀ k, okp k → k ≠ g)
    (hl : bs.length ≤ 65536) (hps : ps.length < 16384) (h0 : 0 ≤ last) (h1 : last ≤ 4611686018427387904) (hf0 : 0 ≤ fr) (hf1 : fr < dev) (ht0 : 0 ≤ to_) (ht1 : to_ < dev) :
    Calls Try.prog 8 #[.pointer (some ⟨g, 0, none⟩), .int .i64 fr, .int .i64 to_, .slice A n c] w fun e w' => e = .returned (.tuple #[.int .i64 (last + 1), .bool true, .int .i64 0]) ∧ (∃ S' : Nat → Prop, No S' g dev (last + 1) (ps ++ [⟨⟨last + 1, fr, to_, bs.length, false⟩, bs⟩]) w' ∧ ∀ k, S' k → S k ∨ w.heap.size ≤ k) ∧ Chg S w w' := by
  have H := Lib.hid (enter_no S okp g dev last ps w fr to_ false A n c bs h hV hok hl hps h0 h1 hf0 hf1 ht0 ht1)
  clear h hV hok hl hps h0 h1 hf0 hf1 ht0 ht1
  go_enter Try.func8, Try.ntmps8
  go_wp2_with fail
  refine H.out.mono ?_
  rintro e w1 ⟨rfl, h2, h3⟩
  have H2 := Lib.hid h2
  have H3 := Lib.hid h3
  clear h2 h3
  go_wp2_with fail
  go_ret3
  exact ⟨rfl, H2.out, H3.out⟩
theorem new_bad (dev : Int) (w : World) (h : dev < 1 ∨ 256 < dev) : Calls Try.prog 6 #[.int .i64 dev] w fun e w' => e = .returned (.tuple #[.pointer none, .int .i64 1]) ∧ w = w' := by
  rcases h with h | h
  all_goals
    go_enter Try.func6, Try.ntmps6
    go_wp2
    go_ret2
    exact ⟨rfl, rfl⟩
theorem new_no (dev : Int) (w : World) (h0 : 1 ≤ dev) (h1 : dev ≤ 256) : Calls Try.prog 6 #[.int .i64 dev] w fun e w' => e = .returned (.tuple #[.pointer (some ⟨w.heap.size, 0, none⟩), .int .i64 0]) ∧ No (fun k => k = w.heap.size) w.heap.size dev 0 [] w' ∧ Below w.heap.size w w' := by
  have h : ∀ n, No (fun k => k = w.heap.size) w.heap.size dev 0 [] ((w.drewN n).alloc (.cells #[.int .i64 dev, .int .i64 0, .slice none 0 0] 54)) :=
    fun n => ⟨rfl, fun k hk => by rw [hk]; simp, _, heap_alloc_new (w.drewN n) _, Kd.S_nil _ _ _ _ _⟩
  have H := Lib.hid h
  clear h
  go_enter Try.func6, Try.ntmps6
  go_wp2
  first | go_ret2 | (go_quiet (fail); go_wp2; go_ret2)
  exact ⟨rfl, H.out 0, below_alloc (Below.refl _ _) _⟩
end Go.Proofs.Ytnognpfenefafaa
