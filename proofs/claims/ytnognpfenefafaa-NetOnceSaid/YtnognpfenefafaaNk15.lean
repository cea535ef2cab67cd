/- The walk of alive. -/
import Derived.Test.YtnognpfenefafaaNk13
import Derived.Test.YtnognpfenefafaaNk14
import Derived.Lib.SlBytesConst
namespace Go.Proofs.Ytnognpfenefafaa
open Go.Proofs.Ytnognpfenefafaa.PNetRuns (S39 S73 k39 k73 z39 z73)
open Go.RowKit Go.Proofs.YtnognpfenefafaaW.PrintWords Go.Proofs.YtnognpfenefafaaW.PrintLast Go.Proofs.YtnognpfenefafaaW.PrintMore
def p1 : S73 := ⟨⟨1, 0, 1, 1, false⟩, [97]⟩
def p2 : S73 := ⟨⟨2, 0, 1, 1, false⟩, [97]⟩
theorem fnd1 : fnd [p1] 1 = 0 := by decide
theorem fnd2 : fnd [p1, p2] 2 = 1 := by decide
set_option maxRecDepth 100000 in
set_option maxHeartbeats 4000000 in
theorem alive_any (w : World) : Calls Try.prog 7 #[] w fun e w' => e = .returned (.bool true) ∧ Below w.heap.size w w' := by
  have kc := fun (w : World) (C : Array Value) (n c : Nat) => Lib.run_convert_bytes_const (P := Try.prog) w 23 5 C n c Try.underlying23 Try.underlying5
  go_enter Try.func7, Try.ntmps7
  go_wp2_with fail
  refine (new_no 2 _ (by omega) (by omega)).mono ?_
  rintro e w1 ⟨rfl, hN1, hB1⟩
  have HN1 := Lib.hid hN1
  have HB1 := Lib.hid hB1
  clear hN1 hB1
  go_wp2_with fail
  have hgw : w.heap.size < w1.heap.size := HN1.out.2.1 _ rfl
  have hV : Kd.V KB 5 (w1.alloc (.cells #[.int .u8 97] 5 (1, 2))) 0 (fun k => False ∨ k = w1.heap.size) (.slice (some ⟨w1.heap.size, 0, none⟩) 1 1) [97] :=
    V_block (heap_alloc_new w1 _) (Reps_ints .u8 [97] _ rfl) rfl (Nat.le_refl _) (by omega)
  have hN1 := HN1.out.step (w' := w1.alloc (.cells #[.int .u8 97] 5 (1, 2))) (by rw [World.size_alloc]; omega) (fun k hk hl => Below.heap_alloc _ _ k hl)
  have hcall := send_no (fun k => k = w.heap.size) _ w.heap.size 2 0 [] _ 0 1 _ 1 1 [97] hN1 hV (fun k hk => by rcases hk with h | h; exact h.elim; omega) (by simp) (by simp) (by omega) (by omega) (by omega) (by omega) (by omega) (by omega)
  refine hcall.mono ?_
  clear hcall hV hN1
  rintro e w2 ⟨rfl, ⟨S1, hn2, hs2⟩, hc2⟩
  have hN2 : No S1 w.heap.size 2 1 [p1] w2 := hn2
  have hB2 : Below w.heap.size w w2 := (below_alloc HB1.out _).trans (hc2.below (fun k hk => by omega) (by rw [World.size_alloc]; omega))
  have hS2 : ∀ k, S1 k → w.heap.size ≤ k := fun k hk => by
    rcases hs2 k hk with h | h
    · omega
    · rw [World.size_alloc] at h; omega
  have HN2 := Lib.hid hN2
  have HB2 := Lib.hid hB2
  have HS2 := Lib.hid hS2
  clear hn2 hs2 hc2 hN2 hB2 hS2
  rw [show (0 : Int) + 1 = 1 from rfl]
  go_wp2_with fail
  refine (twice_no S1 w.heap.size 2 1 1 [p1] _ p1 HN2.out (by omega) (by simp) (by rw [fnd1]; simp) (by rw [fnd1]; rfl) (by simp [p1]) (by omega) (by omega)).mono ?_
  rintro e w3 ⟨rfl, ⟨S2, hn3, hs3⟩, hc3⟩
  have hN3 : No S2 w.heap.size 2 2 [p1, p2] w3 := hn3
  have hB3 : Below w.heap.size w w3 := HB2.out.trans (hc3.below (fun k hk => HS2.out k hk) HB2.out.size)
  have hS3 : ∀ k, S2 k → w.heap.size ≤ k := fun k hk => by
    rcases hs3 k hk with h | h
    · exact HS2.out k h
    · have := HB2.out.size; omega
  have HN3 := Lib.hid hN3
  have HB3 := Lib.hid hB3
  have HS3 := Lib.hid hS3
  clear hn3 hs3 hc3 hN3 hB3 hS3
  rw [show (1 : Int) + 1 = 2 from rfl]
  obtain ⟨A5, c5, x, HX, hC⟩ := deliver_no S2 w.heap.size 2 2 2 [p1, p2] w3 HN3.out (by omega) (by simp) (by rw [fnd2]; simp)
  obtain rfl : x = p2 := HX.out.trans (by rw [fnd2]; rfl)
  have HC := Lib.hid hC
  clear hC
  go_wp2_with fail
  refine HC.out.mono ?_
  rintro e w4 ⟨rfl, hn4, hc4, hV4⟩
  rw [fnd2] at hn4
  have HN4 := Lib.hid (show No S2 w.heap.size 2 2 [p1] w4 from hn4)
  have HB4 := Lib.hid (HB3.out.trans (hc4.below (fun k hk => HS3.out k hk) HB3.out.size))
  have hC4 : KB.C w4 A5 1 [97] := (Kd.V_reads' hV4).2.2
  have hcv := fun o => Kd.C_string (P := Try.prog) (A := A5) (c := c5) Try.underlying23 Try.underlying5 Try.underlying9 (Kd.C_alloc hC4 o)
  have hstr : strOfNums [97] = ⟨#[97]⟩ := by decide
  rw [hstr] at hcv
  clear hn4 hc4 hV4 hC4 HC
  simp only [p2, List.length_cons, List.length_nil]
  go_wp2_with fail
  refine (flying_no S2 w.heap.size 2 2 [p1] _ (HN4.out.step (by rw [World.size_alloc]; omega) (fun k hk hl => Below.heap_alloc _ _ k hl)) (by omega) (by simp)).mono ?_
  rintro e w5 ⟨v, rfl, hR5, hB5⟩
  have HB5 := Lib.hid (below_step (below_alloc HB4.out _) hB5)
  obtain ⟨A6, c6, rfl⟩ := Kd.R_slice hR5
  clear hR5 hB5
  simp only [List.length_map, List.length_cons, List.length_nil]
  go_wp2_with fail
  go_ret
  exact ⟨rfl, HB5.out⟩
end Go.Proofs.Ytnognpfenefafaa
