/- The walks of New, Open, Reset, and both Puts in one form. -/
import Derived.Test.YtleomcilhhdngaaWkPut3
import Derived.Test.YtleomcilhhdngaaWkRef2
namespace Go.Proofs.Ytleomcilhhdngaa
open Go.RowKit Go.Proofs.YtleomcilhhdngaaW.PrintWords Go.Proofs.YtleomcilhhdngaaW.PrintLast Go.Proofs.YtleomcilhhdngaaW.PrintMore
theorem new_bad (most : Int) (w : World) (h : most < 0 ∨ 16777216 < most) : Calls Try.prog 16 #[.int .i64 most] w fun e w' => e = .returned (.tuple #[.pointer none, .int .i64 1]) ∧ w = w' := by
  rcases h with h | h
  all_goals
    go_enter Try.func16, Try.ntmps16
    go_wp2
    go_ret2
    exact ⟨rfl, rfl⟩
theorem new_ok (most : Int) (w : World) (h0 : 0 ≤ most) (h1 : most ≤ 16777216) : Calls Try.prog 16 #[.int .i64 most] w fun e w' => e = .returned (.tuple #[.pointer (some ⟨w.heap.size, 0, none⟩), .int .i64 0]) ∧ Jo (fun k => k = w.heap.size) w.heap.size false [] most w' ∧ Below w.heap.size w w' := by
  have h : ∀ n, Jo (fun k => k = w.heap.size) w.heap.size false [] most ((w.drewN n).alloc (.cells #[.bool false, .slice none 0 0, .bool true, .int .i64 most] 37)) :=
    fun n => ⟨rfl, fun k hk => by rw [hk]; simp, _, heap_alloc_new (w.drewN n) _, Kd.R_nil _ _ _ _ _⟩
  have H := Lib.hid h
  clear h
  go_enter Try.func16, Try.ntmps16
  go_wp2
  first | go_ret2 | (go_quiet (fail); go_wp2; go_ret2)
  exact ⟨rfl, H.out 0, below_alloc (Below.refl _ _) _⟩
theorem rnew_bad (most : Int) (w : World) (h : most < 0 ∨ 16777216 < most) : Calls Try.prog 17 #[.int .i64 most] w fun e w' => e = .returned (.tuple #[.pointer none, .int .i64 1]) ∧ w = w' := by
  rcases h with h | h
  all_goals
    go_enter Try.func17, Try.ntmps17
    go_wp2
    go_ret2
    exact ⟨rfl, rfl⟩
theorem rnew_ok (most : Int) (w : World) (h0 : 0 ≤ most) (h1 : most ≤ 16777216) : Calls Try.prog 17 #[.int .i64 most] w fun e w' => e = .returned (.tuple #[.pointer (some ⟨w.heap.size, 0, none⟩), .int .i64 0]) ∧ Ro (fun k => k = w.heap.size) w.heap.size false [] most w' ∧ Below w.heap.size w w' := by
  have h : ∀ n, Ro (fun k => k = w.heap.size) w.heap.size false [] most ((w.drewN n).alloc (.cells #[.int .i64 most, .bool false, .slice none 0 0] 51)) :=
    fun n => ⟨rfl, fun k hk => by rw [hk]; simp, _, heap_alloc_new (w.drewN n) _, Kd.V_nil _ _ _ _ _⟩
  have H := Lib.hid h
  clear h
  go_enter Try.func17, Try.ntmps17
  go_wp2
  go_ret2
  exact ⟨rfl, H.out 0, below_alloc (Below.refl _ _) _⟩
theorem open_ok (S : Nat → Prop) (g : Nat) (is : Bool) (bs : List Int) (most : Int) (w : World) (hJ : Jo S g is bs most w) :
    Calls Try.prog 14 #[.pointer (some ⟨g, 0, none⟩)] w fun e w' => e = .returned (.tuple #[.int .i64 bs.length, .bool is]) ∧ Drawn0 w w' := by
  obtain ⟨hg, hlt, v, hblk, hR⟩ := hJ
  obtain ⟨A1, c1, rfl⟩ := Kd.R_slice hR
  have d0 := blk_cell hblk 0 _ rfl
  have d1 := blk_cell hblk 1 _ rfl
  have d2 := blk_cell hblk 2 _ rfl
  have HB := Lib.hid hblk
  clear hblk hR hlt
  go_enter Try.func14, Try.ntmps14
  go_wp2_with fail
  go_quiet (fail)
  go_wp2_with fail
  go_ret2
  exact ⟨rfl, ⟨⟨_, rfl⟩⟩⟩
theorem reset_ok (S : Nat → Prop) (g : Nat) (is : Bool) (bs : List Int) (most : Int) (w : World) (hJ : Jo S g is bs most w) :
    Calls Try.prog 15 #[.pointer (some ⟨g, 0, none⟩)] w fun e w' => e = .returned (.int .i64 0) ∧ Jo (fun k => k = g) g false [] most w' ∧ Chg S w w' := by
  obtain ⟨hg, hlt, v, hblk, hR⟩ := hJ
  have d2 := blk_cell hblk 2 _ rfl
  have HB := Lib.hid hblk
  clear hblk hR hlt
  go_enter Try.func15, Try.ntmps15
  go_wp2_with fail
  refine (drop_any g _ _ _ _ _ (by exact HB.out)).mono ?_
  rintro e w1 ⟨rfl, hb, hc⟩
  have HB1 := Lib.hid hb
  have HC1 := Lib.hid hc
  clear hb hc
  go_wp2_with fail
  go_ret
  exact ⟨rfl, ⟨rfl, fun k hk => by rw [hk]; exact blk_lt HB1.out, _, HB1.out, Kd.R_nil _ _ _ _ _⟩, HC1.out.mono (fun k hk => by rw [hk]; exact hg)⟩
end Go.Proofs.Ytleomcilhhdngaa
