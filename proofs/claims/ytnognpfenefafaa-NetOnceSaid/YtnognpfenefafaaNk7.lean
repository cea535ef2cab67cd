/- The walks of the net's functions at a net that nobody made. -/
import Derived.Test.YtnognpfenefafaaNk6
import Derived.StillTailTactics
namespace Go.Proofs.Ytnognpfenefafaa
open Go.Proofs.Ytnognpfenefafaa.PNetRuns (S39 S73 k39 k73 z39 z73)
open Go.RowKit Go.Proofs.YtnognpfenefafaaW.PrintWords Go.Proofs.YtnognpfenefafaaW.PrintLast Go.Proofs.YtnognpfenefafaaW.PrintMore
theorem deliver_un (p : Value) (id : Int) (w : World) (h : UnM p w) : Calls Try.prog 10 #[p, .int .i64 id] w fun e w' => e = .returned (.tuple #[.agg #[.int .i64 0, .int .i64 0, .int .i64 0, .int .i64 0, .bool false], .slice none 0 0, .int .i64 4]) ∧ Below w.heap.size w w' := by
  refine (deliver_gen p id w 0 0 0 0 false none 0 0 4 (fun w1 => Below w.heap.size w w1) ((take_un p id _ (h.to (below_alloc (Below.refl _ _) _))).mono ?_)).mono ?_
  · rintro e w1 ⟨rfl, hb⟩
    exact ⟨rfl, loc_blk hb, below_then (below_alloc (Below.refl w.heap.size w) _) (Nat.le_of_lt (by rw [World.size_alloc]; omega)) hb⟩
  · rintro e w' ⟨rfl, w1, hb, hc⟩
    exact ⟨rfl, hb.trans (hc.below (fun i hi => by omega) hb.size)⟩
theorem drop_un (p : Value) (id : Int) (w : World) (h : UnM p w) : Calls Try.prog 20 #[p, .int .i64 id] w fun e w' => e = .returned (.int .i64 4) ∧ Below w.heap.size w w' := by
  have H := Lib.hid h
  clear h
  go_enter Try.func20, Try.ntmps20
  go_wp2_with fail
  refine (take_un _ _ _ (H.out.to (by first | exact Below.refl _ _ | exact below_alloc (Below.refl _ _) _))).mono ?_
  rintro e w1 ⟨rfl, hb⟩
  have HB := Lib.hid hb
  clear hb
  go_wp2_with fail
  go_ret
  first | exact ⟨rfl, HB.out⟩ | exact ⟨rfl, below_alloc HB.out _⟩
theorem twice_un (p : Value) (id : Int) (w : World) (h : UnM p w) : Calls Try.prog 19 #[p, .int .i64 id] w fun e w' => e = .returned (.tuple #[.int .i64 0, .bool false, .int .i64 4]) ∧ Below w.heap.size w w' := by
  have H := Lib.hid h
  clear h
  go_enter Try.func19, Try.ntmps19
  go_wp2_with fail
  refine (find_un _ _ _ (H.out.to (by first | exact Below.refl _ _ | exact below_alloc (Below.refl _ _) _))).mono ?_
  rintro e w1 ⟨rfl, hb⟩
  have HB := Lib.hid hb
  clear hb
  go_wp2_with fail
  go_ret3
  exact ⟨rfl, HB.out⟩
theorem spoil_un (p : Value) (id at_ bits : Int) (w : World) (h : UnM p w) : Calls Try.prog 21 #[p, .int .i64 id, .int .i64 at_, .int .u8 bits] w fun e w' => e = .returned (.int .i64 4) ∧ Below w.heap.size w w' := by
  have H := Lib.hid h
  clear h
  go_enter Try.func21, Try.ntmps21
  go_wp2_with fail
  refine (find_un _ _ _ (H.out.to (by first | exact Below.refl _ _ | exact below_alloc (Below.refl _ _) _))).mono ?_
  rintro e w1 ⟨rfl, hb⟩
  have HB := Lib.hid hb
  clear hb
  go_wp2_with fail
  go_ret
  exact ⟨rfl, HB.out⟩
theorem clear_un (p : Value) (w : World) (h : UnM p w) : Calls Try.prog 22 #[p] w fun e w' => e = .returned (.int .i64 0) ∧ Below w.heap.size w w' := by
  have H := Lib.hid h
  clear h
  go_enter Try.func22, Try.ntmps22
  go_wp2_with fail
  refine (H.out _ (Below.refl _ _)).mono ?_
  rintro e w1 ⟨rfl, rfl⟩
  go_wp2_with fail
  go_ret
  exact ⟨rfl, Below.refl _ _⟩
theorem flying_un (p : Value) (w : World) (h : UnM p w) : Calls Try.prog 13 #[p] w fun e w' => e = .returned (.slice none 0 0) ∧ Below w.heap.size w w' := by
  have H := Lib.hid h
  clear h
  go_enter Try.func13, Try.ntmps13
  go_wp2_with fail
  refine (H.out _ (Below.refl _ _)).mono ?_
  rintro e w1 ⟨rfl, rfl⟩
  go_wp2_with fail
  go_ret
  exact ⟨rfl, Below.refl _ _⟩
theorem between_un (p : Value) (x y : Int) (w : World) (h : UnM p w) : Calls Try.prog 16 #[p, .int .i64 x, .int .i64 y] w fun e w' => e = .returned (.slice none 0 0) ∧ Below w.heap.size w w' := by
  have H := Lib.hid h
  clear h
  go_enter Try.func16, Try.ntmps16
  go_wp2_with fail
  refine (H.out _ (by first | exact Below.refl _ _ | exact below_alloc (Below.refl _ _) _ | skip)).mono ?_
  rintro e w1 ⟨rfl, rfl⟩
  go_wp2_with fail
  go_ret
  exact ⟨rfl, by first | exact Below.refl _ _ | exact below_alloc (Below.refl _ _) _⟩
end Go.Proofs.Ytnognpfenefafaa
