/- The walks of the net's functions at a net that nobody made. -/
import Derived.Test.YtnognpfenefafaaNs
import Derived.StillTailTactics
namespace Go.Proofs.Ytnognpfenefafaa
open Go.Proofs.Ytnognpfenefafaa.PNetRuns (S39 S73 k39 k73 z39 z73)
open Go.RowKit Go.Proofs.YtnognpfenefafaaW.PrintWords Go.Proofs.YtnognpfenefafaaW.PrintLast Go.Proofs.YtnognpfenefafaaW.PrintMore
/-- A net that nobody made (or none at all): 'made' says no. -/
def UnM (p : Value) (w : World) : Prop := ∀ W, Below w.heap.size w W → Calls Try.prog 30 #[p] W fun e w' => e = .returned (.bool false) ∧ w' = W
theorem UnM.to {p : Value} {w w' : World} (h : UnM p w) (hb : Below w.heap.size w w') : UnM p w' := fun W hW => h W (below_then hb hb.size hW)
theorem un_nil (w : World) : UnM (.pointer none) w := fun W _ => made_nil W
theorem un_new (w : World) (g : Nat) (v : Value) (hb : w.heap[g]? = some (.cells #[.int .i64 0, .int .i64 0, v] 54 (0, 0))) : UnM (.pointer (some ⟨g, 0, none⟩)) w := by
  intro W hW
  have d0 := blk_cell ((hW.block g (blk_lt hb)).trans hb) 0 (.int .i64 0) rfl
  clear hb hW
  go_enter Try.func30, Try.ntmps30
  go_wp2
  go_ret
  exact ⟨rfl, rfl⟩
theorem find_un (p : Value) (id : Int) (w : World) (h : UnM p w) : Calls Try.prog 32 #[p, .int .i64 id] w fun e w' => e = .returned (.tuple #[.int .i64 0, .int .i64 4]) ∧ Below w.heap.size w w' := by
  have H := Lib.hid h
  clear h
  go_enter Try.func32, Try.ntmps32
  go_wp2_with fail
  refine (H.out _ (below_alloc (Below.refl _ _) _)).mono ?_
  rintro e w1 ⟨rfl, rfl⟩
  go_wp2_with fail
  go_ret2
  exact ⟨rfl, below_alloc (Below.refl _ _) _⟩
theorem enter_un (p b : Value) (x y : Int) (f : Bool) (w : World) (h : UnM p w) : Calls Try.prog 23 #[p, .int .i64 x, .int .i64 y, b, .bool f] w fun e w' => e = .returned (.tuple #[.int .i64 0, .bool false, .int .i64 4]) ∧ Below w.heap.size w w' := by
  have H := Lib.hid h
  clear h
  go_enter Try.func23, Try.ntmps23
  go_wp2_with fail
  refine (H.out _ (Below.refl _ _)).mono ?_
  rintro e w1 ⟨rfl, rfl⟩
  go_wp2_with fail
  go_ret3
  exact ⟨rfl, Below.refl _ _⟩
theorem send_un (p b : Value) (x y : Int) (w : World) (h : UnM p w) : Calls Try.prog 8 #[p, .int .i64 x, .int .i64 y, b] w fun e w' => e = .returned (.tuple #[.int .i64 0, .bool false, .int .i64 4]) ∧ Below w.heap.size w w' := by
  have H := Lib.hid h
  clear h
  go_enter Try.func8, Try.ntmps8
  go_wp2_with fail
  refine (enter_un _ _ _ _ _ _ H.out).mono ?_
  rintro e w1 ⟨rfl, hb⟩
  have HB := Lib.hid hb
  clear hb
  go_wp2_with fail
  go_ret3
  exact ⟨rfl, HB.out⟩
theorem forge_un (p b : Value) (x y : Int) (w : World) (h : UnM p w) : Calls Try.prog 18 #[p, .int .i64 x, .int .i64 y, b] w fun e w' => e = .returned (.tuple #[.int .i64 0, .bool false, .int .i64 4]) ∧ Below w.heap.size w w' := by
  have H := Lib.hid h
  clear h
  go_enter Try.func18, Try.ntmps18
  go_wp2_with fail
  refine (enter_un _ _ _ _ _ _ H.out).mono ?_
  rintro e w1 ⟨rfl, hb⟩
  have HB := Lib.hid hb
  clear hb
  go_wp2_with fail
  go_ret3
  exact ⟨rfl, HB.out⟩
end Go.Proofs.Ytnognpfenefafaa
