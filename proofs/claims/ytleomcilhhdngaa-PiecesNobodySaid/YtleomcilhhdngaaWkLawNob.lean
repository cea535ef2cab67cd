/- The walk of the law PiecesNobody. -/
import Derived.Test.YtleomcilhhdngaaWkJoin
import Derived.Test.YtleomcilhhdngaaWkAlive
namespace Go.Proofs.Ytleomcilhhdngaa
open Go.RowKit Go.Proofs.YtleomcilhhdngaaW.PrintWords Go.Proofs.YtleomcilhhdngaaW.PrintLast Go.Proofs.YtleomcilhhdngaaW.PrintMore
set_option maxRecDepth 100000 in
set_option maxHeartbeats 1000000 in
theorem noblaw_walk (v : Value) (b : List Int) (w : World) (hb : Kd.V KB 5 w 0 (fun k => k < w.heap.size) v b) (_hw0 : (∀ x ∈ b, (Lit.int .u8 x).wf = true) ∧ b.length * 1 ≤ 140737488351232) :
    Calls Try.prog 5 #[v] w fun e w' => e = .returned (.bool true) ∧ Below w.heap.size w w' := by
  clear _hw0
  obtain ⟨A, c, rfl⟩ := Kd.V_slice hb
  clear hb
  obtain ⟨w1, hw1⟩ : ∃ w1, w1 = w.alloc (.cells #[.bool false, .slice none 0 0, .bool false, .int .i64 0] 37) := ⟨_, rfl⟩
  obtain ⟨w2, hw2⟩ : ∃ w2, w2 = w1.alloc (.cells #[.pointer none, .pointer (some ⟨w.heap.size, 0, none⟩)] 33) := ⟨_, rfl⟩
  have s1 : w1.heap.size = w.heap.size + 1 := by rw [hw1]; simp
  have k1 : w1.heap[w.heap.size]? = some (.cells #[.bool false, .slice none 0 0, .bool false, .int .i64 0] 37 (0, 0)) := by rw [hw1]; exact heap_alloc_new w _
  have k2 : w2.heap[w.heap.size]? = some (.cells #[.bool false, .slice none 0 0, .bool false, .int .i64 0] 37 (0, 0)) := by rw [hw2, Below.heap_alloc _ _ _ (by omega)]; exact k1
  have k3 : w2.heap[w.heap.size + 1]? = some (.cells #[.pointer none, .pointer (some ⟨w.heap.size, 0, none⟩)] 33 (0, 0)) := by rw [hw2, ← s1]; exact heap_alloc_new w1 _
  have hu := blk_cell k2 2 _ rfl
  have c0 := blk_cell k3 0 _ rfl
  have c1 := blk_cell k3 1 _ rfl
  have hbel : Below w.heap.size w w2 := by rw [hw2, hw1]; exact below_alloc (below_alloc (Below.refl _ _) _) _
  have HBE := Lib.hid hbel
  have HW : Hid ((w.alloc (.cells #[.bool false, .slice none 0 0, .bool false, .int .i64 0] 37)).alloc (.cells #[.pointer none, .pointer (some ⟨w.heap.size, 0, none⟩)] 33) = w2) := by rw [hw2, hw1]; rfl
  clear hw1 hw2 k1 k2 k3 hbel s1
  go_enter Try.func5, Try.ntmps5
  go_wp2_with fail
  rw [HW.out]
  go_loopw [16] (fun i wr => ∃ k : Nat, i = .int .i64 k ∧ k ≤ 2 ∧ wr = w2) (fun i _ => 2 - (intOf i).toNat)
  case atStart => exact ⟨0, rfl, by omega, rfl⟩
  case round =>
    obtain ⟨k, rfl, hk, rfl⟩ := hrel
    have hk3 : k = 0 ∨ k = 1 ∨ k = 2 := by omega
    rcases hk3 with rfl | rfl | rfl
    · go_wp2_with fail
      refine (put_nil _ _).mono ?_
      rintro e w3 ⟨rfl, rfl⟩
      go_wp2_with fail
      refine (open_nil _).mono ?_
      rintro e w3 ⟨rfl, rfl⟩
      go_wp2_with fail
      refine (reset_nil _).mono ?_
      rintro e w3 ⟨rfl, rfl⟩
      go_wp2_with fail
      go_roundw
      case rel => exact ⟨1, rfl, by omega, by first | trivial | rfl⟩
      case measure => simp [intOf]
    · go_wp2_with fail
      refine (put_unmade _ _ _ hu).mono ?_
      rintro e w3 ⟨rfl, rfl⟩
      go_wp2_with fail
      refine (open_unmade _ _ hu).mono ?_
      rintro e w3 ⟨rfl, rfl⟩
      go_wp2_with fail
      refine (reset_unmade _ _ hu).mono ?_
      rintro e w3 ⟨rfl, rfl⟩
      go_wp2_with fail
      go_roundw
      case rel => exact ⟨2, rfl, by omega, by first | trivial | rfl⟩
      case measure => simp [intOf]
    · go_wp2_with fail
      refine (alive_any _).mono ?_
      rintro e w4 ⟨rfl, hb4⟩
      have HB4 := Lib.hid hb4
      clear hb4
      go_wp2_with fail
      go_ret
      exact ⟨rfl, below_then HBE.out HBE.out.size HB4.out⟩
end Go.Proofs.Ytleomcilhhdngaa
