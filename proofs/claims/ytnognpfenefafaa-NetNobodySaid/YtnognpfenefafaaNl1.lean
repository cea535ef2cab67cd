/- The walk of the law NetNobody. -/
import Derived.Test.YtnognpfenefafaaNk15
namespace Go.Proofs.Ytnognpfenefafaa
open Go.Proofs.Ytnognpfenefafaa.PNetRuns (S39 S73 k39 k73 z39 z73)
open Go.RowKit Go.Proofs.YtnognpfenefafaaW.PrintWords Go.Proofs.YtnognpfenefafaaW.PrintLast Go.Proofs.YtnognpfenefafaaW.PrintMore
set_option maxRecDepth 100000 in
set_option maxHeartbeats 4000000 in
theorem noblaw_walk (id : Int) (v : Value) (b : List Int) (w : World) (_hid : (Lit.int .i64 id).wf = true) (hb : Kd.V KB 5 w 0 (fun k => k < w.heap.size) v b) (_hw0 : (∀ x ∈ b, (Lit.int .u8 x).wf = true) ∧ b.length * 1 ≤ 140737488351232) :
    Calls Try.prog 5 #[.int .i64 id, v] w fun e w' => e = .returned (.bool true) ∧ Below w.heap.size w w' := by
  clear _hid _hw0
  obtain ⟨A, c, rfl⟩ := Kd.V_slice hb
  clear hb
  obtain ⟨w1, hw1⟩ : ∃ w1, w1 = w.alloc (.cells #[.int .i64 0, .int .i64 0, .slice none 0 0] 54) := ⟨_, rfl⟩
  obtain ⟨w2, hw2⟩ : ∃ w2, w2 = w1.alloc (.cells #[.pointer none, .pointer (some ⟨w.heap.size, 0, none⟩)] 24) := ⟨_, rfl⟩
  have s1 : w1.heap.size = w.heap.size + 1 := by rw [hw1]; simp
  have k1 : w1.heap[w.heap.size]? = some (.cells #[.int .i64 0, .int .i64 0, .slice none 0 0] 54 (0, 0)) := by rw [hw1]; exact heap_alloc_new w _
  have k2 : w2.heap[w.heap.size]? = some (.cells #[.int .i64 0, .int .i64 0, .slice none 0 0] 54 (0, 0)) := by rw [hw2, Below.heap_alloc _ _ _ (by omega)]; exact k1
  have k3 : w2.heap[w.heap.size + 1]? = some (.cells #[.pointer none, .pointer (some ⟨w.heap.size, 0, none⟩)] 24 (0, 0)) := by rw [hw2, ← s1]; exact heap_alloc_new w1 _
  have hu := un_new w2 _ _ k2
  have c0 := blk_cell k3 0 (.pointer none) rfl
  have c1 := blk_cell k3 1 (.pointer (some ⟨w.heap.size, 0, none⟩)) rfl
  have hbel : Below w.heap.size w w2 := by rw [hw2, hw1]; exact below_alloc (below_alloc (Below.refl _ _) _) _
  have HBE := Lib.hid hbel
  have HU := Lib.hid hu
  have HC := Lib.hid (And.intro c0 c1)
  have HW : Hid ((w.alloc (.cells #[.int .i64 0, .int .i64 0, .slice none 0 0] 54)).alloc (.cells #[.pointer none, .pointer (some ⟨w.heap.size, 0, none⟩)] 24) = w2) := by rw [hw2, hw1]; rfl
  clear hw1 hw2 k1 k2 k3 hbel s1 hu c0 c1
  go_enter Try.func5, Try.ntmps5
  go_wp2_with fail
  rw [HW.out]
  go_loopw [26] (fun i wr => ∃ k : Nat, i = .int .i64 k ∧ k ≤ 2 ∧ Below w2.heap.size w2 wr) (fun i _ => 2 - (intOf i).toNat)
  case atStart => exact ⟨0, rfl, by omega, Below.refl _ _⟩
  case round =>
    obtain ⟨k, rfl, hk, hbl⟩ := hrel
    have HB0 := Lib.hid hbl
    have c0 := pw_cell_below hbl HC.out.1
    have c1 := pw_cell_below hbl HC.out.2
    have hk3 : k = 0 ∨ k = 1 ∨ k = 2 := by omega
    rcases hk3 with rfl | rfl | rfl
    · have HU0 := Lib.hid (un_nil wr)
      clear hbl
      go_wp2_with fail
      refine (send_un _ _ _ _ _ (HU0.out.to (by first | (with_reducible exact Below.refl _ _) | exact below_alloc (Below.refl _ _) _))).mono ?_
      rintro e v1 ⟨rfl, hb⟩
      have HU1 := Lib.hid (HU0.out.to (by first | (with_reducible exact hb) | exact below_step (below_alloc (Below.refl _ _) _) hb))
      have HB1 := Lib.hid (by first | (with_reducible exact below_step HB0.out hb) | exact below_step (below_alloc HB0.out _) hb : Below w2.heap.size w2 v1)
      clear hb HU0 HB0
      go_wp2_with fail
      refine (forge_un _ _ _ _ _ (HU1.out.to (by first | (with_reducible exact Below.refl _ _) | exact below_alloc (Below.refl _ _) _))).mono ?_
      rintro e v2 ⟨rfl, hb⟩
      have HU2 := Lib.hid (HU1.out.to (by first | (with_reducible exact hb) | exact below_step (below_alloc (Below.refl _ _) _) hb))
      have HB2 := Lib.hid (by first | (with_reducible exact below_step HB1.out hb) | exact below_step (below_alloc HB1.out _) hb : Below w2.heap.size w2 v2)
      clear hb HU1 HB1
      go_wp2_with fail
      refine (deliver_un _ id _ (HU2.out.to (by first | (with_reducible exact Below.refl _ _) | exact below_alloc (Below.refl _ _) _))).mono ?_
      rintro e v3 ⟨rfl, hb⟩
      have HU3 := Lib.hid (HU2.out.to (by first | (with_reducible exact hb) | exact below_step (below_alloc (Below.refl _ _) _) hb))
      have HB3 := Lib.hid (by first | (with_reducible exact below_step HB2.out hb) | exact below_step (below_alloc HB2.out _) hb : Below w2.heap.size w2 v3)
      clear hb HU2 HB2
      go_wp2_with fail
      refine (twice_un _ id _ (HU3.out.to (by first | (with_reducible exact Below.refl _ _) | exact below_alloc (Below.refl _ _) _))).mono ?_
      rintro e v4 ⟨rfl, hb⟩
      have HU4 := Lib.hid (HU3.out.to (by first | (with_reducible exact hb) | exact below_step (below_alloc (Below.refl _ _) _) hb))
      have HB4 := Lib.hid (by first | (with_reducible exact below_step HB3.out hb) | exact below_step (below_alloc HB3.out _) hb : Below w2.heap.size w2 v4)
      clear hb HU3 HB3
      go_wp2_with fail
      refine (drop_un _ id _ (HU4.out.to (by first | (with_reducible exact Below.refl _ _) | exact below_alloc (Below.refl _ _) _))).mono ?_
      rintro e v5 ⟨rfl, hb⟩
      have HU5 := Lib.hid (HU4.out.to (by first | (with_reducible exact hb) | exact below_step (below_alloc (Below.refl _ _) _) hb))
      have HB5 := Lib.hid (by first | (with_reducible exact below_step HB4.out hb) | exact below_step (below_alloc HB4.out _) hb : Below w2.heap.size w2 v5)
      clear hb HU4 HB4
      go_wp2_with fail
      refine (spoil_un _ id _ _ _ (HU5.out.to (by first | (with_reducible exact Below.refl _ _) | exact below_alloc (Below.refl _ _) _))).mono ?_
      rintro e v6 ⟨rfl, hb⟩
      have HU6 := Lib.hid (HU5.out.to (by first | (with_reducible exact hb) | exact below_step (below_alloc (Below.refl _ _) _) hb))
      have HB6 := Lib.hid (by first | (with_reducible exact below_step HB5.out hb) | exact below_step (below_alloc HB5.out _) hb : Below w2.heap.size w2 v6)
      clear hb HU5 HB5
      go_wp2_with fail
      refine (clear_un _ _ (HU6.out.to (by first | (with_reducible exact Below.refl _ _) | exact below_alloc (Below.refl _ _) _))).mono ?_
      rintro e v7 ⟨rfl, hb⟩
      have HU7 := Lib.hid (HU6.out.to (by first | (with_reducible exact hb) | exact below_step (below_alloc (Below.refl _ _) _) hb))
      have HB7 := Lib.hid (by first | (with_reducible exact below_step HB6.out hb) | exact below_step (below_alloc HB6.out _) hb : Below w2.heap.size w2 v7)
      clear hb HU6 HB6
      go_wp2_with fail
      refine (flying_un _ _ (HU7.out.to (by first | (with_reducible exact Below.refl _ _) | exact below_alloc (Below.refl _ _) _))).mono ?_
      rintro e v8 ⟨rfl, hb⟩
      have HU8 := Lib.hid (HU7.out.to (by first | (with_reducible exact hb) | exact below_step (below_alloc (Below.refl _ _) _) hb))
      have HB8 := Lib.hid (by first | (with_reducible exact below_step HB7.out hb) | exact below_step (below_alloc HB7.out _) hb : Below w2.heap.size w2 v8)
      clear hb HU7 HB7
      go_wp2_with fail
      refine (between_un _ _ _ _ (HU8.out.to (by first | (with_reducible exact Below.refl _ _) | exact below_alloc (Below.refl _ _) _))).mono ?_
      rintro e v9 ⟨rfl, hb⟩
      have HU9 := Lib.hid (HU8.out.to (by first | (with_reducible exact hb) | exact below_step (below_alloc (Below.refl _ _) _) hb))
      have HB9 := Lib.hid (by first | (with_reducible exact below_step HB8.out hb) | exact below_step (below_alloc HB8.out _) hb : Below w2.heap.size w2 v9)
      clear hb HU8 HB8
      go_wp2_with fail
      go_roundw
      case rel => exact ⟨1, rfl, by omega, HB9.out⟩
      case measure => simp [intOf]
    · have HU0 := Lib.hid (HU.out.to hbl)
      clear hbl
      go_wp2_with fail
      refine (send_un _ _ _ _ _ (HU0.out.to (by first | (with_reducible exact Below.refl _ _) | exact below_alloc (Below.refl _ _) _))).mono ?_
      rintro e v1 ⟨rfl, hb⟩
      have HU1 := Lib.hid (HU0.out.to (by first | (with_reducible exact hb) | exact below_step (below_alloc (Below.refl _ _) _) hb))
      have HB1 := Lib.hid (by first | (with_reducible exact below_step HB0.out hb) | exact below_step (below_alloc HB0.out _) hb : Below w2.heap.size w2 v1)
      clear hb HU0 HB0
      go_wp2_with fail
      refine (forge_un _ _ _ _ _ (HU1.out.to (by first | (with_reducible exact Below.refl _ _) | exact below_alloc (Below.refl _ _) _))).mono ?_
      rintro e v2 ⟨rfl, hb⟩
      have HU2 := Lib.hid (HU1.out.to (by first | (with_reducible exact hb) | exact below_step (below_alloc (Below.refl _ _) _) hb))
      have HB2 := Lib.hid (by first | (with_reducible exact below_step HB1.out hb) | exact below_step (below_alloc HB1.out _) hb : Below w2.heap.size w2 v2)
      clear hb HU1 HB1
      go_wp2_with fail
      refine (deliver_un _ id _ (HU2.out.to (by first | (with_reducible exact Below.refl _ _) | exact below_alloc (Below.refl _ _) _))).mono ?_
      rintro e v3 ⟨rfl, hb⟩
      have HU3 := Lib.hid (HU2.out.to (by first | (with_reducible exact hb) | exact below_step (below_alloc (Below.refl _ _) _) hb))
      have HB3 := Lib.hid (by first | (with_reducible exact below_step HB2.out hb) | exact below_step (below_alloc HB2.out _) hb : Below w2.heap.size w2 v3)
      clear hb HU2 HB2
      go_wp2_with fail
      refine (twice_un _ id _ (HU3.out.to (by first | (with_reducible exact Below.refl _ _) | exact below_alloc (Below.refl _ _) _))).mono ?_
      rintro e v4 ⟨rfl, hb⟩
      have HU4 := Lib.hid (HU3.out.to (by first | (with_reducible exact hb) | exact below_step (below_alloc (Below.refl _ _) _) hb))
      have HB4 := Lib.hid (by first | (with_reducible exact below_step HB3.out hb) | exact below_step (below_alloc HB3.out _) hb : Below w2.heap.size w2 v4)
      clear hb HU3 HB3
      go_wp2_with fail
      refine (drop_un _ id _ (HU4.out.to (by first | (with_reducible exact Below.refl _ _) | exact below_alloc (Below.refl _ _) _))).mono ?_
      rintro e v5 ⟨rfl, hb⟩
      have HU5 := Lib.hid (HU4.out.to (by first | (with_reducible exact hb) | exact below_step (below_alloc (Below.refl _ _) _) hb))
      have HB5 := Lib.hid (by first | (with_reducible exact below_step HB4.out hb) | exact below_step (below_alloc HB4.out _) hb : Below w2.heap.size w2 v5)
      clear hb HU4 HB4
      go_wp2_with fail
      refine (spoil_un _ id _ _ _ (HU5.out.to (by first | (with_reducible exact Below.refl _ _) | exact below_alloc (Below.refl _ _) _))).mono ?_
      rintro e v6 ⟨rfl, hb⟩
      have HU6 := Lib.hid (HU5.out.to (by first | (with_reducible exact hb) | exact below_step (below_alloc (Below.refl _ _) _) hb))
      have HB6 := Lib.hid (by first | (with_reducible exact below_step HB5.out hb) | exact below_step (below_alloc HB5.out _) hb : Below w2.heap.size w2 v6)
      clear hb HU5 HB5
      go_wp2_with fail
      refine (clear_un _ _ (HU6.out.to (by first | (with_reducible exact Below.refl _ _) | exact below_alloc (Below.refl _ _) _))).mono ?_
      rintro e v7 ⟨rfl, hb⟩
      have HU7 := Lib.hid (HU6.out.to (by first | (with_reducible exact hb) | exact below_step (below_alloc (Below.refl _ _) _) hb))
      have HB7 := Lib.hid (by first | (with_reducible exact below_step HB6.out hb) | exact below_step (below_alloc HB6.out _) hb : Below w2.heap.size w2 v7)
      clear hb HU6 HB6
      go_wp2_with fail
      refine (flying_un _ _ (HU7.out.to (by first | (with_reducible exact Below.refl _ _) | exact below_alloc (Below.refl _ _) _))).mono ?_
      rintro e v8 ⟨rfl, hb⟩
      have HU8 := Lib.hid (HU7.out.to (by first | (with_reducible exact hb) | exact below_step (below_alloc (Below.refl _ _) _) hb))
      have HB8 := Lib.hid (by first | (with_reducible exact below_step HB7.out hb) | exact below_step (below_alloc HB7.out _) hb : Below w2.heap.size w2 v8)
      clear hb HU7 HB7
      go_wp2_with fail
      refine (between_un _ _ _ _ (HU8.out.to (by first | (with_reducible exact Below.refl _ _) | exact below_alloc (Below.refl _ _) _))).mono ?_
      rintro e v9 ⟨rfl, hb⟩
      have HU9 := Lib.hid (HU8.out.to (by first | (with_reducible exact hb) | exact below_step (below_alloc (Below.refl _ _) _) hb))
      have HB9 := Lib.hid (by first | (with_reducible exact below_step HB8.out hb) | exact below_step (below_alloc HB8.out _) hb : Below w2.heap.size w2 v9)
      clear hb HU8 HB8
      go_wp2_with fail
      go_roundw
      case rel => exact ⟨2, rfl, by omega, HB9.out⟩
      case measure => simp [intOf]
    · clear hbl
      go_wp2_with fail
      refine (alive_any _).mono ?_
      rintro e w4 ⟨rfl, hb4⟩
      have HB4 := Lib.hid (below_step (below_then HBE.out HBE.out.size HB0.out) hb4)
      clear hb4
      go_wp2_with fail
      go_ret
      exact ⟨rfl, HB4.out⟩
end Go.Proofs.Ytnognpfenefafaa
