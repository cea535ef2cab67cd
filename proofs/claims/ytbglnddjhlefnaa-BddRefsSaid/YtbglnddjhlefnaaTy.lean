/- The walk of BddNobody. -/
import Derived.Test.YtbglnddjhlefnaaTv
namespace Go.Proofs.Ytbglnddjhlefnaa
open Go Go.RowKit Go.Proofs.YtbglnddjhlefnaaW.PrintWords Go.Proofs.YtbglnddjhlefnaaW.PrintLast Go.Proofs.YtbglnddjhlefnaaW.PrintMore
/-- The two tables that nobody made, under way. -/
structure NbR (gz sb : Nat) (w wr : World) : Prop where
  z : wr.heap[gz]? = some (.cells #[.map none, .map none, .int .i64 0, .int .i64 0, .slice none 0 0, .map none] 67 (0, 0))
  s : wr.heap[sb]? = some (.cells #[.pointer none, .pointer (some ⟨gz, 0, none⟩)] 24 (0, 0))
  b : Below w.heap.size w wr
theorem NbR.below {gz sb : Nat} {w wr w' : World} (h : NbR gz sb w wr) (hb : Below wr.heap.size wr w') : NbR gz sb w w' :=
  ⟨(hb.block gz (blk_lt' h.z)).trans h.z, (hb.block sb (blk_lt' h.s)).trans h.s, below_trans' h.b hb h.b.size⟩
theorem NbR.at_ {gz sb : Nat} {w wr : World} (h : NbR gz sb w wr) (i : Nat) (hi : i < 2) : ∃ p, wr.cell? ⟨sb, i, none⟩ = some (.pointer p) ∧ ∀ w', NbR gz sb w w' → Nob p w' := by
  match i, hi with
  | 0, _ => exact ⟨none, blk_cell h.s 0 _ rfl, fun w' _ => .inl rfl⟩
  | 1, _ => exact ⟨some ⟨gz, 0, none⟩, blk_cell h.s 1 _ rfl, fun w' h' => .inr ⟨gz, rfl, h'.z⟩⟩
/-- Twelve errors. -/
theorem twelve {w : World} {b : Nat} (h : w.heap[b]? = some (.cells #[.int .i64 4, .int .i64 4, .int .i64 4, .int .i64 4, .int .i64 4, .int .i64 4, .int .i64 4, .int .i64 4, .int .i64 4, .int .i64 4, .int .i64 4, .int .i64 4] 30 (0, 0))) (i : Nat) (hi : i < 12) : w.cell? ⟨b, i, none⟩ = some (.int .i64 4) := by
  match i, hi with
  | 0, _ => exact blk_cell h 0 _ rfl
  | 1, _ => exact blk_cell h 1 _ rfl
  | 2, _ => exact blk_cell h 2 _ rfl
  | 3, _ => exact blk_cell h 3 _ rfl
  | 4, _ => exact blk_cell h 4 _ rfl
  | 5, _ => exact blk_cell h 5 _ rfl
  | 6, _ => exact blk_cell h 6 _ rfl
  | 7, _ => exact blk_cell h 7 _ rfl
  | 8, _ => exact blk_cell h 8 _ rfl
  | 9, _ => exact blk_cell h 9 _ rfl
  | 10, _ => exact blk_cell h 10 _ rfl
  | 11, _ => exact blk_cell h 11 _ rfl
set_option maxRecDepth 100000 in
set_option maxHeartbeats 4000000 in
theorem nobody_w (s : ByteArray) (w : World) : Calls Try.prog 6 #[.string s] w fun e w' => e = .returned (.bool true) ∧ Below w.heap.size w w' := by
  have HAW := Lib.hid awake_w
  obtain ⟨W0, hW0⟩ : ∃ W0, W0 = (w.alloc (.cells #[.map none, .map none, .int .i64 0, .int .i64 0, .slice none 0 0, .map none] 67)).alloc (.cells #[.pointer none, .pointer (some ⟨w.heap.size, 0, none⟩)] 24) := ⟨_, rfl⟩
  have HW0 := Lib.hid hW0
  have hst : NbR w.heap.size (w.heap.size + 1) w W0 := by
    rw [hW0]
    refine ⟨?_, ?_, below_alloc (below_alloc (Below.refl _ _) _) _⟩
    · rw [heap_alloc_old _ _ (by rw [World.size_alloc]; omega)]
      exact heap_alloc_new w _
    · have := heap_alloc_new (w.alloc (.cells #[.map none, .map none, .int .i64 0, .int .i64 0, .slice none 0 0, .map none] 67)) (.cells #[.pointer none, .pointer (some ⟨w.heap.size, 0, none⟩)] 24)
      rw [World.size_alloc] at this
      exact this
  have HST := Lib.hid hst
  clear hW0 hst
  go_enter Try.func6, Try.ntmps6
  go_wp2_with fail
  rw [← HW0.out]
  obtain ⟨gz, hgz⟩ : ∃ gz, gz = w.heap.size := ⟨_, rfl⟩
  obtain ⟨sb, hsb⟩ : ∃ sb, sb = w.heap.size + 1 := ⟨_, rfl⟩
  have HST' : Hid (NbR gz sb w W0) := by rw [hgz, hsb]; exact HST
  try rw [← hsb]
  try rw [← hgz]
  clear HST hgz hsb HW0
  go_loopw [39] (fun v39 wr => ∃ i : Nat, v39 = .int .i64 i ∧ i ≤ 2 ∧ Hid (NbR gz sb w wr)) (fun v39 _ => 2 - (intOf v39).toNat)
  case atStart => exact ⟨0, rfl, by omega, HST'⟩
  case round =>
    obtain ⟨i, rfl, hi, hrel⟩ := hrel
    rcases Nat.lt_or_ge i 2 with hlt | hge
    · obtain ⟨p, hp, hnob⟩ := hrel.out.at_ i hlt
      have NOB := Lib.hid hnob
      have hi2 : (i : Int) < 2 := by omega
      have hi2d : decide ((i : Int) < 2) = true := decide_eq_true hi2
      have hi2n : decide (i < 2) = true := decide_eq_true hlt
      clear hnob
      go_wp2_with fail
      refine (Cube_nob (NOB.out _ hrel.out) s).mono ?_
      rintro e w1 ⟨rfl, hb⟩
      have R1 := Lib.hid (hrel.out.below hb)
      clear hb hp
      go_wp2_with fail
      refine (And_nob (NOB.out _ R1.out) (.slice none 0 0)).mono ?_
      rintro e w2 ⟨rfl, hb⟩
      have R2 := Lib.hid (R1.out.below hb)
      clear hb
      go_wp2_with fail
      refine (Or_nob (NOB.out _ R2.out) (.slice none 0 0)).mono ?_
      rintro e w3 ⟨rfl, hb⟩
      have R3 := Lib.hid (R2.out.below hb)
      clear hb
      go_wp2_with fail
      refine (Not_nob (NOB.out _ R3.out) 0).mono ?_
      rintro e w4 ⟨rfl, hb⟩
      have R4 := Lib.hid (R3.out.below hb)
      clear hb
      go_wp2_with fail
      refine (Diff_nob (NOB.out _ R4.out) 0 1).mono ?_
      rintro e w5 ⟨rfl, hb⟩
      have R5 := Lib.hid (R4.out.below hb)
      clear hb
      go_wp2_with fail
      refine (Ite_nob (NOB.out _ R5.out) 0 0 0).mono ?_
      rintro e w6 ⟨rfl, hb⟩
      have R6 := Lib.hid (R5.out.below hb)
      clear hb
      go_wp2_with fail
      refine (Has_nob (NOB.out _ R6.out) 0 s).mono ?_
      rintro e w7 ⟨rfl, hb⟩
      have R7 := Lib.hid (R6.out.below hb)
      clear hb
      go_wp2_with fail
      refine (Any_nob (NOB.out _ R7.out) 0).mono ?_
      rintro e w8 ⟨rfl, hb⟩
      have R8 := Lib.hid (R7.out.below hb)
      clear hb
      go_wp2_with fail
      refine (Cubes_nob (NOB.out _ R8.out) 0 1).mono ?_
      rintro e w9 ⟨rfl, hb⟩
      have R9 := Lib.hid (R8.out.below hb)
      clear hb
      go_wp2_with fail
      refine (List_nob (NOB.out _ R9.out) 0).mono ?_
      rintro e w10 ⟨rfl, hb⟩
      have R10 := Lib.hid (R9.out.below hb)
      clear hb
      go_wp2_with fail
      refine (Make_nob (NOB.out _ R10.out) (.slice none 0 0)).mono ?_
      rintro e w11 ⟨rfl, hb⟩
      have R11 := Lib.hid (R10.out.below hb)
      clear hb
      go_wp2_with fail
      refine (Keep_nob (NOB.out _ R11.out) (.slice none 0 0)).mono ?_
      rintro e w12 ⟨rfl, hb⟩
      have R12 := Lib.hid (R11.out.below hb)
      clear hb
      go_wp2_with fail
      have h12 := heap_alloc_new w12 (.cells #[.int .i64 4, .int .i64 4, .int .i64 4, .int .i64 4, .int .i64 4, .int .i64 4, .int .i64 4, .int .i64 4, .int .i64 4, .int .i64 4, .int .i64 4, .int .i64 4] 30)
      have R13 := Lib.hid (R12.out.below (below_alloc (Below.refl _ _) (.cells #[.int .i64 4, .int .i64 4, .int .i64 4, .int .i64 4, .int .i64 4, .int .i64 4, .int .i64 4, .int .i64 4, .int .i64 4, .int .i64 4, .int .i64 4, .int .i64 4] 30)))
      generalize w12.alloc (.cells #[.int .i64 4, .int .i64 4, .int .i64 4, .int .i64 4, .int .i64 4, .int .i64 4, .int .i64 4, .int .i64 4, .int .i64 4, .int .i64 4, .int .i64 4, .int .i64 4] 30) = W13 at *
      have H12 := Lib.hid h12
      clear h12 R1 R2 R3 R4 R5 R6 R7 R8 R9 R10 R11
      go_loop [33] (fun v33 => ∃ j : Nat, v33 = .int .i64 j ∧ j ≤ 12) (fun v33 => 12 - (intOf v33).toNat)
      case atStart => exact ⟨0, rfl, by omega⟩
      case round =>
        obtain ⟨j, rfl, hj⟩ := hrel
        rcases Nat.lt_or_ge j 12 with hjl | hjg
        · have hc := twelve H12.out j hjl
          have hj2 : (j : Int) < 12 := by omega
          have hj2d : decide ((j : Int) < 12) = true := decide_eq_true hj2
          have hj2n : decide (j < 12) = true := decide_eq_true hjl
          go_wp2_with fail
          go_round
          case rel => exact ⟨j + 1, by go_num, by omega⟩
          case measure => simp [intOf]; omega
        · have hj2d : decide ((j : Int) < 12) = false := decide_eq_false (by omega)
          have hj2n : decide (j < 12) = false := decide_eq_false (by omega)
          go_wp2_with fail
          refine (Bits_nob (NOB.out _ R13.out)).mono ?_
          rintro e w14 ⟨rfl, rfl⟩
          go_wp2_with fail
          refine (Limit_nob (NOB.out _ R13.out)).mono ?_
          rintro e w14 ⟨rfl, rfl⟩
          go_wp2_with fail
          refine (Size_nob (NOB.out _ R13.out)).mono ?_
          rintro e w14 ⟨rfl, rfl⟩
          go_wp2_with fail
          go_roundw
          case rel => exact ⟨i + 1, by go_num, by omega, R13⟩
          case measure => simp [intOf]; omega
    · have hi2d : decide ((i : Int) < 2) = false := decide_eq_false (by omega)
      have hi2n : decide (i < 2) = false := decide_eq_false (by omega)
      go_wp2_with fail
      refine (HAW.out _).mono ?_
      rintro e w14 ⟨rfl, hb⟩
      have HB := Lib.hid hb
      clear hb
      go_wp2_with fail
      go_ret
      exact ⟨rfl, below_trans' hrel.out.b HB.out hrel.out.b.size⟩
theorem nobody_law (s : ByteArray) (w : World) (_ : s.size ≤ 140737488351232) : Calls Try.prog 6 #[.string s] w fun e w' => e = .returned (.bool true) ∧ Below w.heap.size w w' := nobody_w s w
end Go.Proofs.Ytbglnddjhlefnaa
