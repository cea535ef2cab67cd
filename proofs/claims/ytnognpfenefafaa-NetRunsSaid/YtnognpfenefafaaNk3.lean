/- The walks of find; of every function of the net at a net that nobody made. -/
import Derived.Test.YtnognpfenefafaaNk2
namespace Go.Proofs.Ytnognpfenefafaa
open Go.Proofs.Ytnognpfenefafaa.PNetRuns (S39 S73 k39 k73 z39 z73)
open Go.RowKit Go.Proofs.YtnognpfenefafaaW.PrintWords Go.Proofs.YtnognpfenefafaaW.PrintLast Go.Proofs.YtnognpfenefafaaW.PrintMore
theorem S_V {α : Type} {d : Kd α} {e base b : Nat} {ok : Nat → Prop} {w : World} {v : Value} {xs : List α} (h : Kd.S d e w base ok v xs) : Kd.V d e w b ok v xs := by
  obtain ⟨A, c, rfl⟩ := Kd.S_slice h
  have := Kd.S_reads' h
  exact Kd.V_mk (by omega) (Kd.S_F h)
set_option maxRecDepth 100000 in
set_option maxHeartbeats 1000000 in
theorem find_hit (S : Nat → Prop) (g : Nat) (dev last id : Int) (ps : List S73) (w : World) (h : No S g dev last ps w) (hd : 0 < dev) (hl : ps.length ≤ 100000) (hq : fnd ps id < ps.length) :
    Calls Try.prog 32 #[.pointer (some ⟨g, 0, none⟩), .int .i64 id] w fun e w' => e = .returned (.tuple #[.int .i64 (fnd ps id), .int .i64 0]) ∧ Below w.heap.size w w' := by
  have hp := h.step (w' := w.alloc (.cells #[.int .i64 id] 3)) (by rw [World.size_alloc]; omega) (fun k hk hl => Below.heap_alloc _ _ k hl)
  have HP := Lib.hid hp
  have hd' : decide (0 < dev) = true := by simpa using hd
  have HL := Lib.hid hl
  obtain ⟨hg, hlt, v, hblk, hR⟩ := hp
  obtain ⟨A, c, rfl⟩ := Kd.S_slice hR
  have d2 := blk_cell hblk 2 (.slice A ps.length c) rfl
  have HV := Lib.hid (S_V (b := 0) hR)
  clear hg hlt hblk hR h hl hd
  go_enter Try.func32, Try.ntmps32
  go_wp2_with fail
  refine (made_no _ _ _ _ _ _ HP.out).mono ?_
  rintro e w1 ⟨rfl, rfl⟩
  go_wp2_with fail
  refine (idxf ps _ A c w.heap.size id _ HV.out (by simp) HL.out (fnd ps id) (if_pos hq).symm).mono ?_
  rintro e w1 ⟨rfl, hb⟩
  have HB := Lib.hid (below_then (below_alloc (Below.refl w.heap.size w) _) (Nat.le_of_lt (by rw [World.size_alloc]; omega)) hb)
  clear hb
  have hge : decide ((fnd ps id : Int) < 0) = false := by simp
  clear hq
  go_wp2_with fail
  go_ret2
  exact ⟨rfl, HB.out⟩
set_option maxRecDepth 100000 in
set_option maxHeartbeats 1000000 in
theorem find_gone (S : Nat → Prop) (g : Nat) (dev last id : Int) (ps : List S73) (w : World) (h : No S g dev last ps w) (hd : 0 < dev) (hl : ps.length ≤ 100000) (hq : ¬ fnd ps id < ps.length) :
    Calls Try.prog 32 #[.pointer (some ⟨g, 0, none⟩), .int .i64 id] w fun e w' => e = .returned (.tuple #[.int .i64 0, .int .i64 231]) ∧ Below w.heap.size w w' := by
  have hp := h.step (w' := w.alloc (.cells #[.int .i64 id] 3)) (by rw [World.size_alloc]; omega) (fun k hk hl => Below.heap_alloc _ _ k hl)
  have HP := Lib.hid hp
  have hd' : decide (0 < dev) = true := by simpa using hd
  have HL := Lib.hid hl
  obtain ⟨hg, hlt, v, hblk, hR⟩ := hp
  obtain ⟨A, c, rfl⟩ := Kd.S_slice hR
  have d2 := blk_cell hblk 2 (.slice A ps.length c) rfl
  have HV := Lib.hid (S_V (b := 0) hR)
  clear hg hlt hblk hR h hl hd
  go_enter Try.func32, Try.ntmps32
  go_wp2_with fail
  refine (made_no _ _ _ _ _ _ HP.out).mono ?_
  rintro e w1 ⟨rfl, rfl⟩
  go_wp2_with fail
  refine (idxf ps _ A c w.heap.size id _ HV.out (by simp) HL.out (-1) (if_neg hq).symm).mono ?_
  rintro e w1 ⟨rfl, hb⟩
  have HB := Lib.hid (below_then (below_alloc (Below.refl w.heap.size w) _) (Nat.le_of_lt (by rw [World.size_alloc]; omega)) hb)
  clear hb
  clear hq
  go_wp2_with fail
  go_ret2
  exact ⟨rfl, HB.out⟩
end Go.Proofs.Ytnognpfenefafaa
