/- The walks of the net's functions where they refuse. -/
import Derived.Test.YtnognpfenefafaaNk13
namespace Go.Proofs.Ytnognpfenefafaa
open Go.Proofs.Ytnognpfenefafaa.PNetRuns (S39 S73 k39 k73 z39 z73)
open Go.RowKit Go.Proofs.YtnognpfenefafaaW.PrintWords Go.Proofs.YtnognpfenefafaaW.PrintLast Go.Proofs.YtnognpfenefafaaW.PrintMore
set_option maxRecDepth 100000 in
set_option maxHeartbeats 2000000 in
theorem take_gone (S : Nat → Prop) (g : Nat) (dev last id : Int) (ps : List S73) (w : World) (h : No S g dev last ps w) (hd : 0 < dev) (hl : ps.length ≤ 100000) (hq : ¬ fnd ps id < ps.length) :
    Calls Try.prog 29 #[.pointer (some ⟨g, 0, none⟩), .int .i64 id] w fun e w' => e = .returned (.tuple #[.agg #[.int .i64 0, .int .i64 0, .int .i64 0, .int .i64 0, .bool false, .slice none 0 0], .int .i64 231]) ∧ Below w.heap.size w w' := by
  have hp := h.step (w' := w.alloc (.cells #[.int .i64 0, .int .i64 0, .int .i64 0, .int .i64 0, .bool false, .slice none 0 0] 69)) (by rw [World.size_alloc]; omega) (fun k hk hl => Below.heap_alloc _ _ k hl)
  have HP := Lib.hid hp
  have HQ := Lib.hid hq
  clear h hp hq
  go_enter Try.func29, Try.ntmps29
  go_wp2_with fail
  refine (find_gone S g dev last id ps _ HP.out hd hl HQ.out).mono ?_
  rintro e w1 ⟨rfl, hb⟩
  have HB := Lib.hid (below_then (below_alloc (Below.refl w.heap.size w) _) (Nat.le_of_lt (by rw [World.size_alloc]; omega)) hb)
  have hl := loc_blk hb
  have HL := Lib.hid hl
  (have mlc0 := blk_cell hl 0 _ rfl; have mlc1 := blk_cell hl 1 _ rfl; have mlc2 := blk_cell hl 2 _ rfl; have mlc3 := blk_cell hl 3 _ rfl; have mlc4 := blk_cell hl 4 _ rfl; have mlc5 := blk_cell hl 5 _ rfl; have mlf0 := blk_free hl 0; have mlf1 := blk_free hl 1; have mlf2 := blk_free hl 2; have mlf3 := blk_free hl 3; have mlf4 := blk_free hl 4; have mlf5 := blk_free hl 5; clear hl)
  clear hb
  go_wp2_with fail
  refine bodyPost_ret_by (results_ct res29 (g := w.heap.size) rfl (load69 (blk_six HL.out _ _ _ _ _ _) rfl)) rfl ⟨rfl, ?_⟩
  exact below_set (below_set (below_set (below_set (below_set (below_set HB.out (Nat.le_refl _)) (Nat.le_refl _)) (Nat.le_refl _)) (Nat.le_refl _)) (Nat.le_refl _)) (Nat.le_refl _)
theorem deliver_gone (S : Nat → Prop) (g : Nat) (dev last id : Int) (ps : List S73) (w : World) (h : No S g dev last ps w) (hd : 0 < dev) (hl : ps.length ≤ 100000) (hq : ¬ fnd ps id < ps.length) :
    Calls Try.prog 10 #[.pointer (some ⟨g, 0, none⟩), .int .i64 id] w fun e w' => e = .returned (.tuple #[.agg #[.int .i64 0, .int .i64 0, .int .i64 0, .int .i64 0, .bool false], .slice none 0 0, .int .i64 231]) ∧ Below w.heap.size w w' := by
  have hp := h.step (w' := w.alloc (.cells #[.int .i64 0, .int .i64 0, .int .i64 0, .int .i64 0, .bool false] 39)) (by rw [World.size_alloc]; omega) (fun k hk hl => Below.heap_alloc _ _ k hl)
  refine (deliver_gen _ id w 0 0 0 0 false none 0 0 231 (fun w1 => Below w.heap.size w w1) ((take_gone S g dev last id ps _ hp hd hl hq).mono ?_)).mono ?_
  · rintro e w1 ⟨rfl, hb⟩
    exact ⟨rfl, loc_blk hb, below_then (below_alloc (Below.refl w.heap.size w) _) (Nat.le_of_lt (by rw [World.size_alloc]; omega)) hb⟩
  · rintro e w' ⟨rfl, w1, hb, hc⟩
    exact ⟨rfl, hb.trans (hc.below (fun i hi => by omega) hb.size)⟩
theorem drop_gone (S : Nat → Prop) (g : Nat) (dev last id : Int) (ps : List S73) (w : World) (h : No S g dev last ps w) (hd : 0 < dev) (hl : ps.length ≤ 100000) (hq : ¬ fnd ps id < ps.length) :
    Calls Try.prog 20 #[.pointer (some ⟨g, 0, none⟩), .int .i64 id] w fun e w' => e = .returned (.int .i64 231) ∧ Below w.heap.size w w' := by
  have H := Lib.hid (take_gone S g dev last id ps w h hd hl hq)
  clear h hd hl hq
  go_enter Try.func20, Try.ntmps20
  go_wp2_with fail
  refine H.out.mono ?_
  rintro e w1 ⟨rfl, hb⟩
  have HB := Lib.hid hb
  clear hb
  go_wp2_with fail
  go_ret
  first | exact ⟨rfl, HB.out⟩ | exact ⟨rfl, below_alloc HB.out _⟩
theorem drop_no (S : Nat → Prop) (g : Nat) (dev last id : Int) (ps : List S73) (w : World) (h : No S g dev last ps w) (hd : 0 < dev) (hl : ps.length ≤ 100000) (hq : fnd ps id < ps.length) :
    Calls Try.prog 20 #[.pointer (some ⟨g, 0, none⟩), .int .i64 id] w fun e w' => e = .returned (.int .i64 0) ∧ No S g dev last (ps.eraseIdx (fnd ps id)) w' ∧ Chg S w w' := by
  obtain ⟨A5, c5, x, _, hC⟩ := take_no S g dev last id ps w h hd hl hq
  have H := Lib.hid hC
  clear h hd hl hq hC
  go_enter Try.func20, Try.ntmps20
  go_wp2_with fail
  refine H.out.mono ?_
  rintro e w1 ⟨rfl, h1, h2, h3⟩
  have H1 := Lib.hid h1
  have H2 := Lib.hid h2
  clear h1 h2 h3 H
  go_wp2_with fail
  go_ret
  first | exact ⟨rfl, H1.out, H2.out⟩ | exact ⟨rfl, H1.out.step (by rw [World.size_alloc]; omega) (fun k hk hl => Below.heap_alloc _ _ k hl), H2.out.alloc _⟩
theorem twice_gone (S : Nat → Prop) (g : Nat) (dev last id : Int) (ps : List S73) (w : World) (h : No S g dev last ps w) (hd : 0 < dev) (hl : ps.length ≤ 100000) (hq : ¬ fnd ps id < ps.length) :
    Calls Try.prog 19 #[.pointer (some ⟨g, 0, none⟩), .int .i64 id] w fun e w' => e = .returned (.tuple #[.int .i64 0, .bool false, .int .i64 231]) ∧ Below w.heap.size w w' := by
  have H := Lib.hid (find_gone S g dev last id ps w h hd hl hq)
  clear h hd hl hq
  go_enter Try.func19, Try.ntmps19
  go_wp2_with fail
  refine H.out.mono ?_
  rintro e w1 ⟨rfl, hb⟩
  have HB := Lib.hid hb
  clear hb
  go_wp2_with fail
  go_ret3
  exact ⟨rfl, HB.out⟩
theorem spoil_gone (S : Nat → Prop) (g : Nat) (dev last id at_ bits : Int) (ps : List S73) (w : World) (h : No S g dev last ps w) (hd : 0 < dev) (hl : ps.length ≤ 100000) (hq : ¬ fnd ps id < ps.length) :
    Calls Try.prog 21 #[.pointer (some ⟨g, 0, none⟩), .int .i64 id, .int .i64 at_, .int .u8 bits] w fun e w' => e = .returned (.int .i64 231) ∧ Below w.heap.size w w' := by
  have H := Lib.hid (find_gone S g dev last id ps w h hd hl hq)
  clear h hd hl hq
  go_enter Try.func21, Try.ntmps21
  go_wp2_with fail
  refine H.out.mono ?_
  rintro e w1 ⟨rfl, hb⟩
  have HB := Lib.hid hb
  clear hb
  go_wp2_with fail
  go_ret
  exact ⟨rfl, HB.out⟩
theorem clear_no (S : Nat → Prop) (g : Nat) (dev last : Int) (ps : List S73) (w : World) (h : No S g dev last ps w) (hd : 0 < dev) :
    Calls Try.prog 22 #[.pointer (some ⟨g, 0, none⟩)] w fun e w' => e = .returned (.int .i64 ps.length) ∧ No S g dev last [] w' ∧ Chg S w w' := by
  have hd' : decide (0 < dev) = true := by simpa using hd
  have HP := Lib.hid h
  obtain ⟨hg, hlt, v, hblk, hS⟩ := h
  obtain ⟨A, c, rfl⟩ := Kd.S_slice hS
  have d2 := blk_cell hblk 2 (.slice A ps.length c) rfl
  have f2 := blk_free hblk 2
  have HB := Lib.hid hblk
  have HS := Lib.hid (show _ ∧ _ from ⟨hg, hlt⟩)
  clear hblk hS hd hg hlt
  go_enter Try.func22, Try.ntmps22
  go_wp2_with fail
  refine (made_no _ _ _ _ _ _ HP.out).mono ?_
  rintro e w1 ⟨rfl, rfl⟩
  rw [hd']
  go_wp2_with fail
  go_ret
  exact ⟨rfl, ⟨HS.out.1, fun k hk => by simpa [World.setCell] using HS.out.2 k hk, _, by simpa using blk_set HB.out 2 (.slice none 0 0), Kd.S_nil _ _ _ _ _⟩, (Chg.refl S _).set _ _ (.inl HS.out.1)⟩
end Go.Proofs.Ytnognpfenefafaa
