/- The walks of Deliver and Twice at a datagram that is on its way. -/
import Derived.Test.YtnognpfenefafaaNk12
import Derived.Deep.RegionWith
namespace Go.Proofs.Ytnognpfenefafaa
open Go.Proofs.Ytnognpfenefafaa.PNetRuns (S39 S73 k39 k73 z39 z73)
open Go.RowKit Go.Proofs.YtnognpfenefafaaW.PrintWords Go.Proofs.YtnognpfenefafaaW.PrintLast Go.Proofs.YtnognpfenefafaaW.PrintMore
theorem deliver_no (S : Nat → Prop) (g : Nat) (dev last id : Int) (ps : List S73) (w : World) (h : No S g dev last ps w) (hd : 0 < dev) (hl : ps.length ≤ 100000) (hq : fnd ps id < ps.length) :
    ∃ A5 c5, ∃ x : S73, Hid (x = ps.getD (fnd ps id) z73) ∧ Calls Try.prog 10 #[.pointer (some ⟨g, 0, none⟩), .int .i64 id] w fun e w' => e = .returned (.tuple #[.agg #[.int .i64 x.f0.f0, .int .i64 x.f0.f1, .int .i64 x.f0.f2, .int .i64 x.f0.f3, .bool x.f0.f4], .slice A5 x.f1.length c5, .int .i64 0]) ∧
      No S g dev last (ps.eraseIdx (fnd ps id)) w' ∧ Chg S w w' ∧ Kd.V KB 5 w' 0 (fun k => S k ∧ k ≠ g) (.slice A5 x.f1.length c5) x.f1 := by
  have hSl := h.2.1
  have hp := h.step (w' := w.alloc (.cells #[.int .i64 0, .int .i64 0, .int .i64 0, .int .i64 0, .bool false] 39)) (by rw [World.size_alloc]; omega) (fun k hk hl => Below.heap_alloc _ _ k hl)
  obtain ⟨A5, c5, x, HX, hC⟩ := take_no S g dev last id ps _ hp hd hl hq
  have hT : ∀ k, S k → ¬ k = w.heap.size := fun k hk he => by have := hSl k hk; omega
  refine ⟨A5, c5, x, HX, (deliver_gen _ id w x.f0.f0 x.f0.f1 x.f0.f2 x.f0.f3 x.f0.f4 A5 x.f1.length c5 0 (fun w1 => No S g dev last (ps.eraseIdx (fnd ps id)) w1 ∧ Chg S w w1 ∧ Kd.V KB 5 w1 0 (fun k => S k ∧ k ≠ g) (.slice A5 x.f1.length c5) x.f1) (hC.mono ?_)).mono ?_⟩
  · rintro e w1 ⟨rfl, h1, h2, h3⟩
    exact ⟨rfl, (h2.block w.heap.size (by rw [World.size_alloc]; omega) (fun hk => hT _ hk rfl)).trans (heap_alloc_new w _), h1, ((Chg.refl S w).alloc _).trans h2 (fun k hk => .inl hk), h3⟩
  · rintro e w' ⟨rfl, w1, ⟨h1, h2, h3⟩, hc⟩
    exact ⟨rfl, h1.step hc.size (hc.step hT), h2.trans hc (fun k hk => .inr (by omega)), Kd.V_step h3 (hc.step (fun k hk => hT k hk.1))⟩
set_option maxRecDepth 100000 in
set_option maxHeartbeats 2000000 in
theorem twice_no (S : Nat → Prop) (g : Nat) (dev last id : Int) (ps : List S73) (w : World) (x : S73) (h : No S g dev last ps w) (hd : 0 < dev) (hl : ps.length < 16384) (hq : fnd ps id < ps.length) (hx : x = ps.getD (fnd ps id) z73) (hxl : x.f1.length ≤ 65536) (h0 : 0 ≤ last) (h1 : last ≤ 4611686018427387904) :
    Calls Try.prog 19 #[.pointer (some ⟨g, 0, none⟩), .int .i64 id] w fun e w' => e = .returned (.tuple #[.int .i64 (last + 1), .bool true, .int .i64 0]) ∧ (∃ S' : Nat → Prop, No S' g dev (last + 1) (ps ++ [⟨⟨last + 1, x.f0.f1, x.f0.f2, x.f1.length, x.f0.f4⟩, x.f1⟩]) w' ∧ ∀ k, S' k → S k ∨ w.heap.size ≤ k) ∧ Chg S w w' := by
  obtain ⟨i, hi⟩ : ∃ i, i = fnd ps id := ⟨_, rfl⟩
  have hil : i < ps.length := by rw [hi]; exact hq
  have HH := Lib.hid h
  have HQ := Lib.hid hq
  have hn2 : (i : Int) < (ps.length : Int) := by omega
  obtain ⟨hg, hlt, v, hblk0, hS0⟩ := h
  obtain ⟨gA, cap, rfl, _, hgl, _⟩ := Kd.S_form hS0 (by omega)
  obtain ⟨A5, c5, x', ⟨hz0, hz1, hz2, hz3, hz4, hz5⟩, hV0, HX⟩ := S_pk_at hS0 i hil
  obtain rfl : x = x' := by rw [HX.out, hx, hi]
  have HI := Lib.hid hi
  have hgl2 := hlt g hg
  have Z := Lib.hid (And.intro hz0 (And.intro hz1 (And.intro hz2 (And.intro hz3 (And.intro hz4 hz5)))))
  have HBK0 := Lib.hid hblk0
  have HV0 := Lib.hid hV0
  clear hi hx hq hblk0 hS0 hV0 hz0 hz1 hz2 hz3 hz4 hz5 hlt
  go_enter Try.func19, Try.ntmps19
  go_wp2_with fail
  refine (find_hit S g dev last id ps _ HH.out hd (by omega) HQ.out).mono ?_
  rintro e w1 ⟨rfl, hb⟩
  rw [← HI.out]
  have hblk := (hb.block g (blk_lt HBK0.out)).trans HBK0.out
  have hc0 := pw_cell_below hb Z.out.1
  have hc1 := pw_cell_below hb Z.out.2.1
  have hc2 := pw_cell_below hb Z.out.2.2.1
  have hc3 := pw_cell_below hb Z.out.2.2.2.1
  have hc4 := pw_cell_below hb Z.out.2.2.2.2.1
  have hc5 := pw_cell_below hb Z.out.2.2.2.2.2
  have d2 := blk_cell hblk 2 (.slice (some ⟨gA, 0, none⟩) ps.length cap) rfl
  have HB := Lib.hid hb
  clear hblk hb
  go_wp2_with fail
  have hP1 := HH.out.step HB.out.size (fun k hk hl => HB.out.block k hl)
  have HP1 := Lib.hid hP1
  have hV1 := Kd.V_mono (Kd.V_below HV0.out HB.out) (fun k hk => hk.1)
  have HV1 := Lib.hid hV1
  have hxn : ((x.f1.length : Nat) : Int) ≤ 65536 := by omega
  clear hP1 hV1
  go_region_with (first | (go_at_call 33; refine (put_no S (fun k => S k ∧ k ≠ g) g dev last ps w1.drew x.f0.f0 x.f0.f1 x.f0.f2 x.f0.f3 x.f0.f4 A5 x.f1.length c5 x.f1 (HP1.out.step (Nat.le_refl _) (fun _ _ _ => rfl)) (Kd.V_step HV1.out (fun _ _ _ => rfl)) (fun k hk => hk.2) hxl hl h0 h1).mono ?_; rintro e w2 ⟨rfl, h2, h3⟩; have H2 := Lib.hid h2; have H3 := Lib.hid (show Chg S w1 w2 from ⟨h3.os, h3.tape, h3.output, h3.size, h3.block⟩); clear h2 h3))
  all_goals
    try go_wp2_with fail
    go_ret3
    obtain ⟨S', hn, hs⟩ := H2.out
    refine ⟨rfl, ⟨S', hn, fun k hk => ?_⟩, (Chg.of_below HB.out S).trans H3.out (fun k hk => .inl hk)⟩
    have h9 := HB.out.size
    rcases hs k hk with h | h
    · exact .inl h
    · exact .inr (Nat.le_trans h9 h)
end Go.Proofs.Ytnognpfenefafaa
