/- The walk of the document's Twice. -/
import Derived.Test.YtnognpfenefafaaRr6
import Derived.Deep.RegionLaw
namespace Go.Proofs.Ytnognpfenefafaa
open Go.Proofs.Ytnognpfenefafaa.PNetRuns (S39 S73 k39 k73 z39 z73)
open Go.RowKit Go.Proofs.YtnognpfenefafaaW.PrintWords Go.Proofs.YtnognpfenefafaaW.PrintLast Go.Proofs.YtnognpfenefafaaW.PrintMore
set_option maxRecDepth 100000 in
set_option maxHeartbeats 20000000 in
theorem rtwice_no (S : Nat → Prop) (g : Nat) (dev last id : Int) (ps : List S73) (w : World) (x : S73) (h : Rn S g dev last ps w) (hl : ps.length < 16384) (hq : fnd ps id < ps.length) (hx : x = ps.getD (fnd ps id) z73) (hxl : x.f1.length ≤ 65536) (h0 : 0 ≤ last) (h1 : last ≤ 4611686018427387904) :
    Calls Try.prog 26 #[.pointer (some ⟨g, 0, none⟩), .int .i64 id] w fun e w' => e = .returned (.tuple #[.int .i64 (last + 1), .bool true, .int .i64 0]) ∧ RP S g dev (last + 1) (ps ++ [twin last x]) w w' := by
  have HF := Lib.hid (rfind_hit S g dev last id ps w h (by omega) hq)
  obtain ⟨i, hi⟩ : ∃ i, i = fnd ps id := ⟨_, rfl⟩
  have hil : i < ps.length := by rw [hi]; exact hq
  rw [← hi] at HF hx
  have hn2 : (i : Int) < (ps.length : Int) := by omega
  have hi9 : decide ((i : Int) < 0) = false := decide_eq_false (by omega)
  have h9 := h
  obtain ⟨hg, hlt, v, hblk0, hS0⟩ := h9
  obtain ⟨gA, cap, rfl, _, hgl, _⟩ := Kd.S_form hS0 (by omega)
  obtain ⟨A5, c5, x', ⟨hz0, hz1, hz2, hz3, hz4, hz5⟩, hV0, HX⟩ := S_pk_at hS0 i hil
  obtain rfl : x = x' := by rw [HX.out, hx]
  have d2 := blk_cell hblk0 2 (.slice (some ⟨gA, 0, none⟩) ps.length cap) rfl
  have hcap := (Kd.S_reads' hS0).2.1
  have d2a := fun o => Lib.cell?_alloc_some o d2
  have z5a := fun o => Lib.cell?_alloc_some o hz5
  have hP1 := h.step (w' := w.alloc (.cells #[.int .i64 x.f0.f0, .int .i64 x.f0.f1, .int .i64 x.f0.f2, .int .i64 x.f0.f3, .bool x.f0.f4] 39)) (below_alloc' w _).size (fun k _ hl => (below_alloc' w _).block k hl)
  have HP1 := Lib.hid hP1
  have HV1 := Lib.hid (Kd.V_alloc hV0 (.cells #[.int .i64 x.f0.f0, .int .i64 x.f0.f1, .int .i64 x.f0.f2, .int .i64 x.f0.f3, .bool x.f0.f4] 39))
  have hxn : ((x.f1.length : Nat) : Int) ≤ 65536 := by omega
  have hbx := heap_alloc_new w (.cells #[.int .i64 x.f0.f0, .int .i64 x.f0.f1, .int .i64 x.f0.f2, .int .i64 x.f0.f3, .bool x.f0.f4] 39)
  have q1 := blk_cell hbx 1 (.int .i64 x.f0.f1) rfl
  have q2 := blk_cell hbx 2 (.int .i64 x.f0.f2) rfl
  have q4 := blk_cell hbx 4 (.bool x.f0.f4) rfl
  clear hP1 hV0 hx h hq hblk0 hS0 hlt hg hi HX hbx
  go_enter Try.func26, Try.ntmps26
  go_wp2_with fail
  refine HF.out.mono ?_
  clear HF
  rintro e w1 ⟨rfl, rfl⟩
  go_wp2_with fail
  generalize hW2 : w1.alloc (.cells #[.int .i64 x.f0.f0, .int .i64 x.f0.f1, .int .i64 x.f0.f2, .int .i64 x.f0.f3, .bool x.f0.f4] 39) = W2 at *
  have d9 := d2a (.cells #[.int .i64 x.f0.f0, .int .i64 x.f0.f1, .int .i64 x.f0.f2, .int .i64 x.f0.f3, .bool x.f0.f4] 39)
  have z9 := z5a (.cells #[.int .i64 x.f0.f0, .int .i64 x.f0.f1, .int .i64 x.f0.f2, .int .i64 x.f0.f3, .bool x.f0.f4] 39)
  rw [hW2] at d9 z9
  have HW2 : Hid (w1.alloc (.cells #[.int .i64 x.f0.f0, .int .i64 x.f0.f1, .int .i64 x.f0.f2, .int .i64 x.f0.f3, .bool x.f0.f4] 39) = W2) := hW2
  clear hW2 d2a z5a d2 hz0 hz1 hz2 hz3 hz4 hz5
  have hcall := fun (W : World) (hN : Rn S g dev last ps W) (hV : Kd.V KB 5 W 0 (fun k => (S k ∧ k ≠ g) ∧ k ≠ gA) (.slice A5 x.f1.length c5) x.f1) => rput_no S (fun k => (S k ∧ k ≠ g) ∧ k ≠ gA) g dev last ps W x.f0.f1 x.f0.f2 x.f0.f4 A5 x.f1.length c5 x.f1 hN hV (fun k hk => hk.1.2) hxl hl h0 h1
  have HCALL := Lib.hid (hcall W2.drew (HP1.out.step (Nat.le_refl _) (fun _ _ _ => rfl)) (Kd.V_step HV1.out (fun _ _ _ => rfl)))
  have hn64 : (ps.length : Int) ≤ 16384 := by omega
  clear hcall hxl hl h0 h1
  go_cut [9, 10] (fun v9 v10 wx => v9 = .int .i64 (last + 1) ∧ v10 = .bool true ∧ Hid (∃ S' : Nat → Prop, Rn S' g dev (last + 1) (ps ++ [twin last x]) wx ∧ ∀ k, S' k → S k ∨ W2.heap.size ≤ k) ∧ Hid (Chg S W2 wx))
  case first =>
    go_region_law (first | (go_simp; go_at_call 35; refine HCALL.out.mono ?_; clear HCALL; rintro e w2 ⟨rfl, h2, h3⟩; have H2 := Lib.hid h2; have H3 := Lib.hid (show Chg S W2 w2 from ⟨h3.os, h3.tape, h3.output, h3.size, h3.block⟩); clear h2 h3))
    all_goals
      go_wp2_with fail
      go_meet
      exact ⟨rfl, rfl, H2, H3⟩
  case rest =>
    obtain ⟨rfl, rfl, H2, H3⟩ := hcut
    go_wp2_with fail
    go_ret3
    obtain ⟨S', hn, hs⟩ := H2.out
    have hbb : Below w1.heap.size w1 W2 := by rw [← HW2.out]; exact below_alloc' _ _
    refine ⟨rfl, ⟨S', hn, fun k hk => ?_⟩, (Chg.of_below hbb S).trans H3.out (fun k hk => .inl hk)⟩
    have h9 := hbb.size
    rcases hs k hk with h | h
    · exact .inl h
    · exact .inr (Nat.le_trans h9 h)
end Go.Proofs.Ytnognpfenefafaa
