/- The walk of take. -/
import Derived.Test.YtnognpfenefafaaNk10
import Derived.Test.YtnognpfenefafaaNk11
namespace Go.Proofs.Ytnognpfenefafaa
open Go.Proofs.Ytnognpfenefafaa.PNetRuns (S39 S73 k39 k73 z39 z73)
open Go.RowKit Go.Proofs.YtnognpfenefafaaW.PrintWords Go.Proofs.YtnognpfenefafaaW.PrintLast Go.Proofs.YtnognpfenefafaaW.PrintMore
/-- A packet of a row of the call's own: its cells, its bytes apart from the row's block. -/
theorem S_pk_at {w : World} {ok : Nat → Prop} {t g n c : Nat} {ps : List S73} (h : Kd.S k73 t w 0 ok (.slice (some ⟨g, 0, none⟩) n c) ps) (i : Nat) (hi : i < ps.length) :
    ∃ A5 c5, ∃ x : S73, Six w ⟨g, i * 6, none⟩ x (.slice A5 x.f1.length c5) ∧ Kd.V KB 5 w 0 (fun k => ok k ∧ k ≠ g) (.slice A5 x.f1.length c5) x.f1 ∧ Hid (x = ps.getD i z73) := by
  have hn := (Kd.S_reads' h).1
  obtain ⟨oki, cs, hcl, hM, hc0, hok, _⟩ := Kd.S_lend h z73 (i : Int) (by omega) (by omega)
  obtain ⟨v5, rfl, g5⟩ := PNetRuns.k73_openM hM
  obtain ⟨A5, c5, rfl⟩ := Kd.R_slice g5
  have hc : ∀ j u, [Value.int .i64 (ps.getD i z73).f0.f0, .int .i64 (ps.getD i z73).f0.f1, .int .i64 (ps.getD i z73).f0.f2, .int .i64 (ps.getD i z73).f0.f3, .bool (ps.getD i z73).f0.f4, .slice A5 (ps.getD i z73).f1.length c5][j]? = some u → w.cell? ⟨g, i * 6 + j, none⟩ = some u := hc0
  exact ⟨A5, c5, _, ⟨hc 0 _ rfl, hc 1 _ rfl, hc 2 _ rfl, hc 3 _ rfl, hc 4 _ rfl, hc 5 _ rfl⟩, Kd.V_mono (Kd.V_mk (Kd.R_reads' g5).2.1 (Kd.R_F g5)) hok, rfl⟩
set_option maxRecDepth 100000 in
set_option maxHeartbeats 2000000 in
theorem take_no (S : Nat → Prop) (g : Nat) (dev last id : Int) (ps : List S73) (w : World) (h : No S g dev last ps w) (hd : 0 < dev) (hl : ps.length ≤ 100000) (hq : fnd ps id < ps.length) :
    ∃ A5 c5, ∃ x : S73, Hid (x = ps.getD (fnd ps id) z73) ∧ Calls Try.prog 29 #[.pointer (some ⟨g, 0, none⟩), .int .i64 id] w fun e w' => e = .returned (.tuple #[.agg #[.int .i64 x.f0.f0, .int .i64 x.f0.f1, .int .i64 x.f0.f2, .int .i64 x.f0.f3, .bool x.f0.f4, .slice A5 x.f1.length c5], .int .i64 0]) ∧
      No S g dev last (ps.eraseIdx (fnd ps id)) w' ∧ Chg S w w' ∧ Kd.V KB 5 w' 0 (fun k => S k ∧ k ≠ g) (.slice A5 x.f1.length c5) x.f1 := by
  have hp := h.step (w' := w.alloc (.cells #[.int .i64 0, .int .i64 0, .int .i64 0, .int .i64 0, .bool false, .slice none 0 0] 69)) (by rw [World.size_alloc]; omega) (fun k hk hl => Below.heap_alloc _ _ k hl)
  have HP := Lib.hid hp
  have HH := Lib.hid h
  have HQ := Lib.hid hq
  have HL := Lib.hid hl
  clear h hp
  obtain ⟨i, hi⟩ : ∃ i, i = fnd ps id := ⟨_, rfl⟩
  have hil : i < ps.length := by rw [hi]; exact hq
  clear hq
  have hn2 : (i : Int) < (ps.length : Int) := by omega
  obtain ⟨hg, hlt, v, hblk0, hS0⟩ := HP.out
  obtain ⟨gA, cap, rfl, _, hgl, _⟩ := Kd.S_form hS0 (by omega)
  obtain ⟨A5, c5, x, ⟨hz0, hz1, hz2, hz3, hz4, hz5⟩, hV0, HX⟩ := S_pk_at hS0 i hil
  refine ⟨A5, c5, x, by rw [← hi]; exact HX, ?_⟩
  have HI := Lib.hid hi
  clear hi
  have Z := Lib.hid (And.intro hz0 (And.intro hz1 (And.intro hz2 (And.intro hz3 (And.intro hz4 hz5)))))
  have HBK0 := Lib.hid hblk0
  have HS0 := Lib.hid hS0
  have HV0 := Lib.hid hV0
  clear hblk0 hS0 hV0 hz0 hz1 hz2 hz3 hz4 hz5 hlt
  go_enter Try.func29, Try.ntmps29
  go_wp2_with fail
  refine (find_hit S g dev last id ps _ HP.out hd HL.out HQ.out).mono ?_
  rintro e w1 ⟨rfl, hb⟩
  rw [← HI.out]
  have hblk := (hb.block g (blk_lt HBK0.out)).trans HBK0.out
  have hS := Kd.S_below HS0.out hb
  have hV := Kd.V_below HV0.out hb
  have hc0 := pw_cell_below hb Z.out.1
  have hc1 := pw_cell_below hb Z.out.2.1
  have hc2 := pw_cell_below hb Z.out.2.2.1
  have hc3 := pw_cell_below hb Z.out.2.2.2.1
  have hc4 := pw_cell_below hb Z.out.2.2.2.2.1
  have hc5 := pw_cell_below hb Z.out.2.2.2.2.2
  have d2 := blk_cell hblk 2 (.slice (some ⟨gA, 0, none⟩) ps.length cap) rfl
  have f2 := blk_free hblk 2
  have hA2 := fun o => Lib.cell?_alloc_some o d2
  have hlb := loc_blk hb
  have HLB := Lib.hid hlb
  have HBK := Lib.hid hblk
  have HS := Lib.hid hS
  have HV := Lib.hid hV
  have HB := Lib.hid hb
  clear hblk hS hV hb
  (have mlc0 := blk_cell hlb 0 _ rfl; have mlc1 := blk_cell hlb 1 _ rfl; have mlc2 := blk_cell hlb 2 _ rfl; have mlc3 := blk_cell hlb 3 _ rfl; have mlc4 := blk_cell hlb 4 _ rfl; have mlc5 := blk_cell hlb 5 _ rfl; have mlf0 := blk_free hlb 0; have mlf1 := blk_free hlb 1; have mlf2 := blk_free hlb 2; have mlf3 := blk_free hlb 3; have mlf4 := blk_free hlb 4; have mlf5 := blk_free hlb 5; clear hlb)
  go_wp2_with fail
  have hpb := heap_alloc_new w1 (.cells #[.int .i64 x.f0.f0, .int .i64 x.f0.f1, .int .i64 x.f0.f2, .int .i64 x.f0.f3, .bool x.f0.f4, .slice A5 x.f1.length c5] 69)
  have hrb := (Below.heap_alloc w1 (.cells #[.int .i64 x.f0.f0, .int .i64 x.f0.f1, .int .i64 x.f0.f2, .int .i64 x.f0.f3, .bool x.f0.f4, .slice A5 x.f1.length c5] 69) _ (blk_lt HLB.out)).trans HLB.out
  have hgb := (Below.heap_alloc w1 (.cells #[.int .i64 x.f0.f0, .int .i64 x.f0.f1, .int .i64 x.f0.f2, .int .i64 x.f0.f3, .bool x.f0.f4, .slice A5 x.f1.length c5] 69) _ (blk_lt HBK.out)).trans HBK.out
  have hS3 := Kd.S_alloc HS.out (.cells #[.int .i64 x.f0.f0, .int .i64 x.f0.f1, .int .i64 x.f0.f2, .int .i64 x.f0.f3, .bool x.f0.f4, .slice A5 x.f1.length c5] 69)
  have hV3 := Kd.V_alloc HV.out (.cells #[.int .i64 x.f0.f0, .int .i64 x.f0.f1, .int .i64 x.f0.f2, .int .i64 x.f0.f3, .bool x.f0.f4, .slice A5 x.f1.length c5] 69)
  have hB3 := below_alloc (below_then (below_alloc (Below.refl w.heap.size w) _) (Nat.le_of_lt (by rw [World.size_alloc]; omega)) HB.out) (.cells #[.int .i64 x.f0.f0, .int .i64 x.f0.f1, .int .i64 x.f0.f2, .int .i64 x.f0.f3, .bool x.f0.f4, .slice A5 x.f1.length c5] 69)
  have hown := (Kd.S_R HS.out).1 gA (by simp [Value.ownBlock])
  have hSl := HH.out.2.1
  have hgA : gA < w.heap.size := hSl gA hown.1
  have hgg : g < w.heap.size := hSl g hg
  have hw1 : w.heap.size < w1.heap.size := blk_lt HLB.out
  have hw3 : (w1.alloc (.cells #[.int .i64 x.f0.f0, .int .i64 x.f0.f1, .int .i64 x.f0.f2, .int .i64 x.f0.f3, .bool x.f0.f4, .slice A5 x.f1.length c5] 69)).heap.size = w1.heap.size + 1 := by rw [World.size_alloc]
  have hne : gA ≠ g := hown.2
  have HS3 := Lib.hid hS3
  have HV3 := Lib.hid hV3
  have HB3 := Lib.hid hB3
  have HSl := Lib.hid hSl
  have HOW := Lib.hid hown
  clear hS3 hV3 hB3 hSl hown hA2 hc0 hc1 hc2 hc3 hc4 hc5 d2 f2 HB HS HV
  refine (delete_no (fun k => S k ∧ k ≠ g) gA ps.length cap i ps _ HS3.out hil HL.out).mono ?_
  rintro e w4 ⟨rfl, hS4, hC4⟩
  generalize w1.alloc (.cells #[.int .i64 x.f0.f0, .int .i64 x.f0.f1, .int .i64 x.f0.f2, .int .i64 x.f0.f3, .bool x.f0.f4, .slice A5 x.f1.length c5] 69) = W3 at *
  obtain ⟨g1, hg1⟩ : ∃ g1, g1 = w.heap.size := ⟨_, rfl⟩
  obtain ⟨g2, hg2⟩ : ∃ g2, g2 = w1.heap.size := ⟨_, rfl⟩
  have HG1 := Lib.hid hg1
  rw [← hg1] at hrb hgA hgg hw1 ⊢
  rw [← hg2] at hpb hw1 hw3 ⊢
  have hpb4 := (hC4.block g2 (by omega) (by omega)).trans hpb
  have hrb4 := (hC4.block g1 (by omega) (by omega)).trans hrb
  have hgb4 := (hC4.block g (by omega) (fun h => hne h.symm)).trans hgb
  have HR4 := Lib.hid hrb4
  have HGB4 := Lib.hid hgb4
  have n12 : g1 ≠ g2 := by omega
  have n21 : g2 ≠ g1 := by omega
  have n10 : g1 ≠ g := by omega
  have n01 : g ≠ g1 := by omega
  have n20 : g2 ≠ g := by omega
  have n02 : g ≠ g2 := by omega
  have k2 := blk_cell hgb4 2 (.slice (some ⟨gA, 0, none⟩) ps.length cap) rfl
  have k3 := blk_free hgb4 2
  have fin : ∀ b0 b1 b2 b3 b4 b5 : Value, let W := (((((((w4.setCell ⟨g, 2, none⟩ (.slice (some ⟨gA, 0, none⟩) (ps.length - 1) cap)).setCell ⟨g1, 0, none⟩ b0).setCell ⟨g1, 1, none⟩ b1).setCell ⟨g1, 2, none⟩ b2).setCell ⟨g1, 3, none⟩ b3).setCell ⟨g1, 4, none⟩ b4).setCell ⟨g1, 5, none⟩ b5)
      No S g dev last (ps.eraseIdx i) W ∧ Chg S w W ∧ Kd.V KB 5 W 0 (fun k => S k ∧ k ≠ g) (.slice A5 x.f1.length c5) x.f1 := by
    intro b0 b1 b2 b3 b4 b5 W
    have hsz : (w4.setCell ⟨g, 2, none⟩ (.slice (some ⟨gA, 0, none⟩) (ps.length - 1) cap)).heap.size = w4.heap.size := by simp [World.setCell]
    have c6 : Chg (fun k => k = g1) (w4.setCell ⟨g, 2, none⟩ (.slice (some ⟨gA, 0, none⟩) (ps.length - 1) cap)) W := ((((((Chg.refl (fun k => k = g1) _).set _ _ (.inl rfl)).set _ _ (.inl rfl)).set _ _ (.inl rfl)).set _ _ (.inl rfl)).set _ _ (.inl rfl)).set _ _ (.inl rfl)
    have hT : ∀ k, S k → ¬ k = g1 := fun k hk he => by have := HSl.out k hk; rw [← HG1.out] at this; omega
    have hsize : w.heap.size ≤ w4.heap.size := Nat.le_trans HB3.out.size hC4.size
    have n1 : No S g dev last (ps.eraseIdx i) (w4.setCell ⟨g, 2, none⟩ (.slice (some ⟨gA, 0, none⟩) (ps.length - 1) cap)) :=
      ⟨hg, fun k hk => by rw [hsz]; exact Nat.lt_of_lt_of_le (HSl.out k hk) hsize, _, by simpa using blk_set HGB4.out 2 (.slice (some ⟨gA, 0, none⟩) (ps.length - 1) cap), Kd.S_far hS4 (fun k hk => hk.2) _⟩
    have c5 : Chg S w (w4.setCell ⟨g, 2, none⟩ (.slice (some ⟨gA, 0, none⟩) (ps.length - 1) cap)) :=
      ((Chg.of_below HB3.out S).trans hC4 (fun k hk => .inl (by rw [hk]; exact HOW.out.1))).set _ _ (.inl hg)
    refine ⟨n1.step c6.size (c6.step hT), c5.trans c6 (fun k hk => .inr (by rw [hk]; exact Nat.le_of_eq HG1.out.symm)), ?_⟩
    refine Kd.V_step (Kd.V_far (Kd.V_mono (Kd.V_step HV3.out (fun k hk hl => hC4.block k hl hk.2)) (fun k hk => hk.1)) (fun k hk => hk.2) _) (c6.step (fun k hk => hT k hk.1))
  have FIN := Lib.hid fin
  clear fin hS4 hC4 hgb4 hg1 hg2 hpb hrb hgb
  (have mlc0 := blk_cell hpb4 0 _ rfl; have mlc1 := blk_cell hpb4 1 _ rfl; have mlc2 := blk_cell hpb4 2 _ rfl; have mlc3 := blk_cell hpb4 3 _ rfl; have mlc4 := blk_cell hpb4 4 _ rfl; have mlc5 := blk_cell hpb4 5 _ rfl; have mlf0 := blk_free hpb4 0; have mlf1 := blk_free hpb4 1; have mlf2 := blk_free hpb4 2; have mlf3 := blk_free hpb4 3; have mlf4 := blk_free hpb4 4; have mlf5 := blk_free hpb4 5; clear hpb4)
  (have mlc0 := blk_cell hrb4 0 _ rfl; have mlc1 := blk_cell hrb4 1 _ rfl; have mlc2 := blk_cell hrb4 2 _ rfl; have mlc3 := blk_cell hrb4 3 _ rfl; have mlc4 := blk_cell hrb4 4 _ rfl; have mlc5 := blk_cell hrb4 5 _ rfl; have mlf0 := blk_free hrb4 0; have mlf1 := blk_free hrb4 1; have mlf2 := blk_free hrb4 2; have mlf3 := blk_free hrb4 3; have mlf4 := blk_free hrb4 4; have mlf5 := blk_free hrb4 5; clear hrb4)
  go_wp2_with fail
  refine bodyPost_ret_by (results_ct res29 (g := g1) rfl (load69 (blk_six ((Below.heap_setCell _ _ _ _ n10).trans HR4.out) _ _ _ _ _ _) rfl)) rfl ⟨rfl, ?_⟩
  rw [← HI.out]
  exact FIN.out _ _ _ _ _ _
end Go.Proofs.Ytnognpfenefafaa
