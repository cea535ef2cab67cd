/- The law SessionNobody: a session that nobody made refuses all. -/
import Derived.Test.YtlnhjkbhhdcdeaaSw1
namespace Go.Proofs.Ytlnhjkbhhdcdeaa
open Go Go.RowKit Go.ChangeShapes Go.WideShapes Go.Proofs.YtlnhjkbhhdcdeaaW.PrintWords Go.Proofs.YtlnhjkbhhdcdeaaW.PrintLast Go.Proofs.YtlnhjkbhhdcdeaaW.PrintMore
open Go.Proofs.Ytlnhjkbhhdcdeaa.PSessionRuns (S27 k27 z27 S116 k116 z116)
set_option linter.unusedVariables false
set_option maxRecDepth 100000
set_option maxHeartbeats 4000000
attribute [local go_sem] max2_mx min2_mn max_two min_two
theorem law_nob (now : Int) (v : Value) (x : Int × Int × Int × Int × Int × List Int) (w : World) (hnow : (Lit.int .i64 now).wf = true) (hK : ∃ cs : Array Value, v = .agg cs ∧ (Kd.pair (Kd.int .u8) (Kd.pair (Kd.int .u32) (Kd.pair (Kd.int .u32) (Kd.pair (Kd.int .u64) (Kd.pair (Kd.int .u64) (Kd.slice 5 (Kd.int .u8))))))).K w x cs.toList)
    (hok : (Lit.int .u8 x.1).wf = true ∧ (Lit.int .u32 x.2.1).wf = true ∧ (Lit.int .u32 x.2.2.1).wf = true ∧ (Lit.int .u64 x.2.2.2.1).wf = true ∧ (Lit.int .u64 x.2.2.2.2.1).wf = true ∧ (∀ b ∈ x.2.2.2.2.2, (Lit.int .u8 b).wf = true) ∧ x.2.2.2.2.2.length * 1 ≤ 140737488351232) :
    Calls Try.prog 7 #[.int .i64 now, v] w fun e w' => e = .returned (.bool true) ∧ Below w.heap.size w w' := by
  obtain ⟨cs, rfl, hk⟩ := hK
  obtain ⟨f, hf⟩ : ∃ f : S27, f = ⟨x.1, x.2.1, x.2.2.1, x.2.2.2.1, x.2.2.2.2.1, x.2.2.2.2.2⟩ := ⟨_, rfl⟩
  have hk' : k27.K w f cs.toList := by rw [hf]; exact hk
  obtain ⟨A5, c5, he, _, _⟩ := PSessionRuns.k27_open hk'
  obtain rfl : cs = #[.int .u8 f.f0, .int .u32 f.f1, .int .u32 f.f2, .int .u64 f.f3, .int .u64 f.f4, .slice A5 f.f5.length c5] := by
    rw [← Array.toList_inj, he]
  obtain ⟨x0, e0⟩ : ∃ x, x = f.f0 := ⟨_, rfl⟩
  obtain ⟨x1, e1⟩ : ∃ x, x = f.f1 := ⟨_, rfl⟩
  obtain ⟨x2, e2⟩ : ∃ x, x = f.f2 := ⟨_, rfl⟩
  obtain ⟨x3, e3⟩ : ∃ x, x = f.f3 := ⟨_, rfl⟩
  obtain ⟨x4, e4⟩ : ∃ x, x = f.f4 := ⟨_, rfl⟩
  obtain ⟨l5, e5⟩ : ∃ x, x = f.f5.length := ⟨_, rfl⟩
  rw [← e0, ← e1, ← e2, ← e3, ← e4, ← e5]
  clear hok hk hk' he hf e0 e1 e2 e3 e4 e5 hnow
  go_enter Try.func7, Try.ntmps7
  go_upto_block 0 with fail
  obtain ⟨w1, hw1⟩ : ∃ w1, w1 = w.alloc (.cells #[.int .u8 x0, .int .u32 x1, .int .u32 x2, .int .u64 x3, .int .u64 x4, .slice A5 l5 c5] 27) := ⟨_, rfl⟩
  obtain ⟨w2, hw2⟩ : ∃ w2, w2 = w1.alloc (.cells #[.slice none 0 0, .int .u64 0, .int .i64 0, .int .u32 0, .int .i64 0, .int .i64 0, .int .u32 0, .bool false, .int .u64 0, .map none, .int .i64 0, .bool false, .int .i64 0] 70) := ⟨_, rfl⟩
  obtain ⟨W1, hW1⟩ : ∃ W1, W1 = w2.alloc (.cells #[.pointer none, .pointer (some ⟨w.heap.size + 1, 0, none⟩)] 41) := ⟨_, rfl⟩
  have z1 : w1.heap.size = w.heap.size + 1 := by rw [hw1]; exact World.size_alloc _ _
  have z2 : w2.heap.size = w.heap.size + 2 := by rw [hw2, World.size_alloc, z1]
  have hb1 : Below w.heap.size w w1 := by rw [hw1]; exact below_alloc (Below.refl _ _) _
  have hb2 : Below w1.heap.size w1 w2 := by rw [hw2]; exact below_alloc (Below.refl _ _) _
  have hb3 : Below w2.heap.size w2 W1 := by rw [hW1]; exact below_alloc (Below.refl _ _) _
  have hB : Below w.heap.size w W1 := below_then (below_then hb1 (by omega) hb2) (by omega) hb3
  have hfb : W1.heap[w.heap.size]? = some (.cells #[.int .u8 x0, .int .u32 x1, .int .u32 x2, .int .u64 x3, .int .u64 x4, .slice A5 l5 c5] 27 (0, 0)) := by
    rw [hb3.block _ (by omega), hb2.block _ (by omega), hw1]
    exact heap_alloc_new w _
  have heb : W1.heap[w.heap.size + 1]? = some (.cells #[.slice none 0 0, .int .u64 0, .int .i64 0, .int .u32 0, .int .i64 0, .int .i64 0, .int .u32 0, .bool false, .int .u64 0, .map none, .int .i64 0, .bool false, .int .i64 0] 70 (0, 0)) := by
    rw [hb3.block _ (by omega), hw2, ← z1]
    exact heap_alloc_new w1 _
  have hsb : W1.heap[w.heap.size + 2]? = some (.cells #[.pointer none, .pointer (some ⟨w.heap.size + 1, 0, none⟩)] 41 (0, 0)) := by
    rw [hW1, ← z2]
    exact heap_alloc_new w2 _
  have hww : ((w.alloc (.cells #[.int .u8 x0, .int .u32 x1, .int .u32 x2, .int .u64 x3, .int .u64 x4, .slice A5 l5 c5] 27)).alloc (.cells #[.slice none 0 0, .int .u64 0, .int .i64 0, .int .u32 0, .int .i64 0, .int .i64 0, .int .u32 0, .bool false, .int .u64 0, .map none, .int .i64 0, .bool false, .int .i64 0] 70)).alloc (.cells #[.pointer none, .pointer (some ⟨w.heap.size + 1, 0, none⟩)] 41) = W1 := by
    rw [hW1, hw2, hw1]
  rw [hww]
  obtain ⟨fb, hfbe⟩ : ∃ fb, fb = w.heap.size := ⟨_, rfl⟩
  obtain ⟨eb, hebe⟩ : ∃ eb, eb = w.heap.size + 1 := ⟨_, rfl⟩
  obtain ⟨sb, hsbe⟩ : ∃ sb, sb = w.heap.size + 2 := ⟨_, rfl⟩
  rw [← hfbe] at hfb
  rw [← hebe] at heb hsb
  rw [← hsbe] at hsb
  rw [show w.heap.size + 1 + 1 = sb by omega, ← hebe, ← hfbe]
  have HB := Lib.hid hB
  have c0 := blk_cell hfb 0 _ rfl
  have c1 := blk_cell hfb 1 _ rfl
  have c2 := blk_cell hfb 2 _ rfl
  have c3 := blk_cell hfb 3 _ rfl
  have c4 := blk_cell hfb 4 _ rfl
  have c5' := blk_cell hfb 5 _ rfl
  have d0 := blk_cell hsb 0 _ rfl
  have d1 := blk_cell hsb 1 _ rfl
  have d9 := blk_cell heb 9 (.map none) rfl
  clear hw1 hw2 hW1 z1 z2 hb1 hb2 hb3 hB hfb heb hsb hww hfbe hebe hsbe
  go_wp2_with fail
  go_loopw [25] (fun v wr => ∃ i : Nat, v = .int .i64 i ∧ i ≤ 2 ∧ Below W1.heap.size W1 wr) (fun v _ => 2 - (intOf v).toNat)
  case atStart => exact ⟨0, rfl, Nat.zero_le _, Below.refl _ _⟩
  case round =>
    obtain ⟨i, rfl, hi, hbl⟩ := hrel
    have h3 : i = 0 ∨ i = 1 ∨ i = 2 := by omega
    rcases h3 with rfl | rfl | rfl
    · have HN : Hid (Nob wr (.pointer none)) := Lib.hid (.inl rfl)
      have HBL := Lib.hid hbl
      have e0 := pw_cell_below hbl d0
      have e1 := pw_cell_below hbl d1
      have g0 := pw_cell_below hbl c0
      have g1 := pw_cell_below hbl c1
      have g2 := pw_cell_below hbl c2
      have g3 := pw_cell_below hbl c3
      have g4 := pw_cell_below hbl c4
      have g5 := pw_cell_below hbl c5'
      clear hbl hi
      go_wp2_with fail
      refine (send_no HN.out now _).mono ?_
      rintro e w1 ⟨rfl, rfl⟩
      go_wp2_with fail
      refine (take_no HN.out now _).mono ?_
      rintro e w1 ⟨rfl, hw1⟩
      have HN1 : Hid (Nob w1 (.pointer none)) := by rw [hw1]; exact Lib.hid (HN.out.alloc _)
      have HB1 : Hid (Below W1.heap.size W1 w1) := by rw [hw1]; exact Lib.hid (below_then HBL.out HBL.out.size (below_alloc (Below.refl _ _) _))
      clear hw1 e0 e1 g0 g1 g2 g3 g4 g5
      go_wp2_with fail
      refine (tick_no HN1.out now).mono ?_
      rintro e w2 ⟨rfl, rfl⟩
      go_wp2_with fail
      refine (next_no HN1.out).mono ?_
      rintro e w2 ⟨rfl, rfl⟩
      go_wp2_with fail
      refine (peer_no HN1.out).mono ?_
      rintro e w2 ⟨rfl, rfl⟩
      go_wp2_with fail
      refine (waiting_no HN1.out).mono ?_
      rintro e w2 ⟨rfl, rfl⟩
      go_wp2_with fail
      refine (fly_no HN1.out).mono ?_
      rintro e w2 ⟨rfl, rfl⟩
      go_wp2_with fail
      refine (in_no HN1.out).mono ?_
      rintro e w2 ⟨rfl, rfl⟩
      go_wp2_with fail
      refine (idle_no HN1.out).mono ?_
      rintro e w2 ⟨rfl, rfl⟩
      go_wp2_with fail
      go_roundw
      case rel => exact ⟨0 + 1, by go_num, by omega, HB1.out⟩
      case measure => simp [intOf]
    · have HN : Hid (Nob wr (.pointer (some ⟨eb, 0, none⟩))) := Lib.hid (.inr ⟨eb, rfl, pw_cell_below hbl d9⟩)
      have HBL := Lib.hid hbl
      have e0 := pw_cell_below hbl d0
      have e1 := pw_cell_below hbl d1
      have g0 := pw_cell_below hbl c0
      have g1 := pw_cell_below hbl c1
      have g2 := pw_cell_below hbl c2
      have g3 := pw_cell_below hbl c3
      have g4 := pw_cell_below hbl c4
      have g5 := pw_cell_below hbl c5'
      clear hbl hi
      go_wp2_with fail
      refine (send_no HN.out now _).mono ?_
      rintro e w1 ⟨rfl, rfl⟩
      go_wp2_with fail
      refine (take_no HN.out now _).mono ?_
      rintro e w1 ⟨rfl, hw1⟩
      have HN1 : Hid (Nob w1 (.pointer (some ⟨eb, 0, none⟩))) := by rw [hw1]; exact Lib.hid (HN.out.alloc _)
      have HB1 : Hid (Below W1.heap.size W1 w1) := by rw [hw1]; exact Lib.hid (below_then HBL.out HBL.out.size (below_alloc (Below.refl _ _) _))
      clear hw1 e0 e1 g0 g1 g2 g3 g4 g5
      go_wp2_with fail
      refine (tick_no HN1.out now).mono ?_
      rintro e w2 ⟨rfl, rfl⟩
      go_wp2_with fail
      refine (next_no HN1.out).mono ?_
      rintro e w2 ⟨rfl, rfl⟩
      go_wp2_with fail
      refine (peer_no HN1.out).mono ?_
      rintro e w2 ⟨rfl, rfl⟩
      go_wp2_with fail
      refine (waiting_no HN1.out).mono ?_
      rintro e w2 ⟨rfl, rfl⟩
      go_wp2_with fail
      refine (fly_no HN1.out).mono ?_
      rintro e w2 ⟨rfl, rfl⟩
      go_wp2_with fail
      refine (in_no HN1.out).mono ?_
      rintro e w2 ⟨rfl, rfl⟩
      go_wp2_with fail
      refine (idle_no HN1.out).mono ?_
      rintro e w2 ⟨rfl, rfl⟩
      go_wp2_with fail
      go_roundw
      case rel => exact ⟨1 + 1, by go_num, by omega, HB1.out⟩
      case measure => simp [intOf]
    · have HBL := Lib.hid hbl
      clear hbl hi c0 c1 c2 c3 c4 c5' d0 d1 d9
      go_wp2_with fail
      refine (alive _).mono ?_
      rintro e w5 ⟨rfl, hb5⟩
      have HB5 := Lib.hid hb5
      clear hb5
      go_wp2_with fail
      go_ret
      have h7 : Below w.heap.size w wr := HB.out.trans (HBL.out.mono HB.out.size)
      exact ⟨rfl, below_then h7 h7.size HB5.out⟩
end Go.Proofs.Ytlnhjkbhhdcdeaa
