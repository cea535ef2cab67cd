/- The walk of awake, of the statements of layer 2. -/
import Derived.Test.YtbglnddjhlefnaaTq
namespace Go.Proofs.Ytbglnddjhlefnaa
open Go Go.RowKit Go.Proofs.YtbglnddjhlefnaaW.PrintWords Go.Proofs.YtbglnddjhlefnaaW.PrintLast Go.Proofs.YtbglnddjhlefnaaW.PrintMore
def aw1 : Bd := ⟨2, 10, [(0, 0, 1)], [2], [2]⟩
def aw2 : Bd := ⟨2, 10, [(0, 0, 1), (1, 0, 1)], [3, 2], [3, 2]⟩
def aw3 : Bd := ⟨2, 10, [(0, 0, 1), (1, 0, 1), (0, 0, 3)], [4, 3, 2], [4, 3, 2]⟩
theorem aw_1 : cubeR (newB 2 10) [49, 120] = (2, 0, aw1) := by kernel_rfl
theorem aw_2 : cubeR aw1 [120, 49] = (3, 0, aw2) := by kernel_rfl
theorem aw_3 : foldR aw2 true [2, 3] = (4, 0, aw3) := by kernel_rfl
theorem aw_4 : listF aw3.N 4 = [(1, 0, 1), (0, 0, 2)] := by kernel_rfl
theorem fine1 : Fine aw1 := by have := (Fine.new (b := 2) (l := 10) (by omega) (by omega) (by omega)).cube [49, 120]; rw [aw_1] at this; exact this
theorem fine2 : Fine aw2 := by have := fine1.cube [120, 49]; rw [aw_2] at this; exact this
theorem fine3 : Fine aw3 := by
  have := fine2.fold true [2, 3] (fun b hb => by simp at hb; unfold Val aw2; simp; omega)
  rw [aw_3] at this
  exact this
section
variable {g : Nat} {S : Nat → Prop} {w : World}
theorem awCube1 (h : Tab g S (newB 2 10) w) : Calls Try.prog 16 #[.pointer (some ⟨g, 0, none⟩), .string ⟨#[49, 120]⟩] w fun e w' => e = .returned (.tuple #[.int .i64 2, .int .i64 0]) ∧ ∃ S', Tab g S' aw1 w' ∧ Gr S S' w w' := by
  have := cube_w h (Fine.new (b := 2) (l := 10) (by omega) (by omega) (by omega)).wf ⟨#[49, 120]⟩ rfl (by decide) (by decide) (by decide) (by simp [newB]) (fun a N1 hc => ?_)
  · rw [show (ByteArray.mk #[49, 120]).data.toList = [49, 120] from rfl, aw_1] at this
    exact this
  · have h2 : cubeG (newB 2 10).N [49, 120] 0 = (some 2, aw1.N) := by kernel_rfl
    have hc : cubeG (newB 2 10).N [49, 120] 0 = (some a, N1) := hc
    rw [h2] at hc
    simp only [Prod.mk.injEq, Option.some.injEq] at hc
    obtain ⟨rfl, rfl⟩ := hc
    show 0 + _ ≤ 10
    decide
theorem awCube2 (h : Tab g S aw1 w) : Calls Try.prog 16 #[.pointer (some ⟨g, 0, none⟩), .string ⟨#[120, 49]⟩] w fun e w' => e = .returned (.tuple #[.int .i64 3, .int .i64 0]) ∧ ∃ S', Tab g S' aw2 w' ∧ Gr S S' w w' := by
  have := cube_w h fine1.wf ⟨#[120, 49]⟩ rfl (by decide) (by decide) (by decide) (by simp [aw1]) (fun a N1 hc => ?_)
  · rw [show (ByteArray.mk #[120, 49]).data.toList = [120, 49] from rfl, aw_2] at this
    exact this
  · have h2 : cubeG aw1.N [120, 49] 0 = (some 3, aw2.N) := by kernel_rfl
    have hc : cubeG aw1.N [120, 49] 0 = (some a, N1) := hc
    rw [h2] at hc
    simp only [Prod.mk.injEq, Option.some.injEq] at hc
    obtain ⟨rfl, rfl⟩ := hc
    show 1 + _ ≤ 10
    decide
theorem awAnd (h : Tab g S aw2 w) : Calls Try.prog 17 #[.pointer (some ⟨g, 0, none⟩), .slice (some ⟨w.heap.size, 0, none⟩) 2 2] (w.alloc (.cells #[.int .i64 2, .int .i64 3] 26)) fun e w' => e = .returned (.tuple #[.int .i64 4, .int .i64 0]) ∧ ∃ S', Tab g S' aw3 w' ∧ Gr S S' (w.alloc (.cells #[.int .i64 2, .int .i64 3] 26)) w' := by
  have hV := new_refs [2, 3] [.int .i64 2, .int .i64 3] rfl w (by simp) w.heap.size 2 rfl rfl
  have h0 := h.below (below_alloc (Below.refl _ _) (.cells #[.int .i64 2, .int .i64 3] 26))
  have hc : foldC aw2.bits true aw2.N 1 [2, 3] = (4, aw3.N) := by kernel_rfl
  have := And_w (l := [2, 3]) (A := some ⟨w.heap.size, 0, none⟩) (c := 2) (okp := fun k => k = w.heap.size) h0 fine2 hV (by simp) (by
    rintro k rfl
    exact ⟨fun hs => Nat.lt_irrefl _ (h.lt _ hs), by rw [World.size_alloc]; omega⟩) (by
    intro b hb
    simp at hb
    rcases hb with rfl | rfl <;> decide) (by rw [hc]; decide) (by rw [hc]; unfold Room; decide)
  rw [aw_3] at this
  exact this
theorem awList (h : Tab g S aw3 w) : Calls Try.prog 24 #[.pointer (some ⟨g, 0, none⟩), .int .i64 4] w fun e w' => ∃ v, e = .returned (.tuple #[v, .int .i64 0]) ∧ LiP v [(1, 0, 1), (0, 0, 2)] w w' := by
  have := List_w h fine3 (by decide) 4 (by decide) (by rw [aw_4]; decide)
  rw [aw_4] at this
  exact this
theorem awSize (h : Tab g S aw3 w) : Calls Try.prog 20 #[.pointer (some ⟨g, 0, none⟩)] w fun e w' => e = .returned (.int .i64 3) ∧ w = w' := Size_w h fine3.nd
/-- What a call on a table of one's own did, seen from the start. -/
structure Own (B : Nat) (S : Nat → Prop) (w0 w : World) : Prop where
  bl : ∀ k, S k → B ≤ k
  bw : Below B w0 w
theorem Own.gr {B : Nat} {S S' : Nat → Prop} {w0 w w' : World} (h : Own B S w0 w) (hB : B ≤ w0.heap.size) (hg : Gr S S' w w') : Own B S' w0 w' := by
  have hs := h.bw.size
  exact ⟨fun k hk => (hg.new k hk).elim (h.bl k) (fun h2 => by omega), h.bw.trans (hg.chg.below h.bl (by omega))⟩
theorem Own.below {B : Nat} {S : Nat → Prop} {w0 w w' : World} (h : Own B S w0 w) (hB : B ≤ w0.heap.size) (hb : Below w.heap.size w w') : Own B S w0 w' := by
  have hs := h.bw.size
  exact ⟨h.bl, h.bw.trans (hb.mono (by omega))⟩
theorem lit_row (w : World) : RowR (w.alloc (.cells #[.int .i64 1, .int .i64 0, .int .i64 1, .int .i64 0, .int .i64 0, .int .i64 2] 83)) (.slice (some ⟨w.heap.size, 0, none⟩) 2 2) [(1, 0, 1), (0, 0, 2)] := by
  have hb := heap_alloc_new w (.cells #[.int .i64 1, .int .i64 0, .int .i64 1, .int .i64 0, .int .i64 0, .int .i64 2] 83)
  refine ⟨w.heap.size, 2, rfl, Nat.le_refl _, by decide, fun i n hi => ?_⟩
  match i, hi with
  | 0, hi => cases hi; exact ⟨blk_cell hb 0 _ rfl, blk_cell hb 1 _ rfl, blk_cell hb 2 _ rfl⟩
  | 1, hi => cases hi; exact ⟨blk_cell hb 3 _ rfl, blk_cell hb 4 _ rfl, blk_cell hb 5 _ rfl⟩
set_option maxRecDepth 100000 in
set_option maxHeartbeats 2000000 in
theorem awake_w (w : World) : Calls Try.prog 12 #[] w fun e w' => e = .returned (.bool true) ∧ Below w.heap.size w w' := by
  have HN := Lib.hid (New_w (w := w) 2 10 (by omega) (by omega) (by omega))
  go_enter Try.func12, Try.ntmps12
  go_wp2_with fail
  refine HN.out.mono ?_
  rintro e w1 ⟨g, S1, rfl, h1, h2, h3⟩
  have T1 := Lib.hid h1
  have O1 : Hid (Own w.heap.size S1 w w1) := Lib.hid ⟨h2, h3⟩
  clear h1 h2 h3 HN
  go_wp2_with fail
  refine (awCube1 T1.out).mono ?_
  rintro e w2 ⟨rfl, S2, h1, h2⟩
  have T2 := Lib.hid h1
  have O2 := Lib.hid (O1.out.gr (Nat.le_refl _) h2)
  clear h1 h2 T1 O1
  go_wp2_with fail
  refine (awCube2 T2.out).mono ?_
  rintro e w3 ⟨rfl, S3, h1, h2⟩
  have T3 := Lib.hid h1
  have O3 := Lib.hid (O2.out.gr (Nat.le_refl _) h2)
  clear h1 h2 T2 O2
  go_wp2_with fail
  refine (awAnd T3.out).mono ?_
  rintro e w4 ⟨rfl, S4, h1, h2⟩
  have T4 := Lib.hid h1
  have O4 := Lib.hid ((O3.out.below (Nat.le_refl _) (below_alloc (Below.refl _ _) _)).gr (Nat.le_refl _) h2)
  clear h1 h2 T3 O3
  go_wp2_with fail
  refine (awList T4.out).mono ?_
  rintro e w5 ⟨v, rfl, h1, h2, h3⟩
  have T5 := Lib.hid (T4.out.below h3)
  have O5 := Lib.hid (O4.out.below (Nat.le_refl _) h3)
  have R5 : Hid (RowR w5 v [(1, 0, 1), (0, 0, 2)]) := Lib.hid (RowR.of_owns h1 (by decide))
  have N5 := Lib.hid h2
  clear h1 h2 h3 T4 O4
  go_wp2_with fail
  have hba := below_alloc (Below.refl _ w5) (.cells #[.int .i64 1, .int .i64 0, .int .i64 1, .int .i64 0, .int .i64 0, .int .i64 2] 83)
  refine (same_yes v _ [(1, 0, 1), (0, 0, 2)] _ (R5.out.below (fun n hn => (N5.out n hn).2) hba) (lit_row w5) (by decide)).mono ?_
  rintro e w6 ⟨rfl, d, rfl⟩
  have T6 := Lib.hid ((T5.out.below hba).drewN d)
  have O6 : Hid (Own w.heap.size S4 w ((w5.alloc (.cells #[.int .i64 1, .int .i64 0, .int .i64 1, .int .i64 0, .int .i64 0, .int .i64 2] 83)).drewN d)) := Lib.hid ((O5.out.below (Nat.le_refl _) hba).below (Nat.le_refl _) (pw_below_drewN (Below.refl _ _) d))
  clear hba T5 O5
  generalize (w5.alloc (.cells #[.int .i64 1, .int .i64 0, .int .i64 1, .int .i64 0, .int .i64 0, .int .i64 2] 83)).drewN d = w6 at *
  go_wp2_with fail
  refine (awSize T6.out).mono ?_
  rintro e w7 ⟨rfl, rfl⟩
  go_wp2_with fail
  go_ret
  exact ⟨rfl, O6.out.bw⟩
end
end Go.Proofs.Ytbglnddjhlefnaa
