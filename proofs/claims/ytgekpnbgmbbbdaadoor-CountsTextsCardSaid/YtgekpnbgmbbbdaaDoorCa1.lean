/- The walk of awake: a sum that is known. -/
import Derived.Test.YtgekpnbgmbbbdaaDoorCt2
namespace Go.Proofs.YtgekpnbgmbbbdaaDoor
open Go Go.RowKit Go.Proofs.YtgekpnbgmbbbdaaDoorW.PrintWords Go.Proofs.YtgekpnbgmbbbdaaDoorW.PrintLast Go.Proofs.YtgekpnbgmbbbdaaDoorW.PrintMore
theorem ofF_1 : ofF 2 [0, 1] = (3, 0) := by decide
theorem ofF_2 : ofF 2 [1, 2] = (6, 0) := by decide
theorem chk_36 : chkF 2 [3, 6] = 0 := by decide
theorem chk_14 : chkF 2 [14] = 0 := by decide
theorem sumR_36 : sumR 2 [3, 6] = (14, 0) := by
  unfold sumR
  rw [if_pos chk_36]
  decide
theorem elsI_14 : elsI 14 4 = [1, 2, 3] := by decide
theorem textR_14 : textR 2 14 = ([123, 49, 44, 50, 44, 62, 50, 125], 0) := by
  have e1 : Lib.decDigits 1 = [49] := by rw [Lib.decDigits]; rfl
  have e2 : Lib.decDigits 2 = [50] := by rw [Lib.decDigits]; rfl
  unfold textR
  rw [if_pos chk_14]
  show (textL 2 (elsI 14 4), (0 : Int)) = _
  rw [elsI_14]
  simp [textL, wordsB, wordB, wordL, e1, e2, Lib.join, List.intercalate]
theorem V_ints (k : IntKind) (e : Nat) (xs : List Int) (W : World) (cs : Array Value) (hcs : cs.toList = xs.map (.int k ·)) (h : xs.length ≤ 9223372036854775807) :
    Kd.V (Kd.int k) e (W.alloc (.cells cs e)) 0 (fun k => False ∨ k = W.heap.size) (.slice (some ⟨W.heap.size, 0, none⟩) xs.length xs.length) xs :=
  V_block (heap_alloc_new W _) (Reps_ints k xs _ hcs) (by simp) (Nat.le_refl _) h
set_option maxRecDepth 100000 in
set_option maxHeartbeats 1000000 in
/-- Four known calls, one behind the other. -/
theorem awake_gen (a b c : Int) (S : ByteArray)
    (h1 : ∀ (W : World) (n : Nat), n = W.heap.size → Calls Tryd.prog 11 #[.int .i64 2, .slice (some ⟨n, 0, none⟩) 2 2] (W.alloc (.cells #[.int .i64 0, .int .i64 1] 3)) fun e w' => e = .returned (.tuple #[.int .u64 a, .int .i64 0]) ∧ w' = W.alloc (.cells #[.int .i64 0, .int .i64 1] 3))
    (h2 : ∀ (W : World) (n : Nat), n = W.heap.size → Calls Tryd.prog 11 #[.int .i64 2, .slice (some ⟨n, 0, none⟩) 2 2] (W.alloc (.cells #[.int .i64 1, .int .i64 2] 3)) fun e w' => e = .returned (.tuple #[.int .u64 b, .int .i64 0]) ∧ w' = W.alloc (.cells #[.int .i64 1, .int .i64 2] 3))
    (h3 : ∀ (W : World) (n : Nat), n = W.heap.size → Calls Tryd.prog 17 #[.int .i64 2, .slice (some ⟨n, 0, none⟩) 2 2] (W.alloc (.cells #[.int .u64 a, .int .u64 b] 24)) fun e w' => e = .returned (.tuple #[.int .u64 c, .int .i64 0]) ∧ Below W.heap.size (W.alloc (.cells #[.int .u64 a, .int .u64 b] 24)) w')
    (h4 : ∀ W : World, Calls Tryd.prog 28 #[.int .i64 2, .int .u64 c] W fun e w' => e = .returned (.tuple #[.string S, .int .i64 0]) ∧ Below W.heap.size W w')
    (hS : (S.toList == [123, 49, 44, 50, 44, 62, 50, 125]) = true) (w : World) :
    Calls Tryd.prog 16 #[] w fun e w' => e = .returned (.bool true) ∧ Below w.heap.size w w' := by
  have H1 := Lib.hid h1
  have H2 := Lib.hid h2
  have H3 := Lib.hid h3
  have H4 := Lib.hid h4
  have HS := Lib.hid hS
  clear h1 h2 h3 h4 hS
  go_enter Tryd.func16, Tryd.ntmps16
  go_wp2_with fail
  refine (H1.out _ _ rfl).mono ?_
  rintro e w1 ⟨rfl, rfl⟩
  go_wp2_with fail
  refine (H2.out _ _ (by simp only [World.size_alloc])).mono ?_
  rintro e w1 ⟨rfl, rfl⟩
  go_wp2_with fail
  refine (H3.out _ _ (by simp only [World.size_alloc])).mono ?_
  rintro e w1 ⟨rfl, hb1⟩
  have HB1 := Lib.hid hb1
  clear hb1
  go_wp2_with fail
  refine (H4.out _).mono ?_
  rintro e w2 ⟨rfl, hb2⟩
  have HB2 := Lib.hid hb2
  clear hb2 H1 H2 H3 H4
  go_wp2_with fail
  go_ret
  refine ⟨by show Ending.returned (Value.bool (S.toList == [123, 49, 44, 50, 44, 62, 50, 125])) = _; rw [HS.out], ?_⟩
  have b1 := below_alloc (below_alloc (below_alloc (Below.refl w.heap.size w) (.cells #[.int .i64 0, .int .i64 1] 3)) (.cells #[.int .i64 1, .int .i64 2] 3)) (.cells #[.int .u64 a, .int .u64 b] 24)
  have b2 := b1.trans (HB1.out.mono (by simp only [World.size_alloc]; omega))
  exact b2.trans (HB2.out.mono b2.size)
/-- A set's sums that are known. -/
theorem awake_w (w : World) : Calls Tryd.prog 16 #[] w fun e w' => e = .returned (.bool true) ∧ Below w.heap.size w w' := by
  refine awake_gen 3 6 14 ⟨#[123, 49, 44, 50, 44, 62, 50, 125]⟩ ?_ ?_ ?_ ?_ (by simp) w
  · rintro W n rfl
    exact of_w 2 _ _ 2 2 [0, 1] _ (V_ints .i64 3 [0, 1] W _ rfl (by decide)) (by decide) (3, 0) ofF_1.symm
  · rintro W n rfl
    exact of_w 2 _ _ 2 2 [1, 2] _ (V_ints .i64 3 [1, 2] W _ rfl (by decide)) (by decide) (6, 0) ofF_2.symm
  · rintro W n rfl
    refine (callsIn_wide.1 (sum_in 2 _ _ 2 2 [3, 6] _ (V_ints .u64 24 [3, 6] W _ rfl (by decide)) (by decide) (by decide) (14, 0) sumR_36.symm)).mono ?_
    rintro e w' ⟨rfl, hb⟩
    exact ⟨rfl, hb.mono (by simp only [World.size_alloc]; omega)⟩
  · intro W
    exact text_w 2 14 W (by decide) ([123, 49, 44, 50, 44, 62, 50, 125], 0) textR_14.symm
#print axioms awake_w
end Go.Proofs.YtgekpnbgmbbbdaaDoor
