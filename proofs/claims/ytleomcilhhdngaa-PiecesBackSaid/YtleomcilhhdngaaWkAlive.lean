/- The walks of alive and of cut. -/
import Derived.Test.YtleomcilhhdngaaWkCut
import Derived.Test.YtleomcilhhdngaaWkSame
import Derived.Lib.SlBytesConst
namespace Go.Proofs.Ytleomcilhhdngaa
open Go.RowKit Go.Proofs.YtleomcilhhdngaaW.PrintWords Go.Proofs.YtleomcilhhdngaaW.PrintLast Go.Proofs.YtleomcilhhdngaaW.PrintMore
theorem lim_short (A : Option Addr) (n c : Nat) (w : World) (h : n ≤ 100000) : Calls Try.prog 10 #[.slice A n c] w fun e w' => e = .returned (.slice A n c) ∧ w = w' := by
  go_enter Try.func10, Try.ntmps10
  go_wp2
  go_ret
  exact ⟨rfl, rfl⟩
theorem lim_long (A : Option Addr) (n c : Nat) (w : World) (h : 100000 < n) (hc : n ≤ c) : Calls Try.prog 10 #[.slice A n c] w fun e w' => e = .returned (.slice A 100000 c) ∧ w = w' := by
  obtain ⟨i5, hi5, _, hs5, _⟩ := info_parts Try.info5
  have hcut := cut_to (P := Try.prog) 22 5 .i64 Try.underlying22 hi5 A n c 100000 (by omega) (by omega) hc
  rw [show (100000 : Int).toNat = 100000 from rfl] at hcut
  go_enter Try.func10, Try.ntmps10
  go_wp2
  go_ret
  exact ⟨rfl, rfl⟩
/-- What cut leaves. -/
theorem lim_any (A : Option Addr) (n c : Nat) (b : List Int) (w : World) (ok : Nat → Prop) (hb : Kd.V KB 5 w 0 ok (.slice A n c) b) : Calls Try.prog 10 #[.slice A n c] w fun e w' => e = .returned (.slice A (b.take 100000).length c) ∧ Kd.V KB 5 w 0 ok (.slice A (b.take 100000).length c) (b.take 100000) ∧ w = w' := by
  obtain ⟨rfl, hl, hF⟩ := Kd.V_at hb
  by_cases h : b.length ≤ 100000
  · rw [List.take_of_length_le h]
    exact (lim_short A _ c w h).mono fun e w' ⟨he, hw⟩ => ⟨he, hb, hw⟩
  · have h2 := Kd.F_take (m := 100000) hF (by omega)
    have hl2 : (b.take 100000).length = 100000 := by rw [List.length_take]; omega
    rw [hl2] at h2 ⊢
    refine (lim_long A _ c w (by omega) hl).mono fun e w' ⟨he, hw⟩ => ⟨he, ?_, hw⟩
    have := Kd.V_mk (e := 5) (base := 0) (c := c) (by rw [hl2]; omega) (by rw [hl2]; exact h2)
    rwa [hl2] at this

theorem alive_pcs : pcs [97, 98, 99, 100, 101] 2 = [[1, 97, 98], [0, 99, 100], [2, 101]] := by decide
theorem alive_same (w : World) (A : Option Addr) (c : Nat) (ok : Nat → Prop) (hV : Kd.V KBB 22 w 0 ok (.slice A 3 c) [[1, 97, 98], [0, 99, 100], [2, 101]]) :
    Calls Try.prog 12 #[.slice A 3 c, .slice (some ⟨w.heap.size + 1 + 1 + 1, 0, none⟩) 3 3]
      ((((w.alloc (.cells #[.int .u8 1, .int .u8 97, .int .u8 98] 5)).alloc (.cells #[.int .u8 0, .int .u8 99, .int .u8 100] 5)).alloc (.cells #[.int .u8 2, .int .u8 101] 5)).alloc
        (.cells #[.slice (some ⟨w.heap.size, 0, none⟩) 3 3, .slice (some ⟨w.heap.size + 1, 0, none⟩) 3 3, .slice (some ⟨w.heap.size + 1 + 1, 0, none⟩) 2 2] 22)) fun e w' => e = .returned (.bool true) ∧ Below w.heap.size w w' := by
  have k1 : Kd.V KB 5 (w.alloc (.cells #[.int .u8 1, .int .u8 97, .int .u8 98] 5)) 0 (fun k => False ∨ k = w.heap.size) (.slice (some ⟨w.heap.size, 0, none⟩) 3 3) [1, 97, 98] :=
    V_block (heap_alloc_new w _) (Reps_ints .u8 [1, 97, 98] _ rfl) rfl (Nat.le_refl _) (by omega)
  generalize hw1 : w.alloc (.cells #[.int .u8 1, .int .u8 97, .int .u8 98] 5) = w1 at k1 ⊢
  have s1 : w1.heap.size = w.heap.size + 1 := by rw [← hw1]; simp
  have k2 : Kd.V KB 5 (w1.alloc (.cells #[.int .u8 0, .int .u8 99, .int .u8 100] 5)) 0 (fun k => False ∨ k = w1.heap.size) (.slice (some ⟨w1.heap.size, 0, none⟩) 3 3) [0, 99, 100] :=
    V_block (heap_alloc_new w1 _) (Reps_ints .u8 [0, 99, 100] _ rfl) rfl (Nat.le_refl _) (by omega)
  have k1' := Kd.V_alloc k1 (.cells #[.int .u8 0, .int .u8 99, .int .u8 100] 5)
  generalize hw2 : w1.alloc (.cells #[.int .u8 0, .int .u8 99, .int .u8 100] 5) = w2 at k1' k2 ⊢
  have s2 : w2.heap.size = w.heap.size + 1 + 1 := by rw [← hw2]; simp [s1]
  have k3 : Kd.V KB 5 (w2.alloc (.cells #[.int .u8 2, .int .u8 101] 5)) 0 (fun k => False ∨ k = w2.heap.size) (.slice (some ⟨w2.heap.size, 0, none⟩) 2 2) [2, 101] :=
    V_block (heap_alloc_new w2 _) (Reps_ints .u8 [2, 101] _ rfl) rfl (Nat.le_refl _) (by omega)
  have k1'' := Kd.V_alloc k1' (.cells #[.int .u8 2, .int .u8 101] 5)
  have k2' := Kd.V_alloc k2 (.cells #[.int .u8 2, .int .u8 101] 5)
  generalize hw3 : w2.alloc (.cells #[.int .u8 2, .int .u8 101] 5) = w3 at k1'' k2' k3 ⊢
  have s3 : w3.heap.size = w.heap.size + 1 + 1 + 1 := by rw [← hw3]; simp [s2]
  rw [s1] at k2'
  rw [s2] at k3
  have hb3 : Below w.heap.size w w3 := by
    rw [← hw3, ← hw2, ← hw1]
    exact below_alloc (below_alloc (below_alloc (Below.refl _ _) _) _) _
  have hb4 := below_alloc hb3 (.cells #[.slice (some ⟨w.heap.size, 0, none⟩) 3 3, .slice (some ⟨w.heap.size + 1, 0, none⟩) 3 3, .slice (some ⟨w.heap.size + 1 + 1, 0, none⟩) 2 2] 22)
  have r3 : Reps (Kd.FK KBB (w3.alloc (.cells #[.slice (some ⟨w.heap.size, 0, none⟩) 3 3, .slice (some ⟨w.heap.size + 1, 0, none⟩) 3 3, .slice (some ⟨w.heap.size + 1 + 1, 0, none⟩) 2 2] 22)) (fun _ => True)) 1 [[1, 97, 98], [0, 99, 100], [2, 101]]
      [.slice (some ⟨w.heap.size, 0, none⟩) 3 3, .slice (some ⟨w.heap.size + 1, 0, none⟩) 3 3, .slice (some ⟨w.heap.size + 1 + 1, 0, none⟩) 2 2] :=
    Reps.snoc (Reps.snoc (Reps.snoc (Reps.none _ _) (FK_slice (Kd.V_mono (Kd.V_alloc k1'' _) (fun _ _ => trivial))) rfl) (FK_slice (Kd.V_mono (Kd.V_alloc k2' _) (fun _ _ => trivial))) rfl) (FK_slice (Kd.V_mono (Kd.V_alloc k3 _) (fun _ _ => trivial))) rfl
  have h4 := V_block (b := 0) (n := 3) (c := 3) (heap_alloc_new w3 (.cells #[.slice (some ⟨w.heap.size, 0, none⟩) 3 3, .slice (some ⟨w.heap.size + 1, 0, none⟩) 3 3, .slice (some ⟨w.heap.size + 1 + 1, 0, none⟩) 2 2] 22)) r3 rfl (Nat.le_refl _) (by omega)
  rw [s3] at h4
  refine (same_true A _ 3 3 c 3 [[1, 97, 98], [0, 99, 100], [2, 101]] _ _ _ (Kd.V_below hV hb4) h4).mono ?_
  rintro e w' ⟨rfl, hd⟩
  exact ⟨rfl, below_then hb4 hb4.size hd.below⟩
set_option maxHeartbeats 400000 in
theorem alive_any (w : World) : Calls Try.prog 9 #[] w fun e w' => e = .returned (.bool true) ∧ Below w.heap.size w w' := by
  have kc := fun (w : World) (C : Array Value) (n c : Nat) => Lib.run_convert_bytes_const (P := Try.prog) w 22 5 C n c Try.underlying22 Try.underlying5
  go_enter Try.func9, Try.ntmps9
  go_wp2_with fail
  have hV : ∀ fr, Kd.V KB 5 (w.alloc (.cells #[.int .u8 97, .int .u8 98, .int .u8 99, .int .u8 100, .int .u8 101] 5 fr)) 0 (fun k => False ∨ k = w.heap.size) (.slice (some ⟨w.heap.size, 0, none⟩) 5 5) [97, 98, 99, 100, 101] :=
    fun fr => V_block (heap_alloc_new w _) (Reps_ints .u8 [97, 98, 99, 100, 101] _ rfl) rfl (Nat.le_refl _) (by omega)
  have hcall := cut_main _ 5 5 [97, 98, 99, 100, 101] 2 _ _ (hV (5, 6)) (by omega) (by omega) (by simp) (by decide)
  rw [show ((2 : Nat) : Int) + 1 = 3 from rfl] at hcall
  refine hcall.mono ?_
  clear hcall hV
  rintro e w1 ⟨v, rfl, hN, hb⟩
  have HN := Lib.hid hN
  have HB := Lib.hid hb
  clear hN hb
  have hV := Kd.N_V (base' := 0) HN.out
  rw [alive_pcs] at hV
  obtain ⟨A, c, hv, hl, hF⟩ := hV
  subst hv
  have HV := Lib.hid (Kd.V_mk (e := 22) (base := 0) hl hF)
  clear hl hF
  go_wp2_with fail
  have hsame := alive_same w1 A c _ HV.out
  refine hsame.mono ?_
  rintro e w2 ⟨rfl, hd⟩
  have HD := Lib.hid hd
  clear hd hsame
  go_wp2_with fail
  go_ret
  have h1 : Below w.heap.size w w1 := below_then (below_alloc (Below.refl _ _) _) (by simp) HB.out
  exact ⟨rfl, below_then h1 h1.size HD.out⟩
end Go.Proofs.Ytleomcilhhdngaa
