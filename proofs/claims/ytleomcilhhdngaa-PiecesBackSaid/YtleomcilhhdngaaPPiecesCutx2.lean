-- PRINTED BY print.sh 35421559b90ae4d0a3588c463048766b98c2df88dd9212a6774a882060cdf62d: not written by this session
import Derived.Test.YtleomcilhhdngaaPPiecesCutx0
namespace Go.Proofs.Ytleomcilhhdngaa.PPiecesCut
open Go.RowKit Go.Proofs.YtleomcilhhdngaaW.PrintWords Go.Proofs.YtleomcilhhdngaaW.PrintLast Go.Proofs.YtleomcilhhdngaaW.PrintMore
attribute [local go_sem] max2_int min2_int max_two min_two max_three min_three max_four min_four   -- for this text's walks alone
set_option linter.unusedVariables false
set_option linter.unusedSimpArgs false

/-! ### milestoneref19_Cut: function 11 -/
mutual
def milestoneref19_Cut.j0 : Nat → List Int → Int → Bool → Option ((List (List Int)) × Int)
  | 0, _, _, _ => none
  | k + 1, x0, x1, x16 => if x16 = true then (some (([] : List (List Int)), 1)) else (if (x0.length : Int) > 16777216 then (some (([] : List (List Int)), 2)) else (if (wrap64 (x1 - 1)) = 0 then (none) else (if (wrap64 (Int.tdiv (wrap64 ((wrap64 ((x0.length : Int) + x1)) - 2)) (wrap64 (x1 - 1)))) = 0 then (milestoneref19_Cut.j1 k x0 x1 1) else (milestoneref19_Cut.j1 k x0 x1 (wrap64 (Int.tdiv (wrap64 ((wrap64 ((x0.length : Int) + x1)) - 2)) (wrap64 (x1 - 1))))))))
def milestoneref19_Cut.j1 : Nat → List Int → Int → Int → Option ((List (List Int)) × Int)
  | 0, _, _, _ => none
  | k + 1, x0, x1, x6 => if x6 > 65536 then (some (([] : List (List Int)), 3)) else (milestoneref19_Cut.l0 k x0 x1 x6 ([] : List (List Int)) 0)
def milestoneref19_Cut.l0 : Nat → List Int → Int → Int → List (List Int) → Int → Option ((List (List Int)) × Int)
  | 0, _, _, _, _, _ => none
  | k + 1, x0, x1, x6, x7, x8 => if x8 < x6 then (if (wrap64 ((wrap64 (x8 + 1)) * (wrap64 (x1 - 1)))) > (x0.length : Int) then (milestoneref19_Cut.j3 k x0 x1 x6 x7 x8 (x0.length : Int)) else (milestoneref19_Cut.j3 k x0 x1 x6 x7 x8 (wrap64 ((wrap64 (x8 + 1)) * (wrap64 (x1 - 1)))))) else (some (x7, 0))
def milestoneref19_Cut.j3 : Nat → List Int → Int → Int → List (List Int) → Int → Int → Option ((List (List Int)) × Int)
  | 0, _, _, _, _, _, _ => none
  | k + 1, x0, x1, x6, x7, x8, x9 => if x8 = 0 then (if x8 = (wrap64 (x6 - 1)) then ((some (([1 + 2] : List Int) : List Int)).bind fun y164 => (if 0 ≤ (wrap64 (x8 * (wrap64 (x1 - 1)))) then (if (wrap64 (x8 * (wrap64 (x1 - 1)))) ≤ x9 then (if x9 ≤ (x0.length : Int) then (if y164.length + ((x0.take (x9 : Int).toNat).drop ((wrap64 (x8 * (wrap64 (x1 - 1)))) : Int).toNat).length < 140737488355328 then (if x7.length < 5864062014805 then (milestoneref19_Cut.l0 k x0 x1 x6 (x7 ++ [(y164 ++ ((x0.take (x9 : Int).toNat).drop ((wrap64 (x8 * (wrap64 (x1 - 1)))) : Int).toNat))]) (wrap64 (x8 + 1))) else (none)) else (none)) else (none)) else (none)) else (none))) else ((some (([1] : List Int) : List Int)).bind fun y174 => (if 0 ≤ (wrap64 (x8 * (wrap64 (x1 - 1)))) then (if (wrap64 (x8 * (wrap64 (x1 - 1)))) ≤ x9 then (if x9 ≤ (x0.length : Int) then (if y174.length + ((x0.take (x9 : Int).toNat).drop ((wrap64 (x8 * (wrap64 (x1 - 1)))) : Int).toNat).length < 140737488355328 then (if x7.length < 5864062014805 then (milestoneref19_Cut.l0 k x0 x1 x6 (x7 ++ [(y174 ++ ((x0.take (x9 : Int).toNat).drop ((wrap64 (x8 * (wrap64 (x1 - 1)))) : Int).toNat))]) (wrap64 (x8 + 1))) else (none)) else (none)) else (none)) else (none)) else (none)))) else (if x8 = (wrap64 (x6 - 1)) then ((some (([0 + 2] : List Int) : List Int)).bind fun y184 => (if 0 ≤ (wrap64 (x8 * (wrap64 (x1 - 1)))) then (if (wrap64 (x8 * (wrap64 (x1 - 1)))) ≤ x9 then (if x9 ≤ (x0.length : Int) then (if y184.length + ((x0.take (x9 : Int).toNat).drop ((wrap64 (x8 * (wrap64 (x1 - 1)))) : Int).toNat).length < 140737488355328 then (if x7.length < 5864062014805 then (milestoneref19_Cut.l0 k x0 x1 x6 (x7 ++ [(y184 ++ ((x0.take (x9 : Int).toNat).drop ((wrap64 (x8 * (wrap64 (x1 - 1)))) : Int).toNat))]) (wrap64 (x8 + 1))) else (none)) else (none)) else (none)) else (none)) else (none))) else ((some (([0] : List Int) : List Int)).bind fun y194 => (if 0 ≤ (wrap64 (x8 * (wrap64 (x1 - 1)))) then (if (wrap64 (x8 * (wrap64 (x1 - 1)))) ≤ x9 then (if x9 ≤ (x0.length : Int) then (if y194.length + ((x0.take (x9 : Int).toNat).drop ((wrap64 (x8 * (wrap64 (x1 - 1)))) : Int).toNat).length < 140737488355328 then (if x7.length < 5864062014805 then (milestoneref19_Cut.l0 k x0 x1 x6 (x7 ++ [(y194 ++ ((x0.take (x9 : Int).toNat).drop ((wrap64 (x8 * (wrap64 (x1 - 1)))) : Int).toNat))]) (wrap64 (x8 + 1))) else (none)) else (none)) else (none)) else (none)) else (none))))
end
def milestoneref19_Cut.f (k : Nat) (l0 : List Int) (a1 : Int) : Option ((List (List Int)) × Int) := if a1 < 2 then (milestoneref19_Cut.j0 k l0 a1 true) else (milestoneref19_Cut.j0 k l0 a1 (decide (a1 > 65536)))
theorem milestoneref19_Cut.mono_l : ∀ k, (∀ y0 y1 y2, LeO (milestoneref19_Cut.j0 k y0 y1 y2) (milestoneref19_Cut.j0 (k + 1) y0 y1 y2)) ∧ (∀ y0 y1 y2, LeO (milestoneref19_Cut.j1 k y0 y1 y2) (milestoneref19_Cut.j1 (k + 1) y0 y1 y2)) ∧ (∀ y0 y1 y2 y3 y4, LeO (milestoneref19_Cut.l0 k y0 y1 y2 y3 y4) (milestoneref19_Cut.l0 (k + 1) y0 y1 y2 y3 y4)) ∧ (∀ y0 y1 y2 y3 y4 y5, LeO (milestoneref19_Cut.j3 k y0 y1 y2 y3 y4 y5) (milestoneref19_Cut.j3 (k + 1) y0 y1 y2 y3 y4 y5))
  | 0 => ⟨fun _ _ _ r h => by simp [milestoneref19_Cut.j0] at h, fun _ _ _ r h => by simp [milestoneref19_Cut.j1] at h, fun _ _ _ _ _ r h => by simp [milestoneref19_Cut.l0] at h, fun _ _ _ _ _ _ r h => by simp [milestoneref19_Cut.j3] at h⟩
  | k + 1 => by
    obtain ⟨ih0, ih1, ih2, ih3⟩ := milestoneref19_Cut.mono_l k
    refine ⟨?_, ?_, ?_, ?_⟩
    · intro y0 y1 y2
      unfold milestoneref19_Cut.j0
      repeat' first
      | (with_reducible exact ih0 _ _ _)
      | (with_reducible exact ih1 _ _ _)
      | (with_reducible exact ih2 _ _ _ _ _)
      | (with_reducible exact ih3 _ _ _ _ _ _)
      | (with_reducible exact LeO.refl _)
      | (with_reducible exact LeO.none _)
      | (with_reducible refine LeO.ite ?_ ?_)
      | (with_reducible refine LeO.bind ?_ (fun _ => ?_))
      | exact ih0 _ _ _
      | exact ih1 _ _ _
      | exact ih2 _ _ _ _ _
      | exact ih3 _ _ _ _ _ _
      | exact LeO.none _
      | refine LeO.ite ?_ ?_
      | refine LeO.bind ?_ (fun _ => ?_)
    · intro y0 y1 y2
      unfold milestoneref19_Cut.j1
      repeat' first
      | (with_reducible exact ih0 _ _ _)
      | (with_reducible exact ih1 _ _ _)
      | (with_reducible exact ih2 _ _ _ _ _)
      | (with_reducible exact ih3 _ _ _ _ _ _)
      | (with_reducible exact LeO.refl _)
      | (with_reducible exact LeO.none _)
      | (with_reducible refine LeO.ite ?_ ?_)
      | (with_reducible refine LeO.bind ?_ (fun _ => ?_))
      | exact ih0 _ _ _
      | exact ih1 _ _ _
      | exact ih2 _ _ _ _ _
      | exact ih3 _ _ _ _ _ _
      | exact LeO.none _
      | refine LeO.ite ?_ ?_
      | refine LeO.bind ?_ (fun _ => ?_)
    · intro y0 y1 y2 y3 y4
      unfold milestoneref19_Cut.l0
      repeat' first
      | (with_reducible exact ih0 _ _ _)
      | (with_reducible exact ih1 _ _ _)
      | (with_reducible exact ih2 _ _ _ _ _)
      | (with_reducible exact ih3 _ _ _ _ _ _)
      | (with_reducible exact LeO.refl _)
      | (with_reducible exact LeO.none _)
      | (with_reducible refine LeO.ite ?_ ?_)
      | (with_reducible refine LeO.bind ?_ (fun _ => ?_))
      | exact ih0 _ _ _
      | exact ih1 _ _ _
      | exact ih2 _ _ _ _ _
      | exact ih3 _ _ _ _ _ _
      | exact LeO.none _
      | refine LeO.ite ?_ ?_
      | refine LeO.bind ?_ (fun _ => ?_)
    · intro y0 y1 y2 y3 y4 y5
      unfold milestoneref19_Cut.j3
      repeat' first
      | (with_reducible exact ih0 _ _ _)
      | (with_reducible exact ih1 _ _ _)
      | (with_reducible exact ih2 _ _ _ _ _)
      | (with_reducible exact ih3 _ _ _ _ _ _)
      | (with_reducible exact LeO.refl _)
      | (with_reducible exact LeO.none _)
      | (with_reducible refine LeO.ite ?_ ?_)
      | (with_reducible refine LeO.bind ?_ (fun _ => ?_))
      | exact ih0 _ _ _
      | exact ih1 _ _ _
      | exact ih2 _ _ _ _ _
      | exact ih3 _ _ _ _ _ _
      | exact LeO.none _
      | refine LeO.ite ?_ ?_
      | refine LeO.bind ?_ (fun _ => ?_)
theorem milestoneref19_Cut.mono : ∀ a0 a1 k, LeO (milestoneref19_Cut.f k a0 a1) (milestoneref19_Cut.f (k + 1) a0 a1) := by
  intro a0 a1 k
  obtain ⟨ih0, ih1, ih2, ih3⟩ := milestoneref19_Cut.mono_l k
  unfold milestoneref19_Cut.f
  repeat' first
      | (with_reducible exact ih0 _ _ _)
      | (with_reducible exact ih1 _ _ _)
      | (with_reducible exact ih2 _ _ _ _ _)
      | (with_reducible exact ih3 _ _ _ _ _ _)
      | (with_reducible exact LeO.refl _)
      | (with_reducible exact LeO.none _)
      | (with_reducible refine LeO.ite ?_ ?_)
      | (with_reducible refine LeO.bind ?_ (fun _ => ?_))
      | exact ih0 _ _ _
      | exact ih1 _ _ _
      | exact ih2 _ _ _ _ _
      | exact ih3 _ _ _ _ _ _
      | exact LeO.none _
      | refine LeO.ite ?_ ?_
      | refine LeO.bind ?_ (fun _ => ?_)
set_option maxHeartbeats 8000000 in
set_option maxRecDepth 100000 in
theorem milestoneref19_Cut.calls (k : Nat) (A0 : Option Addr) (c0 : Nat) (l0 : List Int) (a1 : Int) (r1 : List (List Int)) (r2 : Int) (w : World) (hr0 : Kd.C (Kd.int .u8) w A0 l0.length l0) (hc0 : l0.length ≤ c0) (h : milestoneref19_Cut.f k l0 a1 = some (r1, r2)) :
    Calls Try.prog 11 #[.slice A0 l0.length c0, .int .i64 a1] w fun e w' => ∃ v0_ : Value, e = .returned (.tuple #[v0_, .int .i64 r2]) ∧ Kd.S (Kd.slice 5 (Kd.int .u8)) 22 w' w.heap.size (fun _ => True) v0_ r1 ∧ Below w.heap.size w w' := by
  have HR0 := Aside0.mk hr0
  have HC0 := Aside0.mk hc0
  clear hr0 hc0
  have HB := Aside0.mk (Below.refl w.heap.size w)
  have H : (if a1 < 2 then (milestoneref19_Cut.j0 k l0 a1 true) else (milestoneref19_Cut.j0 k l0 a1 (decide (a1 > 65536)))) = some (r1, r2) := h
  clear h
  have HC3 := Aside0.mk H
  clear H
  go_enter Try.func11, Try.ntmps11
  go_upto_region 1 with (fail)
  go_cut [16] (fun v16 wc => ∃ (kq : Nat) (x16_2 : Bool), v16 = .bool x16_2 ∧ Aside0 (milestoneref19_Cut.j0 kq l0 a1 x16_2 = some (r1, r2)) ∧ Aside0 (kq ≤ k) ∧ Aside0 (Below w.heap.size w wc))
  case first =>
    have H := HC3.out
    clear HC3
    by_cases c4 : a1 < 2
    · rw [if_pos c4] at H
      have c4b0 : decide (a1 < 2) = true := decide_eq_true c4
      clear c4
      (first | rw [c4b0] | (simp only [i64_w, i32_w]; rw [c4b0]) | skip)
      have H' := Aside0.mk H
      clear H
      go_wp2
      go_meet
      case rel => exact ⟨_, (true), (by first | rfl | (simp; done) | (simp [*]; done)), H', ⟨by first | omega | exact Nat.le_refl _⟩, ⟨by repeat (first | (with_reducible first | exact HB.out | apply below_alloc | apply pw_below_drewN | apply below_drew1) | exact HB.out)⟩⟩
    · rw [if_neg c4] at H
      have c4b0 : decide (a1 < 2) = false := decide_eq_false c4
      clear c4
      (first | rw [c4b0] | (simp only [i64_w, i32_w]; rw [c4b0]) | skip)
      have H' := Aside0.mk H
      clear H
      go_wp2
      go_meet
      case rel => exact ⟨_, (decide (a1 > 65536)), (by first | rfl | (simp; done) | (simp [*]; done)), H', ⟨by first | omega | exact Nat.le_refl _⟩, ⟨by repeat (first | (with_reducible first | exact HB.out | apply below_alloc | apply pw_below_drewN | apply below_drew1) | exact HB.out)⟩⟩
  case rest =>
    clear HC3
    try clear c1
    try clear p2
    try clear c4
    try clear c4b0
    obtain ⟨kq, x16_2, rfl, HA, HJ2, HB⟩ := hcut
    cases kq with
    | zero => exact absurd HA.out (by simp [milestoneref19_Cut.j0])
    | succ kj2 =>
      have H := HA.out
      clear HA
      simp only [milestoneref19_Cut.j0] at H
      by_cases c5 : x16_2 = true
      · subst c5
        have H1 : (some (([] : List (List Int)), 1)) = some (r1, r2) := by rw [if_pos rfl] at H; exact H
        clear H
        have H := H1
        clear H1
        simp only [Option.some.injEq, Prod.mk.injEq] at H
        obtain ⟨rfl, rfl⟩ := H
        go_wp2
        go_ret2
        exact ⟨_, by first | rfl | (simp [errW_none, errW_some] <;> rfl) | (simp [*, errW_none, errW_some] <;> rfl), by first | exact Kd.S_nil _ _ _ _ _ | exact Kd.N_nil _ _ _ _ _ | exact Kd.V_nil _ _ _ _ _ | exact Kd.Q_nil _ _ _ _ _ | exact Kd.R_nil _ _ _ _ _, by repeat (first | (with_reducible first | exact HB.out | apply below_alloc | apply pw_below_drewN | apply below_drew1) | exact HB.out)⟩
      · replace c5 := Bool.eq_false_iff.mpr c5
        subst c5
        have H1 : (if (l0.length : Int) > 16777216 then (some (([] : List (List Int)), 2)) else (if (wrap64 (a1 - 1)) = 0 then (none) else (if (wrap64 (Int.tdiv (wrap64 ((wrap64 ((l0.length : Int) + a1)) - 2)) (wrap64 (a1 - 1)))) = 0 then (milestoneref19_Cut.j1 kj2 l0 a1 1) else (milestoneref19_Cut.j1 kj2 l0 a1 (wrap64 (Int.tdiv (wrap64 ((wrap64 ((l0.length : Int) + a1)) - 2)) (wrap64 (a1 - 1)))))))) = some (r1, r2) := by rw [if_neg (show ¬ (false = true) by decide)] at H; exact H
        clear H
        have H := H1
        clear H1
        by_cases c6 : (l0.length : Int) > 16777216
        · rw [if_pos c6] at H
          have c6b0 : decide (16777216 < (l0.length : Int)) = true := decide_eq_true c6
          have c6b1 : decide (16777216 < l0.length) = true := decide_eq_true (by omega)
          clear c6
          simp only [Option.some.injEq, Prod.mk.injEq] at H
          obtain ⟨rfl, rfl⟩ := H
          go_wp2
          go_ret2
          exact ⟨_, by first | rfl | (simp [errW_none, errW_some] <;> rfl) | (simp [*, errW_none, errW_some] <;> rfl), by first | exact Kd.S_nil _ _ _ _ _ | exact Kd.N_nil _ _ _ _ _ | exact Kd.V_nil _ _ _ _ _ | exact Kd.Q_nil _ _ _ _ _ | exact Kd.R_nil _ _ _ _ _, by repeat (first | (with_reducible first | exact HB.out | apply below_alloc | apply pw_below_drewN | apply below_drew1) | exact HB.out)⟩
        · rw [if_neg c6] at H
          have c6b0 : decide (16777216 < (l0.length : Int)) = false := decide_eq_false c6
          have c6b1 : decide (16777216 < l0.length) = false := decide_eq_false (by omega)
          clear c6
          by_cases c7 : (wrap64 (a1 - 1)) = 0
          · rw [if_pos c7] at H
            exact absurd H (by simp)
          · rw [if_neg c7] at H
            have c7b0 : ((wrap64 (a1 - 1)) == 0) = false := beq_eq_false_iff_ne.mpr c7
            have c7b1 : ((wrap64 (a1 - 1)) != 0) = true := bne_iff_ne.mpr c7
            have HC8 := Aside0.mk H
            clear H
            go_upto_if 29 with (fail)
            go_cut [6] (fun v6 wc => ∃ (kq : Nat) (x6_7 : Int), v6 = .int .i64 x6_7 ∧ Aside0 (milestoneref19_Cut.j1 kq l0 a1 x6_7 = some (r1, r2)) ∧ Aside0 (kq ≤ kj2) ∧ Aside0 (Below w.heap.size w wc))
            case first =>
              have H := HC8.out
              clear HC8
              by_cases c9 : (wrap64 (Int.tdiv (wrap64 ((wrap64 ((l0.length : Int) + a1)) - 2)) (wrap64 (a1 - 1)))) = 0
              · rw [if_pos c9] at H
                have c9b0 : ((wrap64 (Int.tdiv (wrap64 ((wrap64 ((l0.length : Int) + a1)) - 2)) (wrap64 (a1 - 1)))) == 0) = true := beq_iff_eq.mpr c9
                have c9b1 : ((wrap64 (Int.tdiv (wrap64 ((wrap64 ((l0.length : Int) + a1)) - 2)) (wrap64 (a1 - 1)))) != 0) = false := bne_eq_false_iff_eq.mpr c9
                clear c9
                (first | rw [c9b0] | (simp only [i64_w, i32_w]; rw [c9b0]) | skip)
                have H' := Aside0.mk H
                clear H
                go_wp2
                go_meet
                case rel => exact ⟨_, (1), (by first | rfl | (simp; done) | (simp [*]; done)), H', ⟨by have := HJ2.out; first | omega | exact Nat.le_refl _⟩, ⟨by repeat (first | (with_reducible first | exact HB.out | apply below_alloc | apply pw_below_drewN | apply below_drew1) | exact HB.out)⟩⟩
              · rw [if_neg c9] at H
                have c9b0 : ((wrap64 (Int.tdiv (wrap64 ((wrap64 ((l0.length : Int) + a1)) - 2)) (wrap64 (a1 - 1)))) == 0) = false := beq_eq_false_iff_ne.mpr c9
                have c9b1 : ((wrap64 (Int.tdiv (wrap64 ((wrap64 ((l0.length : Int) + a1)) - 2)) (wrap64 (a1 - 1)))) != 0) = true := bne_iff_ne.mpr c9
                (first | rw [c9b0] | (simp only [i64_w, i32_w]; rw [c9b0]) | skip)
                have H' := Aside0.mk H
                clear H
                go_wp2
                go_meet
                case rel => exact ⟨_, (wrap64 (Int.tdiv (wrap64 ((wrap64 ((l0.length : Int) + a1)) - 2)) (wrap64 (a1 - 1)))), (by first | rfl | (simp; done) | (simp [*]; done)), H', ⟨by have := HJ2.out; first | omega | exact Nat.le_refl _⟩, ⟨by repeat (first | (with_reducible first | exact HB.out | apply below_alloc | apply pw_below_drewN | apply below_drew1) | exact HB.out)⟩⟩
            case rest =>
              clear HC8
              try clear c1
              try clear p2
              try clear c4
              try clear c4b0
              try clear c5
              try clear c6
              try clear c6b0
              try clear c6b1
              try clear p6
              try clear c7
              try clear c7b0
              try clear c7b1
              try clear c9
              try clear c9b0
              try clear c9b1
              try clear p2
              obtain ⟨kq, x6_7, rfl, HA, HJ7, HB⟩ := hcut
              cases kq with
              | zero => exact absurd HA.out (by simp [milestoneref19_Cut.j1])
              | succ kj7 =>
                have H := HA.out
                clear HA
                simp only [milestoneref19_Cut.j1] at H
                by_cases c10 : x6_7 > 65536
                · rw [if_pos c10] at H
                  have c10b0 : decide (65536 < x6_7) = true := decide_eq_true c10
                  clear c10
                  simp only [Option.some.injEq, Prod.mk.injEq] at H
                  obtain ⟨rfl, rfl⟩ := H
                  go_wp2
                  go_ret2
                  exact ⟨_, by first | rfl | (simp [errW_none, errW_some] <;> rfl) | (simp [*, errW_none, errW_some] <;> rfl), by first | exact Kd.S_nil _ _ _ _ _ | exact Kd.N_nil _ _ _ _ _ | exact Kd.V_nil _ _ _ _ _ | exact Kd.Q_nil _ _ _ _ _ | exact Kd.R_nil _ _ _ _ _, by repeat (first | (with_reducible first | exact HB.out | apply below_alloc | apply pw_below_drewN | apply below_drew1) | exact HB.out)⟩
                · rw [if_neg c10] at H
                  have c10b0 : decide (65536 < x6_7) = false := decide_eq_false c10
                  clear c10
                  have H' := Aside0.mk H
                  clear H
                  go_wp2
                  go_loopg [7, 8] kj7 (fun kq v7 v8 w' => ∃ (x7_3 : List (List Int)) (x8_3 : Int), v8 = .int .i64 x8_3 ∧ Aside0 (milestoneref19_Cut.l0 kq l0 a1 x6_7 x7_3 x8_3 = some (r1, r2)) ∧ Aside0 (kq ≤ kj7) ∧ Aside0 (Kd.S (Kd.slice 5 (Kd.int .u8)) 22 w' w.heap.size (fun _ => True) v7 x7_3) ∧ Aside0 (Below w.heap.size w w'))
                  case atStart => exact ⟨(([] : List (List Int))), (0), (by first | rfl | (simp; done) | (simp [*]; done)), H', ⟨Nat.le_refl _⟩, ⟨by first | exact Kd.S_nil _ _ _ _ _ | exact Kd.N_nil _ _ _ _ _ | exact Kd.V_nil _ _ _ _ _ | exact Kd.Q_nil _ _ _ _ _ | exact Kd.R_nil _ _ _ _ _⟩, ⟨by repeat (first | (with_reducible first | exact HB.out | apply below_alloc | apply pw_below_drewN | apply below_drew1) | exact HB.out)⟩⟩
                  case round =>
                    clear H'
                    try clear c1
                    try clear p2
                    try clear c4
                    try clear c4b0
                    try clear c5
                    try clear c6
                    try clear c6b0
                    try clear c6b1
                    try clear p6
                    try clear c7
                    try clear c7b0
                    try clear c7b1
                    try clear c9
                    try clear c9b0
                    try clear c9b1
                    try clear c10
                    try clear c10b0
                    try clear p2
                    try clear p6
                    obtain ⟨x7_3, x8_3, rfl, HA, HK3, HO_7, HB⟩ := hrel
                    cases gk with
                    | zero => exact absurd HA.out (by simp [milestoneref19_Cut.l0])
                    | succ k3 =>
                      have H := HA.out
                      clear HA
                      simp only [milestoneref19_Cut.l0] at H
                      by_cases c11 : x8_3 < x6_7
                      · rw [if_pos c11] at H
                        have c11b0 : decide (x8_3 < x6_7) = true := decide_eq_true c11
                        clear c11
                        have HC12 := Aside0.mk H
                        clear H
                        go_upto_if 45 with (fail)
                        go_cut [9] (fun v9 wc => ∃ (kq : Nat) (x9_11 : Int), v9 = .int .i64 x9_11 ∧ Aside0 (milestoneref19_Cut.j3 kq l0 a1 x6_7 x7_3 x8_3 x9_11 = some (r1, r2)) ∧ Aside0 (kq ≤ k3) ∧ Aside0 (Kd.S (Kd.slice 5 (Kd.int .u8)) 22 wc w.heap.size (fun _ => True) u7 x7_3) ∧ Aside0 (Below w.heap.size w wc))
                        case first =>
                          have H := HC12.out
                          clear HC12
                          by_cases c13 : (wrap64 ((wrap64 (x8_3 + 1)) * (wrap64 (a1 - 1)))) > (l0.length : Int)
                          · rw [if_pos c13] at H
                            have c13b0 : decide ((l0.length : Int) < (wrap64 ((wrap64 (x8_3 + 1)) * (wrap64 (a1 - 1))))) = true := decide_eq_true c13
                            clear c13
                            (first | rw [c13b0] | (simp only [i64_w, i32_w]; rw [c13b0]) | skip)
                            have H' := Aside0.mk H
                            clear H
                            go_wp2
                            go_meet
                            case rel => exact ⟨_, ((l0.length : Int)), (by first | rfl | (simp; done) | (simp [*]; done)), H', ⟨by have := HJ2.out; have := HJ7.out; have := HK3.out; first | omega | exact Nat.le_refl _⟩, ⟨by (with_reducible repeat (first | apply Kd.S_alloc | apply Kd.S_drewN | apply Kd.S_drew)); exact HO_7.out⟩, ⟨by repeat (first | (with_reducible first | exact HB.out | apply below_alloc | apply pw_below_drewN | apply below_drew1) | exact HB.out)⟩⟩
                          · rw [if_neg c13] at H
                            have c13b0 : decide ((l0.length : Int) < (wrap64 ((wrap64 (x8_3 + 1)) * (wrap64 (a1 - 1))))) = false := decide_eq_false c13
                            clear c13
                            (first | rw [c13b0] | (simp only [i64_w, i32_w]; rw [c13b0]) | skip)
                            have H' := Aside0.mk H
                            clear H
                            go_wp2
                            go_meet
                            case rel => exact ⟨_, (wrap64 ((wrap64 (x8_3 + 1)) * (wrap64 (a1 - 1)))), (by first | rfl | (simp; done) | (simp [*]; done)), H', ⟨by have := HJ2.out; have := HJ7.out; have := HK3.out; first | omega | exact Nat.le_refl _⟩, ⟨by (with_reducible repeat (first | apply Kd.S_alloc | apply Kd.S_drewN | apply Kd.S_drew)); exact HO_7.out⟩, ⟨by repeat (first | (with_reducible first | exact HB.out | apply below_alloc | apply pw_below_drewN | apply below_drew1) | exact HB.out)⟩⟩
                        case rest =>
                          clear HC12
                          try clear c1
                          try clear p2
                          try clear c4
                          try clear c4b0
                          try clear c5
                          try clear c6
                          try clear c6b0
                          try clear c6b1
                          try clear p6
                          try clear c7
                          try clear c7b0
                          try clear c7b1
                          try clear c9
                          try clear c9b0
                          try clear c9b1
                          try clear c10
                          try clear c10b0
                          try clear c11
                          try clear c11b0
                          try clear c13
                          try clear c13b0
                          try clear p2
                          try clear p6
                          obtain ⟨kq, x9_11, rfl, HA, HJ11, HO_7, HB⟩ := hcut
                          cases kq with
                          | zero => exact absurd HA.out (by simp [milestoneref19_Cut.j3])
                          | succ kj11 =>
                            have H := HA.out
                            clear HA
                            simp only [milestoneref19_Cut.j3] at H
                            by_cases c14 : x8_3 = 0
                            · rw [if_pos c14] at H
                              have c14b0 : (x8_3 == 0) = true := beq_iff_eq.mpr c14
                              have c14b1 : (x8_3 != 0) = false := bne_eq_false_iff_eq.mpr c14
                              clear c14
                              by_cases c15 : x8_3 = (wrap64 (x6_7 - 1))
                              · rw [if_pos c15] at H
                                have c15b0 : (x8_3 == (wrap64 (x6_7 - 1))) = true := beq_iff_eq.mpr c15
                                have c15b1 : (x8_3 != (wrap64 (x6_7 - 1))) = false := bne_eq_false_iff_eq.mpr c15
                                clear c15
                                obtain ⟨y164, hy164⟩ : ∃ y_ : List Int, y_ = (([1 + 2] : List Int)) := ⟨_, rfl⟩
                                replace H : (if 0 ≤ (wrap64 (x8_3 * (wrap64 (a1 - 1)))) then (if (wrap64 (x8_3 * (wrap64 (a1 - 1)))) ≤ x9_11 then (if x9_11 ≤ (l0.length : Int) then (if y164.length + ((l0.take (x9_11 : Int).toNat).drop ((wrap64 (x8_3 * (wrap64 (a1 - 1)))) : Int).toNat).length < 140737488355328 then (if x7_3.length < 5864062014805 then (milestoneref19_Cut.l0 kj11 l0 a1 x6_7 (x7_3 ++ [(y164 ++ ((l0.take (x9_11 : Int).toNat).drop ((wrap64 (x8_3 * (wrap64 (a1 - 1)))) : Int).toNat))]) (wrap64 (x8_3 + 1))) else (none)) else (none)) else (none)) else (none)) else (none)) = some (r1, r2) := by first | (rw [hy164]; with_reducible exact H) | (have H2_ := (Option.bind_some _ _).symm.trans H; rw [hy164]; with_reducible exact H2_) | (have H2_ := (Option.bind_some _ _).symm.trans H; with_reducible exact H2_) | with_reducible exact H | (rw [hy164]; exact H) | exact H
                                have Ny164 := Aside0.mk hy164
                                clear hy164
                                obtain ⟨ji16, hji16⟩ : ∃ j_ : Int, (wrap64 (x8_3 * (wrap64 (a1 - 1)))) = j_ := ⟨_, rfl⟩
                                replace H : (if 0 ≤ (ji16) then (if (ji16) ≤ x9_11 then (if x9_11 ≤ (l0.length : Int) then (if y164.length + ((l0.take (x9_11 : Int).toNat).drop ((ji16) : Int).toNat).length < 140737488355328 then (if x7_3.length < 5864062014805 then (milestoneref19_Cut.l0 kj11 l0 a1 x6_7 (x7_3 ++ [(y164 ++ ((l0.take (x9_11 : Int).toNat).drop ((ji16) : Int).toNat))]) (wrap64 (x8_3 + 1))) else (none)) else (none)) else (none)) else (none)) else (none)) = some (r1, r2) := by first | (rw [hji16] at H; exact H) | (simp only [hji16] at H ⊢; exact H)
                                have hji16w : (IntKind.i64.wrap (x8_3 * (wrap64 (a1 - 1)))) = ji16 := (i64_w _).trans hji16
                                by_cases c17 : 0 ≤ (ji16)
                                · rw [if_pos c17] at H
                                  have c17b0 := eq_true c17
                                  have c17b1 : decide (0 ≤ (ji16)) = true := decide_eq_true c17
                                  clear c17
                                  by_cases c18 : (ji16) ≤ x9_11
                                  · rw [if_pos c18] at H
                                    have c18b0 := eq_true c18
                                    have c18b1 : decide ((ji16) ≤ x9_11) = true := decide_eq_true c18
                                    clear c18
                                    by_cases c19 : x9_11 ≤ (l0.length : Int)
                                    · rw [if_pos c19] at H
                                      have c19b0 := eq_true c19
                                      have c19b1 : decide (x9_11 ≤ (l0.length : Int)) = true := decide_eq_true c19
                                      clear c19
                                      by_cases c20 : y164.length + ((l0.take (x9_11 : Int).toNat).drop ((ji16) : Int).toNat).length < 140737488355328
                                      · rw [if_pos c20] at H
                                        have LMc20 := Aside0.mk c20
                                        clear c20
                                        obtain ⟨y168, hy168⟩ : ∃ y_ : List Int, y_ = (y164 ++ ((l0.take (x9_11 : Int).toNat).drop ((ji16) : Int).toNat)) := ⟨_, rfl⟩
                                        replace H : (if x7_3.length < 5864062014805 then (milestoneref19_Cut.l0 kj11 l0 a1 x6_7 (x7_3 ++ [y168]) (wrap64 (x8_3 + 1))) else (none)) = some (r1, r2) := by first | (rw [hy168]; with_reducible exact H) | (have H2_ := (Option.bind_some _ _).symm.trans H; rw [hy168]; with_reducible exact H2_) | (have H2_ := (Option.bind_some _ _).symm.trans H; with_reducible exact H2_) | with_reducible exact H | (rw [hy168]; exact H) | exact H
                                        have Ny168 := Aside0.mk hy168
                                        clear hy168
                                        by_cases c21 : x7_3.length < 5864062014805
                                        · rw [if_pos c21] at H
                                          have LMc21 := Aside0.mk c21
                                          clear c21
                                          obtain ⟨y171, hy171⟩ : ∃ y_ : List (List Int), y_ = (x7_3 ++ [y168]) := ⟨_, rfl⟩
                                          replace H : (milestoneref19_Cut.l0 kj11 l0 a1 x6_7 y171 (wrap64 (x8_3 + 1))) = some (r1, r2) := by first | (rw [hy171]; with_reducible exact H) | (have H2_ := (Option.bind_some _ _).symm.trans H; rw [hy171]; with_reducible exact H2_) | (have H2_ := (Option.bind_some _ _).symm.trans H; with_reducible exact H2_) | with_reducible exact H | (rw [hy171]; exact H) | exact H
                                          have Ny171 := Aside0.mk hy171
                                          clear hy171
                                          have H' := Aside0.mk H
                                          clear H
                                          go_wp2_with (first | ((with_reducible refine gate_dst (N := 58) rfl ?_); refine Kd.R_lit (Kd.int .u8) _ 5 ?hg (N := 58) ?hd (xs := ([1 + 2] : List Int)) (inner := [.int .u8 (1 + 2)]) (ok := fun _ => True) (okp := fun _ => True) ?hr ?hp (fun _ hk => hk) trivial (Below.refl _ _) (Nat.le_refl _) (by simp) ?_; (case hd => rfl); (case hg => rfl); (case hr => first | (go_simp; done) | (go_simp; rfl)); (case hp => exact (Reps.one (show Kd.M (Kd.int .u8) _ _ _ (1 + 2) [.int .u8 (1 + 2)] from rfl) (Reps.none _ _))); intro v165 w22 ho23 hb hg_ hnew_; clear hg_ hnew_; (first | rw [← Ny164.out] at ho23 | (simp only [Int.reduceToNat] at ho23; rw [← Ny164.out] at ho23)); have n0_ := Aside0.mk (Kd.S_elder' (by (with_reducible repeat (first | apply Kd.S_alloc | apply Kd.S_drewN | apply Kd.S_drew)); exact HO_7.out) (Kd.R_base ho23) hb); have n1_ := Aside0.mk (Kd.R_lower ho23 (below_size (by repeat (first | (with_reducible first | exact HB.out | apply below_alloc | apply pw_below_drewN | apply below_drew1) | exact HB.out)))); have n2_ := Aside0.mk (below_step (by repeat (first | (with_reducible first | exact HB.out | apply below_alloc | apply pw_below_drewN | apply below_drew1) | exact HB.out)) hb); clear HO_7; clear HB; have HO_7 := n0_; have HO166 := n1_; have HB := n2_; clear n0_ n1_ n2_; clear hb ho23; obtain ⟨i024, hi024, _, hsz24, _⟩ := info_parts info5; obtain ⟨A24, hcut24, hA24, hC24⟩ := print_mid_of (P := Try.prog) (Value.int .u8) 0 22 5 .i64 .i64 Try.underlying22 hi024 hsz24 A0 c0 l0 (ji16) x9_11 (of_decide_eq_true (by first | (with_reducible assumption) | assumption)) (by first | omega | exact of_decide_eq_true (by first | (with_reducible assumption) | assumption)) (of_decide_eq_true (by first | (with_reducible assumption) | assumption)) HC0.out; have HR167 := Aside0.mk (Kd.C_of_reads (h1 := fun _ => rfl) (hA24 _ (Kd.reads_of_C HR0.out))); have HC167 := Aside0.mk hC24; clear hA24 hC24 hi024 hsz24) | ((with_reducible refine gate_builtin (b := .append) (xs := #[.tmp 58, .tmp 65]) rfl ?_); at_builtin; refine Kd.R_append_rows (Kd.int .u8) (w0 := w) w.heap.size rfl (.tmp 58) (.tmp 65) 22 5 (.int .u8 0) 1 rfl Try.underlying22 info5 rfl (by decide) (by omega) v165 y164 ((l0.take (x9_11 : Int).toNat).drop ((ji16) : Int).toNat) _ _ _ (fun _ => True) (fun _ => False) rfl rfl ?aO ?aR (fun _ _ h => h) (fun _ h => h.elim) ?aF ?aB ?aS ?aL ?_; (case aR => first | (rw [← show ((l0.take (x9_11 : Int).toNat).drop ((ji16) : Int).toNat).length = (x9_11.toNat - (ji16).toNat) from (by rw [List.length_drop, List.length_take]; have h_ : (x9_11 : Int) ≤ (l0.length : Int) := of_decide_eq_true (by first | (with_reducible assumption) | assumption); omega)]; repeat (first | exact (Kd.C_below HR167.out HB.out) | (with_reducible refine Kd.C_alloc ?_ _) | (with_reducible refine Kd.C_drewN ?_ _) | (with_reducible refine Kd.C_drew ?_))) | (repeat (first | exact (Kd.C_below HR167.out HB.out) | (with_reducible refine Kd.C_alloc ?_ _) | (with_reducible refine Kd.C_drewN ?_ _) | (with_reducible refine Kd.C_drew ?_)))); (case aB => exact (by repeat (first | (with_reducible first | exact HB.out | apply below_alloc | apply pw_below_drewN | apply below_drew1) | exact HB.out))); (case aF => exact (fun _ _ => trivial)); (case aO => exact (by (with_reducible repeat (first | apply Kd.R_alloc | apply Kd.R_drewN | apply Kd.R_drew)); exact HO166.out)); (case aS => exact (below_size (by repeat (first | (with_reducible first | exact HB.out | apply below_alloc | apply pw_below_drewN | apply below_drew1) | exact HB.out)))); (case aL => have := LMc20.out; have hlx_ := (show ((l0.take (x9_11 : Int).toNat).drop ((ji16) : Int).toNat).length = (x9_11.toNat - (ji16).toNat) from (by rw [List.length_drop, List.length_take]; have h_ : (x9_11 : Int) ≤ (l0.length : Int) := of_decide_eq_true (by first | (with_reducible assumption) | assumption); omega)); omega); intro v169 w25 ho hb hg hat; rw [← Ny168.out] at ho; have n0_ := Aside0.mk (Kd.S_after (ok := (fun _ => True)) (by (with_reducible repeat (first | apply Kd.S_alloc | apply Kd.S_drewN | apply Kd.S_drew)); exact HO_7.out) hg hat); have n1_ := Aside0.mk (hb); have n2_ := Aside0.mk (ho); clear HO_7; clear HB; clear HO166; have HO_7 := n0_; have HB := n1_; have HO170 := n2_; clear n0_ n1_ n2_; clear ho hb hg hat; obtain ⟨Ao27, co27, eo27⟩ := Kd.R_slice HO170.out; subst eo27) | ((with_reducible refine gate_builtin (b := .append) (xs := #[.tmp 56, .tmp 67]) rfl ?_); at_builtin; refine Kd.S_append (Kd.slice 5 (Kd.int .u8)) (w0 := w) w.heap.size rfl (.tmp 56) (.tmp 67) 23 22 (.slice none 0 0) 24 rfl Try.underlying23 info22 rfl (by decide) (by omega) u7 x7_3 y168 [.slice Ao27 y168.length co27] (fun _ => True) (fun k_ => some k_ = (.slice Ao27 y168.length co27 : Value).ownBlock) rfl rfl ?aP (fun k_ hk_ => ((Kd.R_mono (ok' := fun k_ => ((fun _ => True)) k_ ∧ some k_ ≠ (u7 : Value).ownBlock) (Kd.R_apart' (HO170.out) (Kd.S_typed HO_7.out) (by decide)) (fun k_ hk => ⟨trivial, hk.2⟩))).1 k_ hk_.symm) ?aF ?aO ?aB ?aS ?aL ?_; (case aP => exact Kd.M_row (Kd.R_mono (Kd.R_tight rfl (Kd.R_mono (ok' := fun k_ => ((fun _ => True)) k_ ∧ some k_ ≠ (u7 : Value).ownBlock) (Kd.R_apart' (HO170.out) (Kd.S_typed HO_7.out) (by decide)) (fun k_ hk => ⟨trivial, hk.2⟩))) (fun _ h_ => h_))); (case aB => exact (by repeat (first | (with_reducible first | exact HB.out | apply below_alloc | apply pw_below_drewN | apply below_drew1) | exact HB.out))); (case aF => exact (fun _ _ => trivial)); (case aO => exact (by (with_reducible repeat (first | apply Kd.S_alloc | apply Kd.S_drewN | apply Kd.S_drew)); exact Kd.S_mono HO_7.out (fun k_ hk => ⟨trivial, fun e_ => hk.2 e_⟩))); (case aS => exact (below_size (by repeat (first | (with_reducible first | exact HB.out | apply below_alloc | apply pw_below_drewN | apply below_drew1) | exact HB.out)))); (case aL => have := LMc21.out; omega); intro v172 w26 ho hb hg hat; rw [← Ny171.out] at ho; have n0_ := Aside0.mk (hb); have n1_ := Aside0.mk (ho); clear HB; clear HO_7; clear HO170; have HB := n0_; have HO173 := n1_; clear n0_ n1_; clear ho hb hg hat))
                                          go_roundg kj11
                                          case measure => have := HJ2.out; have := HJ7.out; have := HK3.out; have := HJ11.out; omega
                                          case rel => exact ⟨(y171), (wrap64 (x8_3 + 1)), (by first | rfl | (simp; done) | (simp [*]; done)), H', ⟨by have := HJ2.out; have := HJ7.out; have := HK3.out; have := HJ11.out; omega⟩, ⟨by (with_reducible repeat (first | apply Kd.S_alloc | apply Kd.S_drewN | apply Kd.S_drew)); exact HO173.out⟩, ⟨by repeat (first | (with_reducible first | exact HB.out | apply below_alloc | apply pw_below_drewN | apply below_drew1) | exact HB.out)⟩⟩
                                        · rw [if_neg c21] at H
                                          exact absurd H (by simp)
                                      · rw [if_neg c20] at H
                                        exact absurd H (by simp)
                                    · rw [if_neg c19] at H
                                      exact absurd H (by simp)
                                  · rw [if_neg c18] at H
                                    exact absurd H (by simp)
                                · rw [if_neg c17] at H
                                  exact absurd H (by simp)
                              · rw [if_neg c15] at H
                                have c15b0 : (x8_3 == (wrap64 (x6_7 - 1))) = false := beq_eq_false_iff_ne.mpr c15
                                have c15b1 : (x8_3 != (wrap64 (x6_7 - 1))) = true := bne_iff_ne.mpr c15
                                obtain ⟨y174, hy174⟩ : ∃ y_ : List Int, y_ = (([1] : List Int)) := ⟨_, rfl⟩
                                replace H : (if 0 ≤ (wrap64 (x8_3 * (wrap64 (a1 - 1)))) then (if (wrap64 (x8_3 * (wrap64 (a1 - 1)))) ≤ x9_11 then (if x9_11 ≤ (l0.length : Int) then (if y174.length + ((l0.take (x9_11 : Int).toNat).drop ((wrap64 (x8_3 * (wrap64 (a1 - 1)))) : Int).toNat).length < 140737488355328 then (if x7_3.length < 5864062014805 then (milestoneref19_Cut.l0 kj11 l0 a1 x6_7 (x7_3 ++ [(y174 ++ ((l0.take (x9_11 : Int).toNat).drop ((wrap64 (x8_3 * (wrap64 (a1 - 1)))) : Int).toNat))]) (wrap64 (x8_3 + 1))) else (none)) else (none)) else (none)) else (none)) else (none)) = some (r1, r2) := by first | (rw [hy174]; with_reducible exact H) | (have H2_ := (Option.bind_some _ _).symm.trans H; rw [hy174]; with_reducible exact H2_) | (have H2_ := (Option.bind_some _ _).symm.trans H; with_reducible exact H2_) | with_reducible exact H | (rw [hy174]; exact H) | exact H
                                have Ny174 := Aside0.mk hy174
                                clear hy174
                                obtain ⟨ji28, hji28⟩ : ∃ j_ : Int, (wrap64 (x8_3 * (wrap64 (a1 - 1)))) = j_ := ⟨_, rfl⟩
                                replace H : (if 0 ≤ (ji28) then (if (ji28) ≤ x9_11 then (if x9_11 ≤ (l0.length : Int) then (if y174.length + ((l0.take (x9_11 : Int).toNat).drop ((ji28) : Int).toNat).length < 140737488355328 then (if x7_3.length < 5864062014805 then (milestoneref19_Cut.l0 kj11 l0 a1 x6_7 (x7_3 ++ [(y174 ++ ((l0.take (x9_11 : Int).toNat).drop ((ji28) : Int).toNat))]) (wrap64 (x8_3 + 1))) else (none)) else (none)) else (none)) else (none)) else (none)) = some (r1, r2) := by first | (rw [hji28] at H; exact H) | (simp only [hji28] at H ⊢; exact H)
                                have hji28w : (IntKind.i64.wrap (x8_3 * (wrap64 (a1 - 1)))) = ji28 := (i64_w _).trans hji28
                                by_cases c29 : 0 ≤ (ji28)
                                · rw [if_pos c29] at H
                                  have c29b0 := eq_true c29
                                  have c29b1 : decide (0 ≤ (ji28)) = true := decide_eq_true c29
                                  clear c29
                                  by_cases c30 : (ji28) ≤ x9_11
                                  · rw [if_pos c30] at H
                                    have c30b0 := eq_true c30
                                    have c30b1 : decide ((ji28) ≤ x9_11) = true := decide_eq_true c30
                                    clear c30
                                    by_cases c31 : x9_11 ≤ (l0.length : Int)
                                    · rw [if_pos c31] at H
                                      have c31b0 := eq_true c31
                                      have c31b1 : decide (x9_11 ≤ (l0.length : Int)) = true := decide_eq_true c31
                                      clear c31
                                      by_cases c32 : y174.length + ((l0.take (x9_11 : Int).toNat).drop ((ji28) : Int).toNat).length < 140737488355328
                                      · rw [if_pos c32] at H
                                        have LMc32 := Aside0.mk c32
                                        clear c32
                                        obtain ⟨y178, hy178⟩ : ∃ y_ : List Int, y_ = (y174 ++ ((l0.take (x9_11 : Int).toNat).drop ((ji28) : Int).toNat)) := ⟨_, rfl⟩
                                        replace H : (if x7_3.length < 5864062014805 then (milestoneref19_Cut.l0 kj11 l0 a1 x6_7 (x7_3 ++ [y178]) (wrap64 (x8_3 + 1))) else (none)) = some (r1, r2) := by first | (rw [hy178]; with_reducible exact H) | (have H2_ := (Option.bind_some _ _).symm.trans H; rw [hy178]; with_reducible exact H2_) | (have H2_ := (Option.bind_some _ _).symm.trans H; with_reducible exact H2_) | with_reducible exact H | (rw [hy178]; exact H) | exact H
                                        have Ny178 := Aside0.mk hy178
                                        clear hy178
                                        by_cases c33 : x7_3.length < 5864062014805
                                        · rw [if_pos c33] at H
                                          have LMc33 := Aside0.mk c33
                                          clear c33
                                          obtain ⟨y181, hy181⟩ : ∃ y_ : List (List Int), y_ = (x7_3 ++ [y178]) := ⟨_, rfl⟩
                                          replace H : (milestoneref19_Cut.l0 kj11 l0 a1 x6_7 y181 (wrap64 (x8_3 + 1))) = some (r1, r2) := by first | (rw [hy181]; with_reducible exact H) | (have H2_ := (Option.bind_some _ _).symm.trans H; rw [hy181]; with_reducible exact H2_) | (have H2_ := (Option.bind_some _ _).symm.trans H; with_reducible exact H2_) | with_reducible exact H | (rw [hy181]; exact H) | exact H
                                          have Ny181 := Aside0.mk hy181
                                          clear hy181
                                          have H' := Aside0.mk H
                                          clear H
                                          go_wp2_with (first | ((with_reducible refine gate_dst (N := 58) rfl ?_); refine Kd.R_lit (Kd.int .u8) _ 5 ?hg (N := 58) ?hd (xs := ([1] : List Int)) (inner := [.int .u8 1]) (ok := fun _ => True) (okp := fun _ => True) ?hr ?hp (fun _ hk => hk) trivial (Below.refl _ _) (Nat.le_refl _) (by simp) ?_; (case hd => rfl); (case hg => rfl); (case hr => first | (go_simp; done) | (go_simp; rfl)); (case hp => exact (Reps.one (show Kd.M (Kd.int .u8) _ _ _ 1 [.int .u8 1] from rfl) (Reps.none _ _))); intro v175 w34 ho35 hb hg_ hnew_; clear hg_ hnew_; (first | rw [← Ny174.out] at ho35 | (simp only [Int.reduceToNat] at ho35; rw [← Ny174.out] at ho35)); have n0_ := Aside0.mk (Kd.S_elder' (by (with_reducible repeat (first | apply Kd.S_alloc | apply Kd.S_drewN | apply Kd.S_drew)); exact HO_7.out) (Kd.R_base ho35) hb); have n1_ := Aside0.mk (Kd.R_lower ho35 (below_size (by repeat (first | (with_reducible first | exact HB.out | apply below_alloc | apply pw_below_drewN | apply below_drew1) | exact HB.out)))); have n2_ := Aside0.mk (below_step (by repeat (first | (with_reducible first | exact HB.out | apply below_alloc | apply pw_below_drewN | apply below_drew1) | exact HB.out)) hb); clear HO_7; clear HB; have HO_7 := n0_; have HO176 := n1_; have HB := n2_; clear n0_ n1_ n2_; clear hb ho35; obtain ⟨i036, hi036, _, hsz36, _⟩ := info_parts info5; obtain ⟨A36, hcut36, hA36, hC36⟩ := print_mid_of (P := Try.prog) (Value.int .u8) 0 22 5 .i64 .i64 Try.underlying22 hi036 hsz36 A0 c0 l0 (ji28) x9_11 (of_decide_eq_true (by first | (with_reducible assumption) | assumption)) (by first | omega | exact of_decide_eq_true (by first | (with_reducible assumption) | assumption)) (of_decide_eq_true (by first | (with_reducible assumption) | assumption)) HC0.out; have HR177 := Aside0.mk (Kd.C_of_reads (h1 := fun _ => rfl) (hA36 _ (Kd.reads_of_C HR0.out))); have HC177 := Aside0.mk hC36; clear hA36 hC36 hi036 hsz36) | ((with_reducible refine gate_builtin (b := .append) (xs := #[.tmp 58, .tmp 65]) rfl ?_); at_builtin; refine Kd.R_append_rows (Kd.int .u8) (w0 := w) w.heap.size rfl (.tmp 58) (.tmp 65) 22 5 (.int .u8 0) 1 rfl Try.underlying22 info5 rfl (by decide) (by omega) v175 y174 ((l0.take (x9_11 : Int).toNat).drop ((ji28) : Int).toNat) _ _ _ (fun _ => True) (fun _ => False) rfl rfl ?aO ?aR (fun _ _ h => h) (fun _ h => h.elim) ?aF ?aB ?aS ?aL ?_; (case aR => first | (rw [← show ((l0.take (x9_11 : Int).toNat).drop ((ji28) : Int).toNat).length = (x9_11.toNat - (ji28).toNat) from (by rw [List.length_drop, List.length_take]; have h_ : (x9_11 : Int) ≤ (l0.length : Int) := of_decide_eq_true (by first | (with_reducible assumption) | assumption); omega)]; repeat (first | exact (Kd.C_below HR177.out HB.out) | (with_reducible refine Kd.C_alloc ?_ _) | (with_reducible refine Kd.C_drewN ?_ _) | (with_reducible refine Kd.C_drew ?_))) | (repeat (first | exact (Kd.C_below HR177.out HB.out) | (with_reducible refine Kd.C_alloc ?_ _) | (with_reducible refine Kd.C_drewN ?_ _) | (with_reducible refine Kd.C_drew ?_)))); (case aB => exact (by repeat (first | (with_reducible first | exact HB.out | apply below_alloc | apply pw_below_drewN | apply below_drew1) | exact HB.out))); (case aF => exact (fun _ _ => trivial)); (case aO => exact (by (with_reducible repeat (first | apply Kd.R_alloc | apply Kd.R_drewN | apply Kd.R_drew)); exact HO176.out)); (case aS => exact (below_size (by repeat (first | (with_reducible first | exact HB.out | apply below_alloc | apply pw_below_drewN | apply below_drew1) | exact HB.out)))); (case aL => have := LMc32.out; have hlx_ := (show ((l0.take (x9_11 : Int).toNat).drop ((ji28) : Int).toNat).length = (x9_11.toNat - (ji28).toNat) from (by rw [List.length_drop, List.length_take]; have h_ : (x9_11 : Int) ≤ (l0.length : Int) := of_decide_eq_true (by first | (with_reducible assumption) | assumption); omega)); omega); intro v179 w37 ho hb hg hat; rw [← Ny178.out] at ho; have n0_ := Aside0.mk (Kd.S_after (ok := (fun _ => True)) (by (with_reducible repeat (first | apply Kd.S_alloc | apply Kd.S_drewN | apply Kd.S_drew)); exact HO_7.out) hg hat); have n1_ := Aside0.mk (hb); have n2_ := Aside0.mk (ho); clear HO_7; clear HB; clear HO176; have HO_7 := n0_; have HB := n1_; have HO180 := n2_; clear n0_ n1_ n2_; clear ho hb hg hat; obtain ⟨Ao39, co39, eo39⟩ := Kd.R_slice HO180.out; subst eo39) | ((with_reducible refine gate_builtin (b := .append) (xs := #[.tmp 56, .tmp 67]) rfl ?_); at_builtin; refine Kd.S_append (Kd.slice 5 (Kd.int .u8)) (w0 := w) w.heap.size rfl (.tmp 56) (.tmp 67) 23 22 (.slice none 0 0) 24 rfl Try.underlying23 info22 rfl (by decide) (by omega) u7 x7_3 y178 [.slice Ao39 y178.length co39] (fun _ => True) (fun k_ => some k_ = (.slice Ao39 y178.length co39 : Value).ownBlock) rfl rfl ?aP (fun k_ hk_ => ((Kd.R_mono (ok' := fun k_ => ((fun _ => True)) k_ ∧ some k_ ≠ (u7 : Value).ownBlock) (Kd.R_apart' (HO180.out) (Kd.S_typed HO_7.out) (by decide)) (fun k_ hk => ⟨trivial, hk.2⟩))).1 k_ hk_.symm) ?aF ?aO ?aB ?aS ?aL ?_; (case aP => exact Kd.M_row (Kd.R_mono (Kd.R_tight rfl (Kd.R_mono (ok' := fun k_ => ((fun _ => True)) k_ ∧ some k_ ≠ (u7 : Value).ownBlock) (Kd.R_apart' (HO180.out) (Kd.S_typed HO_7.out) (by decide)) (fun k_ hk => ⟨trivial, hk.2⟩))) (fun _ h_ => h_))); (case aB => exact (by repeat (first | (with_reducible first | exact HB.out | apply below_alloc | apply pw_below_drewN | apply below_drew1) | exact HB.out))); (case aF => exact (fun _ _ => trivial)); (case aO => exact (by (with_reducible repeat (first | apply Kd.S_alloc | apply Kd.S_drewN | apply Kd.S_drew)); exact Kd.S_mono HO_7.out (fun k_ hk => ⟨trivial, fun e_ => hk.2 e_⟩))); (case aS => exact (below_size (by repeat (first | (with_reducible first | exact HB.out | apply below_alloc | apply pw_below_drewN | apply below_drew1) | exact HB.out)))); (case aL => have := LMc33.out; omega); intro v182 w38 ho hb hg hat; rw [← Ny181.out] at ho; have n0_ := Aside0.mk (hb); have n1_ := Aside0.mk (ho); clear HB; clear HO_7; clear HO180; have HB := n0_; have HO183 := n1_; clear n0_ n1_; clear ho hb hg hat))
                                          go_roundg kj11
                                          case measure => have := HJ2.out; have := HJ7.out; have := HK3.out; have := HJ11.out; omega
                                          case rel => exact ⟨(y181), (wrap64 (x8_3 + 1)), (by first | rfl | (simp; done) | (simp [*]; done)), H', ⟨by have := HJ2.out; have := HJ7.out; have := HK3.out; have := HJ11.out; omega⟩, ⟨by (with_reducible repeat (first | apply Kd.S_alloc | apply Kd.S_drewN | apply Kd.S_drew)); exact HO183.out⟩, ⟨by repeat (first | (with_reducible first | exact HB.out | apply below_alloc | apply pw_below_drewN | apply below_drew1) | exact HB.out)⟩⟩
                                        · rw [if_neg c33] at H
                                          exact absurd H (by simp)
                                      · rw [if_neg c32] at H
                                        exact absurd H (by simp)
                                    · rw [if_neg c31] at H
                                      exact absurd H (by simp)
                                  · rw [if_neg c30] at H
                                    exact absurd H (by simp)
                                · rw [if_neg c29] at H
                                  exact absurd H (by simp)
                            · rw [if_neg c14] at H
                              have c14b0 : (x8_3 == 0) = false := beq_eq_false_iff_ne.mpr c14
                              have c14b1 : (x8_3 != 0) = true := bne_iff_ne.mpr c14
                              by_cases c40 : x8_3 = (wrap64 (x6_7 - 1))
                              · rw [if_pos c40] at H
                                have c40b0 : (x8_3 == (wrap64 (x6_7 - 1))) = true := beq_iff_eq.mpr c40
                                have c40b1 : (x8_3 != (wrap64 (x6_7 - 1))) = false := bne_eq_false_iff_eq.mpr c40
                                clear c40
                                obtain ⟨y184, hy184⟩ : ∃ y_ : List Int, y_ = (([0 + 2] : List Int)) := ⟨_, rfl⟩
                                replace H : (if 0 ≤ (wrap64 (x8_3 * (wrap64 (a1 - 1)))) then (if (wrap64 (x8_3 * (wrap64 (a1 - 1)))) ≤ x9_11 then (if x9_11 ≤ (l0.length : Int) then (if y184.length + ((l0.take (x9_11 : Int).toNat).drop ((wrap64 (x8_3 * (wrap64 (a1 - 1)))) : Int).toNat).length < 140737488355328 then (if x7_3.length < 5864062014805 then (milestoneref19_Cut.l0 kj11 l0 a1 x6_7 (x7_3 ++ [(y184 ++ ((l0.take (x9_11 : Int).toNat).drop ((wrap64 (x8_3 * (wrap64 (a1 - 1)))) : Int).toNat))]) (wrap64 (x8_3 + 1))) else (none)) else (none)) else (none)) else (none)) else (none)) = some (r1, r2) := by first | (rw [hy184]; with_reducible exact H) | (have H2_ := (Option.bind_some _ _).symm.trans H; rw [hy184]; with_reducible exact H2_) | (have H2_ := (Option.bind_some _ _).symm.trans H; with_reducible exact H2_) | with_reducible exact H | (rw [hy184]; exact H) | exact H
                                have Ny184 := Aside0.mk hy184
                                clear hy184
                                obtain ⟨ji41, hji41⟩ : ∃ j_ : Int, (wrap64 (x8_3 * (wrap64 (a1 - 1)))) = j_ := ⟨_, rfl⟩
                                replace H : (if 0 ≤ (ji41) then (if (ji41) ≤ x9_11 then (if x9_11 ≤ (l0.length : Int) then (if y184.length + ((l0.take (x9_11 : Int).toNat).drop ((ji41) : Int).toNat).length < 140737488355328 then (if x7_3.length < 5864062014805 then (milestoneref19_Cut.l0 kj11 l0 a1 x6_7 (x7_3 ++ [(y184 ++ ((l0.take (x9_11 : Int).toNat).drop ((ji41) : Int).toNat))]) (wrap64 (x8_3 + 1))) else (none)) else (none)) else (none)) else (none)) else (none)) = some (r1, r2) := by first | (rw [hji41] at H; exact H) | (simp only [hji41] at H ⊢; exact H)
                                have hji41w : (IntKind.i64.wrap (x8_3 * (wrap64 (a1 - 1)))) = ji41 := (i64_w _).trans hji41
                                by_cases c42 : 0 ≤ (ji41)
                                · rw [if_pos c42] at H
                                  have c42b0 := eq_true c42
                                  have c42b1 : decide (0 ≤ (ji41)) = true := decide_eq_true c42
                                  clear c42
                                  by_cases c43 : (ji41) ≤ x9_11
                                  · rw [if_pos c43] at H
                                    have c43b0 := eq_true c43
                                    have c43b1 : decide ((ji41) ≤ x9_11) = true := decide_eq_true c43
                                    clear c43
                                    by_cases c44 : x9_11 ≤ (l0.length : Int)
                                    · rw [if_pos c44] at H
                                      have c44b0 := eq_true c44
                                      have c44b1 : decide (x9_11 ≤ (l0.length : Int)) = true := decide_eq_true c44
                                      clear c44
                                      by_cases c45 : y184.length + ((l0.take (x9_11 : Int).toNat).drop ((ji41) : Int).toNat).length < 140737488355328
                                      · rw [if_pos c45] at H
                                        have LMc45 := Aside0.mk c45
                                        clear c45
                                        obtain ⟨y188, hy188⟩ : ∃ y_ : List Int, y_ = (y184 ++ ((l0.take (x9_11 : Int).toNat).drop ((ji41) : Int).toNat)) := ⟨_, rfl⟩
                                        replace H : (if x7_3.length < 5864062014805 then (milestoneref19_Cut.l0 kj11 l0 a1 x6_7 (x7_3 ++ [y188]) (wrap64 (x8_3 + 1))) else (none)) = some (r1, r2) := by first | (rw [hy188]; with_reducible exact H) | (have H2_ := (Option.bind_some _ _).symm.trans H; rw [hy188]; with_reducible exact H2_) | (have H2_ := (Option.bind_some _ _).symm.trans H; with_reducible exact H2_) | with_reducible exact H | (rw [hy188]; exact H) | exact H
                                        have Ny188 := Aside0.mk hy188
                                        clear hy188
                                        by_cases c46 : x7_3.length < 5864062014805
                                        · rw [if_pos c46] at H
                                          have LMc46 := Aside0.mk c46
                                          clear c46
                                          obtain ⟨y191, hy191⟩ : ∃ y_ : List (List Int), y_ = (x7_3 ++ [y188]) := ⟨_, rfl⟩
                                          replace H : (milestoneref19_Cut.l0 kj11 l0 a1 x6_7 y191 (wrap64 (x8_3 + 1))) = some (r1, r2) := by first | (rw [hy191]; with_reducible exact H) | (have H2_ := (Option.bind_some _ _).symm.trans H; rw [hy191]; with_reducible exact H2_) | (have H2_ := (Option.bind_some _ _).symm.trans H; with_reducible exact H2_) | with_reducible exact H | (rw [hy191]; exact H) | exact H
                                          have Ny191 := Aside0.mk hy191
                                          clear hy191
                                          have H' := Aside0.mk H
                                          clear H
                                          go_wp2_with (first | ((with_reducible refine gate_dst (N := 58) rfl ?_); refine Kd.R_lit (Kd.int .u8) _ 5 ?hg (N := 58) ?hd (xs := ([0 + 2] : List Int)) (inner := [.int .u8 (0 + 2)]) (ok := fun _ => True) (okp := fun _ => True) ?hr ?hp (fun _ hk => hk) trivial (Below.refl _ _) (Nat.le_refl _) (by simp) ?_; (case hd => rfl); (case hg => rfl); (case hr => first | (go_simp; done) | (go_simp; rfl)); (case hp => exact (Reps.one (show Kd.M (Kd.int .u8) _ _ _ (0 + 2) [.int .u8 (0 + 2)] from rfl) (Reps.none _ _))); intro v185 w47 ho48 hb hg_ hnew_; clear hg_ hnew_; (first | rw [← Ny184.out] at ho48 | (simp only [Int.reduceToNat] at ho48; rw [← Ny184.out] at ho48)); have n0_ := Aside0.mk (Kd.S_elder' (by (with_reducible repeat (first | apply Kd.S_alloc | apply Kd.S_drewN | apply Kd.S_drew)); exact HO_7.out) (Kd.R_base ho48) hb); have n1_ := Aside0.mk (Kd.R_lower ho48 (below_size (by repeat (first | (with_reducible first | exact HB.out | apply below_alloc | apply pw_below_drewN | apply below_drew1) | exact HB.out)))); have n2_ := Aside0.mk (below_step (by repeat (first | (with_reducible first | exact HB.out | apply below_alloc | apply pw_below_drewN | apply below_drew1) | exact HB.out)) hb); clear HO_7; clear HB; have HO_7 := n0_; have HO186 := n1_; have HB := n2_; clear n0_ n1_ n2_; clear hb ho48; obtain ⟨i049, hi049, _, hsz49, _⟩ := info_parts info5; obtain ⟨A49, hcut49, hA49, hC49⟩ := print_mid_of (P := Try.prog) (Value.int .u8) 0 22 5 .i64 .i64 Try.underlying22 hi049 hsz49 A0 c0 l0 (ji41) x9_11 (of_decide_eq_true (by first | (with_reducible assumption) | assumption)) (by first | omega | exact of_decide_eq_true (by first | (with_reducible assumption) | assumption)) (of_decide_eq_true (by first | (with_reducible assumption) | assumption)) HC0.out; have HR187 := Aside0.mk (Kd.C_of_reads (h1 := fun _ => rfl) (hA49 _ (Kd.reads_of_C HR0.out))); have HC187 := Aside0.mk hC49; clear hA49 hC49 hi049 hsz49) | ((with_reducible refine gate_builtin (b := .append) (xs := #[.tmp 58, .tmp 65]) rfl ?_); at_builtin; refine Kd.R_append_rows (Kd.int .u8) (w0 := w) w.heap.size rfl (.tmp 58) (.tmp 65) 22 5 (.int .u8 0) 1 rfl Try.underlying22 info5 rfl (by decide) (by omega) v185 y184 ((l0.take (x9_11 : Int).toNat).drop ((ji41) : Int).toNat) _ _ _ (fun _ => True) (fun _ => False) rfl rfl ?aO ?aR (fun _ _ h => h) (fun _ h => h.elim) ?aF ?aB ?aS ?aL ?_; (case aR => first | (rw [← show ((l0.take (x9_11 : Int).toNat).drop ((ji41) : Int).toNat).length = (x9_11.toNat - (ji41).toNat) from (by rw [List.length_drop, List.length_take]; have h_ : (x9_11 : Int) ≤ (l0.length : Int) := of_decide_eq_true (by first | (with_reducible assumption) | assumption); omega)]; repeat (first | exact (Kd.C_below HR187.out HB.out) | (with_reducible refine Kd.C_alloc ?_ _) | (with_reducible refine Kd.C_drewN ?_ _) | (with_reducible refine Kd.C_drew ?_))) | (repeat (first | exact (Kd.C_below HR187.out HB.out) | (with_reducible refine Kd.C_alloc ?_ _) | (with_reducible refine Kd.C_drewN ?_ _) | (with_reducible refine Kd.C_drew ?_)))); (case aB => exact (by repeat (first | (with_reducible first | exact HB.out | apply below_alloc | apply pw_below_drewN | apply below_drew1) | exact HB.out))); (case aF => exact (fun _ _ => trivial)); (case aO => exact (by (with_reducible repeat (first | apply Kd.R_alloc | apply Kd.R_drewN | apply Kd.R_drew)); exact HO186.out)); (case aS => exact (below_size (by repeat (first | (with_reducible first | exact HB.out | apply below_alloc | apply pw_below_drewN | apply below_drew1) | exact HB.out)))); (case aL => have := LMc45.out; have hlx_ := (show ((l0.take (x9_11 : Int).toNat).drop ((ji41) : Int).toNat).length = (x9_11.toNat - (ji41).toNat) from (by rw [List.length_drop, List.length_take]; have h_ : (x9_11 : Int) ≤ (l0.length : Int) := of_decide_eq_true (by first | (with_reducible assumption) | assumption); omega)); omega); intro v189 w50 ho hb hg hat; rw [← Ny188.out] at ho; have n0_ := Aside0.mk (Kd.S_after (ok := (fun _ => True)) (by (with_reducible repeat (first | apply Kd.S_alloc | apply Kd.S_drewN | apply Kd.S_drew)); exact HO_7.out) hg hat); have n1_ := Aside0.mk (hb); have n2_ := Aside0.mk (ho); clear HO_7; clear HB; clear HO186; have HO_7 := n0_; have HB := n1_; have HO190 := n2_; clear n0_ n1_ n2_; clear ho hb hg hat; obtain ⟨Ao52, co52, eo52⟩ := Kd.R_slice HO190.out; subst eo52) | ((with_reducible refine gate_builtin (b := .append) (xs := #[.tmp 56, .tmp 67]) rfl ?_); at_builtin; refine Kd.S_append (Kd.slice 5 (Kd.int .u8)) (w0 := w) w.heap.size rfl (.tmp 56) (.tmp 67) 23 22 (.slice none 0 0) 24 rfl Try.underlying23 info22 rfl (by decide) (by omega) u7 x7_3 y188 [.slice Ao52 y188.length co52] (fun _ => True) (fun k_ => some k_ = (.slice Ao52 y188.length co52 : Value).ownBlock) rfl rfl ?aP (fun k_ hk_ => ((Kd.R_mono (ok' := fun k_ => ((fun _ => True)) k_ ∧ some k_ ≠ (u7 : Value).ownBlock) (Kd.R_apart' (HO190.out) (Kd.S_typed HO_7.out) (by decide)) (fun k_ hk => ⟨trivial, hk.2⟩))).1 k_ hk_.symm) ?aF ?aO ?aB ?aS ?aL ?_; (case aP => exact Kd.M_row (Kd.R_mono (Kd.R_tight rfl (Kd.R_mono (ok' := fun k_ => ((fun _ => True)) k_ ∧ some k_ ≠ (u7 : Value).ownBlock) (Kd.R_apart' (HO190.out) (Kd.S_typed HO_7.out) (by decide)) (fun k_ hk => ⟨trivial, hk.2⟩))) (fun _ h_ => h_))); (case aB => exact (by repeat (first | (with_reducible first | exact HB.out | apply below_alloc | apply pw_below_drewN | apply below_drew1) | exact HB.out))); (case aF => exact (fun _ _ => trivial)); (case aO => exact (by (with_reducible repeat (first | apply Kd.S_alloc | apply Kd.S_drewN | apply Kd.S_drew)); exact Kd.S_mono HO_7.out (fun k_ hk => ⟨trivial, fun e_ => hk.2 e_⟩))); (case aS => exact (below_size (by repeat (first | (with_reducible first | exact HB.out | apply below_alloc | apply pw_below_drewN | apply below_drew1) | exact HB.out)))); (case aL => have := LMc46.out; omega); intro v192 w51 ho hb hg hat; rw [← Ny191.out] at ho; have n0_ := Aside0.mk (hb); have n1_ := Aside0.mk (ho); clear HB; clear HO_7; clear HO190; have HB := n0_; have HO193 := n1_; clear n0_ n1_; clear ho hb hg hat))
                                          go_roundg kj11
                                          case measure => have := HJ2.out; have := HJ7.out; have := HK3.out; have := HJ11.out; omega
                                          case rel => exact ⟨(y191), (wrap64 (x8_3 + 1)), (by first | rfl | (simp; done) | (simp [*]; done)), H', ⟨by have := HJ2.out; have := HJ7.out; have := HK3.out; have := HJ11.out; omega⟩, ⟨by (with_reducible repeat (first | apply Kd.S_alloc | apply Kd.S_drewN | apply Kd.S_drew)); exact HO193.out⟩, ⟨by repeat (first | (with_reducible first | exact HB.out | apply below_alloc | apply pw_below_drewN | apply below_drew1) | exact HB.out)⟩⟩
                                        · rw [if_neg c46] at H
                                          exact absurd H (by simp)
                                      · rw [if_neg c45] at H
                                        exact absurd H (by simp)
                                    · rw [if_neg c44] at H
                                      exact absurd H (by simp)
                                  · rw [if_neg c43] at H
                                    exact absurd H (by simp)
                                · rw [if_neg c42] at H
                                  exact absurd H (by simp)
                              · rw [if_neg c40] at H
                                have c40b0 : (x8_3 == (wrap64 (x6_7 - 1))) = false := beq_eq_false_iff_ne.mpr c40
                                have c40b1 : (x8_3 != (wrap64 (x6_7 - 1))) = true := bne_iff_ne.mpr c40
                                obtain ⟨y194, hy194⟩ : ∃ y_ : List Int, y_ = (([0] : List Int)) := ⟨_, rfl⟩
                                replace H : (if 0 ≤ (wrap64 (x8_3 * (wrap64 (a1 - 1)))) then (if (wrap64 (x8_3 * (wrap64 (a1 - 1)))) ≤ x9_11 then (if x9_11 ≤ (l0.length : Int) then (if y194.length + ((l0.take (x9_11 : Int).toNat).drop ((wrap64 (x8_3 * (wrap64 (a1 - 1)))) : Int).toNat).length < 140737488355328 then (if x7_3.length < 5864062014805 then (milestoneref19_Cut.l0 kj11 l0 a1 x6_7 (x7_3 ++ [(y194 ++ ((l0.take (x9_11 : Int).toNat).drop ((wrap64 (x8_3 * (wrap64 (a1 - 1)))) : Int).toNat))]) (wrap64 (x8_3 + 1))) else (none)) else (none)) else (none)) else (none)) else (none)) = some (r1, r2) := by first | (rw [hy194]; with_reducible exact H) | (have H2_ := (Option.bind_some _ _).symm.trans H; rw [hy194]; with_reducible exact H2_) | (have H2_ := (Option.bind_some _ _).symm.trans H; with_reducible exact H2_) | with_reducible exact H | (rw [hy194]; exact H) | exact H
                                have Ny194 := Aside0.mk hy194
                                clear hy194
                                obtain ⟨ji53, hji53⟩ : ∃ j_ : Int, (wrap64 (x8_3 * (wrap64 (a1 - 1)))) = j_ := ⟨_, rfl⟩
                                replace H : (if 0 ≤ (ji53) then (if (ji53) ≤ x9_11 then (if x9_11 ≤ (l0.length : Int) then (if y194.length + ((l0.take (x9_11 : Int).toNat).drop ((ji53) : Int).toNat).length < 140737488355328 then (if x7_3.length < 5864062014805 then (milestoneref19_Cut.l0 kj11 l0 a1 x6_7 (x7_3 ++ [(y194 ++ ((l0.take (x9_11 : Int).toNat).drop ((ji53) : Int).toNat))]) (wrap64 (x8_3 + 1))) else (none)) else (none)) else (none)) else (none)) else (none)) = some (r1, r2) := by first | (rw [hji53] at H; exact H) | (simp only [hji53] at H ⊢; exact H)
                                have hji53w : (IntKind.i64.wrap (x8_3 * (wrap64 (a1 - 1)))) = ji53 := (i64_w _).trans hji53
                                by_cases c54 : 0 ≤ (ji53)
                                · rw [if_pos c54] at H
                                  have c54b0 := eq_true c54
                                  have c54b1 : decide (0 ≤ (ji53)) = true := decide_eq_true c54
                                  clear c54
                                  by_cases c55 : (ji53) ≤ x9_11
                                  · rw [if_pos c55] at H
                                    have c55b0 := eq_true c55
                                    have c55b1 : decide ((ji53) ≤ x9_11) = true := decide_eq_true c55
                                    clear c55
                                    by_cases c56 : x9_11 ≤ (l0.length : Int)
                                    · rw [if_pos c56] at H
                                      have c56b0 := eq_true c56
                                      have c56b1 : decide (x9_11 ≤ (l0.length : Int)) = true := decide_eq_true c56
                                      clear c56
                                      by_cases c57 : y194.length + ((l0.take (x9_11 : Int).toNat).drop ((ji53) : Int).toNat).length < 140737488355328
                                      · rw [if_pos c57] at H
                                        have LMc57 := Aside0.mk c57
                                        clear c57
                                        obtain ⟨y198, hy198⟩ : ∃ y_ : List Int, y_ = (y194 ++ ((l0.take (x9_11 : Int).toNat).drop ((ji53) : Int).toNat)) := ⟨_, rfl⟩
                                        replace H : (if x7_3.length < 5864062014805 then (milestoneref19_Cut.l0 kj11 l0 a1 x6_7 (x7_3 ++ [y198]) (wrap64 (x8_3 + 1))) else (none)) = some (r1, r2) := by first | (rw [hy198]; with_reducible exact H) | (have H2_ := (Option.bind_some _ _).symm.trans H; rw [hy198]; with_reducible exact H2_) | (have H2_ := (Option.bind_some _ _).symm.trans H; with_reducible exact H2_) | with_reducible exact H | (rw [hy198]; exact H) | exact H
                                        have Ny198 := Aside0.mk hy198
                                        clear hy198
                                        by_cases c58 : x7_3.length < 5864062014805
                                        · rw [if_pos c58] at H
                                          have LMc58 := Aside0.mk c58
                                          clear c58
                                          obtain ⟨y201, hy201⟩ : ∃ y_ : List (List Int), y_ = (x7_3 ++ [y198]) := ⟨_, rfl⟩
                                          replace H : (milestoneref19_Cut.l0 kj11 l0 a1 x6_7 y201 (wrap64 (x8_3 + 1))) = some (r1, r2) := by first | (rw [hy201]; with_reducible exact H) | (have H2_ := (Option.bind_some _ _).symm.trans H; rw [hy201]; with_reducible exact H2_) | (have H2_ := (Option.bind_some _ _).symm.trans H; with_reducible exact H2_) | with_reducible exact H | (rw [hy201]; exact H) | exact H
                                          have Ny201 := Aside0.mk hy201
                                          clear hy201
                                          have H' := Aside0.mk H
                                          clear H
                                          go_wp2_with (first | ((with_reducible refine gate_dst (N := 58) rfl ?_); refine Kd.R_lit (Kd.int .u8) _ 5 ?hg (N := 58) ?hd (xs := ([0] : List Int)) (inner := [.int .u8 0]) (ok := fun _ => True) (okp := fun _ => True) ?hr ?hp (fun _ hk => hk) trivial (Below.refl _ _) (Nat.le_refl _) (by simp) ?_; (case hd => rfl); (case hg => rfl); (case hr => first | (go_simp; done) | (go_simp; rfl)); (case hp => exact (Reps.one (show Kd.M (Kd.int .u8) _ _ _ 0 [.int .u8 0] from rfl) (Reps.none _ _))); intro v195 w59 ho60 hb hg_ hnew_; clear hg_ hnew_; (first | rw [← Ny194.out] at ho60 | (simp only [Int.reduceToNat] at ho60; rw [← Ny194.out] at ho60)); have n0_ := Aside0.mk (Kd.S_elder' (by (with_reducible repeat (first | apply Kd.S_alloc | apply Kd.S_drewN | apply Kd.S_drew)); exact HO_7.out) (Kd.R_base ho60) hb); have n1_ := Aside0.mk (Kd.R_lower ho60 (below_size (by repeat (first | (with_reducible first | exact HB.out | apply below_alloc | apply pw_below_drewN | apply below_drew1) | exact HB.out)))); have n2_ := Aside0.mk (below_step (by repeat (first | (with_reducible first | exact HB.out | apply below_alloc | apply pw_below_drewN | apply below_drew1) | exact HB.out)) hb); clear HO_7; clear HB; have HO_7 := n0_; have HO196 := n1_; have HB := n2_; clear n0_ n1_ n2_; clear hb ho60; obtain ⟨i061, hi061, _, hsz61, _⟩ := info_parts info5; obtain ⟨A61, hcut61, hA61, hC61⟩ := print_mid_of (P := Try.prog) (Value.int .u8) 0 22 5 .i64 .i64 Try.underlying22 hi061 hsz61 A0 c0 l0 (ji53) x9_11 (of_decide_eq_true (by first | (with_reducible assumption) | assumption)) (by first | omega | exact of_decide_eq_true (by first | (with_reducible assumption) | assumption)) (of_decide_eq_true (by first | (with_reducible assumption) | assumption)) HC0.out; have HR197 := Aside0.mk (Kd.C_of_reads (h1 := fun _ => rfl) (hA61 _ (Kd.reads_of_C HR0.out))); have HC197 := Aside0.mk hC61; clear hA61 hC61 hi061 hsz61) | ((with_reducible refine gate_builtin (b := .append) (xs := #[.tmp 58, .tmp 65]) rfl ?_); at_builtin; refine Kd.R_append_rows (Kd.int .u8) (w0 := w) w.heap.size rfl (.tmp 58) (.tmp 65) 22 5 (.int .u8 0) 1 rfl Try.underlying22 info5 rfl (by decide) (by omega) v195 y194 ((l0.take (x9_11 : Int).toNat).drop ((ji53) : Int).toNat) _ _ _ (fun _ => True) (fun _ => False) rfl rfl ?aO ?aR (fun _ _ h => h) (fun _ h => h.elim) ?aF ?aB ?aS ?aL ?_; (case aR => first | (rw [← show ((l0.take (x9_11 : Int).toNat).drop ((ji53) : Int).toNat).length = (x9_11.toNat - (ji53).toNat) from (by rw [List.length_drop, List.length_take]; have h_ : (x9_11 : Int) ≤ (l0.length : Int) := of_decide_eq_true (by first | (with_reducible assumption) | assumption); omega)]; repeat (first | exact (Kd.C_below HR197.out HB.out) | (with_reducible refine Kd.C_alloc ?_ _) | (with_reducible refine Kd.C_drewN ?_ _) | (with_reducible refine Kd.C_drew ?_))) | (repeat (first | exact (Kd.C_below HR197.out HB.out) | (with_reducible refine Kd.C_alloc ?_ _) | (with_reducible refine Kd.C_drewN ?_ _) | (with_reducible refine Kd.C_drew ?_)))); (case aB => exact (by repeat (first | (with_reducible first | exact HB.out | apply below_alloc | apply pw_below_drewN | apply below_drew1) | exact HB.out))); (case aF => exact (fun _ _ => trivial)); (case aO => exact (by (with_reducible repeat (first | apply Kd.R_alloc | apply Kd.R_drewN | apply Kd.R_drew)); exact HO196.out)); (case aS => exact (below_size (by repeat (first | (with_reducible first | exact HB.out | apply below_alloc | apply pw_below_drewN | apply below_drew1) | exact HB.out)))); (case aL => have := LMc57.out; have hlx_ := (show ((l0.take (x9_11 : Int).toNat).drop ((ji53) : Int).toNat).length = (x9_11.toNat - (ji53).toNat) from (by rw [List.length_drop, List.length_take]; have h_ : (x9_11 : Int) ≤ (l0.length : Int) := of_decide_eq_true (by first | (with_reducible assumption) | assumption); omega)); omega); intro v199 w62 ho hb hg hat; rw [← Ny198.out] at ho; have n0_ := Aside0.mk (Kd.S_after (ok := (fun _ => True)) (by (with_reducible repeat (first | apply Kd.S_alloc | apply Kd.S_drewN | apply Kd.S_drew)); exact HO_7.out) hg hat); have n1_ := Aside0.mk (hb); have n2_ := Aside0.mk (ho); clear HO_7; clear HB; clear HO196; have HO_7 := n0_; have HB := n1_; have HO200 := n2_; clear n0_ n1_ n2_; clear ho hb hg hat; obtain ⟨Ao64, co64, eo64⟩ := Kd.R_slice HO200.out; subst eo64) | ((with_reducible refine gate_builtin (b := .append) (xs := #[.tmp 56, .tmp 67]) rfl ?_); at_builtin; refine Kd.S_append (Kd.slice 5 (Kd.int .u8)) (w0 := w) w.heap.size rfl (.tmp 56) (.tmp 67) 23 22 (.slice none 0 0) 24 rfl Try.underlying23 info22 rfl (by decide) (by omega) u7 x7_3 y198 [.slice Ao64 y198.length co64] (fun _ => True) (fun k_ => some k_ = (.slice Ao64 y198.length co64 : Value).ownBlock) rfl rfl ?aP (fun k_ hk_ => ((Kd.R_mono (ok' := fun k_ => ((fun _ => True)) k_ ∧ some k_ ≠ (u7 : Value).ownBlock) (Kd.R_apart' (HO200.out) (Kd.S_typed HO_7.out) (by decide)) (fun k_ hk => ⟨trivial, hk.2⟩))).1 k_ hk_.symm) ?aF ?aO ?aB ?aS ?aL ?_; (case aP => exact Kd.M_row (Kd.R_mono (Kd.R_tight rfl (Kd.R_mono (ok' := fun k_ => ((fun _ => True)) k_ ∧ some k_ ≠ (u7 : Value).ownBlock) (Kd.R_apart' (HO200.out) (Kd.S_typed HO_7.out) (by decide)) (fun k_ hk => ⟨trivial, hk.2⟩))) (fun _ h_ => h_))); (case aB => exact (by repeat (first | (with_reducible first | exact HB.out | apply below_alloc | apply pw_below_drewN | apply below_drew1) | exact HB.out))); (case aF => exact (fun _ _ => trivial)); (case aO => exact (by (with_reducible repeat (first | apply Kd.S_alloc | apply Kd.S_drewN | apply Kd.S_drew)); exact Kd.S_mono HO_7.out (fun k_ hk => ⟨trivial, fun e_ => hk.2 e_⟩))); (case aS => exact (below_size (by repeat (first | (with_reducible first | exact HB.out | apply below_alloc | apply pw_below_drewN | apply below_drew1) | exact HB.out)))); (case aL => have := LMc58.out; omega); intro v202 w63 ho hb hg hat; rw [← Ny201.out] at ho; have n0_ := Aside0.mk (hb); have n1_ := Aside0.mk (ho); clear HB; clear HO_7; clear HO200; have HB := n0_; have HO203 := n1_; clear n0_ n1_; clear ho hb hg hat))
                                          go_roundg kj11
                                          case measure => have := HJ2.out; have := HJ7.out; have := HK3.out; have := HJ11.out; omega
                                          case rel => exact ⟨(y201), (wrap64 (x8_3 + 1)), (by first | rfl | (simp; done) | (simp [*]; done)), H', ⟨by have := HJ2.out; have := HJ7.out; have := HK3.out; have := HJ11.out; omega⟩, ⟨by (with_reducible repeat (first | apply Kd.S_alloc | apply Kd.S_drewN | apply Kd.S_drew)); exact HO203.out⟩, ⟨by repeat (first | (with_reducible first | exact HB.out | apply below_alloc | apply pw_below_drewN | apply below_drew1) | exact HB.out)⟩⟩
                                        · rw [if_neg c58] at H
                                          exact absurd H (by simp)
                                      · rw [if_neg c57] at H
                                        exact absurd H (by simp)
                                    · rw [if_neg c56] at H
                                      exact absurd H (by simp)
                                  · rw [if_neg c55] at H
                                    exact absurd H (by simp)
                                · rw [if_neg c54] at H
                                  exact absurd H (by simp)
                      · rw [if_neg c11] at H
                        have c11b0 : decide (x8_3 < x6_7) = false := decide_eq_false c11
                        clear c11
                        simp only [Option.some.injEq, Prod.mk.injEq] at H
                        obtain ⟨rfl, rfl⟩ := H
                        go_wp2
                        go_ret2
                        exact ⟨_, by first | rfl | (simp [errW_none, errW_some] <;> rfl) | (simp [*, errW_none, errW_some] <;> rfl), by (with_reducible repeat (first | apply Kd.S_alloc | apply Kd.S_drewN | apply Kd.S_drew)); exact HO_7.out, by repeat (first | (with_reducible first | exact HB.out | apply below_alloc | apply pw_below_drewN | apply below_drew1) | exact HB.out)⟩

-- NOT PRINTED: function 3 (milestonelaw19_PiecesCut)

end Go.Proofs.Ytleomcilhhdngaa.PPiecesCut
