/- The walks of Check, the program's and the document's. -/
import Derived.Test.YtlnhjkbhhdcdeaaMa
namespace Go.Proofs.Ytlnhjkbhhdcdeaa
open Go.RowKit Go.Proofs.YtlnhjkbhhdcdeaaW.PrintWords Go.Proofs.YtlnhjkbhhdcdeaaW.PrintLast Go.Proofs.YtlnhjkbhhdcdeaaW.PrintMore
set_option linter.unusedVariables false
set_option maxRecDepth 100000
set_option maxHeartbeats 2000000
/-- Which error a frame has. -/
def chk (k fr to_ seq ack : Int) (n : Nat) : Int :=
  if (if (k == 1) = true then (decide (0 < fr) && (seq == 0) && (ack == 0) && ((n : Int) == 0)) else if (k == 2) = true then (decide (0 < fr) && decide (0 < to_) && decide (0 < seq) && decide ((n : Int) ≤ 65536)) else if (k == 3) = true then (decide (0 < fr) && decide (0 < to_) && (seq == 0) && ((n : Int) == 0)) else false) = true then 0 else 201
theorem check_w (k fr to_ seq ack : Int) (A : Option Addr) (n c : Nat) (w : World) : Calls Try.prog 8 #[.agg (frc k fr to_ seq ack (.slice A n c))] w fun e w' => e = .returned (.int .i64 (chk k fr to_ seq ack n)) ∧ w' = w.alloc (.cells (frc k fr to_ seq ack (.slice A n c)) 27) := by
  unfold chk frc
  obtain ⟨bf, hbf⟩ : ∃ b, decide (0 < fr) = b := ⟨_, rfl⟩
  obtain ⟨bt, hbt⟩ : ∃ b, decide (0 < to_) = b := ⟨_, rfl⟩
  obtain ⟨bs, hbs⟩ : ∃ b, (seq == 0) = b := ⟨_, rfl⟩
  obtain ⟨bp, hbp⟩ : ∃ b, decide (0 < seq) = b := ⟨_, rfl⟩
  obtain ⟨ba, hba⟩ : ∃ b, (ack == 0) = b := ⟨_, rfl⟩
  obtain ⟨bn, hbn⟩ : ∃ b, ((n : Int) == 0) = b := ⟨_, rfl⟩
  obtain ⟨bm, hbm⟩ : ∃ b, decide ((n : Int) ≤ 65536) = b := ⟨_, rfl⟩
  rw [hbf, hbt, hbs, hbp, hba, hbn, hbm]
  by_cases h1 : k = 1
  · subst h1
    clear hbt hbp hbm
    cases bf with
    | false =>
      (go_enter Try.func8, Try.ntmps8; go_wp2_with fail; go_ret; exact ⟨rfl, rfl⟩)
    | true =>
      cases bs with
      | false =>
        (go_enter Try.func8, Try.ntmps8; go_wp2_with fail; go_ret; exact ⟨rfl, rfl⟩)
      | true =>
        cases ba with
        | false =>
          (go_enter Try.func8, Try.ntmps8; go_wp2_with fail; go_ret; exact ⟨rfl, rfl⟩)
        | true =>
          cases bn with
          | false =>
            (go_enter Try.func8, Try.ntmps8; go_wp2_with fail; go_ret; exact ⟨rfl, rfl⟩)
          | true =>
            (go_enter Try.func8, Try.ntmps8; go_wp2_with fail; go_ret; exact ⟨rfl, rfl⟩)
  · by_cases h2 : k = 2
    · subst h2
      clear hbs hba hbn
      cases bf with
      | false =>
        (go_enter Try.func8, Try.ntmps8; go_wp2_with fail; go_ret; exact ⟨rfl, rfl⟩)
      | true =>
        cases bt with
        | false =>
          (go_enter Try.func8, Try.ntmps8; go_wp2_with fail; go_ret; exact ⟨rfl, rfl⟩)
        | true =>
          cases bp with
          | false =>
            (go_enter Try.func8, Try.ntmps8; go_wp2_with fail; go_ret; exact ⟨rfl, rfl⟩)
          | true =>
            cases bm with
            | false =>
              (go_enter Try.func8, Try.ntmps8; go_wp2_with fail; go_ret; exact ⟨rfl, rfl⟩)
            | true =>
              (go_enter Try.func8, Try.ntmps8; go_wp2_with fail; go_ret; exact ⟨rfl, rfl⟩)
    · by_cases h3 : k = 3
      · subst h3
        clear hbp hba hbm
        cases bf with
        | false =>
          (go_enter Try.func8, Try.ntmps8; go_wp2_with fail; go_ret; exact ⟨rfl, rfl⟩)
        | true =>
          cases bt with
          | false =>
            (go_enter Try.func8, Try.ntmps8; go_wp2_with fail; go_ret; exact ⟨rfl, rfl⟩)
          | true =>
            cases bs with
            | false =>
              (go_enter Try.func8, Try.ntmps8; go_wp2_with fail; go_ret; exact ⟨rfl, rfl⟩)
            | true =>
              cases bn with
              | false =>
                (go_enter Try.func8, Try.ntmps8; go_wp2_with fail; go_ret; exact ⟨rfl, rfl⟩)
              | true =>
                (go_enter Try.func8, Try.ntmps8; go_wp2_with fail; go_ret; exact ⟨rfl, rfl⟩)
      · have e1 : (k == 1) = false := by simpa using h1
        have e2 : (k == 2) = false := by simpa using h2
        have e3 : (k == 3) = false := by simpa using h3
        rw [e1, e2, e3]
        clear h1 h2 h3 hbf hbt hbs hbp hba hbn hbm
        (go_enter Try.func8, Try.ntmps8; go_wp2_with fail; go_ret; exact ⟨rfl, rfl⟩)
theorem rcheck_w (k fr to_ seq ack : Int) (A : Option Addr) (n c : Nat) (w : World) : Calls Try.prog 9 #[.agg (frc k fr to_ seq ack (.slice A n c))] w fun e w' => e = .returned (.int .i64 (chk k fr to_ seq ack n)) ∧ w' = w.alloc (.cells (frc k fr to_ seq ack (.slice A n c)) 27) := by
  unfold chk frc
  obtain ⟨bf, hbf⟩ : ∃ b, decide (0 < fr) = b := ⟨_, rfl⟩
  obtain ⟨bt, hbt⟩ : ∃ b, decide (0 < to_) = b := ⟨_, rfl⟩
  obtain ⟨bs, hbs⟩ : ∃ b, (seq == 0) = b := ⟨_, rfl⟩
  obtain ⟨bp, hbp⟩ : ∃ b, decide (0 < seq) = b := ⟨_, rfl⟩
  obtain ⟨ba, hba⟩ : ∃ b, (ack == 0) = b := ⟨_, rfl⟩
  obtain ⟨bn, hbn⟩ : ∃ b, ((n : Int) == 0) = b := ⟨_, rfl⟩
  obtain ⟨bm, hbm⟩ : ∃ b, decide ((n : Int) ≤ 65536) = b := ⟨_, rfl⟩
  rw [hbf, hbt, hbs, hbp, hba, hbn, hbm]
  by_cases h1 : k = 1
  · subst h1
    clear hbt hbp hbm
    cases bf with
    | false =>
      (go_enter Try.func9, Try.ntmps9; go_wp2_with fail; go_ret; exact ⟨rfl, rfl⟩)
    | true =>
      cases bs with
      | false =>
        (go_enter Try.func9, Try.ntmps9; go_wp2_with fail; go_ret; exact ⟨rfl, rfl⟩)
      | true =>
        cases ba with
        | false =>
          (go_enter Try.func9, Try.ntmps9; go_wp2_with fail; go_ret; exact ⟨rfl, rfl⟩)
        | true =>
          cases bn with
          | false =>
            (go_enter Try.func9, Try.ntmps9; go_wp2_with fail; go_ret; exact ⟨rfl, rfl⟩)
          | true =>
            (go_enter Try.func9, Try.ntmps9; go_wp2_with fail; go_ret; exact ⟨rfl, rfl⟩)
  · by_cases h2 : k = 2
    · subst h2
      clear hbs hba hbn
      cases bf with
      | false =>
        (go_enter Try.func9, Try.ntmps9; go_wp2_with fail; go_ret; exact ⟨rfl, rfl⟩)
      | true =>
        cases bt with
        | false =>
          (go_enter Try.func9, Try.ntmps9; go_wp2_with fail; go_ret; exact ⟨rfl, rfl⟩)
        | true =>
          cases bp with
          | false =>
            (go_enter Try.func9, Try.ntmps9; go_wp2_with fail; go_ret; exact ⟨rfl, rfl⟩)
          | true =>
            cases bm with
            | false =>
              (go_enter Try.func9, Try.ntmps9; go_wp2_with fail; go_ret; exact ⟨rfl, rfl⟩)
            | true =>
              (go_enter Try.func9, Try.ntmps9; go_wp2_with fail; go_ret; exact ⟨rfl, rfl⟩)
    · by_cases h3 : k = 3
      · subst h3
        clear hbp hba hbm
        cases bf with
        | false =>
          (go_enter Try.func9, Try.ntmps9; go_wp2_with fail; go_ret; exact ⟨rfl, rfl⟩)
        | true =>
          cases bt with
          | false =>
            (go_enter Try.func9, Try.ntmps9; go_wp2_with fail; go_ret; exact ⟨rfl, rfl⟩)
          | true =>
            cases bs with
            | false =>
              (go_enter Try.func9, Try.ntmps9; go_wp2_with fail; go_ret; exact ⟨rfl, rfl⟩)
            | true =>
              cases bn with
              | false =>
                (go_enter Try.func9, Try.ntmps9; go_wp2_with fail; go_ret; exact ⟨rfl, rfl⟩)
              | true =>
                (go_enter Try.func9, Try.ntmps9; go_wp2_with fail; go_ret; exact ⟨rfl, rfl⟩)
      · have e1 : (k == 1) = false := by simpa using h1
        have e2 : (k == 2) = false := by simpa using h2
        have e3 : (k == 3) = false := by simpa using h3
        rw [e1, e2, e3]
        clear h1 h2 h3 hbf hbt hbs hbp hba hbn hbm
        (go_enter Try.func9, Try.ntmps9; go_wp2_with fail; go_ret; exact ⟨rfl, rfl⟩)
end Go.Proofs.Ytlnhjkbhhdcdeaa
