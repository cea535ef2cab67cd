/- The walk of the document's come. -/
import Derived.Test.YtlnhjkbhhdcdeaaRe
import Derived.BigQuiet
namespace Go.Proofs.Ytlnhjkbhhdcdeaa
open Go Go.RowKit Go.Proofs.YtlnhjkbhhdcdeaaW.PrintWords Go.Proofs.YtlnhjkbhhdcdeaaW.PrintLast Go.Proofs.YtlnhjkbhhdcdeaaW.PrintMore
open Go.Proofs.Ytlnhjkbhhdcdeaa.PSessionRuns (S27 k27 z27 S116 k116 z116)
set_option linter.unusedVariables false
set_option maxRecDepth 100000
set_option maxHeartbeats 4000000
attribute [local go_sem] max2_mx min2_mn max_two min_two
section
variable {p : Nat} {lab : Nat → Nat} {σ : Se} {out : List S27} {got : List (List Int)} {vL vE vO vG : Value} {w : World} {n : Int}
/-- There is no next one among the early ones. -/
def Pd (σ : Se) : Prop := plc σ.E (σ.inn + 1) 0 = none
theorem FK_early {W : World} {ok : Nat → Prop} {x : Int × List Int} {A : Option Addr} {c : Nat} (h : Kd.V KB 5 W 0 ok (.slice A x.2.length c) x.2) : Kd.FK kE W ok x [.int .u64 x.1, .slice A x.2.length c] :=
  fun W2 hW => ⟨[.int .u64 x.1], [.slice A x.2.length c], rfl, rfl, ⟨A, c, rfl, (Kd.V_at h).2.1, (Kd.V_at h).2.2 W2 hW⟩⟩
theorem rcome_no (A : RS p lab σ out got vL vE vO vG w) (ok : Ok n σ) (hE : σ.E.length ≤ 1000) (x0 x1 x2 x3 x4 : Int) (g0 : 0 ≤ x3) (g1 : x3 < 18446744073709551616) (A5 : Option Addr) (l5 c5 : Nat) (hno : ¬ (σ.inn < x3 ∧ x3 - σ.inn ≤ σ.win ∧ plc σ.E x3 0 = none)) :
    Calls Try.prog 61 #[.pointer (some ⟨p, 0, none⟩), .agg #[.int .u8 x0, .int .u32 x1, .int .u32 x2, .int .u64 x3, .int .u64 x4, .slice A5 l5 c5]] w fun e w' => e = .returned (.tuple #[]) ∧ RP p lab w σ out got w' := by
  have hb1 : Below w.heap.size w (w.alloc (.cells #[.int .u8 x0, .int .u32 x1, .int .u32 x2, .int .u64 x3, .int .u64 x4, .slice A5 l5 c5] 27)) := below_alloc (Below.refl _ _) _
  have hA1 := A.below hb1
  have hbk := heap_alloc_new w (.cells #[.int .u8 x0, .int .u32 x1, .int .u32 x2, .int .u64 x3, .int .u64 x4, .slice A5 l5 c5] 27)
  have HC := Lib.hid (fun d => rearly (hA1.drewN d) hE x3)
  have FIN : Hid (∀ d, RP p lab w σ out got ((w.alloc (.cells #[.int .u8 x0, .int .u32 x1, .int .u32 x2, .int .u64 x3, .int .u64 x4, .slice A5 l5 c5] 27)).drewN d)) := Lib.hid (fun d => ⟨lab, _, _, _, _, hA1.drewN d, Ls.below (pw_below_drewN hb1 d)⟩)
  have d1 := blk_cell hA1.blk 1 (.int .i64 σ.win) rfl
  have d9 := blk_cell hA1.blk 9 (.int .u64 σ.inn) rfl
  have g2 := ok.inn0
  have g3 := ok.inn1
  have g4 := ok.big
  have g5 := ok.win0
  have g6 := ok.win1
  obtain ⟨pl, hpl⟩ : ∃ pl, pl = plI (plc σ.E x3 0) := ⟨_, rfl⟩
  have hpl0 : plc σ.E x3 0 ≠ none → 0 ≤ pl := fun h => by
    rw [hpl]
    cases hq : plc σ.E x3 0 with
    | none => exact absurd hq h
    | some j => show (0 : Int) ≤ (j : Int); omega
  rw [← hpl] at HC
  obtain ⟨ic, hic⟩ : ∃ x, x = σ.inn := ⟨_, rfl⟩
  obtain ⟨wn, hwn⟩ : ∃ x, x = σ.win := ⟨_, rfl⟩
  rw [← hic] at d9 hno g2 g3
  rw [← hwn] at d1 hno g5 g6
  have hw2 : IntKind.u64.wrap wn = wn := u64_wrap (by omega) (by omega)
  clear A hA1 hb1 ok hic hwn hpl
  go_enter Try.func61, Try.ntmps61
  go_upto_region 1 with fail
  obtain ⟨bx, hbx⟩ : ∃ bx, bx = w.heap.size := ⟨_, rfl⟩
  rw [← hbx] at hbk ⊢
  clear hbx
  generalize w.alloc (.cells #[.int .u8 x0, .int .u32 x1, .int .u32 x2, .int .u64 x3, .int .u64 x4, .slice A5 l5 c5] 27) = W1 at *
  have b3 := blk_cell hbk 3 (.int .u64 x3) rfl
  clear hbk
  by_cases h1 : x3 ≤ ic
  · have t1 : decide (x3 ≤ ic) = true := by simp; exact h1
    clear hno hpl0
    go_quiet (fail)
    go_wp2_with fail
    refine bodyPost_ret (results_none rfl _ _ _) rfl ?_
    exact ⟨rfl, FIN.out _⟩
  · have t1 : decide (x3 ≤ ic) = false := by simp; omega
    have hw1 : IntKind.u64.wrap (x3 - ic) = x3 - ic := u64_wrap (by omega) (by omega)
    by_cases h2 : wn < x3 - ic
    · have t2 : decide (wn < x3 - ic) = true := by simp; exact h2
      clear hno hpl0 h1
      go_quiet (fail)
      go_wp2_with fail
      refine bodyPost_ret (results_none rfl _ _ _) rfl ?_
      exact ⟨rfl, FIN.out _⟩
    · have t2 : decide (wn < x3 - ic) = false := by simp; omega
      have hp0 : 0 ≤ pl := hpl0 (fun h => hno ⟨by omega, by omega, h⟩)
      have t3 : decide ((0 : Int) ≤ pl) = true := by simp; exact hp0
      clear hno hpl0 h1 h2
      go_quiet (first | (go_at_call 70; refine (HC.out _).mono ?_; rintro e w' ⟨rfl, rfl⟩; exact ⟨rfl, _, rfl⟩))
      go_wp2_with fail
      refine bodyPost_ret (results_none rfl _ _ _) rfl ?_
      exact ⟨rfl, FIN.out _⟩
end
end Go.Proofs.Ytlnhjkbhhdcdeaa
