/- The walk of the document's data. -/
import Derived.Test.YtlnhjkbhhdcdeaaRc
namespace Go.Proofs.Ytlnhjkbhhdcdeaa
open Go Go.RowKit Go.Proofs.YtlnhjkbhhdcdeaaW.PrintWords Go.Proofs.YtlnhjkbhhdcdeaaW.PrintLast Go.Proofs.YtlnhjkbhhdcdeaaW.PrintMore
open Go.Proofs.Ytlnhjkbhhdcdeaa.PSessionRuns (S27 k27 z27 S116 k116 z116)
set_option linter.unusedVariables false
set_option maxRecDepth 100000
set_option maxHeartbeats 4000000
attribute [local go_sem] max2_mx min2_mn max_two min_two
section
variable {p : Nat} {lab : Nat → Nat} {σ : Se} {out : List S27} {got : List (List Int)} {vL vE vO vG : Value} {w : World} {n : Int}
theorem rdata (A : RS p lab σ out got vL vE vO vG w) (hl : out.length ≤ 1000) (i : Nat) (hi : i < σ.L.length) (hb : (σ.L.getD i []).length ≤ 1000000) (h0 : 1 ≤ σ.base) (h1 : σ.base ≤ 4611686018427387904) (h2 : i ≤ 1000000) :
    Calls Try.prog 62 #[.pointer (some ⟨p, 0, none⟩), .int .i64 i] w fun e w' => e = .returned (.tuple #[]) ∧ RP p lab w σ (out ++ [σ.frame i]) got w' := by
  obtain ⟨Al, cl, hv⟩ := A.L.slice
  subst hv
  have d6 := blk_cell A.blk 6 (.slice Al σ.L.length cl) rfl
  have d7 := blk_cell A.blk 7 (.int .u64 (σ.base - 1)) rfl
  have d9 := blk_cell A.blk 9 (.int .u64 σ.inn) rfl
  obtain ⟨ad, A5, c5, x, rfl, q0, hVx, hx⟩ := V_row_at (Kd.N_V (base' := 0) A.L.1) i hi
  have HA := Lib.hid A
  have HV := Lib.hid hVx
  have HX := Lib.hid hx.out
  have HL := Lib.hid hl
  obtain ⟨l, hll⟩ : ∃ l, l = σ.L.length := ⟨_, rfl⟩
  obtain ⟨bs, hbs⟩ : ∃ bs, bs = σ.base - 1 := ⟨_, rfl⟩
  obtain ⟨ac, hac⟩ : ∃ ac, ac = σ.inn := ⟨_, rfl⟩
  obtain ⟨lx, hlx⟩ : ∃ lx, lx = x.length := ⟨_, rfl⟩
  have EQ := Lib.hid (And.intro hbs (And.intro hac hlx))
  rw [← hx.out, ← hlx] at hb
  have hw1 : IntKind.u64.wrap (i : Int) = (i : Int) := u64_wrap (by omega) (by omega)
  have hw2 : IntKind.u64.wrap (bs + (i : Int)) = bs + (i : Int) := u64_wrap (by omega) (by omega)
  have hw3 : IntKind.u64.wrap (bs + (i : Int) + 1) = bs + (i : Int) + 1 := u64_wrap (by omega) (by omega)
  rw [← hll] at d6 hi
  rw [← hbs] at d7
  rw [← hac] at d9
  rw [← hlx] at q0
  have hik : (i : Int) < (l : Int) := by omega
  have HLB : Hid (lx ≤ 1000000) := Lib.hid hb
  clear A hVx hx hl hll hbs hac hlx h0 h1 hi hb
  have qA := fun o => Lib.cell?_alloc_some o d6
  have qB := fun o => Lib.cell?_alloc_some o d7
  have qC := fun o => Lib.cell?_alloc_some o d9
  have qD := fun o => Lib.cell?_alloc_some o q0
  have HO : Hid (∀ d, KB.R 5 ((w.alloc (.cells #[] 5)).drewN d) w.heap.size (fun k => w.heap.size ≤ k) (.slice (some ⟨w.heap.size, 0, none⟩) 0 0) []) := Lib.hid (fun d => R_new_int w .u8 5 [] [] rfl (by simp) 0 rfl _ rfl)
  have HRD : Hid (∀ d, KB.C ((w.alloc (.cells #[] 5)).drewN d) A5 lx x) := by
    rw [EQ.out.2.2]
    exact Lib.hid (fun d => Kd.C_alloc (Kd.V_reads' HV.out).2.2 _)
  have HBW : Hid (∀ d, Below w.heap.size w ((w.alloc (.cells #[] 5)).drewN d)) := Lib.hid (fun d => pw_below_drewN (below_alloc (Below.refl _ _) _) d)
  have HCL : Hid (∀ (w6 : World) (lab3 : Nat → Nat) (A7 : Option Addr) (c7 : Nat), RS p lab3 σ out got (.slice (some ad) σ.L.length cl) vE vO vG w6 → Ls lab lab3 w w6 → Kd.V KB 5 w6 0 (fun k => lab3 k = 1) (.slice A7 lx c7) x → Calls Try.prog 69 #[.pointer (some ⟨p, 0, none⟩), .agg #[.int .u8 2, .int .u32 0, .int .u32 0, .int .u64 (bs + (i : Int) + 1), .int .u64 ac, .slice A7 lx c7]] w6 fun e w' => e = .returned (.tuple #[]) ∧ RP p lab w σ (out ++ [σ.frame i]) got w') := by
    refine Lib.hid ?_
    intro w6 lab3 A7 c7 h1 h2 h3
    rw [EQ.out.2.2] at h3 ⊢
    refine (rput h1 HL.out 2 0 0 (bs + (i : Int) + 1) ac x A7 c7 h3).mono ?_
    rintro e w' ⟨rfl, lab4, vL', vE', vO', vG', h4, h5⟩
    refine ⟨rfl, lab4, vL', vE', vO', vG', ?_, h2.trans h5⟩
    have he : (⟨2, σ.boot, σ.peer, bs + (i : Int) + 1, ac, x⟩ : S27) = σ.frame i := by
      unfold Se.frame
      rw [EQ.out.1, EQ.out.2.1, ← HX.out, show σ.base - 1 + (i : Int) + 1 = σ.base + (i : Int) by omega]
    rw [he] at h4
    exact h4
  go_enter Try.func62, Try.ntmps62
  go_wp2_with fail
  go_region_law (first
    | (refine Kd.R_append_rows_step KB (w0 := w) w.heap.size (by rfl) (.tmp 17) (.tmp 24) 25 5 (.int .u8 0) 1 (by rfl) Try.underlying25 Try.info5 rfl (by decide) (by omega) (.slice (some ⟨w.heap.size, 0, none⟩) 0 0) [] x A5 lx c5 (fun k => w.heap.size ≤ k) (fun _ => False) (by rfl) (by rfl) (HO.out _) (HRD.out _) (fun _ _ h => h) (fun _ h => h.elim) (fun k hk => Nat.le_trans (HBW.out 0).size hk) (HBW.out _) (HBW.out 0).size (by have h1 := HLB.out; have h2 := EQ.out.2.2; simp; omega) ?_; intro v1 w6 hr6 hb6 hg6 hat6; obtain ⟨A7, c7, e7⟩ := Kd.R_slice hr6; rw [List.nil_append, ← EQ.out.2.2] at e7; subst e7; obtain ⟨lab3, L3, A8, hold3, hnew3⟩ := HA.out.made hb6; have V7 : Kd.V KB 5 w6 0 (fun k => lab3 k = 1) (.slice A7 lx c7) x := Kd.V_mono (Kd.V_bound (Kd.R_V hr6)) (fun k hk => hnew3 k hk.1 hk.2); have CL := Lib.hid (HCL.out w6 lab3 A7 c7 A8 (L3.ls (by omega)) V7); have u6 := pw_cell_below hb6 d6; have u7 := pw_cell_below hb6 d7; have u9 := pw_cell_below hb6 d9; have uq := pw_cell_below hb6 q0; clear hr6 hb6 hg6 hat6 hold3 hnew3 L3 A8 V7)
    | (go_simp; go_at_call 69; refine CL.out.mono ?_; rintro e w7 ⟨rfl, hrp⟩; have HP := Lib.hid hrp; clear hrp))
  all_goals
    go_wp2_with fail
    go_end0
    exact ⟨rfl, HP.out⟩
end
end Go.Proofs.Ytlnhjkbhhdcdeaa
