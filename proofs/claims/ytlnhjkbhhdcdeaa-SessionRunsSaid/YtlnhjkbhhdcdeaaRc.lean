/- The walks of the document's put, hello and ack. -/
import Derived.Test.YtlnhjkbhhdcdeaaRb
namespace Go.Proofs.Ytlnhjkbhhdcdeaa
open Go Go.RowKit Go.Proofs.YtlnhjkbhhdcdeaaW.PrintWords Go.Proofs.YtlnhjkbhhdcdeaaW.PrintLast Go.Proofs.YtlnhjkbhhdcdeaaW.PrintMore
open Go.Proofs.Ytlnhjkbhhdcdeaa.PSessionRuns (S27 k27 z27 S116 k116 z116)
set_option linter.unusedVariables false
set_option maxRecDepth 100000
set_option maxHeartbeats 4000000
attribute [local go_sem] max2_mx min2_mn max_two min_two
section
variable {p : Nat} {lab : Nat → Nat} {σ : Se} {out : List S27} {got : List (List Int)} {vL vE vO vG : Value} {w : World} {n : Int}
theorem rput (A : RS p lab σ out got vL vE vO vG w) (hl : out.length ≤ 1000) (k a b s q : Int) (x : List Int) (A5 : Option Addr) (c5 : Nat) (hV : Kd.V KB 5 w 0 (fun k => lab k = 1) (.slice A5 x.length c5) x) :
    Calls Try.prog 69 #[.pointer (some ⟨p, 0, none⟩), .agg #[.int .u8 k, .int .u32 a, .int .u32 b, .int .u64 s, .int .u64 q, .slice A5 x.length c5]] w fun e w' => e = .returned (.tuple #[]) ∧ RP p lab w σ (out ++ [⟨k, σ.boot, σ.peer, s, q, x⟩]) got w' := by
  have d0 := blk_cell A.blk 0 (.int .u32 σ.boot) rfl
  have d4 := blk_cell A.blk 4 (.int .u32 σ.peer) rfl
  obtain ⟨bo, hbo⟩ : ∃ bo, bo = σ.boot := ⟨_, rfl⟩
  obtain ⟨pe, hpe⟩ : ∃ pe, pe = σ.peer := ⟨_, rfl⟩
  obtain ⟨l, hle⟩ : ∃ l, l = x.length := ⟨_, rfl⟩
  have HA := Lib.hid A
  have HV := Lib.hid hV
  have HL := Lib.hid hl
  have EQ := Lib.hid (And.intro hbo (And.intro hpe hle))
  rw [← hbo] at d0
  rw [← hpe] at d4
  rw [← hbo, ← hpe, ← hle]
  clear hbo hpe hle hV A hl
  go_enter Try.func69, Try.ntmps69
  go_upto_region 1 with fail
  have qA := fun o => Lib.cell?_alloc_some o d0
  have qB := fun o => Lib.cell?_alloc_some o d4
  have hb1 : Below w.heap.size w (w.alloc (.cells #[.int .u8 k, .int .u32 bo, .int .u32 pe, .int .u64 s, .int .u64 q, .slice A5 l c5] 27)).drew := pw_below_drewN (below_alloc (Below.refl _ _) _) 1
  have HA1 := Lib.hid (HA.out.below hb1)
  have HV1 : Hid (Kd.V KB 5 (w.alloc (.cells #[.int .u8 k, .int .u32 bo, .int .u32 pe, .int .u64 s, .int .u64 q, .slice A5 l c5] 27)).drew 0 (fun k => lab k = 1) (.slice A5 l c5) x) := by
    rw [EQ.out.2.2]
    rw [EQ.out.2.2] at hb1
    exact Lib.hid (Kd.V_below HV.out hb1)
  have HL1 := Lib.hid (Ls.below (lab := lab) hb1)
  have hbk : (w.alloc (.cells #[.int .u8 k, .int .u32 bo, .int .u32 pe, .int .u64 s, .int .u64 q, .slice A5 l c5] 27)).drew.heap[w.heap.size]? = some (.cells #[.int .u8 k, .int .u32 bo, .int .u32 pe, .int .u64 s, .int .u64 q, .slice A5 l c5] 27 (0, 0)) := heap_alloc_new w _
  have HSZ : Hid (w.heap.size ≠ p) := Lib.hid (by
    have := HA.out.lim p (by rw [HA.out.at_]; omega)
    omega)
  go_region
  clear qA qB d0 d4 hb1 HA HV
  obtain ⟨bx, hbx⟩ : ∃ bx, bx = w.heap.size := ⟨_, rfl⟩
  rw [← hbx] at hbk HSZ ⊢
  clear hbx
  generalize (w.alloc (.cells #[.int .u8 k, .int .u32 bo, .int .u32 pe, .int .u64 s, .int .u64 q, .slice A5 l c5] 27)).drew = W1 at *
  go_upto_region 2 with fail
  have e0 := blk_cell hbk 0 (.int .u8 k) rfl
  have e1 := blk_cell hbk 1 (.int .u32 bo) rfl
  have e2 := blk_cell hbk 2 (.int .u32 pe) rfl
  have e3 := blk_cell hbk 3 (.int .u64 s) rfl
  have e4 := blk_cell hbk 4 (.int .u64 q) rfl
  have e5 := blk_cell hbk 5 (.slice A5 l c5) rfl
  have q13 := blk_cell HA1.out.blk 13 vO rfl
  have qA := fun o => Lib.cell?_alloc_some o q13
  have HR := Lib.hid HA1.out.O
  have HFK : Hid (Kd.FK k27 W1 (fun k => lab k = 1) ⟨k, bo, pe, s, q, x⟩ [.int .u8 k, .int .u32 bo, .int .u32 pe, .int .u64 s, .int .u64 q, .slice A5 l c5]) := by
    rw [EQ.out.2.2]
    have h := HV1.out
    rw [EQ.out.2.2] at h
    exact Lib.hid (FK_frame (x := ⟨k, bo, pe, s, q, x⟩) h)
  have FIN : Hid (∀ (lab2 : Nat → Nat) (v3 : Value) (w3 : World), Ls lab lab2 W1 (w3.setCell ⟨p, 13, none⟩ v3) → RS p lab2 σ (out ++ [⟨k, bo, pe, s, q, x⟩]) got vL vE v3 vG (w3.setCell ⟨p, 13, none⟩ v3) → RP p lab w σ (out ++ [⟨k, bo, pe, s, q, x⟩]) got (w3.setCell ⟨p, 13, none⟩ v3)) :=
    Lib.hid (fun lab2 v3 w3 h1 h2 => ⟨lab2, vL, vE, v3, vG, h2, HL1.out.trans h1⟩)
  clear hbk
  go_region_law (first
    | (refine Kd.N_append_step k27 (w0 := W1.drew) (W := W1.drew) 0 (by rfl) (.tmp 19) (.tmp 21) 42 27 (.agg #[.int .u8 0, .int .u32 0, .int .u32 0, .int .u64 0, .int .u64 0, .slice none 0 0]) 56 (by rfl) Try.underlying42 Try.info27 rfl (by decide) (by omega) vO out ⟨k, bo, pe, s, q, x⟩ [.int .u8 k, .int .u32 bo, .int .u32 pe, .int .u64 s, .int .u64 q, .slice A5 l c5] (fun k => lab k = 1 ∨ some k = vO.ownBlock ∨ W1.heap.size ≤ k) (fun k => lab k = 1) (by rfl) (by rfl) (Kd.FK_step HFK.out (fun _ _ _ => by rfl)) (fun k hk => ⟨.inl hk, fun he => by have h7 := HR.out.2 k he.symm; have h8 : lab k = 1 := hk; omega⟩) (fun k hk => .inr (.inr hk)) (HR.out.wide (by rfl) (fun _ => by rfl)) (Below.refl _ _) (Nat.zero_le _) (by have := HL.out; omega) ?_; intro v3 w3 hn3 hb3 hg3 hat3; obtain ⟨A8, c8, e8⟩ := Kd.N_slice hn3; obtain ⟨z8, hz8⟩ : ∃ z8, z8 = (out ++ [(⟨k, bo, pe, s, q, x⟩ : S27)]).length := ⟨_, rfl⟩; rw [← hz8] at e8; subst e8; obtain ⟨lab2, L2, R2, _⟩ := Row.grown HA1.out.lim HR.out (by omega) hn3 ⟨hg3.os, hg3.tape, hg3.output, hg3.size, hg3.block⟩ hat3; obtain ⟨a1, a2, a3⟩ := HA1.out.setO L2 R2; have u13 := blk_cell a2 13 vO rfl; have f13 := blk_free a2 13; have HP := Lib.hid (FIN.out lab2 _ w3 a1 a3); clear hn3 hb3 hg3 hat3 L2 R2 a1 a2 a3 hz8))
  all_goals
    go_wp2_with fail
    go_end0
    exact ⟨rfl, HP.out⟩
theorem rhello (A : RS p lab σ out got vL vE vO vG w) (hl : out.length ≤ 1000) :
    Calls Try.prog 53 #[.pointer (some ⟨p, 0, none⟩)] w fun e w' => e = .returned (.tuple #[]) ∧ RP p lab w σ (out ++ [σ.helloF]) got w' := by
  have HC := Lib.hid (rput A hl 1 0 0 0 0 [] none 0 (Kd.V_nil _ _ _ _ _))
  clear A
  go_enter Try.func53, Try.ntmps53
  go_wp2_with fail
  refine HC.out.mono ?_
  rintro e w1 ⟨rfl, h⟩
  have H := Lib.hid h
  clear h HC
  go_wp2_with fail
  go_end0
  exact ⟨rfl, H.out⟩
theorem rack (A : RS p lab σ out got vL vE vO vG w) (hl : out.length ≤ 1000) :
    Calls Try.prog 59 #[.pointer (some ⟨p, 0, none⟩)] w fun e w' => e = .returned (.tuple #[]) ∧ RP p lab w σ (out ++ [σ.ackF]) got w' := by
  have d9 := blk_cell A.blk 9 (.int .u64 σ.inn) rfl
  have HC := Lib.hid (rput A hl 3 0 0 0 σ.inn [] none 0 (Kd.V_nil _ _ _ _ _))
  have HE : Hid ((⟨3, σ.boot, σ.peer, 0, σ.inn, []⟩ : S27) = σ.ackF) := Lib.hid rfl
  obtain ⟨i, hi⟩ : ∃ i, i = σ.inn := ⟨_, rfl⟩
  rw [← hi] at d9 HC HE
  clear A hi
  go_enter Try.func59, Try.ntmps59
  go_wp2_with fail
  refine HC.out.mono ?_
  rintro e w1 ⟨rfl, h⟩
  rw [HE.out] at h
  have H := Lib.hid h
  clear h HC
  go_wp2_with fail
  go_end0
  exact ⟨rfl, H.out⟩
end
end Go.Proofs.Ytlnhjkbhhdcdeaa
