/- The walk of Delete. -/
import Derived.Test.YtnognpfenefafaaNk9
import Derived.Deep.RegionLaw
namespace Go.Proofs.Ytnognpfenefafaa
open Go.Proofs.Ytnognpfenefafaa.PNetRuns (S39 S73 k39 k73 z39 z73)
open Go.RowKit Go.Proofs.YtnognpfenefafaaW.PrintWords Go.Proofs.YtnognpfenefafaaW.PrintLast Go.Proofs.YtnognpfenefafaaW.PrintMore
def zs69 : List Value := [.int .i64 0, .int .i64 0, .int .i64 0, .int .i64 0, .bool false, .slice none 0 0]
theorem zero69 (w : World) : (zeroValue 69).run Try.prog w = .ok (.agg #[.int .i64 0, .int .i64 0, .int .i64 0, .int .i64 0, .bool false, .slice none 0 0]) w := by
  have h := Try.info69
  cases hq : Try.prog.info? 69 with
  | none => rw [hq] at h; cases h
  | some i =>
    rw [hq] at h
    simp only [Option.map_some, Option.some.injEq, Prod.mk.injEq] at h
    simp [zeroValue, typeInfo, hq, h.1]
theorem run_clear_one (w : World) (ty : TypeId) (b o c : Nat) (hc : ∀ j, j < 6 → (w.cell? ⟨b, o + j, none⟩).isSome = true) (hf : ∀ j, j < 6 → w.frozen? ⟨b, o + j, none⟩ = false) :
    (Builtin.clear_ #[52] ty #[.slice (some ⟨b, o, none⟩) 1 c]).run Try.prog w = .ok (.tuple #[]) (w.setCells b o zs69) := by
  have hst := run_storeCells_cells (P := Try.prog) b o zs69 0 w (by simpa [zs69] using hc) (by simpa [zs69] using hf) (by simp [zs69, Value.oneCell'])
  simp only [Nat.add_zero] at hst
  have hzc : (Builtin.zeroCells (Value.agg #[.int .i64 0, .int .i64 0, .int .i64 0, .int .i64 0, .bool false, .slice none 0 0]).cells 1).toList = zs69 := by
    first | rfl | kernel_rfl
  simp [Builtin.clear_, run_underlying Try.underlying52, hzc, hst]
theorem clear_tail (ok : Nat → Prop) (g n c : Nat) (ps : List S73) (w : World) (hS : Kd.S k73 69 w 0 ok (.slice (some ⟨g, 0, none⟩) (n - 1) c) ps) (h1 : 1 ≤ n) (hnc : n ≤ c) :
    ∃ w2, (∀ ty c', (Builtin.clear_ #[52] ty #[.slice (some ⟨g, (n - 1) * 6, none⟩) (n - (n - 1)) c']).run Try.prog w = .ok (.tuple #[]) w2) ∧ Kd.S k73 69 w2 0 ok (.slice (some ⟨g, 0, none⟩) (n - 1) c) ps ∧ Chg (fun k => k = g) w w2 := by
  have hlen := (Kd.S_reads' hS).1
  have h6 : k73.sz = 6 := rfl
  obtain ⟨inner, _, hown⟩ := Kd.S_own hS
  rcases hown with ⟨hv, _⟩ | ⟨g', cap', cur, hv, hb, hh, _, hcm, hcs, htake⟩
  · cases hv
  injection hv with ha _ hc
  injection ha with ha
  injection ha with hg
  subst hg; subst hc
  rw [h6] at hcs
  have hle : n * 6 ≤ c * 6 := Nat.mul_le_mul_right _ hnc
  have hs : (n - 1) * 6 + 6 = n * 6 := by omega
  obtain ⟨hS2, hG2⟩ := Kd.S_tail k73 hS zs69 (o := (n - 1) * 6) (by rw [h6]; exact Nat.le_refl _) (by rw [h6]; simp only [zs69, List.length_cons, List.length_nil]; omega)
  refine ⟨_, fun ty c' => ?_, hS2, ⟨hG2.os, hG2.tape, hG2.output, hG2.size, fun k hk hn => hG2.block k hk (fun he => hn (by injection he))⟩⟩
  rw [show n - (n - 1) = 1 by omega]
  refine run_clear_one w ty g ((n - 1) * 6) c' (fun j hj => ?_) (fun j hj => blk_free hh _)
  rw [cell_of_row w g _ cur 69 (0, 0) hh]
  simp only [Option.isSome_iff_exists]
  exact ⟨_, Array.getElem?_eq_getElem (by omega)⟩
set_option maxRecDepth 100000 in
set_option maxHeartbeats 2000000 in
theorem delete_no (ok : Nat → Prop) (g n c i : Nat) (ps : List S73) (w : World) (hS : Kd.S k73 69 w 0 ok (.slice (some ⟨g, 0, none⟩) n c) ps) (hi : i < ps.length) (hl : ps.length ≤ 100000) :
    Calls Try.prog 37 #[.slice (some ⟨g, 0, none⟩) n c, .int .i64 i, .int .i64 ((i : Int) + 1)] w fun e w' => e = .returned (.slice (some ⟨g, 0, none⟩) (n - 1) c) ∧ Kd.S k73 69 w' 0 ok (.slice (some ⟨g, 0, none⟩) (n - 1) c) (ps.eraseIdx i) ∧ Chg (fun k => k = g) w w' := by
  have hn := (Kd.S_reads' hS).1
  have hnc := (Kd.S_reads' hS).2.1
  have HS := Lib.hid hS
  have hin : i < n := by omega
  have hn5 : n ≤ 100000 := by omega
  have hic : i ≤ c := by omega
  have hi1 : i + 1 ≤ n := by omega
  have hi0 : (0 : Int) ≤ (i : Int) + 1 := by omega
  have hi2 : (i : Int) ≤ (c : Int) := by omega
  have hi3 : (i : Int) + 1 ≤ (n : Int) := by omega
  clear hS hn hi hl
  have e1 : ((i : Int) == (i : Int) + 1) = false := by simp; omega
  have e2 : ((i : Int) + 1).toNat = i + 1 := by omega
  have hA : (if c = i + 1 then (some ⟨g, 0, none⟩ : Option Addr) else some ⟨g, (i + 1) * 6, none⟩) = if c = i + 1 then some ⟨g, 0, none⟩ else (some (⟨g, 0, none⟩ : Addr)).map (·.add ((i + 1) * k73.sz)) := by
    by_cases h : c = i + 1
    · rw [if_pos h, if_pos h]
    · rw [if_neg h, if_neg h]
      show some (⟨g, (i + 1) * 6, none⟩ : Addr) = some ((⟨g, 0, none⟩ : Addr).add ((i + 1) * 6))
      rw [add_at, Nat.zero_add]
  have HA := Lib.hid hA
  clear hA
  go_enter Try.func37, Try.ntmps37
  go_wp2_with fail
  go_region_law (first
      | (refine Kd.S_delete_step k73 (w0 := w.drew) 0 (by rfl) (.tmp 22) (.tmp 25) 52 69 (by rfl) Try.underlying52 size69 (g := g) (n := n) (c := c) (k := i) (m := n - (i + 1)) (c2 := c - (i + 1)) (ok := ok) (xs := ps) (by rfl) (by rfl) ?aA rfl ?aS hin ?aB (Nat.zero_le _) ?_; (case aA => exact HA.out); (case aS => exact Kd.S_step HS.out (fun _ _ _ => rfl)); (case aB => exact Below.refl _ _); intro w1 hs1 hb1 hg1; have hc1 : Chg (fun k => k = g) w w1 := ⟨hg1.os, hg1.tape, hg1.output, hg1.size, fun k hk hn => hg1.block k hk (fun he => hn (by injection he))⟩; have HS1 := Lib.hid hs1; have HC1 := Lib.hid hc1; clear hs1 hb1 hg1 hc1))
  obtain ⟨w2, hcl, hS2, hC2⟩ := clear_tail ok g n c _ w1 HS1.out (by omega) hnc
  have HS2 := Lib.hid hS2
  have HC2 := Lib.hid (HC1.out.trans hC2 (fun i hi => .inl hi))
  clear hS2 hC2
  go_wp2_with fail
  all_goals
    go_ret
    try subst h
    exact ⟨rfl, HS2.out, HC2.out⟩
end Go.Proofs.Ytnognpfenefafaa
