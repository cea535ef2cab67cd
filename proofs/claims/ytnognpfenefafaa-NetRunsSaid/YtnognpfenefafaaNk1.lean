/- The walks of made, Clone, find's closure, IndexFunc, find. -/
import Derived.Test.YtnognpfenefafaaNb
import Derived.Lib.SliceRun
namespace Go.Proofs.Ytnognpfenefafaa
open Go.Proofs.Ytnognpfenefafaa.PNetRuns (S39 S73 k39 k73 z39 z73)
open Go.RowKit Go.Proofs.YtnognpfenefafaaW.PrintWords Go.Proofs.YtnognpfenefafaaW.PrintLast Go.Proofs.YtnognpfenefafaaW.PrintMore
theorem made_nil (w : World) : Calls Try.prog 30 #[.pointer none] w fun e w' => e = .returned (.bool false) ∧ w' = w := by
  go_enter Try.func30, Try.ntmps30
  go_wp2
  go_ret
  exact ⟨rfl, rfl⟩
theorem made_no (S : Nat → Prop) (g : Nat) (dev last : Int) (ps : List S73) (w : World) (h : No S g dev last ps w) : Calls Try.prog 30 #[.pointer (some ⟨g, 0, none⟩)] w fun e w' => e = .returned (.bool (decide (0 < dev))) ∧ w' = w := by
  obtain ⟨hg, hlt, v, hblk, hR⟩ := h
  have d0 := blk_cell hblk 0 _ rfl
  clear hlt hblk hR
  go_enter Try.func30, Try.ntmps30
  go_wp2
  go_ret
  exact ⟨rfl, rfl⟩
theorem clone_nil (c : Nat) (w : World) : Calls Try.prog 41 #[.slice none 0 c] w fun e w' => e = .returned (.slice none 0 0) ∧ w' = w := by
  have hn := Lib.run_eql_slice_nil (P := Try.prog) w 23 5 none 0 c 0 0 Try.underlying23
  go_enter Try.func41, Try.ntmps41
  go_wp2_with fail
  go_ret
  exact ⟨rfl, rfl⟩
set_option maxRecDepth 100000 in
set_option maxHeartbeats 1000000 in
theorem clone_ok (okp : Nat → Prop) (a : Addr) (n c : Nat) (bs : List Int) (w : World) (hV : Kd.V KB 5 w 0 okp (.slice (some a) n c) bs) (hl : bs.length ≤ 1000000) :
    Calls Try.prog 41 #[.slice (some a) n c] w fun e w' => ∃ v, e = .returned v ∧ KB.R 5 w' w.heap.size (fun k => w.heap.size ≤ k) v bs ∧ Below w.heap.size w w' := by
  have hn := Lib.run_eql_slice_nil (P := Try.prog) w 23 5 (some a) n c 0 0 Try.underlying23
  have HV := Lib.hid hV
  obtain ⟨hnn, hnc, _⟩ := Kd.V_at hV
  clear hV
  subst hnn
  clear hnc
  go_enter Try.func41, Try.ntmps41
  go_wp2_with (
    (with_reducible refine gate_builtin (b := .append) (xs := #[.tmp 5, .tmp 6]) rfl ?_); at_builtin; (refine Kd.R_append_rows KB (w0 := w) w.heap.size rfl (.tmp 5) (.tmp 6) 23 5 (.int .u8 0) 1 rfl Try.underlying23 Try.info5 rfl (by decide) (by omega) (.slice (some ⟨w.heap.size, 0, none⟩) 0 0) [] bs (some a) bs.length c (fun k => w.heap.size ≤ k) (fun _ => False) rfl rfl ?aO ?aR (fun _ _ h => h) (fun _ h => h.elim) ?aF ?aB ?aS ?aL ?_); (case aO => exact R_new_int w .u8 5 [] [] rfl (by simp) 0 rfl _ rfl); (case aR => exact Kd.C_alloc (Kd.V_reads' HV.out).2.2 _); (case aF => intro k hk; simp at hk; omega); (case aB => exact Below.alloc (Below.refl w.heap.size w) (Nat.le_refl _) _); (case aS => simp); (case aL => simp; omega); intro v1 w1 hr1 hb1 hg1 hat1; have HR1 := Lib.hid hr1; have HB1 := Lib.hid hb1; clear hr1 hb1 hg1 hat1; rw [List.nil_append] at HR1)
  go_wp2_with fail
  go_ret
  exact ⟨_, rfl, HR1.out, HB1.out⟩
theorem findc (b : Nat) (id : Int) (f0 f1 f2 f3 : Int) (f4 : Bool) (u : Value) (w : World) (hb : w.cell? ⟨b, 0, none⟩ = some (.int .i64 id)) : Calls Try.prog 40 #[.agg #[.int .i64 f0, .int .i64 f1, .int .i64 f2, .int .i64 f3, .bool f4, u], .pointer (some ⟨b, 0, none⟩)] w fun e w' => e = .returned (.bool (f0 == id)) ∧ Below w.heap.size w w' := by
  have hb2 := fun o => Lib.cell?_alloc_some o hb
  go_enter Try.func40, Try.ntmps40
  go_wp2_with fail
  go_ret
  exact ⟨rfl, below_alloc (Below.refl _ _) _⟩
end Go.Proofs.Ytnognpfenefafaa
