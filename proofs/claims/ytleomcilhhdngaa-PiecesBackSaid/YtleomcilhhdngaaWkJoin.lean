/- The walks of a joiner's methods. -/
import Derived.Test.YtleomcilhhdngaaBase
namespace Go.Proofs.Ytleomcilhhdngaa
open Go.RowKit Go.Proofs.YtleomcilhhdngaaW.PrintWords Go.Proofs.YtleomcilhhdngaaW.PrintLast Go.Proofs.YtleomcilhhdngaaW.PrintMore
theorem put_nil (v : Value) (w : World) : Calls Try.prog 13 #[.pointer none, v] w fun e w' => e = .returned (.tuple #[.slice none 0 0, .bool false, .int .i64 4]) ∧ w = w' := by
  go_enter Try.func13, Try.ntmps13
  go_wp2
  go_ret3
  exact ⟨rfl, rfl⟩
theorem put_unmade (g : Nat) (v : Value) (w : World) (h : w.cell? ⟨g, 2, none⟩ = some (.bool false)) : Calls Try.prog 13 #[.pointer (some ⟨g, 0, none⟩), v] w fun e w' => e = .returned (.tuple #[.slice none 0 0, .bool false, .int .i64 4]) ∧ w = w' := by
  go_enter Try.func13, Try.ntmps13
  go_wp2
  go_ret3
  exact ⟨rfl, rfl⟩
theorem open_nil (w : World) : Calls Try.prog 14 #[.pointer none] w fun e w' => e = .returned (.tuple #[.int .i64 0, .bool false]) ∧ w = w' := by
  go_enter Try.func14, Try.ntmps14
  go_wp2
  go_ret2
  exact ⟨rfl, rfl⟩
theorem open_unmade (g : Nat) (w : World) (h : w.cell? ⟨g, 2, none⟩ = some (.bool false)) : Calls Try.prog 14 #[.pointer (some ⟨g, 0, none⟩)] w fun e w' => e = .returned (.tuple #[.int .i64 0, .bool false]) ∧ w = w' := by
  go_enter Try.func14, Try.ntmps14
  go_wp2
  go_ret2
  exact ⟨rfl, rfl⟩
theorem reset_nil (w : World) : Calls Try.prog 15 #[.pointer none] w fun e w' => e = .returned (.int .i64 4) ∧ w = w' := by
  go_enter Try.func15, Try.ntmps15
  go_wp2
  go_ret
  exact ⟨rfl, rfl⟩
theorem reset_unmade (g : Nat) (w : World) (h : w.cell? ⟨g, 2, none⟩ = some (.bool false)) : Calls Try.prog 15 #[.pointer (some ⟨g, 0, none⟩)] w fun e w' => e = .returned (.int .i64 4) ∧ w = w' := by
  go_enter Try.func15, Try.ntmps15
  go_wp2
  go_ret
  exact ⟨rfl, rfl⟩
/-- drop: a joiner's first two cells are cleared. -/
theorem drop_any (g : Nat) (a b c d : Value) (w : World) (h : w.heap[g]? = some (.cells #[a, b, c, d] 37 (0, 0))) :
    Calls Try.prog 19 #[.pointer (some ⟨g, 0, none⟩)] w fun e w' => e = .returned (.tuple #[]) ∧ w'.heap[g]? = some (.cells #[.bool false, .slice none 0 0, c, d] 37 (0, 0)) ∧ Chg (fun k => k = g) w w' := by
  have h0 := blk_cell h 0 a rfl
  have h1 := blk_cell h 1 b rfl
  have f0 := blk_free h 0
  have f1 := blk_free h 1
  have H := Lib.hid h
  clear h
  go_enter Try.func19, Try.ntmps19
  go_wp2
  go_end0
  exact ⟨rfl, blk_set (blk_set H.out 0 _) 1 _, ((Chg.refl (fun k => k = g) w).set ⟨g, 0, none⟩ _ (.inl rfl)).set ⟨g, 1, none⟩ _ (.inl rfl)⟩
/-- add: what was open, and parts more. -/
theorem add_any (g : Nat) (is : Bool) (v : Value) (bs parts : List Int) (c d : Value) (w : World) (S okp : Nat → Prop) (A : Option Addr) (n cp : Nat) (h : w.heap[g]? = some (.cells #[.bool is, v, c, d] 37 (0, 0)))
    (hR : KB.R 5 w 0 (fun k => S k ∧ k ≠ g) v bs) (hV : Kd.V KB 5 w 0 okp (.slice A n cp) parts) (hl : bs.length + parts.length ≤ 1073741824) :
    Calls Try.prog 20 #[.pointer (some ⟨g, 0, none⟩), .slice A n cp] w fun e w' => e = .returned (.tuple #[]) ∧ ∃ v', w'.heap[g]? = some (.cells #[.bool true, v', c, d] 37 (0, 0)) ∧
      KB.R 5 w' 0 (fun k => (S k ∨ w.heap.size ≤ k) ∧ k ≠ g) v' (bs ++ parts) ∧ Chg (fun k => S k ∨ k = g) w w' := by
  obtain ⟨rfl, hlp, hF⟩ := Kd.V_at hV
  have h0 := blk_cell h 0 _ rfl
  have h1 := blk_cell h 1 _ rfl
  have hg := blk_lt h
  have hvg : some g ≠ v.ownBlock := Kd.R_ne hR h (by decide)
  have H := Lib.hid h
  have HR := Lib.hid hR
  have HV := Lib.hid hV
  have HVG := Lib.hid hvg
  clear h hR hV hF hvg
  obtain ⟨A1, c1, hv⟩ := Kd.R_slice HR.out
  subst hv
  go_enter Try.func20, Try.ntmps20
  go_wp2_with (first
    | ((with_reducible refine gate_builtin (b := .append) (xs := #[.tmp 9, .tmp 10]) rfl ?_); at_builtin; refine Kd.R_append_rows KB (w0 := w) 0 rfl (.tmp 9) (.tmp 10) 22 5 (.int .u8 0) 1 rfl Try.underlying22 Try.info5 rfl (by decide) (by omega) _ bs parts A parts.length cp (fun k => (S k ∨ w.heap.size ≤ k) ∧ k ≠ g) (fun _ => False) rfl rfl ?aO ?aR (fun _ _ h => h) (fun _ h => h.elim) ?aF ?aB ?aS ?aL ?_; (case aO => exact Kd.R_mono HR.out (fun k hk => ⟨.inl hk.1, hk.2⟩)); (case aR => exact (Kd.V_reads' HV.out).2.2); (case aF => intro k hk; exact ⟨.inr hk, by omega⟩); (case aB => exact Below.refl _ _); (case aS => omega); (case aL => omega); intro v1 w1 hr1 hb1 hg1 hat1; have HR1 := Lib.hid hr1; have HG1 := Lib.hid hg1; clear hr1 hb1 hat1 hg1; obtain ⟨A2, c2, e1⟩ := Kd.R_slice HR1.out; rw [List.length_append] at e1; subst e1; have hk1 := (HG1.out.block g hg HVG.out).trans H.out; have i0 := blk_cell hk1 0 _ rfl; have i1 := blk_cell hk1 1 _ rfl; have f0 := blk_free hk1 0; have f1 := blk_free hk1 1; have HK1 := Lib.hid hk1; clear hk1))
  go_end0
  refine ⟨rfl, _, blk_set (blk_set HK1.out 0 _) 1 _, ?_, ?_⟩
  · exact Kd.R_far (p := ⟨g, 1, none⟩) (Kd.R_far (p := ⟨g, 0, none⟩) HR1.out (fun k hk => hk.2) _) (fun k hk => hk.2) _
  · exact (((Chg.refl (fun k => S k ∨ k = g) w).grown HG1.out (fun k hk => .inl (.inl (HR.out.1 k hk).1))).set ⟨g, 0, none⟩ _ (.inl (.inr rfl))).set ⟨g, 1, none⟩ _ (.inl (.inr rfl))
end Go.Proofs.Ytleomcilhhdngaa
