/- The walk of Flying. -/
import Derived.Test.YtnognpfenefafaaNk12
namespace Go.Proofs.Ytnognpfenefafaa
open Go.Proofs.Ytnognpfenefafaa.PNetRuns (S39 S73 k39 k73 z39 z73)
open Go.RowKit Go.Proofs.YtnognpfenefafaaW.PrintWords Go.Proofs.YtnognpfenefafaaW.PrintLast Go.Proofs.YtnognpfenefafaaW.PrintMore
set_option maxRecDepth 100000 in
set_option maxHeartbeats 2000000 in
theorem flying_no (S : Nat → Prop) (g : Nat) (dev last : Int) (ps : List S73) (w : World) (h : No S g dev last ps w) (hd : 0 < dev) (hl : ps.length ≤ 100000) :
    Calls Try.prog 13 #[.pointer (some ⟨g, 0, none⟩)] w fun e w' => ∃ v, e = .returned v ∧ Kd.R k39 39 w' w.heap.size (fun k => w.heap.size ≤ k) v (ps.map (·.f0)) ∧ Below w.heap.size w w' := by
  have hd' : decide (0 < dev) = true := by simpa using hd
  have HH := Lib.hid h
  obtain ⟨hg, hlt, v, hblk, hS⟩ := id h
  obtain ⟨A, c, rfl⟩ := Kd.S_slice hS
  have d2 := blk_cell hblk 2 (.slice A ps.length c) rfl
  have HV := Lib.hid (S_V (b := 0) hS)
  obtain ⟨n, hn⟩ : ∃ n, n = ps.length := ⟨_, rfl⟩
  rw [← hn] at d2 hl
  have HN := Lib.hid hn
  clear hg hlt hblk hS h hn hd
  go_enter Try.func13, Try.ntmps13
  go_wp2_with fail
  refine (made_no _ _ _ _ _ _ HH.out).mono ?_
  rintro e w1 ⟨rfl, rfl⟩
  rw [hd']
  go_wp2_with fail
  go_loopw [3, 14] (fun vo vi wr => ∃ i : Nat, vi = .int .i64 i ∧ i ≤ n ∧ Kd.R k39 39 wr w1.heap.size (fun k => w1.heap.size ≤ k) vo ((ps.take i).map (·.f0)) ∧ Below w1.heap.size w1 wr) (fun _ vi _ => n - (intOf vi).toNat)
  case atStart => exact ⟨0, rfl, Nat.zero_le _, Kd.R_nil _ _ _ _ _, Below.refl _ _⟩
  case round =>
    obtain ⟨i, rfl, hi, hR, hbl⟩ := hrel
    have HRo := Lib.hid hR
    have hli : i < n ∨ i = n := by omega
    rcases hli with hlt | hlt
    · obtain ⟨ad, A5, c5, x, rfl, ⟨hc0, hc1, hc2, hc3, hc4, hc5⟩, hV5, HX⟩ := V_pk_at (Kd.V_step HV.out (fun k _ hl => hbl.block k hl)) i (by rw [← HN.out]; exact hlt)
      have hi64 : (i : Int) < (n : Int) := by omega
      have hin : (n : Int) ≤ 100000 := by omega
      have htl : ((ps.take i).map (·.f0)).length = i := by rw [List.length_map, List.length_take, ← HN.out]; omega
      have htk : (ps.take i).map (·.f0) ++ [x.f0] = (ps.take (i + 1)).map (·.f0) := by
        have hip : i < ps.length := by rw [← HN.out]; exact hlt
        have hxx : x = ps[i] := by rw [HX.out, List.getD_eq_getElem?_getD, List.getElem?_eq_getElem hip, Option.getD_some]
        rw [hxx, List.take_add_one, List.getElem?_eq_getElem hip, List.map_append]
        rfl
      have HTK := Lib.hid htk
      have HTL := Lib.hid htl
      have HBL := Lib.hid hbl
      clear hbl hV5 htk htl hR
      go_wp2_with (
        (with_reducible refine gate_builtin (b := .append) (xs := #[.tmp 18, .tmp 21]) rfl ?_); at_builtin; go_loud (refine Kd.R_append k39 (w0 := w1) (W := wr.alloc (.cells #[.int .i64 x.f0.f0, .int .i64 x.f0.f1, .int .i64 x.f0.f2, .int .i64 x.f0.f3, .bool x.f0.f4, .slice A5 x.f1.length c5] 69)) w1.heap.size rfl (.tmp 18) (.tmp 21) 46 39 (.agg #[.int .i64 0, .int .i64 0, .int .i64 0, .int .i64 0, .bool false]) 40 rfl Try.underlying46 Try.info39 rfl (by decide) (by omega) _ _ x.f0 [.int .i64 x.f0.f0, .int .i64 x.f0.f1, .int .i64 x.f0.f2, .int .i64 x.f0.f3, .bool x.f0.f4] (fun k => w1.heap.size ≤ k) (fun _ => False) rfl ?aX (PNetRuns.k39_mkM _ _ _ _) (fun _ h => h.elim) ?aF (Kd.R_alloc HRo.out _) ?aB ?aS ?aL ?_); (case aX => show Value.slice (some ⟨wr.heap.size + 1, 0, none⟩) 1 1 = _; rw [World.size_alloc]); (case aF => intro k hk; have := HBL.out.size; rw [World.size_alloc] at hk; omega); (case aB => exact below_alloc HBL.out _); (case aS => have := HBL.out.size; rw [World.size_alloc]; omega); (case aL => rw [HTL.out]; omega); intro v2 w2 hr2 hb2 hg2 hat2; rw [HTK.out] at hr2; have HR2 := Lib.hid hr2; have HB2 := Lib.hid hb2; clear hr2 hb2 hg2 hat2)
      go_wp2_with fail
      go_roundw
      case rel =>
        refine ⟨i + 1, ?_, by omega, HR2.out, HB2.out⟩
        go_num
      case measure => simp [intOf]; omega
    · have hi64 : decide ((i : Int) < (n : Int)) = false := by simp; omega
      have HBL := Lib.hid hbl
      have HRf := HRo.out
      rw [hlt, HN.out, List.take_length] at HRf
      have HRF := Lib.hid HRf
      clear hbl hR HRf
      go_wp2_with fail
      go_ret
      exact ⟨_, rfl, HRF.out, HBL.out⟩
end Go.Proofs.Ytnognpfenefafaa
