/- The walks of Flying and Between, of both nets, and of Same and Numbers. -/
import Derived.Test.YtnognpfenefafaaNk12
import Derived.Test.YtnognpfenefafaaNo1
import Derived.RangeFuncNested
import Derived.RangeFuncBound
import Derived.RangeFuncCalls
import Derived.RangeFuncLeaves
import Derived.RangeFuncBox
import Derived.Shelf.Abstract
import Derived.Shelf.RegionOpen
import Derived.OwnWalkIn
import Derived.TacticsInMore
import Derived.LoopNIn
import Derived.LoopIn
import Derived.Maps.AppendAt
namespace Go.Proofs.Ytnognpfenefafaa
open Go.Proofs.Ytnognpfenefafaa.PNetRuns (S39 S73 k39 k73 z39 z73)
open Go.RowKit Go.Proofs.YtnognpfenefafaaW.PrintWords Go.Proofs.YtnognpfenefafaaW.PrintLast Go.Proofs.YtnognpfenefafaaW.PrintMore
set_option maxRecDepth 100000 in
set_option maxHeartbeats 2000000 in
theorem flying_no (S : Nat → Prop) (g : Nat) (dev last : Int) (ps : List S73) (w : World) (h : No S g dev last ps w) (hd : 0 < dev) (hl : ps.length ≤ 100000) :
    Calls Try.prog 13 #[.pointer (some ⟨g, 0, none⟩)] w fun e w' => ∃ v, e = .returned v ∧ Kd.R k39 39 w' w.heap.size (fun k => w.heap.size ≤ k) v (ps.map (·.f0)) ∧ Below w.heap.size w w' := by
  have hd' : decide (0 < dev) = true := by simpa using hd
  have HH := Lib.hid h
  obtain ⟨hg, hlt, v, hblk, hS⟩ := id h
  obtain ⟨A, c, rfl⟩ := Kd.S_slice hS
  have d2 := blk_cell hblk 2 (.slice A ps.length c) rfl
  have HV := Lib.hid (S_V (b := 0) hS)
  obtain ⟨n, hn⟩ : ∃ n, n = ps.length := ⟨_, rfl⟩
  rw [← hn] at d2 hl
  have HN := Lib.hid hn
  clear hg hlt hblk hS h hn hd
  go_enter Try.func13, Try.ntmps13
  go_wp2_with fail
  refine (made_no _ _ _ _ _ _ HH.out).mono ?_
  rintro e w1 ⟨rfl, rfl⟩
  rw [hd']
  go_wp2_with fail
  go_loopw [3, 14] (fun vo vi wr => ∃ i : Nat, vi = .int .i64 i ∧ i ≤ n ∧ Kd.R k39 39 wr w1.heap.size (fun k => w1.heap.size ≤ k) vo ((ps.take i).map (·.f0)) ∧ Below w1.heap.size w1 wr) (fun _ vi _ => n - (intOf vi).toNat)
  case atStart => exact ⟨0, rfl, Nat.zero_le _, Kd.R_nil _ _ _ _ _, Below.refl _ _⟩
  case round =>
    obtain ⟨i, rfl, hi, hR, hbl⟩ := hrel
    have HRo := Lib.hid hR
    have hli : i < n ∨ i = n := by omega
    rcases hli with hlt | hlt
    · obtain ⟨ad, A5, c5, x, rfl, ⟨hc0, hc1, hc2, hc3, hc4, hc5⟩, hV5, HX⟩ := V_pk_at (Kd.V_step HV.out (fun k _ hl => hbl.block k hl)) i (by rw [← HN.out]; exact hlt)
      have hi64 : (i : Int) < (n : Int) := by omega
      have hin : (n : Int) ≤ 100000 := by omega
      have htl : ((ps.take i).map (·.f0)).length = i := by rw [List.length_map, List.length_take, ← HN.out]; omega
      have htk : (ps.take i).map (·.f0) ++ [x.f0] = (ps.take (i + 1)).map (·.f0) := by
        have hip : i < ps.length := by rw [← HN.out]; exact hlt
        have hxx : x = ps[i] := by rw [HX.out, List.getD_eq_getElem?_getD, List.getElem?_eq_getElem hip, Option.getD_some]
        rw [hxx, List.take_add_one, List.getElem?_eq_getElem hip, List.map_append]
        rfl
      have HTK := Lib.hid htk
      have HTL := Lib.hid htl
      have HBL := Lib.hid hbl
      clear hbl hV5 htk htl hR
      go_wp2_with (
        (with_reducible refine gate_builtin (b := .append) (xs := #[.tmp 18, .tmp 21]) rfl ?_); at_builtin; go_loud (refine Kd.R_append k39 (w0 := w1) (W := wr.alloc (.cells #[.int .i64 x.f0.f0, .int .i64 x.f0.f1, .int .i64 x.f0.f2, .int .i64 x.f0.f3, .bool x.f0.f4, .slice A5 x.f1.length c5] 69)) w1.heap.size rfl (.tmp 18) (.tmp 21) 46 39 (.agg #[.int .i64 0, .int .i64 0, .int .i64 0, .int .i64 0, .bool false]) 40 rfl Try.underlying46 Try.info39 rfl (by decide) (by omega) _ _ x.f0 [.int .i64 x.f0.f0, .int .i64 x.f0.f1, .int .i64 x.f0.f2, .int .i64 x.f0.f3, .bool x.f0.f4] (fun k => w1.heap.size ≤ k) (fun _ => False) rfl ?aX (PNetRuns.k39_mkM _ _ _ _) (fun _ h => h.elim) ?aF (Kd.R_alloc HRo.out _) ?aB ?aS ?aL ?_); (case aX => show Value.slice (some ⟨wr.heap.size + 1, 0, none⟩) 1 1 = _; rw [World.size_alloc]); (case aF => intro k hk; have := HBL.out.size; rw [World.size_alloc] at hk; omega); (case aB => exact below_alloc HBL.out _); (case aS => have := HBL.out.size; rw [World.size_alloc]; omega); (case aL => rw [HTL.out]; omega); intro v2 w2 hr2 hb2 hg2 hat2; rw [HTK.out] at hr2; have HR2 := Lib.hid hr2; have HB2 := Lib.hid hb2; clear hr2 hb2 hg2 hat2)
      go_wp2_with fail
      go_roundw
      case rel =>
        refine ⟨i + 1, ?_, by omega, HR2.out, HB2.out⟩
        go_num
      case measure => simp [intOf]; omega
    · have hi64 : decide ((i : Int) < (n : Int)) = false := by simp; omega
      have HBL := Lib.hid hbl
      have HRf := HRo.out
      rw [hlt, HN.out, List.take_length] at HRf
      have HRF := Lib.hid HRf
      clear hbl hR HRf
      go_wp2_with fail
      go_ret
      exact ⟨_, rfl, HRF.out, HBL.out⟩
end Go.Proofs.Ytnognpfenefafaa
namespace Go.Proofs.Ytnognpfenefafaa
open Go.Proofs.Ytnognpfenefafaa.PNetRuns (S39 S73 k39 k73 z39 z73)
open Go.RowKit Go.Proofs.YtnognpfenefafaaW.PrintWords Go.Proofs.YtnognpfenefafaaW.PrintLast Go.Proofs.YtnognpfenefafaaW.PrintMore
set_option maxRecDepth 100000 in
set_option maxHeartbeats 2000000 in
theorem rflying_no (S : Nat → Prop) (g : Nat) (dev last : Int) (ps : List S73) (w : World) (h : Rn S g dev last ps w) (hl : ps.length ≤ 100000) :
    Calls Try.prog 14 #[.pointer (some ⟨g, 0, none⟩)] w fun e w' => ∃ v, e = .returned v ∧ Kd.R k39 39 w' w.heap.size (fun k => w.heap.size ≤ k) v (ps.map (·.f0)) ∧ Below w.heap.size w w' := by
  obtain ⟨hg, hlt, v, hblk, hS⟩ := id h
  obtain ⟨A, c, rfl⟩ := Kd.S_slice hS
  have HB := Lib.hid hblk
  have HV := Lib.hid (S_V (b := 0) hS)
  obtain ⟨n, hn⟩ : ∃ n, n = ps.length := ⟨_, rfl⟩
  rw [← hn] at hl
  have HN := Lib.hid hn
  clear hg hlt hblk hS h hn
  go_enter Try.func14, Try.ntmps14
  go_wp2_with fail
  go_loopw [3, 4] (fun vo vi wr => ∃ i : Nat, vi = .int .i64 i ∧ i ≤ n ∧ Kd.R k39 39 wr w.heap.size (fun k => w.heap.size ≤ k) vo ((ps.take i).map (·.f0)) ∧ Below w.heap.size w wr) (fun _ vi _ => n - (intOf vi).toNat)
  case atStart => exact ⟨0, rfl, Nat.zero_le _, Kd.R_nil _ _ _ _ _, Below.refl _ _⟩
  case round =>
    obtain ⟨i, rfl, hi, hR, hbl⟩ := hrel
    have HRo := Lib.hid hR
    have d2 := blk_cell (keepB hbl HB.out) 2 (.slice A n c) (by rw [HN.out]; rfl)
    have hli : i < n ∨ i = n := by omega
    rcases hli with hlt | hlt
    · obtain ⟨ad, A5, c5, x, rfl, ⟨hc0, hc1, hc2, hc3, hc4, hc5⟩, hV5, HX⟩ := V_pk_at (Kd.V_step HV.out (fun k _ hl => hbl.block k hl)) i (by rw [← HN.out]; exact hlt)
      have hi64 : (i : Int) < (n : Int) := by omega
      have hin : (n : Int) ≤ 100000 := by omega
      have htl : ((ps.take i).map (·.f0)).length = i := by rw [List.length_map, List.length_take, ← HN.out]; omega
      have htk : (ps.take i).map (·.f0) ++ [x.f0] = (ps.take (i + 1)).map (·.f0) := by
        have hip : i < ps.length := by rw [← HN.out]; exact hlt
        have hxx : x = ps[i] := by rw [HX.out, List.getD_eq_getElem?_getD, List.getElem?_eq_getElem hip, Option.getD_some]
        rw [hxx, List.take_add_one, List.getElem?_eq_getElem hip, List.map_append]
        rfl
      have HTK := Lib.hid htk
      have HTL := Lib.hid htl
      have HBL := Lib.hid hbl
      clear hbl hV5 htk htl hR
      go_wp2_with (
        (with_reducible refine gate_builtin (b := .append) (xs := #[.tmp 14, .tmp 23]) rfl ?_); at_builtin; go_loud (refine Kd.R_append k39 (w0 := w) (W := wr) w.heap.size rfl (.tmp 14) (.tmp 23) 46 39 (.agg #[.int .i64 0, .int .i64 0, .int .i64 0, .int .i64 0, .bool false]) 40 rfl Try.underlying46 Try.info39 rfl (by decide) (by omega) _ _ x.f0 [.int .i64 x.f0.f0, .int .i64 x.f0.f1, .int .i64 x.f0.f2, .int .i64 x.f0.f3, .bool x.f0.f4] (fun k => w.heap.size ≤ k) (fun _ => False) rfl ?aX (PNetRuns.k39_mkM _ _ _ _) (fun _ h => h.elim) ?aF HRo.out ?aB ?aS ?aL ?_); (case aX => rfl); (case aF => intro k hk; have := HBL.out.size; omega); (case aB => exact HBL.out); (case aS => exact HBL.out.size); (case aL => rw [HTL.out]; omega); intro v2 w2 hr2 hb2 hg2 hat2; rw [HTK.out] at hr2; have HR2 := Lib.hid hr2; have HB2 := Lib.hid hb2; clear hr2 hb2 hg2 hat2)
      go_wp2_with fail
      go_roundw
      case rel =>
        refine ⟨i + 1, ?_, by omega, HR2.out, HB2.out⟩
        go_num
      case measure => simp [intOf]; omega
    · have hi64 : decide ((i : Int) < (n : Int)) = false := by simp; omega
      have HBL := Lib.hid hbl
      have HRf := HRo.out
      rw [hlt, HN.out, List.take_length] at HRf
      have HRF := Lib.hid HRf
      clear hbl hR HRf
      go_wp2_with fail
      go_ret
      exact ⟨_, rfl, HRF.out, HBL.out⟩
end Go.Proofs.Ytnognpfenefafaa
namespace Go.Proofs.Ytnognpfenefafaa
open Go.Proofs.Ytnognpfenefafaa.PNetRuns (S39 S73 k39 k73 z39 z73)
open Go.RowKit Go.Proofs.YtnognpfenefafaaW.PrintWords Go.Proofs.YtnognpfenefafaaW.PrintLast Go.Proofs.YtnognpfenefafaaW.PrintMore
theorem Try.info3 : (Try.prog.info? 3).map (fun i => (i.zero, i.size, i.bytes)) = some (some (.int .i64 0), 1, 8) := by kernel_rfl
/-- The numbers of those from one device to another one. -/
def betw (fr to_ : Int) (ps : List S73) : List Int := (ps.filter (fun p => p.f0.f1 == fr && p.f0.f2 == to_)).map (·.f0.f0)
theorem betw_step {fr to_ : Int} {ps : List S73} {i : Nat} (hi : i < ps.length) : betw fr to_ (ps.take (i + 1)) = betw fr to_ (ps.take i) ++ (if (ps.getD i z73).f0.f1 == fr && (ps.getD i z73).f0.f2 == to_ then [(ps.getD i z73).f0.f0] else []) := by
  unfold betw
  rw [List.take_add_one, List.getElem?_eq_getElem hi, List.filter_append, List.map_append, List.getD_eq_getElem?_getD, List.getElem?_eq_getElem hi, Option.getD_some]
  congr 1
  simp only [Option.toList, List.filter_cons, List.filter_nil]
  split <;> simp
theorem betw_le (fr to_ : Int) (ps : List S73) : (betw fr to_ ps).length ≤ ps.length := by
  unfold betw
  rw [List.length_map]
  exact List.length_filter_le _ _
set_option maxRecDepth 100000 in
set_option maxHeartbeats 2000000 in
theorem rbetween_no (S : Nat → Prop) (g : Nat) (dev last fr to_ : Int) (ps : List S73) (w : World) (h : Rn S g dev last ps w) (hl : ps.length ≤ 100000) :
    Calls Try.prog 17 #[.pointer (some ⟨g, 0, none⟩), .int .i64 fr, .int .i64 to_] w fun e w' => ∃ v, e = .returned v ∧ (Kd.int .i64).R 3 w' w.heap.size (fun k => w.heap.size ≤ k) v (betw fr to_ ps) ∧ Below w.heap.size w w' := by
  obtain ⟨hg, hlt, v, hblk, hS⟩ := id h
  obtain ⟨A, c, rfl⟩ := Kd.S_slice hS
  have HB := Lib.hid hblk
  have HV := Lib.hid (S_V (b := 0) hS)
  obtain ⟨n, hn⟩ : ∃ n, n = ps.length := ⟨_, rfl⟩
  rw [← hn] at hl
  have HN := Lib.hid hn
  clear hg hlt hblk hS h hn
  go_enter Try.func17, Try.ntmps17
  go_wp2_with fail
  go_loopw [7, 8] (fun vo vi wr => ∃ i : Nat, vi = .int .i64 i ∧ i ≤ n ∧ (Kd.int .i64).R 3 wr w.heap.size (fun k => w.heap.size ≤ k) vo (betw fr to_ (ps.take i)) ∧ Below w.heap.size w wr) (fun _ vi _ => n - (intOf vi).toNat)
  case atStart => exact ⟨0, rfl, Nat.zero_le _, Kd.R_nil _ _ _ _ _, Below.refl _ _⟩
  case round =>
    obtain ⟨i, rfl, hi, hR, hbl⟩ := hrel
    have HRo := Lib.hid hR
    have d2 := blk_cell (keepB hbl HB.out) 2 (.slice A n c) (by rw [HN.out]; rfl)
    have hli : i < n ∨ i = n := by omega
    rcases hli with hlt | hlt
    · obtain ⟨ad, A5, c5, x, rfl, ⟨hc0, hc1, hc2, hc3, hc4, hc5⟩, hV5, HX⟩ := V_pk_at (Kd.V_step HV.out (fun k _ hl => hbl.block k hl)) i (by rw [← HN.out]; exact hlt)
      have hi64 : (i : Int) < (n : Int) := by omega
      have hin : (n : Int) ≤ 100000 := by omega
      have hst := betw_step (fr := fr) (to_ := to_) (ps := ps) (i := i) (by rw [← HN.out]; exact hlt)
      rw [← HX.out] at hst
      have HST := Lib.hid hst
      have htl : (betw fr to_ (ps.take i)).length ≤ 100000 := Nat.le_trans (betw_le _ _ _) (by rw [List.length_take]; omega)
      have HTL := Lib.hid htl
      have HBL := Lib.hid hbl
      clear hbl hV5 hst htl hR
      by_cases h1 : x.f0.f1 = fr
      · have b1 : (x.f0.f1 == fr) = true := by simpa using h1
        by_cases h2 : x.f0.f2 = to_
        · have b2 : (x.f0.f2 == to_) = true := by simpa using h2
          rw [b1, b2] at HST
          simp only [Bool.and_self, if_true] at HST
          clear h1 h2
          go_wp2_with (
            (with_reducible refine gate_builtin (b := .append) (xs := #[.tmp 42, .tmp 52]) rfl ?_); at_builtin; go_loud (refine Kd.R_append (Kd.int .i64) (w0 := w) (W := wr) w.heap.size rfl (.tmp 42) (.tmp 52) 49 3 (.int .i64 0) 8 rfl Try.underlying49 Try.info3 rfl (by decide) (by omega) _ _ x.f0.f0 [.int .i64 x.f0.f0] (fun k => w.heap.size ≤ k) (fun _ => False) rfl ?aX rfl (fun _ h => h.elim) ?aF HRo.out ?aB ?aS ?aL ?_); (case aX => rfl); (case aF => intro k hk; have := HBL.out.size; omega); (case aB => exact HBL.out); (case aS => exact HBL.out.size); (case aL => have := HTL.out; omega); intro v2 w2 hr2 hb2 hg2 hat2; rw [← HST.out] at hr2; have HR2 := Lib.hid hr2; have HB2 := Lib.hid hb2; clear hr2 hb2 hg2 hat2)
          go_wp2_with fail
          go_roundw
          case rel =>
            refine ⟨i + 1, ?_, by omega, HR2.out, HB2.out⟩
            go_num
          case measure => simp [intOf]; omega
        · have b2 : (x.f0.f2 == to_) = false := by simpa using h2
          rw [b1, b2] at HST
          simp only [Bool.and_false, Bool.false_eq_true, if_false, List.append_nil] at HST
          have HR2 := HRo.out
          rw [← HST.out] at HR2
          have HR3 := Lib.hid HR2
          clear h1 h2 HR2
          go_wp2_with fail
          go_roundw
          case rel =>
            refine ⟨i + 1, ?_, by omega, HR3.out, HBL.out⟩
            go_num
          case measure => simp [intOf]; omega
      · have b1 : (x.f0.f1 == fr) = false := by simpa using h1
        rw [b1] at HST
        simp only [Bool.false_and, Bool.false_eq_true, if_false, List.append_nil] at HST
        have HR2 := HRo.out
        rw [← HST.out] at HR2
        have HR3 := Lib.hid HR2
        clear h1 HR2
        go_wp2_with fail
        go_roundw
        case rel =>
          refine ⟨i + 1, ?_, by omega, HR3.out, HBL.out⟩
          go_num
        case measure => simp [intOf]; omega
    · have hi64 : decide ((i : Int) < (n : Int)) = false := by simp; omega
      have HBL := Lib.hid hbl
      have HRf := HRo.out
      rw [hlt, HN.out, List.take_length] at HRf
      have HRF := Lib.hid HRf
      clear hbl hR HRf
      go_wp2_with fail
      go_ret
      exact ⟨_, rfl, HRF.out, HBL.out⟩
/-- An element of a slice of datagrams that is read. -/
theorem C_dg_at {w : World} {A : Option Addr} {n : Nat} {xs : List S39} (h : k39.C w A n xs) (i : Nat) (hi : i < n) :
    ∃ ad, ∃ x : S39, A = some ad ∧ w.cell? (ad.add (i * 5)) = some (.int .i64 x.f0) ∧ w.cell? ⟨(ad.add (i * 5)).block, (ad.add (i * 5)).off + 1, none⟩ = some (.int .i64 x.f1) ∧ w.cell? ⟨(ad.add (i * 5)).block, (ad.add (i * 5)).off + 2, none⟩ = some (.int .i64 x.f2) ∧ w.cell? ⟨(ad.add (i * 5)).block, (ad.add (i * 5)).off + 3, none⟩ = some (.int .i64 x.f3) ∧ w.cell? ⟨(ad.add (i * 5)).block, (ad.add (i * 5)).off + 4, none⟩ = some (.bool x.f4) ∧ Hid (x = xs.getD i z39) := by
  obtain ⟨ad, e, h0, h1, h2, h3, h4⟩ := PNetRuns.at_T39 h (i : Int) (by omega) (by omega)
  exact ⟨ad, _, e, h0, h1, h2, h3, h4, rfl⟩
set_option maxRecDepth 100000 in
set_option maxHeartbeats 2000000 in
theorem same_eq (A B : Option Addr) (n c m d : Nat) (xs : List S39) (w : World) (ha : k39.C w A n xs) (hb : k39.C w B m xs) (hl : xs.length ≤ 100000) :
    Calls Try.prog 12 #[.slice A n c, .slice B m d] w fun e w' => e = .returned (.bool true) ∧ Below w.heap.size w w' := by
  have hn : xs.length = n := ha.1
  obtain rfl : n = m := hn.symm.trans hb.1
  have HA := Lib.hid ha
  have HB := Lib.hid hb
  have hn5 : n ≤ 100000 := by omega
  clear ha hb hn hl
  go_enter Try.func12, Try.ntmps12
  go_wp2_with fail
  go_loopw [5] (fun vi wr => ∃ i : Nat, vi = .int .i64 i ∧ i ≤ n ∧ k39.C wr A n xs ∧ k39.C wr B n xs ∧ Below w.heap.size w wr) (fun vi _ => n - (intOf vi).toNat)
  case atStart => exact ⟨0, rfl, Nat.zero_le _, HA.out, HB.out, Below.refl _ _⟩
  case round =>
    obtain ⟨i, rfl, hi, hA, hB, hbl⟩ := hrel
    have HBL := Lib.hid hbl
    have hn64 : (n : Int) ≤ 100000 := by omega
    have hli : i < n ∨ i = n := by omega
    rcases hli with hlt | hlt
    · obtain ⟨ad, x, rfl, a0, a1, a2, a3, a4, HX⟩ := C_dg_at hA i hlt
      obtain ⟨bd, y, rfl, b0, b1, b2, b3, b4, HY⟩ := C_dg_at hB i hlt
      obtain rfl : x = y := HX.out.trans HY.out.symm
      have HA1 := Lib.hid hA
      have HB1 := Lib.hid hB
      have hi64 : (i : Int) < (n : Int) := by omega
      clear hA hB hbl HX HY
      go_wp2_with fail
      go_quiet (fail)
      go_wp2_with fail
      go_roundw
      case rel =>
        refine ⟨i + 1, ?_, by omega, Kd.C_drewN HA1.out _, Kd.C_drewN HB1.out _, pw_below_drewN HBL.out _⟩
        go_num
      case measure => simp [intOf]; omega
    · have hi64 : decide ((i : Int) < (n : Int)) = false := by simp; omega
      clear hA hB hbl
      go_wp2_with fail
      go_ret
      exact ⟨rfl, HBL.out⟩
/-- An element of a slice of numbers that is read. -/
theorem C_int_at {w : World} {A : Option Addr} {n : Nat} {xs : List Int} (h : (Kd.int .i64).C w A n xs) (i : Nat) (hi : i < n) : ∃ ad, ∃ x : Int, A = some ad ∧ w.cell? (ad.add i) = some (.int .i64 x) ∧ Hid (x = xs.getD i 0) := by
  obtain ⟨ad, cs, e, _, hr, hcell⟩ := ReadsRow.get_ h 0 (i : Int) (by omega) (by omega)
  have hcc : cs = [.int .i64 (xs.getD ((i : Int)).toNat 0)] := hr
  subst hcc
  have := hcell 0 _ rfl
  exact ⟨ad, _, e, by simpa [Kd.int, Kd.scalar] using this, rfl⟩
set_option maxRecDepth 100000 in
set_option maxHeartbeats 2000000 in
theorem numbers_eq (A B : Option Addr) (n c m d : Nat) (xs : List Int) (w : World) (ha : (Kd.int .i64).C w A n xs) (hb : (Kd.int .i64).C w B m xs) (hl : xs.length ≤ 100000) :
    Calls Try.prog 15 #[.slice A n c, .slice B m d] w fun e w' => e = .returned (.bool true) ∧ Below w.heap.size w w' := by
  have hn : xs.length = n := ha.1
  obtain rfl : n = m := hn.symm.trans hb.1
  have HA := Lib.hid ha
  have HB := Lib.hid hb
  have hn5 : n ≤ 100000 := by omega
  clear ha hb hn hl
  go_enter Try.func15, Try.ntmps15
  go_wp2_with fail
  go_loopw [5] (fun vi wr => ∃ i : Nat, vi = .int .i64 i ∧ i ≤ n ∧ (Kd.int .i64).C wr A n xs ∧ (Kd.int .i64).C wr B n xs ∧ Below w.heap.size w wr) (fun vi _ => n - (intOf vi).toNat)
  case atStart => exact ⟨0, rfl, Nat.zero_le _, HA.out, HB.out, Below.refl _ _⟩
  case round =>
    obtain ⟨i, rfl, hi, hA, hB, hbl⟩ := hrel
    have HBL := Lib.hid hbl
    have hn64 : (n : Int) ≤ 100000 := by omega
    have hli : i < n ∨ i = n := by omega
    rcases hli with hlt | hlt
    · obtain ⟨ad, x, rfl, a0, HX⟩ := C_int_at hA i hlt
      obtain ⟨bd, y, rfl, b0, HY⟩ := C_int_at hB i hlt
      obtain rfl : x = y := HX.out.trans HY.out.symm
      have HA1 := Lib.hid hA
      have HB1 := Lib.hid hB
      have hi64 : (i : Int) < (n : Int) := by omega
      clear hA hB hbl HX HY
      go_wp2_with fail
      go_quiet (fail)
      go_wp2_with fail
      go_roundw
      case rel =>
        refine ⟨i + 1, ?_, by omega, Kd.C_drewN HA1.out _, Kd.C_drewN HB1.out _, pw_below_drewN HBL.out _⟩
        go_num
      case measure => simp [intOf]; omega
    · have hi64 : decide ((i : Int) < (n : Int)) = false := by simp; omega
      clear hA hB hbl
      go_wp2_with fail
      go_ret
      exact ⟨rfl, HBL.out⟩
end Go.Proofs.Ytnognpfenefafaa
namespace Go.Proofs.Ytnognpfenefafaa
open Go.Proofs.Ytnognpfenefafaa.PNetRuns (S39 S73 k39 k73 z39 z73)
open Go.RowKit Go.Shelf Go.Proofs.YtnognpfenefafaaW.PrintWords Go.Proofs.YtnognpfenefafaaW.PrintLast Go.Proofs.YtnognpfenefafaaW.PrintMore
attribute [local go_sem] Oper.semAt_some
/-- A packet's cells. -/
structure Pk6 where
  f0 : Int
  f1 : Int
  f2 : Int
  f3 : Int
  f4 : Bool
  A : Option Addr
  n : Nat
  c : Nat
def Pk6.cells (x : Pk6) : Array Value := #[.int .i64 x.f0, .int .i64 x.f1, .int .i64 x.f2, .int .i64 x.f3, .bool x.f4, .slice x.A x.n x.c]
def zpk : Pk6 := ⟨0, 0, 0, 0, false, none, 0, 0⟩
def pick6 (fr to_ : Int) (L : List Pk6) : List Pk6 := L.filter (fun x => x.f1 == fr && x.f2 == to_)
theorem pick6_step {fr to_ : Int} {L : List Pk6} {i : Nat} (hi : i < L.length) : pick6 fr to_ (L.take (i + 1)) = pick6 fr to_ (L.take i) ++ (if (L.getD i zpk).f1 == fr && (L.getD i zpk).f2 == to_ then [L.getD i zpk] else []) := by
  unfold pick6
  rw [List.take_add_one, List.getElem?_eq_getElem hi, List.filter_append, List.getD_eq_getElem?_getD, List.getElem?_eq_getElem hi, Option.getD_some]
  congr 1
  simp only [Option.toList, List.filter_cons, List.filter_nil]
theorem pick6_lt {fr to_ : Int} {L : List Pk6} {i : Nat} (hi : i < L.length) (h : ((L.getD i zpk).f1 == fr && (L.getD i zpk).f2 == to_) = true) : (pick6 fr to_ (L.take i)).length < (pick6 fr to_ L).length := by
  have h1 := pick6_step (fr := fr) (to_ := to_) hi
  rw [h, if_pos rfl] at h1
  have h2 : (pick6 fr to_ (L.take (i + 1))).length ≤ (pick6 fr to_ L).length := by
    unfold pick6
    exact (List.Sublist.filter _ (List.take_sublist _ _)).length_le
  rw [h1, List.length_append, List.length_singleton] at h2
  omega
set_option maxHeartbeats 1000000 in
/-- between: the net and the two devices are boxed; the function value captures the boxes. -/
theorem bmaker (F : Fence) (n : Nat) (h5 : F.fn 31) (hro : F.round = none) (p : Option Addr) (fr to_ : Int) (w : World) :
    CallsIn F n Try.prog 31 #[.pointer p, .int .i64 fr, .int .i64 to_] w fun e w' => e = .returned (.func (.func 38) #[] #[.pointer (some ⟨w.heap.size, 0, none⟩), .pointer (some ⟨w.heap.size + 1, 0, none⟩), .pointer (some ⟨w.heap.size + 1 + 1, 0, none⟩)]) ∧ w' = ((w.alloc (.cells #[.pointer p] 24)).alloc (.cells #[.int .i64 fr] 3)).alloc (.cells #[.int .i64 to_] 3) := by
  refine callsIn_of_wp Try.func31 rfl h5 ?_ hro
  simp only [Try.ntmps31, List.size_toArray, List.length_cons, List.length_nil, Nat.reduceAdd, Nat.reduceSub, Array.replicate_succ, Array.replicate_zero, List.push_toArray, List.append_toArray, List.nil_append, List.cons_append]
  gi_wp2
  go_ret
  exact ⟨rfl, rfl⟩
/-- What a round keeps: what lay below n₀, and the boxes of the two devices. -/
def KB3 (n₀ b2 b3 : Nat) (A B : World) : Prop := Below n₀ A B ∧ B.heap[b2]? = A.heap[b2]? ∧ B.heap[b3]? = A.heap[b3]?
theorem blk_of_cell {W : World} {b o : Nat} {v : Value} (h : W.cell? ⟨b, o, none⟩ = some v) : b < W.heap.size := World.block_lt_of_cell? W ⟨b, o, none⟩ h
theorem KB3.refl (n₀ b2 b3 : Nat) (A : World) : KB3 n₀ b2 b3 A A := ⟨Below.refl _ _, rfl, rfl⟩
theorem KB3.trans {n₀ b2 b3 : Nat} {A B C : World} (h : KB3 n₀ b2 b3 A B) (k : KB3 n₀ b2 b3 B C) : KB3 n₀ b2 b3 A C := ⟨h.1.trans k.1, k.2.1.trans h.2.1, k.2.2.trans h.2.2⟩
theorem KB3.alloc {n₀ b2 b3 : Nat} {A : World} (o : Obj) (h0 : n₀ ≤ A.heap.size) (h2 : b2 < A.heap.size) (h3 : b3 < A.heap.size) : KB3 n₀ b2 b3 A (A.alloc o) := ⟨(Below.refl _ A).alloc h0 o, Below.heap_alloc _ _ _ h2, Below.heap_alloc _ _ _ h3⟩
theorem KB3.cell2 {n₀ b2 b3 : Nat} {A B : World} (h : KB3 n₀ b2 b3 A B) {v : Value} (hc : A.cell? ⟨b2, 0, none⟩ = some v) : B.cell? ⟨b2, 0, none⟩ = some v := (World.cell?_of_block h.2.1).trans hc
theorem KB3.cell3 {n₀ b2 b3 : Nat} {A B : World} (h : KB3 n₀ b2 b3 A B) {v : Value} (hc : A.cell? ⟨b3, 0, none⟩ = some v) : B.cell? ⟨b3, 0, none⟩ = some v := (World.cell?_of_block h.2.2).trans hc
set_option maxRecDepth 100000 in
set_option maxHeartbeats 2000000 in
/-- between's closure: for every loop body that keeps what lay below n₀. -/
theorem biter (F : Fence) (n : Nat) (h7 : F.fn 38) (hro : F.round = none) (hn : 1 ≤ n) (l b1 b2 b3 n₀ g gA m cap : Nat) (fr to_ : Int) (A : Option Addr) (L : List Pk6) (hL : L.length = m) (hm : m ≤ 100000) (hgA : gA < n₀) (hA : 0 < m → A = some ⟨gA, 0, none⟩) (J Jx : List Pk6 → World → Prop)
    (W : World) (hJ : AbidesFrom W.heap.size J)
    (hY : ∀ pre x W1, J pre W1 → pre.length < (pick6 fr to_ L).length → YieldAt F (n - 1) Try.prog l #[.agg x.cells] W1 fun e W' =>
      (e = .returned (.bool true) ∧ J (pre ++ [x]) W' ∧ KB3 n₀ b2 b3 W1 W') ∨ (e = .returned (.bool false) ∧ Jx (pre ++ [x]) W'))
    (hc1 : W.cell? ⟨b1, 0, none⟩ = some (.pointer (some ⟨g, 0, none⟩))) (hc2 : W.cell? ⟨b2, 0, none⟩ = some (.int .i64 fr)) (hc3 : W.cell? ⟨b3, 0, none⟩ = some (.int .i64 to_)) (hcg : W.cell? ⟨g, 2, none⟩ = some (.slice A m cap))
    (hn₀ : n₀ ≤ W.heap.size) (hcs : ∀ i, i < m → ∀ j u, (L.getD i zpk).cells[j]? = some u → W.cell? ⟨gA, i * 6 + j, none⟩ = some u) (h0 : J [] W) :
    CallsIn F n Try.prog 38 #[.func (.yield l) #[] #[], .pointer (some ⟨b1, 0, none⟩), .pointer (some ⟨b2, 0, none⟩), .pointer (some ⟨b3, 0, none⟩)] W fun e W' => (∃ v, e = .returned v) ∧
      ((∃ ys, ys = pick6 fr to_ L ∧ J ys W') ∨ (∃ pre, pre <+: pick6 fr to_ L ∧ Jx pre W')) := by
  refine callsIn_of_wp Try.func38 rfl h7 ?_ hro
  simp only [Try.ntmps38, List.size_toArray, List.length_cons, List.length_nil, Nat.reduceAdd, Nat.reduceSub, Array.replicate_succ, Array.replicate_zero, List.push_toArray, List.append_toArray, List.nil_append, List.cons_append]
  gi_wp2
  gi_loopw [12] (fun v wr => ∃ i : Nat, i ≤ m ∧ v = .int .i64 i ∧ J (pick6 fr to_ (L.take i)) wr ∧ KB3 n₀ b2 b3 W wr) (fun v _ => m - (intOf v).toNat)
  case atStart => exact ⟨0, Nat.zero_le _, rfl, h0, KB3.refl _ _ _ _⟩
  case round =>
    obtain ⟨i, hi, rfl, hJs, hbw⟩ := hrel
    have hm64 : (m : Int) ≤ 100000 := by omega
    by_cases hlt : i < m
    · obtain rfl := hA (by omega)
      have hst := pick6_step (fr := fr) (to_ := to_) (L := L) (i := i) (by omega)
      have hcell := hcs i hlt
      have hlt6 := fun h => pick6_lt (fr := fr) (to_ := to_) (L := L) (i := i) (by omega) h
      obtain ⟨x, hx⟩ : ∃ x, x = L.getD i zpk := ⟨_, rfl⟩
      rw [← hx] at hst hcell hlt6
      have z0 := (hbw.1.cell (p := ⟨gA, i * 6 + 0, none⟩) hgA).trans (hcell 0 (.int .i64 x.f0) rfl)
      have z1 := (hbw.1.cell (p := ⟨gA, i * 6 + 1, none⟩) hgA).trans (hcell 1 (.int .i64 x.f1) rfl)
      have z2 := (hbw.1.cell (p := ⟨gA, i * 6 + 2, none⟩) hgA).trans (hcell 2 (.int .i64 x.f2) rfl)
      have z3 := (hbw.1.cell (p := ⟨gA, i * 6 + 3, none⟩) hgA).trans (hcell 3 (.int .i64 x.f3) rfl)
      have z4 := (hbw.1.cell (p := ⟨gA, i * 6 + 4, none⟩) hgA).trans (hcell 4 (.bool x.f4) rfl)
      have z5 := (hbw.1.cell (p := ⟨gA, i * 6 + 5, none⟩) hgA).trans (hcell 5 (.slice x.A x.n x.c) rfl)
      rw [Nat.add_zero] at z0
      have k2 := hbw.cell2 hc2
      have k3 := hbw.cell3 hc3
      have k2a := fun o => Lib.cell?_alloc_some o k2
      have k3a := fun o => Lib.cell?_alloc_some o k3
      have hi64 : (i : Int) < (m : Int) := by omega
      have hsw := hbw.1.size
      have hb2l := blk_of_cell hc2
      have hb3l := blk_of_cell hc3
      have hkx := KB3.alloc (n₀ := n₀) (b2 := b2) (b3 := b3) (A := wr) (.cells #[.int .i64 x.f0, .int .i64 x.f1, .int .i64 x.f2, .int .i64 x.f3, .bool x.f4, .slice x.A x.n x.c] 69) (by omega) (by omega) (by omega)
      have hJa : J (pick6 fr to_ (L.take i)) (wr.alloc (.cells #[.int .i64 x.f0, .int .i64 x.f1, .int .i64 x.f2, .int .i64 x.f3, .bool x.f4, .slice x.A x.n x.c] 69)) := hJ _ _ _ none hJs (World.grownBy_alloc wr _ none) (fun r e => by cases e)
      clear hx
      by_cases h1 : x.f1 = fr
      · have e1 : (x.f1 == fr) = true := by simpa using h1
        by_cases h2 : x.f2 = to_
        · have e2 : (x.f2 == to_) = true := by simpa using h2
          rw [e1, e2] at hst hlt6
          simp only [Bool.and_self, if_true] at hst
          obtain ⟨fn, tmps, assign, body, hy, hR⟩ := hY _ x _ hJa (hlt6 rfl)
          dsimp only [Pk6.cells] at hy
          clear h1 h2
          gi_wp2
          refine hR.mono ?_
          rintro e W3 (⟨rfl, hJ3, hk3⟩ | ⟨rfl, hJx3⟩)
          · gi_wp2
            go_roundw
            case rel => exact ⟨i + 1, by omega, by simp, by rw [hst]; exact hJ3, (hbw.trans hkx).trans hk3⟩
            case measure => simp [intOf]; omega
          · gi_wp2
            refine bodyPost_ret (results_none rfl _ _ _) rfl ?_
            refine ⟨⟨_, rfl⟩, .inr ⟨_, ?_, hJx3⟩⟩
            rw [← hst]
            unfold pick6
            exact List.IsPrefix.filter _ (List.take_prefix _ _)
        · have e2 : (x.f2 == to_) = false := by simpa using h2
          rw [e1, e2] at hst
          simp only [Bool.and_false, Bool.false_eq_true, if_false, List.append_nil] at hst
          clear h1 h2
          gi_wp2
          refine ⟨fun _ h => (by cases h), ?_⟩
          gi_wp2
          go_roundw
          case rel => exact ⟨i + 1, by omega, by simp, by rw [hst]; exact hJa, hbw.trans hkx⟩
          case measure => simp [intOf]; omega
      · have e1 : (x.f1 == fr) = false := by simpa using h1
        rw [e1] at hst
        simp only [Bool.false_and, Bool.false_eq_true, if_false, List.append_nil] at hst
        clear h1
        gi_wp2
        refine ⟨fun _ h => (by cases h), ?_⟩
        gi_wp2
        go_roundw
        case rel => exact ⟨i + 1, by omega, by simp, by rw [hst]; exact hJa, hbw.trans hkx⟩
        case measure => simp [intOf]; omega
    · obtain rfl : i = m := by omega
      have hi64 : decide ((i : Int) < (i : Int)) = false := by simp
      gi_wp2
      go_end0
      exact ⟨⟨_, rfl⟩, .inl ⟨_, by rw [← hL, List.take_length], hJs⟩⟩
end Go.Proofs.Ytnognpfenefafaa
namespace Go.Proofs.Ytnognpfenefafaa
open Go.Proofs.Ytnognpfenefafaa.PNetRuns (S39 S73 k39 k73 z39 z73)
open Go.RowKit Go.Shelf Go.Proofs.YtnognpfenefafaaW.PrintWords Go.Proofs.YtnognpfenefafaaW.PrintLast Go.Proofs.YtnognpfenefafaaW.PrintMore
attribute [local go_sem] Oper.semAt_some
theorem pick6_map (fr to_ : Int) (L : List Pk6) : (pick6 fr to_ L).map (·.f0) = ((L.map (fun x => (x.f0, x.f1, x.f2))).filter (fun t => t.2.1 == fr && t.2.2 == to_)).map (·.1) := by
  unfold pick6
  rw [List.filter_map, List.map_map]
  rfl
theorem betw_map (fr to_ : Int) (ps : List S73) : betw fr to_ ps = ((ps.map (fun x => (x.f0.f0, x.f0.f1, x.f0.f2))).filter (fun t => t.2.1 == fr && t.2.2 == to_)).map (·.1) := by
  unfold betw
  rw [List.filter_map, List.map_map]
  rfl
/-- The packets of a row, as their cells. -/
theorem pk_list {w : World} {ok : Nat → Prop} {t gA n c : Nat} {ps : List S73} (h : Kd.S k73 t w 0 ok (.slice (some ⟨gA, 0, none⟩) n c) ps) (fr to_ : Int) :
    ∃ L : List Pk6, L.length = ps.length ∧ (pick6 fr to_ L).map (·.f0) = betw fr to_ ps ∧ ∀ i, i < ps.length → ∀ j u, (L.getD i zpk).cells[j]? = some u → w.cell? ⟨gA, i * 6 + j, none⟩ = some u := by
  have hex : ∀ i, ∃ q : Pk6, i < ps.length → (q.f0, q.f1, q.f2) = ((ps.getD i z73).f0.f0, (ps.getD i z73).f0.f1, (ps.getD i z73).f0.f2) ∧ ∀ j u, q.cells[j]? = some u → w.cell? ⟨gA, i * 6 + j, none⟩ = some u := by
    intro i
    by_cases hi : i < ps.length
    · obtain ⟨A5, c5, x, ⟨h0, h1, h2, h3, h4, h5⟩, _, HX⟩ := S_pk_at h i hi
      refine ⟨⟨x.f0.f0, x.f0.f1, x.f0.f2, x.f0.f3, x.f0.f4, A5, x.f1.length, c5⟩, fun _ => ⟨by rw [HX.out], fun j u hu => ?_⟩⟩
      match j, hu with
      | 0, hu => obtain rfl : Value.int .i64 x.f0.f0 = u := by simpa [Pk6.cells] using hu
                 exact h0
      | 1, hu => obtain rfl : Value.int .i64 x.f0.f1 = u := by simpa [Pk6.cells] using hu
                 exact h1
      | 2, hu => obtain rfl : Value.int .i64 x.f0.f2 = u := by simpa [Pk6.cells] using hu
                 exact h2
      | 3, hu => obtain rfl : Value.int .i64 x.f0.f3 = u := by simpa [Pk6.cells] using hu
                 exact h3
      | 4, hu => obtain rfl : Value.bool x.f0.f4 = u := by simpa [Pk6.cells] using hu
                 exact h4
      | 5, hu => obtain rfl : Value.slice A5 x.f1.length c5 = u := by simpa [Pk6.cells] using hu
                 exact h5
      | j + 6, hu => simp [Pk6.cells] at hu
    · exact ⟨zpk, fun h => absurd h hi⟩
  obtain ⟨f, hf⟩ := Classical.axiomOfChoice hex
  refine ⟨(List.range ps.length).map f, by simp, ?_, fun i hi => ?_⟩
  · rw [pick6_map, betw_map]
    congr 2
    apply List.ext_getElem
    · simp
    · intro i h1 h2
      have hi : i < ps.length := by simpa using h2
      have := (hf i hi).1
      rw [List.getD_eq_getElem?_getD, List.getElem?_eq_getElem hi, Option.getD_some] at this
      simpa using this
  · have : ((List.range ps.length).map f).getD i zpk = f i := by simp [List.getD_eq_getElem?_getD, hi]
    rw [this]
    exact (hf i hi).2
theorem R_of_owns {w : World} {base : Nat} {v : Value} {xs : List Int} (h : w.ownsRow base 3 1 v xs.length (xs.map (Value.int .i64))) : (Kd.int .i64).R 3 w base (fun k => base ≤ k) v xs :=
  ⟨fun k hk => own_base h k hk, xs.map (Value.int .i64), h, Kd.reps_scalar (enc := Value.int .i64) xs⟩
/-- What holds between two rounds: the numbers that have come. -/
def BwI (n₁ bo : Nat) (w1 : World) (pre : List Pk6) (W : World) : Prop := ((∃ v, Boxed W bo 49 v ∧ W.ownsRow n₁ 3 1 v pre.length (pre.map (fun x => Value.int .i64 x.f0)) ∧ True) ∧ Below w1.heap.size w1 W) ∧ n₁ ≤ W.heap.size
theorem info_parts3 : ∃ i0, Try.prog.info? 3 = some i0 ∧ i0.zero = some (.int .i64 0) ∧ i0.size = 1 ∧ i0.bytes = 8 := info_parts Try.info3
set_option maxRecDepth 100000 in
set_option maxHeartbeats 4000000 in
theorem between_in (S : Nat → Prop) (g : Nat) (dev last fr to_ : Int) (ps : List S73) (w : World) (h : No S g dev last ps w) (hd : 0 < dev) (hl : ps.length ≤ 100000) :
    CallsIn Fence.wide 3 Try.prog 16 #[.pointer (some ⟨g, 0, none⟩), .int .i64 fr, .int .i64 to_] w fun e w' => ∃ v, e = .returned v ∧ (Kd.int .i64).R 3 w' w.heap.size (fun k => w.heap.size ≤ k) v (betw fr to_ ps) ∧ Below w.heap.size w w' := by
  have hd' : decide (0 < dev) = true := by simpa using hd
  have HP := Lib.hid h
  obtain ⟨hg, hlt, v, hblk, hS⟩ := h
  obtain ⟨A, c, rfl⟩ := Kd.S_slice hS
  obtain ⟨m, hm⟩ : ∃ m, m = ps.length := ⟨_, rfl⟩
  refine callsIn_of_wp_marks Try.func16 rfl trivial ?_ rfl
  simp only [Try.ntmps16, List.size_toArray, List.length_cons, List.length_nil, Nat.reduceAdd, Nat.reduceSub, Array.replicate_succ, Array.replicate_zero, List.push_toArray, List.append_toArray, List.nil_append, List.cons_append]
  gi_wp2_with (first
    | (refine ⟨trivial, ?_⟩; gi_at_call 30; refine (callsIn_wide.2 (made_no S g dev last ps _ HP.out)).mono ?_; rintro e w1 ⟨rfl, rfl⟩; rw [hd'])
    | (refine ⟨trivial, ?_⟩; gi_at_call 31; refine (bmaker Fence.wide _ trivial rfl _ _ _ _).mono ?_; rintro e w2 ⟨rfl, rfl⟩))
  have hgg := hlt g hg
  have hex : ∃ gA, ∃ L : List Pk6, gA < w1.heap.size ∧ (0 < m → A = some ⟨gA, 0, none⟩) ∧ L.length = m ∧ (pick6 fr to_ L).map (·.f0) = betw fr to_ ps ∧ ∀ i, i < m → ∀ j u, (L.getD i zpk).cells[j]? = some u → w1.cell? ⟨gA, i * 6 + j, none⟩ = some u := by
    by_cases h0 : 0 < m
    · obtain ⟨gA, cap, he, _, hgl, _⟩ := Kd.S_form hS (by omega)
      injection he with e1 _ e2
      subst e1; subst e2
      obtain ⟨L, h1, h2, h3⟩ := pk_list hS fr to_
      exact ⟨gA, L, hgl, fun _ => rfl, h1.trans hm.symm, h2, fun i hi => h3 i (by omega)⟩
    · have hp : ps = [] := List.eq_nil_of_length_eq_zero (by omega)
      exact ⟨g, [], hgg, fun h => absurd h h0, by simp; omega, by rw [hp]; rfl, fun i hi => by omega⟩
  obtain ⟨gA, L, hgA, hA, hL, hmap, hcs⟩ := hex
  have hlen : (pick6 fr to_ L).length ≤ 100000 := by
    have : (pick6 fr to_ L).length ≤ L.length := List.length_filter_le _ _
    omega
  have d2 := blk_cell hblk 2 (.slice A m c) (by rw [hm]; rfl)
  have bO := (((Boxed.new w1 49 (.slice none 0 0)).alloc (.cells #[.pointer (some ⟨g, 0, none⟩)] 24)).alloc (.cells #[.int .i64 fr] 3)).alloc (.cells #[.int .i64 to_] 3)
  have bP := ((Boxed.new (w1.alloc (.cells #[.slice none 0 0] 49)) 24 (.pointer (some ⟨g, 0, none⟩))).alloc (.cells #[.int .i64 fr] 3)).alloc (.cells #[.int .i64 to_] 3)
  have bF := (Boxed.new ((w1.alloc (.cells #[.slice none 0 0] 49)).alloc (.cells #[.pointer (some ⟨g, 0, none⟩)] 24)) 3 (.int .i64 fr)).alloc (.cells #[.int .i64 to_] 3)
  have bT := Boxed.new (((w1.alloc (.cells #[.slice none 0 0] 49)).alloc (.cells #[.pointer (some ⟨g, 0, none⟩)] 24)).alloc (.cells #[.int .i64 fr] 3)) 3 (.int .i64 to_)
  simp only [World.size_alloc] at bP bF bT
  have hB0 : Below w1.heap.size w1 ((((w1.alloc (.cells #[.slice none 0 0] 49)).alloc (.cells #[.pointer (some ⟨g, 0, none⟩)] 24)).alloc (.cells #[.int .i64 fr] 3)).alloc (.cells #[.int .i64 to_] 3)) := below_alloc (below_alloc (below_alloc (below_alloc (Below.refl _ _) _) _) _) _
  have hsz : ((((w1.alloc (.cells #[.slice none 0 0] 49)).alloc (.cells #[.pointer (some ⟨g, 0, none⟩)] 24)).alloc (.cells #[.int .i64 fr] 3)).alloc (.cells #[.int .i64 to_] 3)).heap.size = w1.heap.size + 4 := by simp
  obtain ⟨W0, hW0⟩ : ∃ W0, (((w1.alloc (.cells #[.slice none 0 0] 49)).alloc (.cells #[.pointer (some ⟨g, 0, none⟩)] 24)).alloc (.cells #[.int .i64 fr] 3)).alloc (.cells #[.int .i64 to_] 3) = W0 := ⟨_, rfl⟩
  rw [hW0] at bO bP bF bT hB0 hsz ⊢
  clear hW0
  have hcg0 : W0.cell? ⟨g, 2, none⟩ = some (.slice A m c) := (hB0.cell (p := ⟨g, 2, none⟩) hgg).trans d2
  have hstops : SeqStopsK Fence.wide (3 - 1) Try.prog 38 #[.pointer (some ⟨w1.heap.size + 1, 0, none⟩), .pointer (some ⟨w1.heap.size + 1 + 1, 0, none⟩), .pointer (some ⟨w1.heap.size + 1 + 1 + 1, 0, none⟩)] (fun x : Pk6 => #[.agg x.cells]) (KB3 w1.heap.size (w1.heap.size + 1 + 1) (w1.heap.size + 1 + 1 + 1)) (fun ys => ys = pick6 fr to_ L) (fun pre => pre <+: pick6 fr to_ L) (pick6 fr to_ L).length W0 := fun l J Jx W hW hJ _ hY h0 =>
    biter Fence.wide (3 - 1) trivial rfl (by omega) l (w1.heap.size + 1) (w1.heap.size + 1 + 1) (w1.heap.size + 1 + 1 + 1) w1.heap.size g gA m c fr to_ A L hL (by omega) hgA hA J Jx W hJ hY
      ((hW.cell (p := ⟨w1.heap.size + 1, 0, none⟩) (by show w1.heap.size + 1 < W0.heap.size; omega)).trans bP.cell) ((hW.cell (p := ⟨w1.heap.size + 1 + 1, 0, none⟩) (by show w1.heap.size + 1 + 1 < W0.heap.size; omega)).trans bF.cell) ((hW.cell (p := ⟨w1.heap.size + 1 + 1 + 1, 0, none⟩) (by show w1.heap.size + 1 + 1 + 1 < W0.heap.size; omega)).trans bT.cell)
      ((hW.cell (p := ⟨g, 2, none⟩) (by show g < W0.heap.size; omega)).trans hcg0) (by have := hW.size; omega)
      (fun i hi j u hu => (hW.cell (p := ⟨gA, i * 6 + j, none⟩) (by show gA < W0.heap.size; omega)).trans ((hB0.cell (p := ⟨gA, i * 6 + j, none⟩) hgA).trans (hcs i hi j u hu))) h0
  obtain ⟨i0, hi, hz0, hz1, hz2⟩ := info_parts3
  refine wpIn_rangeFunc_ownH (F := Fence.wide) (n := 3) rfl (by omega) (gf := 38) (lb := #[.pointer (some ⟨w1.heap.size + 1, 0, none⟩), .pointer (some ⟨w1.heap.size + 1 + 1, 0, none⟩), .pointer (some ⟨w1.heap.size + 1 + 1 + 1, 0, none⟩)]) rfl trivial (enters_of Try.func38 (by kernel_rfl) rfl)
    hstops KB3.trans (fun W l o o' hl hlo ho1 ho2 => ⟨belowK_b (w := W0) (by omega) W l o o' hl hlo ho1 ho2, World.putObj_heap_other (fun e => by omega), World.putObj_heap_other (fun e => by omega)⟩) (Below.refl _ _) (fun _ => rfl)
    (BwI W0.heap.size w1.heap.size w1)
    (fun _ _ _ => False)
    (OwnFrom.and (OwnFrom.and (Own.from (holdsRow_own W0.heap.size w1.heap.size 49 3 1 (fun (pre : List Pk6) => pre.length) (fun pre => pre.map (fun x => Value.int .i64 x.f0)) (fun _ _ => True)) _) (ownFrom_below (Nat.le_refl _) (by omega))) (fun _ _ _ _ hs hg _ => Nat.le_trans hs hg.size))
    (fun _ _ _ _ _ hs _ _ => hs)
    ⟨⟨⟨_, bO, World.ownsRow_nil _ _ _ _, trivial⟩, hB0⟩, Nat.le_refl _⟩
    (fun x a' W => ∃ Bx, W.heap[Bx]? = some (.cells x.cells 69 (0, 0)) ∧ a' = { tmps := #[.pointer (some ⟨g, 0, none⟩), .int .i64 fr, .int .i64 to_, undef, undef, undef, .slice none 0 0, .pointer (some ⟨w1.heap.size, 0, none⟩), .pointer (some ⟨Bx, 0, none⟩), .pointer (some ⟨g, 0, none⟩), .bool true, .bool false, .pointer (some ⟨g, 0, none⟩), .int .i64 fr, .int .i64 to_, .func (.func 38) #[] #[.pointer (some ⟨w1.heap.size + 1, 0, none⟩), .pointer (some ⟨w1.heap.size + 1 + 1, 0, none⟩), .pointer (some ⟨w1.heap.size + 1 + 1 + 1, 0, none⟩)], .agg x.cells, undef, undef, undef, undef, undef, undef, undef], defers := [] })
    (fun x a' _ X Y row hs hg hr => by
      obtain ⟨Bx, h1, h2⟩ := hs
      refine ⟨Bx, (hg.block Bx (blk_lt h1) (fun e => ?_)).trans h1, h2⟩
      obtain ⟨_, o, ho, hc⟩ := hr Bx e.symm
      rw [h1] at ho; cases ho; cases hc)
    ?assign ?body ?done ?stop
  case assign =>
    rintro l pre x W K hI hK
    obtain ⟨⟨⟨v, hv, hrow, _⟩, hB⟩, hzz⟩ := hI
    unfold Pk6.cells at *
    gi_wp2
    exact hK _ _ ((KeepsOthers.alloc _ _).from _) (KB3.alloc _ (by omega) (by omega) (by omega)) ⟨⟨⟨v, hv.alloc _, hrow.alloc _, trivial⟩, hB.alloc hB.size _⟩, by rw [World.size_alloc]; omega⟩ ⟨W.heap.size, heap_alloc_new W _, rfl⟩
  case body =>
    rintro l pre x a' W hl ⟨r, hr⟩ ⟨⟨⟨v, hv, hrow, _⟩, hB⟩, hzz⟩ ⟨Bx, hbX, rfl⟩ hlt2
    have hc := hv.cell
    have cX := blk_cell hbX 0 (.int .i64 x.f0) rfl
    have hpl : pre.length ≤ 100000 := by omega
    unfold Pk6.cells at *
    gi_wp2_with (gi_at_builtin; refine wpListIn_append_own _ rfl _ _ 49 rfl W0.heap.size 3 i0 (.int .i64 0) 1 8 Try.underlying49 hi hz0 hz1 hz2 rfl (by decide) _ _ _ rfl (hrow.alloc _) ⟨W.heap.size, 0, none⟩ 1 1 [.int .i64 x.f0] rfl rfl (cell_one_new _ _ _) (by simp [Value.oneCell']) (by show pre.length + 1 ≤ 9223372036854775807; omega) (by omega) (by rw [World.size_alloc]; omega) ?_; intro v' w3 hown' hgrow _; obtain ⟨g', cap', rfl⟩ := ownsRow_succ hown'; have hap := hv.appended (by decide) (own_weaken hrow (by omega : w1.heap.size ≤ W0.heap.size)) hB.size (Nat.le_refl _) (own_weaken hown' (by omega : w1.heap.size ≤ W0.heap.size)) hgrow; obtain ⟨hv1, hv2, hr2, hk2, hb2⟩ := hap; have hc1 := hv1.cell; have hf1 := hv1.frozen)
    have hnr : ∀ k, k < W0.heap.size → some k ≠ v.ownBlock := fun k hk he => by have := own_base hrow k he.symm; omega
    have hblk3 : ∀ k, k < W0.heap.size → k ≠ w1.heap.size → (w3.setCell ⟨w1.heap.size, 0, none⟩ (.slice (some ⟨g', 0, none⟩) (pre.length + 1) cap')).heap[k]? = W.heap[k]? := fun k hk hne =>
      (Below.heap_setCell w3 ⟨w1.heap.size, 0, none⟩ _ k hne).trans ((hgrow.block k (by rw [World.size_alloc]; omega) (hnr k hk)).trans (Below.heap_alloc _ _ k (by omega)))
    refine ⟨hk2.from _, ⟨hb2, hblk3 _ (by omega) (by omega), hblk3 _ (by omega) (by omega)⟩, ⟨⟨_, hv2, ?_, trivial⟩, hB.trans hb2⟩, Nat.le_trans hzz hb2.size⟩
    rw [List.map_append, List.length_append]
    exact hown'.kept (grownBy_setCell' w3 w1.heap.size _) (.inr (hv1.not_row (by decide) hown').symm)
  case done =>
    rintro D ys W hD rfl ⟨⟨⟨v, hv, hrow, _⟩, hB⟩, hzz⟩ hK
    have hc := hv.cell
    gi_wp2
    refine ⟨by simp, .inl ⟨_, _, rfl, run_takeDeferred hK, ?_⟩⟩
    refine ⟨_, results_tmp rfl _ _ _, v, rfl, ?_, hB.trans (belowK_b (w := w1) (Nat.le_refl _) W D _ _ (by omega) hK rfl rfl)⟩
    have h9 := own_weaken (ownsRow_putObj hrow (.deferred none) hK rfl) (by omega : w1.heap.size ≤ W0.heap.size)
    rw [← hmap]
    refine R_of_owns ?_
    rw [List.length_map, List.map_map]
    exact h9
  case stop =>
    rintro D c pre W _ _ h _
    exact h.elim
end Go.Proofs.Ytnognpfenefafaa
