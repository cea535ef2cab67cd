/- The walks of the document's Sum, of Union, of both. -/
import Derived.Test.YtgekpnbgmbbbdaaDoorCs1
namespace Go.Proofs.YtgekpnbgmbbbdaaDoor
open Go Go.RowKit Go.Proofs.YtgekpnbgmbbbdaaDoorW.PrintWords Go.Proofs.YtgekpnbgmbbbdaaDoorW.PrintLast Go.Proofs.YtgekpnbgmbbbdaaDoorW.PrintMore
theorem uniF_lt : ∀ (l : List Nat) (s : Nat), (∀ x ∈ l, x < 2 ^ 64) → s < 2 ^ 64 → l.foldl (fun s c => s ||| c) s < 2 ^ 64
  | [], _, _, h => h
  | c :: l, _, hl, h => uniF_lt l _ (fun x hx => hl x (List.mem_cons_of_mem _ hx)) (Nat.or_lt_two_pow h (hl c (List.mem_cons_self ..)))
theorem uniF_take {L : List Nat} {i : Nat} (hi : i < L.length) : uniF (L.take (i + 1)) = uniF (L.take i) ||| L.getD i 0 := by
  unfold uniF
  rw [List.take_add_one, List.getElem?_eq_getElem hi, List.foldl_append, List.getD_eq_getElem?_getD, List.getElem?_eq_getElem hi, Option.getD_some]
  rfl
set_option maxRecDepth 100000 in
set_option maxHeartbeats 1000000 in
theorem rsum_w (t : Int) (okp : Nat → Prop) (A : Option Addr) (n c : Nat) (L : List Nat) (w : World) (hV : Kd.V (Kd.int .u64) 24 w 0 okp (.slice A n c) (u64s L)) (hlt : ∀ x ∈ L, x < 2 ^ 64) (hn : L.length ≤ 1152921504606846976) (r : Nat × Int) (hr : r = sumR t L) :
    Calls Tryd.prog 18 #[.int .i64 t, .slice A n c] w fun e w' => e = .returned (.tuple #[.int .u64 (r.1 : Nat), .int .i64 r.2]) ∧ w' = w := by
  have hchk := rcheck_w t _ _ _ _ L w hV hlt hn
  have hCw := (Kd.V_reads' hV).2.2
  have hnL := (Kd.V_reads' hV).1
  rw [u64s_len] at hnL hCw
  have HCw := Lib.hid hCw
  have HLT := Lib.hid hlt
  clear hV hCw hlt
  subst hnL
  by_cases h0 : chkF t L = 0
  · obtain ⟨m, rfl, hm⟩ := bnd_nat (chk_bnd h0)
    have hcf : r = (sumF m L, 0) := by rw [hr]; unfold sumR; rw [if_pos h0]; rfl
    have hm2 : (m : Int) ≤ 62 := by omega
    have hn2 : (L.length : Int) ≤ 1152921504606846976 := by omega
    rw [h0] at hchk
    have HCHK := Lib.hid hchk
    have HCF := Lib.hid hcf
    clear hr h0 hchk hcf hn
    go_enter Tryd.func18, Tryd.ntmps18
    go_wp2_with fail
    refine HCHK.out.mono ?_
    rintro e w1 ⟨rfl, rfl⟩
    clear HCHK
    go_wp2_with fail
    go_loopw [7, 8] (fun vc v wr => ∃ i : Nat, v = .int .i64 i ∧ vc = .int .u64 (sumF m (L.take i) : Nat) ∧ i ≤ L.length ∧ wr = w1) (fun _ v _ => L.length - (intOf v).toNat)
    case atStart => exact ⟨0, rfl, rfl, Nat.zero_le _, rfl⟩
    case round =>
      obtain ⟨i, rfl, rfl, hi, rfl⟩ := hrel
      have hs64 : sumF m (L.take i) < 2 ^ 64 := sumF_lt hm _ _ (by decide)
      have HS := Lib.hid hs64
      clear hs64
      have hli : i < L.length ∨ i = L.length := by omega
      rcases hli with hlt | hlt
      · have hsn := sumF_take (t := m) hlt
        obtain ⟨ad, rfl, hel⟩ := C_u64_at HCw.out i hlt
        have hmem : L.getD i 0 < 2 ^ 64 := HLT.out _ (by rw [List.getD_eq_getElem?_getD, List.getElem?_eq_getElem hlt, Option.getD_some]; exact List.getElem_mem hlt)
        generalize L.getD i 0 = x at hsn hel hmem
        generalize hss : sumF m (L.take i) = s at hsn HS
        have HM := Lib.hid hmem
        have hi64 : (i : Int) < (L.length : Int) := by omega
        have HSN := Lib.hid hsn
        have hcall := fun W => radd_w m s x hm HS.out hmem W
        rw [← hsn] at hcall
        have HCALL := Lib.hid hcall
        clear hmem hsn hss hcall
        go_wp2_with fail
        refine (HCALL.out _).mono ?_
        rintro e w2 ⟨rfl, rfl⟩
        go_wp2_with fail
        go_roundw
        case rel => exact ⟨i + 1, by simp, by first | rfl | trivial, by omega, by first | trivial | rfl⟩
        case measure => simp [intOf]; omega
      · subst hlt
        have hi64 : decide ((L.length : Int) < (L.length : Int)) = false := by simp
        rw [List.take_length]
        have hcf := HCF.out
        subst hcf
        go_wp2_with fail
        go_ret2
        exact ⟨rfl, rfl⟩
  · have hcf : r = (0, chkF t L) := by rw [hr]; unfold sumR; rw [if_neg h0]
    obtain ⟨z, hz⟩ : ∃ z, z = chkF t L := ⟨_, rfl⟩
    rw [← hz] at hchk hcf h0
    subst hcf
    have e0 : (z == 0) = false := by simpa using h0
    have HCHK := Lib.hid hchk
    clear hr h0 hz hchk
    go_enter Tryd.func18, Tryd.ntmps18
    go_wp2_with fail
    refine HCHK.out.mono ?_
    rintro e w1 ⟨rfl, rfl⟩
    clear HCHK
    go_wp2_with fail
    go_ret2
    exact ⟨rfl, rfl⟩
set_option maxRecDepth 100000 in
set_option maxHeartbeats 1000000 in
theorem union_w (t : Int) (okp : Nat → Prop) (A : Option Addr) (n c : Nat) (L : List Nat) (w : World) (hV : Kd.V (Kd.int .u64) 24 w 0 okp (.slice A n c) (u64s L)) (hlt : ∀ x ∈ L, x < 2 ^ 64) (hn : L.length ≤ 1152921504606846976) (r : Nat × Int) (hr : r = uniR t L) :
    Calls Tryd.prog 19 #[.int .i64 t, .slice A n c] w fun e w' => e = .returned (.tuple #[.int .u64 (r.1 : Nat), .int .i64 r.2]) ∧ w' = w := by
  have hchk := check_w t _ _ _ _ L w hV hlt hn
  have hCw := (Kd.V_reads' hV).2.2
  have hnL := (Kd.V_reads' hV).1
  rw [u64s_len] at hnL hCw
  have HCw := Lib.hid hCw
  have HLT := Lib.hid hlt
  clear hV hCw hlt
  subst hnL
  by_cases h0 : chkF t L = 0
  · obtain ⟨m, rfl, hm⟩ := bnd_nat (chk_bnd h0)
    have hcf : r = (if uniF L = 0 then (0, 80) else (uniF L, 0)) := by rw [hr]; unfold uniR; rw [if_pos h0]
    have hm2 : (m : Int) ≤ 62 := by omega
    have hn2 : (L.length : Int) ≤ 1152921504606846976 := by omega
    rw [h0] at hchk
    have HCHK := Lib.hid hchk
    have HCF := Lib.hid hcf
    clear hr h0 hchk hcf hn
    go_enter Tryd.func19, Tryd.ntmps19
    go_wp2_with fail
    refine HCHK.out.mono ?_
    rintro e w1 ⟨rfl, rfl⟩
    clear HCHK
    go_wp2_with fail
    go_loopw [7, 9, 18] (fun vc _ v wr => ∃ i : Nat, v = .int .i64 i ∧ vc = .int .u64 (uniF (L.take i) : Nat) ∧ i ≤ L.length ∧ wr = w1) (fun _ _ v _ => L.length - (intOf v).toNat)
    case atStart => exact ⟨0, rfl, rfl, Nat.zero_le _, rfl⟩
    case round =>
      obtain ⟨i, rfl, rfl, hi, rfl⟩ := hrel
      have hs64 : uniF (L.take i) < 2 ^ 64 := uniF_lt _ _ (fun x hx => HLT.out x (List.mem_of_mem_take hx)) (by decide)
      have HS := Lib.hid hs64
      clear hs64
      have hli : i < L.length ∨ i = L.length := by omega
      rcases hli with hlt | hlt
      · have hsn := uniF_take hlt
        obtain ⟨ad, rfl, hel⟩ := C_u64_at HCw.out i hlt
        have hmem : L.getD i 0 < 2 ^ 64 := HLT.out _ (by rw [List.getD_eq_getElem?_getD, List.getElem?_eq_getElem hlt, Option.getD_some]; exact List.getElem_mem hlt)
        generalize L.getD i 0 = x at hsn hel hmem
        generalize hss : uniF (L.take i) = s at hsn HS
        have HM := Lib.hid hmem
        have hi64 : (i : Int) < (L.length : Int) := by omega
        have hor := or_u64 _ _ HS.out hmem
        rw [← hsn] at hor
        have HSN := Lib.hid hsn
        clear hmem hsn hss
        go_wp2_with fail
        go_roundw
        case rel => exact ⟨i + 1, by simp, by first | rfl | trivial, by omega, by first | trivial | rfl⟩
        case measure => simp [intOf]; omega
      · subst hlt
        have hi64 : decide ((L.length : Int) < (L.length : Int)) = false := by simp
        rw [List.take_length]
        have hcf := HCF.out
        generalize uniF L = s at hcf
        by_cases hs0 : s = 0
        · rw [if_pos hs0] at hcf
          subst hs0
          subst hcf
          have e1 : (((0 : Nat) : Int) == 0) = true := rfl
          go_wp2_with fail
          go_ret2
          exact ⟨rfl, rfl⟩
        · rw [if_neg hs0] at hcf
          subst hcf
          have e1 : ((s : Int) == 0) = false := by simpa using hs0
          clear hs0
          go_wp2_with fail
          go_ret2
          exact ⟨rfl, rfl⟩
  · have hcf : r = (0, chkF t L) := by rw [hr]; unfold uniR; rw [if_neg h0]
    obtain ⟨z, hz⟩ : ∃ z, z = chkF t L := ⟨_, rfl⟩
    rw [← hz] at hchk hcf h0
    subst hcf
    have e0 : (z == 0) = false := by simpa using h0
    have HCHK := Lib.hid hchk
    clear hr h0 hz hchk
    go_enter Tryd.func19, Tryd.ntmps19
    go_wp2_with fail
    refine HCHK.out.mono ?_
    rintro e w1 ⟨rfl, rfl⟩
    clear HCHK
    go_wp2_with fail
    go_ret2
    exact ⟨rfl, rfl⟩
set_option maxRecDepth 100000 in
set_option maxHeartbeats 1000000 in
theorem runion_w (t : Int) (okp : Nat → Prop) (A : Option Addr) (n c : Nat) (L : List Nat) (w : World) (hV : Kd.V (Kd.int .u64) 24 w 0 okp (.slice A n c) (u64s L)) (hlt : ∀ x ∈ L, x < 2 ^ 64) (hn : L.length ≤ 1152921504606846976) (r : Nat × Int) (hr : r = uniR t L) :
    Calls Tryd.prog 20 #[.int .i64 t, .slice A n c] w fun e w' => e = .returned (.tuple #[.int .u64 (r.1 : Nat), .int .i64 r.2]) ∧ w' = w := by
  have hchk := rcheck_w t _ _ _ _ L w hV hlt hn
  have hCw := (Kd.V_reads' hV).2.2
  have hnL := (Kd.V_reads' hV).1
  rw [u64s_len] at hnL hCw
  have HCw := Lib.hid hCw
  have HLT := Lib.hid hlt
  clear hV hCw hlt
  subst hnL
  by_cases h0 : chkF t L = 0
  · obtain ⟨m, rfl, hm⟩ := bnd_nat (chk_bnd h0)
    have hcf : r = (if uniF L = 0 then (0, 80) else (uniF L, 0)) := by rw [hr]; unfold uniR; rw [if_pos h0]
    have hm2 : (m : Int) ≤ 62 := by omega
    have hn2 : (L.length : Int) ≤ 1152921504606846976 := by omega
    rw [h0] at hchk
    have HCHK := Lib.hid hchk
    have HCF := Lib.hid hcf
    clear hr h0 hchk hcf hn
    go_enter Tryd.func20, Tryd.ntmps20
    go_wp2_with fail
    refine HCHK.out.mono ?_
    rintro e w1 ⟨rfl, rfl⟩
    clear HCHK
    go_wp2_with fail
    go_loopw [7, 8] (fun vc v wr => ∃ i : Nat, v = .int .i64 i ∧ vc = .int .u64 (uniF (L.take i) : Nat) ∧ i ≤ L.length ∧ wr = w1) (fun _ v _ => L.length - (intOf v).toNat)
    case atStart => exact ⟨0, rfl, rfl, Nat.zero_le _, rfl⟩
    case round =>
      obtain ⟨i, rfl, rfl, hi, rfl⟩ := hrel
      have hs64 : uniF (L.take i) < 2 ^ 64 := uniF_lt _ _ (fun x hx => HLT.out x (List.mem_of_mem_take hx)) (by decide)
      have HS := Lib.hid hs64
      clear hs64
      have hli : i < L.length ∨ i = L.length := by omega
      rcases hli with hlt | hlt
      · have hsn := uniF_take hlt
        obtain ⟨ad, rfl, hel⟩ := C_u64_at HCw.out i hlt
        have hmem : L.getD i 0 < 2 ^ 64 := HLT.out _ (by rw [List.getD_eq_getElem?_getD, List.getElem?_eq_getElem hlt, Option.getD_some]; exact List.getElem_mem hlt)
        generalize L.getD i 0 = x at hsn hel hmem
        generalize hss : uniF (L.take i) = s at hsn HS
        have HM := Lib.hid hmem
        have hi64 : (i : Int) < (L.length : Int) := by omega
        have hor := or_u64 _ _ HS.out hmem
        rw [← hsn] at hor
        have HSN := Lib.hid hsn
        clear hmem hsn hss
        go_wp2_with fail
        go_roundw
        case rel => exact ⟨i + 1, by simp, by first | rfl | trivial, by omega, by first | trivial | rfl⟩
        case measure => simp [intOf]; omega
      · subst hlt
        have hi64 : decide ((L.length : Int) < (L.length : Int)) = false := by simp
        rw [List.take_length]
        have hcf := HCF.out
        generalize uniF L = s at hcf
        by_cases hs0 : s = 0
        · rw [if_pos hs0] at hcf
          subst hs0
          subst hcf
          have e1 : (((0 : Nat) : Int) == 0) = true := rfl
          go_wp2_with fail
          go_ret2
          exact ⟨rfl, rfl⟩
        · rw [if_neg hs0] at hcf
          subst hcf
          have e1 : ((s : Int) == 0) = false := by simpa using hs0
          clear hs0
          go_wp2_with fail
          go_ret2
          exact ⟨rfl, rfl⟩
  · have hcf : r = (0, chkF t L) := by rw [hr]; unfold uniR; rw [if_neg h0]
    obtain ⟨z, hz⟩ : ∃ z, z = chkF t L := ⟨_, rfl⟩
    rw [← hz] at hchk hcf h0
    subst hcf
    have e0 : (z == 0) = false := by simpa using h0
    have HCHK := Lib.hid hchk
    clear hr h0 hz hchk
    go_enter Tryd.func20, Tryd.ntmps20
    go_wp2_with fail
    refine HCHK.out.mono ?_
    rintro e w1 ⟨rfl, rfl⟩
    clear HCHK
    go_wp2_with fail
    go_ret2
    exact ⟨rfl, rfl⟩
end Go.Proofs.YtgekpnbgmbbbdaaDoor
