/- The walks of Of, of both. -/
import Derived.Test.YtgekpnbgmbbbdaaDoorCk3
namespace Go.Proofs.YtgekpnbgmbbbdaaDoor
open Go Go.RowKit Go.Proofs.YtgekpnbgmbbbdaaDoorW.PrintWords Go.Proofs.YtgekpnbgmbbbdaaDoorW.PrintLast Go.Proofs.YtgekpnbgmbbbdaaDoorW.PrintMore
attribute [local go_sem] max2_mx min2_mn max_two min_two
/-- The set of any numbers. -/
def ofF (t : Int) (l : List Int) : Nat × Int := if bnd t then (if l.any (fun x => decide (x < 0)) then (0, 5) else if l.isEmpty then (0, 80) else (orL t.toNat (l.map Int.toNat), 0)) else (0, 1)
theorem any_take {p : Int → Bool} {L : List Int} {i : Nat} (hi : i < L.length) : (L.take (i + 1)).any p = ((L.take i).any p || p (L.getD i 0)) := by
  rw [List.take_add_one, List.getElem?_eq_getElem hi, List.any_append, List.getD_eq_getElem?_getD, List.getElem?_eq_getElem hi, Option.getD_some]
  simp
theorem any_true {p : Int → Bool} {L : List Int} {i : Nat} (hi : i < L.length) (h : p (L.getD i 0) = true) : L.any p = true := by
  rw [List.getD_eq_getElem?_getD, List.getElem?_eq_getElem hi, Option.getD_some] at h
  rw [List.any_eq_true]
  exact ⟨L[i], List.getElem_mem hi, h⟩
theorem map_take {L : List Int} {i : Nat} (hi : i < L.length) : (L.take (i + 1)).map Int.toNat = (L.take i).map Int.toNat ++ [(L.getD i 0).toNat] := by
  rw [List.take_add_one, List.getElem?_eq_getElem hi, List.map_append, List.getD_eq_getElem?_getD, List.getElem?_eq_getElem hi, Option.getD_some]
  rfl

set_option maxRecDepth 100000 in
theorem of_w (t : Int) (okp : Nat → Prop) (A : Option Addr) (n c : Nat) (L : List Int) (w : World) (hV : Kd.V (Kd.int .i64) 3 w 0 okp (.slice A n c) L) (hn : L.length ≤ 1152921504606846976) (r : Nat × Int) (hr : r = ofF t L) :
    Calls Tryd.prog 11 #[.int .i64 t, .slice A n c] w fun e w' => e = .returned (.tuple #[.int .u64 (r.1 : Nat), .int .i64 r.2]) ∧ w' = w := by
  have hnl : n = L.length := (Kd.V_at hV).1
  cases hb : bnd t with
  | false =>
    have hc : r = (0, 1) := by rw [hr]; unfold ofF; rw [hb]; rfl
    subst hc
    clear hV hr
    go_enter Tryd.func11, Tryd.ntmps11
    go_wp2_with fail
    refine (bound_w t _).mono ?_
    rintro e w1 ⟨rfl, rfl⟩
    rw [hb]
    go_wp2_with fail
    go_ret2
    exact ⟨rfl, rfl⟩
  | true =>
    obtain ⟨m, rfl, hm⟩ := bnd_nat hb
    have hc : r = if L.any (fun x => decide (x < 0)) then (0, 5) else if L.isEmpty then (0, 80) else (orL m (L.map Int.toNat), 0) := by rw [hr]; unfold ofF; rw [hb]; rfl
    have HC := Lib.hid hc
    have HV := Lib.hid hV
    have hm2 : (m : Int) ≤ 62 := by omega
    have HN := Lib.hid hnl
    have hn2 : n ≤ 1152921504606846976 := by omega
    clear hV hc hnl hn hr
    go_enter Tryd.func11, Tryd.ntmps11
    go_wp2_with fail
    refine (bound_w (m : Int) _).mono ?_
    rintro e w1 ⟨rfl, rfl⟩
    rw [hb]
    go_wp2_with fail
    go_loopw [6, 8, 14] (fun vc _ v wr => ∃ i : Nat, v = .int .i64 i ∧ vc = .int .u64 (orL m ((L.take i).map Int.toNat) : Nat) ∧ i ≤ n ∧ (L.take i).any (fun x => decide (x < 0)) = false ∧ wr = w1) (fun _ _ v _ => n - (intOf v).toNat)
    case atStart => exact ⟨0, rfl, by simp [orL], Nat.zero_le _, by simp, rfl⟩
    case round =>
      obtain ⟨i, rfl, rfl, hi, hall, rfl⟩ := hrel
      have HA := Lib.hid hall
      clear hall
      have hn64 : (n : Int) ≤ 1152921504606846976 := by omega
      have hclt : orL m ((L.take i).map Int.toNat) < 2 ^ 64 := orL_lt hm _
      by_cases hlt : i < n
      · obtain ⟨ad, x, rfl, hcell, HX, _⟩ := V_int HV.out i (by rw [← HN.out]; exact hlt)
        have hil : i < L.length := by rw [← HN.out]; exact hlt
        have hmt := map_take hil
        rw [← HX.out] at hmt
        have HMT := Lib.hid hmt
        have HIL := Lib.hid hil
        have hi64 : (i : Int) < (n : Int) := by omega
        clear hil hmt
        by_cases hx0 : x < 0
        · have e0 : decide (x < 0) = true := decide_eq_true hx0
          have hcf : r = (0, 5) := by rw [HC.out, any_true HIL.out (by rw [← HX.out]; exact e0)]; rfl
          subst hcf
          clear hclt
          go_wp2_with fail
          go_ret2
          exact ⟨rfl, rfl⟩
        · obtain ⟨y, rfl⟩ := Int.eq_ofNat_of_zero_le (show 0 ≤ x by omega)
          have e0 : decide ((y : Int) < 0) = false := decide_eq_false hx0
          have hnx : (L.take (i + 1)).any (fun x => decide (x < 0)) = false := by rw [any_take HIL.out, HA.out, ← HX.out, e0]; rfl
          have HNX := Lib.hid hnx
          have hor := or_u64 _ _ hclt (on_lt (n := y) hm)
          have hst : orL m ((L.take (i + 1)).map Int.toNat) = orL m ((L.take i).map Int.toNat) ||| on m y := by rw [HMT.out, orL_snoc]; rfl
          rw [← hst] at hor
          obtain ⟨c2, hc2⟩ : ∃ c2, c2 = orL m ((L.take (i + 1)).map Int.toNat) := ⟨_, rfl⟩
          obtain ⟨c1, hc1⟩ : ∃ c1, c1 = orL m ((L.take i).map Int.toNat) := ⟨_, rfl⟩
          rw [← hc1, ← hc2] at hor
          rw [← hc1]
          have HC2 := Lib.hid hc2
          clear hnx hst hclt hx0 hc2 hc1
          go_wp2_with fail
          refine (one_w m y hm _).mono ?_
          rintro e w2 ⟨rfl, rfl⟩
          go_wp2_with fail
          go_roundw
          case rel =>
            refine ⟨i + 1, by simp, ?_, by omega, HNX.out, by first | trivial | rfl⟩
            rw [HC2.out]
          case measure => simp [intOf]; omega
      · have hi64 : decide ((i : Int) < (n : Int)) = false := decide_eq_false (by omega)
        have hi65 : ¬ i < n := hlt
        have htk : L.take i = L := List.take_of_length_le (by have := HN.out; omega)
        have hall2 := HA.out
        rw [htk] at hall2
        obtain ⟨c1, hc1⟩ : ∃ c1, c1 = orL m ((L.take i).map Int.toNat) := ⟨_, rfl⟩
        rw [← hc1]
        rw [htk] at hc1
        by_cases hL : L = []
        · have hc0 : c1 = 0 := by rw [hc1, hL]; rfl
          have hn0 : n = 0 := by have := HN.out; rw [hL] at this; exact this
          have hcf : r = (0, 80) := by rw [HC.out, hall2, hL]; rfl
          subst hcf
          subst hc0
          have e1 : ((n : Int) == 0) = true := by rw [hn0]; rfl
          clear hc1 hclt hlt htk hall2
          go_wp2_with fail
          go_ret2
          exact ⟨rfl, rfl⟩
        · have hpos : 0 < c1 := by rw [hc1]; exact orL_pos (by simpa using hL)
          have hn0 : n ≠ 0 := fun h0 => hL (List.eq_nil_of_length_eq_zero (by have := HN.out; omega))
          have hcf : r = (c1, 0) := by
            have he : L.isEmpty = false := by cases L with
              | nil => exact absurd rfl hL
              | cons => rfl
            rw [HC.out, hall2, he, hc1]; rfl
          subst hcf
          have e1 : ((n : Int) == 0) = false := by simpa using hn0
          have e2 : ((c1 : Int) == 0) = false := by simp; omega
          clear hc1 hclt hlt htk hall2 hpos hn0 hL
          go_wp2_with fail
          go_ret2
          exact ⟨rfl, rfl⟩

set_option maxRecDepth 100000 in
theorem rof_w (t : Int) (okp : Nat → Prop) (A : Option Addr) (n c : Nat) (L : List Int) (w : World) (hV : Kd.V (Kd.int .i64) 3 w 0 okp (.slice A n c) L) (hn : L.length ≤ 1152921504606846976) (r : Nat × Int) (hr : r = ofF t L) :
    Calls Tryd.prog 12 #[.int .i64 t, .slice A n c] w fun e w' => e = .returned (.tuple #[.int .u64 (r.1 : Nat), .int .i64 r.2]) ∧ w' = w := by
  have hnl : n = L.length := (Kd.V_at hV).1
  cases hb : bnd t with
  | false =>
    have hc : r = (0, 1) := by rw [hr]; unfold ofF; rw [hb]; rfl
    subst hc
    clear hV hr
    go_enter Tryd.func12, Tryd.ntmps12
    go_wp2_with fail
    refine (rbound_w t _).mono ?_
    rintro e w1 ⟨rfl, rfl⟩
    rw [hb]
    go_wp2_with fail
    go_ret2
    exact ⟨rfl, rfl⟩
  | true =>
    obtain ⟨m, rfl, hm⟩ := bnd_nat hb
    have hc : r = if L.any (fun x => decide (x < 0)) then (0, 5) else if L.isEmpty then (0, 80) else (orL m (L.map Int.toNat), 0) := by rw [hr]; unfold ofF; rw [hb]; rfl
    have HC := Lib.hid hc
    have HV := Lib.hid hV
    have hm2 : (m : Int) ≤ 62 := by omega
    have HN := Lib.hid hnl
    have hn2 : n ≤ 1152921504606846976 := by omega
    clear hV hc hnl hn hr
    go_enter Tryd.func12, Tryd.ntmps12
    go_wp2_with fail
    refine (rbound_w (m : Int) _).mono ?_
    rintro e w1 ⟨rfl, rfl⟩
    rw [hb]
    go_wp2_with fail
    go_loopw [6, 7] (fun vc v wr => ∃ i : Nat, v = .int .i64 i ∧ vc = .int .u64 (orL m ((L.take i).map Int.toNat) : Nat) ∧ i ≤ n ∧ (L.take i).any (fun x => decide (x < 0)) = false ∧ wr = w1) (fun _ v _ => n - (intOf v).toNat)
    case atStart => exact ⟨0, rfl, by simp [orL], Nat.zero_le _, by simp, rfl⟩
    case round =>
      obtain ⟨i, rfl, rfl, hi, hall, rfl⟩ := hrel
      have HA := Lib.hid hall
      clear hall
      have hn64 : (n : Int) ≤ 1152921504606846976 := by omega
      have hclt : orL m ((L.take i).map Int.toNat) < 2 ^ 64 := orL_lt hm _
      by_cases hlt : i < n
      · obtain ⟨ad, x, rfl, hcell, HX, _⟩ := V_int HV.out i (by rw [← HN.out]; exact hlt)
        have hil : i < L.length := by rw [← HN.out]; exact hlt
        have hmt := map_take hil
        rw [← HX.out] at hmt
        have HMT := Lib.hid hmt
        have HIL := Lib.hid hil
        have hi64 : (i : Int) < (n : Int) := by omega
        clear hil hmt
        by_cases hx0 : x < 0
        · have e0 : decide (x < 0) = true := decide_eq_true hx0
          have hcf : r = (0, 5) := by rw [HC.out, any_true HIL.out (by rw [← HX.out]; exact e0)]; rfl
          subst hcf
          clear hclt
          go_wp2_with fail
          go_ret2
          exact ⟨rfl, rfl⟩
        · obtain ⟨y, rfl⟩ := Int.eq_ofNat_of_zero_le (show 0 ≤ x by omega)
          have e0 : decide ((y : Int) < 0) = false := decide_eq_false hx0
          have hnx : (L.take (i + 1)).any (fun x => decide (x < 0)) = false := by rw [any_take HIL.out, HA.out, ← HX.out, e0]; rfl
          have HNX := Lib.hid hnx
          have hor := or_u64 _ _ hclt (on_lt (n := y) hm)
          have hst : orL m ((L.take (i + 1)).map Int.toNat) = orL m ((L.take i).map Int.toNat) ||| on m y := by rw [HMT.out, orL_snoc]; rfl
          rw [← hst] at hor
          obtain ⟨c2, hc2⟩ : ∃ c2, c2 = orL m ((L.take (i + 1)).map Int.toNat) := ⟨_, rfl⟩
          obtain ⟨c1, hc1⟩ : ∃ c1, c1 = orL m ((L.take i).map Int.toNat) := ⟨_, rfl⟩
          rw [← hc1, ← hc2] at hor
          rw [← hc1]
          have HC2 := Lib.hid hc2
          clear hnx hst hclt hx0 hc2 hc1
          have hmn : mn (y : Int) ((m : Int) + 1) = ((min y (m + 1) : Nat) : Int) := by unfold mn; split <;> omega
          have hk := rone_w (min y (m + 1)) (by omega)
          have ho : (2 ^ min y (m + 1) : Nat) = on m y := rfl
          rw [ho] at hk
          obtain ⟨k, hkk⟩ : ∃ k, k = min y (m + 1) := ⟨_, rfl⟩
          rw [← hkk] at hmn hk
          have HK := Lib.hid hk
          clear hk ho hkk
          go_wp2_with fail
          refine (HK.out _).mono ?_
          rintro e w2 ⟨rfl, rfl⟩
          clear HK
          go_wp2_with fail
          go_roundw
          case rel =>
            refine ⟨i + 1, by simp, ?_, by omega, HNX.out, by first | trivial | rfl⟩
            rw [HC2.out]
          case measure => simp [intOf]; omega
      · have hi64 : decide ((i : Int) < (n : Int)) = false := decide_eq_false (by omega)
        have hi65 : ¬ i < n := hlt
        have htk : L.take i = L := List.take_of_length_le (by have := HN.out; omega)
        have hall2 := HA.out
        rw [htk] at hall2
        obtain ⟨c1, hc1⟩ : ∃ c1, c1 = orL m ((L.take i).map Int.toNat) := ⟨_, rfl⟩
        rw [← hc1]
        rw [htk] at hc1
        by_cases hL : L = []
        · have hc0 : c1 = 0 := by rw [hc1, hL]; rfl
          have hn0 : n = 0 := by have := HN.out; rw [hL] at this; exact this
          have hcf : r = (0, 80) := by rw [HC.out, hall2, hL]; rfl
          subst hcf
          subst hc0
          have e1 : ((n : Int) == 0) = true := by rw [hn0]; rfl
          clear hc1 hclt hlt htk hall2
          go_wp2_with fail
          go_ret2
          exact ⟨rfl, rfl⟩
        · have hpos : 0 < c1 := by rw [hc1]; exact orL_pos (by simpa using hL)
          have hn0 : n ≠ 0 := fun h0 => hL (List.eq_nil_of_length_eq_zero (by have := HN.out; omega))
          have hcf : r = (c1, 0) := by
            have he : L.isEmpty = false := by cases L with
              | nil => exact absurd rfl hL
              | cons => rfl
            rw [HC.out, hall2, he, hc1]; rfl
          subst hcf
          have e1 : ((n : Int) == 0) = false := by simpa using hn0
          have e2 : ((c1 : Int) == 0) = false := by simp; omega
          clear hc1 hclt hlt htk hall2 hpos hn0 hL
          go_wp2_with fail
          go_ret2
          exact ⟨rfl, rfl⟩

end Go.Proofs.YtgekpnbgmbbbdaaDoor
