/- The walks of Check, of both. -/
import Derived.Test.YtgekpnbgmbbbdaaDoorCk1
namespace Go.Proofs.YtgekpnbgmbbbdaaDoor
open Go Go.RowKit Go.Proofs.YtgekpnbgmbbbdaaDoorW.PrintWords Go.Proofs.YtgekpnbgmbbbdaaDoorW.PrintLast Go.Proofs.YtgekpnbgmbbbdaaDoorW.PrintMore
/-- A row of sets. -/
def u64s (L : List Nat) : List Int := L.map (fun n : Nat => (n : Int))
theorem u64s_getD (L : List Nat) (i : Nat) : (u64s L).getD i 0 = ((L.getD i 0 : Nat) : Int) := by
  unfold u64s
  rw [List.getD_eq_getElem?_getD, List.getD_eq_getElem?_getD, List.getElem?_map]
  cases L[i]? <;> rfl
theorem u64s_len (L : List Nat) : (u64s L).length = L.length := List.length_map _
/-- Which sets may be. -/
def chkF (t : Int) (L : List Nat) : Int := if bnd t then (if L.all (may t.toNat) then 0 else 80) else 1
theorem all_take {p : Nat → Bool} {L : List Nat} {i : Nat} (hi : i < L.length) : (L.take (i + 1)).all p = ((L.take i).all p && p (L.getD i 0)) := by
  rw [List.take_add_one, List.getElem?_eq_getElem hi, List.all_append, List.getD_eq_getElem?_getD, List.getElem?_eq_getElem hi, Option.getD_some]
  simp
theorem all_false {p : Nat → Bool} {L : List Nat} {i : Nat} (hi : i < L.length) (h : p (L.getD i 0) = false) : L.all p = false := by
  rw [List.getD_eq_getElem?_getD, List.getElem?_eq_getElem hi, Option.getD_some] at h
  rw [List.all_eq_false]
  exact ⟨L[i], List.getElem_mem hi, by rw [h]; simp⟩
theorem bnd_nat {t : Int} (h : bnd t = true) : ∃ m : Nat, t = m ∧ m ≤ 62 := by
  unfold bnd at h
  simp only [Bool.and_eq_true, decide_eq_true_eq] at h
  obtain ⟨m, rfl⟩ := Int.eq_ofNat_of_zero_le h.1
  exact ⟨m, rfl, by omega⟩
set_option maxRecDepth 100000 in
theorem rcheck_w (t : Int) (okp : Nat → Prop) (A : Option Addr) (n c : Nat) (L : List Nat) (w : World) (hV : Kd.V (Kd.int .u64) 24 w 0 okp (.slice A n c) (u64s L)) (hlt : ∀ x ∈ L, x < 2 ^ 64) (hn : L.length ≤ 1152921504606846976) :
    Calls Tryd.prog 22 #[.int .i64 t, .slice A n c] w fun e w' => e = .returned (.int .i64 (chkF t L)) ∧ w' = w := by
  have hnl : n = L.length := by have := (Kd.V_at hV).1; rw [u64s_len] at this; exact this
  cases hb : bnd t with
  | false =>
    have hc : chkF t L = 1 := by unfold chkF; rw [hb]; rfl
    rw [hc]
    clear hV hlt hc
    go_enter Tryd.func22, Tryd.ntmps22
    go_wp2_with fail
    refine (rbound_w t _).mono ?_
    rintro e w1 ⟨rfl, rfl⟩
    rw [hb]
    go_wp2_with fail
    go_ret
    exact ⟨rfl, rfl⟩
  | true =>
    obtain ⟨m, rfl, hm⟩ := bnd_nat hb
    have hc : chkF (m : Int) L = if L.all (may m) then 0 else 80 := by unfold chkF; rw [hb]; rfl
    have HC := Lib.hid hc
    have HV := Lib.hid hV
    have HLT := Lib.hid hlt
    have hm2 : (m : Int) ≤ 62 := by omega
    have HN := Lib.hid hnl
    have hn2 : n ≤ 1152921504606846976 := by omega
    clear hV hlt hc hnl hn
    go_enter Tryd.func22, Tryd.ntmps22
    go_wp2_with fail
    refine (rbound_w (m : Int) _).mono ?_
    rintro e w1 ⟨rfl, rfl⟩
    rw [hb]
    go_wp2_with fail
    go_loopw [5] (fun v wr => ∃ i : Nat, v = .int .i64 i ∧ i ≤ n ∧ (L.take i).all (may m) = true ∧ wr = w1) (fun v _ => n - (intOf v).toNat)
    case atStart => exact ⟨0, rfl, Nat.zero_le _, by simp, rfl⟩
    case round =>
      obtain ⟨i, rfl, hi, hall, rfl⟩ := hrel
      have HA := Lib.hid hall
      clear hall
      have hn64 : (n : Int) ≤ 1152921504606846976 := by omega
      by_cases hlt : i < n
      · obtain ⟨ad, x, rfl, hcell, HX, _⟩ := V_int HV.out i (by rw [u64s_len]; rw [← HN.out]; exact hlt)
        have hxn : x = ((L.getD i 0 : Nat) : Int) := by rw [HX.out, u64s_getD]
        obtain ⟨y, hy⟩ : ∃ y, y = L.getD i 0 := ⟨_, rfl⟩
        rw [← hy] at hxn
        subst hxn
        have hil : i < L.length := by rw [← HN.out]; exact hlt
        have hy64 : y < 2 ^ 64 := by rw [hy, List.getD_eq_getElem?_getD, List.getElem?_eq_getElem hil, Option.getD_some]; exact HLT.out _ (List.getElem_mem hil)
        have HY64 := Lib.hid hy64
        have HY := Lib.hid hy
        have HIL := Lib.hid hil
        have hi64 : (i : Int) < (n : Int) := by omega
        clear hy64 hy hil HX
        go_wp2_with fail
        refine (rmay_w m y hm HY64.out _).mono ?_
        rintro e w2 ⟨rfl, rfl⟩
        cases hmy : may m y with
        | false =>
          have hcf : chkF (m : Int) L = 80 := by rw [HC.out, all_false HIL.out (by rw [← HY.out]; exact hmy)]; rfl
          have HCF := Lib.hid hcf
          clear hcf hmy
          go_wp2_with fail
          go_ret
          exact ⟨by rw [HCF.out]; rfl, rfl⟩
        | true =>
          have hnx : (L.take (i + 1)).all (may m) = true := by rw [all_take HIL.out, HA.out, ← HY.out, hmy]; rfl
          have HNX := Lib.hid hnx
          clear hnx hmy
          go_wp2_with fail
          go_roundw
          case rel =>
            refine ⟨i + 1, by simp, by omega, HNX.out, by first | trivial | rfl⟩
          case measure => simp [intOf]; omega
      · have hi64 : decide ((i : Int) < (n : Int)) = false := decide_eq_false (by omega)
        have hi65 : ¬ i < n := hlt
        have hcf : chkF (m : Int) L = 0 := by
          have h9 := HA.out
          rw [List.take_of_length_le (by have := HN.out; omega)] at h9
          rw [HC.out, h9]; rfl
        have HCF := Lib.hid hcf
        clear hcf hlt
        go_wp2_with fail
        go_ret
        exact ⟨by rw [HCF.out]; rfl, rfl⟩
end Go.Proofs.YtgekpnbgmbbbdaaDoor
