/- The walks of the document's Breaks and Holds. -/
import Derived.Test.YtgekpnbgmbbbdaaDoorCb1
namespace Go.Proofs.YtgekpnbgmbbbdaaDoor
open Go Go.RowKit Go.Proofs.YtgekpnbgmbbbdaaDoorW.PrintWords Go.Proofs.YtgekpnbgmbbbdaaDoorW.PrintLast Go.Proofs.YtgekpnbgmbbbdaaDoorW.PrintMore
theorem firstB_at {m : Nat} {k : Int} {c i n : Nat} (h : firstB m k c i = none) (hi : i < n) (hin : isin c i = true) (hr : rightB m k i = false) : firstB m k c n = some i := by
  have h1 := firstB_step h
  rw [hin, hr] at h1
  obtain ⟨d, rfl⟩ := Nat.exists_eq_add_of_lt hi
  have := firstB_stay (h1.trans (if_pos rfl)) d
  rwa [show i + 1 + d = i + d + 1 by omega] at this
theorem firstB_next {m : Nat} {k : Int} {c i : Nat} (h : firstB m k c i = none) (hr : isin c i = false ∨ rightB m k i = true) : firstB m k c (i + 1) = none := by
  rw [firstB_step h, if_neg]
  rcases hr with hr | hr <;> simp [hr]
set_option maxRecDepth 100000 in
set_option maxHeartbeats 1000000 in
theorem rbreaks_w (t k : Int) (c : Nat) (w : World) (hc : c < 2 ^ 64) (r : Int × Bool × Int) (hr : r = breaksF t k c) :
    Calls Tryd.prog 26 #[.int .i64 t, .int .i64 k, .int .u64 c] w fun e w' => e = .returned (.tuple #[.int .i64 r.1, .bool r.2.1, .int .i64 r.2.2]) ∧ Below w.heap.size w w' := by
  have hchk := fun W : World => rchkl_w t [c] (fun x hx => by rw [List.mem_singleton] at hx; rw [hx]; exact hc) (by simp) W #[.int .u64 (c : Nat)] rfl
  simp only [List.length_cons, List.length_nil, Nat.zero_add] at hchk
  have HCC := Lib.hid hc
  clear hc
  by_cases h0 : chkF t [c] = 0
  · obtain ⟨m, rfl, hm⟩ := bnd_nat (chk_bnd h0)
    rw [h0] at hchk
    have HCHK := Lib.hid hchk
    have hm2 : (m : Int) ≤ 62 := by omega
    by_cases hk : k < 1 ∨ 3 < k
    · have hcf : r = (0, false, 81) := by rw [hr]; unfold breaksF; rw [if_pos h0, if_pos hk]
      subst hcf
      have hkk : decide (k < 1) = true ∨ (decide (k < 1) = false ∧ decide (3 < k) = true) := by simp only [decide_eq_true_eq, decide_eq_false_iff_not]; omega
      clear hr h0 hk hchk HCC
      rcases hkk with f1 | ⟨f1, f2⟩
      all_goals
        go_enter Tryd.func26, Tryd.ntmps26
        go_wp2_with fail
        refine (HCHK.out _ _ _ rfl rfl).mono ?_
        rintro e w1 ⟨rfl, rfl⟩
        go_wp2_with fail
        go_ret3
        exact ⟨rfl, below_alloc (Below.refl _ _) _⟩
    · have hcf : r = match firstB m k c (m + 2) with | some i => ((i : Int), true, 0) | none => (0, false, 0) := by rw [hr]; unfold breaksF; rw [if_pos h0, if_neg hk]; rfl
      have HCF := Lib.hid hcf
      have f1 : decide (k < 1) = false := decide_eq_false (by omega)
      have f2 : decide (3 < k) = false := decide_eq_false (by omega)
      clear hr h0 hk hchk hcf
      go_enter Tryd.func26, Tryd.ntmps26
      go_wp2_with fail
      refine (HCHK.out _ _ _ rfl rfl).mono ?_
      rintro e w1 ⟨rfl, rfl⟩
      clear HCHK
      go_wp2_with fail
      have hB0 := below_alloc (Below.refl w.heap.size w) (.cells #[.int .u64 c] 24)
      generalize w.alloc (.cells #[.int .u64 c] 24) = W1 at *
      have HB0 := Lib.hid hB0
      clear hB0
      go_loopw [10] (fun v wr => ∃ i : Nat, v = .int .i64 i ∧ i ≤ m + 2 ∧ firstB m k c i = none ∧ wr = W1) (fun v _ => m + 2 - (intOf v).toNat)
      case atStart => exact ⟨0, rfl, Nat.zero_le _, rfl, rfl⟩
      case round =>
        obtain ⟨i, rfl, hi, hf, rfl⟩ := hrel
        have HF := Lib.hid hf
        clear hf
        by_cases hlt : i < m + 2
        · have hi64 : decide ((i : Int) ≤ (m : Int) + 1) = true := decide_eq_true (by omega)
          have hi63 : (i : Int) ≤ 63 := by omega
          go_wp2_with fail
          refine (rin_w c i HCC.out (by omega) _).mono ?_
          rintro e w2 ⟨rfl, rfl⟩
          cases hin : isin c i with
          | false =>
            have HN := Lib.hid (firstB_next HF.out (.inl hin))
            clear hin
            go_wp2_with fail
            go_roundw
            case rel => exact ⟨i + 1, by simp, by omega, HN.out, by first | trivial | rfl⟩
            case measure => simp [intOf]; omega
          | true =>
            have HIN := Lib.hid hin
            clear hin
            go_wp2_with fail
            refine (right_w m k i _).mono ?_
            rintro e w3 ⟨rfl, rfl⟩
            cases hrr : rightB m k i with
            | true =>
              have HN := Lib.hid (firstB_next HF.out (.inr hrr))
              clear hrr
              go_wp2_with fail
              go_roundw
              case rel => exact ⟨i + 1, by simp, by omega, HN.out, by first | trivial | rfl⟩
              case measure => simp [intOf]; omega
            | false =>
              have hfin := HCF.out
              rw [firstB_at HF.out hlt HIN.out hrr] at hfin
              subst hfin
              clear hrr
              go_wp2_with fail
              go_ret3
              exact ⟨rfl, HB0.out⟩
        · have hi64 : decide ((i : Int) ≤ (m : Int) + 1) = false := decide_eq_false (by omega)
          have hi9 : i = m + 2 := by omega
          have hfin := HCF.out
          rw [← hi9, HF.out] at hfin
          subst hfin
          clear hi9
          go_wp2_with fail
          go_ret3
          exact ⟨rfl, HB0.out⟩
  · have hcf : r = (0, false, chkF t [c]) := by rw [hr]; unfold breaksF; rw [if_neg h0]
    obtain ⟨z, hz⟩ : ∃ z, z = chkF t [c] := ⟨_, rfl⟩
    rw [← hz] at hchk hcf h0
    subst hcf
    have e0 : (z == 0) = false := by simpa using h0
    have HCHK := Lib.hid hchk
    clear hr h0 hz hchk HCC
    go_enter Tryd.func26, Tryd.ntmps26
    go_wp2_with fail
    refine (HCHK.out _ _ _ rfl rfl).mono ?_
    rintro e w1 ⟨rfl, rfl⟩
    go_wp2_with fail
    go_ret3
    exact ⟨rfl, below_alloc (Below.refl _ _) _⟩
theorem rholds_w (t k : Int) (c : Nat) (w : World) (hc : c < 2 ^ 64) (r : Bool × Int) (hr : r = holdsF t k c) :
    Calls Tryd.prog 24 #[.int .i64 t, .int .i64 k, .int .u64 c] w fun e w' => e = .returned (.tuple #[.bool r.1, .int .i64 r.2]) ∧ Below w.heap.size w w' := by
  have hb := rbreaks_w t k c w hc (breaksF t k c) rfl
  have hcf : r = ((breaksF t k c).2.2 == 0 && !(breaksF t k c).2.1, (breaksF t k c).2.2) := hr
  clear hr hc
  generalize breaksF t k c = q at *
  obtain ⟨q1, q2, q3⟩ := q
  subst hcf
  have HB := Lib.hid hb
  clear hb
  cases h3 : (q3 == 0)
  all_goals
    go_enter Tryd.func24, Tryd.ntmps24
    go_wp2_with fail
    refine HB.out.mono ?_
    rintro e w1 ⟨rfl, hb1⟩
    have HB1 := Lib.hid hb1
    clear hb1
    go_wp2_with fail
    go_ret2
    exact ⟨rfl, HB1.out⟩
end Go.Proofs.YtgekpnbgmbbbdaaDoor
