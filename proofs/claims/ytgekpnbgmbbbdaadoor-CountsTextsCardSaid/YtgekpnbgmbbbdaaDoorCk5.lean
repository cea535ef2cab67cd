/- The walks of the document's List, of ints. -/
import Derived.Test.YtgekpnbgmbbbdaaDoorCk4
namespace Go.Proofs.YtgekpnbgmbbbdaaDoor
open Go Go.RowKit Go.Proofs.YtgekpnbgmbbbdaaDoorW.PrintWords Go.Proofs.YtgekpnbgmbbbdaaDoorW.PrintLast Go.Proofs.YtgekpnbgmbbbdaaDoorW.PrintMore
theorem Tryd.info3 : (Tryd.prog.info? 3).map (fun i => (i.zero, i.size, i.bytes)) = some (some (.int .i64 0), 1, 8) := by kernel_rfl
/-- A set's elements below k, as numbers. -/
def elsI (c : Nat) : Nat → List Int
  | 0 => []
  | k + 1 => elsI c k ++ (if isin c k then [(k : Int)] else [])
theorem elsI_le (c : Nat) : ∀ k, (elsI c k).length ≤ k
  | 0 => Nat.le_refl _
  | k + 1 => by
    have := elsI_le c k
    rw [elsI, List.length_append]
    split <;> simp <;> omega
theorem elsI_of (c : Nat) : ∀ (k : Nat) (h : k ≤ 64), (elsTo c k h).map (fun x : Fin 64 => ((x.1 : Nat) : Int)) = elsI c k
  | 0, _ => rfl
  | k + 1, h => by
    rw [elsTo, elsI, List.map_append, elsI_of c k (by omega)]
    split <;> rfl
/-- A set's elements, and whether there is such a set. -/
def listF (t : Int) (c : Nat) : List Int × Int := if chkF t [c] = 0 then (elsI c (t.toNat + 2), 0) else ([], chkF t [c])
theorem chk_bnd {t : Int} {L : List Nat} (h : chkF t L = 0) : bnd t = true := by
  cases hb : bnd t with
  | true => rfl
  | false => unfold chkF at h; rw [hb] at h; cases h
set_option maxRecDepth 100000 in
set_option maxHeartbeats 1000000 in
theorem rlist_w (t : Int) (c : Nat) (w : World) (hc : c < 2 ^ 64) (r : List Int × Int) (hr : r = listF t c) :
    Calls Tryd.prog 14 #[.int .i64 t, .int .u64 c] w fun e w' => ∃ v, e = .returned (.tuple #[v, .int .i64 r.2]) ∧ (Kd.int .i64).R 3 w' w.heap.size (fun k => w.heap.size ≤ k) v r.1 ∧ Below w.heap.size w w' := by
  have hV : ∀ W : World, Kd.V (Kd.int .u64) 24 (W.alloc (.cells #[.int .u64 c] 24)) 0 (fun k => False ∨ k = W.heap.size) (.slice (some ⟨W.heap.size, 0, none⟩) 1 1) (u64s [c]) := fun W =>
    V_block (heap_alloc_new W _) (Reps_ints .u64 [(c : Int)] _ rfl) rfl (Nat.le_refl _) (by omega)
  have hchk := fun W : World => rcheck_w t _ _ _ _ [c] _ (hV W) (fun x hx => by rw [List.mem_singleton] at hx; rw [hx]; exact hc) (by simp)
  have HCHK := Lib.hid hchk
  have HCC := Lib.hid hc
  clear hV hchk hc
  by_cases h0 : chkF t [c] = 0
  · have hcf : r = (elsI c (t.toNat + 2), 0) := by rw [hr]; unfold listF; rw [if_pos h0]
    obtain ⟨m, rfl, hm⟩ := bnd_nat (chk_bnd h0)
    subst hcf
    have hm2 : (m : Int) ≤ 62 := by omega
    rw [h0] at HCHK
    clear hr h0
    go_enter Tryd.func14, Tryd.ntmps14
    go_wp2_with fail
    refine (HCHK.out _).mono ?_
    rintro e w1 ⟨rfl, rfl⟩
    clear HCHK
    go_wp2_with fail
    have hB0 := below_alloc (Below.refl w.heap.size w) (.cells #[.int .u64 c] 24)
    generalize w.alloc (.cells #[.int .u64 c] 24) = W1 at *
    have HB0 := Lib.hid hB0
    clear hB0
    go_loopw [7, 8] (fun vo vi wr => ∃ i : Nat, vi = .int .i64 i ∧ i ≤ m + 2 ∧ (Kd.int .i64).R 3 wr w.heap.size (fun k => w.heap.size ≤ k) vo (elsI c i) ∧ Below w.heap.size w wr) (fun _ vi _ => m + 2 - (intOf vi).toNat)
    case atStart => exact ⟨0, rfl, Nat.zero_le _, Kd.R_nil _ _ _ _ _, HB0.out⟩
    case round =>
      obtain ⟨i, rfl, hi, hR, hbl⟩ := hrel
      have HRo := Lib.hid hR
      have HBL := Lib.hid hbl
      have hle := elsI_le c i
      clear hR hbl
      by_cases hlt : i < m + 2
      · have hi64 : decide ((i : Int) ≤ (m : Int) + 1) = true := decide_eq_true (by omega)
        have hi63 : (i : Int) ≤ 63 := by omega
        go_wp2_with fail
        refine (rin_w c i HCC.out (by omega) _).mono ?_
        rintro e w2 ⟨rfl, rfl⟩
        cases hin : isin c i with
        | true =>
          have hst : elsI c (i + 1) = elsI c i ++ [(i : Int)] := by rw [elsI, if_pos hin]
          have HST := Lib.hid hst
          clear hst hin
          go_wp2_with (
            (with_reducible refine gate_builtin (b := .append) (xs := #[.tmp 25, .tmp 27]) rfl ?_); at_builtin; go_loud (refine Kd.R_append (Kd.int .i64) (w0 := w) (W := w2) w.heap.size rfl (.tmp 25) (.tmp 27) 22 3 (.int .i64 0) 8 rfl Tryd.underlying22 Tryd.info3 rfl (by decide) (by omega) _ _ (i : Int) [.int .i64 i] (fun k => w.heap.size ≤ k) (fun _ => False) rfl ?aX rfl (fun _ h => h.elim) ?aF HRo.out ?aB ?aS ?aL ?_); (case aX => rfl); (case aF => intro k hk; have := HBL.out.size; omega); (case aB => exact HBL.out); (case aS => exact HBL.out.size); (case aL => omega); intro v2 w3 hr2 hb2 hg2 hat2; rw [← HST.out] at hr2; have HR2 := Lib.hid hr2; have HB2 := Lib.hid hb2; clear hr2 hb2 hg2 hat2)
          go_wp2_with fail
          go_roundw
          case rel => exact ⟨i + 1, by simp, by omega, HR2.out, HB2.out⟩
          case measure => simp [intOf]; omega
        | false =>
          have hst : elsI c (i + 1) = elsI c i := by rw [elsI, hin]; simp
          have HR2 := HRo.out
          rw [← hst] at HR2
          have HR3 := Lib.hid HR2
          clear hst hin HR2
          go_wp2_with fail
          go_roundw
          case rel => exact ⟨i + 1, by simp, by omega, HR3.out, HBL.out⟩
          case measure => simp [intOf]; omega
      · have hi64 : decide ((i : Int) ≤ (m : Int) + 1) = false := decide_eq_false (by omega)
        have hi9 : i = m + 2 := by omega
        have HR2 := HRo.out
        rw [hi9] at HR2
        have HR3 := Lib.hid HR2
        clear HR2 hi9
        go_wp2_with fail
        go_ret2
        exact ⟨_, rfl, HR3.out, HBL.out⟩
  · have hcf : r = ([], chkF t [c]) := by rw [hr]; unfold listF; rw [if_neg h0]
    obtain ⟨z, hz⟩ : ∃ z, z = chkF t [c] := ⟨_, rfl⟩
    rw [← hz] at HCHK hcf h0
    subst hcf
    have e0 : (z == 0) = false := by simpa using h0
    clear hr h0 hz
    go_enter Tryd.func14, Tryd.ntmps14
    go_wp2_with fail
    refine (HCHK.out _).mono ?_
    rintro e w1 ⟨rfl, rfl⟩
    clear HCHK
    go_wp2_with fail
    go_ret2
    exact ⟨_, rfl, Kd.R_nil _ _ _ _ _, below_alloc (Below.refl _ _) _⟩
/-- An element of a slice of numbers that is read. -/
theorem C_int_at {w : World} {A : Option Addr} {n : Nat} {xs : List Int} (h : (Kd.int .i64).C w A n xs) (i : Nat) (hi : i < n) : ∃ ad, ∃ x : Int, A = some ad ∧ w.cell? (ad.add i) = some (.int .i64 x) ∧ Hid (x = xs.getD i 0) := by
  obtain ⟨ad, cs, e, _, hr, hcell⟩ := ReadsRow.get_ h 0 (i : Int) (by omega) (by omega)
  have hcc : cs = [.int .i64 (xs.getD ((i : Int)).toNat 0)] := hr
  subst hcc
  have := hcell 0 _ rfl
  exact ⟨ad, _, e, by simpa [Kd.int, Kd.scalar] using this, rfl⟩
set_option maxRecDepth 100000 in
set_option maxHeartbeats 2000000 in
theorem ints_eq (A B : Option Addr) (n c m d : Nat) (xs : List Int) (w : World) (ha : (Kd.int .i64).C w A n xs) (hb : (Kd.int .i64).C w B m xs) (hl : xs.length ≤ 100000) :
    Calls Tryd.prog 15 #[.slice A n c, .slice B m d] w fun e w' => e = .returned (.bool true) ∧ Below w.heap.size w w' := by
  have hn : xs.length = n := ha.1
  obtain rfl : n = m := hn.symm.trans hb.1
  have HA := Lib.hid ha
  have HB := Lib.hid hb
  have hn5 : n ≤ 100000 := by omega
  clear ha hb hn hl
  go_enter Tryd.func15, Tryd.ntmps15
  go_wp2_with fail
  go_loopw [5] (fun vi wr => ∃ i : Nat, vi = .int .i64 i ∧ i ≤ n ∧ (Kd.int .i64).C wr A n xs ∧ (Kd.int .i64).C wr B n xs ∧ Below w.heap.size w wr) (fun vi _ => n - (intOf vi).toNat)
  case atStart => exact ⟨0, rfl, Nat.zero_le _, HA.out, HB.out, Below.refl _ _⟩
  case round =>
    obtain ⟨i, rfl, hi, hA, hB, hbl⟩ := hrel
    have HBL := Lib.hid hbl
    have hn64 : (n : Int) ≤ 100000 := by omega
    have hli : i < n ∨ i = n := by omega
    rcases hli with hlt | hlt
    · obtain ⟨ad, x, rfl, a0, HX⟩ := C_int_at hA i hlt
      obtain ⟨bd, y, rfl, b0, HY⟩ := C_int_at hB i hlt
      obtain rfl : x = y := HX.out.trans HY.out.symm
      have HA1 := Lib.hid hA
      have HB1 := Lib.hid hB
      have hi64 : (i : Int) < (n : Int) := by omega
      clear hA hB hbl HX HY
      go_wp2_with fail
      go_quiet (fail)
      go_wp2_with fail
      go_roundw
      case rel =>
        refine ⟨i + 1, ?_, by omega, Kd.C_drewN HA1.out _, Kd.C_drewN HB1.out _, pw_below_drewN HBL.out _⟩
        go_num
      case measure => simp [intOf]; omega
    · have hi64 : decide ((i : Int) < (n : Int)) = false := by simp; omega
      clear hA hB hbl
      go_wp2_with fail
      go_ret
      exact ⟨rfl, HBL.out⟩
end Go.Proofs.YtgekpnbgmbbbdaaDoor
