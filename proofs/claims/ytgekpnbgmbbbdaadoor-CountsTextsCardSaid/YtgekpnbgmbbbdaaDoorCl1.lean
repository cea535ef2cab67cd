/- The walk of the law CountsOf. -/
import Derived.Test.YtgekpnbgmbbbdaaDoorCa1
namespace Go.Proofs.YtgekpnbgmbbbdaaDoor
open Go Go.RowKit Go.Proofs.YtgekpnbgmbbbdaaDoorW.PrintWords Go.Proofs.YtgekpnbgmbbbdaaDoorW.PrintLast Go.Proofs.YtgekpnbgmbbbdaaDoorW.PrintMore
theorem wf_u64 {c : Int} (h : (Lit.int .u64 c).wf = true) : ∃ n : Nat, c = n ∧ n < 2 ^ 64 := by
  have h2 : IntKind.u64.min ≤ c ∧ c ≤ IntKind.u64.max := by simpa [Lit.wf] using h
  have e1 : IntKind.u64.min = 0 := by decide
  have e2 : IntKind.u64.max = 18446744073709551615 := by decide
  obtain ⟨n, rfl⟩ := Int.eq_ofNat_of_zero_le (show 0 ≤ c by omega)
  exact ⟨n, rfl, by omega⟩
set_option maxRecDepth 100000 in
set_option maxHeartbeats 1000000 in
theorem oflaw_walk (t : Int) (v : Value) (xs : List Int) (c : Int) (w : World) (_hw0 : (Lit.int .i64 t).wf = true) (hV : Kd.V (Kd.int .i64) 3 w 0 (fun k => k < w.heap.size) v xs)
    (hok : (∀ x ∈ xs, (Lit.int .i64 x).wf = true) ∧ xs.length * 8 ≤ 140737488351232) (hc : (Lit.int .u64 c).wf = true) :
    Calls Tryd.prog 3 #[.int .i64 t, v, .int .u64 c] w fun e w' => e = .returned (.bool true) ∧ Below w.heap.size w w' := by
  obtain ⟨c, rfl, hc64⟩ := wf_u64 hc
  obtain ⟨A, cp, rfl⟩ := Kd.V_slice hV
  have h1 := of_w t _ _ _ _ xs w hV (by omega) (ofF t xs) rfl
  have h2 := rof_w t _ _ _ _ xs w hV (by omega) (ofF t xs) rfl
  have h3 := callsIn_wide.1 (list_in t c w hc64 (listF t c) rfl)
  have h4 := fun W => rlist_w t c W hc64 (listF t c) rfl
  have hl : (listF t c).1.length ≤ 64 := by
    unfold listF
    split
    · rename_i h0
      obtain ⟨m, rfl, hm⟩ := bnd_nat (chk_bnd h0)
      have := elsI_le c (m + 2)
      show (elsI c (m + 2)).length ≤ 64
      omega
    · simp
  generalize ofF t xs = r at h1 h2
  generalize listF t c = q at h3 h4 hl
  obtain ⟨r1, r2⟩ := r
  obtain ⟨q1, q2⟩ := q
  have H1 := Lib.hid h1
  have H2 := Lib.hid h2
  have H3 := Lib.hid h3
  have H4 := Lib.hid h4
  have HL := Lib.hid hl
  clear h1 h2 h3 h4 hV hok hc hc64 _hw0 hl
  go_enter Tryd.func3, Tryd.ntmps3
  go_wp2_with fail
  refine H1.out.mono ?_
  rintro e w1 ⟨rfl, rfl⟩
  go_wp2_with fail
  refine H2.out.mono ?_
  rintro e w2 ⟨rfl, rfl⟩
  go_wp2_with fail
  refine H3.out.mono ?_
  rintro e w3 ⟨x, rfl, hx, hb3⟩
  obtain ⟨xA, xc, rfl⟩ := Kd.R_slice hx
  have HX := Lib.hid (Kd.R_reads' hx).2.2
  have HB3 := Lib.hid hb3
  clear hx hb3
  go_wp2_with fail
  refine (H4.out _).mono ?_
  rintro e w4 ⟨y, rfl, hy, hb4⟩
  obtain ⟨yA, yc, rfl⟩ := Kd.R_slice hy
  have HY := Lib.hid (Kd.R_reads' hy).2.2
  have HX4 := Lib.hid (Kd.C_below HX.out hb4)
  have HB4 := Lib.hid (HB3.out.trans (hb4.mono HB3.out.size))
  clear hy hb4 H1 H2 H3 H4 HX HB3
  go_wp2_with fail
  refine (ints_eq xA yA _ xc _ yc q1 _ HX4.out HY.out (by have := HL.out; omega)).mono ?_
  rintro e w5 ⟨rfl, hb5⟩
  have HB5 := Lib.hid hb5
  clear hb5 HX4 HY
  go_wp2_with fail
  refine (awake_w _).mono ?_
  rintro e w6 ⟨rfl, hb6⟩
  have HB6 := Lib.hid hb6
  clear hb6
  go_wp2_with fail
  go_ret
  refine ⟨rfl, ?_⟩
  have b5 := HB4.out.trans (HB5.out.mono HB4.out.size)
  exact b5.trans (HB6.out.mono b5.size)
end Go.Proofs.YtgekpnbgmbbbdaaDoor
