/- The walk of the law CountsSums. -/
import Derived.Test.YtgekpnbgmbbbdaaDoorCl1
import Derived.Test.YtgekpnbgmbbbdaaDoorCs2
namespace Go.Proofs.YtgekpnbgmbbbdaaDoor
open Go Go.RowKit Go.Proofs.YtgekpnbgmbbbdaaDoorW.PrintWords Go.Proofs.YtgekpnbgmbbbdaaDoorW.PrintLast Go.Proofs.YtgekpnbgmbbbdaaDoorW.PrintMore
theorem wf_u64s : ∀ {xs : List Int}, (∀ x ∈ xs, (Lit.int .u64 x).wf = true) → ∃ L : List Nat, xs = u64s L ∧ ∀ x ∈ L, x < 2 ^ 64
  | [], _ => ⟨[], rfl, by simp⟩
  | x :: xs, h => by
    obtain ⟨n, rfl, hn⟩ := wf_u64 (h x (List.mem_cons_self ..))
    obtain ⟨L, rfl, hL⟩ := wf_u64s (fun y hy => h y (List.mem_cons_of_mem _ hy))
    refine ⟨n :: L, rfl, fun y hy => ?_⟩
    rcases List.mem_cons.1 hy with rfl | hy
    · exact hn
    · exact hL y hy
set_option maxRecDepth 100000 in
set_option maxHeartbeats 1000000 in
theorem sumslaw_walk (t : Int) (v : Value) (xs : List Int) (w : World) (_hw0 : (Lit.int .i64 t).wf = true) (hV : Kd.V (Kd.int .u64) 24 w 0 (fun k => k < w.heap.size) v xs)
    (hok : (∀ x ∈ xs, (Lit.int .u64 x).wf = true) ∧ xs.length * 8 ≤ 140737488351232) :
    Calls Tryd.prog 5 #[.int .i64 t, v] w fun e w' => e = .returned (.bool true) ∧ Below w.heap.size w w' := by
  obtain ⟨L, rfl, hL⟩ := wf_u64s hok.1
  have hlen : L.length ≤ 1152921504606846976 := by have := hok.2; rw [u64s_len] at this; omega
  obtain ⟨A, cp, rfl⟩ := Kd.V_slice hV
  have h1 := callsIn_wide.1 (sum_in t _ _ _ _ L w hV hL hlen (sumR t L) rfl)
  have h2 := fun W (hb : Below w.heap.size w W) => rsum_w t _ _ _ _ L W (Kd.V_below hV hb) hL hlen (sumR t L) rfl
  have h3 := fun W (hb : Below w.heap.size w W) => union_w t _ _ _ _ L W (Kd.V_below hV hb) hL hlen (uniR t L) rfl
  have h4 := fun W (hb : Below w.heap.size w W) => runion_w t _ _ _ _ L W (Kd.V_below hV hb) hL hlen (uniR t L) rfl
  have h5 := fun W (hb : Below w.heap.size w W) => check_w t _ _ _ _ L W (Kd.V_below hV hb) hL hlen
  have h6 := fun W (hb : Below w.heap.size w W) => rcheck_w t _ _ _ _ L W (Kd.V_below hV hb) hL hlen
  generalize sumR t L = r at h1 h2
  generalize uniR t L = q at h3 h4
  generalize chkF t L = z at h5 h6
  generalize (u64s L).length = n at h1 h2 h3 h4 h5 h6 ⊢
  obtain ⟨r1, r2⟩ := r
  obtain ⟨q1, q2⟩ := q
  have H1 := Lib.hid h1
  have H2 := Lib.hid h2
  have H3 := Lib.hid h3
  have H4 := Lib.hid h4
  have H5 := Lib.hid h5
  have H6 := Lib.hid h6
  clear h1 h2 h3 h4 h5 h6 hV hok _hw0 hlen hL
  go_enter Tryd.func5, Tryd.ntmps5
  go_wp2_with fail
  refine H1.out.mono ?_
  rintro e w1 ⟨rfl, hb1⟩
  have HB1 := Lib.hid hb1
  clear hb1
  go_wp2_with fail
  refine (H2.out _ HB1.out).mono ?_
  rintro e w2 ⟨rfl, rfl⟩
  go_wp2_with fail
  refine (H3.out _ HB1.out).mono ?_
  rintro e w3 ⟨rfl, rfl⟩
  go_wp2_with fail
  refine (H4.out _ HB1.out).mono ?_
  rintro e w4 ⟨rfl, rfl⟩
  go_wp2_with fail
  refine (H5.out _ HB1.out).mono ?_
  rintro e w5 ⟨rfl, rfl⟩
  go_wp2_with fail
  refine (H6.out _ HB1.out).mono ?_
  rintro e w6 ⟨rfl, rfl⟩
  go_wp2_with fail
  refine (awake_w _).mono ?_
  rintro e w7 ⟨rfl, hb7⟩
  have HB7 := Lib.hid hb7
  clear hb7
  go_wp2_with fail
  go_ret
  exact ⟨rfl, HB1.out.trans (HB7.out.mono HB1.out.size)⟩
end Go.Proofs.YtgekpnbgmbbbdaaDoor
