/- The law SessionOnce: messages come exactly once and in order, whatever happens. -/
import Derived.Test.YtlnhjkbhhdcdeaaOm
import Derived.Test.YtlnhjkbhhdcdeaaOh
import Derived.Test.YtlnhjkbhhdcdeaaOi
namespace Go.Proofs.Ytlnhjkbhhdcdeaa
open Go Go.RowKit Go.Proofs.YtlnhjkbhhdcdeaaW.PrintWords Go.Proofs.YtlnhjkbhhdcdeaaW.PrintLast Go.Proofs.YtlnhjkbhhdcdeaaW.PrintMore
set_option linter.unusedVariables false
set_option maxRecDepth 100000
set_option maxHeartbeats 4000000
attribute [local go_sem] max2_mx min2_mn max_two min_two
theorem law_once (wd : Int) (v1 : Value) (ts : List TTu) (w : World) (hw : (Lit.int .u8 wd).wf = true) (hV : Kd.V kTu 32 w 0 (fun k => k < w.heap.size) v1 ts) (hok : (∀ x ∈ ts, okTu x) ∧ ts.length * 32 ≤ 140737488351232) :
    Calls Try.prog 4 #[.int .u8 wd, v1] w fun e w' => e = .returned (.bool true) ∧ Below w.heap.size w w' := by
  have hwd : 0 ≤ wd ∧ wd ≤ 255 := by
    simp [Lit.wf, IntKind.min, IntKind.max, IntKind.signed, IntKind.bits] at hw
    omega
  obtain ⟨st, hst⟩ : ∃ st, st = turns (st0F wd) ((ts.take 150).map tuof) := ⟨_, rfl⟩
  have hl : ((ts.take 150).map tuof).length ≤ 150 := by
    rw [List.length_map, List.length_take]
    exact Nat.min_le_left _ _
  obtain ⟨hin, hpn⟩ := turns_inv ((ts.take 150).map tuof) (mst_inv (st0_bad wd hwd.1 hwd.2) aw1_bd) (st0_pn wd hwd.1 hwd.2) (fun t ht => by
    obtain ⟨x, hx, rfl⟩ := List.mem_map.1 ht
    have := (hok.1 x (List.mem_of_mem_take hx)).2.2.1
    simp [Lit.wf, IntKind.min, IntKind.max, IntKind.signed, IntKind.bits] at this
    show 0 ≤ x.2.2.1
    omega) (by omega)
  have HC := Lib.hid (start_w wd hwd.1 hwd.2 v1 ts w hV hok.1)
  rw [← hst] at HC
  have HIN : Hid (Inv st) := by rw [hst]; exact Lib.hid hin
  have HPK : Hid (∃ n : Int, Pok n st ∧ n ≤ 1099511627776) := by
    rw [hst]
    exact Lib.hid ⟨_, hpn.pk.ok, by omega⟩
  clear hst hl hin hpn hV hok hw hwd
  go_enter Try.func4, Try.ntmps4
  go_wp2_with fail
  refine HC.out.mono ?_
  rintro e w1 ⟨p, rfl, lab, g, m, pv, vt, vs, vg, A, hb, hz⟩
  have HA := Lib.hid A
  have HB := Lib.hid hb
  clear A hb hz HC
  go_wp2_with fail
  obtain ⟨n, pok, hn⟩ := HPK.out
  refine (ponce0 HA.out pok hn ((HIN.out.ri 0 (by omega)).2.2)).mono ?_
  rintro e w2 ⟨rfl, hb2⟩
  have HA2 := Lib.hid (HA.out.below hb2)
  have HB2 := Lib.hid (below_then HB.out HB.out.size hb2)
  clear hb2
  go_wp2_with fail
  refine (ponce1 HA2.out pok hn ((HIN.out.ri 1 (by omega)).2.2)).mono ?_
  rintro e w3 ⟨rfl, hb3⟩
  have HB3 := Lib.hid (below_then HB2.out HB2.out.size hb3)
  clear hb3
  go_wp2_with fail
  refine (alive _).mono ?_
  rintro e w4 ⟨rfl, hb4⟩
  have HB4 := Lib.hid (below_then HB3.out HB3.out.size hb4)
  clear hb4
  go_wp2_with fail
  go_ret
  exact ⟨rfl, HB4.out⟩
end Go.Proofs.Ytlnhjkbhhdcdeaa
