/- The walk of the law CountsBack. -/
import Derived.Test.YtgekpnbgmbbbdaaDoorPb1
import Derived.Test.YtgekpnbgmbbbdaaDoorCr5
namespace Go.Proofs.YtgekpnbgmbbbdaaDoor
open Go Go.RowKit Go.Proofs.YtgekpnbgmbbbdaaDoorW.PrintWords Go.Proofs.YtgekpnbgmbbbdaaDoorW.PrintLast Go.Proofs.YtgekpnbgmbbbdaaDoorW.PrintMore
theorem text_len {m c : Nat} (hm : m ≤ 62) : (textL m (elsI c (m + 2))).length ≤ 1000 := by
  have h1 := join_len [44] rfl _ (words_len (t := m) (c := c) (k := m + 2) (by omega) (by omega))
  have h2 := elsI_le c (m + 2)
  unfold textL
  rw [List.length_cons, List.length_append]
  simp only [List.length_map, wordsB, List.length_cons, List.length_nil] at *
  omega
set_option maxRecDepth 100000 in
set_option maxHeartbeats 1000000 in
theorem backlaw_walk (t c : Int) (w : World) (_hw0 : (Lit.int .i64 t).wf = true) (hc : (Lit.int .u64 c).wf = true) :
    Calls Tryd.prog 10 #[.int .i64 t, .int .u64 c] w fun e w' => e = .returned (.bool true) ∧ Below w.heap.size w w' := by
  obtain ⟨c, rfl, hc64⟩ := wf_u64 hc
  have h1 := text_w t c w hc64 (textR t c) rfl
  by_cases h0 : chkF t [c] = 0
  · obtain ⟨m, rfl, hm⟩ := bnd_nat (chk_bnd h0)
    have hmay : may m c = true := by
      unfold chkF at h0
      rw [if_pos (bnd_of hm)] at h0
      split at h0
      · rename_i ha
        exact List.all_eq_true.1 ha c (by simp)
      · cases h0
    have htr : textR m c = (textL m (elsI c (m + 2)), 0) := by unfold textR; rw [if_pos h0]; rfl
    have hl := text_len (m := m) (c := c) hm
    have hr := read_text hm hmay
    rw [htr] at h1
    generalize textL m (elsI c (m + 2)) = T at h1 hl hr
    have h2 := fun W => read_w (m : Int) ⟨T.toArray⟩ W (by show T.toArray.size ≤ _; rw [List.size_toArray]; omega) (c, 0, 0) (by rw [← hr])
    obtain ⟨S, hS⟩ : ∃ S : ByteArray, S = ⟨T.toArray⟩ := ⟨_, rfl⟩
    rw [← hS] at h1 h2
    have H1 := Lib.hid h1
    have H2 := Lib.hid h2
    clear h1 h2 htr hl hr hS h0 hmay hc hc64 _hw0 hm
    go_enter Tryd.func10, Tryd.ntmps10
    go_wp2_with fail
    refine H1.out.mono ?_
    rintro e w1 ⟨rfl, hb1⟩
    have HB1 := Lib.hid hb1
    clear hb1 H1
    go_wp2_with fail
    refine (H2.out _).mono ?_
    rintro e w2 ⟨rfl, hb2⟩
    have HB2 := Lib.hid (HB1.out.trans (hb2.mono HB1.out.size))
    clear hb2 H2
    go_wp2_with fail
    refine (awake_w _).mono ?_
    rintro e w5 ⟨rfl, hb5⟩
    have HB5 := Lib.hid (HB2.out.trans (hb5.mono HB2.out.size))
    clear hb5
    go_wp2_with fail
    go_ret
    exact ⟨rfl, HB5.out⟩
  · have htr : textR t c = ([], chkF t [c]) := by unfold textR; rw [if_neg h0]
    rw [htr] at h1
    generalize chkF t [c] = z at h0 h1
    have e0 : (z != 0) = true := by simpa using h0
    obtain ⟨S, hS⟩ : ∃ S : ByteArray, S = ⟨([] : List UInt8).toArray⟩ := ⟨_, rfl⟩
    have hE : (S.toList == []) = true := by rw [hS]; simp
    rw [← hS] at h1
    have H1 := Lib.hid h1
    clear h1 htr h0 hS hc hc64 _hw0
    go_enter Tryd.func10, Tryd.ntmps10
    go_wp2_with fail
    refine H1.out.mono ?_
    rintro e w1 ⟨rfl, hb1⟩
    have HB1 := Lib.hid hb1
    clear hb1 H1
    go_wp2_with fail
    refine (awake_w _).mono ?_
    rintro e w5 ⟨rfl, hb5⟩
    have HB5 := Lib.hid (HB1.out.trans (hb5.mono HB1.out.size))
    clear hb5
    go_wp2_with fail
    go_ret
    exact ⟨rfl, HB5.out⟩
end Go.Proofs.YtgekpnbgmbbbdaaDoor
