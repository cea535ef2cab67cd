/- The walk of the law CountsTexts. -/
import Derived.Test.YtgekpnbgmbbbdaaDoorPe2
import Derived.Test.YtgekpnbgmbbbdaaDoorCl6
namespace Go.Proofs.YtgekpnbgmbbbdaaDoor
open Go Go.RowKit Go.Proofs.YtgekpnbgmbbbdaaDoorW.PrintWords Go.Proofs.YtgekpnbgmbbbdaaDoorW.PrintLast Go.Proofs.YtgekpnbgmbbbdaaDoorW.PrintMore
theorem readF_eq (t : Int) (D : List UInt8) : readF t D = rreadF t D := by
  unfold readF rreadF
  cases hb : bnd t with
  | false => rfl
  | true =>
    obtain ⟨m, rfl, hm⟩ := bnd_nat hb
    rw [if_pos rfl, if_pos rfl, Int.toNat_natCast]
    show _ = RR m D.length D
    by_cases h0 : D[0]? = some 123
    · rw [if_pos h0]
      have hl := (List.getElem?_eq_some_iff.1 h0).1
      obtain ⟨b, D', rfl⟩ := List.exists_cons_of_ne_nil (List.ne_nil_of_length_pos hl)
      obtain rfl : b = 123 := Option.some.inj h0
      refine read_main hm _ 0 1 0 ⟨Nat.le_refl _, hl, by omega, by omega, ?_, ?_, by simp, rfl⟩
      · refine via_run (q := 0) 1 (by rw [List.length_cons]; omega) (fun q' h1 h2 => ?_)
        rw [show q' = 1 by omega]
        unfold BegT
        simp [begF]
      · intro p h1 h2
        rw [show 1 + p = p + 1 by omega, List.take_succ_cons]
        have hne : D'.take p ≠ [] := by
          intro h3
          have := congrArg List.length h3
          rw [List.length_take, List.length_nil] at this
          rw [List.length_drop, List.length_cons] at h2
          omega
        unfold BegT
        rw [if_neg (by simp), if_pos (by rfl)]
        show begF m _ (D'.take p) 0 = _
        rw [begF, if_neg hne, if_neg (by omega)]
        rfl
    · rw [if_neg h0]
      cases D with
      | nil => exact (RR_fault (Q := 0) (by rfl) (.inr (by simp))).symm
      | cons b D' =>
        have hb1 : b ≠ 123 := fun h => h0 (by rw [h]; rfl)
        refine (RR_fault (Q := 0) ?_ (.inl (by simp))).symm
        refine via_stop (Q := 0) (by simp) ?_
        unfold BegT
        simp [hb1]
set_option maxRecDepth 100000 in
set_option maxHeartbeats 1000000 in
theorem textslaw_walk (t c : Int) (s : ByteArray) (w : World) (_hw0 : (Lit.int .i64 t).wf = true) (hc : (Lit.int .u64 c).wf = true) (hs : s.size ≤ 140737488351232) :
    Calls Tryd.prog 9 #[.int .i64 t, .int .u64 c, .string s] w fun e w' => e = .returned (.bool true) ∧ Below w.heap.size w w' := by
  obtain ⟨c, rfl, hc64⟩ := wf_u64 hc
  have h1 := fun W => text_w t c W hc64 (textR t c) rfl
  have h2 := fun W => rtext_w t c W hc64 (textR t c) rfl
  have h3 := fun W => read_w t s W hs (readF t s.data.toList) rfl
  have h4 := fun W => rread_w t s W hs (readF t s.data.toList) (readF_eq t s.data.toList)
  generalize textR t c = r at h1 h2
  generalize readF t s.data.toList = q at h3 h4
  obtain ⟨r1, r2⟩ := r
  obtain ⟨q1, q2, q3⟩ := q
  obtain ⟨S, hS⟩ : ∃ S : ByteArray, S = ⟨r1.toArray⟩ := ⟨_, rfl⟩
  simp only at h1 h2
  rw [← hS] at h1 h2
  have hE : (S.toList == S.toList) = true := by simp
  have H1 := Lib.hid h1
  have H2 := Lib.hid h2
  have H3 := Lib.hid h3
  have H4 := Lib.hid h4
  clear h1 h2 h3 h4 _hw0 hc hc64 hs hS
  go_enter Tryd.func9, Tryd.ntmps9
  go_wp2_with fail
  refine (H1.out _).mono ?_
  rintro e w1 ⟨rfl, hb1⟩
  have HB1 := Lib.hid hb1
  clear hb1 H1
  go_wp2_with fail
  refine (H2.out _).mono ?_
  rintro e w2 ⟨rfl, hb2⟩
  have HB2 := Lib.hid (HB1.out.trans (hb2.mono HB1.out.size))
  clear hb2 H2
  go_wp2_with fail
  refine (H3.out _).mono ?_
  rintro e w3 ⟨rfl, hb3⟩
  have HB3 := Lib.hid (HB2.out.trans (hb3.mono HB2.out.size))
  clear hb3 H3
  go_wp2_with fail
  refine (H4.out _).mono ?_
  rintro e w4 ⟨rfl, n, rfl⟩
  have HB4 := Lib.hid (pw_below_drewN HB3.out n)
  clear H4
  go_wp2_with fail
  refine (awake_w _).mono ?_
  rintro e w5 ⟨rfl, hb5⟩
  have HB5 := Lib.hid (HB4.out.trans (hb5.mono HB4.out.size))
  clear hb5
  go_wp2_with fail
  go_ret
  exact ⟨rfl, HB5.out⟩
end Go.Proofs.YtgekpnbgmbbbdaaDoor
