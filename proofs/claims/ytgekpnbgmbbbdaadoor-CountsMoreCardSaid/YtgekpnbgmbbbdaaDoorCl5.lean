/- The walks of the laws CountsHolds and CountsMore. -/
import Derived.Test.YtgekpnbgmbbbdaaDoorCb4
namespace Go.Proofs.YtgekpnbgmbbbdaaDoor
open Go Go.RowKit Go.Proofs.YtgekpnbgmbbbdaaDoorW.PrintWords Go.Proofs.YtgekpnbgmbbbdaaDoorW.PrintLast Go.Proofs.YtgekpnbgmbbbdaaDoorW.PrintMore
set_option maxRecDepth 100000 in
set_option maxHeartbeats 1000000 in
theorem holdslaw_walk (t k c : Int) (w : World) (_hw0 : (Lit.int .i64 t).wf = true) (_hw1 : (Lit.int .i64 k).wf = true) (hc : (Lit.int .u64 c).wf = true) :
    Calls Tryd.prog 7 #[.int .i64 t, .int .i64 k, .int .u64 c] w fun e w' => e = .returned (.bool true) ∧ Below w.heap.size w w' := by
  obtain ⟨c, rfl, hc64⟩ := wf_u64 hc
  have h1 := fun W => holds_w t k c W hc64 (holdsF t k c) rfl
  have h2 := fun W => rholds_w t k c W hc64 (holdsF t k c) rfl
  have h3 := fun W => callsIn_wide.1 (breaks_in t k c W hc64 (breaksF t k c) rfl)
  have h4 := fun W => rbreaks_w t k c W hc64 (breaksF t k c) rfl
  generalize holdsF t k c = r at h1 h2
  generalize breaksF t k c = q at h3 h4
  obtain ⟨r1, r2⟩ := r
  obtain ⟨q1, q2, q3⟩ := q
  have H1 := Lib.hid h1
  have H2 := Lib.hid h2
  have H3 := Lib.hid h3
  have H4 := Lib.hid h4
  clear h1 h2 h3 h4 _hw0 _hw1 hc hc64
  go_enter Tryd.func7, Tryd.ntmps7
  go_wp2_with fail
  refine (H1.out _).mono ?_
  rintro e w1 ⟨rfl, hb1⟩
  have HB1 := Lib.hid hb1
  clear hb1 H1
  go_wp2_with fail
  refine (H2.out _).mono ?_
  rintro e w2 ⟨rfl, hb2⟩
  have HB2 := Lib.hid (HB1.out.trans (hb2.mono HB1.out.size))
  clear hb2 H2
  go_wp2_with fail
  refine (H3.out _).mono ?_
  rintro e w3 ⟨rfl, hb3⟩
  have HB3 := Lib.hid (HB2.out.trans (hb3.mono HB2.out.size))
  clear hb3 H3
  go_wp2_with fail
  refine (H4.out _).mono ?_
  rintro e w4 ⟨rfl, hb4⟩
  have HB4 := Lib.hid (HB3.out.trans (hb4.mono HB3.out.size))
  clear hb4 H4
  go_wp2_with fail
  refine (awake_w _).mono ?_
  rintro e w5 ⟨rfl, hb5⟩
  have HB5 := Lib.hid (HB4.out.trans (hb5.mono HB4.out.size))
  clear hb5
  go_wp2_with fail
  go_ret
  exact ⟨rfl, HB5.out⟩
theorem breaksF_bad {m : Nat} (hm : m ≤ 62) {k : Int} (hk : k < 1 ∨ 3 < k) {c : Nat} (hc : may m c = true) : breaksF m k c = (0, false, 81) := by
  unfold breaksF
  rw [if_pos (chk_all hm (fun x hx => by rw [List.mem_singleton] at hx; rw [hx]; exact hc)), if_pos hk]
theorem breaksF_ok {m : Nat} (hm : m ≤ 62) {k : Int} (hk : ¬ (k < 1 ∨ 3 < k)) {c : Nat} (hc : may m c = true) : breaksF m k c = match firstB m k c (m + 2) with | some i => ((i : Int), true, 0) | none => (0, false, 0) := by
  unfold breaksF
  rw [if_pos (chk_all hm (fun x hx => by rw [List.mem_singleton] at hx; rw [hx]; exact hc)), if_neg hk]; rfl
set_option maxRecDepth 100000 in
set_option maxHeartbeats 2000000 in
theorem morelaw_walk (t k a b : Int) (w : World) (_hw0 : (Lit.int .i64 t).wf = true) (_hw1 : (Lit.int .i64 k).wf = true) (ha0 : (Lit.int .u64 a).wf = true) (hb0 : (Lit.int .u64 b).wf = true) :
    Calls Tryd.prog 8 #[.int .i64 t, .int .i64 k, .int .u64 a, .int .u64 b] w fun e w' => e = .returned (.bool true) ∧ Below w.heap.size w w' := by
  obtain ⟨a, rfl, ha64⟩ := wf_u64 ha0
  obtain ⟨b, rfl, hb64⟩ := wf_u64 hb0
  clear _hw0 _hw1 ha0 hb0
  have R0 := fun (W : World) => rchkl_w t [a, b] (two_of ha64 hb64) (by simp) W #[.int .u64 (a : Nat), .int .u64 (b : Nat)] rfl
  simp only [List.length_cons, List.length_nil, Nat.zero_add, Nat.reduceAdd] at R0
  by_cases h0 : chkF t [a, b] = 0
  · obtain ⟨m, rfl, hm⟩ := bnd_nat (chk_bnd h0)
    have hall : ([a, b].all (may m)) = true := by
      unfold chkF at h0
      rw [if_pos (bnd_of hm)] at h0
      split at h0
      · assumption
      · cases h0
    have ha : may m a = true := List.all_eq_true.1 hall a (by simp)
    have hb : may m b = true := List.all_eq_true.1 hall b (by simp)
    have hu := may_or ha hb
    rw [h0] at R0
    have c4 := fun (W : World) => unil_w hm [a, b] (two_of ha hb) (by simp) (a ||| b) (may_nz hu) (uniF_two _ _) W #[.int .u64 (a : Nat), .int .u64 (b : Nat)] rfl
    simp only [List.length_cons, List.length_nil, Nat.zero_add, Nat.reduceAdd] at c4
    have hsub : ∀ i, isin a i = true → isin (a ||| b) i = true := fun i hi => by
      unfold isin at hi ⊢
      rw [Nat.testBit_or, hi, Bool.true_or]
    have hu64 := may_64 hm hu
    generalize (a ||| b) = u at hu c4 hsub hu64
    have h1 := fun W => holds_w (m : Int) k u W hu64 (holdsF m k u) rfl
    have h2 := fun W => holds_w (m : Int) k a W ha64 (holdsF m k a) rfl
    have h3 := fun W => callsIn_wide.1 (breaks_in (m : Int) k u W hu64 (breaksF m k u) rfl)
    have HR0 := Lib.hid R0
    have HC4 := Lib.hid c4
    have HSUB := Lib.hid hsub
    have HU64 := Lib.hid hu64
    by_cases hk : k < 1 ∨ 3 < k
    · have e1 : holdsF (m : Int) k u = (false, 81) := by unfold holdsF; rw [breaksF_bad hm hk hu]; rfl
      have e2 : holdsF (m : Int) k a = (false, 81) := by unfold holdsF; rw [breaksF_bad hm hk ha]; rfl
      rw [e1] at h1
      rw [e2] at h2
      rw [breaksF_bad hm hk hu] at h3
      have H1 := Lib.hid h1
      have H2 := Lib.hid h2
      have H3 := Lib.hid h3
      clear h1 h2 h3 R0 c4 h0 hall ha hb hu hk e1 e2 hsub hu64 HSUB HU64 ha64 hb64 hm
      go_enter Tryd.func8, Tryd.ntmps8
      go_wp2_with fail
      refine (awake_w _).mono ?_
      rintro e w0 ⟨rfl, hb0⟩
      have HB0 := Lib.hid hb0
      clear hb0
      go_wp2_with fail
      refine (HR0.out _ _ _ rfl rfl).mono ?_
      rintro e wr ⟨rfl, rfl⟩
      go_wp2_with fail
      have HBA := Lib.hid (below_alloc HB0.out (.cells #[.int .u64 (a : Nat), .int .u64 (b : Nat)] 24))
      refine (HC4.out _ _ _ (by simp only [World.size_alloc]) rfl).mono ?_
      rintro e w1 ⟨rfl, hb1⟩
      have HB1 := Lib.hid (HBA.out.trans (hb1.mono HBA.out.size))
      clear hb1 HBA HB0
      go_wp2_with fail
      refine (H1.out _).mono ?_
      rintro e w2 ⟨rfl, hb2⟩
      have HB2 := Lib.hid (HB1.out.trans (hb2.mono HB1.out.size))
      clear hb2 HB1
      go_wp2_with fail
      refine (H2.out _).mono ?_
      rintro e w3 ⟨rfl, hb3⟩
      have HB3 := Lib.hid (HB2.out.trans (hb3.mono HB2.out.size))
      clear hb3 HB2
      go_wp2_with fail
      refine (H3.out _).mono ?_
      rintro e w4 ⟨rfl, hb4⟩
      have HB4 := Lib.hid (HB3.out.trans (hb4.mono HB3.out.size))
      clear hb4 HB3
      go_wp2_with fail
      go_ret
      exact ⟨rfl, HB4.out⟩
    · have hbu := breaksF_ok hm hk hu
      have hba := breaksF_ok hm hk ha
      cases hf : firstB m k u (m + 2) with
      | none =>
        have hfa : firstB m k a (m + 2) = none := (firstB_none _).2 fun i hi hin => (firstB_none _).1 hf i hi (HSUB.out i hin)
        rw [hf] at hbu
        rw [hfa] at hba
        have e1 : holdsF (m : Int) k u = (true, 0) := by unfold holdsF; rw [hbu]; rfl
        have e2 : holdsF (m : Int) k a = (true, 0) := by unfold holdsF; rw [hba]; rfl
        rw [e1] at h1
        rw [e2] at h2
        rw [hbu] at h3
        have H1 := Lib.hid h1
        have H2 := Lib.hid h2
        have H3 := Lib.hid h3
        clear h1 h2 h3 R0 c4 h0 hall ha hb hu hk e1 e2 hsub hu64 HSUB HU64 ha64 hb64 hm hbu hba hf hfa
        go_enter Tryd.func8, Tryd.ntmps8
        go_wp2_with fail
        refine (awake_w _).mono ?_
        rintro e w0 ⟨rfl, hb0⟩
        have HB0 := Lib.hid hb0
        clear hb0
        go_wp2_with fail
        refine (HR0.out _ _ _ rfl rfl).mono ?_
        rintro e wr ⟨rfl, rfl⟩
        go_wp2_with fail
        have HBA := Lib.hid (below_alloc HB0.out (.cells #[.int .u64 (a : Nat), .int .u64 (b : Nat)] 24))
        refine (HC4.out _ _ _ (by simp only [World.size_alloc]) rfl).mono ?_
        rintro e w1 ⟨rfl, hb1⟩
        have HB1 := Lib.hid (HBA.out.trans (hb1.mono HBA.out.size))
        clear hb1 HBA HB0
        go_wp2_with fail
        refine (H1.out _).mono ?_
        rintro e w2 ⟨rfl, hb2⟩
        have HB2 := Lib.hid (HB1.out.trans (hb2.mono HB1.out.size))
        clear hb2 HB1
        go_wp2_with fail
        refine (H2.out _).mono ?_
        rintro e w3 ⟨rfl, hb3⟩
        have HB3 := Lib.hid (HB2.out.trans (hb3.mono HB2.out.size))
        clear hb3 HB2
        go_wp2_with fail
        refine (H3.out _).mono ?_
        rintro e w4 ⟨rfl, hb4⟩
        have HB4 := Lib.hid (HB3.out.trans (hb4.mono HB3.out.size))
        clear hb4 HB3
        go_wp2_with fail
        go_ret
        exact ⟨rfl, HB4.out⟩
      | some i =>
        obtain ⟨hi, hin⟩ := firstB_some hf
        rw [hf] at hbu
        have e1 : holdsF (m : Int) k u = (false, 0) := by unfold holdsF; rw [hbu]; rfl
        obtain ⟨y, e2⟩ : ∃ y, holdsF (m : Int) k a = (y, 0) := by
          unfold holdsF
          rw [hba]
          cases firstB m k a (m + 2) <;> exact ⟨_, rfl⟩
        have hi63 : (i : Int) ≤ 63 := by omega
        have h5 := fun W => rin_w u i hu64 (by omega) W
        rw [hin] at h5
        rw [e1] at h1
        rw [e2] at h2
        rw [hbu] at h3
        have H1 := Lib.hid h1
        have H2 := Lib.hid h2
        have H3 := Lib.hid h3
        have H5 := Lib.hid h5
        clear h1 h2 h3 h5 R0 c4 h0 hall ha hb hu hk e1 e2 hsub hu64 HSUB HU64 ha64 hb64 hbu hba hf hi hin hm
        go_enter Tryd.func8, Tryd.ntmps8
        go_wp2_with fail
        refine (awake_w _).mono ?_
        rintro e w0 ⟨rfl, hb0⟩
        have HB0 := Lib.hid hb0
        clear hb0
        go_wp2_with fail
        refine (HR0.out _ _ _ rfl rfl).mono ?_
        rintro e wr ⟨rfl, rfl⟩
        go_wp2_with fail
        have HBA := Lib.hid (below_alloc HB0.out (.cells #[.int .u64 (a : Nat), .int .u64 (b : Nat)] 24))
        refine (HC4.out _ _ _ (by simp only [World.size_alloc]) rfl).mono ?_
        rintro e w1 ⟨rfl, hb1⟩
        have HB1 := Lib.hid (HBA.out.trans (hb1.mono HBA.out.size))
        clear hb1 HBA HB0
        go_wp2_with fail
        refine (H1.out _).mono ?_
        rintro e w2 ⟨rfl, hb2⟩
        have HB2 := Lib.hid (HB1.out.trans (hb2.mono HB1.out.size))
        clear hb2 HB1
        go_wp2_with fail
        refine (H2.out _).mono ?_
        rintro e w3 ⟨rfl, hb3⟩
        have HB3 := Lib.hid (HB2.out.trans (hb3.mono HB2.out.size))
        clear hb3 HB2
        go_wp2_with fail
        refine (H3.out _).mono ?_
        rintro e w4 ⟨rfl, hb4⟩
        have HB4 := Lib.hid (HB3.out.trans (hb4.mono HB3.out.size))
        clear hb4 HB3
        go_wp2_with fail
        refine (H5.out _).mono ?_
        rintro e w5 ⟨rfl, rfl⟩
        go_wp2_with fail
        go_ret
        exact ⟨rfl, HB4.out⟩
  · generalize chkF t [a, b] = z at *
    have e0 : (z != 0) = true := by simpa using h0
    have HR0 := Lib.hid R0
    clear R0 h0 ha64 hb64
    go_enter Tryd.func8, Tryd.ntmps8
    go_wp2_with fail
    refine (awake_w _).mono ?_
    rintro e w0 ⟨rfl, hb0⟩
    have HB0 := Lib.hid hb0
    clear hb0
    go_wp2_with fail
    refine (HR0.out _ _ _ rfl rfl).mono ?_
    rintro e wr ⟨rfl, rfl⟩
    go_wp2_with fail
    go_ret
    exact ⟨rfl, below_alloc HB0.out _⟩
end Go.Proofs.YtgekpnbgmbbbdaaDoor
