/- The walk of the law NetOnce. -/
import Derived.Test.YtnognpfenefafaaNo2
import Derived.Test.YtnognpfenefafaaNk15
namespace Go.Proofs.Ytnognpfenefafaa
open Go.Proofs.Ytnognpfenefafaa.PNetRuns (S39 S73 k39 k73 z39 z73)
open Go.RowKit Go.Proofs.YtnognpfenefafaaW.PrintWords Go.Proofs.YtnognpfenefafaaW.PrintLast Go.Proofs.YtnognpfenefafaaW.PrintMore
/-- A byte of a row of the call's own, and the row when it is stored into. -/
theorem R_byte {w : World} {base : Nat} {ok : Nat → Prop} {A : Option Addr} {n c : Nat} {ys : List Int} (h : KB.R 5 w base ok (.slice A n c) ys) (i : Nat) (hi : i < n) :
    ∃ g y, A = some ⟨g, 0, none⟩ ∧ w.cell? ⟨g, i, none⟩ = some (.int .u8 y) ∧ w.frozen? ⟨g, i, none⟩ = false ∧ ok g ∧ n ≤ c ∧ ∀ u : Int, KB.R 5 (w.setCell ⟨g, i, none⟩ (.int .u8 u)) base ok (.slice A n c) (ys.set i u) := by
  have hn := (Kd.R_reads' h).1
  obtain ⟨g, cap, hv, _, _, _⟩ := Kd.R_form h (by omega)
  injection hv with ha _ _
  subst ha
  obtain ⟨cs, hc1, hc2, hc3, hc4⟩ := Kd.R_elem h 0 (i : Int) (by omega) (by omega)
  rw [show ((i : Int)).toNat = i by omega] at hc2 hc3 hc4
  have hcc : cs = [.int .u8 (ys.getD i 0)] := hc2
  subst hcc
  refine ⟨g, ys.getD i 0, rfl, by simpa [Kd.int, Kd.scalar] using hc3 0 _ rfl, by simpa [Kd.int, Kd.scalar] using hc4 0, h.1 g (by simp [Value.ownBlock]), (Kd.R_reads' h).2.1, fun u => ?_⟩
  have := (Kd.R_putg h (i : Int) u).1
  rwa [show ((i : Int)).toNat = i by omega] at this
set_option maxRecDepth 100000 in
set_option maxHeartbeats 4000000 in
theorem oncelaw_walk (dev : Int) (sv : Value) (ops : List TOp) (v : Value) (b : List Int) (w : World) (_hd : (Lit.int .i64 dev).wf = true) (hs : Kd.V kop 36 w 0 (fun k => k < w.heap.size) sv ops)
    (_hs0 : (∀ x ∈ ops, (Lit.int .i64 x.1).wf = true ∧ (Lit.int .i64 x.2.1).wf = true ∧ (Lit.int .i64 x.2.2.1).wf = true ∧ (Lit.int .i64 x.2.2.2.1).wf = true ∧ (Lit.int .i64 x.2.2.2.2.1).wf = true ∧ (Lit.int .u8 x.2.2.2.2.2.1).wf = true ∧ (∀ y ∈ x.2.2.2.2.2.2, (Lit.int .u8 y).wf = true) ∧ x.2.2.2.2.2.2.length * 1 ≤ 140737488351232) ∧ ops.length * 72 ≤ 140737488351232)
    (hb : Kd.V KB 5 w 0 (fun k => k < w.heap.size) v b) (_hb0 : (∀ x ∈ b, (Lit.int .u8 x).wf = true) ∧ b.length * 1 ≤ 140737488351232) :
    Calls Try.prog 3 #[.int .i64 dev, sv, v] w fun e w' => e = .returned (.bool true) ∧ Below w.heap.size w w' := by
  obtain ⟨A, c, rfl⟩ := Kd.V_slice hb
  obtain ⟨As, cs, rfl⟩ := Kd.V_slice hs
  have hbl := _hb0.2
  have hsl := _hs0.2
  clear _hd _hs0 _hb0
  have HVb := Lib.hid hb
  have HVs := Lib.hid hs
  clear hb hs
  by_cases hdev : dev < 1 ∨ 256 < dev
  · have HD := Lib.hid hdev
    clear hdev
    go_enter Try.func3, Try.ntmps3
    go_wp2_with fail
    refine (new_bad dev _ HD.out).mono ?_
    rintro e w1 ⟨rfl, rfl⟩
    go_wp2_with fail
    refine (alive_any _).mono ?_
    rintro e w4 ⟨rfl, hb4⟩
    have HB4 := Lib.hid hb4
    clear hb4
    go_wp2_with fail
    go_ret
    exact ⟨rfl, HB4.out⟩
  · have hd0 : 1 ≤ dev := by omega
    have hd1 : dev ≤ 256 := by omega
    clear hdev
    go_enter Try.func3, Try.ntmps3
    go_wp2_with fail
    refine (new_no dev _ hd0 hd1).mono ?_
    rintro e w1 ⟨rfl, hN1, hB1⟩
    have HN1 := Lib.hid hN1
    have HB1 := Lib.hid hB1
    clear hN1 hB1
    have hV1 := Kd.V_below HVb.out HB1.out
    have HV1 := Lib.hid hV1
    clear hV1
    go_wp2_with (
      (with_reducible refine gate_builtin (b := .append) (xs := #[.tmp 38, .tmp 39]) rfl ?_); at_builtin; (refine Kd.R_append_rows KB (w0 := w1) w1.heap.size rfl (.tmp 38) (.tmp 39) 23 5 (.int .u8 0) 1 rfl Try.underlying23 Try.info5 rfl (by decide) (by omega) (.slice (some ⟨w1.heap.size, 0, none⟩) 0 0) [] b A b.length c (fun k => w1.heap.size ≤ k) (fun _ => False) rfl rfl ?aO ?aR (fun _ _ h => h) (fun _ h => h.elim) ?aF ?aB ?aS ?aL ?_); (case aO => exact R_new_int w1 .u8 5 [] [] rfl (by simp) 0 rfl _ rfl); (case aR => exact Kd.C_alloc (Kd.V_reads' HV1.out).2.2 _); (case aF => intro k hk; simp at hk; omega); (case aB => exact Below.alloc (Below.refl w1.heap.size w1) (Nat.le_refl _) _); (case aS => simp); (case aL => simp; omega); intro v2 w2 hr2 hb2 hg2 hat2; have HR2 := Lib.hid hr2; have HB2 := Lib.hid hb2; clear hr2 hb2 hg2 hat2; rw [List.nil_append] at HR2; obtain ⟨A2, c2, e2⟩ := Kd.R_slice HR2.out; subst e2)
    have hN2 := HN1.out.step HB2.out.size (fun k _ hl => HB2.out.block k hl)
    have hw1 : w.heap.size < w1.heap.size := HN1.out.2.1 _ rfl
    have hV2 : Kd.V KB 5 w2 0 (fun k => w1.heap.size ≤ k) (.slice A2 b.length c2) b := Kd.V_mk (Kd.R_reads' HR2.out).2.1 (Kd.R_F HR2.out)
    have HN2 := Lib.hid hN2
    have HV2 := Lib.hid hV2
    clear hN2 hV2 HN1
    go_wp2_with fail
    by_cases hL : b.length ≤ 65536
    · have hr : (⟨1, true, 0, 1, [⟨⟨1, 0, 0, b.length, false⟩, b⟩]⟩ : Rs) = enterF dev 0 [] 0 0 false b := by
        unfold enterF
        rw [if_pos (by omega), if_pos hL]
        rfl
      refine (send_any (fun k => k = w.heap.size) (fun k => w1.heap.size ≤ k) w.heap.size dev 0 [] w2 0 0 A2 b.length c2 b HN2.out (by omega) HV2.out (fun k hk => by omega) (by simp) (by omega) (by omega) _ hr).mono ?_
      rintro e w3 ⟨rfl, h3, hc3⟩
      have H3 := Lib.hid h3
      have HC3 := Lib.hid hc3
      clear h3 hc3 hr
      go_wp2_with fail
      have hR3 : KB.R 5 w3 w1.heap.size (fun k => w1.heap.size ≤ k ∧ k < w2.heap.size) (.slice A2 b.length c2) b := Kd.R_step (Kd.R_mono (Kd.R_bound HR2.out) (fun k hk => ⟨hk.1, hk.2.2.1⟩)) (fun k hk hl => HC3.out.block k hl (by omega))
      have HR3 := Lib.hid hR3
      obtain ⟨n, hn⟩ : ∃ n, n = b.length := ⟨_, rfl⟩
      rw [← hn] at HR3 ⊢
      have HN := Lib.hid hn
      have hn5 : n ≤ 65536 := by omega
      clear hR3 hn
      go_loopw [13, 61] (fun _ vi wr => ∃ (i : Nat) (ys : List Int), vi = .int .i64 i ∧ i ≤ n ∧ KB.R 5 wr w1.heap.size (fun k => w1.heap.size ≤ k ∧ k < w2.heap.size) (.slice A2 n c2) ys ∧ Chg (fun k => w1.heap.size ≤ k ∧ k < w2.heap.size) w3 wr) (fun _ vi _ => n - (intOf vi).toNat)
      case atStart => exact ⟨0, b, rfl, Nat.zero_le _, HR3.out, Chg.refl _ _⟩
      case round =>
        obtain ⟨i, ys, rfl, hi, hR, hC⟩ := hrel
        have hli : i < n ∨ i = n := by omega
        rcases hli with hlt | hlt
        · obtain ⟨g2, y, rfl, hz, hf, hok2, hnc, hst⟩ := R_byte hR i hlt
          have HST := Lib.hid hst
          have HC := Lib.hid hC
          clear hst hC hR
          have hi64 : (i : Int) < (n : Int) := by omega
          have hn64 : (n : Int) ≤ 65536 := by omega
          go_wp2_with fail
          go_roundw
          case rel =>
            refine ⟨i + 1, _, ?_, by omega, HST.out _, HC.out.set _ _ (.inl hok2)⟩
            go_num
          case measure => simp [intOf]; omega
        · have hi64 : decide ((i : Int) < (n : Int)) = false := by simp; omega
          obtain ⟨S3, hN3, hS3⟩ := H3.out
          have hN4 := hN3.step hC.size (hC.step (fun k hk => by have := hS3 k hk; omega))
          have hB4 : Below w.heap.size w wr := ((HB1.out.trans (HB2.out.mono HB1.out.size)).trans (HC3.out.below (B := w.heap.size) (fun k hk => by omega) (by have := HB1.out.size; have := HB2.out.size; omega))).trans (hC.below (B := w.heap.size) (fun k hk => by omega) (by have := HB1.out.size; have := HB2.out.size; have := HC3.out.size; omega))
          have hSl : ∀ k, S3 k → w.heap.size ≤ k := fun k hk => by have := hS3 k hk; have := HB1.out.size; have := HB2.out.size; omega
          have HN4 := Lib.hid hN4
          have HB4 := Lib.hid hB4
          have HSL := Lib.hid hSl
          clear hN4 hB4 hSl hN3 hS3 hR hC HR3 HC3 HR2
          go_wp2_with fail
          have hRn : Rn (fun k => k = wr.heap.size) wr.heap.size 0 0 [] (wr.alloc (.cells #[.int .i64 0, .int .i64 0, .slice none 0 0] 34)) :=
            ⟨rfl, fun k hk => by rw [hk]; simp, _, heap_alloc_new wr _, Kd.S_nil _ _ _ _ _⟩
          have hN0 := HN4.out.step (w' := wr.alloc (.cells #[.int .i64 0, .int .i64 0, .slice none 0 0] 34)) (below_alloc' _ _).size (fun k _ hl => (below_alloc' _ _).block k hl)
          have hB0 : Below w.heap.size w (wr.alloc (.cells #[.int .i64 0, .int .i64 0, .slice none 0 0] 34)) := below_alloc HB4.out _
          have hMR : ¬ S3 wr.heap.size := fun h9 => by have := HN4.out.2.1 _ h9; omega
          have hgR : w.heap.size ≤ wr.heap.size := HB4.out.size
          generalize wr.alloc (.cells #[.int .i64 0, .int .i64 0, .slice none 0 0] 34) = W0 at *
          generalize wr.heap.size = gR at *
          have HRn := Lib.hid hRn
          have HN0 := Lib.hid hN0
          have HB0 := Lib.hid hB0
          have HMR0 := Lib.hid hMR
          obtain ⟨m, hm⟩ : ∃ m, m = ops.length := ⟨_, rfl⟩
          rw [← hm]
          have HM := Lib.hid hm
          have hm5 : (m : Int) * 72 ≤ 140737488351232 := by omega
          clear hRn hN0 hB0 hMR HN4 HB4 hm hsl H3 HN2 HV2 hi hlt hi64
          go_loopw [15] (fun vi wq => ∃ (i : Nat) (S : Nat → Prop) (last : Int) (ps : List S73), vi = .int .i64 i ∧ i ≤ m ∧ i ≤ 300 ∧ No S w.heap.size dev last ps wq ∧ Rn (fun k => k = gR) gR 0 0 [] wq ∧ (∀ k, S k → w.heap.size ≤ k) ∧ ¬ S gR ∧ Inv1 b i last ps ∧ Below w.heap.size w wq) (fun vi _ => m - (intOf vi).toNat)
          case atStart => exact ⟨0, S3, _, _, rfl, Nat.zero_le _, Nat.zero_le _, HN0.out, HRn.out, HSL.out, HMR0.out, Inv1.start b hL, HB0.out⟩
          case round =>
          obtain ⟨i, S, last, ps, rfl, hi, hi3, hNq, hRq, hSq, hMq, hIq, hBq⟩ := hrel
          have HNq := Lib.hid hNq
          have HRq := Lib.hid hRq
          have HSQ := Lib.hid hSq
          have HMR := Lib.hid hMq
          have HIQ := Lib.hid hIq
          have HBQ := Lib.hid hBq
          clear hNq hRq hSq hMq hIq hBq
          by_cases hlt : i < m ∧ i < 300
          · obtain ⟨ad, k, fr, to_, id, at_, bits, A6, c6, bs, rfl, z0, z1, z2, z3, z4, z5, z6, hV6, HX⟩ := V_op_at (Kd.V_step HVs.out (fun k _ hl => HBQ.out.block k hl)) i (by rw [← HM.out]; exact hlt.1)
            have HV6 := Lib.hid hV6
            clear hV6
            have hi64 : (i : Int) < (m : Int) := by omega
            have hi65 : decide ((i : Int) < (m : Int)) = true := decide_eq_true hi64
            have hi66 : decide ((i : Int) < 300) = true := decide_eq_true (by omega)
            by_cases hg : k ≤ 2 ∨ k = 5 ∨ (id ≠ 1 ∧ k < 7)
            · by_cases hk : 2 < k
              · have b1 : decide (k ≤ 2) = false := decide_eq_false (by omega)
                by_cases h5 : k = 5
                · have b2 : (k == 5) = true := by simpa using h5
                  clear hk h5
                  go_wp2_with fail
                  refine (act_once S _ (fun k => k < w.heap.size) w.heap.size gR dev last ps wr k fr to_ id at_ bits A6 bs.length c6 bs HNq.out HRq.out (fun k hk => by rw [hk]; exact HMR.out) (by omega) HV6.out (fun k hk hs => by have := HSQ.out k hs; omega) HIQ.out.good (by have := HIQ.out.len; omega) (by have := HIQ.out.lo; omega) (by have := HIQ.out.hi; omega) (by omega)).mono ?_
                  rintro e w5 ⟨⟨r, rfl, _⟩, hP⟩
                  have hR5 := hP.rn HRq.out (fun k hk => by rw [hk]; exact HMR.out)
                  obtain ⟨⟨S5, hN5, hS5⟩, hC5⟩ := hP
                  have HR5 := Lib.hid hR5
                  have HN5 := Lib.hid hN5
                  have HS5 := Lib.hid hS5
                  have HC5 := Lib.hid hC5
                  have HG := Lib.hid hg
                  clear hR5 hN5 hS5 hC5 hg
                  go_wp2_with fail
                  go_roundw
                  case rel =>
                    refine ⟨i + 1, S5, _, _, ?_, by omega, by omega, HN5.out, HR5.out, fun k hk => ?_, fun h9 => ?_, HIQ.out.step dev k fr to_ id at_ bits bs HG.out, HBQ.out.trans (HC5.out.below (B := w.heap.size) (fun k hk => HSQ.out k hk) HBQ.out.size)⟩
                    · go_num
                    · rcases HS5.out k hk with h | h
                      · exact HSQ.out k h
                      · have := HBQ.out.size; omega
                    · rcases HS5.out gR h9 with h | h
                      · exact HMR.out h
                      · have := HRq.out.2.1 gR rfl; omega
                  case measure => simp [intOf]; omega
                · have b2 : (k == 5) = false := by simpa using h5
                  have b3 : (id != 1) = true := by simp; omega
                  have b6 : ¬ id = 1 := by omega
                  have b4 : decide (k < 7) = true := decide_eq_true (by omega)
                  clear hk h5
                  go_wp2_with fail
                  refine (act_once S _ (fun k => k < w.heap.size) w.heap.size gR dev last ps wr k fr to_ id at_ bits A6 bs.length c6 bs HNq.out HRq.out (fun k hk => by rw [hk]; exact HMR.out) (by omega) HV6.out (fun k hk hs => by have := HSQ.out k hs; omega) HIQ.out.good (by have := HIQ.out.len; omega) (by have := HIQ.out.lo; omega) (by have := HIQ.out.hi; omega) (by omega)).mono ?_
                  rintro e w5 ⟨⟨r, rfl, _⟩, hP⟩
                  have hR5 := hP.rn HRq.out (fun k hk => by rw [hk]; exact HMR.out)
                  obtain ⟨⟨S5, hN5, hS5⟩, hC5⟩ := hP
                  have HR5 := Lib.hid hR5
                  have HN5 := Lib.hid hN5
                  have HS5 := Lib.hid hS5
                  have HC5 := Lib.hid hC5
                  have HG := Lib.hid hg
                  clear hR5 hN5 hS5 hC5 hg
                  go_wp2_with fail
                  go_roundw
                  case rel =>
                    refine ⟨i + 1, S5, _, _, ?_, by omega, by omega, HN5.out, HR5.out, fun k hk => ?_, fun h9 => ?_, HIQ.out.step dev k fr to_ id at_ bits bs HG.out, HBQ.out.trans (HC5.out.below (B := w.heap.size) (fun k hk => HSQ.out k hk) HBQ.out.size)⟩
                    · go_num
                    · rcases HS5.out k hk with h | h
                      · exact HSQ.out k h
                      · have := HBQ.out.size; omega
                    · rcases HS5.out gR h9 with h | h
                      · exact HMR.out h
                      · have := HRq.out.2.1 gR rfl; omega
                  case measure => simp [intOf]; omega
              · have b1 : decide (k ≤ 2) = true := decide_eq_true (by omega)
                clear hk
                go_wp2_with fail
                refine (act_once S _ (fun k => k < w.heap.size) w.heap.size gR dev last ps wr k fr to_ id at_ bits A6 bs.length c6 bs HNq.out HRq.out (fun k hk => by rw [hk]; exact HMR.out) (by omega) HV6.out (fun k hk hs => by have := HSQ.out k hs; omega) HIQ.out.good (by have := HIQ.out.len; omega) (by have := HIQ.out.lo; omega) (by have := HIQ.out.hi; omega) (by omega)).mono ?_
                rintro e w5 ⟨⟨r, rfl, _⟩, hP⟩
                have hR5 := hP.rn HRq.out (fun k hk => by rw [hk]; exact HMR.out)
                obtain ⟨⟨S5, hN5, hS5⟩, hC5⟩ := hP
                have HR5 := Lib.hid hR5
                have HN5 := Lib.hid hN5
                have HS5 := Lib.hid hS5
                have HC5 := Lib.hid hC5
                have HG := Lib.hid hg
                clear hR5 hN5 hS5 hC5 hg
                go_wp2_with fail
                go_roundw
                case rel =>
                  refine ⟨i + 1, S5, _, _, ?_, by omega, by omega, HN5.out, HR5.out, fun k hk => ?_, fun h9 => ?_, HIQ.out.step dev k fr to_ id at_ bits bs HG.out, HBQ.out.trans (HC5.out.below (B := w.heap.size) (fun k hk => HSQ.out k hk) HBQ.out.size)⟩
                  · go_num
                  · rcases HS5.out k hk with h | h
                    · exact HSQ.out k h
                    · have := HBQ.out.size; omega
                  · rcases HS5.out gR h9 with h | h
                    · exact HMR.out h
                    · have := HRq.out.2.1 gR rfl; omega
                case measure => simp [intOf]; omega
            · have b1 : decide (k ≤ 2) = false := decide_eq_false (by omega)
              have b2 : (k == 5) = false := by simp; omega
              by_cases hid : id = 1
              · have b3 : (id == 1) = true := by simpa using hid
                clear hg
                go_wp2_with fail
                go_roundw
                case rel =>
                  refine ⟨i + 1, S, last, ps, ?_, by omega, by omega, HNq.out, HRq.out, HSQ.out, HMR.out, HIQ.out.next, HBQ.out⟩
                  go_num
                case measure => simp [intOf]; omega
              · have b3 : (id == 1) = false := by simpa using hid
                have b4 : decide (k < 7) = false := decide_eq_false (by omega)
                clear hg
                go_wp2_with fail
                go_roundw
                case rel =>
                  refine ⟨i + 1, S, last, ps, ?_, by omega, by omega, HNq.out, HRq.out, HSQ.out, HMR.out, HIQ.out.next, HBQ.out⟩
                  go_num
                case measure => simp [intOf]; omega
          · have hF := HIQ.out.found
            have HF := Lib.hid hF
            clear hF
            obtain ⟨A5, c5, x, HX, hC⟩ := deliver_no S w.heap.size dev last 1 ps wr HNq.out (by omega) (by have := HIQ.out.len; omega) HF.out.1
            have hxb : x.f1 = b := by rw [HX.out]; exact HF.out.2.1
            have HXB := Lib.hid hxb
            have HC := Lib.hid hC
            clear hC hxb
            have hE : (decide ((i : Int) < (m : Int)) = false ∧ decide (i < m) = false ∧ ¬ i < m) ∨ decide ((i : Int) < (m : Int)) = true ∧ decide ((i : Int) < 300) = false ∧ decide (i < 300) = false ∧ ¬ i < 300 ∧ i < m := by
              by_cases h9 : i < m
              · exact .inr ⟨decide_eq_true (by omega), decide_eq_false (by omega), decide_eq_false (by omega), by omega, h9⟩
              · exact .inl ⟨decide_eq_false (by omega), decide_eq_false h9, h9⟩
            have hi7 : decide ((i : Int) < (m : Int)) = decide (i < m) := by simp
            clear hlt hi7
            rcases hE with ⟨e1, e2, e3⟩ | ⟨e1, e2, e3, e4, e5⟩
            all_goals
              go_wp2_with fail
              refine HC.out.mono ?_
              clear HC
              rintro e w5 ⟨rfl, hN5, hC5, hV5⟩
              have hb5 := HBQ.out.trans (hC5.below (B := w.heap.size) (fun k hk => HSQ.out k hk) HBQ.out.size)
              have hV5' := Kd.V_alloc hV5 (.cells #[.int .i64 x.f0.f0, .int .i64 x.f0.f1, .int .i64 x.f0.f2, .int .i64 x.f0.f3, .bool x.f0.f4] 39)
              have hN5' := hN5.step (below_alloc' w5 (.cells #[.int .i64 x.f0.f0, .int .i64 x.f0.f1, .int .i64 x.f0.f2, .int .i64 x.f0.f3, .bool x.f0.f4] 39)).size (fun k _ hl => (below_alloc' w5 (.cells #[.int .i64 x.f0.f0, .int .i64 x.f0.f1, .int .i64 x.f0.f2, .int .i64 x.f0.f3, .bool x.f0.f4] 39)).block k hl)
              have hb6 := below_alloc hb5 (.cells #[.int .i64 x.f0.f0, .int .i64 x.f0.f1, .int .i64 x.f0.f2, .int .i64 x.f0.f3, .bool x.f0.f4] 39)
              have HV6 := Lib.hid hV5'
              have HN6 := Lib.hid hN5'
              have HB6 := Lib.hid hb6
              clear hN5 hC5 hV5 hb5 hV5' hN5' hb6
              go_wp2_with fail
              generalize w5.alloc (.cells #[.int .i64 x.f0.f0, .int .i64 x.f0.f1, .int .i64 x.f0.f2, .int .i64 x.f0.f3, .bool x.f0.f4] 39) = W6 at *
              refine (deliver_gone S w.heap.size dev last 1 _ _ HN6.out (by omega) (by have := HIQ.out.len; have := List.length_eraseIdx_le ps (fnd ps 1); omega) HF.out.2.2).mono ?_
              rintro e w7 ⟨rfl, hb7⟩
              have hB7 : Below w.heap.size w w7 := HB6.out.trans (hb7.mono HB6.out.size)
              have hc1 := (Kd.V_reads' (Kd.V_below HV6.out hb7)).2.2
              have hc2 := (Kd.V_reads' (Kd.V_below HVb.out hB7)).2.2
              rw [HXB.out] at hc1
              have hcv1 := fun o => Kd.C_string (P := Try.prog) (A := A5) (c := c5) Try.underlying23 Try.underlying5 Try.underlying9 (Kd.C_alloc hc1 o)
              have hcv2 := fun o => Kd.C_string (P := Try.prog) (A := A) (c := c) Try.underlying23 Try.underlying5 Try.underlying9 (Kd.C_alloc hc2 o)
              have HB7 := Lib.hid hB7
              rw [HXB.out]
              rw [← HN.out] at hcv1 hcv2 ⊢
              clear hb7 hB7 hc1 hc2
              go_wp2_with fail
              refine (alive_any _).mono ?_
              rintro e w8 ⟨rfl, hb8⟩
              have HB8 := Lib.hid (below_step (below_alloc HB7.out _) hb8)
              clear hb8
              go_wp2_with fail
              go_ret
              exact ⟨rfl, HB8.out⟩
    · have hr : (⟨0, false, 2, 0, []⟩ : Rs) = enterF dev 0 [] 0 0 false b := by
        unfold enterF
        rw [if_pos (by omega), if_neg hL]
      refine (send_any (fun k => k = w.heap.size) (fun k => w1.heap.size ≤ k) w.heap.size dev 0 [] w2 0 0 A2 b.length c2 b HN2.out (by omega) HV2.out (fun k hk => by omega) (by simp) (by omega) (by omega) _ hr).mono ?_
      rintro e w3 ⟨rfl, h3, hc3⟩
      have HB3 := Lib.hid ((HB1.out.trans (HB2.out.mono HB1.out.size)).trans (hc3.below (B := w.heap.size) (fun k hk => by omega) (by have := HB1.out.size; have := HB2.out.size; omega)))
      clear h3 hc3 hr
      go_wp2_with fail
      refine (alive_any _).mono ?_
      rintro e w4 ⟨rfl, hb4⟩
      have HB4 := Lib.hid (HB3.out.trans (hb4.mono HB3.out.size))
      clear hb4
      go_wp2_with fail
      go_ret
      exact ⟨rfl, HB4.out⟩
end Go.Proofs.Ytnognpfenefafaa
