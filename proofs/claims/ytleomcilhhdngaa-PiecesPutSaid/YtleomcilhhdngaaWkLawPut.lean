/- The walk of the law PiecesPut. -/
import Derived.Test.YtleomcilhhdngaaWkAny
import Derived.Test.YtleomcilhhdngaaWkAlive
import Derived.Lib.SliceRun
namespace Go.Proofs.Ytleomcilhhdngaa
open Go.RowKit Go.Proofs.YtleomcilhhdngaaW.PrintWords Go.Proofs.YtleomcilhhdngaaW.PrintLast Go.Proofs.YtleomcilhhdngaaW.PrintMore
/-- Both joiners, alike, apart, and all of the call's own. -/
def Both (B g1 g2 : Nat) (most : Int) (is : Bool) (bs : List Int) (W : World) : Prop :=
  ∃ S1 S2 : Nat → Prop, Jo S1 g1 is bs most W ∧ Ro S2 g2 is bs most W ∧ (∀ k, S1 k → ¬ S2 k) ∧ (∀ k, S1 k → B ≤ k) ∧ (∀ k, S2 k → B ≤ k)
theorem Both.drewN {B g1 g2 : Nat} {most : Int} {is : Bool} {bs : List Int} {W : World} (h : Both B g1 g2 most is bs W) (n : Nat) : Both B g1 g2 most is bs (W.drewN n) := by
  obtain ⟨S1, S2, hJ, hR, h⟩ := h
  exact ⟨S1, S2, hJ.step (Nat.le_refl _) (fun _ _ _ => rfl), hR.step (Nat.le_refl _) (fun _ _ _ => rfl), h⟩
set_option maxRecDepth 100000 in
set_option maxHeartbeats 2000000 in
theorem putlaw_walk (most : Int) (v : Value) (l : List (List Int)) (w : World) (_hm : (Lit.int .i64 most).wf = true) (hl : Kd.V KBB 22 w 0 (fun k => k < w.heap.size) v l)
    (hok : (∀ x ∈ l, (∀ y ∈ x, (Lit.int .u8 y).wf = true) ∧ x.length * 1 ≤ 140737488351232) ∧ l.length * 24 ≤ 140737488351232) :
    Calls Try.prog 6 #[.int .i64 most, v] w fun e w' => e = .returned (.bool true) ∧ Below w.heap.size w w' := by
  obtain ⟨A, c, rfl⟩ := Kd.V_slice hl
  have HL := Lib.hid hl
  have HOK := Lib.hid hok
  clear hl hok _hm
  by_cases hbad : most < 0 ∨ 16777216 < most
  · go_enter Try.func6, Try.ntmps6
    go_wp2_with fail
    refine (new_bad most w hbad).mono ?_
    rintro e w1 ⟨rfl, rfl⟩
    go_wp2_with fail
    refine (rnew_bad most w hbad).mono ?_
    rintro e w1 ⟨rfl, rfl⟩
    go_wp2_with fail
    refine (alive_any _).mono ?_
    rintro e w4 ⟨rfl, hb4⟩
    have HB4 := Lib.hid hb4
    clear hb4
    go_wp2_with fail
    go_ret
    exact ⟨rfl, HB4.out⟩
  · have h0 : 0 ≤ most := by omega
    have h1 : most ≤ 16777216 := by omega
    clear hbad
    go_enter Try.func6, Try.ntmps6
    go_wp2_with fail
    refine (new_ok most w h0 h1).mono ?_
    rintro e w1 ⟨rfl, hJ, hb1⟩
    have HJ := Lib.hid hJ
    have HB1 := Lib.hid hb1
    have hs1 := hb1.size
    have hg1 : w.heap.size < w1.heap.size := hJ.2.1 _ rfl
    clear hJ hb1
    go_wp2_with fail
    refine (rnew_ok most w1 h0 h1).mono ?_
    rintro e w2 ⟨rfl, hR, hb2⟩
    have hboth : Both w.heap.size w.heap.size w1.heap.size most false [] w2 :=
      ⟨_, _, HJ.out.step hb2.size (fun k hk hl => hb2.block k hl), hR, fun k (h : k = _) (h' : k = _) => by omega, fun k (h : k = _) => by omega, fun k (h : k = _) => by omega⟩
    have HBO := Lib.hid hboth
    have HB2 := Lib.hid (below_then HB1.out hs1 hb2)
    clear hR hb2 hboth
    go_wp2_with fail
    have hgg : w.heap.size < w1.heap.size := hg1
    obtain ⟨g1, hg1e⟩ : ∃ g1, g1 = w.heap.size := ⟨_, rfl⟩
    obtain ⟨g2, hg2e⟩ : ∃ g2, g2 = w1.heap.size := ⟨_, rfl⟩
    rw [← hg1e, ← hg2e] at HBO
    rw [← hg1e, ← hg2e]
    have HG1 := Lib.hid hg1e
    have hgne : g1 ≠ g2 := by omega
    have HGN := Lib.hid hgne
    clear hg1 hgg hg1e hg2e hs1 HJ HB1 hgne
    have hml : l.length ≤ 9223372036854775807 := Kd.F_max (Kd.V_at HL.out).2.2
    go_loopw [9] (fun i wr => ∃ (k : Nat) (is : Bool) (bs : List Int), i = .int .i64 k ∧ k ≤ l.length ∧ k ≤ 200 ∧ Both g1 g1 g2 most is bs wr ∧ (bs.length : Int) ≤ most ∧ Below w.heap.size w wr) (fun i _ => 200 - (intOf i).toNat)
    case atStart => exact ⟨0, false, [], rfl, Nat.zero_le _, by omega, HBO.out, h0, HB2.out⟩
    case round =>
      obtain ⟨k, is, bs, rfl, hk, hk2, hbo, hbl, hbel⟩ := hrel
      have HBE := Lib.hid hbel
      have HBR := Lib.hid hbo
      clear hbel hbo HBO HB2
      by_cases hlt : k < l.length ∧ k < 200
      · obtain ⟨hlt1, hlt2⟩ := hlt
        have hlt3 : (k : Int) < (l.length : Int) := by omega
        have hlt4 : (0 : Int) ≤ (k : Int) := by omega
        have hlt5 : (k : Int) < 200 := by omega
        obtain ⟨ad, A0, c0, x, rfl, hc0, hV0, HX⟩ := V_row_at (b := 0) (Kd.V_step HL.out (fun i hi _ => HBE.out.block i hi)) k hlt1
        have HV0 := Lib.hid hV0
        have hnil := fun (W : World) => Lib.run_eql_slice_nil (P := Try.prog) W 22 5 A0 x.length c0 0 0 Try.underlying22
        clear hV0
        cases A0 with
        | none =>
          obtain ⟨S1, S2, hJ, hR, hd, hb1, hb2⟩ := HBR.out
          obtain ⟨hg2, hl2, v2, hblk2, hV2⟩ := hR
          have d1 := blk_cell hblk2 1 _ rfl
          have d2 := blk_cell hblk2 2 _ rfl
          have f1 := blk_free hblk2 1
          have f2 := blk_free hblk2 2
          have HJ := Lib.hid hJ
          have HK := Lib.hid hblk2
          have HD := Lib.hid hd
          have HS1 := Lib.hid hb1
          have HS2 := Lib.hid (hb2 g2 hg2)
          have HG2 := Lib.hid hg2
          clear hJ hblk2 hd hb1 hb2 hV2 hl2 hg2
          go_wp2_with fail
          have h2 := ro_cleared HK.out
          refine (reset_ok S1 g1 is bs most _ (by exact HJ.out.step h2.2.size (h2.2.step (fun i hi (he : i = g2) => HD.out i hi (by rw [he]; exact HG2.out))))).mono ?_
          rintro e wz ⟨rfl, hJz, hcz⟩
          have hbz : Both g1 g1 g2 most false [] wz :=
            ⟨_, _, hJz, h2.1.step hcz.size (hcz.step (fun i (hi : i = g2) hs => HD.out i hs (by rw [hi]; exact HG2.out))), fun i (hi : i = g1) (he : i = g2) => HGN.out (hi.symm.trans he), fun i (hi : i = g1) => by omega, fun i (hi : i = g2) => by have := HS2.out; omega⟩
          have hbez : Below w.heap.size w wz := by
            have hc := h2.2.trans (T := S1) hcz (S := fun i => i = g2) 
            exact Below.trans HBE.out ((h2.2.mono (T := fun i => w.heap.size ≤ i) (fun i (hi : i = g2) => by have := HS2.out; have := HG1.out; omega)).trans (hcz.mono (T := fun i => w.heap.size ≤ i) (fun i hi => by have := HS1.out i hi; have := HG1.out; omega)) (fun i hi => .inl hi) |>.below (fun i hi => hi) HBE.out.size)
          have HBZ := Lib.hid hbz
          have HBEZ := Lib.hid hbez
          have HBLZ : Hid ((([] : List Int).length : Int) ≤ most) := h0
          clear h2 hJz hcz hbz hbez HJ HK HD HS1 HS2 HG2 d1 d2 f1 f2
          clear HBR HBE
          obtain ⟨T1, T2, hJ2, hR2, _, _, _⟩ := HBZ.out
          obtain ⟨_, _, v3, hblk3, hV3⟩ := hR2
          obtain ⟨A3, c3, rfl⟩ := Kd.V_slice hV3
          have t1 := blk_cell hblk3 1 _ rfl
          have t2 := blk_cell hblk3 2 _ rfl
          have HJ2 := Lib.hid hJ2
          clear hJ2 hblk3 hV3
          go_wp2_with fail
          refine (open_ok T1 g1 _ _ most _ (by exact HJ2.out)).mono ?_
          rintro e w' ⟨rfl, ⟨⟨nd, rfl⟩⟩⟩
          go_wp2_with fail
          go_roundw
          case rel => exact ⟨k + 1, _, _, by go_num, by omega, by omega, HBZ.out.drewN _, HBLZ.out, pw_below_drewN HBEZ.out _⟩
          case measure => simp [intOf]; omega
        | some a0 =>
          obtain ⟨S1, S2, hJ, hR, hd, hb1, hb2⟩ := HBR.out
          have HJ := Lib.hid hJ
          have HR := Lib.hid hR
          have HD := Lib.hid hd
          have HS1 := Lib.hid hb1
          have HS2 := Lib.hid hb2
          clear hJ hR hd hb1 hb2
          go_wp2_with fail
          refine (lim_any (some a0) _ c0 x wr _ (by exact HV0.out)).mono ?_
          rintro e w' ⟨rfl, hVp, rfl⟩
          obtain ⟨y, hy⟩ : ∃ y, y = x.take 100000 := ⟨_, rfl⟩
          rw [← hy] at hVp ⊢
          have hyl : y.length ≤ 16777216 := by rw [hy, List.length_take]; omega
          have hyw : ∀ z ∈ y, (Lit.int .u8 z).wf = true := fun z hz => (HOK.out.1 x (by rw [HX.out, List.getD_eq_getElem?_getD, List.getElem?_eq_getElem hlt1]; exact List.getElem_mem hlt1)).1 z (List.mem_of_mem_take (by rw [← hy]; exact hz))
          have hp := put_any S1 _ g1 is bs most wr (some a0) y.length c0 y HJ.out hVp (fun i hi hs => by have := HS1.out i hs; have := HG1.out; omega) hyw (by omega) hyl
          obtain ⟨q, hq⟩ : ∃ q, q = putSpec most is bs y := ⟨_, rfl⟩
          have hqb : ((q.2.2).length : Int) ≤ most := by rw [hq]; exact putSpec_len most is bs y h0
          have hr : ∀ W, Chg S1 wr W → Calls Try.prog 18 #[.pointer (some ⟨g2, 0, none⟩), .slice (some a0) y.length c0] W fun e w' => ∃ (v : Value) (S' : Nat → Prop), e = .returned (.tuple #[v, .bool q.1.2.1, .int .i64 q.1.2.2]) ∧
              Kd.V KB 5 w' 0 (fun k => W.heap.size ≤ k) v q.1.1 ∧ Ro S' g2 q.2.1 q.2.2 most w' ∧ (∀ k, S' k → S2 k ∨ W.heap.size ≤ k) ∧ Chg (fun k => k = g2) W w' := by
            intro W hW
            rw [hq]
            exact rput_any S2 (fun k => k < w.heap.size) g2 is bs most W (some a0) y.length c0 y (HR.out.step hW.size (hW.step (fun i hi hs => HD.out i hs hi))) (Kd.V_step hVp (hW.step (fun i hi hs => by have := HS1.out i hs; have := HG1.out; omega))) hyw (by omega) hyl
          rw [← hq] at hp
          obtain ⟨⟨ra, rx, rg⟩, is2, bs2⟩ := q
          have HP := Lib.hid hp
          have HRR := Lib.hid hr
          have HQB := Lib.hid hqb
          clear hp hr hq hqb hyw hyl hVp hy
          go_wp2_with fail
          refine HP.out.mono ?_
          rintro e w3 ⟨va, T1, rfl, hVa, hJ3, hT1, hC3⟩
          have HVA := Lib.hid hVa
          have HJ3 := Lib.hid hJ3
          have HT1 := Lib.hid hT1
          have HC3 := Lib.hid hC3
          clear hVa hJ3 hT1 hC3 HP
          go_wp2_with fail
          refine (HRR.out w3 HC3.out).mono ?_
          rintro e wz ⟨vb, T2, rfl, hVb, hR4, hT2, hC4⟩
          have hg2S : S2 g2 := HR.out.1
          have hva : Kd.V KB 5 wz 0 (fun k => S1 k ∨ wr.heap.size ≤ k) va ra := Kd.V_step HVA.out (hC4.step (fun i hi (he : i = g2) => hi.elim (fun h => HD.out i h (by rw [he]; exact hg2S)) (fun h => by have := HR.out.2.1 g2 hg2S; omega)))
          obtain ⟨Aa, ca, rfl⟩ := Kd.V_slice hva
          obtain ⟨Ab, cb, rfl⟩ := Kd.V_slice hVb
          have hcv := Kd.C_string (P := Try.prog) (A := Aa) (c := ca) Try.underlying22 Try.underlying5 Try.underlying9 (Kd.V_reads' hva).2.2
          have hcw := Kd.C_string (P := Try.prog) (A := Ab) (c := cb) Try.underlying22 Try.underlying5 Try.underlying9 (Kd.V_reads' hVb).2.2
          have hbz : Both g1 g1 g2 most is2 bs2 wz := by
            refine ⟨T1, T2, HJ3.out.step hC4.size (hC4.step (fun i hi (he : i = g2) => (HT1.out i hi).elim (fun h => HD.out i h (by rw [he]; exact hg2S)) (fun h => by have := HR.out.2.1 g2 hg2S; omega))), hR4, fun i h1 h2 => ?_, fun i hi => ?_, fun i hi => ?_⟩
            · rcases hT2 i h2 with h | h
              · exact (HT1.out i h1).elim (fun h' => HD.out i h' h) (fun h' => by have := HR.out.2.1 i h; omega)
              · have := HJ3.out.2.1 i h1
                omega
            · exact (HT1.out i hi).elim (HS1.out i) (fun h => by have := HBE.out.size; have := HG1.out; omega)
            · exact (hT2 i hi).elim (HS2.out i) (fun h => by have := HBE.out.size; have := HG1.out; have := HC3.out.size; omega)
          have hbez : Below w.heap.size w wz := by
            have h3 := (HC3.out.mono (T := fun i => w.heap.size ≤ i) (fun i hi => by have := HS1.out i hi; have := HG1.out; omega)).trans (hC4.mono (T := fun i => w.heap.size ≤ i) (fun i (hi : i = g2) => by have := HS2.out g2 hg2S; have := HG1.out; omega)) (fun i hi => .inl hi)
            exact Below.trans HBE.out (h3.below (fun i hi => hi) HBE.out.size)
          have HBZ := Lib.hid hbz
          have HBEZ := Lib.hid hbez
          have HBLZ := HQB
          clear hbz hbez hva hVb hR4 hT2 hC4 HVA HJ3 HT1 HC3 HJ HR HD HS1 HS2 HRR HQB hg2S
          clear HBR HBE
          obtain ⟨T1, T2, hJ2, hR2, _, _, _⟩ := HBZ.out
          obtain ⟨_, _, v3, hblk3, hV3⟩ := hR2
          obtain ⟨A3, c3, rfl⟩ := Kd.V_slice hV3
          have t1 := blk_cell hblk3 1 _ rfl
          have t2 := blk_cell hblk3 2 _ rfl
          have HJ2 := Lib.hid hJ2
          clear hJ2 hblk3 hV3
          go_wp2_with fail
          refine (open_ok T1 g1 _ _ most _ (by exact HJ2.out)).mono ?_
          rintro e w' ⟨rfl, ⟨⟨nd, rfl⟩⟩⟩
          go_wp2_with fail
          go_roundw
          case rel => exact ⟨k + 1, _, _, by go_num, by omega, by omega, HBZ.out.drewN _, HBLZ.out, pw_below_drewN HBEZ.out _⟩
          case measure => simp [intOf]; omega
      · by_cases hkl : k < l.length
        all_goals
          have hkc : (200 : Int) ≤ (k : Int) ∨ (l.length : Int) ≤ (k : Int) := by omega
          have hk0 : (0 : Int) ≤ (k : Int) := by omega
          rcases hkc with hkc | hkc
          all_goals
            clear hlt
            first
            | (exfalso; omega)
            | (go_wp2_with fail
               refine (alive_any _).mono ?_
               rintro e w4 ⟨rfl, hb4⟩
               have HB4 := Lib.hid hb4
               clear hb4
               go_wp2_with fail
               go_ret
               exact ⟨rfl, below_then HBE.out HBE.out.size HB4.out⟩)
end Go.Proofs.Ytleomcilhhdngaa
