/- The walk of the law CountsNumbers. -/
import Derived.Test.YtgekpnbgmbbbdaaDoorCl3
namespace Go.Proofs.YtgekpnbgmbbbdaaDoor
open Go Go.RowKit Go.Proofs.YtgekpnbgmbbbdaaDoorW.PrintWords Go.Proofs.YtgekpnbgmbbbdaaDoorW.PrintLast Go.Proofs.YtgekpnbgmbbbdaaDoorW.PrintMore
attribute [local go_sem] max2_mx min2_mn max_two min_two
/-- The sums of numbers, cut at a hundred. -/
def sumsI (l m : List Int) (i k : Nat) : List Int := ((List.range i).flatMap fun j => m.map fun y => min (l.getD j 0) 100 + min y 100) ++ (m.take k).map fun y => min (l.getD i 0) 100 + min y 100
theorem sumsI_zero (l m : List Int) : sumsI l m 0 0 = [] := by simp [sumsI]
theorem sumsI_step (l m : List Int) (i k : Nat) (h : k < m.length) : sumsI l m i (k + 1) = sumsI l m i k ++ [min (l.getD i 0) 100 + min (m.getD k 0) 100] := by
  have e : m.getD k 0 = m[k] := by rw [List.getD_eq_getElem?_getD, List.getElem?_eq_getElem h, Option.getD_some]
  unfold sumsI
  rw [List.take_add_one, List.getElem?_eq_getElem h, List.map_append, e]
  simp
theorem sumsI_next (l m : List Int) (i : Nat) : sumsI l m (i + 1) 0 = sumsI l m i m.length := by
  unfold sumsI
  rw [List.take_length, List.range_succ, List.flatMap_append]
  simp
theorem sum_const (c : Nat) : ∀ i, ((List.range i).map fun _ => c).sum = i * c
  | 0 => by simp
  | i + 1 => by
    rw [List.range_succ, List.map_append, List.sum_append, sum_const c i, Nat.succ_mul]
    simp
theorem sumsI_len (l m : List Int) (i k : Nat) (h : k ≤ m.length) : (sumsI l m i k).length = i * m.length + k := by
  unfold sumsI
  simp [List.length_flatMap, Nat.min_eq_left h, sum_const]
theorem ofF_ok {t : Int} {l : List Int} (h : (ofF t l).2 = 0) : ∃ m : Nat, t = m ∧ m ≤ 62 ∧ (∀ x ∈ l, 0 ≤ x) ∧ l ≠ [] ∧ (ofF t l).1 = orL m (l.map Int.toNat) := by
  unfold ofF at h ⊢
  split at h
  · rename_i hb
    obtain ⟨m, rfl, hm⟩ := bnd_nat hb
    split at h
    · cases h
    · rename_i hn
      split at h
      · cases h
      · rename_i he
        refine ⟨m, rfl, hm, fun x hx => ?_, by simpa using he, ?_⟩
        · rcases Int.lt_or_le x 0 with h1 | h1
          · exact absurd (List.any_eq_true.2 ⟨x, hx, decide_eq_true h1⟩) hn
          · exact h1
        · rw [if_pos hb, if_neg hn, if_neg he]; rfl
  · cases h
theorem ofF_of {m : Nat} (hm : m ≤ 62) {l : List Int} (h : ∀ x ∈ l, 0 ≤ x) (h0 : l ≠ []) : ofF m l = (orL m (l.map Int.toNat), 0) := by
  unfold ofF
  rw [if_pos (bnd_of hm), if_neg, if_neg (by simpa using h0), Int.toNat_natCast]
  rw [List.any_eq_true]
  rintro ⟨x, hx, h1⟩
  have := h x hx
  simp at h1
  omega
theorem mem_sumsI {l m : List Int} {x : Int} : x ∈ sumsI l m l.length 0 ↔ ∃ i ∈ l, ∃ k ∈ m, x = min i 100 + min k 100 := by
  unfold sumsI
  simp only [List.take_zero, List.map_nil, List.append_nil, List.mem_flatMap, List.mem_range, List.mem_map]
  constructor
  · rintro ⟨j, hj, y, hy, rfl⟩
    exact ⟨l.getD j 0, by rw [List.getD_eq_getElem?_getD, List.getElem?_eq_getElem hj, Option.getD_some]; exact List.getElem_mem hj, y, hy, rfl⟩
  · rintro ⟨i, hi, y, hy, rfl⟩
    obtain ⟨j, hj, rfl⟩ := List.getElem_of_mem hi
    exact ⟨j, hj, y, hy, by rw [List.getD_eq_getElem?_getD, List.getElem?_eq_getElem hj, Option.getD_some]⟩
theorem numbers_plain {m : Nat} (hm : m ≤ 62) {l k : List Int} (hl : ∀ x ∈ l, 0 ≤ x) (hk : ∀ x ∈ k, 0 ≤ x) (hl0 : l ≠ []) (hk0 : k ≠ []) :
    ofF m (sumsI l k l.length 0) = (addF m (orL m (l.map Int.toNat)) (orL m (k.map Int.toNat)), 0) := by
  rw [ofF_of hm]
  · rw [addF_orL hm (l.map Int.toNat) (k.map Int.toNat) ((sumsI l k l.length 0).map Int.toNat)]
    intro x
    simp only [List.mem_map, mem_sumsI]
    constructor
    · rintro ⟨y, ⟨i, hi, j, hj, rfl⟩, rfl⟩
      have h1 := hl i hi
      have h2 := hk j hj
      exact ⟨_, ⟨i, hi, rfl⟩, _, ⟨j, hj, rfl⟩, by omega⟩
    · rintro ⟨_, ⟨i, hi, rfl⟩, _, ⟨j, hj, rfl⟩, rfl⟩
      have h1 := hl i hi
      have h2 := hk j hj
      exact ⟨_, ⟨i, hi, j, hj, rfl⟩, by omega⟩
  · intro x hx
    obtain ⟨i, hi, j, hj, rfl⟩ := mem_sumsI.1 hx
    have h1 := hl i hi
    have h2 := hk j hj
    omega
  · intro h0
    obtain ⟨x, hx⟩ := List.exists_mem_of_ne_nil l hl0
    obtain ⟨y, hy⟩ := List.exists_mem_of_ne_nil k hk0
    have := mem_sumsI.2 ⟨x, hx, y, hy, rfl⟩
    rw [h0] at this
    simp at this
set_option maxRecDepth 100000 in
set_option maxHeartbeats 2000000 in
theorem numlaw_walk (t : Int) (v1 : Value) (xs1 : List Int) (v2 : Value) (xs2 : List Int) (w : World) (_hw0 : (Lit.int .i64 t).wf = true)
    (hV1 : Kd.V (Kd.int .i64) 3 w 0 (fun k => k < w.heap.size) v1 xs1) (hok1 : (∀ x ∈ xs1, (Lit.int .i64 x).wf = true) ∧ xs1.length * 8 ≤ 140737488351232)
    (hV2 : Kd.V (Kd.int .i64) 3 w 0 (fun k => k < w.heap.size) v2 xs2) (hok2 : (∀ x ∈ xs2, (Lit.int .i64 x).wf = true) ∧ xs2.length * 8 ≤ 140737488351232) :
    Calls Tryd.prog 4 #[.int .i64 t, v1, v2] w fun e w' => e = .returned (.bool true) ∧ Below w.heap.size w w' := by
  have hl1 : xs1.length ≤ 1152921504606846976 := by omega
  have hl2 : xs2.length ≤ 1152921504606846976 := by omega
  obtain ⟨A1, c1, rfl⟩ := Kd.V_slice hV1
  obtain ⟨A2, c2, rfl⟩ := Kd.V_slice hV2
  have h1 := of_w t _ _ _ _ xs1 w hV1 hl1 (ofF t xs1) rfl
  have h2 := of_w t _ _ _ _ xs2 w hV2 hl2 (ofF t xs2) rfl
  have hC1 := (Kd.V_reads' hV1).2.2
  have hC2 := (Kd.V_reads' hV2).2.2
  obtain ⟨r, hr⟩ : ∃ r, r = ofF t xs1 := ⟨_, rfl⟩
  obtain ⟨q, hq⟩ : ∃ q, q = ofF t xs2 := ⟨_, rfl⟩
  rw [← hr] at h1
  rw [← hq] at h2
  have HR := Lib.hid hr
  have HQ := Lib.hid hq
  obtain ⟨r1, r2⟩ := r
  obtain ⟨q1, q2⟩ := q
  have H1 := Lib.hid h1
  have H2 := Lib.hid h2
  have HC1 := Lib.hid hC1
  have HC2 := Lib.hid hC2
  have hn1 : (xs1.length : Int) ≤ 1152921504606846976 := by omega
  have hn2 : (xs2.length : Int) ≤ 1152921504606846976 := by omega
  clear h1 h2 hV1 hV2 hok1 hok2 _hw0 hr hq hC1 hC2 hl1 hl2
  by_cases hg : r2 = 0 ∧ q2 = 0 ∧ xs1.length ≤ 50 ∧ xs2.length ≤ 50
  · obtain ⟨rfl, rfl, hs1, hs2⟩ := hg
    obtain ⟨m, rfl, hm, hp1, hz1, e1⟩ := ofF_ok (by rw [← HR.out])
    obtain ⟨m', em, _, hp2, hz2, e2⟩ := ofF_ok (t := (m : Int)) (by rw [← HQ.out])
    obtain rfl : m = m' := by omega
    rw [← HR.out] at e1
    rw [← HQ.out] at e2
    have hfin := numbers_plain hm hp1 hp2 hz1 hz2
    have hM1 := may_orL (t := m) (l := xs1.map Int.toNat) (by simpa using hz1)
    have hM2 := may_orL (t := m) (l := xs2.map Int.toNat) (by simpa using hz2)
    simp only at e1 e2
    rw [← e1] at hfin hM1
    rw [← e2] at hfin hM2
    have hsum := fun W => suml_w hm [r1, q1] (two_of hM1 hM2) (by simp) (addF m r1 q1) (sumF_two hm hM1) W #[.int .u64 (r1 : Nat), .int .u64 (q1 : Nat)] rfl
    simp only [List.length_cons, List.length_nil, Nat.zero_add, Nat.reduceAdd] at hsum
    have hm2 : (m : Int) ≤ 62 := by omega
    have g1 : decide (50 < (xs1.length : Int)) = false := decide_eq_false (by omega)
    have g2 : decide (50 < (xs2.length : Int)) = false := decide_eq_false (by omega)
    generalize addF m r1 q1 = s at hfin hsum
    have HF := Lib.hid hfin
    have HS := Lib.hid hsum
    have HP1 := Lib.hid hp1
    have HP2 := Lib.hid hp2
    clear HR HQ e1 e2 hfin hM1 hM2 hsum hp1 hp2 hz1 hz2 em
    go_enter Tryd.func4, Tryd.ntmps4
    go_wp2_with fail
    refine H1.out.mono ?_
    rintro e w1 ⟨rfl, rfl⟩
    go_wp2_with fail
    refine H2.out.mono ?_
    rintro e w2 ⟨rfl, rfl⟩
    go_wp2_with fail
    refine (awake_w _).mono ?_
    rintro e w3 ⟨rfl, hb3⟩
    have HB3 := Lib.hid hb3
    have HD1 := Lib.hid (Kd.C_below HC1.out hb3)
    have HD2 := Lib.hid (Kd.C_below HC2.out hb3)
    clear hb3 H1 H2 HC1 HC2
    go_wp2_with fail
    go_loopw [11, 12] (fun vo v wr => ∃ i : Nat, v = .int .i64 i ∧ i ≤ xs1.length ∧ (Kd.int .i64).R 3 wr w3.heap.size (fun k => w3.heap.size ≤ k) vo (sumsI xs1 xs2 i 0) ∧ Below w3.heap.size w3 wr) (fun _ v _ => xs1.length - (intOf v).toNat)
    case atStart => exact ⟨0, rfl, Nat.zero_le _, by rw [sumsI_zero]; exact Kd.R_nil _ _ _ _ _, Below.refl _ _⟩
    case round =>
      obtain ⟨i, rfl, hi, hRo, hbo⟩ := hrel
      have HRo := Lib.hid hRo
      have HBo := Lib.hid hbo
      clear hRo hbo
      have hli : i < xs1.length ∨ i = xs1.length := by omega
      rcases hli with hlt | hlt
      · have hi64 : decide ((i : Int) < (xs1.length : Int)) = true := decide_eq_true (by omega)
        go_wp2_with fail
        go_loopw [11, 13] (fun vo v wq => ∃ k : Nat, v = .int .i64 k ∧ k ≤ xs2.length ∧ (Kd.int .i64).R 3 wq w3.heap.size (fun k => w3.heap.size ≤ k) vo (sumsI xs1 xs2 i k) ∧ Below w3.heap.size w3 wq) (fun _ v _ => xs2.length - (intOf v).toNat)
        case atStart => exact ⟨0, rfl, Nat.zero_le _, HRo.out, HBo.out⟩
        case round =>
          obtain ⟨k, rfl, hk, hRi, hbi⟩ := hrel
          have HRi := Lib.hid hRi
          have HBi := Lib.hid hbi
          clear hRi hbi
          have hlk : k < xs2.length ∨ k = xs2.length := by omega
          rcases hlk with hkt | hkt
          · have hk64 : decide ((k : Int) < (xs2.length : Int)) = true := decide_eq_true (by omega)
            obtain ⟨ad1, x, rfl, hel1, HX⟩ := C_int_at (Kd.C_below HD1.out HBi.out) i hlt
            obtain ⟨ad2, y, rfl, hel2, HY⟩ := C_int_at (Kd.C_below HD2.out HBi.out) k hkt
            have hst := sumsI_step xs1 xs2 i k hkt
            rw [← HX.out, ← HY.out] at hst
            have hx0 : 0 ≤ x := HP1.out x (by rw [HX.out, List.getD_eq_getElem?_getD, List.getElem?_eq_getElem hlt, Option.getD_some]; exact List.getElem_mem hlt)
            have hy0 : 0 ≤ y := HP2.out y (by rw [HY.out, List.getD_eq_getElem?_getD, List.getElem?_eq_getElem hkt, Option.getD_some]; exact List.getElem_mem hkt)
            have m1 : mn x 100 = min x 100 := by unfold mn; split <;> omega
            have m2 : mn y 100 = min y 100 := by unfold mn; split <;> omega
            obtain ⟨p, hp⟩ : ∃ p, p = min x 100 := ⟨_, rfl⟩
            obtain ⟨q, hq⟩ : ∃ q, q = min y 100 := ⟨_, rfl⟩
            have p0 : 0 ≤ p := by omega
            have p9 : p ≤ 100 := by omega
            have q0 : 0 ≤ q := by omega
            have q9 : q ≤ 100 := by omega
            rw [← hp] at m1 hst
            rw [← hq] at m2 hst
            have hwr : IntKind.i64.wrap (p + q) = p + q := by rw [IntKind.wrap_i64]; omega
            rw [← hwr] at hst
            have HST := Lib.hid hst
            clear hwr
            have hsl := sumsI_len xs1 xs2 i k hk
            have hmul : i * xs2.length ≤ 50 * 50 := Nat.mul_le_mul (by omega) hs2
            have hsl2 : (sumsI xs1 xs2 i k).length ≤ 10000 := by omega
            clear hst hx0 hy0 hp hq hsl hmul HX HY
            have hix1 : (i : Int) < (xs1.length : Int) := by omega
            have hix2 : (k : Int) < (xs2.length : Int) := by omega
            go_wp2_with fail
            go_region_law (first
              | (refine Kd.R_append_step (Kd.int .i64) (w0 := w3) (W := wr.drew) w3.heap.size (by rfl) (.tmp 60) (.tmp 72) 22 3 (.int .i64 0) 8 (by rfl) Tryd.underlying22 Tryd.info3 rfl (by decide) (by omega) _ _ (IntKind.i64.wrap (p + q)) [.int .i64 (IntKind.i64.wrap (p + q))] (fun k => w3.heap.size ≤ k) (fun _ => False) rfl ?aX rfl (fun _ h => h.elim) ?aF (Kd.R_drew HRi.out) ?aB ?aS ?aL ?_; (case aX => rfl); (case aF => intro k hk; have := HBi.out.size; simp at hk; omega); (case aB => exact pw_below_drewN HBi.out 1); (case aS => exact HBi.out.size); (case aL => omega); intro v2 w4 hr2 hb2 hg2 hat2; rw [← HST.out] at hr2; have HR2 := Lib.hid hr2; have HB2 := Lib.hid hb2; clear hr2 hb2 hg2 hat2))
            all_goals
              go_wp2_with fail
              go_roundw
              case rel => exact ⟨k + 1, by simp, by omega, HR2.out, HB2.out⟩
              case measure => simp [intOf]; omega
          · have hk64 : decide ((k : Int) < (xs2.length : Int)) = false := decide_eq_false (by omega)
            have HRk := Lib.hid (show (Kd.int .i64).R 3 wr w3.heap.size (fun k => w3.heap.size ≤ k) _ (sumsI xs1 xs2 (i + 1) 0) by rw [sumsI_next, ← hkt]; exact HRi.out)
            go_wp2_with fail
            go_roundw
            case rel => exact ⟨i + 1, by simp, by omega, HRk.out, HBi.out⟩
            case measure => simp [intOf]; omega
      · have hi64 : decide ((i : Int) < (xs1.length : Int)) = false := decide_eq_false (by omega)
        subst hlt
        have hRk := HRo.out
        obtain ⟨A3, c3, rfl⟩ := Kd.R_slice hRk
        have h5 := fun W (hb : Below wr.heap.size wr W) => of_w (m : Int) _ _ _ _ _ W (Kd.V_below (Kd.V_bound (Kd.R_V (base' := 0) hRk)) hb) (by rw [sumsI_len _ _ _ _ (Nat.zero_le _)]; have : xs1.length * xs2.length ≤ 50 * 50 := Nat.mul_le_mul hs1 hs2; omega) (s, 0) HF.out.symm
        generalize (sumsI xs1 xs2 xs1.length 0).length = n5 at h5 ⊢
        have H5 := Lib.hid h5
        clear hRk h5
        go_wp2_with fail
        refine (HS.out _ _ _ rfl rfl).mono ?_
        rintro e w5 ⟨rfl, hb5⟩
        have HB5 := Lib.hid hb5
        clear hb5
        go_wp2_with fail
        refine (H5.out _ HB5.out).mono ?_
        rintro e w6 ⟨rfl, rfl⟩
        go_wp2_with fail
        go_ret
        exact ⟨rfl, HB3.out.trans ((HBo.out.trans (HB5.out.mono HBo.out.size)).mono HB3.out.size)⟩
  · have hbad : ((r2 != 0) = true) ∨ ((r2 != 0) = false ∧ (q2 != 0) = true) ∨ ((r2 != 0) = false ∧ (q2 != 0) = false ∧ decide (50 < (xs1.length : Int)) = true) ∨ ((r2 != 0) = false ∧ (q2 != 0) = false ∧ decide (50 < (xs1.length : Int)) = false ∧ decide (50 < (xs2.length : Int)) = true) := by
      simp only [bne_iff_ne, decide_eq_true_eq, bne_eq_false_iff_eq, decide_eq_false_iff_not]
      omega
    clear hg HR HQ
    rcases hbad with f0 | ⟨f0, f1⟩ | ⟨f0, f1, f2⟩ | ⟨f0, f1, f2, f3⟩
    all_goals
      go_enter Tryd.func4, Tryd.ntmps4
      go_wp2_with fail
      refine H1.out.mono ?_
      rintro e w1 ⟨rfl, rfl⟩
      go_wp2_with fail
      refine H2.out.mono ?_
      rintro e w2 ⟨rfl, rfl⟩
      go_wp2_with fail
      refine (awake_w _).mono ?_
      rintro e w3 ⟨rfl, hb3⟩
      have HB3 := Lib.hid hb3
      clear hb3
      go_wp2_with fail
      go_ret
      exact ⟨rfl, HB3.out⟩
end Go.Proofs.YtgekpnbgmbbbdaaDoor
