/- The walk of the law PiecesBack. -/
import Derived.Test.YtleomcilhhdngaaWkAny
import Derived.Test.YtleomcilhhdngaaWkLawFew
namespace Go.Proofs.Ytleomcilhhdngaa
open Go.RowKit Go.Proofs.YtleomcilhhdngaaW.PrintWords Go.Proofs.YtleomcilhhdngaaW.PrintLast Go.Proofs.YtleomcilhhdngaaW.PrintMore
/-- What is open ahead of piece k. -/
def ahead (b : List Int) (p k : Nat) : List Int := if k < many b.length p then b.take (k * p) else []
theorem putSpec_more {most : Int} {is : Bool} {bs p : List Int} {x : Int} (h1 : x ≤ 1) (h2 : decide (x % 2 = 1) = !is) (h3 : (bs.length : Int) + (p.length : Int) ≤ most) : putSpec most is bs (x :: p) = (([], false, 0), (true, bs ++ p)) := by
  have c1 : ¬ (3 < x ∨ (decide (x % 2 = 1)) = is) := by rintro (h | h) <;> first | omega | (rw [h2] at h; cases is <;> cases h)
  show (if _ then _ else _) = _
  rw [if_neg c1, if_neg (by omega), if_pos (by omega)]
theorem putSpec_last {most : Int} {is : Bool} {bs p : List Int} {x : Int} (h0 : 2 ≤ x) (h1 : x ≤ 3) (h2 : decide (x % 2 = 1) = !is) (h3 : (bs.length : Int) + (p.length : Int) ≤ most) : putSpec most is bs (x :: p) = ((bs ++ p, true, 0), (false, [])) := by
  have c1 : ¬ (3 < x ∨ (decide (x % 2 = 1)) = is) := by rintro (h | h) <;> first | omega | (rw [h2] at h; cases is <;> cases h)
  show (if _ then _ else _) = _
  rw [if_neg c1, if_neg (by omega), if_neg (by omega)]
/-- A piece put in its order. -/
theorem put_piece (b : List Int) (p k : Nat) (hp : 1 ≤ p) (hl : b.length ≤ 16777216) (hk : k < many b.length p) :
    putSpec 16777216 (decide (0 < k ∧ k < many b.length p)) (ahead b p k) (pc b p (many b.length p) k) =
      ((if k + 1 = many b.length p then b else [], decide (k + 1 = many b.length p), 0), (decide (0 < k + 1 ∧ k + 1 < many b.length p), ahead b p (k + 1))) := by
  have hlast := many_last (len := b.length) (p := p) (i := k) hp hk
  have hmul : (k + 1) * p = k * p + p := by rw [Nat.add_mul, Nat.one_mul]
  have hah : ahead b p k = b.take (k * p) := by unfold ahead; rw [if_pos hk]
  have hsum : (ahead b p k) ++ (b.drop (k * p)).take p = b.take ((k + 1) * p) := by
    rw [hah, hmul, List.take_add]
  have hlen : (ahead b p k).length + ((b.drop (k * p)).take p).length ≤ b.length := by
    rw [← List.length_append, hsum, List.length_take]; omega
  have hbit : decide (((if k = 0 then (1 : Int) else 0) + (if k + 1 = many b.length p then 2 else 0)) % 2 = 1) = !decide (0 < k ∧ k < many b.length p) := by
    by_cases h0 : k = 0
    · rw [if_pos h0, show decide (0 < k ∧ k < many b.length p) = false from decide_eq_false (by omega)]
      split <;> rfl
    · rw [if_neg h0, show decide (0 < k ∧ k < many b.length p) = true from decide_eq_true (by omega)]
      split <;> rfl
  by_cases hq : k + 1 = many b.length p
  · have h2 : b.take ((k + 1) * p) = b := List.take_of_length_le (hlast.2 hq)
    have hx : (2 : Int) ≤ (if k = 0 then (1 : Int) else 0) + (if k + 1 = many b.length p then 2 else 0) ∧ (if k = 0 then (1 : Int) else 0) + (if k + 1 = many b.length p then 2 else 0) ≤ 3 := by
      rw [if_pos hq]; split <;> omega
    unfold pc
    rw [putSpec_last hx.1 hx.2 hbit (by omega), hsum, h2, if_pos hq]
    have h3 : ahead b p (k + 1) = [] := by unfold ahead; rw [if_neg (by omega)]
    rw [h3, show decide (k + 1 = many b.length p) = true from decide_eq_true hq, show decide (0 < k + 1 ∧ k + 1 < many b.length p) = false from decide_eq_false (by omega)]
  · have hx : (if k = 0 then (1 : Int) else 0) + (if k + 1 = many b.length p then 2 else 0) ≤ 1 := by
      rw [if_neg hq]; split <;> omega
    unfold pc
    rw [putSpec_more hx hbit (by omega), hsum, if_neg hq]
    have h3 : ahead b p (k + 1) = b.take ((k + 1) * p) := by unfold ahead; rw [if_pos (by omega)]
    rw [h3, show decide (k + 1 = many b.length p) = false from decide_eq_false hq, show decide (0 < k + 1 ∧ k + 1 < many b.length p) = true from decide_eq_true (by omega)]
theorem pc_wf (b : List Int) (p n k : Nat) (h : ∀ x ∈ b, (Lit.int .u8 x).wf = true) : ∀ x ∈ pc b p n k, (Lit.int .u8 x).wf = true := by
  intro x hx
  unfold pc at hx
  rcases List.mem_cons.1 hx with rfl | hx
  · by_cases h0 : k = 0
    · rw [if_pos h0]; split <;> rfl
    · rw [if_neg h0]; split <;> rfl
  · exact h x (List.mem_of_mem_drop (List.mem_of_mem_take hx))
theorem putSpec_closed (most : Int) (is : Bool) (bs pc : List Int) (h : (putSpec most is bs pc).2.1 = false) : (putSpec most is bs pc).2.2 = [] := by
  cases pc with
  | nil => rfl
  | cons x p =>
    unfold putSpec at h ⊢
    by_cases c1 : 3 < x ∨ (decide (x % 2 = 1)) = is
    · simp only [if_pos c1]
    · by_cases c2 : most < (bs.length : Int) + (p.length : Int)
      · simp only [if_neg c1, if_pos c2]
      · by_cases c3 : x < 2
        · simp only [if_neg c1, if_neg c2, if_pos c3] at h
          cases h
        · simp only [if_neg c1, if_neg c2, if_neg c3]
theorem ahead_zero (b : List Int) (p : Nat) : ahead b p 0 = [] := by unfold ahead; split <;> simp
set_option maxRecDepth 100000 in
set_option maxHeartbeats 4000000 in
theorem backlaw_walk (v : Value) (b : List Int) (mtu : Int) (va : Value) (l : List (List Int)) (w : World) (hb : Kd.V KB 5 w 0 (fun k => k < w.heap.size) v b)
    (hw0 : (∀ x ∈ b, (Lit.int .u8 x).wf = true) ∧ b.length * 1 ≤ 140737488351232) (_hw1 : (Lit.int .i64 mtu).wf = true) (hl : Kd.V KBB 22 w 0 (fun k => k < w.heap.size) va l)
    (hok : (∀ x ∈ l, (∀ y ∈ x, (Lit.int .u8 y).wf = true) ∧ x.length * 1 ≤ 140737488351232) ∧ l.length * 24 ≤ 140737488351232) :
    Calls Try.prog 7 #[v, .int .i64 mtu, va] w fun e w' => e = .returned (.bool true) ∧ Below w.heap.size w w' := by
  obtain ⟨A, c, rfl⟩ := Kd.V_slice hb
  obtain ⟨AL, cL, rfl⟩ := Kd.V_slice hl
  have HL := Lib.hid hl
  have HOK := Lib.hid hok
  have hml : l.length ≤ 9223372036854775807 := Kd.F_max (Kd.V_at hl).2.2
  have HLim := lim_any A _ c b w _ hb
  obtain ⟨x, hx⟩ : ∃ x, x = b.take 100000 := ⟨_, rfl⟩
  have hxl : x.length ≤ 100000 := by rw [hx, List.length_take]; omega
  have hxw : ∀ z ∈ x, (Lit.int .u8 z).wf = true := fun z hz => hw0.1 z (List.mem_of_mem_take (by rw [← hx]; exact hz))
  rw [← hx] at HLim
  have H0 := Lib.hid HLim
  have HXW := Lib.hid hxw
  clear HLim hx hxw hl hok hb hw0 _hw1
  go_enter Try.func7, Try.ntmps7
  go_wp2_with fail
  refine H0.out.mono ?_
  rintro e w' ⟨rfl, hV, rfl⟩
  have H1 := Lib.hid (cut_any A _ c x mtu w _ hV)
  have HXV := Lib.hid hV
  obtain ⟨r, hr⟩ : ∃ r, r = cutSpec x mtu := ⟨_, rfl⟩
  rw [← hr] at H1
  have HR := Lib.hid hr
  clear hV hr H0
  go_wp2_with fail
  refine H1.out.mono ?_
  rintro e w1 ⟨v1, rfl, hN, hb1⟩
  have HB1 := Lib.hid hb1
  have HN := Lib.hid (Kd.N_V (base' := 0) hN)
  clear hN hb1 H1
  by_cases h0 : r.2 = 0
  · have hz := h0
    rw [HR.out] at hz
    obtain ⟨p, hm, hp1, hp2, hlx, hmany, hpc⟩ := cutSpec_ok hz
    rw [← HR.out] at hpc
    rw [hpc] at HN
    rw [h0]
    obtain ⟨A1, c1, rfl⟩ := Kd.V_slice HN.out
    have hpl := pcs_length x p
    rw [hpl] at HN ⊢
    subst hm
    clear h0 hz hpc hpl HR
    obtain ⟨n, hn⟩ : ∃ n, n = many x.length p := ⟨_, rfl⟩
    have hn1 : 1 ≤ n := by rw [hn]; exact many_pos _ _
    rw [← hn] at HN hmany ⊢
    have HNN := Lib.hid hn
    clear hn
    go_wp2_with fail
    refine (new_ok 16777216 w1 (by omega) (by omega)).mono ?_
    rintro e w2 ⟨rfl, hJ, hb2⟩
    have HJ := Lib.hid hJ
    have HB2 := Lib.hid hb2
    clear hJ hb2
    obtain ⟨g, hg⟩ : ∃ g, g = w1.heap.size := ⟨_, rfl⟩
    rw [← hg] at HJ ⊢
    have HG := Lib.hid hg
    clear hg
    go_wp2_with fail
    -- what was put ahead
    go_loopw [11] (fun i wr => ∃ (k : Nat) (is : Bool) (bs : List Int) (S : Nat → Prop), i = .int .i64 k ∧ k ≤ l.length ∧ k ≤ 200 ∧ Jo S g is bs 16777216 wr ∧ (∀ i, S i → g ≤ i) ∧ (bs.length : Int) ≤ 16777216 ∧ (is = false → bs = []) ∧ Below w1.heap.size w1 wr) (fun i _ => 200 - (intOf i).toNat)
    case atStart => exact ⟨0, false, [], _, rfl, Nat.zero_le _, by omega, HJ.out, fun i (h : i = g) => by omega, by simp, fun _ => rfl, HB2.out⟩
    case round =>
      obtain ⟨k, is, bs, S, rfl, hk, hk2, hJ, hS, hbl, hcl, hbel⟩ := hrel
      have HCL := Lib.hid hcl
      have HBE := Lib.hid hbel
      have HJR := Lib.hid hJ
      have HS := Lib.hid hS
      clear hbel hJ hS HJ HB2 hcl
      by_cases hlt : k < l.length ∧ k < 200
      · obtain ⟨hlt1, hlt2⟩ := hlt
        have hlt3 : (k : Int) < (l.length : Int) := by omega
        have hlt4 : (0 : Int) ≤ (k : Int) := by omega
        have hlt5 : (k : Int) < 200 := by omega
        have hbw : Below w.heap.size w wr := below_then HB1.out HB1.out.size HBE.out
        obtain ⟨ad, A0, c0, y, rfl, hc0, hV0, HY⟩ := V_row_at (b := 0) (Kd.V_step HL.out (fun i hi _ => hbw.block i hi)) k hlt1
        have HV0 := Lib.hid hV0
        clear hV0 hbw
        go_wp2_with fail
        refine (lim_any A0 _ c0 y wr _ (by exact HV0.out)).mono ?_
        rintro e w' ⟨rfl, hVp, rfl⟩
        obtain ⟨z, hz⟩ : ∃ z, z = y.take 100000 := ⟨_, rfl⟩
        rw [← hz] at hVp ⊢
        have hzl : z.length ≤ 16777216 := by rw [hz, List.length_take]; omega
        have hzw : ∀ u ∈ z, (Lit.int .u8 u).wf = true := fun u hu => (HOK.out.1 y (by rw [HY.out, List.getD_eq_getElem?_getD, List.getElem?_eq_getElem hlt1]; exact List.getElem_mem hlt1)).1 u (List.mem_of_mem_take (by rw [← hz]; exact hu))
        have hp := put_any S _ g is bs 16777216 wr A0 z.length c0 z HJR.out hVp (fun i hi hs => by have := HS.out i hs; have := HG.out; have := HB1.out.size; omega) hzw (by omega) hzl
        have hqb := putSpec_len 16777216 is bs z (by omega)
        have hqc := putSpec_closed 16777216 is bs z
        obtain ⟨q, hq⟩ : ∃ q, q = putSpec 16777216 is bs z := ⟨_, rfl⟩
        rw [← hq] at hp hqb hqc
        obtain ⟨⟨ra, rx, rg⟩, is2, bs2⟩ := q
        have HP := Lib.hid hp
        have HQB := Lib.hid hqb
        have HQC := Lib.hid hqc
        clear hp hq hqb hqc hzw hzl hVp hz
        go_wp2_with fail
        refine HP.out.mono ?_
        rintro e w3 ⟨vb, T, rfl, _, hJ3, hT, hC3⟩
        have HJ3 := Lib.hid hJ3
        have HT := Lib.hid hT
        have HC3 := Lib.hid hC3
        clear hJ3 hT hC3 HP
        go_wp2_with fail
        go_roundw
        case rel =>
          exact ⟨k + 1, is2, bs2, T, by go_num, by omega, by omega, HJ3.out, fun i hi => (HT.out i hi).elim (HS.out i) (fun h => by have := HBE.out.size; have := HG.out; omega), HQB.out, HQC.out,
            HBE.out.trans (HC3.out.below (fun i hi => by have := HS.out i hi; have := HG.out; omega) HBE.out.size)⟩
        case measure => simp [intOf]; omega
      · have hends : ((200 : Int) ≤ (k : Int) ∧ k < l.length) ∨ (l.length : Int) ≤ (k : Int) := by omega
        have hk0 : (0 : Int) ≤ (k : Int) := by omega
        clear hlt
        rcases hends with ⟨hend, hend2⟩ | hend
        all_goals
          cases is with
          | false =>
            have hbs := HCL.out rfl
            subst hbs
            go_wp2_with fail
            refine (open_ok S g false [] 16777216 wr (by exact HJR.out)).mono ?_
            rintro e w' ⟨rfl, ⟨⟨nd, rfl⟩⟩⟩
            go_wp2_with fail
            have HJZ := Lib.hid (HJR.out.step (w' := wr.drewN nd) (Nat.le_refl _) (fun _ _ _ => rfl))
            have HSZ := HS
            have HBZ := Lib.hid (pw_below_drewN HBE.out nd)
            clear HJR HS HBE HCL
            go_loopw [14] (fun i wq => ∃ (k : Nat) (S : Nat → Prop), i = .int .i64 k ∧ k ≤ n ∧ Jo S g (decide (0 < k ∧ k < n)) (ahead x p k) 16777216 wq ∧ (∀ i, S i → g ≤ i) ∧ Below w1.heap.size w1 wq) (fun i _ => n - (intOf i).toNat)
            case atStart => exact ⟨0, _, rfl, Nat.zero_le _, by rw [ahead_zero, show decide (0 < 0 ∧ 0 < n) = false from decide_eq_false (by omega)]; exact HJZ.out, HSZ.out, HBZ.out⟩
            case round =>
              obtain ⟨k, S, rfl, hk, hJ, hS, hbel⟩ := hrel
              have HBE := Lib.hid hbel
              have HJR := Lib.hid hJ
              have HS := Lib.hid hS
              clear hbel hJ hS HJZ HSZ HBZ
              by_cases hlt : k < n
              · obtain ⟨ad, A0, c0, y, rfl, hc0, hV0, HY⟩ := V_row_at (b := 0) (Kd.V_mono (Kd.V_step (Kd.V_bound HN.out) (fun i hi _ => HBE.out.block i hi.2)) (ok' := fun i => i < w1.heap.size) (fun i hi => hi.2)) k (by rw [pcs_length, ← HNN.out]; exact hlt)
                have hy : y = pc x p n k := by rw [HY.out, pcs_get _ _ _ (by rw [← HNN.out]; exact hlt), ← HNN.out]
                have hyl : y.length ≤ 16777216 := by rw [hy, pc_length]; omega
                have hal : (ahead x p k).length ≤ 16777216 := by unfold ahead; split <;> simp <;> omega
                have hp := put_any S _ g _ (ahead x p k) 16777216 wr A0 y.length c0 y HJR.out hV0 (fun i (hi : i < w1.heap.size) hs => by have := HS.out i hs; have := HG.out; omega) (by rw [hy]; exact pc_wf x p n k HXW.out) hal hyl
                have hpp := put_piece x p k hp1 hlx (by rw [← HNN.out]; exact hlt)
                rw [← HNN.out] at hpp
                have hpe : putSpec 16777216 (decide (0 < k ∧ k < n)) (ahead x p k) y = ((if k + 1 = n then x else [], decide (k + 1 = n), 0), (decide (0 < k + 1 ∧ k + 1 < n), ahead x p (k + 1))) := by rw [hy]; exact hpp
                rw [hpe] at hp
                clear hpe
                have hlt3 : (k : Int) < (n : Int) := by omega
                have hlt4 : (0 : Int) ≤ (k : Int) := by omega
                dsimp only at hp
                by_cases hq : k + 1 = n
                · rw [if_pos hq, show decide (k + 1 = n) = true from decide_eq_true hq] at hp
                  have hkt : ((k : Int) == (n : Int) - 1) = true := by rw [beq_iff_eq]; omega
                  have HP := Lib.hid hp
                  have HQ := Lib.hid hq
                  clear hp hpp hyl hal hy hV0 hq
                  go_wp2_with fail
                  refine HP.out.mono ?_
                  rintro e w3 ⟨vb, T, rfl, hVb, hJ3, hT, hC3⟩
                  have hb3 : Below w1.heap.size w1 w3 := HBE.out.trans (hC3.below (fun i hi => by have := HS.out i hi; have := HG.out; omega) HBE.out.size)
                  have hb03 := below_then HB1.out HB1.out.size hb3
                  have hvx := Kd.V_below HXV.out hb03
                  obtain ⟨Ab, cb, rfl⟩ := Kd.V_slice hVb
                  have hcv := Kd.C_string (P := Try.prog) (A := Ab) (c := cb) Try.underlying22 Try.underlying5 Try.underlying9 (Kd.V_reads' hVb).2.2
                  have hcw := Kd.C_string (P := Try.prog) (A := A) (c := c) Try.underlying22 Try.underlying5 Try.underlying9 (Kd.V_reads' hvx).2.2
                  have HJ3 := Lib.hid hJ3
                  have HT3 : Hid (∀ i, T i → g ≤ i) := fun i hi => (hT i hi).elim (HS.out i) (fun h => by have := HBE.out.size; have := HG.out; omega)
                  have HB3 := Lib.hid hb3
                  clear hJ3 hT hC3 hb3 hb03 hvx hVb HP
                  go_wp2_with fail
                  go_roundw
                  case rel => exact ⟨k + 1, T, by go_num, by omega, HJ3.out, HT3.out, HB3.out⟩
                  case measure => simp [intOf]; omega
                · rw [if_neg hq, show decide (k + 1 = n) = false from decide_eq_false hq] at hp
                  have hkt : ((k : Int) == (n : Int) - 1) = false := by rw [beq_eq_false_iff_ne]; omega
                  have HP := Lib.hid hp
                  have HQ := Lib.hid hq
                  clear hp hpp hyl hal hy hV0 hq
                  go_wp2_with fail
                  refine HP.out.mono ?_
                  rintro e w3 ⟨vb, T, rfl, _, hJ3, hT, hC3⟩
                  have hb3 : Below w1.heap.size w1 w3 := HBE.out.trans (hC3.below (fun i hi => by have := HS.out i hi; have := HG.out; omega) HBE.out.size)
                  have HJ3 := Lib.hid hJ3
                  have HT3 : Hid (∀ i, T i → g ≤ i) := fun i hi => (hT i hi).elim (HS.out i) (fun h => by have := HBE.out.size; have := HG.out; omega)
                  have HB3 := Lib.hid hb3
                  clear hJ3 hT hC3 hb3 HP
                  go_wp2_with fail
                  go_roundw
                  case rel => exact ⟨k + 1, T, by go_num, by have := HQ.out; omega, HJ3.out, HT3.out, HB3.out⟩
                  case measure => simp [intOf]; omega
              · have hkn : (n : Int) ≤ (k : Int) := by omega
                clear hlt
                go_wp2_with fail
                refine (alive_any _).mono ?_
                rintro e w4 ⟨rfl, hb4⟩
                have HB4 := Lib.hid hb4
                clear hb4
                go_wp2_with fail
                go_ret
                exact ⟨rfl, below_then (below_then HB1.out HB1.out.size HBE.out) (by have := HBE.out.size; have := HB1.out.size; omega) HB4.out⟩
          | true =>
            go_wp2_with fail
            refine (open_ok S g true bs 16777216 wr (by exact HJR.out)).mono ?_
            rintro e w' ⟨rfl, ⟨⟨nd, rfl⟩⟩⟩
            go_wp2_with fail
            refine (reset_ok S g true bs 16777216 _ (by exact HJR.out.step (w' := wr.drewN nd) (Nat.le_refl _) (fun _ _ _ => rfl))).mono ?_
            rintro e wz ⟨rfl, hJz, hCz⟩
            have HJZ := Lib.hid hJz
            have HSZ : Hid (∀ i, i = g → g ≤ i) := fun i (h : i = g) => by omega
            have HBZ := Lib.hid ((pw_below_drewN HBE.out nd).trans (hCz.below (fun i hi => by have := HS.out i hi; have := HG.out; omega) HBE.out.size))
            clear HJR HS HBE HCL hJz hCz
            go_wp2_with fail
            go_loopw [14] (fun i wq => ∃ (k : Nat) (S : Nat → Prop), i = .int .i64 k ∧ k ≤ n ∧ Jo S g (decide (0 < k ∧ k < n)) (ahead x p k) 16777216 wq ∧ (∀ i, S i → g ≤ i) ∧ Below w1.heap.size w1 wq) (fun i _ => n - (intOf i).toNat)
            case atStart => exact ⟨0, _, rfl, Nat.zero_le _, by rw [ahead_zero, show decide (0 < 0 ∧ 0 < n) = false from decide_eq_false (by omega)]; exact HJZ.out, HSZ.out, HBZ.out⟩
            case round =>
              obtain ⟨k, S, rfl, hk, hJ, hS, hbel⟩ := hrel
              have HBE := Lib.hid hbel
              have HJR := Lib.hid hJ
              have HS := Lib.hid hS
              clear hbel hJ hS HJZ HSZ HBZ
              by_cases hlt : k < n
              · obtain ⟨ad, A0, c0, y, rfl, hc0, hV0, HY⟩ := V_row_at (b := 0) (Kd.V_mono (Kd.V_step (Kd.V_bound HN.out) (fun i hi _ => HBE.out.block i hi.2)) (ok' := fun i => i < w1.heap.size) (fun i hi => hi.2)) k (by rw [pcs_length, ← HNN.out]; exact hlt)
                have hy : y = pc x p n k := by rw [HY.out, pcs_get _ _ _ (by rw [← HNN.out]; exact hlt), ← HNN.out]
                have hyl : y.length ≤ 16777216 := by rw [hy, pc_length]; omega
                have hal : (ahead x p k).length ≤ 16777216 := by unfold ahead; split <;> simp <;> omega
                have hp := put_any S _ g _ (ahead x p k) 16777216 wr A0 y.length c0 y HJR.out hV0 (fun i (hi : i < w1.heap.size) hs => by have := HS.out i hs; have := HG.out; omega) (by rw [hy]; exact pc_wf x p n k HXW.out) hal hyl
                have hpp := put_piece x p k hp1 hlx (by rw [← HNN.out]; exact hlt)
                rw [← HNN.out] at hpp
                have hpe : putSpec 16777216 (decide (0 < k ∧ k < n)) (ahead x p k) y = ((if k + 1 = n then x else [], decide (k + 1 = n), 0), (decide (0 < k + 1 ∧ k + 1 < n), ahead x p (k + 1))) := by rw [hy]; exact hpp
                rw [hpe] at hp
                clear hpe
                have hlt3 : (k : Int) < (n : Int) := by omega
                have hlt4 : (0 : Int) ≤ (k : Int) := by omega
                dsimp only at hp
                by_cases hq : k + 1 = n
                · rw [if_pos hq, show decide (k + 1 = n) = true from decide_eq_true hq] at hp
                  have hkt : ((k : Int) == (n : Int) - 1) = true := by rw [beq_iff_eq]; omega
                  have HP := Lib.hid hp
                  have HQ := Lib.hid hq
                  clear hp hpp hyl hal hy hV0 hq
                  go_wp2_with fail
                  refine HP.out.mono ?_
                  rintro e w3 ⟨vb, T, rfl, hVb, hJ3, hT, hC3⟩
                  have hb3 : Below w1.heap.size w1 w3 := HBE.out.trans (hC3.below (fun i hi => by have := HS.out i hi; have := HG.out; omega) HBE.out.size)
                  have hb03 := below_then HB1.out HB1.out.size hb3
                  have hvx := Kd.V_below HXV.out hb03
                  obtain ⟨Ab, cb, rfl⟩ := Kd.V_slice hVb
                  have hcv := Kd.C_string (P := Try.prog) (A := Ab) (c := cb) Try.underlying22 Try.underlying5 Try.underlying9 (Kd.V_reads' hVb).2.2
                  have hcw := Kd.C_string (P := Try.prog) (A := A) (c := c) Try.underlying22 Try.underlying5 Try.underlying9 (Kd.V_reads' hvx).2.2
                  have HJ3 := Lib.hid hJ3
                  have HT3 : Hid (∀ i, T i → g ≤ i) := fun i hi => (hT i hi).elim (HS.out i) (fun h => by have := HBE.out.size; have := HG.out; omega)
                  have HB3 := Lib.hid hb3
                  clear hJ3 hT hC3 hb3 hb03 hvx hVb HP
                  go_wp2_with fail
                  go_roundw
                  case rel => exact ⟨k + 1, T, by go_num, by omega, HJ3.out, HT3.out, HB3.out⟩
                  case measure => simp [intOf]; omega
                · rw [if_neg hq, show decide (k + 1 = n) = false from decide_eq_false hq] at hp
                  have hkt : ((k : Int) == (n : Int) - 1) = false := by rw [beq_eq_false_iff_ne]; omega
                  have HP := Lib.hid hp
                  have HQ := Lib.hid hq
                  clear hp hpp hyl hal hy hV0 hq
                  go_wp2_with fail
                  refine HP.out.mono ?_
                  rintro e w3 ⟨vb, T, rfl, _, hJ3, hT, hC3⟩
                  have hb3 : Below w1.heap.size w1 w3 := HBE.out.trans (hC3.below (fun i hi => by have := HS.out i hi; have := HG.out; omega) HBE.out.size)
                  have HJ3 := Lib.hid hJ3
                  have HT3 : Hid (∀ i, T i → g ≤ i) := fun i hi => (hT i hi).elim (HS.out i) (fun h => by have := HBE.out.size; have := HG.out; omega)
                  have HB3 := Lib.hid hb3
                  clear hJ3 hT hC3 hb3 HP
                  go_wp2_with fail
                  go_roundw
                  case rel => exact ⟨k + 1, T, by go_num, by have := HQ.out; omega, HJ3.out, HT3.out, HB3.out⟩
                  case measure => simp [intOf]; omega
              · have hkn : (n : Int) ≤ (k : Int) := by omega
                clear hlt
                go_wp2_with fail
                refine (alive_any _).mono ?_
                rintro e w4 ⟨rfl, hb4⟩
                have HB4 := Lib.hid hb4
                clear hb4
                go_wp2_with fail
                go_ret
                exact ⟨rfl, below_then (below_then HB1.out HB1.out.size HBE.out) (by have := HBE.out.size; have := HB1.out.size; omega) HB4.out⟩
  · have hz := h0
    rw [HR.out] at hz
    have hpc := cutSpec_bad hz
    rw [← HR.out] at hpc
    rw [hpc] at HN
    obtain ⟨A1, c1, rfl⟩ := Kd.V_slice HN.out
    have h1 : (r.2 == 0) = false := by simpa using h0
    have h2 : (r.2 != 0) = true := by simpa using h0
    clear h0 hz hpc HR
    go_wp2_with fail
    refine (alive_any _).mono ?_
    rintro e w4 ⟨rfl, hb4⟩
    have HB4 := Lib.hid hb4
    clear hb4
    go_wp2_with fail
    go_ret
    exact ⟨rfl, below_then HB1.out HB1.out.size HB4.out⟩
end Go.Proofs.Ytleomcilhhdngaa
