/- The walk of the law PiecesFew. -/
import Derived.Test.YtleomcilhhdngaaWkLawCut
namespace Go.Proofs.Ytleomcilhhdngaa
open Go.RowKit Go.Proofs.YtleomcilhhdngaaW.PrintWords Go.Proofs.YtleomcilhhdngaaW.PrintLast Go.Proofs.YtleomcilhhdngaaW.PrintMore
theorem pcs_length (b : List Int) (p : Nat) : (pcs b p).length = many b.length p := by simp [pcs]
theorem pcs_get (b : List Int) (p i : Nat) (hi : i < many b.length p) : (pcs b p).getD i [] = pc b p (many b.length p) i := by
  simp [pcs, List.getD_eq_getElem?_getD, hi]
theorem pc_length (b : List Int) (p n i : Nat) : (pc b p n i).length = 1 + min p (b.length - i * p) := by
  simp [pc, Nat.add_comm]
/-- Where Cut tells no error. -/
theorem cutSpec_ok {b : List Int} {mtu : Int} (h : (cutSpec b mtu).2 = 0) : ∃ p : Nat, mtu = (p : Int) + 1 ∧ 1 ≤ p ∧ p ≤ 65535 ∧ b.length ≤ 16777216 ∧ many b.length p ≤ 65536 ∧ (cutSpec b mtu).1 = pcs b p := by
  unfold cutSpec at h ⊢
  split at h
  · simp at h
  · split at h
    · simp at h
    · split at h
      · simp at h
      · rename_i h1 h2 h3
        refine ⟨(mtu - 1).toNat, by omega, by omega, by omega, by omega, by omega, ?_⟩
        rw [if_neg h1, if_neg h2, if_neg h3]
theorem cutSpec_bad {b : List Int} {mtu : Int} (h : (cutSpec b mtu).2 ≠ 0) : (cutSpec b mtu).1 = [] := by
  unfold cutSpec at h ⊢
  split
  · rfl
  · split
    · rfl
    · split
      · rfl
      · rename_i h1 h2 h3
        rw [if_neg h1, if_neg h2, if_neg h3] at h
        exact absurd rfl h

set_option maxRecDepth 100000 in
set_option maxHeartbeats 1000000 in
theorem fewlaw_walk (v : Value) (b : List Int) (mtu : Int) (w : World) (hb : Kd.V KB 5 w 0 (fun k => k < w.heap.size) v b) (_hw0 : (∀ x ∈ b, (Lit.int .u8 x).wf = true) ∧ b.length * 1 ≤ 140737488351232) (_hw1 : (Lit.int .i64 mtu).wf = true) :
    Calls Try.prog 4 #[v, .int .i64 mtu] w fun e w' => e = .returned (.bool true) ∧ Below w.heap.size w w' := by
  clear _hw0 _hw1
  obtain ⟨A, c, rfl⟩ := Kd.V_slice hb
  have HL := lim_any A _ c b w _ hb
  obtain ⟨x, hx⟩ : ∃ x, x = b.take 100000 := ⟨_, rfl⟩
  have hxl : x.length ≤ 100000 := by rw [hx, List.length_take]; omega
  rw [← hx] at HL
  have H0 := Lib.hid HL
  clear HL hx
  go_enter Try.func4, Try.ntmps4
  go_wp2_with fail
  refine H0.out.mono ?_
  rintro e w' ⟨rfl, hV, rfl⟩
  have H1 := Lib.hid (cut_any A _ c x mtu w _ hV)
  obtain ⟨r, hr⟩ : ∃ r, r = cutSpec x mtu := ⟨_, rfl⟩
  rw [← hr] at H1
  have HR := Lib.hid hr
  clear hV hr H0
  go_wp2_with fail
  refine H1.out.mono ?_
  rintro e w1 ⟨v1, rfl, hN, hb1⟩
  have HB1 := Lib.hid hb1
  have HN := Lib.hid (Kd.N_V (base' := 0) hN)
  clear hN hb1 H1
  by_cases h0 : r.2 = 0
  · have hz := h0
    rw [HR.out] at hz
    obtain ⟨p, hm, hp1, hp2, hl, hmany, hpc⟩ := cutSpec_ok hz
    rw [← HR.out] at hpc
    rw [hpc] at HN
    rw [h0]
    obtain ⟨A1, c1, rfl⟩ := Kd.V_slice HN.out
    have hpl := pcs_length x p
    rw [hpl] at HN ⊢
    subst hm
    clear h0 hz hpc hpl HR
    obtain ⟨n, hn⟩ : ∃ n, n = many x.length p := ⟨_, rfl⟩
    have hn1 : 1 ≤ n := by rw [hn]; exact many_pos _ _
    rw [← hn] at HN hmany ⊢
    have HNN := Lib.hid hn
    clear hn
    go_wp2_with fail
    go_loopw [7, 8] (fun s i wr => ∃ k : Nat, i = .int .i64 k ∧ k ≤ n ∧ s = .int .i64 ((min (k * p) x.length : Nat) : Int) ∧ wr = w1) (fun _ i _ => n - (intOf i).toNat)
    case atStart => exact ⟨0, rfl, Nat.zero_le _, by simp, rfl⟩
    case round =>
      obtain ⟨k, rfl, hk, rfl, rfl⟩ := hrel
      by_cases hlt : k < n
      · obtain ⟨ad, A0, c0, y, rfl, hc0, hl0, hC0, HY⟩ := V_slice_at HN.out k (by rw [pcs_length, ← HNN.out]; exact hlt)
        have hyl : y.length = 1 + min p (x.length - k * p) := by rw [HY.out, pcs_get _ _ _ (by rw [← HNN.out]; exact hlt), pc_length]
        have hlast := many_last (len := x.length) (p := p) (i := k) hp1 (by rw [← HNN.out]; exact hlt)
        have hbef := many_before (len := x.length) (p := p) (i := k) hp1 (by rw [← HNN.out]; exact hlt)
        rw [← HNN.out] at hlast
        have hmul : (k + 1) * p = k * p + p := by rw [Nat.add_mul, Nat.one_mul]
        obtain ⟨s, hs⟩ : ∃ s, s = min (k * p) x.length := ⟨_, rfl⟩
        obtain ⟨s2, hs2⟩ : ∃ s2, s2 = min ((k + 1) * p) x.length := ⟨_, rfl⟩
        have hsum : s + y.length = s2 + 1 := by omega
        have hsl : s2 ≤ x.length := by omega
        have hy1 : 1 ≤ y.length := by omega
        have hy2 : y.length ≤ p + 1 := by omega
        have hy3 : (k : Int) < (n : Int) - 1 → (y.length : Int) = (p : Int) + 1 := by
          intro h
          have : ¬ x.length ≤ (k + 1) * p := fun h2 => by have := hlast.1 h2; omega
          omega
        rw [← hs]
        have HS2 := Lib.hid hs2
        have HSUM := Lib.hid hsum
        have HY3 := Lib.hid hy3
        have hsl1 : s ≤ x.length := by omega
        clear hs hs2 hsum hy3 hyl hlast hmul hC0 hbef
        have hlt2 : (k : Int) < (n : Int) := by omega
        have hlt4 : (0 : Int) ≤ (k : Int) := by omega
        by_cases hq : (k : Int) < (n : Int) - 1
        · have hy4 : (y.length : Int) = (p : Int) + 1 := HY3.out hq
          have hy5 : ((y.length : Int) == (p : Int) + 1) = true := by simp [hy4]
          have hy6 : ((y.length : Int) != (p : Int) + 1) = false := by simp [hy4]
          have HY4 := Lib.hid hy4
          clear hy4
          go_wp2_with fail
          go_roundw
          case rel => exact ⟨k + 1, by go_num, by omega, by rw [← HS2.out]; congr 1; have := HSUM.out; omega, by first | trivial | rfl⟩
          case measure => simp [intOf]; omega
        · go_wp2_with fail
          go_roundw
          case rel => exact ⟨k + 1, by go_num, by omega, by rw [← HS2.out]; congr 1; have := HSUM.out; omega, by first | trivial | rfl⟩
          case measure => simp [intOf]; omega
      · have hkn : k = n := by omega
        have hfin : min (k * p) x.length = x.length := by
          have h2 := many_last (len := x.length) (p := p) (i := n - 1) hp1 (by rw [← HNN.out]; omega)
          have h3 := h2.2 (by rw [← HNN.out]; omega)
          rw [show n - 1 + 1 = n from by omega] at h3
          rw [hkn]; omega
        rw [hfin]
        clear hfin hkn
        go_wp2_with fail
        refine (alive_any _).mono ?_
        rintro e w4 ⟨rfl, hb4⟩
        have HB4 := Lib.hid hb4
        clear hb4
        go_wp2_with fail
        go_ret
        exact ⟨rfl, below_then HB1.out HB1.out.size HB4.out⟩
  · have hz := h0
    rw [HR.out] at hz
    have hpc := cutSpec_bad hz
    rw [← HR.out] at hpc
    rw [hpc] at HN
    obtain ⟨A1, c1, rfl⟩ := Kd.V_slice HN.out
    have h1 : (r.2 == 0) = false := by simpa using h0
    have h2 : (r.2 != 0) = true := by simpa using h0
    clear h0 hz hpc HR
    go_wp2_with fail
    refine (alive_any _).mono ?_
    rintro e w4 ⟨rfl, hb4⟩
    have HB4 := Lib.hid hb4
    clear hb4
    go_wp2_with fail
    go_ret
    exact ⟨rfl, below_then HB1.out HB1.out.size HB4.out⟩
end Go.Proofs.Ytleomcilhhdngaa
