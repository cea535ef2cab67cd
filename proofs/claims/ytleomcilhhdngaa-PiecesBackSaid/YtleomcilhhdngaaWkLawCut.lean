/- The walk of the law PiecesCut. -/
import Derived.Test.YtleomcilhhdngaaWkAlive
import Derived.Test.YtleomcilhhdngaaWkCutErr
import Derived.Test.YtleomcilhhdngaaPlRef
namespace Go.Proofs.Ytleomcilhhdngaa
open Go.RowKit Go.Proofs.YtleomcilhhdngaaW.PrintWords Go.Proofs.YtleomcilhhdngaaW.PrintLast Go.Proofs.YtleomcilhhdngaaW.PrintMore
open Go.Proofs.Ytleomcilhhdngaa.PPiecesCut
/-- What the program's Cut tells, of every slice and number: the pieces, or an error's number. -/
def cutSpec (b : List Int) (mtu : Int) : List (List Int) × Int :=
  if mtu < 2 ∨ 65536 < mtu then ([], 1) else if 16777216 < b.length then ([], 2) else if 65536 < many b.length (mtu - 1).toNat then ([], 3) else (pcs b (mtu - 1).toNat, 0)
theorem cut_any (A : Option Addr) (n c : Nat) (b : List Int) (mtu : Int) (w : World) (ok : Nat → Prop) (hb : Kd.V KB 5 w 0 ok (.slice A n c) b) :
    Calls Try.prog 8 #[.slice A n c, .int .i64 mtu] w fun e w' => ∃ v, e = .returned (.tuple #[v, .int .i64 (cutSpec b mtu).2]) ∧ Kd.N KBB 22 w' w.heap.size (fun k => w.heap.size ≤ k) v (cutSpec b mtu).1 ∧ Below w.heap.size w w' := by
  obtain ⟨rfl, hl, hF⟩ := Kd.V_at hb
  by_cases h1 : mtu < 2 ∨ 65536 < mtu
  · have hs : cutSpec b mtu = ([], 1) := by unfold cutSpec; rw [if_pos h1]
    rw [hs]
    rcases h1 with h1 | h1
    · exact (cut_low A _ c mtu w h1).mono fun e w' ⟨he, hw⟩ => ⟨_, he, by subst hw; exact ⟨Kd.N_nil _ _ _ _ _, Below.refl _ _⟩⟩
    · exact (cut_high A _ c mtu w h1).mono fun e w' ⟨he, hw⟩ => ⟨_, he, by subst hw; exact ⟨Kd.N_nil _ _ _ _ _, Below.refl _ _⟩⟩
  · obtain ⟨p, rfl⟩ : ∃ p : Nat, mtu = (p : Int) + 1 := ⟨(mtu - 1).toNat, by omega⟩
    have hp : ((p : Int) + 1 - 1).toNat = p := by omega
    by_cases h2 : 16777216 < b.length
    · have hs : cutSpec b ((p : Int) + 1) = ([], 2) := by unfold cutSpec; rw [if_neg h1, if_pos h2]
      rw [hs]
      exact (cut_long A _ c _ w (by omega) (by omega) (by omega)).mono fun e w' ⟨he, hw⟩ => ⟨_, he, by subst hw; exact ⟨Kd.N_nil _ _ _ _ _, Below.refl _ _⟩⟩
    · by_cases h3 : 65536 < many b.length p
      · have hs : cutSpec b ((p : Int) + 1) = ([], 3) := by unfold cutSpec; rw [if_neg h1, if_neg h2, hp, if_pos h3]
        rw [hs]
        exact (cut_many A _ c p w (by omega) (by omega) (by omega) h3).mono fun e w' ⟨he, hw⟩ => ⟨_, he, by subst hw; exact ⟨Kd.N_nil _ _ _ _ _, Below.refl _ _⟩⟩
      · have hs : cutSpec b ((p : Int) + 1) = (pcs b p, 0) := by unfold cutSpec; rw [if_neg h1, if_neg h2, hp, if_neg h3]
        rw [hs]
        exact cut_main A _ c b p w ok hb (by omega) (by omega) (by omega) (by omega)
/-- The reference tells the same of every message that is not too long. -/
theorem refcut_any (A : Option Addr) (n c : Nat) (b : List Int) (mtu : Int) (w : World) (ok : Nat → Prop) (hb : Kd.V KB 5 w 0 ok (.slice A n c) b) (hlen : b.length ≤ 16777216) :
    Calls Try.prog 11 #[.slice A n c, .int .i64 mtu] w fun e w' => ∃ v, e = .returned (.tuple #[v, .int .i64 (cutSpec b mtu).2]) ∧ Kd.V KBB 22 w' 0 (fun _ => True) v (cutSpec b mtu).1 ∧ Below w.heap.size w w' := by
  obtain ⟨rfl, hl, hF⟩ := Kd.V_at hb
  have key : ∃ k, milestoneref19_Cut.f k b mtu = some (cutSpec b mtu) := by
    by_cases h1 : mtu < 2 ∨ 65536 < mtu
    · exact ⟨3, by rw [ref_arg b mtu h1]; unfold cutSpec; rw [if_pos h1]⟩
    · obtain ⟨p, rfl⟩ : ∃ p : Nat, mtu = (p : Int) + 1 := ⟨(mtu - 1).toNat, by omega⟩
      have hp : ((p : Int) + 1 - 1).toNat = p := by omega
      by_cases h3 : 65536 < many b.length p
      · exact ⟨3, by rw [ref_many b p (by omega) (by omega) hlen h3]; unfold cutSpec; rw [if_neg h1, if_neg (by omega), hp, if_pos h3]⟩
      · exact ⟨_, by rw [ref_main b p (by omega) (by omega) hlen (by omega)]; unfold cutSpec; rw [if_neg h1, if_neg (by omega), hp, if_neg h3]⟩
  obtain ⟨k, hk⟩ := key
  refine (milestoneref19_Cut.calls k A c b mtu (cutSpec b mtu).1 (cutSpec b mtu).2 w (Kd.F_now hF) hl hk).mono ?_
  rintro e w' ⟨v, rfl, hS, hb⟩
  exact ⟨v, rfl, Kd.S_V hS, hb⟩

set_option maxHeartbeats 400000 in
theorem cutlaw_walk (v : Value) (b : List Int) (mtu : Int) (w : World) (hb : Kd.V KB 5 w 0 (fun k => k < w.heap.size) v b) (_ : (∀ x ∈ b, (Lit.int .u8 x).wf = true) ∧ b.length * 1 ≤ 140737488351232) (_ : (Lit.int .i64 mtu).wf = true) :
    Calls Try.prog 3 #[v, .int .i64 mtu] w fun e w' => e = .returned (.bool true) ∧ Below w.heap.size w w' := by
  obtain ⟨A, c, rfl⟩ := Kd.V_slice hb
  by_cases hlong : 16777216 < b.length
  · obtain ⟨r, hr⟩ : ∃ r, r = cutSpec b mtu := ⟨_, rfl⟩
    have h1 := cut_any A _ c b mtu w _ hb
    rw [← hr] at h1
    have hr2 : r.2 = 2 ∨ r.2 = 1 := by rw [hr]; unfold cutSpec; split <;> simp
    have H1 := Lib.hid h1
    have hlen : (16777216 : Int) < (b.length : Int) := by omega
    clear h1 hr hb
    rcases hr2 with h2 | h2
    all_goals
      rw [h2] at H1
      go_enter Try.func3, Try.ntmps3
      go_wp2_with fail
      refine H1.out.mono ?_
      rintro e w1 ⟨v1, rfl, hN, hb1⟩
      have HB := Lib.hid hb1
      clear hN hb1 h2
      go_wp2_with fail
      refine (alive_any _).mono ?_
      rintro e w2 ⟨rfl, hb2⟩
      have HB2 := Lib.hid hb2
      clear hb2
      go_wp2_with fail
      go_ret
      exact ⟨rfl, below_then HB.out HB.out.size HB2.out⟩
  · have HL := lim_any A _ c b w _ hb
    have hlen : ¬ (16777216 : Int) < (b.length : Int) := by omega
    obtain ⟨x, hx⟩ : ∃ x, x = b.take 100000 := ⟨_, rfl⟩
    have hxl : x.length ≤ 100000 := by rw [hx, List.length_take]; omega
    rw [← hx] at HL
    have H0 := Lib.hid HL
    clear HL hx
    go_enter Try.func3, Try.ntmps3
    go_wp2_with fail
    refine H0.out.mono ?_
    rintro e w' ⟨rfl, hV, rfl⟩
    have HV := Lib.hid hV
    have H1 := Lib.hid (cut_any A _ c x mtu w _ hV)
    have hz : ∃ r, r = cutSpec x mtu := ⟨_, rfl⟩
    obtain ⟨r, hr⟩ := hz
    rw [← hr] at H1
    have HR := Lib.hid hr
    clear hV hr H0
    go_wp2_with fail
    refine H1.out.mono ?_
    rintro e w1 ⟨v1, rfl, hN, hb1⟩
    have HB1 := Lib.hid hb1
    have HN := Lib.hid hN
    have h2 := refcut_any A _ c x mtu w1 _ (Kd.V_below HV.out hb1) (by omega)
    rw [← HR.out] at h2
    have H2 := Lib.hid h2
    clear hN hb1 H1 h2
    go_wp2_with fail
    refine H2.out.mono ?_
    rintro e w2 ⟨v2, rfl, hV2, hb2⟩
    have HB2 := Lib.hid hb2
    have HN2 := Lib.hid (Kd.N_V (base' := 0) (Kd.N_below HN.out hb2))
    have HV2 := Lib.hid hV2
    clear hV2 hb2 H2
    obtain ⟨A1, c1, rfl⟩ := Kd.V_slice HN2.out
    obtain ⟨A2, c2, rfl⟩ := Kd.V_slice HV2.out
    go_wp2_with fail
    refine (same_true A1 A2 _ _ c1 c2 _ w2 _ _ HN2.out HV2.out).mono ?_
    rintro e w3 ⟨rfl, hd⟩
    have HB3 := Lib.hid hd.below
    clear hd
    go_wp2_with fail
    refine (alive_any _).mono ?_
    rintro e w4 ⟨rfl, hb4⟩
    have HB4 := Lib.hid hb4
    clear hb4
    go_wp2_with fail
    go_ret
    have b2 := below_then HB1.out HB1.out.size HB2.out
    have b3 := below_then b2 b2.size HB3.out
    exact ⟨rfl, below_then b3 b3.size HB4.out⟩
end Go.Proofs.Ytleomcilhhdngaa
