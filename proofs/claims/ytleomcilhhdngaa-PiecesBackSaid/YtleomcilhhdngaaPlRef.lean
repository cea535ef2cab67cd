/- The plain law of the reference's Cut: the function that was printed for it tells the pieces. -/
import Derived.Test.YtleomcilhhdngaaPPiecesCutx2
import Derived.Test.YtleomcilhhdngaaPlCut
namespace Go.Proofs.Ytleomcilhhdngaa
open Go.RowKit Go.Proofs.YtleomcilhhdngaaW.PrintWords Go.Proofs.YtleomcilhhdngaaW.PrintLast Go.Proofs.YtleomcilhhdngaaW.PrintMore
open Go.Proofs.Ytleomcilhhdngaa.PPiecesCut


theorem w_succ {i : Nat} (h : i ≤ 1000000) : wrap64 ((i : Int) + 1) = ((i + 1 : Nat) : Int) := by unfold wrap64; omega
theorem w_pred {p : Nat} (h : p ≤ 65535) : wrap64 ((p : Int) + 1 - 1) = (p : Int) := by unfold wrap64; omega
theorem w_last {m : Nat} (h1 : 1 ≤ m) (h : m ≤ 65536) : wrap64 ((m : Int) - 1) = ((m - 1 : Nat) : Int) := by unfold wrap64; omega
theorem w_mul {a b : Nat} (h : a * b ≤ 100000000) : wrap64 ((a : Int) * (b : Int)) = ((a * b : Nat) : Int) := by rw [← Int.natCast_mul]; unfold wrap64; omega
theorem w_many {n p : Nat} (hp1 : 1 ≤ p) (hp2 : p ≤ 65535) (hl : n ≤ 16777216) :
    wrap64 (Int.tdiv (wrap64 ((wrap64 ((n : Int) + ((p : Int) + 1))) - 2)) (wrap64 ((p : Int) + 1 - 1))) = (((n + p - 1) / p : Nat) : Int) := by
  rw [w_pred hp2, show wrap64 ((n : Int) + ((p : Int) + 1)) = (n : Int) + ((p : Int) + 1) from by unfold wrap64; omega,
    show wrap64 ((n : Int) + ((p : Int) + 1) - 2) = ((n + p - 1 : Nat) : Int) from by unfold wrap64; omega, Int.tdiv_eq_ediv_of_nonneg (by omega)]
  have h1 : ((n + p - 1 : Nat) : Int) / (p : Int) = (((n + p - 1) / p : Nat) : Int) := rfl
  have h2 : (n + p - 1) / p ≤ n + p - 1 := Nat.div_le_self _ _
  rw [h1]
  generalize (n + p - 1) / p = q at h2 ⊢
  unfold wrap64
  omega

theorem ref_l0 (b : List Int) (p : Nat) (hp1 : 1 ≤ p) (hp2 : p ≤ 65535) (hl : b.length ≤ 16777216) (hn : many b.length p ≤ 65536) : ∀ (d i k : Nat), i + d = many b.length p → 2 * d < k →
    milestoneref19_Cut.l0 k b ((p : Int) + 1) ((many b.length p : Nat) : Int) ((List.range i).map (pc b p (many b.length p))) (i : Int) = some (pcs b p, 0) := by
  intro d
  induction d with
  | zero =>
    intro i k hi hk
    obtain ⟨k, rfl⟩ : ∃ m, k = m + 1 := ⟨k - 1, by omega⟩
    simp only [milestoneref19_Cut.l0]
    rw [if_neg (by omega)]
    have : i = many b.length p := by omega
    rw [this]; rfl
  | succ d ih =>
    intro i k hi hk
    obtain ⟨k, rfl⟩ : ∃ m, k = m + 2 := ⟨k - 2, by omega⟩
    have hlast := many_last (len := b.length) (p := p) (i := i) hp1 (by omega)
    have hbef := many_before (len := b.length) (p := p) (i := i) hp1 (by omega)
    have hmul : (i + 1) * p = i * p + p := by rw [Nat.add_mul, Nat.one_mul]
    have hdl : (b.drop (i * p)).length = b.length - i * p := List.length_drop
    have hol : ((List.range i).map (pc b p (many b.length p))).length = i := by simp
    -- where a piece ends
    obtain ⟨tt, hto⟩ : ∃ tt : Nat, tt = min ((i + 1) * p) b.length := ⟨_, rfl⟩
    have hj : ∀ k', (if (((i + 1) * p : Nat) : Int) > (b.length : Int) then milestoneref19_Cut.j3 k' b ((p : Int) + 1) ((many b.length p : Nat) : Int) ((List.range i).map (pc b p (many b.length p))) (i : Int) (b.length : Int) else milestoneref19_Cut.j3 k' b ((p : Int) + 1) ((many b.length p : Nat) : Int) ((List.range i).map (pc b p (many b.length p))) (i : Int) (((i + 1) * p : Nat) : Int)) = milestoneref19_Cut.j3 k' b ((p : Int) + 1) ((many b.length p : Nat) : Int) ((List.range i).map (pc b p (many b.length p))) (i : Int) (tt : Int) := by
      intro k'
      split
      · rw [hto, Nat.min_eq_right (by omega)]
      · rw [hto, Nat.min_eq_left (by omega)]
    have hseg : (b.take tt).drop (i * p) = (b.drop (i * p)).take p := by
      rw [List.drop_take]
      rcases Nat.le_total ((i + 1) * p) b.length with h | h
      · rw [hto, Nat.min_eq_left h, hmul]; congr 1; omega
      · rw [hto, Nat.min_eq_right h, List.take_of_length_le (by rw [hdl]; omega), List.take_of_length_le (by rw [hdl]; omega)]
    have hrec := ih (i + 1) k (by omega) (by omega)
    have hsl : ((b.take tt).drop (i * p)).length ≤ b.length := by rw [List.length_drop, List.length_take]; omega
    simp only [milestoneref19_Cut.l0]
    rw [if_pos (by omega), w_succ (by omega), w_pred hp2, w_mul (by omega), hj]
    simp only [milestoneref19_Cut.j3, Option.bind_some]
    rw [w_succ (by omega), w_pred hp2, w_mul (by omega), w_last (many_pos _ _) hn]
    simp only [Int.toNat_natCast]
    have c1 : (0 : Int) ≤ ((i * p : Nat) : Int) := by omega
    have c2 : ((i * p : Nat) : Int) ≤ (tt : Int) := by omega
    have c3 : (tt : Int) ≤ (b.length : Int) := by omega
    have c5 : ((List.range i).map (pc b p (many b.length p))).length < 5864062014805 := by rw [hol]; omega
    have fin : ∀ h : Int, h = (if i = 0 then 1 else 0) + (if i + 1 = many b.length p then 2 else 0) →
        (if [h].length + ((b.take tt).drop (i * p)).length < 140737488355328 then (if ((List.range i).map (pc b p (many b.length p))).length < 5864062014805 then milestoneref19_Cut.l0 k b ((p : Int) + 1) ((many b.length p : Nat) : Int) ((List.range i).map (pc b p (many b.length p)) ++ [[h] ++ (b.take tt).drop (i * p)]) ((i + 1 : Nat) : Int) else none) else none) = some (pcs b p, 0) := by
      intro h hh
      rw [if_pos (by simp only [List.length_singleton]; omega), if_pos c5]
      have he : (List.range i).map (pc b p (many b.length p)) ++ [[h] ++ (b.take tt).drop (i * p)] = (List.range (i + 1)).map (pc b p (many b.length p)) := by
        rw [range_map_snoc]
        congr 2
        rw [hseg, hh]; rfl
      rw [he]
      exact hrec
    by_cases h0 : i = 0
    · rw [if_pos (by omega : (i : Int) = 0)]
      by_cases hq : i + 1 = many b.length p
      · rw [if_pos (by omega), if_pos c1, if_pos c2, if_pos c3]
        exact fin _ (by rw [if_pos h0, if_pos hq])
      · rw [if_neg (by omega), if_pos c1, if_pos c2, if_pos c3]
        exact fin _ (by rw [if_pos h0, if_neg hq]; rfl)
    · rw [if_neg (by omega : ¬ (i : Int) = 0)]
      by_cases hq : i + 1 = many b.length p
      · rw [if_pos (by omega), if_pos c1, if_pos c2, if_pos c3]
        exact fin _ (by rw [if_neg h0, if_pos hq])
      · rw [if_neg (by omega), if_pos c1, if_pos c2, if_pos c3]
        exact fin _ (by rw [if_neg h0, if_neg hq]; rfl)

theorem ref_main (b : List Int) (p : Nat) (hp1 : 1 ≤ p) (hp2 : p ≤ 65535) (hl : b.length ≤ 16777216) (hn : many b.length p ≤ 65536) :
    milestoneref19_Cut.f (2 * many b.length p + 3) b ((p : Int) + 1) = some (pcs b p, 0) := by
  have hm : ∀ k, milestoneref19_Cut.j1 (k + 1) b ((p : Int) + 1) ((many b.length p : Nat) : Int) = milestoneref19_Cut.l0 k b ((p : Int) + 1) ((many b.length p : Nat) : Int) [] 0 := by
    intro k
    simp only [milestoneref19_Cut.j1]
    rw [if_neg (by omega)]
  have hl0 := ref_l0 b p hp1 hp2 hl hn (many b.length p) 0 (2 * many b.length p + 1) (by omega) (by omega)
  unfold milestoneref19_Cut.f
  rw [if_neg (by omega), show decide ((p : Int) + 1 > 65536) = false from decide_eq_false (by omega)]
  simp only [milestoneref19_Cut.j0]
  rw [if_neg (by simp), if_neg (by omega), if_neg (by rw [w_pred hp2]; omega), w_many hp1 hp2 hl]
  obtain ⟨q, hq⟩ : ∃ q, q = (b.length + p - 1) / p := ⟨_, rfl⟩
  rw [← hq]
  have hmq : many b.length p = max 1 q := by rw [hq]; rfl
  clear hq
  by_cases h0 : q = 0
  · rw [if_pos (by omega)]
    have h1 : many b.length p = 1 := by omega
    have := hm (2 * many b.length p + 1)
    rw [h1] at this hl0 ⊢
    exact this.trans hl0
  · rw [if_neg (by omega)]
    have h1 : many b.length p = q := by omega
    have := hm (2 * many b.length p + 1)
    rw [h1] at this hl0 ⊢
    exact this.trans hl0

theorem ref_arg (b : List Int) (mtu : Int) (h : mtu < 2 ∨ 65536 < mtu) : milestoneref19_Cut.f 3 b mtu = some ([], 1) := by
  unfold milestoneref19_Cut.f
  by_cases h1 : mtu < 2
  · rw [if_pos h1]; simp only [milestoneref19_Cut.j0]; rfl
  · rw [if_neg h1, show decide (mtu > 65536) = true from decide_eq_true (by omega)]; simp only [milestoneref19_Cut.j0]; rfl
theorem ref_many (b : List Int) (p : Nat) (hp1 : 1 ≤ p) (hp2 : p ≤ 65535) (hl : b.length ≤ 16777216) (hn : 65536 < many b.length p) : milestoneref19_Cut.f 3 b ((p : Int) + 1) = some ([], 3) := by
  unfold milestoneref19_Cut.f
  rw [if_neg (by omega), show decide ((p : Int) + 1 > 65536) = false from decide_eq_false (by omega)]
  simp only [milestoneref19_Cut.j0]
  rw [if_neg (by simp), if_neg (by omega), if_neg (by rw [w_pred hp2]; omega), w_many hp1 hp2 hl]
  obtain ⟨q, hq⟩ : ∃ q, q = (b.length + p - 1) / p := ⟨_, rfl⟩
  rw [← hq]
  have hmq : many b.length p = max 1 q := by rw [hq]; rfl
  clear hq
  rw [if_neg (by omega)]
  simp only [milestoneref19_Cut.j1]
  rw [if_pos (by omega)]
end Go.Proofs.Ytleomcilhhdngaa
