/- Plain law: Read, whole. -/
import Derived.Test.YtgekpnbgmbbbdaaDoorPe1
namespace Go.Proofs.YtgekpnbgmbbbdaaDoor
open Go
theorem begF_one {t f : Nat} {b : UInt8} {n : Nat} : begF t (f + 1) [b] (n + 1) = true ↔ b = 125 ∨ b = 44 ∧ n ≤ t := by
  rw [begF, if_neg (by simp), if_pos (by omega)]
  by_cases h1 : b = 125
  · simp [h1]
  · by_cases h2 : b = 44
    · simp [h2]
    · simp [h1, h2]
theorem begF_close {t f : Nat} {b : UInt8} {Y : List UInt8} {n : Nat} : begF t (f + 1) (125 :: b :: Y) (n + 1) = false := by
  rw [begF, if_neg (by simp), if_pos (by omega)]
  simp
theorem begF_comma {t f : Nat} {Y : List UInt8} {n : Nat} (hY : Y ≠ []) : begF t (f + 1) (44 :: Y) (n + 1) = scanF t (begF t f) Y (n + 1) (t + 2 - (n + 1)) := by
  rw [begF, if_neg (by simp), if_pos (by omega)]
  simp [hY]
theorem via_run {t F : Nat} {D : List UInt8} {q : Nat} : ∀ n, q + n ≤ D.length → (∀ q', q < q' → q' ≤ q + n → BegT t F (D.take q') = true) → viaG t F D (D.length - q) q = viaG t F D (D.length - (q + n)) (q + n)
  | 0, _, _ => rfl
  | n + 1, h, hv => by
    rw [via_run n (by omega) (fun q' h1 h2 => hv q' h1 (by omega))]
    obtain ⟨g, hg⟩ : ∃ g, D.length - (q + n) = g + 1 := ⟨D.length - (q + n) - 1, by omega⟩
    rw [hg, viaG, if_pos (hv (q + n + 1) (by omega) (by omega))]
    rw [show D.length - (q + (n + 1)) = g by omega]
    rfl
theorem via_stop {t F : Nat} {D : List UInt8} {Q : Nat} (h : Q < D.length) (hv : BegT t F (D.take (Q + 1)) = false) : viaG t F D (D.length - Q) Q = Q := by
  obtain ⟨g, hg⟩ : ∃ g, D.length - Q = g + 1 := ⟨D.length - Q - 1, by omega⟩
  rw [hg, viaG, if_neg (by rw [hv]; simp)]
theorem via_end {t F : Nat} {D : List UInt8} {Q : Nat} (h : Q = D.length) : viaG t F D (D.length - Q) Q = Q := by rw [h, Nat.sub_self, viaG]
/-- What the document reads. -/
def RR (t F : Nat) (D : List UInt8) : Nat × Int × Int := if viaG t F D D.length 0 < D.length ∨ viaG t F D D.length 0 = 0 ∨ D[viaG t F D D.length 0 - 1]? ≠ some 125 then (0, ((viaG t F D D.length 0 : Nat) : Int), 21) else (parseG t D (D.length - 1) 1 1 0, 0, 0)
theorem RR_fault {t F : Nat} {D : List UInt8} {Q : Nat} (hv : viaG t F D D.length 0 = Q) (h : Q < D.length ∨ D[Q - 1]? ≠ some 125) : RR t F D = (0, ((Q : Nat) : Int), 21) := by
  unfold RR
  rw [hv, if_pos]
  rcases h with h | h
  · exact .inl h
  · exact .inr (.inr h)
theorem RR_ok {t F : Nat} {D : List UInt8} (hv : viaG t F D D.length 0 = D.length) (h0 : 0 < D.length) (h : D[D.length - 1]? = some 125) : RR t F D = (parseG t D (D.length - 1) 1 1 0, 0, 0) := by
  unfold RR
  rw [hv, if_neg]
  rintro (h1 | h1 | h1)
  · omega
  · omega
  · exact h1 h
theorem pick_word {t n : Nat} (ht : t ≤ 62) (hn : n ≤ t + 1) (c : Nat) : ∀ k, k ≤ t + 2 → pickG t (wordL t n) c k = if n < k then c ||| 2 ^ n else c
  | 0, _ => by rw [pickG, if_neg (by omega)]
  | k + 1, h => by
    rw [pickG, pick_word ht hn c k (by omega)]
    by_cases h1 : wordL t k = wordL t n
    · have := word_inj ht (by omega) hn h1
      subst this
      rw [if_pos rfl, if_neg (by omega), if_pos (by omega)]
    · rw [if_neg h1]
      have : n ≠ k := fun e => h1 (by rw [e])
      by_cases h2 : n < k
      · rw [if_pos h2, if_pos (by omega)]
      · rw [if_neg h2, if_neg (by omega)]
theorem parse_run {t : Nat} {D : List UInt8} {fr c i : Nat} : ∀ n, i + n ≤ D.length → (∀ q, i ≤ q → q < i + n → ∀ b, D[q]? = some b → b ≠ 44 ∧ b ≠ 125) → parseG t D (D.length - i) i fr c = parseG t D (D.length - (i + n)) (i + n) fr c
  | 0, _, _ => rfl
  | n + 1, h, hv => by
    rw [parse_run n (by omega) (fun q h1 h2 => hv q h1 (by omega))]
    obtain ⟨g, hg⟩ : ∃ g, D.length - (i + n) = g + 1 := ⟨D.length - (i + n) - 1, by omega⟩
    obtain ⟨b, hb⟩ : ∃ b, D[i + n]? = some b := ⟨_, List.getElem?_eq_getElem (by omega)⟩
    have := hv (i + n) (by omega) (by omega) b hb
    rw [hg, parseG, hb, if_neg (by simp [this.1, this.2])]
    rw [show D.length - (i + (n + 1)) = g by omega]
    rfl
theorem parse_sep {t : Nat} {D : List UInt8} {fr c i : Nat} {b : UInt8} (hb : D[i]? = some b) (hs : b = 44 ∨ b = 125) : parseG t D (D.length - i) i fr c = parseG t D (D.length - (i + 1)) (i + 1) (i + 1) (pickG t ((D.drop fr).take (i - fr)) c (t + 2)) := by
  have := (List.getElem?_eq_some_iff.1 hb).1
  obtain ⟨g, hg⟩ : ∃ g, D.length - i = g + 1 := ⟨D.length - i - 1, by omega⟩
  rw [hg, parseG, hb, if_pos (by rcases hs with h | h <;> simp [h]), show D.length - (i + 1) = g by omega]
/-- Where both stand, behind '{' or ','. -/
structure St (t F : Nat) (D : List UInt8) (k lo f c : Nat) : Prop where
  ge : 1 ≤ k
  le : k ≤ D.length
  lo_le : lo ≤ t + 1
  fuel : D.length - k + 1 ≤ f
  via : viaG t F D D.length 0 = viaG t F D (D.length - k) k
  sem : ∀ p, 0 < p → p ≤ (D.drop k).length → BegT t F (D.take (k + p)) = scanF t (begF t f) ((D.drop k).take p) lo (t + 2 - lo)
  last : D[k - 1]? ≠ some 125
  par : parseG t D (D.length - 1) 1 1 0 = parseG t D (D.length - k) k k c
theorem read_main {t F : Nat} (ht : t ≤ 62) {D : List UInt8} : ∀ f lo k c, St t F D k lo f c → readG t D f lo k c = RR t F D
  | 0, _, _, _, h => by have := h.fuel; omega
  | f + 1, lo, k, c, h => by
    have hlo2 : lo ≤ t + 2 := by have := h.lo_le; omega
    have hE := elemF_spec t lo (D.drop k) hlo2
    have hrl : (D.drop k).length = D.length - k := List.length_drop ..
    rw [readG]
    generalize elemF t lo (D.drop k) = r at hE
    obtain ⟨J, z⟩ := r
    have hJ : J ≤ D.length - k := by have := hE.le; rw [hrl] at this; exact this
    have hkl := h.le
    have hk1 := h.ge
    have hv1 : viaG t F D D.length 0 = viaG t F D (D.length - (k + J)) (k + J) := by
      rw [h.via]
      refine via_run J (by omega) (fun q' h1 h2 => ?_)
      obtain ⟨p, rfl⟩ := Nat.exists_eq_add_of_lt h1
      rw [show k + p + 1 = k + (p + 1) by omega, h.sem (p + 1) (by omega) (by omega)]
      exact scan_el hE hlo2 (f + 1) (p + 1) (by omega) (by show p + 1 ≤ J; omega)
    have hchar : ∀ q, k ≤ q → q < k + J → ∀ b, D[q]? = some b → b ≠ 44 ∧ b ≠ 125 := by
      intro q h1 h2 b hb
      obtain ⟨n, _, _, h8⟩ := hE.good J (by omega) (Nat.le_refl _)
      have hm : b ∈ wordL t n := by
        refine h8.subset ?_
        refine List.mem_of_getElem? (i := q - k) ?_
        rw [List.getElem?_take, if_pos (by omega), List.getElem?_drop, show k + (q - k) = q by omega]
        exact hb
      have := word_mem ht hm
      exact ⟨this.1, this.2.1⟩
    have hlast : D[k + J - 1]? ≠ some 125 := by
      rcases Nat.eq_zero_or_pos J with h0 | h0
      · rw [h0]; exact h.last
      · intro hb
        exact (hchar (k + J - 1) (by omega) (by omega) 125 hb).2 rfl
    simp only
    by_cases hz : z < 0
    · rw [if_pos hz]
      rcases Nat.lt_or_ge (k + J) D.length with hl | hl
      · have hst : BegT t F (D.take (k + J + 1)) = false := by
          rw [show k + J + 1 = k + (J + 1) by omega, h.sem (J + 1) (by omega) (by omega)]
          cases hsc : scanF t (begF t (f + 1)) ((D.drop k).take (J + 1)) lo (t + 2 - lo) with
          | false => rfl
          | true =>
            obtain ⟨i, _, _, _, h5, _⟩ := scan_out ht hE hlo2 (f + 1) (J + 1) (by show J < J + 1; omega) (by omega) hsc
            have h5' : z = (i : Int) := h5
            omega
        exact (RR_fault (hv1.trans (via_stop hl hst)) (.inl hl)).symm
      · exact (RR_fault (hv1.trans (via_end (by omega))) (.inr hlast)).symm
    · rw [if_neg hz]
      obtain ⟨n, rfl, hn1, hn2, hw⟩ : ∃ n : Nat, z = n ∧ lo ≤ n ∧ n ≤ t + 1 ∧ wordL t n = (D.drop k).take J := by
        have hwz : z = wholeD t lo ((D.drop k).take J) (t + 2 - lo) := hE.whole
        rcases wholeD_range t lo ((D.drop k).take J) (t + 2 - lo) with h1 | ⟨n, h1, h2, h3, h4⟩
        · omega
        · exact ⟨n, by rw [hwz, h1], h2, by omega, h4⟩
      cases hb : D[k + J]? with
      | none =>
        rw [List.getElem?_eq_none_iff] at hb
        exact (RR_fault (hv1.trans (via_end (by omega))) (.inr hlast)).symm
      | some b =>
        have hl := (List.getElem?_eq_some_iff.1 hb).1
        have hsem : ∀ p, J < p → p ≤ (D.drop k).length → BegT t F (D.take (k + p)) = begF t (f + 1) (((D.drop k).take p).drop J) (n + 1) := by
          intro p h1 h2
          rw [h.sem p (by omega) h2]
          cases hsc : begF t (f + 1) (((D.drop k).take p).drop J) (n + 1) with
          | true => exact scan_back (r := (J, (n : Int))) hlo2 (f + 1) p n hn1 hn2 hw h1 h2 hsc
          | false =>
            cases hs2 : scanF t (begF t (f + 1)) ((D.drop k).take p) lo (t + 2 - lo) with
            | false => rfl
            | true =>
              obtain ⟨i, _, _, _, h5, h6⟩ := scan_out ht hE hlo2 (f + 1) p h1 h2 hs2
              have h5' : (n : Int) = (i : Int) := h5
              obtain rfl : n = i := by omega
              have h6' : begF t (f + 1) (((D.drop k).take p).drop J) (n + 1) = true := h6
              rw [hsc] at h6'; cases h6'
        have hX : ∀ p, ((D.drop k).take (J + 1 + p)).drop J = b :: (D.drop (k + J + 1)).take p := by
          intro p
          rw [List.drop_take, List.drop_drop, show J + 1 + p - J = p + 1 by omega, List.drop_eq_getElem_cons hl, List.take_succ_cons]
          congr 1
          exact (List.getElem?_eq_some_iff.1 hb).2
        have hone : BegT t F (D.take (k + J + 1)) = true ↔ b = 125 ∨ b = 44 ∧ n ≤ t := by
          rw [show k + J + 1 = k + (J + 1) by omega, hsem (J + 1) (by omega) (by omega), show J + 1 = J + 1 + 0 from rfl, hX 0, List.take_zero, begF_one]
        have hc2 : pickG t ((D.drop k).take J) c (t + 2) = c ||| on t n := by
          rw [← hw, pick_word ht hn2 c (t + 2) (Nat.le_refl _), if_pos (by omega)]
          unfold on
          rw [Nat.min_eq_left hn2]
        have hpar : b = 44 ∨ b = 125 → parseG t D (D.length - 1) 1 1 0 = parseG t D (D.length - (k + J + 1)) (k + J + 1) (k + J + 1) (c ||| on t n) := by
          intro hs
          rw [h.par, parse_run J (by omega) hchar, parse_sep hb hs, show k + J - k = J by omega, hc2]
        simp only
        rw [Int.toNat_natCast]
        by_cases hb1 : b = 125
        · have hv2 : viaG t F D D.length 0 = viaG t F D (D.length - (k + J + 1)) (k + J + 1) := by
            rw [hv1]
            exact via_run 1 (by omega) (fun q' h1 h2 => by rw [show q' = k + J + 1 by omega]; exact hone.2 (.inl hb1))
          rw [if_pos hb1]
          by_cases hl2 : k + J + 1 < D.length
          · rw [if_pos hl2]
            have hst : BegT t F (D.take (k + J + 1 + 1)) = false := by
              rw [show k + J + 1 + 1 = k + (J + 1 + 1) by omega, hsem (J + 1 + 1) (by omega) (by omega), hX 1, List.drop_eq_getElem_cons hl2, List.take_succ_cons, hb1, begF_close]
            exact (RR_fault (hv2.trans (via_stop hl2 hst)) (.inl hl2)).symm
          · rw [if_neg hl2]
            have hD : k + J + 1 = D.length := by omega
            have hv3 : viaG t F D D.length 0 = D.length := hv2.trans ((via_end hD).trans hD)
            rw [RR_ok hv3 (by omega) (by rw [← hD, show k + J + 1 - 1 = k + J by omega, hb, hb1]), hpar (.inr hb1), hD, Nat.sub_self, parseG]
        · rw [if_neg hb1]
          by_cases hb2 : b = 44 ∧ (n : Int) ≤ (t : Int)
          · rw [if_pos hb2]
            refine read_main ht f (n + 1) (k + J + 1) (c ||| on t n) ⟨by omega, by omega, by omega, by have := h.fuel; omega, ?_, ?_, ?_, hpar (.inl hb2.1)⟩
            · rw [hv1]
              exact via_run 1 (by omega) (fun q' h1 h2 => by rw [show q' = k + J + 1 by omega]; exact hone.2 (.inr ⟨hb2.1, by omega⟩))
            · intro p h1 h2
              rw [List.length_drop] at h2
              rw [show k + J + 1 + p = k + (J + 1 + p) by omega, hsem (J + 1 + p) (by omega) (by omega), hX p, hb2.1, begF_comma]
              intro h0
              have := congrArg List.length h0
              rw [List.length_take, List.length_drop] at this
              simp at this
              omega
            · rw [show k + J + 1 - 1 = k + J by omega, hb]
              intro h0
              exact hb1 (Option.some.inj h0)
          · rw [if_neg hb2]
            have hst : BegT t F (D.take (k + J + 1)) = false := by
              cases hq : BegT t F (D.take (k + J + 1)) with
              | false => rfl
              | true =>
                rcases hone.1 hq with h9 | h9
                · exact absurd h9 hb1
                · exact absurd ⟨h9.1, by omega⟩ hb2
            exact (RR_fault (hv1.trans (via_stop hl hst)) (.inl hl)).symm
end Go.Proofs.YtgekpnbgmbbbdaaDoor
