/- Plain law: the words of elements. -/
import Derived.Test.YtgekpnbgmbbbdaaDoorCr4
import Derived.Test.YtgekpnbgmbbbdaaDoorCt2
namespace Go.Proofs.YtgekpnbgmbbbdaaDoor
open Go
theorem u8_inj {x y : Nat} (hx : x < 10) (hy : y < 10) (h : UInt8.ofNat (48 + x) = UInt8.ofNat (48 + y)) : x = y := by
  have := congrArg UInt8.toNat h
  simp at this
  omega
theorem dec_inj {a b : Nat} (ha : a < 100) (hb : b < 100) (h : Lib.decDigits a = Lib.decDigits b) : a = b := by
  by_cases h1 : a < 10 <;> by_cases h2 : b < 10
  · rw [Lib.decDigits_one h1, Lib.decDigits_one h2, List.cons.injEq] at h
    exact u8_inj h1 h2 h.1
  · rw [Lib.decDigits_one h1, Lib.decDigits_two h2 hb] at h
    simp at h
  · rw [Lib.decDigits_two h1 ha, Lib.decDigits_one h2] at h
    simp at h
  · rw [Lib.decDigits_two h1 ha, Lib.decDigits_two h2 hb, List.cons.injEq, List.cons.injEq] at h
    have e1 := u8_inj (by omega) (by omega) h.1
    have e2 := u8_inj (by omega) (by omega) h.2.1
    omega
theorem u8_digit {x : Nat} (hx : x < 10) : (UInt8.ofNat (48 + x)).toNat = 48 + x := by simp; omega
theorem dec_mem {a : Nat} (ha : a < 100) {b : UInt8} (h : b ∈ Lib.decDigits a) : 48 ≤ b.toNat ∧ b.toNat ≤ 57 := by
  by_cases h1 : a < 10
  · rw [Lib.decDigits_one h1, List.mem_singleton] at h
    rw [h, u8_digit h1]; omega
  · rw [Lib.decDigits_two h1 ha] at h
    rcases List.mem_cons.1 h with h | h
    · rw [h, u8_digit (by omega)]; omega
    · rw [List.mem_singleton] at h
      rw [h, u8_digit (by omega)]; omega
theorem dec_ne {a : Nat} (ha : a < 100) : Lib.decDigits a ≠ [] := by
  by_cases h1 : a < 10
  · rw [Lib.decDigits_one h1]; simp
  · rw [Lib.decDigits_two h1 ha]; simp
theorem word_ne {t n : Nat} (ht : t ≤ 62) : wordL t n ≠ [] := by
  unfold wordL
  split
  · simp
  · exact dec_ne (by omega)
theorem word_mem {t n : Nat} (ht : t ≤ 62) {b : UInt8} (h : b ∈ wordL t n) : b ≠ 44 ∧ b ≠ 125 ∧ b ≠ 123 := by
  have hb : (48 ≤ b.toNat ∧ b.toNat ≤ 57) ∨ b.toNat = 62 := by
    unfold wordL at h
    split at h
    · rcases List.mem_cons.1 h with h | h
      · right; rw [h]; rfl
      · exact .inl (dec_mem (by omega) h)
    · exact .inl (dec_mem (by omega) h)
  refine ⟨?_, ?_, ?_⟩ <;> (intro he; rw [he] at hb; simp at hb)
theorem word_inj {t a b : Nat} (ht : t ≤ 62) (ha : a ≤ t + 1) (hb : b ≤ t + 1) (h : wordL t a = wordL t b) : a = b := by
  unfold wordL at h
  by_cases h1 : t < a <;> by_cases h2 : t < b
  · omega
  · rw [if_pos h1, if_neg h2] at h
    have : (62 : UInt8) ∈ Lib.decDigits b := by rw [← h]; simp
    have := dec_mem (by omega) this
    simp at this
  · rw [if_neg h1, if_pos h2] at h
    have : (62 : UInt8) ∈ Lib.decDigits a := by rw [h]; simp
    have := dec_mem (by omega) this
    simp at this
  · rw [if_neg h1, if_neg h2] at h
    exact dec_inj (by omega) (by omega) h
theorem more_iff {t lo : Nat} {q : List UInt8} : ∀ d, moreD t lo q d = true ↔ ∃ n, lo ≤ n ∧ n < lo + d ∧ q <+: wordL t n
  | 0 => by simp [moreD]; omega
  | d + 1 => by
    rw [moreD, Bool.or_eq_true, more_iff d, Lib.hasPrefix, List.isPrefixOf_iff_prefix]
    constructor
    · rintro (⟨n, h1, h2, h3⟩ | h)
      · exact ⟨n, h1, by omega, h3⟩
      · exact ⟨lo + d, by omega, by omega, h⟩
    · rintro ⟨n, h1, h2, h3⟩
      by_cases h : n = lo + d
      · subst h; exact .inr h3
      · exact .inl ⟨n, h1, by omega, h3⟩
theorem whole_at {t lo : Nat} (ht : t ≤ 62) {n : Nat} : ∀ d, lo + d ≤ t + 2 → lo ≤ n → n < lo + d → wholeD t lo (wordL t n) d = n
  | 0, _, h1, h2 => by omega
  | d + 1, h0, h1, h2 => by
    rw [wholeD]
    by_cases h : wordL t (lo + d) = wordL t n
    · rw [if_pos h, word_inj ht (by omega) (by omega) h]
    · rw [if_neg h]
      refine whole_at ht d (by omega) h1 ?_
      by_cases h3 : n = lo + d
      · rw [h3] at h; exact absurd rfl h
      · omega
/-- What comes of an element. -/
structure ElSpec (t lo : Nat) (d : List UInt8) (j : Nat) (r : Nat × Int) : Prop where
  ge : j ≤ r.1
  le : r.1 ≤ d.length
  good : ∀ q, j < q → q ≤ r.1 → ∃ n, lo ≤ n ∧ n ≤ t + 1 ∧ d.take q <+: wordL t n
  bad : r.1 < d.length → ¬ ∃ n, lo ≤ n ∧ n ≤ t + 1 ∧ d.take (r.1 + 1) <+: wordL t n
  whole : r.2 = wholeD t lo (d.take r.1) (t + 2 - lo)
theorem elemG_spec (t lo : Nat) (d : List UInt8) (hlo : lo ≤ t + 2) : ∀ f j, f + j = d.length → ElSpec t lo d j (elemG t lo d f j)
  | 0, j, h => ⟨Nat.le_refl _, by show j ≤ _; omega, fun q h1 h2 => by have h2' : q ≤ j := h2; omega, fun h1 => by have h1' : j < d.length := h1; omega, rfl⟩
  | f + 1, j, h => by
    rw [elemG]
    by_cases hm : moreD t lo (d.take (j + 1)) (t + 2 - lo) = true
    · rw [if_pos hm]
      have h1 := elemG_spec t lo d hlo f (j + 1) (by omega)
      refine ⟨by have := h1.ge; omega, h1.le, fun q h2 h3 => ?_, h1.bad, h1.whole⟩
      by_cases hq : q = j + 1
      · subst hq
        obtain ⟨n, h4, h5, h6⟩ := (more_iff _).1 hm
        exact ⟨n, h4, by omega, h6⟩
      · exact h1.good q (by omega) h3
    · rw [if_neg hm]
      refine ⟨Nat.le_refl _, by show j ≤ _; omega, fun q h1 h2 => by have h2' : q ≤ j := h2; omega, fun _ => ?_, rfl⟩
      rintro ⟨n, h4, h5, h6⟩
      exact hm ((more_iff _).2 ⟨n, h4, by omega, h6⟩)
theorem elemF_spec (t lo : Nat) (d : List UInt8) (hlo : lo ≤ t + 2) : ElSpec t lo d 0 (elemF t lo d) := elemG_spec t lo d hlo _ 0 rfl
/-- A word and a sign behind it. -/
theorem elemF_word {t lo i : Nat} (ht : t ≤ 62) (h1 : lo ≤ i) (h2 : i ≤ t + 1) {b : UInt8} (hb : b = 44 ∨ b = 125) (X : List UInt8) : elemF t lo (wordL t i ++ b :: X) = ((wordL t i).length, (i : Int)) := by
  have h := elemF_spec t lo (wordL t i ++ b :: X) (by omega)
  generalize elemF t lo (wordL t i ++ b :: X) = r at h
  have hJ : r.1 = (wordL t i).length := by
    rcases Nat.lt_trichotomy r.1 (wordL t i).length with h3 | h3 | h3
    · exfalso
      refine h.bad (by rw [List.length_append]; omega) ⟨i, h1, h2, ?_⟩
      rw [List.take_append_of_le_length (by omega)]
      exact List.take_prefix _ _
    · exact h3
    · exfalso
      obtain ⟨n, _, _, h6⟩ := h.good ((wordL t i).length + 1) (by omega) (by omega)
      rw [List.take_length_add_append] at h6
      have : b ∈ wordL t n := h6.subset (by simp)
      have := word_mem ht this
      rcases hb with hb | hb
      · exact this.1 hb
      · exact this.2.1 hb
  have hW := h.whole
  rw [hJ, List.take_append_of_le_length (Nat.le_refl _), List.take_length, whole_at ht _ (by omega) h1 (by omega)] at hW
  exact Prod.ext hJ hW
/-- The text behind an element. -/
def tailT (t : Nat) : List Nat → List UInt8
  | [] => [125]
  | n :: l => 44 :: (wordL t n ++ tailT t l)
theorem tailT_cons (t : Nat) (l : List Nat) : ∃ b X, tailT t l = b :: X ∧ (b = 44 ∨ b = 125) := by
  cases l with
  | nil => exact ⟨125, [], rfl, .inr rfl⟩
  | cons n l => exact ⟨44, _, rfl, .inl rfl⟩
theorem readG_text {t : Nat} (ht : t ≤ 62) (D : List UInt8) : ∀ (l : List Nat) (f lo k c i : Nat), D.drop k = wordL t i ++ tailT t l → lo ≤ i → (i :: l).Pairwise (· < ·) → (∀ x ∈ i :: l, x ≤ t + 1) → l.length < f →
    readG t D f lo k c = (l.foldl (fun c n => c ||| on t n) (c ||| on t i), 0, 0)
  | l, 0, _, _, _, _, _, _, _, _, hf => by omega
  | [], f + 1, lo, k, c, i, hd, hlo, _, hle, _ => by
    have hi := hle i (by simp)
    rw [readG, hd, show tailT t [] = 125 :: [] from rfl, elemF_word ht hlo hi (.inr rfl)]
    have hlen : D.length = k + (wordL t i).length + 1 := by
      have h1 := congrArg List.length hd
      rw [List.length_drop, List.length_append, show (tailT t []).length = 1 from rfl] at h1
      omega
    have hat : D[k + (wordL t i).length]? = some 125 := by
      have h1 : (D.drop k)[(wordL t i).length]? = some 125 := by rw [hd, List.getElem?_append_right (Nat.le_refl _)]; simp [tailT]
      rwa [List.getElem?_drop] at h1
    rw [if_neg (by show ¬ ((i : Int) < 0); omega)]
    simp only [hat]
    rw [if_pos trivial, if_neg (by omega)]
    simp
  | n :: l, f + 1, lo, k, c, i, hd, hlo, hp, hle, hf => by
    have hi := hle i (by simp)
    have hn := hle n (by simp)
    have hin : i < n := List.rel_of_pairwise_cons hp (by simp)
    rw [readG, hd, show tailT t (n :: l) = 44 :: (wordL t n ++ tailT t l) from rfl, elemF_word ht hlo hi (.inl rfl)]
    have hat : D[k + (wordL t i).length]? = some 44 := by
      have h1 : (D.drop k)[(wordL t i).length]? = some 44 := by rw [hd, List.getElem?_append_right (Nat.le_refl _)]; simp [tailT]
      rwa [List.getElem?_drop] at h1
    have hnx : D.drop (k + (wordL t i).length + 1) = wordL t n ++ tailT t l := by
      have h1 : (D.drop k).drop ((wordL t i).length + 1) = wordL t n ++ tailT t l := by
        rw [hd, show tailT t (n :: l) = [44] ++ (wordL t n ++ tailT t l) from rfl, ← List.append_assoc]
        have : (wordL t i ++ [44]).length = (wordL t i).length + 1 := by simp
        rw [← this, List.drop_left]
      rw [List.drop_drop] at h1
      rw [← h1]; congr 1
    rw [if_neg (by show ¬ ((i : Int) < 0); omega)]
    simp only [hat]
    rw [if_neg (by decide), if_pos ⟨trivial, by omega⟩, Int.toNat_natCast]
    rw [readG_text ht D l f (i + 1) _ (c ||| on t i) n hnx (by omega) (List.Pairwise.of_cons hp) (fun x hx => hle x (List.mem_cons_of_mem _ hx)) (by rw [List.length_cons] at hf; omega)]
    rfl
/-- A set's elements below k. -/
def elsN (c : Nat) : Nat → List Nat
  | 0 => []
  | k + 1 => elsN c k ++ (if isin c k then [k] else [])
theorem elsI_elsN (c : Nat) : ∀ k, elsI c k = (elsN c k).map (fun n : Nat => (n : Int))
  | 0 => rfl
  | k + 1 => by
    rw [elsI, elsN, elsI_elsN c k, List.map_append]
    split <;> rfl
theorem mem_elsN {c i : Nat} : ∀ k, i ∈ elsN c k ↔ i < k ∧ isin c i = true
  | 0 => by simp [elsN]
  | k + 1 => by
    rw [elsN, List.mem_append, mem_elsN k]
    constructor
    · rintro (⟨h1, h2⟩ | h)
      · exact ⟨by omega, h2⟩
      · split at h
        · rename_i h3
          rw [List.mem_singleton] at h
          subst h; exact ⟨by omega, h3⟩
        · simp at h
    · rintro ⟨h1, h2⟩
      by_cases h3 : i = k
      · subst h3; rw [if_pos h2]; exact .inr (by simp)
      · exact .inl ⟨by omega, h2⟩
theorem elsN_sorted (c : Nat) : ∀ k, (elsN c k).Pairwise (· < ·)
  | 0 => List.Pairwise.nil
  | k + 1 => by
    rw [elsN, List.pairwise_append]
    refine ⟨elsN_sorted c k, by split <;> simp, fun a ha b hb => ?_⟩
    have h1 := (mem_elsN k).1 ha
    split at hb
    · rw [List.mem_singleton] at hb; omega
    · simp at hb
theorem orL_elsN {t c : Nat} (h : may t c = true) : orL t (elsN c (t + 2)) = c := by
  apply eq_bits
  intro j
  rw [orL_bit]
  constructor
  · rintro ⟨n, hn, h1⟩
    obtain ⟨h2, h3⟩ := (mem_elsN _).1 hn
    rw [Nat.min_eq_left (by omega)] at h1
    subst h1; exact h3
  · intro hj
    have := may_bit h hj
    exact ⟨j, (mem_elsN _).2 ⟨by omega, hj⟩, Nat.min_eq_left this⟩
theorem tail_join (t : Nat) : ∀ l : List Nat, Lib.joinTail [44] (l.map (wordL t)) ++ [125] = tailT t l
  | [] => by simp [Lib.joinTail, tailT]
  | n :: l => by
    have h := tail_join t l
    unfold Lib.joinTail at *
    rw [List.map_cons, List.map_cons, List.flatten_cons, List.append_assoc, h, tailT]
    simp
theorem text_form (t i : Nat) (l : List Nat) : textL t ((i :: l).map (fun n : Nat => (n : Int))) = 123 :: (wordL t i ++ tailT t l) := by
  have h1 : ((wordsB t ((i :: l).map (fun n : Nat => (n : Int)))).map (·.data.toList)) = wordL t i :: l.map (wordL t) := by
    simp [wordsB, wordB, List.map_map]
  unfold textL
  rw [h1, Lib.join_cons, List.append_assoc, tail_join]
/-- A set's text is read as the set. -/
theorem read_text {m c : Nat} (hm : m ≤ 62) (hc : may m c = true) : readF m (textL m (elsI c (m + 2))) = (c, 0, 0) := by
  have ho := orL_elsN hc
  have hs := elsN_sorted c (m + 2)
  have hmem := fun x (hx : x ∈ elsN c (m + 2)) => ((mem_elsN (m + 2)).1 hx).1
  rw [elsI_elsN]
  cases hL : elsN c (m + 2) with
  | nil =>
    rw [hL] at ho
    exact absurd ho.symm (may_nz hc)
  | cons i l =>
    rw [hL] at ho hs hmem
    rw [text_form]
    unfold readF
    rw [if_pos (bnd_of hm), if_pos (show (123 :: (wordL m i ++ tailT m l))[0]? = some 123 from rfl), Int.toNat_natCast]
    rw [readG_text hm _ l _ 0 1 0 i rfl (Nat.zero_le _) hs (fun x hx => by have := hmem x hx; omega)]
    · have : l.foldl (fun c n => c ||| on m n) (0 ||| on m i) = c := by
        rw [← ho]; rfl
      rw [this]
    · have : ∀ l : List Nat, l.length < (tailT m l).length := by
        intro l
        induction l with
        | nil => simp [tailT]
        | cons n l ih => rw [tailT, List.length_cons, List.length_cons, List.length_append]; omega
      have := this l
      rw [List.length_cons, List.length_append]
      omega
end Go.Proofs.YtgekpnbgmbbbdaaDoor
