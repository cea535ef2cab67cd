/- Plain law: what Read reads is what the document reads. -/
import Derived.Test.YtgekpnbgmbbbdaaDoorCx3
namespace Go.Proofs.YtgekpnbgmbbbdaaDoor
open Go
theorem scan_iff {t : Nat} {rec : List UInt8 → Nat → Bool} {d : List UInt8} {lo : Nat} : ∀ n, scanF t rec d lo n = true ↔ ∃ i, lo ≤ i ∧ i < lo + n ∧ hitF t rec d i = true
  | 0 => by simp [scanF]; omega
  | n + 1 => by
    rw [scanF, Bool.or_eq_true, scan_iff n]
    constructor
    · rintro (⟨i, h1, h2, h3⟩ | h)
      · exact ⟨i, h1, by omega, h3⟩
      · exact ⟨lo + n, by omega, by omega, h⟩
    · rintro ⟨i, h1, h2, h3⟩
      by_cases h : i = lo + n
      · subst h; exact .inr h3
      · exact .inl ⟨i, h1, by omega, h3⟩
theorem hit_iff {t : Nat} {rec : List UInt8 → Nat → Bool} {d : List UInt8} {i : Nat} : hitF t rec d i = true ↔ d <+: wordL t i ∨ (wordL t i).length < d.length ∧ d.take (wordL t i).length = wordL t i ∧ rec (d.drop (wordL t i).length) (i + 1) = true := by
  unfold hitF
  rw [Bool.or_eq_true, Bool.and_eq_true, Bool.and_eq_true, Bool.and_eq_true, decide_eq_true_eq, decide_eq_true_eq, decide_eq_true_eq, decide_eq_true_eq, List.prefix_iff_eq_take]
  constructor
  · rintro (⟨_, h⟩ | h)
    · exact .inl h.symm
    · exact .inr h
  · rintro (h | h)
    · refine .inl ⟨?_, h.symm⟩
      have := congrArg List.length h
      rw [List.length_take] at this
      omega
    · exact .inr h
theorem begF_sep {t f : Nat} {X : List UInt8} {n : Nat} (hX : X ≠ []) (h : begF t f X (n + 1) = true) : ∃ b Y, X = b :: Y ∧ (b = 44 ∨ b = 125) := by
  obtain ⟨b, Y, rfl⟩ := List.exists_cons_of_ne_nil hX
  refine ⟨b, Y, rfl, ?_⟩
  cases f with
  | zero => cases h
  | succ f =>
    rw [begF, if_neg hX, if_pos (by omega)] at h
    split at h
    · rename_i h1
      simp at h1
      exact .inr h1.1
    · split at h
      · rename_i h1
        simp at h1
        exact .inl h1
      · cases h
section
variable {t lo : Nat} {R : List UInt8} {r : Nat × Int}
/-- Up to the element's end: the beginning of a word. -/
theorem scan_el (hE : ElSpec t lo R 0 r) (hlo : lo ≤ t + 2) (f p : Nat) (h0 : 0 < p) (hp : p ≤ r.1) : scanF t (begF t f) (R.take p) lo (t + 2 - lo) = true := by
  obtain ⟨n, h1, h2, h3⟩ := hE.good p h0 hp
  exact (scan_iff _).2 ⟨n, h1, by omega, hit_iff.2 (.inl h3)⟩
/-- Behind it: that word, and what the rest says. -/
theorem scan_out (ht : t ≤ 62) (hE : ElSpec t lo R 0 r) (hlo : lo ≤ t + 2) (f p : Nat) (hp : r.1 < p) (hpR : p ≤ R.length) (h : scanF t (begF t f) (R.take p) lo (t + 2 - lo) = true) :
    ∃ i, lo ≤ i ∧ i ≤ t + 1 ∧ wordL t i = R.take r.1 ∧ r.2 = (i : Int) ∧ begF t f ((R.take p).drop r.1) (i + 1) = true := by
  obtain ⟨i, h1, h2, h3⟩ := (scan_iff _).1 h
  have hbad := hE.bad (by omega)
  have hi : i ≤ t + 1 := by omega
  have hpl : (R.take p).length = p := by rw [List.length_take]; omega
  rcases hit_iff.1 h3 with h4 | ⟨h4, h5, h6⟩
  · exfalso
    exact hbad ⟨i, h1, hi, (List.take_prefix_take_left (by omega)).trans h4⟩
  · rw [hpl] at h4
    rw [List.take_take, Nat.min_eq_left (by omega)] at h5
    have hX : (R.take p).drop (wordL t i).length ≠ [] := by
      intro h0
      have := congrArg List.length h0
      rw [List.length_drop, hpl] at this
      simp at this
      omega
    obtain ⟨b, Y, hb, hsep⟩ := begF_sep hX h6
    have hat : R[(wordL t i).length]? = some b := by
      have : ((R.take p).drop (wordL t i).length)[0]? = some b := by rw [hb]; rfl
      rw [List.getElem?_drop, Nat.add_zero, List.getElem?_take, if_pos h4] at this
      exact this
    have hJ : (wordL t i).length = r.1 := by
      rcases Nat.lt_trichotomy (wordL t i).length r.1 with h7 | h7 | h7
      · exfalso
        obtain ⟨n, _, _, h8⟩ := hE.good r.1 (by omega) (Nat.le_refl _)
        have hm : b ∈ wordL t n := by
          refine h8.subset ?_
          refine List.mem_of_getElem? (i := (wordL t i).length) ?_
          rw [List.getElem?_take, if_pos h7]
          exact hat
        have := word_mem ht hm
        rcases hsep with hb9 | hb9
        · exact this.1 hb9
        · exact this.2.1 hb9
      · exact h7
      · exfalso
        refine hbad ⟨i, h1, hi, ?_⟩
        rw [← h5]
        exact List.take_prefix_take_left (by omega)
    rw [hJ] at h5 h6
    refine ⟨i, h1, hi, h5.symm, ?_, h6⟩
    have hw := hE.whole
    rw [h5, whole_at ht _ (by omega) h1 (by omega)] at hw
    exact hw
theorem scan_back (hlo : lo ≤ t + 2) (f p n : Nat) (h1 : lo ≤ n) (h2 : n ≤ t + 1) (hw : wordL t n = R.take r.1) (hp : r.1 < p) (hpR : p ≤ R.length) (h : begF t f ((R.take p).drop r.1) (n + 1) = true) :
    scanF t (begF t f) (R.take p) lo (t + 2 - lo) = true := by
  have hl : (wordL t n).length = r.1 := by rw [hw, List.length_take]; omega
  refine (scan_iff _).2 ⟨n, h1, by omega, hit_iff.2 (.inr ⟨?_, ?_, ?_⟩)⟩
  · rw [hl, List.length_take]; omega
  · rw [hl, List.take_take, Nat.min_eq_left (by omega), hw]
  · rw [hl]; exact h
end
end Go.Proofs.YtgekpnbgmbbbdaaDoor
