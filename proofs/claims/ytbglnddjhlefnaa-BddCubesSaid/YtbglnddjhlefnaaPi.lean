/- The sum of a function's cubes, one after the other. No program. -/
import Derived.Test.YtbglnddjhlefnaaPh
namespace Go.Proofs.Ytbglnddjhlefnaa
section
variable {bits : Nat} {N : List Nd} {s c : Nat}
theorem choose_one (b c : Nat) : chooseF bits N 1 b c = (b, N, []) := by
  unfold chooseF
  rw [iteF, if_pos (.inl rfl)]
theorem choose_zero (c : Nat) : chooseF bits N 0 1 c = (c, N, []) := by
  unfold chooseF
  rw [iteF]
  by_cases h : (0 : Nat) = 1 ∨ 1 = c
  · rw [if_pos h]
    rcases h with h | h
    · cases h
    · rw [h]
  · rw [if_neg h, if_pos rfl]
theorem and_two : foldC bits true N 1 [s, c] = ((chooseF bits N s c 0).1, (chooseF bits N s c 0).2.1) := by
  rw [foldC, if_pos rfl, choose_one]
  rfl
theorem or_two : foldC bits false N 0 [s, c] = ((chooseF bits N s 1 c).1, (chooseF bits N s 1 c).2.1) := by
  rw [foldC, if_neg (by simp), choose_zero]
  rfl
/-- And of what is apart: no, and no node comes new. -/
theorem and_apart (w : WF bits N) (hs : Val N s) (hc : Val N c) (ha : ∀ h, ¬ (sem N s h = true ∧ sem N c h = true)) :
    (foldC bits true N 1 [s, c]).1 = 0 ∧ (foldC bits true N 1 [s, c]).2.length ≤ N.length := by
  rw [and_two]
  have O := chooseF_ok w hs hc (val0 N)
  generalize chooseF bits N s c 0 = r at O ⊢
  have hz : ∀ h, sem r.2.1 r.1 h = false := fun h => by
    rw [O.sem, sem_pre w O.pre O.wf s hs, sem_pre w O.pre O.wf c hc, sem_zero]
    have := ha h
    cases h1 : sem N s h
    · rfl
    · cases h2 : sem N c h
      · rfl
      · exact absurd ⟨h1, h2⟩ this
  refine ⟨canon O.wf O.val (val0 _) (fun h => by rw [hz, sem_zero]), ?_⟩
  have := count_new O.wf O.pre 0 (fun _ _ _ => false) (fun i hi hv => ?_)
  · simpa using this
  · exfalso
    obtain ⟨v, hv2⟩ := O.new i hi hv
    have := canon O.wf hv (val0 _) (fun h => by rw [hv2, hz, sem_zero])
    omega
theorem along_iff (v : Hd) (b : Nat) : ∀ (s : Txt) (i : Nat), along v b s i = true ↔ ∀ (k : Nat) (c : UInt8), s[k]? = some c → i + k < b → (c = 48 → v (i + k) = false) ∧ (c = 49 → v (i + k) = true)
  | [], i => by simp [along]
  | c :: s, i => by
    rw [along, Bool.and_eq_true, along_iff v b s (i + 1)]
    constructor
    · rintro ⟨h1, h2⟩ k d hk hb
      cases k with
      | zero =>
        simp at hk
        subst hk
        rw [Nat.add_zero] at hb ⊢
        rw [if_pos hb] at h1
        refine ⟨fun e => ?_, fun e => ?_⟩
        · rw [if_pos e] at h1; simpa using h1
        · rw [if_neg (by rw [e]; decide), if_pos e] at h1; exact h1
      | succ k =>
        have := h2 k d (by simpa using hk) (by omega)
        rw [show i + 1 + k = i + (k + 1) by omega] at this
        exact this
    · intro hk
      refine ⟨?_, fun k d hd hb => ?_⟩
      · by_cases hb : i < b
        · rw [if_pos hb]
          have := hk 0 c (by simp) (by omega)
          rw [Nat.add_zero] at this
          by_cases h0 : c = 48
          · rw [if_pos h0]; simpa using this.1 h0
          · rw [if_neg h0]
            by_cases h1 : c = 49
            · rw [if_pos h1]; exact this.2 h1
            · rw [if_neg h1]
        · rw [if_neg hb]
      · have := hk (k + 1) d (by simpa using hd) (by omega)
        rw [show i + (k + 1) = i + 1 + k by omega] at this
        exact this
/-- Are two texts the same below a bit? -/
def agree (b : Nat) (q p : Txt) : Bool := q.take b == p.take b
theorem agree_iff {b : Nat} {q p : Txt} : agree b q p = true ↔ ∀ k, k < b → q[k]? = p[k]? := by
  unfold agree
  rw [beq_iff_eq]
  constructor
  · intro h k hk
    have := congrArg (fun l => l[k]?) h
    simpa [List.getElem?_take, hk] using this
  · intro h
    apply List.ext_getElem?
    intro k
    rw [List.getElem?_take, List.getElem?_take]
    split
    · exact h k ‹_›
    · rfl
/-- Or of the ways so far and the next one: at each bit at most one node comes new. -/
theorem or_next (w : WF bits N) (hs : Val N s) (hc : Val N c) (P : List Txt) (p : Txt) (ho : ∀ q ∈ P, Bef q p) (h1 : ∀ h, sem N s h = P.any (fun q => fits q 0 h)) (h2 : ∀ h, sem N c h = fits p 0 h) :
    (foldC bits false N 0 [s, c]).2.length ≤ N.length + bits := by
  rw [or_two]
  have O := chooseF_ok w hs (val1 N) hc
  generalize chooseF bits N s 1 c = r at O ⊢
  have hr : ∀ h, sem r.2.1 r.1 h = (sem N s h || sem N c h) := fun h => by
    rw [O.sem, sem_pre w O.pre O.wf s hs, sem_pre w O.pre O.wf c hc, sem_one]
    cases sem N s h <;> simp
  have := count_new O.wf O.pre 1 (fun b _ h => P.any (fun q => agree b q p && fitsFrom b q 0 h) || fitsFrom b p 0 h) (fun i hi hv => ?_)
  · simpa using this
  · obtain ⟨v, hv2⟩ := O.new i hi hv
    have hv3 : ∀ h, sem r.2.1 i h = (sem N s (ovr v h (ndAt r.2.1 i).b) || sem N c (ovr v h (ndAt r.2.1 i).b)) := fun h => by rw [hv2, hr]; rfl
    generalize (ndAt r.2.1 i).b = b at hv3 ⊢
    cases ha : along v b p 0 with
    | false =>
      exfalso
      obtain ⟨r', hv4, hs4⟩ := sub_exists w v b s hs
      have := canon O.wf hv (hv4.pre O.pre) (fun h => by
        rw [hv3, sem_pre w O.pre O.wf r' hv4, hs4, h2, fits_ovr, ha]
        simp)
      unfold Val at hv4
      omega
    | true =>
      refine ⟨0, by omega, fun h => ?_⟩
      rw [hv3, h1, h2, fits_ovr, ha, Bool.true_and]
      congr 1
      rw [Bool.eq_iff_iff, List.any_eq_true, List.any_eq_true]
      have key : ∀ q ∈ P, along v b q 0 = agree b q p := by
        intro q hq
        obtain ⟨d, e1, e2, e3⟩ := ho q hq
        rw [Bool.eq_iff_iff, agree_iff]
        have hap := (along_iff v b p 0).1 ha
        constructor
        · intro hal k hk
          have haq := (along_iff v b q 0).1 hal
          rcases Nat.lt_or_ge k d with hkd | hkd
          · exact e1 k hkd
          · exfalso
            have f1 := (haq d 48 e2 (by omega)).1 rfl
            have f2 := (hap d 49 e3 (by omega)).2 rfl
            rw [f1] at f2
            cases f2
        · intro hag
          rw [along_iff]
          intro k x hk hb
          exact hap k x (by rw [← hag k (by omega)]; exact hk) hb
      constructor
      · rintro ⟨q, hq, hf⟩
        rw [fits_ovr, key q hq] at hf
        exact ⟨q, hq, hf⟩
      · rintro ⟨q, hq, hf⟩
        exact ⟨q, hq, by rw [fits_ovr, key q hq]; exact hf⟩
end
end Go.Proofs.Ytbglnddjhlefnaa
