/- Cubes as diagrams. No program. -/
import Derived.Test.YtbglnddjhlefnaaPc
namespace Go.Proofs.Ytbglnddjhlefnaa
/-- The number of a cube's letters from bit i on: none, if a letter is none. -/
def cubeG (N : List Nd) : List UInt8 → Nat → Option Nat × List Nd
  | [], _ => (some 1, N)
  | c :: s, i =>
    match cubeG N s (i + 1) with
    | (none, N1) => (none, N1)
    | (some a, N1) => if c = 48 then (some (mkN N1 i a 0).1, (mkN N1 i a 0).2) else if c = 49 then (some (mkN N1 i 0 a).1, (mkN N1 i 0 a).2) else if c = 120 then (some a, N1) else (none, N1)
/-- Does a header fit a cube's letters from bit i on? -/
def fits : List UInt8 → Nat → Hd → Bool
  | [], _, _ => true
  | c :: s, i, h => (if c = 48 then !h i else if c = 49 then h i else true) && fits s (i + 1) h
structure CubeOk (bits : Nat) (N : List Nd) (s : List UInt8) (i : Nat) (x : Option Nat × List Nd) : Prop where
  pre : N <+: x.2
  wf : WF bits x.2
  val : ∀ a, x.1 = some a → Val x.2 a ∧ i ≤ bitOf bits x.2 a ∧ ∀ h, sem x.2 a h = fits s i h
  new : x.2.length ≤ N.length + s.length
theorem mkN_len (N : List Nd) (b l h : Nat) : (mkN N b l h).2.length ≤ N.length + 1 := by
  unfold mkN
  split
  · simp
  · split
    · simp
    · simp
theorem val0 (N : List Nd) : Val N 0 := by unfold Val; omega
theorem val1 (N : List Nd) : Val N 1 := by unfold Val; omega
theorem cubeG_ok {bits : Nat} {N : List Nd} (w : WF bits N) : ∀ (s : List UInt8) (i : Nat), i + s.length ≤ bits → CubeOk bits N s i (cubeG N s i) := by
  intro s
  induction s with
  | nil =>
    intro i hi
    refine ⟨List.prefix_refl _, w, ?_, by simp [cubeG]⟩
    intro a ha
    simp only [cubeG, Option.some.injEq] at ha
    subst ha
    exact ⟨val1 _, by rw [bitOf_end (by omega)]; simpa using hi, fun h => by rw [sem_one]; rfl⟩
  | cons c s ih =>
    intro i hi
    rw [List.length_cons] at hi
    have h0 := ih (i + 1) (by omega)
    rw [cubeG]
    generalize cubeG N s (i + 1) = x at h0
    obtain ⟨o, N1⟩ := x
    cases o with
    | none => exact ⟨h0.pre, h0.wf, (fun a ha => by cases ha), by have := h0.new; rw [List.length_cons]; simp only at this ⊢; omega⟩
    | some a =>
      obtain ⟨v1, v2, v3⟩ := h0.val a rfl
      have hw : WF bits N1 := h0.wf
      have hp : N <+: N1 := h0.pre
      have hn := h0.new
      simp only at v1 v2 v3 hn ⊢
      have hb0 : i < bitOf bits N1 0 := by rw [bitOf_end (by omega)]; omega
      by_cases c0 : c = 48
      · rw [if_pos c0]
        refine ⟨hp.trans (mkN_pre _ _ _), mkN_wf hw (by omega) v1 (val0 _) (by omega) hb0, ?_, ?_⟩
        · intro b hb
          simp only [Option.some.injEq] at hb
          subst hb
          refine ⟨mkN_val v1, mkN_bit (by omega), fun h => ?_⟩
          rw [mkN_sem hw (by omega) v1 (val0 _) (by omega) hb0, v3, sem_zero, fits, if_pos c0]
          cases h i <;> simp
        · have := mkN_len N1 i a 0
          rw [List.length_cons]
          simp only at this ⊢
          omega
      rw [if_neg c0]
      by_cases c1 : c = 49
      · rw [if_pos c1]
        refine ⟨hp.trans (mkN_pre _ _ _), mkN_wf hw (by omega) (val0 _) v1 hb0 (by omega), ?_, ?_⟩
        · intro b hb
          simp only [Option.some.injEq] at hb
          subst hb
          refine ⟨mkN_val (val0 _), mkN_bit hb0, fun h => ?_⟩
          rw [mkN_sem hw (by omega) (val0 _) v1 hb0 (by omega), v3, sem_zero, fits, if_neg c0, if_pos c1]
          cases h i <;> simp
        · have := mkN_len N1 i 0 a
          rw [List.length_cons]
          simp only at this ⊢
          omega
      rw [if_neg c1]
      by_cases c2 : c = 120
      · rw [if_pos c2]
        refine ⟨hp, hw, ?_, by rw [List.length_cons]; simp only; omega⟩
        intro b hb
        simp only [Option.some.injEq] at hb
        subst hb
        exact ⟨v1, by show i ≤ bitOf bits N1 a; omega, fun h => by rw [v3, fits, if_neg c0, if_neg c1]; simp⟩
      · rw [if_neg c2]
        exact ⟨hp, hw, (fun a ha => by cases ha), by rw [List.length_cons]; simp only; omega⟩
/-- Is each letter one? -/
def lettersOk (s : List UInt8) : Bool := s.all (fun c => c == 48 || (c == 49 || c == 120))
theorem cubeG_some (N : List Nd) : ∀ (s : List UInt8) (i : Nat), (cubeG N s i).1.isSome = lettersOk s := by
  intro s
  induction s with
  | nil => intro i; rfl
  | cons c s ih =>
    intro i
    have h0 := ih (i + 1)
    rw [cubeG]
    unfold lettersOk at h0 ⊢
    rw [List.all_cons, ← h0]
    generalize cubeG N s (i + 1) = x
    obtain ⟨o, N1⟩ := x
    cases o with
    | none => simp
    | some a =>
      simp only
      by_cases c0 : c = 48
      · simp [c0]
      by_cases c1 : c = 49
      · simp [c1]
      by_cases c2 : c = 120
      · simp [c2]
      · simp [c0, c1, c2]
end Go.Proofs.Ytbglnddjhlefnaa
