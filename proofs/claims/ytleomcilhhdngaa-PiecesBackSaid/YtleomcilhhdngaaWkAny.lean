/- Both Puts, of every piece, in one form. -/
import Derived.Test.YtleomcilhhdngaaWkNew
namespace Go.Proofs.Ytleomcilhhdngaa
open Go.RowKit Go.Proofs.YtleomcilhhdngaaW.PrintWords Go.Proofs.YtleomcilhhdngaaW.PrintLast Go.Proofs.YtleomcilhhdngaaW.PrintMore
theorem wf_u8 {x : Int} (h : (Lit.int .u8 x).wf = true) : 0 ≤ x ∧ x ≤ 255 := by
  simp only [Lit.wf, Bool.and_eq_true, decide_eq_true_eq] at h
  exact ⟨h.1, h.2⟩
theorem put_any (S okp : Nat → Prop) (g : Nat) (is : Bool) (bs : List Int) (most : Int) (w : World) (A : Option Addr) (n cp : Nat) (pc : List Int) (hJ : Jo S g is bs most w) (hV : Kd.V KB 5 w 0 okp (.slice A n cp) pc) (hS : ∀ k, okp k → ¬ S k)
    (hw : ∀ x ∈ pc, (Lit.int .u8 x).wf = true) (hl1 : bs.length ≤ 16777216) (hl2 : pc.length ≤ 16777216) :
    Calls Try.prog 13 #[.pointer (some ⟨g, 0, none⟩), .slice A n cp] w fun e w' => ∃ (v : Value) (S' : Nat → Prop), e = .returned (.tuple #[v, .bool (putSpec most is bs pc).1.2.1, .int .i64 (putSpec most is bs pc).1.2.2]) ∧
      Kd.V KB 5 w' 0 (fun k => S k ∨ w.heap.size ≤ k) v (putSpec most is bs pc).1.1 ∧ Jo S' g (putSpec most is bs pc).2.1 (putSpec most is bs pc).2.2 most w' ∧ (∀ k, S' k → S k ∨ w.heap.size ≤ k) ∧ Chg S w w' := by
  have hg : S g := hJ.1
  cases pc with
  | nil =>
    refine (put_bad S okp g is bs most w A n cp [] hJ hV (fun x p h => by cases h)).mono ?_
    rintro e w' ⟨rfl, h1, h2⟩
    exact ⟨_, S, rfl, Kd.V_nil _ _ _ _ _, h1, fun k hk => .inl hk, h2⟩
  | cons x p =>
    obtain ⟨hx0, hx255⟩ := wf_u8 (hw x List.mem_cons_self)
    rw [List.length_cons] at hl2
    unfold putSpec
    by_cases c1 : 3 < x ∨ (decide (x % 2 = 1)) = is
    · simp only [if_pos c1]
      refine (put_bad S okp g is bs most w A n cp (x :: p) hJ hV (fun y q h => by cases h; exact ⟨hx0, c1⟩)).mono ?_
      rintro e w' ⟨rfl, h1, h2⟩
      exact ⟨_, S, rfl, Kd.V_nil _ _ _ _ _, h1, fun k hk => .inl hk, h2⟩
    · simp only [if_neg c1]
      have hx3 : x ≤ 3 := by omega
      have hx1 : decide (x % 2 = 1) = !is := by
        have : ¬ (decide (x % 2 = 1)) = is := fun h => c1 (.inr h)
        revert this; cases is <;> cases decide (x % 2 = 1) <;> simp
      by_cases c2 : most < (bs.length : Int) + (p.length : Int)
      · simp only [if_pos c2]
        refine (put_long S okp g is bs most w A n cp x p hJ hV hx0 hx3 hx1 hl1 (by omega) c2).mono ?_
        rintro e w' ⟨rfl, h1, h2⟩
        exact ⟨_, S, rfl, Kd.V_nil _ _ _ _ _, h1, fun k hk => .inl hk, h2⟩
      · simp only [if_neg c2]
        by_cases c3 : x < 2
        · simp only [if_pos c3]
          refine (put_more S okp g is bs most w A n cp x p hJ hV hS hx0 (by omega) hx1 hl1 (by omega) (by omega)).mono ?_
          rintro e w' ⟨rfl, ⟨S', h1, h3⟩, h2⟩
          exact ⟨_, S', rfl, Kd.V_nil _ _ _ _ _, h1, h3, h2⟩
        · simp only [if_neg c3]
          refine (put_last S okp g is bs most w A n cp x p hJ hV hS (by omega) hx3 hx1 hl1 (by omega) (by omega)).mono ?_
          rintro e w' ⟨v, rfl, h0, h1, h2⟩
          exact ⟨v, _, rfl, Kd.V_mono (Kd.R_V h0) (fun k hk => hk.1), h1, fun k hk => .inl (by rw [hk]; exact hg), h2⟩
theorem rput_any (S okp : Nat → Prop) (g : Nat) (is : Bool) (bs : List Int) (most : Int) (w : World) (A : Option Addr) (n cp : Nat) (pc : List Int) (hJ : Ro S g is bs most w) (hV : Kd.V KB 5 w 0 okp (.slice A n cp) pc)
    (hw : ∀ x ∈ pc, (Lit.int .u8 x).wf = true) (hl1 : bs.length ≤ 16777216) (hl2 : pc.length ≤ 16777216) :
    Calls Try.prog 18 #[.pointer (some ⟨g, 0, none⟩), .slice A n cp] w fun e w' => ∃ (v : Value) (S' : Nat → Prop), e = .returned (.tuple #[v, .bool (putSpec most is bs pc).1.2.1, .int .i64 (putSpec most is bs pc).1.2.2]) ∧
      Kd.V KB 5 w' 0 (fun k => w.heap.size ≤ k) v (putSpec most is bs pc).1.1 ∧ Ro S' g (putSpec most is bs pc).2.1 (putSpec most is bs pc).2.2 most w' ∧ (∀ k, S' k → S k ∨ w.heap.size ≤ k) ∧ Chg (fun k => k = g) w w' := by
  have hg : S g := hJ.1
  have hS' : ∀ k, k = g → S k ∨ w.heap.size ≤ k := fun k hk => .inl (by rw [hk]; exact hg)
  cases pc with
  | nil =>
    refine (rput_bad S okp g is bs most w A n cp [] hJ hV (fun x p h => by cases h)).mono ?_
    rintro e w' ⟨rfl, h1, h2⟩
    exact ⟨_, _, rfl, Kd.V_nil _ _ _ _ _, h1, hS', h2⟩
  | cons x p =>
    obtain ⟨hx0, hx255⟩ := wf_u8 (hw x List.mem_cons_self)
    rw [List.length_cons] at hl2
    unfold putSpec
    by_cases c1 : 3 < x ∨ (decide (x % 2 = 1)) = is
    · simp only [if_pos c1]
      refine (rput_bad S okp g is bs most w A n cp (x :: p) hJ hV (fun y q h => by cases h; exact ⟨hx0, c1⟩)).mono ?_
      rintro e w' ⟨rfl, h1, h2⟩
      exact ⟨_, _, rfl, Kd.V_nil _ _ _ _ _, h1, hS', h2⟩
    · simp only [if_neg c1]
      have hx3 : x ≤ 3 := by omega
      have hx1 : decide (x % 2 = 1) = !is := by
        have : ¬ (decide (x % 2 = 1)) = is := fun h => c1 (.inr h)
        revert this; cases is <;> cases decide (x % 2 = 1) <;> simp
      by_cases c2 : most < (bs.length : Int) + (p.length : Int)
      · simp only [if_pos c2]
        refine (rput_long S okp g is bs most w A n cp x p hJ hV hx0 hx3 hx1 hl1 (by omega) c2).mono ?_
        rintro e w' ⟨rfl, h1, h2⟩
        exact ⟨_, _, rfl, Kd.V_nil _ _ _ _ _, h1, hS', h2⟩
      · simp only [if_neg c2]
        by_cases c3 : x < 2
        · simp only [if_pos c3]
          refine (rput_more S okp g is bs most w A n cp x p hJ hV hx0 (by omega) hx1 hl1 (by omega) (by omega)).mono ?_
          rintro e w' ⟨rfl, ⟨S', h1, h3⟩, h2⟩
          exact ⟨_, S', rfl, Kd.V_nil _ _ _ _ _, h1, h3, h2⟩
        · simp only [if_neg c3]
          refine (rput_last S okp g is bs most w A n cp x p hJ hV (by omega) hx3 hx1 hl1 (by omega) (by omega)).mono ?_
          rintro e w' ⟨v, rfl, h0, h1, h2⟩
          exact ⟨v, _, rfl, h0, h1, hS', h2⟩
/-- No more is open than may be. -/
theorem putSpec_len (most : Int) (is : Bool) (bs pc : List Int) (h0 : 0 ≤ most) : (((putSpec most is bs pc).2.2).length : Int) ≤ most := by
  cases pc with
  | nil => simpa [putSpec] using h0
  | cons x p =>
    unfold putSpec
    by_cases c1 : 3 < x ∨ (decide (x % 2 = 1)) = is
    · simp only [if_pos c1]; exact h0
    · by_cases c2 : most < (bs.length : Int) + (p.length : Int)
      · simp only [if_neg c1, if_pos c2]; exact h0
      · by_cases c3 : x < 2
        · simp only [if_neg c1, if_neg c2, if_pos c3, List.length_append]; omega
        · simp only [if_neg c1, if_neg c2, if_neg c3]; exact h0
end Go.Proofs.Ytleomcilhhdngaa
