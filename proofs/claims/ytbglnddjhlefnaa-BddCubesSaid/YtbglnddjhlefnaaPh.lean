/- The ways from a node to yes. No program. -/
import Derived.Test.YtbglnddjhlefnaaPg
namespace Go.Proofs.Ytbglnddjhlefnaa
abbrev Txt := List UInt8
/-- The model of the loop: at most one above most. -/
def waysF (N : List Nd) (most : Nat) : Nat → Nat → Txt → List Txt → List Txt
  | 0, _, _, l => l
  | f + 1, n, b, l =>
    if n = 0 ∨ most < l.length then l else
    if n = 1 then l ++ [b] else
    waysF N most f (ndAt N n).hi (b.set (ndAt N n).b 49) (waysF N most f (ndAt N n).lo (b.set (ndAt N n).b 48) l)
def pathsF (N : List Nd) : Nat → Nat → Txt → List Txt
  | 0, _, _ => []
  | f + 1, n, b =>
    if n = 0 then [] else
    if n = 1 then [b] else
    pathsF N f (ndAt N n).lo (b.set (ndAt N n).b 48) ++ pathsF N f (ndAt N n).hi (b.set (ndAt N n).b 49)
theorem waysF_take (N : List Nd) (most : Nat) : ∀ (f n : Nat) (b : Txt) (l : List Txt), waysF N most f n b l = if most < l.length then l else (l ++ pathsF N f n b).take (most + 1) := by
  intro f
  induction f with
  | zero =>
    intro n b l
    rw [waysF, pathsF, List.append_nil]
    split
    · rfl
    · rw [List.take_of_length_le (by omega)]
  | succ f ih =>
    intro n b l
    rw [waysF, pathsF]
    by_cases hm : most < l.length
    · rw [if_pos (.inr hm), if_pos hm]
    rw [if_neg hm]
    by_cases h0 : n = 0
    · rw [if_pos (.inl h0), if_pos h0, List.append_nil, List.take_of_length_le (by omega)]
    rw [if_neg (by simp only [not_or]; exact ⟨h0, hm⟩), if_neg h0]
    by_cases h1 : n = 1
    · rw [if_pos h1, if_pos h1, List.take_of_length_le (by simp; omega)]
    rw [if_neg h1, if_neg h1, ih, ih, if_neg hm]
    generalize pathsF N f (ndAt N n).lo (b.set (ndAt N n).b 48) = P
    generalize pathsF N f (ndAt N n).hi (b.set (ndAt N n).b 49) = Q
    by_cases hp : most < (List.take (most + 1) (l ++ P)).length
    · rw [if_pos hp]
      rw [List.length_take] at hp
      rw [← List.append_assoc, List.take_append_of_le_length (l₁ := l ++ P) (by omega)]
    · rw [if_neg hp]
      rw [List.length_take] at hp
      rw [List.take_of_length_le (l := l ++ P) (by omega), List.append_assoc]
theorem waysF_nil (N : List Nd) (most f n : Nat) (b : Txt) : waysF N most f n b [] = (pathsF N f n b).take (most + 1) := by
  rw [waysF_take, if_neg (by simp), List.nil_append]
/-- Are all letters from bit k on x? -/
def xFrom (b : Txt) (k : Nat) : Prop := ∀ i, k ≤ i → i < b.length → b[i]? = some 120
def abc (s : Txt) : Prop := ∀ (i : Nat) (c : UInt8), s[i]? = some c → c = 48 ∨ c = 49 ∨ c = 120
/-- Does a header fit a text, bit by bit? -/
theorem fits_iff : ∀ (s : Txt) (i : Nat) (h : Hd), fits s i h = true ↔ ∀ (k : Nat) (c : UInt8), s[k]? = some c → (c = 48 → h (i + k) = false) ∧ (c = 49 → h (i + k) = true)
  | [], i, h => by simp [fits]
  | c :: s, i, h => by
    rw [fits, Bool.and_eq_true, fits_iff s (i + 1) h]
    constructor
    · rintro ⟨h1, h2⟩ k d hk
      cases k with
      | zero =>
        simp at hk
        subst hk
        refine ⟨fun e => ?_, fun e => ?_⟩
        · rw [if_pos e] at h1; simpa using h1
        · rw [if_neg (by rw [e]; decide), if_pos e] at h1; simpa using h1
      | succ k =>
        have := h2 k d (by simpa using hk)
        rw [show i + 1 + k = i + (k + 1) by omega] at this
        exact this
    · intro hk
      refine ⟨?_, fun k d hd => ?_⟩
      · have := hk 0 c (by simp)
        by_cases h0 : c = 48
        · rw [if_pos h0]; simpa using this.1 h0
        · rw [if_neg h0]
          by_cases h1 : c = 49
          · rw [if_pos h1]; simpa using this.2 h1
          · rw [if_neg h1]
      · have := hk (k + 1) d (by simpa using hd)
        rw [show i + (k + 1) = i + 1 + k by omega] at this
        exact this
/-- One text before another one, and apart from it. -/
def Bef (s t : Txt) : Prop := ∃ d : Nat, (∀ i : Nat, i < d → s[i]? = t[i]?) ∧ s[d]? = some 48 ∧ t[d]? = some 49
/-- What holds of the ways of a node at a text whose letters from the node's bit on are x. -/
structure PathOk (bits : Nat) (N : List Nd) (n : Nat) (b : Txt) (P : List Txt) : Prop where
  len : ∀ p ∈ P, p.length = b.length
  abc : ∀ p ∈ P, abc p
  pre : ∀ p ∈ P, ∀ i : Nat, i < bitOf bits N n → p[i]? = b[i]?
  sem : ∀ h, P.any (fun p => fits p 0 h) = (fits b 0 h && sem N n h)
  ord : P.Pairwise Bef
  some : n ≠ 0 → P ≠ []
theorem set_keep (b : Txt) (k : Nat) (c : UInt8) (i : Nat) (hi : i ≠ k) : (b.set k c)[i]? = b[i]? := by
  rw [List.getElem?_set, if_neg (fun e => hi e.symm)]
theorem fits_set {b : Txt} {k : Nat} (hk : k < b.length) (hx : b[k]? = some 120) (c : UInt8) (h : Hd) : fits (b.set k c) 0 h = (fits b 0 h && (if c = 48 then !h k else if c = 49 then h k else true)) := by
  rw [Bool.eq_iff_iff, Bool.and_eq_true, fits_iff, fits_iff]
  constructor
  · intro hh
    refine ⟨fun i d hd => ?_, ?_⟩
    · by_cases hik : i = k
      · subst hik
        rw [hx] at hd
        injection hd with hd
        subst hd
        exact ⟨fun e => absurd e (by decide), fun e => absurd e (by decide)⟩
      · exact hh i d (by rw [set_keep b k c i hik]; exact hd)
    · have := hh k c (by rw [List.getElem?_set, if_pos rfl, if_pos hk])
      rw [Nat.zero_add] at this
      by_cases h0 : c = 48
      · rw [if_pos h0, this.1 h0]; rfl
      · rw [if_neg h0]
        by_cases h1 : c = 49
        · rw [if_pos h1, this.2 h1]
        · rw [if_neg h1]
  · rintro ⟨hh, hc⟩ i d hd
    by_cases hik : i = k
    · subst hik
      rw [List.getElem?_set, if_pos rfl, if_pos hk] at hd
      injection hd with hd
      subst hd
      rw [Nat.zero_add]
      refine ⟨fun e => ?_, fun e => ?_⟩
      · rw [if_pos e] at hc; simpa using hc
      · rw [if_neg (by rw [e]; decide), if_pos e] at hc; exact hc
    · exact hh i d (by rw [set_keep b k c i hik] at hd; exact hd)
theorem set_at (b : Txt) (k : Nat) (c : UInt8) (hk : k < b.length) : (b.set k c)[k]? = some c := by rw [List.getElem?_set, if_pos rfl, if_pos hk]
theorem abc_set {b : Txt} (h : abc b) (k : Nat) (c : UInt8) (hc : c = 48 ∨ c = 49 ∨ c = 120) : abc (b.set k c) := by
  intro i d hd
  by_cases hik : i = k
  · subst hik
    rw [List.getElem?_set, if_pos rfl] at hd
    split at hd
    · injection hd with hd
      subst hd
      exact hc
    · cases hd
  · exact h i d (by rw [set_keep b k c i hik] at hd; exact hd)
theorem pathsF_ok {bits : Nat} {N : List Nd} (w : WF bits N) : ∀ (f n : Nat) (b : Txt), Val N n → n ≤ f → 0 < f → b.length = bits → xFrom b (bitOf bits N n) → abc b → PathOk bits N n b (pathsF N f n b) := by
  intro f
  induction f with
  | zero => intro n b _ _ h; omega
  | succ f ih =>
    intro n b hv hf _ hb hx ha
    rw [pathsF]
    by_cases h0 : n = 0
    · rw [if_pos h0]
      subst h0
      exact ⟨by simp, by simp, by simp, fun h => by rw [sem_zero]; simp, List.Pairwise.nil, fun h => absurd rfl h⟩
    rw [if_neg h0]
    by_cases h1 : n = 1
    · rw [if_pos h1]
      subst h1
      refine ⟨?_, ?_, ?_, fun h => by rw [sem_one]; simp, by simp, by simp⟩
      · intro p hp; rw [List.mem_singleton.1 hp]
      · intro p hp; rw [List.mem_singleton.1 hp]; exact ha
      · intro p hp i _; rw [List.mem_singleton.1 hp]
    rw [if_neg h1]
    have h2 : 2 ≤ n := by omega
    obtain ⟨q1, q2, q3, q4, q5, q6⟩ := w.at_ h2 hv
    have hk : (ndAt N n).b < b.length := by omega
    rw [bitOf_node h2] at hx
    have hxk := hx (ndAt N n).b (Nat.le_refl _) hk
    have xs : ∀ c : UInt8, ∀ m, (ndAt N n).b < m → xFrom (b.set (ndAt N n).b c) m := fun c m hm i hi hil => by
      rw [set_keep b _ c i (by omega)]
      exact hx i (by omega) (by simpa using hil)
    have A := ih (ndAt N n).lo (b.set (ndAt N n).b 48) (hv.lo w h2) (by omega) (by omega) (by simpa using hb) (xs 48 _ q5) (abc_set ha _ _ (.inl rfl))
    have B := ih (ndAt N n).hi (b.set (ndAt N n).b 49) (hv.hi w h2) (by omega) (by omega) (by simpa using hb) (xs 49 _ q6) (abc_set ha _ _ (.inr (.inl rfl)))
    generalize pathsF N f (ndAt N n).lo (b.set (ndAt N n).b 48) = P at A
    generalize pathsF N f (ndAt N n).hi (b.set (ndAt N n).b 49) = Q at B
    refine ⟨?_, ?_, ?_, ?_, ?_, ?_⟩
    · intro p hp
      rcases List.mem_append.1 hp with hp | hp
      · simpa using A.len p hp
      · simpa using B.len p hp
    · intro p hp
      rcases List.mem_append.1 hp with hp | hp
      · exact A.abc p hp
      · exact B.abc p hp
    · intro p hp i hi
      rw [bitOf_node h2] at hi
      rcases List.mem_append.1 hp with hp | hp
      · rw [A.pre p hp i (by omega), set_keep _ _ _ _ (by omega)]
      · rw [B.pre p hp i (by omega), set_keep _ _ _ _ (by omega)]
    · intro h
      rw [List.any_append, A.sem, B.sem, fits_set hk hxk, fits_set hk hxk, sem_node w h2 hv (h := h)]
      simp only [if_true]
      rw [if_neg (by decide)]
      cases fits b 0 h <;> cases h (ndAt N n).b <;> simp
    · rw [List.pairwise_append]
      refine ⟨A.ord, B.ord, fun p hp q hq => ⟨(ndAt N n).b, fun i hi => ?_, ?_, ?_⟩⟩
      · rw [A.pre p hp i (by omega), B.pre q hq i (by omega), set_keep _ _ _ _ (by omega), set_keep _ _ _ _ (by omega)]
      · rw [A.pre p hp _ q5]; exact set_at b _ _ hk
      · rw [B.pre q hq _ q6]; exact set_at b _ _ hk
    · intro _ he
      rw [List.append_eq_nil_iff] at he
      by_cases hlo : (ndAt N n).lo = 0
      · exact B.some (fun hhi => q4 (hlo.trans hhi.symm)) he.2
      · exact A.some hlo he.1
theorem Bef.apart {s t : Txt} (h : Bef s t) (g : Hd) : ¬ (fits s 0 g = true ∧ fits t 0 g = true) := by
  rintro ⟨h1, h2⟩
  obtain ⟨d, _, h3, h4⟩ := h
  have e1 := ((fits_iff s 0 g).1 h1 d 48 h3).1 rfl
  have e2 := ((fits_iff t 0 g).1 h2 d 49 h4).2 rfl
  rw [e1] at e2
  cases e2
/-- Some header fits a text. -/
theorem fits_some (s : Txt) : ∃ h : Hd, fits s 0 h = true :=
  ⟨fun i => s[i]? == some 49, by
    rw [fits_iff]
    intro k c hk
    rw [Nat.zero_add, hk]
    exact ⟨fun e => by subst e; rfl, fun e => by subst e; rfl⟩⟩
def blankT (bits : Nat) : Txt := List.replicate bits 120
theorem blank_x (bits k : Nat) : xFrom (blankT bits) k := by
  intro i _ hi
  unfold blankT at *
  rw [List.getElem?_replicate]
  simp at hi
  rw [if_pos hi]
theorem blank_abc (bits : Nat) : abc (blankT bits) := by
  intro i c hc
  unfold blankT at hc
  rw [List.getElem?_replicate] at hc
  split at hc
  · injection hc with hc; exact .inr (.inr hc.symm)
  · cases hc
theorem blank_fits (bits : Nat) (h : Hd) : fits (blankT bits) 0 h = true := by
  rw [fits_iff]
  intro k c hc
  unfold blankT at hc
  rw [List.getElem?_replicate] at hc
  split at hc
  · injection hc with hc; subst hc; exact ⟨fun e => absurd e (by decide), fun e => absurd e (by decide)⟩
  · cases hc
/-- All ways of a function. -/
def pathsOf (bits : Nat) (N : List Nd) (n : Nat) : List Txt := pathsF N (n + 1) n (blankT bits)
theorem pathsOf_ok {bits : Nat} {N : List Nd} (w : WF bits N) {n : Nat} (hv : Val N n) : PathOk bits N n (blankT bits) (pathsOf bits N n) ∧ ∀ h, (pathsOf bits N n).any (fun p => fits p 0 h) = sem N n h := by
  have := pathsF_ok w (n + 1) n (blankT bits) hv (by omega) (by omega) (by simp [blankT]) (blank_x _ _) (blank_abc _)
  exact ⟨this, fun h => by unfold pathsOf; rw [this.sem, blank_fits]; simp⟩
/-- The way that Any goes. -/
def anyF (N : List Nd) : Nat → Nat → Txt → Txt
  | 0, _, b => b
  | f + 1, n, b => if n < 2 then b else if (ndAt N n).lo ≠ 0 then anyF N f (ndAt N n).lo (b.set (ndAt N n).b 48) else anyF N f (ndAt N n).hi (b.set (ndAt N n).b 49)
theorem anyF_head {bits : Nat} {N : List Nd} (w : WF bits N) : ∀ (f n : Nat) (b : Txt), Val N n → n ≤ f → 0 < f → n ≠ 0 → (pathsF N f n b).head? = some (anyF N f n b) := by
  intro f
  induction f with
  | zero => intro n b _ _ h; omega
  | succ f ih =>
    intro n b hv hf _ h0
    rw [pathsF, anyF, if_neg h0]
    by_cases h1 : n = 1
    · rw [if_pos h1, if_pos (by omega)]; rfl
    rw [if_neg h1, if_neg (by omega)]
    have h2 : 2 ≤ n := by omega
    obtain ⟨q1, q2, q3, q4, q5, q6⟩ := w.at_ h2 hv
    by_cases hlo : (ndAt N n).lo = 0
    · rw [if_neg (by simpa using hlo), hlo]
      have e : pathsF N f 0 (b.set (ndAt N n).b 48) = [] := by
        cases f with
        | zero => rfl
        | succ f => rw [pathsF, if_pos rfl]
      rw [e, List.nil_append]
      exact ih _ _ (hv.hi w h2) (by omega) (by omega) (fun hhi => q4 (hlo.trans hhi.symm))
    · rw [if_pos hlo, List.head?_append, ih _ _ (hv.lo w h2) (by omega) (by omega) hlo]
      rfl
end Go.Proofs.Ytbglnddjhlefnaa
