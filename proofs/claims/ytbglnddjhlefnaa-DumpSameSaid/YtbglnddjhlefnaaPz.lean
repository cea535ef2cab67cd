/- How many nodes a union has; the ways from a node to yes. No program. -/
import Derived.Test.YtbglnddjhlefnaaPf
namespace Go.Proofs.Ytbglnddjhlefnaa
/-- A header that is another one below a bit. -/
def ovr (v h : Hd) (b : Nat) : Hd := fun k => if k < b then v k else h k
section
variable {bits : Nat} {N N' : List Nd}
/-- New nodes that mean only so many things at each bit are only so many. -/
theorem count_new (w : WF bits N') (hp : N <+: N') (m : Nat) (Fam : Nat → Nat → Hd → Bool) (hF : ∀ i, N.length + 2 ≤ i → Val N' i → ∃ j, j < m ∧ ∀ h, sem N' i h = Fam (ndAt N' i).b j h) : N'.length ≤ N.length + bits * m := by
  obtain ⟨R, hR⟩ := hp
  have hlen : N'.length = N.length + R.length := by rw [← hR]; simp
  have hex : ∀ k, k < R.length → ∃ j, j < m ∧ ∀ h, sem N' (N.length + 2 + k) h = Fam (ndAt N' (N.length + 2 + k)).b j h := fun k hk => hF _ (by omega) (by unfold Val; omega)
  let f : Nat → Nat := fun k => if hk : k < R.length then (hex k hk).choose else 0
  have hf : ∀ k, k < R.length → f k < m ∧ ∀ h, sem N' (N.length + 2 + k) h = Fam (ndAt N' (N.length + 2 + k)).b (f k) h := fun k hk => by
    have := (hex k hk).choose_spec
    simp only [f, dif_pos hk]
    exact this
  have hb : ∀ k, k < R.length → (ndAt N' (N.length + 2 + k)).b < bits := fun k hk => (w.at_ (by omega) (by unfold Val; omega)).1
  have key := nodup_le (bits * m) ((List.range R.length).map (fun k => (ndAt N' (N.length + 2 + k)).b * m + f k)) ?_ ?_
  · simp at key
    omega
  · rw [List.nodup_iff_pairwise_ne, List.pairwise_map]
    refine List.Pairwise.imp_of_mem (fun {k l} hk hl hkl he => ?_) List.nodup_range
    have hk := List.mem_range.1 hk
    have hl := List.mem_range.1 hl
    obtain ⟨k1, k2⟩ := hf k hk
    obtain ⟨l1, l2⟩ := hf l hl
    have hm : 0 < m := by omega
    have e1 : (ndAt N' (N.length + 2 + k)).b = (ndAt N' (N.length + 2 + l)).b := by
      have h1 : ((ndAt N' (N.length + 2 + k)).b * m + f k) / m = (ndAt N' (N.length + 2 + k)).b := by
        rw [Nat.mul_comm, Nat.mul_add_div hm, Nat.div_eq_of_lt k1, Nat.add_zero]
      have h2 : ((ndAt N' (N.length + 2 + l)).b * m + f l) / m = (ndAt N' (N.length + 2 + l)).b := by
        rw [Nat.mul_comm, Nat.mul_add_div hm, Nat.div_eq_of_lt l1, Nat.add_zero]
      rw [← h1, ← h2, he]
    have e2 : f k = f l := by rw [e1] at he; omega
    have := canon w (a := N.length + 2 + k) (b := N.length + 2 + l) (by unfold Val; omega) (by unfold Val; omega) (fun h => by rw [k2, l2, e1, e2])
    omega
  · intro x hx
    obtain ⟨k, hk, rfl⟩ := List.mem_map.1 hx
    have hk := List.mem_range.1 hk
    have h1 := hb k hk
    have h2 := (hf k hk).1
    have : ((ndAt N' (N.length + 2 + k)).b + 1) * m ≤ bits * m := Nat.mul_le_mul_right _ h1
    rw [Nat.add_mul, Nat.one_mul] at this
    omega
/-- What is left of a function on some way is a function of the row. -/
theorem sub_exists (w : WF bits N) (v : Hd) (b : Nat) : ∀ r, Val N r → ∃ r', Val N r' ∧ ∀ h, sem N r' h = sem N r (ovr v h b) := by
  intro r
  induction r using Nat.strongRecOn with
  | ind r ih =>
    intro hv
    rcases Nat.lt_or_ge (bitOf bits N r) b with hlt | hge
    · rcases Nat.lt_or_ge r 2 with h2 | h2
      · refine ⟨r, hv, fun h => ?_⟩
        have : r = 0 ∨ r = 1 := by omega
        rcases this with rfl | rfl
        · rfl
        · rw [sem_one, sem_one]
      · rw [bitOf_node h2] at hlt
        obtain ⟨_, h3, h4, _⟩ := w.at_ h2 hv
        cases hx : v (ndAt N r).b with
        | true =>
          obtain ⟨r', h5, h6⟩ := ih _ h4 (hv.hi w h2)
          refine ⟨r', h5, fun h => ?_⟩
          rw [h6, sem_node w h2 hv (h := ovr v h b)]
          have : ovr v h b (ndAt N r).b = true := by unfold ovr; rw [if_pos hlt, hx]
          rw [if_pos this]
        | false =>
          obtain ⟨r', h5, h6⟩ := ih _ h3 (hv.lo w h2)
          refine ⟨r', h5, fun h => ?_⟩
          rw [h6, sem_node w h2 hv (h := ovr v h b)]
          have : ovr v h b (ndAt N r).b = false := by unfold ovr; rw [if_pos hlt, hx]
          rw [if_neg (by rw [this]; simp)]
    · refine ⟨r, hv, fun h => ?_⟩
      refine sem_congr w r hv _ _ (fun k hk _ => ?_)
      unfold ovr
      rw [if_neg (by omega)]
/-- What is new in a row of ors is what is left of one of them. -/
theorem or_new {l : List Nat} : ∀ {N : List Nd} {a : Nat}, WF bits N → Val N a → (∀ b ∈ l, Val N b) → ∀ i, N.length + 2 ≤ i → Val (foldC bits false N a l).2 i →
    ∃ j, j ≤ l.length ∧ ∃ v, ∀ h, sem (foldC bits false N a l).2 i h = (sem N a (ovr v h (ndAt (foldC bits false N a l).2 i).b) || (l.take j).any (fun b => sem N b (ovr v h (ndAt (foldC bits false N a l).2 i).b))) := by
  induction l with
  | nil =>
    intro N a w ha _ i hi hv
    unfold Val at hv
    simp only [foldC] at hv
    omega
  | cons b l ih =>
    intro N a w ha hl i hi hv
    have hb := hl b List.mem_cons_self
    have O := chooseF_ok w ha (val1 N) hb
    have e : foldC bits false N a (b :: l) = foldC bits false (chooseF bits N a 1 b).2.1 (chooseF bits N a 1 b).1 l := by rw [foldC]; rfl
    rw [e] at hv ⊢
    generalize chooseF bits N a 1 b = r at O hv
    have hl2 : ∀ c ∈ l, Val r.2.1 c := fun c hc => (hl c (List.mem_cons_of_mem _ hc)).pre O.pre
    have I := foldC_ok false l r.2.1 r.1 O.wf O.val hl2
    have hsr : ∀ h, sem r.2.1 r.1 h = (sem N a h || sem N b h) := fun h => by
      rw [O.sem, sem_pre w O.pre O.wf a ha, sem_pre w O.pre O.wf b hb, sem_one]
      cases sem N a h <;> simp
    rcases Nat.lt_or_ge i (r.2.1.length + 2) with hlt | hge
    · obtain ⟨v, hs⟩ := O.new i hi hlt
      refine ⟨1, by simp, v, fun h => ?_⟩
      rw [sem_pre O.wf I.pre I.wf i hlt, ndAt_pre I.pre (by omega) hlt, hs, hsr]
      show (sem N a (ovr v h _) || sem N b (ovr v h _)) = _
      simp
    · obtain ⟨j, hj, v, hs⟩ := ih O.wf O.val hl2 i hge hv
      refine ⟨j + 1, by simp; omega, v, fun h => ?_⟩
      rw [hs, hsr]
      have e1 : (l.take j).any (fun c => sem r.2.1 c (ovr v h (ndAt (foldC bits false r.2.1 r.1 l).2 i).b)) = (l.take j).any (fun c => sem N c (ovr v h (ndAt (foldC bits false r.2.1 r.1 l).2 i).b)) := by
        rw [Bool.eq_iff_iff, List.any_eq_true, List.any_eq_true]
        constructor
        · rintro ⟨c, hc, q⟩
          exact ⟨c, hc, by rw [← sem_pre w O.pre O.wf c (hl c (List.mem_cons_of_mem _ (List.mem_of_mem_take hc)))]; exact q⟩
        · rintro ⟨c, hc, q⟩
          exact ⟨c, hc, by rw [sem_pre w O.pre O.wf c (hl c (List.mem_cons_of_mem _ (List.mem_of_mem_take hc)))]; exact q⟩
      rw [e1, List.take_succ_cons, List.any_cons, Bool.or_assoc]
end
/-! ### cubes -/
/-- Does a way go along a cube's letters below a bit? (s: the letters from bit i on.) -/
def along (v : Hd) (b : Nat) : List UInt8 → Nat → Bool
  | [], _ => true
  | c :: s, i => (if i < b then (if c = 48 then !v i else if c = 49 then v i else true) else true) && along v b s (i + 1)
/-- Does a header fit a cube's letters from bit b on? -/
def fitsFrom (b : Nat) : List UInt8 → Nat → Hd → Bool
  | [], _, _ => true
  | c :: s, i, h => (if i < b then true else (if c = 48 then !h i else if c = 49 then h i else true)) && fitsFrom b s (i + 1) h
theorem fits_ovr (v h : Hd) (b : Nat) : ∀ (s : List UInt8) (i : Nat), fits s i (ovr v h b) = (along v b s i && fitsFrom b s i h)
  | [], _ => rfl
  | c :: s, i => by
    rw [fits, along, fitsFrom, fits_ovr v h b s (i + 1)]
    unfold ovr
    by_cases hi : i < b
    · simp only [if_pos hi]
      cases (if c = 48 then !v i else if c = 49 then v i else true) <;> simp
    · simp only [if_neg hi]
      cases (if c = 48 then !h i else if c = 49 then h i else true) <;> cases along v b s (i + 1) <;> simp
/-- A set of numbers below n, as a number. -/
def mask (p : Nat → Bool) : Nat → Nat
  | 0 => 0
  | n + 1 => mask p n + if p n then 2 ^ n else 0
theorem mask_lt (p : Nat → Bool) : ∀ n, mask p n < 2 ^ n
  | 0 => by simp [mask]
  | n + 1 => by
    have := mask_lt p n
    rw [mask, Nat.pow_succ]
    split <;> omega
theorem mask_bit (p : Nat → Bool) : ∀ n k, k < n → (mask p n).testBit k = p k
  | 0, k, h => by omega
  | n + 1, k, h => by
    have hlt := mask_lt p n
    rw [mask]
    by_cases hp : p n = true
    · rw [if_pos hp, Nat.add_comm]
      by_cases hk : k = n
      · subst hk
        rw [Nat.testBit_two_pow_add_eq, Nat.testBit_lt_two_pow hlt, hp]
        rfl
      · rw [Nat.testBit_two_pow_add_gt (by omega)]
        exact mask_bit p n k (by omega)
    · rw [if_neg hp, Nat.add_zero]
      by_cases hk : k = n
      · subst hk
        rw [Nat.testBit_lt_two_pow hlt]
        simpa using hp
      · exact mask_bit p n k (by omega)
/-- Of cubes' ors at most so many nodes come new. -/
theorem or_count {bits : Nat} {N : List Nd} (w : WF bits N) {l : List Nat} (hl : ∀ b ∈ l, Val N b) (cs : List (List UInt8)) (hc : cs.length = l.length) (hs : ∀ (k : Nat) (b : Nat) (s : List UInt8), l[k]? = some b → cs[k]? = some s → ∀ h, sem N b h = fits s 0 h) :
    (foldC bits false N 0 l).2.length ≤ N.length + bits * 2 ^ l.length := by
  have I := foldC_ok false l N 0 w (val0 N) hl
  refine count_new I.wf I.pre (2 ^ l.length) (fun b m h => (List.range l.length).any (fun k => m.testBit k && fitsFrom b (cs.getD k []) 0 h)) (fun i hi hv => ?_)
  obtain ⟨j, hj, v, hs2⟩ := or_new w (val0 N) hl i hi hv
  generalize (ndAt (foldC bits false N 0 l).2 i).b = b at hs2 ⊢
  refine ⟨mask (fun k => decide (k < j) && along v b (cs.getD k []) 0) l.length, mask_lt _ _, fun h => ?_⟩
  rw [hs2, sem_zero, Bool.false_or, Bool.eq_iff_iff, List.any_eq_true, List.any_eq_true]
  constructor
  · rintro ⟨c, hc1, hc2⟩
    obtain ⟨k, hk⟩ := List.getElem?_of_mem hc1
    rw [List.getElem?_take] at hk
    split at hk
    · rename_i hkj
      have hkl := (List.getElem?_eq_some_iff.1 hk).1
      have hcs : cs[k]? = some (cs.getD k []) := by rw [List.getD_eq_getElem?_getD, List.getElem?_eq_getElem (by omega)]; rfl
      rw [hs k c _ hk hcs, fits_ovr, Bool.and_eq_true] at hc2
      refine ⟨k, List.mem_range.2 hkl, ?_⟩
      rw [mask_bit _ _ _ hkl, hc2.1, hc2.2]
      simp [hkj]
    · cases hk
  · rintro ⟨k, hk, hk2⟩
    have hkl := List.mem_range.1 hk
    rw [mask_bit _ _ _ hkl] at hk2
    simp only [Bool.and_eq_true, decide_eq_true_eq] at hk2
    obtain ⟨⟨hkj, ha⟩, hf⟩ := hk2
    have hk3 : l[k]? = some l[k] := List.getElem?_eq_getElem hkl
    have hcs : cs[k]? = some (cs.getD k []) := by rw [List.getD_eq_getElem?_getD, List.getElem?_eq_getElem (by omega)]; rfl
    refine ⟨l[k], ?_, ?_⟩
    · rw [List.mem_iff_getElem?]
      exact ⟨k, by rw [List.getElem?_take, if_pos hkj, hk3]⟩
    · rw [hs k _ _ hk3 hcs, fits_ovr, ha, hf]
      rfl
end Go.Proofs.Ytbglnddjhlefnaa
namespace Go.Proofs.Ytbglnddjhlefnaa
abbrev Txt := List UInt8
/-- The model of the loop: at most one above most. -/
def waysF (N : List Nd) (most : Nat) : Nat → Nat → Txt → List Txt → List Txt
  | 0, _, _, l => l
  | f + 1, n, b, l =>
    if n = 0 ∨ most < l.length then l else
    if n = 1 then l ++ [b] else
    waysF N most f (ndAt N n).hi (b.set (ndAt N n).b 49) (waysF N most f (ndAt N n).lo (b.set (ndAt N n).b 48) l)
def pathsF (N : List Nd) : Nat → Nat → Txt → List Txt
  | 0, _, _ => []
  | f + 1, n, b =>
    if n = 0 then [] else
    if n = 1 then [b] else
    pathsF N f (ndAt N n).lo (b.set (ndAt N n).b 48) ++ pathsF N f (ndAt N n).hi (b.set (ndAt N n).b 49)
theorem waysF_take (N : List Nd) (most : Nat) : ∀ (f n : Nat) (b : Txt) (l : List Txt), waysF N most f n b l = if most < l.length then l else (l ++ pathsF N f n b).take (most + 1) := by
  intro f
  induction f with
  | zero =>
    intro n b l
    rw [waysF, pathsF, List.append_nil]
    split
    · rfl
    · rw [List.take_of_length_le (by omega)]
  | succ f ih =>
    intro n b l
    rw [waysF, pathsF]
    by_cases hm : most < l.length
    · rw [if_pos (.inr hm), if_pos hm]
    rw [if_neg hm]
    by_cases h0 : n = 0
    · rw [if_pos (.inl h0), if_pos h0, List.append_nil, List.take_of_length_le (by omega)]
    rw [if_neg (by simp only [not_or]; exact ⟨h0, hm⟩), if_neg h0]
    by_cases h1 : n = 1
    · rw [if_pos h1, if_pos h1, List.take_of_length_le (by simp; omega)]
    rw [if_neg h1, if_neg h1, ih, ih, if_neg hm]
    generalize pathsF N f (ndAt N n).lo (b.set (ndAt N n).b 48) = P
    generalize pathsF N f (ndAt N n).hi (b.set (ndAt N n).b 49) = Q
    by_cases hp : most < (List.take (most + 1) (l ++ P)).length
    · rw [if_pos hp]
      rw [List.length_take] at hp
      rw [← List.append_assoc, List.take_append_of_le_length (l₁ := l ++ P) (by omega)]
    · rw [if_neg hp]
      rw [List.length_take] at hp
      rw [List.take_of_length_le (l := l ++ P) (by omega), List.append_assoc]
theorem waysF_nil (N : List Nd) (most f n : Nat) (b : Txt) : waysF N most f n b [] = (pathsF N f n b).take (most + 1) := by
  rw [waysF_take, if_neg (by simp), List.nil_append]
/-- Are all letters from bit k on x? -/
def xFrom (b : Txt) (k : Nat) : Prop := ∀ i, k ≤ i → i < b.length → b[i]? = some 120
def abc (s : Txt) : Prop := ∀ (i : Nat) (c : UInt8), s[i]? = some c → c = 48 ∨ c = 49 ∨ c = 120
/-- Does a header fit a text, bit by bit? -/
theorem fits_iff : ∀ (s : Txt) (i : Nat) (h : Hd), fits s i h = true ↔ ∀ (k : Nat) (c : UInt8), s[k]? = some c → (c = 48 → h (i + k) = false) ∧ (c = 49 → h (i + k) = true)
  | [], i, h => by simp [fits]
  | c :: s, i, h => by
    rw [fits, Bool.and_eq_true, fits_iff s (i + 1) h]
    constructor
    · rintro ⟨h1, h2⟩ k d hk
      cases k with
      | zero =>
        simp at hk
        subst hk
        refine ⟨fun e => ?_, fun e => ?_⟩
        · rw [if_pos e] at h1; simpa using h1
        · rw [if_neg (by rw [e]; decide), if_pos e] at h1; simpa using h1
      | succ k =>
        have := h2 k d (by simpa using hk)
        rw [show i + 1 + k = i + (k + 1) by omega] at this
        exact this
    · intro hk
      refine ⟨?_, fun k d hd => ?_⟩
      · have := hk 0 c (by simp)
        by_cases h0 : c = 48
        · rw [if_pos h0]; simpa using this.1 h0
        · rw [if_neg h0]
          by_cases h1 : c = 49
          · rw [if_pos h1]; simpa using this.2 h1
          · rw [if_neg h1]
      · have := hk (k + 1) d (by simpa using hd)
        rw [show i + (k + 1) = i + 1 + k by omega] at this
        exact this
/-- One text before another one, and apart from it. -/
def Bef (s t : Txt) : Prop := ∃ d : Nat, (∀ i : Nat, i < d → s[i]? = t[i]?) ∧ s[d]? = some 48 ∧ t[d]? = some 49
/-- What holds of the ways of a node at a text whose letters from the node's bit on are x. -/
structure PathOk (bits : Nat) (N : List Nd) (n : Nat) (b : Txt) (P : List Txt) : Prop where
  len : ∀ p ∈ P, p.length = b.length
  abc : ∀ p ∈ P, abc p
  pre : ∀ p ∈ P, ∀ i : Nat, i < bitOf bits N n → p[i]? = b[i]?
  sem : ∀ h, P.any (fun p => fits p 0 h) = (fits b 0 h && sem N n h)
  ord : P.Pairwise Bef
  some : n ≠ 0 → P ≠ []
theorem set_keep (b : Txt) (k : Nat) (c : UInt8) (i : Nat) (hi : i ≠ k) : (b.set k c)[i]? = b[i]? := by
  rw [List.getElem?_set, if_neg (fun e => hi e.symm)]
theorem fits_set {b : Txt} {k : Nat} (hk : k < b.length) (hx : b[k]? = some 120) (c : UInt8) (h : Hd) : fits (b.set k c) 0 h = (fits b 0 h && (if c = 48 then !h k else if c = 49 then h k else true)) := by
  rw [Bool.eq_iff_iff, Bool.and_eq_true, fits_iff, fits_iff]
  constructor
  · intro hh
    refine ⟨fun i d hd => ?_, ?_⟩
    · by_cases hik : i = k
      · subst hik
        rw [hx] at hd
        injection hd with hd
        subst hd
        exact ⟨fun e => absurd e (by decide), fun e => absurd e (by decide)⟩
      · exact hh i d (by rw [set_keep b k c i hik]; exact hd)
    · have := hh k c (by rw [List.getElem?_set, if_pos rfl, if_pos hk])
      rw [Nat.zero_add] at this
      by_cases h0 : c = 48
      · rw [if_pos h0, this.1 h0]; rfl
      · rw [if_neg h0]
        by_cases h1 : c = 49
        · rw [if_pos h1, this.2 h1]
        · rw [if_neg h1]
  · rintro ⟨hh, hc⟩ i d hd
    by_cases hik : i = k
    · subst hik
      rw [List.getElem?_set, if_pos rfl, if_pos hk] at hd
      injection hd with hd
      subst hd
      rw [Nat.zero_add]
      refine ⟨fun e => ?_, fun e => ?_⟩
      · rw [if_pos e] at hc; simpa using hc
      · rw [if_neg (by rw [e]; decide), if_pos e] at hc; exact hc
    · exact hh i d (by rw [set_keep b k c i hik] at hd; exact hd)
theorem set_at (b : Txt) (k : Nat) (c : UInt8) (hk : k < b.length) : (b.set k c)[k]? = some c := by rw [List.getElem?_set, if_pos rfl, if_pos hk]
theorem abc_set {b : Txt} (h : abc b) (k : Nat) (c : UInt8) (hc : c = 48 ∨ c = 49 ∨ c = 120) : abc (b.set k c) := by
  intro i d hd
  by_cases hik : i = k
  · subst hik
    rw [List.getElem?_set, if_pos rfl] at hd
    split at hd
    · injection hd with hd
      subst hd
      exact hc
    · cases hd
  · exact h i d (by rw [set_keep b k c i hik] at hd; exact hd)
theorem pathsF_ok {bits : Nat} {N : List Nd} (w : WF bits N) : ∀ (f n : Nat) (b : Txt), Val N n → n ≤ f → 0 < f → b.length = bits → xFrom b (bitOf bits N n) → abc b → PathOk bits N n b (pathsF N f n b) := by
  intro f
  induction f with
  | zero => intro n b _ _ h; omega
  | succ f ih =>
    intro n b hv hf _ hb hx ha
    rw [pathsF]
    by_cases h0 : n = 0
    · rw [if_pos h0]
      subst h0
      exact ⟨by simp, by simp, by simp, fun h => by rw [sem_zero]; simp, List.Pairwise.nil, fun h => absurd rfl h⟩
    rw [if_neg h0]
    by_cases h1 : n = 1
    · rw [if_pos h1]
      subst h1
      refine ⟨?_, ?_, ?_, fun h => by rw [sem_one]; simp, by simp, by simp⟩
      · intro p hp; rw [List.mem_singleton.1 hp]
      · intro p hp; rw [List.mem_singleton.1 hp]; exact ha
      · intro p hp i _; rw [List.mem_singleton.1 hp]
    rw [if_neg h1]
    have h2 : 2 ≤ n := by omega
    obtain ⟨q1, q2, q3, q4, q5, q6⟩ := w.at_ h2 hv
    have hk : (ndAt N n).b < b.length := by omega
    rw [bitOf_node h2] at hx
    have hxk := hx (ndAt N n).b (Nat.le_refl _) hk
    have xs : ∀ c : UInt8, ∀ m, (ndAt N n).b < m → xFrom (b.set (ndAt N n).b c) m := fun c m hm i hi hil => by
      rw [set_keep b _ c i (by omega)]
      exact hx i (by omega) (by simpa using hil)
    have A := ih (ndAt N n).lo (b.set (ndAt N n).b 48) (hv.lo w h2) (by omega) (by omega) (by simpa using hb) (xs 48 _ q5) (abc_set ha _ _ (.inl rfl))
    have B := ih (ndAt N n).hi (b.set (ndAt N n).b 49) (hv.hi w h2) (by omega) (by omega) (by simpa using hb) (xs 49 _ q6) (abc_set ha _ _ (.inr (.inl rfl)))
    generalize pathsF N f (ndAt N n).lo (b.set (ndAt N n).b 48) = P at A
    generalize pathsF N f (ndAt N n).hi (b.set (ndAt N n).b 49) = Q at B
    refine ⟨?_, ?_, ?_, ?_, ?_, ?_⟩
    · intro p hp
      rcases List.mem_append.1 hp with hp | hp
      · simpa using A.len p hp
      · simpa using B.len p hp
    · intro p hp
      rcases List.mem_append.1 hp with hp | hp
      · exact A.abc p hp
      · exact B.abc p hp
    · intro p hp i hi
      rw [bitOf_node h2] at hi
      rcases List.mem_append.1 hp with hp | hp
      · rw [A.pre p hp i (by omega), set_keep _ _ _ _ (by omega)]
      · rw [B.pre p hp i (by omega), set_keep _ _ _ _ (by omega)]
    · intro h
      rw [List.any_append, A.sem, B.sem, fits_set hk hxk, fits_set hk hxk, sem_node w h2 hv (h := h)]
      simp only [if_true]
      rw [if_neg (by decide)]
      cases fits b 0 h <;> cases h (ndAt N n).b <;> simp
    · rw [List.pairwise_append]
      refine ⟨A.ord, B.ord, fun p hp q hq => ⟨(ndAt N n).b, fun i hi => ?_, ?_, ?_⟩⟩
      · rw [A.pre p hp i (by omega), B.pre q hq i (by omega), set_keep _ _ _ _ (by omega), set_keep _ _ _ _ (by omega)]
      · rw [A.pre p hp _ q5]; exact set_at b _ _ hk
      · rw [B.pre q hq _ q6]; exact set_at b _ _ hk
    · intro _ he
      rw [List.append_eq_nil_iff] at he
      by_cases hlo : (ndAt N n).lo = 0
      · exact B.some (fun hhi => q4 (hlo.trans hhi.symm)) he.2
      · exact A.some hlo he.1
theorem Bef.apart {s t : Txt} (h : Bef s t) (g : Hd) : ¬ (fits s 0 g = true ∧ fits t 0 g = true) := by
  rintro ⟨h1, h2⟩
  obtain ⟨d, _, h3, h4⟩ := h
  have e1 := ((fits_iff s 0 g).1 h1 d 48 h3).1 rfl
  have e2 := ((fits_iff t 0 g).1 h2 d 49 h4).2 rfl
  rw [e1] at e2
  cases e2
/-- Some header fits a text. -/
theorem fits_some (s : Txt) : ∃ h : Hd, fits s 0 h = true :=
  ⟨fun i => s[i]? == some 49, by
    rw [fits_iff]
    intro k c hk
    rw [Nat.zero_add, hk]
    exact ⟨fun e => by subst e; rfl, fun e => by subst e; rfl⟩⟩
def blankT (bits : Nat) : Txt := List.replicate bits 120
theorem blank_x (bits k : Nat) : xFrom (blankT bits) k := by
  intro i _ hi
  unfold blankT at *
  rw [List.getElem?_replicate]
  simp at hi
  rw [if_pos hi]
theorem blank_abc (bits : Nat) : abc (blankT bits) := by
  intro i c hc
  unfold blankT at hc
  rw [List.getElem?_replicate] at hc
  split at hc
  · injection hc with hc; exact .inr (.inr hc.symm)
  · cases hc
theorem blank_fits (bits : Nat) (h : Hd) : fits (blankT bits) 0 h = true := by
  rw [fits_iff]
  intro k c hc
  unfold blankT at hc
  rw [List.getElem?_replicate] at hc
  split at hc
  · injection hc with hc; subst hc; exact ⟨fun e => absurd e (by decide), fun e => absurd e (by decide)⟩
  · cases hc
/-- All ways of a function. -/
def pathsOf (bits : Nat) (N : List Nd) (n : Nat) : List Txt := pathsF N (n + 1) n (blankT bits)
theorem pathsOf_ok {bits : Nat} {N : List Nd} (w : WF bits N) {n : Nat} (hv : Val N n) : PathOk bits N n (blankT bits) (pathsOf bits N n) ∧ ∀ h, (pathsOf bits N n).any (fun p => fits p 0 h) = sem N n h := by
  have := pathsF_ok w (n + 1) n (blankT bits) hv (by omega) (by omega) (by simp [blankT]) (blank_x _ _) (blank_abc _)
  exact ⟨this, fun h => by unfold pathsOf; rw [this.sem, blank_fits]; simp⟩
/-- The way that Any goes. -/
def anyF (N : List Nd) : Nat → Nat → Txt → Txt
  | 0, _, b => b
  | f + 1, n, b => if n < 2 then b else if (ndAt N n).lo ≠ 0 then anyF N f (ndAt N n).lo (b.set (ndAt N n).b 48) else anyF N f (ndAt N n).hi (b.set (ndAt N n).b 49)
theorem anyF_head {bits : Nat} {N : List Nd} (w : WF bits N) : ∀ (f n : Nat) (b : Txt), Val N n → n ≤ f → 0 < f → n ≠ 0 → (pathsF N f n b).head? = some (anyF N f n b) := by
  intro f
  induction f with
  | zero => intro n b _ _ h; omega
  | succ f ih =>
    intro n b hv hf _ h0
    rw [pathsF, anyF, if_neg h0]
    by_cases h1 : n = 1
    · rw [if_pos h1, if_pos (by omega)]; rfl
    rw [if_neg h1, if_neg (by omega)]
    have h2 : 2 ≤ n := by omega
    obtain ⟨q1, q2, q3, q4, q5, q6⟩ := w.at_ h2 hv
    by_cases hlo : (ndAt N n).lo = 0
    · rw [if_neg (by simpa using hlo), hlo]
      have e : pathsF N f 0 (b.set (ndAt N n).b 48) = [] := by
        cases f with
        | zero => rfl
        | succ f => rw [pathsF, if_pos rfl]
      rw [e, List.nil_append]
      exact ih _ _ (hv.hi w h2) (by omega) (by omega) (fun hhi => q4 (hlo.trans hhi.symm))
    · rw [if_pos hlo, List.head?_append, ih _ _ (hv.lo w h2) (by omega) (by omega) hlo]
      rfl
end Go.Proofs.Ytbglnddjhlefnaa
namespace Go.Proofs.Ytbglnddjhlefnaa
section
variable {bits : Nat} {N : List Nd} {s c : Nat}
theorem choose_one (b c : Nat) : chooseF bits N 1 b c = (b, N, []) := by
  unfold chooseF
  rw [iteF, if_pos (.inl rfl)]
theorem choose_zero (c : Nat) : chooseF bits N 0 1 c = (c, N, []) := by
  unfold chooseF
  rw [iteF]
  by_cases h : (0 : Nat) = 1 ∨ 1 = c
  · rw [if_pos h]
    rcases h with h | h
    · cases h
    · rw [h]
  · rw [if_neg h, if_pos rfl]
theorem and_two : foldC bits true N 1 [s, c] = ((chooseF bits N s c 0).1, (chooseF bits N s c 0).2.1) := by
  rw [foldC, if_pos rfl, choose_one]
  rfl
theorem or_two : foldC bits false N 0 [s, c] = ((chooseF bits N s 1 c).1, (chooseF bits N s 1 c).2.1) := by
  rw [foldC, if_neg (by simp), choose_zero]
  rfl
/-- And of what is apart: no, and no node comes new. -/
theorem and_apart (w : WF bits N) (hs : Val N s) (hc : Val N c) (ha : ∀ h, ¬ (sem N s h = true ∧ sem N c h = true)) :
    (foldC bits true N 1 [s, c]).1 = 0 ∧ (foldC bits true N 1 [s, c]).2.length ≤ N.length := by
  rw [and_two]
  have O := chooseF_ok w hs hc (val0 N)
  generalize chooseF bits N s c 0 = r at O ⊢
  have hz : ∀ h, sem r.2.1 r.1 h = false := fun h => by
    rw [O.sem, sem_pre w O.pre O.wf s hs, sem_pre w O.pre O.wf c hc, sem_zero]
    have := ha h
    cases h1 : sem N s h
    · rfl
    · cases h2 : sem N c h
      · rfl
      · exact absurd ⟨h1, h2⟩ this
  refine ⟨canon O.wf O.val (val0 _) (fun h => by rw [hz, sem_zero]), ?_⟩
  have := count_new O.wf O.pre 0 (fun _ _ _ => false) (fun i hi hv => ?_)
  · simpa using this
  · exfalso
    obtain ⟨v, hv2⟩ := O.new i hi hv
    have := canon O.wf hv (val0 _) (fun h => by rw [hv2, hz, sem_zero])
    omega
theorem along_iff (v : Hd) (b : Nat) : ∀ (s : Txt) (i : Nat), along v b s i = true ↔ ∀ (k : Nat) (c : UInt8), s[k]? = some c → i + k < b → (c = 48 → v (i + k) = false) ∧ (c = 49 → v (i + k) = true)
  | [], i => by simp [along]
  | c :: s, i => by
    rw [along, Bool.and_eq_true, along_iff v b s (i + 1)]
    constructor
    · rintro ⟨h1, h2⟩ k d hk hb
      cases k with
      | zero =>
        simp at hk
        subst hk
        rw [Nat.add_zero] at hb ⊢
        rw [if_pos hb] at h1
        refine ⟨fun e => ?_, fun e => ?_⟩
        · rw [if_pos e] at h1; simpa using h1
        · rw [if_neg (by rw [e]; decide), if_pos e] at h1; exact h1
      | succ k =>
        have := h2 k d (by simpa using hk) (by omega)
        rw [show i + 1 + k = i + (k + 1) by omega] at this
        exact this
    · intro hk
      refine ⟨?_, fun k d hd hb => ?_⟩
      · by_cases hb : i < b
        · rw [if_pos hb]
          have := hk 0 c (by simp) (by omega)
          rw [Nat.add_zero] at this
          by_cases h0 : c = 48
          · rw [if_pos h0]; simpa using this.1 h0
          · rw [if_neg h0]
            by_cases h1 : c = 49
            · rw [if_pos h1]; exact this.2 h1
            · rw [if_neg h1]
        · rw [if_neg hb]
      · have := hk (k + 1) d (by simpa using hd) (by omega)
        rw [show i + (k + 1) = i + 1 + k by omega] at this
        exact this
/-- Are two texts the same below a bit? -/
def agree (b : Nat) (q p : Txt) : Bool := q.take b == p.take b
theorem agree_iff {b : Nat} {q p : Txt} : agree b q p = true ↔ ∀ k, k < b → q[k]? = p[k]? := by
  unfold agree
  rw [beq_iff_eq]
  constructor
  · intro h k hk
    have := congrArg (fun l => l[k]?) h
    simpa [List.getElem?_take, hk] using this
  · intro h
    apply List.ext_getElem?
    intro k
    rw [List.getElem?_take, List.getElem?_take]
    split
    · exact h k ‹_›
    · rfl
/-- Or of the ways so far and the next one: at each bit at most one node comes new. -/
theorem or_next (w : WF bits N) (hs : Val N s) (hc : Val N c) (P : List Txt) (p : Txt) (ho : ∀ q ∈ P, Bef q p) (h1 : ∀ h, sem N s h = P.any (fun q => fits q 0 h)) (h2 : ∀ h, sem N c h = fits p 0 h) :
    (foldC bits false N 0 [s, c]).2.length ≤ N.length + bits := by
  rw [or_two]
  have O := chooseF_ok w hs (val1 N) hc
  generalize chooseF bits N s 1 c = r at O ⊢
  have hr : ∀ h, sem r.2.1 r.1 h = (sem N s h || sem N c h) := fun h => by
    rw [O.sem, sem_pre w O.pre O.wf s hs, sem_pre w O.pre O.wf c hc, sem_one]
    cases sem N s h <;> simp
  have := count_new O.wf O.pre 1 (fun b _ h => P.any (fun q => agree b q p && fitsFrom b q 0 h) || fitsFrom b p 0 h) (fun i hi hv => ?_)
  · simpa using this
  · obtain ⟨v, hv2⟩ := O.new i hi hv
    have hv3 : ∀ h, sem r.2.1 i h = (sem N s (ovr v h (ndAt r.2.1 i).b) || sem N c (ovr v h (ndAt r.2.1 i).b)) := fun h => by rw [hv2, hr]; rfl
    generalize (ndAt r.2.1 i).b = b at hv3 ⊢
    cases ha : along v b p 0 with
    | false =>
      exfalso
      obtain ⟨r', hv4, hs4⟩ := sub_exists w v b s hs
      have := canon O.wf hv (hv4.pre O.pre) (fun h => by
        rw [hv3, sem_pre w O.pre O.wf r' hv4, hs4, h2, fits_ovr, ha]
        simp)
      unfold Val at hv4
      omega
    | true =>
      refine ⟨0, by omega, fun h => ?_⟩
      rw [hv3, h1, h2, fits_ovr, ha, Bool.true_and]
      congr 1
      rw [Bool.eq_iff_iff, List.any_eq_true, List.any_eq_true]
      have key : ∀ q ∈ P, along v b q 0 = agree b q p := by
        intro q hq
        obtain ⟨d, e1, e2, e3⟩ := ho q hq
        rw [Bool.eq_iff_iff, agree_iff]
        have hap := (along_iff v b p 0).1 ha
        constructor
        · intro hal k hk
          have haq := (along_iff v b q 0).1 hal
          rcases Nat.lt_or_ge k d with hkd | hkd
          · exact e1 k hkd
          · exfalso
            have f1 := (haq d 48 e2 (by omega)).1 rfl
            have f2 := (hap d 49 e3 (by omega)).2 rfl
            rw [f1] at f2
            cases f2
        · intro hag
          rw [along_iff]
          intro k x hk hb
          exact hap k x (by rw [← hag k (by omega)]; exact hk) hb
      constructor
      · rintro ⟨q, hq, hf⟩
        rw [fits_ovr, key q hq] at hf
        exact ⟨q, hq, hf⟩
      · rintro ⟨q, hq, hf⟩
        exact ⟨q, hq, by rw [fits_ovr, key q hq]; exact hf⟩
end
end Go.Proofs.Ytbglnddjhlefnaa
