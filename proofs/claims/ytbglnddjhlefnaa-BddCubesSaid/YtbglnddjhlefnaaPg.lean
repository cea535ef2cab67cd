/- How many nodes come new. No program. -/
import Derived.Test.YtbglnddjhlefnaaPf
namespace Go.Proofs.Ytbglnddjhlefnaa
/-- A header that is another one below a bit. -/
def ovr (v h : Hd) (b : Nat) : Hd := fun k => if k < b then v k else h k
section
variable {bits : Nat} {N N' : List Nd}
/-- New nodes that mean only so many things at each bit are only so many. -/
theorem count_new (w : WF bits N') (hp : N <+: N') (m : Nat) (Fam : Nat → Nat → Hd → Bool) (hF : ∀ i, N.length + 2 ≤ i → Val N' i → ∃ j, j < m ∧ ∀ h, sem N' i h = Fam (ndAt N' i).b j h) : N'.length ≤ N.length + bits * m := by
  obtain ⟨R, hR⟩ := hp
  have hlen : N'.length = N.length + R.length := by rw [← hR]; simp
  have hex : ∀ k, k < R.length → ∃ j, j < m ∧ ∀ h, sem N' (N.length + 2 + k) h = Fam (ndAt N' (N.length + 2 + k)).b j h := fun k hk => hF _ (by omega) (by unfold Val; omega)
  let f : Nat → Nat := fun k => if hk : k < R.length then (hex k hk).choose else 0
  have hf : ∀ k, k < R.length → f k < m ∧ ∀ h, sem N' (N.length + 2 + k) h = Fam (ndAt N' (N.length + 2 + k)).b (f k) h := fun k hk => by
    have := (hex k hk).choose_spec
    simp only [f, dif_pos hk]
    exact this
  have hb : ∀ k, k < R.length → (ndAt N' (N.length + 2 + k)).b < bits := fun k hk => (w.at_ (by omega) (by unfold Val; omega)).1
  have key := nodup_le (bits * m) ((List.range R.length).map (fun k => (ndAt N' (N.length + 2 + k)).b * m + f k)) ?_ ?_
  · simp at key
    omega
  · rw [List.nodup_iff_pairwise_ne, List.pairwise_map]
    refine List.Pairwise.imp_of_mem (fun {k l} hk hl hkl he => ?_) List.nodup_range
    have hk := List.mem_range.1 hk
    have hl := List.mem_range.1 hl
    obtain ⟨k1, k2⟩ := hf k hk
    obtain ⟨l1, l2⟩ := hf l hl
    have hm : 0 < m := by omega
    have e1 : (ndAt N' (N.length + 2 + k)).b = (ndAt N' (N.length + 2 + l)).b := by
      have h1 : ((ndAt N' (N.length + 2 + k)).b * m + f k) / m = (ndAt N' (N.length + 2 + k)).b := by
        rw [Nat.mul_comm, Nat.mul_add_div hm, Nat.div_eq_of_lt k1, Nat.add_zero]
      have h2 : ((ndAt N' (N.length + 2 + l)).b * m + f l) / m = (ndAt N' (N.length + 2 + l)).b := by
        rw [Nat.mul_comm, Nat.mul_add_div hm, Nat.div_eq_of_lt l1, Nat.add_zero]
      rw [← h1, ← h2, he]
    have e2 : f k = f l := by rw [e1] at he; omega
    have := canon w (a := N.length + 2 + k) (b := N.length + 2 + l) (by unfold Val; omega) (by unfold Val; omega) (fun h => by rw [k2, l2, e1, e2])
    omega
  · intro x hx
    obtain ⟨k, hk, rfl⟩ := List.mem_map.1 hx
    have hk := List.mem_range.1 hk
    have h1 := hb k hk
    have h2 := (hf k hk).1
    have : ((ndAt N' (N.length + 2 + k)).b + 1) * m ≤ bits * m := Nat.mul_le_mul_right _ h1
    rw [Nat.add_mul, Nat.one_mul] at this
    omega
/-- What is left of a function on some way is a function of the row. -/
theorem sub_exists (w : WF bits N) (v : Hd) (b : Nat) : ∀ r, Val N r → ∃ r', Val N r' ∧ ∀ h, sem N r' h = sem N r (ovr v h b) := by
  intro r
  induction r using Nat.strongRecOn with
  | ind r ih =>
    intro hv
    rcases Nat.lt_or_ge (bitOf bits N r) b with hlt | hge
    · rcases Nat.lt_or_ge r 2 with h2 | h2
      · refine ⟨r, hv, fun h => ?_⟩
        have : r = 0 ∨ r = 1 := by omega
        rcases this with rfl | rfl
        · rfl
        · rw [sem_one, sem_one]
      · rw [bitOf_node h2] at hlt
        obtain ⟨_, h3, h4, _⟩ := w.at_ h2 hv
        cases hx : v (ndAt N r).b with
        | true =>
          obtain ⟨r', h5, h6⟩ := ih _ h4 (hv.hi w h2)
          refine ⟨r', h5, fun h => ?_⟩
          rw [h6, sem_node w h2 hv (h := ovr v h b)]
          have : ovr v h b (ndAt N r).b = true := by unfold ovr; rw [if_pos hlt, hx]
          rw [if_pos this]
        | false =>
          obtain ⟨r', h5, h6⟩ := ih _ h3 (hv.lo w h2)
          refine ⟨r', h5, fun h => ?_⟩
          rw [h6, sem_node w h2 hv (h := ovr v h b)]
          have : ovr v h b (ndAt N r).b = false := by unfold ovr; rw [if_pos hlt, hx]
          rw [if_neg (by rw [this]; simp)]
    · refine ⟨r, hv, fun h => ?_⟩
      refine sem_congr w r hv _ _ (fun k hk _ => ?_)
      unfold ovr
      rw [if_neg (by omega)]
/-- What is new in a row of ors is what is left of one of them. -/
theorem or_new {l : List Nat} : ∀ {N : List Nd} {a : Nat}, WF bits N → Val N a → (∀ b ∈ l, Val N b) → ∀ i, N.length + 2 ≤ i → Val (foldC bits false N a l).2 i →
    ∃ j, j ≤ l.length ∧ ∃ v, ∀ h, sem (foldC bits false N a l).2 i h = (sem N a (ovr v h (ndAt (foldC bits false N a l).2 i).b) || (l.take j).any (fun b => sem N b (ovr v h (ndAt (foldC bits false N a l).2 i).b))) := by
  induction l with
  | nil =>
    intro N a w ha _ i hi hv
    unfold Val at hv
    simp only [foldC] at hv
    omega
  | cons b l ih =>
    intro N a w ha hl i hi hv
    have hb := hl b List.mem_cons_self
    have O := chooseF_ok w ha (val1 N) hb
    have e : foldC bits false N a (b :: l) = foldC bits false (chooseF bits N a 1 b).2.1 (chooseF bits N a 1 b).1 l := by rw [foldC]; rfl
    rw [e] at hv ⊢
    generalize chooseF bits N a 1 b = r at O hv
    have hl2 : ∀ c ∈ l, Val r.2.1 c := fun c hc => (hl c (List.mem_cons_of_mem _ hc)).pre O.pre
    have I := foldC_ok false l r.2.1 r.1 O.wf O.val hl2
    have hsr : ∀ h, sem r.2.1 r.1 h = (sem N a h || sem N b h) := fun h => by
      rw [O.sem, sem_pre w O.pre O.wf a ha, sem_pre w O.pre O.wf b hb, sem_one]
      cases sem N a h <;> simp
    rcases Nat.lt_or_ge i (r.2.1.length + 2) with hlt | hge
    · obtain ⟨v, hs⟩ := O.new i hi hlt
      refine ⟨1, by simp, v, fun h => ?_⟩
      rw [sem_pre O.wf I.pre I.wf i hlt, ndAt_pre I.pre (by omega) hlt, hs, hsr]
      show (sem N a (ovr v h _) || sem N b (ovr v h _)) = _
      simp
    · obtain ⟨j, hj, v, hs⟩ := ih O.wf O.val hl2 i hge hv
      refine ⟨j + 1, by simp; omega, v, fun h => ?_⟩
      rw [hs, hsr]
      have e1 : (l.take j).any (fun c => sem r.2.1 c (ovr v h (ndAt (foldC bits false r.2.1 r.1 l).2 i).b)) = (l.take j).any (fun c => sem N c (ovr v h (ndAt (foldC bits false r.2.1 r.1 l).2 i).b)) := by
        rw [Bool.eq_iff_iff, List.any_eq_true, List.any_eq_true]
        constructor
        · rintro ⟨c, hc, q⟩
          exact ⟨c, hc, by rw [← sem_pre w O.pre O.wf c (hl c (List.mem_cons_of_mem _ (List.mem_of_mem_take hc)))]; exact q⟩
        · rintro ⟨c, hc, q⟩
          exact ⟨c, hc, by rw [sem_pre w O.pre O.wf c (hl c (List.mem_cons_of_mem _ (List.mem_of_mem_take hc)))]; exact q⟩
      rw [e1, List.take_succ_cons, List.any_cons, Bool.or_assoc]
end
/-! ### cubes -/
/-- Does a way go along a cube's letters below a bit? (s: the letters from bit i on.) -/
def along (v : Hd) (b : Nat) : List UInt8 → Nat → Bool
  | [], _ => true
  | c :: s, i => (if i < b then (if c = 48 then !v i else if c = 49 then v i else true) else true) && along v b s (i + 1)
/-- Does a header fit a cube's letters from bit b on? -/
def fitsFrom (b : Nat) : List UInt8 → Nat → Hd → Bool
  | [], _, _ => true
  | c :: s, i, h => (if i < b then true else (if c = 48 then !h i else if c = 49 then h i else true)) && fitsFrom b s (i + 1) h
theorem fits_ovr (v h : Hd) (b : Nat) : ∀ (s : List UInt8) (i : Nat), fits s i (ovr v h b) = (along v b s i && fitsFrom b s i h)
  | [], _ => rfl
  | c :: s, i => by
    rw [fits, along, fitsFrom, fits_ovr v h b s (i + 1)]
    unfold ovr
    by_cases hi : i < b
    · simp only [if_pos hi]
      cases (if c = 48 then !v i else if c = 49 then v i else true) <;> simp
    · simp only [if_neg hi]
      cases (if c = 48 then !h i else if c = 49 then h i else true) <;> cases along v b s (i + 1) <;> simp
/-- A set of numbers below n, as a number. -/
def mask (p : Nat → Bool) : Nat → Nat
  | 0 => 0
  | n + 1 => mask p n + if p n then 2 ^ n else 0
theorem mask_lt (p : Nat → Bool) : ∀ n, mask p n < 2 ^ n
  | 0 => by simp [mask]
  | n + 1 => by
    have := mask_lt p n
    rw [mask, Nat.pow_succ]
    split <;> omega
theorem mask_bit (p : Nat → Bool) : ∀ n k, k < n → (mask p n).testBit k = p k
  | 0, k, h => by omega
  | n + 1, k, h => by
    have hlt := mask_lt p n
    rw [mask]
    by_cases hp : p n = true
    · rw [if_pos hp, Nat.add_comm]
      by_cases hk : k = n
      · subst hk
        rw [Nat.testBit_two_pow_add_eq, Nat.testBit_lt_two_pow hlt, hp]
        rfl
      · rw [Nat.testBit_two_pow_add_gt (by omega)]
        exact mask_bit p n k (by omega)
    · rw [if_neg hp, Nat.add_zero]
      by_cases hk : k = n
      · subst hk
        rw [Nat.testBit_lt_two_pow hlt]
        simpa using hp
      · exact mask_bit p n k (by omega)
/-- Of cubes' ors at most so many nodes come new. -/
theorem or_count {bits : Nat} {N : List Nd} (w : WF bits N) {l : List Nat} (hl : ∀ b ∈ l, Val N b) (cs : List (List UInt8)) (hc : cs.length = l.length) (hs : ∀ (k : Nat) (b : Nat) (s : List UInt8), l[k]? = some b → cs[k]? = some s → ∀ h, sem N b h = fits s 0 h) :
    (foldC bits false N 0 l).2.length ≤ N.length + bits * 2 ^ l.length := by
  have I := foldC_ok false l N 0 w (val0 N) hl
  refine count_new I.wf I.pre (2 ^ l.length) (fun b m h => (List.range l.length).any (fun k => m.testBit k && fitsFrom b (cs.getD k []) 0 h)) (fun i hi hv => ?_)
  obtain ⟨j, hj, v, hs2⟩ := or_new w (val0 N) hl i hi hv
  generalize (ndAt (foldC bits false N 0 l).2 i).b = b at hs2 ⊢
  refine ⟨mask (fun k => decide (k < j) && along v b (cs.getD k []) 0) l.length, mask_lt _ _, fun h => ?_⟩
  rw [hs2, sem_zero, Bool.false_or, Bool.eq_iff_iff, List.any_eq_true, List.any_eq_true]
  constructor
  · rintro ⟨c, hc1, hc2⟩
    obtain ⟨k, hk⟩ := List.getElem?_of_mem hc1
    rw [List.getElem?_take] at hk
    split at hk
    · rename_i hkj
      have hkl := (List.getElem?_eq_some_iff.1 hk).1
      have hcs : cs[k]? = some (cs.getD k []) := by rw [List.getD_eq_getElem?_getD, List.getElem?_eq_getElem (by omega)]; rfl
      rw [hs k c _ hk hcs, fits_ovr, Bool.and_eq_true] at hc2
      refine ⟨k, List.mem_range.2 hkl, ?_⟩
      rw [mask_bit _ _ _ hkl, hc2.1, hc2.2]
      simp [hkj]
    · cases hk
  · rintro ⟨k, hk, hk2⟩
    have hkl := List.mem_range.1 hk
    rw [mask_bit _ _ _ hkl] at hk2
    simp only [Bool.and_eq_true, decide_eq_true_eq] at hk2
    obtain ⟨⟨hkj, ha⟩, hf⟩ := hk2
    have hk3 : l[k]? = some l[k] := List.getElem?_eq_getElem hkl
    have hcs : cs[k]? = some (cs.getD k []) := by rw [List.getD_eq_getElem?_getD, List.getElem?_eq_getElem (by omega)]; rfl
    refine ⟨l[k], ?_, ?_⟩
    · rw [List.mem_iff_getElem?]
      exact ⟨k, by rw [List.getElem?_take, if_pos hkj, hk3]⟩
    · rw [hs k _ _ hk3 hcs, fits_ovr, ha, hf]
      rfl
end Go.Proofs.Ytbglnddjhlefnaa
