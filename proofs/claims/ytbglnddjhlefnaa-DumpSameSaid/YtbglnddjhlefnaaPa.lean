/- Diagrams as rows of nodes: what a number means, when two numbers mean the same. No program. -/
namespace Go.Proofs.Ytbglnddjhlefnaa
/-- A node: its bit, what is left where the bit is 0, and where it is 1. -/
abbrev Nd := Nat × Nat × Nat
def Nd.b (n : Nd) : Nat := n.1
def Nd.lo (n : Nd) : Nat := n.2.1
def Nd.hi (n : Nd) : Nat := n.2.2
def nd0 : Nd := (0, 0, 0)
/-- The node of a number. -/
def ndAt (N : List Nd) (a : Nat) : Nd := N.getD (a - 2) nd0
/-- The first bit on which a number hangs. -/
def bitOf (bits : Nat) (N : List Nd) (a : Nat) : Nat := if a < 2 then bits else (ndAt N a).b
def halfOf (bits : Nat) (N : List Nd) (a bit : Nat) (high : Bool) : Nat := if bitOf bits N a ≠ bit then a else if high then (ndAt N a).hi else (ndAt N a).lo
def posOf (n : Nd) : List Nd → Option Nat
  | [] => none
  | x :: l => if x = n then some 0 else (posOf n l).map (· + 1)
/-- The number of a node; a new one, if there is none. -/
def mkN (N : List Nd) (bit low high : Nat) : Nat × List Nd :=
  if low = high then (low, N) else
  match posOf (bit, low, high) N with
  | some i => (i + 2, N)
  | none => (N.length + 2, N ++ [(bit, low, high)])
abbrev Hd := Nat → Bool
def semF (N : List Nd) : Nat → Nat → Hd → Bool
  | 0, a, _ => a == 1
  | f + 1, a, h => if a < 2 then a == 1 else semF N f (if h (ndAt N a).b then (ndAt N a).hi else (ndAt N a).lo) h
/-- What a number means. -/
def sem (N : List Nd) (a : Nat) (h : Hd) : Bool := semF N a a h
structure WF (bits : Nat) (N : List Nd) : Prop where
  nodup : N.Nodup
  ok : ∀ (i : Nat) (n : Nd), N[i]? = some n → n.b < bits ∧ n.lo < i + 2 ∧ n.hi < i + 2 ∧ n.lo ≠ n.hi ∧ n.b < bitOf bits N n.lo ∧ n.b < bitOf bits N n.hi
def Val (N : List Nd) (a : Nat) : Prop := a < N.length + 2
section
variable {bits : Nat} {N N' : List Nd} {a b : Nat} {h g : Hd}
theorem ndAt_some (h2 : 2 ≤ a) (hv : Val N a) : N[a - 2]? = some (ndAt N a) := by
  unfold ndAt Val at *
  rw [List.getD_eq_getElem?_getD, List.getElem?_eq_getElem (by omega)]
  rfl
theorem ndAt_idx (i : Nat) (n : Nd) (hi : N[i]? = some n) : ndAt N (i + 2) = n := by
  unfold ndAt
  rw [List.getD_eq_getElem?_getD, show i + 2 - 2 = i by omega, hi]
  rfl
theorem WF.at_ (w : WF bits N) (h2 : 2 ≤ a) (hv : Val N a) : (ndAt N a).b < bits ∧ (ndAt N a).lo < a ∧ (ndAt N a).hi < a ∧ (ndAt N a).lo ≠ (ndAt N a).hi ∧ (ndAt N a).b < bitOf bits N (ndAt N a).lo ∧ (ndAt N a).b < bitOf bits N (ndAt N a).hi := by
  have := w.ok (a - 2) _ (ndAt_some h2 hv)
  rw [show a - 2 + 2 = a by omega] at this
  exact this
theorem bitOf_node (h2 : 2 ≤ a) : bitOf bits N a = (ndAt N a).b := by unfold bitOf; rw [if_neg (by omega)]
theorem bitOf_end (h2 : a < 2) : bitOf bits N a = bits := by unfold bitOf; rw [if_pos h2]
theorem WF.bit_le (w : WF bits N) (hv : Val N a) : bitOf bits N a ≤ bits := by
  rcases Nat.lt_or_ge a 2 with h2 | h2
  · rw [bitOf_end h2]; exact Nat.le_refl _
  · rw [bitOf_node h2]; exact Nat.le_of_lt (w.at_ h2 hv).1
theorem WF.bit_lt (w : WF bits N) (h2 : 2 ≤ a) (hv : Val N a) : bitOf bits N a < bits := by
  rw [bitOf_node h2]; exact (w.at_ h2 hv).1
theorem semF_enough (w : WF bits N) : ∀ (f a : Nat), Val N a → a ≤ f → ∀ h, semF N f a h = semF N a a h := by
  intro f
  induction f using Nat.strongRecOn with
  | ind f ih =>
    intro a hv hf h
    match f, a with
    | 0, 0 => rfl
    | f + 1, 0 => rfl
    | f + 1, a + 1 =>
      rw [semF, semF]
      by_cases h2 : a + 1 < 2
      · rw [if_pos h2, if_pos h2]
      · rw [if_neg h2, if_neg h2]
        obtain ⟨_, h3, h4, _⟩ := w.at_ (a := a + 1) (by omega) hv
        unfold Val at hv
        generalize hc : (if h (ndAt N (a + 1)).b = true then (ndAt N (a + 1)).hi else (ndAt N (a + 1)).lo) = c
        have hca : c < a + 1 := by rw [← hc]; split <;> assumption
        rw [ih f (by omega) c (by unfold Val; omega) (by omega)]
        by_cases hfa : a = f
        · subst hfa
          rw [ih a (by omega) c (by unfold Val; omega) (by omega)]
        · rw [ih a (by omega) c (by unfold Val; omega) (by omega)]
theorem sem_zero : sem N 0 h = false := rfl
theorem sem_one : sem N 1 h = true := by simp [sem, semF]
theorem sem_node (w : WF bits N) (h2 : 2 ≤ a) (hv : Val N a) : sem N a h = sem N (if h (ndAt N a).b then (ndAt N a).hi else (ndAt N a).lo) h := by
  obtain ⟨_, h3, h4, _⟩ := w.at_ h2 hv
  unfold sem
  generalize hc : (if h (ndAt N a).b = true then (ndAt N a).hi else (ndAt N a).lo) = c
  have hca : c < a := by rw [← hc]; split <;> assumption
  have : semF N a a h = semF N (a - 1) c h := by
    obtain ⟨k, rfl⟩ : ∃ k, a = k + 1 := ⟨a - 1, by omega⟩
    rw [semF, if_neg (by omega), hc]
    rfl
  unfold Val at hv
  rw [this, semF_enough w _ _ (by unfold Val; omega) (by omega)]
theorem Val.lo (w : WF bits N) (h2 : 2 ≤ a) (hv : Val N a) : Val N (ndAt N a).lo := by have := (w.at_ h2 hv).2.1; unfold Val at *; omega
theorem Val.hi (w : WF bits N) (h2 : 2 ≤ a) (hv : Val N a) : Val N (ndAt N a).hi := by have := (w.at_ h2 hv).2.2.1; unfold Val at *; omega
/-- A number means the same where the bits from its first one on are the same. -/
theorem sem_congr (w : WF bits N) : ∀ (a : Nat), Val N a → ∀ (h g : Hd), (∀ k, bitOf bits N a ≤ k → k < bits → h k = g k) → sem N a h = sem N a g := by
  intro a
  induction a using Nat.strongRecOn with
  | ind a ih =>
    intro hv h g hk
    rcases Nat.lt_or_ge a 2 with h2 | h2
    · have : a = 0 ∨ a = 1 := by omega
      rcases this with rfl | rfl
      · rfl
      · rw [sem_one, sem_one]
    · obtain ⟨h0, h3, h4, _, h5, h6⟩ := w.at_ h2 hv
      rw [sem_node w h2 hv, sem_node w h2 hv, hk (ndAt N a).b (by rw [bitOf_node h2]; exact Nat.le_refl _) h0]
      rw [bitOf_node h2] at hk
      split
      · exact ih _ h4 (hv.hi w h2) h g (fun k hk' => hk k (by omega))
      · exact ih _ h3 (hv.lo w h2) h g (fun k hk' => hk k (by omega))
def upd (h : Hd) (k : Nat) (v : Bool) : Hd := fun i => if i = k then v else h i
theorem sem_lo (w : WF bits N) (h2 : 2 ≤ a) (hv : Val N a) : sem N (ndAt N a).lo h = sem N a (upd h (ndAt N a).b false) := by
  obtain ⟨_, _, _, _, h5, _⟩ := w.at_ h2 hv
  rw [sem_node w h2 hv (h := upd h _ false)]
  simp only [upd, if_true, Bool.false_eq_true, if_false]
  exact sem_congr w _ (hv.lo w h2) _ _ (fun k hk _ => by simp only [upd]; rw [if_neg (by omega)])
theorem sem_hi (w : WF bits N) (h2 : 2 ≤ a) (hv : Val N a) : sem N (ndAt N a).hi h = sem N a (upd h (ndAt N a).b true) := by
  obtain ⟨_, _, _, _, _, h5⟩ := w.at_ h2 hv
  rw [sem_node w h2 hv (h := upd h _ true)]
  simp only [upd, if_true]
  exact sem_congr w _ (hv.hi w h2) _ _ (fun k hk _ => by simp only [upd]; rw [if_neg (by omega)])
theorem nodup_idx : ∀ {l : List Nd} (_ : l.Nodup) {i j : Nat} {n : Nd}, l[i]? = some n → l[j]? = some n → i = j := by
  intro l hl i j n hi hj
  obtain ⟨hi', hi⟩ := List.getElem?_eq_some_iff.1 hi
  obtain ⟨hj', hj⟩ := List.getElem?_eq_some_iff.1 hj
  exact (List.getElem_inj hl).1 (hi.trans hj.symm)
theorem ends_apart (ha : a < 2) (hb : b < 2) (hs : ∀ h, sem N a h = sem N b h) : a = b := by
  have h0 := hs (fun _ => false)
  have ha' : a = 0 ∨ a = 1 := by omega
  have hb' : b = 0 ∨ b = 1 := by omega
  rcases ha' with rfl | rfl <;> rcases hb' with rfl | rfl
  · rfl
  · rw [sem_zero, sem_one] at h0; cases h0
  · rw [sem_zero, sem_one] at h0; cases h0
  · rfl
/-- Numbers that mean the same are the same. -/
theorem canon_aux (w : WF bits N) : ∀ (f a b : Nat), a ≤ f → b ≤ f → Val N a → Val N b → (∀ h, sem N a h = sem N b h) → a = b := by
  intro f
  induction f with
  | zero => intro a b ha hb _ _ _; omega
  | succ f ih =>
    have key : ∀ a b : Nat, a ≤ f + 1 → b ≤ f + 1 → Val N a → Val N b → (∀ h, sem N a h = sem N b h) → 2 ≤ a → bitOf bits N a < bitOf bits N b → False := by
      intro a b ha hb hva hvb hs h2 hlt
      obtain ⟨_, h3, h4, h5, _⟩ := w.at_ h2 hva
      refine h5 (ih _ _ (by omega) (by omega) (hva.lo w h2) (hva.hi w h2) (fun h => ?_))
      rw [sem_lo w h2 hva, sem_hi w h2 hva, hs, hs]
      rw [bitOf_node h2] at hlt
      exact sem_congr w b hvb _ _ (fun k hk _ => by simp only [upd]; rw [if_neg (by omega), if_neg (by omega)])
    intro a b ha hb hva hvb hs
    rcases Nat.lt_trichotomy (bitOf bits N a) (bitOf bits N b) with hlt | heq | hlt
    · rcases Nat.lt_or_ge a 2 with h2 | h2
      · rw [bitOf_end h2] at hlt; have := w.bit_le hvb; omega
      · exact (key a b ha hb hva hvb hs h2 hlt).elim
    · rcases Nat.lt_or_ge a 2 with h2 | h2
      · rcases Nat.lt_or_ge b 2 with h3 | h3
        · exact ends_apart h2 h3 hs
        · rw [bitOf_end h2] at heq; have := w.bit_lt h3 hvb; omega
      · rcases Nat.lt_or_ge b 2 with h3 | h3
        · rw [bitOf_end h3] at heq; have := w.bit_lt h2 hva; omega
        · have hbit : (ndAt N a).b = (ndAt N b).b := by rw [bitOf_node h2, bitOf_node h3] at heq; exact heq
          obtain ⟨_, a3, a4, _⟩ := w.at_ h2 hva
          obtain ⟨_, b3, b4, _⟩ := w.at_ h3 hvb
          have e1 : (ndAt N a).lo = (ndAt N b).lo := ih _ _ (by omega) (by omega) (hva.lo w h2) (hvb.lo w h3) (fun h => by rw [sem_lo w h2 hva, sem_lo w h3 hvb, hs, hbit])
          have e2 : (ndAt N a).hi = (ndAt N b).hi := ih _ _ (by omega) (by omega) (hva.hi w h2) (hvb.hi w h3) (fun h => by rw [sem_hi w h2 hva, sem_hi w h3 hvb, hs, hbit])
          have e3 : ndAt N a = ndAt N b := Prod.ext hbit (Prod.ext e1 e2)
          have i1 := ndAt_some h2 hva
          have i2 := ndAt_some h3 hvb
          rw [← e3] at i2
          have := nodup_idx w.nodup i1 i2
          omega
    · rcases Nat.lt_or_ge b 2 with h2 | h2
      · rw [bitOf_end h2] at hlt; have := w.bit_le hva; omega
      · exact (key b a hb ha hvb hva (fun h => (hs h).symm) h2 hlt).elim
theorem canon (w : WF bits N) (hva : Val N a) (hvb : Val N b) (hs : ∀ h, sem N a h = sem N b h) : a = b :=
  canon_aux w (max a b) a b (Nat.le_max_left _ _) (Nat.le_max_right _ _) hva hvb hs
/-! ### rows that grow -/
theorem ndAt_pre (hp : N <+: N') (h2 : 2 ≤ a) (hv : Val N a) : ndAt N' a = ndAt N a := by
  obtain ⟨R, rfl⟩ := hp
  unfold ndAt Val at *
  rw [List.getD_eq_getElem?_getD, List.getD_eq_getElem?_getD, List.getElem?_append_left (by omega)]
theorem Val.pre (hp : N <+: N') (hv : Val N a) : Val N' a := by have := hp.length_le; unfold Val at *; omega
theorem bitOf_pre (hp : N <+: N') (hv : Val N a) : bitOf bits N' a = bitOf bits N a := by
  rcases Nat.lt_or_ge a 2 with h2 | h2
  · rw [bitOf_end h2, bitOf_end h2]
  · rw [bitOf_node h2, bitOf_node h2, ndAt_pre hp h2 hv]
theorem halfOf_pre (hp : N <+: N') (hv : Val N a) (bit : Nat) (hh : bit < bits) (x : Bool) : halfOf bits N' a bit x = halfOf bits N a bit x := by
  unfold halfOf
  rw [bitOf_pre hp hv]
  rcases Nat.lt_or_ge a 2 with h2 | h2
  · rw [bitOf_end h2, if_pos (by omega), if_pos (by omega)]
  · rw [ndAt_pre hp h2 hv]
theorem sem_pre (w : WF bits N) (hp : N <+: N') (w' : WF bits N') : ∀ a, Val N a → ∀ h, sem N' a h = sem N a h := by
  intro a
  induction a using Nat.strongRecOn with
  | ind a ih =>
    intro hv h
    rcases Nat.lt_or_ge a 2 with h2 | h2
    · have : a = 0 ∨ a = 1 := by omega
      rcases this with rfl | rfl
      · rfl
      · rw [sem_one, sem_one]
    · obtain ⟨_, h3, h4, _⟩ := w.at_ h2 hv
      rw [sem_node w h2 hv, sem_node w' h2 (hv.pre hp), ndAt_pre hp h2 hv]
      split
      · exact ih _ h4 (hv.hi w h2) h
      · exact ih _ h3 (hv.lo w h2) h
/-! ### half -/
theorem Val.half (w : WF bits N) (hv : Val N a) (bit : Nat) (hh : bit < bits) (x : Bool) : Val N (halfOf bits N a bit x) := by
  unfold halfOf
  rcases Nat.lt_or_ge a 2 with h2 | h2
  · rw [bitOf_end h2, if_pos (by omega)]; exact hv
  · split
    · exact hv
    · split
      · exact hv.hi w h2
      · exact hv.lo w h2
theorem half_bit (w : WF bits N) (hv : Val N a) (bit : Nat) (hh : bit < bits) (hle : bit ≤ bitOf bits N a) (x : Bool) : bit < bitOf bits N (halfOf bits N a bit x) := by
  unfold halfOf
  rcases Nat.lt_or_ge a 2 with h2 | h2
  · rw [bitOf_end h2, if_pos (by omega), bitOf_end h2]; exact hh
  · obtain ⟨_, _, _, _, h5, h6⟩ := w.at_ h2 hv
    split
    · omega
    · rename_i hb
      rw [bitOf_node h2] at hb
      have hb : (ndAt N a).b = bit := by omega
      split
      · rw [← hb]; exact h6
      · rw [← hb]; exact h5
theorem half_sem (w : WF bits N) (hv : Val N a) (bit : Nat) (hh : bit < bits) (x : Bool) (hx : h bit = x) : sem N (halfOf bits N a bit x) h = sem N a h := by
  unfold halfOf
  rcases Nat.lt_or_ge a 2 with h2 | h2
  · rw [bitOf_end h2, if_pos (by omega)]
  · split
    · rfl
    · rename_i hb
      rw [bitOf_node h2] at hb
      have hb : (ndAt N a).b = bit := by omega
      rw [sem_node w h2 hv, hb, hx]
theorem half_upd (w : WF bits N) (hv : Val N a) (bit : Nat) (hh : bit < bits) (hle : bit ≤ bitOf bits N a) (x : Bool) : sem N (halfOf bits N a bit x) h = sem N a (upd h bit x) := by
  rw [← half_sem w hv bit hh x (h := upd h bit x) (by simp [upd])]
  exact sem_congr w _ (hv.half w bit hh x) _ _ (fun k hk _ => by have := half_bit w hv bit hh hle x; simp only [upd]; rw [if_neg (by omega)])
/-! ### make -/
theorem posOf_some {n : Nd} : ∀ {l : List Nd} {i : Nat}, posOf n l = some i → l[i]? = some n
  | x :: l, i, h => by
    rw [posOf] at h
    by_cases hx : x = n
    · rw [if_pos hx] at h; cases h; simp [hx]
    · rw [if_neg hx, Option.map_eq_some_iff] at h
      obtain ⟨j, hj, rfl⟩ := h
      simpa using posOf_some hj
theorem posOf_none {n : Nd} : ∀ {l : List Nd}, posOf n l = none → n ∉ l
  | [], _ => by simp
  | x :: l, h => by
    rw [posOf] at h
    by_cases hx : x = n
    · rw [if_pos hx] at h; cases h
    · rw [if_neg hx, Option.map_eq_none_iff] at h
      have := posOf_none h
      simp only [List.mem_cons, not_or]
      exact ⟨fun e => hx e.symm, this⟩
theorem mkN_pre (bit low high : Nat) : N <+: (mkN N bit low high).2 := by
  unfold mkN
  split
  · exact List.prefix_refl _
  · split
    · exact List.prefix_refl _
    · exact List.prefix_append _ _
theorem mkN_wf (w : WF bits N) {bit low high : Nat} (hb : bit < bits) (hl : Val N low) (hh : Val N high) (h1 : bit < bitOf bits N low) (h2 : bit < bitOf bits N high) : WF bits (mkN N bit low high).2 := by
  unfold mkN
  split
  · exact w
  · rename_i hne
    split
    · exact w
    · rename_i hp
      have hn := posOf_none hp
      refine ⟨?_, fun i n hi => ?_⟩
      · rw [List.nodup_append]
        exact ⟨w.nodup, by simp, fun x hx y hy => by simp at hy; subst hy; exact fun e => hn (e ▸ hx)⟩
      · have hpre : N <+: N ++ [(bit, low, high)] := List.prefix_append _ _
        rcases Nat.lt_or_ge i N.length with hil | hil
        · rw [List.getElem?_append_left hil] at hi
          obtain ⟨q1, q2, q3, q4, q5, q6⟩ := w.ok i n hi
          exact ⟨q1, q2, q3, q4, by rw [bitOf_pre hpre (by unfold Val; omega)]; exact q5, by rw [bitOf_pre hpre (by unfold Val; omega)]; exact q6⟩
        · have hil2 := (List.getElem?_eq_some_iff.1 hi).1
          rw [List.length_append, List.length_singleton] at hil2
          have : i = N.length := by omega
          subst this
          simp at hi
          subst hi
          unfold Val at hl hh
          exact ⟨hb, by simp only [Nd.lo]; omega, by simp only [Nd.hi]; omega, hne, by rw [bitOf_pre hpre (by unfold Val; exact hl)]; exact h1, by rw [bitOf_pre hpre (by unfold Val; exact hh)]; exact h2⟩
theorem mkN_val {bit low high : Nat} (hl : Val N low) : Val (mkN N bit low high).2 (mkN N bit low high).1 := by
  unfold mkN
  split
  · exact hl
  · split
    · rename_i i hi
      have := (List.getElem?_eq_some_iff.1 (posOf_some hi)).1
      unfold Val
      simp only
      omega
    · unfold Val; simp
theorem mkN_node {bit low high : Nat} (hne : low ≠ high) : ndAt (mkN N bit low high).2 (mkN N bit low high).1 = (bit, low, high) ∧ 2 ≤ (mkN N bit low high).1 := by
  unfold mkN
  rw [if_neg hne]
  split
  · rename_i i hi
    exact ⟨ndAt_idx i _ (posOf_some hi), by simp⟩
  · exact ⟨ndAt_idx _ _ (by simp), by simp⟩
theorem mkN_sem (w : WF bits N) {bit low high : Nat} (hb : bit < bits) (hl : Val N low) (hh : Val N high) (h1 : bit < bitOf bits N low) (h2 : bit < bitOf bits N high) : sem (mkN N bit low high).2 (mkN N bit low high).1 h = if h bit then sem N high h else sem N low h := by
  by_cases hne : low = high
  · subst hne
    unfold mkN
    rw [if_pos rfl]
    simp
  · have w' := mkN_wf w hb hl hh h1 h2
    obtain ⟨q1, q2⟩ := mkN_node (N := N) (bit := bit) hne
    rw [sem_node w' q2 (mkN_val hl), q1]
    by_cases hx : h bit = true
    · rw [if_pos (show h (Nd.b (bit, low, high)) = true from hx), if_pos hx]
      exact sem_pre w (mkN_pre _ _ _) w' _ hh h
    · rw [if_neg (show ¬ h (Nd.b (bit, low, high)) = true from hx), if_neg hx]
      exact sem_pre w (mkN_pre _ _ _) w' _ hl h
theorem mkN_bit {bit low high : Nat} (h1 : bit < bitOf bits N low) : bit ≤ bitOf bits (mkN N bit low high).2 (mkN N bit low high).1 := by
  by_cases hne : low = high
  · subst hne
    unfold mkN
    rw [if_pos rfl]
    exact Nat.le_of_lt h1
  · obtain ⟨q1, q2⟩ := mkN_node (N := N) (bit := bit) hne
    rw [bitOf_node q2, q1]
    exact Nat.le_refl _
/-- What is new in a row is the node that was made. -/
theorem mkN_new {bit low high i : Nat} {n : Nd} (hi : (mkN N bit low high).2[i]? = some n) (hN : N.length ≤ i) : i + 2 = (mkN N bit low high).1 ∧ n = (bit, low, high) := by
  unfold mkN at hi ⊢
  split at hi
  · rw [List.getElem?_eq_none hN] at hi; cases hi
  · rename_i hne
    rw [if_neg hne]
    split at hi
    · rw [List.getElem?_eq_none hN] at hi; cases hi
    · have hil2 := (List.getElem?_eq_some_iff.1 hi).1
      rw [List.length_append, List.length_singleton] at hil2
      have : i = N.length := by omega
      subst this
      simp at hi
      exact ⟨rfl, hi.symm⟩
end
end Go.Proofs.Ytbglnddjhlefnaa
