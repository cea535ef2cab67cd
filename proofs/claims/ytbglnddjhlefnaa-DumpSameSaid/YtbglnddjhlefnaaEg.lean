/- One function, one list; Has; made of any cubes; the walk of DumpSame. -/
import Derived.Test.YtbglnddjhlefnaaPf
import Derived.Test.YtbglnddjhlefnaaDz
import Derived.Test.YtbglnddjhlefnaaPz
import Derived.Test.YtbglnddjhlefnaaWw
namespace Go.Proofs.Ytbglnddjhlefnaa
theorem getG_putG_ne {α β : Type} [DecidableEq α] {k k' : α} {v : β} (hne : k ≠ k') : ∀ (L : List (α × β)), getG (putG L k v) k' = getG L k'
  | [] => by simp [putG, getG, hne]
  | q :: L => by
    rw [putG]
    by_cases hq : q.1 = k
    · rw [if_pos hq, getG, getG, if_neg hne, if_neg (fun e => hne (hq.symm.trans e))]
    · rw [if_neg hq, getG, getG, getG_putG_ne hne L]
section
variable {bits : Nat} {N N1 N2 : List Nd} {a b : Nat}
theorem dep (w : WF bits N) (h2 : 2 ≤ a) (hv : Val N a) : ∃ h, sem N a (upd h (ndAt N a).b false) ≠ sem N a (upd h (ndAt N a).b true) := by
  apply Classical.byContradiction
  intro hno
  have heq : ∀ h, sem N (ndAt N a).lo h = sem N (ndAt N a).hi h := fun h => by
    rw [sem_lo w h2 hv, sem_hi w h2 hv]
    exact Classical.byContradiction (fun hne => hno ⟨h, hne⟩)
  exact (w.at_ h2 hv).2.2.2.1 (canon w (hv.lo w h2) (hv.hi w h2) heq)
theorem nodep (w : WF bits N) (hv : Val N a) (h : Hd) (k : Nat) (x : Bool) (hk : k < bitOf bits N a) : sem N a (upd h k x) = sem N a h :=
  sem_congr w a hv _ _ (fun j hj _ => by simp only [upd]; rw [if_neg (by omega)])
theorem cross_lt (w1 : WF bits N1) (w2 : WF bits N2) (h2 : 2 ≤ a) (hva : Val N1 a) (hvb : Val N2 b) (hs : ∀ h, sem N1 a h = sem N2 b h) : ¬ (ndAt N1 a).b < bitOf bits N2 b := by
  intro hlt
  obtain ⟨h, hne⟩ := dep w1 h2 hva
  apply hne
  rw [hs, hs, nodep w2 hvb h _ _ hlt, nodep w2 hvb h _ _ hlt]
theorem cross_small (w1 : WF bits N1) (w2 : WF bits N2) (h2 : a < 2) (hvb : Val N2 b) (hs : ∀ h, sem N1 a h = sem N2 b h) : b = a := by
  have hc : ∀ h g, sem N1 a h = sem N1 a g := fun h g => by
    have : a = 0 ∨ a = 1 := by omega
    rcases this with rfl | rfl
    · rw [sem_zero, sem_zero]
    · rw [sem_one, sem_one]
  have hb2 : b < 2 := by
    rcases Nat.lt_or_ge b 2 with h | h
    · exact h
    · obtain ⟨g, hne⟩ := dep w2 h hvb
      exact absurd (by rw [← hs, ← hs]; exact hc _ _) hne
  have hq := hs (fun _ => false)
  have ha : a = 0 ∨ a = 1 := by omega
  have hb : b = 0 ∨ b = 1 := by omega
  rcases ha with rfl | rfl <;> rcases hb with rfl | rfl
  · rfl
  · rw [sem_zero, sem_one] at hq; cases hq
  · rw [sem_zero, sem_one] at hq; cases hq
  · rfl
theorem cross_bit (w1 : WF bits N1) (w2 : WF bits N2) (ha : 2 ≤ a) (hb : 2 ≤ b) (hva : Val N1 a) (hvb : Val N2 b) (hs : ∀ h, sem N1 a h = sem N2 b h) : (ndAt N1 a).b = (ndAt N2 b).b := by
  have h1 := cross_lt w1 w2 ha hva hvb hs
  have h2 := cross_lt w2 w1 hb hvb hva (fun h => (hs h).symm)
  rw [bitOf_node hb] at h1
  rw [bitOf_node ha] at h2
  omega
/-- Two memos that say the same of the same functions. -/
def RelD (N1 N2 : List Nd) (D1 D2 : At) : Prop := ∀ x y, Val N1 x → Val N2 y → (∀ h, sem N1 x h = sem N2 y h) → getG D1 x = getG D2 y
theorem walk_same (w1 : WF bits N1) (w2 : WF bits N2) : ∀ (f1 f2 a b : Nat) (L : List Nd) (D1 D2 : At), a ≤ f1 → b ≤ f2 → Val N1 a → Val N2 b → (∀ h, sem N1 a h = sem N2 b h) → RelD N1 N2 D1 D2 →
    (walkF N1 f1 a L D1).1 = (walkF N2 f2 b L D2).1 ∧ (walkF N1 f1 a L D1).2.1 = (walkF N2 f2 b L D2).2.1 ∧ RelD N1 N2 (walkF N1 f1 a L D1).2.2 (walkF N2 f2 b L D2).2.2 := by
  intro f1
  induction f1 with
  | zero =>
    intro f2 a b L D1 D2 ha hb hva hvb hs hR
    have ha0 : a = 0 := by omega
    subst ha0
    have hb0 : b = 0 := cross_small w1 w2 (by omega) hvb hs
    subst hb0
    rw [walkF]
    cases f2 with
    | zero => rw [walkF]; exact ⟨rfl, rfl, hR⟩
    | succ f2 => rw [walkF, if_pos (by omega)]; exact ⟨rfl, rfl, hR⟩
  | succ f1 ih =>
    intro f2 a b L D1 D2 ha hb hva hvb hs hR
    rcases Nat.lt_or_ge a 2 with h2 | h2
    · have hb0 : b = a := cross_small w1 w2 h2 hvb hs
      subst hb0
      rw [walkF, if_pos h2]
      cases f2 with
      | zero => rw [walkF]; exact ⟨rfl, rfl, hR⟩
      | succ f2 => rw [walkF, if_pos h2]; exact ⟨rfl, rfl, hR⟩
    · have hb2 : 2 ≤ b := by
        rcases Nat.lt_or_ge b 2 with h | h
        · have := cross_small w2 w1 h hva (fun h => (hs h).symm)
          omega
        · exact h
      obtain ⟨f2, rfl⟩ : ∃ f, f2 = f + 1 := ⟨f2 - 1, by omega⟩
      have hbit := cross_bit w1 w2 h2 hb2 hva hvb hs
      have hg := hR a b hva hvb hs
      rw [walkF, if_neg (by omega), walkF, if_neg (by omega), ← hg]
      cases hga : getG D1 a with
      | some i => exact ⟨rfl, rfl, hR⟩
      | none =>
        simp only
        obtain ⟨_, p2, p3, _⟩ := w1.at_ h2 hva
        obtain ⟨_, r2, r3, _⟩ := w2.at_ hb2 hvb
        have X := ih f2 (ndAt N1 a).lo (ndAt N2 b).lo L D1 D2 (by omega) (by omega) (hva.lo w1 h2) (hvb.lo w2 hb2) (fun h => by rw [sem_lo w1 h2 hva, sem_lo w2 hb2 hvb, hs, hbit]) hR
        generalize walkF N1 f1 (ndAt N1 a).lo L D1 = x1 at X
        generalize walkF N2 f2 (ndAt N2 b).lo L D2 = x2 at X
        obtain ⟨x1a, x1b, x1c⟩ := x1
        obtain ⟨x2a, x2b, x2c⟩ := x2
        obtain ⟨e1, e2, hR2⟩ := X
        simp only at e1 e2 hR2 ⊢
        subst e1 e2
        have Y := ih f2 (ndAt N1 a).hi (ndAt N2 b).hi x1b x1c x2c (by omega) (by omega) (hva.hi w1 h2) (hvb.hi w2 hb2) (fun h => by rw [sem_hi w1 h2 hva, sem_hi w2 hb2 hvb, hs, hbit]) hR2
        generalize walkF N1 f1 (ndAt N1 a).hi x1b x1c = y1 at Y
        generalize walkF N2 f2 (ndAt N2 b).hi x1b x2c = y2 at Y
        obtain ⟨y1a, y1b, y1c⟩ := y1
        obtain ⟨y2a, y2b, y2c⟩ := y2
        obtain ⟨e1, e2, hR3⟩ := Y
        simp only at e1 e2 hR3 ⊢
        subst e1 e2
        refine ⟨rfl, by rw [hbit], fun x y hx hy hxy => ?_⟩
        by_cases hxa : a = x
        · subst hxa
          have hyb : b = y := canon w2 hvb hy (fun h => by rw [← hs, hxy])
          subst hyb
          rw [getG_putG, getG_putG]
        · have hyb : b ≠ y := fun e => by
            subst e
            exact hxa (canon w1 hva hx (fun h => by rw [hs, hxy]))
          rw [getG_putG_ne hxa, getG_putG_ne hyb]
          exact hR3 x y hx hy hxy
theorem list_same (w1 : WF bits N1) (w2 : WF bits N2) (hva : Val N1 a) (hvb : Val N2 b) (hs : ∀ h, sem N1 a h = sem N2 b h) : listF N1 a = listF N2 b :=
  (walk_same w1 w2 a b a b [] [] [] (Nat.le_refl _) (Nat.le_refl _) hva hvb hs (fun _ _ _ _ _ => rfl)).2.1
end
end Go.Proofs.Ytbglnddjhlefnaa
namespace Go.Proofs.Ytbglnddjhlefnaa
section
variable {bits : Nat} {N L : List Nd} {D : At} {a : Nat}
theorem bit_same {N1 N2 : List Nd} {a b : Nat} (w1 : WF bits N1) (w2 : WF bits N2) (hva : Val N1 a) (hvb : Val N2 b) (hs : ∀ h, sem N1 a h = sem N2 b h) : bitOf bits N1 a = bitOf bits N2 b := by
  rcases Nat.lt_or_ge a 2 with ha | ha
  · have := cross_small w1 w2 ha hvb hs
    subst this
    rw [bitOf_end ha, bitOf_end ha]
  · rcases Nat.lt_or_ge b 2 with hb | hb
    · have := cross_small w2 w1 hb hva (fun h => (hs h).symm)
      omega
    · rw [bitOf_node ha, bitOf_node hb, cross_bit w1 w2 ha hb hva hvb hs]
/-- A list under way, as a table. -/
structure LOk (bits : Nat) (N L : List Nd) (D : At) : Prop where
  wf : WF bits L
  val : ∀ x i, getG D x = some i → Val N x ∧ 2 ≤ x ∧ 2 ≤ i ∧ Val L i ∧ ∀ h, sem L i h = sem N x h
  sur : ∀ i, 2 ≤ i → Val L i → ∃ x, getG D x = some i
theorem walk_ok (w : WF bits N) : ∀ (f a : Nat) (L : List Nd) (D : At), a ≤ f → Val N a → LOk bits N L D →
    LOk bits N (walkF N f a L D).2.1 (walkF N f a L D).2.2 ∧ L <+: (walkF N f a L D).2.1 ∧ Val (walkF N f a L D).2.1 (walkF N f a L D).1 ∧ (∀ h, sem (walkF N f a L D).2.1 (walkF N f a L D).1 h = sem N a h) ∧ ∀ x, a < x → getG (walkF N f a L D).2.2 x = getG D x := by
  intro f
  induction f with
  | zero =>
    intro a L D ha hv hL
    have : a = 0 := by omega
    subst this
    rw [walkF]
    exact ⟨hL, List.prefix_refl _, by unfold Val; omega, fun h => by rw [sem_zero, sem_zero], fun _ _ => rfl⟩
  | succ f ih =>
    intro a L D ha hv hL
    rw [walkF]
    rcases Nat.lt_or_ge a 2 with h2 | h2
    · rw [if_pos h2]
      refine ⟨hL, List.prefix_refl _, by unfold Val; omega, fun h => ?_, fun _ _ => rfl⟩
      have : a = 0 ∨ a = 1 := by omega
      rcases this with rfl | rfl
      · rw [sem_zero, sem_zero]
      · rw [sem_one, sem_one]
    · rw [if_neg (by omega)]
      cases hg : getG D a with
      | some i =>
        obtain ⟨_, _, _, v4, v5⟩ := hL.val a i hg
        exact ⟨hL, List.prefix_refl _, v4, v5, fun _ _ => rfl⟩
      | none =>
        simp only
        obtain ⟨q1, q2, q3, q4, q5, q6⟩ := w.at_ h2 hv
        have hvl := hv.lo w h2
        have hvh := hv.hi w h2
        obtain ⟨x1, x2, x3, x4, x5⟩ := ih (ndAt N a).lo L D (by omega) hvl hL
        generalize walkF N f (ndAt N a).lo L D = x at x1 x2 x3 x4 x5
        obtain ⟨y1, y2, y3, y4, y5⟩ := ih (ndAt N a).hi x.2.1 x.2.2 (by omega) hvh x1
        generalize walkF N f (ndAt N a).hi x.2.1 x.2.2 = y at y1 y2 y3 y4 y5
        have x3' := x3.pre y2
        have x4' : ∀ h, sem y.2.1 x.1 h = sem N (ndAt N a).lo h := fun h => by rw [sem_pre x1.wf y2 y1.wf x.1 x3, x4]
        have hna : getG y.2.2 a = none := by rw [y5 a q3, x5 a q2, hg]
        have b1 := bit_same y1.wf w x3' hvl x4'
        have b2 := bit_same y1.wf w y3 hvh y4
        have hne : x.1 ≠ y.1 := fun e => q4 (canon w hvl hvh (fun h => by rw [← x4', ← y4, e]))
        have hms : ∀ h, sem (mkN y.2.1 (ndAt N a).b x.1 y.1).2 (mkN y.2.1 (ndAt N a).b x.1 y.1).1 h = sem N a h := fun h => by
          rw [mkN_sem y1.wf q1 x3' y3 (by omega) (by omega), x4', y4, sem_node w h2 hv (h := h)]
          cases h (ndAt N a).b <;> simp
        have hmw := mkN_wf y1.wf q1 x3' y3 (by omega) (by omega) (bits := bits) (bit := (ndAt N a).b) (low := x.1) (high := y.1)
        have hmv := mkN_val (N := y.2.1) (bit := (ndAt N a).b) (low := x.1) (high := y.1) x3'
        have hmp := mkN_pre (N := y.2.1) (ndAt N a).b x.1 y.1
        have hmk : mkN y.2.1 (ndAt N a).b x.1 y.1 = (y.2.1.length + 2, y.2.1 ++ [((ndAt N a).b, x.1, y.1)]) := by
          cases hp : posOf ((ndAt N a).b, x.1, y.1) y.2.1 with
          | none => unfold mkN; rw [if_neg hne, hp]
          | some j =>
            exfalso
            have he : mkN y.2.1 (ndAt N a).b x.1 y.1 = (j + 2, y.2.1) := by unfold mkN; rw [if_neg hne, hp]
            rw [he] at hms hmv
            obtain ⟨z, hz⟩ := y1.sur (j + 2) (by omega) hmv
            obtain ⟨v1, _, _, _, v5⟩ := y1.val z _ hz
            have : z = a := canon w v1 hv (fun h => by rw [← v5, hms])
            rw [this, hna] at hz
            cases hz
        rw [hmk] at hms hmw hmv hmp
        simp only at hms hmw hmv hmp
        refine ⟨⟨hmw, ?_, ?_⟩, x2.trans (y2.trans hmp), hmv, hms, ?_⟩
        · intro z i hz
          by_cases hza : a = z
          · subst hza
            rw [getG_putG] at hz
            injection hz with hz
            subst hz
            exact ⟨hv, h2, by omega, hmv, hms⟩
          · rw [getG_putG_ne hza] at hz
            obtain ⟨v1, v2, v3, v4, v5⟩ := y1.val z i hz
            exact ⟨v1, v2, v3, v4.pre hmp, fun h => by rw [sem_pre y1.wf hmp hmw i v4, v5]⟩
        · intro i hi hvi
          rcases Nat.lt_or_ge i (y.2.1.length + 2) with hlt | hge
          · obtain ⟨z, hz⟩ := y1.sur i hi hlt
            have hza : a ≠ z := fun e => by rw [← e, hna] at hz; cases hz
            exact ⟨z, by rw [getG_putG_ne hza]; exact hz⟩
          · have : i = y.2.1.length + 2 := by unfold Val at hvi; simp at hvi; omega
            exact ⟨a, by rw [getG_putG, this]⟩
        · intro z hz
          rw [getG_putG_ne (by omega), y5 z (by omega), x5 z (by omega)]
theorem walk_root (N : List Nd) (f a : Nat) (h2 : 2 ≤ a) : (walkF N (f + 1) a [] []).1 = (walkF N (f + 1) a [] []).2.1.length + 1 ∧ 0 < (walkF N (f + 1) a [] []).2.1.length := by
  rw [walkF, if_neg (by omega)]
  simp [getG]
/-- What the list of a node says. -/
theorem list_sem (w : WF bits N) (hv : Val N a) (h2 : 2 ≤ a) : WF bits (listF N a) ∧ 0 < (listF N a).length ∧ ∀ h, sem (listF N a) ((listF N a).length + 1) h = sem N a h := by
  have hL : LOk bits N [] [] := ⟨⟨List.nodup_nil, fun i n hi => by simp at hi⟩, fun x i hx => by simp [getG] at hx, fun i h1 h2 => by unfold Val at h2; simp at h2; omega⟩
  obtain ⟨f, rfl⟩ : ∃ f, a = f + 1 := ⟨a - 1, by omega⟩
  have W := walk_ok w (f + 1) (f + 1) [] [] (Nat.le_refl _) hv hL
  have R := walk_root N f (f + 1) h2
  unfold listF
  refine ⟨W.1.wf, R.2, fun h => ?_⟩
  rw [← R.1]
  exact W.2.2.2.1 h
theorem list_small (h2 : a < 2) : listF N a = [] := by
  unfold listF
  cases a with
  | zero => rfl
  | succ a => rw [walkF, if_pos h2]
/-- One list, one function. -/
theorem list_back {N1 N2 : List Nd} {a b : Nat} (w1 : WF bits N1) (w2 : WF bits N2) (hva : Val N1 a) (hvb : Val N2 b) (hl : listF N1 a = listF N2 b) (h0 : listF N1 a = [] → a = b) : ∀ h, sem N1 a h = sem N2 b h := by
  intro h
  rcases Nat.lt_or_ge a 2 with ha | ha
  · have := h0 (list_small ha)
    subst this
    have : a = 0 ∨ a = 1 := by omega
    rcases this with rfl | rfl
    · rw [sem_zero, sem_zero]
    · rw [sem_one, sem_one]
  · have A := list_sem w1 hva ha
    have hb : 2 ≤ b := by
      rcases Nat.lt_or_ge b 2 with hb | hb
      · have := list_small (N := N2) hb
        rw [hl, this] at A
        simp at A
      · exact hb
    have B := list_sem w2 hvb hb
    rw [← A.2.2 h, ← B.2.2 h, hl]
end
end Go.Proofs.Ytbglnddjhlefnaa
namespace Go.Proofs.Ytbglnddjhlefnaa
section
variable {bits : Nat} {N L : List Nd} {D : At} {a : Nat}
theorem LOk.len (h : LOk bits N L D) : L.length ≤ N.length := by
  have hx : ∀ i : Nat, ∃ x, i < L.length → getG D x = some (i + 2) := fun i => by
    by_cases hi : i < L.length
    · obtain ⟨x, hx⟩ := h.sur (i + 2) (by omega) (by unfold Val; omega)
      exact ⟨x, fun _ => hx⟩
    · exact ⟨0, fun h => absurd h hi⟩
  let g : Nat → Nat := fun i => Classical.choose (hx i)
  have hg : ∀ i, i < L.length → getG D (g i) = some (i + 2) := fun i hi => Classical.choose_spec (hx i) hi
  have hn : ((List.range L.length).map g).Nodup := by
    unfold List.Nodup
    rw [List.pairwise_map]
    refine List.Pairwise.imp_of_mem ?_ (List.nodup_range (n := L.length))
    intro i j hi hj hij e
    have h1 := hg i (List.mem_range.1 hi)
    have h2 := hg j (List.mem_range.1 hj)
    rw [e, h2] at h1
    injection h1 with h1
    omega
  have := used_le hn (N := N) (fun x hx => by
    obtain ⟨i, hi, rfl⟩ := List.mem_map.1 hx
    obtain ⟨v1, v2, _⟩ := h.val _ _ (hg i (List.mem_range.1 hi))
    exact ⟨v2, v1⟩)
  simpa using this
theorem listF_ok (w : WF bits N) (hv : Val N a) : (listF N a).length ≤ N.length ∧ WF bits (listF N a) ∧ ((listF N a).length = 0 → a < 2) := by
  have hL : LOk bits N [] [] := ⟨⟨List.nodup_nil, fun i n hi => by simp at hi⟩, fun x i hx => by simp [getG] at hx, fun i h1 h2 => by unfold Val at h2; simp at h2; omega⟩
  have W := walk_ok w a a [] [] (Nat.le_refl _) hv hL
  refine ⟨W.1.len, W.1.wf, fun h0 => ?_⟩
  rcases Nat.lt_or_ge a 2 with h2 | h2
  · exact h2
  · have := (list_sem w hv h2).2.1
    omega
end
end Go.Proofs.Ytbglnddjhlefnaa
namespace Go.Proofs.Ytbglnddjhlefnaa
theorem u8_inj {x y : Nat} (h : UInt8.ofNat x = UInt8.ofNat y) : x % 256 = y % 256 := by
  have := congrArg UInt8.toNat h
  simpa using this
theorem be4_inj {n m : Nat} (hn : n < 4294967296) (hm : m < 4294967296) (h : be4 n = be4 m) : n = m := by
  unfold be4 at h
  simp only [List.cons.injEq, and_true] at h
  obtain ⟨h1, h2, h3, h4⟩ := h
  have h1 := u8_inj h1
  have h2 := u8_inj h2
  have h3 := u8_inj h3
  have h4 := u8_inj h4
  omega
theorem be4_len (n : Nat) : (be4 n).length = 4 := rfl
theorem nodeB_inj {n m : Nd} (h1 : n.1 < 256 ∧ n.2.1 < 4294967296 ∧ n.2.2 < 4294967296) (h2 : m.1 < 256 ∧ m.2.1 < 4294967296 ∧ m.2.2 < 4294967296) (h : nodeB n = nodeB m) : n = m := by
  obtain ⟨x, y, z⟩ := n
  obtain ⟨x', y', z'⟩ := m
  unfold nodeB at h
  rw [List.cons.injEq] at h
  obtain ⟨e1, e2⟩ := h
  have e1 := u8_inj e1
  obtain ⟨e3, e4⟩ := List.append_inj e2 rfl
  have e3 := be4_inj h1.2.1 h2.2.1 e3
  have e4 := be4_inj h1.2.2 h2.2.2 e4
  have e1 : x = x' := by
    have := h1.1
    have := h2.1
    simp only at *
    omega
  simp only at e3 e4
  rw [e1, e3, e4]
theorem flat_inj : ∀ (L1 L2 : List Nd), (∀ n ∈ L1, n.1 < 256 ∧ n.2.1 < 4294967296 ∧ n.2.2 < 4294967296) → (∀ n ∈ L2, n.1 < 256 ∧ n.2.1 < 4294967296 ∧ n.2.2 < 4294967296) → L1.length = L2.length → L1.flatMap nodeB = L2.flatMap nodeB → L1 = L2
  | [], [], _, _, _, _ => rfl
  | [], m :: L2, _, _, hl, _ => by simp at hl
  | n :: L1, [], _, _, hl, _ => by simp at hl
  | n :: L1, m :: L2, h1, h2, hl, h => by
    rw [List.flatMap_cons, List.flatMap_cons] at h
    obtain ⟨e1, e2⟩ := List.append_inj h rfl
    rw [nodeB_inj (h1 n (by simp)) (h2 m (by simp)) e1, flat_inj L1 L2 (fun x hx => h1 x (by simp [hx])) (fun x hx => h2 x (by simp [hx])) (by simpa using hl) e2]
theorem writeB_inj {bits a b : Nat} {L1 L2 : List Nd} (h1 : L1.length ≤ 1000000 ∧ ∀ n ∈ L1, n.1 < 256 ∧ n.2.1 < 4294967296 ∧ n.2.2 < 4294967296) (h2 : L2.length ≤ 1000000 ∧ ∀ n ∈ L2, n.1 < 256 ∧ n.2.1 < 4294967296 ∧ n.2.2 < 4294967296) (ha : L1.length = 0 → a < 2) (hb : L2.length = 0 → b < 2) : writeB bits L1 a = writeB bits L2 b ↔ L1 = L2 ∧ (L1 = [] → a = b) := by
  constructor
  · intro h
    unfold writeB at h
    rw [List.cons_append, List.cons_append, List.cons.injEq] at h
    obtain ⟨_, h⟩ := h
    obtain ⟨e1, e2⟩ := List.append_inj h rfl
    have hl := be4_inj (by have := h1.1; omega) (by have := h2.1; omega) e1
    by_cases h0 : L1.length = 0
    · rw [if_pos h0, if_pos (by omega)] at e2
      rw [List.cons.injEq] at e2
      have e2 := u8_inj e2.1
      have := ha h0
      have := hb (by omega)
      have q1 : L1 = [] := List.eq_nil_of_length_eq_zero h0
      have q2 : L2 = [] := List.eq_nil_of_length_eq_zero (by omega)
      exact ⟨by rw [q1, q2], fun _ => by omega⟩
    · rw [if_neg h0, if_neg (by omega)] at e2
      exact ⟨flat_inj L1 L2 h1.2 h2.2 hl e2, fun e => by rw [e] at h0; exact absurd rfl h0⟩
  · rintro ⟨rfl, h⟩
    unfold writeB
    by_cases h0 : L1.length = 0
    · rw [if_pos h0, if_pos h0, h (List.eq_nil_of_length_eq_zero h0)]
    · rw [if_neg h0, if_neg h0]
end Go.Proofs.Ytbglnddjhlefnaa
namespace Go.Proofs.Ytbglnddjhlefnaa
/-- The header of a number. -/
def hdK (bits k : Nat) : Hd := fun j => decide (j < bits) && k.testBit j
theorem all_hd {bits : Nat} {N1 N2 : List Nd} {a b : Nat} (w1 : WF bits N1) (w2 : WF bits N2) (hva : Val N1 a) (hvb : Val N2 b) (h : ∀ k, k < 2 ^ bits → sem N1 a (hdK bits k) = sem N2 b (hdK bits k)) : ∀ g, sem N1 a g = sem N2 b g := by
  intro g
  have hm := h (mask g bits) (mask_lt g bits)
  have he : ∀ j, j < bits → hdK bits (mask g bits) j = g j := fun j hj => by
    unfold hdK
    rw [mask_bit g bits j hj]
    simp [hj]
  rw [sem_congr w1 a hva g (hdK bits (mask g bits)) (fun j _ hj => (he j hj).symm), hm, sem_congr w2 b hvb (hdK bits (mask g bits)) g (fun j _ hj => he j hj)]
/-- The law of DumpSame, plain: the lists are the same where all headers of the width are answered alike. -/
theorem same_iff {bits : Nat} {N1 N2 : List Nd} {a b : Nat} (w1 : WF bits N1) (w2 : WF bits N2) (hva : Val N1 a) (hvb : Val N2 b) : (∀ k, k < 2 ^ bits → sem N1 a (hdK bits k) = sem N2 b (hdK bits k)) ↔ (listF N1 a = listF N2 b ∧ (listF N1 a = [] → a = b)) := by
  constructor
  · intro h
    have hs := all_hd w1 w2 hva hvb h
    refine ⟨list_same w1 w2 hva hvb hs, fun he => ?_⟩
    have ha := (listF_ok w1 hva).2.2 (by rw [he]; rfl)
    exact (cross_small w1 w2 ha hvb hs).symm
  · rintro ⟨h1, h2⟩ k _
    exact list_back w1 w2 hva hvb h1 h2 _
end Go.Proofs.Ytbglnddjhlefnaa
namespace Go.Proofs.Ytbglnddjhlefnaa
open Go Go.RowKit Go.Proofs.YtbglnddjhlefnaaW.PrintWords Go.Proofs.YtbglnddjhlefnaaW.PrintLast Go.Proofs.YtbglnddjhlefnaaW.PrintMore
/-- A header out of its letters. -/
def hdr (s : ByteArray) : Hd := fun i => s.data.toList[i]? == some 49
section
variable {g : Nat} {S : Nat → Prop} {T : Bd} {w w' : World}
set_option maxRecDepth 100000 in
set_option maxHeartbeats 4000000 in
theorem Has_w (h : Tab g S T w) (hf : Fine T) (hN : T.N.length ≤ 4000000000) (a : Nat) (hok : okR T.refs (a : Int) = true) (s : ByteArray) (hs : s.size = T.bits) (hl : ∀ k (hk : k < s.size), s[k] = 48 ∨ s[k] = 49) :
    Calls Try.prog 11 #[.pointer (some ⟨g, 0, none⟩), .int .i64 a, .string s] w fun e w' => e = .returned (.tuple #[.bool (sem T.N a (hdr s)), .int .i64 0]) ∧ Below w.heap.size w w' := by
  have hb0 := below_alloc (Below.refl _ (w.alloc (.cells #[.int .i64 0] 30))) (.cells #[.int .i64 a] 26)
  have hbe := below_alloc (Below.refl w.heap.size w) (.cells #[.int .i64 0] 30)
  have HC : Hid (Calls Try.prog 37 #[.pointer (some ⟨g, 0, none⟩), .slice (some ⟨w.heap.size + 1, 0, none⟩) 1 1] ((w.alloc (.cells #[.int .i64 0] 30)).alloc (.cells #[.int .i64 a] 26)) fun e w' => e = .returned (.tuple #[]) ∧ Below ((w.alloc (.cells #[.int .i64 0] 30)).alloc (.cells #[.int .i64 a] 26)).heap.size ((w.alloc (.cells #[.int .i64 0] 30)).alloc (.cells #[.int .i64 a] 26)) w') :=
    Lib.hid (ask_yes (xs := [(a : Int)]) ((h.below hbe).below hb0) (new_refs [(a : Int)] _ rfl (w.alloc (.cells #[.int .i64 0] 30)) (by simp) _ _ (World.size_alloc _ _).symm rfl) (by simp) (by simpa using hok))
  have hbw : Below w.heap.size w ((w.alloc (.cells #[.int .i64 0] 30)).alloc (.cells #[.int .i64 a] 26)) := below_alloc hbe _
  have HBW := Lib.hid hbw
  have HB0 := Lib.hid hb0
  have H0 := Lib.hid h
  have HF := Lib.hid hf
  have HV := Lib.hid (okR_val hf hok)
  have HNN := Lib.hid hN
  have HS := Lib.hid hs
  have HLL := Lib.hid hl
  have hsz := hf.b2
  rw [← hs] at hsz
  have t1 : ((s.size : Int) != (s.size : Int)) = false := by simp
  have HSZ : Hid ((w.alloc (.cells #[.int .i64 0] 30)).heap.size = w.heap.size + 1) := Lib.hid (World.size_alloc _ _)
  clear h hf hN hok hb0 hbe hbw hs hl
  go_enter_defers Try.func11, Try.ntmps11
  go_wp2_with fail
  refine HC.out.mono ?_
  rintro e w1 ⟨rfl, hb1⟩
  have hbw1 := below_trans' HBW.out hb1 HBW.out.size
  have heb : Eb w.heap.size 0 w1 := (Eb.made 0 w).below (below_trans' HB0.out hb1 HB0.out.size)
  have HW1 := Lib.hid hbw1
  have HE1 := Lib.hid heb
  obtain ⟨rb, ub, kb, v, hA⟩ := id (H0.out.below hbw1)
  have d2 := blk_cell hA.box 2 (.int .i64 T.bits) rfl
  rw [← HS.out] at d2
  clear hb1 hbw1 heb HC HBW HB0 hA
  have hcv := run_bytes_of_string (P := Try.prog) w1 9 29 5 s Try.underlying9 Try.underlying29 Try.underlying5
  obtain ⟨cap, hcap⟩ : ∃ cap, cap = grownCap w1 s.size 0 5 := ⟨_, rfl⟩
  rw [← hcap] at hcv
  obtain ⟨W2, hW2⟩ : ∃ W2, W2 = w1.drew.alloc (.cells (bytesRow s cap) 5 ((bytesRow s cap).size, (bytesRow s cap).size + 1)) := ⟨_, rfl⟩
  rw [← hW2] at hcv
  have HCV := Lib.hid hcv
  have hB2 : Below w1.heap.size w1 W2 := by
    rw [hW2]
    have := below_alloc (Below.refl w1.drew.heap.size w1.drew) (.cells (bytesRow s cap) 5 ((bytesRow s cap).size, (bytesRow s cap).size + 1))
    exact ⟨this.os, this.tape, this.output, this.size, this.block⟩
  have hW2h : W2.heap[w1.heap.size]? = some (.cells (bytesRow s cap) 5 ((bytesRow s cap).size, (bytesRow s cap).size + 1)) := by
    rw [hW2]
    exact heap_alloc_new w1.drew _
  have HCL : Hid (∀ j (hj : j < s.size), W2.cell? ⟨w1.heap.size, j, none⟩ = some (.int .u8 (s[j].toNat : Nat))) := Lib.hid (fun j hj => by
    rw [cell_of_row W2 w1.heap.size j (bytesRow s cap) 5 _ hW2h]
    unfold bytesRow
    rw [Array.getElem?_append_left (by simpa using hj), Array.getElem?_map]
    have : s.data[j]? = some s[j] := Array.getElem?_eq_getElem hj
    rw [this]
    rfl)
  have HB2 := Lib.hid hB2
  clear hcv hcap hW2 hB2 hW2h
  go_wp2_with fail
  rw [HCV.out]
  have hbw2 := below_trans' HW1.out HB2.out HW1.out.size
  have heb2 : Eb w.heap.size 0 W2 := HE1.out.below HB2.out
  have HST : Hid (Tab g S T W2 ∧ Eb w.heap.size 0 W2 ∧ Below w.heap.size w W2) := Lib.hid ⟨H0.out.below hbw2, heb2, hbw2⟩
  generalize w1.heap.size = q at HCL ⊢
  have hnn : (s.size : Int) ≤ 128 := by omega
  clear d2 hbw2 heb2 HB2 HW1 HE1 HCV H0
  go_wp2_with fail
  go_loopw [26] (fun v26 wr => ∃ i : Nat, v26 = .int .i64 i ∧ i ≤ s.size ∧ wr = W2) (fun v26 _ => s.size - (intOf v26).toNat)
  case atStart => exact ⟨0, rfl, Nat.zero_le _, rfl⟩
  case round =>
    obtain ⟨i, rfl, hi2, rfl⟩ := hrel
    by_cases hlt : i < s.size
    · have hi64 : (i : Int) < (s.size : Int) := by omega
      have hi64b : decide ((i : Int) < (s.size : Int)) = true := decide_eq_true hi64
      have hi0 : (0 : Int) ≤ (i : Int) := by omega
      have c0 := HCL.out i hlt
      rcases HLL.out i hlt with hc | hc
      · rw [hc] at c0
        have c0 : wr.cell? ⟨q, i, none⟩ = some (.int .u8 48) := c0
        clear hc
        go_wp2_with fail
        go_roundw
        case rel => exact ⟨i + 1, by go_num, by omega, trivial⟩
        case measure => simp [intOf]; omega
      · rw [hc] at c0
        have c0 : wr.cell? ⟨q, i, none⟩ = some (.int .u8 49) := c0
        clear hc
        go_wp2_with fail
        go_roundw
        case rel => exact ⟨i + 1, by go_num, by omega, trivial⟩
        case measure => simp [intOf]; omega
    · have hi64b : decide ((i : Int) < (s.size : Int)) = false := decide_eq_false (by omega)
      have hi64c : decide (i < s.size) = false := decide_eq_false hlt
      obtain ⟨ans, hans⟩ : ∃ ans, ans = sem T.N a (hdr s) := ⟨_, rfl⟩
      have HA := Lib.hid hans
      clear HCL hans
      go_wp2_with fail
      go_loopw [10] (fun v10 wx => ∃ n : Nat, v10 = .int .i64 n ∧ Hid (Val T.N n ∧ sem T.N n (hdr s) = ans) ∧ Hid (Tab g S T wx ∧ Eb w.heap.size 0 wx ∧ Below w.heap.size w wx)) (fun v10 _ => (intOf v10).toNat)
      case atStart => exact ⟨a, rfl, Lib.hid ⟨HV.out, HA.out.symm⟩, HST⟩
      case round =>
        clear HST
        obtain ⟨n, rfl, hn1, hrel⟩ := hrel
        by_cases h2 : n < 2
        · have u1 : decide (1 < (n : Int)) = false := decide_eq_false (by omega)
          have u2 : decide (1 < n) = false := decide_eq_false (by omega)
          have heb := hrel.out.2.1
          have f0 := blk_free heb 0
          have c0 := blk_cell heb 0 (.int .i64 0) rfl
          have hb3 : Eb w.heap.size 0 (wr.setCell ⟨w.heap.size, 0, none⟩ (.int .i64 0)) := by
            have := blk_set heb 0 (.int .i64 0)
            simpa [Eb] using this
          have HB3 := Lib.hid hb3
          have HBW := Lib.hid hrel.out.2.2
          have hq := hn1.out.2
          clear hrel heb hb3
          have hn01 : n = 0 ∨ n = 1 := by omega
          rcases hn01 with rfl | rfl
          · rw [sem_zero] at hq
            have HQ := Lib.hid hq
            clear hq hn1 h2
            go_wp2_with fail
            refine leave_ok rfl rfl HB3.out rfl ⟨?_, HBW.out.setCell (p := ⟨w.heap.size, 0, none⟩) (Nat.le_refl _) _⟩
            rw [← HA.out, ← HQ.out]
            rfl
          · rw [sem_one] at hq
            have HQ := Lib.hid hq
            clear hq hn1 h2
            go_wp2_with fail
            refine leave_ok rfl rfl HB3.out rfl ⟨?_, HBW.out.setCell (p := ⟨w.heap.size, 0, none⟩) (Nat.le_refl _) _⟩
            rw [← HA.out, ← HQ.out]
            rfl
        · have u1 : decide (1 < (n : Int)) = true := decide_eq_true (by omega)
          have u2 : decide (1 < n) = true := decide_eq_true (by omega)
          have hn2 : 2 ≤ n := by omega
          have hwf := HF.out.wf
          obtain ⟨q1, q2, q3, q4, q5, q6⟩ := hwf.at_ hn2 hn1.out.1
          have hbn := bitOf_node (bits := T.bits) (N := T.N) hn2
          have HBI := Lib.hid (fun wx (h : Tab g S T wx) => bit_w h n hn1.out.1 HNN.out)
          have hbl : bitOf T.bits T.N n < T.bits := by rw [hbn]; exact q1
          have HHA := Lib.hid (fun wx (h : Tab g S T wx) x => half_w h n (bitOf T.bits T.N n) hn1.out.1 HNN.out hbl x)
          have hnx : ∀ x, (hdr s) (bitOf T.bits T.N n) = x → Val T.N (halfOf T.bits T.N n (bitOf T.bits T.N n) x) ∧ sem T.N (halfOf T.bits T.N n (bitOf T.bits T.N n) x) (hdr s) = ans ∧ halfOf T.bits T.N n (bitOf T.bits T.N n) x < n := fun x hx => by
            refine ⟨hn1.out.1.half hwf _ hbl x, by rw [half_sem hwf hn1.out.1 _ hbl x hx]; exact hn1.out.2, ?_⟩
            unfold halfOf
            rw [if_neg (by simp)]
            cases x
            · exact q2
            · exact q3
          have HNX := Lib.hid hnx
          generalize bitOf T.bits T.N n = bit at HBI hbl HHA HNX
          have hbs : bit < s.size := by rw [HS.out]; exact hbl
          have hb0 : (0 : Int) ≤ (bit : Int) := by omega
          have hb1 : (bit : Int) < (s.size : Int) := by omega
          have hbit := HLL.out bit hbs
          have hhd : hdr s bit = (s[bit] == 49) := by
            unfold hdr
            have : s.data.toList[bit]? = some s[bit] := List.getElem?_eq_getElem (show bit < s.data.toList.length from hbs)
            rw [this]
            rfl
          obtain ⟨x, hx⟩ : ∃ x, x = (s[bit] == 49) := ⟨_, rfl⟩
          have hcm : ((s[bit].toNat : Int) == 49) = x := by
            rw [hx]
            rcases hbit with h | h <;> rw [h] <;> rfl
          have HXX := Lib.hid (HNX.out x (hhd.trans hx.symm))
          have HR := Lib.hid hrel.out
          clear hrel q1 q2 q3 q4 q5 q6 hbn hnx hhd hx hbit hwf hn1 HNX hbl
          go_wp2_with fail
          refine (HBI.out wr HR.out.1).mono ?_
          rintro e w5 ⟨rfl, hb5⟩
          have R5 : Hid (Tab g S T w5 ∧ Eb w.heap.size 0 w5 ∧ Below w.heap.size w w5) := Lib.hid ⟨HR.out.1.below hb5, HR.out.2.1.below hb5, below_trans' HR.out.2.2 hb5 HR.out.2.2.size⟩
          clear hb5
          go_wp2_with fail
          refine (HBI.out w5 R5.out.1).mono ?_
          rintro e w6 ⟨rfl, hb6⟩
          have R6 : Hid (Tab g S T w6 ∧ Eb w.heap.size 0 w6 ∧ Below w.heap.size w w6) := Lib.hid ⟨R5.out.1.below hb6, R5.out.2.1.below hb6, below_trans' R5.out.2.2 hb6 R5.out.2.2.size⟩
          clear hb6
          go_wp2_with fail
          refine (HHA.out w6 R6.out.1 x).mono ?_
          rintro e w7 ⟨rfl, hb7⟩
          have R7 : Hid (Tab g S T w7 ∧ Eb w.heap.size 0 w7 ∧ Below w.heap.size w w7) := Lib.hid ⟨R6.out.1.below hb7, R6.out.2.1.below hb7, below_trans' R6.out.2.2 hb7 R6.out.2.2.size⟩
          clear hb7
          go_wp2_with fail
          go_roundw
          case rel => exact ⟨_, rfl, Lib.hid ⟨HXX.out.1, HXX.out.2.1⟩, R7⟩
          case measure => have := HXX.out.2.2; simp [intOf]; omega
end
end Go.Proofs.Ytbglnddjhlefnaa
namespace Go.Proofs.Ytbglnddjhlefnaa
open Go Go.RowKit Go.Proofs.YtbglnddjhlefnaaW.PrintWords Go.Proofs.YtbglnddjhlefnaaW.PrintLast Go.Proofs.YtbglnddjhlefnaaW.PrintMore
theorem iteF_nodes (pg : Bool) (bits : Nat) : ∀ (f a b c : Nat) (N : List Nd) (D : Dn), (iteF pg bits f a b c N D).2.1.length + 1 ≤ N.length + 2 ^ f := by
  intro f
  induction f with
  | zero => intro a b c N D; simp [iteF]
  | succ f ih =>
    intro a b c N D
    have hp : 2 ^ (f + 1) = 2 ^ f + 2 ^ f := by rw [Nat.pow_succ]; omega
    have hp1 : 1 ≤ 2 ^ f := Nat.one_le_two_pow
    rw [iteF]
    by_cases h1 : a = 1 ∨ b = c
    · rw [if_pos h1]; simp only; omega
    rw [if_neg h1]
    by_cases h2 : a = 0
    · rw [if_pos h2]; simp only; omega
    rw [if_neg h2]
    by_cases h3 : pg = true ∧ b = 1 ∧ c = 0
    · rw [if_pos h3]; simp only; omega
    rw [if_neg h3]
    cases getG D (a, b, c) with
    | some x => simp only; omega
    | none =>
      simp only
      generalize lowBit bits N a b c = bit
      have X := ih (halfOf bits N a bit false) (halfOf bits N b bit false) (halfOf bits N c bit false) N D
      generalize iteF pg bits f (halfOf bits N a bit false) (halfOf bits N b bit false) (halfOf bits N c bit false) N D = x at X
      have Y := ih (halfOf bits x.2.1 a bit true) (halfOf bits x.2.1 b bit true) (halfOf bits x.2.1 c bit true) x.2.1 x.2.2
      generalize iteF pg bits f (halfOf bits x.2.1 a bit true) (halfOf bits x.2.1 b bit true) (halfOf bits x.2.1 c bit true) x.2.1 x.2.2 = y at Y
      have hm := mkN_len y.2.1 bit x.1 y.1
      omega
theorem or_two_len (bits : Nat) (N : List Nd) (s c : Nat) : (foldC bits false N 0 [s, c]).2.length + 1 ≤ N.length + 2 ^ (bits + 1) := by
  rw [or_two]
  exact iteF_nodes true bits (bits + 1) s 1 c N []
theorem okD_grow {R : Rd} {N : List Nd} {b : Nat} (h : okD R b) : okD (growR R N) b := by
  rcases h with h | h
  · exact .inl h
  · refine .inr ?_
    unfold growR
    have hl := (List.getElem?_eq_some_iff.1 h).1
    simp only
    rw [List.getElem?_append_left hl]
    exact h
theorem okD_tell {R : Rd} {a b : Nat} {l : List Bool} (h : okD R b) : okD (tellR R a l) b := by
  rcases h with h | h
  · exact .inl h
  · refine .inr ?_
    unfold tellR
    simp only
    split
    · rw [List.getElem?_set]
      split
      · rename_i he
        have hl := (List.getElem?_eq_some_iff.1 h).1
        rw [if_pos (by omega)]
      · exact h
    · exact h
theorem okD_told {R : Rd} {a : Nat} {l : List Bool} (hv : a < R.told.length + 2) : okD (tellR R a l) a := by
  rcases Nat.lt_or_ge a 2 with h | h
  · exact .inl h
  · refine .inr ?_
    unfold tellR
    rw [if_pos h]
    simp only
    rw [List.getElem?_set, if_pos rfl, if_pos (by omega)]
theorem cubeR_bad {T : Bd} {s : List UInt8} (h : ¬ (s.length = T.bits ∧ lettersOk s = true)) : (cubeR T s).1 = 0 ∧ (cubeR T s).2.1 = 21 := by
  unfold cubeR
  by_cases hl : s.length = T.bits
  · rw [if_neg (by simp [hl])]
    have hno : lettersOk s = false := by
      cases hq : lettersOk s with
      | false => rfl
      | true => exact absurd ⟨hl, hq⟩ h
    have := cubeG_some T.N s 0
    rw [hno] at this
    generalize cubeG T.N s 0 = x at this
    obtain ⟨o, N1⟩ := x
    cases o with
    | none => exact ⟨rfl, rfl⟩
    | some a => cases this
  · rw [if_pos hl]
    exact ⟨rfl, rfl⟩
/-- The two tables behind i rounds. -/
structure MdR (g gr bits i a r : Nat) (w wr : World) (S Sr : Nat → Prop) (T : Bd) (R : Rd) : Prop where
  two : Two g gr S Sr T R w wr
  fine : Fine T
  tb : T.bits = bits
  tl : T.lim = 1048576
  tn : T.N.length ≤ i * 2200
  ok : okR T.refs (a : Int) = true
  wf : WF R.bits R.N
  rb : R.bits = bits
  rl : R.lim = 1048576
  rn : R.N.length ≤ i * 4400
  rok : okD R r
theorem Two.below {g gr : Nat} {S Sr : Nat → Prop} {T : Bd} {R : Rd} {w wr w' : World} (h : Two g gr S Sr T R w wr) (hb : Below wr.heap.size wr w') : Two g gr S Sr T R w w' :=
  ⟨h.tab.below hb, h.rtab.below hb, h.own.below (Nat.le_refl _) hb, h.rown.below (Nat.le_refl _) hb, h.ap⟩
theorem growR_told {R : Rd} {N : List Nd} (ht : R.told.length = R.N.length) (hl : R.N.length ≤ N.length) : (growR R N).told.length = N.length := by
  unfold growR
  simp only [List.length_append, List.length_replicate]
  omega
theorem MdR.round {g gr bits i a r : Nat} {w wr : World} {S Sr : Nat → Prop} {T : Bd} {R : Rd} (h : MdR g gr bits i a r w wr S Sr T R) (hb : bits ≤ 10) (hi : i < 12) (x : ByteArray) : Round w g gr x a r wr (fun a2 r2 w' => ∃ S Sr T R, MdR g gr bits (i + 1) a2 r2 w w' S Sr T R) := by
  have htb := h.tb
  have htl := h.tl
  have htn := h.tn
  have hrb := h.rb
  have hrl := h.rl
  have hrn := h.rn
  have hp : 2 ^ (T.bits + 1) ≤ 2 ^ 11 := Nat.pow_le_pow_right (by omega) (by omega)
  have hp2 : 2 ^ (R.bits + 1) ≤ 2 ^ 11 := Nat.pow_le_pow_right (by omega) (by omega)
  have hcall := cube_any h.two.tab h.fine (by omega) x
  have hl1 := cubeR_len h.fine x.data.toList
  have hm1 := More.cube h.fine x.data.toList
  have hf1 := h.fine.cube x.data.toList
  unfold TwP at hcall
  by_cases hgood : x.data.toList.length = T.bits ∧ lettersOk x.data.toList = true
  · have herr := cubeR_good (T := T) x.data.toList hgood.1 hgood.2
    have hok1 := (cubeR_ok h.fine x.data.toList herr).1
    rw [herr] at hcall
    generalize (cubeR T x.data.toList).1 = c at hcall hok1
    generalize (cubeR T x.data.toList).2.2 = T1 at hcall hl1 hm1 hf1 hok1
    have hoka := hm1.ref _ h.ok
    have hva := okR_val hf1 hoka
    have hvc := okR_val hf1 hok1
    have ht1l : T1.lim = 1048576 := hm1.lim.trans htl
    have ht1b : T1.bits = T.bits := hm1.bits
    have hol := or_two_len T1.bits T1.N a c
    rw [ht1b] at hol
    have hv2 : ∀ b ∈ [a, c], Val T1.N b := by simp [hva, hvc]
    have hm2 := More.fold hf1 false _ hv2
    have hf2 := hf1.fold false _ hv2
    have hok2 := foldR_ok T1 false [a, c]
    have hl2 : (foldR T1 false [a, c]).2.2.N.length = (foldC T.bits false T1.N 0 [a, c]).2.length := by rw [← ht1b]; rfl
    obtain ⟨d, N1, hc⟩ : ∃ d N1, cubeG R.N x.data.toList 0 = (some d, N1) := by
      have := cubeG_some R.N x.data.toList 0
      rw [hgood.2] at this
      generalize cubeG R.N x.data.toList 0 = y at this
      obtain ⟨o, N1⟩ := y
      cases o with
      | none => cases this
      | some d => exact ⟨d, N1, rfl⟩
    have hxs : x.size = R.bits := by have : x.data.toList.length = x.size := rfl
                                     omega
    have OKC := cubeG_ok h.wf x.data.toList 0 (by have : x.data.toList.length = x.size := rfl
                                                  omega)
    rw [hc] at OKC
    have c1 : R.N <+: N1 := OKC.pre
    have c2 : WF R.bits N1 := OKC.wf
    have c3 : Val N1 d := (OKC.val d rfl).1
    have c4 : N1.length ≤ R.N.length + x.data.toList.length := OKC.new
    have htold : R.told.length = R.N.length := by
      obtain ⟨_, _, _, _, _, ht⟩ := h.two.rtab
      exact ht
    have hgt := growR_told htold c1.length_le
    have hvr : Val N1 r := (okD_val h.rok htold).pre c1
    have OKD := foldD_ok [r, d] N1 0 c2 (val0 _) (by simp [hvr, c3])
    have hdl := OKD.len
    simp only [List.length_cons, List.length_nil] at hdl
    refine .inr ⟨c, d, fun w1 => ∃ S1, Two g gr S1 Sr T1 R w w1, fun w1 => ∃ S1 S2 l, Two g gr S1 S2 T1 (tellR (growR R N1) d l) w w1, fun w1 => ∃ S1 S2 l, Two g gr S1 S2 (foldR T1 false [a, c]).2.2 (tellR (growR R N1) d l) w w1, (foldR T1 false [a, c]).1, (foldD R.bits N1 0 [r, d]).1, hcall.mono ?_, ?_, ?_, ?_⟩
    · rintro e w1 ⟨rfl, S1, q1, q2⟩
      have h1 := h.two.tabGr q1 q2
      exact ⟨rfl, ⟨S1, h1⟩, h1.own.bw⟩
    · rintro w1 ⟨S1, h1⟩
      refine (rcube_w h1.rtab h.wf x hxs hgood.2 (by omega) (by rw [hc]; show N1.length ≤ R.lim; omega) (by omega) (by omega)).mono ?_
      rintro e w2 ⟨a9, N9, l, S2, rfl, hc9, q1, q2⟩
      rw [hc] at hc9
      simp only [Prod.mk.injEq, Option.some.injEq] at hc9
      obtain ⟨rfl, rfl⟩ := hc9
      exact ⟨rfl, S1, S2, l, h1.rtabGs q1 q2⟩
    · rintro w1 ⟨S1, S2, l, h1⟩
      refine (Or2_w h1.tab hf1 a c hoka hok1 (by rw [ht1b]; omega)).mono ?_
      rintro e w2 ⟨rfl, S3, q1, q2⟩
      exact ⟨rfl, S3, S2, l, h1.tabGr q1 q2⟩
    · rintro w1 ⟨S1, S2, l, h1⟩
      have hba := below_alloc (Below.refl _ w1) (.cells #[.int .i64 r, .int .i64 d] 26)
      have hsz : (w1.alloc (.cells #[.int .i64 r, .int .i64 d] 26)).heap.size = w1.heap.size + 1 := World.size_alloc _ _
      have hkd : okD (tellR (growR R N1) d l) d := okD_told (by rw [hgt]; exact c3)
      have hkr : okD (tellR (growR R N1) d l) r := okD_tell (okD_grow h.rok)
      refine (ror_w (l := [r, d]) (A := some ⟨w1.heap.size, 0, none⟩) (c := 2) (h1.rtab.below hba) c2 (by show R.bits ≤ 20; omega) (new_refs [(r : Int), d] [.int .i64 r, .int .i64 d] rfl w1 (by simp) w1.heap.size 2 rfl rfl) (by simp) ?_ ?_ (by show (foldD R.bits N1 0 [r, d]).2.length ≤ R.lim; omega) (by show R.lim ≤ 4000000000; omega)).mono ?_
      · intro b hb
        simp at hb
        rcases hb with rfl | rfl
        · exact hkr
        · exact hkd
      · rintro k rfl
        exact ⟨fun hs => by have := h1.rtab.lt _ hs; omega, by rw [hsz]; omega⟩
      · rintro e w2 ⟨rfl, l2, S3, q1, q2⟩
        have h2 := h1.rtabGs q1 ⟨fun k hk => (q2.new k hk).imp id (fun h => by omega), ((Chg.refl _ w1).alloc _).trans q2.chg (fun i hi => .inl hi)⟩
        have ht2 : (tellR (growR R N1) d l).told.length = (tellR (growR R N1) d l).N.length := by
          obtain ⟨_, _, _, _, _, ht⟩ := h1.rtab
          exact ht
        have hgt2 := growR_told (N := (foldD R.bits N1 0 [r, d]).2) ht2 OKD.pre.length_le
        refine ⟨rfl, S1, S3, _, _, h2, hf2, hm2.bits.trans (ht1b.trans htb), hm2.lim.trans ht1l, by omega, hok2, OKD.wf, hrb, hrl, ?_, okD_told ?_⟩
        · show (foldD R.bits N1 0 [r, d]).2.length ≤ _
          omega
        · rw [show (growR (tellR (growR R N1) d l) (foldD (tellR (growR R N1) d l).bits (tellR (growR R N1) d l).N 0 [r, d]).2).told.length = (foldD R.bits N1 0 [r, d]).2.length from hgt2]
          exact OKD.val
  · obtain ⟨b1, b2⟩ := cubeR_bad hgood
    rw [b1, b2] at hcall
    generalize (cubeR T x.data.toList).2.2 = T1 at hcall hl1 hm1 hf1
    refine .inl ⟨fun w1 => ∃ S1, Two g gr S1 Sr T1 R w w1, hcall.mono ?_, ?_⟩
    · rintro e w1 ⟨rfl, S1, q1, q2⟩
      have h1 := h.two.tabGr q1 q2
      exact ⟨rfl, ⟨S1, h1⟩, h1.own.bw⟩
    · rintro w1 ⟨S1, h1⟩
      refine (rcube_bad h1.rtab x ?_ (by omega)).mono ?_
      · by_cases hl : x.size = R.bits
        · right
          cases hq : lettersOk x.data.toList with
          | false => rfl
          | true => exact absurd ⟨by have : x.data.toList.length = x.size := rfl
                                     omega, hq⟩ hgood
        · exact .inl hl
      · rintro e w2 ⟨rfl, d, rfl⟩
        exact ⟨rfl, S1, Sr, T1, R, h1.below (pw_below_drewN (Below.refl w1.heap.size w1) d), hf1, hm1.bits.trans htb, hm1.lim.trans htl, (by have := h.tn; omega), hm1.ref _ h.ok, h.wf, hrb, hrl, (Nat.le_trans hrn (Nat.mul_le_mul_right _ (Nat.le_succ i))), h.rok⟩
end Go.Proofs.Ytbglnddjhlefnaa
namespace Go.Proofs.Ytbglnddjhlefnaa
open Go Go.RowKit Go.Proofs.YtbglnddjhlefnaaW.PrintWords Go.Proofs.YtbglnddjhlefnaaW.PrintLast Go.Proofs.YtbglnddjhlefnaaW.PrintMore
theorem made_any {w : World} (bits : Nat) (h1 : 1 ≤ bits) (h2 : bits ≤ 10) (A : Option Addr) (c : Nat) (xs : List ByteArray) (hV : Kd.V Kd.string 9 w 0 (fun k => k < w.heap.size) (.slice A xs.length c) xs) (hl : xs.length ≤ 140737488351232) :
    Calls Try.prog 9 #[.int .i64 bits, .int .i64 1048576, .slice A xs.length c] w fun e w' => ∃ (g gr a r : Nat) (S : Nat → Prop) (T : Bd), e = .returned (.tuple #[.pointer (some ⟨g, 0, none⟩), .pointer (some ⟨gr, 0, none⟩), .int .i64 a, .int .i64 r, .bool true]) ∧ Tab g S T w' ∧ Fine T ∧ T.bits = bits ∧ T.N.length ≤ 26400 ∧ okR T.refs (a : Int) = true ∧ Own w.heap.size S w w' := by
  refine (made_go bits 1048576 A c xs (fun g gr i a r wr => i ≤ 12 ∧ ∃ S Sr T R, MdR g gr bits i a r w wr S Sr T R) (by omega) ?_ (fun wr hb => Kd.V_step hV (fun k hk _ => hb.block k hk)) ?_ hl ?_).mono ?_
  · refine (New_w (w := w) bits 1048576 h1 (by omega) (by omega)).mono ?_
    rintro e w1 ⟨g, S, rfl, q1, q2, q3⟩
    refine ⟨g, w1.heap.size, rfl, (rnew_w bits 1048576 h1 (by omega) (by omega)).mono ?_⟩
    rintro e w2 ⟨rfl, r1, r2⟩
    have hs := q3.size
    refine ⟨rfl, by omega, S, _, _, _, ⟨q1.below r2, r1, ⟨q2, below_trans' q3 r2 hs⟩, ⟨fun k hk => by rw [hk]; exact hs, below_trans' q3 r2 hs⟩, fun k hk hS => by have := q1.lt k hS; omega⟩, Fine.new h1 (by omega) (by omega), rfl, rfl, by simp [newB], rfl, ⟨List.nodup_nil, fun i n hi => by simp [newR] at hi⟩, rfl, rfl, by simp [newR], .inl (by omega)⟩
  · rintro g gr i a r wr ⟨_, S, Sr, T, R, h⟩
    exact h.two.own.bw
  · rintro g gr i a r wr ⟨_, S, Sr, T, R, h⟩ hi hi2
    rcases h.round h2 hi2 (xs.getD i ⟨#[]⟩) with ⟨Q1, k1, k2⟩ | ⟨cc, d, Q1, Q2, Q3, a2, r2, k1, k2, k3, k4⟩
    · refine .inl ⟨Q1, k1, fun w1 hq => (k2 w1 hq).mono ?_⟩
      rintro e w2 ⟨rfl, hn⟩
      exact ⟨rfl, by omega, hn⟩
    · refine .inr ⟨cc, d, Q1, Q2, Q3, a2, r2, k1, k2, k3, fun w1 hq => (k4 w1 hq).mono ?_⟩
      rintro e w2 ⟨rfl, hn⟩
      exact ⟨rfl, by omega, hn⟩
  · rintro e w' ⟨g, gr, a, r, rfl, h12, S, Sr, T, R, h⟩
    have := h.tn
    exact ⟨g, gr, a, r, S, T, rfl, h.two.tab, h.fine, h.tb, by omega, h.ok, h.two.own⟩
end Go.Proofs.Ytbglnddjhlefnaa
namespace Go.Proofs.Ytbglnddjhlefnaa
open Go Go.RowKit Go.Proofs.YtbglnddjhlefnaaW.PrintWords Go.Proofs.YtbglnddjhlefnaaW.PrintLast Go.Proofs.YtbglnddjhlefnaaW.PrintMore
set_option maxRecDepth 100000 in
theorem made_bad (bits : Int) (v : Value) (w : World) (hb : bits < 1) : Calls Try.prog 9 #[.int .i64 bits, .int .i64 1048576, v] w fun e w' => e = .returned (.tuple #[.pointer none, .pointer none, .int .i64 0, .int .i64 0, .bool true]) ∧ w = w' := by
  have HN := Lib.hid (New_bad (w := w) bits 1048576 (by omega))
  have HR := Lib.hid (rnew_bad (w := w) bits 1048576 (by omega))
  clear hb
  go_enter Try.func9, Try.ntmps9
  go_wp2_with fail
  refine HN.out.mono ?_
  rintro e w1 ⟨rfl, rfl⟩
  go_wp2_with fail
  refine HR.out.mono ?_
  rintro e w1 ⟨rfl, rfl⟩
  go_wp2_with fail
  go_ret5
  exact ⟨rfl, rfl⟩
set_option maxRecDepth 100000 in
theorem same_big (bits : Int) (v v2 : Value) (w : World) (hb : 10 < bits) : Calls Try.prog 3 #[.int .i64 bits, v, v2] w fun e w' => e = .returned (.bool true) ∧ Below w.heap.size w w' := by
  have HAW := Lib.hid (awake4_w w)
  have t1 : decide (10 < bits) = true := decide_eq_true hb
  clear hb
  go_enter Try.func3, Try.ntmps3
  go_wp2_with fail
  refine HAW.out.mono ?_
  rintro e w1 ⟨rfl, hb⟩
  have HB := Lib.hid hb
  clear hb
  go_wp2_with fail
  go_ret
  exact ⟨rfl, HB.out⟩
set_option maxRecDepth 100000 in
theorem same_small (bits : Int) (v v2 : Value) (w : World) (hb : bits < 1) : Calls Try.prog 3 #[.int .i64 bits, v, v2] w fun e w' => e = .returned (.bool true) ∧ Below w.heap.size w w' := by
  have HAW := Lib.hid (awake4_w w)
  have HM := Lib.hid (fun v w => made_bad bits v w hb)
  have t1 : decide (10 < bits) = false := decide_eq_false (by omega)
  clear hb
  go_enter Try.func3, Try.ntmps3
  go_wp2_with fail
  refine HAW.out.mono ?_
  rintro e w1 ⟨rfl, hb⟩
  have HB := Lib.hid hb
  clear hb
  go_wp2_with fail
  refine (HM.out v w1).mono ?_
  rintro e w2 ⟨rfl, rfl⟩
  go_wp2_with fail
  refine (HM.out v2 w1).mono ?_
  rintro e w2 ⟨rfl, rfl⟩
  go_wp2_with fail
  go_ret
  exact ⟨rfl, HB.out⟩
end Go.Proofs.Ytbglnddjhlefnaa
namespace Go.Proofs.Ytbglnddjhlefnaa
open Go Go.RowKit Go.Proofs.YtbglnddjhlefnaaW.PrintWords Go.Proofs.YtbglnddjhlefnaaW.PrintLast Go.Proofs.YtbglnddjhlefnaaW.PrintMore
theorem smL_of {bits : Nat} {N : List Nd} {a : Nat} (w : WF bits N) (hb : bits ≤ 128) (hv : Val N a) (hN : N.length ≤ 1000000) : SmL (listF N a) ∧ ((listF N a).length = 0 → a < 2) := by
  obtain ⟨h1, h2, h3⟩ := listF_ok w hv
  refine ⟨⟨by omega, fun n hn => ?_⟩, h3⟩
  obtain ⟨i, hi⟩ := List.mem_iff_getElem?.1 hn
  obtain ⟨q1, q2, q3, _⟩ := h2.ok i n hi
  have hil := (List.getElem?_eq_some_iff.1 hi).1
  have q1 : n.1 < bits := q1
  have q2 : n.2.1 < i + 2 := q2
  have q3 : n.2.2 < i + 2 := q3
  exact ⟨by omega, by omega, by omega⟩
theorem pow_le_k : ∀ bits : Nat, bits ≤ 10 → (2 : Int) ^ bits ≤ 1024
  | 0, _ | 1, _ | 2, _ | 3, _ | 4, _ | 5, _ | 6, _ | 7, _ | 8, _ | 9, _ | 10, _ => by decide
  | n + 11, h => by omega
theorem wrap64_small {x : Int} (h : 0 ≤ x) (h2 : x ≤ 1024) : wrap64 x = x := by
  unfold wrap64
  omega
/-- The letter of a header's place. -/
def hdL (k j : Nat) : UInt8 := if k.testBit j then 49 else 48
theorem letter_eq (k i : Nat) (hk : k < 1024) : (48 + Go.bits BinOp.and IntKind.i64 ((k : Int) / 2 ^ i) 1) % 256 = ((hdL k i).toNat : Nat) := by
  have h1 : (k : Int) / 2 ^ i = ((k / 2 ^ i : Nat) : Int) := by push_cast; rfl
  have h2 : k / 2 ^ i < 1024 := Nat.lt_of_le_of_lt (Nat.div_le_self _ _) hk
  have h3 := bits_mask .i64 10 (by decide) (fun n h0 h1 => by rw [IntKind.wrap_i64]; omega) 1 (by decide) ((k / 2 ^ i : Nat) : Int) (Int.natCast_nonneg _) (by omega)
  have h4 : (2 : Int) ^ 1 - 1 = 1 := by decide
  rw [h4] at h3
  rw [h1, h3]
  have h5 : k.testBit i = decide (k / 2 ^ i % 2 = 1) := by
    rw [Nat.testBit_eq_decide_div_mod_eq]
  unfold hdL
  rw [h5]
  by_cases h6 : k / 2 ^ i % 2 = 1
  · rw [if_pos (by simpa using h6)]
    show _ = (49 : Int)
    omega
  · rw [if_neg (by simpa using h6)]
    show _ = (48 : Int)
    omega
/-- The letters of a header. -/
def hdTxt (bits k : Nat) : Txt := (List.range bits).map (hdL k)
theorem hdTxt_len (bits k : Nat) : (hdTxt bits k).length = bits := by simp [hdTxt]
theorem hdTxt_at (bits k j : Nat) (h : j < bits) : (hdTxt bits k)[j]? = some (hdL k j) := by
  unfold hdTxt
  rw [List.getElem?_map, List.getElem?_range h]
  rfl
theorem hdr_txt (bits k : Nat) : hdr ⟨(hdTxt bits k).toArray⟩ = hdK bits k := by
  funext j
  unfold hdr hdK
  show ((hdTxt bits k)[j]? == some 49) = _
  by_cases h : j < bits
  · rw [hdTxt_at bits k j h]
    unfold hdL
    cases k.testBit j <;> simp [h]
  · rw [List.getElem?_eq_none (by rw [hdTxt_len]; omega)]
    simp [h]
theorem hdTxt_by {bits k q : Nat} {w : World} {cs : Array Value} (h1 : w.heap[q]? = some (.cells cs 5 (0, 0))) (h2 : cs.size = bits) (h3 : ∀ j, j < bits → cs[j]? = some (Value.int .u8 ((hdL k j).toNat : Nat))) : By q (hdTxt bits k) w := by
  unfold By
  rw [h1]
  congr 1
  refine congrArg (fun c => Obj.cells c 5 (0, 0)) ?_
  apply Array.ext_getElem?
  intro j
  rw [show ((hdTxt bits k).map (fun c : UInt8 => Value.int .u8 (c.toNat : Nat))).toArray[j]? = ((hdTxt bits k).map (fun c : UInt8 => Value.int .u8 (c.toNat : Nat)))[j]? from List.getElem?_toArray .., List.getElem?_map]
  by_cases hj : j < bits
  · rw [hdTxt_at bits k j hj, h3 j hj]
    rfl
  · rw [List.getElem?_eq_none (by rw [hdTxt_len]; omega), Array.getElem?_eq_none (by omega)]
    rfl
theorem hdTxt_ok (bits k : Nat) (j : Nat) (hj : j < (⟨(hdTxt bits k).toArray⟩ : ByteArray).size) : (⟨(hdTxt bits k).toArray⟩ : ByteArray)[j] = 48 ∨ (⟨(hdTxt bits k).toArray⟩ : ByteArray)[j] = 49 := by
  have hl : j < bits := by
    have : (⟨(hdTxt bits k).toArray⟩ : ByteArray).size = bits := hdTxt_len bits k
    omega
  have h1 := hdTxt_at bits k j hl
  have h2 : (⟨(hdTxt bits k).toArray⟩ : ByteArray)[j] = hdL k j := by
    have : (hdTxt bits k)[j]? = some ((⟨(hdTxt bits k).toArray⟩ : ByteArray)[j]) := List.getElem?_eq_getElem (by rw [hdTxt_len]; exact hl)
    rw [h1] at this
    exact (Option.some.inj this).symm
  rw [h2]
  unfold hdL
  cases k.testBit j
  · exact .inl rfl
  · exact .inr rfl
/-- The headers below k are answered alike. -/
def sameK (bits : Nat) (N1 N2 : List Nd) (a b : Nat) : Nat → Bool
  | 0 => true
  | k + 1 => sameK bits N1 N2 a b k && (sem N1 a (hdK bits k) == sem N2 b (hdK bits k))
theorem sameK_iff {bits : Nat} {N1 N2 : List Nd} {a b : Nat} : ∀ n, sameK bits N1 N2 a b n = true ↔ ∀ k, k < n → sem N1 a (hdK bits k) = sem N2 b (hdK bits k)
  | 0 => by simp [sameK]
  | n + 1 => by
    rw [sameK, Bool.and_eq_true, sameK_iff n, beq_iff_eq]
    constructor
    · rintro ⟨h1, h2⟩ k hk
      by_cases e : k = n
      · rw [e]; exact h2
      · exact h1 k (by omega)
    · intro h
      exact ⟨fun k hk => h k (by omega), h n (by omega)⟩
theorem below_chg {B q : Nat} {a b c : World} (h : Below B a b) (k : Chg (fun j => j = q) b c) (hq : B ≤ q) (hB : B ≤ b.heap.size) : Below B a c :=
  h.trans (k.below (fun j hj => by omega) hB)
theorem brow_lt {u : Value} {l : List UInt8} {w : World} (h : BRow u l w) : ∀ k, u.ownBlock = some k → k < w.heap.size := fun k hk => (h.lt k hk).2
theorem writeB_pos (bits : Nat) (L : List Nd) (a : Nat) : 0 < (writeB bits L a).length := by
  unfold writeB
  simp
set_option maxRecDepth 100000 in
set_option maxHeartbeats 4000000 in
theorem same_go (bits : Nat) (h1 : 1 ≤ bits) (h2 : bits ≤ 10) (A A2 : Option Addr) (c c2 : Nat) (xs ys : List ByteArray) (w : World) (hV : Kd.V Kd.string 9 w 0 (fun k => k < w.heap.size) (.slice A xs.length c) xs) (hl : xs.length ≤ 140737488351232) (hV2 : Kd.V Kd.string 9 w 0 (fun k => k < w.heap.size) (.slice A2 ys.length c2) ys) (hl2 : ys.length ≤ 140737488351232) :
    Calls Try.prog 3 #[.int .i64 bits, .slice A xs.length c, .slice A2 ys.length c2] w fun e w' => e = .returned (.bool true) ∧ Below w.heap.size w w' := by
  have HAW := Lib.hid (awake4_w w)
  have HM := Lib.hid (fun w1 (hb : Below w.heap.size w w1) => made_any (w := w1) bits h1 h2 A c xs (Kd.V_mono (Kd.V_step hV (fun k hk _ => hb.block k hk)) (fun k hk => Nat.lt_of_lt_of_le hk hb.size)) hl)
  have HM2 := Lib.hid (fun w1 (hb : Below w.heap.size w w1) => made_any (w := w1) bits h1 h2 A2 c2 ys (Kd.V_mono (Kd.V_step hV2 (fun k hk _ => hb.block k hk)) (fun k hk => Nat.lt_of_lt_of_le hk hb.size)) hl2)
  have t1 : decide (10 < (bits : Int)) = false := decide_eq_false (by omega)
  have t2 : decide (10 < bits) = false := decide_eq_false (by omega)
  generalize xs.length = nx at HM ⊢
  generalize ys.length = ny at HM2 ⊢
  clear hV hV2 hl hl2
  go_enter Try.func3, Try.ntmps3
  go_wp2_with fail
  refine HAW.out.mono ?_
  rintro e w1 ⟨rfl, hb⟩
  have HB := Lib.hid hb
  clear hb HAW
  go_wp2_with fail
  refine (HM.out w1 HB.out).mono ?_
  rintro e w2 ⟨g, gr, a, r, S, T, rfl, q1, q2, q3, q4, q5, q6⟩
  have hb2 := below_trans' HB.out q6.bw HB.out.size
  have R1 : Hid (Tab g S T w2 ∧ Below w.heap.size w w2) := Lib.hid ⟨q1, hb2⟩
  have F1 := Lib.hid q2
  have B1 := Lib.hid q3
  have N1 := Lib.hid q4
  have O1 := Lib.hid q5
  clear q1 q2 q3 q4 q5 q6 hb2 HM
  go_wp2_with fail
  refine (HM2.out w2 R1.out.2).mono ?_
  rintro e w3 ⟨g2, gr2, a2, r2, S2, T2, rfl, q1, q2, q3, q4, q5, q6⟩
  have hb3 := below_trans' R1.out.2 q6.bw R1.out.2.size
  have R2 : Hid (Tab g S T w3 ∧ Tab g2 S2 T2 w3 ∧ Below w.heap.size w w3) := Lib.hid ⟨R1.out.1.below q6.bw, q1, hb3⟩
  have F2 := Lib.hid q2
  have B2 := Lib.hid q3
  have N2 := Lib.hid q4
  have O2 := Lib.hid q5
  clear q1 q2 q3 q4 q5 q6 hb3 HM2 R1
  go_wp2_with fail
  have V1 := okR_val F1.out O1.out
  have V2 := okR_val F2.out O2.out
  obtain ⟨sm1, em1⟩ := smL_of F1.out.wf F1.out.b2 V1 (by have := N1.out; omega)
  obtain ⟨sm2, em2⟩ := smL_of F2.out.wf F2.out.b2 V2 (by have := N2.out; omega)
  have HW1 := Lib.hid (write_w R2.out.1 F1.out (by have := N1.out; omega) a O1.out sm1 em1)
  have HW2 := Lib.hid (fun w4 (hb : Below w3.heap.size w3 w4) => write_w (R2.out.2.1.below hb) F2.out (by have := N2.out; omega) a2 O2.out sm2 em2)
  have HV1 := Lib.hid V1
  have HV2 := Lib.hid V2
  have HSE := Lib.hid (writeB_inj (bits := bits) sm1 sm2 em1 em2)
  clear V1 V2 sm1 em1 sm2 em2
  refine HW1.out.mono ?_
  rintro e w4 ⟨u1, rfl, q1, q2, q3⟩
  have HC2 := Lib.hid (HW2.out w4 q3)
  have HR1 := Lib.hid q1
  have HB4 := Lib.hid q3
  clear q1 q2 q3 HW1 HW2
  go_wp2_with fail
  refine HC2.out.mono ?_
  rintro e w5 ⟨u2, rfl, q1, q2, q3⟩
  have HR2 := Lib.hid q1
  have HB5 := Lib.hid q3
  clear q1 q2 q3 HC2
  obtain ⟨i0, hinf, hzz⟩ := Option.map_eq_some_iff.1 Try.info5
  simp only [Prod.mk.injEq] at hzz
  have hrun := run_make (P := Try.prog) w5 29 5 i0 (.int .u8 0) Try.underlying29 hinf hzz.1 .i64 .i64 (bits : Int) (bits : Int) (by omega) (by omega) (by rw [hzz.2.2]; omega) (by omega)
  rw [hzz.2.1, Nat.mul_one, Int.toNat_natCast] at hrun
  obtain ⟨W6, hW6⟩ : ∃ W6, W6 = w5.alloc (.cells (madeCells (Value.int .u8 0).cells bits) 5) := ⟨_, rfl⟩
  rw [← hW6] at hrun
  have HB6 : Hid (Below w5.heap.size w5 W6) := Lib.hid (by rw [hW6]; exact below_alloc (Below.refl _ _) _)
  have HC6 : Hid (∃ cs : Array Value, W6.heap[w5.heap.size]? = some (.cells cs 5 (0, 0)) ∧ cs.size = bits) := Lib.hid ⟨_, by rw [hW6]; exact heap_alloc_new w5 _, size_madeCells _ _⟩
  have HBW6 : Hid (Below w.heap.size w W6) := by
    have hb5 := below_trans' (below_trans' HB4.out HB5.out HB4.out.size) HB6.out (Nat.le_trans HB4.out.size HB5.out.size)
    exact Lib.hid (below_trans' R2.out.2.2 hb5 R2.out.2.2.size)
  have HT6 : Hid (Tab g S T W6 ∧ Tab g2 S2 T2 W6) := by
    have hb5 := below_trans' (below_trans' HB4.out HB5.out HB4.out.size) HB6.out (Nat.le_trans HB4.out.size HB5.out.size)
    exact Lib.hid ⟨R2.out.1.below hb5, R2.out.2.1.below hb5⟩
  have HQ : Hid (w.heap.size ≤ w5.heap.size ∧ (∀ k, S k → k < w5.heap.size) ∧ (∀ k, S2 k → k < w5.heap.size)) := by
    have h35 := Nat.le_trans HB4.out.size HB5.out.size
    exact Lib.hid ⟨Nat.le_trans R2.out.2.2.size h35, fun k hk => Nat.lt_of_lt_of_le (R2.out.1.lt k hk) h35, fun k hk => Nat.lt_of_lt_of_le (R2.out.2.1.lt k hk) h35⟩
  have HU : Hid (BRow u1 (writeB T.bits (listF T.N a) a) W6 ∧ BRow u2 (writeB T2.bits (listF T2.N a2) a2) W6 ∧ (∀ k, u1.ownBlock = some k → k < w5.heap.size) ∧ (∀ k, u2.ownBlock = some k → k < w5.heap.size)) := by
    have l1 : ∀ k, u1.ownBlock = some k → k < w4.heap.size := brow_lt HR1.out
    have l2 : ∀ k, u2.ownBlock = some k → k < w5.heap.size := brow_lt HR2.out
    have hb56 := below_trans' HB5.out HB6.out HB5.out.size
    exact Lib.hid ⟨ownsRow_step HR1.out (fun k hk => hb56.block k (l1 k hk)), ownsRow_step HR2.out (fun k hk => HB6.out.block k (l2 k hk)), fun k hk => Nat.lt_of_lt_of_le (l1 k hk) HB5.out.size, l2⟩
  have HH1 : Hid (∀ (k : Nat) (wr : World), Chg (fun j => j = w5.heap.size) W6 wr → Calls Try.prog 11 #[.pointer (some ⟨g, 0, none⟩), .int .i64 a, .string ⟨(hdTxt bits k).toArray⟩] wr fun e w' => e = .returned (.tuple #[.bool (sem T.N a (hdK bits k)), .int .i64 0]) ∧ Below wr.heap.size wr w') := Lib.hid (fun k wr hc => by
    have h1 := Has_w (HT6.out.1.step hc.size (fun j hj hl => hc.block j hl (fun e => by have := HQ.out.2.1 j hj; omega))) F1.out (by have := N1.out; omega) a O1.out ⟨(hdTxt bits k).toArray⟩ (by rw [B1.out]; exact hdTxt_len bits k) (fun j hj => hdTxt_ok bits k j hj)
    rw [hdr_txt] at h1
    exact h1)
  have HH2 : Hid (∀ (k : Nat) (wr : World), Chg (fun j => j = w5.heap.size) W6 wr → Calls Try.prog 11 #[.pointer (some ⟨g2, 0, none⟩), .int .i64 a2, .string ⟨(hdTxt bits k).toArray⟩] wr fun e w' => e = .returned (.tuple #[.bool (sem T2.N a2 (hdK bits k)), .int .i64 0]) ∧ Below wr.heap.size wr w') := Lib.hid (fun k wr hc => by
    have h1 := Has_w (HT6.out.2.step hc.size (fun j hj hl => hc.block j hl (fun e => by have := HQ.out.2.2 j hj; omega))) F2.out (by have := N2.out; omega) a2 O2.out ⟨(hdTxt bits k).toArray⟩ (by rw [B2.out]; exact hdTxt_len bits k) (fun j hj => hdTxt_ok bits k j hj)
    rw [hdr_txt] at h1
    exact h1)
  clear hzz hinf hW6
  go_wp2_with fail
  have HQL : Hid (w5.heap.size ≤ W6.heap.size) := Lib.hid HB6.out.size
  generalize w5.heap.size = q at HQL HC6 HQ HU HH1 HH2 ⊢
  clear HB4 HB5 HB6 R2 hrun HR1 HR2
  go_loopw [21, 23] (fun v21 v23 wr => ∃ k : Nat, v23 = .int .i64 k ∧ k ≤ 2 ^ bits ∧ v21 = .bool (sameK bits T.N T2.N a a2 k) ∧ Hid (Chg (fun j => j = q) W6 wr ∧ ∃ cs : Array Value, wr.heap[q]? = some (.cells cs 5 (0, 0)) ∧ cs.size = bits)) (fun _ v23 _ => 2 ^ bits - (intOf v23).toNat)
  case atStart => exact ⟨0, rfl, Nat.zero_le _, rfl, Lib.hid ⟨Chg.refl _ _, HC6.out⟩⟩
  case round =>
    clear HC6
    obtain ⟨k, rfl, hk, rfl, hrel⟩ := hrel
    have hpb : (2 : Int) ^ bits ≤ 1024 := pow_le_k bits h2
    have hpk : ((2 ^ bits : Nat) : Int) = (2 : Int) ^ bits := by push_cast; rfl
    have hw : wrap64 ((2 : Int) ^ bits) = (2 : Int) ^ bits := wrap64_small (by rw [← hpk]; exact Int.natCast_nonneg _) (by omega)
    by_cases hlt : k < 2 ^ bits
    · have hlt2 : (k : Int) < wrap64 ((2 : Int) ^ bits) := by rw [hw, ← hpk]; omega
      have k0 : (0 : Int) ≤ (k : Int) := by omega
      have k1 : (k : Int) < 1024 := by rw [← hpk] at hpb; omega
      have b0 : (0 : Int) ≤ (bits : Int) := by omega
      have HR0 := Lib.hid hrel.out
      clear hpb hpk hw hrel
      go_wp2_with fail
      obtain ⟨wo, rfl⟩ : ∃ wo : World, wo = wr := ⟨_, rfl⟩
      go_loopw [24] (fun v24 wr => ∃ i : Nat, v24 = .int .i64 i ∧ i ≤ bits ∧ Hid (Chg (fun j => j = q) W6 wr ∧ ∃ cs : Array Value, wr.heap[q]? = some (.cells cs 5 (0, 0)) ∧ cs.size = bits ∧ ∀ j, j < i → cs[j]? = some (Value.int .u8 ((hdL k j).toNat : Nat)))) (fun v24 _ => bits - (intOf v24).toNat)
      case atStart => exact ⟨0, rfl, Nat.zero_le _, Lib.hid ⟨HR0.out.1, by obtain ⟨cs, q1, q2⟩ := HR0.out.2; exact ⟨cs, q1, q2, fun j hj => by omega⟩⟩⟩
      case round =>
        clear HR0
        obtain ⟨i, rfl, hi, hrel⟩ := hrel
        by_cases hil : i < bits
        · have hil2 : (i : Int) < (bits : Int) := by omega
          have i0 : (0 : Int) ≤ (i : Int) := by omega
          have i64 : (i : Int) < 10 := by omega
          obtain ⟨r1, cs, r4, r5, r6⟩ := hrel.out
          obtain ⟨x, hci⟩ : ∃ x, cs[i]? = some x := ⟨_, Array.getElem?_eq_getElem (by omega)⟩
          have c0 := blk_cell r4 i _ hci
          have f0 := blk_free r4 i
          have R : Hid (Chg (fun j => j = q) W6 (wr.setCell ⟨q, i, none⟩ (.int .u8 ((48 + Go.bits BinOp.and IntKind.i64 ((k : Int) / 2 ^ i) 1) % 256))) ∧ ∃ cs : Array Value, (wr.setCell ⟨q, i, none⟩ (.int .u8 ((48 + Go.bits BinOp.and IntKind.i64 ((k : Int) / 2 ^ i) 1) % 256))).heap[q]? = some (.cells cs 5 (0, 0)) ∧ cs.size = bits ∧ ∀ j, j < i + 1 → cs[j]? = some (Value.int .u8 ((hdL k j).toNat : Nat))) := by
            refine Lib.hid ⟨r1.set ⟨q, i, none⟩ _ (.inl rfl), _, blk_set r4 i _, by simpa using r5, fun j hj => ?_⟩
            rw [Array.getElem?_setIfInBounds]
            by_cases hij : i = j
            · subst hij
              rw [if_pos rfl, if_pos (by omega), letter_eq k i (by omega)]
            · rw [if_neg hij]
              exact r6 j (by omega)
          clear r1 r4 r5 r6 hci hrel
          go_wp2_with fail
          go_roundw
          case rel => exact ⟨i + 1, by go_num, by omega, R⟩
          case measure => simp [intOf]; omega
        · have hi64 : decide ((i : Int) < (bits : Int)) = false := decide_eq_false (by omega)
          have hi64c : decide (i < bits) = false := decide_eq_false hil
          obtain rfl : i = bits := by omega
          have hby : By q (hdTxt i k) wr := by
            obtain ⟨r1, cs, r4, r5, r6⟩ := hrel.out
            exact hdTxt_by r4 r5 r6
          have hcv : ∀ wx, By q (hdTxt i k) wx → (convert 29 9 (.slice (some ⟨q, 0, none⟩) i i)).run Try.prog wx = .ok (.string ⟨(hdTxt i k).toArray⟩) wx := fun wx h => by
            have := h.conv i
            rw [hdTxt_len] at this
            exact this
          have HCV := Lib.hid hcv
          have HA1 := Lib.hid (HH1.out k)
          have HA2 := Lib.hid (HH2.out k)
          have hc0 := hrel.out.1
          have HCH := Lib.hid hc0
          have HBY := Lib.hid hby
          clear hby hcv hrel hc0 HH1 HH2
          generalize (⟨(hdTxt i k).toArray⟩ : ByteArray) = s at HCV HA1 HA2
          have cv1 := HCV.out wr HBY.out
          go_wp2_with fail
          refine (HA1.out wr HCH.out).mono ?_
          rintro e w7 ⟨rfl, hb7⟩
          have HCH7 := Lib.hid (HCH.out.then_below hb7)
          have HBY7 : Hid (By q (hdTxt i k) w7) := Lib.hid ((hb7.block q (blk_lt HBY.out)).trans HBY.out)
          clear hb7 HCH HBY cv1
          have cv2 := HCV.out w7 HBY7.out
          go_wp2_with fail
          refine (HA2.out w7 HCH7.out).mono ?_
          rintro e w8 ⟨rfl, hb8⟩
          have HCH8 := Lib.hid (HCH7.out.then_below hb8)
          have HBY8 : Hid (By q (hdTxt i k) w8) := Lib.hid ((hb8.block q (blk_lt HBY7.out)).trans HBY7.out)
          clear hb8 HCH7 HBY7 cv2
          go_wp2_with fail
          · have hs : sameK i T.N T2.N a a2 k = true := by assumption
            go_roundw
            case rel => exact ⟨k + 1, by go_num, Nat.succ_le_of_lt hlt, by rw [sameK, hs, Bool.true_and], Lib.hid ⟨HCH8.out, _, HBY8.out, by simp [hdTxt_len]⟩⟩
            case measure => simp [intOf]; omega
          · have hs : sameK i T.N T2.N a a2 k = false := by first | assumption | simpa using ‹¬ sameK i T.N T2.N a a2 k = true›
            go_roundw
            case rel => exact ⟨k + 1, by go_num, Nat.succ_le_of_lt hlt, by rw [sameK, hs, Bool.false_and], Lib.hid ⟨HCH8.out, _, HBY8.out, by simp [hdTxt_len]⟩⟩
            case measure => simp [intOf]; omega
    · have hlt2 : decide ((k : Int) < wrap64 ((2 : Int) ^ bits)) = false := decide_eq_false (by rw [hw, ← hpk]; omega)
      have hlt3 : decide ((2 : Int) ^ bits < wrap64 ((2 : Int) ^ bits)) = false := decide_eq_false (by rw [hw]; omega)
      obtain rfl : k = 2 ^ bits := by omega
      clear hpb hpk hw
      obtain ⟨x1, x2, x3, x4⟩ := HU.out
      have y1 : BRow u1 (writeB T.bits (listF T.N a) a) wr := ownsRow_step x1 (fun k hk => hrel.out.1.block k (Nat.lt_of_lt_of_le (x3 k hk) HQL.out) (fun e => by have := x3 k hk; omega))
      have y2 : BRow u2 (writeB T2.bits (listF T2.N a2) a2) wr := ownsRow_step x2 (fun k hk => hrel.out.1.block k (Nat.lt_of_lt_of_le (x4 k hk) HQL.out) (fun e => by have := x4 k hk; omega))
      obtain ⟨n1, cc1, rfl, cv1⟩ := brow_conv y1 (writeB_pos _ _ _)
      obtain ⟨n2, cc2, rfl, cv2⟩ := brow_conv y2 (writeB_pos _ _ _)
      have hfin : Below w.heap.size w wr := below_chg HBW6.out hrel.out.1 HQ.out.1 HBW6.out.size
      have HF := Lib.hid hfin
      have HEQ : Hid (sameK bits T.N T2.N a a2 (2 ^ bits) = (writeB T.bits (listF T.N a) a == writeB T2.bits (listF T2.N a2) a2)) := Lib.hid (by
        have e1 := same_iff (bits := bits) (N1 := T.N) (N2 := T2.N) (a := a) (b := a2) (by have := F1.out.wf; rwa [B1.out] at this) (by have := F2.out.wf; rwa [B2.out] at this) HV1.out HV2.out
        rw [Bool.eq_iff_iff, sameK_iff, e1, beq_iff_eq, B1.out, B2.out]
        exact HSE.out.symm)
      unfold strV at cv1 cv2
      clear x1 x2 x3 x4 y1 y2 hrel hfin HU HH1 HH2 HT6 HQ
      go_wp2_with fail
      go_ret
      exact ⟨by rw [HEQ.out]; simp, HF.out⟩
end Go.Proofs.Ytbglnddjhlefnaa
namespace Go.Proofs.Ytbglnddjhlefnaa
open Go Go.RowKit Go.Proofs.YtbglnddjhlefnaaW.PrintWords Go.Proofs.YtbglnddjhlefnaaW.PrintLast Go.Proofs.YtbglnddjhlefnaaW.PrintMore
theorem dumpsame_law (bits : Int) (v : Value) (xs : List ByteArray) (v2 : Value) (ys : List ByteArray) (w : World) (_ : (Lit.int .i64 bits).wf = true) (hV : Kd.V Kd.string 9 w 0 (fun k => k < w.heap.size) v xs) (hx : (∀ x ∈ xs, x.size ≤ 140737488351232) ∧ xs.length * 16 ≤ 140737488351232) (hV2 : Kd.V Kd.string 9 w 0 (fun k => k < w.heap.size) v2 ys) (hy : (∀ x ∈ ys, x.size ≤ 140737488351232) ∧ ys.length * 16 ≤ 140737488351232) :
    Calls Try.prog 3 #[.int .i64 bits, v, v2] w fun e w' => e = .returned (.bool true) ∧ Below w.heap.size w w' := by
  by_cases h1 : 10 < bits
  · exact same_big bits v v2 w h1
  · by_cases h2 : bits < 1
    · exact same_small bits v v2 w h2
    · obtain ⟨n, rfl⟩ : ∃ n : Nat, bits = n := ⟨bits.toNat, by omega⟩
      obtain ⟨A, c, rfl, _⟩ := id hV
      obtain ⟨A2, c2, rfl, _⟩ := id hV2
      exact same_go n (by omega) (by omega) A A2 c c2 xs ys w hV (by omega) hV2 (by omega)
end Go.Proofs.Ytbglnddjhlefnaa
