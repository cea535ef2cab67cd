/- If, then, else of diagrams: a model by fuel, what it means, what is new in the row of nodes. No program. -/
import Derived.Test.YtbglnddjhlefnaaPa
namespace Go.Proofs.Ytbglnddjhlefnaa
section
variable {α β : Type} [DecidableEq α]
def getG : List (α × β) → α → Option β
  | [], _ => none
  | p :: L, k => if p.1 = k then some p.2 else getG L k
def putG : List (α × β) → α → β → List (α × β)
  | [], k, v => [(k, v)]
  | p :: L, k, v => if p.1 = k then (k, v) :: L else p :: putG L k v
theorem getG_mem {k : α} {v : β} : ∀ {L : List (α × β)}, getG L k = some v → (k, v) ∈ L
  | p :: L, h => by
    rw [getG] at h
    by_cases hp : p.1 = k
    · rw [if_pos hp] at h; cases h; subst hp; exact List.mem_cons_self
    · rw [if_neg hp] at h; exact List.mem_cons_of_mem _ (getG_mem h)
theorem putG_mem {k : α} {v : β} {p : α × β} : ∀ {L : List (α × β)}, p ∈ putG L k v → p = (k, v) ∨ p ∈ L
  | [], h => by simp [putG] at h; exact .inl h
  | q :: L, h => by
    rw [putG] at h
    by_cases hq : q.1 = k
    · rw [if_pos hq] at h
      rcases List.mem_cons.1 h with h | h
      · exact .inl h
      · exact .inr (List.mem_cons_of_mem _ h)
    · rw [if_neg hq] at h
      rcases List.mem_cons.1 h with h | h
      · exact .inr (h ▸ List.mem_cons_self)
      · rcases putG_mem h with h | h
        · exact .inl h
        · exact .inr (List.mem_cons_of_mem _ h)
theorem getG_putG {k : α} {v : β} : ∀ (L : List (α × β)), getG (putG L k v) k = some v
  | [] => by simp [putG, getG]
  | q :: L => by
    rw [putG]
    by_cases hq : q.1 = k
    · rw [if_pos hq]; simp [getG]
    · rw [if_neg hq, getG, if_neg hq]; exact getG_putG L
end
abbrev Dn := List ((Nat × Nat × Nat) × Nat)
def lowBit (bits : Nat) (N : List Nd) (a b c : Nat) : Nat := min (min (bitOf bits N a) (bitOf bits N b)) (bitOf bits N c)
/-- pg: the program's; else the document's. -/
def iteF (pg : Bool) (bits : Nat) : Nat → Nat → Nat → Nat → List Nd → Dn → Nat × List Nd × Dn
  | 0, _, _, _, N, D => (0, N, D)
  | f + 1, a, b, c, N, D =>
    if a = 1 ∨ b = c then (b, N, D) else
    if a = 0 then (c, N, D) else
    if pg = true ∧ b = 1 ∧ c = 0 then (a, N, D) else
    match getG D (a, b, c) with
    | some r => (r, N, D)
    | none =>
      let bit := lowBit bits N a b c
      let x := iteF pg bits f (halfOf bits N a bit false) (halfOf bits N b bit false) (halfOf bits N c bit false) N D
      let y := iteF pg bits f (halfOf bits x.2.1 a bit true) (halfOf bits x.2.1 b bit true) (halfOf bits x.2.1 c bit true) x.2.1 x.2.2
      let m := mkN y.2.1 bit x.1 y.1
      (m.1, m.2, if pg then putG y.2.2 (a, b, c) m.1 else y.2.2 ++ [((a, b, c), m.1)])
def DOk (bits : Nat) (N : List Nd) (D : Dn) : Prop :=
  ∀ p ∈ D, Val N p.1.1 ∧ Val N p.1.2.1 ∧ Val N p.1.2.2 ∧ Val N p.2 ∧ (∀ h, sem N p.2 h = if sem N p.1.1 h then sem N p.1.2.1 h else sem N p.1.2.2 h) ∧ lowBit bits N p.1.1 p.1.2.1 p.1.2.2 ≤ bitOf bits N p.2
/-- What node i means is what is left of r on some way. -/
def Sub (N : List Nd) (i r : Nat) : Prop := ∃ v : Hd, ∀ h, sem N i h = sem N r (fun k => if k < (ndAt N i).b then v k else h k)
structure IteOk (bits : Nat) (N : List Nd) (a b c : Nat) (x : Nat × List Nd × Dn) : Prop where
  pre : N <+: x.2.1
  wf : WF bits x.2.1
  dok : DOk bits x.2.1 x.2.2
  val : Val x.2.1 x.1
  sem : ∀ h, sem x.2.1 x.1 h = if sem x.2.1 a h then sem x.2.1 b h else sem x.2.1 c h
  bit : lowBit bits N a b c ≤ bitOf bits x.2.1 x.1
  new : ∀ i, N.length + 2 ≤ i → Val x.2.1 i → Sub x.2.1 i x.1
section
variable {bits : Nat} {N N' : List Nd} {a b c : Nat} {D : Dn} {h : Hd}
theorem DOk.pre (hd : DOk bits N D) (w : WF bits N) (hp : N <+: N') (w' : WF bits N') : DOk bits N' D := by
  intro p hp'
  obtain ⟨h1, h2, h3, h4, h5, h6⟩ := hd p hp'
  refine ⟨h1.pre hp, h2.pre hp, h3.pre hp, h4.pre hp, fun h => ?_, ?_⟩
  · rw [sem_pre w hp w' _ h1, sem_pre w hp w' _ h2, sem_pre w hp w' _ h3, sem_pre w hp w' _ h4, h5]
  · unfold lowBit at *
    rw [bitOf_pre hp h1, bitOf_pre hp h2, bitOf_pre hp h3, bitOf_pre hp h4]
    exact h6
theorem Sub.pre (w : WF bits N) (hp : N <+: N') (w' : WF bits N') {i r : Nat} (h2 : 2 ≤ i) (hi : Val N i) (hr : Val N r) (hs : Sub N i r) : Sub N' i r := by
  obtain ⟨v, hv⟩ := hs
  refine ⟨v, fun h => ?_⟩
  rw [sem_pre w hp w' _ hi, sem_pre w hp w' _ hr, ndAt_pre hp h2 hi, hv]
theorem lowBit_pre (hp : N <+: N') (ha : Val N a) (hb : Val N b) (hc : Val N c) : lowBit bits N' a b c = lowBit bits N a b c := by
  unfold lowBit
  rw [bitOf_pre hp ha, bitOf_pre hp hb, bitOf_pre hp hc]
theorem lowBit_le : lowBit bits N a b c ≤ bitOf bits N a ∧ lowBit bits N a b c ≤ bitOf bits N b ∧ lowBit bits N a b c ≤ bitOf bits N c := by
  unfold lowBit; omega
theorem lowBit_half (w : WF bits N) (ha : Val N a) (hb : Val N b) (hc : Val N c) (hl : lowBit bits N a b c < bits) (x : Bool) :
    lowBit bits N a b c < lowBit bits N (halfOf bits N a (lowBit bits N a b c) x) (halfOf bits N b (lowBit bits N a b c) x) (halfOf bits N c (lowBit bits N a b c) x) := by
  obtain ⟨l1, l2, l3⟩ := lowBit_le (bits := bits) (N := N) (a := a) (b := b) (c := c)
  have h1 := half_bit w ha _ hl l1 x
  have h2 := half_bit w hb _ hl l2 x
  have h3 := half_bit w hc _ hl l3 x
  generalize halfOf bits N a (lowBit bits N a b c) x = p at *
  generalize halfOf bits N b (lowBit bits N a b c) x = q at *
  generalize halfOf bits N c (lowBit bits N a b c) x = r at *
  generalize lowBit bits N a b c = m at *
  unfold lowBit
  omega
/-- What is left of a function where its first bit is so. -/
theorem Sub.half {i r : Nat} {bit : Nat} {x : Bool} {r' : Nat} (hb : bit < (ndAt N i).b) (hr : ∀ h, h bit = x → sem N r' h = sem N r h) (hs : Sub N i r') (hrb : ∀ h g, (∀ k, bit < k → h k = g k) → sem N r' h = sem N r' g) : Sub N i r := by
  obtain ⟨v, hv⟩ := hs
  refine ⟨upd v bit x, fun h => ?_⟩
  rw [hv, ← hr _ (by rw [if_pos hb]; simp [upd])]
  refine hrb _ _ (fun k hk => ?_)
  have : upd v bit x k = v k := by simp only [upd]; rw [if_neg (by omega)]
  rw [this]
theorem iteF_ok (pg : Bool) : ∀ (f a b c : Nat) (N : List Nd) (D : Dn), WF bits N → DOk bits N D → Val N a → Val N b → Val N c → bits < f + lowBit bits N a b c → IteOk bits N a b c (iteF pg bits f a b c N D) := by
  intro f
  induction f with
  | zero =>
    intro a b c N D w _ ha hb hc hf
    have := w.bit_le ha
    have := (lowBit_le (bits := bits) (N := N) (a := a) (b := b) (c := c)).1
    omega
  | succ f ih =>
    intro a b c N D w hd ha hb hc hf
    have none_new : ∀ r : Nat, ∀ i, N.length + 2 ≤ i → Val N i → Sub N i r := fun r i h1 h2 => by unfold Val at h2; omega
    obtain ⟨l1, l2, l3⟩ := lowBit_le (bits := bits) (N := N) (a := a) (b := b) (c := c)
    rw [iteF]
    by_cases h1 : a = 1 ∨ b = c
    · rw [if_pos h1]
      refine ⟨List.prefix_refl _, w, hd, hb, fun h => ?_, l2, none_new b⟩
      rcases h1 with rfl | rfl
      · simp only; rw [sem_one, if_pos rfl]
      · simp
    rw [if_neg h1]
    by_cases h2 : a = 0
    · rw [if_pos h2]
      subst h2
      exact ⟨List.prefix_refl _, w, hd, hc, fun h => by simp only; rw [sem_zero, if_neg (by simp)], l3, none_new c⟩
    rw [if_neg h2]
    by_cases h3 : pg = true ∧ b = 1 ∧ c = 0
    · rw [if_pos h3]
      obtain ⟨_, rfl, rfl⟩ := h3
      exact ⟨List.prefix_refl _, w, hd, ha, fun h => by simp only; rw [sem_one, sem_zero]; cases sem N a h <;> rfl, l1, none_new a⟩
    rw [if_neg h3]
    cases hg : getG D (a, b, c) with
    | some r =>
      obtain ⟨_, _, _, q4, q5, q6⟩ := hd _ (getG_mem hg)
      exact ⟨List.prefix_refl _, w, hd, q4, q5, q6, none_new r⟩
    | none =>
      simp only
      have ha2 : 2 ≤ a := by omega
      have hl : lowBit bits N a b c < bits := Nat.lt_of_le_of_lt l1 (w.bit_lt ha2 ha)
      obtain ⟨bit, hbit⟩ : ∃ bit, bit = lowBit bits N a b c := ⟨_, rfl⟩
      have k0 := lowBit_half w ha hb hc hl false
      rw [← hbit] at k0 l1 l2 l3 hl hf ⊢
      have X := ih (halfOf bits N a bit false) (halfOf bits N b bit false) (halfOf bits N c bit false) N D w hd (ha.half w bit hl _) (hb.half w bit hl _) (hc.half w bit hl _) (by omega)
      generalize iteF pg bits f (halfOf bits N a bit false) (halfOf bits N b bit false) (halfOf bits N c bit false) N D = x at X ⊢
      have ha1 := ha.pre X.pre
      have hb1 := hb.pre X.pre
      have hc1 := hc.pre X.pre
      have e1 := lowBit_pre (bits := bits) X.pre ha hb hc
      rw [← hbit] at e1
      have k1 := lowBit_half X.wf ha1 hb1 hc1 (by rw [e1]; exact hl) true
      rw [e1] at k1
      have Y := ih (halfOf bits x.2.1 a bit true) (halfOf bits x.2.1 b bit true) (halfOf bits x.2.1 c bit true) x.2.1 x.2.2 X.wf X.dok (ha1.half X.wf bit hl _) (hb1.half X.wf bit hl _) (hc1.half X.wf bit hl _) (by omega)
      generalize iteF pg bits f (halfOf bits x.2.1 a bit true) (halfOf bits x.2.1 b bit true) (halfOf bits x.2.1 c bit true) x.2.1 x.2.2 = y at Y ⊢
      have hp2 : N <+: y.2.1 := X.pre.trans Y.pre
      have ha2' := ha.pre hp2
      have hb2' := hb.pre hp2
      have hc2' := hc.pre hp2
      have vx : Val y.2.1 x.1 := X.val.pre Y.pre
      have bx : bit < bitOf bits y.2.1 x.1 := by rw [bitOf_pre Y.pre X.val]; exact Nat.lt_of_lt_of_le k0 X.bit
      have by_ : bit < bitOf bits y.2.1 y.1 := Nat.lt_of_lt_of_le k1 Y.bit
      have wm := mkN_wf Y.wf hl vx Y.val bx by_
      have pm := mkN_pre (N := y.2.1) bit x.1 y.1
      have vm : Val (mkN y.2.1 bit x.1 y.1).2 (mkN y.2.1 bit x.1 y.1).1 := mkN_val vx
      have hpm : N <+: (mkN y.2.1 bit x.1 y.1).2 := hp2.trans pm
      have hh0 : ∀ (d : Nat), Val N d → halfOf bits y.2.1 d bit false = halfOf bits N d bit false := fun d hd => halfOf_pre hp2 hd bit hl false
      have hh1 : ∀ (d : Nat), Val N d → halfOf bits y.2.1 d bit true = halfOf bits x.2.1 d bit true := fun d hd => halfOf_pre Y.pre (hd.pre X.pre) bit hl true
      have ebit : ∀ d, Val N d → bitOf bits y.2.1 d = bitOf bits N d := fun d hd => bitOf_pre hp2 hd
      -- what the two halves mean
      have sx : ∀ h, h bit = false → sem y.2.1 x.1 h = if sem y.2.1 a h then sem y.2.1 b h else sem y.2.1 c h := by
        intro h hb0
        rw [sem_pre X.wf Y.pre Y.wf _ X.val, X.sem]
        rw [← half_sem Y.wf ha2' bit hl false hb0, ← half_sem Y.wf hb2' bit hl false hb0, ← half_sem Y.wf hc2' bit hl false hb0, hh0 a ha, hh0 b hb, hh0 c hc]
        rw [sem_pre X.wf Y.pre Y.wf _ ((ha.half w bit hl _).pre X.pre), sem_pre X.wf Y.pre Y.wf _ ((hb.half w bit hl _).pre X.pre), sem_pre X.wf Y.pre Y.wf _ ((hc.half w bit hl _).pre X.pre)]
      have sy : ∀ h, h bit = true → sem y.2.1 y.1 h = if sem y.2.1 a h then sem y.2.1 b h else sem y.2.1 c h := by
        intro h hb0
        rw [Y.sem]
        rw [← half_sem Y.wf ha2' bit hl true hb0, ← half_sem Y.wf hb2' bit hl true hb0, ← half_sem Y.wf hc2' bit hl true hb0, hh1 a ha, hh1 b hb, hh1 c hc]
      have sm : ∀ h, sem (mkN y.2.1 bit x.1 y.1).2 (mkN y.2.1 bit x.1 y.1).1 h = if sem (mkN y.2.1 bit x.1 y.1).2 a h then sem (mkN y.2.1 bit x.1 y.1).2 b h else sem (mkN y.2.1 bit x.1 y.1).2 c h := by
        intro h
        rw [mkN_sem Y.wf hl vx Y.val bx by_, sem_pre Y.wf pm wm _ ha2', sem_pre Y.wf pm wm _ hb2', sem_pre Y.wf pm wm _ hc2']
        by_cases hb0 : h bit = true
        · rw [if_pos hb0]; exact sy h hb0
        · rw [if_neg hb0]; exact sx h (by simpa using hb0)
      have bm : bit ≤ bitOf bits (mkN y.2.1 bit x.1 y.1).2 (mkN y.2.1 bit x.1 y.1).1 := mkN_bit bx
      have lm : lowBit bits (mkN y.2.1 bit x.1 y.1).2 a b c = bit := by rw [lowBit_pre hpm ha hb hc, hbit]
      have hrow : Val (mkN y.2.1 bit x.1 y.1).2 a ∧ Val (mkN y.2.1 bit x.1 y.1).2 b ∧ Val (mkN y.2.1 bit x.1 y.1).2 c := ⟨ha.pre hpm, hb.pre hpm, hc.pre hpm⟩
      refine ⟨hpm, wm, ?_, vm, sm, by rw [← hbit]; exact bm, ?_⟩
      · have hdm := Y.dok.pre Y.wf pm wm
        have hnew : ∀ p : (Nat × Nat × Nat) × Nat, p = ((a, b, c), (mkN y.2.1 bit x.1 y.1).1) → Val (mkN y.2.1 bit x.1 y.1).2 p.1.1 ∧ Val (mkN y.2.1 bit x.1 y.1).2 p.1.2.1 ∧ Val (mkN y.2.1 bit x.1 y.1).2 p.1.2.2 ∧ Val (mkN y.2.1 bit x.1 y.1).2 p.2 ∧ (∀ h, sem (mkN y.2.1 bit x.1 y.1).2 p.2 h = if sem (mkN y.2.1 bit x.1 y.1).2 p.1.1 h then sem (mkN y.2.1 bit x.1 y.1).2 p.1.2.1 h else sem (mkN y.2.1 bit x.1 y.1).2 p.1.2.2 h) ∧ lowBit bits (mkN y.2.1 bit x.1 y.1).2 p.1.1 p.1.2.1 p.1.2.2 ≤ bitOf bits (mkN y.2.1 bit x.1 y.1).2 p.2 := by
          rintro p rfl
          exact ⟨hrow.1, hrow.2.1, hrow.2.2, vm, sm, by simp only; rw [lm]; exact bm⟩
        intro p hp
        simp only at hp
        by_cases hpg : pg = true
        · rw [if_pos hpg] at hp
          rcases putG_mem hp with hp | hp
          · exact hnew p hp
          · exact hdm p hp
        · rw [if_neg hpg] at hp
          rcases List.mem_append.1 hp with hp | hp
          · exact hdm p hp
          · exact hnew p (by simpa using hp)
      · intro i hi hv
        simp only at hv ⊢
        -- a new number: out of the first half, out of the second, or the node that was made
        have hsx : ∀ h, h bit = false → sem (mkN y.2.1 bit x.1 y.1).2 x.1 h = sem (mkN y.2.1 bit x.1 y.1).2 (mkN y.2.1 bit x.1 y.1).1 h := by
          intro h hb0
          rw [mkN_sem Y.wf hl vx Y.val bx by_, if_neg (by rw [hb0]; simp), sem_pre Y.wf pm wm _ vx]
        have hsy : ∀ h, h bit = true → sem (mkN y.2.1 bit x.1 y.1).2 y.1 h = sem (mkN y.2.1 bit x.1 y.1).2 (mkN y.2.1 bit x.1 y.1).1 h := by
          intro h hb0
          rw [mkN_sem Y.wf hl vx Y.val bx by_, if_pos hb0, sem_pre Y.wf pm wm _ Y.val]
        have ind : ∀ r, Val y.2.1 r → bit < bitOf bits y.2.1 r → ∀ h g : Hd, (∀ k, bit < k → h k = g k) → sem (mkN y.2.1 bit x.1 y.1).2 r h = sem (mkN y.2.1 bit x.1 y.1).2 r g := by
          intro r hr hb0 h g hk
          refine sem_congr wm r (hr.pre pm) h g (fun k hk' _ => hk k ?_)
          rw [bitOf_pre pm hr] at hk'
          omega
        have hbit_new : ∀ r, Val y.2.1 r → bit < bitOf bits y.2.1 r → ∀ i, 2 ≤ i → Val (mkN y.2.1 bit x.1 y.1).2 i → Sub (mkN y.2.1 bit x.1 y.1).2 i r → bit < (ndAt (mkN y.2.1 bit x.1 y.1).2 i).b := by
          intro r hr hb0 i h2 hv hs
          rcases Nat.lt_or_ge bit (ndAt (mkN y.2.1 bit x.1 y.1).2 i).b with hlt | hge
          · exact hlt
          · exfalso
            obtain ⟨v, hv'⟩ := hs
            obtain ⟨_, g3, g4, g5, _⟩ := wm.at_ h2 hv
            refine g5 (canon wm (hv.lo wm h2) (hv.hi wm h2) (fun h => ?_))
            rw [sem_lo wm h2 hv, sem_hi wm h2 hv, hv', hv']
            refine ind r hr hb0 _ _ (fun k hk => ?_)
            rw [if_neg (by omega), if_neg (by omega)]
            simp only [upd]
            rw [if_neg (by omega), if_neg (by omega)]
        rcases Nat.lt_or_ge i (x.2.1.length + 2) with hix | hix
        · have s0 := X.new i hi hix
          have s1 := Sub.pre Y.wf pm wm (by omega) (Val.pre Y.pre hix) vx (Sub.pre X.wf Y.pre Y.wf (by omega) hix X.val s0)
          exact Sub.half (hbit_new x.1 vx bx i (by omega) hv s1) hsx s1 (ind x.1 vx bx)
        · rcases Nat.lt_or_ge i (y.2.1.length + 2) with hiy | hiy
          · have s0 := Y.new i hix hiy
            have s1 := Sub.pre Y.wf pm wm (by omega) hiy Y.val s0
            exact Sub.half (hbit_new y.1 Y.val by_ i (by omega) hv s1) hsy s1 (ind y.1 Y.val by_)
          · obtain ⟨n1, n2⟩ := mkN_new (N := y.2.1) (i := i - 2) (ndAt_some (by omega) hv) (by omega)
            have hie : i = (mkN y.2.1 bit x.1 y.1).1 := by omega
            refine ⟨fun _ => false, fun h => ?_⟩
            rw [← hie]
            refine sem_congr wm i hv _ _ (fun k hk _ => ?_)
            rw [bitOf_node (by omega)] at hk
            rw [if_neg (by omega)]
end
end Go.Proofs.Ytbglnddjhlefnaa
