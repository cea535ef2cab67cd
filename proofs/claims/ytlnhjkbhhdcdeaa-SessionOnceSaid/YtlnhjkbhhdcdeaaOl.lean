/- Messages come once and in order: what the turns of a pair keep, in plain Lean. -/
import Derived.Test.YtlnhjkbhhdcdeaaOk
namespace Go.Proofs.Ytlnhjkbhhdcdeaa
open Go Go.RowKit Go.Proofs.YtlnhjkbhhdcdeaaW.PrintWords Go.Proofs.YtlnhjkbhhdcdeaaW.PrintLast Go.Proofs.YtlnhjkbhhdcdeaaW.PrintMore
open Go.Proofs.Ytlnhjkbhhdcdeaa.PSessionRuns (S27 k27 z27 S116 k116 z116)
set_option linter.unusedVariables false
/-- What is always so of a pair. -/
structure Inv (st : Pa) : Prop where
  bad : st.bad = false
  boot : ∀ i, i < 2 → (st.s i).boot = st.boot i
  now : ∀ i, i < 2 → (st.s i).now ≤ st.now
  up : ∀ i, i < 2 → Uok (st.s i)
  si : ∀ i, i < 2 → SI (st.s i) (st.sent i) (st.boot i)
  ri : ∀ i, i < 2 → RI (st.s i) (st.got i) (st.sent (1 - i)) (st.boot i)
  fi : ∀ i, i < 2 → ∀ f ∈ st.to_ i, FI (st.sent (1 - i)) f
section
variable {st : Pa} {n : Int}
theorem two_cases {P : Nat → Prop} {i : Nat} (hi : i < 2) (h1 : P i) (h2 : P (1 - i)) : ∀ k, k < 2 → P k := by
  intro k hk
  have : k = i ∨ k = 1 - i := by omega
  rcases this with rfl | rfl
  · exact h1
  · exact h2
theorem Inv.turnAt (h : Inv st) (i : Nat) (hi : i < 2) {st' : Pa} {fs : List S27} {more : List Ma} (hbad : st'.bad = false) (hboot : st'.boot = st.boot) (hnow : st'.now = st.now)
    (hs : st'.s (1 - i) = st.s (1 - i)) (hsent : st'.sent (1 - i) = st.sent (1 - i)) (hgot : st'.got (1 - i) = st.got (1 - i)) (hsi : st'.sent i = st.sent i ++ more)
    (hto : ∀ f ∈ st'.to_ i, f ∈ st.to_ i) (hto2 : ∀ f ∈ st'.to_ (1 - i), f ∈ st.to_ (1 - i) ∨ f ∈ fs)
    (hk : Keeps (st'.s i) (st'.sent i) (st'.got i) (st.sent (1 - i)) (st.boot i) st.now fs) : Inv st' := by
  have hii : 1 - (1 - i) = i := by omega
  refine ⟨hbad, two_cases hi ?_ ?_, two_cases hi ?_ ?_, two_cases hi ?_ ?_, two_cases hi ?_ ?_, two_cases hi ?_ ?_, two_cases hi ?_ ?_⟩
  · rw [hboot]; exact hk.boot
  · rw [hboot, hs]; exact h.boot _ (by omega)
  · rw [hnow]; exact hk.now
  · rw [hnow, hs]; exact h.now _ (by omega)
  · exact hk.up
  · rw [hs]; exact h.up _ (by omega)
  · rw [hboot]; exact hk.si
  · rw [hboot, hs, hsent]; exact h.si _ (by omega)
  · rw [hboot, hsent]; exact hk.ri
  · rw [hboot, hs, hgot, hii, hsi]
    have := h.ri (1 - i) (by omega)
    rw [hii] at this
    exact this.more more
  · intro f hf
    rw [hsent]
    exact h.fi i hi f (hto f hf)
  · intro f hf
    rw [hii]
    rcases hto2 f hf with q | q
    · have := h.fi (1 - i) (by omega) f q
      rw [hii] at this
      rw [hsi]
      exact this.more more
    · exact hk.fi f q
theorem Inv.send (h : Inv st) (pn : Pn n st) (hn : n + 70000 ≤ 1099511627776) (i : Nat) (hi : i < 2) (b : List Int) : Inv (st.send i b) := by
  have ha : (st.s i).ask st.now = 0 := ask_zero pn.now0 pn.now1 (h.now i hi)
  have hne : 1 - i ≠ i := by omega
  rcases sendF_inv (pn.pk.ok.ok i hi) (by omega) (h.up i hi) (h.si i hi) (h.ri i hi) (h.boot i hi) ha b with ⟨h0, hk⟩ | ⟨h0, h1, h2, h3⟩
  · unfold Pa.send
    simp only
    rw [if_pos h0]
    by_cases hp : (st.s i).peer = 0
    · simp only [hp, if_pos] at hk ⊢
      refine h.turnAt i hi (more := []) (fs := ((st.s i).sendF st.now [b]).2.1) h.bad rfl rfl (upd_ne _ _ hne) rfl rfl (by simp) (fun f hf => ?_) (fun f hf => ?_) ?_
      · have hf' : f ∈ upd st.to_ (1 - i) (st.to_ (1 - i) ++ ((st.s i).sendF st.now [b]).2.1) i := hf
        rw [upd_ne _ _ (Ne.symm hne)] at hf'
        exact hf'
      · have hf' : f ∈ upd st.to_ (1 - i) (st.to_ (1 - i) ++ ((st.s i).sendF st.now [b]).2.1) (1 - i) := hf
        rw [upd_at] at hf'
        exact List.mem_append.1 hf'
      · show Keeps (upd st.s i _ i) _ _ _ _ _ _
        rw [upd_at]
        exact hk
    · simp only [if_neg hp] at hk ⊢
      refine h.turnAt i hi (more := [⟨st.boot i, (st.s i).peer, b⟩]) (fs := ((st.s i).sendF st.now [b]).2.1) h.bad rfl rfl (upd_ne _ _ hne) (upd_ne _ _ hne) rfl (upd_at _ _ _) (fun f hf => ?_) (fun f hf => ?_) ?_
      · have hf' : f ∈ upd st.to_ (1 - i) (st.to_ (1 - i) ++ ((st.s i).sendF st.now [b]).2.1) i := hf
        rw [upd_ne _ _ (Ne.symm hne)] at hf'
        exact hf'
      · have hf' : f ∈ upd st.to_ (1 - i) (st.to_ (1 - i) ++ ((st.s i).sendF st.now [b]).2.1) (1 - i) := hf
        rw [upd_at] at hf'
        exact List.mem_append.1 hf'
      · show Keeps (upd st.s i _ i) (upd st.sent i _ i) _ _ _ _ _
        rw [upd_at, upd_at]
        exact hk
  · unfold Pa.send
    simp only
    rw [if_neg h0, h2, h3, h.bad]
    have e : upd st.s i (st.s i) = st.s := by
      funext k
      unfold upd
      split
      · rename_i hk
        rw [hk]
      · rfl
    rw [e]
    exact ⟨rfl, h.boot, h.now, h.up, h.si, h.ri, h.fi⟩
theorem Inv.lose (h : Inv st) (i : Nat) (hi : i < 2) (k : Nat) : Inv (st.lose i k) := by
  refine ⟨h.bad, h.boot, h.now, h.up, h.si, h.ri, two_cases hi (fun f hf => ?_) (fun f hf => ?_)⟩
  · have hf' : f ∈ upd st.to_ i ((st.to_ i).eraseIdx k) i := hf
    rw [upd_at] at hf'
    exact h.fi i hi f (List.mem_of_mem_eraseIdx hf')
  · have hf' : f ∈ upd st.to_ i ((st.to_ i).eraseIdx k) (1 - i) := hf
    rw [upd_ne _ _ (by omega)] at hf'
    exact h.fi (1 - i) (by omega) f hf'
theorem Inv.take (h : Inv st) (pn : Pn n st) (hn : n + 70000 ≤ 1099511627776) (i : Nat) (hi : i < 2) (k : Nat) (stays : Bool) : Inv (st.take i k stays) := by
  have ha : (st.s i).ask st.now = 0 := ask_zero pn.now0 pn.now1 (h.now i hi)
  have hne : 1 - i ≠ i := by omega
  by_cases hk : k < (st.to_ i).length
  · have hmem : (st.to_ i).getD k z27 ∈ st.to_ i := by
      rw [List.getD_eq_getElem?_getD, List.getElem?_eq_getElem hk]
      exact List.getElem_mem _
    have hfo := pn.pk.ok.fr i hi _ hmem
    have hfi := h.fi i hi _ hmem
    unfold Pa.take
    rw [if_pos hk]
    generalize (st.to_ i).getD k z27 = f at hfo hfi
    obtain ⟨h0, kp⟩ := takeF_inv (pn.pk.ok.ok i hi) (by omega) (h.up i hi) (h.si i hi) (h.ri i hi) (h.boot i hi) hfi ha hfo.1 hfo.2.1
    obtain ⟨st0, e0⟩ : ∃ st0 : Pa, st0 = (if stays then st else { st with to_ := upd st.to_ i ((st.to_ i).eraseIdx k) }) := ⟨_, rfl⟩
    have hst0 : st0.boot = st.boot ∧ st0.now = st.now ∧ st0.sent = st.sent ∧ (∀ f ∈ st0.to_ i, f ∈ st.to_ i) ∧ st0.to_ (1 - i) = st.to_ (1 - i) := by
      rw [e0]
      split
      · exact ⟨rfl, rfl, rfl, fun _ h => h, rfl⟩
      · refine ⟨rfl, rfl, rfl, fun x hx => ?_, upd_ne _ _ hne⟩
        have hx' : x ∈ upd st.to_ i ((st.to_ i).eraseIdx k) i := hx
        rw [upd_at] at hx'
        exact List.mem_of_mem_eraseIdx hx'
    simp only
    rw [← e0]
    obtain ⟨a1, a2, a3, a4, a5⟩ := hst0
    clear e0
    refine h.turnAt i hi (more := []) (fs := ((st.s i).takeF st.now f).fs) ?_ a1 a2 (upd_ne _ _ hne) (by show st0.sent _ = _; rw [a3]) (upd_ne _ _ hne) (by show st0.sent _ = _; rw [a3]; simp) (fun x hx => ?_) (fun x hx => ?_) ?_
    · show (st.bad || decide (((st.s i).takeF st.now f).err ≠ 0)) = false
      rw [h.bad, h0]
      rfl
    · have hx' : x ∈ upd st0.to_ (1 - i) (st0.to_ (1 - i) ++ ((st.s i).takeF st.now f).fs) i := hx
      rw [upd_ne _ _ (Ne.symm hne)] at hx'
      exact a4 x hx'
    · have hx' : x ∈ upd st0.to_ (1 - i) (st0.to_ (1 - i) ++ ((st.s i).takeF st.now f).fs) (1 - i) := hx
      rw [upd_at, a5] at hx'
      exact List.mem_append.1 hx'
    · show Keeps (upd st.s i _ i) (st0.sent i) (upd st.got i _ i) _ _ _ _
      rw [upd_at, upd_at, a3]
      exact kp
  · unfold Pa.take
    rw [if_neg hk]
    exact h
theorem Inv.tick1 (h : Inv st) (pn : Pn n st) (i : Nat) (hi : i < 2) : Inv (st.tick1 i) := by
  have ha : (st.s i).ask st.now = 0 := ask_zero pn.now0 pn.now1 (h.now i hi)
  have hne : 1 - i ≠ i := by omega
  obtain ⟨h0, kp⟩ := tickF_inv (pn.pk.ok.ok i hi) (h.up i hi) (h.si i hi) (h.ri i hi) (h.boot i hi) ha
  unfold Pa.tick1
  simp only
  refine h.turnAt i hi (more := []) (fs := ((st.s i).tickF st.now).2.1) ?_ rfl rfl (upd_ne _ _ hne) rfl rfl (by simp) (fun x hx => ?_) (fun x hx => ?_) ?_
  · show (st.bad || decide (((st.s i).tickF st.now).1 ≠ 0)) = false
    rw [h.bad, h0]
    rfl
  · have hx' : x ∈ upd st.to_ (1 - i) (st.to_ (1 - i) ++ ((st.s i).tickF st.now).2.1) i := hx
    rw [upd_ne _ _ (Ne.symm hne)] at hx'
    exact hx'
  · have hx' : x ∈ upd st.to_ (1 - i) (st.to_ (1 - i) ++ ((st.s i).tickF st.now).2.1) (1 - i) := hx
    rw [upd_at] at hx'
    exact List.mem_append.1 hx'
  · show Keeps (upd st.s i _ i) _ _ _ _ _ _
    rw [upd_at]
    exact kp
theorem Inv.tick (h : Inv st) (pn : Pn n st) (hn : n + 140000 ≤ 1099511627776) (d : Int) (hd : 0 ≤ d) : Inv (st.tick d) := by
  have p1 := pn.later d hd
  have i1 : Inv (st.later d) := by
    refine ⟨h.bad, h.boot, fun i hi => ?_, h.up, h.si, h.ri, h.fi⟩
    have h1 := h.now i hi
    have h2 := pn.now1
    show (st.s i).now ≤ mn (st.now + d) 1099511627776
    unfold mn
    split <;> omega
  exact (i1.tick1 p1 0 (by omega)).tick1 (p1.tick1 0 (by omega) (by omega)) 1 (by omega)
theorem Inv.restart (h : Inv st) (pn : Pn n st) (hn : n + 1 ≤ 4294967295) (i : Nat) (hi : i < 2) : Inv (st.restart i) := by
  have hne : 1 - i ≠ i := by omega
  have hii : 1 - (1 - i) = i := by omega
  obtain ⟨ok, eo⟩ := pn.newS i hi hn
  have hsi := h.si i hi
  have hri := h.ri i hi
  unfold Pa.restart
  refine ⟨h.bad, two_cases hi ?_ ?_, two_cases hi ?_ ?_, two_cases hi ?_ ?_, two_cases hi ?_ ?_, two_cases hi ?_ ?_, two_cases hi (fun f hf => ?_) (fun f hf => ?_)⟩
  · show (upd st.s i _ i).boot = upd st.boot i _ i
    rw [upd_at, upd_at]
    rfl
  · show (upd st.s i _ (1 - i)).boot = upd st.boot i _ (1 - i)
    rw [upd_ne _ _ hne, upd_ne _ _ hne]
    exact h.boot _ (by omega)
  · show (upd st.s i _ i).now ≤ st.now
    rw [upd_at]
    exact Int.le_refl _
  · show (upd st.s i _ (1 - i)).now ≤ st.now
    rw [upd_ne _ _ hne]
    exact h.now _ (by omega)
  · show Uok (upd st.s i _ i)
    rw [upd_at]
    exact fun hu => by cases hu
  · show Uok (upd st.s i _ (1 - i))
    rw [upd_ne _ _ hne]
    exact h.up _ (by omega)
  · show SI (upd st.s i _ i) (st.sent i) (upd st.boot i _ i)
    rw [upd_at, upd_at]
    refine ⟨fun x hx => ?_, fun hp => absurd rfl hp⟩
    have := (hsi.1 x hx).1
    refine ⟨by omega, fun he => ?_⟩
    omega
  · show SI (upd st.s i _ (1 - i)) (st.sent (1 - i)) (upd st.boot i _ (1 - i))
    rw [upd_ne _ _ hne, upd_ne _ _ hne]
    exact h.si _ (by omega)
  · show RI (upd st.s i _ i) (st.got i) (st.sent (1 - i)) (upd st.boot i _ i)
    rw [upd_at, upd_at]
    refine ⟨fun x hx => ?_, fun hp => absurd rfl hp, hri.2.2⟩
    have := (hri.1 x hx).1
    refine ⟨by omega, fun he => ?_⟩
    omega
  · show RI (upd st.s i _ (1 - i)) (st.got (1 - i)) (st.sent (1 - (1 - i))) (upd st.boot i _ (1 - i))
    rw [upd_ne _ _ hne, upd_ne _ _ hne]
    exact h.ri _ (by omega)
  · have hf' : f ∈ upd st.to_ (1 - i) (st.to_ (1 - i) ++ [(st.newS i).helloF]) i := hf
    rw [upd_ne _ _ (Ne.symm hne)] at hf'
    exact h.fi i hi f hf'
  · have hf' : f ∈ upd st.to_ (1 - i) (st.to_ (1 - i) ++ [(st.newS i).helloF]) (1 - i) := hf
    rw [upd_at] at hf'
    rcases List.mem_append.1 hf' with q | q
    · exact h.fi (1 - i) (by omega) f q
    · simp at q
      subst q
      exact hello_fi ok
theorem Inv.turn (h : Inv st) (pn : Pn n st) (t : Tu) (ht : 0 ≤ t.n) (hn : n + 140000 ≤ 4294967295) : Inv (st.turn t) := by
  have hi : t.i < 2 := by
    unfold Tu.i
    split <;> omega
  unfold Pa.turn
  split
  · exact h.send pn (by omega) t.i hi _
  · split
    · exact h.take pn (by omega) t.i hi _ _
    · split
      · exact h.take pn (by omega) t.i hi _ _
      · split
        · split
          · exact h.lose t.i hi _
          · exact h
        · split
          · exact h.tick pn (by omega) _ ht
          · split
            · exact h.restart pn (by omega) _ hi
            · exact h
end
theorem turns_inv : ∀ (l : List Tu) {n : Int} {st : Pa}, Inv st → Pn n st → (∀ t ∈ l, 0 ≤ t.n) → n + 140000 * l.length ≤ 4294967295 → Inv (turns st l) ∧ Pn (n + 140000 * l.length) (turns st l)
  | [], n, st, h, pn, _, _ => by simpa [turns] using ⟨h, pn⟩
  | t :: l, n, st, h, pn, ht, hn => by
    rw [List.length_cons] at hn
    have h1 := h.turn pn t (ht t List.mem_cons_self) (by omega)
    have h2 := pn.turn t (ht t List.mem_cons_self) (by omega)
    have r := turns_inv l h1 h2 (fun x hx => ht x (List.mem_cons_of_mem _ hx)) (by omega)
    rw [List.length_cons, show n + 140000 * ((l.length + 1 : Nat) : Int) = n + 140000 + 140000 * (l.length : Int) by omega]
    exact r
theorem mst_inv {bo wi tm : Nat → Int} (h : ∀ i, i < 2 → badc (bo i) (wi i) (tm i) = false) (h0 : ∀ i, i < 2 → 0 ≤ bo i ∧ bo i < 4294967296) : Inv (mst bo wi tm 2) := by
  have hok : ∀ i, i < 2 → Ok 1 (se0 (bo i) (wi i) (tm i) 0).start := fun i hi => se0_ok (h i hi) (h0 i hi).1 (h0 i hi).2
  have hs : ∀ i, i < 2 → (mst bo wi tm 2).s i = (se0 (bo i) (wi i) (tm i) 0).start := fun i hi => by
    have : i = 0 ∨ i = 1 := by omega
    rcases this with rfl | rfl <;> simp [mst, upd]
  refine ⟨rfl, fun i hi => ?_, fun i hi => ?_, fun i hi => ?_, fun i hi => ?_, fun i hi => ?_, fun i hi f hf => ?_⟩
  · rw [hs i hi]; rfl
  · rw [hs i hi]; exact Int.le_refl _
  · rw [hs i hi]; exact fun hu => by cases hu
  · rw [hs i hi]; exact ⟨fun x hx => (by cases hx), fun hp => absurd rfl hp⟩
  · rw [hs i hi]; exact ⟨fun x hx => (by cases hx), fun hp => absurd rfl hp, fun x y => List.prefix_refl _⟩
  · have : i = 0 ∨ i = 1 := by omega
    rcases this with rfl | rfl
    · have hf2 : f = (se0 (bo 1) (wi 1) (tm 1) 0).start.helloF := by simpa [mst, upd] using hf
      rw [hf2]
      exact hello_fi (hok 1 (by omega))
    · have hf2 : f = (se0 (bo 0) (wi 0) (tm 0) 0).start.helloF := by simpa [mst, upd] using hf
      rw [hf2]
      exact hello_fi (hok 0 (by omega))
end Go.Proofs.Ytlnhjkbhhdcdeaa
