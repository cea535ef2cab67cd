/- A pair's turns, in plain Lean, and the bounds that they keep. -/
import Derived.Test.YtlnhjkbhhdcdeaaSq1
import Derived.Test.YtlnhjkbhhdcdeaaMh
namespace Go.Proofs.Ytlnhjkbhhdcdeaa
open Go Go.RowKit Go.Proofs.YtlnhjkbhhdcdeaaW.PrintWords Go.Proofs.YtlnhjkbhhdcdeaaW.PrintLast Go.Proofs.YtlnhjkbhhdcdeaaW.PrintMore
open Go.Proofs.Ytlnhjkbhhdcdeaa.PSessionRuns (S27 k27 z27 S116 k116 z116)
set_option linter.unusedVariables false
/-- Some time passes at end i. -/
def Pa.tick1 (st : Pa) (i : Nat) : Pa :=
  let r := (st.s i).tickF st.now
  { st with s := upd st.s i r.2.2, bad := st.bad || decide (r.1 ≠ 0), to_ := upd st.to_ (1 - i) (st.to_ (1 - i) ++ r.2.1) }
def Pa.tickN (st : Pa) : Nat → Pa
  | 0 => st
  | i + 1 => (st.tickN i).tick1 i
def Pa.later (st : Pa) (d : Int) : Pa := { st with now := mn (st.now + d) 1099511627776 }
def Pa.tick (st : Pa) (d : Int) : Pa := (st.later d).tickN 2
/-- End i begins anew. -/
def Pa.newS (st : Pa) (i : Nat) : Se := (se0 (st.boot i + 1) (st.win i) (st.tmr i) st.now).start
def Pa.restart (st : Pa) (i : Nat) : Pa :=
  { st with boot := upd st.boot i (st.boot i + 1), s := upd st.s i (st.newS i), to_ := upd st.to_ (1 - i) (st.to_ (1 - i) ++ [(st.newS i).helloF]) }
/-- A frame is lost. -/
def Pa.lose (st : Pa) (i n : Nat) : Pa := { st with to_ := upd st.to_ i ((st.to_ i).eraseIdx n) }
section
variable {h p : Nat} {lab : Nat → Nat} {st st' : Pa} {g m : Nat → Nat} {pv vt vs vg : Nat → Value} {w w' : World}
/-- The pair's own cells are written, anyhow. -/
theorem PA.turnp (A : PA h p lab st g m pv vt vs vg w) (hz : w'.heap.size = w.heap.size) (ho : w'.os = w.os) (ht : w'.tape = w.tape) (hu : w'.output = w.output) (hsame : ∀ k, k ≠ p → w'.heap[k]? = w.heap[k]?)
    (hblk : w'.heap[p]? = some (.cells (pac st' pv vt vs vg) 87 (0, 0))) (h1 : st'.s = st.s) (h2 : st'.to_ = st.to_) (h3 : st'.sent = st.sent) (h4 : st'.got = st.got) : PA h p lab st' g m pv vt vs vg w' ∧ Ls lab lab w w' := by
  have L : Lb 4 lab lab w w' := ⟨fun _ _ => .inl rfl, fun k hk => by
      by_cases h1 : lab k = 0
      · exact .inr (.inr h1)
      · have := A.lim k h1
        omega, fun k hk => by rw [hz]; exact A.lim k hk, by rw [hz]; exact Nat.le_refl _, ho, ht, hu, fun k _ hk => hsame k (fun he => hk (by rw [he]; exact A.at_))⟩
  have ha := A.two
  refine ⟨⟨A.two, L.lim, A.at_, hblk, fun i hi => ⟨(A.ses i hi).1, ?_⟩, fun i hi => ?_, fun i hi => ?_, fun i hi => ?_⟩, L.ls (by omega)⟩
  · rw [h1]
    exact (A.ses i hi).2.lb L (by omega) (by omega) (by omega) (by omega)
  · rw [h2]
    exact (A.to_ i hi).lb L (by omega) (by omega)
  · rw [h3]
    exact (A.sent i hi).lb L (by omega) (by omega)
  · rw [h4]
    exact (A.got i hi).lb L (by omega) (by omega)
end
structure Tu where
  kind : Int
  end_ : Bool
  n : Int
  body : List Int
def Tu.i (t : Tu) : Nat := if t.end_ then 1 else 0
def Pa.nth (st : Pa) (t : Tu) : Nat := if 0 < (st.to_ t.i).length then t.n.toNat % (st.to_ t.i).length else 0
def Pa.turn (st : Pa) (t : Tu) : Pa :=
  if t.kind = 1 then st.send t.i t.body
  else if t.kind = 2 then st.take t.i (st.nth t) false
  else if t.kind = 3 then st.take t.i (st.nth t) true
  else if t.kind = 4 then (if 0 < (st.to_ t.i).length then st.lose t.i (st.nth t) else st)
  else if t.kind = 5 then st.tick t.n
  else if t.kind = 6 then st.restart t.i
  else st
def turns (st : Pa) (l : List Tu) : Pa := l.foldl Pa.turn st
/-- The bounds of a pair, with its settings. -/
structure Pn (n : Int) (st : Pa) : Prop where
  pk : Pk n st
  b0 : ∀ i, i < 2 → 1 ≤ st.boot i
  b1 : ∀ i, i < 2 → st.boot i ≤ n
  w0 : ∀ i, i < 2 → 1 ≤ st.win i ∧ st.win i ≤ 64
  t0 : ∀ i, i < 2 → 1 ≤ st.tmr i ∧ st.tmr i ≤ 1048576
  now0 : 0 ≤ st.now
  now1 : st.now ≤ 1099511627776
theorem tickF_len {n : Int} {σ : Se} (ok : Ok n σ) (now : Int) : (σ.tickF now).2.1.length ≤ 65 := by
  have hw := ok.win1
  unfold Se.tickF
  split
  · split
    · split
      · rename_i h
        rw [Se.seg_len]
        have h2 : ({ σ with now := now } : Se).start.fl ≤ σ.win.toNat := by
          unfold Se.fl
          rw [if_pos (show ({ σ with now := now } : Se).start.up = true from h)]
          exact Nat.min_le_right _ _
        omega
      · show 1 ≤ 65
        omega
    · exact Nat.zero_le _
  · exact Nat.zero_le _
theorem tickF_fok {n : Int} {σ : Se} (ok : Ok n σ) (now : Int) : ∀ f ∈ (σ.tickF now).2.1, FOk f := by
  unfold Se.tickF
  split
  · rename_i ha
    split
    · have ok2 := (ok.now_ ha).start
      split
      · refine seg_fok ok2 _ _ ?_
        unfold Se.fl
        split
        · exact Nat.min_le_left _ _
        · exact Nat.zero_le _
      · intro f hf
        simp at hf
        subst hf
        exact hello_fok ok
    · intro f hf
      cases hf
  · intro f hf
    cases hf
theorem Pk.tick1 {n : Int} {st : Pa} (h : Pk n st) (i : Nat) (hi : i < 2) (hn : n + 70000 ≤ 1099511627776) : Pk (n + 70000) (st.tick1 i) := by
  have ok := h.ok.ok i hi
  have k1 := tickF_len ok st.now
  have k2 := (ok.tickF st.now).more (k := n + 70000) (by omega) hn
  have k3 := (h.eo i hi).tickF st.now
  have k4 := tickF_fok ok st.now
  have m := h.more (k := n + 70000) (by omega) hn
  unfold Pa.tick1
  simp only
  refine ⟨⟨upd_all (P := fun σ => Ok (n + 70000) σ) m.ok.ok k2, upd_all (P := fun l : List S27 => (l.length : Int) ≤ n + 70000) m.ok.to_ ?_, m.ok.sent, m.ok.got, upd_all (P := fun l : List S27 => ∀ f ∈ l, FOk f) m.ok.fr ?_⟩, upd_all (P := Eok) m.eo k3⟩
  · have := h.ok.to_ (1 - i) (by omega)
    rw [List.length_append]
    omega
  · intro f hf
    rcases List.mem_append.1 hf with h1 | h1
    · exact h.ok.fr (1 - i) (by omega) f h1
    · exact k4 f h1
theorem Pn.more {n k : Int} {st : Pa} (h : Pn n st) (hk : n ≤ k) (hb : k ≤ 1099511627776) : Pn k st :=
  ⟨h.pk.more hk hb, h.b0, fun i hi => Int.le_trans (h.b1 i hi) hk, h.w0, h.t0, h.now0, h.now1⟩
theorem Pn.later {n : Int} {st : Pa} (h : Pn n st) (d : Int) (hd : 0 ≤ d) : Pn n (st.later d) := by
  have h0 := h.now0
  have h1 := h.now1
  refine ⟨⟨⟨h.pk.ok.ok, h.pk.ok.to_, h.pk.ok.sent, h.pk.ok.got, h.pk.ok.fr⟩, h.pk.eo⟩, h.b0, h.b1, h.w0, h.t0, ?_, ?_⟩
  · show 0 ≤ mn (st.now + d) 1099511627776
    unfold mn
    split <;> omega
  · show mn (st.now + d) 1099511627776 ≤ 1099511627776
    unfold mn
    split <;> omega
theorem Pn.tick1 {n : Int} {st : Pa} (h : Pn n st) (i : Nat) (hi : i < 2) (hn : n + 70000 ≤ 1099511627776) : Pn (n + 70000) (st.tick1 i) :=
  ⟨h.pk.tick1 i hi hn, h.b0, fun k hk => Int.le_trans (h.b1 k hk) (by omega), h.w0, h.t0, h.now0, h.now1⟩
theorem Pn.tick {n : Int} {st : Pa} (h : Pn n st) (d : Int) (hd : 0 ≤ d) (hn : n + 140000 ≤ 1099511627776) : Pn (n + 140000) (st.tick d) := by
  have h2 := ((h.later d hd).tick1 0 (by omega) (by omega)).tick1 1 (by omega) (by omega)
  rw [show n + 70000 + 70000 = n + 140000 by omega] at h2
  exact h2
theorem Pn.badc {n : Int} {st : Pa} (h : Pn n st) (i : Nat) (hi : i < 2) : badc (st.boot i + 1) (st.win i) (st.tmr i) = false := by
  have h1 := h.b0 i hi
  have h2 := h.w0 i hi
  have h3 := h.t0 i hi
  unfold Go.Proofs.Ytlnhjkbhhdcdeaa.badc
  simp
  omega
theorem Pn.newS {n : Int} {st : Pa} (h : Pn n st) (i : Nat) (hi : i < 2) (hn : n + 1 ≤ 4294967295) : Ok 1 (st.newS i) ∧ Eok (st.newS i) := by
  have h1 := h.b0 i hi
  have h2 := h.w0 i hi
  have h3 := h.t0 i hi
  have h4 := h.b1 i hi
  refine ⟨{ now0 := h.now0, now1 := h.now1, tmr0 := h3.1, tmr1 := h3.2, win0 := h2.1, win1 := h2.2, sent0 := Int.le_refl _, sent1 := (show (0 : Int) ≤ 64 by decide), sent2 := Int.le_refl _, len := Nat.zero_le _, base0 := Int.le_refl _, base1 := Int.le_refl _, inn0 := Int.le_refl _, inn1 := (show (0 : Int) ≤ 1 by decide), big := (show (1 : Int) ≤ 1099511627776 by decide), body := fun x hx => (by cases hx), early := fun p hp => (by cases hp), peer0 := Int.le_refl _, peer1 := (show (0 : Int) < 4294967296 by decide), boot0 := ?_, boot1 := ?_ }, ⟨List.nodup_nil, fun p hp => (by cases hp), fun p hp => (by cases hp)⟩⟩
  · show 1 ≤ st.boot i + 1
    omega
  · show st.boot i + 1 < 4294967296
    omega
theorem Pn.restart {n : Int} {st : Pa} (h : Pn n st) (i : Nat) (hi : i < 2) (hn : n + 140000 ≤ 4294967295) : Pn (n + 140000) (st.restart i) := by
  have m := h.more (k := n + 140000) (by omega) (by omega)
  obtain ⟨k2, k3⟩ := h.newS i hi (by omega)
  have hn1 : (1 : Int) ≤ n := Int.le_trans (h.b0 i hi) (h.b1 i hi)
  refine ⟨⟨⟨upd_all (P := fun σ => Ok (n + 140000) σ) m.pk.ok.ok (k2.more (by omega) (by omega)), upd_all (P := fun l : List S27 => (l.length : Int) ≤ n + 140000) m.pk.ok.to_ ?_, m.pk.ok.sent, m.pk.ok.got, upd_all (P := fun l : List S27 => ∀ f ∈ l, FOk f) m.pk.ok.fr ?_⟩, upd_all (P := Eok) m.pk.eo k3⟩, upd_all (P := fun b : Int => 1 ≤ b) h.b0 ?_, upd_all (P := fun b : Int => b ≤ n + 140000) m.b1 ?_, h.w0, h.t0, h.now0, h.now1⟩
  · have := h.pk.ok.to_ (1 - i) (by omega)
    rw [List.length_append, List.length_singleton]
    omega
  · intro f hf
    rcases List.mem_append.1 hf with h1 | h1
    · exact h.pk.ok.fr (1 - i) (by omega) f h1
    · simp at h1
      subst h1
      exact hello_fok k2
  · have := h.b0 i hi
    omega
  · have := h.b1 i hi
    omega
theorem Pn.lose {n : Int} {st : Pa} (h : Pn n st) (i : Nat) (hi : i < 2) (k : Nat) : Pn n (st.lose i k) := by
  refine ⟨⟨⟨h.pk.ok.ok, upd_all (P := fun l : List S27 => (l.length : Int) ≤ n) h.pk.ok.to_ ?_, h.pk.ok.sent, h.pk.ok.got, upd_all (P := fun l : List S27 => ∀ f ∈ l, FOk f) h.pk.ok.fr (fun f hf => h.pk.ok.fr i hi f (List.mem_of_mem_eraseIdx hf))⟩, h.pk.eo⟩, h.b0, h.b1, h.w0, h.t0, h.now0, h.now1⟩
  have := h.pk.ok.to_ i hi
  have := List.length_eraseIdx_le (l := st.to_ i) (i := k)
  omega
theorem Pn.send {n : Int} {st : Pa} (h : Pn n st) (i : Nat) (hi : i < 2) (b : List Int) (hn : n + 70000 ≤ 1099511627776) : Pn (n + 70000) (st.send i b) := by
  have hk := h.pk.send i hi b hn
  have hb : (st.send i b).boot = st.boot ∧ (st.send i b).win = st.win ∧ (st.send i b).tmr = st.tmr ∧ (st.send i b).now = st.now := by
    unfold Pa.send
    simp only
    split <;> exact ⟨rfl, rfl, rfl, rfl⟩
  refine ⟨hk, ?_, ?_, ?_, ?_, ?_, ?_⟩
  · rw [hb.1]; exact h.b0
  · rw [hb.1]; exact fun k hk => Int.le_trans (h.b1 k hk) (by omega)
  · rw [hb.2.1]; exact h.w0
  · rw [hb.2.2.1]; exact h.t0
  · rw [hb.2.2.2]; exact h.now0
  · rw [hb.2.2.2]; exact h.now1
theorem Pn.take {n : Int} {st : Pa} (h : Pn n st) (i : Nat) (hi : i < 2) (k : Nat) (stays : Bool) (hn : n + 70000 ≤ 1099511627776) : Pn (n + 70000) (st.take i k stays) := by
  have hk := h.pk.take i hi k stays hn
  have hb : (st.take i k stays).boot = st.boot ∧ (st.take i k stays).win = st.win ∧ (st.take i k stays).tmr = st.tmr ∧ (st.take i k stays).now = st.now := by
    unfold Pa.take
    simp only
    split
    · cases stays <;> exact ⟨rfl, rfl, rfl, rfl⟩
    · exact ⟨rfl, rfl, rfl, rfl⟩
  refine ⟨hk, ?_, ?_, ?_, ?_, ?_, ?_⟩
  · rw [hb.1]; exact h.b0
  · rw [hb.1]; exact fun k hk => Int.le_trans (h.b1 k hk) (by omega)
  · rw [hb.2.1]; exact h.w0
  · rw [hb.2.2.1]; exact h.t0
  · rw [hb.2.2.2]; exact h.now0
  · rw [hb.2.2.2]; exact h.now1
theorem Pn.turn {n : Int} {st : Pa} (h : Pn n st) (t : Tu) (ht : 0 ≤ t.n) (hn : n + 140000 ≤ 4294967295) : Pn (n + 140000) (st.turn t) := by
  have hi : t.i < 2 := by
    unfold Tu.i
    split <;> omega
  unfold Pa.turn
  split
  · exact (h.send t.i hi _ (by omega)).more (by omega) (by omega)
  · split
    · exact (h.take t.i hi _ _ (by omega)).more (by omega) (by omega)
    · split
      · exact (h.take t.i hi _ _ (by omega)).more (by omega) (by omega)
      · split
        · split
          · exact (h.lose t.i hi _).more (by omega) (by omega)
          · exact h.more (by omega) (by omega)
        · split
          · exact h.tick _ ht (by omega)
          · split
            · exact h.restart _ hi hn
            · exact h.more (by omega) (by omega)
end Go.Proofs.Ytlnhjkbhhdcdeaa
