/- A pair of sessions in memory, in plain Lean; the bounds that its calls keep. -/
import Derived.Test.YtlnhjkbhhdcdeaaMe
namespace Go.Proofs.Ytlnhjkbhhdcdeaa
open Go Go.RowKit Go.Proofs.YtlnhjkbhhdcdeaaW.PrintWords Go.Proofs.YtlnhjkbhhdcdeaaW.PrintLast Go.Proofs.YtlnhjkbhhdcdeaaW.PrintMore
open Go.Proofs.Ytlnhjkbhhdcdeaa.PSessionRuns (S27 k27 z27 S116 k116 z116)
set_option linter.unusedVariables false
/-- A message, with the boots of who sent it and of who was to get it. -/
structure Ma where
  fr : Int
  to_ : Int
  body : List Int
deriving DecidableEq
def zMa : Ma := ⟨0, 0, []⟩
def k89 : Kd Ma := Kd.iso (Kd.pair (Kd.int .u32) (Kd.pair (Kd.int .u32) (Kd.slice 5 (Kd.int .u8)))) (fun x : Ma => (x.fr, x.to_, x.body))
theorem k89_open {w : World} {x : Ma} {cs : List Value} (h : k89.K w x cs) : ∃ A1 c1, cs = [.int .u32 x.fr, .int .u32 x.to_, .slice A1 x.body.length c1] ∧ x.body.length ≤ c1 ∧ (Kd.int .u8).C w A1 x.body.length x.body := by
  obtain ⟨_, _, rfl, rfl, ⟨_, _, rfl, rfl, ⟨A1, c1, rfl, l1, g1⟩⟩⟩ := h
  exact ⟨A1, c1, rfl, l1, g1⟩
theorem k89_mk (w : World) (x : Ma) {A1 : Option Addr} {c1 : Nat} (l1 : x.body.length ≤ c1) (g1 : (Kd.int .u8).C w A1 x.body.length x.body) : k89.K w x [.int .u32 x.fr, .int .u32 x.to_, .slice A1 x.body.length c1] := ⟨[.int .u32 x.fr], [.int .u32 x.to_, .slice A1 x.body.length c1], rfl, rfl, ⟨[.int .u32 x.to_], [.slice A1 x.body.length c1], rfl, rfl, ⟨A1, c1, rfl, l1, g1⟩⟩⟩
theorem FK_mail {W : World} {ok : Nat → Prop} {x : Ma} {A : Option Addr} {c : Nat} (h : Kd.V KB 5 W 0 ok (.slice A x.body.length c) x.body) : Kd.FK k89 W ok x [.int .u32 x.fr, .int .u32 x.to_, .slice A x.body.length c] :=
  fun W2 hW => k89_mk W2 x (Kd.V_at h).2.1 ((Kd.V_at h).2.2 W2 hW)
theorem Try.info89 : (Try.prog.info? 89).map (fun i => (i.zero, i.size, i.bytes)) = some (some (.agg #[.int .u32 0, .int .u32 0, .slice none 0 0]), 3, 32) := by kernel_rfl
def upd {α : Type} (f : Nat → α) (i : Nat) (v : α) : Nat → α := fun k => if k = i then v else f k
theorem upd_at {α : Type} (f : Nat → α) (i : Nat) (v : α) : upd f i v i = v := by simp [upd]
theorem upd_ne {α : Type} (f : Nat → α) {i k : Nat} (v : α) (h : k ≠ i) : upd f i v k = f k := by simp [upd, h]
structure Pa where
  boot : Nat → Int
  win : Nat → Int
  tmr : Nat → Int
  s : Nat → Se
  to_ : Nat → List S27
  sent : Nat → List Ma
  got : Nat → List Ma
  now : Int
  bad : Bool
/-- A step that turns what bears label c, and what is new. -/
structure Lb (c : Nat) (lab lab' : Nat → Nat) (w w' : World) : Prop where
  old : ∀ k, k < w.heap.size → lab' k = lab k ∨ lab k = c ∧ lab' k = 1
  new : ∀ k, w.heap.size ≤ k → lab' k = c ∨ lab' k = 1 ∨ lab' k = 0
  lim : ∀ k, lab' k ≠ 0 → k < w'.heap.size
  size : w.heap.size ≤ w'.heap.size
  os : w'.os = w.os
  tape : w'.tape = w.tape
  output : w'.output = w.output
  same : ∀ k, k < w.heap.size → lab k ≠ c → w'.heap[k]? = w.heap[k]?
/-- Steps behind one another: what nobody owns, and what is only read, stays. -/
structure Ls (lab lab' : Nat → Nat) (w w' : World) : Prop where
  lab_ : ∀ k, k < w.heap.size → lab k ≤ 1 → lab' k = lab k
  size : w.heap.size ≤ w'.heap.size
  os : w'.os = w.os
  tape : w'.tape = w.tape
  output : w'.output = w.output
  same : ∀ k, k < w.heap.size → lab k ≤ 1 → w'.heap[k]? = w.heap[k]?
theorem Ls.refl (lab : Nat → Nat) (w : World) : Ls lab lab w w := ⟨fun _ _ _ => rfl, Nat.le_refl _, rfl, rfl, rfl, fun _ _ _ => rfl⟩
theorem Ls.trans {l l' l'' : Nat → Nat} {a b c : World} (h : Ls l l' a b) (k : Ls l' l'' b c) : Ls l l'' a c :=
  ⟨fun i hi hl => (k.lab_ i (Nat.lt_of_lt_of_le hi h.size) (by rw [h.lab_ i hi hl]; exact hl)).trans (h.lab_ i hi hl), Nat.le_trans h.size k.size, k.os.trans h.os, k.tape.trans h.tape, k.output.trans h.output,
    fun i hi hl => (k.same i (Nat.lt_of_lt_of_le hi h.size) (by rw [h.lab_ i hi hl]; exact hl)).trans (h.same i hi hl)⟩
theorem Lb.ls {c : Nat} {lab lab' : Nat → Nat} {w w' : World} (h : Lb c lab lab' w w') (hc : 2 ≤ c) : Ls lab lab' w w' :=
  ⟨fun k hk hl => (h.old k hk).elim id (fun q => by omega), h.size, h.os, h.tape, h.output, fun k hk hl => h.same k hk (by omega)⟩
theorem Ls.below {lab : Nat → Nat} {w w' : World} (h : Below w.heap.size w w') : Ls lab lab w w' := ⟨fun _ _ _ => rfl, h.size, h.os, h.tape, h.output, fun k hk _ => h.block k hk⟩
/-- A row of the pair's own, of label c. -/
def Row {α : Type} (d : Kd α) (e : Nat) (w : World) (lab : Nat → Nat) (c : Nat) (v : Value) (xs : List α) : Prop :=
  Kd.N d e w 0 (fun k => lab k = 1 ∨ some k = v.ownBlock) v xs ∧ ∀ k, v.ownBlock = some k → lab k = c
section
variable {α : Type} {d : Kd α} {e : Nat} {w w' : World} {lab lab' : Nat → Nat} {a c : Nat} {v : Value} {xs : List α}
theorem Row.lb (h : Row d e w lab a v xs) (L : Lb c lab lab' w w') (hac : a ≠ c) (hc : c ≠ 1) : Row d e w' lab' a v xs := by
  have hlt := Kd.N_lt h.1
  refine ⟨Kd.N_mono (Kd.N_step (Kd.N_bound h.1) (fun k hk hl => L.same k hl (fun he => ?_))) (fun k hk => ?_), fun k hk => ?_⟩
  · rcases hk.1 with h1 | h1
    · omega
    · exact hac ((h.2 k h1.symm).symm.trans he)
  · rcases hk.1 with h1 | h1
    · exact .inl ((L.old k hk.2).elim (fun q => q.trans h1) (fun q => q.2))
    · exact .inr h1
  · rcases L.old k (hlt k hk) with q | q
    · exact q.trans (h.2 k hk)
    · exact absurd ((h.2 k hk).symm.trans q.1) hac
theorem Row.nil (d : Kd α) (e : Nat) (w : World) (lab : Nat → Nat) (c : Nat) : Row d e w lab c (.slice none 0 0) [] :=
  ⟨Kd.N_nil _ _ _ _ _, fun k hk => by simp [Value.ownBlock] at hk⟩
theorem Row.slice (h : Row d e w lab c v xs) : ∃ A cp, v = .slice A xs.length cp := Kd.N_slice h.1
/-- A row of its own that has grown, and the labels behind it. -/
theorem Row.grown {v1 : Value} {ys : List α} {w1 : World} (lim : ∀ k, lab k ≠ 0 → k < w.heap.size) (h : Row d e w lab c v xs) (hc : 2 ≤ c)
    (hN : Kd.N d e w1 0 (fun k => lab k = 1 ∨ some k = v.ownBlock ∨ w.heap.size ≤ k) v1 ys) (hg : w.grownBy w1 v.ownBlock) (hat : v1.ownBlock = v.ownBlock ∨ ∃ b, v1.ownBlock = some b ∧ w.heap.size ≤ b) :
    ∃ lab', Lb c lab lab' w w1 ∧ Row d e w1 lab' c v1 ys ∧ ∀ k, k < w.heap.size → lab k = 1 → lab' k = 1 := by
  classical
  have hlt1 := Kd.N_lt hN
  have hsz : w.heap.size ≤ w1.heap.size := hg.size
  refine ⟨fun k => if some k = v1.ownBlock then c else if some k = v.ownBlock then 1 else if k < w.heap.size then lab k else if k < w1.heap.size then 1 else 0, ⟨fun k hk => ?_, fun k hk => ?_, fun k hk => ?_, hsz, hg.os, hg.tape, hg.output, fun k hk hl => hg.block k hk (fun he => hl (h.2 k he.symm))⟩, ⟨Kd.N_mono (Kd.N_bound hN) (fun k hk => ?_), fun k hk => ?_⟩, fun k hk h1 => ?_⟩
  · by_cases h1 : some k = v1.ownBlock
    · rw [if_pos h1]
      rcases hat with q | ⟨b, q, qb⟩
      · exact .inl (h.2 k (by rw [← q]; exact h1.symm)).symm
      · rw [q] at h1
        injection h1 with h1
        omega
    · rw [if_neg h1]
      by_cases h2 : some k = v.ownBlock
      · rw [if_pos h2]
        exact .inr ⟨h.2 k h2.symm, rfl⟩
      · rw [if_neg h2, if_pos hk]
        exact .inl rfl
  · by_cases h1 : some k = v1.ownBlock
    · rw [if_pos h1]
      exact .inl rfl
    · rw [if_neg h1]
      by_cases h2 : some k = v.ownBlock
      · rw [if_pos h2]
        exact .inr (.inl rfl)
      · rw [if_neg h2, if_neg (by omega)]
        split
        · exact .inr (.inl rfl)
        · exact .inr (.inr rfl)
  · by_cases h1 : some k = v1.ownBlock
    · exact hlt1 k h1.symm
    · simp only [if_neg h1] at hk
      by_cases h2 : some k = v.ownBlock
      · exact Nat.lt_of_lt_of_le (Kd.N_lt h.1 k h2.symm) hsz
      · simp only [if_neg h2] at hk
        by_cases h3 : k < w.heap.size
        · omega
        · simp only [if_neg h3] at hk
          by_cases h4 : k < w1.heap.size
          · exact h4
          · simp only [if_neg h4] at hk
            exact absurd rfl hk
  · by_cases h1 : some k = v1.ownBlock
    · exact .inr h1
    · refine .inl ?_
      simp only [if_neg h1]
      by_cases h2 : some k = v.ownBlock
      · rw [if_pos h2]
      · rw [if_neg h2]
        rcases hk.1 with q | q | q
        · rw [if_pos (lim k (by omega))]
          exact q
        · exact absurd q h2
        · rw [if_neg (by omega), if_pos hk.2]
  · simp only [if_pos hk.symm]
  · have h2 : some k ≠ v.ownBlock := fun he => by
      have := h.2 k he.symm
      omega
    have h3 : some k ≠ v1.ownBlock := fun he => by
      rcases hat with q | ⟨b, q, qb⟩
      · rw [q] at he
        exact h2 he
      · rw [q] at he
        injection he with he
        omega
    simp only [if_neg h3, if_neg h2, if_pos hk, h1]
end
/-- A pair's cells. -/
def pac (st : Pa) (pv vt vs vg : Nat → Value) : Array Value := #[.int .u32 (st.boot 0), .int .i64 (st.win 0), .int .i64 (st.tmr 0), .int .u32 (st.boot 1), .int .i64 (st.win 1), .int .i64 (st.tmr 1), pv 0, pv 1, vt 0, vt 1, vs 0, vs 1, vg 0, vg 1, .int .i64 st.now, .bool st.bad]
structure PA (h p : Nat) (lab : Nat → Nat) (st : Pa) (g m : Nat → Nat) (pv vt vs vg : Nat → Value) (w : World) : Prop where
  two : h ≤ 2
  lim : ∀ k, lab k ≠ 0 → k < w.heap.size
  at_ : lab p = 4
  blk : w.heap[p]? = some (.cells (pac st pv vt vs vg) 87 (0, 0))
  ses : ∀ i, i < h → pv i = .pointer (some ⟨g i, 0, none⟩) ∧ Ses (fun k => lab k = 2 + i) (fun k => lab k = 1) (g i) (m i) (st.s i) w
  to_ : ∀ i, i < 2 → Row k27 27 w lab (5 + i) (vt i) (st.to_ i)
  sent : ∀ i, i < 2 → Row k89 89 w lab (7 + i) (vs i) (st.sent i)
  got : ∀ i, i < 2 → Row k89 89 w lab (9 + i) (vg i) (st.got i)
section
variable {h p : Nat} {lab lab' : Nat → Nat} {st : Pa} {g m : Nat → Nat} {pv vt vs vg : Nat → Value} {w w' : World} {a c : Nat}
theorem Ses.congr {M B M' B' : Nat → Prop} {g m : Nat} {σ : Se} (hs : Ses M B g m σ w) (hM : ∀ k, M k ↔ M' k) (hB : ∀ k, B k → B' k) (hB' : ∀ k, B' k → k < w.heap.size ∧ ¬ M' k) : Ses M' B' g m σ w := by
  have e : M = M' := funext fun k => propext (hM k)
  subst e
  obtain ⟨h1, h2, h3, h4, v, h5, h6, h7⟩ := hs
  exact ⟨h1, h2, fun k hk => ⟨(h3 k hk).1, fun hb => (hB' k hb).2 hk⟩, fun k hk => (hB' k hk).1, v, h5, h6.mono hB, h7.mono hB⟩
theorem Ses.lb {g m : Nat} {σ : Se} (hs : Ses (fun k => lab k = a) (fun k => lab k = 1) g m σ w) (L : Lb c lab lab' w w') (hac : a ≠ c) (hc : c ≠ 1) (ha : a ≠ 1) (ha0 : a ≠ 0) : Ses (fun k => lab' k = a) (fun k => lab' k = 1) g m σ w' := by
  refine Ses.congr (hs.step L.size (fun k hk hl => L.same k hl (by omega))) (fun k => ⟨fun hk => ?_, fun hk => ?_⟩) (fun k hk => ?_) (fun k hk => ⟨L.lim k (by omega), by omega⟩)
  · have := (hs.2.2.1 k hk).1
    rcases L.old k this with q | q
    · omega
    · omega
  · rcases Nat.lt_or_ge k w.heap.size with q | q
    · rcases L.old k q with r | r
      · omega
      · omega
    · rcases L.new k q with r | r | r <;> omega
  · have := hs.2.2.2.1 k hk
    rcases L.old k this with q | q <;> omega
/-- All but what bears label c. -/
theorem PA.blk_lb (A : PA h p lab st g m pv vt vs vg w) (L : Lb c lab lab' w w') (hc : c ≠ 4) : lab' p = 4 ∧ w'.heap[p]? = some (.cells (pac st pv vt vs vg) 87 (0, 0)) := by
  have hp := A.lim p (by rw [A.at_]; omega)
  refine ⟨?_, (L.same p hp (by rw [A.at_]; exact Ne.symm hc)).trans A.blk⟩
  rcases L.old p hp with q | q
  · exact q.trans A.at_
  · have := A.at_
    omega
/-- A call of session i. -/
theorem PA.session (A : PA 2 p lab st g m pv vt vs vg w) (i : Nat) (hi : i < 2) {σ' : Se} {M' B' : Nat → Prop} (hs : Ses M' B' (g i) (m i) σ' w') (hg : Gr w w' (fun k => lab k = 2 + i) (fun k => lab k = 1) M' B') :
    ∃ lab', Lb (2 + i) lab lab' w w' ∧ PA 2 p lab' { st with s := upd st.s i σ' } g m pv vt vs vg w' ∧ (∀ k, M' k ↔ lab' k = 2 + i) ∧ (∀ k, w.heap.size ≤ k → k < w'.heap.size → ¬ M' k → lab' k = 1) ∧ ∀ k, k < w.heap.size → lab' k = lab k := by
  classical
  have hsz : w.heap.size ≤ w'.heap.size := hg.chg.size
  obtain ⟨lab', hl⟩ : ∃ lab' : Nat → Nat, lab' = fun k => if k < w.heap.size then lab k else if M' k then 2 + i else if k < w'.heap.size then 1 else 0 := ⟨_, rfl⟩
  have hold : ∀ k, k < w.heap.size → lab' k = lab k := fun k hk => by rw [hl]; simp only [if_pos hk]
  have hnew : ∀ k, w.heap.size ≤ k → k < w'.heap.size → ¬ M' k → lab' k = 1 := fun k h1 h2 h3 => by rw [hl]; simp only [if_neg (by omega : ¬ k < w.heap.size), if_neg h3, if_pos h2]
  have hML : ∀ k, M' k → k < w'.heap.size := fun k hk => (hs.2.2.1 k hk).1
  have hMM : ∀ k, M' k ↔ lab' k = 2 + i := fun k => by
    constructor
    · intro hk
      rcases Nat.lt_or_ge k w.heap.size with q | q
      · rw [hold k q]
        rcases hg.mn k hk with r | r
        · exact r
        · omega
      · rw [hl]
        simp only [if_neg (by omega : ¬ k < w.heap.size), if_pos hk]
    · intro hk
      rcases Nat.lt_or_ge k w.heap.size with q | q
      · rw [hold k q] at hk
        exact hg.mm k hk
      · rw [hl] at hk
        simp only [if_neg (by omega : ¬ k < w.heap.size)] at hk
        by_cases h1 : M' k
        · exact h1
        · simp only [if_neg h1] at hk
          split at hk <;> omega
  have L : Lb (2 + i) lab lab' w w' := by
    refine ⟨fun k hk => .inl (hold k hk), fun k hk => ?_, fun k hk => ?_, hsz, hg.chg.os, hg.chg.tape, hg.chg.output, fun k hk hl => hg.chg.block k hk hl⟩
    · by_cases h1 : M' k
      · exact .inl ((hMM k).1 h1)
      · rw [hl]
        simp only [if_neg (by omega : ¬ k < w.heap.size), if_neg h1]
        split
        · exact .inr (.inl rfl)
        · exact .inr (.inr rfl)
    · rcases Nat.lt_or_ge k w'.heap.size with q | q
      · exact q
      · exfalso
        apply hk
        rw [hl]
        simp only [if_neg (by omega : ¬ k < w.heap.size), if_neg (fun h => by have := hML k h; omega : ¬ M' k), if_neg (by omega : ¬ k < w'.heap.size)]
  obtain ⟨e1, e2⟩ := A.blk_lb L (by omega)
  refine ⟨lab', L, ⟨A.two, L.lim, e1, e2, fun j hj => ?_, fun j hj => (A.to_ j hj).lb L (by omega) (by omega), fun j hj => (A.sent j hj).lb L (by omega) (by omega), fun j hj => (A.got j hj).lb L (by omega) (by omega)⟩, hMM, hnew, hold⟩
  refine ⟨(A.ses j hj).1, ?_⟩
  by_cases hji : j = i
  · subst hji
    show Ses _ _ _ _ (upd st.s j σ' j) w'
    rw [upd_at]
    refine hs.congr hMM (fun k hk => ?_) (fun k hk => ⟨L.lim k (by omega), by omega⟩)
    have h3 := hs.2.2.2.1 k hk
    have h4 : ¬ M' k := fun hm => (hs.2.2.1 k hm).2 hk
    rcases hg.bn k hk with r | r
    · have := A.lim k (by omega)
      rw [hold k this]
      exact r
    · exact hnew k r h3 h4
  · show Ses _ _ _ _ (upd st.s i σ' j) w'
    rw [upd_ne _ _ hji]
    exact (A.ses j hj).2.lb L (by omega) (by omega) (by omega) (by omega)
/-- Something made that nobody owns. -/
theorem PA.below (A : PA h p lab st g m pv vt vs vg w) (hb : Below w.heap.size w w') : PA h p lab st g m pv vt vs vg w' := by
  have L : Lb 100 lab lab w w' := ⟨fun _ _ => .inl rfl, fun k hk => by
      by_cases h1 : lab k = 0
      · exact .inr (.inr h1)
      · have := A.lim k h1
        omega, fun k hk => Nat.lt_of_lt_of_le (A.lim k hk) hb.size, hb.size, hb.os, hb.tape, hb.output, fun k hk _ => hb.block k hk⟩
  have hA := A
  have hp := A.lim p (by rw [A.at_]; omega)
  exact ⟨A.two, L.lim, A.at_, (hb.block p hp).trans A.blk, fun j hj => ⟨(A.ses j hj).1, (A.ses j hj).2.below hb⟩, fun j hj => ⟨Kd.N_below (A.to_ j hj).1 hb, (A.to_ j hj).2⟩, fun j hj => ⟨Kd.N_below (A.sent j hj).1 hb, (A.sent j hj).2⟩, fun j hj => ⟨Kd.N_below (A.got j hj).1 hb, (A.got j hj).2⟩⟩
/-- A block that somebody made, told to be read. -/
theorem PA.drewN (A : PA h p lab st g m pv vt vs vg w) (n : Nat) : PA h p lab st g m pv vt vs vg (w.drewN n) := A.below (pw_below_drewN (Below.refl _ _) n)
theorem Lb.put (lab : Nat → Nat) (w : World) (q : Addr) (v : Value) (lim : ∀ k, lab k ≠ 0 → k < w.heap.size) (hq : lab q.block = 4) : Lb 4 lab lab w (w.setCell q v) :=
  ⟨fun _ _ => .inl rfl, fun k hk => by
    by_cases h1 : lab k = 0
    · exact .inr (.inr h1)
    · have := lim k h1
      omega, fun k hk => by simpa [World.setCell] using lim k hk, by simp [World.setCell], rfl, rfl, rfl, fun k _ hk => Below.heap_setCell _ _ _ _ (fun he => hk (by rw [he]; exact hq))⟩
/-- A cell of the pair is written. -/
theorem PA.put (A : PA h p lab st g m pv vt vs vg w) (j : Nat) (v : Value) {st' : Pa} {pv' : Nat → Value} {vt' vs' vg' : Nat → Value} (hc : (pac st pv vt vs vg).setIfInBounds j v = pac st' pv' vt' vs' vg')
    (hs : ∀ i, i < h → pv' i = pv i ∧ st'.s i = st.s i) (ht : ∀ i, i < 2 → Row k27 27 w lab (5 + i) (vt' i) (st'.to_ i)) (hn : ∀ i, i < 2 → Row k89 89 w lab (7 + i) (vs' i) (st'.sent i)) (hgt : ∀ i, i < 2 → Row k89 89 w lab (9 + i) (vg' i) (st'.got i)) :
    PA h p lab st' g m pv' vt' vs' vg' (w.setCell ⟨p, j, none⟩ v) := by
  have L := Lb.put lab w ⟨p, j, none⟩ v A.lim A.at_
  have h2 := A.two
  refine ⟨A.two, L.lim, A.at_, ?_, fun i hi => ⟨by rw [(hs i hi).1]; exact (A.ses i hi).1, by rw [(hs i hi).2]; exact (A.ses i hi).2.lb L (by omega) (by omega) (by omega) (by omega)⟩, fun i hi => (ht i hi).lb L (by omega) (by omega), fun i hi => (hn i hi).lb L (by omega) (by omega), fun i hi => (hgt i hi).lb L (by omega) (by omega)⟩
  rw [blk_set A.blk j v, hc]
end
end Go.Proofs.Ytlnhjkbhhdcdeaa
namespace Go.Proofs.Ytlnhjkbhhdcdeaa
open Go Go.RowKit Go.Proofs.YtlnhjkbhhdcdeaaW.PrintWords Go.Proofs.YtlnhjkbhhdcdeaaW.PrintLast Go.Proofs.YtlnhjkbhhdcdeaaW.PrintMore
open Go.Proofs.Ytlnhjkbhhdcdeaa.PSessionRuns (S27 k27 z27 S116 k116 z116)
set_option linter.unusedVariables false
/-- A message is handed to end i. -/
def Pa.send (st : Pa) (i : Nat) (b : List Int) : Pa :=
  let r := (st.s i).sendF st.now [b]
  if r.1 = 0 then
    { st with s := upd st.s i r.2.2, to_ := upd st.to_ (1 - i) (st.to_ (1 - i) ++ r.2.1), sent := if (st.s i).peer = 0 then st.sent else upd st.sent i (st.sent i ++ [⟨st.boot i, (st.s i).peer, b⟩]) }
  else { st with s := upd st.s i r.2.2, bad := st.bad || decide (b.length ≤ 65536) && decide (r.2.2.L.length < 65536) }
/-- The n-th frame on its way to end i comes. -/
def Pa.take (st : Pa) (i n : Nat) (stays : Bool) : Pa :=
  if n < (st.to_ i).length then
    let f := (st.to_ i).getD n z27
    let st0 : Pa := if stays then st else { st with to_ := upd st.to_ i ((st.to_ i).eraseIdx n) }
    let r := (st.s i).takeF st.now f
    { st0 with s := upd st.s i r.σ, bad := st.bad || decide (r.err ≠ 0), to_ := upd st0.to_ (1 - i) (st0.to_ (1 - i) ++ r.fs), got := upd st.got i (st.got i ++ r.got.map (fun b => ⟨f.f1, st.boot i, b⟩)) }
  else st
theorem sendF_len {n : Int} {σ : Se} (ok : Ok n σ) (hn : n + 65536 ≤ 1099511627776) (now : Int) (xs : List (List Int)) : (σ.sendF now xs).2.1.length ≤ 64 := by
  unfold Se.sendF
  split
  · rename_i ha
    split
    · simp
    · rename_i h1
      split
      · simp
      · rename_i h2
        exact freshL_len (ok.send ha h1 h2 hn)
  · simp
/-- What comes of a call on a pair. -/
def PQ (p : Nat) (lab : Nat → Nat) (w : World) (st' : Pa) (e : Ending) (w' : World) : Prop :=
  e = .returned (.tuple #[]) ∧ ∃ lab' g m pv vt vs vg, PA 2 p lab' st' g m pv vt vs vg w' ∧ Ls lab lab' w w'
def FOk (f : S27) : Prop := 0 ≤ f.f1 ∧ f.f1 < 4294967296 ∧ 0 ≤ f.f3 ∧ f.f3 < 18446744073709551616 ∧ 0 ≤ f.f4 ∧ f.f4 < 18446744073709551616
structure Pok (n : Int) (st : Pa) : Prop where
  ok : ∀ i, i < 2 → Ok n (st.s i)
  to_ : ∀ i, i < 2 → ((st.to_ i).length : Int) ≤ n
  sent : ∀ i, i < 2 → ((st.sent i).length : Int) ≤ n
  got : ∀ i, i < 2 → ((st.got i).length : Int) ≤ n
  fr : ∀ i, i < 2 → ∀ f ∈ st.to_ i, FOk f
section
variable {h p : Nat} {lab lab' : Nat → Nat} {st : Pa} {g m : Nat → Nat} {pv vt vs vg : Nat → Value} {w w' : World} {a c : Nat}
/-- Blocks that were made are read from now on. -/
theorem PA.made (A : PA h p lab st g m pv vt vs vg w) (hb : Below w.heap.size w w') : ∃ lab', Lb 100 lab lab' w w' ∧ PA h p lab' st g m pv vt vs vg w' ∧ (∀ k, k < w.heap.size → lab' k = lab k) ∧ ∀ k, w.heap.size ≤ k → k < w'.heap.size → lab' k = 1 := by
  obtain ⟨lab', hl⟩ : ∃ lab' : Nat → Nat, lab' = fun k => if k < w.heap.size then lab k else if k < w'.heap.size then 1 else 0 := ⟨_, rfl⟩
  have hold : ∀ k, k < w.heap.size → lab' k = lab k := fun k hk => by rw [hl]; simp only [if_pos hk]
  have hnew : ∀ k, w.heap.size ≤ k → k < w'.heap.size → lab' k = 1 := fun k h1 h2 => by rw [hl]; simp only [if_neg (by omega : ¬ k < w.heap.size), if_pos h2]
  have hno : ∀ k, w'.heap.size ≤ k → lab' k = 0 := fun k h1 => by
    have := hb.size
    rw [hl]
    simp only [if_neg (by omega : ¬ k < w.heap.size), if_neg (by omega : ¬ k < w'.heap.size)]
  have L : Lb 100 lab lab' w w' := ⟨fun k hk => .inl (hold k hk), fun k hk => by
      rcases Nat.lt_or_ge k w'.heap.size with q | q
      · exact .inr (.inl (hnew k hk q))
      · exact .inr (.inr (hno k q)), fun k hk => by
      rcases Nat.lt_or_ge k w'.heap.size with q | q
      · exact q
      · exact absurd (hno k q) hk, hb.size, hb.os, hb.tape, hb.output, fun k hk _ => hb.block k hk⟩
  obtain ⟨e1, e2⟩ := A.blk_lb L (by omega)
  have h2 := A.two
  exact ⟨lab', L, ⟨A.two, L.lim, e1, e2, fun j hj => ⟨(A.ses j hj).1, (A.ses j hj).2.lb L (by omega) (by omega) (by omega) (by omega)⟩, fun j hj => (A.to_ j hj).lb L (by omega) (by omega), fun j hj => (A.sent j hj).lb L (by omega) (by omega), fun j hj => (A.got j hj).lb L (by omega) (by omega)⟩, hold, hnew⟩
theorem PA.toSet (A : PA h p lab st g m pv vt vs vg w) {j : Nat} (hj : j < 2) {v1 : Value} {ys : List S27} {w1 : World} (hN : Kd.N k27 27 w1 0 (fun k => lab k = 1 ∨ some k = (vt j).ownBlock ∨ w.heap.size ≤ k) v1 ys) (hg : w.grownBy w1 (vt j).ownBlock) (hat : v1.ownBlock = (vt j).ownBlock ∨ ∃ b, v1.ownBlock = some b ∧ w.heap.size ≤ b) :
    ∃ lab', Ls lab lab' w (w1.setCell ⟨p, 8 + j, none⟩ v1) ∧ w1.heap[p]? = some (.cells (pac st pv vt vs vg) 87 (0, 0)) ∧ PA h p lab' { st with to_ := upd st.to_ j ys } g m pv (upd vt j v1) vs vg (w1.setCell ⟨p, 8 + j, none⟩ v1) := by
  obtain ⟨lab', L, R, h1⟩ := Row.grown A.lim (A.to_ j hj) (by omega) hN hg hat
  obtain ⟨e1, e2⟩ := A.blk_lb L (by omega)
  have h2 := A.two
  have L2 := Lb.put lab' w1 ⟨p, 8 + j, none⟩ v1 L.lim e1
  refine ⟨lab', (L.ls (by omega)).trans (L2.ls (by omega)), e2, A.two, L2.lim, e1, ?_, fun i hi => ⟨(A.ses i hi).1, ((A.ses i hi).2.lb L (by omega) (by omega) (by omega) (by omega)).lb L2 (by omega) (by omega) (by omega) (by omega)⟩, fun i hi => ?_, fun i hi => ((A.sent i hi).lb L (by omega) (by omega)).lb L2 (by omega) (by omega), fun i hi => ((A.got i hi).lb L (by omega) (by omega)).lb L2 (by omega) (by omega)⟩
  · rw [blk_set e2]
    have : j = 0 ∨ j = 1 := by omega
    rcases this with rfl | rfl <;> simp [pac, upd]
  · by_cases hij : i = j
    · subst hij
      show Row _ _ _ _ _ (upd vt i v1 i) (upd st.to_ i ys i)
      rw [upd_at, upd_at]
      exact R.lb L2 (by omega) (by omega)
    · show Row _ _ _ _ _ (upd vt j v1 i) (upd st.to_ j ys i)
      rw [upd_ne _ _ hij, upd_ne _ _ hij]
      exact ((A.to_ i hi).lb L (by omega) (by omega)).lb L2 (by omega) (by omega)
theorem PA.sentSet (A : PA h p lab st g m pv vt vs vg w) {j : Nat} (hj : j < 2) {v1 : Value} {ys : List Ma} {w1 : World} (hN : Kd.N k89 89 w1 0 (fun k => lab k = 1 ∨ some k = (vs j).ownBlock ∨ w.heap.size ≤ k) v1 ys) (hg : w.grownBy w1 (vs j).ownBlock) (hat : v1.ownBlock = (vs j).ownBlock ∨ ∃ b, v1.ownBlock = some b ∧ w.heap.size ≤ b) :
    ∃ lab', Ls lab lab' w (w1.setCell ⟨p, 10 + j, none⟩ v1) ∧ w1.heap[p]? = some (.cells (pac st pv vt vs vg) 87 (0, 0)) ∧ PA h p lab' { st with sent := upd st.sent j ys } g m pv vt (upd vs j v1) vg (w1.setCell ⟨p, 10 + j, none⟩ v1) := by
  obtain ⟨lab', L, R, h1⟩ := Row.grown A.lim (A.sent j hj) (by omega) hN hg hat
  obtain ⟨e1, e2⟩ := A.blk_lb L (by omega)
  have h2 := A.two
  have L2 := Lb.put lab' w1 ⟨p, 10 + j, none⟩ v1 L.lim e1
  refine ⟨lab', (L.ls (by omega)).trans (L2.ls (by omega)), e2, A.two, L2.lim, e1, ?_, fun i hi => ⟨(A.ses i hi).1, ((A.ses i hi).2.lb L (by omega) (by omega) (by omega) (by omega)).lb L2 (by omega) (by omega) (by omega) (by omega)⟩, fun i hi => ((A.to_ i hi).lb L (by omega) (by omega)).lb L2 (by omega) (by omega), fun i hi => ?_, fun i hi => ((A.got i hi).lb L (by omega) (by omega)).lb L2 (by omega) (by omega)⟩
  · rw [blk_set e2]
    have : j = 0 ∨ j = 1 := by omega
    rcases this with rfl | rfl <;> simp [pac, upd]
  · by_cases hij : i = j
    · subst hij
      show Row _ _ _ _ _ (upd vs i v1 i) (upd st.sent i ys i)
      rw [upd_at, upd_at]
      exact R.lb L2 (by omega) (by omega)
    · show Row _ _ _ _ _ (upd vs j v1 i) (upd st.sent j ys i)
      rw [upd_ne _ _ hij, upd_ne _ _ hij]
      exact ((A.sent i hi).lb L (by omega) (by omega)).lb L2 (by omega) (by omega)
theorem PA.gotSet (A : PA h p lab st g m pv vt vs vg w) {j : Nat} (hj : j < 2) {v1 : Value} {ys : List Ma} {w1 : World} (hN : Kd.N k89 89 w1 0 (fun k => lab k = 1 ∨ some k = (vg j).ownBlock ∨ w.heap.size ≤ k) v1 ys) (hg : w.grownBy w1 (vg j).ownBlock) (hat : v1.ownBlock = (vg j).ownBlock ∨ ∃ b, v1.ownBlock = some b ∧ w.heap.size ≤ b) :
    ∃ lab', Ls lab lab' w (w1.setCell ⟨p, 12 + j, none⟩ v1) ∧ w1.heap[p]? = some (.cells (pac st pv vt vs vg) 87 (0, 0)) ∧ PA h p lab' { st with got := upd st.got j ys } g m pv vt vs (upd vg j v1) (w1.setCell ⟨p, 12 + j, none⟩ v1) := by
  obtain ⟨lab', L, R, h1⟩ := Row.grown A.lim (A.got j hj) (by omega) hN hg hat
  obtain ⟨e1, e2⟩ := A.blk_lb L (by omega)
  have h2 := A.two
  have L2 := Lb.put lab' w1 ⟨p, 12 + j, none⟩ v1 L.lim e1
  refine ⟨lab', (L.ls (by omega)).trans (L2.ls (by omega)), e2, A.two, L2.lim, e1, ?_, fun i hi => ⟨(A.ses i hi).1, ((A.ses i hi).2.lb L (by omega) (by omega) (by omega) (by omega)).lb L2 (by omega) (by omega) (by omega) (by omega)⟩, fun i hi => ((A.to_ i hi).lb L (by omega) (by omega)).lb L2 (by omega) (by omega), fun i hi => ((A.sent i hi).lb L (by omega) (by omega)).lb L2 (by omega) (by omega), fun i hi => ?_⟩
  · rw [blk_set e2]
    have : j = 0 ∨ j = 1 := by omega
    rcases this with rfl | rfl <;> simp [pac, upd]
  · by_cases hij : i = j
    · subst hij
      show Row _ _ _ _ _ (upd vg i v1 i) (upd st.got i ys i)
      rw [upd_at, upd_at]
      exact R.lb L2 (by omega) (by omega)
    · show Row _ _ _ _ _ (upd vg j v1 i) (upd st.got j ys i)
      rw [upd_ne _ _ hij, upd_ne _ _ hij]
      exact ((A.got i hi).lb L (by omega) (by omega)).lb L2 (by omega) (by omega)
theorem PA.badSet (A : PA h p lab st g m pv vt vs vg w) (b : Bool) : PA h p lab { st with bad := b } g m pv vt vs vg (w.setCell ⟨p, 15, none⟩ (.bool b)) :=
  A.put 15 _ (by simp [pac]) (fun i hi => ⟨rfl, rfl⟩) A.to_ A.sent A.got
theorem PA.nowSet (A : PA h p lab st g m pv vt vs vg w) (n : Int) : PA h p lab { st with now := n } g m pv vt vs vg (w.setCell ⟨p, 14, none⟩ (.int .i64 n)) :=
  A.put 14 _ (by simp [pac]) (fun i hi => ⟨rfl, rfl⟩) A.to_ A.sent A.got
/-- The row as append wants it. -/
theorem Row.wide {α : Type} {d : Kd α} {e c : Nat} {v : Value} {xs : List α} (hr : Row d e w lab c v xs) (hb : w'.heap.size = w.heap.size) (hw : ∀ k : Nat, w'.heap[k]? = w.heap[k]?) : Kd.N d e w' 0 (fun k => lab k = 1 ∨ some k = v.ownBlock ∨ w.heap.size ≤ k) v xs :=
  Kd.N_mono (Kd.N_step hr.1 (fun k _ _ => hw k)) (fun k hk => hk.elim .inl (fun h => .inr (.inl h)))
/-- What a session's call leaves of the pair's cells. -/
theorem KS_ {w w2 : World} {M' B' : Nat → Prop} (A : PA 2 p lab st g m pv vt vs vg w) (i : Nat) (e3 : Gr w w2 (fun k => lab k = 2 + i) (fun k => lab k = 1) M' B') (hi : i < 2) {gi : Nat} (hgi : gi = g i) {nw : Int} (hnw : nw = st.now) :
    w2.cell? ⟨p, 6 + i, none⟩ = some (.pointer (some ⟨gi, 0, none⟩)) ∧ w2.cell? ⟨p, 14, none⟩ = some (.int .i64 nw) := by
  have hp := A.lim p (by rw [A.at_]; omega)
  have hb := (e3.chg.block p hp (by rw [A.at_]; omega)).trans A.blk
  have hs := (A.ses i hi).1
  subst hgi hnw
  refine ⟨blk_cell hb (6 + i) _ ?_, blk_cell hb 14 _ rfl⟩
  have : i = 0 ∨ i = 1 := by omega
  rcases this with rfl | rfl
  · rw [← hs]; rfl
  · rw [← hs]; rfl
end
end Go.Proofs.Ytlnhjkbhhdcdeaa
namespace Go.Proofs.Ytlnhjkbhhdcdeaa
open Go Go.RowKit Go.Proofs.YtlnhjkbhhdcdeaaW.PrintWords Go.Proofs.YtlnhjkbhhdcdeaaW.PrintLast Go.Proofs.YtlnhjkbhhdcdeaaW.PrintMore
open Go.Proofs.Ytlnhjkbhhdcdeaa.PSessionRuns (S27 k27 z27 S116 k116 z116)
set_option linter.unusedVariables false
/-- The six cells of a frame. -/
def Six (w : World) (p : Addr) (x : S27) (v5 : Value) : Prop :=
  w.cell? p = some (.int .u8 x.f0) ∧ w.cell? ⟨p.block, p.off + 1, none⟩ = some (.int .u32 x.f1) ∧ w.cell? ⟨p.block, p.off + 2, none⟩ = some (.int .u32 x.f2) ∧ w.cell? ⟨p.block, p.off + 3, none⟩ = some (.int .u64 x.f3) ∧ w.cell? ⟨p.block, p.off + 4, none⟩ = some (.int .u64 x.f4) ∧ w.cell? ⟨p.block, p.off + 5, none⟩ = some v5
/-- A frame of a row that is read. -/
theorem V_fr_at {w : World} {t b : Nat} {ok : Nat → Prop} {A : Option Addr} {n c : Nat} {ps : List S27} (h : Kd.V k27 t w b ok (.slice A n c) ps) (i : Nat) (hi : i < ps.length) :
    ∃ ad A5 c5, ∃ x : S27, A = some ad ∧ Six w (ad.add (i * 6)) x (.slice A5 x.f5.length c5) ∧ Kd.V KB 5 w b ok (.slice A5 x.f5.length c5) x.f5 ∧ Hid (x = ps.getD i z27) := by
  obtain ⟨hn, hl, hF⟩ := Kd.V_at h
  obtain ⟨ad, cs, e, hs, hr, hcell, _⟩ := Kd.F_get hF z27 (i : Int) (by omega) (by omega)
  obtain ⟨A5, c5, rfl, h5, h6⟩ := PSessionRuns.k27_openF hr
  have hc : ∀ j u, [Value.int .u8 (ps.getD i z27).f0, .int .u32 (ps.getD i z27).f1, .int .u32 (ps.getD i z27).f2, .int .u64 (ps.getD i z27).f3, .int .u64 (ps.getD i z27).f4, .slice A5 (ps.getD i z27).f5.length c5][j]? = some u → w.cell? (ad.add (i * 6 + j)) = some u := hcell
  exact ⟨ad, A5, c5, _, e, ⟨hc 0 _ rfl, by rw [← add_field _ _ 1 (by omega)]; exact hc 1 _ rfl, by rw [← add_field _ _ 2 (by omega)]; exact hc 2 _ rfl, by rw [← add_field _ _ 3 (by omega)]; exact hc 3 _ rfl, by rw [← add_field _ _ 4 (by omega)]; exact hc 4 _ rfl, by rw [← add_field _ _ 5 (by omega)]; exact hc 5 _ rfl⟩, ⟨A5, c5, rfl, h5, h6⟩, rfl⟩
/-- A frame of a row of the pair's own. -/
theorem Row.fr_at {w : World} {lab : Nat → Nat} {c : Nat} {A : Option Addr} {n cp : Nat} {ps : List S27} (h : Row k27 27 w lab c (.slice A n cp) ps) (i : Nat) (hi : i < ps.length) :
    ∃ ad A5 c5, ∃ x : S27, A = some ad ∧ Six w (ad.add (i * 6)) x (.slice A5 x.f5.length c5) ∧ Kd.V KB 5 w 0 (fun k => lab k = 1) (.slice A5 x.f5.length c5) x.f5 ∧ Hid (x = ps.getD i z27) := by
  obtain ⟨hn, _, _⟩ := Kd.N_reads' h.1
  obtain ⟨ad, _, _, _, rfl, _⟩ := V_fr_at (Kd.N_V (base' := 0) h.1) i hi
  obtain ⟨cs, hs, hr, hcell⟩ := Kd.N_get h.1 z27 (i : Int) (by omega) (by omega)
  obtain ⟨A5, c5, rfl, h5, h6⟩ := PSessionRuns.k27_openF hr
  have hc : ∀ j u, [Value.int .u8 (ps.getD i z27).f0, .int .u32 (ps.getD i z27).f1, .int .u32 (ps.getD i z27).f2, .int .u64 (ps.getD i z27).f3, .int .u64 (ps.getD i z27).f4, .slice A5 (ps.getD i z27).f5.length c5][j]? = some u → w.cell? (ad.add (i * 6 + j)) = some u := hcell
  exact ⟨ad, A5, c5, _, rfl, ⟨hc 0 _ rfl, by rw [← add_field _ _ 1 (by omega)]; exact hc 1 _ rfl, by rw [← add_field _ _ 2 (by omega)]; exact hc 2 _ rfl, by rw [← add_field _ _ 3 (by omega)]; exact hc 3 _ rfl, by rw [← add_field _ _ 4 (by omega)]; exact hc 4 _ rfl, by rw [← add_field _ _ 5 (by omega)]; exact hc 5 _ rfl⟩, Kd.V_mono ⟨A5, c5, rfl, h5, h6⟩ (fun k hk => hk.1.elim id (fun he => absurd he hk.2)), rfl⟩
/-- An empty literal row. -/
theorem N_empty {α : Type} (d : Kd α) (e : Nat) (w : World) (base : Nat) (hb : base ≤ w.heap.size) (ok : Nat → Prop) (hok : ok w.heap.size) (n : Nat) : Kd.N d e ((w.alloc (.cells #[] e)).drewN n) base ok (.slice (some ⟨w.heap.size, 0, none⟩) 0 0) [] := by
  refine ⟨fun k hk => ?_, [], rfl, ⟨fun k hk => hk.symm, [], ?_, ⟨by simp, fun j p hj => by simp at hj⟩⟩, fun j x c hx => by simp at hx⟩
  · simp [Value.ownBlock] at hk
    rw [← hk]
    exact hok
  · refine ⟨by simp, .inr ⟨w.heap.size, 0, #[], rfl, hb, heap_alloc_new w _, by simp, by decide, by simp, by simp⟩⟩
section
variable {h p : Nat} {lab lab' : Nat → Nat} {st : Pa} {g m : Nat → Nat} {pv vt vs vg : Nat → Value} {w w' : World} {a c : Nat}
/-- A new row in the place of the elder one. -/
theorem PA.toNew (A : PA h p lab st g m pv vt vs vg w) {j : Nat} (hj : j < 2) {v1 : Value} {ys : List S27} {w1 : World} (hN : Kd.N k27 27 w1 w.heap.size (fun k => lab k = 1 ∨ some k = (vt j).ownBlock ∨ w.heap.size ≤ k) v1 ys) (hb : Below w.heap.size w w1) :
    ∃ lab', Ls lab lab' w (w1.setCell ⟨p, 8 + j, none⟩ v1) ∧ w1.heap[p]? = some (.cells (pac st pv vt vs vg) 87 (0, 0)) ∧ PA h p lab' { st with to_ := upd st.to_ j ys } g m pv (upd vt j v1) vs vg (w1.setCell ⟨p, 8 + j, none⟩ v1) := by
  classical
  have hlt := Kd.N_lt hN
  have hbs := Kd.N_base hN
  have ho := (A.to_ j hj).2
  have hol := Kd.N_lt (A.to_ j hj).1
  obtain ⟨lab', hl⟩ : ∃ lab' : Nat → Nat, lab' = fun k => if k < w.heap.size then (if some k = (vt j).ownBlock then 1 else lab k) else if some k = v1.ownBlock then 5 + j else if k < w1.heap.size then 1 else 0 := ⟨_, rfl⟩
  have hdrop : ∀ k, some k = (vt j).ownBlock → lab' k = 1 := fun k hk => by rw [hl]; simp only [if_pos (hol k hk.symm), if_pos hk]
  have hold : ∀ k, k < w.heap.size → some k ≠ (vt j).ownBlock → lab' k = lab k := fun k hk hn => by rw [hl]; simp only [if_pos hk, if_neg hn]
  have hown : ∀ k, v1.ownBlock = some k → lab' k = 5 + j := fun k hk => by
    have := hbs k hk
    rw [hl]
    simp only [if_neg (by omega : ¬ k < w.heap.size), if_pos hk.symm]
  have hnew : ∀ k, w.heap.size ≤ k → k < w1.heap.size → some k ≠ v1.ownBlock → lab' k = 1 := fun k h1 h2 h3 => by rw [hl]; simp only [if_neg (by omega : ¬ k < w.heap.size), if_neg h3, if_pos h2]
  have hno : ∀ k, w1.heap.size ≤ k → lab' k = 0 := fun k h1 => by
    have := hb.size
    rw [hl]
    simp only [if_neg (by omega : ¬ k < w.heap.size), if_neg (fun he => by have := hlt k he.symm; omega : ¬ some k = v1.ownBlock), if_neg (by omega : ¬ k < w1.heap.size)]
  have L : Lb (5 + j) lab lab' w w1 := ⟨fun k hk => by
      by_cases h3 : some k = (vt j).ownBlock
      · exact .inr ⟨ho k h3.symm, hdrop k h3⟩
      · exact .inl (hold k hk h3), fun k hk => by
      rcases Nat.lt_or_ge k w1.heap.size with q | q
      · by_cases h3 : some k = v1.ownBlock
        · exact .inl (hown k h3.symm)
        · exact .inr (.inl (hnew k hk q h3))
      · exact .inr (.inr (hno k q)), fun k hk => by
      rcases Nat.lt_or_ge k w1.heap.size with q | q
      · exact q
      · exact absurd (hno k q) hk, hb.size, hb.os, hb.tape, hb.output, fun k hk _ => hb.block k hk⟩
  have R : Row k27 27 w1 lab' (5 + j) v1 ys := by
    refine ⟨Kd.N_mono (Kd.N_bound (Kd.N_lower hN (Nat.zero_le _))) (fun k hk => ?_), hown⟩
    by_cases h3 : some k = v1.ownBlock
    · exact .inr h3
    · refine .inl ?_
      by_cases h4 : some k = (vt j).ownBlock
      · exact hdrop k h4
      · rcases Nat.lt_or_ge k w.heap.size with q | q
        · rw [hold k q h4]
          exact hk.1.elim id (fun h => h.elim (fun h => absurd h h4) (fun h => by omega))
        · exact hnew k q hk.2 h3
  obtain ⟨e1, e2⟩ := A.blk_lb L (by omega)
  have h2 := A.two
  have L2 := Lb.put lab' w1 ⟨p, 8 + j, none⟩ v1 L.lim e1
  refine ⟨lab', (L.ls (by omega)).trans (L2.ls (by omega)), e2, A.two, L2.lim, e1, ?_, fun i hi => ⟨(A.ses i hi).1, ((A.ses i hi).2.lb L (by omega) (by omega) (by omega) (by omega)).lb L2 (by omega) (by omega) (by omega) (by omega)⟩, fun i hi => ?_, fun i hi => ((A.sent i hi).lb L (by omega) (by omega)).lb L2 (by omega) (by omega), fun i hi => ((A.got i hi).lb L (by omega) (by omega)).lb L2 (by omega) (by omega)⟩
  · rw [blk_set e2]
    have : j = 0 ∨ j = 1 := by omega
    rcases this with rfl | rfl <;> simp [pac, upd]
  · by_cases hij : i = j
    · subst hij
      show Row _ _ _ _ _ (upd vt i v1 i) (upd st.to_ i ys i)
      rw [upd_at, upd_at]
      exact R.lb L2 (by omega) (by omega)
    · show Row _ _ _ _ _ (upd vt j v1 i) (upd st.to_ j ys i)
      rw [upd_ne _ _ hij, upd_ne _ _ hij]
      exact ((A.to_ i hi).lb L (by omega) (by omega)).lb L2 (by omega) (by omega)
end
theorem pops_len : ∀ (k : Nat) (σ : Se), (pops k σ).1.length ≤ k
  | 0, σ => by rw [pops]; simp
  | k + 1, σ => by
    rw [pops]
    cases plc σ.E (σ.inn + 1) 0 with
    | none => simp
    | some j =>
      have := pops_len k { σ with inn := σ.inn + 1, E := σ.E.eraseIdx j }
      simp only [List.length_cons]
      omega
theorem takeF_len {n : Int} {σ : Se} (ok : Ok n σ) (hn : n + 1 ≤ 1099511627776) (now : Int) (f : S27) (h0 : 0 ≤ f.f1) (h1 : f.f1 < 4294967296) : (σ.takeF now f).fs.length ≤ 65 ∧ ((σ.takeF now f).got.length : Int) ≤ n + 1 := by
  have hn0 := ok.base0
  have hn1 := ok.base1
  unfold Se.takeF
  split
  · rename_i ha
    split
    · rename_i hc
      have ok1 := ok.now_ ha
      split
      · exact ⟨by simp, by simp; omega⟩
      · have ok2 : Ok n (if σ.peer < f.f1 then ({ σ with now := now } : Se).anew f.f1 else { σ with now := now }) := by
          split
          · exact ok1.anew _ h0 h1
          · exact ok1
        generalize (if σ.peer < f.f1 then ({ σ with now := now } : Se).anew f.f1 else { σ with now := now }) = σ2 at ok2 ⊢
        simp only
        split
        · have ok3 := ok2.met f
          have hk : Ok (n + 1) ((σ2.met f).kind f).2.2 := ok3.kind hn f (fun h2 => by
            unfold chk at hc
            rw [h2] at hc
            simp at hc
            omega)
          have h1 := kind_len (σ2.met f) f
          have h2 := freshL_len hk
          refine ⟨by simp only [List.length_append]; omega, ?_⟩
          simp only
          unfold Se.kind
          split
          · simp; omega
          · split
            · have h3 : (((σ2.met f).told f.f4).put f.f3 f.f5).pop.1.length ≤ (((σ2.met f).told f.f4).put f.f3 f.f5).E.length := pops_len _ _
              have h4 := (put_keep ((σ2.met f).told f.f4) f.f3 f.f5).2.2.2.2
              have h5 := (ok3.told f.f4).inn1
              have h6 := (ok3.told f.f4).inn0
              simp only
              omega
            · simp; omega
        · exact ⟨by simp, by simp; omega⟩
    · exact ⟨by simp, by simp; omega⟩
  · exact ⟨by simp, by simp; omega⟩
theorem take_ses {M B : Nat → Prop} {g m : Nat} {σ : Se} {w : World} {n : Int} (h : Ses M B g m σ w) (ok : Ok n σ) (hn : n + 1 ≤ 1099511627776) (now : Int) (f : S27) (okp : Nat → Prop) (A5 : Option Addr) (c5 : Nat) (hV : Kd.V KB 5 w 0 okp (.slice A5 f.f5.length c5) f.f5) (hokp : ∀ k, okp k → ¬ M k) (hf : FOk f) :
    Calls Try.prog 15 #[.pointer (some ⟨g, 0, none⟩), .int .i64 now, .agg (frc f.f0 f.f1 f.f2 f.f3 f.f4 (.slice A5 f.f5.length c5))] w (TkP w M B g m (σ.takeF now f)) := by
  by_cases h1 : σ.ask now = 0 ∧ chk f.f0 f.f1 f.f2 f.f3 f.f4 f.f5.length = 0
  · exact take_ok h ok hn now f okp A5 c5 hV hokp hf.1 hf.2.1 hf.2.2.1 hf.2.2.2.1 hf.2.2.2.2.1 hf.2.2.2.2.2 h1.1 h1.2
  · exact take_err h now f okp A5 c5 hV hokp h1
theorem bne_dec (x : Int) : (x != 0) = decide (x ≠ 0) := by by_cases h : x = 0 <;> simp [h]
end Go.Proofs.Ytlnhjkbhhdcdeaa
namespace Go.Proofs.Ytlnhjkbhhdcdeaa
open Go Go.RowKit Go.Proofs.YtlnhjkbhhdcdeaaW.PrintWords Go.Proofs.YtlnhjkbhhdcdeaaW.PrintLast Go.Proofs.YtlnhjkbhhdcdeaaW.PrintMore
open Go.Proofs.Ytlnhjkbhhdcdeaa.PSessionRuns (S27 k27 z27 S116 k116 z116)
set_option linter.unusedVariables false
/-- The early messages lie in the window, no key twice. -/
structure Eok (σ : Se) : Prop where
  nodup : (σ.E.map (·.1)).Nodup
  lo : ∀ p ∈ σ.E, σ.inn < p.1
  hi : ∀ p ∈ σ.E, p.1 ≤ σ.inn + σ.win
theorem plc_none : ∀ (E : List (Int × List Int)) (k : Int) (i : Nat), plc E k i = none ↔ ∀ p ∈ E, p.1 ≠ k
  | [], k, i => by rw [plc]; simp
  | p :: E, k, i => by
    rw [plc]
    by_cases h : k = p.1
    · subst h
      simp
    · have h1 : (k == p.1) = false := by simpa using h
      rw [h1]
      simp only [Bool.false_eq_true, if_false]
      rw [plc_none E k (i + 1)]
      simp [Ne.symm h]
theorem few_ints : ∀ (n : Nat) (a : Int) (l : List Int), l.Nodup → (∀ x ∈ l, a < x ∧ x ≤ a + n) → l.length ≤ n
  | 0, a, l, _, h => by
    cases l with
    | nil => simp
    | cons x l =>
      have := h x (by simp)
      omega
  | n + 1, a, l, hn, h => by
    by_cases hm : (a + (n + 1 : Nat)) ∈ l
    · have h1 := few_ints n a (l.erase (a + (n + 1 : Nat))) (hn.erase _) (fun x hx => by
        have h2 := (hn.mem_erase_iff).1 hx
        have := h x h2.2
        have := h2.1
        omega)
      rw [List.length_erase_of_mem hm] at h1
      omega
    · have h1 := few_ints n a l hn (fun x hx => by
        have h2 := h x hx
        have : x ≠ a + (n + 1 : Nat) := fun he => hm (he ▸ hx)
        omega)
      omega
theorem Eok.len {n : Int} {σ : Se} (h : Eok σ) (ok : Ok n σ) : σ.E.length ≤ 64 := by
  have h1 := few_ints 64 σ.inn (σ.E.map (·.1)) h.nodup (fun x hx => by
    obtain ⟨p, hp, rfl⟩ := List.mem_map.1 hx
    have := h.lo p hp
    have := h.hi p hp
    have := ok.win1
    omega)
  rwa [List.length_map] at h1
theorem Eok.same {σ σ' : Se} (h : Eok σ) (h1 : σ'.E = σ.E) (h2 : σ'.inn = σ.inn) (h3 : σ'.win = σ.win) : Eok σ' :=
  ⟨by rw [h1]; exact h.nodup, fun p hp => by rw [h2]; exact h.lo p (h1 ▸ hp), fun p hp => by rw [h2, h3]; exact h.hi p (h1 ▸ hp)⟩
theorem Eok.told {σ : Se} (h : Eok σ) (a : Int) : Eok (σ.told a) := by
  obtain ⟨h1, h2, h3, _⟩ := told_keep σ a
  exact h.same h3 h1 h2
theorem Eok.anew (σ : Se) (b : Int) : Eok (σ.anew b) := ⟨List.nodup_nil, fun p hp => (by cases hp), fun p hp => (by cases hp)⟩
theorem Eok.met {σ : Se} (h : Eok σ) (f : S27) : Eok (σ.met f) := by
  unfold Se.met
  split
  · exact h.same rfl rfl rfl
  · exact h
theorem Eok.fresh {σ : Se} (h : Eok σ) : Eok σ.fresh := by
  unfold Se.fresh
  split
  · split
    · exact h.same rfl rfl rfl
    · exact h.same rfl rfl rfl
  · exact h
theorem Eok.put {σ : Se} (h : Eok σ) (q : Int) (x : List Int) : Eok (σ.put q x) := by
  unfold Se.put
  split
  · rename_i hc
    obtain ⟨h1, h2, h3⟩ := hc
    have h4 := (plc_none σ.E q 0).1 h3
    refine ⟨?_, fun p hp => ?_, fun p hp => ?_⟩
    · show ((σ.E ++ [(q, x)]).map (·.1)).Nodup
      rw [List.map_append, List.nodup_append]
      refine ⟨h.nodup, by simp, fun a ha b hb => ?_⟩
      obtain ⟨p, hp, rfl⟩ := List.mem_map.1 ha
      simp at hb
      subst hb
      exact h4 p hp
    · show σ.inn < p.1
      rcases List.mem_append.1 hp with h5 | h5
      · exact h.lo p h5
      · simp at h5
        rw [h5]
        exact h1
    · show p.1 ≤ σ.inn + σ.win
      rcases List.mem_append.1 hp with h5 | h5
      · exact h.hi p h5
      · simp at h5
        rw [h5]
        show q ≤ σ.inn + σ.win
        omega
  · exact h
theorem map_eraseIdx {α β : Type} (f : α → β) : ∀ (l : List α) (j : Nat), (l.eraseIdx j).map f = (l.map f).eraseIdx j
  | [], _ => by simp
  | _ :: _, 0 => by simp
  | x :: l, j + 1 => by simp [map_eraseIdx f l j]
theorem Eok.next {σ : Se} (h : Eok σ) {j : Nat} (hp : plc σ.E (σ.inn + 1) 0 = some j) : Eok { σ with inn := σ.inn + 1, E := σ.E.eraseIdx j } := by
  obtain ⟨_, h2, x, h3⟩ := plc_lt σ.E 0 hp
  rw [Nat.sub_zero] at h3
  have hm : ∀ p ∈ σ.E.eraseIdx j, p.1 ≠ σ.inn + 1 := by
    intro p hp1 he
    obtain ⟨i, hi, hpe⟩ := List.getElem_of_mem hp1
    have hget : (σ.E.eraseIdx j)[i]? = some p := by rw [List.getElem?_eq_getElem hi, hpe]
    rw [List.getElem?_eraseIdx] at hget
    have hjm : (σ.E.map (·.1))[j]? = some (σ.inn + 1) := by rw [List.getElem?_map, h3]; rfl
    have hnd : ∀ (a b : Nat) (u v : Int), a < b → (σ.E.map (·.1))[a]? = some u → (σ.E.map (·.1))[b]? = some v → u ≠ v := by
      intro a b u v hab ha hb
      obtain ⟨ha1, ha2⟩ := List.getElem?_eq_some_iff.1 ha
      obtain ⟨hb1, hb2⟩ := List.getElem?_eq_some_iff.1 hb
      rw [← ha2, ← hb2]
      exact List.pairwise_iff_getElem.1 h.nodup a b ha1 hb1 hab
    split at hget
    · rename_i hij
      have h5 : (σ.E.map (·.1))[i]? = some (σ.inn + 1) := by rw [List.getElem?_map, hget]; simp [he]
      exact hnd i j _ _ hij h5 hjm rfl
    · rename_i hij
      have h5 : (σ.E.map (·.1))[i + 1]? = some (σ.inn + 1) := by rw [List.getElem?_map, hget]; simp [he]
      exact hnd j (i + 1) _ _ (by omega) hjm h5 rfl
  refine ⟨?_, fun p hp1 => ?_, fun p hp1 => ?_⟩
  · show ((σ.E.eraseIdx j).map (·.1)).Nodup
    rw [map_eraseIdx]
    exact h.nodup.sublist (List.eraseIdx_sublist _ _)
  · show σ.inn + 1 < p.1
    have h7 := h.lo p (List.mem_of_mem_eraseIdx hp1)
    have h8 := hm p hp1
    omega
  · show p.1 ≤ σ.inn + 1 + σ.win
    have h7 := h.hi p (List.mem_of_mem_eraseIdx hp1)
    omega
theorem Eok.pops : ∀ (k : Nat) {σ : Se}, Eok σ → Eok (pops k σ).2
  | 0, σ, h => h
  | k + 1, σ, h => by
    rw [Go.Proofs.Ytlnhjkbhhdcdeaa.pops]
    cases hp : plc σ.E (σ.inn + 1) 0 with
    | none => exact h
    | some j => exact Eok.pops k (h.next hp)
theorem Eok.kind {σ : Se} (h : Eok σ) (f : S27) : Eok (σ.kind f).2.2 := by
  unfold Se.kind
  split
  · exact h
  · split
    · exact Eok.pops _ ((h.told _).put _ _)
    · exact h.told _
theorem Eok.takeF {σ : Se} (h : Eok σ) (now : Int) (f : S27) : Eok (σ.takeF now f).σ := by
  unfold Se.takeF
  have h1 : Eok { σ with now := now } := h.same rfl rfl rfl
  split
  · split
    · split
      · exact h1
      · have h2 : Eok (if σ.peer < f.f1 then ({ σ with now := now } : Se).anew f.f1 else { σ with now := now }) := by
          split
          · exact Eok.anew _ _
          · exact h1
        generalize (if σ.peer < f.f1 then ({ σ with now := now } : Se).anew f.f1 else { σ with now := now }) = σ2 at h2 ⊢
        simp only
        split
        · exact ((h2.met f).kind f).fresh
        · exact h2
    · exact h
  · exact h
theorem Eok.sendF {σ : Se} (h : Eok σ) (now : Int) (xs : List (List Int)) : Eok (σ.sendF now xs).2.2 := by
  unfold Se.sendF
  split
  · split
    · exact h
    · split
      · exact h
      · exact Eok.fresh (h.same rfl rfl rfl)
  · exact h
theorem Eok.tickF {σ : Se} (h : Eok σ) (now : Int) : Eok (σ.tickF now).2.2 := by
  unfold Se.tickF
  split
  · split
    · split
      · exact h.same rfl rfl rfl
      · exact h.same rfl rfl rfl
    · exact h.same rfl rfl rfl
  · exact h
end Go.Proofs.Ytlnhjkbhhdcdeaa
namespace Go.Proofs.Ytlnhjkbhhdcdeaa
open Go Go.RowKit Go.Proofs.YtlnhjkbhhdcdeaaW.PrintWords Go.Proofs.YtlnhjkbhhdcdeaaW.PrintLast Go.Proofs.YtlnhjkbhhdcdeaaW.PrintMore
open Go.Proofs.Ytlnhjkbhhdcdeaa.PSessionRuns (S27 k27 z27 S116 k116 z116)
set_option linter.unusedVariables false
section
variable {n : Int} {σ : Se}
theorem frame_fok (ok : Ok n σ) (i : Nat) (hi : i < σ.L.length) : FOk (σ.frame i) := by
  have h1 := ok.boot0
  have h2 := ok.boot1
  have h3 := ok.base0
  have h4 := ok.base1
  have h5 := ok.inn0
  have h6 := ok.inn1
  have h7 := ok.big
  refine ⟨?_, ?_, ?_, ?_, ?_, ?_⟩
  · show 0 ≤ σ.boot
    omega
  · show σ.boot < _
    omega
  · show 0 ≤ σ.base + i
    omega
  · show σ.base + i < _
    omega
  · show 0 ≤ σ.inn
    omega
  · show σ.inn < _
    omega
theorem seg_fok (ok : Ok n σ) (lo hi : Nat) (h : hi ≤ σ.L.length) : ∀ f ∈ σ.seg lo hi, FOk f := by
  intro f hf
  unfold Se.seg at hf
  obtain ⟨i, hi1, rfl⟩ := List.mem_map.1 hf
  rw [List.mem_range'_1] at hi1
  exact frame_fok ok i (by omega)
theorem freshL_fok (ok : Ok n σ) : ∀ f ∈ σ.freshL, FOk f := by
  intro f hf
  unfold Se.freshL at hf
  split at hf
  · exact seg_fok ok _ _ (fl_le ok).2 f hf
  · cases hf
theorem hello_fok (ok : Ok n σ) : FOk σ.helloF := by
  have h1 := ok.boot0
  have h2 := ok.boot1
  refine ⟨?_, ?_, ?_, ?_, ?_, ?_⟩
  · show 0 ≤ σ.boot
    omega
  · show σ.boot < _
    omega
  · exact Int.le_refl _
  · show (0 : Int) < _
    omega
  · exact Int.le_refl _
  · show (0 : Int) < _
    omega
theorem ack_fok (ok : Ok n σ) : FOk σ.ackF := by
  have h1 := ok.boot0
  have h2 := ok.boot1
  have h5 := ok.inn0
  have h6 := ok.inn1
  have h7 := ok.big
  refine ⟨?_, ?_, ?_, ?_, ?_, ?_⟩
  · show 0 ≤ σ.boot
    omega
  · show σ.boot < _
    omega
  · exact Int.le_refl _
  · show (0 : Int) < _
    omega
  · show 0 ≤ σ.inn
    omega
  · show σ.inn < _
    omega
theorem sendF_fok (ok : Ok n σ) (hn : n + 65536 ≤ 1099511627776) (now : Int) (xs : List (List Int)) : ∀ f ∈ (σ.sendF now xs).2.1, FOk f := by
  unfold Se.sendF
  split
  · rename_i ha
    split
    · intro f hf; cases hf
    · rename_i h1
      split
      · intro f hf; cases hf
      · rename_i h2
        exact freshL_fok (ok.send ha h1 h2 hn)
  · intro f hf; cases hf
theorem kind_fok (ok : Ok n σ) (hn : n + 1 ≤ 1099511627776) (f : S27) (hl : f.f0 = 2 → f.f5.length ≤ 65536) : ∀ x ∈ (σ.kind f).1, FOk x := by
  intro x hx
  unfold Se.kind at hx
  split at hx
  · simp at hx
    subst hx
    split
    · exact hello_fok ok
    · exact ack_fok ok
  · split at hx
    · rename_i h2
      simp at hx
      subst hx
      exact ack_fok (((ok.told _).put hn _ _ (hl h2)).pop)
    · cases hx
theorem takeF_fok (ok : Ok n σ) (hn : n + 1 ≤ 1099511627776) (now : Int) (f : S27) (h0 : 0 ≤ f.f1) (h1 : f.f1 < 4294967296) : ∀ x ∈ (σ.takeF now f).fs, FOk x := by
  unfold Se.takeF
  split
  · rename_i ha
    split
    · rename_i hc
      have ok1 := ok.now_ ha
      split
      · intro x hx; cases hx
      · have ok2 : Ok n (if σ.peer < f.f1 then ({ σ with now := now } : Se).anew f.f1 else { σ with now := now }) := by
          split
          · exact ok1.anew _ h0 h1
          · exact ok1
        generalize (if σ.peer < f.f1 then ({ σ with now := now } : Se).anew f.f1 else { σ with now := now }) = σ2 at ok2 ⊢
        simp only
        have h2 : f.f0 = 2 → f.f5.length ≤ 65536 := fun h2 => by
          unfold chk at hc
          rw [h2] at hc
          simp at hc
          omega
        split
        · intro x hx
          rcases List.mem_append.1 hx with h | h
          · exact kind_fok (ok2.met f) hn f h2 x h
          · exact freshL_fok ((ok2.met f).kind hn f h2) x h
        · intro x hx
          simp at hx
          subst hx
          exact hello_fok ok2
    · intro x hx; cases hx
  · intro x hx; cases hx
theorem takeF_got (ok : Ok n σ) (eo : Eok σ) (hn : n + 1 ≤ 1099511627776) (now : Int) (f : S27) (h0 : 0 ≤ f.f1) (h1 : f.f1 < 4294967296) : (σ.takeF now f).got.length ≤ 65 := by
  unfold Se.takeF
  split
  · rename_i ha
    split
    · rename_i hc
      have ok1 := ok.now_ ha
      split
      · simp
      · have ok2 : Ok n (if σ.peer < f.f1 then ({ σ with now := now } : Se).anew f.f1 else { σ with now := now }) := by
          split
          · exact ok1.anew _ h0 h1
          · exact ok1
        have eo2 : Eok (if σ.peer < f.f1 then ({ σ with now := now } : Se).anew f.f1 else { σ with now := now }) := by
          split
          · exact Eok.anew _ _
          · exact eo.same rfl rfl rfl
        generalize (if σ.peer < f.f1 then ({ σ with now := now } : Se).anew f.f1 else { σ with now := now }) = σ2 at ok2 eo2 ⊢
        simp only
        split
        · unfold Se.kind
          split
          · simp
          · split
            · have h3 : (((σ2.met f).told f.f4).put f.f3 f.f5).pop.1.length ≤ (((σ2.met f).told f.f4).put f.f3 f.f5).E.length := pops_len _ _
              have h4 := (put_keep ((σ2.met f).told f.f4) f.f3 f.f5).2.2.2.2
              have h5 := ((eo2.met f).told f.f4).len ((ok2.met f).told f.f4)
              simp only
              omega
            · simp
        · simp
    · simp
  · simp
end
/-- The bounds of a pair, with the windows. -/
structure Pk (n : Int) (st : Pa) : Prop where
  ok : Pok n st
  eo : ∀ i, i < 2 → Eok (st.s i)
theorem Pk.more {n k : Int} {st : Pa} (h : Pk n st) (hk : n ≤ k) (hb : k ≤ 1099511627776) : Pk k st :=
  ⟨⟨fun i hi => (h.ok.ok i hi).more hk hb, fun i hi => Int.le_trans (h.ok.to_ i hi) hk, fun i hi => Int.le_trans (h.ok.sent i hi) hk, fun i hi => Int.le_trans (h.ok.got i hi) hk, h.ok.fr⟩, h.eo⟩
theorem upd_all {α : Type} {P : α → Prop} {f : Nat → α} {i : Nat} {v : α} (h : ∀ k, k < 2 → P (f k)) (hv : P v) : ∀ k, k < 2 → P (upd f i v k) := by
  intro k hk
  by_cases hki : k = i
  · subst hki
    rw [upd_at]
    exact hv
  · rw [upd_ne _ _ hki]
    exact h k hk
theorem Pk.send {n : Int} {st : Pa} (h : Pk n st) (i : Nat) (hi : i < 2) (b : List Int) (hn : n + 70000 ≤ 1099511627776) : Pk (n + 70000) (st.send i b) := by
  have ok := h.ok.ok i hi
  have k1 := sendF_len ok (by omega) st.now [b]
  have k2 := (ok.sendF (by omega) st.now [b]).more (k := n + 70000) (by omega) hn
  have k3 := (h.eo i hi).sendF st.now [b]
  have k4 := sendF_fok ok (by omega) st.now [b]
  have m := h.more (k := n + 70000) (by omega) hn
  unfold Pa.send
  simp only
  split
  · refine ⟨⟨upd_all (P := fun σ => Ok (n + 70000) σ) m.ok.ok k2, upd_all (P := fun l : List S27 => (l.length : Int) ≤ n + 70000) m.ok.to_ ?_, ?_, m.ok.got, upd_all (P := fun l : List S27 => ∀ f ∈ l, FOk f) m.ok.fr ?_⟩, upd_all (P := Eok) m.eo k3⟩
    · have := h.ok.to_ (1 - i) (by omega)
      rw [List.length_append]
      omega
    · show ∀ k, k < 2 → (((if (st.s i).peer = 0 then st.sent else upd st.sent i (st.sent i ++ [⟨st.boot i, (st.s i).peer, b⟩])) k).length : Int) ≤ n + 70000
      split
      · exact m.ok.sent
      · refine upd_all (P := fun l : List Ma => (l.length : Int) ≤ n + 70000) m.ok.sent ?_
        have := h.ok.sent i hi
        rw [List.length_append, List.length_singleton]
        omega
    · intro f hf
      rcases List.mem_append.1 hf with h1 | h1
      · exact h.ok.fr (1 - i) (by omega) f h1
      · exact k4 f h1
  · exact ⟨⟨upd_all (P := fun σ => Ok (n + 70000) σ) m.ok.ok k2, m.ok.to_, m.ok.sent, m.ok.got, m.ok.fr⟩, upd_all (P := Eok) m.eo k3⟩
theorem Pk.take {n : Int} {st : Pa} (h : Pk n st) (i : Nat) (hi : i < 2) (k : Nat) (stays : Bool) (hn : n + 70000 ≤ 1099511627776) : Pk (n + 70000) (st.take i k stays) := by
  have m := h.more (k := n + 70000) (by omega) hn
  unfold Pa.take
  split
  · rename_i hk
    have hf : FOk ((st.to_ i).getD k z27) := by
      rw [List.getD_eq_getElem?_getD, List.getElem?_eq_getElem hk]
      exact h.ok.fr i hi _ (List.getElem_mem _)
    generalize (st.to_ i).getD k z27 = f at hf ⊢
    have ok := h.ok.ok i hi
    have k1 := takeF_len ok (by omega) st.now f hf.1 hf.2.1
    have k2 := (ok.takeF (by omega) st.now f hf.1 hf.2.1).more (k := n + 70000) (by omega) hn
    have k3 := (h.eo i hi).takeF st.now f
    have k4 := takeF_fok ok (by omega) st.now f hf.1 hf.2.1
    have k5 := takeF_got ok (h.eo i hi) (by omega) st.now f hf.1 hf.2.1
    have h0 : Pk n (if stays then st else { st with to_ := upd st.to_ i ((st.to_ i).eraseIdx k) } : Pa) := by
      split
      · exact h
      · refine ⟨⟨h.ok.ok, upd_all (P := fun l : List S27 => (l.length : Int) ≤ n) h.ok.to_ ?_, h.ok.sent, h.ok.got, upd_all (P := fun l : List S27 => ∀ f ∈ l, FOk f) h.ok.fr (fun f hf => h.ok.fr i hi f (List.mem_of_mem_eraseIdx hf))⟩, h.eo⟩
        have := h.ok.to_ i hi
        rw [List.length_eraseIdx_of_lt hk]
        omega
    generalize (if stays then st else { st with to_ := upd st.to_ i ((st.to_ i).eraseIdx k) } : Pa) = st0 at h0 ⊢
    have m0 := h0.more (k := n + 70000) (by omega) hn
    simp only
    refine ⟨⟨upd_all (P := fun σ => Ok (n + 70000) σ) m.ok.ok k2, upd_all (P := fun l : List S27 => (l.length : Int) ≤ n + 70000) m0.ok.to_ ?_, m0.ok.sent, upd_all (P := fun l : List Ma => (l.length : Int) ≤ n + 70000) m.ok.got ?_, upd_all (P := fun l : List S27 => ∀ f ∈ l, FOk f) m0.ok.fr ?_⟩, upd_all (P := Eok) m.eo k3⟩
    · have := h0.ok.to_ (1 - i) (by omega)
      rw [List.length_append]
      omega
    · have := h.ok.got i hi
      rw [List.length_append, List.length_map]
      omega
    · intro x hx
      rcases List.mem_append.1 hx with h1 | h1
      · exact h0.ok.fr (1 - i) (by omega) x h1
      · exact k4 x h1
  · exact m
/-- What rest does, with so many rounds to come, at round n. -/
def restF : Nat → Nat → Pa → Pa
  | 0, _, st => st
  | k + 1, n, st => if 0 < (st.to_ 0).length + (st.to_ 1).length then restF k (n + 1) (st.take (n % 2) 0 false) else st
end Go.Proofs.Ytlnhjkbhhdcdeaa
