/- Runs: where no session may be, the law. -/
import Derived.Test.YtlnhjkbhhdcdeaaRv
import Derived.Test.YtlnhjkbhhdcdeaaRm
import Derived.Test.YtlnhjkbhhdcdeaaOg
import Derived.Test.YtlnhjkbhhdcdeaaSq3
namespace Go.Proofs.Ytlnhjkbhhdcdeaa
open Go Go.RowKit Go.Proofs.YtlnhjkbhhdcdeaaW.PrintWords Go.Proofs.YtlnhjkbhhdcdeaaW.PrintLast Go.Proofs.YtlnhjkbhhdcdeaaW.PrintMore
open Go.Proofs.Ytlnhjkbhhdcdeaa.PSessionRuns (S27 k27 z27 S116 k116 z116)
set_option linter.unusedVariables false
/-- What is so between two calls. -/
structure Jk (n : Int) (σ : Se) : Prop where
  ok : Ok n σ
  eo : Eok σ
  x : Jx σ
  sd : Sd σ
/-- Both sessions, apart from one another, beside the arguments. -/
structure JM (W : World) (b : Nat) (o : Obj) (p g m : Nat) (σ σr : Se) (M B : Nat → Prop) (lab : Nat → Nat) (got : List (List Int)) (vL vE vO vG : Value) (w : World) : Prop where
  ses : Ses M B g m σ w
  rs : RS p lab σr [] got vL vE vO vG w
  away : ∀ k, M k ∨ B k → lab k = 0
  args : ∀ k, k < W.heap.size → lab k = 1
  old : Below W.heap.size W w
  bl : lab b = 1
  bo : w.heap[b]? = some o
def JQ (W : World) (b : Nat) (o : Obj) (n : Int) (p g m : Nat) (σ : Se) (w : World) : Prop := Jk n σ ∧ ∃ M B lab got vL vE vO vG, JM W b o p g m σ σ M B lab got vL vE vO vG w
/-- One of both has made its call. -/
def JH (W : World) (b : Nat) (o : Obj) (p g m : Nat) (σ' σ : Se) (A : Option Addr) (c : Nat) (fs : List S27) (w : World) : Prop :=
  ∃ M B lab got vL vE vO vG, JM W b o p g m σ' σ M B lab got vL vE vO vG w ∧ Kd.V k27 27 w 0 (fun k => lab k = 0 ∧ k < w.heap.size) (.slice A fs.length c) fs
/-- Both have made their call. -/
def JF (W : World) (b : Nat) (o : Obj) (n : Int) (p g m : Nat) (σ : Se) (A A' : Option Addr) (c c' : Nat) (fs : List S27) (w : World) : Prop :=
  JQ W b o n p g m σ w ∧ Kd.V k27 27 w 0 (fun k => k < w.heap.size) (.slice A fs.length c) fs ∧ Kd.V k27 27 w 0 (fun k => k < w.heap.size) (.slice A' fs.length c') fs
section
variable {W : World} {b : Nat} {o : Obj} {p g m : Nat} {σ σ' σr : Se} {M B M' B' : Nat → Prop} {lab lab' : Nat → Nat} {got got' : List (List Int)} {vL vE vO vG vL' vE' vO' vG' : Value} {w w' : World} {n : Int}
theorem RS.step {out : List S27} (A : RS p lab σ out got vL vE vO vG w) (hs : w.heap.size ≤ w'.heap.size) (hm : ∀ k, lab k ≠ 0 → k < w.heap.size → w'.heap[k]? = w.heap[k]?) : RS p lab σ out got vL vE vO vG w' := by
  have hp := A.lim p (by rw [A.at_]; omega)
  have hrow : ∀ {α : Type} {d : Kd α} {e c : Nat} {v : Value} {xs : List α}, c ≠ 0 → Row d e w lab c v xs → Row d e w' lab c v xs := fun hc h =>
    ⟨Kd.N_step h.1 (fun k hk hl => hm k (hk.elim (fun q => by omega) (fun q => by rw [h.2 k q.symm]; exact hc)) hl), h.2⟩
  exact ⟨fun k hk => Nat.lt_of_lt_of_le (A.lim k hk) hs, A.at_, (hm p (by rw [A.at_]; omega) hp).trans A.blk, hrow (by omega) A.L, hrow (by omega) A.E, hrow (by omega) A.O, hrow (by omega) A.G⟩
theorem JM.below (J : JM W b o p g m σ σr M B lab got vL vE vO vG w) (hb : Below w.heap.size w w') : JM W b o p g m σ σr M B lab got vL vE vO vG w' :=
  ⟨J.ses.below hb, J.rs.below hb, J.away, J.args, below_then J.old J.old.size hb, J.bl, (hb.block b (J.rs.lim b (by rw [J.bl]; omega))).trans J.bo⟩
theorem JQ.below (J : JQ W b o n p g m σ w) (hb : Below w.heap.size w w') : JQ W b o n p g m σ w' := by
  obtain ⟨h, M, B, lab, got, vL, vE, vO, vG, J⟩ := J
  exact ⟨h, M, B, lab, got, vL, vE, vO, vG, J.below hb⟩
theorem JF.below {A A' : Option Addr} {c c' : Nat} {fs : List S27} (J : JF W b o n p g m σ A A' c c' fs w) (hb : Below w.heap.size w w') : JF W b o n p g m σ A A' c c' fs w' :=
  ⟨J.1.below hb, Kd.V_mono (Kd.V_below J.2.1 hb) (fun k hk => Nat.lt_of_lt_of_le hk hb.size), Kd.V_mono (Kd.V_below J.2.2 hb) (fun k hk => Nat.lt_of_lt_of_le hk hb.size)⟩
/-- The program's session has made a call. -/
theorem JM.mine (J : JM W b o p g m σ σr M B lab got vL vE vO vG w) (hs : Ses M' B' g m σ' w') (hg : Gr w w' M B M' B') : JM W b o p g m σ' σr M' B' lab got vL vE vO vG w' := by
  have hlim := J.rs.lim
  refine ⟨hs, J.rs.step hg.chg.size (fun k hk hl => hg.chg.block k hl (fun hm => hk (J.away k (.inl hm)))), fun k hk => ?_, J.args, ?_, J.bl, (hg.chg.block b (hlim b (by rw [J.bl]; omega)) (fun hm => by have := J.away b (.inl hm); rw [J.bl] at this; omega)).trans J.bo⟩
  · by_cases h0 : lab k = 0
    · exact h0
    · have hl := hlim k h0
      rcases hk with h | h
      · rcases hg.mn k h with q | q
        · exact absurd (J.away k (.inl q)) h0
        · omega
      · rcases hg.bn k h with q | q
        · exact absurd (J.away k (.inr q)) h0
        · omega
  · refine J.old.trans ⟨hg.chg.os, hg.chg.tape, hg.chg.output, hg.chg.size, fun k hk => hg.chg.block k (Nat.lt_of_lt_of_le hk J.old.size) (fun hm => ?_)⟩
    have h1 := J.away k (.inl hm)
    have h2 := J.args k hk
    omega
/-- The document's session has made a call. -/
theorem JM.theirs (J : JM W b o p g m σ σr M B lab got vL vE vO vG w) (hr : RS p lab' σ' [] got' vL' vE' vO' vG' w') (L : Ls lab lab' w w') : JM W b o p g m σ σ' M B lab' got' vL' vE' vO' vG' w' := by
  have hsz : ∀ k, M k ∨ B k → k < w.heap.size := fun k hk => hk.elim (fun h => (J.ses.2.2.1 k h).1) (fun h => J.ses.2.2.2.1 k h)
  refine ⟨J.ses.step L.size (fun k hk hl => L.same k hl (by rw [J.away k hk]; omega)), hr, fun k hk => ?_, fun k hk => ?_, ?_, (L.lab_ b (J.rs.lim b (by rw [J.bl]; omega)) (by rw [J.bl]; omega)).trans J.bl, (L.same b (J.rs.lim b (by rw [J.bl]; omega)) (by rw [J.bl]; omega)).trans J.bo⟩
  · rw [L.lab_ k (hsz k hk) (by rw [J.away k hk]; omega)]
    exact J.away k hk
  · rw [L.lab_ k (Nat.lt_of_lt_of_le hk J.old.size) (by rw [J.args k hk]; omega)]
    exact J.args k hk
  · exact J.old.trans ⟨L.os, L.tape, L.output, L.size, fun k hk => L.same k (Nat.lt_of_lt_of_le hk J.old.size) (by rw [J.args k hk]; omega)⟩
/-- Frames that the program told stay, whatever the document's session does. -/
theorem V_theirs {α : Type} {d : Kd α} {e : Nat} {v : Value} {xs : List α} (hV : Kd.V d e w 0 (fun k => lab k = 0 ∧ k < w.heap.size) v xs) (L : Ls lab lab' w w') : Kd.V d e w' 0 (fun k => k < w'.heap.size) v xs :=
  Kd.V_mono (Kd.V_step hV (fun k hk _ => L.same k hk.2 (by rw [hk.1]; omega))) (fun k hk => Nat.lt_of_lt_of_le hk.2 L.size)
theorem j_send (J : JQ W b o n p g m σ w) (hn : n + 70000 ≤ 1099511627776) (now : Int) (xs : List (List Int)) {Ax : Option Addr} {cx : Nat} (hV : Kd.V (Kd.slice 5 KB) 45 w 0 (fun k => k < W.heap.size) (.slice Ax xs.length cx) xs) (hl : xs.length ≤ 140737488351232) :
    Calls Try.prog 14 #[.pointer (some ⟨g, 0, none⟩), .int .i64 now, .slice Ax xs.length cx] w fun e w' => ∃ A c, e = .returned (.tuple #[.slice A (σ.sendF now xs).2.1.length c, .int .i64 (σ.sendF now xs).1]) ∧ JH W b o p g m (σ.sendF now xs).2.2 σ A c (σ.sendF now xs).2.1 w' := by
  obtain ⟨h, M, B, lab, got, vL, vE, vO, vG, J⟩ := J
  refine (send_ses J.ses h.ok (by omega) now xs _ Ax cx hV (fun k hk hM => ?_) hl).mono ?_
  · have h1 := J.away k (.inl hM)
    have h2 := J.args k hk
    omega
  · rintro e w' ⟨M', B', A, c, rfl, e2, e3, e4⟩
    refine ⟨A, c, rfl, M', B', lab, got, vL, vE, vO, vG, J.mine e2 e3, Kd.V_mono e4 (fun k hk => ⟨?_, hk.2.1⟩)⟩
    by_cases h0 : lab k = 0
    · exact h0
    · have := J.rs.lim k h0
      omega
theorem j_tick (J : JQ W b o n p g m σ w) (now : Int) :
    Calls Try.prog 16 #[.pointer (some ⟨g, 0, none⟩), .int .i64 now] w fun e w' => ∃ A c, e = .returned (.tuple #[.slice A (σ.tickF now).2.1.length c, .int .i64 (σ.tickF now).1]) ∧ JH W b o p g m (σ.tickF now).2.2 σ A c (σ.tickF now).2.1 w' := by
  obtain ⟨h, M, B, lab, got, vL, vE, vO, vG, J⟩ := J
  refine (tick_ses J.ses h.ok now).mono ?_
  rintro e w' ⟨M', B', A, c, rfl, e2, e3, e4⟩
  refine ⟨A, c, rfl, M', B', lab, got, vL, vE, vO, vG, J.mine e2 e3, Kd.V_mono e4 (fun k hk => ⟨?_, hk.2.1⟩)⟩
  by_cases h0 : lab k = 0
  · exact h0
  · have := J.rs.lim k h0
    omega
theorem j_rsend {now : Int} {xs : List (List Int)} {A : Option Addr} {c : Nat} (J : JH W b o p g m (σ.sendF now xs).2.2 σ A c (σ.sendF now xs).2.1 w) (h : Jk n σ) (h' : Jk (n + 70000) (σ.sendF now xs).2.2) (hn : n + 70000 ≤ 1099511627776) {Ax : Option Addr} {cx : Nat} (hV : Kd.V (Kd.slice 5 KB) 45 w 0 (fun k => k < W.heap.size) (.slice Ax xs.length cx) xs) (hl : xs.length ≤ 140737488351232) :
    Calls Try.prog 21 #[.pointer (some ⟨p, 0, none⟩), .int .i64 now, .slice Ax xs.length cx] w fun e w' => ∃ A' c', e = .returned (.tuple #[.slice A' (σ.sendF now xs).2.1.length c', .int .i64 (σ.sendF now xs).1]) ∧ JF W b o (n + 70000) p g m (σ.sendF now xs).2.2 A A' c c' (σ.sendF now xs).2.1 w' := by
  obtain ⟨M, B, lab, got, vL, vE, vO, vG, J, hVf⟩ := J
  refine (rsend J.rs h.ok h.sd (by omega) now xs _ Ax cx hV (fun k hk => by rw [J.args k hk]; omega) hl).mono ?_
  rintro e w' ⟨lab', vL', vE', vO', vG', A', c', rfl, e2, e3, e4⟩
  exact ⟨A', c', rfl, ⟨h', M, B, lab', got, vL', vE', vO', vG', J.theirs e2 e3⟩, V_theirs hVf e3, Kd.V_mono (Kd.V_bound e4) (fun k hk => hk.2)⟩
theorem j_rtick {now : Int} {A : Option Addr} {c : Nat} (J : JH W b o p g m (σ.tickF now).2.2 σ A c (σ.tickF now).2.1 w) (h : Jk n σ) (h' : Jk (n + 70000) (σ.tickF now).2.2) :
    Calls Try.prog 24 #[.pointer (some ⟨p, 0, none⟩), .int .i64 now] w fun e w' => ∃ A' c', e = .returned (.tuple #[.slice A' (σ.tickF now).2.1.length c', .int .i64 (σ.tickF now).1]) ∧ JF W b o (n + 70000) p g m (σ.tickF now).2.2 A A' c c' (σ.tickF now).2.1 w' := by
  obtain ⟨M, B, lab, got, vL, vE, vO, vG, J, hVf⟩ := J
  refine (rtick J.rs h.ok now).mono ?_
  rintro e w' ⟨lab', vL', vE', vO', vG', A', c', rfl, e2, e3, e4⟩
  exact ⟨A', c', rfl, ⟨h', M, B, lab', got, vL', vE', vO', vG', J.theirs e2 e3⟩, V_theirs hVf e3, Kd.V_mono (Kd.V_bound e4) (fun k hk => hk.2)⟩
theorem Jk.send (h : Jk n σ) (hn : n + 70000 ≤ 1099511627776) (now : Int) (xs : List (List Int)) : Jk (n + 70000) (σ.sendF now xs).2.2 := by
  obtain ⟨a, b⟩ := sd_send h.x h.sd h.ok (by omega) now xs
  exact ⟨(h.ok.sendF (by omega) now xs).more (by omega) hn, h.eo.sendF now xs, a, b⟩
theorem Jk.tick (h : Jk n σ) (hn : n + 70000 ≤ 1099511627776) (now : Int) : Jk (n + 70000) (σ.tickF now).2.2 := by
  obtain ⟨a, b⟩ := sd_tick h.x h.sd now
  exact ⟨(h.ok.tickF now).more (by omega) hn, h.eo.tickF now, a, b⟩
theorem Jk.take (h : Jk n σ) (hn : n + 70000 ≤ 1099511627776) (now : Int) (f : S27) (hf : FOk f) : Jk (n + 70000) (σ.takeF now f).σ := by
  obtain ⟨a, b⟩ := sd_take h.x h.sd h.ok (by omega) now f hf.1 hf.2.1
  exact ⟨(h.ok.takeF (by omega) now f hf.1 hf.2.1).more (by omega) hn, h.eo.takeF now f, a, b⟩
theorem Jk.more (h : Jk n σ) {k : Int} (hk : n ≤ k) (hl : k ≤ 1099511627776) : Jk k σ := ⟨h.ok.more hk hl, h.eo, h.x, h.sd⟩
theorem Jk.start {bo wi tm now : Int} (hb : badc bo wi tm = false) (h0 : 0 ≤ bo) (h1 : bo < 4294967296) (hn0 : 0 ≤ now) (hn1 : now ≤ 1099511627776) : Jk 1 (se0 bo wi tm now).start := by
  have hok := se0_ok hb h0 h1
  have hw : 1 ≤ wi := hok.win0
  obtain ⟨a, b⟩ := sd_start bo wi tm now hw
  exact ⟨{ hok with now0 := hn0, now1 := hn1 }, ⟨List.nodup_nil, fun p hp => (by cases hp), fun p hp => (by cases hp)⟩, a, b⟩
/-- What the program's Take leaves, beside the document's session. -/
def JHt (W : World) (b : Nat) (o : Obj) (p g m : Nat) (σ' σ : Se) (A Ag : Option Addr) (c cg : Nat) (fs : List S27) (gs : List (List Int)) (w : World) : Prop :=
  ∃ M B lab got vL vE vO vG, JM W b o p g m σ' σ M B lab got vL vE vO vG w ∧ Kd.V k27 27 w 0 (fun k => lab k = 0 ∧ k < w.heap.size) (.slice A fs.length c) fs ∧ Kd.V kB 25 w 0 (fun k => lab k = 0 ∧ k < w.heap.size) (.slice Ag gs.length cg) gs
def JFt (W : World) (b : Nat) (o : Obj) (n : Int) (p g m : Nat) (σ : Se) (A A' Ag Ag' : Option Addr) (c c' cg cg' : Nat) (fs : List S27) (gs : List (List Int)) (w : World) : Prop :=
  JF W b o n p g m σ A A' c c' fs w ∧ Kd.V kB 25 w 0 (fun k => k < w.heap.size) (.slice Ag gs.length cg) gs ∧ Kd.V kB 25 w 0 (fun k => k < w.heap.size) (.slice Ag' gs.length cg') gs
theorem j_take (J : JQ W b o n p g m σ w) (hn : n + 70000 ≤ 1099511627776) (now : Int) (f : S27) (hf : FOk f) {A5 : Option Addr} {c5 : Nat} (hV : Kd.V KB 5 w 0 (fun k => k < W.heap.size) (.slice A5 f.f5.length c5) f.f5) :
    Calls Try.prog 15 #[.pointer (some ⟨g, 0, none⟩), .int .i64 now, .agg #[.int .u8 f.f0, .int .u32 f.f1, .int .u32 f.f2, .int .u64 f.f3, .int .u64 f.f4, .slice A5 f.f5.length c5]] w fun e w' => ∃ A Ag c cg, e = .returned (.tuple #[.slice A (σ.takeF now f).fs.length c, .slice Ag (σ.takeF now f).got.length cg, .bool (σ.takeF now f).anew, .int .i64 (σ.takeF now f).err]) ∧ JHt W b o p g m (σ.takeF now f).σ σ A Ag c cg (σ.takeF now f).fs (σ.takeF now f).got w' := by
  obtain ⟨h, M, B, lab, got, vL, vE, vO, vG, J⟩ := J
  refine (take_ses J.ses h.ok (by omega) now f _ A5 c5 hV (fun k hk hM => ?_) hf).mono ?_
  · have h1 := J.away k (.inl hM)
    have h2 := J.args k hk
    omega
  · rintro e w' ⟨B', A, Ag, c, cg, rfl, e2, e3, e4, e5⟩
    have hz : ∀ k, w.heap.size ≤ k → lab k = 0 := fun k hk => by
      by_cases h0 : lab k = 0
      · exact h0
      · have := J.rs.lim k h0
        omega
    refine ⟨A, Ag, c, cg, rfl, M, B', lab, got, vL, vE, vO, vG, J.mine e2 e3, Kd.V_mono e4 (fun k hk => ⟨hz k hk.1, hk.2.1⟩), Kd.V_mono e5 (fun k hk => ⟨?_, hk.2.1⟩)⟩
    rcases hk.1 with q | q
    · exact J.away k (.inr q)
    · exact hz k q
theorem j_rtake {now : Int} {f : S27} {A Ag : Option Addr} {c cg : Nat} (J : JHt W b o p g m (σ.takeF now f).σ σ A Ag c cg (σ.takeF now f).fs (σ.takeF now f).got w) (h : Jk n σ) (hn : n + 70000 ≤ 1099511627776) (hf : FOk f) {A5 : Option Addr} {c5 : Nat} (hV : Kd.V KB 5 w 0 (fun k => k < W.heap.size) (.slice A5 f.f5.length c5) f.f5) :
    Calls Try.prog 22 #[.pointer (some ⟨p, 0, none⟩), .int .i64 now, .agg #[.int .u8 f.f0, .int .u32 f.f1, .int .u32 f.f2, .int .u64 f.f3, .int .u64 f.f4, .slice A5 f.f5.length c5]] w fun e w' => ∃ A' Ag' c' cg', e = .returned (.tuple #[.slice A' (σ.takeF now f).fs.length c', .slice Ag' (σ.takeF now f).got.length cg', .bool (σ.takeF now f).anew, .int .i64 (σ.takeF now f).err]) ∧ JFt W b o (n + 70000) p g m (σ.takeF now f).σ A A' Ag Ag' c c' cg cg' (σ.takeF now f).fs (σ.takeF now f).got w' := by
  obtain ⟨M, B, lab, got, vL, vE, vO, vG, J, hVf, hVg⟩ := J
  refine (rtake J.rs h.ok h.eo h.x.pd (by omega) now f.f0 f.f1 f.f2 f.f3 f.f4 f.f5 f rfl hf A5 c5 (Kd.V_mono hV (fun k hk => J.args k hk))).mono ?_
  rintro e w' ⟨lab', got', vL', vE', vO', vG', A', Ag', c', cg', rfl, e2, e3, e4, e5⟩
  refine ⟨A', Ag', c', cg', rfl, ⟨⟨h.take hn now f hf, M, B, lab', got', vL', vE', vO', vG', J.theirs e2 e3⟩, V_theirs hVf e3, Kd.V_mono (Kd.V_bound e4) (fun k hk => hk.2)⟩, V_theirs hVg e3, Kd.V_mono (Kd.V_bound e5) (fun k hk => hk.2)⟩
theorem j_same (J : JQ W b o n p g m σ w) : Calls Try.prog 25 #[.pointer (some ⟨g, 0, none⟩), .pointer (some ⟨p, 0, none⟩)] w fun e w' => e = .returned (.bool true) ∧ ∃ d, w' = w.drewN d := by
  obtain ⟨h, M, B, lab, got, vL, vE, vO, vG, J⟩ := J
  exact same_w J.ses J.rs h.ok h.x.td
theorem JQ.drewN (J : JQ W b o n p g m σ w) (d : Nat) : JQ W b o n p g m σ (w.drewN d) := J.below (pw_below_drewN (Below.refl _ _) d)
theorem JQ.now (J : JQ W b o n p g m σ w) : w.cell? ⟨p, 3, none⟩ = some (.int .i64 σ.now) ∧ 0 ≤ σ.now ∧ σ.now ≤ 1099511627776 := by
  obtain ⟨h, M, B, lab, got, vL, vE, vO, vG, J⟩ := J
  exact ⟨blk_cell J.rs.blk 3 _ rfl, h.ok.now0, h.ok.now1⟩
theorem JQ.old (J : JQ W b o n p g m σ w) : Below W.heap.size W w := by
  obtain ⟨h, M, B, lab, got, vL, vE, vO, vG, J⟩ := J
  exact J.old
theorem j_rsame {A A' : Option Addr} {c c' : Nat} {fs : List S27} (J : JF W b o n p g m σ A A' c c' fs w) (hl : fs.length ≤ 1099511627776) : Calls Try.prog 20 #[.slice A fs.length c, .slice A' fs.length c'] w fun e w' => e = .returned (.bool true) ∧ JF W b o n p g m σ A A' c c' fs w' := by
  refine (same_rows J.2.1 J.2.2 hl).mono ?_
  rintro e w' ⟨rfl, hb⟩
  exact ⟨rfl, J.below hb⟩
theorem JQ.rebox (J : JQ W b o n p g m σ w) (cs : Array Value) (t : TypeId) : JQ W w.heap.size (.cells cs t (0, 0)) n p g m σ (w.alloc (.cells cs t)) := by
  obtain ⟨h, M, B, lab, got, vL, vE, vO, vG, J⟩ := J
  have hb : Below w.heap.size w (w.alloc (.cells cs t)) := below_alloc (Below.refl _ _) _
  obtain ⟨lab', L, A, hold, hnew⟩ := J.rs.made hb
  have hsz : ∀ k, M k ∨ B k → k < w.heap.size := fun k hk => hk.elim (fun h => (J.ses.2.2.1 k h).1) (fun h => J.ses.2.2.2.1 k h)
  refine ⟨h, M, B, lab', got, vL, vE, vO, vG, J.ses.below hb, A, fun k hk => (hold k (hsz k hk)).trans (J.away k hk), fun k hk => (hold k (Nat.lt_of_lt_of_le hk J.old.size)).trans (J.args k hk), below_then J.old J.old.size hb, hnew _ (Nat.le_refl _) (by rw [World.size_alloc]; omega), heap_alloc_new w _⟩
theorem JQ.box (J : JQ W b o n p g m σ w) : w.heap[b]? = some o := by
  obtain ⟨h, M, B, lab, got, vL, vE, vO, vG, J⟩ := J
  exact J.bo
theorem JH.box {A : Option Addr} {c : Nat} {fs : List S27} (J : JH W b o p g m σ' σ A c fs w) : w.heap[b]? = some o ∧ Below W.heap.size W w := by
  obtain ⟨M, B, lab, got, vL, vE, vO, vG, J, _⟩ := J
  exact ⟨J.bo, J.old⟩
theorem JHt.box {A Ag : Option Addr} {c cg : Nat} {fs : List S27} {gs : List (List Int)} (J : JHt W b o p g m σ' σ A Ag c cg fs gs w) : w.heap[b]? = some o ∧ Below W.heap.size W w := by
  obtain ⟨M, B, lab, got, vL, vE, vO, vG, J, _⟩ := J
  exact ⟨J.bo, J.old⟩
end
end Go.Proofs.Ytlnhjkbhhdcdeaa
namespace Go.Proofs.Ytlnhjkbhhdcdeaa
open Go Go.RowKit Go.ChangeShapes Go.WideShapes Go.Proofs.YtlnhjkbhhdcdeaaW.PrintWords Go.Proofs.YtlnhjkbhhdcdeaaW.PrintLast Go.Proofs.YtlnhjkbhhdcdeaaW.PrintMore
open Go.Proofs.Ytlnhjkbhhdcdeaa.PSessionRuns (S27 k27 z27 S116 k116 z116)
set_option linter.unusedVariables false
set_option maxRecDepth 100000
set_option maxHeartbeats 4000000
attribute [local go_sem] max2_mx min2_mn max_two min_two
theorem RS.relab {p : Nat} {lab : Nat → Nat} {σ : Se} {out : List S27} {got : List (List Int)} {vL vE vO vG : Value} {w : World} (A : RS p lab σ out got vL vE vO vG w) (b : Nat) (hb : b ≤ w.heap.size) (h0 : ∀ k, k < b → lab k = 0) : RS p (fun k => if k < b then 1 else lab k) σ out got vL vE vO vG w := by
  have hne : ∀ k, lab k ≠ 0 → ¬ k < b := fun k hk hl => hk (h0 k hl)
  have hrow : ∀ {α : Type} {d : Kd α} {e c : Nat} {v : Value} {xs : List α}, c ≠ 0 → Row d e w lab c v xs → Row d e w (fun k => if k < b then 1 else lab k) c v xs := fun hc h =>
    ⟨Kd.N_mono h.1 (fun k hk => hk.imp (fun q => by simp only [if_neg (hne k (by omega)), q]) id), fun k hk => by have := h.2 k hk; simp only [if_neg (hne k (by omega)), this]⟩
  refine ⟨fun k hk => ?_, by simp only [if_neg (hne p (by rw [A.at_]; omega)), A.at_], A.blk, hrow (by omega) A.L, hrow (by omega) A.E, hrow (by omega) A.O, hrow (by omega) A.G⟩
  by_cases hk2 : k < b
  · omega
  · simp only [if_neg hk2] at hk
    exact A.lim k hk
/-- Both sessions are made. -/
theorem j_new {W w0 w1 w2 : World} {M : Nat → Prop} {g m p : Nat} {lab : Nat → Nat} {vL vE vO vG : Value} {bo wi tm now : Int} {A A' : Option Addr} {c' : Nat} (hJ : Jk 1 (se0 bo wi tm now).start) (h0 : Below W.heap.size W w0) {b : Nat} {o : Obj} (hb0 : w0.heap[b]? = some o) (hbl : b < w0.heap.size)
    (a1 : Ses M (fun _ => False) g m (se0 bo wi tm now).start w1) (a2 : Below w0.heap.size w0 w1) (a3 : ∀ k, M k → w0.heap.size ≤ k) (a4 : Kd.V k27 27 w1 0 (fun k => w0.heap.size ≤ k ∧ k < w1.heap.size ∧ ¬ M k) (.slice A 1 1) [(se0 bo wi tm now).start.helloF])
    (b1 : RS p lab (se0 bo wi tm now).start [] [] vL vE vO vG w2) (b2 : Below w1.heap.size w1 w2) (b3 : ∀ k, k < w1.heap.size → lab k = 0) (b4 : Kd.V k27 27 w2 0 (fun k => lab k = 1) (.slice A' 1 c') [(se0 bo wi tm now).start.helloF]) :
    JF W b o 2 p g m (se0 bo wi tm now).start A A' 1 c' [(se0 bo wi tm now).start.helloF] w2 := by
  have s0 := h0.size
  have s1 := a2.size
  have s2 := b2.size
  refine ⟨⟨hJ.more (by omega) (by omega), M, fun _ => False, _, [], vL, vE, vO, vG, a1.below b2, b1.relab w0.heap.size (by omega) (fun k hk => b3 k (by omega)), fun k hk => ?_, fun k hk => ?_, ?_, ?_, ?_⟩, Kd.V_mono (Kd.V_below a4 b2) (fun k hk => by have := hk.2.1; omega), Kd.V_mono b4 (fun k hk => b1.lim k (by omega))⟩
  · rcases hk with h | h
    · have h1 := a3 k h
      have h2 := (a1.2.2.1 k h).1
      simp only [if_neg (by omega : ¬ k < w0.heap.size)]
      exact b3 k h2
    · exact h.elim
  · simp only [if_pos (by omega : k < w0.heap.size)]
  · exact (h0.trans (a2.mono s0)).trans (b2.mono (by omega))
  · simp only [if_pos hbl]
  · rw [b2.block b (by omega), a2.block b hbl]
    exact hb0
theorem runs_bad (bo wi tm now : Int) (v1 : Value) (w : World) (hb : badc bo wi tm = true ∨ badc bo wi tm = false ∧ tok now = false) :
    Calls Try.prog 6 #[.agg #[.int .u32 bo, .int .i64 wi, .int .i64 tm], .int .i64 now, v1] w fun e w' => e = .returned (.bool true) ∧ Below w.heap.size w w' := by
  have hh : ∃ x : Int, (∀ W, Calls Try.prog 13 #[.agg #[.int .u32 bo, .int .i64 wi, .int .i64 tm], .int .i64 now] W fun e w' => e = .returned (.tuple #[.pointer none, .slice none 0 0, .int .i64 x]) ∧ Below W.heap.size W w') ∧ (∀ W, Calls Try.prog 19 #[.agg #[.int .u32 bo, .int .i64 wi, .int .i64 tm], .int .i64 now] W fun e w' => e = .returned (.tuple #[.pointer none, .slice none 0 0, .int .i64 x]) ∧ Below W.heap.size W w') := by
    rcases hb with h | ⟨h, ht⟩
    · exact ⟨200, fun W => (new_bad bo wi tm now h).mono (fun e w' hq => ⟨hq.1, by rw [hq.2]; exact below_alloc (Below.refl _ _) _⟩), fun W => rnew_bad bo wi tm now h⟩
    · exact ⟨202, fun W => (new_time bo wi tm now h ht).mono (fun e w' hq => ⟨hq.1, by rw [hq.2]; exact below_alloc (Below.refl _ _) _⟩), fun W => rnew_time bo wi tm now h ht⟩
  obtain ⟨x, h1, h2⟩ := hh
  have H1 := Lib.hid h1
  have H2 := Lib.hid h2
  have hx : (x != x) = false := by simp
  clear h1 h2 hb
  go_enter Try.func6, Try.ntmps6
  have hb0 : Below w.heap.size w (w.alloc (.cells #[.int .u32 bo, .int .i64 wi, .int .i64 tm] 39)) := below_alloc (Below.refl _ _) _
  have hbk := heap_alloc_new w (.cells #[.int .u32 bo, .int .i64 wi, .int .i64 tm] 39)
  have HB0 := Lib.hid hb0
  have HBK := Lib.hid hbk
  clear hb0 hbk
  go_wp2_with fail
  refine (H1.out _).mono ?_
  rintro e w1 ⟨rfl, hb1⟩
  have hbk1 := (hb1.block _ (blk_lt HBK.out)).trans HBK.out
  have HB1 := Lib.hid (below_then HB0.out HB0.out.size hb1)
  have c0 := blk_cell hbk1 0 (.int .u32 bo) rfl
  have c1 := blk_cell hbk1 1 (.int .i64 wi) rfl
  have c2 := blk_cell hbk1 2 (.int .i64 tm) rfl
  clear hb1 hbk1
  go_wp2_with fail
  refine (H2.out _).mono ?_
  rintro e w2 ⟨rfl, hb2⟩
  have HB2 := Lib.hid (below_then HB1.out HB1.out.size hb2)
  clear hb2 c0 c1 c2
  go_wp2_with fail
  refine (same_rows (fs := []) (A := none) (B := none) (c := 0) (d := 0) (Kd.V_nil _ _ _ _ (fun _ => True)) (Kd.V_nil _ _ _ _ (fun _ => True)) (by simp)).mono ?_
  rintro e w3 ⟨rfl, hb3⟩
  have HB3 := Lib.hid (below_then HB2.out HB2.out.size hb3)
  clear hb3
  go_wp2_with fail
  refine (alive _).mono ?_
  rintro e w4 ⟨rfl, hb4⟩
  have HB4 := Lib.hid (below_then HB3.out HB3.out.size hb4)
  clear hb4
  go_wp2_with fail
  go_ret
  exact ⟨rfl, HB4.out⟩
end Go.Proofs.Ytlnhjkbhhdcdeaa
namespace Go.Proofs.Ytlnhjkbhhdcdeaa
open Go Go.RowKit Go.ChangeShapes Go.WideShapes Go.Proofs.YtlnhjkbhhdcdeaaW.PrintWords Go.Proofs.YtlnhjkbhhdcdeaaW.PrintLast Go.Proofs.YtlnhjkbhhdcdeaaW.PrintMore
open Go.Proofs.Ytlnhjkbhhdcdeaa.PSessionRuns (S27 k27 z27 S116 k116 z116)
set_option linter.unusedVariables false
set_option maxRecDepth 100000
set_option maxHeartbeats 4000000
attribute [local go_sem] max2_mx min2_mn max_two min_two
theorem runs_ok (bo wi tm now : Int) (v1 : Value) (xs1 : List TOp) (w : World) (hb : badc bo wi tm = false) (ht : tok now = true) (h0 : 0 ≤ bo) (h1 : bo < 4294967296)
    (hV : Kd.V kop 47 w 0 (fun k => k < w.heap.size) v1 xs1) (hok : ∀ o ∈ xs1, okO o) :
    Calls Try.prog 6 #[.agg #[.int .u32 bo, .int .i64 wi, .int .i64 tm], .int .i64 now, v1] w fun e w' => e = .returned (.bool true) ∧ Below w.heap.size w w' := by
  obtain ⟨A1, c1, rfl, hc1, hF1⟩ := hV
  obtain ⟨n1, hn1⟩ : ∃ n1, n1 = xs1.length := ⟨_, rfl⟩
  have HV : Hid (Kd.V kop 47 w 0 (fun k => k < w.heap.size) (.slice A1 n1 c1) xs1) := Lib.hid (by rw [hn1]; exact ⟨A1, c1, rfl, hc1, hF1⟩)
  rw [← hn1]
  have HN1 := Lib.hid hn1
  have HOK := Lib.hid hok
  have HNW : Hid (0 ≤ now ∧ now ≤ 1099511627776) := by
    unfold tok at ht
    simp at ht
    exact Lib.hid ht
  have HJ : Hid (Jk 1 (se0 bo wi tm now).start) := Lib.hid (Jk.start hb h0 h1 HNW.out.1 HNW.out.2)
  have H1 : Hid (∀ W, Calls Try.prog 13 #[.agg #[.int .u32 bo, .int .i64 wi, .int .i64 tm], .int .i64 now] W (NewP W (se0 bo wi tm now))) := Lib.hid (fun W => new_ok bo wi tm now hb ht)
  have H2 : Hid (∀ W, Calls Try.prog 19 #[.agg #[.int .u32 bo, .int .i64 wi, .int .i64 tm], .int .i64 now] W (RNew W (se0 bo wi tm now))) := Lib.hid (fun W => rnew_ok bo wi tm now hb ht h0 h1)
  clear hb ht h0 h1 hc1 hF1 hn1 hok
  go_enter Try.func6, Try.ntmps6
  have hb0 : Below w.heap.size w (w.alloc (.cells #[.int .u32 bo, .int .i64 wi, .int .i64 tm] 39)) := below_alloc (Below.refl _ _) _
  have hbk := heap_alloc_new w (.cells #[.int .u32 bo, .int .i64 wi, .int .i64 tm] 39)
  have HB0 := Lib.hid hb0
  have HBK := Lib.hid hbk
  clear hb0 hbk
  go_wp2_with fail
  refine (H1.out _).mono ?_
  rintro e w1 ⟨M, g, m, A, rfl, a1, a2, a3, a4⟩
  have hbk1 := (a2.block _ (blk_lt HBK.out)).trans HBK.out
  have c0 := blk_cell hbk1 0 (.int .u32 bo) rfl
  have c1' := blk_cell hbk1 1 (.int .i64 wi) rfl
  have c2 := blk_cell hbk1 2 (.int .i64 tm) rfl
  have HA := Lib.hid (And.intro a1 (And.intro a2 (And.intro a3 a4)))
  clear a1 a2 a3 a4 hbk1
  go_wp2_with fail
  refine (H2.out _).mono ?_
  rintro e w2 ⟨p, lab, vL, vE, vO, vG, A', c', rfl, b1, b2, b3, b4⟩
  have HJF := Lib.hid (j_new HJ.out HB0.out HBK.out (blk_lt HBK.out) HA.out.1 HA.out.2.1 HA.out.2.2.1 HA.out.2.2.2 b1 b2 b3 b4)
  have HC := Lib.hid (j_rsame HJF.out (by simp))
  obtain ⟨σ0, hσ0⟩ : ∃ σ0, σ0 = (se0 bo wi tm now).start := ⟨_, rfl⟩
  rw [← hσ0] at HJF HC
  clear b1 b2 b3 b4 c0 c1' c2 HA H1 H2 HJ hσ0 HJF
  go_wp2_with fail
  refine HC.out.mono ?_
  rintro e w3 ⟨rfl, hjf⟩
  have HQ := Lib.hid hjf.1
  clear hjf HC
  go_wp2_with fail
  refine (alive _).mono ?_
  rintro e w4 ⟨rfl, hb4⟩
  have HQ4 := Lib.hid (HQ.out.below hb4)
  clear hb4 HQ
  go_wp2_with fail
  go_loopw [13] (fun v wr => ∃ (i : Nat) (σ : Se) (bz : Nat) (oz : Obj), v = .int .i64 i ∧ i ≤ n1 ∧ i ≤ 100 ∧ Hid (JQ w bz oz (2 + 70000 * (i : Int)) p g m σ wr)) (fun v _ => n1 - (intOf v).toNat)
  case atStart => exact ⟨0, σ0, _, _, rfl, Nat.zero_le _, Nat.zero_le _, by simpa using HQ4⟩
  case round =>
    obtain ⟨i, σ, bz, oz, rfl, hi, hi100, HJ⟩ := hrel
    have HOLD := Lib.hid HJ.out.old
    by_cases hlt : i < n1 ∧ i < 100
    · obtain ⟨hlt1, hlt2⟩ := hlt
      have HLT := Lib.hid (And.intro hlt1 hlt2)
      obtain ⟨ad, AL, cL, A5, c5, o, rfl, HO, q0, q1, q2, hVL, hsix, hV5⟩ := V_op_at HV.out i (by rw [← HN1.out]; exact hlt1)
      rw [add_field _ _ 1 (by omega)] at q1
      rw [add_field _ _ 2 (by omega)] at q2
      rw [add_field _ _ 3 (by omega)] at hsix
      have hoo : okO o := by
        rw [HO.out, List.getD_eq_getElem?_getD, List.getElem?_eq_getElem (by rw [← HN1.out]; exact hlt1)]
        exact HOK.out _ (List.getElem_mem _)
      have HOO := Lib.hid hoo
      obtain ⟨ff, hff⟩ : ∃ ff, ff = frof o.2.2.2 := ⟨_, rfl⟩
      rw [← hff] at hsix hV5
      have HFF : Hid (FOk ff) := Lib.hid (by rw [hff]; exact okF_fok hoo.2.2.2)
      obtain ⟨xl, hxl⟩ : ∃ xl, xl = o.2.2.1 := ⟨_, rfl⟩
      rw [← hxl] at q2 hVL
      have HXL : Hid (xl.length ≤ 140737488351232) := Lib.hid (by rw [hxl]; have := hoo.2.2.1.2; omega)
      obtain ⟨k0, hk0⟩ : ∃ k0, k0 = o.1 := ⟨_, rfl⟩
      obtain ⟨at0, hat0⟩ : ∃ at0, at0 = o.2.1 := ⟨_, rfl⟩
      rw [← hk0] at q0
      rw [← hat0] at q1
      have HAT : Hid (-9223372036854775808 ≤ at0 ∧ at0 ≤ 9223372036854775807) := Lib.hid (by
        have := hoo.2.1
        rw [hat0]
        simp [Lit.wf, IntKind.min, IntKind.max, IntKind.signed, IntKind.bits] at this
        omega)
      obtain ⟨ll, hll⟩ : ∃ ll, ll = xl.length := ⟨_, rfl⟩
      have HLL := Lib.hid hll
      rw [← hll] at q2
      obtain ⟨y0, hy0⟩ : ∃ y, y = ff.f0 := ⟨_, rfl⟩
      obtain ⟨y1, hy1⟩ : ∃ y, y = ff.f1 := ⟨_, rfl⟩
      obtain ⟨y2, hy2⟩ : ∃ y, y = ff.f2 := ⟨_, rfl⟩
      obtain ⟨y3, hy3⟩ : ∃ y, y = ff.f3 := ⟨_, rfl⟩
      obtain ⟨y4, hy4⟩ : ∃ y, y = ff.f4 := ⟨_, rfl⟩
      obtain ⟨l5, hl5⟩ : ∃ y, y = ff.f5.length := ⟨_, rfl⟩
      have HYS := Lib.hid (And.intro hy0 (And.intro hy1 (And.intro hy2 (And.intro hy3 (And.intro hy4 hl5)))))
      have HVL : Hid (∀ wq, Below w.heap.size w wq → Kd.V (Kd.slice 5 KB) 45 wq 0 (fun k => k < w.heap.size) (.slice AL xl.length cL) xl) := Lib.hid (fun wq hq => Kd.V_step hVL (fun k hk _ => hq.block k hk))
      have HV5 : Hid (∀ wq, Below w.heap.size w wq → Kd.V KB 5 wq 0 (fun k => k < w.heap.size) (.slice A5 ff.f5.length c5) ff.f5) := Lib.hid (fun wq hq => Kd.V_step hV5 (fun k hk _ => hq.block k hk))
      obtain ⟨s0, s1, s2, s3, s4, s5⟩ := hsix
      rw [← hy0] at s0
      rw [← hy1] at s1
      rw [← hy2] at s2
      rw [← hy3] at s3
      rw [← hy4] at s4
      rw [← hl5] at s5
      have r0 := pw_cell_below HOLD.out q0
      have r1 := pw_cell_below HOLD.out q1
      have r2 := pw_cell_below HOLD.out q2
      have r3 := pw_cell_below HOLD.out s0
      have r4 : wr.cell? ⟨(ad.add (i * 9)).block, (ad.add (i * 9)).off + 4, none⟩ = some (.int .u32 y1) := pw_cell_below HOLD.out s1
      have r5 : wr.cell? ⟨(ad.add (i * 9)).block, (ad.add (i * 9)).off + 5, none⟩ = some (.int .u32 y2) := pw_cell_below HOLD.out s2
      have r6 : wr.cell? ⟨(ad.add (i * 9)).block, (ad.add (i * 9)).off + 6, none⟩ = some (.int .u64 y3) := pw_cell_below HOLD.out s3
      have r7 : wr.cell? ⟨(ad.add (i * 9)).block, (ad.add (i * 9)).off + 7, none⟩ = some (.int .u64 y4) := pw_cell_below HOLD.out s4
      have r8 : wr.cell? ⟨(ad.add (i * 9)).block, (ad.add (i * 9)).off + 8, none⟩ = some (.slice A5 l5 c5) := pw_cell_below HOLD.out s5
      clear q0 q1 q2 s0 s1 s2 s3 s4 s5 hVL hV5 hff hxl hk0 hat0 hll hy0 hy1 hy2 hy3 hy4 hl5 hoo HOO HO
      have e1 : ((i : Int) < (n1 : Int)) := by omega
      go_upto_region 11 with fail
      have hbk2 := heap_alloc_new wr (.cells #[.int .i64 k0, .int .i64 at0, .slice AL ll cL, .int .u8 y0, .int .u32 y1, .int .u32 y2, .int .u64 y3, .int .u64 y4, .slice A5 l5 c5] 47)
      have hj2 := HJ.out.rebox #[.int .i64 k0, .int .i64 at0, .slice AL ll cL, .int .u8 y0, .int .u32 y1, .int .u32 y2, .int .u64 y3, .int .u64 y4, .slice A5 l5 c5] 47
      obtain ⟨bx, hbx⟩ : ∃ bx, bx = wr.heap.size := ⟨_, rfl⟩
      rw [← hbx] at hbk2 hj2 ⊢
      clear hbx HJ HOLD r0 r1 r2 r3 r4 r5 r6 r7 r8 e1 hlt1 hlt2 hi hi100
      generalize wr.alloc (.cells #[.int .i64 k0, .int .i64 at0, .slice AL ll cL, .int .u8 y0, .int .u32 y1, .int .u32 y2, .int .u64 y3, .int .u64 y4, .slice A5 l5 c5] 47) = W2 at *
      obtain ⟨ob, hob⟩ : ∃ ob, ob = Obj.cells #[.int .i64 k0, .int .i64 at0, .slice AL ll cL, .int .u8 y0, .int .u32 y1, .int .u32 y2, .int .u64 y3, .int .u64 y4, .slice A5 l5 c5] 47 (0, 0) := ⟨_, rfl⟩
      rw [← hob] at hj2
      have HOB := Lib.hid hob
      have HJ2 := Lib.hid hj2
      clear hj2 hob
      have HBK2 := Lib.hid hbk2
      have HNN : Hid (2 + 70000 * (i : Int) + 70000 = 2 + 70000 * ((i + 1 : Nat) : Int) ∧ 2 + 70000 * (i : Int) + 70000 ≤ 1099511627776) := Lib.hid (by
        have := HLT.out
        omega)
      obtain ⟨sn, hsn⟩ : ∃ sn, sn = σ.now := ⟨_, rfl⟩
      have HSN := Lib.hid hsn
      clear hsn
      have f1 := blk_cell hbk2 1 (.int .i64 at0) rfl
      go_upto_region 12 with fail
      obtain ⟨b1, hb1⟩ : ∃ b1, decide ((0 : Int) ≤ at0) = b1 := ⟨_, rfl⟩
      obtain ⟨b2, hb2⟩ : ∃ b2, decide (at0 ≤ (1099511627776 : Int) - sn) = b2 := ⟨_, rfl⟩
      go_cut [88] (fun v wx => v = .bool (b1 && b2) ∧ ∃ d, wx = W2.drewN d)
      case first =>
        obtain ⟨d3, n0, n1'⟩ := HJ2.out.now
        rw [← HSN.out] at d3 n0 n1'
        have hw1 : IntKind.i64.wrap ((1099511627776 : Int) - sn) = (1099511627776 : Int) - sn := IntWalk.i64_in _ (by omega)
        cases b1 with
        | true =>
          go_quiet (fail)
          go_wp2_with fail
          go_meet
          exact ⟨rfl, _, rfl⟩
        | false =>
          go_quiet (fail)
          go_wp2_with fail
          go_meet
          exact ⟨rfl, _, rfl⟩
      case rest =>
        obtain ⟨rfl, dd, rfl⟩ := hcut
        have HB12 := Lib.hid (And.intro hb1 hb2)
        clear hb1 hb2
        have HJ3 := Lib.hid (HJ2.out.drewN dd)
        have HBK3 : Hid ((W2.drewN dd).heap[bx]? = some (.cells #[.int .i64 k0, .int .i64 at0, .slice AL ll cL, .int .u8 y0, .int .u32 y1, .int .u32 y2, .int .u64 y3, .int .u64 y4, .slice A5 l5 c5] 47 (0, 0))) := HBK2
        clear HJ2 HBK2 hbk2 f1
        generalize W2.drewN dd = W3 at *
        have f1 := blk_cell HBK3.out 1 (.int .i64 at0) rfl
        go_upto_if 88 with fail
        go_cut [15] (fun v wy => ∃ t : Int, v = .int .i64 t ∧ ∃ d, wy = W3.drewN d)
        case first =>
          cases hbb : (b1 && b2) with
          | false =>
            go_wp2_with fail
            go_meet
            exact ⟨at0, rfl, 0, rfl⟩
          | true =>
            obtain ⟨d3, n0, n1'⟩ := HJ3.out.now
            rw [← HSN.out] at d3 n0 n1'
            have hat : 0 ≤ at0 ∧ at0 ≤ 1099511627776 - sn := by
              simp at hbb
              have h3 := HB12.out.1
              have h4 := HB12.out.2
              rw [hbb.1] at h3
              rw [hbb.2] at h4
              simp at h3 h4
              exact ⟨h3, h4⟩
            have hw2 : IntKind.i64.wrap (sn + at0) = sn + at0 := IntWalk.i64_in _ (by omega)
            clear hat hbb n0 n1'
            go_wp2_with fail
            go_quiet (fail)
            go_wp2_with fail
            go_meet
            exact ⟨sn + at0, rfl, _, rfl⟩
        case rest =>
          obtain ⟨t, rfl, d4, rfl⟩ := hcut
          have HJ4 := Lib.hid (HJ3.out.drewN d4)
          have HBK4 : Hid ((W3.drewN d4).heap[bx]? = some (.cells #[.int .i64 k0, .int .i64 at0, .slice AL ll cL, .int .u8 y0, .int .u32 y1, .int .u32 y2, .int .u64 y3, .int .u64 y4, .slice A5 l5 c5] 47 (0, 0))) := HBK3
          clear HJ3 HBK3 f1
          generalize W3.drewN d4 = W4 at *
          have HOLD4 := Lib.hid HJ4.out.old
          have HJk : Hid (Jk (2 + 70000 * (i : Int)) σ) := Lib.hid HJ4.out.1
          have f0 := blk_cell HBK4.out 0 (.int .i64 k0) rfl
          obtain ⟨e1, he1⟩ : ∃ e1, (k0 == 1) = e1 := ⟨_, rfl⟩
          obtain ⟨e2, he2⟩ : ∃ e2, (k0 == 2) = e2 := ⟨_, rfl⟩
          obtain ⟨e3, he3⟩ : ∃ e3, (k0 == 3) = e3 := ⟨_, rfl⟩
          cases e1 with
          | true =>
            obtain ⟨zf, hzf⟩ : ∃ z, z = (σ.sendF t xl).2.1.length := ⟨_, rfl⟩
            obtain ⟨er, her⟩ : ∃ z, z = (σ.sendF t xl).1 := ⟨_, rfl⟩
            have HZF := Lib.hid (And.intro hzf her)
            have HC : Hid (Calls Try.prog 14 #[.pointer (some ⟨g, 0, none⟩), .int .i64 t, .slice AL ll cL] W4 fun e w' => ∃ A c, e = .returned (.tuple #[.slice A zf c, .int .i64 er]) ∧ JH w bx ob p g m (σ.sendF t xl).2.2 σ A c (σ.sendF t xl).2.1 w') := Lib.hid (by rw [hzf, her, HLL.out]; exact j_send HJ4.out HNN.out.2 t xl (HVL.out _ HOLD4.out) HXL.out)
            have x2 := blk_cell HBK4.out 2 (.slice AL ll cL) rfl
            clear hzf her HJ4 HBK4 HOLD4
            go_wp2_with fail
            refine HC.out.mono ?_
            rintro e w5 ⟨A, c, rfl, hjh⟩
            clear HC x2 f0
            have hbk5 := hjh.box.1
            rw [HOB.out] at hbk5
            have y2' := blk_cell hbk5 2 (.slice AL ll cL) rfl
            clear hbk5
            have HC2 : Hid (Calls Try.prog 21 #[.pointer (some ⟨p, 0, none⟩), .int .i64 t, .slice AL ll cL] w5 fun e w' => ∃ A' c', e = .returned (.tuple #[.slice A' zf c', .int .i64 er]) ∧ JF w bx ob (2 + 70000 * (i : Int) + 70000) p g m (σ.sendF t xl).2.2 A A' c c' (σ.sendF t xl).2.1 w') := Lib.hid (by rw [HZF.out.1, HZF.out.2, HLL.out]; exact j_rsend hjh HJk.out (HJk.out.send HNN.out.2 t xl) HNN.out.2 (HVL.out _ hjh.box.2) HXL.out)
            clear hjh
            go_wp2_with fail
            refine HC2.out.mono ?_
            rintro e w6 ⟨A', c', rfl, hjf6⟩
            clear HC2 y2'
            have HCS : Hid (Calls Try.prog 20 #[.slice A zf c, .slice A' zf c'] w6 fun e w' => e = .returned (.bool true) ∧ JF w bx ob (2 + 70000 * (i : Int) + 70000) p g m (σ.sendF t xl).2.2 A A' c c' (σ.sendF t xl).2.1 w') := Lib.hid (by rw [HZF.out.1]; exact j_rsame hjf6 (by have := sendF_len HJk.out.ok (by have := HNN.out.2; omega) t xl; omega))
            clear hjf6
            have hee : (er != er) = false := by simp
            go_wp2_with fail
            refine HCS.out.mono ?_
            rintro e w7 ⟨rfl, hjf⟩
            have HJ7 := Lib.hid hjf.1
            have HSM := Lib.hid (j_same hjf.1)
            clear hjf HCS
            go_wp2_with fail
            refine HSM.out.mono ?_
            rintro e w8 ⟨rfl, d8, rfl⟩
            have HJ8 := Lib.hid (HJ7.out.drewN d8)
            clear HSM HJ7
            have hi1 := HLT.out.1
            have hi2 := HLT.out.2
            go_wp2_with fail
            go_roundw
            case rel => exact ⟨i + 1, _, bx, _, by go_num, by omega, by omega, by rw [← HNN.out.1]; exact HJ8⟩
            case measure => simp [intOf]; omega
          | false =>
            cases e2 with
            | true =>
              obtain ⟨zf, hzf⟩ : ∃ z, z = (σ.takeF t ff).fs.length := ⟨_, rfl⟩
              obtain ⟨zg, hzg⟩ : ∃ z, z = (σ.takeF t ff).got.length := ⟨_, rfl⟩
              obtain ⟨er, her⟩ : ∃ z, z = (σ.takeF t ff).err := ⟨_, rfl⟩
              obtain ⟨an, han⟩ : ∃ z, z = (σ.takeF t ff).anew := ⟨_, rfl⟩
              have HZF := Lib.hid (And.intro hzf (And.intro hzg (And.intro her han)))
              have HC : Hid (Calls Try.prog 15 #[.pointer (some ⟨g, 0, none⟩), .int .i64 t, .agg #[.int .u8 y0, .int .u32 y1, .int .u32 y2, .int .u64 y3, .int .u64 y4, .slice A5 l5 c5]] W4 fun e w' => ∃ A Ag c cg, e = .returned (.tuple #[.slice A zf c, .slice Ag zg cg, .bool an, .int .i64 er]) ∧ JHt w bx ob p g m (σ.takeF t ff).σ σ A Ag c cg (σ.takeF t ff).fs (σ.takeF t ff).got w') := Lib.hid (by rw [hzf, hzg, her, han, HYS.out.1, HYS.out.2.1, HYS.out.2.2.1, HYS.out.2.2.2.1, HYS.out.2.2.2.2.1, HYS.out.2.2.2.2.2]; exact j_take HJ4.out HNN.out.2 t ff HFF.out (HV5.out _ HOLD4.out))
              have x3 := blk_cell HBK4.out 3 (.int .u8 y0) rfl
              have x4 := blk_cell HBK4.out 4 (.int .u32 y1) rfl
              have x5 := blk_cell HBK4.out 5 (.int .u32 y2) rfl
              have x6 := blk_cell HBK4.out 6 (.int .u64 y3) rfl
              have x7 := blk_cell HBK4.out 7 (.int .u64 y4) rfl
              have x8 := blk_cell HBK4.out 8 (.slice A5 l5 c5) rfl
              clear hzf hzg her han HJ4 HBK4 HOLD4
              go_wp2_with fail
              refine HC.out.mono ?_
              rintro e w5 ⟨A, Ag, c, cg, rfl, hjh⟩
              clear HC f0 x3 x4 x5 x6 x7 x8
              have hbk5 := hjh.box.1
              rw [HOB.out] at hbk5
              have z3 := blk_cell hbk5 3 (.int .u8 y0) rfl
              have z4 := blk_cell hbk5 4 (.int .u32 y1) rfl
              have z5 := blk_cell hbk5 5 (.int .u32 y2) rfl
              have z6 := blk_cell hbk5 6 (.int .u64 y3) rfl
              have z7 := blk_cell hbk5 7 (.int .u64 y4) rfl
              have z8 := blk_cell hbk5 8 (.slice A5 l5 c5) rfl
              clear hbk5
              have HC2 : Hid (Calls Try.prog 22 #[.pointer (some ⟨p, 0, none⟩), .int .i64 t, .agg #[.int .u8 y0, .int .u32 y1, .int .u32 y2, .int .u64 y3, .int .u64 y4, .slice A5 l5 c5]] w5 fun e w' => ∃ A' Ag' c' cg', e = .returned (.tuple #[.slice A' zf c', .slice Ag' zg cg', .bool an, .int .i64 er]) ∧ JFt w bx ob (2 + 70000 * (i : Int) + 70000) p g m (σ.takeF t ff).σ A A' Ag Ag' c c' cg cg' (σ.takeF t ff).fs (σ.takeF t ff).got w') := Lib.hid (by rw [HZF.out.1, HZF.out.2.1, HZF.out.2.2.1, HZF.out.2.2.2, HYS.out.1, HYS.out.2.1, HYS.out.2.2.1, HYS.out.2.2.2.1, HYS.out.2.2.2.2.1, HYS.out.2.2.2.2.2]; exact j_rtake hjh HJk.out HNN.out.2 HFF.out (HV5.out _ hjh.box.2))
              clear hjh
              go_wp2_with fail
              refine HC2.out.mono ?_
              rintro e w6 ⟨A', Ag', c', cg', rfl, hjf6⟩
              clear HC2 z3 z4 z5 z6 z7 z8
              have HCB : Hid (Calls Try.prog 23 #[.slice Ag zg cg, .slice Ag' zg cg'] w6 fun e w' => e = .returned (.bool true) ∧ ∃ n, w' = w6.drewN n) := Lib.hid (by rw [HZF.out.2.1]; exact bodies_w hjf6.2.1 hjf6.2.2 (by have := takeF_got HJk.out.ok HJk.out.eo (by have := HNN.out.2; omega) t ff HFF.out.1 HFF.out.2.1; omega))
              have HJ6 := Lib.hid hjf6.1
              clear hjf6
              have haa : (an != an) = false := by simp
              go_wp2_with fail
              refine HCB.out.mono ?_
              rintro e w6b ⟨rfl, d6, rfl⟩
              have HCS : Hid (Calls Try.prog 20 #[.slice A zf c, .slice A' zf c'] (w6.drewN d6) fun e w' => e = .returned (.bool true) ∧ JF w bx ob (2 + 70000 * (i : Int) + 70000) p g m (σ.takeF t ff).σ A A' c c' (σ.takeF t ff).fs w') := Lib.hid (by rw [HZF.out.1]; exact j_rsame (HJ6.out.below (pw_below_drewN (Below.refl _ _) d6)) (by have := (takeF_len HJk.out.ok (by have := HNN.out.2; omega) t ff HFF.out.1 HFF.out.2.1).1; omega))
              clear HJ6 HCB
              generalize w6.drewN d6 = W6 at *
              have hee : (er != er) = false := by simp
              go_wp2_with fail
              refine HCS.out.mono ?_
              rintro e w7 ⟨rfl, hjf⟩
              have HJ7 := Lib.hid hjf.1
              have HSM := Lib.hid (j_same hjf.1)
              clear hjf HCS
              go_wp2_with fail
              refine HSM.out.mono ?_
              rintro e w8 ⟨rfl, d8, rfl⟩
              have HJ8 := Lib.hid (HJ7.out.drewN d8)
              clear HSM HJ7
              have hi1 := HLT.out.1
              have hi2 := HLT.out.2
              go_wp2_with fail
              go_roundw
              case rel => exact ⟨i + 1, _, bx, _, by go_num, by omega, by omega, by rw [← HNN.out.1]; exact HJ8⟩
              case measure => simp [intOf]; omega
            | false =>
              cases e3 with
              | true =>
                obtain ⟨zf, hzf⟩ : ∃ z, z = (σ.tickF t).2.1.length := ⟨_, rfl⟩
                obtain ⟨er, her⟩ : ∃ z, z = (σ.tickF t).1 := ⟨_, rfl⟩
                have HZF := Lib.hid (And.intro hzf her)
                have HC : Hid (Calls Try.prog 16 #[.pointer (some ⟨g, 0, none⟩), .int .i64 t] W4 fun e w' => ∃ A c, e = .returned (.tuple #[.slice A zf c, .int .i64 er]) ∧ JH w bx ob p g m (σ.tickF t).2.2 σ A c (σ.tickF t).2.1 w') := Lib.hid (by rw [hzf, her]; exact j_tick HJ4.out t)
                clear hzf her HJ4 HBK4 HOLD4
                go_wp2_with fail
                refine HC.out.mono ?_
                rintro e w5 ⟨A, c, rfl, hjh⟩
                clear HC f0
                have HC2 : Hid (Calls Try.prog 24 #[.pointer (some ⟨p, 0, none⟩), .int .i64 t] w5 fun e w' => ∃ A' c', e = .returned (.tuple #[.slice A' zf c', .int .i64 er]) ∧ JF w bx ob (2 + 70000 * (i : Int) + 70000) p g m (σ.tickF t).2.2 A A' c c' (σ.tickF t).2.1 w') := Lib.hid (by rw [HZF.out.1, HZF.out.2]; exact j_rtick hjh HJk.out (HJk.out.tick HNN.out.2 t))
                clear hjh
                go_wp2_with fail
                refine HC2.out.mono ?_
                rintro e w6 ⟨A', c', rfl, hjf6⟩
                clear HC2
                have HCS : Hid (Calls Try.prog 20 #[.slice A zf c, .slice A' zf c'] w6 fun e w' => e = .returned (.bool true) ∧ JF w bx ob (2 + 70000 * (i : Int) + 70000) p g m (σ.tickF t).2.2 A A' c c' (σ.tickF t).2.1 w') := Lib.hid (by rw [HZF.out.1]; exact j_rsame hjf6 (by have := tickF_len HJk.out.ok t; omega))
                clear hjf6
                have hee : (er != er) = false := by simp
                go_wp2_with fail
                refine HCS.out.mono ?_
                rintro e w7 ⟨rfl, hjf⟩
                have HJ7 := Lib.hid hjf.1
                have HSM := Lib.hid (j_same hjf.1)
                clear hjf HCS
                go_wp2_with fail
                refine HSM.out.mono ?_
                rintro e w8 ⟨rfl, d8, rfl⟩
                have HJ8 := Lib.hid (HJ7.out.drewN d8)
                clear HSM HJ7
                have hi1 := HLT.out.1
                have hi2 := HLT.out.2
                go_wp2_with fail
                go_roundw
                case rel => exact ⟨i + 1, _, bx, _, by go_num, by omega, by omega, by rw [← HNN.out.1]; exact HJ8⟩
                case measure => simp [intOf]; omega
              | false =>
                have hi1 := HLT.out.1
                have hi2 := HLT.out.2
                go_wp2_with fail
                go_roundw
                case rel => exact ⟨i + 1, σ, bx, ob, by go_num, by omega, by omega, by rw [← HNN.out.1]; exact Lib.hid ⟨HJk.out.more (by omega) HNN.out.2, HJ4.out.2⟩⟩
                case measure => simp [intOf]; omega
    · have HBE : Hid (Below w.heap.size w wr) := HOLD
      by_cases hl : i < n1
      · have hl2 : ¬ i < 100 := by omega
        clear hlt
        go_wp2_with fail
        go_ret
        exact ⟨rfl, HBE.out⟩
      · clear hlt
        go_wp2_with fail
        go_ret
        exact ⟨rfl, HBE.out⟩
end Go.Proofs.Ytlnhjkbhhdcdeaa
namespace Go.Proofs.Ytlnhjkbhhdcdeaa
open Go Go.RowKit Go.Proofs.YtlnhjkbhhdcdeaaW.PrintWords Go.Proofs.YtlnhjkbhhdcdeaaW.PrintLast Go.Proofs.YtlnhjkbhhdcdeaaW.PrintMore
set_option linter.unusedVariables false
theorem conf_K {w : World} {x : Int × Int × Int} {cs : Array Value} (h : (Kd.pair (Kd.int .u32) (Kd.pair (Kd.int .i64) (Kd.int .i64))).K w x cs.toList) : cs = #[.int .u32 x.1, .int .i64 x.2.1, .int .i64 x.2.2] := by
  obtain ⟨a, b, e1, h1, c, d, e2, h2, h3⟩ := h
  have h1' : a = [.int .u32 x.1] := h1
  have h2' : c = [.int .i64 x.2.1] := h2
  have h3' : d = [.int .i64 x.2.2] := h3
  rw [← Array.toList_inj, e1, e2, h1', h2', h3']
  rfl
theorem law_runs (v0 : Value) (x : Int × Int × Int) (now : Int) (v1 : Value) (xs1 : List TOp) (w : World) (hK : ∃ cs : Array Value, v0 = .agg cs ∧ (Kd.pair (Kd.int .u32) (Kd.pair (Kd.int .i64) (Kd.int .i64))).K w x cs.toList)
    (hok : (Lit.int .u32 x.1).wf = true ∧ (Lit.int .i64 x.2.1).wf = true ∧ (Lit.int .i64 x.2.2).wf = true) (hnow : (Lit.int .i64 now).wf = true) (hV : Kd.V kop 47 w 0 (fun k => k < w.heap.size) v1 xs1) (hokl : (∀ o ∈ xs1, okO o) ∧ xs1.length * 96 ≤ 140737488351232) :
    Calls Try.prog 6 #[v0, .int .i64 now, v1] w fun e w' => e = .returned (.bool true) ∧ Below w.heap.size w w' := by
  obtain ⟨cs, rfl, hk⟩ := hK
  rw [conf_K hk]
  cases hb : badc x.1 x.2.1 x.2.2 with
  | true => exact runs_bad _ _ _ _ _ _ (.inl hb)
  | false =>
    cases ht : tok now with
    | false => exact runs_bad _ _ _ _ _ _ (.inr ⟨hb, ht⟩)
    | true =>
      have h0 := hok.1
      simp [Lit.wf, IntKind.min, IntKind.max, IntKind.signed, IntKind.bits] at h0
      exact runs_ok _ _ _ _ _ _ _ hb ht (by omega) (by omega) hV hokl.1
end Go.Proofs.Ytlnhjkbhhdcdeaa
