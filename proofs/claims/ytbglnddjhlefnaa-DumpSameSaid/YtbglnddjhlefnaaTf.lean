/- The walk of Cube. -/
import Derived.Test.YtbglnddjhlefnaaTe
import Derived.Test.YtbglnddjhlefnaaPd
namespace Go.Proofs.Ytbglnddjhlefnaa
open Go Go.RowKit Go.Proofs.YtbglnddjhlefnaaW.PrintWords Go.Proofs.YtbglnddjhlefnaaW.PrintLast Go.Proofs.YtbglnddjhlefnaaW.PrintMore
/-- What Cube tells, and what it leaves. -/
def cubeR (T : Bd) (s : List UInt8) : Nat × Nat × Bd :=
  if s.length ≠ T.bits then (0, 21, T) else
  match cubeG T.N s 0 with
  | (none, N1) => (0, 21, { T with N := N1 })
  | (some a, N1) => (a, 0, tellF { T with N := N1 } a)
/-- What a call of the table tells: a number, an error. -/
def TwP (g : Nat) (S : Nat → Prop) (r : Nat × Nat × Bd) (w : World) (e : Ending) (w' : World) : Prop :=
  e = .returned (.tuple #[.int .i64 r.1, .int .i64 r.2.1]) ∧ ∃ S', Tab g S' r.2.2 w' ∧ Gr S S' w w'
/-- Room for what is told. -/
def Room (T : Bd) (a : Nat) : Prop := T.used.length + (needL T a).length ≤ T.lim
section
variable {g eb : Nat} {S S' : Nat → Prop} {T : Bd} {w w0 w' : World}
theorem nil_refs (w : World) : Kd.V KI 26 w 0 (fun _ => False) (.slice none 0 0) [] := Kd.V_mk (Nat.le_refl _) (fun W' _ => Kd.C_nil _ W')
/-- The end of a call that fails by itself. -/
theorem fail_end {fn : Func} {a c : Tmp} (hr : fn.results = #[.tmp a, .cell c 30]) {tmps : Array Value} (k : Nat) (p5 : tmps.getD c undef = .pointer (some ⟨w.heap.size, 0, none⟩)) (p4 : tmps.getD a undef = .int .i64 0) (hw0 : w0 = w.alloc (.cells #[.int .i64 0] 30)) (hb : Eb w.heap.size 0 w') (hT : Tab g S' T w') (hG : Gr S S' w0 w') (hS : ∀ k, S k → k < w.heap.size) :
    Leaves Try.prog fn tmps (TwP g S (0, k, T) w) (DFc w.heap.size) (.panicking [{ v := .iface 30 (.int .i64 (k : Nat)), recovered := false }]) w' := by
  have hsz : w0.heap.size = w.heap.size + 1 := by rw [hw0]; exact World.size_alloc _ _
  have hne : ¬ S' w.heap.size := fun hs => by rcases hG.new _ hs with h | h; exact Nat.lt_irrefl _ (hS _ h); omega
  refine leave_err hr (k : Int) p5 hb p4 ⟨rfl, S', hT.step (by simp [World.setCell]) (fun i hi _ => Below.heap_setCell _ _ _ _ (fun e => hne ((show i = w.heap.size from e) ▸ hi))), hG.up, fun i hi => (hG.new i hi).imp id (fun h => by omega), ?_⟩
  have h1 : Chg S w w0 := by rw [hw0]; exact (Chg.refl S w).alloc _
  exact (h1.trans hG.chg (fun i hi => .inl hi)).set _ _ (.inr (Nat.le_refl _))
theorem ok_end {fn : Func} {a c : Tmp} (hr : fn.results = #[.tmp a, .cell c 30]) {tmps : Array Value} (x : Nat) (p5 : tmps.getD c undef = .pointer (some ⟨w.heap.size, 0, none⟩)) (p4 : tmps.getD a undef = .int .i64 x) (hw0 : w0 = w.alloc (.cells #[.int .i64 0] 30)) (hb : Eb w.heap.size 0 w') (hT : Tab g S' T w') (hG : Gr S S' w0 w') (hS : ∀ k, S k → k < w.heap.size) :
    Leaves Try.prog fn tmps (TwP g S (x, 0, T) w) (DFc w.heap.size) .returning (w'.setCell ⟨w.heap.size, 0, none⟩ (.int .i64 0)) := by
  have hsz : w0.heap.size = w.heap.size + 1 := by rw [hw0]; exact World.size_alloc _ _
  have hne : ¬ S' w.heap.size := fun hs => by rcases hG.new _ hs with h | h; exact Nat.lt_irrefl _ (hS _ h); omega
  have hb2 : Eb w.heap.size 0 (w'.setCell ⟨w.heap.size, 0, none⟩ (.int .i64 0)) := by
    have := blk_set hb 0 (.int .i64 0)
    simpa [Eb] using this
  refine leave_ok hr p5 hb2 p4 ⟨rfl, S', hT.step (by simp [World.setCell]) (fun i hi _ => Below.heap_setCell _ _ _ _ (fun e => hne ((show i = w.heap.size from e) ▸ hi))), hG.up, fun i hi => (hG.new i hi).imp id (fun h => by omega), ?_⟩
  have h1 : Chg S w w0 := by rw [hw0]; exact (Chg.refl S w).alloc _
  exact (h1.trans hG.chg (fun i hi => .inl hi)).set _ _ (.inr (Nat.le_refl _))
set_option maxRecDepth 100000 in
set_option maxHeartbeats 1000000 in
theorem cube_len (h : Tab g S T w) (s : ByteArray) (hl : s.data.toList.length ≠ T.bits) :
    Calls Try.prog 16 #[.pointer (some ⟨g, 0, none⟩), .string s] w (TwP g S (0, 21, T) w) := by
  have hsl := h.lt
  obtain ⟨w0, hw0⟩ : ∃ w0, w0 = w.alloc (.cells #[.int .i64 0] 30) := ⟨_, rfl⟩
  have hb0 : Below w.heap.size w w0 := by rw [hw0]; exact below_alloc (Below.refl _ _) _
  have h0 := h.below hb0
  have he : Eb w.heap.size 0 w0 := by rw [hw0]; exact Eb.made 0 w
  have HC := Lib.hid (ask_yes (xs := []) h0 (nil_refs w0) (by simp) rfl)
  have HA := Lib.hid (fun w1 (hb : Below w0.heap.size w0 w1) => (h0.below hb))
  have HE := Lib.hid (fun w1 (hb : Below w0.heap.size w0 w1) => he.below hb)
  have t1 : ((s.size : Int) != (T.bits : Int)) = true := by
    have : s.size ≠ T.bits := hl
    simp
    omega
  obtain ⟨n, hn⟩ : ∃ n, n = T.bits := ⟨_, rfl⟩
  rw [← hn] at t1
  have HN := Lib.hid hn
  have HW0 := Lib.hid hw0
  have HSL := Lib.hid hsl
  clear h hb0 h0 he hsl hl hw0 hn
  go_enter_defers Try.func16, Try.ntmps16
  go_wp2_with fail
  rw [← HW0.out]
  refine HC.out.mono ?_
  rintro e w1 ⟨rfl, hb⟩
  have ht := HA.out w1 hb
  have heb := HE.out w1 hb
  have hgr : Gr S S w0 w1 := Gr.of_below hb S
  obtain ⟨rb, ub, kb, v, hA⟩ := id ht
  have d2 := blk_cell hA.box 2 (.int .i64 T.bits) rfl
  rw [← HN.out] at d2
  have HT := Lib.hid ht
  have HEB := Lib.hid heb
  have HGR := Lib.hid hgr
  clear hA ht heb hgr hb HC HA HE
  go_wp2_with fail
  exact fail_end rfl 21 rfl rfl HW0.out HEB.out HT.out HGR.out HSL.out
theorem byte_at {s : ByteArray} {k : Nat} (hk : k < s.data.toList.length) : ∃ h : k < s.size, s[k] = s.data.toList[k] := by
  have h3 : k < s.size := by
    have : k < s.data.size := by simpa using hk
    exact this
  exact ⟨h3, rfl⟩
theorem cubeG_bad (N : List Nd) : ∀ (s : List UInt8) (j i : Nat) (N1 : List Nd), cubeG N (s.drop j) (i + j) = (none, N1) → cubeG N s i = (none, N1) := by
  intro s
  induction s with
  | nil => intro j i N1 h; rw [List.drop_nil] at h; cases h
  | cons c s ih =>
    intro j i N1 h
    cases j with
    | zero => exact h
    | succ j =>
      have := ih j (i + 1) N1 (by rw [List.drop_succ_cons] at h; rw [← h]; congr 1; omega)
      rw [cubeG, this]
/-- The loop over a cube's letters, under way. -/
def CbR (g eb : Nat) (S : Nat → Prop) (T : Bd) (s : List UInt8) (k a : Nat) (w0 wr : World) : Prop :=
  ∃ N1 S', cubeG T.N (s.drop k) k = (some a, N1) ∧ Tab g S' { T with N := N1 } wr ∧ Gr S S' w0 wr ∧ Eb eb 0 wr
theorem CbR.kept {s : List UInt8} {k a : Nat} (h : CbR g eb S T s k a w0 w) (he : ∀ S', Gr S S' w0 w → ¬ S' eb) : ∃ N1 S', cubeG T.N (s.drop k) k = (some a, N1) ∧ Tab g S' { T with N := N1 } w ∧ Gr S S' w0 w ∧ Eb eb 0 w ∧ ¬ S' eb := by
  obtain ⟨N1, S', h1, h2, h3, h4⟩ := h
  exact ⟨N1, S', h1, h2, h3, h4, he S' h3⟩
set_option maxRecDepth 100000 in
set_option maxHeartbeats 2000000 in
theorem cube_w (h : Tab g S T w) (hw : WF T.bits T.N) (s : ByteArray) (hl : s.data.toList.length = T.bits) (hbits : T.bits ≤ 128) (hN : T.N.length ≤ 2000000000) (hlim : T.lim ≤ 4000000000) (hu : T.used.Nodup)
    (hroom : ∀ a N1, cubeG T.N s.data.toList 0 = (some a, N1) → Room { T with N := N1 } a) :
    Calls Try.prog 16 #[.pointer (some ⟨g, 0, none⟩), .string s] w (TwP g S (cubeR T s.data.toList) w) := by
  have hsl := h.lt
  obtain ⟨w0, hw0⟩ : ∃ w0, w0 = w.alloc (.cells #[.int .i64 0] 30) := ⟨_, rfl⟩
  have hb0 : Below w.heap.size w w0 := by rw [hw0]; exact below_alloc (Below.refl _ _) _
  have h0 := h.below hb0
  have he : Eb w.heap.size 0 w0 := by rw [hw0]; exact Eb.made 0 w
  have hsz : w0.heap.size = w.heap.size + 1 := by rw [hw0]; exact World.size_alloc _ _
  have HC := Lib.hid (ask_yes (xs := []) h0 (nil_refs w0) (by simp) rfl)
  have HA := Lib.hid (fun w1 (hb : Below w0.heap.size w0 w1) => (h0.below hb))
  have HE := Lib.hid (fun w1 (hb : Below w0.heap.size w0 w1) => he.below hb)
  have HNE : Hid (∀ S' w1, Gr S S' w0 w1 → ¬ S' w.heap.size) := Lib.hid (fun S' w1 hG hs => by rcases hG.new _ hs with h | h; exact Nat.lt_irrefl _ (hsl _ h); omega)
  have t1 : ((s.size : Int) != (T.bits : Int)) = false := by
    have : s.size = T.bits := hl
    simp
    omega
  have hsz2 : s.size ≤ 128 := by have : s.size = T.bits := hl
                                 omega
  have hlen : s.data.toList.length = s.size := rfl
  obtain ⟨n, hn⟩ : ∃ n, n = T.bits := ⟨_, rfl⟩
  rw [← hn] at t1
  have HN := Lib.hid hn
  have HW0 := Lib.hid hw0
  have HSL := Lib.hid hsl
  have HLEN := Lib.hid hlen
  have HLB := Lib.hid hl
  have HROOM := Lib.hid hroom
  have HWF := Lib.hid hw
  have HNL := Lib.hid hN
  have HLIM := Lib.hid hlim
  have HU := Lib.hid hu
  have HCR : Hid (cubeR T s.data.toList = match cubeG T.N s.data.toList 0 with | (none, N1) => (0, 21, { T with N := N1 }) | (some a, N1) => (a, 0, tellF { T with N := N1 } a)) := Lib.hid (by unfold cubeR; rw [if_neg (by simpa using hl)])
  clear h hb0 h0 he hsl hl hbits hw0 hn hw hN hlim hu hroom hsz hlen
  go_enter_defers Try.func16, Try.ntmps16
  go_wp2_with fail
  rw [← HW0.out]
  refine HC.out.mono ?_
  rintro e w1 ⟨rfl, hb⟩
  have ht := HA.out w1 hb
  have heb := HE.out w1 hb
  have hgr : Gr S S w0 w1 := Gr.of_below hb S
  obtain ⟨rb, ub, kb, v, hA⟩ := id ht
  have d2 := blk_cell hA.box 2 (.int .i64 T.bits) rfl
  rw [← HN.out] at d2
  have HST : Hid (CbR g w.heap.size S T s.data.toList s.size 1 w0 w1) := Lib.hid ⟨T.N, S, by rw [List.drop_of_length_le (by rw [HLEN.out]; exact Nat.le_refl _)]; rfl, ht, hgr, heb⟩
  clear hA ht heb hgr hb HC HA HE
  go_wp2_with fail
  clear d2
  go_loopw [6, 7] (fun v6 v7 wr => ∃ k a : Nat, k ≤ s.size ∧ v7 = .int .i64 ((k : Int) - 1) ∧ v6 = .int .i64 a ∧ Hid (CbR g w.heap.size S T s.data.toList k a w0 wr)) (fun _ v7 _ => (intOf v7 + 1).toNat)
  case atStart => exact ⟨s.size, 1, Nat.le_refl _, rfl, rfl, HST⟩
  case round =>
    obtain ⟨k, a, hk, rfl, rfl, hrel⟩ := hrel
    obtain ⟨N1, S', g1, g2, g3, g4, g5⟩ := hrel.out.kept (fun S' hG => HNE.out S' _ hG)
    rcases Nat.eq_zero_or_pos k with hk0 | hk0
    · subst hk0
      rw [List.drop_zero] at g1
      have OK := cubeG_ok HWF.out s.data.toList 0 (by rw [HLB.out]; omega)
      rw [g1] at OK
      obtain ⟨v1, v2, v3⟩ := OK.val a rfl
      have hlen1 : N1.length ≤ 4000000000 := by
        have h1 : N1.length ≤ T.N.length + s.data.toList.length := OK.new
        have h2 := HNL.out
        rw [HLEN.out] at h1
        omega
      have HTELL := Lib.hid (tell_w g2 OK.wf hlen1 HLIM.out a v1 HU.out (HROOM.out a N1 g1))
      have hcr : cubeR T s.data.toList = (a, 0, tellF { T with N := N1 } a) := by rw [HCR.out, g1]
      have HR := Lib.hid hcr
      have G3 := Lib.hid g3
      have G4 := Lib.hid g4
      have G5 := Lib.hid g5
      clear g1 g2 g3 g4 g5 OK v1 v2 v3 hlen1 hrel hcr HCR HROOM
      go_wp2_with fail
      refine HTELL.out.mono ?_
      rintro e w2 ⟨rfl, S2, q1, q2⟩
      have hne2 : ¬ S2 w.heap.size := HNE.out S2 _ (G3.out.trans q2)
      have heb2 : Eb w.heap.size 0 w2 := (q2.chg.block _ (blk_lt' G4.out) G5.out).trans G4.out
      have f0 := blk_free heb2 0
      have c0 := blk_cell heb2 0 (.int .i64 0) rfl
      have Q1 := Lib.hid q1
      have Q2 := Lib.hid (G3.out.trans q2)
      have EB := Lib.hid heb2
      clear q1 q2 hne2 heb2 HTELL
      go_wp2_with fail
      rw [HR.out]
      exact ok_end rfl a rfl rfl HW0.out EB.out Q1.out Q2.out HSL.out
    · obtain ⟨j, rfl⟩ : ∃ j, k = j + 1 := ⟨k - 1, by omega⟩
      rw [show ((j + 1 : Nat) : Int) - 1 = (j : Int) by omega]
      obtain ⟨hj, hsj⟩ := byte_at (s := s) (k := j) (by rw [HLEN.out]; omega)
      have hstep : cubeG T.N (s.data.toList.drop j) j = (if s[j] = 48 then (some (mkN N1 j a 0).1, (mkN N1 j a 0).2) else if s[j] = 49 then (some (mkN N1 j 0 a).1, (mkN N1 j 0 a).2) else if s[j] = 120 then (some a, N1) else (none, N1)) := by
        rw [List.drop_eq_getElem_cons (by rw [HLEN.out]; exact hj), cubeG, g1, hsj]
      have OK := cubeG_ok HWF.out (s.data.toList.drop (j + 1)) (j + 1) (by rw [List.length_drop, HLB.out]; have : s.size = T.bits := HLB.out; omega)
      rw [g1] at OK
      have hlen1 : N1.length ≤ 4000000000 := by
        have h1 : N1.length ≤ T.N.length + (s.data.toList.drop (j + 1)).length := OK.new
        have h2 := HNL.out
        rw [List.length_drop, HLEN.out] at h1
        omega
      have HMA : Hid (Calls Try.prog 45 #[.pointer (some ⟨g, 0, none⟩), .int .i64 j, .int .i64 a, .int .i64 0] wr fun e w' => ∃ S2, e = .returned (.int .i64 (mkN N1 j a 0).1) ∧ Tab g S2 { T with N := (mkN N1 j a 0).2 } w' ∧ Gr S' S2 wr w') := Lib.hid (make_w g2 j a 0 hlen1 _ rfl)
      have HMB : Hid (Calls Try.prog 45 #[.pointer (some ⟨g, 0, none⟩), .int .i64 j, .int .i64 0, .int .i64 a] wr fun e w' => ∃ S2, e = .returned (.int .i64 (mkN N1 j 0 a).1) ∧ Tab g S2 { T with N := (mkN N1 j 0 a).2 } w' ∧ Gr S' S2 wr w') := Lib.hid (make_w g2 j 0 a hlen1 _ rfl)
      have HSTEP := Lib.hid hstep
      have G2 := Lib.hid g2
      have G3 := Lib.hid g3
      have G4 := Lib.hid g4
      have G5 := Lib.hid g5
      have hj0 : (0 : Int) ≤ (j : Int) := by omega
      have hj1 : (j : Int) < (s.size : Int) := by omega
      clear g1 g2 g3 g4 g5 OK hlen1 hrel hstep hsj
      obtain ⟨ch, hch⟩ : ∃ ch, ch = s[j] := ⟨_, rfl⟩
      by_cases c0 : ch = 48
      · have u0 : ((ch.toNat : Int) == 48) = true := by rw [c0]; rfl
        have HG : Hid ((if s[j] = 48 then (some (mkN N1 j a 0).1, (mkN N1 j a 0).2) else if s[j] = 49 then (some (mkN N1 j 0 a).1, (mkN N1 j 0 a).2) else if s[j] = 120 then (some a, N1) else (none, N1)) = (some (mkN N1 j a 0).1, (mkN N1 j a 0).2)) := Lib.hid (by rw [← hch, if_pos c0])
        rw [hch] at u0
        clear c0 hch
        go_wp2_with fail
        refine HMA.out.mono ?_
        rintro e w2 ⟨S2, rfl, q1, q2⟩
        have heb2 : Eb w.heap.size 0 w2 := (q2.chg.block _ (blk_lt' G4.out) G5.out).trans G4.out
        have HR2 : Hid (CbR g w.heap.size S T s.data.toList j (mkN N1 j a 0).1 w0 w2) := Lib.hid ⟨_, S2, by rw [HSTEP.out]; exact HG.out, q1, G3.out.trans q2, heb2⟩
        clear q1 q2 heb2
        go_wp2_with fail
        go_roundw
        case rel => exact ⟨j, _, by omega, rfl, rfl, HR2⟩
        case measure => simp [intOf]
      have u0 : ((ch.toNat : Int) == 48) = false := by
        simp
        intro e
        exact c0 (UInt8.toNat_inj.1 (by simpa using Int.ofNat_inj.1 e))
      by_cases c1 : ch = 49
      · have u1 : ((ch.toNat : Int) == 49) = true := by rw [c1]; rfl
        have HG : Hid ((if s[j] = 48 then (some (mkN N1 j a 0).1, (mkN N1 j a 0).2) else if s[j] = 49 then (some (mkN N1 j 0 a).1, (mkN N1 j 0 a).2) else if s[j] = 120 then (some a, N1) else (none, N1)) = (some (mkN N1 j 0 a).1, (mkN N1 j 0 a).2)) := Lib.hid (by rw [← hch, if_neg c0, if_pos c1])
        rw [hch] at u0 u1
        clear c0 c1 hch
        go_wp2_with fail
        refine HMB.out.mono ?_
        rintro e w2 ⟨S2, rfl, q1, q2⟩
        have heb2 : Eb w.heap.size 0 w2 := (q2.chg.block _ (blk_lt' G4.out) G5.out).trans G4.out
        have HR2 : Hid (CbR g w.heap.size S T s.data.toList j (mkN N1 j 0 a).1 w0 w2) := Lib.hid ⟨_, S2, by rw [HSTEP.out]; exact HG.out, q1, G3.out.trans q2, heb2⟩
        clear q1 q2 heb2
        go_wp2_with fail
        go_roundw
        case rel => exact ⟨j, _, by omega, rfl, rfl, HR2⟩
        case measure => simp [intOf]
      have u1 : ((ch.toNat : Int) == 49) = false := by
        simp
        intro e
        exact c1 (UInt8.toNat_inj.1 (by simpa using Int.ofNat_inj.1 e))
      by_cases c2 : ch = 120
      · have u2 : ((ch.toNat : Int) == 120) = true := by rw [c2]; rfl
        have HR2 : Hid (CbR g w.heap.size S T s.data.toList j a w0 wr) := Lib.hid ⟨N1, S', by rw [HSTEP.out, ← hch, if_neg c0, if_neg c1, if_pos c2], G2.out, G3.out, G4.out⟩
        rw [hch] at u0 u1 u2
        clear c0 c1 c2 hch
        go_wp2_with fail
        go_roundw
        case rel => exact ⟨j, _, by omega, rfl, rfl, HR2⟩
        case measure => simp [intOf]
      · have u2 : ((ch.toNat : Int) == 120) = false := by
          simp
          intro e
          exact c2 (UInt8.toNat_inj.1 (by simpa using Int.ofNat_inj.1 e))
        have hbad : cubeG T.N (s.data.toList.drop j) j = (none, N1) := by rw [HSTEP.out, ← hch, if_neg c0, if_neg c1, if_neg c2]
        have HCR2 : Hid (cubeR T s.data.toList = (0, 21, { T with N := N1 })) := by
          rw [HCR.out, cubeG_bad T.N s.data.toList j 0 N1 (by simpa using hbad)]
          exact Lib.hid rfl
        rw [hch] at u0 u1 u2
        clear c0 c1 c2 hch hbad
        go_wp2_with fail
        rw [HCR2.out]
        exact fail_end rfl 21 rfl rfl HW0.out G4.out G2.out G3.out HSL.out
end
end Go.Proofs.Ytbglnddjhlefnaa
