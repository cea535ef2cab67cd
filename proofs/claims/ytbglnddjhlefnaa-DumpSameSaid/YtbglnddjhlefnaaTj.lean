/- The walk of ite, the step and the whole. -/
import Derived.Test.YtbglnddjhlefnaaTi
namespace Go.Proofs.Ytbglnddjhlefnaa
open Go Go.RowKit Go.Proofs.YtbglnddjhlefnaaW.PrintWords Go.Proofs.YtbglnddjhlefnaaW.PrintLast Go.Proofs.YtbglnddjhlefnaaW.PrintMore
theorem min3 (P : Program) (ts : Array TypeId) (t : TypeId) (x y z : Int) (W : World) : (Builtin.min_ ts t #[.int .i64 x, .int .i64 y, .int .i64 z]).run P W = .ok (.int .i64 (mn (mn x y) z)) W := by
  simp [Builtin.min_, min2_mn]
/-- A call of a function that only reads the table. -/
def RdP (g fn : Nat) (args : Nat → Array Value) (res : Nat → Int) (N : List Nd) (W0 : World) : Prop :=
  ∀ d, Val N d → ∀ W, Below W0.heap.size W0 W → Calls Try.prog fn (args d) W fun e w' => e = .returned (.int .i64 (res d)) ∧ Below W0.heap.size W0 w'
section
variable {g db : Nat} {S : Nat → Prop} {T : Bd} {D : Dn} {w : World}
theorem rd_bit (h : Tab g S T w) (hl : T.N.length ≤ 4000000000) : RdP g 39 (fun d => #[.pointer (some ⟨g, 0, none⟩), .int .i64 d]) (fun d => (bitOf T.bits T.N d : Nat)) T.N w :=
  fun d hd W hW => (bit_w (h.below hW) d hd hl).mono (fun _ _ ⟨he, hb⟩ => ⟨he, below_trans' hW hb hW.size⟩)
theorem rd_half (h : Tab g S T w) (hl : T.N.length ≤ 4000000000) (bit : Nat) (hb : bit < T.bits) (x : Bool) : RdP g 38 (fun d => #[.pointer (some ⟨g, 0, none⟩), .int .i64 d, .int .i64 bit, .bool x]) (fun d => (halfOf T.bits T.N d bit x : Nat)) T.N w :=
  fun d hd W hW => (half_w (h.below hW) d bit hd hl hb x).mono (fun _ _ ⟨he, hb⟩ => ⟨he, below_trans' hW hb hW.size⟩)
/-- make, and what was made kept. -/
theorem make_keep (h : Tab g S T w) (hD : MapG w db encN (dl D)) (hn : ¬ S db) (hl : T.N.length ≤ 4000000000) (b lo hi : Nat) (k : Nd) (r : Nat × List Nd) (hr : r = mkN T.N b lo hi) :
    ∀ d, Calls Try.prog 45 #[.pointer (some ⟨g, 0, none⟩), .int .i64 b, .int .i64 lo, .int .i64 hi] (w.drewN d) fun e w' => ∃ S' W3, e = .returned (.int .i64 r.1) ∧ Chg (fun i => S i ∨ i = db) w w' ∧ (Instr.mapUpdate 123 (.map (some db)) (encN k) (.int .i64 r.1)).run Try.prog w' = .ok () W3 ∧
      Chg (fun i => S i ∨ i = db) w W3 ∧ Tab g S' { T with N := r.2 } W3 ∧ MapG W3 db encN (dl (putG D k r.1)) ∧ ItD S S' db w W3 := by
  intro d
  refine (make_w (h.drewN d) b lo hi hl r hr).mono ?_
  rintro e w' ⟨S', rfl, ht, hg⟩
  have hdl : db < w.heap.size := hD.lt
  have hD' : MapG w' db encN (dl D) := hD.step (hg.chg.block db hdl hn)
  obtain ⟨o, ho⟩ := hD'.put K137 Try.underlying123 k (.int .i64 r.1)
  have hnd : ¬ S' db := fun hs => (hg.new db hs).elim hn (fun h2 => by have : (w.drewN d).heap.size = w.heap.size := rfl
                                                                       omega)
  have hc1 : Chg (fun i => S i ∨ i = db) w w' := ⟨hg.chg.os, hg.chg.tape, hg.chg.output, hg.chg.size, fun k hk hs => hg.chg.block k hk (fun h => hs (.inl h))⟩
  have hc2 : Chg (fun i => S i ∨ i = db) w (w'.putObj db o) := hc1.trans (chg_putObj w' db o) (fun i hi => .inl (.inr hi))
  refine ⟨S', _, rfl, hc1, (ho 0).1, hc2, ?_, ?_, hg.up, hg.new, hnd, hc2⟩
  · refine ht.step (by rw [putObj_size]; exact Nat.le_refl _) (fun i hi _ => putObj_far _ _ _ _ (fun he => hnd (he ▸ hi)))
  · rw [← dl_put]
    exact (ho 0).2
end
/-- The key's box. -/
def Bx (g1 a b c : Nat) (w : World) : Prop := w.heap[g1]? = some (.cells #[.int .i64 a, .int .i64 b, .int .i64 c] 137 (0, 0))
theorem Bx.cells {g1 a b c : Nat} {w : World} (h : Bx g1 a b c w) : w.cell? ⟨g1, 0, none⟩ = some (.int .i64 a) ∧ w.cell? ⟨g1, 1, none⟩ = some (.int .i64 b) ∧ w.cell? ⟨g1, 2, none⟩ = some (.int .i64 c) :=
  ⟨blk_cell h 0 _ rfl, blk_cell h 1 _ rfl, blk_cell h 2 _ rfl⟩
set_option maxRecDepth 100000 in
set_option maxHeartbeats 4000000 in
/-- The walk where nothing was reckoned yet: what the calls do is handed in. -/
theorem ite_go (g db g1 a b c bit pa pb pc xa xb xc ya yb yc x1 y1 m1 : Nat) (w W0 : World) (hW0 : W0 = w.alloc (.cells #[.int .i64 a, .int .i64 b, .int .i64 c] 137)) (hg1 : g1 = w.heap.size)
    (P1 P2 P3 : World → Prop) (t1 : ((a : Int) == 1) = false) (t2 : ((b : Int) == (c : Int)) = false) (t3 : ((a : Int) == 0) = false) (t4 : ((b : Int) == 1) = false ∨ ((b : Int) == 1) = true ∧ ((c : Int) == 0) = false)
    (hk : (Instr.lookup 123 (.map (some db)) (.agg #[.int .i64 a, .int .i64 b, .int .i64 c]) true).run Try.prog W0 = .ok (.tuple #[.int .i64 0, .bool false]) W0)
    (hmin : mn (mn (pa : Int) pb) pc = bit)
    (ca : ∀ W, Below W0.heap.size W0 W → Calls Try.prog 39 #[.pointer (some ⟨g, 0, none⟩), .int .i64 a] W fun e w' => e = .returned (.int .i64 pa) ∧ Below W0.heap.size W0 w')
    (cb : ∀ W, Below W0.heap.size W0 W → Calls Try.prog 39 #[.pointer (some ⟨g, 0, none⟩), .int .i64 b] W fun e w' => e = .returned (.int .i64 pb) ∧ Below W0.heap.size W0 w')
    (cc : ∀ W, Below W0.heap.size W0 W → Calls Try.prog 39 #[.pointer (some ⟨g, 0, none⟩), .int .i64 c] W fun e w' => e = .returned (.int .i64 pc) ∧ Below W0.heap.size W0 w')
    (da : ∀ W, Below W0.heap.size W0 W → Calls Try.prog 38 #[.pointer (some ⟨g, 0, none⟩), .int .i64 a, .int .i64 bit, .bool false] W fun e w' => e = .returned (.int .i64 xa) ∧ Below W0.heap.size W0 w')
    (db_ : ∀ W, Below W0.heap.size W0 W → Calls Try.prog 38 #[.pointer (some ⟨g, 0, none⟩), .int .i64 b, .int .i64 bit, .bool false] W fun e w' => e = .returned (.int .i64 xb) ∧ Below W0.heap.size W0 w')
    (dc : ∀ W, Below W0.heap.size W0 W → Calls Try.prog 38 #[.pointer (some ⟨g, 0, none⟩), .int .i64 c, .int .i64 bit, .bool false] W fun e w' => e = .returned (.int .i64 xc) ∧ Below W0.heap.size W0 w')
    (hx : ∀ W, Below W0.heap.size W0 W → Calls Try.prog 60 #[.pointer (some ⟨g, 0, none⟩), .int .i64 xa, .int .i64 xb, .int .i64 xc, .map (some db)] W fun e w' => e = .returned (.int .i64 x1) ∧ P1 w')
    (ea : ∀ W1, P1 W1 → ∀ W, Below W1.heap.size W1 W → Calls Try.prog 38 #[.pointer (some ⟨g, 0, none⟩), .int .i64 a, .int .i64 bit, .bool true] W fun e w' => e = .returned (.int .i64 ya) ∧ Below W1.heap.size W1 w')
    (eb : ∀ W1, P1 W1 → ∀ W, Below W1.heap.size W1 W → Calls Try.prog 38 #[.pointer (some ⟨g, 0, none⟩), .int .i64 b, .int .i64 bit, .bool true] W fun e w' => e = .returned (.int .i64 yb) ∧ Below W1.heap.size W1 w')
    (ec : ∀ W1, P1 W1 → ∀ W, Below W1.heap.size W1 W → Calls Try.prog 38 #[.pointer (some ⟨g, 0, none⟩), .int .i64 c, .int .i64 bit, .bool true] W fun e w' => e = .returned (.int .i64 yc) ∧ Below W1.heap.size W1 w')
    (hy : ∀ W1, P1 W1 → ∀ W, Below W1.heap.size W1 W → Calls Try.prog 60 #[.pointer (some ⟨g, 0, none⟩), .int .i64 ya, .int .i64 yb, .int .i64 yc, .map (some db)] W fun e w' => e = .returned (.int .i64 y1) ∧ P2 w')
    (b2 : ∀ W, P2 W → Bx g1 a b c W)
    (hm : ∀ W2, P2 W2 → ∀ d, Calls Try.prog 45 #[.pointer (some ⟨g, 0, none⟩), .int .i64 bit, .int .i64 x1, .int .i64 y1] (W2.drewN d) fun e w' => ∃ W3, e = .returned (.int .i64 m1) ∧ Bx g1 a b c w' ∧ (Instr.mapUpdate 123 (.map (some db)) (encN (a, b, c)) (.int .i64 m1)).run Try.prog w' = .ok () W3 ∧ Bx g1 a b c W3 ∧ P3 W3)
    (hr : ∀ W, P3 W → (Instr.lookup 123 (.map (some db)) (.agg #[.int .i64 a, .int .i64 b, .int .i64 c]) false).run Try.prog W = .ok (.int .i64 m1) W) :
    Calls Try.prog 60 #[.pointer (some ⟨g, 0, none⟩), .int .i64 a, .int .i64 b, .int .i64 c, .map (some db)] w fun e w' => e = .returned (.int .i64 m1) ∧ P3 w' := by
  have HMIN := Lib.hid hmin
  have CA := Lib.hid ca
  have CB := Lib.hid cb
  have CC := Lib.hid cc
  have DA := Lib.hid da
  have DB := Lib.hid db_
  have DC := Lib.hid dc
  have HX := Lib.hid hx
  have EA := Lib.hid ea
  have EB := Lib.hid eb
  have EC := Lib.hid ec
  have HY := Lib.hid hy
  have B2 := Lib.hid b2
  have HM := Lib.hid hm
  have HR := Lib.hid hr
  have HG1 := Lib.hid hg1
  have HW0 := Lib.hid hW0
  have HK := Lib.hid hk
  clear hmin ca cb cc da db_ dc hx ea eb ec hy b2 hm hr hg1 hW0 hk
  rcases t4 with t4 | ⟨t4, t5⟩
  all_goals
    go_enter Try.func60, Try.ntmps60
    go_wp2_with fail
    rw [← HW0.out, HK.out, ← HG1.out]
    have hmin3 := min3 Try.prog #[3, 3, 3] 3 pa pb pc
    rw [HMIN.out] at hmin3
    go_wp2_with fail
    refine (CA.out _ (Below.refl _ _)).mono ?_
    rintro e w1 ⟨rfl, q1⟩
    have Q1 := Lib.hid q1
    clear q1
    go_wp2_with fail
    refine (CB.out _ Q1.out).mono ?_
    rintro e w2 ⟨rfl, q2⟩
    have Q2 := Lib.hid q2
    clear q2
    go_wp2_with fail
    refine (CC.out _ Q2.out).mono ?_
    rintro e w3 ⟨rfl, q3⟩
    have Q3 := Lib.hid q3
    clear q3
    go_wp2_with fail
    clear hmin3
    refine (DA.out _ Q3.out).mono ?_
    rintro e w4 ⟨rfl, q4⟩
    have Q4 := Lib.hid q4
    clear q4
    go_wp2_with fail
    refine (DB.out _ Q4.out).mono ?_
    rintro e w5 ⟨rfl, q5⟩
    have Q5 := Lib.hid q5
    clear q5
    go_wp2_with fail
    refine (DC.out _ Q5.out).mono ?_
    rintro e w6 ⟨rfl, q6⟩
    have Q6 := Lib.hid q6
    clear q6
    go_wp2_with fail
    refine (HX.out _ Q6.out).mono ?_
    rintro e W1 ⟨rfl, p1⟩
    have PP1 := Lib.hid p1
    clear p1
    go_wp2_with fail
    refine (EA.out _ PP1.out _ (Below.refl _ _)).mono ?_
    rintro e w7 ⟨rfl, q7⟩
    have Q7 := Lib.hid q7
    clear q7
    go_wp2_with fail
    refine (EB.out _ PP1.out _ Q7.out).mono ?_
    rintro e w8 ⟨rfl, q8⟩
    have Q8 := Lib.hid q8
    clear q8
    go_wp2_with fail
    refine (EC.out _ PP1.out _ Q8.out).mono ?_
    rintro e w9 ⟨rfl, q9⟩
    have Q9 := Lib.hid q9
    clear q9
    go_wp2_with fail
    refine (HY.out _ PP1.out _ Q9.out).mono ?_
    rintro e W2 ⟨rfl, p2⟩
    have hbx2 : Bx g1 a b c W2 := B2.out _ p2
    have hcell := fun d => Bx.cells (show Bx g1 a b c (W2.drewN d) from hbx2)
    have HCALL := Lib.hid (HM.out _ p2)
    have qa := Lib.hid (hcell 0)
    have qb := Lib.hid (hcell 1)
    have HALL := Lib.hid hcell
    clear p2 hcell hbx2 Q1 Q2 Q3 Q4 Q5 Q6 Q7 Q8 Q9 PP1 CA CB CC DA DB DC HX EA EB EC HY HM B2 HK HW0 HMIN
    go_upto_region 14 with fail
    go_region_held3 (fun W => W.cell? ⟨g1, 0, none⟩ = some (.int .i64 a) ∧ W.cell? ⟨g1, 1, none⟩ = some (.int .i64 b) ∧ W.cell? ⟨g1, 2, none⟩ = some (.int .i64 c))
      (first | with_reducible exact qa.out | with_reducible exact qb.out | exact HALL.out _)
      (first | (go_simp; go_at_call 45; refine (HCALL.out _).mono ?_; rintro e w2 ⟨W3, rfl, bx2, hup, bx3, p3⟩; have qa := Lib.hid bx2.cells; have qb := Lib.hid bx3.cells; have PP3 := Lib.hid p3; clear bx2 p3))
    all_goals
      obtain ⟨y0, y1, y2⟩ := bx3.cells
      clear qa qb HALL HCALL hup bx3
      go_wp2_with fail
      rw [HR.out _ PP3.out]
      go_wp2_with fail
      go_ret
      exact ⟨rfl, PP3.out⟩
set_option maxRecDepth 100000 in
set_option maxHeartbeats 4000000 in
theorem ite_w {g db : Nat} : ∀ (f a b c : Nat) (S : Nat → Prop) (T : Bd) (D : Dn) (w : World), Tab g S T w → MapG w db encN (dl D) → ¬ S db → WF T.bits T.N → DOk T.bits T.N D → Val T.N a → Val T.N b → Val T.N c → T.bits < f + lowBit T.bits T.N a b c →
    ∀ r, r = iteF true T.bits f a b c T.N D → r.2.1.length ≤ 4000000000 → Calls Try.prog 60 #[.pointer (some ⟨g, 0, none⟩), .int .i64 a, .int .i64 b, .int .i64 c, .map (some db)] w (ItP g db S T r w) := by
  intro f
  induction f with
  | zero =>
    intro a b c S T D w _ _ _ hw _ ha _ _ hf
    have := hw.bit_le ha
    have := (lowBit_le (bits := T.bits) (N := T.N) (a := a) (b := b) (c := c)).1
    omega
  | succ f ih =>
    intro a b c S T D w h hD hn hw hok ha hb hc hf r hr hlen
    have OK := iteF_ok true (f + 1) a b c T.N D hw hok ha hb hc hf
    rw [← hr] at OK
    have hl0 : T.N.length ≤ 4000000000 := Nat.le_trans OK.pre.length_le hlen
    rw [iteF] at hr
    by_cases h1 : a = 1 ∨ b = c
    · rw [if_pos h1] at hr
      subst hr
      by_cases h2 : a = 1
      · subst h2
        refine (ite_one b c).mono ?_
        rintro e w' ⟨rfl, rfl⟩
        exact ItP.now h hD hn (Below.refl _ _) b
      · obtain rfl : b = c := h1.elim (fun e => absurd e h2) id
        refine (ite_eq a b h2).mono ?_
        rintro e w' ⟨rfl, rfl⟩
        exact ItP.now h hD hn (Below.refl _ _) b
    rw [if_neg h1] at hr
    by_cases h2 : a = 0
    · rw [if_pos h2] at hr
      subst hr h2
      refine (ite_zero b c (fun e => h1 (.inr e))).mono ?_
      rintro e w' ⟨rfl, rfl⟩
      exact ItP.now h hD hn (Below.refl _ _) c
    rw [if_neg h2] at hr
    by_cases h3 : True ∧ b = 1 ∧ c = 0
    · rw [if_pos (by simpa using h3)] at hr
      obtain ⟨_, rfl, rfl⟩ := h3
      subst hr
      refine (ite_self a (fun e => h1 (.inl e)) h2).mono ?_
      rintro e w' ⟨rfl, rfl⟩
      exact ItP.now h hD hn (Below.refl _ _) a
    rw [if_neg (by simpa using h3)] at hr
    have hne1 : a ≠ 1 := fun e => h1 (.inl e)
    have hne2 : b ≠ c := fun e => h1 (.inr e)
    have hne3 : ¬ (b = 1 ∧ c = 0) := fun e => h3 ⟨trivial, e⟩
    cases hg : getG D (a, b, c) with
    | some x =>
      rw [hg] at hr
      subst hr
      refine (ite_memo a b c x hD hne1 h2 hne2 hne3 hg).mono ?_
      rintro e w' ⟨rfl, hb⟩
      exact ItP.now h hD hn hb x
    | none =>
      rw [hg] at hr
      simp only at hr
      obtain ⟨t1, t2, t3, t4⟩ := ite_tests hne1 h2 hne2 hne3
      -- the plain facts
      have ha2 : 2 ≤ a := by omega
      obtain ⟨l1, l2, l3⟩ := lowBit_le (bits := T.bits) (N := T.N) (a := a) (b := b) (c := c)
      have hl : lowBit T.bits T.N a b c < T.bits := Nat.lt_of_le_of_lt l1 (hw.bit_lt ha2 ha)
      have hmin : mn (mn (bitOf T.bits T.N a : Nat) (bitOf T.bits T.N b : Nat)) (bitOf T.bits T.N c : Nat) = (lowBit T.bits T.N a b c : Nat) := by unfold lowBit mn; omega
      have k0 := lowBit_half hw ha hb hc hl false
      obtain ⟨bit, hbit⟩ : ∃ bit, bit = lowBit T.bits T.N a b c := ⟨_, rfl⟩
      rw [← hbit] at k0 l1 l2 l3 hl hf hr hmin
      have X := iteF_ok true f (halfOf T.bits T.N a bit false) (halfOf T.bits T.N b bit false) (halfOf T.bits T.N c bit false) T.N D hw hok (ha.half hw bit hl _) (hb.half hw bit hl _) (hc.half hw bit hl _) (by omega)
      have ihx := fun w1 (h1 : Tab g S T w1) (h2 : MapG w1 db encN (dl D)) => ih (halfOf T.bits T.N a bit false) (halfOf T.bits T.N b bit false) (halfOf T.bits T.N c bit false) S T D w1 h1 h2 hn hw hok (ha.half hw bit hl _) (hb.half hw bit hl _) (hc.half hw bit hl _) (by omega) _ rfl
      generalize iteF true T.bits f (halfOf T.bits T.N a bit false) (halfOf T.bits T.N b bit false) (halfOf T.bits T.N c bit false) T.N D = x at X hr ihx
      have ha1 := ha.pre X.pre
      have hb1 := hb.pre X.pre
      have hc1 := hc.pre X.pre
      have e1 := lowBit_pre (bits := T.bits) X.pre ha hb hc
      rw [← hbit] at e1
      have k1 := lowBit_half X.wf ha1 hb1 hc1 (by rw [e1]; exact hl) true
      rw [e1] at k1
      have Y := iteF_ok true f (halfOf T.bits x.2.1 a bit true) (halfOf T.bits x.2.1 b bit true) (halfOf T.bits x.2.1 c bit true) x.2.1 x.2.2 X.wf X.dok (ha1.half X.wf bit hl _) (hb1.half X.wf bit hl _) (hc1.half X.wf bit hl _) (by omega)
      have ihy := fun S1 w1 (h1 : Tab g S1 { T with N := x.2.1 } w1) (h2 : MapG w1 db encN (dl x.2.2)) (hn1 : ¬ S1 db) => ih (halfOf T.bits x.2.1 a bit true) (halfOf T.bits x.2.1 b bit true) (halfOf T.bits x.2.1 c bit true) S1 { T with N := x.2.1 } x.2.2 w1 h1 h2 hn1 X.wf X.dok (ha1.half X.wf bit hl _) (hb1.half X.wf bit hl _) (hc1.half X.wf bit hl _) (by show T.bits < _; simp only; omega) _ rfl
      simp only at ihy
      generalize iteF true T.bits f (halfOf T.bits x.2.1 a bit true) (halfOf T.bits x.2.1 b bit true) (halfOf T.bits x.2.1 c bit true) x.2.1 x.2.2 = y at Y hr ihy
      have hmk : r.1 = (mkN y.2.1 bit x.1 y.1).1 ∧ r.2.1 = (mkN y.2.1 bit x.1 y.1).2 ∧ r.2.2 = putG y.2.2 (a, b, c) (mkN y.2.1 bit x.1 y.1).1 := by rw [hr]; exact ⟨rfl, rfl, rfl⟩
      have hyl : y.2.1.length ≤ 4000000000 := Nat.le_trans (by rw [hmk.2.1]; exact (mkN_pre (N := y.2.1) bit x.1 y.1).length_le) hlen
      have hxl : x.2.1.length ≤ 4000000000 := Nat.le_trans Y.pre.length_le hyl
      have hTW := h.below (below_alloc (Below.refl _ _) (.cells #[.int .i64 a, .int .i64 b, .int .i64 c] 137))
      have hDW : MapG (w.alloc (.cells #[.int .i64 a, .int .i64 b, .int .i64 c] 137)) db encN (dl D) := hD.step (heap_alloc_old w _ hD.lt)
      have hk := done_look hDW a b c hg
      have hB := below_alloc (Below.refl w.heap.size w) (.cells #[.int .i64 a, .int .i64 b, .int .i64 c] 137)
      have hbx : Bx w.heap.size a b c (w.alloc (.cells #[.int .i64 a, .int .i64 b, .int .i64 c] 137)) := heap_alloc_new w (.cells #[.int .i64 a, .int .i64 b, .int .i64 c] 137)
      have hdl := hD.lt
      have hsl := h.lt
      obtain ⟨W0, hW0⟩ : ∃ W0, W0 = w.alloc (.cells #[.int .i64 a, .int .i64 b, .int .i64 c] 137) := ⟨_, rfl⟩
      rw [← hW0] at hTW hDW hk hB hbx
      have stay : ∀ (S1 : Nat → Prop) (W : World), ItD S S1 db W0 W → Bx w.heap.size a b c W := fun S1 W hit =>
        (hit.chg.block _ (blk_lt hbx) (fun hs => hs.elim (fun h => Nat.lt_irrefl _ (hsl _ h)) (fun h => by omega))).trans hbx
      have rb := rd_bit hTW hl0
      have rh := rd_half hTW hl0 bit hl false
      refine (ite_go g db w.heap.size a b c bit _ _ _ _ _ _ (halfOf T.bits x.2.1 a bit true) (halfOf T.bits x.2.1 b bit true) (halfOf T.bits x.2.1 c bit true) x.1 y.1 r.1 w W0 hW0 rfl
        (fun W => ∃ S1, Tab g S1 { T with N := x.2.1 } W ∧ MapG W db encN (dl x.2.2) ∧ ItD S S1 db W0 W) (fun W => ∃ S1, Tab g S1 { T with N := y.2.1 } W ∧ MapG W db encN (dl y.2.2) ∧ ItD S S1 db W0 W) (fun W => ∃ S1, Tab g S1 { T with N := r.2.1 } W ∧ MapG W db encN (dl r.2.2) ∧ ItD S S1 db W0 W)
        t1 t2 t3 t4 hk hmin (rb a ha) (rb b hb) (rb c hc) (rh a ha) (rh b hb) (rh c hc) ?_
        (fun W1 h1 => ?_) (fun W1 h1 => ?_) (fun W1 h1 => ?_) (fun W1 h1 W hW => ?_) (fun W h2 => ?_) (fun W2 h2 => ?_) (fun W h3 => ?_)).mono ?_
      · intro W hW
        refine (ihx W (hTW.below hW) (hDW.step (hW.block db hDW.lt)) hxl).mono ?_
        rintro e w' ⟨rfl, S1, q1, q2, q3⟩
        exact ⟨rfl, S1, q1, q2, (ItD.of_below hW hn).trans q3⟩
      · obtain ⟨S1, q1, q2, q3⟩ := h1
        exact rd_half q1 hxl bit hl true a ha1
      · obtain ⟨S1, q1, q2, q3⟩ := h1
        exact rd_half q1 hxl bit hl true b hb1
      · obtain ⟨S1, q1, q2, q3⟩ := h1
        exact rd_half q1 hxl bit hl true c hc1
      · obtain ⟨S1, q1, q2, q3⟩ := h1
        refine (ihy S1 W (q1.below hW) (q2.step (hW.block db q2.lt)) q3.nd hyl).mono ?_
        rintro e w' ⟨rfl, S2, p1, p2, p3⟩
        exact ⟨rfl, S2, p1, p2, (q3.trans (ItD.of_below hW q3.nd)).trans p3⟩
      · obtain ⟨S1, q1, q2, q3⟩ := h2
        exact stay S1 W q3
      · obtain ⟨S1, q1, q2, q3⟩ := h2
        intro d
        refine (make_keep q1 q2 q3.nd hyl bit x.1 y.1 (a, b, c) _ rfl d).mono ?_
        rintro e w' ⟨S2, W3, rfl, p1, p2, p3, p4, p5, p6⟩
        rw [hmk.1, hmk.2.1, hmk.2.2]
        have hS1 : ∀ i, S1 i ∨ i = db → (S i ∨ i = db) ∨ W0.heap.size ≤ i := fun i hi => hi.elim (fun hs => (q3.new i hs).imp .inl id) (fun hd => .inl (.inr hd))
        have c1 : Chg (fun i => S i ∨ i = db) W0 w' := q3.chg.trans p1 hS1
        have hx1 : Bx w.heap.size a b c w' := (c1.block _ (blk_lt hbx) (fun hs => hs.elim (fun h => Nat.lt_irrefl _ (hsl _ h)) (fun h => by omega))).trans hbx
        exact ⟨W3, rfl, hx1, p2, stay S2 W3 (q3.trans p6), S2, p4, p5, q3.trans p6⟩
      · obtain ⟨S1, q1, q2, q3⟩ := h3
        refine done_read q2 a b c r.1 ?_
        rw [hmk.2.2, ← hmk.1, getG_putG]
      · rintro e w' ⟨rfl, S3, q1, q2, q3⟩
        exact ⟨rfl, S3, q1, q2, (ItD.of_below hB hn).trans q3⟩
end Go.Proofs.Ytbglnddjhlefnaa
