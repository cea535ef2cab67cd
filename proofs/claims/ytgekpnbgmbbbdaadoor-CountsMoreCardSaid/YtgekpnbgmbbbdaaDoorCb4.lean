/- The walk of the program's Breaks and Holds. -/
import Derived.Test.YtgekpnbgmbbbdaaDoorCb3
namespace Go.Proofs.YtgekpnbgmbbbdaaDoor
open Go Go.RowKit Go.Shelf Go.Proofs.YtgekpnbgmbbbdaaDoorW.PrintWords Go.Proofs.YtgekpnbgmbbbdaaDoorW.PrintLast Go.Proofs.YtgekpnbgmbbbdaaDoorW.PrintMore
attribute [local go_sem] Oper.semAt_some
theorem firstB_els {m : Nat} {k : Int} {c n : Nat} {h : n ≤ 64} (hall : ∀ x ∈ elsTo c n h, rightB m k x.1 = true) : firstB m k c n = none :=
  (firstB_none n).2 fun i hi hin => hall ⟨i, by omega⟩ ((mem_elsTo c _ n h).2 ⟨hi, hin⟩)
theorem firstB_stop {m : Nat} {k : Int} {c n : Nat} {h : n ≤ 64} {pre : List (Fin 64)} {x : Fin 64} (hp : pre ++ [x] <+: elsTo c n h) (hall : ∀ y ∈ pre, rightB m k y.1 = true) (hx : rightB m k x.1 = false) : firstB m k c n = some x.1 := by
  have hmx := (mem_elsTo c x n h).1 (hp.subset (by simp))
  refine firstB_at ?_ hmx.1 hmx.2 hx
  refine (firstB_none x.1).2 fun i hi hin => ?_
  have h64 : x.1 ≤ 64 := by omega
  have hq := elsTo_pre c x.1 n h64 h (by omega)
  have hmi := (mem_elsTo c ⟨i, by omega⟩ x.1 h64).2 ⟨hi, hin⟩
  rcases List.prefix_or_prefix_of_prefix hp hq with h1 | h1
  · have := (mem_elsTo c x x.1 h64).1 (h1.subset (by simp))
    omega
  · have h2 := h1.subset hmi
    rw [List.mem_append, List.mem_singleton] at h2
    rcases h2 with h2 | h2
    · exact hall _ h2
    · have := congrArg Fin.val h2
      simp only at this
      omega
def lastI (pre : List (Fin 64)) : Int := match pre.getLast? with | some x => ((x.1 : Nat) : Int) | none => 0
theorem lastI_snoc (pre : List (Fin 64)) (x : Fin 64) : lastI (pre ++ [x]) = ((x.1 : Nat) : Int) := by simp [lastI]
def BrI (m : Nat) (k : Int) (W0 : World) (pre : List (Fin 64)) (W : World) : Prop := (∀ x ∈ pre, rightB m k x.1 = true) ∧ Below W0.heap.size W0 W
def BrX (m : Nat) (k : Int) (w : World) (c : Code) (pre : List (Fin 64)) (W : World) : Prop := c = .ret ∧ (∃ pre0 x, pre = pre0 ++ [x] ∧ (∀ y ∈ pre0, rightB m k y.1 = true) ∧ rightB m k x.1 = false) ∧
  Boxed W (w.heap.size + 1) 3 (.int .i64 (lastI pre)) ∧ Boxed W (w.heap.size + 1 + 1) 4 (.bool true) ∧ Boxed W (w.heap.size + 1 + 1 + 1) 25 (.int .i64 0) ∧ Below w.heap.size w W
theorem BrX.own (m : Nat) (k : Int) (w : World) {N : Nat} (hN : w.heap.size ≤ N) (c : Code) : OwnFrom N (BrX m k w c) := fun pre X Y row hs hg hr =>
  ⟨hs.1, hs.2.1, boxed_own _ _ (fun (_ : Unit) => Value.int .i64 (lastI pre)) () X Y row hs.2.2.1 hg (fun r e => (hr r e).2), boxed_own _ _ (fun (_ : Unit) => Value.bool true) () X Y row hs.2.2.2.1 hg (fun r e => (hr r e).2), boxed_own _ _ (fun (_ : Unit) => Value.int .i64 0) () X Y row hs.2.2.2.2.1 hg (fun r e => (hr r e).2), ownFrom_below (β := Unit) (Nat.le_refl _) hN () X Y row hs.2.2.2.2.2 hg hr⟩
theorem boxed_put {W : World} {B D : Nat} {t : TypeId} {v : Value} (h : Boxed W B t v) (hne : B ≠ D) (o : Obj) : Boxed (W.putObj D o) B t v := (World.putObj_heap_other hne).trans h
theorem br_end {w W : World} {D : Nat} {u0 u1 u2 : Value} {tmps : Array Value} (hD : w.heap.size + 4 ≤ D) (hK : W.heap[D]? = some (.deferred (some []))) (h0 : Boxed W (w.heap.size + 1) 3 u0) (h1 : Boxed W (w.heap.size + 1 + 1) 4 u1) (h2 : Boxed W (w.heap.size + 1 + 1 + 1) 25 u2) (hb : Below w.heap.size w W)
    (p0 : tmps.getD 6 undef = .pointer (some ⟨w.heap.size + 1, 0, none⟩)) (p1 : tmps.getD 7 undef = .pointer (some ⟨w.heap.size + 1 + 1, 0, none⟩)) (p2 : tmps.getD 8 undef = .pointer (some ⟨w.heap.size + 1 + 1 + 1, 0, none⟩)) (R : Value) (hR : R = .tuple #[u0, u1, u2]) :
    LeavesInM Fence.wide 4 Tryd.prog Tryd.f25 tmps (fun e w' => e = .returned R ∧ Below w.heap.size w w') [{ target := .collected D, args := #[] }] .returning W := by
  subst hR
  have hmk : MK w.heap.size [D] W := ⟨by simp, fun E hE => by rw [List.mem_singleton] at hE; omega, fun E hE => by rw [List.mem_singleton] at hE; rw [hE]; exact hK⟩
  refine leaves_marks (ds := [D]) hmk ⟨_, results_c3 res25 p0 p1 p2 (load3 (boxed_put h0 (by omega) _)) (load4 (boxed_put h1 (by omega) _)) (load25 (boxed_put h2 (by omega) _)), rfl, hb.trans (offs_below hmk.ge)⟩
theorem under_b {W0 W : World} {B : Nat} {t : TypeId} {v : Value} (h : Boxed W0 B t v) (hb : Below W0.heap.size W0 W) : Boxed W B t v := (hb.block _ h.lt).trans h
set_option maxRecDepth 100000 in
set_option maxHeartbeats 2000000 in
theorem breaks_in (t k : Int) (c : Nat) (w : World) (hc : c < 2 ^ 64) (r : Int × Bool × Int) (hr : r = breaksF t k c) :
    CallsIn Fence.wide 4 Tryd.prog 25 #[.int .i64 t, .int .i64 k, .int .u64 c] w fun e w' => e = .returned (.tuple #[.int .i64 r.1, .bool r.2.1, .int .i64 r.2.2]) ∧ Below w.heap.size w w' := by
  have hchk0 := fun W : World => chkl_w t [c] (fun x hx => by rw [List.mem_singleton] at hx; rw [hx]; exact hc) (by simp) W #[.int .u64 (c : Nat)] rfl
  simp only [List.length_cons, List.length_nil, Nat.zero_add] at hchk0
  have hchk := (hchk0 ((((w.alloc (.cells #[.int .i64 t] 3)).alloc (.cells #[.int .i64 0] 3)).alloc (.cells #[.bool false] 4)).alloc (.cells #[.int .i64 0] 25)) (w.heap.size + 1 + 1 + 1 + 1) 1 (by simp only [World.size_alloc]) rfl).mono
    (R' := fun e w' => e = .returned (.int .i64 (chkF t [c])) ∧ BF t w w') (by rintro e w' ⟨rfl, rfl⟩; exact ⟨rfl, BF.made t c w⟩)
  have HCC := Lib.hid hc
  clear hc hchk0
  by_cases h0 : chkF t [c] = 0
  · obtain ⟨m, rfl, hm⟩ := bnd_nat (chk_bnd h0)
    rw [h0] at hchk
    have HCHK := Lib.hid hchk
    have hm2 : (m : Int) ≤ 62 := by omega
    by_cases hk : k < 1 ∨ 3 < k
    · have hcf : r = (0, false, 81) := by rw [hr]; unfold breaksF; rw [if_pos h0, if_pos hk]
      subst hcf
      have f1 : (k == 1) = false := by simp; omega
      have f2 : (k == 2) = false := by simp; omega
      have f3 : (k == 3) = false := by simp; omega
      clear hr h0 hk hchk HCC
      refine callsIn_of_wp_marks Tryd.func25 rfl trivial ?_ rfl
      simp only [Tryd.ntmps25, List.size_toArray, List.length_cons, List.length_nil, Nat.reduceAdd, Nat.reduceSub, Array.replicate_succ, Array.replicate_zero, List.push_toArray, List.append_toArray, List.nil_append, List.cons_append]
      gi_wp2_with (first
        | (refine ⟨trivial, ?_⟩; gi_at_call 21; refine (callsIn_wide.2 HCHK.out).mono ?_; rintro e W1 ⟨rfl, hF⟩; have HF := Lib.hid hF; obtain ⟨W2, hW2, hL⟩ := LF.first hF (.func 39) #[.pointer (some ⟨w.heap.size, 0, none⟩)]; have HL := Lib.hid hL; obtain ⟨⟨y0, y1⟩, ⟨y2, y3⟩, y4, y5⟩ := three_free hL.r0 hL.r1 hL.r2 (.int .i64 0) (.bool false); clear hL hF))
      obtain ⟨t0, t1, t2⟩ := three_set HL.out.r0 HL.out.r1 HL.out.r2 (.int .i64 0) (.bool false) (.int .i64 81)
      exact ⟨_, results_c3 res25 rfl rfl rfl (load3 t0) (load4 t1) (load25 t2), rfl, three_below HL.out.below _ _ _⟩
    · have hkk : k = 1 ∨ k = 2 ∨ k = 3 := by omega
      have hcf : r = match firstB m k c (m + 2) with | some i => ((i : Int), true, 0) | none => (0, false, 0) := by rw [hr]; unfold breaksF; rw [if_pos h0, if_neg hk]; rfl
      have HCF := Lib.hid hcf
      have h64 : m + 2 ≤ 64 := by omega
      clear hr h0 hk hchk hcf
      rcases hkk with rfl | rfl | rfl
      all_goals
        refine callsIn_of_wp_marks Tryd.func25 rfl trivial ?_ rfl
        simp only [Tryd.ntmps25, List.size_toArray, List.length_cons, List.length_nil, Nat.reduceAdd, Nat.reduceSub, Array.replicate_succ, Array.replicate_zero, List.push_toArray, List.append_toArray, List.nil_append, List.cons_append]
        gi_wp2_with (first
          | (refine ⟨trivial, ?_⟩; gi_at_call 21; refine (callsIn_wide.2 HCHK.out).mono ?_; rintro e W1 ⟨rfl, hF⟩; have HF := Lib.hid hF; obtain ⟨W2, hW2, hL⟩ := LF.first hF (.func 39) #[.pointer (some ⟨w.heap.size, 0, none⟩)]; have hT := hL.tt.cell; have HL := Lib.hid hL; obtain ⟨W3, hW3, hM⟩ := LF.second hL hF.size (.func 40) #[.pointer (some ⟨w.heap.size, 0, none⟩)]; obtain ⟨W4, hW4, hN⟩ := LF.second hL hF.size (.func 41) #[.pointer (some ⟨w.heap.size, 0, none⟩)]; have hT3 := hM.tt.cell; have hT4 := hN.tt.cell; have HM := Lib.hid hM; have HN := Lib.hid hN; clear hL hF hM hN)
          | (refine ⟨trivial, ?_⟩; gi_at_call 36; refine (cmaker _ _ _ _).mono ?_; rintro e w2 ⟨rfl, rfl⟩))
      · have hLF := HL.out
        have hsz1 := HF.out.size
        have hszX := hLF.size
        clear HCHK HF HL HM HN hW2 hW3 hW4 hT hT3 hT4
        have bM := (Boxed.new W2 3 (.int .i64 m)).alloc (.cells #[.int .u64 c] 24)
        have bC := Boxed.new (W2.alloc (.cells #[.int .i64 m] 3)) 24 (.int .u64 c)
        simp only [World.size_alloc] at bC
        have bt := (hLF.tt.alloc (.cells #[.int .i64 m] 3)).alloc (.cells #[.int .u64 c] 24)
        have b0 := (hLF.r0.alloc (.cells #[.int .i64 m] 3)).alloc (.cells #[.int .u64 c] 24)
        have b1 := (hLF.r1.alloc (.cells #[.int .i64 m] 3)).alloc (.cells #[.int .u64 c] 24)
        have b2 := (hLF.r2.alloc (.cells #[.int .i64 m] 3)).alloc (.cells #[.int .u64 c] 24)
        have bf := (hLF.hf.alloc (.cells #[.int .i64 m] 3)).alloc (.cells #[.int .u64 c] 24)
        have hB0 : Below w.heap.size w ((W2.alloc (.cells #[.int .i64 m] 3)).alloc (.cells #[.int .u64 c] 24)) := below_alloc (below_alloc hLF.below _) _
        have hsz : ((W2.alloc (.cells #[.int .i64 m] 3)).alloc (.cells #[.int .u64 c] 24)).heap.size = W2.heap.size + 2 := by simp
        obtain ⟨W0, hW0⟩ : ∃ W0, (W2.alloc (.cells #[.int .i64 m] 3)).alloc (.cells #[.int .u64 c] 24) = W0 := ⟨_, rfl⟩
        rw [hW0] at bM bC bt b0 b1 b2 bf hB0 hsz ⊢
        have g1 : W2.heap.size < W0.heap.size := by omega
        have g2 : W2.heap.size + 1 < W0.heap.size := by omega
        have g3 : w.heap.size ≤ W0.heap.size := hB0.size
        have g4 : w.heap.size + 4 ≤ W0.heap.size := by omega
        clear hW0 hLF hsz1 hszX hsz
        refine wpIn_rangeFunc_ownH (F := Fence.wide) (n := 4) rfl (by omega) (gf := 50) (lb := #[.pointer (some ⟨W2.heap.size, 0, none⟩), .pointer (some ⟨W2.heap.size + 1, 0, none⟩)]) rfl trivial (enters_of Tryd.func50 (by kernel_rfl) rfl)
          (cstops (4 - 1) (by omega) W2.heap.size (W2.heap.size + 1) w.heap.size m c hm HCC.out h64 W0 g1 g2 bM.cell bC.cell) KB2.trans (kb_b g3 g1 g2) (Below.refl _ _) (fun _ => rfl)
          (BrI m 1 W0) (BrX m 1 w)
          (OwnFrom.and (ownFrom_pure _ _) (ownFrom_below (Nat.le_refl _) (Nat.le_refl _)))
          (BrX.own m 1 w g3)
          ⟨by simp, Below.refl _ _⟩
          (fun x a' _ => a' = { tmps := #[.int .i64 m, .int .i64 1, .int .u64 c, Value.pointer (some ⟨w.heap.size, 0, none⟩), undef, undef, Value.pointer (some ⟨w.heap.size + 1, 0, none⟩), Value.pointer (some ⟨w.heap.size + 1 + 1, 0, none⟩), Value.pointer (some ⟨w.heap.size + 1 + 1 + 1, 0, none⟩), .int .i64 0, .pointer (some ⟨W1.heap.size, 0, none⟩), .int .i64 ((x.1 : Nat) : Int), .int .i64 m, .int .u64 c, .slice (some ⟨w.heap.size + 1 + 1 + 1 + 1, 0, none⟩) 1 1, .int .i64 0, .int .i64 0, .bool false, undef, .func (.func 39) #[] #[.pointer (some ⟨w.heap.size, 0, none⟩)], .int .i64 1, .bool true, .bool true, undef, undef, undef, undef, undef, undef, .int .i64 m, .int .u64 c, (.func (.func 50) #[] #[.pointer (some ⟨W2.heap.size, 0, none⟩), .pointer (some ⟨W2.heap.size + 1, 0, none⟩)]), .int .i64 ((x.1 : Nat) : Int), undef, undef, undef, undef, undef], defers := [] })
          (fun _ _ _ _ _ _ hs _ _ => hs)
          ?assign ?body ?done ?stop
        case assign =>
          rintro l pre x W K hI hK
          gi_wp2
          exact hK _ _ (KeepsFrom.refl _ _) (KB2.refl _ _ _ _) hI rfl
        case body =>
          rintro l pre x a' W hl ⟨r, hr⟩ ⟨hall, hB⟩ rfl hlt2
          have c0 := ((under_b bf hB)).cell
          have c1 := ((under_b bt hB)).cell
          have d0 := (under_b b0 hB)
          have d1 := (under_b b1 hB)
          have d2 := (under_b b2 hB)
          have hcl := brk1_w m x.1 w.heap.size W c1
          obtain ⟨⟨y0, y1⟩, ⟨y2, y3⟩, y4, y5⟩ := three_free d0 d1 d2 (.int .i64 ((x.1 : Nat) : Int)) (.bool true)
          have HD := Lib.hid (three_set d0 d1 d2 (.int .i64 ((x.1 : Nat) : Int)) (.bool true) (.int .i64 0))
          have HBW := Lib.hid (hB0.trans (hB.mono hB0.size))
          have HBI := Lib.hid hB
          have HALL := Lib.hid hall
          have hszW := hB.size
          clear d0 d1 d2 c1 hall hB bM bC bt b0 b1 b2 bf
          cases hrb : rightB m 1 x.1 with
          | true =>
            rw [hrb] at hcl
            have HCL := Lib.hid hcl
            clear hcl
            gi_wp2_with ((first | refine ⟨trivial, ?_⟩ | skip); gi_at_call 39; refine (CallsIn.inRound l (callsIn_wide.2 HCL.out)).mono ?_; rintro e w2 ⟨rfl, rfl⟩)
            refine ⟨KeepsFrom.refl _ _, KB2.refl _ _ _ _, ?_, HBI.out⟩
            intro y hy
            rcases List.mem_append.1 hy with hy | hy
            · exact HALL.out y hy
            · rw [List.mem_singleton] at hy; rw [hy]; exact hrb
          | false =>
            rw [hrb] at hcl
            have HCL := Lib.hid hcl
            clear hcl
            gi_wp2_with ((first | refine ⟨trivial, ?_⟩ | skip); gi_at_call 39; refine (CallsIn.inRound l (callsIn_wide.2 HCL.out)).mono ?_; rintro e w2 ⟨rfl, rfl⟩)
            refine ⟨(((KeepsOthers.setCell _ _ _).trans (KeepsOthers.setCell _ _ _)).trans (KeepsOthers.setCell _ _ _)).from _, rfl, ⟨pre, x, rfl, HALL.out, hrb⟩, ?_, HD.out.2.1, HD.out.2.2, three_below HBW.out _ _ _⟩
            rw [lastI_snoc]
            exact HD.out.1
        case done =>
          rintro D ys W hD rfl ⟨hall, hB⟩ hK
          have d0 := (under_b b0 hB)
          have d1 := (under_b b1 hB)
          have d2 := (under_b b2 hB)
          obtain ⟨⟨y0, y1⟩, ⟨y2, y3⟩, y4, y5⟩ := three_free d0 d1 d2 (.int .i64 0) (.bool false)
          have HD := Lib.hid (three_set d0 d1 d2 (.int .i64 0) (.bool false) (.int .i64 0))
          have HBW := Lib.hid (hB0.trans (hB.mono hB0.size))
          have hcf := HCF.out
          rw [firstB_els hall] at hcf
          subst hcf
          have HK := Lib.hid (((Below.heap_setCell ((W.setCell ⟨w.heap.size + 1, 0, none⟩ (.int .i64 0)).setCell ⟨w.heap.size + 1 + 1, 0, none⟩ (.bool false)) ⟨w.heap.size + 1 + 1 + 1, 0, none⟩ (.int .i64 0) D (by show D ≠ w.heap.size + 1 + 1 + 1; omega)).trans ((Below.heap_setCell (W.setCell ⟨w.heap.size + 1, 0, none⟩ (.int .i64 0)) ⟨w.heap.size + 1 + 1, 0, none⟩ (.bool false) D (by show D ≠ w.heap.size + 1 + 1; omega)).trans (Below.heap_setCell W ⟨w.heap.size + 1, 0, none⟩ (.int .i64 0) D (by show D ≠ w.heap.size + 1; omega)))).trans hK)
          clear d0 d1 d2 hall hB bM bC bt b0 b1 b2 bf hK HCF
          gi_wp2_with fail
          exact br_end (D := D) (by omega) HK.out HD.out.1 HD.out.2.1 HD.out.2.2 (three_below HBW.out _ _ _) rfl rfl rfl _ rfl
        case stop =>
          rintro D cc pre W hD hp ⟨rfl, ⟨pre0, x, rfl, hall, hx⟩, d0, d1, d2, hB⟩ hK
          have hcf := HCF.out
          rw [firstB_stop hp hall hx] at hcf
          subst hcf
          rw [lastI_snoc] at d0
          gi_wp2_with fail
          exact br_end (D := D) (by omega) hK d0 d1 d2 hB rfl rfl rfl _ rfl
      · have hLF := HM.out
        have hsz1 := HF.out.size
        have hszX := hLF.size
        clear HCHK HF HL HM HN hW2 hW3 hW4 hT hT3 hT4
        have bM := (Boxed.new W3 3 (.int .i64 m)).alloc (.cells #[.int .u64 c] 24)
        have bC := Boxed.new (W3.alloc (.cells #[.int .i64 m] 3)) 24 (.int .u64 c)
        simp only [World.size_alloc] at bC
        have bt := (hLF.tt.alloc (.cells #[.int .i64 m] 3)).alloc (.cells #[.int .u64 c] 24)
        have b0 := (hLF.r0.alloc (.cells #[.int .i64 m] 3)).alloc (.cells #[.int .u64 c] 24)
        have b1 := (hLF.r1.alloc (.cells #[.int .i64 m] 3)).alloc (.cells #[.int .u64 c] 24)
        have b2 := (hLF.r2.alloc (.cells #[.int .i64 m] 3)).alloc (.cells #[.int .u64 c] 24)
        have bf := (hLF.hf.alloc (.cells #[.int .i64 m] 3)).alloc (.cells #[.int .u64 c] 24)
        have hB0 : Below w.heap.size w ((W3.alloc (.cells #[.int .i64 m] 3)).alloc (.cells #[.int .u64 c] 24)) := below_alloc (below_alloc hLF.below _) _
        have hsz : ((W3.alloc (.cells #[.int .i64 m] 3)).alloc (.cells #[.int .u64 c] 24)).heap.size = W3.heap.size + 2 := by simp
        obtain ⟨W0, hW0⟩ : ∃ W0, (W3.alloc (.cells #[.int .i64 m] 3)).alloc (.cells #[.int .u64 c] 24) = W0 := ⟨_, rfl⟩
        rw [hW0] at bM bC bt b0 b1 b2 bf hB0 hsz ⊢
        have g1 : W3.heap.size < W0.heap.size := by omega
        have g2 : W3.heap.size + 1 < W0.heap.size := by omega
        have g3 : w.heap.size ≤ W0.heap.size := hB0.size
        have g4 : w.heap.size + 4 ≤ W0.heap.size := by omega
        clear hW0 hLF hsz1 hszX hsz
        refine wpIn_rangeFunc_ownH (F := Fence.wide) (n := 4) rfl (by omega) (gf := 50) (lb := #[.pointer (some ⟨W3.heap.size, 0, none⟩), .pointer (some ⟨W3.heap.size + 1, 0, none⟩)]) rfl trivial (enters_of Tryd.func50 (by kernel_rfl) rfl)
          (cstops (4 - 1) (by omega) W3.heap.size (W3.heap.size + 1) w.heap.size m c hm HCC.out h64 W0 g1 g2 bM.cell bC.cell) KB2.trans (kb_b g3 g1 g2) (Below.refl _ _) (fun _ => rfl)
          (BrI m 2 W0) (BrX m 2 w)
          (OwnFrom.and (ownFrom_pure _ _) (ownFrom_below (Nat.le_refl _) (Nat.le_refl _)))
          (BrX.own m 2 w g3)
          ⟨by simp, Below.refl _ _⟩
          (fun x a' _ => a' = { tmps := #[.int .i64 m, .int .i64 2, .int .u64 c, Value.pointer (some ⟨w.heap.size, 0, none⟩), undef, undef, Value.pointer (some ⟨w.heap.size + 1, 0, none⟩), Value.pointer (some ⟨w.heap.size + 1 + 1, 0, none⟩), Value.pointer (some ⟨w.heap.size + 1 + 1 + 1, 0, none⟩), .int .i64 0, .pointer (some ⟨W1.heap.size, 0, none⟩), .int .i64 ((x.1 : Nat) : Int), .int .i64 m, .int .u64 c, .slice (some ⟨w.heap.size + 1 + 1 + 1 + 1, 0, none⟩) 1 1, .int .i64 0, .int .i64 0, .bool false, undef, .func (.func 39) #[] #[.pointer (some ⟨w.heap.size, 0, none⟩)], .int .i64 2, .bool false, .bool false, .bool true, .bool true, .func (.func 40) #[] #[.pointer (some ⟨w.heap.size, 0, none⟩)], undef, undef, undef, .int .i64 m, .int .u64 c, (.func (.func 50) #[] #[.pointer (some ⟨W3.heap.size, 0, none⟩), .pointer (some ⟨W3.heap.size + 1, 0, none⟩)]), .int .i64 ((x.1 : Nat) : Int), undef, undef, undef, undef, undef], defers := [] })
          (fun _ _ _ _ _ _ hs _ _ => hs)
          ?assign ?body ?done ?stop
        case assign =>
          rintro l pre x W K hI hK
          gi_wp2
          exact hK _ _ (KeepsFrom.refl _ _) (KB2.refl _ _ _ _) hI rfl
        case body =>
          rintro l pre x a' W hl ⟨r, hr⟩ ⟨hall, hB⟩ rfl hlt2
          have c0 := ((under_b bf hB)).cell
          have c1 := ((under_b bt hB)).cell
          have d0 := (under_b b0 hB)
          have d1 := (under_b b1 hB)
          have d2 := (under_b b2 hB)
          have hcl := brk2_w m x.1 w.heap.size W c1
          obtain ⟨⟨y0, y1⟩, ⟨y2, y3⟩, y4, y5⟩ := three_free d0 d1 d2 (.int .i64 ((x.1 : Nat) : Int)) (.bool true)
          have HD := Lib.hid (three_set d0 d1 d2 (.int .i64 ((x.1 : Nat) : Int)) (.bool true) (.int .i64 0))
          have HBW := Lib.hid (hB0.trans (hB.mono hB0.size))
          have HBI := Lib.hid hB
          have HALL := Lib.hid hall
          have hszW := hB.size
          clear d0 d1 d2 c1 hall hB bM bC bt b0 b1 b2 bf
          cases hrb : rightB m 2 x.1 with
          | true =>
            rw [hrb] at hcl
            have HCL := Lib.hid hcl
            clear hcl
            gi_wp2_with ((first | refine ⟨trivial, ?_⟩ | skip); gi_at_call 40; refine (CallsIn.inRound l (callsIn_wide.2 HCL.out)).mono ?_; rintro e w2 ⟨rfl, rfl⟩)
            refine ⟨KeepsFrom.refl _ _, KB2.refl _ _ _ _, ?_, HBI.out⟩
            intro y hy
            rcases List.mem_append.1 hy with hy | hy
            · exact HALL.out y hy
            · rw [List.mem_singleton] at hy; rw [hy]; exact hrb
          | false =>
            rw [hrb] at hcl
            have HCL := Lib.hid hcl
            clear hcl
            gi_wp2_with ((first | refine ⟨trivial, ?_⟩ | skip); gi_at_call 40; refine (CallsIn.inRound l (callsIn_wide.2 HCL.out)).mono ?_; rintro e w2 ⟨rfl, rfl⟩)
            refine ⟨(((KeepsOthers.setCell _ _ _).trans (KeepsOthers.setCell _ _ _)).trans (KeepsOthers.setCell _ _ _)).from _, rfl, ⟨pre, x, rfl, HALL.out, hrb⟩, ?_, HD.out.2.1, HD.out.2.2, three_below HBW.out _ _ _⟩
            rw [lastI_snoc]
            exact HD.out.1
        case done =>
          rintro D ys W hD rfl ⟨hall, hB⟩ hK
          have d0 := (under_b b0 hB)
          have d1 := (under_b b1 hB)
          have d2 := (under_b b2 hB)
          obtain ⟨⟨y0, y1⟩, ⟨y2, y3⟩, y4, y5⟩ := three_free d0 d1 d2 (.int .i64 0) (.bool false)
          have HD := Lib.hid (three_set d0 d1 d2 (.int .i64 0) (.bool false) (.int .i64 0))
          have HBW := Lib.hid (hB0.trans (hB.mono hB0.size))
          have hcf := HCF.out
          rw [firstB_els hall] at hcf
          subst hcf
          have HK := Lib.hid (((Below.heap_setCell ((W.setCell ⟨w.heap.size + 1, 0, none⟩ (.int .i64 0)).setCell ⟨w.heap.size + 1 + 1, 0, none⟩ (.bool false)) ⟨w.heap.size + 1 + 1 + 1, 0, none⟩ (.int .i64 0) D (by show D ≠ w.heap.size + 1 + 1 + 1; omega)).trans ((Below.heap_setCell (W.setCell ⟨w.heap.size + 1, 0, none⟩ (.int .i64 0)) ⟨w.heap.size + 1 + 1, 0, none⟩ (.bool false) D (by show D ≠ w.heap.size + 1 + 1; omega)).trans (Below.heap_setCell W ⟨w.heap.size + 1, 0, none⟩ (.int .i64 0) D (by show D ≠ w.heap.size + 1; omega)))).trans hK)
          clear d0 d1 d2 hall hB bM bC bt b0 b1 b2 bf hK HCF
          gi_wp2_with fail
          exact br_end (D := D) (by omega) HK.out HD.out.1 HD.out.2.1 HD.out.2.2 (three_below HBW.out _ _ _) rfl rfl rfl _ rfl
        case stop =>
          rintro D cc pre W hD hp ⟨rfl, ⟨pre0, x, rfl, hall, hx⟩, d0, d1, d2, hB⟩ hK
          have hcf := HCF.out
          rw [firstB_stop hp hall hx] at hcf
          subst hcf
          rw [lastI_snoc] at d0
          gi_wp2_with fail
          exact br_end (D := D) (by omega) hK d0 d1 d2 hB rfl rfl rfl _ rfl
      · have hLF := HN.out
        have hsz1 := HF.out.size
        have hszX := hLF.size
        clear HCHK HF HL HM HN hW2 hW3 hW4 hT hT3 hT4
        have bM := (Boxed.new W4 3 (.int .i64 m)).alloc (.cells #[.int .u64 c] 24)
        have bC := Boxed.new (W4.alloc (.cells #[.int .i64 m] 3)) 24 (.int .u64 c)
        simp only [World.size_alloc] at bC
        have bt := (hLF.tt.alloc (.cells #[.int .i64 m] 3)).alloc (.cells #[.int .u64 c] 24)
        have b0 := (hLF.r0.alloc (.cells #[.int .i64 m] 3)).alloc (.cells #[.int .u64 c] 24)
        have b1 := (hLF.r1.alloc (.cells #[.int .i64 m] 3)).alloc (.cells #[.int .u64 c] 24)
        have b2 := (hLF.r2.alloc (.cells #[.int .i64 m] 3)).alloc (.cells #[.int .u64 c] 24)
        have bf := (hLF.hf.alloc (.cells #[.int .i64 m] 3)).alloc (.cells #[.int .u64 c] 24)
        have hB0 : Below w.heap.size w ((W4.alloc (.cells #[.int .i64 m] 3)).alloc (.cells #[.int .u64 c] 24)) := below_alloc (below_alloc hLF.below _) _
        have hsz : ((W4.alloc (.cells #[.int .i64 m] 3)).alloc (.cells #[.int .u64 c] 24)).heap.size = W4.heap.size + 2 := by simp
        obtain ⟨W0, hW0⟩ : ∃ W0, (W4.alloc (.cells #[.int .i64 m] 3)).alloc (.cells #[.int .u64 c] 24) = W0 := ⟨_, rfl⟩
        rw [hW0] at bM bC bt b0 b1 b2 bf hB0 hsz ⊢
        have g1 : W4.heap.size < W0.heap.size := by omega
        have g2 : W4.heap.size + 1 < W0.heap.size := by omega
        have g3 : w.heap.size ≤ W0.heap.size := hB0.size
        have g4 : w.heap.size + 4 ≤ W0.heap.size := by omega
        clear hW0 hLF hsz1 hszX hsz
        refine wpIn_rangeFunc_ownH (F := Fence.wide) (n := 4) rfl (by omega) (gf := 50) (lb := #[.pointer (some ⟨W4.heap.size, 0, none⟩), .pointer (some ⟨W4.heap.size + 1, 0, none⟩)]) rfl trivial (enters_of Tryd.func50 (by kernel_rfl) rfl)
          (cstops (4 - 1) (by omega) W4.heap.size (W4.heap.size + 1) w.heap.size m c hm HCC.out h64 W0 g1 g2 bM.cell bC.cell) KB2.trans (kb_b g3 g1 g2) (Below.refl _ _) (fun _ => rfl)
          (BrI m 3 W0) (BrX m 3 w)
          (OwnFrom.and (ownFrom_pure _ _) (ownFrom_below (Nat.le_refl _) (Nat.le_refl _)))
          (BrX.own m 3 w g3)
          ⟨by simp, Below.refl _ _⟩
          (fun x a' _ => a' = { tmps := #[.int .i64 m, .int .i64 3, .int .u64 c, Value.pointer (some ⟨w.heap.size, 0, none⟩), undef, undef, Value.pointer (some ⟨w.heap.size + 1, 0, none⟩), Value.pointer (some ⟨w.heap.size + 1 + 1, 0, none⟩), Value.pointer (some ⟨w.heap.size + 1 + 1 + 1, 0, none⟩), .int .i64 0, .pointer (some ⟨W1.heap.size, 0, none⟩), .int .i64 ((x.1 : Nat) : Int), .int .i64 m, .int .u64 c, .slice (some ⟨w.heap.size + 1 + 1 + 1 + 1, 0, none⟩) 1 1, .int .i64 0, .int .i64 0, .bool false, undef, .func (.func 39) #[] #[.pointer (some ⟨w.heap.size, 0, none⟩)], .int .i64 3, .bool false, .bool false, .bool false, .bool false, undef, .bool true, .bool true, .func (.func 41) #[] #[.pointer (some ⟨w.heap.size, 0, none⟩)], .int .i64 m, .int .u64 c, (.func (.func 50) #[] #[.pointer (some ⟨W4.heap.size, 0, none⟩), .pointer (some ⟨W4.heap.size + 1, 0, none⟩)]), .int .i64 ((x.1 : Nat) : Int), undef, undef, undef, undef, undef], defers := [] })
          (fun _ _ _ _ _ _ hs _ _ => hs)
          ?assign ?body ?done ?stop
        case assign =>
          rintro l pre x W K hI hK
          gi_wp2
          exact hK _ _ (KeepsFrom.refl _ _) (KB2.refl _ _ _ _) hI rfl
        case body =>
          rintro l pre x a' W hl ⟨r, hr⟩ ⟨hall, hB⟩ rfl hlt2
          have c0 := ((under_b bf hB)).cell
          have c1 := ((under_b bt hB)).cell
          have d0 := (under_b b0 hB)
          have d1 := (under_b b1 hB)
          have d2 := (under_b b2 hB)
          have hcl := brk3_w m x.1 w.heap.size W c1
          obtain ⟨⟨y0, y1⟩, ⟨y2, y3⟩, y4, y5⟩ := three_free d0 d1 d2 (.int .i64 ((x.1 : Nat) : Int)) (.bool true)
          have HD := Lib.hid (three_set d0 d1 d2 (.int .i64 ((x.1 : Nat) : Int)) (.bool true) (.int .i64 0))
          have HBW := Lib.hid (hB0.trans (hB.mono hB0.size))
          have HBI := Lib.hid hB
          have HALL := Lib.hid hall
          have hszW := hB.size
          clear d0 d1 d2 c1 hall hB bM bC bt b0 b1 b2 bf
          cases hrb : rightB m 3 x.1 with
          | true =>
            rw [hrb] at hcl
            have HCL := Lib.hid hcl
            clear hcl
            gi_wp2_with ((first | refine ⟨trivial, ?_⟩ | skip); gi_at_call 41; refine (CallsIn.inRound l (callsIn_wide.2 HCL.out)).mono ?_; rintro e w2 ⟨rfl, rfl⟩)
            refine ⟨KeepsFrom.refl _ _, KB2.refl _ _ _ _, ?_, HBI.out⟩
            intro y hy
            rcases List.mem_append.1 hy with hy | hy
            · exact HALL.out y hy
            · rw [List.mem_singleton] at hy; rw [hy]; exact hrb
          | false =>
            rw [hrb] at hcl
            have HCL := Lib.hid hcl
            clear hcl
            gi_wp2_with ((first | refine ⟨trivial, ?_⟩ | skip); gi_at_call 41; refine (CallsIn.inRound l (callsIn_wide.2 HCL.out)).mono ?_; rintro e w2 ⟨rfl, rfl⟩)
            refine ⟨(((KeepsOthers.setCell _ _ _).trans (KeepsOthers.setCell _ _ _)).trans (KeepsOthers.setCell _ _ _)).from _, rfl, ⟨pre, x, rfl, HALL.out, hrb⟩, ?_, HD.out.2.1, HD.out.2.2, three_below HBW.out _ _ _⟩
            rw [lastI_snoc]
            exact HD.out.1
        case done =>
          rintro D ys W hD rfl ⟨hall, hB⟩ hK
          have d0 := (under_b b0 hB)
          have d1 := (under_b b1 hB)
          have d2 := (under_b b2 hB)
          obtain ⟨⟨y0, y1⟩, ⟨y2, y3⟩, y4, y5⟩ := three_free d0 d1 d2 (.int .i64 0) (.bool false)
          have HD := Lib.hid (three_set d0 d1 d2 (.int .i64 0) (.bool false) (.int .i64 0))
          have HBW := Lib.hid (hB0.trans (hB.mono hB0.size))
          have hcf := HCF.out
          rw [firstB_els hall] at hcf
          subst hcf
          have HK := Lib.hid (((Below.heap_setCell ((W.setCell ⟨w.heap.size + 1, 0, none⟩ (.int .i64 0)).setCell ⟨w.heap.size + 1 + 1, 0, none⟩ (.bool false)) ⟨w.heap.size + 1 + 1 + 1, 0, none⟩ (.int .i64 0) D (by show D ≠ w.heap.size + 1 + 1 + 1; omega)).trans ((Below.heap_setCell (W.setCell ⟨w.heap.size + 1, 0, none⟩ (.int .i64 0)) ⟨w.heap.size + 1 + 1, 0, none⟩ (.bool false) D (by show D ≠ w.heap.size + 1 + 1; omega)).trans (Below.heap_setCell W ⟨w.heap.size + 1, 0, none⟩ (.int .i64 0) D (by show D ≠ w.heap.size + 1; omega)))).trans hK)
          clear d0 d1 d2 hall hB bM bC bt b0 b1 b2 bf hK HCF
          gi_wp2_with fail
          exact br_end (D := D) (by omega) HK.out HD.out.1 HD.out.2.1 HD.out.2.2 (three_below HBW.out _ _ _) rfl rfl rfl _ rfl
        case stop =>
          rintro D cc pre W hD hp ⟨rfl, ⟨pre0, x, rfl, hall, hx⟩, d0, d1, d2, hB⟩ hK
          have hcf := HCF.out
          rw [firstB_stop hp hall hx] at hcf
          subst hcf
          rw [lastI_snoc] at d0
          gi_wp2_with fail
          exact br_end (D := D) (by omega) hK d0 d1 d2 hB rfl rfl rfl _ rfl
  · have hcf : r = (0, false, chkF t [c]) := by rw [hr]; unfold breaksF; rw [if_neg h0]
    obtain ⟨z, hz⟩ : ∃ z, z = chkF t [c] := ⟨_, rfl⟩
    rw [← hz] at hchk hcf h0
    subst hcf
    have e0 : (z == 0) = false := by simpa using h0
    have HCHK := Lib.hid hchk
    clear hr h0 hz hchk HCC
    refine callsIn_of_wp_marks Tryd.func25 rfl trivial ?_ rfl
    simp only [Tryd.ntmps25, List.size_toArray, List.length_cons, List.length_nil, Nat.reduceAdd, Nat.reduceSub, Array.replicate_succ, Array.replicate_zero, List.push_toArray, List.append_toArray, List.nil_append, List.cons_append]
    gi_wp2_with (first
      | (refine ⟨trivial, ?_⟩; gi_at_call 21; refine (callsIn_wide.2 HCHK.out).mono ?_; rintro e W1 ⟨rfl, hF⟩; have HF := Lib.hid hF; obtain ⟨⟨y0, y1⟩, ⟨y2, y3⟩, y4, y5⟩ := three_free hF.r0 hF.r1 hF.r2 (.int .i64 0) (.bool false); clear hF))
    obtain ⟨t0, t1, t2⟩ := three_set HF.out.r0 HF.out.r1 HF.out.r2 (.int .i64 0) (.bool false) (.int .i64 z)
    exact ⟨_, results_c3 res25 rfl rfl rfl (load3 t0) (load4 t1) (load25 t2), rfl, three_below HF.out.below _ _ _⟩
theorem holds_w (t k : Int) (c : Nat) (w : World) (hc : c < 2 ^ 64) (r : Bool × Int) (hr : r = holdsF t k c) :
    Calls Tryd.prog 23 #[.int .i64 t, .int .i64 k, .int .u64 c] w fun e w' => e = .returned (.tuple #[.bool r.1, .int .i64 r.2]) ∧ Below w.heap.size w w' := by
  have hb := callsIn_wide.1 (breaks_in t k c w hc (breaksF t k c) rfl)
  have hcf : r = ((breaksF t k c).2.2 == 0 && !(breaksF t k c).2.1, (breaksF t k c).2.2) := hr
  clear hr hc
  generalize breaksF t k c = q at *
  obtain ⟨q1, q2, q3⟩ := q
  subst hcf
  have HB := Lib.hid hb
  clear hb
  cases h3 : (q3 == 0)
  all_goals
    go_enter Tryd.func23, Tryd.ntmps23
    go_wp2_with fail
    refine HB.out.mono ?_
    rintro e w1 ⟨rfl, hb1⟩
    have HB1 := Lib.hid hb1
    clear hb1
    go_wp2_with fail
    go_ret2
    exact ⟨rfl, HB1.out⟩
end Go.Proofs.YtgekpnbgmbbbdaaDoor
