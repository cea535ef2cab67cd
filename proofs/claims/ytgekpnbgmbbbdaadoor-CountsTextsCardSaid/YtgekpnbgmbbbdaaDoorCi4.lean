/- The walk of the program's Sum. -/
import Derived.Test.YtgekpnbgmbbbdaaDoorCi3
namespace Go.Proofs.YtgekpnbgmbbbdaaDoor
open Go Go.RowKit Go.Shelf Go.Proofs.YtgekpnbgmbbbdaaDoorW.PrintWords Go.Proofs.YtgekpnbgmbbbdaaDoorW.PrintLast Go.Proofs.YtgekpnbgmbbbdaaDoorW.PrintMore
attribute [local go_sem] Oper.semAt_some
/-- The temporaries between two sets. -/
def smT (m : Nat) (A0 : Nat) (A : Option Addr) (n c : Nat) (v7 v9 v10 v23 v24 v25 v26 v27 v28 v29 v42 v43 : Value) : Array Value :=
  #[.int .i64 m, .slice A n c, .pointer (some ⟨A0, 0, none⟩), undef, .int .u64 0, .int .i64 0, .int .i64 0, v7, undef, v9, v10, undef, undef, .int .i64 m, .slice A n c, .int .i64 0, .int .i64 0, .bool false, undef, .int .i64 m, .int .u64 1, .slice A n c, .int .i64 n, v23, v24, v25, v26, v27, v28, v29, undef, undef, undef, undef, undef, undef, undef, undef, undef, undef, undef, undef, v42, v43, undef]
/-- The temporaries in a round over the sum's elements; in one over the set's. -/
def smO (m A0 : Nat) (A : Addr) (n c s x B i : Nat) (v42 v43 v11 v30 : Value) : Array Value :=
  #[.int .i64 m, .slice (some A) n c, .pointer (some ⟨A0, 0, none⟩), undef, .int .u64 0, .int .i64 0, .int .i64 0, .int .u64 s, undef, .pointer (some ⟨B, 0, none⟩), .pointer (some ⟨B + 1, 0, none⟩), v11, undef, .int .i64 m, .slice (some A) n c, .int .i64 0, .int .i64 0, .bool false, undef, .int .i64 m, .int .u64 1, .slice (some A) n c, .int .i64 n, .int .i64 i, .bool true, .pointer (some (A.add i)), .int .u64 x, .int .i64 m, .int .u64 s, .func (.func 50) #[] #[.pointer (some ⟨B + 1 + 1, 0, none⟩), .pointer (some ⟨B + 1 + 1 + 1, 0, none⟩)], v30, undef, undef, undef, undef, undef, undef, undef, undef, undef, undef, undef, v42, v43, undef]
def smN (m A0 : Nat) (A : Addr) (n c s x B i : Nat) (v42 v43 v11 v30 : Value) (C : Nat) (v12 v34 : Value) : Array Value :=
  #[.int .i64 m, .slice (some A) n c, .pointer (some ⟨A0, 0, none⟩), undef, .int .u64 0, .int .i64 0, .int .i64 0, .int .u64 s, undef, .pointer (some ⟨B, 0, none⟩), .pointer (some ⟨B + 1, 0, none⟩), v11, v12, .int .i64 m, .slice (some A) n c, .int .i64 0, .int .i64 0, .bool false, undef, .int .i64 m, .int .u64 1, .slice (some A) n c, .int .i64 n, .int .i64 i, .bool true, .pointer (some (A.add i)), .int .u64 x, .int .i64 m, .int .u64 s, .func (.func 50) #[] #[.pointer (some ⟨B + 1 + 1, 0, none⟩), .pointer (some ⟨B + 1 + 1 + 1, 0, none⟩)], v30, .int .i64 m, .int .u64 x, .func (.func 50) #[] #[.pointer (some ⟨C, 0, none⟩), .pointer (some ⟨C + 1, 0, none⟩)], v34, undef, undef, undef, undef, undef, undef, undef, v42, v43, undef]
/-- What holds between two elements of the sum; of the set. -/
def OuI (m : Nat) (eb : List (Fin 64)) (b : Nat) (w W0 : World) (pre : List (Fin 64)) (W : World) : Prop := (Boxed W b 24 (.int .u64 (outs m eb pre : Nat)) ∧ Below w.heap.size w W) ∧ ExB b W0.heap.size W0 W
def InI (m a x : Nat) (b N0 : Nat) (w W W1 : World) (pre : List (Fin 64)) (W' : World) : Prop := (Boxed W' b 24 (.int .u64 (inn m x a pre : Nat)) ∧ Below w.heap.size w W') ∧ (ExB b W1.heap.size W1 W' ∧ KeepsFrom N0 W W')
theorem wrap_add63 (y z : Fin 64) : IntKind.i64.wrap (((y.1 : Nat) : Int) + ((z.1 : Nat) : Int)) = ((y.1 : Nat) : Int) + ((z.1 : Nat) : Int) := by
  have h1 := y.2
  have h2 := z.2
  simp [IntKind.wrap, IntKind.bits, IntKind.signed]
  omega
theorem below_alloc' {N : Nat} {a b : World} (h : Below N a b) (hN : N ≤ b.heap.size) (o : Obj) : Below N a (b.alloc o) := h.alloc hN o
theorem below_two {N : Nat} {a b c : World} (h : Below N a b) (k : Below N a c) (hs : b.heap.size ≤ c.heap.size) : Below N b c :=
  ⟨k.os.trans h.os.symm, k.tape.trans h.tape.symm, k.output.trans h.output.symm, hs, fun i hi => (k.block i hi).trans (h.block i hi).symm⟩
theorem kb_b {n₀ b2 b3 : Nat} {w : World} (hn : n₀ ≤ w.heap.size) (h2 : b2 < w.heap.size) (h3 : b3 < w.heap.size) (W : World) (l : Nat) (o o' : Obj) (hl : w.heap.size ≤ l) (h : W.heap[l]? = some o) (h4 : o.isCells = false) (h5 : o.isWalk = false) : KB2 n₀ b2 b3 W (W.putObj l o') :=
  ⟨belowK_b hn W l o o' hl h h4 h5, World.putObj_heap_other (fun e => by omega), World.putObj_heap_other (fun e => by omega)⟩
/-- What holds between two sets: the sum, the marks. -/
structure SmI (m : Nat) (L : List Nat) (w : World) (i : Nat) (ds : List Nat) (W : World) : Prop where
  le : i ≤ L.length
  box : Boxed W w.heap.size 3 (.int .i64 m)
  below : Below w.heap.size w W
  held : MK w.heap.size ds W
theorem one_w0 (t : Nat) (ht : t ≤ 62) (w : World) : Calls Tryd.prog 33 #[.int .i64 t, .int .i64 0] w fun e w' => e = .returned (.int .u64 1) ∧ w' = w := by
  have := one_w t 0 ht w
  rw [one_zero] at this
  exact this
set_option maxRecDepth 100000 in
set_option maxHeartbeats 1000000 in
theorem sum_in (t : Int) (okp : Nat → Prop) (A : Option Addr) (n c : Nat) (L : List Nat) (w : World) (hV : Kd.V (Kd.int .u64) 24 w 0 okp (.slice A n c) (u64s L)) (hlt : ∀ x ∈ L, x < 2 ^ 64) (hn : L.length ≤ 1152921504606846976) (r : Nat × Int) (hr : r = sumR t L) :
    CallsIn Fence.wide 6 Tryd.prog 17 #[.int .i64 t, .slice A n c] w fun e w' => e = .returned (.tuple #[.int .u64 (r.1 : Nat), .int .i64 r.2]) ∧ Below w.heap.size w w' := by
  have hchk := fun W (hb : Below w.heap.size w W) => check_w t _ _ _ _ L W (Kd.V_below hV hb) hlt hn
  have hCw := (Kd.V_reads' hV).2.2
  have hnL := (Kd.V_reads' hV).1
  rw [u64s_len] at hnL hCw
  have HCw := Lib.hid hCw
  have HCHK := Lib.hid hchk
  have HLT := Lib.hid hlt
  clear hV hchk hCw hlt
  subst hnL
  by_cases h0 : chkF t L = 0
  · have hcf : r = (sumF t.toNat L, 0) := by rw [hr]; unfold sumR; rw [if_pos h0]
    obtain ⟨m, rfl, hm⟩ := bnd_nat (chk_bnd h0)
    subst hcf
    have hm2 : (m : Int) ≤ 62 := by omega
    rw [h0] at HCHK
    have hone : ∀ W, Calls Tryd.prog 33 #[.int .i64 (m : Int), .int .i64 0] W fun e w' => e = .returned (.int .u64 1) ∧ w' = W := fun W => one_w0 m hm W
    have HONE := Lib.hid hone
    have hc1 := HCHK.out (w.alloc (.cells #[.int .i64 m] 3)) (below_alloc (Below.refl _ _) _)
    have HC1 := Lib.hid hc1
    clear hr h0 hone hc1
    refine callsIn_of_wp_marks Tryd.func17 rfl trivial ?_ rfl
    simp only [Tryd.ntmps17, List.size_toArray, List.length_cons, List.length_nil, Nat.reduceAdd, Nat.reduceSub, Array.replicate_succ, Array.replicate_zero, List.push_toArray, List.append_toArray, List.nil_append, List.cons_append]
    gi_wp2_with (first
      | (refine ⟨trivial, ?_⟩; gi_at_call 21; refine (callsIn_wide.2 HC1.out).mono ?_; rintro e w1 ⟨rfl, rfl⟩)
      | (refine ⟨trivial, ?_⟩; gi_at_call 33; refine (callsIn_wide.2 (HONE.out _)).mono ?_; rintro e w2 ⟨rfl, rfl⟩))
    refine wpIn_loop (fun a' W => ∃ i ds v9 v10 v24 v25 v26 v27 v28 v29 v42 v43, a' = { tmps := smT m w.heap.size A L.length c (.int .u64 (sumF m (L.take i) : Nat)) v9 v10 (.int .i64 (i : Nat)) v24 v25 v26 v27 v28 v29 v42 v43, defers := marks ds } ∧ SmI m L w i ds W) (fun a' _ => L.length - (intOf (a'.tmps.getD 23 undef)).toNat) ?_ ?_
    · exact ⟨0, [], undef, undef, undef, undef, undef, undef, undef, undef, undef, undef, rfl, Nat.zero_le _, Boxed.new _ _ _, below_alloc (Below.refl _ _) _, MK.nil _ _⟩
    rintro a' wr ⟨i, ds, v9, v10, v24, v25, v26, v27, v28, v29, v42, v43, rfl, hi, hbox, hbl, hmk⟩
    have hs64 : sumF m (L.take i) < 2 ^ 64 := sumF_lt hm _ _ (by decide)
    have HS := Lib.hid hs64
    have hbc := hbox.cell
    clear hs64
    dsimp only [smT]
    have hli : i < L.length ∨ i = L.length := by omega
    rcases hli with hlt | hlt
    · have hsn := sumF_take (t := m) hlt
      obtain ⟨ad, rfl, hel⟩ := C_u64_at (Kd.C_below HCw.out hbl) i hlt
      have hmem : L.getD i 0 < 2 ^ 64 := HLT.out _ (by rw [List.getD_eq_getElem?_getD, List.getElem?_eq_getElem hlt, Option.getD_some]; exact List.getElem_mem hlt)
      generalize L.getD i 0 = x at hsn hel hmem
      generalize hss : sumF m (L.take i) = s at hsn HS
      have HM := Lib.hid hmem
      have HSN := Lib.hid hsn
      have hi64 : (i : Int) < (L.length : Int) := by omega
      clear hmem hsn hss
      obtain ⟨dsm, hdsm⟩ : ∃ dsm, dsm = marks ds := ⟨_, rfl⟩
      rw [← hdsm]
      have hbA := fun o => Lib.cell?_alloc_some o hbc
      have hbB := fun o o' => Lib.cell?_alloc_some o' (Lib.cell?_alloc_some o hbc)
      have h64 : m + 2 ≤ 64 := by omega
      gi_wp2_with (first
        | (refine ⟨trivial, ?_⟩; gi_at_call 36; refine (cmaker _ _ _ _).mono ?_; rintro e w2 ⟨rfl, rfl⟩))
      clear hbA hbB hbc hel
      have bE := (((Boxed.new wr 24 (.int .u64 x)).alloc (.cells #[.int .u64 0] 24)).alloc (.cells #[.int .i64 m] 3)).alloc (.cells #[.int .u64 s] 24)
      have bC := ((Boxed.new (wr.alloc (.cells #[.int .u64 x] 24)) 24 (.int .u64 0)).alloc (.cells #[.int .i64 m] 3)).alloc (.cells #[.int .u64 s] 24)
      have bM := (Boxed.new ((wr.alloc (.cells #[.int .u64 x] 24)).alloc (.cells #[.int .u64 0] 24)) 3 (.int .i64 m)).alloc (.cells #[.int .u64 s] 24)
      have bS := Boxed.new (((wr.alloc (.cells #[.int .u64 x] 24)).alloc (.cells #[.int .u64 0] 24)).alloc (.cells #[.int .i64 m] 3)) 24 (.int .u64 s)
      simp only [World.size_alloc] at bC bM bS
      have bA := (((hbox.alloc (.cells #[.int .u64 x] 24)).alloc (.cells #[.int .u64 0] 24)).alloc (.cells #[.int .i64 m] 3)).alloc (.cells #[.int .u64 s] 24)
      have hB0 : Below wr.heap.size wr ((((wr.alloc (.cells #[.int .u64 x] 24)).alloc (.cells #[.int .u64 0] 24)).alloc (.cells #[.int .i64 m] 3)).alloc (.cells #[.int .u64 s] 24)) := below_alloc (below_alloc (below_alloc (below_alloc (Below.refl _ _) _) _) _) _
      have hsz : ((((wr.alloc (.cells #[.int .u64 x] 24)).alloc (.cells #[.int .u64 0] 24)).alloc (.cells #[.int .i64 m] 3)).alloc (.cells #[.int .u64 s] 24)).heap.size = wr.heap.size + 4 := by simp
      generalize (((wr.alloc (.cells #[.int .u64 x] 24)).alloc (.cells #[.int .u64 0] 24)).alloc (.cells #[.int .i64 m] 3)).alloc (.cells #[.int .u64 s] 24) = W0 at bE bC bM bS bA hB0 hsz ⊢
      have hwz := hbl.size
      have hA0 := hbox.lt
      have hbl0 : Below w.heap.size w W0 := hbl.trans (hB0.mono hwz)
      have hmk0 := hmk.below hB0
      have hmklt := fun D (hD : D ∈ ds) => hmk.lt hD
      obtain ⟨B, hBB⟩ : ∃ B, B = wr.heap.size := ⟨_, rfl⟩
      rw [← hBB] at bE bC bM bS hB0 hsz hwz hA0 hmklt ⊢
      clear hbl hmk hbox hB0 hBB HCHK HC1 HONE HLT
      refine wpIn_rangeFunc_ownH (F := Fence.wide) (n := 6) rfl (by omega) (gf := 50) (lb := #[.pointer (some ⟨B + 1 + 1, 0, none⟩), .pointer (some ⟨B + 1 + 1 + 1, 0, none⟩)]) rfl trivial (enters_of Tryd.func50 (by kernel_rfl) rfl)
        (cstops (6 - 1) (by omega) (B + 1 + 1) (B + 1 + 1 + 1) w.heap.size m s hm HS.out h64 W0 (by omega) (by omega) bM.cell bS.cell) KB2.trans (kb_b (by omega) (by omega) (by omega)) (Below.refl _ _) (fun _ => rfl)
        (OuI m (elsTo x (m + 2) h64) (B + 1) w W0)
        (fun _ _ _ => False)
        (OwnFrom.and (OwnFrom.and (Own.from (boxed_own _ _ (fun pre => Value.int .u64 (outs m (elsTo x (m + 2) h64) pre : Nat))) _) (ownFrom_below (Nat.le_refl _) (by omega))) (ExB.own (Nat.le_refl _) (Nat.le_refl _)))
        (fun _ _ _ _ _ hs _ _ => hs)
        ⟨⟨bC, hbl0⟩, ExB.refl _ _ _⟩
        (fun y a' W => ∃ Bx, W0.heap.size ≤ Bx ∧ Boxed W Bx 3 (.int .i64 ((y.1 : Nat) : Int)) ∧ a' = { tmps := smO m w.heap.size ad L.length c s x B i v42 v43 (.pointer (some ⟨Bx, 0, none⟩)) (.int .i64 ((y.1 : Nat) : Int)), defers := [] })
        (fun y a' _ X Y row hs hg hr => by obtain ⟨Bx, h1, h2, h3⟩ := hs; exact ⟨Bx, h1, boxed_own Bx 3 (fun (_ : Unit) => Value.int .i64 ((y.1 : Nat) : Int)) () X Y row h2 hg (fun r e => (hr r e).2), h3⟩)
        ?assign ?body ?done ?stop
      case assign =>
        rintro l pre y W K ⟨⟨hC1, hb1⟩, hx1⟩ hK
        gi_wp2
        have := hx1.size
        exact hK _ _ ((KeepsOthers.alloc _ _).from _) ⟨(Below.refl _ W).alloc hb1.size _, Below.heap_alloc _ _ _ (by omega), Below.heap_alloc _ _ _ (by omega)⟩ ⟨⟨hC1.alloc _, hb1.alloc hb1.size _⟩, hx1.alloc this _⟩ ⟨W.heap.size, this, Boxed.new W 3 _, rfl⟩
      case body =>
        rintro l pre y a' W hl ⟨r, hr⟩ ⟨⟨hC1, hb1⟩, hx1⟩ ⟨Bx, hBx, hX1, rfl⟩ hlt2
        have hA1 := hx1.boxed (by omega) (by omega) bA
        have hE1 := hx1.boxed (by omega) (by omega) bE
        have hAc := hA1.cell
        have hEc := hE1.cell
        have hsW := hx1.size
        dsimp only [smO]
        gi_wp2_with ((first | refine ⟨trivial, ?_⟩ | skip); gi_at_call 36; refine (CallsIn.inRound l (cmaker _ _ _ _)).mono ?_; rintro e w2 ⟨rfl, rfl⟩)
        have bN := (Boxed.new W 3 (.int .i64 m)).alloc (.cells #[.int .u64 x] 24)
        have bT := Boxed.new (W.alloc (.cells #[.int .i64 m] 3)) 24 (.int .u64 x)
        simp only [World.size_alloc] at bT
        have hC2 := (hC1.alloc (.cells #[.int .i64 m] 3)).alloc (.cells #[.int .u64 x] 24)
        have hr' : ((W.alloc (.cells #[.int .i64 m] 3)).alloc (.cells #[.int .u64 x] 24)).heap[l]? = some (.loop r) := (Below.heap_alloc _ _ l (by rw [World.size_alloc]; have := (Array.getElem?_eq_some_iff.1 hr).1; omega)).trans ((Below.heap_alloc W _ l (Array.getElem?_eq_some_iff.1 hr).1).trans hr)
        have hb2 : Below w.heap.size w ((W.alloc (.cells #[.int .i64 m] 3)).alloc (.cells #[.int .u64 x] 24)) := below_alloc' (below_alloc' hb1 (by omega) _) (by rw [World.size_alloc]; omega) _
        have hx2 : ExB (B + 1) W.heap.size W ((W.alloc (.cells #[.int .i64 m] 3)).alloc (.cells #[.int .u64 x] 24)) := ((ExB.refl _ _ _).alloc (Nat.le_refl _) _).alloc (by simp) _
        have hk2 : KeepsFrom W0.heap.size W ((W.alloc (.cells #[.int .i64 m] 3)).alloc (.cells #[.int .u64 x] 24)) := ((KeepsOthers.alloc _ _).trans (KeepsOthers.alloc _ _)).from _
        have hsz2 : ((W.alloc (.cells #[.int .i64 m] 3)).alloc (.cells #[.int .u64 x] 24)).heap.size = W.heap.size + 2 := by simp
        generalize (W.alloc (.cells #[.int .i64 m] 3)).alloc (.cells #[.int .u64 x] 24) = W1 at bN bT hC2 hr' hb2 hx2 hk2 hsz2 ⊢
        have hlX := hX1.lt
        have hw1 := hb1.size
        refine wpIn_rangeFunc_ownN (l₀ := l) (r₀ := r) rfl hr' (by omega) (gf := 50) (lb := #[.pointer (some ⟨W.heap.size, 0, none⟩), .pointer (some ⟨W.heap.size + 1, 0, none⟩)]) rfl trivial (enters_of Tryd.func50 (by kernel_rfl) rfl)
          ((cstops (4 - 1) (by omega) W.heap.size (W.heap.size + 1) w.heap.size m x hm HM.out h64 W1 (by omega) (by omega) bN.cell bT.cell).inRound l) KB2.trans (kb_b (by omega) (by omega) (by omega)) (Below.refl _ _) (fun _ => rfl)
          (InI m (outs m (elsTo x (m + 2) h64) pre) y.1 (B + 1) W0.heap.size w W W1)
          (fun _ _ _ => False)
          (OwnFrom.and (OwnFrom.and (Own.from (boxed_own _ _ (fun pre' => Value.int .u64 (inn m y.1 (outs m (elsTo x (m + 2) h64) pre) pre' : Nat))) _) (ownFrom_below (Nat.le_refl _) (by omega))) (OwnFrom.and (ExB.own (Nat.le_refl _) (Nat.le_refl _)) (ownFrom_keepsFrom (by omega))))
          (fun _ _ _ _ _ hs _ _ => hs)
          ⟨⟨hC2, hb2⟩, ExB.refl _ _ _, hk2⟩
          (fun z a'' _ => a'' = { tmps := smN m w.heap.size ad L.length c s x B i v42 v43 (.pointer (some ⟨Bx, 0, none⟩)) (.int .i64 ((y.1 : Nat) : Int)) W.heap.size (.int .i64 ((z.1 : Nat) : Int)) (.int .i64 ((z.1 : Nat) : Int)), defers := [] })
          (fun _ _ _ _ _ _ hs _ _ => hs)
          ?assign2 ?body2 ?done2 ?stop2
        case assign2 =>
          rintro l2 pre' z W' K hi hK
          gi_wp2
          exact hK _ _ (KeepsFrom.refl _ _) (KB2.refl _ _ _ _) hi rfl
        case body2 =>
          rintro l2 pre' z a'' W' _ _ ⟨⟨hC3, hb3⟩, hx3, hk3⟩ rfl _
          have cA := (hx3.boxed (by omega) (by omega) (hx2.boxed (by omega) (by omega) hA1)).cell
          have cX := (hx3.boxed (by omega) (by omega) (hx2.boxed (by omega) (by omega) hX1)).cell
          have cC := hC3.cell
          have fC := hC3.frozen
          have hor := or_u64 (inn m y.1 (outs m (elsTo x (m + 2) h64) pre) pre') (on m (y.1 + z.1)) (inn_lt hm _ _ _ (outs_lt hm _ _)) (on_lt hm)
          have hy63 : ((y.1 : Nat) : Int) ≤ 63 := by have := y.2; omega
          have hz63 : ((z.1 : Nat) : Int) ≤ 63 := by have := z.2; omega
          have hwr := wrap_add63 y z
          have hone := fun W => one_w2 m y.1 z.1 hm W
          have HONE := Lib.hid hone
          have hres : inn m y.1 (outs m (elsTo x (m + 2) h64) pre) (pre' ++ [z]) = inn m y.1 (outs m (elsTo x (m + 2) h64) pre) pre' ||| on m (y.1 + z.1) := inn_snoc _ _ _ _ _
          have HRES := Lib.hid hres
          have HC3 := Lib.hid hC3
          have HX3 := Lib.hid hx3
          clear hone hres hC3 hx3 bE bC bM bS bA bN bT hC1 hC2 hx1 hx2 hr hr' hA1 hE1 hAc hEc hX1
          generalize inn m y.1 (outs m (elsTo x (m + 2) h64) pre) pre' = v at *
          generalize on m (y.1 + z.1) = v' at *
          dsimp only [smN]
          gi_wp2_with fail
          gi_region_with ((first | refine ⟨trivial, ?_⟩ | skip); gi_at_call 33; refine (CallsIn.inRound _ (CallsIn.inRound _ (callsIn_wide.2 (HONE.out _)))).mono ?_; rintro e w2 ⟨rfl, rfl⟩)
          all_goals
            gi_wp2
            refine ⟨((KeepsOthers.setCell _ _ _).trans (KeepsOthers.drew _)).from _, ⟨pw_below_drewN ((Below.refl _ W').setCell (p := ⟨B + 1, 0, none⟩) (by show w.heap.size ≤ B + 1; omega) _) 1, Below.heap_setCell W' ⟨B + 1, 0, none⟩ _ _ (by show W.heap.size ≠ B + 1; omega), Below.heap_setCell W' ⟨B + 1, 0, none⟩ _ _ (by show W.heap.size + 1 ≠ B + 1; omega)⟩, ⟨?_, pw_below_drewN (hb3.setCell (p := ⟨B + 1, 0, none⟩) (by show w.heap.size ≤ B + 1; omega) _) 1⟩, ExB.drew (HX3.out.set _), hk3.trans (((KeepsOthers.setCell _ _ _).trans (KeepsOthers.drew _)).from _)⟩
            rw [HRES.out]
            exact HC3.out.set _
        case done2 =>
          rintro ys' W' rfl ⟨⟨hC3, hb3⟩, hx3, hk3⟩
          gi_wp2
          have hxx : ExB (B + 1) W0.heap.size W0 W' := (hx1.trans (hx2.mono hsW)).trans (hx3.mono (by omega))
          exact ⟨hk3, hx1.kb hxx (below_two hb1 hb3 hk3.size) (by omega) (by omega) (by omega) (by omega), ⟨by rw [outs_snoc]; exact hC3, hb3⟩, hxx⟩
        case stop2 =>
          rintro c' pre' W' _ h
          exact h.elim
      case done =>
        rintro D ys W hD rfl ⟨⟨hC1, hb1⟩, hx1⟩ hK
        have hcc := hC1.cell
        gi_wp2
        have hS2 : outs m (elsTo x (m + 2) h64) (elsTo s (m + 2) h64) = sumF m (L.take (i + 1)) := by rw [HSN.out, addF_outs m s x h64]
        rw [hS2]
        refine ⟨⟨i + 1, D :: ds, _, _, _, _, _, _, _, _, _, _, rfl, by omega, hx1.boxed (by omega) (by omega) bA, hb1, (hmk0.ex hx1 (Nat.le_refl _) (.inr ⟨_, _, bC⟩)).cons (fun E hE => by have := hmklt E hE; omega) (by omega) hK⟩, ?_⟩
        simp [intOf]; omega
      case stop =>
        rintro D c pre W _ _ h _
        exact h.elim
    · subst hlt
      gi_wp2
      refine leaves_marks hmk ⟨_, results_tmp2 rfl _ _ _, ?_, hbl.trans (offs_below hmk.ge)⟩
      rw [List.take_length]
      rfl
  · have hcf : r = (0, chkF t L) := by rw [hr]; unfold sumR; rw [if_neg h0]
    obtain ⟨z, hz⟩ : ∃ z, z = chkF t L := ⟨_, rfl⟩
    rw [← hz] at HCHK hcf h0
    subst hcf
    have e0 : (z == 0) = false := by simpa using h0
    have hc1 := HCHK.out (w.alloc (.cells #[.int .i64 t] 3)) (below_alloc (Below.refl _ _) _)
    have HC1 := Lib.hid hc1
    clear hr h0 hz hc1
    refine callsIn_of_wp_marks Tryd.func17 rfl trivial ?_ rfl
    simp only [Tryd.ntmps17, List.size_toArray, List.length_cons, List.length_nil, Nat.reduceAdd, Nat.reduceSub, Array.replicate_succ, Array.replicate_zero, List.push_toArray, List.append_toArray, List.nil_append, List.cons_append]
    gi_wp2_with (first
      | (refine ⟨trivial, ?_⟩; gi_at_call 21; refine (callsIn_wide.2 HC1.out).mono ?_; rintro e w1 ⟨rfl, rfl⟩))
    exact ⟨_, results_tmp2 rfl _ _ _, rfl, below_alloc (Below.refl _ _) _⟩
end Go.Proofs.YtgekpnbgmbbbdaaDoor
