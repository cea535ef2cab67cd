/- The walks of ways, Cubes, Any, cubes and BddCubes. -/
import Derived.Test.YtbglnddjhlefnaaTz
import Derived.Test.YtbglnddjhlefnaaPz
import Derived.Laws.MakeOwn
import Derived.Laws.IdiomStrings
namespace Go.Proofs.Ytbglnddjhlefnaa
open Go Go.RowKit Go.Proofs.YtbglnddjhlefnaaW.PrintWords Go.Proofs.YtbglnddjhlefnaaW.PrintLast Go.Proofs.YtbglnddjhlefnaaW.PrintMore
theorem Try.info5 : (Try.prog.info? 5).map (fun i => (i.zero, i.size, i.bytes)) = some (some (.int .u8 0), 1, 1) := by kernel_rfl
theorem Try.info9 : (Try.prog.info? 9).map (fun i => (i.zero, i.size, i.bytes)) = some (some (.string ⟨#[]⟩), 1, 16) := by kernel_rfl
/-- A row of bytes. -/
def By (b : Nat) (t : Txt) (w : World) : Prop := w.heap[b]? = some (.cells (t.map (fun c : UInt8 => Value.int .u8 (c.toNat : Nat))).toArray 5 (0, 0))
section
variable {g : Nat} {S : Nat → Prop} {T : Bd} {w w' : World}
set_option maxRecDepth 100000 in
set_option maxHeartbeats 1000000 in
theorem blank_w (h : Tab g S T w) (hb : T.bits ≤ 128) : Calls Try.prog 44 #[.pointer (some ⟨g, 0, none⟩)] w fun e w' => ∃ b, e = .returned (.slice (some ⟨b, 0, none⟩) T.bits T.bits) ∧ By b (blankT T.bits) w' ∧ w.heap.size ≤ b ∧ Below w.heap.size w w' := by
  obtain ⟨i0, hinf, hzz⟩ := Option.map_eq_some_iff.1 Try.info5
  simp only [Prod.mk.injEq] at hzz
  obtain ⟨rb, ub, kb, v, h⟩ := h
  have d2 := blk_cell h.box 2 (.int .i64 T.bits) rfl
  obtain ⟨n, hn⟩ : ∃ n, n = T.bits := ⟨_, rfl⟩
  rw [← hn] at d2 hb ⊢
  have hrun := run_make (P := Try.prog) w 29 5 i0 (.int .u8 0) Try.underlying29 hinf hzz.1 .i64 .i64 (n : Int) (n : Int) (by omega) (by omega) (by rw [hzz.2.2]; omega) (by omega)
  rw [hzz.2.1, Nat.mul_one, Int.toNat_natCast] at hrun
  obtain ⟨W1, hW1⟩ : ∃ W1, W1 = w.alloc (.cells (madeCells (Value.int .u8 0).cells n) 5) := ⟨_, rfl⟩
  rw [← hW1] at hrun
  have hst : ∃ cs : Array Value, W1.heap[w.heap.size]? = some (.cells cs 5 (0, 0)) ∧ cs.size = n ∧ ∀ k, k < 0 → cs[k]? = some (Value.int .u8 120) := ⟨_, by rw [hW1]; exact heap_alloc_new w _, size_madeCells _ _, fun k hk => by omega⟩
  have hB : Below w.heap.size w W1 := by rw [hW1]; exact below_alloc (Below.refl _ _) _
  obtain ⟨b, hbb⟩ : ∃ b, b = w.heap.size := ⟨_, rfl⟩
  rw [← hbb] at hrun hst
  have HST := Lib.hid (And.intro hst hB)
  have HBB := Lib.hid hbb
  have hnn := Lib.hid hn
  clear h hst hB hbb hn hW1
  go_enter Try.func44, Try.ntmps44
  go_wp2_with fail
  go_loopw [12] (fun v12 wr => ∃ i : Nat, v12 = .int .i64 i ∧ i ≤ n ∧ Hid ((∃ cs : Array Value, wr.heap[b]? = some (.cells cs 5 (0, 0)) ∧ cs.size = n ∧ ∀ k, k < i → cs[k]? = some (Value.int .u8 120)) ∧ Below w.heap.size w wr)) (fun v12 _ => n - (intOf v12).toNat)
  case atStart => exact ⟨0, rfl, by omega, HST⟩
  case round =>
    clear HST hrun d2
    obtain ⟨i, rfl, hi, hrel⟩ := hrel
    obtain ⟨⟨cs, h1, h2, h3⟩, h4⟩ := hrel.out
    rcases Nat.lt_or_ge i n with hlt | hge
    · obtain ⟨x, hci⟩ : ∃ x, cs[i]? = some x := ⟨_, Array.getElem?_eq_getElem (by omega)⟩
      have c0 := blk_cell h1 i _ hci
      have f0 := blk_free h1 i
      have hi64 : (i : Int) < (n : Int) := by omega
      have hin : (n : Int) ≤ 128 := by omega
      have hi0 : (0 : Int) ≤ (i : Int) := by omega
      have HS : Hid ((∃ cs : Array Value, (wr.setCell ⟨b, i, none⟩ (.int .u8 120)).heap[b]? = some (.cells cs 5 (0, 0)) ∧ cs.size = n ∧ ∀ k, k < i + 1 → cs[k]? = some (Value.int .u8 120)) ∧ Below w.heap.size w (wr.setCell ⟨b, i, none⟩ (.int .u8 120))) := by
        refine Lib.hid ⟨⟨_, blk_set h1 i (.int .u8 120), by simpa using h2, fun k hk => ?_⟩, h4.setCell (p := ⟨b, i, none⟩) (by rw [HBB.out]; exact Nat.le_refl _) _⟩
        rw [Array.getElem?_setIfInBounds]
        by_cases hik : i = k
        · subst hik
          rw [if_pos rfl, if_pos (by omega)]
        · rw [if_neg hik]
          exact h3 k (by omega)
      clear h1 h2 h3 h4 hrel hci
      go_wp2_with fail
      go_roundw
      case rel => exact ⟨i + 1, by go_num, by omega, HS⟩
      case measure => simp [intOf]; omega
    · have hi64 : decide ((i : Int) < (n : Int)) = false := decide_eq_false (by omega)
      have hE : By b (blankT n) wr := by
        unfold By
        rw [h1]
        congr 1
        refine congrArg (fun c => Obj.cells c 5 (0, 0)) ?_
        apply Array.ext_getElem?
        intro k
        unfold blankT
        rw [show ((List.replicate n (120 : UInt8)).map (fun c : UInt8 => Value.int .u8 (c.toNat : Nat))).toArray[k]? = ((List.replicate n (120 : UInt8)).map (fun c : UInt8 => Value.int .u8 (c.toNat : Nat)))[k]? from List.getElem?_toArray .., List.getElem?_map, List.getElem?_replicate]
        by_cases hk : k < n
        · rw [if_pos hk, h3 k (by omega)]
          rfl
        · rw [if_neg hk, Array.getElem?_eq_none (by omega)]
          rfl
      have HE := Lib.hid hE
      have H4 := Lib.hid h4
      clear h1 h2 h3 h4 hrel hE
      go_wp2_with fail
      go_ret
      exact ⟨b, rfl, HE.out, by rw [HBB.out]; exact Nat.le_refl _, H4.out⟩
def strV (t : Txt) : Value := .string ⟨t.toArray⟩
/-- A row of texts that grows: R its block. -/
structure TxAt (v : Value) (R : Nat → Prop) (l : List Txt) (w : World) : Prop where
  row : w.ownsRow 0 9 1 v l.length (l.map strV)
  rn : ∀ n, v.ownBlock = some n → R n
  lt : ∀ k, R k → k < w.heap.size
  ty : ∀ k, R k → ∃ cs, w.heap[k]? = some (.cells cs 9 (0, 0))
/-- What a call of ways did. -/
def WyP (bb : Nat) (R : Nat → Prop) (t : Txt) (l : List Txt) (w : World) (e : Ending) (w' : World) : Prop :=
  ∃ v' R', e = .returned v' ∧ TxAt v' R' l w' ∧ (∀ k, R' k → R k ∨ w.heap.size ≤ k) ∧ By bb t w' ∧ Chg (fun k => R k ∨ k = bb) w w'
theorem TxAt.step {v : Value} {R : Nat → Prop} {l : List Txt} (h : TxAt v R l w) (hs : w.heap.size ≤ w'.heap.size) (hb : ∀ k, R k → w'.heap[k]? = w.heap[k]?) : TxAt v R l w' :=
  ⟨ownsRow_step h.row (fun k hk => hb k (h.rn k hk)), h.rn, fun k hk => Nat.lt_of_lt_of_le (h.lt k hk) hs, fun k hk => by
    obtain ⟨cs, hc⟩ := h.ty k hk
    exact ⟨cs, (hb k hk).trans hc⟩⟩
theorem By.cell {b : Nat} {t : Txt} (h : By b t w) (i : Nat) (c : UInt8) (hi : t[i]? = some c) : w.cell? ⟨b, i, none⟩ = some (.int .u8 (c.toNat : Nat)) := by
  refine blk_cell h i _ ?_
  rw [List.getElem?_toArray, List.getElem?_map, hi]
  rfl
theorem By.set {b : Nat} {t : Txt} (h : By b t w) (i : Nat) (c : UInt8) (v : Value) (hv : v = .int .u8 (c.toNat : Nat)) : By b (t.set i c) (w.setCell ⟨b, i, none⟩ v) := by
  subst hv
  have := blk_set h i (.int .u8 (c.toNat : Nat))
  unfold By
  rw [this]
  congr 1
  refine congrArg (fun c => Obj.cells c 5 (0, 0)) ?_
  rw [List.setIfInBounds_toArray, List.map_set]
theorem By.ne_tx {b : Nat} {t : Txt} {v : Value} {R : Nat → Prop} {l : List Txt} (h : By b t w) (hT : TxAt v R l w) : ¬ R b := by
  intro hr
  obtain ⟨cs, hc⟩ := hT.ty b hr
  rw [h] at hc
  injection hc with hc
  injection hc with _ hc
  cases hc
theorem By.conv {b : Nat} {t : Txt} (h : By b t w) (c : Nat) : (convert 29 9 (.slice (some ⟨b, 0, none⟩) t.length c)).run Try.prog w = .ok (strV t) w :=
  run_convert_bytes_back w 29 9 5 ⟨b, 0, none⟩ c t Try.underlying29 Try.underlying5 Try.underlying9 (fun j hj => by
    rw [add_at, Nat.zero_add]
    exact h.cell j _ (List.getElem?_eq_getElem hj))
/-- One more text. -/
theorem TxAt.push {v : Value} {R : Nat → Prop} {l : List Txt} (h : TxAt v R l w) (t : Txt) (hl : l.length ≤ 4000000000) :
    ∃ v' w3 R', (Builtin.append_ #[22, 22] 22 #[v, .slice (some ⟨w.heap.size, 0, none⟩) 1 1]).run Try.prog (w.alloc (.cells #[strV t] 9)) = .ok v' w3 ∧ TxAt v' R' (l ++ [t]) w3 ∧ (∀ k, R' k → R k ∨ w.heap.size ≤ k) ∧ Chg R w w3 := by
  obtain ⟨i0, hinf, hzz⟩ := Option.map_eq_some_iff.1 Try.info9
  simp only [Prod.mk.injEq] at hzz
  have hbx := heap_alloc_new w (.cells #[strV t] 9)
  have hb := below_alloc (Below.refl _ w) (.cells #[strV t] 9)
  have h1 := h.step hb.size (fun k hk => hb.block k (h.lt k hk))
  have hnews : ∀ (j : Nat) (u : Value), [strV t][j]? = some u → (w.alloc (.cells #[strV t] 9)).cell? ((⟨w.heap.size, 0, none⟩ : Addr).add j) = some u := by
    intro j u hj
    rw [add_at, cell_of_row _ w.heap.size _ _ 9 (0, 0) hbx, Nat.zero_add]
    match j, hj with
    | 0, hj => exact hj
  have hone : ∀ u ∈ [strV t], u.oneCell' = true := by
    intro u hu
    rw [List.mem_singleton.1 hu]
    rfl
  obtain ⟨v', w3, hrun, hown, hgr, hnil, hwho⟩ := run_append_own_at (P := Try.prog) (w.alloc (.cells #[strV t] 9)) 0 22 22 9 i0 _ 1 16 Try.underlying22 hinf hzz.1 hzz.2.1 hzz.2.2 rfl (by omega) v l.length (l.map strV) h1.row
    ⟨w.heap.size, 0, none⟩ 1 1 [strV t] rfl hnews hone (by simp only [maxLen]; omega) (by omega) (Nat.zero_le _)
  have hsz : (w.alloc (.cells #[strV t] 9)).heap.size = w.heap.size + 1 := World.size_alloc _ _
  rcases hown.2 with ⟨_, h0⟩ | ⟨nb, cap, cur, rfl, _, hh, hnc, hcm, hcs, htk⟩
  · omega
  have hs3 : w.heap.size ≤ w3.heap.size := by have := hgr.size; omega
  have hchg : Chg R w w3 := ⟨hgr.os, hgr.tape, hgr.output, hs3, fun k hk hn => (hgr.block k (by omega) (fun e => hn (h.rn k e.symm))).trans (heap_alloc_old w _ hk)⟩
  refine ⟨_, w3, fun k => k = nb, hrun, ⟨?_, ?_, ?_, ?_⟩, ?_, hchg⟩
  · have : (l ++ [t]).length = l.length + 1 := by simp
    rw [this, List.map_append]
    exact hown
  · intro n hn
    simp only [Value.ownBlock, Option.some.injEq] at hn
    exact hn.symm
  · rintro k rfl
    exact (Array.getElem?_eq_some_iff.1 hh).1
  · rintro k rfl
    exact ⟨cur, hh⟩
  · rintro k rfl
    rcases hwho with he | he
    · exact .inl (h.rn k he.symm)
    · simp only [Value.ownBlock, Option.some.injEq] at he
      exact .inr (by rw [he, hsz]; omega)
end
end Go.Proofs.Ytbglnddjhlefnaa
namespace Go.Proofs.Ytbglnddjhlefnaa
open Go Go.RowKit Go.Proofs.YtbglnddjhlefnaaW.PrintWords Go.Proofs.YtbglnddjhlefnaaW.PrintLast Go.Proofs.YtbglnddjhlefnaaW.PrintMore
theorem wpList_append_run {P : Program} (w : World) {ops : Array Oper} {rest : List Oper} {o : Oper} {a : Act} {Q : Exit → Act → World → Prop} (hg : o.guard = none) (s x : Operand) (t : TypeId)
    (hop : o.op = Op.call { callee := Callee.builtin Builtin.append, args := #[s, x], argTypes := #[t, t] }) (v vx : Value) (hs : a.eval s = v) (hx : a.eval x = vx) (v' : Value) (w' : World) (hrun : (Builtin.append_ #[t, t] o.type #[v, vx]).run P w = .ok v' w')
    (hK : wpList P ops Q rest (a.put o.dst v') w') : wpList P ops Q (o :: rest) a w := by
  refine wpList_plain hg fun K' hK' => ?_
  unfold Oper.wp
  simp [execOp, hop, resolve, invoke, builtin, hs, hx, hrun, Result.andThen]
  exact hK' _ _ hK
section
variable {g bb : Nat} {S R : Nat → Prop} {T : Bd} {w w' : World} {v : Value} {t : Txt} {l : List Txt}
theorem TxAt.slice (h : TxAt v R l w) : ∃ A c, v = .slice A l.length c := by
  rcases h.row.2 with ⟨rfl, h0⟩ | ⟨q, cap, cur, rfl, _⟩
  · exact ⟨none, 0, by rw [h0]⟩
  · exact ⟨_, _, rfl⟩
set_option maxRecDepth 100000 in
theorem ways_stop (n m : Nat) (A : Option Addr) (k c : Nat) (bv : Value) (hs : n = 0 ∨ m < k) :
    Calls Try.prog 43 #[.pointer (some ⟨g, 0, none⟩), .int .i64 n, bv, .int .i64 m, .slice A k c] w fun e w' => e = .returned (.slice A k c) ∧ w = w' := by
  by_cases h0 : n = 0
  · subst h0
    clear hs
    go_enter Try.func43, Try.ntmps43
    go_wp2_with fail
    go_ret
    exact ⟨rfl, rfl⟩
  · have h1 := hs.resolve_left h0
    have t0 : ((n : Int) == 0) = false := by simp; omega
    have t1 : decide ((m : Int) < (k : Int)) = true := decide_eq_true (by omega)
    have t2 : decide (m < k) = true := decide_eq_true (by omega)
    clear hs h0 h1
    go_enter Try.func43, Try.ntmps43
    go_wp2_with fail
    go_ret
    exact ⟨rfl, rfl⟩
set_option maxRecDepth 100000 in
theorem ways_one (m : Nat) (hT : TxAt v R l w) (hB : By bb t w) (hl : ¬ m < l.length) (hm : m ≤ 1000000) :
    Calls Try.prog 43 #[.pointer (some ⟨g, 0, none⟩), .int .i64 1, .slice (some ⟨bb, 0, none⟩) t.length t.length, .int .i64 m, v] w (WyP bb R t (l ++ [t]) w) := by
  obtain ⟨A, c, rfl⟩ := hT.slice
  have hcv := hB.conv t.length
  obtain ⟨v', w3, R', hap, hT2, hR2, hch⟩ := hT.push t (by omega)
  have hB3 : By bb t w3 := (hch.block bb (blk_lt' hB) (hB.ne_tx hT)).trans hB
  have HE : Hid (WyP bb R t (l ++ [t]) w (.returned v') w3) := Lib.hid ⟨v', R', rfl, hT2, hR2, hB3, ⟨hch.os, hch.tape, hch.output, hch.size, fun k hk hn => hch.block k hk (fun h => hn (.inl h))⟩⟩
  have t1 : decide ((m : Int) < (l.length : Int)) = false := decide_eq_false (by omega)
  have t2 : decide (m < l.length) = false := decide_eq_false (by omega)
  generalize l.length = k at hap t1 t2 ⊢
  generalize t.length = tl at hcv ⊢
  unfold strV at hcv hap
  generalize ByteArray.mk t.toArray = sv at hcv hap
  have HAP := Lib.hid hap
  clear hT hB hl hm hT2 hR2 hch hB3 hap
  go_enter Try.func43, Try.ntmps43
  go_wp2_with (at_builtin; refine wpList_append_run _ rfl (.tmp 25) (.tmp 28) 22 rfl (.slice A k c) (.slice (some ⟨w.heap.size, 0, none⟩) 1 1) rfl rfl v' w3 HAP.out ?_)
  go_ret
  exact HE.out
set_option maxRecDepth 100000 in
set_option maxHeartbeats 4000000 in
theorem ways_go (n n0 n1 n2 m k c tl : Nat) (A : Option Addr) (w : World) (P1 P2 : Nat → Option Addr → Nat → Nat → World → Prop) (Po : Ending → World → Prop) (hn : 2 ≤ n) (hm : ¬ m < k) (h0 : n0 < tl) (htl : tl ≤ 128)
    (ca : Calls Try.prog 46 #[.pointer (some ⟨g, 0, none⟩), .int .i64 n] w fun e w' => e = .returned (.agg #[.int .i64 n0, .int .i64 n1, .int .i64 n2]) ∧ Below w.heap.size w w' ∧ (∃ x, w'.cell? ⟨bb, n0, none⟩ = some x) ∧ w'.frozen? ⟨bb, n0, none⟩ = false)
    (hx : ∀ w1, Below w.heap.size w w1 → Calls Try.prog 43 #[.pointer (some ⟨g, 0, none⟩), .int .i64 n1, .slice (some ⟨bb, 0, none⟩) tl tl, .int .i64 m, .slice A k c] ((w1.setCell ⟨bb, n0, none⟩ (.int .u8 48)).alloc (.cells #[.int .i64 n0, .int .i64 n1, .int .i64 n2] 95)) fun e W => ∃ A1 k1 c1, e = .returned (.slice A1 k1 c1) ∧ P1 w1.heap.size A1 k1 c1 W)
    (b1 : ∀ g1 A1 k1 c1 W, P1 g1 A1 k1 c1 W → Bn g1 n0 n1 n2 W ∧ (∃ x, W.cell? ⟨bb, n0, none⟩ = some x) ∧ W.frozen? ⟨bb, n0, none⟩ = false ∧ bb ≠ g1)
    (hy : ∀ g1 A1 k1 c1 W, P1 g1 A1 k1 c1 W → Calls Try.prog 43 #[.pointer (some ⟨g, 0, none⟩), .int .i64 n2, .slice (some ⟨bb, 0, none⟩) tl tl, .int .i64 m, .slice A1 k1 c1] (W.setCell ⟨bb, n0, none⟩ (.int .u8 49)) fun e W => ∃ A2 k2 c2, e = .returned (.slice A2 k2 c2) ∧ P2 g1 A2 k2 c2 W)
    (b2 : ∀ g1 A1 k1 c1 W, P2 g1 A1 k1 c1 W → Bn g1 n0 n1 n2 W ∧ (∃ x, W.cell? ⟨bb, n0, none⟩ = some x) ∧ W.frozen? ⟨bb, n0, none⟩ = false ∧ bb ≠ g1)
    (hz : ∀ g1 A2 k2 c2 W, P2 g1 A2 k2 c2 W → Po (.returned (.slice A2 k2 c2)) (W.setCell ⟨bb, n0, none⟩ (.int .u8 120))) :
    Calls Try.prog 43 #[.pointer (some ⟨g, 0, none⟩), .int .i64 n, .slice (some ⟨bb, 0, none⟩) tl tl, .int .i64 m, .slice A k c] w Po := by
  have t0 : ((n : Int) == 0) = false := by simp; omega
  have t1 : decide ((m : Int) < (k : Int)) = false := decide_eq_false (by omega)
  have t2 : decide (m < k) = false := decide_eq_false hm
  have t3 : ((n : Int) == 1) = false := by simp; omega
  have u0 : (n0 : Int) < (tl : Int) := by omega
  have u1 : (tl : Int) ≤ 128 := by omega
  have CA := Lib.hid ca
  have HX := Lib.hid hx
  have B1 := Lib.hid b1
  have HY := Lib.hid hy
  have B2 := Lib.hid b2
  have HZ := Lib.hid hz
  clear ca hx b1 hy b2 hz hn hm h0 htl
  go_enter Try.func43, Try.ntmps43
  go_wp2_with fail
  refine CA.out.mono ?_
  rintro e w1 ⟨rfl, hb, ⟨x, c0⟩, f0⟩
  have HXX := Lib.hid (HX.out w1 hb)
  have hbb := World.block_lt_of_cell? _ _ c0
  have hne : bb ≠ w1.heap.size := by
    have : bb < w1.heap.size := hbb
    omega
  clear CA HX hb
  have e0 := fun o => Lib.cell?_alloc_some o c0
  go_wp2_with fail
  refine HXX.out.mono ?_
  rintro e W1 ⟨A1, k1, c1, rfl, p1⟩
  obtain ⟨g1, hg1⟩ : ∃ g1, g1 = w1.heap.size := ⟨_, rfl⟩
  rw [← hg1] at p1
  rw [← hg1]
  obtain ⟨bx1, ⟨x1, cc1⟩, ff1, hn1⟩ := B1.out _ _ _ _ _ p1
  have HYY := Lib.hid (HY.out _ _ _ _ _ p1)
  obtain ⟨y0, y1, y2⟩ := bx1.cells
  have bx1' : Bn g1 n0 n1 n2 (W1.setCell ⟨bb, n0, none⟩ (.int .u8 49)) := (Below.heap_setCell _ _ _ _ (fun e => hn1 e.symm)).trans bx1
  obtain ⟨r0, r1, r2⟩ := bx1'.cells
  clear p1 bx1 bx1' HXX HY c0 f0 e0 hbb hne hg1
  go_wp2_with fail
  refine HYY.out.mono ?_
  rintro e W2 ⟨A2, k2, c2, rfl, p2⟩
  obtain ⟨bx2, ⟨x2, cc2⟩, ff2, hn2⟩ := B2.out _ _ _ _ _ p2
  have HZZ := Lib.hid (HZ.out _ _ _ _ _ p2)
  obtain ⟨z0, z1, z2⟩ := bx2.cells
  clear p2 bx2 HYY HZ B1 B2 y0 y1 y2 r0 r1 r2 cc1 ff1
  go_wp2_with fail
  exact HZZ.out
theorem set_back (t : Txt) (k : Nat) (c : UInt8) (h : t[k]? = some c) : t.set k c = t := by
  apply List.ext_getElem?
  intro i
  rw [List.getElem?_set]
  split
  · rename_i hk
    subst hk
    have hl := (List.getElem?_eq_some_iff.1 h).1
    rw [if_pos hl, h]
  · rfl
theorem ways_w (hbits : T.bits ≤ 128) (hw : WF T.bits T.N) (hN : T.N.length ≤ 4000000000) (hnS : ¬ S bb) (m : Nat) (hm : m ≤ 1000000) : ∀ (f n : Nat) (t : Txt) (l : List Txt) (v : Value) (R : Nat → Prop) (w : World), Tab g S T w → By bb t w → TxAt v R l w → (∀ k, R k → ¬ S k) → Val T.N n → n < f → t.length = T.bits → xFrom t (bitOf T.bits T.N n) →
    Calls Try.prog 43 #[.pointer (some ⟨g, 0, none⟩), .int .i64 n, .slice (some ⟨bb, 0, none⟩) T.bits T.bits, .int .i64 m, v] w (WyP bb R t (waysF T.N m f n t l) w) := by
  intro f
  induction f with
  | zero => intro n t l v R w _ _ _ _ _ h; omega
  | succ f ih =>
    intro n t l v R w h hB hT hR hv hf htl hx
    rw [waysF]
    by_cases hst : n = 0 ∨ m < l.length
    · rw [if_pos hst]
      obtain ⟨A, c, rfl⟩ := hT.slice
      refine (ways_stop n m A l.length c _ hst).mono ?_
      rintro e w' ⟨rfl, rfl⟩
      exact ⟨_, R, rfl, hT, fun k hk => .inl hk, hB, Chg.refl _ _⟩
    rw [if_neg hst]
    simp only [not_or] at hst
    by_cases h1 : n = 1
    · rw [if_pos h1]
      subst h1
      rw [← htl]
      exact ways_one m hT hB hst.2 hm
    rw [if_neg h1]
    have h2 : 2 ≤ n := by omega
    obtain ⟨q1, q2, q3, q4, q5, q6⟩ := hw.at_ h2 hv
    rw [bitOf_node h2] at hx
    have hvl := hv.lo hw h2
    have hvh := hv.hi hw h2
    have hat := at_w h n h2 hv hN
    generalize hnd : ndAt T.N n = nd at q1 q2 q3 q5 q6 hx hvl hvh hat ⊢
    obtain ⟨n0, n1, n2⟩ := nd
    have q1 : n0 < T.bits := q1
    have q2 : n1 < n := q2
    have q3 : n2 < n := q3
    have q5 : n0 < bitOf T.bits T.N n1 := q5
    have q6 : n0 < bitOf T.bits T.N n2 := q6
    have hx : xFrom t n0 := hx
    have hvl : Val T.N n1 := hvl
    have hvh : Val T.N n2 := hvh
    show Calls Try.prog 43 #[.pointer (some ⟨g, 0, none⟩), .int .i64 n, .slice (some ⟨bb, 0, none⟩) T.bits T.bits, .int .i64 m, v] w (WyP bb R t (waysF T.N m f n2 (t.set n0 49) (waysF T.N m f n1 (t.set n0 48) l)) w)
    have hn0 : n0 < t.length := by omega
    have hxk : t[n0]? = some 120 := hx n0 (Nat.le_refl _) hn0
    have xs : ∀ c : UInt8, ∀ k, n0 < k → xFrom (t.set n0 c) k := fun c k hk i hi hil => by
      rw [set_keep t _ c i (by omega)]
      exact hx i (by omega) (by simpa using hil)
    have hRb : ¬ R bb := hB.ne_tx hT
    obtain ⟨A, c, rfl⟩ := hT.slice
    have hbl := blk_lt' hB
    refine ways_go n n0 n1 n2 m l.length c T.bits A w
      (fun g1 A1 k1 c1 W => ∃ R1, TxAt (.slice A1 k1 c1) R1 (waysF T.N m f n1 (t.set n0 48) l) W ∧ (∀ k, R1 k → R k ∨ w.heap.size ≤ k) ∧ By bb (t.set n0 48) W ∧ Bn g1 n0 n1 n2 W ∧ bb ≠ g1 ∧ ¬ R1 g1 ∧ Chg (fun k => R k ∨ k = bb) w W)
      (fun g1 A1 k1 c1 W => ∃ R1, TxAt (.slice A1 k1 c1) R1 (waysF T.N m f n2 (t.set n0 49) (waysF T.N m f n1 (t.set n0 48) l)) W ∧ (∀ k, R1 k → R k ∨ w.heap.size ≤ k) ∧ By bb (t.set n0 49) W ∧ Bn g1 n0 n1 n2 W ∧ bb ≠ g1 ∧ ¬ R1 g1 ∧ Chg (fun k => R k ∨ k = bb) w W)
      _ h2 hst.2 q1 hbits ?_ ?_ ?_ ?_ ?_ ?_
    · refine hat.mono ?_
      rintro e w' ⟨he, hb⟩
      have hB' : By bb t w' := (hb.block bb hbl).trans hB
      exact ⟨he, hb, ⟨_, hB'.cell n0 120 hxk⟩, blk_free hB' n0⟩
    · intro w1 hb
      have hs1 := hb.size
      have hB1 : By bb t w1 := (hb.block bb hbl).trans hB
      have hBs : By bb (t.set n0 48) (w1.setCell ⟨bb, n0, none⟩ (.int .u8 48)) := hB1.set n0 48 _ rfl
      have hszs : (w1.setCell ⟨bb, n0, none⟩ (.int .u8 48)).heap.size = w1.heap.size := by simp [World.setCell]
      obtain ⟨W0, hW0⟩ : ∃ W0, W0 = (w1.setCell ⟨bb, n0, none⟩ (.int .u8 48)).alloc (.cells #[.int .i64 n0, .int .i64 n1, .int .i64 n2] 95) := ⟨_, rfl⟩
      have hold : ∀ k, k < w1.heap.size → k ≠ bb → W0.heap[k]? = w1.heap[k]? := fun k hk hkb => by
        rw [hW0, heap_alloc_old _ _ (by rw [hszs]; exact hk)]
        exact Below.heap_setCell _ _ _ _ hkb
      have hsz0 : W0.heap.size = w1.heap.size + 1 := by rw [hW0, World.size_alloc, hszs]
      have hB0 : By bb (t.set n0 48) W0 := by
        rw [hW0]
        exact (heap_alloc_old _ _ (by rw [hszs]; omega)).trans hBs
      have hbn : Bn w1.heap.size n0 n1 n2 W0 := by
        rw [hW0]
        have := heap_alloc_new (w1.setCell ⟨bb, n0, none⟩ (.int .u8 48)) (.cells #[.int .i64 n0, .int .i64 n1, .int .i64 n2] 95)
        rw [hszs] at this
        exact this
      have hc0 : Chg (fun k => R k ∨ k = bb) w W0 := by
        rw [hW0]
        exact ((Chg.of_below hb _).set ⟨bb, n0, none⟩ _ (.inl (.inr rfl))).alloc _
      have hT0 : TxAt (.slice A l.length c) R l W0 := hT.step (by omega) (fun k hk => (hold k (by have := hT.lt k hk; omega) (fun e => hRb (e ▸ hk))).trans (hb.block k (hT.lt k hk)))
      have ht0 : Tab g S T W0 := h.step (by omega) (fun k hk hkl => (hold k (by omega) (fun e => hnS (e ▸ hk))).trans (hb.block k hkl))
      have hnR : ¬ R w1.heap.size := fun hr => by have := hT.lt _ hr; omega
      rw [← hW0]
      refine (ih n1 (t.set n0 48) l _ R W0 ht0 hB0 hT0 hR hvl (by omega) (by simpa using htl) (xs 48 _ q5)).mono ?_
      rintro e W ⟨v1, R1, rfl, p1, p2, p3, p4⟩
      obtain ⟨A1, c1, rfl⟩ := p1.slice
      refine ⟨A1, _, c1, rfl, R1, p1, fun k hk => (p2 k hk).imp id (fun h => by omega), p3, (p4.block _ (by omega) (fun hs => hs.elim hnR (fun e => by omega))).trans hbn, by omega, fun hr => (p2 _ hr).elim hnR (fun h => by omega), hc0.trans p4 (fun i hi => .inl hi)⟩
    · rintro g1 A1 k1 c1 W ⟨R1, p1, p2, p3, p4, p5, p6, p7⟩
      exact ⟨p4, ⟨_, p3.cell n0 48 (by rw [List.getElem?_set, if_pos rfl, if_pos hn0])⟩, blk_free p3 n0, p5⟩
    · rintro g1 A1 k1 c1 W ⟨R1, p1, p2, p3, p4, p5, p6, p7⟩
      have hRb1 := p3.ne_tx p1
      have far : ∀ k, k ≠ bb → (W.setCell ⟨bb, n0, none⟩ (.int .u8 49)).heap[k]? = W.heap[k]? := fun k hk => Below.heap_setCell _ _ _ _ hk
      have hsz : (W.setCell ⟨bb, n0, none⟩ (.int .u8 49)).heap.size = W.heap.size := by simp [World.setCell]
      have hB1 : By bb (t.set n0 49) (W.setCell ⟨bb, n0, none⟩ (.int .u8 49)) := by
        have := p3.set n0 49 _ rfl
        rw [List.set_set] at this
        exact this
      have hT1 : TxAt (.slice A1 k1 c1) R1 (waysF T.N m f n1 (t.set n0 48) l) (W.setCell ⟨bb, n0, none⟩ (.int .u8 49)) := p1.step (by omega) (fun k hk => far k (fun e => hRb1 (e ▸ hk)))
      have hc1 : Chg (fun k => R k ∨ k = bb) w (W.setCell ⟨bb, n0, none⟩ (.int .u8 49)) := p7.set _ _ (.inl (.inr rfl))
      have hR1 : ∀ k, R1 k → ¬ S k := fun k hk hs => (p2 k hk).elim (fun hr => hR k hr hs) (fun hge => by have := h.lt k hs; omega)
      have ht1 : Tab g S T (W.setCell ⟨bb, n0, none⟩ (.int .u8 49)) := h.step hc1.size (fun k hk hkl => hc1.block k hkl (fun hs => hs.elim (fun hr => hR k hr hk) (fun e => hnS (e ▸ hk))))
      refine (ih n2 (t.set n0 49) _ _ R1 _ ht1 hB1 hT1 hR1 hvh (by omega) (by simpa using htl) (xs 49 _ q6)).mono ?_
      rintro e W2 ⟨v2, R2, rfl, r1, r2, r3, r4⟩
      obtain ⟨A2, c2, rfl⟩ := r1.slice
      refine ⟨A2, _, c2, rfl, R2, r1, fun k hk => (r2 k hk).elim (p2 k) (fun h => .inr (by have := p7.size; omega)), r3, (r4.block _ (by rw [hsz]; exact blk_lt' p4) (fun hs => hs.elim p6 (fun e => p5 e.symm))).trans ((far g1 (fun e => p5 e.symm)).trans p4), p5, fun hr => (r2 _ hr).elim p6 (fun h => by have := blk_lt' p4; omega), ?_⟩
      exact hc1.trans r4 (fun i hi => hi.elim (fun h1 => (p2 i h1).imp .inl id) (fun h1 => .inl (.inr h1)))
    · rintro g1 A1 k1 c1 W ⟨R1, p1, p2, p3, p4, p5, p6, p7⟩
      exact ⟨p4, ⟨_, p3.cell n0 49 (by rw [List.getElem?_set, if_pos rfl, if_pos hn0])⟩, blk_free p3 n0, p5⟩
    · rintro g1 A2 k2 c2 W ⟨R1, p1, p2, p3, p4, p5, p6, p7⟩
      have hRb1 := p3.ne_tx p1
      refine ⟨_, R1, rfl, p1.step (by simp [World.setCell]) (fun k hk => Below.heap_setCell _ _ _ _ (fun e => hRb1 ((show k = bb from e) ▸ hk))), p2, ?_, p7.set _ _ (.inl (.inr rfl))⟩
      have := p3.set n0 120 _ rfl
      rw [List.set_set, set_back t n0 120 hxk] at this
      exact this
end
end Go.Proofs.Ytbglnddjhlefnaa
namespace Go.Proofs.Ytbglnddjhlefnaa
open Go Go.RowKit Go.Proofs.YtbglnddjhlefnaaW.PrintWords Go.Proofs.YtbglnddjhlefnaaW.PrintLast Go.Proofs.YtbglnddjhlefnaaW.PrintMore
/-- What Cubes answers. -/
def CuP (m : Nat) (P : List Txt) (w : World) (e : Ending) (w' : World) : Prop :=
  Below w.heap.size w w' ∧ ((m < P.length ∧ e = .returned (.tuple #[.slice none 0 0, .int .i64 3])) ∨ (P.length ≤ m ∧ ∃ A c R, e = .returned (.tuple #[.slice A P.length c, .int .i64 0]) ∧ TxAt (.slice A P.length c) R P w' ∧ ∀ k, R k → w.heap.size ≤ k))
section
variable {g : Nat} {S : Nat → Prop} {T : Bd} {w w' : World}
theorem TxAt.nil (w : World) : TxAt (.slice none 0 0) (fun _ => False) [] w :=
  ⟨World.ownsRow_nil w 0 9 1, fun n hn => (by cases hn), fun k hk => hk.elim, fun k hk => hk.elim⟩
set_option maxRecDepth 100000 in
set_option maxHeartbeats 2000000 in
theorem Cubes_w (h : Tab g S T w) (hf : Fine T) (hN : T.N.length ≤ 4000000000) (a m : Nat) (hm : m ≤ 1000000) (hok : okR T.refs (a : Int) = true) :
    Calls Try.prog 15 #[.pointer (some ⟨g, 0, none⟩), .int .i64 a, .int .i64 m] w (CuP m (pathsOf T.bits T.N a) w) := by
  have hb0 := below_alloc (Below.refl _ (w.alloc (.cells #[.int .i64 0] 30))) (.cells #[.int .i64 a] 26)
  have hbe := below_alloc (Below.refl w.heap.size w) (.cells #[.int .i64 0] 30)
  have HC : Hid (Calls Try.prog 37 #[.pointer (some ⟨g, 0, none⟩), .slice (some ⟨w.heap.size + 1, 0, none⟩) 1 1] ((w.alloc (.cells #[.int .i64 0] 30)).alloc (.cells #[.int .i64 a] 26)) fun e w' => e = .returned (.tuple #[]) ∧ Below ((w.alloc (.cells #[.int .i64 0] 30)).alloc (.cells #[.int .i64 a] 26)).heap.size ((w.alloc (.cells #[.int .i64 0] 30)).alloc (.cells #[.int .i64 a] 26)) w') :=
    Lib.hid (ask_yes (xs := [(a : Int)]) ((h.below hbe).below hb0) (new_refs [(a : Int)] _ rfl (w.alloc (.cells #[.int .i64 0] 30)) (by simp) _ _ (World.size_alloc _ _).symm rfl) (by simp) (by simpa using hok))
  have hbw : Below w.heap.size w ((w.alloc (.cells #[.int .i64 0] 30)).alloc (.cells #[.int .i64 a] 26)) := below_alloc hbe _
  have HBW := Lib.hid hbw
  have HB0 := Lib.hid hb0
  have hlt := h.lt
  have HBL := Lib.hid (fun w1 (hb : Below w.heap.size w w1) => blank_w (h.below hb) hf.b2)
  have hv := okR_val hf hok
  have HWY : Hid (∀ w1 b, Below w.heap.size w w1 → w.heap.size ≤ b → By b (blankT T.bits) w1 → Calls Try.prog 43 #[.pointer (some ⟨g, 0, none⟩), .int .i64 a, .slice (some ⟨b, 0, none⟩) T.bits T.bits, .int .i64 m, .slice none 0 0] w1 (WyP b (fun _ => False) (blankT T.bits) ((pathsOf T.bits T.N a).take (m + 1)) w1)) := by
    refine Lib.hid (fun w1 b hb hbb hB => ?_)
    have := ways_w hf.b2 hf.wf hN (bb := b) (S := S) (g := g) (T := T) (fun hs => by have := hlt b hs; omega) m hm (a + 1) a (blankT T.bits) [] (.slice none 0 0) (fun _ => False) w1 (h.below hb) hB (TxAt.nil w1) (fun k hk => hk.elim) hv (by omega) (by simp [blankT]) (blank_x _ _)
    rw [waysF_nil] at this
    exact this
  have HSZ : Hid ((w.alloc (.cells #[.int .i64 0] 30)).heap.size = w.heap.size + 1) := Lib.hid (World.size_alloc _ _)
  generalize pathsOf T.bits T.N a = P at HWY ⊢
  generalize blankT T.bits = bt at HWY HBL
  generalize T.bits = bits at HWY HBL
  have tm : decide ((m : Int) < 0) = false := decide_eq_false (by omega)
  clear h hf hN hok hb0 hbe hbw hv hlt
  go_enter_defers Try.func15, Try.ntmps15
  go_wp2_with fail
  refine HC.out.mono ?_
  rintro e w1 ⟨rfl, hb1⟩
  have hbw1 := below_trans' HBW.out hb1 HBW.out.size
  have heb : Eb w.heap.size 0 w1 := (Eb.made 0 w).below (below_trans' HB0.out hb1 HB0.out.size)
  have HW1 := Lib.hid hbw1
  have HE1 := Lib.hid heb
  have HL1 := Lib.hid (HBL.out w1 hbw1)
  clear hb1 hbw1 heb HBL HC HBW HB0
  go_wp2_with fail
  refine HL1.out.mono ?_
  rintro e w2 ⟨b, rfl, r1, r2, r3⟩
  have HB2 := Lib.hid (below_trans' HW1.out r3 HW1.out.size)
  have heb2 := HE1.out.below r3
  have hlt1 : w.heap.size < w1.heap.size := blk_lt' HE1.out
  have HY := Lib.hid (HWY.out w2 b HB2.out (by omega) r1)
  have hbe : b ≠ w.heap.size := by omega
  have hbn : Hid (w.heap.size ≤ b ∧ b < w2.heap.size) := Lib.hid ⟨by omega, blk_lt' r1⟩
  have HE2 := Lib.hid heb2
  clear r1 r2 r3 heb2 HL1 HWY hlt1
  go_wp2_with fail
  refine HY.out.mono ?_
  rintro e w3 ⟨v, R, rfl, q1, q2, q3, q4⟩
  have heb3 : Eb w.heap.size 0 w3 := (q4.block _ (blk_lt' HE2.out) (fun hs => hs.elim id (fun e => hbe e.symm))).trans HE2.out
  have HB3 : Hid (Below w.heap.size w w3) := Lib.hid (HB2.out.trans (q4.below (fun k hk => hk.elim (fun h => h.elim) (fun h => by have := hbn.out; omega)) (by have := HB2.out.size; omega)))
  have f0 := blk_free heb3 0
  have c0 := blk_cell heb3 0 (.int .i64 0) rfl
  have HE3 := Lib.hid heb3
  obtain ⟨A, c, rfl⟩ := q1.slice
  have Q1 := Lib.hid q1
  have Q2 : Hid (∀ k, R k → w2.heap.size ≤ k) := Lib.hid (fun k hk => (q2 k hk).resolve_left id)
  have hln : (P.take (m + 1)).length = min (m + 1) P.length := List.length_take
  have hs2 := hbn.out.2
  have hb3 : ∀ k, Eb w.heap.size k (w3.setCell ⟨w.heap.size, 0, none⟩ (.int .i64 k)) := fun k => by
    have := blk_set HE3.out 0 (.int .i64 k)
    simpa [Eb] using this
  have HBB3 := Lib.hid hb3
  clear q1 q2 q3 q4 heb3 HY HB2 HE1 HE2 hb3
  by_cases hgt : m < P.length
  · have hl2 : (P.take (m + 1)).length = m + 1 := by omega
    have hl3 : ((m + 1 : Nat) : Int) = (m : Int) + 1 := by omega
    have t1 : decide ((m : Int) < ((m + 1 : Nat) : Int)) = true := decide_eq_true (by omega)
    have t2 : decide (m < m + 1) = true := decide_eq_true (by omega)
    have t3 : decide ((m : Int) < (m : Int) + 1) = true := decide_eq_true (by omega)
    rw [hl2] at Q1 ⊢
    have HGT := Lib.hid hgt
    clear hln hgt
    go_wp2_with fail
    exact leave_ok rfl rfl (HBB3.out 3) rfl ⟨HB3.out.setCell (p := ⟨w.heap.size, 0, none⟩) (Nat.le_refl _) _, .inl ⟨HGT.out, rfl⟩⟩
  · have hl2 : P.take (m + 1) = P := List.take_of_length_le (by omega)
    rw [hl2] at Q1 ⊢
    obtain ⟨n, hn⟩ : ∃ n, n = P.length := ⟨_, rfl⟩
    rw [← hn]
    have t1 : decide ((m : Int) < (n : Int)) = false := decide_eq_false (by omega)
    have t2 : decide (m < n) = false := decide_eq_false (by omega)
    have HLE : Hid (P.length ≤ m) := Lib.hid (by omega)
    have HN := Lib.hid hn
    have HLT : Hid (w.heap.size < w2.heap.size ∧ w.heap.size ≤ w2.heap.size) := Lib.hid ⟨by have := hbn.out; omega, by have := hbn.out; omega⟩
    clear hln hgt hl2 hn hs2
    go_wp2_with fail
    refine leave_ok rfl rfl (HBB3.out 0) rfl ⟨HB3.out.setCell (p := ⟨w.heap.size, 0, none⟩) (Nat.le_refl _) _, .inr ⟨HLE.out, A, c, R, by rw [← HN.out]; rfl, ?_, fun k hk => Nat.le_trans HLT.out.2 (Q2.out k hk)⟩⟩
    exact Q1.out.step (by simp [World.setCell]) (fun k hk => Below.heap_setCell _ _ _ _ (fun e => by have := Q2.out k hk; have e : k = w.heap.size := e; have := HLT.out; omega))
end
end Go.Proofs.Ytbglnddjhlefnaa
namespace Go.Proofs.Ytbglnddjhlefnaa
open Go Go.RowKit Go.Proofs.YtbglnddjhlefnaaW.PrintWords Go.Proofs.YtbglnddjhlefnaaW.PrintLast Go.Proofs.YtbglnddjhlefnaaW.PrintMore
section
variable {g : Nat} {S : Nat → Prop} {T : Bd} {w w' : World}
/-- The way, under way. -/
structure AyR (g e bb : Nat) (S : Nat → Prop) (T : Bd) (r : Txt) (n : Nat) (w wr : World) : Prop where
  tab : Tab g S T wr
  eb : Eb e 0 wr
  bw : Below w.heap.size w wr
  way : ∃ f t, n < f ∧ t.length = T.bits ∧ By bb t wr ∧ anyF T.N f n t = r
  val : Val T.N n
  nz : n ≠ 0
theorem AyR.done {e bb n : Nat} {r : Txt} (h : AyR g e bb S T r n w w') (hn : n < 2) : r.length = T.bits ∧ By bb r w' := by
  obtain ⟨f, t, h1, h2, h3, h4⟩ := h.way
  have : anyF T.N f n t = t := by
    cases f with
    | zero => rfl
    | succ f => rw [anyF, if_pos hn]
  rw [this] at h4
  exact ⟨h4 ▸ h2, h4 ▸ h3⟩
/-- One step. -/
theorem AyR.next {e bb n n0 n1 n2 : Nat} {r : Txt} {wr w1 w2 : World} (h : AyR g e bb S T r n w wr) (hw : WF T.bits T.N) (hn : 2 ≤ n) (hnd : ndAt T.N n = (n0, n1, n2)) (c : UInt8) (x : Nat) (hx : (n1 ≠ 0 ∧ x = n1 ∧ c = 48) ∨ (n1 = 0 ∧ x = n2 ∧ c = 49)) (hbS : ¬ S bb) (hbw : w.heap.size ≤ bb) (hbe : bb ≠ e) (hb : Below wr.heap.size wr w1) (cs : Array Value) (ty : TypeId) (hw2 : w2 = ((w1.setCell ⟨bb, n0, none⟩ (.int .u8 (c.toNat : Nat))).alloc (.cells cs ty)).drew) : AyR g e bb S T r x w w2 := by
  obtain ⟨f, t, h1, h2, h3, h4⟩ := h.way
  obtain ⟨q1, q2, q3, q4, q5, q6⟩ := hw.at_ hn h.val
  have hvl := h.val.lo hw hn
  have hvh := h.val.hi hw hn
  rw [hnd] at q1 q2 q3 q4 q5 q6 hvl hvh
  have q4 : n1 ≠ n2 := q4
  have hbb := blk_lt' h3
  have hs1 := hb.size
  obtain ⟨W, hW⟩ : ∃ W, W = w1.setCell ⟨bb, n0, none⟩ (.int .u8 (c.toNat : Nat)) := ⟨_, rfl⟩
  rw [← hW] at hw2
  have hWs : W.heap.size = w1.heap.size := by rw [hW]; simp [World.setCell]
  have far : ∀ k, k < wr.heap.size → k ≠ bb → w2.heap[k]? = wr.heap[k]? := fun k hk hkb => by
    rw [hw2]
    refine (heap_alloc_old W _ (by omega)).trans ?_
    rw [hW, Below.heap_setCell _ _ _ _ hkb]
    exact hb.block k hk
  have hB1 : By bb t w1 := (hb.block bb hbb).trans h3
  have hB2 : By bb (t.set n0 c) w2 := by
    have hBW : By bb (t.set n0 c) W := by
      rw [hW]
      exact hB1.set n0 c _ rfl
    rw [hw2]
    exact (heap_alloc_old W _ (by omega)).trans hBW
  have hsz2 : w2.heap.size = w1.heap.size + 1 := by
    rw [hw2]
    have : (W.alloc (.cells cs ty)).heap.size = W.heap.size + 1 := World.size_alloc _ _
    exact this.trans (by omega)
  have hbw2 : Below w.heap.size w w2 := by
    have k0 : Below w.heap.size w W := by
      rw [hW]
      exact (below_trans' h.bw hb h.bw.size).setCell (p := ⟨bb, n0, none⟩) hbw _
    have k1 : Below w.heap.size w (W.alloc (.cells cs ty)) := below_alloc k0 _
    rw [hw2]
    exact ⟨k1.os, k1.tape, k1.output, k1.size, k1.block⟩
  refine ⟨h.tab.step (by omega) (fun k hk hkl => far k hkl (fun e => hbS (e ▸ hk))), (far e (blk_lt' h.eb) (fun e => hbe e.symm)).trans h.eb, hbw2, ?_, ?_, ?_⟩
  · obtain ⟨f, rfl⟩ : ∃ f', f = f' + 1 := ⟨f - 1, by omega⟩
    rw [anyF, if_neg (by omega), hnd] at h4
    have h4 : (if n1 ≠ 0 then anyF T.N f n1 (t.set n0 48) else anyF T.N f n2 (t.set n0 49)) = r := h4
    rcases hx with ⟨hx, rfl, rfl⟩ | ⟨hx, rfl, rfl⟩
    · rw [if_pos hx] at h4
      exact ⟨f, _, by have : x < n := q2; omega, by simpa using h2, hB2, h4⟩
    · rw [if_neg (by simpa using hx)] at h4
      exact ⟨f, _, by have : x < n := q3; omega, by simpa using h2, hB2, h4⟩
  · rcases hx with ⟨hx, rfl, rfl⟩ | ⟨hx, rfl, rfl⟩
    · exact hvl
    · exact hvh
  · rcases hx with ⟨hx, rfl, rfl⟩ | ⟨hx, rfl, rfl⟩
    · exact hx
    · exact fun e => q4 (hx.trans e.symm)
set_option maxRecDepth 100000 in
theorem Any_zero (h : Tab g S T w) :
    Calls Try.prog 18 #[.pointer (some ⟨g, 0, none⟩), .int .i64 0] w fun e w' => e = .returned (.tuple #[.string ⟨#[]⟩, .bool false, .int .i64 0]) ∧ Below w.heap.size w w' := by
  have hb0 := below_alloc (Below.refl _ (w.alloc (.cells #[.int .i64 0] 30))) (.cells #[.int .i64 0] 26)
  have hbe := below_alloc (Below.refl w.heap.size w) (.cells #[.int .i64 0] 30)
  have HC : Hid (Calls Try.prog 37 #[.pointer (some ⟨g, 0, none⟩), .slice (some ⟨w.heap.size + 1, 0, none⟩) 1 1] ((w.alloc (.cells #[.int .i64 0] 30)).alloc (.cells #[.int .i64 0] 26)) fun e w' => e = .returned (.tuple #[]) ∧ Below ((w.alloc (.cells #[.int .i64 0] 30)).alloc (.cells #[.int .i64 0] 26)).heap.size ((w.alloc (.cells #[.int .i64 0] 30)).alloc (.cells #[.int .i64 0] 26)) w') :=
    Lib.hid (ask_yes (xs := [(0 : Int)]) ((h.below hbe).below hb0) (new_refs [(0 : Int)] _ rfl (w.alloc (.cells #[.int .i64 0] 30)) (by simp) _ _ (World.size_alloc _ _).symm rfl) (by simp) (by simp [okR]))
  have hbw : Below w.heap.size w ((w.alloc (.cells #[.int .i64 0] 30)).alloc (.cells #[.int .i64 0] 26)) := below_alloc hbe _
  have HBW := Lib.hid hbw
  have HB0 := Lib.hid hb0
  have HSZ : Hid ((w.alloc (.cells #[.int .i64 0] 30)).heap.size = w.heap.size + 1) := Lib.hid (World.size_alloc _ _)
  clear h hb0 hbe hbw
  go_enter_defers Try.func18, Try.ntmps18
  go_wp2_with fail
  refine HC.out.mono ?_
  rintro e w1 ⟨rfl, hb1⟩
  have hbw1 := below_trans' HBW.out hb1 HBW.out.size
  have heb : Eb w.heap.size 0 w1 := (Eb.made 0 w).below (below_trans' HB0.out hb1 HB0.out.size)
  have f0 := blk_free heb 0
  have c0 := blk_cell heb 0 (.int .i64 0) rfl
  have HW1 := Lib.hid hbw1
  have HE1 := Lib.hid heb
  have hb3 : Eb w.heap.size 0 (w1.setCell ⟨w.heap.size, 0, none⟩ (.int .i64 0)) := by
    have := blk_set heb 0 (.int .i64 0)
    simpa [Eb] using this
  have HB3 := Lib.hid hb3
  clear hb1 hbw1 heb HC HBW HB0 hb3
  go_wp2_with fail
  exact leave_ok3 rfl rfl HB3.out rfl rfl ⟨rfl, HW1.out.setCell (p := ⟨w.heap.size, 0, none⟩) (Nat.le_refl _) _⟩
set_option maxRecDepth 100000 in
set_option maxHeartbeats 4000000 in
theorem Any_w (h : Tab g S T w) (hf : Fine T) (hN : T.N.length ≤ 4000000000) (a : Nat) (ha0 : a ≠ 0) (hok : okR T.refs (a : Int) = true) :
    Calls Try.prog 18 #[.pointer (some ⟨g, 0, none⟩), .int .i64 a] w fun e w' => e = .returned (.tuple #[strV (anyF T.N (a + 1) a (blankT T.bits)), .bool true, .int .i64 0]) ∧ Below w.heap.size w w' := by
  have hb0 := below_alloc (Below.refl _ (w.alloc (.cells #[.int .i64 0] 30))) (.cells #[.int .i64 a] 26)
  have hbe := below_alloc (Below.refl w.heap.size w) (.cells #[.int .i64 0] 30)
  have HC : Hid (Calls Try.prog 37 #[.pointer (some ⟨g, 0, none⟩), .slice (some ⟨w.heap.size + 1, 0, none⟩) 1 1] ((w.alloc (.cells #[.int .i64 0] 30)).alloc (.cells #[.int .i64 a] 26)) fun e w' => e = .returned (.tuple #[]) ∧ Below ((w.alloc (.cells #[.int .i64 0] 30)).alloc (.cells #[.int .i64 a] 26)).heap.size ((w.alloc (.cells #[.int .i64 0] 30)).alloc (.cells #[.int .i64 a] 26)) w') :=
    Lib.hid (ask_yes (xs := [(a : Int)]) ((h.below hbe).below hb0) (new_refs [(a : Int)] _ rfl (w.alloc (.cells #[.int .i64 0] 30)) (by simp) _ _ (World.size_alloc _ _).symm rfl) (by simp) (by simpa using hok))
  have hbw : Below w.heap.size w ((w.alloc (.cells #[.int .i64 0] 30)).alloc (.cells #[.int .i64 a] 26)) := below_alloc hbe _
  have HBW := Lib.hid hbw
  have HB0 := Lib.hid hb0
  have HLT := Lib.hid h.lt
  have H0 := Lib.hid h
  have HF := Lib.hid hf
  have HBL := Lib.hid (fun w1 (hb : Below w.heap.size w w1) => blank_w (h.below hb) hf.b2)
  have HV := Lib.hid (okR_val hf hok)
  have HNN := Lib.hid hN
  have HSZ : Hid ((w.alloc (.cells #[.int .i64 0] 30)).heap.size = w.heap.size + 1) := Lib.hid (World.size_alloc _ _)
  have t0 : ((a : Int) == 0) = false := by simp; omega
  have HA0 := Lib.hid ha0
  obtain ⟨r, hr⟩ : ∃ r, r = anyF T.N (a + 1) a (blankT T.bits) := ⟨_, rfl⟩
  rw [← hr]
  have HR := Lib.hid hr
  obtain ⟨bits, hbits⟩ : ∃ bits, bits = T.bits := ⟨_, rfl⟩
  rw [← hbits] at HBL
  have HBI := Lib.hid hbits
  have hbs : bits ≤ 128 := by rw [hbits]; exact hf.b2
  clear h hf hN hok hb0 hbe hbw ha0 hr hbits
  go_enter_defers Try.func18, Try.ntmps18
  go_wp2_with fail
  refine HC.out.mono ?_
  rintro e w1 ⟨rfl, hb1⟩
  have hbw1 := below_trans' HBW.out hb1 HBW.out.size
  have heb : Eb w.heap.size 0 w1 := (Eb.made 0 w).below (below_trans' HB0.out hb1 HB0.out.size)
  have HW1 := Lib.hid hbw1
  have HE1 := Lib.hid heb
  have HL1 := Lib.hid (HBL.out w1 hbw1)
  clear hb1 hbw1 heb HBL HC HBW HB0
  go_wp2_with fail
  refine HL1.out.mono ?_
  rintro e w2 ⟨b, rfl, r1, r2, r3⟩
  have hlt1 : w.heap.size < w1.heap.size := blk_lt' HE1.out
  have hB2 := below_trans' HW1.out r3 HW1.out.size
  have HST : Hid (AyR g w.heap.size b S T r a w w2) := Lib.hid ⟨H0.out.below hB2, HE1.out.below r3, hB2, ⟨a + 1, blankT T.bits, by omega, by simp [blankT], by rw [← HBI.out]; exact r1, HR.out.symm⟩, HV.out, HA0.out⟩
  have HBB : Hid (w.heap.size ≤ b ∧ b ≠ w.heap.size ∧ ¬ S b) := Lib.hid ⟨by omega, by omega, fun hs => by have := HLT.out b hs; omega⟩
  clear r1 r2 r3 hlt1 hB2 HL1 HR HV HA0 HW1 HE1 t0 H0
  go_wp2_with fail
  go_loopw [8] (fun v8 wr => ∃ n : Nat, v8 = .int .i64 n ∧ Hid (AyR g w.heap.size b S T r n w wr)) (fun v8 _ => (intOf v8).toNat)
  case atStart => exact ⟨a, rfl, HST⟩
  case round =>
    clear HST
    obtain ⟨n, rfl, hrel⟩ := hrel
    by_cases hn : n < 2
    · have t1 : decide (1 < (n : Int)) = false := decide_eq_false (by omega)
      have t2 : decide (1 < n) = false := decide_eq_false (by omega)
      obtain ⟨q1, q2⟩ := hrel.out.done hn
      have hcv := q2.conv bits
      rw [q1, ← HBI.out] at hcv
      have heb := hrel.out.eb
      have f0 := blk_free heb 0
      have c0 := blk_cell heb 0 (.int .i64 0) rfl
      have hb3 : Eb w.heap.size 0 (wr.setCell ⟨w.heap.size, 0, none⟩ (.int .i64 0)) := by
        have := blk_set heb 0 (.int .i64 0)
        simpa [Eb] using this
      have HB3 := Lib.hid hb3
      have HBW := Lib.hid hrel.out.bw
      unfold strV at hcv
      obtain ⟨sv, hsv⟩ : ∃ sv, sv = ByteArray.mk r.toArray := ⟨_, rfl⟩
      rw [← hsv] at hcv
      have HSV := Lib.hid hsv
      clear q1 q2 hrel heb hb3 hn hsv
      go_wp2_with fail
      refine leave_ok3 rfl rfl HB3.out rfl rfl ⟨?_, HBW.out.setCell (p := ⟨w.heap.size, 0, none⟩) (Nat.le_refl _) _⟩
      unfold strV
      rw [← HSV.out]
      rfl
    · have t1 : decide (1 < (n : Int)) = true := decide_eq_true (by omega)
      have t2 : decide (1 < n) = true := decide_eq_true (by omega)
      have h2 : 2 ≤ n := by omega
      have hat := at_w hrel.out.tab n h2 hrel.out.val HNN.out
      obtain ⟨q1, q2, q3, q4, q5, q6⟩ := HF.out.wf.at_ h2 hrel.out.val
      obtain ⟨n0, n1, n2, hnd⟩ : ∃ n0 n1 n2, ndAt T.N n = (n0, n1, n2) := ⟨_, _, _, rfl⟩
      have HND := Lib.hid hnd
      rw [hnd] at hat q1 q2 q3
      have HN1 : Hid (n1 < n ∧ n2 < n) := Lib.hid ⟨q2, q3⟩
      have hn0 : n0 < bits := by rw [HBI.out]; exact q1
      have hn0' : (n0 : Int) < (bits : Int) := by omega
      have hbs' : (bits : Int) ≤ 128 := by omega
      have HAT := Lib.hid hat
      have H2 := Lib.hid h2
      obtain ⟨f, t, y1, y2, y3, y4⟩ := hrel.out.way
      have hxk : ∃ c, t[n0]? = some c := ⟨_, List.getElem?_eq_getElem (by rw [y2]; exact q1)⟩
      obtain ⟨ct, hxk⟩ := hxk
      have HCC : Hid (∀ w1, Below wr.heap.size wr w1 → (∃ x, w1.cell? ⟨b, n0, none⟩ = some x) ∧ w1.frozen? ⟨b, n0, none⟩ = false ∧ b < w1.heap.size) := Lib.hid (fun w1 hb => by
        have : By b t w1 := (hb.block b (blk_lt' y3)).trans y3
        exact ⟨⟨_, this.cell n0 ct hxk⟩, blk_free this n0, blk_lt' this⟩)
      clear hat q1 q2 q3 q4 q5 q6 hnd h2 hn y1 y2 y3 y4 hxk
      go_wp2_with fail
      refine HAT.out.mono ?_
      rintro e w3 ⟨he, hb⟩
      subst he
      obtain ⟨⟨x, c0⟩, f0, hlb⟩ := HCC.out w3 hb
      have HB := Lib.hid hb
      have hne : b ≠ w3.heap.size := by omega
      have e0 := fun o => Lib.cell?_alloc_some o c0
      clear HCC HAT hb
      by_cases hz : n1 = 0
      · subst hz
        go_wp2_with fail
        go_region
        generalize hw4 : ((w3.setCell ⟨b, n0, none⟩ (.int .u8 49)).alloc (.cells #[.int .i64 n0, .int .i64 0, .int .i64 n2] 95)).drew = w4
        have HNX : Hid (AyR g w.heap.size b S T r n2 w w4) := Lib.hid (hrel.out.next HF.out.wf H2.out HND.out 49 n2 (.inr ⟨rfl, rfl, rfl⟩) HBB.out.2.2 HBB.out.1 HBB.out.2.1 HB.out _ 95 hw4.symm)
        clear hrel hw4 c0 f0 e0
        go_wp2_with fail
        go_roundw
        case rel => exact ⟨n2, rfl, HNX⟩
        case measure => have := HN1.out; simp [intOf]; omega
      · have t3 : ((n1 : Int) != 0) = true := by simp; omega
        go_wp2_with fail
        go_region
        generalize hw4 : ((w3.setCell ⟨b, n0, none⟩ (.int .u8 48)).alloc (.cells #[.int .i64 n0, .int .i64 n1, .int .i64 n2] 95)).drew = w4
        have HNX : Hid (AyR g w.heap.size b S T r n1 w w4) := Lib.hid (hrel.out.next HF.out.wf H2.out HND.out 48 n1 (.inl ⟨hz, rfl, rfl⟩) HBB.out.2.2 HBB.out.1 HBB.out.2.1 HB.out _ 95 hw4.symm)
        clear hrel hw4 c0 f0 e0
        go_wp2_with fail
        go_roundw
        case rel => exact ⟨n1, rfl, HNX⟩
        case measure => have := HN1.out; simp [intOf]; omega
end
end Go.Proofs.Ytbglnddjhlefnaa
namespace Go.Proofs.Ytbglnddjhlefnaa
open Go Go.RowKit Go.Proofs.YtbglnddjhlefnaaW.PrintWords Go.Proofs.YtbglnddjhlefnaaW.PrintLast Go.Proofs.YtbglnddjhlefnaaW.PrintMore
/-- A table that grew. -/
structure More (T T' : Bd) : Prop where
  pre : T.N <+: T'.N
  bits : T'.bits = T.bits
  lim : T'.lim = T.lim
  ref : ∀ b : Int, okR T.refs b = true → okR T'.refs b = true
theorem More.refl (T : Bd) : More T T := ⟨List.prefix_refl _, rfl, rfl, fun _ h => h⟩
theorem More.trans {T T' T2 : Bd} (h : More T T') (k : More T' T2) : More T T2 := ⟨h.pre.trans k.pre, k.bits.trans h.bits, k.lim.trans h.lim, fun b hb => k.ref b (h.ref b hb)⟩
theorem More.sem {T T' : Bd} (h : More T T') (hf : Fine T) (hf' : Fine T') {b : Nat} (hb : okR T.refs (b : Int) = true) (x : Hd) : sem T'.N b x = sem T.N b x :=
  sem_pre hf.wf h.pre (by have := hf'.wf; rw [h.bits] at this; exact this) b (okR_val hf hb) x
theorem tell_ok (T : Bd) (a : Nat) : okR (tellF T a).refs (a : Int) = true := by
  unfold okR inS tellF
  by_cases h : 1 < a
  · simp [h]
  · have : a = 0 ∨ a = 1 := by omega
    rcases this with rfl | rfl <;> simp
theorem tell_more (T : Bd) (a : Nat) : More T (tellF T a) := by
  refine ⟨List.prefix_refl _, rfl, rfl, fun b hb => ?_⟩
  unfold okR inS tellF at *
  by_cases h : 1 < a
  · simp only [if_pos h, List.any_cons, Bool.or_eq_true] at hb ⊢
    rcases hb with hb | hb | hb
    · exact .inl hb
    · exact .inr (.inl hb)
    · exact .inr (.inr (.inr hb))
  · simp only [if_neg h]
    exact hb
theorem More.nodes {T : Bd} {N : List Nd} (h : T.N <+: N) : More T { T with N := N } := ⟨h, rfl, rfl, fun _ h => h⟩
theorem More.cube {T : Bd} (hf : Fine T) (s : List UInt8) : More T (cubeR T s).2.2 := by
  unfold cubeR
  split
  · exact More.refl T
  · rename_i hl
    have OK := cubeG_ok hf.wf s 0 (by omega)
    generalize cubeG T.N s 0 = x at OK
    obtain ⟨o, N1⟩ := x
    cases o with
    | none => exact More.nodes OK.pre
    | some a => exact (More.nodes OK.pre).trans (tell_more _ a)
theorem cubeR_ok {T : Bd} (hf : Fine T) (s : List UInt8) (h0 : (cubeR T s).2.1 = 0) : okR (cubeR T s).2.2.refs ((cubeR T s).1 : Int) = true ∧ ∀ h, sem (cubeR T s).2.2.N (cubeR T s).1 h = fits s 0 h := by
  unfold cubeR at h0 ⊢
  split
  · rename_i hl
    rw [if_pos hl] at h0
    cases h0
  · rename_i hl
    rw [if_neg hl] at h0
    have OK := cubeG_ok hf.wf s 0 (by omega)
    generalize cubeG T.N s 0 = x at OK h0
    obtain ⟨o, N1⟩ := x
    cases o with
    | none => cases h0
    | some a => exact ⟨tell_ok _ a, (OK.val a rfl).2.2⟩
theorem cubeR_good {T : Bd} (s : List UInt8) (hl : s.length = T.bits) (ha : lettersOk s = true) : (cubeR T s).2.1 = 0 := by
  unfold cubeR
  rw [if_neg (by simp [hl])]
  have := cubeG_some T.N s 0
  rw [ha] at this
  generalize cubeG T.N s 0 = x at this
  obtain ⟨o, N1⟩ := x
  cases o with
  | none => cases this
  | some a => rfl
theorem More.fold {T : Bd} (hf : Fine T) (and : Bool) (l : List Nat) (hl : ∀ b ∈ l, Val T.N b) : More T (foldR T and l).2.2 := by
  have OK := foldC_ok and l T.N (if and then 1 else 0) hf.wf (by cases and; exact val0 _; exact val1 _) hl
  exact (More.nodes OK.pre).trans (tell_more _ _)
theorem foldR_ok (T : Bd) (and : Bool) (l : List Nat) : okR (foldR T and l).2.2.refs ((foldR T and l).1 : Int) = true := tell_ok _ _
/-- A row of refs that grows: R its block. -/
structure RfAt (v : Value) (R : Nat → Prop) (l : List Nat) (w : World) : Prop where
  row : w.ownsRow 0 26 1 v l.length (l.map (fun n : Nat => Value.int .i64 n))
  rn : ∀ n, v.ownBlock = some n → R n
  lt : ∀ k, R k → k < w.heap.size
section
variable {w w' : World} {v : Value} {R : Nat → Prop} {l : List Nat}
theorem RfAt.nil (w : World) : RfAt (.slice none 0 0) (fun _ => False) [] w := ⟨World.ownsRow_nil w 0 26 1, fun n hn => (by cases hn), fun k hk => hk.elim⟩
theorem RfAt.step (h : RfAt v R l w) (hs : w.heap.size ≤ w'.heap.size) (hb : ∀ k, R k → w'.heap[k]? = w.heap[k]?) : RfAt v R l w' :=
  ⟨ownsRow_step h.row (fun k hk => hb k (h.rn k hk)), h.rn, fun k hk => Nat.lt_of_lt_of_le (h.lt k hk) hs⟩
theorem RfAt.slice (h : RfAt v R l w) : ∃ A c, v = .slice A l.length c := by
  rcases h.row.2 with ⟨rfl, h0⟩ | ⟨q, cap, cur, rfl, _⟩
  · exact ⟨none, 0, by rw [h0]⟩
  · exact ⟨_, _, rfl⟩
theorem Try.info26 : (Try.prog.info? 26).map (fun i => (i.zero, i.size, i.bytes)) = some (some (.int .i64 0), 1, 8) := by kernel_rfl
/-- One more ref. -/
theorem RfAt.push (h : RfAt v R l w) (t : Nat) (hl : l.length ≤ 4000000000) :
    ∃ v' w3 R', (Builtin.append_ #[37, 37] 37 #[v, .slice (some ⟨w.heap.size, 0, none⟩) 1 1]).run Try.prog (w.alloc (.cells #[.int .i64 t] 26)) = .ok v' w3 ∧ RfAt v' R' (l ++ [t]) w3 ∧ (∀ k, R' k → R k ∨ w.heap.size ≤ k) ∧ Chg R w w3 := by
  obtain ⟨i0, hinf, hzz⟩ := Option.map_eq_some_iff.1 Try.info26
  simp only [Prod.mk.injEq] at hzz
  have hbx := heap_alloc_new w (.cells #[Value.int .i64 t] 26)
  have hb := below_alloc (Below.refl _ w) (.cells #[Value.int .i64 t] 26)
  have h1 := h.step hb.size (fun k hk => hb.block k (h.lt k hk))
  have hnews : ∀ (j : Nat) (u : Value), [Value.int .i64 (t : Int)][j]? = some u → (w.alloc (.cells #[Value.int .i64 t] 26)).cell? ((⟨w.heap.size, 0, none⟩ : Addr).add j) = some u := by
    intro j u hj
    rw [add_at, cell_of_row _ w.heap.size _ _ 26 (0, 0) hbx, Nat.zero_add]
    match j, hj with
    | 0, hj => exact hj
  have hone : ∀ u ∈ [Value.int .i64 (t : Int)], u.oneCell' = true := by
    intro u hu
    rw [List.mem_singleton.1 hu]
    rfl
  obtain ⟨v', w3, hrun, hown, hgr, hnil, hwho⟩ := run_append_own_at (P := Try.prog) (w.alloc (.cells #[Value.int .i64 t] 26)) 0 37 37 26 i0 _ 1 8 Try.underlying37 hinf hzz.1 hzz.2.1 hzz.2.2 rfl (by omega) v l.length (l.map (fun n : Nat => Value.int .i64 n)) h1.row
    ⟨w.heap.size, 0, none⟩ 1 1 [Value.int .i64 (t : Int)] rfl hnews hone (by simp only [maxLen]; omega) (by omega) (Nat.zero_le _)
  have hsz : (w.alloc (.cells #[Value.int .i64 t] 26)).heap.size = w.heap.size + 1 := World.size_alloc _ _
  rcases hown.2 with ⟨_, h0⟩ | ⟨nb, cap, cur, rfl, _, hh, hnc, hcm, hcs, htk⟩
  · omega
  have hs3 : w.heap.size ≤ w3.heap.size := by have := hgr.size; omega
  have hchg : Chg R w w3 := ⟨hgr.os, hgr.tape, hgr.output, hs3, fun k hk hn => (hgr.block k (by omega) (fun e => hn (h.rn k e.symm))).trans (heap_alloc_old w _ hk)⟩
  refine ⟨_, w3, fun k => k = nb, hrun, ⟨?_, ?_, ?_⟩, ?_, hchg⟩
  · have : (l ++ [t]).length = l.length + 1 := by simp
    rw [this, List.map_append]
    exact hown
  · intro n hn
    simp only [Value.ownBlock, Option.some.injEq] at hn
    exact hn.symm
  · rintro k rfl
    exact (Array.getElem?_eq_some_iff.1 hh).1
  · rintro k rfl
    rcases hwho with he | he
    · exact .inl (h.rn k he.symm)
    · simp only [Value.ownBlock, Option.some.injEq] at he
      exact .inr (by rw [he, hsz]; omega)
theorem V_own {xs : List Int} (h : w.ownsRow 0 26 1 v xs.length (xs.map (Value.int .i64))) : Kd.V KI 26 w 0 (fun k => v.ownBlock = some k) v xs := by
  rcases h.2 with ⟨rfl, h0⟩ | ⟨q, cap, cur, rfl, _, hc, hcap, hm, hcs, htk⟩
  · have : xs = [] := List.eq_nil_of_length_eq_zero h0
    subst this
    exact Kd.V_nil _ _ _ _ _
  · refine Kd.V_mk hcap (fun W' hW => ⟨rfl, by simp only [maxLen] at hm; omega, fun _ => ⟨_, rfl, fun j p hj => ⟨[Value.int .i64 p], rfl, ?_, ?_⟩⟩⟩)
    · exact rfl
    · intro i u hu
      have hlt : q < w.heap.size := blk_lt hc
      have hW2 : W'.heap[q]? = some (.cells cur 26 (0, 0)) := (hW q rfl hlt).trans hc
      have hjl := (List.getElem?_eq_some_iff.1 hj).1
      match i, hu with
      | 0, hu =>
        simp only [List.getElem?_cons_zero, Option.some.injEq] at hu
        subst hu
        rw [add_plain, cell_of_row W' q _ cur 26 (0, 0) hW2]
        have hk : (xs.map (Value.int .i64))[j]? = some (Value.int .i64 p) := by rw [List.getElem?_map, hj]; rfl
        rw [← htk, List.getElem?_take, if_pos (by omega), Array.getElem?_toList] at hk
        rw [← hk]
        congr 1
        show j * 1 + 0 = j
        omega
theorem RfAt.reads (h : RfAt v R l w) : Kd.V KI 26 w 0 R v (l.map (fun n : Nat => (n : Int))) := by
  have hr := h.row
  have : l.map (fun n : Nat => Value.int .i64 (n : Int)) = (l.map (fun n : Nat => (n : Int))).map (Value.int .i64) := by rw [List.map_map]; rfl
  rw [this, show l.length = (l.map (fun n : Nat => (n : Int))).length by simp] at hr
  exact Kd.V_mono (V_own hr) (fun k hk => h.rn k hk)
end
end Go.Proofs.Ytbglnddjhlefnaa
namespace Go.Proofs.Ytbglnddjhlefnaa
open Go Go.RowKit Go.Proofs.YtbglnddjhlefnaaW.PrintWords Go.Proofs.YtbglnddjhlefnaaW.PrintLast Go.Proofs.YtbglnddjhlefnaaW.PrintMore
/-- The loop of cubes, under way. -/
structure CuR (g bits : Nat) (xs : List ByteArray) (v : Value) (i : Nat) (w wr : World) (T : Bd) (S R : Nat → Prop) (l : List Nat) : Prop where
  tab : Tab g S T wr
  fine : Fine T
  bt : T.bits = bits
  lim : T.lim = 1048576
  len : T.N.length ≤ i * 128
  own : Own w.heap.size S w wr
  rf : RfAt v R l wr
  rs : ∀ k, R k → w.heap.size ≤ k ∧ ¬ S k
  ln : l.length = i
  ok : ∀ (k b : Nat), l[k]? = some b → okR T.refs (b : Int) = true ∧ ∃ s, xs[k]? = some s ∧ ∀ h, sem T.N b h = fits s.data.toList 0 h
section
variable {g bits i : Nat} {xs : List ByteArray} {v : Value} {w wr w' : World} {T : Bd} {S R : Nat → Prop} {l : List Nat}
/-- One cube told. -/
theorem CuR.cube (h : CuR g bits xs v i w wr T S R l) (hi : i < 1000) (s : ByteArray) : Calls Try.prog 16 #[.pointer (some ⟨g, 0, none⟩), .string s] wr fun e w' => e = .returned (.tuple #[.int .i64 (cubeR T s.data.toList).1, .int .i64 (cubeR T s.data.toList).2.1]) ∧ ∃ S', Tab g S' (cubeR T s.data.toList).2.2 w' ∧ Gr S S' wr w' :=
  cube_any h.tab h.fine (by have := h.len; have := h.lim; omega) s
theorem CuR.next (h : CuR g bits xs v i w wr T S R l) (hi : i < 1000) (s : ByteArray) (hs : xs[i]? = some s) (h0 : (cubeR T s.data.toList).2.1 = 0) {w1 : World} {S' : Nat → Prop} (ht : Tab g S' (cubeR T s.data.toList).2.2 w1) (hg : Gr S S' wr w1) :
    ∃ v' w3 R', (Builtin.append_ #[37, 37] 37 #[v, .slice (some ⟨w1.heap.size, 0, none⟩) 1 1]).run Try.prog (w1.alloc (.cells #[.int .i64 ((cubeR T s.data.toList).1 : Nat)] 26)) = .ok v' w3 ∧ CuR g bits xs v' (i + 1) w w3 (cubeR T s.data.toList).2.2 S' R' (l ++ [(cubeR T s.data.toList).1]) := by
  have hrf1 : RfAt v R l w1 := h.rf.step hg.chg.size (fun k hk => hg.chg.block k (h.rf.lt k hk) (h.rs k hk).2)
  have hRS : ∀ k, R k → ¬ S' k := fun k hk hs => (hg.new k hs).elim (h.rs k hk).2 (fun h2 => by have := h.rf.lt k hk; omega)
  obtain ⟨v', w3, R', hrun, q1, q2, q3⟩ := hrf1.push (cubeR T s.data.toList).1 (by have := h.ln; omega)
  have hl := cubeR_len h.fine s.data.toList
  have hlen := h.len
  have hm := More.cube h.fine s.data.toList
  have hf' := h.fine.cube s.data.toList
  have hown1 := h.own.gr (Nat.le_refl _) hg
  have hsz := h.own.bw.size
  have hsz1 := hg.chg.size
  refine ⟨v', w3, R', hrun, ?_, hf', hm.bits.trans h.bt, hm.lim.trans h.lim, by omega, ?_, q1, ?_, by rw [List.length_append, h.ln]; rfl, ?_⟩
  · exact ht.step q3.size (fun k hk hkl => q3.block k hkl (fun hr => hRS k hr hk))
  · exact ⟨hown1.bl, hown1.bw.trans (q3.below (fun k hk => (h.rs k hk).1) (by omega))⟩
  · intro k hk
    rcases q2 k hk with hk | hk
    · exact ⟨(h.rs k hk).1, hRS k hk⟩
    · exact ⟨by omega, fun hs => by have := ht.lt k hs; omega⟩
  · intro k b hb
    have OK := cubeR_ok h.fine s.data.toList h0
    rw [List.getElem?_append] at hb
    split at hb
    · obtain ⟨o1, s2, o2, o3⟩ := h.ok k b hb
      exact ⟨hm.ref _ o1, s2, o2, fun x => by rw [hm.sem h.fine hf' o1, o3]⟩
    · rename_i hk
      have hk0 : k - l.length = 0 := by
        rcases Nat.eq_zero_or_pos (k - l.length) with e | e
        · exact e
        · rw [List.getElem?_eq_none (by simp; omega)] at hb
          cases hb
      rw [hk0] at hb
      simp only [List.getElem?_cons_zero, Option.some.injEq] at hb
      subst hb
      refine ⟨OK.1, s, ?_, OK.2⟩
      rw [show k = i by have := h.ln; omega]
      exact hs
/-- What cubes answers. -/
def CbP (bits : Nat) (xs : List ByteArray) (w : World) (e : Ending) (w' : World) : Prop :=
  ∃ p v ok, e = .returned (.tuple #[.pointer p, v, .bool ok]) ∧ Below w.heap.size w w' ∧ (ok = true → ∃ g T S R l, p = some ⟨g, 0, none⟩ ∧ CuR g bits xs v xs.length w w' T S R l)
set_option maxRecDepth 100000 in
set_option maxHeartbeats 1000000 in
theorem cubes_bad (bits : Int) (v : Value) (w : World) (hb : bits < 1 ∨ 128 < bits) : Calls Try.prog 13 #[.int .i64 bits, v] w fun e w' => e = .returned (.tuple #[.pointer none, .slice none 0 0, .bool false]) ∧ Below w.heap.size w w' := by
  have HN := Lib.hid (New_bad (w := w) bits 1048576 (by omega))
  clear hb
  go_enter Try.func13, Try.ntmps13
  go_wp2_with fail
  refine HN.out.mono ?_
  rintro e w1 ⟨rfl, rfl⟩
  go_wp2_with fail
  go_ret3
  exact ⟨rfl, Below.refl _ _⟩
set_option maxRecDepth 100000 in
set_option maxHeartbeats 4000000 in
theorem cubes_w (bits : Nat) (A : Option Addr) (c : Nat) (xs : List ByteArray) (w : World) (h1 : 1 ≤ bits) (h2 : bits ≤ 128) (hV : Kd.V Kd.string 9 w 0 (fun k => k < w.heap.size) (.slice A xs.length c) xs) (hl : xs.length ≤ 8) :
    Calls Try.prog 13 #[.int .i64 bits, .slice A xs.length c] w (CbP bits xs w) := by
  have HN : Hid (Calls Try.prog 19 #[.int .i64 bits, .int .i64 1048576] w fun e w' => ∃ g S, e = .returned (.tuple #[.pointer (some ⟨g, 0, none⟩), .int .i64 0]) ∧ Tab g S (newB bits 1048576) w' ∧ (∀ k, S k → w.heap.size ≤ k) ∧ Below w.heap.size w w') := Lib.hid (New_w (w := w) bits 1048576 h1 h2 (by omega))
  have HF := Lib.hid (Fine.new h1 h2 (show 1048576 ≤ 1048576 from Nat.le_refl _))
  have HV : Hid (∀ w', Below w.heap.size w w' → Kd.V Kd.string 9 w' 0 (fun k => k < w.heap.size) (.slice A xs.length c) xs) := Lib.hid (fun w' hb => Kd.V_step hV (fun k hk _ => hb.block k hk))
  obtain ⟨n, hn⟩ : ∃ n, n = xs.length := ⟨_, rfl⟩
  rw [← hn] at HV ⊢
  have hln : n ≤ 8 := by omega
  have HNN := Lib.hid hn
  clear hV hl hn h1 h2
  go_enter Try.func13, Try.ntmps13
  go_wp2_with fail
  refine HN.out.mono ?_
  rintro e w1 ⟨g, S1, rfl, q1, q2, q3⟩
  have HST : Hid (∃ T S R l, CuR g bits xs (.slice none 0 0) 0 w w1 T S R l) := Lib.hid ⟨newB bits 1048576, S1, fun _ => False, [], q1, HF.out, rfl, rfl, by simp [newB], ⟨q2, q3⟩, RfAt.nil _, fun k hk => hk.elim, rfl, fun k b hb => by simp at hb⟩
  clear q1 q2 q3 HN HF
  go_wp2_with fail
  go_loopw [9, 10] (fun v9 v10 wr => ∃ (i : Nat) (u : Value), u = v9 ∧ v10 = .int .i64 i ∧ i ≤ n ∧ Hid (∃ T S R l, CuR g bits xs u i w wr T S R l)) (fun _ v10 _ => n - (intOf v10).toNat)
  case atStart => exact ⟨0, _, rfl, rfl, Nat.zero_le _, HST⟩
  case round =>
    clear HST
    obtain ⟨i, v9, rfl, rfl, hi, hrel⟩ := hrel
    by_cases hlt : i < n
    · obtain ⟨T, S, R, l, hR⟩ := hrel.out
      obtain ⟨ad, x, rfl, hc, HX, _⟩ := V_str (HV.out wr hR.own.bw) i (by rw [← HNN.out]; exact hlt)
      have hi64 : (i : Int) < (n : Int) := by omega
      have hi64b : decide ((i : Int) < (n : Int)) = true := decide_eq_true hi64
      have hnn : (n : Int) ≤ 8 := by omega
      have hxs : xs[i]? = some x := by
        rw [HX.out, List.getD_eq_getElem?_getD, List.getElem?_eq_getElem (by rw [← HNN.out]; exact hlt)]
        rfl
      have hcu := hR.cube (by omega) x
      have herr := cubeR_err T x.data.toList
      obtain ⟨a, ha⟩ : ∃ a, a = (cubeR T x.data.toList).1 := ⟨_, rfl⟩
      obtain ⟨f, hf⟩ : ∃ f, f = (cubeR T x.data.toList).2.1 := ⟨_, rfl⟩
      rw [← ha, ← hf] at hcu
      rw [← hf] at herr
      have HNX : Hid (f = 0 → ∀ w1 S', Tab g S' (cubeR T x.data.toList).2.2 w1 → Gr S S' wr w1 → ∃ v' w3, (Builtin.append_ #[37, 37] 37 #[v9, .slice (some ⟨w1.heap.size, 0, none⟩) 1 1]).run Try.prog (w1.alloc (.cells #[.int .i64 a] 26)) = .ok v' w3 ∧ ∃ T S R l, CuR g bits xs v' (i + 1) w w3 T S R l) := Lib.hid (fun h0 w1 S' ht hg => by
        obtain ⟨v', w3, R', e1, e2⟩ := hR.next (by omega) x hxs (hf ▸ h0) ht hg
        rw [← ha] at e1
        exact ⟨v', w3, e1, _, _, _, _, e2⟩)
      have HCU := Lib.hid hcu
      have HERR := Lib.hid herr
      have HOW := Lib.hid hR.own
      clear hR hrel ha hf herr hxs hcu
      go_wp2_with fail
      refine HCU.out.mono ?_
      rintro e w3 ⟨rfl, S', q1, q2⟩
      have HBL : Hid (Below w.heap.size w w3) := Lib.hid (HOW.out.gr (Nat.le_refl _) q2).bw
      rcases HERR.out with h0 | h0
      · subst h0
        obtain ⟨v', w4, e1, e2⟩ := HNX.out rfl w3 S' q1 q2
        have E1 := Lib.hid e1
        have E2 := Lib.hid e2
        clear q1 q2 HCU HNX e1 e2
        go_wp2_with (at_builtin; refine wpList_append_run _ rfl (.tmp 42) (.tmp 44) 37 rfl v9 (.slice (some ⟨w3.heap.size, 0, none⟩) 1 1) rfl rfl v' w4 E1.out ?_)
        go_roundw
        case rel => exact ⟨i + 1, _, rfl, by go_num, by omega, E2⟩
        case measure => simp [intOf]; omega
      · subst h0
        clear q1 q2 HCU HNX
        go_wp2_with fail
        go_ret3
        exact ⟨_, _, false, rfl, HBL.out, fun h => by cases h⟩
    · have hi64b : decide ((i : Int) < (n : Int)) = false := decide_eq_false (by omega)
      have hi64c : decide (i < n) = false := decide_eq_false hlt
      have hin : i = xs.length := by rw [← HNN.out]; omega
      have HE : Hid (∃ T S R l, CuR g bits xs v9 xs.length w wr T S R l) := Lib.hid (by rw [← hin]; exact hrel.out)
      clear hrel hin
      go_wp2_with fail
      go_ret3
      obtain ⟨T, S, R, l, hR⟩ := HE.out
      exact ⟨_, _, true, rfl, hR.own.bw, fun _ => ⟨g, T, S, R, l, rfl, hR⟩⟩
end
end Go.Proofs.Ytbglnddjhlefnaa
namespace Go.Proofs.Ytbglnddjhlefnaa
open Go Go.RowKit Go.Proofs.YtbglnddjhlefnaaW.PrintWords Go.Proofs.YtbglnddjhlefnaaW.PrintLast Go.Proofs.YtbglnddjhlefnaaW.PrintMore
theorem anyF_pre {bits : Nat} {N N' : List Nd} (w : WF bits N) (hp : N <+: N') : ∀ (f a : Nat) (b : Txt), Val N a → anyF N' f a b = anyF N f a b := by
  intro f
  induction f with
  | zero => intro a b _; rfl
  | succ f ih =>
    intro a b hv
    rw [anyF, anyF]
    by_cases h2 : a < 2
    · rw [if_pos h2, if_pos h2]
    · rw [if_neg h2, if_neg h2, ndAt_pre hp (by omega) hv, ih _ _ (hv.lo w (by omega)), ih _ _ (hv.hi w (by omega))]
theorem abc_letters {s : Txt} (h : abc s) : lettersOk s = true := by
  unfold lettersOk
  rw [List.all_eq_true]
  intro c hc
  obtain ⟨i, hi⟩ := List.mem_iff_getElem?.1 hc
  rcases h i c hi with rfl | rfl | rfl <;> decide
section
variable {g : Nat} {vs : Value} {P : List Txt} {w wr w' : World} {T T' T1 : Bd} {S S' R : Nat → Prop}
theorem TxAt.cell {A : Option Addr} {n c : Nat} (h : TxAt (.slice A n c) R P w) (i : Nat) (hi : i < P.length) : ∃ ad, A = some ad ∧ w.cell? (ad.add i) = some (strV (P.getD i [])) := by
  rcases h.row.2 with ⟨_, h0⟩ | ⟨q, cap, cur, hv, _, hc, hcap, hm, hcs, htk⟩
  · omega
  · injection hv with h1 h2 h3
    subst h1
    refine ⟨_, rfl, ?_⟩
    rw [add_plain, cell_of_row w q _ cur 9 (0, 0) hc]
    have hk : (P.map strV)[i]? = some (strV (P.getD i [])) := by rw [List.getElem?_map, List.getD_eq_getElem?_getD, List.getElem?_eq_getElem hi]; rfl
    rw [← htk, List.getElem?_take, if_pos (by omega), Array.getElem?_toList] at hk
    exact hk
/-- What every call keeps. -/
structure LpB (g : Nat) (vs : Value) (P : List Txt) (w wr : World) (T : Bd) (S R : Nat → Prop) : Prop where
  tab : Tab g S T wr
  own : Own w.heap.size S w wr
  tx : TxAt vs R P wr
  rs : ∀ k, R k → w.heap.size ≤ k ∧ ¬ S k
theorem LpB.gr (h : LpB g vs P w wr T S R) (ht : Tab g S' T' w') (hg : Gr S S' wr w') : LpB g vs P w w' T' S' R :=
  ⟨ht, h.own.gr (Nat.le_refl _) hg, h.tx.step hg.chg.size (fun k hk => hg.chg.block k (h.tx.lt k hk) (h.rs k hk).2), fun k hk => ⟨(h.rs k hk).1, fun hs => (hg.new k hs).elim (h.rs k hk).2 (fun h2 => by have := h.tx.lt k hk; omega)⟩⟩
theorem two_gr {W : World} {o : Obj} (hg : Gr S S' (W.alloc o) w') : Gr S S' W w' :=
  ⟨hg.up, fun k hk => (hg.new k hk).imp id (fun h => by rw [World.size_alloc] at h; omega), ((Chg.refl _ _).alloc o).trans hg.chg (fun i hi => .inl hi)⟩
theorem fold_room (hf : Fine T) (and : Bool) (l : List Nat) (hl : ∀ b ∈ l, Val T.N b) (hlen : (foldC T.bits and T.N (if and then 1 else 0) l).2.length ≤ T.lim) : Room { T with N := (foldC T.bits and T.N (if and then 1 else 0) l).2 } (foldC T.bits and T.N (if and then 1 else 0) l).1 := by
  have OK := foldC_ok and l T.N (if and then 1 else 0) hf.wf (by cases and; exact val0 _; exact val1 _) hl
  exact (hf.grow OK.wf OK.pre).room OK.val hlen
theorem And2_w {W : World} (h : Tab g S T W) (hf : Fine T) (s c : Nat) (hs : okR T.refs (s : Int) = true) (hc : okR T.refs (c : Int) = true) (hlen : (foldC T.bits true T.N 1 [s, c]).2.length ≤ T.lim) :
    Calls Try.prog 17 #[.pointer (some ⟨g, 0, none⟩), .slice (some ⟨W.heap.size, 0, none⟩) 2 2] (W.alloc (.cells #[.int .i64 s, .int .i64 c] 26)) fun e w' => e = .returned (.tuple #[.int .i64 (foldR T true [s, c]).1, .int .i64 0]) ∧ ∃ S', Tab g S' (foldR T true [s, c]).2.2 w' ∧ Gr S S' W w' := by
  have hv : ∀ b ∈ [s, c], okR T.refs (b : Int) = true := by simp [hs, hc]
  have hlim := hf.lim
  refine (And_w (l := [s, c]) (A := some ⟨W.heap.size, 0, none⟩) (c := 2) (h.below (below_alloc (Below.refl _ _) _)) hf (new_refs [(s : Int), c] [.int .i64 s, .int .i64 c] rfl W (by simp) W.heap.size 2 rfl rfl) (by simp) ?_ hv (by omega) (fold_room hf true _ (fun b hb => okR_val hf (hv b hb)) hlen)).mono ?_
  · rintro k rfl
    exact ⟨fun hs => by have := h.lt _ hs; omega, by rw [World.size_alloc]; omega⟩
  · rintro e w' ⟨rfl, S', q1, q2⟩
    exact ⟨rfl, S', q1, two_gr q2⟩
theorem Or2_w {W : World} (h : Tab g S T W) (hf : Fine T) (s c : Nat) (hs : okR T.refs (s : Int) = true) (hc : okR T.refs (c : Int) = true) (hlen : (foldC T.bits false T.N 0 [s, c]).2.length ≤ T.lim) :
    Calls Try.prog 14 #[.pointer (some ⟨g, 0, none⟩), .slice (some ⟨W.heap.size, 0, none⟩) 2 2] (W.alloc (.cells #[.int .i64 s, .int .i64 c] 26)) fun e w' => e = .returned (.tuple #[.int .i64 (foldR T false [s, c]).1, .int .i64 0]) ∧ ∃ S', Tab g S' (foldR T false [s, c]).2.2 w' ∧ Gr S S' W w' := by
  have hv : ∀ b ∈ [s, c], okR T.refs (b : Int) = true := by simp [hs, hc]
  have hlim := hf.lim
  refine (Or_w (l := [s, c]) (A := some ⟨W.heap.size, 0, none⟩) (c := 2) (h.below (below_alloc (Below.refl _ _) _)) hf (new_refs [(s : Int), c] [.int .i64 s, .int .i64 c] rfl W (by simp) W.heap.size 2 rfl rfl) (by simp) ?_ hv (by omega) (fold_room hf false _ (fun b hb => okR_val hf (hv b hb)) hlen)).mono ?_
  · rintro k rfl
    exact ⟨fun hs => by have := h.lt _ hs; omega, by rw [World.size_alloc]; omega⟩
  · rintro e w' ⟨rfl, S', q1, q2⟩
    exact ⟨rfl, S', q1, two_gr q2⟩
/-- The loop of BddCubes, under way. -/
structure LpR (g : Nat) (T1 : Bd) (vs : Value) (P : List Txt) (sum i : Nat) (w wr : World) (T : Bd) (S R : Nat → Prop) : Prop where
  b : LpB g vs P w wr T S R
  fine : Fine T
  more : More T1 T
  lim : T.lim = 1048576
  len : T.N.length ≤ 40000 + i * 256
  ok : okR T.refs (sum : Int) = true
  sm : ∀ h, sem T.N sum h = (P.take i).any (fun p => fits p 0 h)
/-- One round. -/
theorem LpR.round {sum i : Nat} (h : LpR g T1 vs P sum i w wr T S R) (hP : P.length ≤ 200) (hi : i < P.length) (hgood : ∀ p ∈ P, p.length = T1.bits ∧ abc p) (hord : P.Pairwise Bef) :
    ∃ c T2, c ≠ 0 ∧ Calls Try.prog 16 #[.pointer (some ⟨g, 0, none⟩), strV (P.getD i [])] wr (fun e w' => e = .returned (.tuple #[.int .i64 (c : Nat), .int .i64 0]) ∧ ∃ S', LpB g vs P w w' T2 S' R) ∧
      ∃ T3, (∀ W S, LpB g vs P w W T2 S R → Calls Try.prog 17 #[.pointer (some ⟨g, 0, none⟩), .slice (some ⟨W.heap.size, 0, none⟩) 2 2] (W.alloc (.cells #[.int .i64 sum, .int .i64 c] 26)) fun e w' => e = .returned (.tuple #[.int .i64 0, .int .i64 0]) ∧ ∃ S', LpB g vs P w w' T3 S' R) ∧
      ∃ sum', ∀ W S, LpB g vs P w W T3 S R → Calls Try.prog 14 #[.pointer (some ⟨g, 0, none⟩), .slice (some ⟨W.heap.size, 0, none⟩) 2 2] (W.alloc (.cells #[.int .i64 sum, .int .i64 c] 26)) fun e w' => e = .returned (.tuple #[.int .i64 (sum' : Nat), .int .i64 0]) ∧ ∃ T S', LpR g T1 vs P sum' (i + 1) w w' T S' R := by
  have hmem : P.getD i [] ∈ P := by
    rw [List.getD_eq_getElem?_getD, List.getElem?_eq_getElem hi]
    exact List.getElem_mem hi
  have hat : P[i]? = some (P.getD i []) := by rw [List.getD_eq_getElem?_getD, List.getElem?_eq_getElem hi]; rfl
  have hbef : ∀ q ∈ P.take i, Bef q (P.getD i []) := by
    intro q hq
    obtain ⟨j, hj⟩ := List.mem_iff_getElem?.1 hq
    rw [List.getElem?_take] at hj
    split at hj
    · rename_i hji
      obtain ⟨hj1, hj2⟩ := List.getElem?_eq_some_iff.1 hj
      obtain ⟨hi1, hi2⟩ := List.getElem?_eq_some_iff.1 hat
      have := (List.pairwise_iff_getElem.1 hord) j i hj1 hi1 hji
      rw [hj2, hi2] at this
      exact this
    · cases hj
  have htk : P.take (i + 1) = P.take i ++ [P.getD i []] := by rw [List.take_add_one, hat]; rfl
  generalize P.getD i [] = x at hmem hbef htk ⊢
  obtain ⟨g1, g2⟩ := hgood x hmem
  have hlen := h.len
  have hlim := h.lim
  have hbit : T.bits = T1.bits := h.more.bits
  have hb2 := h.fine.b2
  have herr := cubeR_good (T := T) x (by omega) (abc_letters g2)
  have hok := cubeR_ok h.fine x herr
  have hm2 := More.cube h.fine x
  have hf2 := h.fine.cube x
  have hl2 := cubeR_len h.fine x
  have hcall := cube_any h.b.tab h.fine (by omega) ⟨x.toArray⟩
  have hsum2 : ∀ y, sem (cubeR T x).2.2.N sum y = (P.take i).any (fun p => fits p 0 y) := fun y => by rw [hm2.sem h.fine hf2 h.ok, h.sm]
  have hoks := hm2.ref _ h.ok
  unfold TwP at hcall
  rw [show (ByteArray.mk x.toArray).data.toList = x by simp] at hcall
  rw [herr] at hcall
  generalize hc : (cubeR T x).1 = c at hok hcall
  generalize hT2 : (cubeR T x).2.2 = T2 at hok hm2 hf2 hl2 hcall hsum2 hoks
  have hc0 : c ≠ 0 := by
    intro e
    obtain ⟨y, hy⟩ := fits_some x
    have := hok.2 y
    rw [e, sem_zero, hy] at this
    cases this
  refine ⟨c, T2, hc0, hcall.mono ?_, ?_⟩
  · rintro e w' ⟨rfl, S', q1, q2⟩
    exact ⟨rfl, S', h.b.gr q1 q2⟩
  have hvs := okR_val hf2 hoks
  have hvc := okR_val hf2 hok.1
  have hbits2 : T2.bits = T1.bits := by rw [hm2.bits, hbit]
  have hA := and_apart hf2.wf hvs hvc (fun y hy => by
    obtain ⟨y1, y2⟩ := hy
    rw [hsum2] at y1
    rw [hok.2] at y2
    obtain ⟨p, hp, hpf⟩ := List.any_eq_true.1 y1
    exact (hbef p hp).apart y ⟨hpf, y2⟩)
  have hv2 : ∀ b ∈ [sum, c], Val T2.N b := by simp [hvs, hvc]
  have hlim2 : T2.lim = 1048576 := hm2.lim.trans hlim
  have hf3 : Fine (foldR T2 true [sum, c]).2.2 := hf2.fold true _ hv2
  have hm3 := More.fold hf2 true _ hv2
  have hl3 : (foldR T2 true [sum, c]).2.2.N.length ≤ T2.N.length := hA.2
  have hz : (foldR T2 true [sum, c]).1 = 0 := hA.1
  have hcall3 : ∀ W S, LpB g vs P w W T2 S R → Calls Try.prog 17 #[.pointer (some ⟨g, 0, none⟩), .slice (some ⟨W.heap.size, 0, none⟩) 2 2] (W.alloc (.cells #[.int .i64 sum, .int .i64 c] 26)) fun e w' => e = .returned (.tuple #[.int .i64 0, .int .i64 0]) ∧ ∃ S', LpB g vs P w w' (foldR T2 true [sum, c]).2.2 S' R := fun W S hB => by
    refine (And2_w hB.tab hf2 sum c hoks hok.1 (by have := hA.2; omega)).mono ?_
    rintro e w' ⟨rfl, S', q1, q2⟩
    rw [hz]
    exact ⟨rfl, S', hB.gr q1 q2⟩
  generalize (foldR T2 true [sum, c]).2.2 = T3 at hf3 hm3 hl3 hcall3
  refine ⟨T3, hcall3, ?_⟩
  have hoks3 := hm3.ref _ hoks
  have hokc3 := hm3.ref _ hok.1
  have hvs3 := okR_val hf3 hoks3
  have hvc3 := okR_val hf3 hokc3
  have hv3 : ∀ b ∈ [sum, c], Val T3.N b := by simp [hvs3, hvc3]
  have hs3 : ∀ y, sem T3.N sum y = (P.take i).any (fun p => fits p 0 y) := fun y => by rw [hm3.sem hf2 hf3 hoks, hsum2]
  have hs3c : ∀ y, sem T3.N c y = fits x 0 y := fun y => by rw [hm3.sem hf2 hf3 hok.1, hok.2]
  have hO := or_next hf3.wf hvs3 hvc3 (P.take i) x hbef hs3 hs3c
  have hb3 := hf3.b2
  have hlim3 : T3.lim = 1048576 := hm3.lim.trans hlim2
  have hm4 := More.fold hf3 false _ hv3
  have hf4 : Fine (foldR T3 false [sum, c]).2.2 := hf3.fold false _ hv3
  have OK := foldC_ok false [sum, c] T3.N 0 hf3.wf (val0 _) hv3
  refine ⟨(foldR T3 false [sum, c]).1, fun W S hB => ?_⟩
  refine (Or2_w hB.tab hf3 sum c hoks3 hokc3 (by omega)).mono ?_
  rintro e w' ⟨rfl, S', q1, q2⟩
  refine ⟨rfl, _, S', hB.gr q1 q2, hf4, ((h.more.trans hm2).trans hm3).trans hm4, hm4.lim.trans hlim3, ?_, foldR_ok _ _ _, fun y => ?_⟩
  · have : (foldR T3 false [sum, c]).2.2.N.length ≤ T3.N.length + T3.bits := hO
    omega
  · have := OK.sem y
    simp only [Bool.false_eq_true, if_false, List.any_cons, List.any_nil, Bool.or_false, sem_zero, Bool.false_or, hs3, hs3c] at this
    rw [htk, List.any_append, List.any_cons, List.any_nil, Bool.or_false]
    exact this
end
end Go.Proofs.Ytbglnddjhlefnaa
namespace Go.Proofs.Ytbglnddjhlefnaa
open Go Go.RowKit Go.Proofs.YtbglnddjhlefnaaW.PrintWords Go.Proofs.YtbglnddjhlefnaaW.PrintLast Go.Proofs.YtbglnddjhlefnaaW.PrintMore
section
variable {g bits : Nat} {xs : List ByteArray} {v vs : Value} {P : List Txt} {w wr w' : World} {T T1 : Bd} {S R : Nat → Prop} {l : List Nat}
/-- The union. -/
theorem CuR.or (h : CuR g bits xs v xs.length w wr T S R l) (hx : xs.length ≤ 8) :
    ∃ a T1, Fine T1 ∧ T1.lim = 1048576 ∧ T1.N.length ≤ 40000 ∧ okR T1.refs ((a : Nat) : Int) = true ∧ Calls Try.prog 14 #[.pointer (some ⟨g, 0, none⟩), v] wr fun e w' => e = .returned (.tuple #[.int .i64 a, .int .i64 0]) ∧ ∃ S', Tab g S' T1 w' ∧ Own w.heap.size S' w w' := by
  have hlen := h.len
  have hln := h.ln
  have hb2 := h.fine.b2
  have hokl : ∀ b ∈ l, okR T.refs (b : Int) = true := fun b hb => by
    obtain ⟨k, hk⟩ := List.mem_iff_getElem?.1 hb
    exact (h.ok k b hk).1
  have hvl : ∀ b ∈ l, Val T.N b := fun b hb => okR_val h.fine (hokl b hb)
  have hcnt := or_count h.fine.wf hvl (xs.map (fun s => s.data.toList)) (by rw [List.length_map, hln]) (fun k b s hk hs y => by
    obtain ⟨_, s2, o2, o3⟩ := h.ok k b hk
    rw [List.getElem?_map, o2] at hs
    simp only [Option.map_some, Option.some.injEq] at hs
    rw [← hs]
    exact o3 y)
  have hp : 2 ^ l.length ≤ 256 := Nat.pow_le_pow_right (n := 2) (by omega) (show l.length ≤ 8 by omega)
  have hbp : T.bits * 2 ^ l.length ≤ 128 * 256 := Nat.mul_le_mul hb2 hp
  have hlim := h.lim
  have hl4 : (foldC T.bits false T.N 0 l).2.length ≤ 40000 := by omega
  obtain ⟨A, c, rfl⟩ := h.rf.slice
  refine ⟨_, (foldR T false l).2.2, h.fine.fold false l hvl, (More.fold h.fine false l hvl).lim.trans hlim, hl4, foldR_ok T false l, ?_⟩
  refine (Or_w (l := l) h.tab h.fine h.rf.reads (by omega) (fun k hk => ⟨(h.rs k hk).2, h.rf.lt k hk⟩) hokl (by omega) (fold_room h.fine false l hvl (by show (foldC T.bits false T.N 0 l).2.length ≤ T.lim; omega))).mono ?_
  rintro e w' ⟨rfl, S', q1, q2⟩
  exact ⟨rfl, S', q1, h.own.gr (Nat.le_refl _) q2⟩
/-- The end. -/
theorem LpR.fin {sum a : Nat} (h : LpR g T1 vs P sum P.length w wr T S R) (hf : Fine T1) (hok : okR T1.refs (a : Int) = true) (hP : P = pathsOf T1.bits T1.N a) :
    sum = a ∧ ((a = 0 ∧ P = []) ∨ (a ≠ 0 ∧ 0 < P.length ∧ anyF T.N (a + 1) a (blankT T.bits) = P.getD 0 [])) := by
  have hva := okR_val hf hok
  have hoka := h.more.ref _ hok
  refine ⟨canon h.fine.wf (okR_val h.fine h.ok) (okR_val h.fine hoka) (fun y => ?_), ?_⟩
  · rw [h.sm, List.take_length, h.more.sem hf h.fine hok, hP]
    exact (pathsOf_ok hf.wf hva).2 y
  · by_cases ha : a = 0
    · left
      refine ⟨ha, ?_⟩
      rw [hP, ha]
      rfl
    · right
      have hh := anyF_head hf.wf (a + 1) a (blankT T1.bits) hva (by omega) (by omega) ha
      have hh2 : P.head? = some (anyF T1.N (a + 1) a (blankT T1.bits)) := by rw [hP]; exact hh
      refine ⟨ha, ?_, ?_⟩
      · cases P with
        | nil => cases hh2
        | cons p P => simp
      · rw [anyF_pre hf.wf h.more.pre _ _ _ hva, h.more.bits]
        cases P with
        | nil => cases hh2
        | cons p P =>
          simp only [List.head?_cons, Option.some.injEq] at hh2
          exact hh2.symm
set_option maxRecDepth 100000 in
set_option maxHeartbeats 1000000 in
theorem cubes4_big (bits : Int) (A : Option Addr) (n c : Nat) (w : World) (hn : 8 < n) : Calls Try.prog 4 #[.int .i64 bits, .slice A n c] w fun e w' => e = .returned (.bool true) ∧ Below w.heap.size w w' := by
  have HAW := Lib.hid (awake_w w)
  have t1 : decide (8 < (n : Int)) = true := decide_eq_true (by omega)
  have t2 : decide (8 < n) = true := decide_eq_true hn
  clear hn
  go_enter Try.func4, Try.ntmps4
  go_wp2_with fail
  refine HAW.out.mono ?_
  rintro e w1 ⟨rfl, hb⟩
  have HB := Lib.hid hb
  clear hb
  go_wp2_with fail
  go_ret
  exact ⟨rfl, HB.out⟩
set_option maxRecDepth 100000 in
set_option maxHeartbeats 1000000 in
theorem cubes4_bad (bits : Int) (A : Option Addr) (n c : Nat) (w : World) (hn : ¬ 8 < n) (hb : bits < 1 ∨ 128 < bits) : Calls Try.prog 4 #[.int .i64 bits, .slice A n c] w fun e w' => e = .returned (.bool true) ∧ Below w.heap.size w w' := by
  have HAW := Lib.hid (awake_w w)
  have HCB := Lib.hid (fun w => cubes_bad bits (.slice A n c) w hb)
  have t1 : decide (8 < (n : Int)) = false := decide_eq_false (by omega)
  have t2 : decide (8 < n) = false := decide_eq_false hn
  clear hn hb
  go_enter Try.func4, Try.ntmps4
  go_wp2_with fail
  refine HAW.out.mono ?_
  rintro e w1 ⟨rfl, hb⟩
  have HB := Lib.hid hb
  clear hb
  go_wp2_with fail
  refine (HCB.out w1).mono ?_
  rintro e w2 ⟨rfl, hb⟩
  have HB2 := Lib.hid (below_trans' HB.out hb HB.out.size)
  clear hb HCB
  go_wp2_with fail
  go_ret
  exact ⟨rfl, HB2.out⟩
set_option maxRecDepth 100000 in
set_option maxHeartbeats 8000000 in
theorem cubes4_w (bits : Nat) (A : Option Addr) (c : Nat) (xs : List ByteArray) (w : World) (h1 : 1 ≤ bits) (h2 : bits ≤ 128) (hV : Kd.V Kd.string 9 w 0 (fun k => k < w.heap.size) (.slice A xs.length c) xs) (hl : ¬ 8 < xs.length) :
    Calls Try.prog 4 #[.int .i64 bits, .slice A xs.length c] w fun e w' => e = .returned (.bool true) ∧ Below w.heap.size w w' := by
  have HAW := Lib.hid (awake_w w)
  have HCB : Hid (∀ w1, Below w.heap.size w w1 → Calls Try.prog 13 #[.int .i64 bits, .slice A xs.length c] w1 (CbP bits xs w1)) := Lib.hid (fun w1 hb => cubes_w bits A c xs w1 h1 h2 (Kd.V_mono (Kd.V_step hV (fun k hk _ => hb.block k hk)) (fun k hk => Nat.lt_of_lt_of_le hk hb.size)) (by omega))
  have HOR : Hid (∀ g v w1 w2 T S R l, CuR g bits xs v xs.length w1 w2 T S R l → ∃ a T1, Fine T1 ∧ T1.lim = 1048576 ∧ T1.N.length ≤ 40000 ∧ okR T1.refs ((a : Nat) : Int) = true ∧ Calls Try.prog 14 #[.pointer (some ⟨g, 0, none⟩), v] w2 fun e w' => e = .returned (.tuple #[.int .i64 a, .int .i64 0]) ∧ ∃ S', Tab g S' T1 w' ∧ Own w1.heap.size S' w1 w') := Lib.hid (fun g v w1 w2 T S R l h => h.or (by omega))
  have t1 : decide (8 < (xs.length : Int)) = false := decide_eq_false (by omega)
  have t2 : decide (8 < xs.length) = false := decide_eq_false hl
  obtain ⟨n, hn⟩ : ∃ n, n = xs.length := ⟨_, rfl⟩
  rw [← hn] at HCB t1 t2 ⊢
  clear hV hl h1 h2 hn
  go_enter Try.func4, Try.ntmps4
  go_wp2_with fail
  refine HAW.out.mono ?_
  rintro e w1 ⟨rfl, hb⟩
  have HB := Lib.hid hb
  have HC1 := Lib.hid (HCB.out w1 hb)
  clear hb HCB HAW
  go_wp2_with fail
  refine HC1.out.mono ?_
  rintro e w2 ⟨p, v, ok, rfl, hb, hok⟩
  have HB2 := Lib.hid (below_trans' HB.out hb HB.out.size)
  cases ok with
  | false =>
    clear hb hok HC1
    go_wp2_with fail
    go_ret
    exact ⟨rfl, HB2.out⟩
  | true =>
    obtain ⟨g, T, S, R, l, rfl, hR⟩ := hok rfl
    obtain ⟨a, T1, f1, f2, f3, f4, f5⟩ := HOR.out _ _ _ _ _ _ _ _ hR
    have F1 := Lib.hid f1
    have F2 := Lib.hid f2
    have F3 := Lib.hid f3
    have F4 := Lib.hid f4
    have F5 := Lib.hid f5
    clear hb hok HC1 hR f1 f2 f3 f4 f5 HOR
    go_wp2_with fail
    refine F5.out.mono ?_
    rintro e w3 ⟨rfl, S3, q1, q2⟩
    have OW : Hid (Own w.heap.size S3 w w3) := Lib.hid ⟨fun k hk => Nat.le_trans HB.out.size (q2.bl k hk), below_trans' HB.out q2.bw HB.out.size⟩
    have HCC := Lib.hid (Cubes_w q1 F1.out (by have := F3.out; omega) a 2000 (by omega) F4.out)
    have TB := Lib.hid q1
    clear q1 q2 F5 HB2 HB t1 t2
    go_wp2_with fail
    refine HCC.out.mono ?_
    rintro e w4 ⟨hb4, hcase⟩
    obtain ⟨P, hP⟩ : ∃ P, P = pathsOf T1.bits T1.N a := ⟨_, rfl⟩
    rw [← hP] at hcase
    have HPP := Lib.hid hP
    have hva := okR_val F1.out F4.out
    have POK : Hid ((∀ p ∈ P, p.length = T1.bits ∧ abc p) ∧ P.Pairwise Bef) := Lib.hid (by
      have hq := (pathsOf_ok F1.out.wf hva).1
      rw [hP]
      exact ⟨fun p hp => ⟨by rw [hq.len p hp]; simp [blankT], hq.abc p hp⟩, hq.ord⟩)
    have HB4 : Hid (Below w.heap.size w w4) := Lib.hid (below_trans' OW.out.bw hb4 OW.out.bw.size)
    rcases hcase with ⟨hm, rfl⟩ | ⟨hm, A4, c4, R4, rfl, tx, hr⟩
    · clear hb4 HCC hm hva hP
      go_wp2_with fail
      go_ret
      exact ⟨rfl, HB4.out⟩
    · have HST : Hid (∃ T S, LpR g T1 (.slice A4 P.length c4) P 0 0 w w4 T S R4) := Lib.hid ⟨T1, S3, ⟨TB.out.below hb4, OW.out.below (Nat.le_refl _) hb4, tx, fun k hk => ⟨Nat.le_trans OW.out.bw.size (hr k hk), fun hs => by have := TB.out.lt k hs; have := hr k hk; omega⟩⟩, F1.out, More.refl _, F2.out, by have := F3.out; omega, rfl, fun y => by rw [sem_zero]; rfl⟩
      obtain ⟨n1, hn1⟩ : ∃ n1, n1 = P.length := ⟨_, rfl⟩
      by_cases hbig : 200 < P.length
      · have u1 : decide (200 < (n1 : Int)) = true := decide_eq_true (by omega)
        have u2 : decide (200 < n1) = true := decide_eq_true (by omega)
        rw [← hn1]
        clear hb4 HCC hm hva hP tx hr hn1 hbig HST
        go_wp2_with fail
        go_ret
        exact ⟨rfl, HB4.out⟩
      · have u1 : decide (200 < (n1 : Int)) = false := decide_eq_false (by omega)
        have u2 : decide (200 < n1) = false := decide_eq_false (by omega)
        have u3 : n1 ≤ 200 := by omega
        rw [← hn1]
        have HN1 := Lib.hid hn1
        clear hb4 HCC hm hva hP tx hr hn1 hbig OW TB HB4
        go_wp2_with fail
        go_loopw [12, 13] (fun v12 v13 wr => ∃ (i sum : Nat), v12 = .int .i64 sum ∧ v13 = .int .i64 i ∧ i ≤ n1 ∧ Hid (∃ T S, LpR g T1 (.slice A4 P.length c4) P sum i w wr T S R4)) (fun _ v13 _ => n1 - (intOf v13).toNat)
        case atStart => exact ⟨0, 0, rfl, rfl, Nat.zero_le _, HST⟩
        case round =>
          clear HST u1 u2
          obtain ⟨i, sum, rfl, rfl, hi, hrel⟩ := hrel
          by_cases hlt : i < n1
          · obtain ⟨T, S, hR⟩ := hrel.out
            have hlt2 : i < P.length := by rw [← HN1.out]; exact hlt
            obtain ⟨ad, rfl, hc⟩ := hR.b.tx.cell i hlt2
            obtain ⟨k, T2, hk0, hcall1, T3, hcall2, sum', hcall3⟩ := hR.round (by rw [← HN1.out]; exact u3) hlt2 POK.out.1 POK.out.2
            have hi64 : (i : Int) < (n1 : Int) := by omega
            have hi64b : decide ((i : Int) < (n1 : Int)) = true := decide_eq_true hi64
            have hnn : (n1 : Int) ≤ 200 := by omega
            unfold strV at hc hcall1
            generalize ByteArray.mk (P.getD i []).toArray = sv at hc hcall1
            have H1 := Lib.hid hcall1
            have H2 := Lib.hid hcall2
            have H3 := Lib.hid hcall3
            have k0 : ((k : Int) == 0) = false := by simp; omega
            clear hR hrel hcall1 hcall2 hcall3 hlt2 hk0
            go_wp2_with fail
            refine H1.out.mono ?_
            rintro e w5 ⟨rfl, S5, b5⟩
            have H2' := Lib.hid (H2.out w5 S5 b5)
            clear b5 H1 H2 hc
            go_wp2_with fail
            refine H2'.out.mono ?_
            rintro e w6 ⟨rfl, S6, b6⟩
            have H3' := Lib.hid (H3.out w6 S6 b6)
            clear b6 H2' H3
            go_wp2_with fail
            refine H3'.out.mono ?_
            rintro e w7 ⟨rfl, T7, S7, b7⟩
            have B7 := Lib.hid b7
            clear b7 H3'
            go_wp2_with fail
            go_roundw
            case rel => exact ⟨i + 1, sum', rfl, by go_num, by omega, Lib.hid ⟨_, _, B7.out⟩⟩
            case measure => simp [intOf]; omega
          · have hin : i = n1 := by omega
            subst hin
            have hi64b : decide ((i : Int) < (i : Int)) = false := decide_eq_false (by omega)
            have hi64c : decide (i < i) = false := decide_eq_false (by omega)
            obtain ⟨T, S, hR⟩ := hrel.out
            rw [HN1.out] at hR
            obtain ⟨rfl, hfin⟩ := hR.fin F1.out F4.out HPP.out
            have hss : ((sum : Int) == (sum : Int)) = true := by simp
            have hoks := hR.ok
            have hlen := hR.len
            rcases hfin with ⟨h0, hPn⟩ | ⟨h0, hpl, hany⟩
            · subst h0
              have hi0 : i = 0 := by rw [HN1.out, hPn]; rfl
              subst hi0
              have HA := Lib.hid (Any_zero hR.b.tab)
              have HBW := Lib.hid hR.b.own.bw
              clear hR hrel hPn hoks hlen
              go_wp2_with fail
              refine HA.out.mono ?_
              rintro e w5 ⟨rfl, hb5⟩
              have HB5 := Lib.hid (below_trans' HBW.out hb5 HBW.out.size)
              clear hb5 HA
              go_wp2_with fail
              go_ret
              exact ⟨rfl, HB5.out⟩
            · have HA := Lib.hid (Any_w hR.b.tab hR.fine (by have := HN1.out; omega) sum h0 hoks)
              obtain ⟨ad, rfl, hc⟩ := hR.b.tx.cell 0 hpl
              rw [hany] at HA
              have HBW := Lib.hid hR.b.own.bw
              unfold strV at hc HA
              generalize ByteArray.mk (P.getD 0 []).toArray = sv at hc HA
              have hc2 : ∀ w5, Below wr.heap.size wr w5 → w5.cell? ad = some (.string sv) := fun w5 hb => by
                have := pw_cell_below hb hc
                rw [show ad.add 0 = ad from by cases ad; rfl] at this
                exact this
              have HC2 := Lib.hid hc2
              have hip : 0 < i := by rw [HN1.out]; exact hpl
              have hip2 : (0 : Int) < (i : Int) := by omega
              have hip3 : decide ((0 : Int) < (i : Int)) = true := decide_eq_true hip2
              clear hR hrel hoks hlen hany hc hc2 hpl
              go_wp2_with fail
              refine HA.out.mono ?_
              rintro e w5 ⟨rfl, hb5⟩
              have HB5 := Lib.hid (below_trans' HBW.out hb5 HBW.out.size)
              have c5 := HC2.out w5 hb5
              clear hb5 HA HC2
              go_wp2_with fail
              go_ret
              exact ⟨rfl, HB5.out⟩
theorem cubes_law (bits : Int) (v : Value) (xs : List ByteArray) (w : World) (_ : (Lit.int .i64 bits).wf = true) (hV : Kd.V Kd.string 9 w 0 (fun k => k < w.heap.size) v xs) (_ : (∀ x ∈ xs, x.size ≤ 140737488351232) ∧ xs.length * 16 ≤ 140737488351232) :
    Calls Try.prog 4 #[.int .i64 bits, v] w fun e w' => e = .returned (.bool true) ∧ Below w.heap.size w w' := by
  obtain ⟨A, c, hv, _⟩ := id hV
  subst hv
  by_cases hl : 8 < xs.length
  · exact cubes4_big bits A _ c w hl
  by_cases hb : bits < 1 ∨ 128 < bits
  · exact cubes4_bad bits A _ c w hl hb
  · obtain ⟨b, rfl⟩ : ∃ b : Nat, bits = b := ⟨bits.toNat, by omega⟩
    exact cubes4_w b A c xs w (by omega) (by omega) hV hl
end
end Go.Proofs.Ytbglnddjhlefnaa
