/- The walk of make. -/
import Derived.Test.YtbglnddjhlefnaaTw
import Derived.StillTailTactics
import Derived.IntWalk
namespace Go.Proofs.Ytbglnddjhlefnaa
open Go Go.RowKit Go.Proofs.YtbglnddjhlefnaaW.PrintWords Go.Proofs.YtbglnddjhlefnaaW.PrintLast Go.Proofs.YtbglnddjhlefnaaW.PrintMore
section
variable {g : Nat} {S : Nat → Prop} {T : Bd} {w : World}
theorem make_same (b a : Nat) :
    Calls Try.prog 45 #[.pointer (some ⟨g, 0, none⟩), .int .i64 b, .int .i64 a, .int .i64 a] w fun e w' => e = .returned (.int .i64 a) ∧ w = w' := by
  have hd : ((a : Int) == (a : Int)) = true := by simp
  go_enter Try.func45, Try.ntmps45
  go_wp2_with fail
  go_ret
  exact ⟨rfl, rfl⟩
theorem known_look {rb ub kb : Nat} {v : Value} (h : TabAt g rb ub kb v S T w) (b lo hi : Nat) : (Instr.lookup 65 (.map (some kb)) (.agg #[.int .i64 b, .int .i64 lo, .int .i64 hi]) true).run Try.prog w = .ok (.tuple #[((posOf (b, lo, hi) T.N).map (fun j => Value.int .i64 ((j + 2 : Nat) : Int))).getD (.int .i64 0), .bool (posOf (b, lo, hi) T.N).isSome]) w := by
  have := h.known.look K95 Try.underlying65 (k := (b, lo, hi)) (zero3 w) true
  rw [knownL_get] at this
  rw [if_pos rfl] at this
  refine Eq.trans this ?_
  cases posOf (b, lo, hi) T.N <;> rfl
theorem known_hit {rb ub kb : Nat} {v : Value} (h : TabAt g rb ub kb v S T w) (b lo hi i : Nat) (hp : posOf (b, lo, hi) T.N = some i) : ∀ n, (Instr.lookup 65 (.map (some kb)) (.agg #[.int .i64 b, .int .i64 lo, .int .i64 hi]) true).run Try.prog (w.drewN n) = .ok (.tuple #[.int .i64 ((i + 2 : Nat) : Int), .bool true]) (w.drewN n) := by
  intro n
  have := known_look (h.drewN n) b lo hi
  rw [hp] at this
  exact this
theorem known_gone {rb ub kb : Nat} {v : Value} (h : TabAt g rb ub kb v S T w) (b lo hi : Nat) (hp : posOf (b, lo, hi) T.N = none) : ∀ n, (Instr.lookup 65 (.map (some kb)) (.agg #[.int .i64 b, .int .i64 lo, .int .i64 hi]) true).run Try.prog (w.drewN n) = .ok (.tuple #[.int .i64 0, .bool false]) (w.drewN n) := by
  intro n
  have := known_look (h.drewN n) b lo hi
  rw [hp] at this
  exact this
set_option maxRecDepth 100000 in
theorem make_hit (h : Tab g S T w) (b lo hi i j : Nat) (hne : lo ≠ hi) (hp : posOf (b, lo, hi) T.N = some i) (hj : j = i + 2) :
    Calls Try.prog 45 #[.pointer (some ⟨g, 0, none⟩), .int .i64 b, .int .i64 lo, .int .i64 hi] w fun e w' => e = .returned (.int .i64 j) ∧ Below w.heap.size w w' := by
  obtain ⟨rb, ub, kb, v, h⟩ := h
  have h1 := h.alloc (.cells #[.int .i64 b, .int .i64 lo, .int .i64 hi] 95)
  have hbx := heap_alloc_new w (.cells #[.int .i64 b, .int .i64 lo, .int .i64 hi] 95)
  have hB := below_alloc (Below.refl w.heap.size w) (.cells #[.int .i64 b, .int .i64 lo, .int .i64 hi] 95)
  have hd : ((lo : Int) == (hi : Int)) = false := by simp; omega
  clear hne
  go_enter Try.func45, Try.ntmps45
  go_wp2_with fail
  generalize w.alloc (.cells #[.int .i64 b, .int .i64 lo, .int .i64 hi] 95) = W0 at *
  have hk := known_hit h1 b lo hi i hp
  rw [← hj] at hk
  have d5 := blk_cell h1.box 5 (.map (some kb)) rfl
  have c0 := blk_cell hbx 0 (.int .i64 b) rfl
  have c1 := blk_cell hbx 1 (.int .i64 lo) rfl
  have c2 := blk_cell hbx 2 (.int .i64 hi) rfl
  have HB := Lib.hid hB
  clear hj h hp hB h1 hbx
  go_quiet (fail)
  go_wp2_with fail
  go_ret
  exact ⟨rfl, pw_below_drewN HB.out _⟩
/-- One more node in the row. -/
theorem TabAt.push {rb ub kb : Nat} {v : Value} (h : TabAt g rb ub kb v S T w) (b lo hi : Nat) (hl : T.N.length ≤ 4000000000) :
    ∃ nb cap w3, (Builtin.append_ #[64, 64] 64 #[v, .slice (some ⟨w.heap.size, 0, none⟩) 1 1]).run Try.prog (w.alloc (.cells #[.int .i64 b, .int .i64 lo, .int .i64 hi] 95)) = .ok (.slice (some ⟨nb, 0, none⟩) (T.N.length + 1) cap) w3 ∧
      Chg S w w3 ∧ w3.heap[g]? = some (.cells (T.cells rb ub kb v) 67 (0, 0)) ∧ MapG w3 kb encN (knownL T.N 2) ∧ nb ≠ g ∧ nb ≠ kb ∧
      ∀ o, MapG ((w3.setCell ⟨g, 4, none⟩ (.slice (some ⟨nb, 0, none⟩) (T.N.length + 1) cap)).putObj kb o) kb encN (knownL (T.N ++ [(b, lo, hi)]) 2) →
        TabAt g rb ub kb (.slice (some ⟨nb, 0, none⟩) (T.N.length + 1) cap) (fun k => S k ∨ k = nb) { T with N := T.N ++ [(b, lo, hi)] } ((w3.setCell ⟨g, 4, none⟩ (.slice (some ⟨nb, 0, none⟩) (T.N.length + 1) cap)).putObj kb o) ∧
        Gr S (fun k => S k ∨ k = nb) w ((w3.setCell ⟨g, 4, none⟩ (.slice (some ⟨nb, 0, none⟩) (T.N.length + 1) cap)).putObj kb o) := by
  obtain ⟨i0, hinf, hzz⟩ := Option.map_eq_some_iff.1 Try.info95
  simp only [Prod.mk.injEq] at hzz
  have h1 := h.alloc (.cells #[.int .i64 b, .int .i64 lo, .int .i64 hi] 95)
  have hbx := heap_alloc_new w (.cells #[.int .i64 b, .int .i64 lo, .int .i64 hi] 95)
  have hgl := h.lt g h.sg
  have hkl := h.lt kb h.sk
  obtain ⟨g1, g2, g3⟩ := h.gne
  have hnews : ∀ (j : Nat) (u : Value), [Value.int .i64 b, .int .i64 lo, .int .i64 hi][j]? = some u → (w.alloc (.cells #[.int .i64 b, .int .i64 lo, .int .i64 hi] 95)).cell? ((⟨w.heap.size, 0, none⟩ : Addr).add j) = some u := by
    intro j u hj
    rw [add_at, cell_of_row _ w.heap.size _ _ 95 (0, 0) hbx, Nat.zero_add]
    match j, hj with
    | 0, hj => exact hj
    | 1, hj => exact hj
    | 2, hj => exact hj
  obtain ⟨v', w3, hrun, hown, hgr, hnil, hwho⟩ := run_append_own_at (P := Try.prog) (w.alloc (.cells #[.int .i64 b, .int .i64 lo, .int .i64 hi] 95)) 0 64 64 95 i0 _ 3 24 Try.underlying64 hinf hzz.1 hzz.2.1 hzz.2.2 rfl (by omega) v T.N.length (flatN T.N) h1.row
    ⟨w.heap.size, 0, none⟩ 1 1 [.int .i64 b, .int .i64 lo, .int .i64 hi] rfl hnews (by simp [Value.oneCell']) (by simp only [maxLen]; omega) (by omega) (Nat.zero_le _)
  have hsz : (w.alloc (.cells #[.int .i64 b, .int .i64 lo, .int .i64 hi] 95)).heap.size = w.heap.size + 1 := World.size_alloc _ _
  rcases hown.2 with ⟨_, h0⟩ | ⟨nb, cap, cur, rfl, _, hh, hnc, hcm, hcs, htk⟩
  · omega
  have hown' : ∀ k, k < w.heap.size → v.ownBlock ≠ some k → w3.heap[k]? = w.heap[k]? := fun k hk hn => (hgr.block k (by omega) (fun e => hn e.symm)).trans (heap_alloc_old w _ hk)
  have hgn : v.ownBlock ≠ some g := fun e => (h.nne g e).1 rfl
  have hkn : v.ownBlock ≠ some kb := fun e => (h.nne kb e).2.2.2 rfl
  have hrn : v.ownBlock ≠ some rb := fun e => (h.nne rb e).2.1 rfl
  have hun : v.ownBlock ≠ some ub := fun e => (h.nne ub e).2.2.1 rfl
  have hb3 : w3.heap[g]? = some (.cells (T.cells rb ub kb v) 67 (0, 0)) := (hown' g hgl hgn).trans h.box
  have hk3 : MapG w3 kb encN (knownL T.N 2) := h.known.step (hown' kb hkl hkn)
  have hr3 : SetAt w3 rb T.refs := h.refs.step (hown' rb (h.lt rb h.sr) hrn)
  have hu3 : SetAt w3 ub T.used := h.used.step (hown' ub (h.lt ub h.su) hun)
  have hng : nb ≠ g := by
    intro e
    rw [e, hb3] at hh
    injection hh with hh
    injection hh with _ hh
    cases hh
  have hnk : nb ≠ kb := fun e => hk3.no_cells _ _ _ (e ▸ hh)
  have hs3 : w.heap.size ≤ w3.heap.size := by have := hgr.size; omega
  have hchg : Chg S w w3 := ⟨hgr.os, hgr.tape, hgr.output, hs3, fun k hk hn => hown' k hk (fun e => hn (h.sn k e))⟩
  have hnew : S nb ∨ w.heap.size ≤ nb := by
    rcases hwho with he | he
    · exact .inl (h.sn nb he.symm)
    · simp only [Value.ownBlock, Option.some.injEq] at he
      exact .inr (by rw [he, hsz]; omega)
  have hnl : nb < w3.heap.size := (Array.getElem?_eq_some_iff.1 hh).1
  refine ⟨nb, cap, w3, hrun, hchg, hb3, hk3, hng, hnk, fun o ho => ?_⟩
  have hS : ∀ k, k ≠ g → k ≠ kb → ((w3.setCell ⟨g, 4, none⟩ (.slice (some ⟨nb, 0, none⟩) (T.N.length + 1) cap)).putObj kb o).heap[k]? = w3.heap[k]? := fun k h1 h2 => (putObj_far _ _ _ _ h2).trans (Below.heap_setCell _ _ _ _ h1)
  have hsize : ((w3.setCell ⟨g, 4, none⟩ (.slice (some ⟨nb, 0, none⟩) (T.N.length + 1) cap)).putObj kb o).heap.size = w3.heap.size := by simp [World.setCell]
  have hlenN : (T.N ++ [(b, lo, hi)]).length = T.N.length + 1 := by simp
  refine ⟨⟨.inl h.sg, .inl h.sr, .inl h.su, .inl h.sk, ?_, h.ru, h.rk, h.uk, ?_, hr3.step (hS rb (fun e => g1 e.symm) h.rk), hu3.step (hS ub (fun e => g2 e.symm) h.uk), ho, ?_, ?_⟩, fun k hk => .inl hk, ?_, ?_⟩
  · rintro k (hk | rfl)
    · rw [hsize]; exact Nat.lt_of_lt_of_le (h.lt k hk) hs3
    · rw [hsize]; exact hnl
  · rw [putObj_far _ _ _ _ g3, blk_set hb3 4]
    rfl
  · refine ownsRow_step (w := w3) ?_ (fun k hk => ?_)
    · rw [hlenN, flatN_snoc]
      exact hown
    · simp only [Value.ownBlock, Option.some.injEq] at hk
      subst hk
      exact hS nb hng hnk
  · intro k hk
    simp only [Value.ownBlock, Option.some.injEq] at hk
    exact .inr hk.symm
  · rintro k (hk | rfl)
    · exact .inl hk
    · exact hnew
  · refine (hchg.set _ _ (.inl h.sg)).trans (chg_putObj _ kb o) (fun k hk => .inl (hk ▸ h.sk))
attribute [local go_sem] max2_mx min2_mn
theorem step_append_run {P : Program} {ops : Array Oper} {o : Oper} {a : Act} {w : World} {K : Act → World → Prop} {Q : Exit → Act → World → Prop} {E : Prop} (hg : o.guard = none) (s x : Operand) (t : TypeId)
    (hop : o.op = Op.call { callee := Callee.builtin Builtin.append, args := #[s, x], argTypes := #[t, t] }) (v vx : Value) (hs : a.eval s = v) (hx : a.eval x = vx) (v' : Value) (w' : World) (hrun : (Builtin.append_ #[t, t] o.type #[v, vx]).run P w = .ok v' w')
    (hK : K (a.put o.dst v') w') : if Region.wanted o (yielded ops a.tmps) = true then Oper.wp P o a w K Q else E := by
  have hw : Region.wanted o (yielded ops a.tmps) = true := by simp [Region.wanted, hg]
  rw [if_pos hw]
  unfold Oper.wp
  simp [execOp, hop, resolve, invoke, builtin, hs, hx, hrun, Result.andThen]
  exact hK
set_option maxRecDepth 100000 in
set_option maxHeartbeats 1000000 in
theorem make_new (h : Tab g S T w) (b lo hi : Nat) (hne : lo ≠ hi) (hp : posOf (b, lo, hi) T.N = none) (hl : T.N.length ≤ 4000000000) :
    Calls Try.prog 45 #[.pointer (some ⟨g, 0, none⟩), .int .i64 b, .int .i64 lo, .int .i64 hi] w fun e w' => ∃ S', e = .returned (.int .i64 ((T.N.length + 2 : Nat) : Int)) ∧ Tab g S' { T with N := T.N ++ [(b, lo, hi)] } w' ∧ Gr S S' w w' := by
  obtain ⟨rb, ub, kb, v, h⟩ := h
  have h1 := h.alloc (.cells #[.int .i64 b, .int .i64 lo, .int .i64 hi] 95)
  have hbx := heap_alloc_new w (.cells #[.int .i64 b, .int .i64 lo, .int .i64 hi] 95)
  have hB := below_alloc (Below.refl w.heap.size w) (.cells #[.int .i64 b, .int .i64 lo, .int .i64 hi] 95)
  have hd : ((lo : Int) == (hi : Int)) = false := by simp; omega
  have HL := Lib.hid hl
  have hgl := h.lt g h.sg
  have HP0 := Lib.hid hp
  have H0 := Lib.hid h
  clear hne hl
  go_enter Try.func45, Try.ntmps45
  go_wp2_with fail
  generalize w.alloc (.cells #[.int .i64 b, .int .i64 lo, .int .i64 hi] 95) = W0 at *
  have hk := known_gone h1 b lo hi hp
  have d5 := blk_cell h1.box 5 (.map (some kb)) rfl
  have d4 := blk_cell h1.box 4 v rfl
  have f4 := blk_free h1.box 4
  have c0 := blk_cell hbx 0 (.int .i64 b) rfl
  have c1 := blk_cell hbx 1 (.int .i64 lo) rfl
  have c2 := blk_cell hbx 2 (.int .i64 hi) rfl
  have HB := Lib.hid hB
  have H1 := Lib.hid h1
  have HBX := Lib.hid hbx
  obtain ⟨g1, hg1⟩ : ∃ g1, g1 = w.heap.size := ⟨_, rfl⟩
  rw [← hg1] at c0 c1 c2 HBX ⊢
  have HG1 := Lib.hid hg1
  clear h hp hB h1 hbx hg1
  go_quiet (fail)
  go_wp2_with fail
  obtain ⟨W1, hW1⟩ : ∃ W1, W1 = W0.drewN nq := ⟨_, rfl⟩
  rw [← hW1]
  have h1 : TabAt g rb ub kb v S T W1 := by rw [hW1]; exact H1.out.drewN nq
  have hbx : W1.heap[g1]? = some (.cells #[.int .i64 b, .int .i64 lo, .int .i64 hi] 95) := by rw [hW1]; exact HBX.out
  have hB : Below w.heap.size w W1 := by rw [hW1]; exact pw_below_drewN HB.out nq
  clear hk d5 d4 f4 c0 c1 c2 H1 HB HBX hW1
  have d4 := blk_cell h1.box 4 v rfl
  have f4 := blk_free h1.box 4
  have c0 := blk_cell hbx 0 (.int .i64 b) rfl
  have c1 := blk_cell hbx 1 (.int .i64 lo) rfl
  have c2 := blk_cell hbx 2 (.int .i64 hi) rfl
  have e4 := fun o => Lib.cell?_alloc_some o d4
  have HP := Lib.hid (fun d => (h1.drewN d).push b lo hi HL.out)
  have HB := Lib.hid hB
  have H1 := Lib.hid h1
  have HBX := Lib.hid hbx
  clear h1 hB hbx
  obtain ⟨nb, cap, w3, q1, q2, q3, q4, q5, q6, q7⟩ := HP.out 1
  have d4' := blk_cell q3 4 v rfl
  have f4' := blk_free q3 4
  have HQ := Lib.hid q1
  have hb4 := blk_set q3 4 (.slice (some ⟨nb, 0, none⟩) (T.N.length + 1) cap)
  obtain ⟨o, ho⟩ := (q4.step (w' := w3.setCell ⟨g, 4, none⟩ (.slice (some ⟨nb, 0, none⟩) (T.N.length + 1) cap)) (Below.heap_setCell _ _ _ _ (fun e => H1.out.gne.2.2 e.symm))).put K95 Try.underlying65 (b, lo, hi) (.int .i64 ((T.N.length + 2 : Nat) : Int))
  have HO := Lib.hid (fun n => (ho n).1)
  have HT := Lib.hid (q7 o (by
    have := (ho 0).2
    rw [knownL_put HP0.out, ← show knownL (T.N ++ [(b, lo, hi)]) 2 = knownL T.N 2 ++ [((b, lo, hi), .int .i64 ((T.N.length + 2 : Nat) : Int))] by rw [knownL_snoc, Nat.add_comm]] at this
    exact this))
  have hbx3 : (w3.setCell ⟨g, 4, none⟩ (.slice (some ⟨nb, 0, none⟩) (T.N.length + 1) cap)).heap[g1]? = some (.cells #[.int .i64 b, .int .i64 lo, .int .i64 hi] 95) := by
    have hgs : ¬ S g1 := fun hs => by have := H0.out.lt g1 hs; have := HG1.out; omega
    have hgg : g1 ≠ g := fun e => hgs (e ▸ H0.out.sg)
    rw [Below.heap_setCell _ _ _ _ hgg, q2.block g1 (blk_lt HBX.out) hgs]
    exact HBX.out
  have HBX3 := Lib.hid hbx3
  have HB4 := Lib.hid hb4
  clear q1 q2 q3 q4 q5 q6 q7 ho hb4 hbx3
  obtain ⟨m, hm⟩ : ∃ m, m = T.N.length := ⟨_, rfl⟩
  rw [← hm] at HQ HB4 HO HBX3 HT
  have hm2 : m ≤ 4000000000 := by rw [hm]; exact HL.out
  have HM := Lib.hid hm
  clear hm
  go_cut [] (fun wx => wx = w3.setCell ⟨g, 4, none⟩ (.slice (some ⟨nb, 0, none⟩) (m + 1) cap))
  case first =>
    go_region_law (first
      | (refine step_append_run (by rfl) (.tmp 35) (.tmp 37) 64 (by rfl) v (.slice (some ⟨W1.heap.size, 0, none⟩) 1 1) (by rfl) (by rfl) (.slice (some ⟨nb, 0, none⟩) (m + 1) cap) w3 HQ.out ?_))
    all_goals
      go_wp2_with fail
      go_meet
      rfl
  case rest =>
    subst hcut
    have z4 := blk_cell HB4.out 4 (.slice (some ⟨nb, 0, none⟩) (m + 1) cap) (by simp)
    have z5 := blk_cell HB4.out 5 (.map (some kb)) (by simp)
    have y0 := blk_cell HBX3.out 0 (.int .i64 b) rfl
    have y1 := blk_cell HBX3.out 1 (.int .i64 lo) rfl
    have y2 := blk_cell HBX3.out 2 (.int .i64 hi) rfl
    clear d4 f4 c0 c1 c2 e4 d4' f4' HQ HP
    generalize hW4 : w3.setCell ⟨g, 4, none⟩ (.slice (some ⟨nb, 0, none⟩) (m + 1) cap) = W4 at *
    have ho1 : (Instr.mapUpdate 65 (.map (some kb)) (.agg #[.int .i64 b, .int .i64 lo, .int .i64 hi]) (.int .i64 ((m : Int) + 1 + 1))).run Try.prog W4.drew = .ok () (W4.drew.putObj kb o) := by
      have := HO.out 1
      rw [show (((m + 2 : Nat) : Int)) = (m : Int) + 1 + 1 by omega] at this
      exact this
    obtain ⟨t1, t2⟩ := HT.out
    have t3 : TabAt g rb ub kb (.slice (some ⟨nb, 0, none⟩) (m + 1) cap) (fun k => S k ∨ k = nb) { T with N := T.N ++ [(b, lo, hi)] } (W4.drew.putObj kb o) := t1.drewN 1
    have w4 : (W4.drew.putObj kb o).cell? ⟨g, 4, none⟩ = some (.slice (some ⟨nb, 0, none⟩) (m + 1) cap) := blk_cell t3.box 4 _ rfl
    have t4 : Gr S (fun k => S k ∨ k = nb) W1 (W4.drew.putObj kb o) := ⟨t2.up, t2.new, ⟨t2.chg.os, t2.chg.tape, t2.chg.output, t2.chg.size, t2.chg.block⟩⟩
    have T3 := Lib.hid t3
    have T4 := Lib.hid t4
    clear HT t1 t2 t3 t4 HO
    go_upto_region 8 with fail
    go_still_tail 11, (by kernel_rfl)
    change wpList _ _ _ _ _ W4.drew
    generalize W4.drew = W5 at ho1 w4 T3 T4 ⊢
    obtain ⟨W6, hW6⟩ : ∃ W6, W6 = W5.putObj kb o := ⟨_, rfl⟩
    rw [← hW6] at ho1 w4
    have T3 : Hid (TabAt g rb ub kb (.slice (some ⟨nb, 0, none⟩) (m + 1) cap) (fun k => S k ∨ k = nb) { T with N := T.N ++ [(b, lo, hi)] } W6) := by rw [hW6]; exact T3
    have T4 : Hid (Gr S (fun k => S k ∨ k = nb) W1 W6) := by rw [hW6]; exact T4
    clear hW6 z4 z5 y0 y1 y2
    go_wp2_with fail
    rw [ho1]
    go_wp2_with fail
    go_ret
    refine ⟨_, ?_, ⟨rb, ub, kb, _, T3.out⟩, (Gr.of_below HB.out S).trans T4.out⟩
    rw [← HM.out]
    go_num
theorem make_w (h : Tab g S T w) (b lo hi : Nat) (hl : T.N.length ≤ 4000000000) (r : Nat × List Nd) (hr : r = mkN T.N b lo hi) :
    Calls Try.prog 45 #[.pointer (some ⟨g, 0, none⟩), .int .i64 b, .int .i64 lo, .int .i64 hi] w fun e w' => ∃ S', e = .returned (.int .i64 r.1) ∧ Tab g S' { T with N := r.2 } w' ∧ Gr S S' w w' := by
  by_cases hne : lo = hi
  · subst hne
    have : r = (lo, T.N) := by rw [hr]; unfold mkN; rw [if_pos rfl]
    subst this
    refine (make_same b lo).mono ?_
    rintro e w' ⟨rfl, rfl⟩
    exact ⟨S, rfl, h, Gr.refl _ _⟩
  · cases hp : posOf (b, lo, hi) T.N with
    | some i =>
      have : r = (i + 2, T.N) := by rw [hr]; unfold mkN; rw [if_neg hne, hp]
      subst this
      refine (make_hit h b lo hi i (i + 2) hne hp rfl).mono ?_
      rintro e w' ⟨rfl, hb⟩
      exact ⟨S, rfl, h.below hb, Gr.of_below hb S⟩
    | none =>
      have : r = (T.N.length + 2, T.N ++ [(b, lo, hi)]) := by rw [hr]; unfold mkN; rw [if_neg hne, hp]
      subst this
      exact make_new h b lo hi hne hp hl
end
end Go.Proofs.Ytbglnddjhlefnaa
