/- The walk of the document's early and acked. -/
import Derived.Test.YtlnhjkbhhdcdeaaRb
namespace Go.Proofs.Ytlnhjkbhhdcdeaa
open Go Go.RowKit Go.Proofs.YtlnhjkbhhdcdeaaW.PrintWords Go.Proofs.YtlnhjkbhhdcdeaaW.PrintLast Go.Proofs.YtlnhjkbhhdcdeaaW.PrintMore
open Go.Proofs.Ytlnhjkbhhdcdeaa.PSessionRuns (S27 k27 z27 S116 k116 z116)
set_option linter.unusedVariables false
set_option maxRecDepth 100000
set_option maxHeartbeats 4000000
attribute [local go_sem] max2_mx min2_mn max_two min_two
section
variable {p : Nat} {lab : Nat → Nat} {σ : Se} {out : List S27} {got : List (List Int)} {vL vE vO vG : Value} {w : World} {n : Int}
/-- An early message of a row that is read. -/
theorem V_early_at {w : World} {t b : Nat} {ok : Nat → Prop} {A : Option Addr} {n c : Nat} {E : List (Int × List Int)} (h : Kd.V kE t w b ok (.slice A n c) E) (i : Nat) (hi : i < E.length) :
    ∃ ad A5 c5, ∃ x : Int × List Int, A = some ad ∧ Hid (x = E.getD i (0, [])) ∧ w.cell? (ad.add (i * 2)) = some (.int .u64 x.1) ∧ w.cell? ⟨(ad.add (i * 2)).block, (ad.add (i * 2)).off + 1, none⟩ = some (.slice A5 x.2.length c5) ∧ Kd.V KB 5 w 0 ok (.slice A5 x.2.length c5) x.2 := by
  obtain ⟨hn, hl, hF⟩ := Kd.V_at h
  obtain ⟨ad, cs, e, hs, hr, hcell, _⟩ := Kd.F_get hF (0, []) (i : Int) (by omega) (by omega)
  obtain ⟨x, hx⟩ : ∃ x, x = E.getD i (0, []) := ⟨_, rfl⟩
  rw [show ((i : Int)).toNat = i from Int.toNat_natCast i, ← hx] at hr
  have g1 : Kd.FK (Kd.int .u64) w ok x.1 (cs.take 1) := fun W' hW => by
    obtain ⟨ca, cb, rfl, h1, h2⟩ := hr W' hW
    have := (Kd.int .u64).K_len h1
    have e1 : ca.length = 1 := this
    rw [← e1, List.take_left]
    exact h1
  have g2 : Kd.FK (Kd.slice 5 (Kd.int .u8)) w ok x.2 (cs.drop 1) := fun W' hW => by
    obtain ⟨ca, cb, rfl, h1, h2⟩ := hr W' hW
    have := (Kd.int .u64).K_len h1
    have e1 : ca.length = 1 := this
    rw [← e1, List.drop_left]
    exact h2
  have t1 : cs.take 1 = [.int .u64 x.1] := Kd.FK_now g1
  obtain ⟨A5, c5, t2, _, _⟩ := Kd.FK_now g2
  have t2' : cs.drop 1 = [.slice A5 x.2.length c5] := t2
  have hcs : cs = [.int .u64 x.1, .slice A5 x.2.length c5] := by
    rw [← List.take_append_drop 1 cs, t1, t2']
    rfl
  have hc : ∀ j u, cs[j]? = some u → w.cell? (ad.add (i * 2 + j)) = some u := hcell
  rw [hcs] at hc
  rw [t2'] at g2
  exact ⟨ad, A5, c5, x, e, hx, hc 0 _ rfl, by rw [← add_field _ _ 1 (by omega)]; exact hc 1 _ rfl, V_of_FK (e := 5) (b := 0) g2⟩
def plI (o : Option Nat) : Int := match o with | some j => j | none => -1
theorem plc_getD {E : List (Int × List Int)} {k : Int} : ∀ (i : Nat), (∀ j, j < i → (E.getD j (0, [])).1 ≠ k) → i ≤ E.length → plc E k 0 = plc (E.drop i) k i := by
  intro i
  induction i with
  | zero => intro _ _; rfl
  | succ i ih =>
    intro h hi
    rw [ih (fun j hj => h j (by omega)) (by omega)]
    have hlt : i < E.length := by omega
    rw [List.drop_eq_getElem_cons hlt]
    have h1 := h i (by omega)
    rw [List.getD_eq_getElem?_getD, List.getElem?_eq_getElem hlt] at h1
    have h1' : ¬ k = E[i].1 := fun h => h1 h.symm
    rw [plc]
    simp [h1']
theorem plc_here {E : List (Int × List Int)} {k : Int} (i : Nat) (h : ∀ j, j < i → (E.getD j (0, [])).1 ≠ k) (hi : i < E.length) (hk : (E.getD i (0, [])).1 = k) : plc E k 0 = some i := by
  rw [plc_getD i h (by omega), List.drop_eq_getElem_cons hi]
  rw [List.getD_eq_getElem?_getD, List.getElem?_eq_getElem hi] at hk
  have hk' : E[i].1 = k := hk
  rw [plc]
  simp [hk']
theorem rearly (A : RS p lab σ out got vL vE vO vG w) (hl : σ.E.length ≤ 1000) (k : Int) :
    Calls Try.prog 70 #[.pointer (some ⟨p, 0, none⟩), .int .u64 k] w fun e w' => e = .returned (.int .i64 (plI (plc σ.E k 0))) ∧ w' = w := by
  obtain ⟨Ae, ce, hv⟩ := A.E.slice
  subst hv
  have HV := Lib.hid (Kd.N_V (base' := 0) A.E.1)
  obtain ⟨l, hle⟩ : ∃ l, l = σ.E.length := ⟨_, rfl⟩
  have q10 := blk_cell A.blk 10 (.slice Ae l ce) (by rw [hle]; rfl)
  have HL := Lib.hid hle
  have hl2 : (l : Int) ≤ 1000 := by omega
  clear A hle hl
  go_enter Try.func70, Try.ntmps70
  go_wp2_with fail
  go_loopw [5] (fun v wr => ∃ i : Nat, v = .int .i64 i ∧ i ≤ l ∧ wr = w ∧ Hid (∀ j, j < i → (σ.E.getD j (0, [])).1 ≠ k)) (fun v _ => l - (intOf v).toNat)
  case atStart => exact ⟨0, rfl, Nat.zero_le _, rfl, Lib.hid (fun j hj => absurd hj (Nat.not_lt_zero _))⟩
  case round =>
    obtain ⟨i, rfl, hi, rfl, HN⟩ := hrel
    rcases Nat.lt_or_ge i l with hlt | hge
    · obtain ⟨ad, A5, c5, x, rfl, hx, c0, c1, _⟩ := V_early_at HV.out i (by rw [← HL.out]; exact hlt)
      have hik : (i : Int) < (l : Int) := by omega
      by_cases hk : x.1 = k
      · have HR : Hid (plI (plc σ.E k 0) = (i : Int)) := Lib.hid (by rw [plc_here i HN.out (by rw [← HL.out]; exact hlt) (by rw [← hx.out]; exact hk)]; rfl)
        obtain ⟨y, hy⟩ : ∃ y, y = x.1 := ⟨_, rfl⟩
        rw [← hy] at c0 hk
        have hyk : (y == k) = true := by simp [hk]
        clear hx hy hk
        go_wp2_with fail
        go_ret
        exact ⟨by rw [HR.out]; rfl, rfl⟩
      · have HN2 : Hid (∀ j, j < i + 1 → (σ.E.getD j (0, [])).1 ≠ k) := Lib.hid (fun j hj => by
          rcases Nat.lt_or_ge j i with q | q
          · exact HN.out j q
          · rw [show j = i by omega, ← hx.out]
            exact hk)
        obtain ⟨y, hy⟩ : ∃ y, y = x.1 := ⟨_, rfl⟩
        rw [← hy] at c0 hk
        have hyk : (y == k) = false := by simpa using hk
        clear hx hy hk
        go_wp2_with fail
        go_roundw
        case rel => exact ⟨i + 1, by go_num, by omega, trivial, HN2⟩
        case measure => simp [intOf]; omega
    · have HR : Hid (plI (plc σ.E k 0) = -1) := Lib.hid (by
        rw [plc_getD l (fun j hj => HN.out j (by omega)) (by rw [HL.out]; exact Nat.le_refl _), List.drop_of_length_le (by rw [HL.out]; exact Nat.le_refl _)]
        rfl)
      go_wp2_with fail
      go_ret
      exact ⟨by rw [HR.out]; rfl, rfl⟩
/-- What is told. -/
theorem racked_no (A : RS p lab σ out got vL vE vO vG w) (ok : Ok n σ) (a : Int) (h0 : 0 ≤ a) (h1 : a < 18446744073709551616) (hno : σ.tells a = false) :
    Calls Try.prog 60 #[.pointer (some ⟨p, 0, none⟩), .int .u64 a] w fun e w' => e = .returned (.tuple #[]) ∧ RP p lab w (σ.told a) out got w' := by
  have d7 := blk_cell A.blk 7 (.int .u64 (σ.base - 1)) rfl
  have d8 := blk_cell A.blk 8 (.int .i64 σ.sent) rfl
  have HA := Lib.hid A
  have HT : Hid (σ.told a = σ) := Lib.hid (by unfold Se.told; rw [if_neg (by rw [hno]; decide)])
  unfold Se.tells at hno
  have g1 := ok.base0
  have g2 := ok.base1
  have g3 := ok.big
  have g4 := ok.sent0
  have g5 := ok.sent1
  obtain ⟨bs, hbs⟩ : ∃ bs, bs = σ.base - 1 := ⟨_, rfl⟩
  obtain ⟨sn, hsn⟩ : ∃ sn, sn = σ.sent := ⟨_, rfl⟩
  have hb2 : bs ≤ 1099511627776 := by omega
  have hb3 : 0 ≤ bs := by omega
  rw [← hbs] at d7
  rw [← hsn] at d8 hno g4 g5
  have hw2 : IntKind.u64.wrap sn = sn := u64_wrap (by omega) (by omega)
  have FIN : Hid (∀ d, RP p lab w (σ.told a) out got (w.drewN d)) := Lib.hid (fun d => ⟨lab, _, _, _, _, by rw [HT.out]; exact HA.out.drewN d, Ls.below (pw_below_drewN (Below.refl _ _) d)⟩)
  by_cases hle : a ≤ bs
  · have e1 : decide (a ≤ bs) = true := by simp; exact hle
    clear A ok hno hbs hsn g1 g2 g3
    go_enter Try.func60, Try.ntmps60
    go_wp2_with fail
    go_quiet (fail)
    go_wp2_with fail
    refine bodyPost_ret (results_none rfl _ _ _) rfl ?_
    exact ⟨rfl, FIN.out _⟩
  · have e1 : decide (a ≤ bs) = false := by simp; omega
    have hw1 : IntKind.u64.wrap (a - bs) = a - bs := u64_wrap (by omega) (by omega)
    have e2 : decide (sn < a - bs) = true := by
      simp at hno ⊢
      omega
    clear A ok hno hbs hsn g1 g2 g3
    go_enter Try.func60, Try.ntmps60
    go_wp2_with fail
    go_quiet (fail)
    go_wp2_with fail
    refine bodyPost_ret (results_none rfl _ _ _) rfl ?_
    exact ⟨rfl, FIN.out _⟩
theorem racked_yes (A : RS p lab σ out got vL vE vO vG w) (ok : Ok n σ) (a : Int) (h0 : 0 ≤ a) (h1 : a < 18446744073709551616) (hyes : σ.tells a = true) :
    Calls Try.prog 60 #[.pointer (some ⟨p, 0, none⟩), .int .u64 a] w fun e w' => e = .returned (.tuple #[]) ∧ RP p lab w (σ.told a) out got w' := by
  obtain ⟨Al, cl, hv⟩ := A.L.slice
  subst hv
  have hlc := (Kd.V_at (Kd.N_V (base' := 0) A.L.1)).2.1
  have hF := (Kd.V_at (Kd.N_V (base' := 0) A.L.1)).2.2
  have d7 := blk_cell A.blk 7 (.int .u64 (σ.base - 1)) rfl
  have d8 := blk_cell A.blk 8 (.int .i64 σ.sent) rfl
  have d6 := blk_cell A.blk 6 (.slice Al σ.L.length cl) rfl
  have HA := Lib.hid A
  obtain ⟨k, hk⟩ : ∃ k : Nat, k = (a - σ.base + 1).toNat := ⟨_, rfl⟩
  obtain ⟨s1, hs1⟩ : ∃ s1 : Se, s1 = { σ with L := σ.L.drop k, base := a + 1, sent := σ.sent - (a - σ.base + 1) } := ⟨_, rfl⟩
  have HT : Hid (σ.told a = if 0 < s1.sent then s1.start else s1.stop) := Lib.hid (by
    unfold Se.told
    rw [if_pos hyes, hs1, hk])
  unfold Se.tells at hyes
  have hy : σ.base ≤ a ∧ a - σ.base < σ.sent := by simpa using hyes
  have g1 := ok.base0
  have g2 := ok.base1
  have g3 := ok.big
  have g4 := ok.sent0
  have g5 := ok.sent1
  have g6 := ok.sent2
  have OK := Lib.hid ok
  obtain ⟨bs, hbs⟩ : ∃ bs, bs = σ.base - 1 := ⟨_, rfl⟩
  obtain ⟨sn, hsn⟩ : ∃ sn, sn = σ.sent := ⟨_, rfl⟩
  obtain ⟨l, hl⟩ : ∃ l, l = σ.L.length := ⟨_, rfl⟩
  have hka : a - bs = (k : Int) := by omega
  have hkl : k ≤ l := by omega
  have hl2 : l ≤ 65536 := by have := ok.len; omega
  have EQ := Lib.hid (And.intro hbs (And.intro hsn (And.intro hl (And.intro hka hs1))))
  rw [← hbs] at d7
  rw [← hsn] at d8
  rw [← hl] at d6 hlc
  have hw2 : IntKind.u64.wrap sn = sn := u64_wrap (by omega) (by omega)
  have hw1 : IntKind.u64.wrap (a - bs) = a - bs := u64_wrap (by omega) (by omega)
  have e1 : decide (a ≤ bs) = false := by simp; omega
  have e2 : decide (sn < (k : Int)) = false := by simp; omega
  obtain ⟨i25, hi25, _, hs25, _⟩ := info_parts Try.info25
  have cut2 := cut_from (P := Try.prog) 45 25 .i64 Try.underlying45 hi25 1 hs25 Al l cl (k : Int) (by omega) (by omega)
  rw [Int.toNat_natCast] at cut2
  obtain ⟨A2, hA2⟩ : ∃ A2, A2 = (if cl = k then Al else Al.map (·.add (k * 1))) := ⟨_, rfl⟩
  rw [← hA2] at cut2
  have HF2 : Hid (∀ W' : World, (∀ q, q < w.heap.size → W'.heap[q]? = w.heap[q]?) → Kd.F kB W' (fun q => (lab q = 1 ∨ some q = (Value.slice Al l cl).ownBlock) ∧ q < w.heap.size) A2 (l - k) (σ.L.drop k)) := by
    refine Lib.hid (fun W' hW => ?_)
    have h5 := Kd.F_bound hF
    have := Kd.F_step (Kd.F_cut (c := cl) h5 (m := k) (by rw [← hl]; exact hkl) (by rw [← hl]; exact hlc)) (W1 := W') (fun q hq hq2 => hW q hq2)
    rw [List.length_drop, ← hl] at this
    rw [hA2, hl]
    rw [hl] at this
    exact this
  have HDL : Hid ((σ.L.drop k).length = l - k) := Lib.hid (by rw [List.length_drop, ← hl])
  have HB3 := Lib.hid hl2
  have HKL := Lib.hid hkl
  clear ok hF hlc hyes hy g1 g2 g3 g6 hbs hsn hl hi25 hs25 hA2 A hk hs1
  go_enter Try.func60, Try.ntmps60
  go_upto_region 1 with fail
  go_quiet (fail)
  clear e1 e2 hw2
  go_upto_region 2 with fail
  have HA1 := Lib.hid (HA.out.drewN nq)
  have HL1 : Hid (Ls lab lab w (w.drewN nq)) := Lib.hid (Ls.below (pw_below_drewN (Below.refl _ _) nq))
  have p6 : (w.drewN nq).cell? ⟨p, 6, none⟩ = some (.slice Al l cl) := d6
  have HF3 : Hid (∀ W' : World, (∀ q, q < (w.drewN nq).heap.size → W'.heap[q]? = (w.drewN nq).heap[q]?) → Kd.F kB W' (fun q => (lab q = 1 ∨ some q = (Value.slice Al l cl).ownBlock) ∧ q < (w.drewN nq).heap.size) A2 (l - k) (σ.L.drop k)) := HF2
  clear d6 d7 d8 HA HF2 hw1
  generalize w.drewN nq = W1 at *
  have qA := fun o => Lib.cell?_alloc_some o p6
  have HN0 : Hid (Kd.N kB 25 (W1.alloc (.cells #[] 25)) W1.heap.size (fun q => lab q = 1 ∨ some q = (Value.slice Al l cl).ownBlock ∨ W1.heap.size ≤ q) (.slice (some ⟨W1.heap.size, 0, none⟩) 0 0) []) := Lib.hid (N_empty kB 25 W1 W1.heap.size (Nat.le_refl _) _ (.inr (.inr (Nat.le_refl _))) 0)
  have HBW : Hid (Below W1.heap.size W1 (W1.alloc (.cells #[] 25))) := Lib.hid (below_alloc (Below.refl _ _) _)
  have HSET : Hid (∀ (v1 : Value) (w4 : World), Kd.N kB 25 w4 W1.heap.size (fun q => lab q = 1 ∨ some q = (Value.slice Al l cl).ownBlock ∨ W1.heap.size ≤ q) v1 (σ.L.drop k) → Below W1.heap.size W1 w4 → ∃ lab', w4.heap[p]? = some (.cells (rcs σ (.slice Al l cl) vE vO vG) 61 (0, 0)) ∧ RS p lab' s1 out got v1 vE vO vG (((w4.setCell ⟨p, 6, none⟩ v1).setCell ⟨p, 8, none⟩ (.int .i64 (sn - k))).setCell ⟨p, 7, none⟩ (.int .u64 a)) ∧ Ls lab lab' w (((w4.setCell ⟨p, 6, none⟩ v1).setCell ⟨p, 8, none⟩ (.int .i64 (sn - k))).setCell ⟨p, 7, none⟩ (.int .u64 a))) := by
    refine Lib.hid ?_
    intro v1 w4 hN hB
    have hrow := HA1.out.L
    rw [← EQ.out.2.2.1] at hrow
    obtain ⟨lab', L4, R4, _⟩ := Row.instead HA1.out.lim hrow (by omega) hN hB
    obtain ⟨b1, b2, b3⟩ := HA1.out.setL L4 R4
    obtain ⟨c1, c2⟩ := b3.cell 8 (.int .i64 (sn - k)) (σ' := { σ with L := σ.L.drop k, sent := sn - k }) rfl rfl rfl
    obtain ⟨c3, c4⟩ := c1.cell 7 (.int .u64 a) (σ' := s1) (by
      rw [EQ.out.2.2.2.2]
      simp only [rcs]
      rw [show a - σ.base + 1 = (k : Int) by have h1 := EQ.out.1; have h2 := EQ.out.2.2.2.1; omega, ← EQ.out.2.1, show a + 1 - 1 = a by omega]
      rfl) (by rw [EQ.out.2.2.2.2]) (by rw [EQ.out.2.2.2.2])
    refine ⟨lab', ?_, c3, ((HL1.out.trans b1).trans c2).trans c4⟩
    rw [EQ.out.2.2.1]
    exact b2
  go_upto_region 3 with (first
    | ((with_reducible refine gate_builtin (b := .append) (xs := #[.tmp 33, .tmp 39]) rfl ?_); at_builtin; refine Kd.N_append_rows kB (w0 := W1) W1.heap.size rfl (.tmp 33) (.tmp 39) 45 25 (.slice none 0 0) 24 rfl Try.underlying45 Try.info25 rfl (by decide) (by omega) (.slice (some ⟨W1.heap.size, 0, none⟩) 0 0) [] (σ.L.drop k) A2 (l - k) (cl - k) (fun q => lab q = 1 ∨ some q = (Value.slice Al l cl).ownBlock ∨ W1.heap.size ≤ q) (fun q => (lab q = 1 ∨ some q = (Value.slice Al l cl).ownBlock) ∧ q < W1.heap.size) rfl rfl ?bO ?bF ?bK ?bG ?bB ?bS ?bL ?_; (case bO => exact HN0.out); (case bF => exact HF3.out _ (fun q hq => HBW.out.block q hq)); (case bK => intro q hq; exact ⟨hq.1.imp id .inl, fun he => by have h8 := hq.2; have h9 : q = W1.heap.size := (by simpa [Value.ownBlock] using he); omega⟩); (case bG => intro q hq; exact .inr (.inr (Nat.le_trans HBW.out.size hq))); (case bB => exact HBW.out); (case bS => exact HBW.out.size); (case bL => rw [List.length_nil]; have := HB3.out; omega); intro v3 w4 hr4 hb4 hg4 hat4; rw [List.nil_append] at hr4; obtain ⟨A8, c8, e8⟩ := Kd.N_slice hr4; rw [HDL.out] at e8; subst e8; obtain ⟨lab', hbk4, x1, x2⟩ := HSET.out _ w4 hr4 hb4; have y6 := blk_cell hbk4 6 (.slice Al l cl) rfl; have z6 := blk_free hbk4 6; have HBK := Lib.hid hbk4; have X1 := Lib.hid x1; have X2 := Lib.hid x2; clear hr4 hb4 hg4 hat4 hbk4 x1 x2))
  have hbk5 := blk_set HBK.out 6 (.slice A8 (l - k) c8)
  clear y6 z6 qA p6 HSET HN0 HBW HF3 HA1 cut2
  have s7 := blk_cell hbk5 7 (.int .u64 bs) (by rw [EQ.out.1]; rfl)
  have s8 := blk_cell hbk5 8 (.int .i64 sn) (by rw [EQ.out.2.1]; rfl)
  have f7 := blk_free hbk5 7
  have f8 := blk_free hbk5 8
  have hw3 : IntKind.i64.wrap (sn - (k : Int)) = sn - k := IntWalk.i64_in _ (by have h1 := HKL.out; have h2 := HB3.out; have h3 := EQ.out.2.1; have h4 := OK.out.sent0; have h5 := OK.out.sent1; omega)
  clear hbk5
  go_upto_region 5 with fail
  clear s7 s8 f7 f8 hw3
  generalize ((w4.setCell ⟨p, 6, none⟩ (.slice A8 (l - k) c8)).setCell ⟨p, 8, none⟩ (.int .i64 (sn - k))).setCell ⟨p, 7, none⟩ (.int .u64 a) = W5 at *
  have t8 := blk_cell X1.out.blk 8 (.int .i64 s1.sent) rfl
  have HNW : Hid (s1.now = σ.now ∧ s1.tmr = σ.tmr) := Lib.hid (by rw [EQ.out.2.2.2.2]; exact ⟨rfl, rfl⟩)
  obtain ⟨sz, hsz⟩ : ∃ sz, sz = s1.sent := ⟨_, rfl⟩
  rw [← hsz] at t8 HT
  have HSZ := Lib.hid hsz
  clear hsz
  by_cases hp : 0 < sz
  · have HT2 : Hid (σ.told a = s1.start) := Lib.hid (by rw [HT.out, if_pos hp])
    have HCL := Lib.hid (rset X1.out (by rw [HNW.out.1]; exact OK.out.now0) (by rw [HNW.out.1]; exact OK.out.now1) (by rw [HNW.out.2]; have := OK.out.tmr0; omega) (by rw [HNW.out.2]; exact OK.out.tmr1))
    go_wp2_with fail
    refine HCL.out.mono ?_
    rintro e w6 ⟨rfl, y1, y2⟩
    have HF : Hid (RP p lab w (σ.told a) out got w6) := Lib.hid ⟨lab', _, _, _, _, by rw [HT2.out]; exact y1, X2.out.trans y2⟩
    clear y1 y2 HCL
    go_wp2_with fail
    go_end0
    exact ⟨rfl, HF.out⟩
  · have HT2 : Hid (σ.told a = s1.stop) := Lib.hid (by rw [HT.out, if_neg hp])
    have t11 := blk_cell X1.out.blk 11 (.bool s1.set) rfl
    have t12 := blk_cell X1.out.blk 12 (.int .i64 s1.tm) rfl
    have g11 := blk_free X1.out.blk 11
    have g12 := blk_free X1.out.blk 12
    have HF : Hid (RP p lab w (σ.told a) out got ((W5.setCell ⟨p, 11, none⟩ (.bool false)).setCell ⟨p, 12, none⟩ (.int .i64 0))) := by
      obtain ⟨c1, c2⟩ := X1.out.cell 11 (.bool false) (σ' := { s1 with set := false }) rfl rfl rfl
      obtain ⟨c3, c4⟩ := c1.cell 12 (.int .i64 0) (σ' := s1.stop) rfl rfl rfl
      exact Lib.hid ⟨lab', _, _, _, _, by rw [HT2.out]; exact c3, (X2.out.trans c2).trans c4⟩
    go_wp2_with fail
    go_end0
    exact ⟨rfl, HF.out⟩
theorem racked (A : RS p lab σ out got vL vE vO vG w) (ok : Ok n σ) (a : Int) (h0 : 0 ≤ a) (h1 : a < 18446744073709551616) :
    Calls Try.prog 60 #[.pointer (some ⟨p, 0, none⟩), .int .u64 a] w fun e w' => e = .returned (.tuple #[]) ∧ RP p lab w (σ.told a) out got w' := by
  cases h : σ.tells a with
  | true => exact racked_yes A ok a h0 h1 h
  | false => exact racked_no A ok a h0 h1 h
end
end Go.Proofs.Ytlnhjkbhhdcdeaa
