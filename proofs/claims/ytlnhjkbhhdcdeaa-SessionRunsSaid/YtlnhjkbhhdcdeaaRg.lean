/- The walk of the document's come, where the message is put beside the early ones. -/
import Derived.Test.YtlnhjkbhhdcdeaaRf
namespace Go.Proofs.Ytlnhjkbhhdcdeaa
open Go Go.RowKit Go.Proofs.YtlnhjkbhhdcdeaaW.PrintWords Go.Proofs.YtlnhjkbhhdcdeaaW.PrintLast Go.Proofs.YtlnhjkbhhdcdeaaW.PrintMore
open Go.Proofs.Ytlnhjkbhhdcdeaa.PSessionRuns (S27 k27 z27 S116 k116 z116)
set_option linter.unusedVariables false
set_option maxRecDepth 100000
set_option maxHeartbeats 4000000
attribute [local go_sem] max2_mx min2_mn max_two min_two
section
variable {p : Nat} {lab : Nat → Nat} {σ : Se} {out : List S27} {got : List (List Int)} {vL vE vO vG : Value} {w : World} {n : Int}
theorem Row.early_at {c : Nat} {A : Option Addr} {n cp : Nat} {E : List (Int × List Int)} (h : Row kE 116 w lab c (.slice A n cp) E) (i : Nat) (hi : i < E.length) :
    ∃ ad A5 c5, ∃ x : Int × List Int, A = some ad ∧ Hid (x = E.getD i (0, [])) ∧ w.cell? ⟨(ad.add (i * 2)).block, (ad.add (i * 2)).off + 1, none⟩ = some (.slice A5 x.2.length c5) ∧ Kd.V KB 5 w 0 (fun k => lab k = 1) (.slice A5 x.2.length c5) x.2 := by
  obtain ⟨hn, _, _⟩ := Kd.N_reads' h.1
  obtain ⟨ad, _, _, _, rfl, _⟩ := V_early_at (Kd.N_V (base' := 0) h.1) i hi
  obtain ⟨cs, hs, hr, hcell⟩ := Kd.N_get h.1 (0, []) (i : Int) (by omega) (by omega)
  obtain ⟨x, hx⟩ : ∃ x, x = E.getD i (0, []) := ⟨_, rfl⟩
  rw [show ((i : Int)).toNat = i from Int.toNat_natCast i, ← hx] at hr
  have g1 : Kd.FK (Kd.int .u64) w (fun k => (lab k = 1 ∨ some k = (Value.slice (some ad) n cp).ownBlock) ∧ some k ≠ (Value.slice (some ad) n cp).ownBlock) x.1 (cs.take 1) := fun W' hW => by
    obtain ⟨ca, cb, rfl, h1, h2⟩ := hr W' hW
    have e1 : ca.length = 1 := (Kd.int .u64).K_len h1
    rw [← e1, List.take_left]
    exact h1
  have g2 : Kd.FK (Kd.slice 5 (Kd.int .u8)) w (fun k => (lab k = 1 ∨ some k = (Value.slice (some ad) n cp).ownBlock) ∧ some k ≠ (Value.slice (some ad) n cp).ownBlock) x.2 (cs.drop 1) := fun W' hW => by
    obtain ⟨ca, cb, rfl, h1, h2⟩ := hr W' hW
    have e1 : ca.length = 1 := (Kd.int .u64).K_len h1
    rw [← e1, List.drop_left]
    exact h2
  have t1 : cs.take 1 = [.int .u64 x.1] := Kd.FK_now g1
  obtain ⟨A5, c5, t2, _, _⟩ := Kd.FK_now g2
  have t2' : cs.drop 1 = [.slice A5 x.2.length c5] := t2
  have hcs : cs = [.int .u64 x.1, .slice A5 x.2.length c5] := by
    rw [← List.take_append_drop 1 cs, t1, t2']
    rfl
  have hc : ∀ j u, cs[j]? = some u → w.cell? (ad.add (i * 2 + j)) = some u := hcell
  rw [hcs] at hc
  rw [t2'] at g2
  exact ⟨ad, A5, c5, x, rfl, Lib.hid hx, by rw [← add_field _ _ 1 (by omega)]; exact hc 1 _ rfl, Kd.V_mono (V_of_FK (e := 5) (b := 0) g2) (fun k hk => hk.1.elim id (fun he => absurd he hk.2))⟩
theorem rcome_yes (A : RS p lab σ out got vL vE vO vG w) (ok : Ok n σ) (hn : n + 1 ≤ 1099511627776) (hE : σ.E.length ≤ 100) (hG : got.length ≤ 100) (x0 x1 x2 x3 x4 : Int) (g0 : 0 ≤ x3) (g1 : x3 < 18446744073709551616) (x : List Int) (A5 : Option Addr) (c5 : Nat)
    (hV : Kd.V KB 5 w 0 (fun k => lab k = 1) (.slice A5 x.length c5) x) (hx : x.length ≤ 65536) (hyes : σ.inn < x3 ∧ x3 - σ.inn ≤ σ.win ∧ plc σ.E x3 0 = none) (σ1 : Se) (hσ1 : σ1 = { σ with E := σ.E ++ [(x3, x)] }) :
    Calls Try.prog 61 #[.pointer (some ⟨p, 0, none⟩), .agg #[.int .u8 x0, .int .u32 x1, .int .u32 x2, .int .u64 x3, .int .u64 x4, .slice A5 x.length c5]] w fun e w' => e = .returned (.tuple #[]) ∧ RP p lab w σ1.pop.2 out (got ++ σ1.pop.1) w' := by
  have hb1 : Below w.heap.size w (w.alloc (.cells #[.int .u8 x0, .int .u32 x1, .int .u32 x2, .int .u64 x3, .int .u64 x4, .slice A5 x.length c5] 27)) := below_alloc (Below.refl _ _) _
  have hA1 := A.below hb1
  have hbk := heap_alloc_new w (.cells #[.int .u8 x0, .int .u32 x1, .int .u32 x2, .int .u64 x3, .int .u64 x4, .slice A5 x.length c5] 27)
  have HC : Hid (∀ d, Calls Try.prog 70 #[.pointer (some ⟨p, 0, none⟩), .int .u64 x3] ((w.alloc (.cells #[.int .u8 x0, .int .u32 x1, .int .u32 x2, .int .u64 x3, .int .u64 x4, .slice A5 x.length c5] 27)).drewN d) fun e w' => e = .returned (.int .i64 (-1)) ∧ w' = ((w.alloc (.cells #[.int .u8 x0, .int .u32 x1, .int .u32 x2, .int .u64 x3, .int .u64 x4, .slice A5 x.length c5] 27)).drewN d)) := Lib.hid (fun d => by
    have := rearly (hA1.drewN d) (by omega) x3
    rw [hyes.2.2] at this
    exact this)
  have HV1 := Lib.hid (Kd.V_below hV hb1)
  have HL1 := Lib.hid (Ls.below (lab := lab) hb1)
  have g2 := ok.inn0
  have g3 := ok.inn1
  have g4 := ok.big
  have g5 := ok.win0
  have g6 := ok.win1
  obtain ⟨h1, h2, _⟩ := hyes
  obtain ⟨l5, hl5⟩ : ∃ l5, l5 = x.length := ⟨_, rfl⟩
  obtain ⟨ic, hic⟩ : ∃ x, x = σ.inn := ⟨_, rfl⟩
  obtain ⟨wn, hwn⟩ : ∃ x, x = σ.win := ⟨_, rfl⟩
  rw [← hl5] at hbk hb1 HC HV1 HL1 hA1 hx ⊢
  have d1 := blk_cell hA1.blk 1 (.int .i64 σ.win) rfl
  have d9 := blk_cell hA1.blk 9 (.int .u64 σ.inn) rfl
  rw [← hic] at d9 g2 g3 h1 h2
  rw [← hwn] at d1 g5 g6 h2
  have hw2 : IntKind.u64.wrap wn = wn := u64_wrap (by omega) (by omega)
  have t1 : decide (x3 ≤ ic) = false := by simp; omega
  have hw1 : IntKind.u64.wrap (x3 - ic) = x3 - ic := u64_wrap (by omega) (by omega)
  have t2 : decide (wn < x3 - ic) = false := by simp; omega
  have HA1 := Lib.hid hA1
  have HIN : Hid (0 ≤ σ1.inn ∧ σ1.inn + σ1.E.length ≤ n + 1 ∧ n + 1 ≤ 1099511627776 ∧ σ1.E.length ≤ 101) := Lib.hid (by
    rw [hσ1]
    simp only [List.length_append, List.length_singleton]
    omega)
  have HS1 := Lib.hid hσ1
  have HL5 := Lib.hid hl5
  have HX := Lib.hid hx
  have HGL := Lib.hid hG
  have HEL := Lib.hid hE
  clear A hA1 hb1 ok hwn hic h1 h2 g2 g3 g4 g5 g6 hn hE hG hV hσ1 hl5 hx
  go_enter Try.func61, Try.ntmps61
  go_upto_region 1 with fail
  obtain ⟨bx, hbx⟩ : ∃ bx, bx = w.heap.size := ⟨_, rfl⟩
  rw [← hbx] at hbk ⊢
  clear hbx
  generalize w.alloc (.cells #[.int .u8 x0, .int .u32 x1, .int .u32 x2, .int .u64 x3, .int .u64 x4, .slice A5 l5 c5] 27) = W1 at *
  have b3 := blk_cell hbk 3 (.int .u64 x3) rfl
  have b5 := blk_cell hbk 5 (.slice A5 l5 c5) rfl
  clear hbk
  go_quiet (first | (go_at_call 70; refine (HC.out _).mono ?_; rintro e w' ⟨rfl, rfl⟩; exact ⟨rfl, _, rfl⟩))
  clear HC t1 t2 hw1 hw2 d1 d9
  have HA2 := Lib.hid (HA1.out.drewN nq)
  have HV2 := Lib.hid (Kd.V_drewN HV1.out nq)
  have HL2 : Hid (Ls lab lab w (W1.drewN nq)) := Lib.hid (HL1.out.trans (Ls.below (pw_below_drewN (Below.refl _ _) nq)))
  have e3 : (W1.drewN nq).cell? ⟨bx, 3, none⟩ = some (.int .u64 x3) := b3
  have e5 : (W1.drewN nq).cell? ⟨bx, 5, none⟩ = some (.slice A5 l5 c5) := b5
  clear HA1 HV1 HL1 b3 b5
  generalize W1.drewN nq = W2 at *
  go_upto_region 2 with fail
  go_cut [] (fun wx => Hid (RP p lab w σ1 out got wx))
  case first =>
    have e10 := blk_cell HA2.out.blk 10 vE rfl
    have qA := fun o => Lib.cell?_alloc_some o e3
    have qB := fun o => Lib.cell?_alloc_some o e5
    have qC := fun o => Lib.cell?_alloc_some o e10
    have HO : Hid (∀ d, KB.R 5 ((W2.alloc (.cells #[] 5)).drewN d) W2.heap.size (fun k => W2.heap.size ≤ k) (.slice (some ⟨W2.heap.size, 0, none⟩) 0 0) []) := Lib.hid (fun d => R_new_int W2 .u8 5 [] [] rfl (by simp) 0 rfl _ rfl)
    have HRD : Hid (∀ d, KB.C ((W2.alloc (.cells #[] 5)).drewN d) A5 l5 x) := Lib.hid (fun d => by
      have h := Kd.C_alloc (Kd.V_reads' HV2.out).2.2 (.cells #[] 5)
      rw [← HL5.out] at h
      exact h)
    have HBW : Hid (∀ d, Below W2.heap.size W2 ((W2.alloc (.cells #[] 5)).drewN d)) := Lib.hid (fun d => pw_below_drewN (below_alloc (Below.refl _ _) _) d)
    have FIN : Hid (∀ (w6 w7 : World) (lab3 lab4 : Nat → Nat) (v : Value), Ls lab lab3 W2 w6 → RS p lab4 { σ with E := σ.E ++ [(x3, x)] } out got vL v vO vG (w7.setCell ⟨p, 10, none⟩ v) → Ls lab3 lab4 w6 (w7.setCell ⟨p, 10, none⟩ v) → RP p lab w σ1 out got (w7.setCell ⟨p, 10, none⟩ v)) := by
      refine Lib.hid ?_
      intro w6 w7 lab3 lab4 v h1 h2 h3
      exact ⟨lab4, _, _, _, _, by rw [HS1.out]; exact h2, (HL2.out.trans h1).trans h3⟩
    go_region_law (first
      | (refine Kd.R_append_rows_step KB (w0 := W2) W2.heap.size (by rfl) (.tmp 42) (.tmp 44) 25 5 (.int .u8 0) 1 (by rfl) Try.underlying25 Try.info5 rfl (by decide) (by omega) (.slice (some ⟨W2.heap.size, 0, none⟩) 0 0) [] x A5 l5 c5 (fun k => W2.heap.size ≤ k) (fun _ => False) (by rfl) (by rfl) (HO.out _) (HRD.out _) (fun _ _ h => h) (fun _ h => h.elim) (fun k hk => Nat.le_trans (HBW.out 0).size hk) (HBW.out _) (HBW.out 0).size (by have h1 := HX.out; simp; omega) ?_; intro v1 w6 hr6 hb6 hg6 hat6; obtain ⟨A7, c7, e7⟩ := Kd.R_slice hr6; rw [List.nil_append, ← HL5.out] at e7; subst e7; obtain ⟨lab3, L3, A8, hold3, hnew3⟩ := HA2.out.made hb6; have V7 : Kd.V KB 5 w6 0 (fun k => lab3 k = 1) (.slice A7 l5 c7) x := Kd.V_mono (Kd.V_bound (Kd.R_V hr6)) (fun k hk => hnew3 k hk.1 hk.2); have u10 := blk_cell A8.blk 10 vE rfl; have u3 := pw_cell_below hb6 e3; have uA := (fun o => Lib.cell?_alloc_some o u10); have V7 := Lib.hid V7; have A8 := Lib.hid A8; have L3 := Lib.hid (L3.ls (by omega)); have R8 := Lib.hid A8.out.E; have HFK : Hid (Kd.FK kE w6 (fun k => lab3 k = 1) (x3, x) [.int .u64 x3, .slice A7 l5 c7]) := Lib.hid (by have h := V7.out; rw [HL5.out] at h ⊢; exact FK_early (x := (x3, x)) h); clear hr6 hb6 hg6 hat6 hold3 hnew3)
      | (refine Kd.N_append_step kE (w0 := w6) 0 (by rfl) (.tmp 39) (.tmp 47) 59 116 (.agg #[.int .u64 0, .slice none 0 0]) 32 (by rfl) Try.underlying59 Try.info116 rfl (by decide) (by omega) vE σ.E (x3, x) [.int .u64 x3, .slice A7 l5 c7] (fun k => lab3 k = 1 ∨ some k = vE.ownBlock ∨ w6.heap.size ≤ k) (fun k => lab3 k = 1) (by rfl) (by rfl) HFK.out (fun k hk => ⟨.inl hk, fun he => by have h7 := R8.out.2 k he.symm; have h8 : lab3 k = 1 := hk; omega⟩) (fun k hk => .inr (.inr hk)) (R8.out.wide (by rfl) (fun _ => by rfl)) (Below.refl _ _) (Nat.zero_le _) (by have := HEL.out; omega) ?_; intro v3 w7 hn7 hb7 hg7 hat7; obtain ⟨A9', c9', e9⟩ := Kd.N_slice hn7; obtain ⟨z8, hz8⟩ : ∃ z8, z8 = (σ.E ++ [(x3, x)]).length := ⟨_, rfl⟩; rw [← hz8] at e9; subst e9; obtain ⟨lab4, L4, R4, _⟩ := Row.grown A8.out.lim R8.out (by omega) hn7 ⟨hg7.os, hg7.tape, hg7.output, hg7.size, hg7.block⟩ hat7; obtain ⟨a1, a2, a3⟩ := A8.out.setE L4 R4; have v10 := blk_cell a2 10 vE rfl; have f10 := blk_free a2 10; have HP := Lib.hid (FIN.out w6 w7 lab3 lab4 _ L3.out a3 a1); clear hn7 hb7 hg7 hat7 L4 R4 a1 a2 a3 hz8))
    all_goals
      go_wp2_with fail
      go_meet
      exact HP
  case rest =>
    obtain ⟨lab0, vL0, vE0, vO0, vG0, A0, hl0⟩ := hcut.out
    have d9 := blk_cell A0.blk 9 (.int .u64 σ1.inn) rfl
    have hin := HIN.out
    have HE0 := Lib.hid (rearly A0 (by omega) (σ1.inn + 1))
    obtain ⟨ic1, hic1⟩ : ∃ ic1, ic1 = σ1.inn := ⟨_, rfl⟩
    rw [← hic1] at d9 HE0 hin
    have hw3 : IntKind.u64.wrap (ic1 + 1) = ic1 + 1 := u64_wrap (by omega) (by omega)
    have HI1 := Lib.hid hic1
    have HST : Hid (RP p lab w σ1 out got wc) := hcut
    clear hcut HA2 HV2 HL2 e3 e5 HX HEL HS1 A0 hl0 hic1 hin
    go_wp2_with fail
    refine HE0.out.mono ?_
    rintro e w' ⟨rfl, rfl⟩
    clear d9 hw3 HE0
    go_wp2_with fail
    go_loopg [4] σ1.E.length (fun k v wr => ∃ (σd : Se) (gd : List (List Int)), v = .int .i64 (plI (plc σd.E (σd.inn + 1) 0)) ∧ k = σd.E.length ∧ Hid (σd.E.length + gd.length ≤ 201 ∧ 0 ≤ σd.inn ∧ σd.inn + σd.E.length ≤ 1099511627776) ∧ Hid (RP p lab w σd out gd wr) ∧ Hid (gd ++ σd.pop.1 = got ++ σ1.pop.1 ∧ σd.pop.2 = σ1.pop.2))
    case atStart =>
      refine ⟨σ1, got, by rw [HI1.out], rfl, Lib.hid ?_, HST, Lib.hid ⟨rfl, rfl⟩⟩
      have h1 := HIN.out
      have h2 := HGL.out
      omega
    case round =>
      obtain ⟨σd, gd, rfl, hk, HBD, HRP, HPOP⟩ := hrel
      cases hj : plc σd.E (σd.inn + 1) 0 with
      | none =>
        have HF : Hid (RP p lab w σ1.pop.2 out (got ++ σ1.pop.1) wr) := Lib.hid (by
          have h := HPOP.out
          rw [Se.pop_none hj, List.append_nil] at h
          rw [← h.1, ← h.2]
          exact HRP.out)
        clear hj hk
        go_wp2_with fail
        go_end0
        exact ⟨rfl, HF.out⟩
      | some j =>
        obtain ⟨_, hjl, bx2, hbx2⟩ := plc_lt σd.E 0 hj
        have HNX := Lib.hid (Se.pop_some hj)
        have HJL : Hid (j < σd.E.length) := Lib.hid (by omega)
        have HKE := Lib.hid hk
        have hj0 : decide ((0 : Int) ≤ (j : Int)) = true := by simp
        have hjj : plI (some j) = (j : Int) := rfl
        rw [hjj]
        clear hj hbx2 hjl hjj hk
        obtain ⟨lab1, vL1, vE1, vO1, vG1, A1, L1⟩ := HRP.out
        have hrow := A1.E
        obtain ⟨Ae, ce, hve⟩ := hrow.slice
        subst hve
        obtain ⟨ad, A6, c6, y, rfl, hy, c1, V6⟩ := hrow.early_at j HJL.out
        have HR1 := Lib.hid A1
        have HL1 := Lib.hid L1
        have HV6 := Lib.hid V6
        have HY : Hid ((σd.E.getD j (0, [])).2 = y.2) := Lib.hid (by rw [hy.out])
        obtain ⟨b, hb⟩ : ∃ b, b = y.2 := ⟨_, rfl⟩
        rw [← hb] at c1 HV6 HY
        obtain ⟨lb, hlb⟩ : ∃ lb, lb = b.length := ⟨_, rfl⟩
        have HLB := Lib.hid hlb
        rw [← hlb] at c1
        obtain ⟨le, hle⟩ : ∃ le, le = σd.E.length := ⟨_, rfl⟩
        have HLE := Lib.hid hle
        have q10 := blk_cell A1.blk 10 (.slice (some ad) le ce) (by rw [hle]; rfl)
        have q14 := blk_cell A1.blk 14 vG1 rfl
        have hjle : (j : Int) < (le : Int) := by have := HJL.out; omega
        have hle2 : (le : Int) ≤ 201 := by have := HBD.out; omega
        clear A1 L1 V6 hrow hb hlb hle hy
        go_upto_region 6 with fail
        go_cut [] (fun wx => Hid (RP p lab w σd out (gd ++ [b]) wx))
        case first =>
          have qA := fun o => Lib.cell?_alloc_some o q10
          have qB := fun o => Lib.cell?_alloc_some o q14
          have qC := fun o => Lib.cell?_alloc_some o c1
          have HG := Lib.hid HR1.out.G
          have HFK : Hid (Kd.FK kB wr (fun k => lab1 k = 1) b [.slice A6 lb c6]) := Lib.hid (by
            have h := HV6.out
            rw [HLB.out]
            exact FK_slice h)
          have HGB : Hid (gd.length ≤ 201) := Lib.hid (by have := HBD.out; omega)
          have FIN : Hid (∀ (w7 : World) (lab4 : Nat → Nat) (v : Value), RS p lab4 σd out (gd ++ [b]) vL1 (.slice (some ad) σd.E.length ce) vO1 v (w7.setCell ⟨p, 14, none⟩ v) → Ls lab1 lab4 wr (w7.setCell ⟨p, 14, none⟩ v) → RP p lab w σd out (gd ++ [b]) (w7.setCell ⟨p, 14, none⟩ v)) :=
            Lib.hid (fun w7 lab4 v h1 h2 => ⟨lab4, _, _, _, _, h1, HL1.out.trans h2⟩)
          go_region_law (first
            | (refine Kd.N_append_step kB (w0 := wr.drew) (W := wr.drew) 0 (by rfl) (.tmp 71) (.tmp 80) 45 25 (.slice none 0 0) 24 (by rfl) Try.underlying45 Try.info25 rfl (by decide) (by omega) vG1 gd b [.slice A6 lb c6] (fun k => lab1 k = 1 ∨ some k = vG1.ownBlock ∨ wr.heap.size ≤ k) (fun k => lab1 k = 1) (by rfl) (by rfl) (Kd.FK_step HFK.out (fun _ _ _ => by rfl)) (fun k hk => ⟨.inl hk, fun he => by have h7 := HG.out.2 k he.symm; have h8 : lab1 k = 1 := hk; omega⟩) (fun k hk => .inr (.inr hk)) (HG.out.wide (by rfl) (fun _ => by rfl)) (Below.refl _ _) (Nat.zero_le _) (by have := HGB.out; omega) ?_; intro v3 w7 hn7 hb7 hg7 hat7; obtain ⟨A9, c9, e9⟩ := Kd.N_slice hn7; obtain ⟨z8, hz8⟩ : ∃ z8, z8 = (gd ++ [b]).length := ⟨_, rfl⟩; rw [← hz8] at e9; subst e9; obtain ⟨lab4, L4, R4, _⟩ := Row.grown HR1.out.lim HG.out (by omega) hn7 ⟨hg7.os, hg7.tape, hg7.output, hg7.size, hg7.block⟩ hat7; obtain ⟨a1, a2, a3⟩ := HR1.out.setG L4 R4; have v14 := blk_cell a2 14 vG1 rfl; have f14 := blk_free a2 14; have HP := Lib.hid (FIN.out w7 lab4 _ a3 a1); clear hn7 hb7 hg7 hat7 L4 R4 a1 a2 a3 hz8))
          all_goals
            go_wp2_with fail
            go_meet
            exact HP
        case rest =>
          clear HR1 HL1 HV6 HLB q10 q14 c1
          obtain ⟨lab2, vL2, vE2, vO2, vG2, A2, L2⟩ := hcut.out
          have hrow2 := A2.E
          obtain ⟨Af, cf, hvf⟩ := hrow2.slice
          subst hvf
          have hlc := (Kd.V_at (Kd.N_V (base' := 0) hrow2.1)).2.1
          have hFr := (Kd.V_at (Kd.N_V (base' := 0) hrow2.1)).2.2
          have HR2 := Lib.hid A2
          have HL2 := Lib.hid L2
          have q10 := blk_cell A2.blk 10 (.slice Af le cf) (by rw [HLE.out]; rfl)
          clear A2 L2 hrow2 hcut
          go_upto_region 7 with fail
          go_cut [] (fun wx => Hid (RP p lab w { σd with E := σd.E.eraseIdx j } out (gd ++ [b]) wx))
          case first =>
            have qA := fun o => Lib.cell?_alloc_some o q10
            obtain ⟨i116, hi116, _, hs116, _⟩ := info_parts Try.info116
            have cut1 := cut_to (P := Try.prog) 59 116 .i64 Try.underlying59 hi116 Af le cf (j : Int) (by omega) (by omega) (by rw [HLE.out]; exact hlc)
            have cut2 := cut_from (P := Try.prog) 59 116 .i64 Try.underlying59 hi116 2 hs116 Af le cf ((j : Int) + 1) (by omega) (by omega)
            rw [Int.toNat_natCast] at cut1
            rw [show ((j : Int) + 1).toNat = j + 1 by omega] at cut2
            obtain ⟨A3, hA3⟩ : ∃ A3, A3 = (if cf = j + 1 then Af else Af.map (·.add ((j + 1) * 2))) := ⟨_, rfl⟩
            rw [← hA3] at cut2
            have HRE : Hid (Row kE 116 wc lab2 6 (.slice Af le cf) σd.E) := Lib.hid (by rw [HLE.out]; exact HR2.out.E)
            have hown : ∀ q, lab2 q = 1 ∨ some q = (Value.slice Af le cf).ownBlock → q < wc.heap.size := fun q hq => hq.elim (fun h => HR2.out.lim q (by omega)) (fun h => Kd.N_lt HRE.out.1 q h.symm)
            have HF1 : Hid (∀ W' : World, (∀ q, q < wc.heap.size → W'.heap[q]? = wc.heap[q]?) → Kd.F kE W' (fun q => lab2 q = 1 ∨ some q = (Value.slice Af le cf).ownBlock) Af j (σd.E.take j)) := by
              refine Lib.hid (fun W' hW => ?_)
              have := Kd.F_step (Kd.F_take hFr (m := j) (by have := HJL.out; omega)) (W1 := W') (fun q hq hl => hW q hl)
              rw [List.length_take, Nat.min_eq_left (by have := HJL.out; omega)] at this
              exact Kd.F_mono this (fun q hq => by rw [HLE.out]; exact hq)
            have HF2 : Hid (∀ W' : World, (∀ q, q < wc.heap.size → W'.heap[q]? = wc.heap[q]?) → Kd.F kE W' (fun q => lab2 q = 1 ∨ some q = (Value.slice Af le cf).ownBlock) A3 (le - (j + 1)) (σd.E.drop (j + 1))) := by
              refine Lib.hid (fun W' hW => ?_)
              have := Kd.F_step (Kd.F_cut (c := cf) hFr (m := j + 1) (by have := HJL.out; omega) hlc) (W1 := W') (fun q hq hl => hW q hl)
              rw [List.length_drop] at this
              rw [hA3, HLE.out]
              exact Kd.F_mono this (fun q hq => hq)
            have HN0 : Hid (∀ d, Kd.N kE 116 ((wc.alloc (.cells #[] 116)).drewN d) wc.heap.size (fun q => lab2 q = 1 ∨ some q = (Value.slice Af le cf).ownBlock ∨ wc.heap.size ≤ q) (.slice (some ⟨wc.heap.size, 0, none⟩) 0 0) []) := Lib.hid (fun d => N_empty kE 116 wc wc.heap.size (Nat.le_refl _) _ (.inr (.inr (Nat.le_refl _))) d)
            have HBW : Hid (∀ d, Below wc.heap.size wc ((wc.alloc (.cells #[] 116)).drewN d)) := Lib.hid (fun d => pw_below_drewN (below_alloc (Below.refl _ _) _) d)
            have HOW : Hid (∀ q, lab2 q = 1 ∨ some q = (Value.slice Af le cf).ownBlock → (lab2 q = 1 ∨ some q = (Value.slice Af le cf).ownBlock ∨ wc.heap.size ≤ q) ∧ q < wc.heap.size) := Lib.hid (fun q hq => ⟨hq.imp id .inl, hown q hq⟩)
            have hwk : IntKind.i64.wrap ((j : Int) + 1) = (j : Int) + 1 := IntWalk.i64_in _ (by omega)
            have hk0 : (0 : Int) ≤ (j : Int) := by omega
            have HER : Hid (σd.E.take j ++ σd.E.drop (j + 1) = σd.E.eraseIdx j) := Lib.hid (List.eraseIdx_eq_take_drop_succ ..).symm
            have HFN : Hid (∀ (v3 : Value) (w3 : World), Kd.N kE 116 w3 wc.heap.size (fun q => lab2 q = 1 ∨ some q = (Value.slice Af le cf).ownBlock ∨ wc.heap.size ≤ q) v3 (σd.E.eraseIdx j) → Below wc.heap.size wc w3 → w3.heap[p]? = some (.cells (rcs σd vL2 (.slice Af σd.E.length cf) vO2 vG2) 61 (0, 0)) ∧ RP p lab w { σd with E := σd.E.eraseIdx j } out (gd ++ [b]) (w3.setCell ⟨p, 10, none⟩ v3)) := by
              refine Lib.hid ?_
              intro v3 w3 h1 h2
              obtain ⟨lab4, L4, R4, _⟩ := Row.instead HR2.out.lim HRE.out (by omega) h1 h2
              obtain ⟨a1, a2, a3⟩ := HR2.out.setE L4 R4
              exact ⟨a2, lab4, _, _, _, _, a3, HL2.out.trans a1⟩
            clear hi116 hs116 hA3 hFr hown hlc
            go_region_law (first
              | (refine Kd.N_append_rows_step kE (w0 := wc) wc.heap.size (by rfl) (.tmp 85) (.tmp 91) 59 116 (.agg #[.int .u64 0, .slice none 0 0]) 32 (by rfl) Try.underlying59 Try.info116 rfl (by decide) (by omega) (.slice (some ⟨wc.heap.size, 0, none⟩) 0 0) [] (σd.E.take j) Af j cf (fun q => lab2 q = 1 ∨ some q = (Value.slice Af le cf).ownBlock ∨ wc.heap.size ≤ q) (fun q => lab2 q = 1 ∨ some q = (Value.slice Af le cf).ownBlock) (by rfl) (by rfl) (HN0.out _) (HF1.out _ (fun q hq => (HBW.out 0).block q hq)) (fun q hq => ⟨(HOW.out q hq).1, fun he => by have h8 := (HOW.out q hq).2; have h9 : q = wc.heap.size := (by simpa [Value.ownBlock] using he); omega⟩) (fun q hq => .inr (.inr (Nat.le_trans (HBW.out 0).size hq))) (HBW.out _) (HBW.out 0).size (by rw [List.length_nil]; have := HJL.out; have := HLE.out; omega) ?_; intro v1 w2 hn2 hb2 hg2 hat2; rw [List.nil_append] at hn2; obtain ⟨A7, c7, e7⟩ := Kd.N_slice hn2; replace e7 : v1 = .slice A7 j c7 := (by rw [e7, List.length_take, Nat.min_eq_left (by have := HJL.out; omega)]); subst e7; have u8 := pw_cell_below hb2 q10; have HN2 := Lib.hid hn2; have HB2 := Lib.hid hb2; clear hn2 hb2 hg2 hat2)
              | (refine Kd.N_append_rows_step kE (w0 := wc) wc.heap.size (by rfl) (.tmp 92) (.tmp 99) 59 116 (.agg #[.int .u64 0, .slice none 0 0]) 32 (by rfl) Try.underlying59 Try.info116 rfl (by decide) (by omega) (.slice A7 j c7) (σd.E.take j) (σd.E.drop (j + 1)) A3 (le - (j + 1)) (cf - (j + 1)) (fun q => lab2 q = 1 ∨ some q = (Value.slice Af le cf).ownBlock ∨ wc.heap.size ≤ q) (fun q => lab2 q = 1 ∨ some q = (Value.slice Af le cf).ownBlock) (by rfl) (by rfl) HN2.out (HF2.out _ (fun q hq => HB2.out.block q hq)) (fun q hq => ⟨(HOW.out q hq).1, fun he => by have := (HOW.out q hq).2; have := Kd.N_base HN2.out q he.symm; omega⟩) (fun q hq => .inr (.inr (Nat.le_trans HB2.out.size hq))) HB2.out HB2.out.size (by rw [List.length_take]; have := HJL.out; have := HLE.out; omega) ?_; intro v3 w3 hn3 hb3 hg3 hat3; rw [HER.out] at hn3; obtain ⟨A8, c8, e8⟩ := Kd.N_slice hn3; obtain ⟨z8, hz8⟩ : ∃ z8, z8 = (σd.E.eraseIdx j).length := ⟨_, rfl⟩; rw [← hz8] at e8; subst e8; obtain ⟨hbk3, hrp3⟩ := HFN.out _ w3 hn3 hb3; have v8 := blk_cell hbk3 10 (.slice Af le cf) (by rw [HLE.out]; rfl); have v9 := blk_free hbk3 10; have HP := Lib.hid hrp3; clear hn3 hb3 hg3 hat3 hbk3 hrp3 hz8))
            all_goals
              go_wp2_with fail
              go_meet
              exact HP
          case rest =>
            clear HR2 HL2 q10 hFr hlc
            obtain ⟨lab3, vL3, vE3, vO3, vG3, A3, L3⟩ := hcut.out
            have d9 := blk_cell A3.blk 9 (.int .u64 σd.inn) rfl
            have f9 := blk_free A3.blk 9
            obtain ⟨c1, c2⟩ := A3.cell 9 (.int .u64 (σd.inn + 1)) (σ' := { σd with inn := σd.inn + 1, E := σd.E.eraseIdx j }) rfl rfl rfl
            have HA4 := Lib.hid c1
            have HL4 := Lib.hid (L3.trans c2)
            obtain ⟨ic2, hic2⟩ : ∃ ic2, ic2 = σd.inn := ⟨_, rfl⟩
            have HI2 := Lib.hid hic2
            rw [← hic2] at d9 HA4 HL4
            have hw4 : IntKind.u64.wrap (ic2 + 1) = ic2 + 1 := u64_wrap (by have := HBD.out; omega) (by have := HBD.out; have := HJL.out; omega)
            clear A3 L3 c1 c2 hcut hic2
            go_upto_region 5 with fail
            clear d9 f9
            generalize wc.setCell ⟨p, 9, none⟩ (.int .u64 (ic2 + 1)) = W5 at *
            have t9 := blk_cell HA4.out.blk 9 (.int .u64 (ic2 + 1)) rfl
            have hEL : (σd.E.eraseIdx j).length = σd.E.length - 1 := by
              rw [List.length_eraseIdx_of_lt HJL.out]
            have HEL2 := Lib.hid hEL
            have HE1 := Lib.hid (rearly HA4.out (by show (σd.E.eraseIdx j).length ≤ 1000; have := HBD.out; omega) (ic2 + 1 + 1))
            have hw5 : IntKind.u64.wrap (ic2 + 1 + 1) = ic2 + 1 + 1 := u64_wrap (by have := HBD.out; have := HI2.out; omega) (by have := HBD.out; have := HJL.out; have := HI2.out; omega)
            clear hEL
            go_wp2_with fail
            refine HE1.out.mono ?_
            rintro e w' ⟨rfl, rfl⟩
            clear HE1 t9 hw4 hw5
            go_wp2_with fail
            go_roundg (gk - 1)
            case measure =>
              have h1 := HKE.out
              have h2 := HJL.out
              omega
            case rel =>
              refine ⟨{ σd with inn := ic2 + 1, E := σd.E.eraseIdx j }, gd ++ [b], rfl, ?_, Lib.hid ?_, Lib.hid ⟨lab3, _, _, _, _, HA4.out, HL4.out⟩, Lib.hid ?_⟩
              · show gk - 1 = (σd.E.eraseIdx j).length
                rw [HEL2.out, HKE.out]
              · have h1 := HBD.out
                have h2 := HJL.out
                have h3 := HI2.out
                have h4 := HEL2.out
                simp only [List.length_append, List.length_singleton]
                omega
              · have h1 := HPOP.out
                have h2 := HNX.out
                rw [HY.out] at h2
                rw [HI2.out]
                rw [h2] at h1
                exact ⟨by rw [List.append_assoc]; exact h1.1, h1.2⟩
end
end Go.Proofs.Ytlnhjkbhhdcdeaa
