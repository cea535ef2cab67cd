/- The walk of start: two sessions that meet, turns behind them. -/
import Derived.Test.YtlnhjkbhhdcdeaaOe
import Derived.Test.YtlnhjkbhhdcdeaaOf
import Derived.Test.YtlnhjkbhhdcdeaaOl
namespace Go.Proofs.Ytlnhjkbhhdcdeaa
open Go Go.RowKit Go.Proofs.YtlnhjkbhhdcdeaaW.PrintWords Go.Proofs.YtlnhjkbhhdcdeaaW.PrintLast Go.Proofs.YtlnhjkbhhdcdeaaW.PrintMore
open Go.Proofs.Ytlnhjkbhhdcdeaa.PSessionRuns (S27 k27 z27 S116 k116 z116)
set_option linter.unusedVariables false
set_option maxRecDepth 100000
set_option maxHeartbeats 4000000
attribute [local go_sem] max2_mx min2_mn max_two min_two
abbrev TTu := Int × Bool × Int × List Int
abbrev kTu : Kd TTu := Kd.pair (Kd.int .u8) (Kd.pair Kd.bool (Kd.pair (Kd.int .u8) (Kd.slice 5 (Kd.int .u8))))
def zTu : TTu := (0, false, 0, [])
def tuof (x : TTu) : Tu := ⟨x.1, x.2.1, x.2.2.1, x.2.2.2⟩
def okTu (x : TTu) : Prop := (Lit.int .u8 x.1).wf = true ∧ True ∧ (Lit.int .u8 x.2.2.1).wf = true ∧ (∀ b ∈ x.2.2.2, (Lit.int .u8 b).wf = true) ∧ x.2.2.2.length * 1 ≤ 140737488351232
theorem V_tu_at {w : World} {t b : Nat} {ok : Nat → Prop} {A : Option Addr} {n c : Nat} {ts : List TTu} (h : Kd.V kTu t w b ok (.slice A n c) ts) (i : Nat) (hi : i < ts.length) :
    ∃ ad A5 c5, ∃ x : TTu, A = some ad ∧ Hid (x = ts.getD i zTu) ∧ w.cell? (ad.add (i * 4)) = some (.int .u8 x.1) ∧ w.cell? ⟨(ad.add (i * 4)).block, (ad.add (i * 4)).off + 1, none⟩ = some (.bool x.2.1) ∧ w.cell? ⟨(ad.add (i * 4)).block, (ad.add (i * 4)).off + 2, none⟩ = some (.int .u8 x.2.2.1) ∧
      w.cell? ⟨(ad.add (i * 4)).block, (ad.add (i * 4)).off + 3, none⟩ = some (.slice A5 x.2.2.2.length c5) ∧ Kd.V KB 5 w 0 ok (.slice A5 x.2.2.2.length c5) x.2.2.2 := by
  obtain ⟨hn, hl, hF⟩ := Kd.V_at h
  obtain ⟨ad, cs, e, hs, hr, hcell, _⟩ := Kd.F_get hF zTu (i : Int) (by omega) (by omega)
  obtain ⟨x, hx⟩ : ∃ x, x = ts.getD i zTu := ⟨_, rfl⟩
  rw [show ((i : Int)).toNat = i from Int.toNat_natCast i, ← hx] at hr
  obtain ⟨g1, g2⟩ := FK_pair hr
  obtain ⟨g3, g4⟩ := FK_pair g2
  obtain ⟨g5, g6⟩ := FK_pair g4
  have t1 : cs.take 1 = [.int .u8 x.1] := Kd.FK_now g1
  have t2 : (cs.drop 1).take 1 = [.bool x.2.1] := Kd.FK_now g3
  have t3 : ((cs.drop 1).drop 1).take 1 = [.int .u8 x.2.2.1] := Kd.FK_now g5
  obtain ⟨A5, c5, t4, _, _⟩ := Kd.FK_now g6
  have t4' : ((cs.drop 1).drop 1).drop 1 = [.slice A5 x.2.2.2.length c5] := t4
  have hcs : cs = [.int .u8 x.1, .bool x.2.1, .int .u8 x.2.2.1, .slice A5 x.2.2.2.length c5] := by
    rw [← List.take_append_drop 1 cs, t1, ← List.take_append_drop 1 (cs.drop 1), t2, ← List.take_append_drop 1 ((cs.drop 1).drop 1), t3, t4']
    rfl
  have hc : ∀ j u, cs[j]? = some u → w.cell? (ad.add (i * 4 + j)) = some u := hcell
  rw [hcs] at hc
  have g6' : Kd.FK (Kd.slice 5 (Kd.int .u8)) w ok x.2.2.2 (((cs.drop 1).drop 1).drop 1) := g6
  rw [t4'] at g6'
  exact ⟨ad, A5, c5, x, e, hx, hc 0 _ rfl, by rw [← add_field _ _ 1 (by omega)]; exact hc 1 _ rfl, by rw [← add_field _ _ 2 (by omega)]; exact hc 2 _ rfl, by rw [← add_field _ _ 3 (by omega)]; exact hc 3 _ rfl, V_of_FK (e := 5) (b := 0) g6'⟩
/-- The windows of start. -/
def wiF (wd : Int) (i : Nat) : Int := if i = 0 then 1 + wd % 8 else 1 + (wd / 8) % 8
def st0F (wd : Int) : Pa := mst aw1 (wiF wd) (fun _ => 100) 2
def SQ1 (w : World) (p : Nat) (st : Pa) (wr : World) : Prop :=
  ∃ lab g m pv vt vs vg, PA 2 p lab st g m pv vt vs vg wr ∧ Below w.heap.size w wr ∧ ∀ k, k < w.heap.size → lab k = 0
theorem st0_bad (wd : Int) (h0 : 0 ≤ wd) (h1 : wd ≤ 255) : ∀ i, i < 2 → badc (aw1 i) (wiF wd i) 100 = false := by
  intro i hi
  have : i = 0 ∨ i = 1 := by omega
  unfold badc
  rcases this with rfl | rfl
  · simp [aw1, wiF]
    omega
  · simp [aw1, wiF]
    omega
theorem aw1_bd : ∀ i, i < 2 → 0 ≤ aw1 i ∧ aw1 i < 4294967296 := by
  intro i hi
  have : i = 0 ∨ i = 1 := by omega
  rcases this with rfl | rfl <;> decide
theorem st0_pn (wd : Int) (h0 : 0 ≤ wd) (h1 : wd ≤ 255) : Pn 9 (st0F wd) := by
  obtain ⟨e1, e2, e3⟩ := mst_conf aw1 (wiF wd) (fun _ => 100) 2
  refine ⟨(mst_pk (st0_bad wd h0 h1) aw1_bd).more (by omega) (by omega), ?_, ?_, ?_, ?_, ?_, ?_⟩
  · intro i hi
    show 1 ≤ (mst aw1 (wiF wd) (fun _ => 100) 2).boot i
    rw [e1]
    unfold aw1
    split <;> omega
  · intro i hi
    show (mst aw1 (wiF wd) (fun _ => 100) 2).boot i ≤ 9
    rw [e1]
    unfold aw1
    split <;> omega
  · intro i hi
    show 1 ≤ (mst aw1 (wiF wd) (fun _ => 100) 2).win i ∧ (mst aw1 (wiF wd) (fun _ => 100) 2).win i ≤ 64
    rw [e2]
    unfold wiF
    split <;> omega
  · intro i hi
    show 1 ≤ (mst aw1 (wiF wd) (fun _ => 100) 2).tmr i ∧ (mst aw1 (wiF wd) (fun _ => 100) 2).tmr i ≤ 1048576
    rw [e3]
    show (1 : Int) ≤ 100 ∧ (100 : Int) ≤ 1048576
    decide
  · exact Int.le_refl _
  · exact (show (0 : Int) ≤ 1099511627776 by decide)
theorem turns_app (st : Pa) (l : List Tu) (t : Tu) : turns st (l ++ [t]) = (turns st l).turn t := by
  unfold turns
  rw [List.foldl_append]
  rfl
theorem start_w (wd : Int) (h0 : 0 ≤ wd) (h1 : wd ≤ 255) (v1 : Value) (ts : List TTu) (w : World) (hV : Kd.V kTu 32 w 0 (fun k => k < w.heap.size) v1 ts) (hok : ∀ x ∈ ts, okTu x) :
    Calls Try.prog 11 #[.int .u8 wd, v1] w fun e w' => ∃ p, e = .returned (.tuple #[.pointer (some ⟨p, 0, none⟩), .bool true]) ∧ SQ1 w p (turns (st0F wd) ((ts.take 150).map tuof)) w' := by
  obtain ⟨A1, c1, rfl, hc1, hF1⟩ := hV
  obtain ⟨n1, hn1⟩ : ∃ n1, n1 = ts.length := ⟨_, rfl⟩
  have HV : Hid (Kd.V kTu 32 w 0 (fun k => k < w.heap.size) (.slice A1 n1 c1) ts) := Lib.hid (by rw [hn1]; exact ⟨A1, c1, rfl, hc1, hF1⟩)
  rw [← hn1]
  have HN1 := Lib.hid hn1
  have HOK := Lib.hid hok
  have HTI : Hid (∀ i : Nat, i ≤ 150 → Inv (turns (st0F wd) ((ts.take i).map tuof)) ∧ Pn (9 + 140000 * i) (turns (st0F wd) ((ts.take i).map tuof))) := Lib.hid (fun i hi => by
    have hl : ((ts.take i).map tuof).length ≤ i := by
      rw [List.length_map, List.length_take]
      exact Nat.min_le_left _ _
    obtain ⟨a1, a2⟩ := turns_inv ((ts.take i).map tuof) (mst_inv (st0_bad wd h0 h1) aw1_bd) (st0_pn wd h0 h1) (fun t ht => by
      obtain ⟨x, hx, rfl⟩ := List.mem_map.1 ht
      have := (hok x (List.mem_of_mem_take hx)).2.2.1
      simp [Lit.wf, IntKind.min, IntKind.max, IntKind.signed, IntKind.bits] at this
      show 0 ≤ x.2.2.1
      omega) (by omega)
    exact ⟨a1, a2.more (by omega) (by omega)⟩)
  obtain ⟨u0, hu0⟩ : ∃ u0, u0 = 1 + wd % 8 := ⟨_, rfl⟩
  obtain ⟨u1, hu1⟩ : ∃ u1, u1 = 1 + (wd / 8) % 8 := ⟨_, rfl⟩
  have HMT : Hid (∀ W, Calls Try.prog 30 #[.agg #[.int .u32 5, .int .i64 u0, .int .i64 100], .agg #[.int .u32 9, .int .i64 u1, .int .i64 100]] W (MtP W (st0F wd))) := Lib.hid (fun W => by
    rw [hu0, hu1]
    exact meet_w aw1 (wiF wd) (fun _ => 100) (st0_bad wd h0 h1 0 (by omega)) (st0_bad wd h0 h1 1 (by omega)) W)
  have HU := Lib.hid (And.intro hu0 hu1)
  clear hn1 hok hc1 hF1 hu0 hu1
  go_enter Try.func11, Try.ntmps11
  go_wp2_with fail
  refine (conf_w 5 _).mono ?_
  rintro e w1 ⟨rfl, hb1⟩
  have HB1 := Lib.hid hb1
  clear hb1
  go_wp2_with fail
  refine (conf_w 9 _).mono ?_
  rintro e w2 ⟨rfl, hb2⟩
  have HB2 := Lib.hid (HB1.out.trans (hb2.mono HB1.out.size))
  clear hb2
  go_upto_region 3 with fail
  rw [← HU.out.1, ← HU.out.2]
  have HB3 : Hid (Below w.heap.size w ((w2.alloc (.cells #[.int .u32 5, .int .i64 u0, .int .i64 100] 39)).alloc (.cells #[.int .u32 9, .int .i64 u1, .int .i64 100] 39))) := Lib.hid (below_alloc (below_alloc HB2.out _) _)
  go_wp2_with fail
  refine (HMT.out _).mono ?_
  rintro e w3 ⟨p, lab, g, m, pv, vt, vs, vg, rfl, A, hb3, hz⟩
  have HS0 : Hid (SQ1 w p (turns (st0F wd) ((ts.take 0).map tuof)) w3) := Lib.hid ⟨lab, g, m, pv, vt, vs, vg, A, below_then HB3.out HB3.out.size hb3, fun k hk => hz k (Nat.lt_of_lt_of_le hk HB3.out.size)⟩
  clear A hb3 hz HB1 HB2 HB3 HMT HU
  go_wp2_with fail
  go_loopw [10] (fun v wr => ∃ i : Nat, v = .int .i64 i ∧ i ≤ n1 ∧ i ≤ 150 ∧ Hid (SQ1 w p (turns (st0F wd) ((ts.take i).map tuof)) wr)) (fun v _ => n1 - (intOf v).toNat)
  case atStart => exact ⟨0, rfl, Nat.zero_le _, Nat.zero_le _, HS0⟩
  case round =>
    obtain ⟨i, rfl, hi, hi150, HS⟩ := hrel
    obtain ⟨lab, g, m, pv, vt, vs, vg, A, hb, hz⟩ := HS.out
    have HI : Hid (i ≤ n1 ∧ i ≤ 150) := Lib.hid ⟨hi, hi150⟩
    by_cases hlt : i < n1 ∧ i < 150
    · obtain ⟨hlt1, hlt2⟩ := hlt
      obtain ⟨ad, A5, c5, x, rfl, hx, q0, q1, q2, q3, V5⟩ := V_tu_at (Kd.V_step HV.out (fun k hk _ => hb.block k hk)) i (by rw [← HN1.out]; exact hlt1)
      have hxm : x ∈ ts := by
        rw [hx.out, List.getD_eq_getElem?_getD, List.getElem?_eq_getElem (by rw [← HN1.out]; exact hlt1)]
        exact List.getElem_mem _
      have hxo := HOK.out x hxm
      have h1 := hxo.1
      have h2 := hxo.2.2.1
      have h3 := hxo.2.2.2.2
      simp [Lit.wf, IntKind.min, IntKind.max, IntKind.signed, IntKind.bits] at h1 h2
      have hstep : turns (st0F wd) ((ts.take (i + 1)).map tuof) = (turns (st0F wd) ((ts.take i).map tuof)).turn (tuof x) := by
        rw [← turns_app, List.take_add_one, List.map_append, List.getElem?_eq_getElem (by rw [← HN1.out]; exact hlt1)]
        rw [hx.out, List.getD_eq_getElem?_getD, List.getElem?_eq_getElem (by rw [← HN1.out]; exact hlt1)]
        rfl
      have hpn := (HTI.out i hi150).2
      have hcl : Hid (∀ e : Bool, x.2.1 = e → Calls Try.prog 34 #[.pointer (some ⟨p, 0, none⟩), .agg #[.int .u8 x.1, .bool e, .int .u8 x.2.2.1, .slice A5 x.2.2.2.length c5]] wr (PQ p lab wr (turns (st0F wd) ((ts.take (i + 1)).map tuof)))) := by
        refine Lib.hid (fun e he => ?_)
        rw [hstep]
        cases e with
        | false => exact pdo0 A hpn (by omega) (tuof x) he (by show 0 ≤ x.2.2.1; omega) (by show x.2.2.1 ≤ 255; omega) A5 c5 _ V5 (fun k hk => by rw [hz k hk]; omega) (by show x.2.2.2.length ≤ _; omega)
        | true => exact pdo1 A hpn (by omega) (tuof x) he (by show 0 ≤ x.2.2.1; omega) (by show x.2.2.1 ≤ 255; omega) A5 c5 _ V5 (fun k hk => by rw [hz k hk]; omega) (by show x.2.2.2.length ≤ _; omega)
      have FIN : Hid (∀ w4, PQ p lab wr (turns (st0F wd) ((ts.take (i + 1)).map tuof)) (.returned (.tuple #[])) w4 → SQ1 w p (turns (st0F wd) ((ts.take (i + 1)).map tuof)) w4) := by
        refine Lib.hid ?_
        rintro w4 ⟨_, lab', g', m', pv', vt', vs', vg', A', L'⟩
        obtain ⟨o1, o2⟩ := L'.out (n := w.heap.size) hz hb.size
        exact ⟨lab', g', m', pv', vt', vs', vg', A', hb.trans o1, o2⟩
      obtain ⟨y0, hy0⟩ : ∃ y, y = x.1 := ⟨_, rfl⟩
      obtain ⟨y1, hy1⟩ : ∃ y, y = x.2.1 := ⟨_, rfl⟩
      obtain ⟨y2, hy2⟩ : ∃ y, y = x.2.2.1 := ⟨_, rfl⟩
      obtain ⟨l3, hl3⟩ : ∃ y, y = x.2.2.2.length := ⟨_, rfl⟩
      have HCL : Hid (Calls Try.prog 34 #[.pointer (some ⟨p, 0, none⟩), .agg #[.int .u8 y0, .bool y1, .int .u8 y2, .slice A5 l3 c5]] wr (PQ p lab wr (turns (st0F wd) ((ts.take (i + 1)).map tuof)))) := by
        rw [hy0, hy2, hl3]
        exact Lib.hid (hcl.out y1 hy1.symm)
      rw [← hy0] at q0
      rw [← hy1] at q1
      rw [← hy2] at q2
      rw [← hl3] at q3
      clear hcl hpn hstep hxo hxm h1 h2 h3 hx V5 hy0 hy1 hy2 hl3 A hb hz hi hi150 HS
      have hk1 : (i : Int) < (n1 : Int) := by omega
      go_wp2_with fail
      refine HCL.out.mono ?_
      rintro e w4 hpq
      obtain rfl := hpq.1
      have HP := Lib.hid (FIN.out _ hpq)
      clear hpq HCL FIN q0 q1 q2 q3
      go_wp2_with fail
      go_roundw
      case rel => exact ⟨i + 1, by go_num, by omega, by omega, HP⟩
      case measure => simp [intOf]; omega
    · have HE : Hid (turns (st0F wd) ((ts.take i).map tuof) = turns (st0F wd) ((ts.take 150).map tuof)) := Lib.hid (by
        rcases Nat.lt_or_ge i 150 with h | h
        · rw [List.take_of_length_le (by rw [← HN1.out]; omega), List.take_of_length_le (by rw [← HN1.out]; omega)]
        · rw [show i = 150 by omega])
      have hinv := (HTI.out i hi150).1.bad
      have q15 := blk_cell A.blk 15 (.bool false) (by rw [← hinv]; rfl)
      have HFI : Hid (∀ d, SQ1 w p (turns (st0F wd) ((ts.take 150).map tuof)) (wr.drewN d)) := Lib.hid (fun d => by
        rw [← HE.out]
        exact ⟨lab, g, m, pv, vt, vs, vg, A.drewN d, pw_below_drewN hb d, hz⟩)
      clear A hb hz hinv HE HS
      by_cases hl : i < n1
      · have hl2 : ¬ i < 150 := by omega
        clear hlt
        go_upto_region 10 with fail
        go_quiet (fail)
        go_wp2_with fail
        go_ret2
        exact ⟨p, rfl, HFI.out _⟩
      · clear hlt
        go_upto_region 10 with fail
        go_quiet (fail)
        go_wp2_with fail
        go_ret2
        exact ⟨p, rfl, HFI.out _⟩
end Go.Proofs.Ytlnhjkbhhdcdeaa
