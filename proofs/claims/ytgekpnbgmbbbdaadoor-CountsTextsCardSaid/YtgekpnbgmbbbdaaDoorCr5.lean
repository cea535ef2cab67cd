/- The walk of Read. -/
import Derived.Test.YtgekpnbgmbbbdaaDoorCr4
import Derived.Test.YtgekpnbgmbbbdaaDoorCb3
namespace Go.Proofs.YtgekpnbgmbbbdaaDoor
open Go Go.RowKit Go.Proofs.YtgekpnbgmbbbdaaDoorW.PrintWords Go.Proofs.YtgekpnbgmbbbdaaDoorW.PrintLast Go.Proofs.YtgekpnbgmbbbdaaDoorW.PrintMore
theorem load24 {w : World} {g : Nat} {v : Value} {t : TypeId} (h : Boxed w g t v) : (loadVar 24 ⟨g, 0, none⟩).run Tryd.prog w = .ok v w := by
  have hc := h.cell
  go_simp
theorem res30 : Tryd.f30.results = #[.cell 4 24, .cell 5 3, .cell 6 25] := rfl
theorem read_end {w W : World} {u0 u1 u2 : Value} {tmps : Array Value} (h0 : Boxed W w.heap.size 24 u0) (h1 : Boxed W (w.heap.size + 1) 3 u1) (h2 : Boxed W (w.heap.size + 1 + 1) 25 u2) (hb : Below w.heap.size w W)
    (p0 : tmps.getD 4 undef = .pointer (some ⟨w.heap.size, 0, none⟩)) (p1 : tmps.getD 5 undef = .pointer (some ⟨w.heap.size + 1, 0, none⟩)) (p2 : tmps.getD 6 undef = .pointer (some ⟨w.heap.size + 1 + 1, 0, none⟩)) (R : Value) (hR : R = .tuple #[u0, u1, u2]) :
    Leaves Tryd.prog Tryd.f30 tmps (fun e w' => e = .returned R ∧ Below w.heap.size w w') [] .returning W :=
  ⟨_, results_c3 res30 p0 p1 p2 (load24 h0) (load3 h1) (load25 h2), by rw [hR], hb⟩
theorem free3 {W : World} {B : Nat} {a0 a1 a2 : Value} (h0 : Boxed W B 24 a0) (h1 : Boxed W (B + 1) 3 a1) (h2 : Boxed W (B + 1 + 1) 25 a2) (u0 u1 : Value) :
    (W.cell? ⟨B, 0, none⟩ = some a0 ∧ W.frozen? ⟨B, 0, none⟩ = false) ∧ ((W.setCell ⟨B, 0, none⟩ u0).cell? ⟨B + 1, 0, none⟩ = some a1 ∧ (W.setCell ⟨B, 0, none⟩ u0).frozen? ⟨B + 1, 0, none⟩ = false) ∧
      (((W.setCell ⟨B, 0, none⟩ u0).setCell ⟨B + 1, 0, none⟩ u1).cell? ⟨B + 1 + 1, 0, none⟩ = some a2 ∧ ((W.setCell ⟨B, 0, none⟩ u0).setCell ⟨B + 1, 0, none⟩ u1).frozen? ⟨B + 1 + 1, 0, none⟩ = false) :=
  ⟨⟨h0.cell, h0.frozen⟩, ⟨(h1.other (by omega) u0).cell, (h1.other (by omega) u0).frozen⟩, ((h2.other (by omega) u0).other (by omega) u1).cell, ((h2.other (by omega) u0).other (by omega) u1).frozen⟩
theorem set3 {W : World} {B : Nat} {a0 a1 a2 : Value} (h0 : Boxed W B 24 a0) (h1 : Boxed W (B + 1) 3 a1) (h2 : Boxed W (B + 1 + 1) 25 a2) (u0 u1 u2 : Value) :
    Boxed (((W.setCell ⟨B, 0, none⟩ u0).setCell ⟨B + 1, 0, none⟩ u1).setCell ⟨B + 1 + 1, 0, none⟩ u2) B 24 u0 ∧ Boxed (((W.setCell ⟨B, 0, none⟩ u0).setCell ⟨B + 1, 0, none⟩ u1).setCell ⟨B + 1 + 1, 0, none⟩ u2) (B + 1) 3 u1 ∧
      Boxed (((W.setCell ⟨B, 0, none⟩ u0).setCell ⟨B + 1, 0, none⟩ u1).setCell ⟨B + 1 + 1, 0, none⟩ u2) (B + 1 + 1) 25 u2 :=
  ⟨((h0.set u0).other (by omega) u1).other (by omega) u2, ((h1.other (by omega) u0).set u1).other (by omega) u2, ((h2.other (by omega) u0).other (by omega) u1).set u2⟩
theorem below3 {w W : World} (h : Below w.heap.size w W) (u0 u1 u2 : Value) : Below w.heap.size w (((W.setCell ⟨w.heap.size, 0, none⟩ u0).setCell ⟨w.heap.size + 1, 0, none⟩ u1).setCell ⟨w.heap.size + 1 + 1, 0, none⟩ u2) :=
  ((h.setCell (p := ⟨w.heap.size, 0, none⟩) (Nat.le_refl _) u0).setCell (p := ⟨w.heap.size + 1, 0, none⟩) (by show w.heap.size ≤ w.heap.size + 1; omega) u1).setCell (p := ⟨w.heap.size + 1 + 1, 0, none⟩) (by show w.heap.size ≤ w.heap.size + 1 + 1; omega) u2
/-- The deferred call. -/
abbrev DF (w : World) : List Deferred := [{ target := .fn (.func 46) #[.pointer (some ⟨w.heap.size, 0, none⟩), .pointer (some ⟨w.heap.size + 1, 0, none⟩), .pointer (some ⟨w.heap.size + 1 + 1, 0, none⟩)], args := #[] }]
theorem read_ok {w W : World} {u0 u1 u2 : Value} {tmps : Array Value} (h0 : Boxed W w.heap.size 24 u0) (h1 : Boxed W (w.heap.size + 1) 3 u1) (h2 : Boxed W (w.heap.size + 1 + 1) 25 u2) (hb : Below w.heap.size w W)
    (p0 : tmps.getD 4 undef = .pointer (some ⟨w.heap.size, 0, none⟩)) (p1 : tmps.getD 5 undef = .pointer (some ⟨w.heap.size + 1, 0, none⟩)) (p2 : tmps.getD 6 undef = .pointer (some ⟨w.heap.size + 1 + 1, 0, none⟩)) (R : Value) (hR : R = .tuple #[u0, u1, u2]) :
    Leaves Tryd.prog Tryd.f30 tmps (fun e w' => e = .returned R ∧ Below w.heap.size w w') (DF w) .returning W := by
  refine leaves_cons (f := 46) (args := #[.pointer (some ⟨w.heap.size, 0, none⟩), .pointer (some ⟨w.heap.size + 1, 0, none⟩), .pointer (some ⟨w.heap.size + 1 + 1, 0, none⟩)]) (by simp) (by simp [go_sem]) ?_
  refine (catch_idle _ _ _ _).mono ?_
  rintro e u' w'' ⟨rfl, rfl, rfl⟩
  exact read_end h0 h1 h2 hb p0 p1 p2 R hR
theorem read_fault {t : Int} {s : ByteArray} {k c : Nat} {w W : World} {tmps : Array Value} (h : RS t s w k c W) (f : Int)
    (p0 : tmps.getD 4 undef = .pointer (some ⟨w.heap.size, 0, none⟩)) (p1 : tmps.getD 5 undef = .pointer (some ⟨w.heap.size + 1, 0, none⟩)) (p2 : tmps.getD 6 undef = .pointer (some ⟨w.heap.size + 1 + 1, 0, none⟩)) (R : Value) (hR : R = .tuple #[.int .u64 0, .int .i64 f, .int .i64 21]) :
    Leaves Tryd.prog Tryd.f30 tmps (fun e w' => e = .returned R ∧ Below w.heap.size w w') (DF w) (.panicking [{ v := .iface 67 (.int .i64 f), recovered := false }]) W := by
  refine leaves_cons (f := 46) (args := #[.pointer (some ⟨w.heap.size, 0, none⟩), .pointer (some ⟨w.heap.size + 1, 0, none⟩), .pointer (some ⟨w.heap.size + 1 + 1, 0, none⟩)]) (by simp) (by simp [go_sem]) ?_
  have a1 := h.r1.other (show w.heap.size + 1 ≠ w.heap.size by omega) (.int .u64 0)
  have a2 := (h.r2.other (show w.heap.size + 1 + 1 ≠ w.heap.size by omega) (.int .u64 0)).other (show w.heap.size + 1 + 1 ≠ w.heap.size + 1 by omega) (.int .i64 f)
  refine (catch_panicking _ _ _ f _ _ _ [] W h.r0.cell h.r0.frozen a1.cell a1.frozen a2.cell a2.frozen).mono ?_
  rintro e u' w'' ⟨rfl, rfl, rfl⟩
  refine read_end (((h.r0.set (.int .u64 0)).other (by omega) _).other (by omega) _) ((a1.set (.int .i64 f)).other (by omega) _) (a2.set (.int .i64 21)) ?_ p0 p1 p2 R hR
  exact ((h.below.setCell (p := ⟨w.heap.size, 0, none⟩) (Nat.le_refl _) _).setCell (p := ⟨w.heap.size + 1, 0, none⟩) (by show w.heap.size ≤ w.heap.size + 1; omega) _).setCell (p := ⟨w.heap.size + 1 + 1, 0, none⟩) (by show w.heap.size ≤ w.heap.size + 1 + 1; omega) _
set_option maxRecDepth 100000 in
set_option maxHeartbeats 2000000 in
theorem read_w (t : Int) (s : ByteArray) (w : World) (hs : s.size ≤ 140737488351232) (r : Nat × Int × Int) (hr : r = readF t s.data.toList) :
    Calls Tryd.prog 30 #[.int .i64 t, .string s] w fun e w' => e = .returned (.tuple #[.int .u64 (r.1 : Nat), .int .i64 r.2.1, .int .i64 r.2.2]) ∧ Below w.heap.size w w' := by
  cases hb : bnd t with
  | false =>
    have hcf : r = (0, 0, 1) := by rw [hr]; unfold readF; rw [hb]; rfl
    subst hcf
    go_enter_defers Tryd.func30, Tryd.ntmps30
    go_wp2_with fail
    refine (bound_w t _).mono ?_
    rintro e w1 ⟨rfl, rfl⟩
    rw [hb]
    go_wp2_with fail
    have h0 := ((Boxed.new w 24 (.int .u64 0)).alloc (.cells #[.int .i64 0] 3)).alloc (.cells #[.int .i64 1] 25)
    have h1 := (Boxed.new (w.alloc (.cells #[.int .u64 0] 24)) 3 (.int .i64 0)).alloc (.cells #[.int .i64 1] 25)
    have h2 := Boxed.new ((w.alloc (.cells #[.int .u64 0] 24)).alloc (.cells #[.int .i64 0] 3)) 25 (.int .i64 1)
    simp only [World.size_alloc] at h1 h2
    exact read_end h0 h1 h2 (below_alloc (below_alloc (below_alloc (Below.refl _ _) _) _) _) rfl rfl rfl _ rfl
  | true =>
    obtain ⟨m, rfl, hm⟩ := bnd_nat hb
    have hcf : r = (if s.data.toList[0]? = some 123 then readG m s.data.toList s.data.toList.length 0 1 0 else (0, 0, 21)) := by rw [hr]; unfold readF; rw [hb, if_pos rfl]; rfl
    clear hr
    go_enter_defers Tryd.func30, Tryd.ntmps30
    go_wp2_with fail
    refine (bound_w (m : Int) _).mono ?_
    rintro e w1 ⟨rfl, rfl⟩
    rw [hb]
    go_wp2_with fail
    have hS0 := RS.made (m : Int) s w
    generalize (((w.alloc (.cells #[.int .u64 0] 24)).alloc (.cells #[.int .i64 0] 3)).alloc (.cells #[.int .i64 0] 25)).alloc (.cells #[.int .i64 (m : Int), .string s, .int .i64 0, .int .u64 0] 71) = W0 at hS0 ⊢
    have hlen : s.data.toList.length = s.size := rfl
    by_cases h0 : s.data.toList[0]? = some 123
    · rw [if_pos h0] at hcf
      have hS0' := Lib.hid hS0
      have HCF := Lib.hid hcf
      have H0 := Lib.hid h0
      clear hcf h0 hS0
      refine (sign_yes _ (m : Int) s 0 0 ⟨#[123]⟩ W0 hS0'.out.rd hs 123 H0.out (by rw [show (ByteArray.mk #[123]).data.toList = [123] from rfl, ix_open]; simp)).mono ?_
      rintro e W1 ⟨rfl, hrd1, hch1⟩
      have HS := Lib.hid (hS0'.out.chg hch1 hrd1)
      clear hrd1 hch1 hS0'
      go_wp2_with fail
      go_loopw [8] (fun v wr => ∃ lo k c f : Nat, v = .int .i64 ((lo : Int) - 1) ∧ lo ≤ m + 2 ∧ k ≤ s.size ∧ s.size - k + 1 ≤ f ∧ c < 2 ^ 64 ∧ readG m s.data.toList f lo k c = r ∧ RS (m : Int) s w k c wr) (fun _ wr => s.size - atOf wr (w.heap.size + 1 + 1 + 1))
      case atStart =>
        have h1 : 0 < s.size := by
          have := (List.getElem?_eq_some_iff.1 H0.out).1
          rw [hlen] at this; exact this
        exact ⟨0, 1, 0, s.size, rfl, by omega, by omega, by omega, by decide, HCF.out.symm, HS.out⟩
      case round =>
        obtain ⟨lo, k, c, f, rfl, hlo, hk, hf, hc64, hg, hS⟩ := hrel
        obtain ⟨f, rfl⟩ : ∃ f', f = f' + 1 := ⟨f - 1, by omega⟩
        have HSr := Lib.hid hS
        have hew := element_w (w.heap.size + 1 + 1 + 1) m lo s k c wr hm hlo hS.rd hs hk _ rfl
        have hrng : (elemF m lo (s.data.toList.drop k)).2 < 0 ∨ ∃ n : Nat, (elemF m lo (s.data.toList.drop k)).2 = n ∧ lo ≤ n ∧ n ≤ m + 1 := elemG_range m lo (s.data.toList.drop k) hlo (s.data.toList.drop k).length 0
        have hle : (elemF m lo (s.data.toList.drop k)).1 ≤ s.size - k := by
          have h1 := elemG_le m lo (s.data.toList.drop k) (s.data.toList.drop k).length 0
          have h2 : (s.data.toList.drop k).length = s.size - k := by rw [List.length_drop, hlen]
          unfold elemF
          omega
        rw [readG] at hg
        generalize elemF m lo (s.data.toList.drop k) = E at hew hrng hle hg
        obtain ⟨j, z⟩ := E
        simp only at hew hrng hle hg
        have HG := Lib.hid hg
        have HEW := Lib.hid hew
        have hkj : k + j ≤ s.size := by omega
        have hat := atOf_rd hS.rd
        have HAT := Lib.hid hat
        clear hg hew hS hle hat HCF HS
        rcases hrng with hz | ⟨n, rfl, hn1, hn2⟩
        · go_wp2_with fail
          refine HEW.out.mono ?_
          rintro e W2 ⟨he, hrd, hch⟩
          rw [if_pos hz] at he
          subst he
          have hg := HG.out
          rw [if_pos hz] at hg
          subst hg
          exact read_fault (HSr.out.chg hch hrd) _ rfl rfl rfl _ rfl
        · have hg := HG.out
          rw [if_neg (by omega), Int.toNat_natCast] at hg
          have HG2 := Lib.hid hg
          clear hg HG
          go_wp2_with fail
          refine HEW.out.mono ?_
          rintro e W2 ⟨he, hrd, hch⟩
          rw [if_neg (by omega)] at he
          subst he
          have hS2 := HSr.out.chg hch hrd
          have HS2 := Lib.hid hS2
          have c3 := blk_cell hS2.rd 3 (.int .u64 (c : Nat)) rfl
          have f3 := blk_free hS2.rd 3
          have hone := fun W => one_w m n hm W
          have hor := or_u64 c (on m n) hc64 (on_lt hm)
          have hc2 : c ||| on m n < 2 ^ 64 := Nat.or_lt_two_pow hc64 (on_lt hm)
          have hbs := blk_set hS2.rd 3 (.int .u64 ((c ||| on m n : Nat) : Int))
          have HBS := Lib.hid hbs
          generalize hcc : c ||| on m n = c2 at hor hc2 hbs HBS
          have HONE := Lib.hid hone
          have HC2 := Lib.hid hc2
          have HCC := Lib.hid hcc
          clear hrd hch hS2 hone hc2 hcc hbs HEW HSr hc64
          go_wp2_with fail
          refine Code.wp_mono (Q := Exit.then ?KK (fun _ _ _ => False)) ?hq ?hh
          case hq =>
            intro e a w h
            cases e
            · exact h
            all_goals exact h.elim
          go_region_with (first | (go_at_call 33; refine (HONE.out _).mono ?_; rintro e w5 ⟨rfl, rfl⟩))
          all_goals
            have hS3 : RS (m : Int) s w (k + j) c2 (W2.setCell ⟨w.heap.size + 1 + 1 + 1, 3, none⟩ (.int .u64 (c2 : Nat))).drew := HS2.out.chg (((Chg.refl (fun i => i = w.heap.size + 1 + 1 + 1) W2).set ⟨w.heap.size + 1 + 1 + 1, 3, none⟩ _ (.inl rfl)).drewN 1) HBS.out
            generalize (W2.setCell ⟨w.heap.size + 1 + 1 + 1, 3, none⟩ (.int .u64 (c2 : Nat))).drew = W3 at hS3 ⊢
            clear HBS c3 f3 HS2 HONE hor
            rcases Nat.lt_or_ge m n with hnm | hnm
            rotate_left
            · have d1 : decide ((m : Int) < (n : Int)) = false := decide_eq_false (by omega)
              go_wp2_with fail
              cases hdk : s.data.toList[k + j]? with
              | none =>
                have hg := HG2.out
                rw [hdk] at hg
                subst hg
                refine (sign_end _ (m : Int) s (k + j) c2 ⟨#[44, 125]⟩ W3 hS3.rd ?_).mono ?_
                · rw [List.getElem?_eq_none_iff, hlen] at hdk; omega
                rintro e W4 ⟨rfl, hrd4, hch4⟩
                exact read_fault (hS3.chg hch4 hrd4) _ rfl rfl rfl _ rfl
              | some b =>
                by_cases hb1 : b = 125
                · subst hb1
                  refine (sign_yes _ (m : Int) s (k + j) c2 ⟨#[44, 125]⟩ W3 hS3.rd hs 125 hdk (by rw [show (ByteArray.mk #[44, 125]).data.toList = [44, 125] from rfl, ix_two]; simp)).mono ?_
                  rintro e W4 ⟨rfl, hrd4, hch4⟩
                  have hS4 := hS3.chg hch4 hrd4
                  have q2 := blk_cell hS4.rd 2 (.int .i64 ((k + j + 1 : Nat) : Int)) rfl
                  have q3 := blk_cell hS4.rd 3 (.int .u64 (c2 : Nat)) rfl
                  have hg := HG2.out
                  rw [hdk] at hg
                  simp only [if_pos] at hg
                  rw [hlen, HCC.out] at hg
                  have e5 : (((125 : UInt8).toNat : Int) == 125) = true := rfl
                  obtain ⟨⟨y0, y1⟩, ⟨y2, y3⟩, y4, y5⟩ := free3 hS4.r0 hS4.r1 hS4.r2 (.int .u64 (c2 : Nat)) (.int .i64 0)
                  obtain ⟨z0, z1, z2⟩ := set3 hS4.r0 hS4.r1 hS4.r2 (.int .u64 (c2 : Nat)) (.int .i64 0) (.int .i64 0)
                  have hB4 := below3 hS4.below (.int .u64 (c2 : Nat)) (.int .i64 0) (.int .i64 0)
                  have HS4 := Lib.hid hS4
                  have HZ := Lib.hid (And.intro z0 (And.intro z1 z2))
                  have HB4 := Lib.hid hB4
                  clear hS4 hS3 hrd4 hch4 z0 z1 z2 hB4 HG2 hdk
                  by_cases hlt : k + j + 1 < s.size
                  · rw [if_pos hlt] at hg
                    subst hg
                    have d5 : decide (((k + j + 1 : Nat) : Int) < (s.size : Int)) = true := decide_eq_true (by omega)
                    go_wp2_with fail
                    exact read_fault HS4.out _ rfl rfl rfl _ rfl
                  · rw [if_neg hlt] at hg
                    subst hg
                    have d5 : decide (((k + j + 1 : Nat) : Int) < (s.size : Int)) = false := decide_eq_false (by omega)
                    go_wp2_with fail
                    exact read_ok HZ.out.1 HZ.out.2.1 HZ.out.2.2 HB4.out rfl rfl rfl _ rfl
                · by_cases hb2 : b = 44
                  · subst hb2
                    refine (sign_yes _ (m : Int) s (k + j) c2 ⟨#[44, 125]⟩ W3 hS3.rd hs 44 hdk (by rw [show (ByteArray.mk #[44, 125]).data.toList = [44, 125] from rfl, ix_two]; simp)).mono ?_
                    rintro e W4 ⟨rfl, hrd4, hch4⟩
                    have hS4 := hS3.chg hch4 hrd4
                    have hg := HG2.out
                    rw [hdk] at hg
                    simp only at hg
                    rw [if_neg hb1, if_pos ⟨trivial, by omega⟩, HCC.out] at hg
                    have e5 : (((44 : UInt8).toNat : Int) == 125) = false := rfl
                    have hat4 := atOf_rd hS4.rd
                    have hkl : k + j < s.size := by
                      have := (List.getElem?_eq_some_iff.1 hdk).1
                      rw [hlen] at this; exact this
                    have HS4 := Lib.hid hS4
                    have HG4 := Lib.hid hg
                    have HA4 := Lib.hid hat4
                    clear hS4 hS3 hrd4 hch4 hg HG2 hdk hat4
                    go_wp2_with fail
                    go_roundw
                    case rel => exact ⟨n + 1, k + j + 1, c2, f, by simp, by omega, by omega, by omega, HC2.out, HG4.out, HS4.out⟩
                    case measure =>
                      have h1 := HAT.out
                      have h2 := HA4.out
                      rw [h1, h2]
                      omega
                  · refine (sign_no _ (m : Int) s (k + j) c2 ⟨#[44, 125]⟩ W3 hS3.rd b hdk (by rw [show (ByteArray.mk #[44, 125]).data.toList = [44, 125] from rfl, ix_two]; exact ⟨hb2, hb1⟩)).mono ?_
                    rintro e W4 ⟨rfl, hrd4, hch4⟩
                    have hg := HG2.out
                    rw [hdk] at hg
                    simp only at hg
                    rw [if_neg hb1, if_neg (fun h => hb2 h.1)] at hg
                    subst hg
                    exact read_fault (hS3.chg hch4 hrd4) _ rfl rfl rfl _ rfl
            · have d1 : decide ((m : Int) < (n : Int)) = true := decide_eq_true (by omega)
              go_wp2_with fail
              cases hdk : s.data.toList[k + j]? with
              | none =>
                have hg := HG2.out
                rw [hdk] at hg
                subst hg
                refine (sign_end _ (m : Int) s (k + j) c2 ⟨#[125]⟩ W3 hS3.rd ?_).mono ?_
                · rw [List.getElem?_eq_none_iff, hlen] at hdk; omega
                rintro e W4 ⟨rfl, hrd4, hch4⟩
                exact read_fault (hS3.chg hch4 hrd4) _ rfl rfl rfl _ rfl
              | some b =>
                by_cases hb1 : b = 125
                · subst hb1
                  refine (sign_yes _ (m : Int) s (k + j) c2 ⟨#[125]⟩ W3 hS3.rd hs 125 hdk (by rw [show (ByteArray.mk #[125]).data.toList = [125] from rfl, ix_close]; simp)).mono ?_
                  rintro e W4 ⟨rfl, hrd4, hch4⟩
                  have hS4 := hS3.chg hch4 hrd4
                  have q2 := blk_cell hS4.rd 2 (.int .i64 ((k + j + 1 : Nat) : Int)) rfl
                  have q3 := blk_cell hS4.rd 3 (.int .u64 (c2 : Nat)) rfl
                  have hg := HG2.out
                  rw [hdk] at hg
                  simp only [if_pos] at hg
                  rw [hlen, HCC.out] at hg
                  have e5 : (((125 : UInt8).toNat : Int) == 125) = true := rfl
                  obtain ⟨⟨y0, y1⟩, ⟨y2, y3⟩, y4, y5⟩ := free3 hS4.r0 hS4.r1 hS4.r2 (.int .u64 (c2 : Nat)) (.int .i64 0)
                  obtain ⟨z0, z1, z2⟩ := set3 hS4.r0 hS4.r1 hS4.r2 (.int .u64 (c2 : Nat)) (.int .i64 0) (.int .i64 0)
                  have hB4 := below3 hS4.below (.int .u64 (c2 : Nat)) (.int .i64 0) (.int .i64 0)
                  have HS4 := Lib.hid hS4
                  have HZ := Lib.hid (And.intro z0 (And.intro z1 z2))
                  have HB4 := Lib.hid hB4
                  clear hS4 hS3 hrd4 hch4 z0 z1 z2 hB4 HG2 hdk
                  by_cases hlt : k + j + 1 < s.size
                  · rw [if_pos hlt] at hg
                    subst hg
                    have d5 : decide (((k + j + 1 : Nat) : Int) < (s.size : Int)) = true := decide_eq_true (by omega)
                    go_wp2_with fail
                    exact read_fault HS4.out _ rfl rfl rfl _ rfl
                  · rw [if_neg hlt] at hg
                    subst hg
                    have d5 : decide (((k + j + 1 : Nat) : Int) < (s.size : Int)) = false := decide_eq_false (by omega)
                    go_wp2_with fail
                    exact read_ok HZ.out.1 HZ.out.2.1 HZ.out.2.2 HB4.out rfl rfl rfl _ rfl
                · refine (sign_no _ (m : Int) s (k + j) c2 ⟨#[125]⟩ W3 hS3.rd b hdk (by rw [show (ByteArray.mk #[125]).data.toList = [125] from rfl, ix_close]; exact hb1)).mono ?_
                  rintro e W4 ⟨rfl, hrd4, hch4⟩
                  have hg := HG2.out
                  rw [hdk] at hg
                  simp only at hg
                  rw [if_neg hb1, if_neg (fun h => by have := h.2; omega)] at hg
                  subst hg
                  exact read_fault (hS3.chg hch4 hrd4) _ rfl rfl rfl _ rfl
    · rw [if_neg h0] at hcf
      subst hcf
      cases hd0 : s.data.toList[0]? with
      | none =>
        refine (sign_end _ (m : Int) s 0 0 ⟨#[123]⟩ W0 hS0.rd ?_).mono ?_
        · rw [List.getElem?_eq_none_iff, hlen] at hd0; omega
        rintro e W1 ⟨rfl, hrd1, hch1⟩
        exact read_fault (hS0.chg hch1 hrd1) 0 rfl rfl rfl _ rfl
      | some b =>
        refine (sign_no _ (m : Int) s 0 0 ⟨#[123]⟩ W0 hS0.rd b hd0 ?_).mono ?_
        · rw [show (ByteArray.mk #[123]).data.toList = [123] from rfl, ix_open]
          intro hb9
          rw [hb9] at hd0
          exact h0 hd0
        rintro e W1 ⟨rfl, hrd1, hch1⟩
        exact read_fault (hS0.chg hch1 hrd1) 0 rfl rfl rfl _ rfl
end Go.Proofs.YtgekpnbgmbbbdaaDoor
