/- The walk of element, a method of the reader of texts. -/
import Derived.Test.YtgekpnbgmbbbdaaDoorCr1
import Derived.Test.YtgekpnbgmbbbdaaDoorCt1
namespace Go.Proofs.YtgekpnbgmbbbdaaDoor
open Go Go.RowKit Go.Proofs.YtgekpnbgmbbbdaaDoorW.PrintWords Go.Proofs.YtgekpnbgmbbbdaaDoorW.PrintLast Go.Proofs.YtgekpnbgmbbbdaaDoorW.PrintMore
/-- Which of the d words from lo on is m (-1: none). -/
def wholeD (t lo : Nat) (m : List UInt8) : Nat → Int
  | 0 => -1
  | d + 1 => if wordL t (lo + d) = m then ((lo + d : Nat) : Int) else wholeD t lo m d
/-- Does one of the d words from lo on begin with q? -/
def moreD (t lo : Nat) (q : List UInt8) : Nat → Bool
  | 0 => false
  | d + 1 => moreD t lo q d || Lib.hasPrefix (wordL t (lo + d)) q
/-- An element's text at the head of d, behind j bytes of it. -/
def elemG (t lo : Nat) (d : List UInt8) : Nat → Nat → Nat × Int
  | 0, j => (j, wholeD t lo (d.take j) (t + 2 - lo))
  | f + 1, j => if moreD t lo (d.take (j + 1)) (t + 2 - lo) then elemG t lo d f (j + 1) else (j, wholeD t lo (d.take j) (t + 2 - lo))
def elemF (t lo : Nat) (d : List UInt8) : Nat × Int := elemG t lo d d.length 0
/-- Where a reader stands. -/
def atOf (W : World) (g : Nat) : Nat := match W.cell? ⟨g, 2, none⟩ with | some (.int _ n) => n.toNat | _ => 0
theorem atOf_rd {W : World} {g : Nat} {t : Int} {s : ByteArray} {k c : Nat} (h : Rd W g t s k c) : atOf W g = k := by
  unfold atOf
  rw [blk_cell h 2 (.int .i64 (k : Nat)) rfl]
  simp
theorem ext_list (s : ByteArray) (a j : Nat) : (s.extract a (a + j)).data.toList = (s.data.toList.drop a).take j := by
  simp [Nat.add_sub_cancel_left]
theorem eqb_word (t i : Nat) (s : ByteArray) (a j : Nat) : ((wordB t i).toList == (s.extract a (a + j)).toList) = decide (wordL t i = (s.data.toList.drop a).take j) := by
  rw [ByteArray.toList_eq, ByteArray.toList_eq, ext_list]
  show (wordL t i == _) = _
  cases h : (wordL t i == (s.data.toList.drop a).take j) <;> simp_all
theorem pre_w (t i : Nat) (s : ByteArray) (a j : Nat) (W : World) : Calls Tryd.prog 56 #[.string (wordB t i), .string (s.extract a (a + j))] W fun e w' => e = .returned (.bool (Lib.hasPrefix (wordL t i) ((s.data.toList.drop a).take j))) ∧ w' = W := by
  have h := Tryd.strings_HasPrefix (wordB t i) (s.extract a (a + j)) W
  rw [ext_list] at h
  exact h
set_option maxRecDepth 100000 in
set_option maxHeartbeats 1000000 in
theorem element_w (g t lo : Nat) (s : ByteArray) (k0 c : Nat) (W : World) (ht : t ≤ 62) (hlo : lo ≤ t + 2) (hb : Rd W g t s k0 c) (hs : s.size ≤ 140737488351232) (hk : k0 ≤ s.size) (r : Nat × Int) (hr : r = elemF t lo (s.data.toList.drop k0)) :
    Calls Tryd.prog 48 #[.pointer (some ⟨g, 0, none⟩), .int .i64 ((lo : Int) - 1)] W fun e w' => e = (if r.2 < 0 then faultE (k0 + r.1) else .returned (.int .i64 r.2)) ∧ Rd w' g t s (k0 + r.1) c ∧ Chg (fun i => i = g) W w' := by
  have a2 := blk_cell hb 2 (.int .i64 (k0 : Nat)) rfl
  have HB := Lib.hid hb
  have ht2 : (t : Int) ≤ 62 := by omega
  have hlo2 : (lo : Int) ≤ (t : Int) + 2 := by omega
  clear hb
  go_enter Tryd.func48, Tryd.ntmps48
  go_wp2_with fail
  go_loopw [6] (fun _ wr => ∃ j : Nat, k0 + j ≤ s.size ∧ elemG t lo (s.data.toList.drop k0) (s.size - k0 - j) j = r ∧ Rd wr g t s (k0 + j) c ∧ Chg (fun i => i = g) W wr) (fun _ wr => s.size - atOf wr g)
  case atStart => exact ⟨0, hk, by rw [hr, elemF, List.length_drop, Array.length_toList]; rfl, HB.out, Chg.refl _ _⟩
  case round =>
    obtain ⟨j, hj, hel, hbr, hch⟩ := hrel
    have HEL := Lib.hid hel
    have HCH := Lib.hid hch
    have HBR := Lib.hid hbr
    have a0 := blk_cell hbr 0 (.int .i64 t) rfl
    have a1 := blk_cell hbr 1 (.string s) rfl
    have a2 := blk_cell hbr 2 (.int .i64 ((k0 + j : Nat) : Int)) rfl
    clear hel hch hbr
    go_wp2_with fail
    by_cases hend : k0 + j < s.size
    · have he : decide ((k0 : Int) + (j : Int) < (s.size : Int)) = true := decide_eq_true (by omega)
      have he2 : decide (k0 + j < s.size) = true := decide_eq_true hend
      have he3 : (k0 : Int) + (j : Int) < (s.size : Int) := by omega
      go_loopw [6, 7, 8] (fun vw vm v wq => ∃ d : Nat, v = .int .i64 ((lo + d : Nat) : Int) ∧ lo + d ≤ t + 2 ∧ vw = .int .i64 (wholeD t lo ((s.data.toList.drop k0).take j) d) ∧ vm = .bool (moreD t lo ((s.data.toList.drop k0).take (j + 1)) d) ∧ ∃ n, wq = wr.drewN n) (fun _ _ v _ => t + 2 - (intOf v).toNat)
      case atStart => exact ⟨0, by simp, hlo, rfl, rfl, 0, rfl⟩
      case round =>
        obtain ⟨d, rfl, hd, rfl, rfl, n, rfl⟩ := hrel
        by_cases hdl : lo + d < t + 2
        · have hd1 : decide (((lo + d : Nat) : Int) ≤ (t : Int) + 1) = true := decide_eq_true (by omega)
          have hw := fun W => word_w t (lo + d) ht (by omega) W
          have HW := Lib.hid hw
          clear hw
          go_wp2_with fail
          refine (HW.out _).mono ?_
          rintro e w2 ⟨rfl, rfl⟩
          have heq := eqb_word t (lo + d) s k0 j
          have hwd : wholeD t lo ((s.data.toList.drop k0).take j) (d + 1) = if wordL t (lo + d) = (s.data.toList.drop k0).take j then ((lo + d : Nat) : Int) else wholeD t lo ((s.data.toList.drop k0).take j) d := rfl
          have HWD := Lib.hid hwd
          have hpre : ∀ W, Calls Tryd.prog 56 #[.string (wordB t (lo + d)), .string (s.extract k0 (k0 + j + 1))] W fun e w' => e = .returned (.bool (Lib.hasPrefix (wordL t (lo + d)) ((s.data.toList.drop k0).take (j + 1)))) ∧ w' = W := fun W => pre_w t (lo + d) s k0 (j + 1) W
          have hmd : moreD t lo ((s.data.toList.drop k0).take (j + 1)) (d + 1) = (moreD t lo ((s.data.toList.drop k0).take (j + 1)) d || Lib.hasPrefix (wordL t (lo + d)) ((s.data.toList.drop k0).take (j + 1))) := rfl
          have HMD := Lib.hid hmd
          have HPRE := Lib.hid hpre
          clear hmd hpre
          have hb1 : (k0 : Int) + (j : Int) + 1 ≤ (s.size : Int) := by omega
          have hb2 : (k0 : Int) ≤ (k0 : Int) + (j : Int) + 1 := by omega
          clear hwd HW
          by_cases hqq : wordL t (lo + d) = (s.data.toList.drop k0).take j
          · rw [decide_eq_true hqq] at heq
            cases hpf : Lib.hasPrefix (wordL t (lo + d)) ((s.data.toList.drop k0).take (j + 1))
            · have HPF := Lib.hid hpf
              have hpp := fun W => HPRE.out W
              rw [hpf] at hpp
              have HPP := Lib.hid hpp
              clear hpf hpp HPRE
              go_wp2_with fail
              go_quiet (fail)
              go_wp2_with fail
              go_quiet (first | (go_at_call 56; refine (HPP.out _).mono ?_; rintro e w' ⟨rfl, rfl⟩; exact ⟨rfl, _, rfl⟩))
              go_wp2_with fail
              go_roundw
              case rel => exact ⟨d + 1, by simp; omega, by omega, by rw [HWD.out, if_pos hqq]; simp, by rw [HMD.out, HPF.out, Bool.or_false], _, rfl⟩
              case measure => simp [intOf]; omega
            · have HPF := Lib.hid hpf
              have hpp := fun W => HPRE.out W
              rw [hpf] at hpp
              have HPP := Lib.hid hpp
              clear hpf hpp HPRE
              go_wp2_with fail
              go_quiet (fail)
              go_wp2_with fail
              go_quiet (first | (go_at_call 56; refine (HPP.out _).mono ?_; rintro e w' ⟨rfl, rfl⟩; exact ⟨rfl, _, rfl⟩))
              go_wp2_with fail
              go_roundw
              case rel => exact ⟨d + 1, by simp; omega, by omega, by rw [HWD.out, if_pos hqq]; simp, by rw [HMD.out, HPF.out, Bool.or_true], _, rfl⟩
              case measure => simp [intOf]; omega
          · rw [decide_eq_false hqq] at heq
            cases hpf : Lib.hasPrefix (wordL t (lo + d)) ((s.data.toList.drop k0).take (j + 1))
            · have HPF := Lib.hid hpf
              have hpp := fun W => HPRE.out W
              rw [hpf] at hpp
              have HPP := Lib.hid hpp
              clear hpf hpp HPRE
              go_wp2_with fail
              go_quiet (fail)
              go_wp2_with fail
              go_quiet (first | (go_at_call 56; refine (HPP.out _).mono ?_; rintro e w' ⟨rfl, rfl⟩; exact ⟨rfl, _, rfl⟩))
              go_wp2_with fail
              go_roundw
              case rel => exact ⟨d + 1, by simp; omega, by omega, by rw [HWD.out, if_neg hqq], by rw [HMD.out, HPF.out, Bool.or_false], _, rfl⟩
              case measure => simp [intOf]; omega
            · have HPF := Lib.hid hpf
              have hpp := fun W => HPRE.out W
              rw [hpf] at hpp
              have HPP := Lib.hid hpp
              clear hpf hpp HPRE
              go_wp2_with fail
              go_quiet (fail)
              go_wp2_with fail
              go_quiet (first | (go_at_call 56; refine (HPP.out _).mono ?_; rintro e w' ⟨rfl, rfl⟩; exact ⟨rfl, _, rfl⟩))
              go_wp2_with fail
              go_roundw
              case rel => exact ⟨d + 1, by simp; omega, by omega, by rw [HWD.out, if_neg hqq], by rw [HMD.out, HPF.out, Bool.or_true], _, rfl⟩
              case measure => simp [intOf]; omega
        · have hd9 : d = t + 2 - lo := by omega
          have hd1 : decide (((lo + d : Nat) : Int) ≤ (t : Int) + 1) = false := decide_eq_false (by omega)
          have hel := HEL.out
          obtain ⟨f, hf⟩ : ∃ f, s.size - k0 - j = f + 1 := ⟨s.size - k0 - j - 1, by omega⟩
          rw [hf, elemG, ← hd9] at hel
          have HF := Lib.hid hf
          cases hmo : moreD t lo ((s.data.toList.drop k0).take (j + 1)) d with
          | true =>
            rw [hmo, if_pos rfl] at hel
            have HEL2 := Lib.hid hel
            have hbr2 : Rd (wr.setCell ⟨g, 2, none⟩ (.int .i64 ((k0 : Int) + (j : Int) + 1))) g t s (k0 + (j + 1)) c := by
              unfold Rd
              rw [show ((k0 + (j + 1) : Nat) : Int) = (k0 : Int) + (j : Int) + 1 by omega]
              exact blk_set HBR.out 2 (.int .i64 ((k0 : Int) + (j : Int) + 1))
            have HBR2 := Lib.hid hbr2
            have f2 := blk_free HBR.out 2
            have hat1 := atOf_rd HBR.out
            have hat2 := atOf_rd hbr2
            have HAT1 := Lib.hid hat1
            have HAT2 := Lib.hid hat2
            clear hel hf hbr2 hd9 hmo hat1 hat2
            go_wp2_with fail
            go_roundw
            case rel => exact ⟨j + 1, by omega, by have := HF.out; rw [show s.size - k0 - (j + 1) = f by omega]; exact HEL2.out, HBR2.out, (HCH.out.drewN n).set ⟨g, 2, none⟩ _ (.inl rfl)⟩
            case measure =>
              have h1 := HAT1.out
              have h2 : atOf ((wr.drewN n).setCell ⟨g, 2, none⟩ (.int .i64 ((k0 : Int) + (j : Int) + 1))) g = k0 + (j + 1) := HAT2.out
              rw [h1, h2]
              omega
          | false =>
            rw [hmo, if_neg (by simp)] at hel
            clear hf hmo HF
            obtain ⟨z, hwh⟩ : ∃ z, z = wholeD t lo ((s.data.toList.drop k0).take j) d := ⟨_, rfl⟩
            rw [← hwh] at hel ⊢
            subst hel
            clear hd9 hwh
            by_cases hz : z < 0
            · go_wp2_with fail
              all_goals first
                | (exfalso; omega)
                | exact ⟨rfl, by first | rfl | (rw [if_pos (by show z < 0; omega)]; rfl), HBR.out, HCH.out.drewN n⟩
            · go_wp2_with fail
              all_goals first
                | (exfalso; omega)
                | (go_ret; exact ⟨by first | rfl | (rw [if_neg (by show ¬ z < 0; omega)]; rfl), HBR.out, HCH.out.drewN n⟩)
    · have he : decide ((k0 : Int) + (j : Int) < (s.size : Int)) = false := decide_eq_false (by omega)
      have he2 : decide (k0 + j < s.size) = false := decide_eq_false hend
      have he3 : ¬ (k0 : Int) + (j : Int) < (s.size : Int) := by omega
      go_loopw [6, 7, 8] (fun vw vm v wq => ∃ d : Nat, v = .int .i64 ((lo + d : Nat) : Int) ∧ lo + d ≤ t + 2 ∧ vw = .int .i64 (wholeD t lo ((s.data.toList.drop k0).take j) d) ∧ vm = .bool (false) ∧ ∃ n, wq = wr.drewN n) (fun _ _ v _ => t + 2 - (intOf v).toNat)
      case atStart => exact ⟨0, by simp, hlo, rfl, rfl, 0, rfl⟩
      case round =>
        obtain ⟨d, rfl, hd, rfl, rfl, n, rfl⟩ := hrel
        by_cases hdl : lo + d < t + 2
        · have hd1 : decide (((lo + d : Nat) : Int) ≤ (t : Int) + 1) = true := decide_eq_true (by omega)
          have hw := fun W => word_w t (lo + d) ht (by omega) W
          have HW := Lib.hid hw
          clear hw
          go_wp2_with fail
          refine (HW.out _).mono ?_
          rintro e w2 ⟨rfl, rfl⟩
          have heq := eqb_word t (lo + d) s k0 j
          have hwd : wholeD t lo ((s.data.toList.drop k0).take j) (d + 1) = if wordL t (lo + d) = (s.data.toList.drop k0).take j then ((lo + d : Nat) : Int) else wholeD t lo ((s.data.toList.drop k0).take j) d := rfl
          have HWD := Lib.hid hwd
          clear hwd HW
          by_cases hqq : wordL t (lo + d) = (s.data.toList.drop k0).take j
          · rw [decide_eq_true hqq] at heq
            go_wp2_with fail
            go_quiet (fail)
            go_wp2_with fail
            go_quiet (fail)
            go_wp2_with fail
            go_roundw
            case rel => exact ⟨d + 1, by simp; omega, by omega, by rw [HWD.out, if_pos hqq]; simp, rfl, _, rfl⟩
            case measure => simp [intOf]; omega
          · rw [decide_eq_false hqq] at heq
            go_wp2_with fail
            go_quiet (fail)
            go_wp2_with fail
            go_quiet (fail)
            go_wp2_with fail
            go_roundw
            case rel => exact ⟨d + 1, by simp; omega, by omega, by rw [HWD.out, if_neg hqq], rfl, _, rfl⟩
            case measure => simp [intOf]; omega
        · have hd9 : d = t + 2 - lo := by omega
          have hd1 : decide (((lo + d : Nat) : Int) ≤ (t : Int) + 1) = false := decide_eq_false (by omega)
          have hel := HEL.out
          rw [show s.size - k0 - j = 0 by omega, elemG, ← hd9] at hel
          obtain ⟨z, hwh⟩ : ∃ z, z = wholeD t lo ((s.data.toList.drop k0).take j) d := ⟨_, rfl⟩
          rw [← hwh] at hel ⊢
          subst hel
          clear hd9 hwh
          by_cases hz : z < 0
          · go_wp2_with fail
            all_goals first
              | (exfalso; omega)
              | exact ⟨rfl, by first | rfl | (rw [if_pos (by show z < 0; omega)]; rfl), HBR.out, HCH.out.drewN n⟩
          · go_wp2_with fail
            all_goals first
              | (exfalso; omega)
              | (go_ret; exact ⟨by first | rfl | (rw [if_neg (by show ¬ z < 0; omega)]; rfl), HBR.out, HCH.out.drewN n⟩)
end Go.Proofs.YtgekpnbgmbbbdaaDoor
