/- The walks of the document's Begins and Read. -/
import Derived.Test.YtgekpnbgmbbbdaaDoorCx2
namespace Go.Proofs.YtgekpnbgmbbbdaaDoor
open Go Go.RowKit Go.Proofs.YtgekpnbgmbbbdaaDoorW.PrintWords Go.Proofs.YtgekpnbgmbbbdaaDoorW.PrintLast Go.Proofs.YtgekpnbgmbbbdaaDoorW.PrintMore
/-- Is there a text that begins with D? -/
def BegT (t f : Nat) (D : List UInt8) : Bool := if D = [] then true else if D.head? = some 123 then begF t (f + 1) D.tail 0 else false
set_option maxRecDepth 100000 in
set_option maxHeartbeats 1000000 in
theorem Begins_w (m : Nat) (hm : m ≤ 62) (f : Nat) (s : ByteArray) (w : World) (hf : s.size ≤ f) (hs : s.size ≤ 140737488351232) :
    Calls Tryd.prog 49 #[.int .i64 m, .string s] w fun e w' => e = .returned (.bool (BegT m f s.data.toList)) ∧ w' = w := by
  by_cases hd : s.data.toList = []
  · have hE : (s.toList == []) = true := by rw [ByteArray.toList_eq, hd]; rfl
    have hr : BegT m f s.data.toList = true := by unfold BegT; rw [if_pos hd]
    rw [hr]
    clear hd hr hf hs
    go_enter Tryd.func49, Tryd.ntmps49
    go_wp2_with fail
    go_ret
    exact ⟨rfl, rfl⟩
  have hE : (s.toList == []) = false := by rw [ByteArray.toList_eq, beq_list]; simpa using hd
  have hsz : 0 < s.size := by
    have : 0 < s.data.toList.length := List.length_pos_iff.2 hd
    exact this
  obtain ⟨b, D, hbD⟩ := List.exists_cons_of_ne_nil hd
  obtain ⟨hk, hkb⟩ := byte_at (s := s) (k := 0) (b := b) (by rw [hbD]; rfl)
  by_cases hb : b = 123
  · have hb1 : (((b.toNat : Nat) : Int) == 123) = true := by rw [hb]; rfl
    have hD1 : (s.extract 1 s.size).data.toList = D := by rw [extn_list, hbD]; rfl
    have hsz1 : (s.extract 1 s.size).size = s.size - 1 := by simp
    have hone : (1 : Int) ≤ (s.size : Int) := by omega
    have hr : BegT m f s.data.toList = begF m (f + 1) D 0 := by unfold BegT; rw [if_neg hd, hbD, if_pos (by rw [hb]; rfl)]; rfl
    rw [hr]
    have hc := fun W => begins_w m hm f (s.extract 1 s.size) 0 (-1) W (by omega) (by omega) (by omega) rfl
    rw [hD1] at hc
    have HC := Lib.hid hc
    clear hr hc hD1 hd hbD hsz1 hf hs hb
    go_enter Tryd.func49, Tryd.ntmps49
    go_wp2_with fail
    refine (HC.out _).mono ?_
    rintro e w2 ⟨rfl, rfl⟩
    go_wp2_with fail
    go_ret
    exact ⟨rfl, rfl⟩
  · have hb1 : (((b.toNat : Nat) : Int) == 123) = false := by
      simp only [beq_eq_false_iff_ne, ne_eq]
      intro h
      apply hb
      exact UInt8.toNat_inj.1 (by show b.toNat = 123; omega)
    have hr : BegT m f s.data.toList = false := by unfold BegT; rw [if_neg hd, hbD, if_neg (by simpa using hb)]
    rw [hr]
    clear hr hd hbD hf hs hb
    go_enter Tryd.func49, Tryd.ntmps49
    go_wp2_with fail
    go_ret
    exact ⟨rfl, rfl⟩
/-- How many bytes are the beginning of a text. -/
def viaG (t f : Nat) (D : List UInt8) : Nat → Nat → Nat
  | 0, k => k
  | g + 1, k => if BegT t f (D.take (k + 1)) then viaG t f D g (k + 1) else k
theorem viaG_le (t f : Nat) (D : List UInt8) : ∀ g k, viaG t f D g k ≤ k + g
  | 0, k => by simp [viaG]
  | g + 1, k => by
    rw [viaG]
    split
    · have := viaG_le t f D g (k + 1); omega
    · omega
/-- The elements whose text is q, put to c. -/
def pickG (t : Nat) (q : List UInt8) (c : Nat) : Nat → Nat
  | 0 => c
  | k + 1 => if wordL t k = q then pickG t q c k ||| 2 ^ k else pickG t q c k
theorem pickG_lt {t : Nat} {q : List UInt8} {c : Nat} (hc : c < 2 ^ 64) : ∀ k, k ≤ 64 → pickG t q c k < 2 ^ 64
  | 0, _ => hc
  | k + 1, h => by
    rw [pickG]
    split
    · exact Nat.or_lt_two_pow (pickG_lt hc k (by omega)) (Nat.pow_lt_pow_right (by decide) (by omega))
    · exact pickG_lt hc k (by omega)
/-- The set of a text. -/
def parseG (t : Nat) (D : List UInt8) : Nat → Nat → Nat → Nat → Nat
  | 0, _, _, c => c
  | g + 1, i, fr, c => if D[i]? = some 44 ∨ D[i]? = some 125 then parseG t D g (i + 1) (i + 1) (pickG t ((D.drop fr).take (i - fr)) c (t + 2)) else parseG t D g (i + 1) fr c
def rreadF (t : Int) (D : List UInt8) : Nat × Int × Int :=
  if bnd t then (if viaG t.toNat D.length D D.length 0 < D.length ∨ viaG t.toNat D.length D D.length 0 = 0 ∨ D[viaG t.toNat D.length D D.length 0 - 1]? ≠ some 125 then (0, ((viaG t.toNat D.length D D.length 0 : Nat) : Int), 21) else (parseG t.toNat D (D.length - 1) 1 1 0, 0, 0)) else (0, 0, 1)
set_option maxRecDepth 100000 in
set_option maxHeartbeats 2000000 in
theorem rread_w (t : Int) (s : ByteArray) (w : World) (hs : s.size ≤ 140737488351232) (r : Nat × Int × Int) (hr : r = rreadF t s.data.toList) :
    Calls Tryd.prog 31 #[.int .i64 t, .string s] w fun e w' => e = .returned (.tuple #[.int .u64 (r.1 : Nat), .int .i64 r.2.1, .int .i64 r.2.2]) ∧ ∃ n, w' = w.drewN n := by
  cases hb : bnd t with
  | false =>
    have hcf : r = (0, 0, 1) := by rw [hr]; unfold rreadF; rw [hb]; rfl
    subst hcf
    clear hr hs
    go_enter Tryd.func31, Tryd.ntmps31
    go_wp2_with fail
    refine (rbound_w t _).mono ?_
    rintro e w1 ⟨rfl, rfl⟩
    rw [hb]
    go_wp2_with fail
    go_ret3
    exact ⟨rfl, 0, rfl⟩
  | true =>
    obtain ⟨m, rfl, hm⟩ := bnd_nat hb
    have hlen : s.data.toList.length = s.size := rfl
    have hcf : r = if viaG m s.size s.data.toList s.size 0 < s.size ∨ viaG m s.size s.data.toList s.size 0 = 0 ∨ s.data.toList[viaG m s.size s.data.toList s.size 0 - 1]? ≠ some 125 then (0, ((viaG m s.size s.data.toList s.size 0 : Nat) : Int), 21) else (parseG m s.data.toList (s.size - 1) 1 1 0, 0, 0) := by rw [hr]; unfold rreadF; rw [hb, if_pos rfl]; rfl
    have HCF := Lib.hid hcf
    have hm2 : (m : Int) ≤ 62 := by omega
    clear hr hcf
    go_enter Tryd.func31, Tryd.ntmps31
    go_wp2_with fail
    refine (rbound_w (m : Int) _).mono ?_
    rintro e w1 ⟨rfl, rfl⟩
    rw [hb]
    clear hb
    go_wp2_with fail
    go_loopw [7] (fun v wr => ∃ k : Nat, v = .int .i64 (k : Nat) ∧ k ≤ s.size ∧ viaG m s.size s.data.toList (s.size - k) k = viaG m s.size s.data.toList s.size 0 ∧ wr = w1) (fun v _ => s.size - (intOf v).toNat)
    case atStart => exact ⟨0, rfl, Nat.zero_le _, rfl, rfl⟩
    case round =>
      obtain ⟨k, rfl, hk, hv, rfl⟩ := hrel
      have HV := Lib.hid hv
      clear hv
      have hdone : ∀ n, viaG m s.size s.data.toList s.size 0 = n → n = k → True := fun _ _ _ => trivial
      clear hdone
      by_cases hlt : k < s.size
      · have a1 : decide (k < s.size) = true := decide_eq_true hlt
        have a2 : (k : Int) < (s.size : Int) := by omega
        have a3 : (k : Int) + 1 ≤ (s.size : Int) := by omega
        have hxs : (s.extract 0 (k + 1)).size ≤ s.size := by simp; omega
        have hxl : (s.extract 0 (k + 1)).data.toList = s.data.toList.take (k + 1) := by rw [← ByteArray.toList_eq, ext0_list]
        have hc := fun W => Begins_w m hm s.size (s.extract 0 (k + 1)) W hxs (by omega)
        rw [hxl] at hc
        obtain ⟨g, hg⟩ : ∃ g, s.size - k = g + 1 := ⟨s.size - k - 1, by omega⟩
        have hv := HV.out
        rw [hg, viaG] at hv
        have HG := Lib.hid hg
        cases hB : BegT m s.size (s.data.toList.take (k + 1)) with
        | true =>
          rw [hB] at hc
          rw [hB, if_pos rfl] at hv
          have HC := Lib.hid hc
          have HV2 := Lib.hid hv
          clear hc hv hB hxs hxl hg
          go_wp2_with fail
          refine (HC.out _).mono ?_
          rintro e w2 ⟨rfl, rfl⟩
          go_wp2_with fail
          go_roundw
          case rel => exact ⟨k + 1, by simp, by omega, by have := HG.out; rw [show s.size - (k + 1) = g by omega]; exact HV2.out, by first | trivial | rfl⟩
          case measure => simp [intOf]; omega
        | false =>
          rw [hB] at hc
          rw [hB, if_neg (by simp)] at hv
          have hcf := HCF.out
          rw [← hv, if_pos (.inl hlt)] at hcf
          subst hcf
          have HC := Lib.hid hc
          clear hc hv hB hxs hxl hg HV HG
          go_wp2_with fail
          refine (HC.out _).mono ?_
          rintro e w2 ⟨rfl, rfl⟩
          go_wp2_with fail
          go_ret3
          exact ⟨rfl, 0, rfl⟩
      · have hks : k = s.size := by omega
        have hv := HV.out
        rw [hks, Nat.sub_self, viaG] at hv
        have hcf := HCF.out
        rw [← hv] at hcf
        have HCF2 := Lib.hid hcf
        clear hv HV HCF hcf hlt hk
        subst hks
        have a1 : decide (s.size < s.size) = false := decide_eq_false (by omega)
        by_cases h0 : s.size = 0
        · have hcf := HCF2.out
          rw [if_pos (.inr (.inl h0))] at hcf
          subst hcf
          have a2 : (((s.size : Nat) : Int) == 0) = true := by rw [h0]; rfl
          clear h0
          go_wp2_with fail
          go_ret3
          exact ⟨rfl, 0, rfl⟩
        obtain ⟨k, hk⟩ : ∃ k, s.size = k + 1 := ⟨s.size - 1, by omega⟩
        have a2 : (((s.size : Nat) : Int) == 0) = false := beq_eq_false_iff_ne.2 (by omega)
        obtain ⟨b, hb⟩ : ∃ b, s.data.toList[k]? = some b := by
          have : k < s.data.toList.length := by rw [hlen]; omega
          exact ⟨_, List.getElem?_eq_getElem this⟩
        obtain ⟨hkk, hkb⟩ := byte_at hb
        have a3 : ((s.size : Nat) : Int) - 1 = (k : Int) := by omega
        have a4 : (k : Int) < (s.size : Int) := by omega
        have hcf := HCF2.out
        rw [show s.size - 1 = k by omega, hb] at hcf
        by_cases hb1 : b = 125
        · have e1 : (((b.toNat : Nat) : Int) != 125) = false := by rw [hb1]; rfl
          rw [if_neg (by
            rintro (h | h | h)
            · omega
            · omega
            · exact h (by rw [hb1]))] at hcf
          obtain ⟨P, hP⟩ : ∃ P, P = parseG m s.data.toList k 1 1 0 := ⟨_, rfl⟩
          rw [← hP] at hcf
          subst hcf
          have HP := Lib.hid hP
          have HK := Lib.hid hk
          clear hb hb1 HCF2 h0 hk hP
          go_wp2_with fail
          go_loopw [8, 9, 10] (fun vc vf vi wq => ∃ i fr c n : Nat, vi = .int .i64 (i : Nat) ∧ vf = .int .i64 (fr : Nat) ∧ vc = .int .u64 (c : Nat) ∧ fr ≤ i ∧ i ≤ s.size ∧ c < 2 ^ 64 ∧ parseG m s.data.toList (s.size - i) i fr c = P ∧ wq = wr.drewN n) (fun _ _ vi _ => s.size - (intOf vi).toNat)
          case atStart => exact ⟨1, 1, 0, 0, rfl, rfl, rfl, Nat.le_refl _, by have := HK.out; omega, by decide, by rw [HP.out, HK.out]; rfl, rfl⟩
          case round =>
            obtain ⟨i, fr, c, n, rfl, rfl, rfl, hfr, hi, hc64, hpar, rfl⟩ := hrel
            have HC64 := Lib.hid hc64
            have HPAR := Lib.hid hpar
            clear hc64 hpar
            by_cases hlt : i < s.size
            · have d1 : decide ((i : Int) < (s.size : Int)) = true := decide_eq_true (by omega)
              have d2 : (i : Int) < (s.size : Int) := by omega
              obtain ⟨b2, hb2⟩ : ∃ b2, s.data.toList[i]? = some b2 := ⟨_, List.getElem?_eq_getElem (by rw [hlen]; exact hlt)⟩
              obtain ⟨hii, hib⟩ := byte_at hb2
              obtain ⟨g, hg⟩ : ∃ g, s.size - i = g + 1 := ⟨s.size - i - 1, by omega⟩
              have hpar := HPAR.out
              rw [hg, parseG, hb2] at hpar
              have HG := Lib.hid hg
              by_cases hsep : b2 = 44 ∨ b2 = 125
              · rw [if_pos (by rcases hsep with h | h <;> simp [h])] at hpar
                have HPAR2 := Lib.hid hpar
                have hsp : (((b2.toNat : Nat) : Int) == 44) = true ∨ ((((b2.toNat : Nat) : Int) == 44) = false ∧ (((b2.toNat : Nat) : Int) == 125) = true) := by
                  rcases hsep with h | h
                  · left; rw [h]; rfl
                  · right; rw [h]; exact ⟨rfl, rfl⟩
                clear hsep hpar hb2 hg
                rcases hsp with f1 | ⟨f1, f2⟩
                all_goals
                  go_wp2_with fail
                  go_loopw [8, 11] (fun vc vk wz => ∃ k n : Nat, vk = .int .i64 (k : Nat) ∧ k ≤ m + 2 ∧ vc = .int .u64 (pickG m ((s.data.toList.drop fr).take (i - fr)) c k : Nat) ∧ wz = wr.drewN n) (fun _ vk _ => m + 2 - (intOf vk).toNat)
                  case atStart => exact ⟨0, n, rfl, Nat.zero_le _, rfl, rfl⟩
                  case round =>
                    obtain ⟨q, n2, rfl, hq, rfl, rfl⟩ := hrel
                    have hplt := pickG_lt (t := m) (q := (s.data.toList.drop fr).take (i - fr)) HC64.out q (by omega)
                    by_cases hqt : q < m + 2
                    · have d3 : decide ((q : Int) ≤ (m : Int) + 1) = true := decide_eq_true (by omega)
                      have hw := fun W => rword_w m q hm (by omega) W
                      have hone := fun W => rone_w q (by omega) W
                      have hq63 : (q : Int) ≤ 63 := by omega
                      have heq : ((wordB m q).toList == (s.extract fr i).toList) = decide (wordL m q = (s.data.toList.drop fr).take (i - fr)) := by
                        have := eqb_word m q s fr (i - fr)
                        rwa [show fr + (i - fr) = i by omega] at this
                      have hst : pickG m ((s.data.toList.drop fr).take (i - fr)) c (q + 1) = if wordL m q = (s.data.toList.drop fr).take (i - fr) then pickG m ((s.data.toList.drop fr).take (i - fr)) c q ||| 2 ^ q else pickG m ((s.data.toList.drop fr).take (i - fr)) c q := rfl
                      have b1 : (fr : Int) ≤ (i : Int) := by omega
                      have b2' : (i : Int) ≤ (s.size : Int) := by omega
                      have HW := Lib.hid hw
                      by_cases hqe : wordL m q = (s.data.toList.drop fr).take (i - fr)
                      · rw [decide_eq_true hqe] at heq
                        rw [if_pos hqe] at hst
                        have hor := or_u64 _ _ hplt (Nat.pow_lt_pow_right (show 1 < 2 by decide) (show q < 64 by omega))
                        rw [← hst] at hor
                        have HST := Lib.hid hst
                        have HONE := Lib.hid hone
                        generalize pickG m ((s.data.toList.drop fr).take (i - fr)) c q = p at hor ⊢
                        obtain ⟨p2, hp2⟩ : ∃ p2, p2 = pickG m ((s.data.toList.drop fr).take (i - fr)) c (q + 1) := ⟨_, rfl⟩
                        rw [← hp2] at hor
                        have HP2 := Lib.hid hp2
                        generalize (2 ^ q : Nat) = z at hor HONE
                        clear hst hone hw hplt hqe hp2
                        go_wp2_with fail
                        go_quiet (first | (go_at_call 45; refine (HW.out _).mono ?_; rintro e w' ⟨rfl, rfl⟩; exact ⟨rfl, _, rfl⟩))
                        go_wp2_with fail
                        refine (HONE.out _).mono ?_
                        rintro e w9 ⟨rfl, rfl⟩
                        go_wp2_with fail
                        go_roundw
                        case rel => exact ⟨q + 1, _, by simp, by omega, by rw [HP2.out], rfl⟩
                        case measure => simp [intOf]; omega
                      · rw [decide_eq_false hqe] at heq
                        rw [if_neg hqe] at hst
                        have HST := Lib.hid hst
                        clear hst hone hw hplt hqe
                        go_wp2_with fail
                        go_quiet (first | (go_at_call 45; refine (HW.out _).mono ?_; rintro e w' ⟨rfl, rfl⟩; exact ⟨rfl, _, rfl⟩))
                        go_wp2_with fail
                        go_roundw
                        case rel => exact ⟨q + 1, _, by simp, by omega, by rw [HST.out], rfl⟩
                        case measure => simp [intOf]; omega
                    · have d3 : decide ((q : Int) ≤ (m : Int) + 1) = false := decide_eq_false (by omega)
                      have hq9 : q = m + 2 := by omega
                      have hp3 : pickG m ((s.data.toList.drop fr).take (i - fr)) c q = pickG m ((s.data.toList.drop fr).take (i - fr)) c (m + 2) := by rw [hq9]
                      have HP3 := Lib.hid hp3
                      have HPL := Lib.hid hplt
                      clear hq9 hp3 hplt
                      go_wp2_with fail
                      go_roundw
                      case rel => exact ⟨i + 1, i + 1, _, n2, by simp, by simp, rfl, by omega, by omega, HPL.out, by have := HG.out; rw [HP3.out, show s.size - (i + 1) = g by omega]; exact HPAR2.out, rfl⟩
                      case measure => simp [intOf]; omega
              · rw [if_neg (by simpa using hsep)] at hpar
                have HPAR2 := Lib.hid hpar
                have f1 : (((b2.toNat : Nat) : Int) == 44) = false := by
                  simp only [beq_eq_false_iff_ne, ne_eq]
                  intro h
                  exact hsep (.inl (UInt8.toNat_inj.1 (by show b2.toNat = 44; omega)))
                have f2 : (((b2.toNat : Nat) : Int) == 125) = false := by
                  simp only [beq_eq_false_iff_ne, ne_eq]
                  intro h
                  exact hsep (.inr (UInt8.toNat_inj.1 (by show b2.toNat = 125; omega)))
                clear hsep hpar hb2 hg
                go_wp2_with fail
                go_roundw
                case rel => exact ⟨i + 1, fr, c, n, by simp, rfl, rfl, by omega, by omega, HC64.out, by have := HG.out; rw [show s.size - (i + 1) = g by omega]; exact HPAR2.out, rfl⟩
                case measure => simp [intOf]; omega
            · have d1 : decide ((i : Int) < (s.size : Int)) = false := decide_eq_false (by omega)
              have hpar := HPAR.out
              rw [show s.size - i = 0 by omega, parseG] at hpar
              subst hpar
              go_wp2_with fail
              go_ret3
              exact ⟨rfl, n, rfl⟩
        · have e1 : (((b.toNat : Nat) : Int) != 125) = true := by
            simp only [bne_iff_ne, ne_eq]
            intro h
            exact hb1 (UInt8.toNat_inj.1 (by show b.toNat = 125; omega))
          rw [if_pos (.inr (.inr (by simpa using hb1)))] at hcf
          subst hcf
          clear hb hb1 HCF2 h0 hk
          go_wp2_with fail
          go_ret3
          exact ⟨rfl, 0, rfl⟩
end Go.Proofs.YtgekpnbgmbbbdaaDoor
