/- The walk of the document's begins. -/
import Derived.Test.YtgekpnbgmbbbdaaDoorCx1
import Derived.BigQuiet
namespace Go.Proofs.YtgekpnbgmbbbdaaDoor
open Go Go.RowKit Go.Proofs.YtgekpnbgmbbbdaaDoorW.PrintWords Go.Proofs.YtgekpnbgmbbbdaaDoorW.PrintLast Go.Proofs.YtgekpnbgmbbbdaaDoorW.PrintMore
/-- Does a text begin with d whose next element is i? -/
def hitF (t : Nat) (rec : List UInt8 → Nat → Bool) (d : List UInt8) (i : Nat) : Bool :=
  (decide (d.length ≤ (wordL t i).length) && decide ((wordL t i).take d.length = d)) || (decide ((wordL t i).length < d.length) && (decide (d.take (wordL t i).length = wordL t i) && rec (d.drop (wordL t i).length) (i + 1)))
def scanF (t : Nat) (rec : List UInt8 → Nat → Bool) (d : List UInt8) (lo : Nat) : Nat → Bool
  | 0 => false
  | e + 1 => scanF t rec d lo e || hitF t rec d (lo + e)
/-- Is there a text whose rest begins with d, behind elements below lo? -/
def begF (t : Nat) : Nat → List UInt8 → Nat → Bool
  | 0, _, _ => false
  | f + 1, d, lo =>
    if d = [] then true
    else if 1 ≤ lo then (if d = [125] then true else if d.head? = some 44 then (if d.tail = [] then decide (lo ≤ t + 1) else scanF t (begF t f) d.tail lo (t + 2 - lo)) else false)
    else scanF t (begF t f) d lo (t + 2 - lo)
theorem scan_hit {t : Nat} {rec : List UInt8 → Nat → Bool} {d : List UInt8} {lo : Nat} {e : Nat} (h : hitF t rec d (lo + e) = true) : ∀ n, e < n → scanF t rec d lo n = true
  | 0, h1 => by omega
  | n + 1, h1 => by
    rw [scanF, Bool.or_eq_true]
    by_cases he : e = n
    · subst he; exact .inr h
    · exact .inl (scan_hit h n (by omega))
theorem scan_snoc {t : Nat} {rec : List UInt8 → Nat → Bool} {d : List UInt8} {lo e : Nat} (h : scanF t rec d lo e = false) (h1 : hitF t rec d (lo + e) = false) : scanF t rec d lo (e + 1) = false := by rw [scanF, h, h1]; rfl
theorem beq_list (a b : List UInt8) : (a == b) = decide (a = b) := by cases h : (a == b) <;> simp_all
theorem ext0_list (s : ByteArray) (n : Nat) : (s.extract 0 n).toList = s.data.toList.take n := by
  rw [ByteArray.toList_eq]; simp
theorem extn_list (s : ByteArray) (n : Nat) : (s.extract n s.size).data.toList = s.data.toList.drop n := by
  simp
  exact List.take_of_length_le (by rw [List.length_drop]; exact Nat.le_refl _)
set_option maxRecDepth 100000 in
set_option maxHeartbeats 1500000 in
theorem begins_w (m : Nat) (hm : m ≤ 62) : ∀ (f : Nat) (s : ByteArray) (lo : Nat) (last : Int) (w : World), s.size ≤ f → lo ≤ m + 2 → s.size ≤ 140737488351232 → last = (lo : Int) - 1 →
    Calls Tryd.prog 57 #[.int .i64 m, .string s, .int .i64 last] w fun e w' => e = .returned (.bool (begF m (f + 1) s.data.toList lo)) ∧ w' = w := by
  intro f
  induction f with
  | zero =>
    intro s lo last w hf hlo hs hla
    have hd : s.data.toList = [] := List.eq_nil_of_length_eq_zero (by show s.size = 0; omega)
    have hE : (s.toList == []) = true := by rw [ByteArray.toList_eq, hd]; rfl
    have hr : begF m (0 + 1) s.data.toList lo = true := by rw [begF, if_pos hd]
    rw [hr]
    clear hd hr hf hs hla hlo
    go_enter Tryd.func57, Tryd.ntmps57
    go_wp2_with fail
    go_ret
    exact ⟨rfl, rfl⟩
  | succ f ih =>
    intro s lo last w hf hlo hs hla
    by_cases hd : s.data.toList = []
    · have hE : (s.toList == []) = true := by rw [ByteArray.toList_eq, hd]; rfl
      have hr : begF m (f + 1 + 1) s.data.toList lo = true := by rw [begF, if_pos hd]
      rw [hr]
      clear hd hr hf hs hla hlo ih
      go_enter Tryd.func57, Tryd.ntmps57
      go_wp2_with fail
      go_ret
      exact ⟨rfl, rfl⟩
    have hE : (s.toList == []) = false := by rw [ByteArray.toList_eq, beq_list]; simpa using hd
    have hsz : 0 < s.size := by
      have : 0 < s.data.toList.length := List.length_pos_iff.2 hd
      exact this
    cases lo with
    | zero =>
      obtain rfl : last = -1 := by omega
      have hr : begF m (f + 1 + 1) s.data.toList 0 = scanF m (begF m (f + 1)) s.data.toList 0 (m + 2 - 0) := by rw [begF, if_neg hd, if_neg (by omega)]
      obtain ⟨R, hR⟩ : ∃ R, R = begF m (f + 1 + 1) s.data.toList 0 := ⟨_, rfl⟩
      rw [← hR] at hr ⊢
      have HR := Lib.hid hr
      have IH := Lib.hid ih
      have HSZ := Lib.hid hsz
      have h9 : s.size ≤ f + 1 := hf
      have hm2 : (m : Int) ≤ 62 := by omega
      cases h125 : (s.toList == [125])
      all_goals
        clear hd hr hR ih hsz hla hlo hf
        go_enter Tryd.func57, Tryd.ntmps57
        go_wp2_with fail
        go_loopw [7] (fun v wr => ∃ i : Nat, v = .int .i64 (i : Nat) ∧ 0 ≤ i ∧ i ≤ m + 2 ∧ scanF m (begF m (f + 1)) s.data.toList (0) (i - (0)) = false ∧ wr = w) (fun v _ => m + 2 - (intOf v).toNat)
        case atStart => exact ⟨0, by simp, by omega, by omega, by rw [Nat.sub_self]; rfl, rfl⟩
        case round =>
          obtain ⟨i, rfl, hil, he, hsc, rfl⟩ := hrel
          have hie : 0 + (i - (0)) = i := by omega
          have HIE := Lib.hid hie
          clear hie
          have HSC := Lib.hid hsc
          clear hsc
          by_cases hlt : i < m + 2
          · have hi64 : decide ((i : Int) ≤ (m : Int) + 1) = true := decide_eq_true (by omega)
            obtain ⟨Wd, hWd⟩ : ∃ Wd, Wd = wordB m i := ⟨_, rfl⟩
            have hwd := fun W => rword_w m i hm (by omega) W
            rw [← hWd] at hwd
            have hWl : Wd.data.toList = wordL m i := by rw [hWd]; rfl
            have hWs : Wd.size = (wordL m i).length := by rw [← hWl]; rfl
            have hSs : s.size = s.data.toList.length := rfl
            have hw0 : 0 < Wd.size := by rw [hWs]; exact List.length_pos_iff.2 (word_ne hm)
            have hw3 : Wd.size ≤ 3 := by rw [hWs]; exact wordL_len (by omega) (by omega)
            have HW := Lib.hid hwd
            have hstep : hitF m (begF m (f + 1)) s.data.toList i = ((decide (s.size ≤ Wd.size) && ((Wd.extract 0 s.size).toList == s.toList)) || (decide (Wd.size < s.size) && (((s.extract 0 Wd.size).toList == Wd.toList) && begF m (f + 1) (s.extract Wd.size s.size).data.toList (i + 1)))) := by
              unfold hitF
              rw [ext0_list, ext0_list, extn_list, beq_list, beq_list, ByteArray.toList_eq, ByteArray.toList_eq, hWl, hWs, hSs]
            clear hWd hWl hwd
            by_cases hA : s.size ≤ Wd.size
            · have a1 : decide (s.size ≤ Wd.size) = true := decide_eq_true hA
              have a2 : decide (Wd.size < s.size) = false := decide_eq_false (by omega)
              have a3 : (s.size : Int) ≤ (Wd.size : Int) := by omega
              rw [a1, a2, Bool.true_and, Bool.false_and, Bool.or_false] at hstep
              cases hp : ((Wd.extract 0 s.size).toList == s.toList) with
              | true =>
                rw [hp] at hstep
                have hfin := HR.out
                rw [← HIE.out] at hstep
                rw [scan_hit hstep _ (by omega)] at hfin
                subst hfin
                clear hstep hWs hSs
                go_wp2_with fail
                refine (HW.out _).mono ?_
                rintro e w2 ⟨rfl, rfl⟩
                go_wp2_with fail
                go_ret
                exact ⟨rfl, rfl⟩
              | false =>
                rw [hp] at hstep
                rw [← HIE.out] at hstep
                have HN := Lib.hid (scan_snoc HSC.out hstep)
                clear hstep hWs hSs
                go_wp2_with fail
                refine (HW.out _).mono ?_
                rintro e w2 ⟨rfl, rfl⟩
                go_wp2_with fail
                go_roundw
                case rel => exact ⟨i + 1, by simp, by omega, by omega, by rw [show i + 1 - (0) = i - (0) + 1 by omega]; exact HN.out, by first | trivial | rfl⟩
                case measure => simp [intOf]; omega
            · have a1 : decide (s.size ≤ Wd.size) = false := decide_eq_false hA
              have a2 : decide (Wd.size < s.size) = true := decide_eq_true (by omega)
              have a3 : (Wd.size : Int) ≤ (s.size : Int) := by omega
              have a4 : (Wd.size : Int) < (s.size : Int) := by omega
              rw [a1, a2, Bool.true_and, Bool.false_and, Bool.false_or] at hstep
              cases hp : ((s.extract 0 Wd.size).toList == Wd.toList) with
              | false =>
                rw [hp, Bool.false_and] at hstep
                rw [← HIE.out] at hstep
                have HN := Lib.hid (scan_snoc HSC.out hstep)
                clear hstep hWs hSs
                go_wp2_with fail
                refine (HW.out _).mono ?_
                rintro e w2 ⟨rfl, rfl⟩
                go_wp2_with fail
                go_roundw
                case rel => exact ⟨i + 1, by simp, by omega, by omega, by rw [show i + 1 - (0) = i - (0) + 1 by omega]; exact HN.out, by first | trivial | rfl⟩
                case measure => simp [intOf]; omega
              | true =>
                rw [hp, Bool.true_and] at hstep
                have hxs : (s.extract Wd.size s.size).size = s.size - Wd.size := by simp
                have hrec := fun W => IH.out (s.extract Wd.size s.size) (i + 1) (i : Int) W (by omega) (by omega) (by omega) (by omega)
                cases hq : begF m (f + 1) (s.extract Wd.size s.size).data.toList (i + 1) with
                | true =>
                  rw [hq] at hstep hrec
                  have hfin := HR.out
                  rw [← HIE.out] at hstep
                  rw [scan_hit hstep _ (by omega)] at hfin
                  subst hfin
                  have HREC := Lib.hid hrec
                  clear hstep hWs hSs hrec hq hxs
                  go_wp2_with fail
                  refine (HW.out _).mono ?_
                  rintro e w2 ⟨rfl, rfl⟩
                  go_wp2_with fail
                  refine (HREC.out _).mono ?_
                  rintro e w3 ⟨rfl, rfl⟩
                  go_wp2_with fail
                  go_ret
                  exact ⟨rfl, rfl⟩
                | false =>
                  rw [hq] at hstep hrec
                  rw [← HIE.out] at hstep
                  have HN := Lib.hid (scan_snoc HSC.out hstep)
                  have HREC := Lib.hid hrec
                  clear hstep hWs hSs hrec hq hxs
                  go_wp2_with fail
                  refine (HW.out _).mono ?_
                  rintro e w2 ⟨rfl, rfl⟩
                  go_wp2_with fail
                  refine (HREC.out _).mono ?_
                  rintro e w3 ⟨rfl, rfl⟩
                  go_wp2_with fail
                  go_roundw
                  case rel => exact ⟨i + 1, by simp, by omega, by omega, by rw [show i + 1 - (0) = i - (0) + 1 by omega]; exact HN.out, by first | trivial | rfl⟩
                  case measure => simp [intOf]; omega
          · have hi64 : decide ((i : Int) ≤ (m : Int) + 1) = false := decide_eq_false (by omega)
            have he9 : i = m + 2 := by omega
            have hfin := HR.out
            rw [← he9, HSC.out] at hfin
            subst hfin
            clear he9
            go_wp2_with fail
            go_ret
            exact ⟨rfl, rfl⟩
    | succ l =>
      obtain rfl : last = (l : Int) := by omega
      have hm2 : (m : Int) ≤ 62 := by omega
      have hl2 : (l : Int) ≤ (m : Int) + 1 := by omega
      by_cases h125 : s.data.toList = [125]
      · have h1 : (s.toList == [125]) = true := by rw [ByteArray.toList_eq, h125]; rfl
        have hr : begF m (f + 1 + 1) s.data.toList (l + 1) = true := by rw [begF, if_neg hd, if_pos (by omega), if_pos h125]
        rw [hr]
        clear hr hd h125 ih hf hs hsz hla
        go_enter Tryd.func57, Tryd.ntmps57
        go_wp2_with fail
        go_ret
        exact ⟨rfl, rfl⟩
      have h1 : (s.toList == [125]) = false := by rw [ByteArray.toList_eq, beq_list]; simpa using h125
      obtain ⟨b, D, hbD⟩ := List.exists_cons_of_ne_nil hd
      obtain ⟨hk, hkb⟩ := byte_at (s := s) (k := 0) (b := b) (by rw [hbD]; rfl)
      by_cases hb : b = 44
      · have hb1 : (((b.toNat : Nat) : Int) != 44) = false := by rw [hb]; rfl
        have hD1 : (s.extract 1 s.size).data.toList = D := by rw [extn_list, hbD]; rfl
        have hsz1 : (s.extract 1 s.size).size = s.size - 1 := by simp
        have hone : (1 : Int) ≤ (s.size : Int) := by omega
        obtain ⟨s1, hs1⟩ : ∃ s1, s1 = s.extract 1 s.size := ⟨_, rfl⟩
        by_cases hDn : D = []
        · have hr : begF m (f + 1 + 1) s.data.toList (l + 1) = decide (l ≤ m) := by
            rw [begF, if_neg hd, if_pos (by omega), if_neg h125, hbD, hb]
            simp [hDn]
          rw [hr]
          have hE1 : (s1.toList == []) = true := by rw [ByteArray.toList_eq, hs1, hD1, hDn]; rfl
          rw [hs1] at hE1
          clear hr hd h125 ih hf hs hla hD1 hDn hbD hs1 hb hsz1
          go_enter Tryd.func57, Tryd.ntmps57
          go_wp2_with fail
          all_goals
            go_ret
            exact ⟨by simp, rfl⟩
        · have hr : begF m (f + 1 + 1) s.data.toList (l + 1) = scanF m (begF m (f + 1)) D (l + 1) (m + 2 - (l + 1)) := by
            rw [begF, if_neg hd, if_pos (by omega), if_neg h125, hbD, hb]
            simp [hDn]
          obtain ⟨R, hR⟩ : ∃ R, R = begF m (f + 1 + 1) s.data.toList (l + 1) := ⟨_, rfl⟩
          rw [← hR] at hr ⊢
          have hE1 : ((s.extract 1 s.size).toList == []) = false := by rw [ByteArray.toList_eq, hD1, beq_list]; simpa using hDn
          rw [← hs1] at hD1 hsz1 hE1
          have hsx : ∀ (x : ByteArray), x = s.extract 1 s.size → x = s1 := fun x hx => hx.trans hs1.symm
          rw [← hD1] at hr
          have HR := Lib.hid hr
          have IH := Lib.hid ih
          have h9 : s1.size ≤ f + 1 := by omega
          have hs0 := hs
          have hs : s1.size ≤ 140737488351232 := by omega
          have HSX := Lib.hid hs1
          have hE1' := hE1
          rw [hs1] at hE1'
          clear hr hd h125 ih hf hla hD1 hDn hbD hb hsz1 hsx hE1 hR hs1
          go_enter Tryd.func57, Tryd.ntmps57
          go_wp2_with fail
          rw [← HSX.out]
          go_loopw [7] (fun v wr => ∃ i : Nat, v = .int .i64 (i : Nat) ∧ l + 1 ≤ i ∧ i ≤ m + 2 ∧ scanF m (begF m (f + 1)) s1.data.toList (l + 1) (i - (l + 1)) = false ∧ wr = w) (fun v _ => m + 2 - (intOf v).toNat)
          case atStart => exact ⟨l + 1, by simp, by omega, by omega, by rw [Nat.sub_self]; rfl, rfl⟩
          case round =>
            obtain ⟨i, rfl, hil, he, hsc, rfl⟩ := hrel
            have hie : l + 1 + (i - (l + 1)) = i := by omega
            have HIE := Lib.hid hie
            clear hie
            have HSC := Lib.hid hsc
            clear hsc
            by_cases hlt : i < m + 2
            · have hi64 : decide ((i : Int) ≤ (m : Int) + 1) = true := decide_eq_true (by omega)
              obtain ⟨Wd, hWd⟩ : ∃ Wd, Wd = wordB m i := ⟨_, rfl⟩
              have hwd := fun W => rword_w m i hm (by omega) W
              rw [← hWd] at hwd
              have hWl : Wd.data.toList = wordL m i := by rw [hWd]; rfl
              have hWs : Wd.size = (wordL m i).length := by rw [← hWl]; rfl
              have hSs : s1.size = s1.data.toList.length := rfl
              have hw0 : 0 < Wd.size := by rw [hWs]; exact List.length_pos_iff.2 (word_ne hm)
              have hw3 : Wd.size ≤ 3 := by rw [hWs]; exact wordL_len (by omega) (by omega)
              have HW := Lib.hid hwd
              have hstep : hitF m (begF m (f + 1)) s1.data.toList i = ((decide (s1.size ≤ Wd.size) && ((Wd.extract 0 s1.size).toList == s1.toList)) || (decide (Wd.size < s1.size) && (((s1.extract 0 Wd.size).toList == Wd.toList) && begF m (f + 1) (s1.extract Wd.size s1.size).data.toList (i + 1)))) := by
                unfold hitF
                rw [ext0_list, ext0_list, extn_list, beq_list, beq_list, ByteArray.toList_eq, ByteArray.toList_eq, hWl, hWs, hSs]
              clear hWd hWl hwd
              by_cases hA : s1.size ≤ Wd.size
              · have a1 : decide (s1.size ≤ Wd.size) = true := decide_eq_true hA
                have a2 : decide (Wd.size < s1.size) = false := decide_eq_false (by omega)
                have a3 : (s1.size : Int) ≤ (Wd.size : Int) := by omega
                rw [a1, a2, Bool.true_and, Bool.false_and, Bool.or_false] at hstep
                cases hp : ((Wd.extract 0 s1.size).toList == s1.toList) with
                | true =>
                  rw [hp] at hstep
                  have hfin := HR.out
                  rw [← HIE.out] at hstep
                  rw [scan_hit hstep _ (by omega)] at hfin
                  subst hfin
                  clear hstep hWs hSs
                  go_wp2_with fail
                  refine (HW.out _).mono ?_
                  rintro e w2 ⟨rfl, rfl⟩
                  go_wp2_with fail
                  go_ret
                  exact ⟨rfl, rfl⟩
                | false =>
                  rw [hp] at hstep
                  rw [← HIE.out] at hstep
                  have HN := Lib.hid (scan_snoc HSC.out hstep)
                  clear hstep hWs hSs
                  go_wp2_with fail
                  refine (HW.out _).mono ?_
                  rintro e w2 ⟨rfl, rfl⟩
                  go_wp2_with fail
                  go_roundw
                  case rel => exact ⟨i + 1, by simp, by omega, by omega, by rw [show i + 1 - (l + 1) = i - (l + 1) + 1 by omega]; exact HN.out, by first | trivial | rfl⟩
                  case measure => simp [intOf]; omega
              · have a1 : decide (s1.size ≤ Wd.size) = false := decide_eq_false hA
                have a2 : decide (Wd.size < s1.size) = true := decide_eq_true (by omega)
                have a3 : (Wd.size : Int) ≤ (s1.size : Int) := by omega
                have a4 : (Wd.size : Int) < (s1.size : Int) := by omega
                rw [a1, a2, Bool.true_and, Bool.false_and, Bool.false_or] at hstep
                cases hp : ((s1.extract 0 Wd.size).toList == Wd.toList) with
                | false =>
                  rw [hp, Bool.false_and] at hstep
                  rw [← HIE.out] at hstep
                  have HN := Lib.hid (scan_snoc HSC.out hstep)
                  clear hstep hWs hSs
                  go_wp2_with fail
                  refine (HW.out _).mono ?_
                  rintro e w2 ⟨rfl, rfl⟩
                  go_wp2_with fail
                  go_roundw
                  case rel => exact ⟨i + 1, by simp, by omega, by omega, by rw [show i + 1 - (l + 1) = i - (l + 1) + 1 by omega]; exact HN.out, by first | trivial | rfl⟩
                  case measure => simp [intOf]; omega
                | true =>
                  rw [hp, Bool.true_and] at hstep
                  have hxs : (s1.extract Wd.size s1.size).size = s1.size - Wd.size := by simp
                  have hrec := fun W => IH.out (s1.extract Wd.size s1.size) (i + 1) (i : Int) W (by omega) (by omega) (by omega) (by omega)
                  cases hq : begF m (f + 1) (s1.extract Wd.size s1.size).data.toList (i + 1) with
                  | true =>
                    rw [hq] at hstep hrec
                    have hfin := HR.out
                    rw [← HIE.out] at hstep
                    rw [scan_hit hstep _ (by omega)] at hfin
                    subst hfin
                    have HREC := Lib.hid hrec
                    clear hstep hWs hSs hrec hq hxs
                    go_wp2_with fail
                    refine (HW.out _).mono ?_
                    rintro e w2 ⟨rfl, rfl⟩
                    go_wp2_with fail
                    refine (HREC.out _).mono ?_
                    rintro e w3 ⟨rfl, rfl⟩
                    go_wp2_with fail
                    go_ret
                    exact ⟨rfl, rfl⟩
                  | false =>
                    rw [hq] at hstep hrec
                    rw [← HIE.out] at hstep
                    have HN := Lib.hid (scan_snoc HSC.out hstep)
                    have HREC := Lib.hid hrec
                    clear hstep hWs hSs hrec hq hxs
                    go_wp2_with fail
                    refine (HW.out _).mono ?_
                    rintro e w2 ⟨rfl, rfl⟩
                    go_wp2_with fail
                    refine (HREC.out _).mono ?_
                    rintro e w3 ⟨rfl, rfl⟩
                    go_wp2_with fail
                    go_roundw
                    case rel => exact ⟨i + 1, by simp, by omega, by omega, by rw [show i + 1 - (l + 1) = i - (l + 1) + 1 by omega]; exact HN.out, by first | trivial | rfl⟩
                    case measure => simp [intOf]; omega
            · have hi64 : decide ((i : Int) ≤ (m : Int) + 1) = false := decide_eq_false (by omega)
              have he9 : i = m + 2 := by omega
              have hfin := HR.out
              rw [← he9, HSC.out] at hfin
              subst hfin
              clear he9
              go_wp2_with fail
              go_ret
              exact ⟨rfl, rfl⟩
      · have hb1 : (((b.toNat : Nat) : Int) != 44) = true := by
          simp only [bne_iff_ne, ne_eq]
          intro h
          apply hb
          exact UInt8.toNat_inj.1 (by show b.toNat = 44; omega)
        have hr : begF m (f + 1 + 1) s.data.toList (l + 1) = false := by
          rw [begF, if_neg hd, if_pos (by omega), if_neg h125, hbD]
          simp [hb]
        rw [hr]
        clear hr hd h125 ih hf hs hla hbD hb
        go_enter Tryd.func57, Tryd.ntmps57
        go_wp2_with fail
        go_ret
        exact ⟨rfl, rfl⟩
end Go.Proofs.YtgekpnbgmbbbdaaDoor
