/- The walks of word, Text; of the document's word, Text. -/
import Derived.Test.YtgekpnbgmbbbdaaDoorCi4
import Derived.Test.YtgekpnbgmbbbdaaDoorShelf
namespace Go.Proofs.YtgekpnbgmbbbdaaDoor
open Go Go.RowKit Go.Shelf Go.Proofs.YtgekpnbgmbbbdaaDoorW.PrintWords Go.Proofs.YtgekpnbgmbbbdaaDoorW.PrintLast Go.Proofs.YtgekpnbgmbbbdaaDoorW.PrintMore
/-- An element's text. -/
def wordL (t i : Nat) : List UInt8 := if t < i then 62 :: Lib.decDigits t else Lib.decDigits i
def wordB (t i : Nat) : ByteArray := ⟨(wordL t i).toArray⟩
theorem gt_app (l : List UInt8) : (ByteArray.mk #[62]) ++ (ByteArray.mk l.toArray) = ByteArray.mk (62 :: l).toArray := by
  apply ByteArray.ext
  simp [ByteArray.data_append]
theorem dec_len (i : Nat) (h : i < 100) : (Lib.decDigits i).length ≤ 2 := by
  rw [Lib.decDigits]
  split
  · simp
  · rw [Lib.decDigits, dif_pos (by omega)]
    simp
theorem word_w (t i : Nat) (ht : t ≤ 62) (hi : i ≤ 63) (w : World) : Calls Tryd.prog 43 #[.int .i64 t, .int .i64 i] w fun e w' => e = .returned (.string (wordB t i)) ∧ w' = w := by
  have h1 := fun W => Tryd.strconv_Itoa_small t (by omega) W
  have h2 := fun W => Tryd.strconv_Itoa_small i (by omega) W
  have hl := dec_len t (by omega)
  have H1 := Lib.hid h1
  have H2 := Lib.hid h2
  clear h1 h2
  by_cases h : t < i
  · have hr : wordB t i = ⟨(62 :: Lib.decDigits t).toArray⟩ := by unfold wordB wordL; rw [if_pos h]
    have HR := Lib.hid hr
    generalize hdd : Lib.decDigits t = d at HR hl H1
    clear hr
    go_enter Tryd.func43, Tryd.ntmps43
    go_wp2_with fail
    refine (H1.out _).mono ?_
    rintro e w1 ⟨rfl, rfl⟩
    go_wp2_with fail
    go_ret
    exact ⟨by rw [HR.out, ← gt_app d]; rfl, rfl⟩
  · have hr : wordB t i = ⟨(Lib.decDigits i).toArray⟩ := by unfold wordB wordL; rw [if_neg h]
    have HR := Lib.hid hr
    clear hr
    go_enter Tryd.func43, Tryd.ntmps43
    go_wp2_with fail
    refine (H2.out _).mono ?_
    rintro e w1 ⟨rfl, rfl⟩
    go_wp2_with fail
    go_ret
    exact ⟨by rw [HR.out]; rfl, rfl⟩
theorem rword_w (t i : Nat) (ht : t ≤ 62) (hi : i ≤ 63) (w : World) : Calls Tryd.prog 45 #[.int .i64 t, .int .i64 i] w fun e w' => e = .returned (.string (wordB t i)) ∧ w' = w := by
  have h1 := fun W => Tryd.strconv_Itoa_small t (by omega) W
  have h2 := fun W => Tryd.strconv_Itoa_small i (by omega) W
  have hl := dec_len t (by omega)
  have H1 := Lib.hid h1
  have H2 := Lib.hid h2
  clear h1 h2
  by_cases h : t < i
  · have hr : wordB t i = ⟨(62 :: Lib.decDigits t).toArray⟩ := by unfold wordB wordL; rw [if_pos h]
    have HR := Lib.hid hr
    generalize hdd : Lib.decDigits t = d at HR hl H1
    clear hr
    go_enter Tryd.func45, Tryd.ntmps45
    go_wp2_with fail
    refine (H1.out _).mono ?_
    rintro e w1 ⟨rfl, rfl⟩
    go_wp2_with fail
    go_ret
    exact ⟨by rw [HR.out, ← gt_app d]; rfl, rfl⟩
  · have hr : wordB t i = ⟨(Lib.decDigits i).toArray⟩ := by unfold wordB wordL; rw [if_neg h]
    have HR := Lib.hid hr
    clear hr
    go_enter Tryd.func45, Tryd.ntmps45
    go_wp2_with fail
    refine (H2.out _).mono ?_
    rintro e w1 ⟨rfl, rfl⟩
    go_wp2_with fail
    go_ret
    exact ⟨by rw [HR.out]; rfl, rfl⟩
end Go.Proofs.YtgekpnbgmbbbdaaDoor
