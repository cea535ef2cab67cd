/- The walks of knows, ask, caught. -/
import Derived.Test.YtbglnddjhlefnaaTt
import Derived.Recover
namespace Go.Proofs.Ytbglnddjhlefnaa
open Go Go.RowKit Go.Proofs.YtbglnddjhlefnaaW.PrintWords Go.Proofs.YtbglnddjhlefnaaW.PrintLast Go.Proofs.YtbglnddjhlefnaaW.PrintMore
/-- Was this ref told? -/
def okR (refs : List Nat) (a : Int) : Bool := a == 0 || (a == 1 || inS refs a)
abbrev KI : Kd Int := Kd.int .i64
section
variable {g : Nat} {S : Nat → Prop} {T : Bd} {w w' : World} {okp : Nat → Prop} {A : Option Addr} {c : Nat} {xs : List Int}
set_option maxRecDepth 100000 in
theorem knows1_w (bx : Nat) (a : Int) (hb : w.cell? ⟨bx, 0, none⟩ = some (.pointer (some ⟨g, 0, none⟩))) (h : Tab g S T w) :
    Calls Try.prog 72 #[.int .i64 a, .pointer (some ⟨bx, 0, none⟩)] w fun e w' => e = .returned (.bool (!okR T.refs a)) ∧ w = w' := by
  obtain ⟨rb, ub, kb, v, h⟩ := h
  have d0 := blk_cell h.box 0 (.map (some rb)) rfl
  have k1 := h.refs.look Try.underlying60 K26 a
  unfold okR
  by_cases h0 : a = 0
  · subst h0
    clear h
    go_enter Try.func72, Try.ntmps72
    go_wp2_with fail
    go_ret
    exact ⟨rfl, rfl⟩
  · have t0 : (a != 0) = true := by simpa using h0
    have t0' : (a == 0) = false := by simpa using h0
    by_cases h1 : a = 1
    · subst h1
      clear h
      go_enter Try.func72, Try.ntmps72
      go_wp2_with fail
      go_ret
      exact ⟨rfl, rfl⟩
    · have t1 : (a != 1) = true := by simpa using h1
      have t1' : (a == 1) = false := by simpa using h1
      rw [t0', t1']
      generalize inS T.refs a = x at k1
      clear h h0 h1
      cases x
      all_goals
        go_enter Try.func72, Try.ntmps72
        go_wp2_with fail
        go_ret
        exact ⟨rfl, rfl⟩
/-- What IndexFunc tells. -/
def IxP (refs : List Nat) (xs : List Int) (w : World) (e : Ending) (w' : World) : Prop := ∃ r : Int, e = .returned (.int .i64 r) ∧ w = w' ∧ (xs.all (okR refs) = false ∧ 0 ≤ r ∨ xs.all (okR refs) = true ∧ r = -1)
theorem all_take_succ (f : Int → Bool) (xs : List Int) (i : Nat) (h : i < xs.length) : (xs.take (i + 1)).all f = ((xs.take i).all f && f (xs.getD i 0)) := by
  rw [List.take_succ_eq_append_getElem h, List.all_append, List.getD_eq_getElem?_getD, List.getElem?_eq_getElem h]
  simp
set_option maxRecDepth 100000 in
set_option maxHeartbeats 1000000 in
theorem idx_w (bx : Nat) (hb : w.cell? ⟨bx, 0, none⟩ = some (.pointer (some ⟨g, 0, none⟩))) (h : Tab g S T w) (hV : Kd.V KI 26 w 0 okp (.slice A xs.length c) xs) (hl : xs.length ≤ 140737488351232) :
    Calls Try.prog 73 #[.slice A xs.length c, .func (.func 72) #[] #[.pointer (some ⟨bx, 0, none⟩)]] w (IxP T.refs xs w) := by
  have HV := Lib.hid hV
  have HC := Lib.hid (fun a => knows1_w bx a hb h)
  obtain ⟨n, hn⟩ : ∃ n, n = xs.length := ⟨_, rfl⟩
  rw [← hn]
  have HN := Lib.hid hn
  have hl' : n ≤ 140737488351232 := by omega
  generalize T.refs = refs at HC ⊢
  clear hV hn hl hb h
  go_enter Try.func73, Try.ntmps73
  go_wp2_with fail
  go_loop [8] (fun v => ∃ i : Nat, v = .int .i64 i ∧ i ≤ n ∧ Hid ((xs.take i).all (okR refs) = true)) (fun v => n - (intOf v).toNat)
  case atStart => exact ⟨0, rfl, Nat.zero_le _, Lib.hid (by simp)⟩
  case round =>
    obtain ⟨i, rfl, hi, hf⟩ := hrel
    rcases Nat.lt_or_ge i n with hlt | hge
    · obtain ⟨ad, x, rfl, hc, HX, _⟩ := V_int HV.out i (by rw [← HN.out]; exact hlt)
      have hi64 : (i : Int) < (n : Int) := by omega
      have hin : (n : Int) ≤ 140737488351232 := by omega
      have ht := all_take_succ (okR refs) xs i (by rw [← HN.out]; exact hlt)
      rw [hf.out, ← HX.out, Bool.true_and] at ht
      have HT := Lib.hid ht
      clear ht
      go_wp2_with fail
      refine (HC.out x).mono ?_
      rintro e w1 ⟨rfl, rfl⟩
      cases hq : okR refs x with
      | false =>
        have HQ := Lib.hid hq
        clear hq
        go_wp2_with fail
        go_ret
        refine ⟨i, rfl, rfl, .inl ⟨?_, by omega⟩⟩
        have h1 : xs = xs.take (i + 1) ++ xs.drop (i + 1) := (List.take_append_drop _ _).symm
        rw [h1, List.all_append, HT.out, HQ.out]
        rfl
      | true =>
        have HQ := Lib.hid (HT.out.trans hq)
        clear hq
        go_wp2_with fail
        go_round
        case rel =>
          refine ⟨i + 1, ?_, by omega, HQ⟩
          go_num
        case measure => simp [intOf]; omega
    · have hin : i = n := by omega
      have hi64 : decide ((i : Int) < (n : Int)) = false := by simp; omega
      have HF : Hid (xs.all (okR refs) = true) := by
        have := hf.out
        rw [List.take_of_length_le (by rw [← HN.out]; omega)] at this
        exact Lib.hid this
      clear hf hin
      go_wp2_with fail
      go_ret
      exact ⟨-1, rfl, rfl, .inr ⟨HF.out, rfl⟩⟩
set_option maxRecDepth 100000 in
theorem con_w (bx : Nat) (hb : w.cell? ⟨bx, 0, none⟩ = some (.pointer (some ⟨g, 0, none⟩))) (h : Tab g S T w) (hV : Kd.V KI 26 w 0 okp (.slice A xs.length c) xs) (hl : xs.length ≤ 140737488351232) :
    Calls Try.prog 71 #[.slice A xs.length c, .func (.func 72) #[] #[.pointer (some ⟨bx, 0, none⟩)]] w fun e w' => e = .returned (.bool (!xs.all (okR T.refs))) ∧ w = w' := by
  have HI := Lib.hid (idx_w bx hb h hV hl)
  obtain ⟨n, hn⟩ : ∃ n, n = xs.length := ⟨_, rfl⟩
  rw [← hn] at HI ⊢
  clear hV hl hn hb h
  go_enter Try.func71, Try.ntmps71
  go_wp2_with fail
  refine HI.out.mono ?_
  rintro e w1 ⟨r, rfl, rfl, hr⟩
  rcases hr with ⟨h1, h2⟩ | ⟨h1, rfl⟩
  · have t1 : decide ((0 : Int) ≤ r) = true := decide_eq_true h2
    have H1 := Lib.hid h1
    clear h1
    go_wp2_with fail
    go_ret
    rw [H1.out]
    exact ⟨rfl, rfl⟩
  · have H1 := Lib.hid h1
    clear h1
    go_wp2_with fail
    go_ret
    rw [H1.out]
    exact ⟨rfl, rfl⟩
set_option maxRecDepth 100000 in
theorem knows_w (h : Tab g S T w) (hV : Kd.V KI 26 w 0 okp (.slice A xs.length c) xs) (hl : xs.length ≤ 140737488351232) :
    Calls Try.prog 59 #[.pointer (some ⟨g, 0, none⟩), .slice A xs.length c] w fun e w' => e = .returned (.bool (xs.all (okR T.refs))) ∧ Below w.heap.size w w' := by
  have hB := below_alloc (Below.refl w.heap.size w) (.cells #[.pointer (some ⟨g, 0, none⟩)] 134)
  have HC := Lib.hid (con_w w.heap.size (blk_cell (heap_alloc_new w (.cells #[.pointer (some ⟨g, 0, none⟩)] 134)) 0 _ rfl) (h.below hB) (Kd.V_alloc hV (.cells #[.pointer (some ⟨g, 0, none⟩)] 134)) hl)
  have HB := Lib.hid hB
  generalize xs.all (okR T.refs) = x at HC ⊢
  generalize xs.length = n at HC ⊢
  clear h hV hl hB
  go_enter Try.func59, Try.ntmps59
  go_wp2_with fail
  refine HC.out.mono ?_
  rintro e w1 ⟨rfl, rfl⟩
  cases x
  all_goals
    go_wp2_with fail
    go_ret
    exact ⟨rfl, HB.out⟩
end
end Go.Proofs.Ytbglnddjhlefnaa
