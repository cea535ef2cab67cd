/- The walks of enter, Send, Forge at a made net, whatever they answer. -/
import Derived.Test.YtnognpfenefafaaNr1
namespace Go.Proofs.Ytnognpfenefafaa
open Go.Proofs.Ytnognpfenefafaa.PNetRuns (S39 S73 k39 k73 z39 z73)
open Go.RowKit Go.Proofs.YtnognpfenefafaaW.PrintWords Go.Proofs.YtnognpfenefafaaW.PrintLast Go.Proofs.YtnognpfenefafaaW.PrintMore
attribute [local go_sem] max2_mx min2_mn max_two min_two
/-- A result: the number, whether there was room, the error; the last number; what is on its way. -/
structure Rs where
  a : Int
  ok : Bool
  e : Int
  last : Int
  ps : List S73
/-- Bytes from one device to another one. -/
def enterF (dev last : Int) (ps : List S73) (fr to_ : Int) (fo : Bool) (bs : List Int) : Rs :=
  if 0 ≤ fr ∧ fr < dev ∧ 0 ≤ to_ ∧ to_ < dev then
    if bs.length ≤ 65536 then ⟨last + 1, true, 0, last + 1, ps ++ [⟨⟨last + 1, fr, to_, bs.length, fo⟩, bs⟩]⟩ else ⟨0, false, 2, last, ps⟩
  else ⟨0, false, 230, last, ps⟩
set_option maxRecDepth 100000 in
set_option maxHeartbeats 2000000 in
theorem enter_any (S okp : Nat → Prop) (g : Nat) (dev last : Int) (ps : List S73) (w : World) (fr to_ : Int) (fo : Bool) (A : Option Addr) (n c : Nat) (bs : List Int) (h : No S g dev last ps w) (hd : 0 < dev) (hV : Kd.V KB 5 w 0 okp (.slice A n c) bs) (hok : ∀ k, okp k → k ≠ g)
    (hps : ps.length < 16384) (h0 : 0 ≤ last) (h1 : last ≤ 4611686018427387904) (r : Rs) (hr : r = enterF dev last ps fr to_ fo bs) :
    Calls Try.prog 23 #[.pointer (some ⟨g, 0, none⟩), .int .i64 fr, .int .i64 to_, .slice A n c, .bool fo] w fun e w' => e = .returned (.tuple #[.int .i64 r.a, .bool r.ok, .int .i64 r.e]) ∧ (∃ S' : Nat → Prop, No S' g dev r.last r.ps w' ∧ ∀ k, S' k → S k ∨ w.heap.size ≤ k) ∧ Chg S w w' := by
  unfold enterF at hr
  have hn : n = bs.length := (Kd.V_at hV).1
  have hd' : decide (0 < dev) = true := by simpa using hd
  by_cases hE : 0 ≤ fr ∧ fr < dev ∧ 0 ≤ to_ ∧ to_ < dev
  · rw [if_pos hE] at hr
    by_cases hL : bs.length ≤ 65536
    · rw [if_pos hL] at hr
      subst hr
      exact enter_no S okp g dev last ps w fr to_ fo A n c bs h hV hok hL hps h0 h1 hE.1 hE.2.1 hE.2.2.1 hE.2.2.2
    · rw [if_neg hL] at hr
      subst hr
      have hmn : decide (mn fr to_ < 0) = false := decide_eq_false (by unfold mn; split <;> omega)
      have hmx : decide (dev ≤ mx fr to_) = false := decide_eq_false (by unfold mx; split <;> omega)
      have hn2 : decide ((65536 : Int) < (n : Int)) = true := by simp; omega
      obtain ⟨hg, hlt, v, hblk, hR⟩ := id h
      have d0 := blk_cell hblk 0 (.int .i64 dev) rfl
      have HP := Lib.hid h
      clear hblk hR hlt hg
      clear h hV hn hE hL hd hps h0 h1 hok
      go_enter Try.func23, Try.ntmps23
      go_wp2_with fail
      refine (made_no _ _ _ _ _ _ HP.out).mono ?_
      rintro e w1 ⟨rfl, rfl⟩
      rw [hd']
      go_wp2_with fail
      go_ret3
      exact ⟨rfl, ⟨S, HP.out, fun k hk => .inl hk⟩, Chg.refl _ _⟩
  · rw [if_neg hE] at hr
    subst hr
    by_cases hm : mn fr to_ < 0
    · have hmn : decide (mn fr to_ < 0) = true := decide_eq_true hm
      obtain ⟨hg, hlt, v, hblk, hR⟩ := id h
      have d0 := blk_cell hblk 0 (.int .i64 dev) rfl
      have HP := Lib.hid h
      clear hblk hR hlt hg
      clear h hV hn hE hd hps h0 h1 hok hm
      go_enter Try.func23, Try.ntmps23
      go_wp2_with fail
      refine (made_no _ _ _ _ _ _ HP.out).mono ?_
      rintro e w1 ⟨rfl, rfl⟩
      rw [hd']
      go_wp2_with fail
      go_ret3
      exact ⟨rfl, ⟨S, HP.out, fun k hk => .inl hk⟩, Chg.refl _ _⟩
    · have hmn : decide (mn fr to_ < 0) = false := decide_eq_false hm
      have hmx : decide (dev ≤ mx fr to_) = true := decide_eq_true (by unfold mn at hm; unfold mx; split <;> split at hm <;> omega)
      obtain ⟨hg, hlt, v, hblk, hR⟩ := id h
      have d0 := blk_cell hblk 0 (.int .i64 dev) rfl
      have HP := Lib.hid h
      clear hblk hR hlt hg
      clear h hV hn hE hd hps h0 h1 hok hm
      go_enter Try.func23, Try.ntmps23
      go_wp2_with fail
      refine (made_no _ _ _ _ _ _ HP.out).mono ?_
      rintro e w1 ⟨rfl, rfl⟩
      rw [hd']
      go_wp2_with fail
      go_ret3
      exact ⟨rfl, ⟨S, HP.out, fun k hk => .inl hk⟩, Chg.refl _ _⟩
theorem send_any (S okp : Nat → Prop) (g : Nat) (dev last : Int) (ps : List S73) (w : World) (fr to_ : Int) (A : Option Addr) (n c : Nat) (bs : List Int) (h : No S g dev last ps w) (hd : 0 < dev) (hV : Kd.V KB 5 w 0 okp (.slice A n c) bs) (hok : ∀ k, okp k → k ≠ g)
    (hps : ps.length < 16384) (h0 : 0 ≤ last) (h1 : last ≤ 4611686018427387904) (r : Rs) (hr : r = enterF dev last ps fr to_ false bs) :
    Calls Try.prog 8 #[.pointer (some ⟨g, 0, none⟩), .int .i64 fr, .int .i64 to_, .slice A n c] w fun e w' => e = .returned (.tuple #[.int .i64 r.a, .bool r.ok, .int .i64 r.e]) ∧ (∃ S' : Nat → Prop, No S' g dev r.last r.ps w' ∧ ∀ k, S' k → S k ∨ w.heap.size ≤ k) ∧ Chg S w w' := by
  have H := Lib.hid (enter_any S okp g dev last ps w fr to_ false A n c bs h hd hV hok hps h0 h1 r hr)
  clear h hd hV hok hps h0 h1 hr
  go_enter Try.func8, Try.ntmps8
  go_wp2_with fail
  refine H.out.mono ?_
  rintro e w1 ⟨rfl, h2, h3⟩
  have H2 := Lib.hid h2
  have H3 := Lib.hid h3
  clear h2 h3
  go_wp2_with fail
  go_ret3
  exact ⟨rfl, H2.out, H3.out⟩
theorem forge_any (S okp : Nat → Prop) (g : Nat) (dev last : Int) (ps : List S73) (w : World) (fr to_ : Int) (A : Option Addr) (n c : Nat) (bs : List Int) (h : No S g dev last ps w) (hd : 0 < dev) (hV : Kd.V KB 5 w 0 okp (.slice A n c) bs) (hok : ∀ k, okp k → k ≠ g)
    (hps : ps.length < 16384) (h0 : 0 ≤ last) (h1 : last ≤ 4611686018427387904) (r : Rs) (hr : r = enterF dev last ps fr to_ true bs) :
    Calls Try.prog 18 #[.pointer (some ⟨g, 0, none⟩), .int .i64 fr, .int .i64 to_, .slice A n c] w fun e w' => e = .returned (.tuple #[.int .i64 r.a, .bool r.ok, .int .i64 r.e]) ∧ (∃ S' : Nat → Prop, No S' g dev r.last r.ps w' ∧ ∀ k, S' k → S k ∨ w.heap.size ≤ k) ∧ Chg S w w' := by
  have H := Lib.hid (enter_any S okp g dev last ps w fr to_ true A n c bs h hd hV hok hps h0 h1 r hr)
  clear h hd hV hok hps h0 h1 hr
  go_enter Try.func18, Try.ntmps18
  go_wp2_with fail
  refine H.out.mono ?_
  rintro e w1 ⟨rfl, h2, h3⟩
  have H2 := Lib.hid h2
  have H3 := Lib.hid h3
  clear h2 h3
  go_wp2_with fail
  go_ret3
  exact ⟨rfl, H2.out, H3.out⟩
end Go.Proofs.Ytnognpfenefafaa
