/- The walks of the document's small functions. -/
import Derived.Test.YtlnhjkbhhdcdeaaRa
namespace Go.Proofs.Ytlnhjkbhhdcdeaa
open Go Go.RowKit Go.Proofs.YtlnhjkbhhdcdeaaW.PrintWords Go.Proofs.YtlnhjkbhhdcdeaaW.PrintLast Go.Proofs.YtlnhjkbhhdcdeaaW.PrintMore
open Go.Proofs.Ytlnhjkbhhdcdeaa.PSessionRuns (S27 k27 z27 S116 k116 z116)
set_option linter.unusedVariables false
set_option maxRecDepth 100000
set_option maxHeartbeats 4000000
attribute [local go_sem] max2_mx min2_mn max_two min_two
theorem ristime (n : Int) (w : World) : Calls Try.prog 52 #[.int .i64 n] w fun e w' => e = .returned (.bool (tok n)) ∧ w' = w := by
  unfold tok
  by_cases h0 : 0 ≤ n
  · by_cases h1 : n ≤ 1099511627776
    all_goals
      go_enter Try.func52, Try.ntmps52
      go_wp2_with fail
      go_ret
      exact ⟨by simp [*], rfl⟩
  · go_enter Try.func52, Try.ntmps52
    go_wp2_with fail
    go_ret
    refine ⟨?_, rfl⟩
    rw [decide_eq_false (by omega : ¬ 0 ≤ n)]
    rfl
section
variable {p : Nat} {lab : Nat → Nat} {σ : Se} {out : List S27} {got : List (List Int)} {vL vE vO vG : Value} {w : World} {n : Int}
theorem rset (A : RS p lab σ out got vL vE vO vG w) (h0 : 0 ≤ σ.now) (h1 : σ.now ≤ 1099511627776) (h2 : 0 ≤ σ.tmr) (h3 : σ.tmr ≤ 1048576) :
    Calls Try.prog 54 #[.pointer (some ⟨p, 0, none⟩)] w fun e w' => e = .returned (.tuple #[]) ∧ RS p lab σ.start out got vL vE vO vG w' ∧ Ls lab lab w w' := by
  have d2 := blk_cell A.blk 2 (.int .i64 σ.tmr) rfl
  have d3 := blk_cell A.blk 3 (.int .i64 σ.now) rfl
  have d11 := blk_cell A.blk 11 (.bool σ.set) rfl
  have d12 := blk_cell A.blk 12 (.int .i64 σ.tm) rfl
  have f11 := blk_free A.blk 11
  have f12 := blk_free A.blk 12
  obtain ⟨a, ha⟩ : ∃ a, a = σ.now := ⟨_, rfl⟩
  obtain ⟨b, hb'⟩ : ∃ b, b = σ.tmr := ⟨_, rfl⟩
  have FIN : Hid (∀ x y : Value, x = .bool true → y = .int .i64 (mn (a + b) 1099511627776) → RS p lab σ.start out got vL vE vO vG ((w.setCell ⟨p, 11, none⟩ x).setCell ⟨p, 12, none⟩ y).drew ∧ Ls lab lab w ((w.setCell ⟨p, 11, none⟩ x).setCell ⟨p, 12, none⟩ y).drew) := by
    refine Lib.hid ?_
    intro x y hx hy
    refine A.turnp (σ' := σ.start) (by simp [World.setCell, World.drew]) rfl rfl rfl (fun k hk => (Below.heap_setCell _ _ _ _ hk).trans (Below.heap_setCell _ _ _ _ hk)) ?_ rfl rfl
    have := blk_set (blk_set A.blk 11 x) 12 y
    show ((w.setCell ⟨p, 11, none⟩ x).setCell ⟨p, 12, none⟩ y).heap[p]? = _
    rw [this, hx, hy, ha, hb']
    rfl
  rw [← ha] at d3 h0 h1
  rw [← hb'] at d2 h2 h3
  clear A ha hb'
  go_enter Try.func54, Try.ntmps54
  go_wp2_with fail
  go_region
  go_end0
  obtain ⟨h4, h5⟩ := FIN.out _ _ rfl rfl
  exact ⟨rfl, h4, h5⟩
theorem rframes (A : RS p lab σ out got vL vE vO vG w) :
    Calls Try.prog 55 #[.pointer (some ⟨p, 0, none⟩)] w fun e w' => ∃ lab' A' c', e = .returned (.slice A' out.length c') ∧ RS p lab' σ [] got vL vE (.slice none 0 0) vG w' ∧ Ls lab lab' w w' ∧ Kd.V k27 27 w' 0 (fun k => lab' k = 1) (.slice A' out.length c') out := by
  obtain ⟨Ao, co, hv⟩ := A.O.slice
  subst hv
  have d13 := blk_cell A.blk 13 (.slice Ao out.length co) rfl
  have f13 := blk_free A.blk 13
  obtain ⟨lab', L, R, h1⟩ := Row.instead (w1 := w) (v1 := .slice none 0 0) (ys := []) A.lim A.O (by omega) (Kd.N_nil _ _ _ _ _) (Below.refl _ _)
  obtain ⟨a1, _, a2⟩ := A.setO L R
  have hV : Kd.V k27 27 (w.setCell ⟨p, 13, none⟩ (.slice none 0 0)) 0 (fun k => lab' k = 1) (.slice Ao out.length co) out := by
    refine Kd.V_far (Kd.V_mono (Kd.N_V A.O.1) h1) (fun k hk => ?_) _
    show k ≠ p
    rintro rfl
    have h5 : lab' k = 1 := hk
    have := a2.at_
    omega
  obtain ⟨l, hl⟩ : ∃ l, l = out.length := ⟨_, rfl⟩
  have HF : Hid (RS p lab' σ [] got vL vE (.slice none 0 0) vG (w.setCell ⟨p, 13, none⟩ (.slice none 0 0)) ∧ Ls lab lab' w (w.setCell ⟨p, 13, none⟩ (.slice none 0 0)) ∧ Kd.V k27 27 (w.setCell ⟨p, 13, none⟩ (.slice none 0 0)) 0 (fun k => lab' k = 1) (.slice Ao l co) out) := Lib.hid ⟨a2, a1, by rw [hl]; exact hV⟩
  rw [← hl] at d13 ⊢
  clear hV a1 a2 L R h1 A hl
  go_enter Try.func55, Try.ntmps55
  go_wp2_with fail
  go_ret
  exact ⟨lab', Ao, co, rfl, HF.out⟩
theorem rbegin (A : RS p lab σ out got vL vE vO vG w) (now : Int) :
    Calls Try.prog 56 #[.pointer (some ⟨p, 0, none⟩), .int .i64 now] w fun e w' => e = .returned (.int .i64 (σ.ask now)) ∧ w' = w := by
  have d3 := blk_cell A.blk 3 (.int .i64 σ.now) rfl
  obtain ⟨r, hr⟩ : ∃ r, r = σ.ask now := ⟨_, rfl⟩
  rw [← hr]
  unfold Se.ask at hr
  obtain ⟨x, hx⟩ : ∃ x, x = σ.now := ⟨_, rfl⟩
  rw [← hx] at d3 hr
  obtain ⟨t, ht⟩ : ∃ t, t = tok now := ⟨_, rfl⟩
  have HT := Lib.hid ht
  rw [← ht] at hr
  clear A hx ht
  cases t with
  | false =>
    have HR : Hid (r = 202) := Lib.hid (by rw [hr]; simp)
    clear hr
    go_enter Try.func56, Try.ntmps56
    go_wp2_with fail
    refine (ristime now _).mono ?_
    rintro e w1 ⟨rfl, rfl⟩
    rw [← HT.out]
    go_wp2_with fail
    go_ret
    exact ⟨by rw [HR.out]; rfl, rfl⟩
  | true =>
    by_cases hle : x ≤ now
    · have HR : Hid (r = 0) := Lib.hid (by rw [hr, if_pos ⟨rfl, hle⟩])
      clear hr
      go_enter Try.func56, Try.ntmps56
      go_wp2_with fail
      refine (ristime now _).mono ?_
      rintro e w1 ⟨rfl, rfl⟩
      rw [← HT.out]
      go_wp2_with fail
      go_ret
      exact ⟨by rw [HR.out]; rfl, rfl⟩
    · have HR : Hid (r = 202) := Lib.hid (by rw [hr, if_neg (fun h => hle h.2)])
      clear hr
      go_enter Try.func56, Try.ntmps56
      go_wp2_with fail
      refine (ristime now _).mono ?_
      rintro e w1 ⟨rfl, rfl⟩
      rw [← HT.out]
      go_wp2_with fail
      go_ret
      exact ⟨by rw [HR.out]; rfl, rfl⟩
theorem rflying (A : RS p lab σ out got vL vE vO vG w) (ok : Ok n σ) :
    Calls Try.prog 57 #[.pointer (some ⟨p, 0, none⟩)] w fun e w' => e = .returned (.int .i64 σ.fl) ∧ ∃ d, w' = w.drewN d := by
  obtain ⟨Al, cl, hv⟩ := A.L.slice
  subst hv
  have d1 := blk_cell A.blk 1 (.int .i64 σ.win) rfl
  have d5 := blk_cell A.blk 5 (.bool σ.up) rfl
  have d6 := blk_cell A.blk 6 (.slice Al σ.L.length cl) rfl
  have h1 := ok.win0
  have h2 := ok.len
  clear A
  cases hup : σ.up with
  | false =>
    rw [hup] at d5
    have HF : Hid (σ.fl = 0) := Lib.hid (by simp [Se.fl, hup])
    clear hup ok
    go_enter Try.func57, Try.ntmps57
    go_wp2_with fail
    go_ret
    exact ⟨by rw [HF.out]; rfl, 0, rfl⟩
  | true =>
    rw [hup] at d5
    have HF : Hid (mn (σ.L.length : Int) σ.win = (σ.fl : Int)) := by
      refine Lib.hid ?_
      have hfl : σ.fl = min σ.L.length σ.win.toNat := by simp [Se.fl, hup]
      rw [hfl]
      unfold mn
      split <;> omega
    obtain ⟨z, hz⟩ : ∃ z, z = σ.L.length := ⟨_, rfl⟩
    obtain ⟨y, hy⟩ : ∃ y, y = σ.win := ⟨_, rfl⟩
    obtain ⟨x, hx⟩ : ∃ x, x = σ.fl := ⟨_, rfl⟩
    rw [← hz] at d6 HF
    rw [← hy] at d1 HF
    rw [← hx] at HF ⊢
    clear hup ok hz hy hx h1 h2
    go_enter Try.func57, Try.ntmps57
    go_wp2_with fail
    go_quiet (fail)
    rw [HF.out]
    go_wp2_with fail
    go_ret
    exact ⟨rfl, _, rfl⟩
theorem ridle (A : RS p lab σ out got vL vE vO vG w) :
    Calls Try.prog 63 #[.pointer (some ⟨p, 0, none⟩)] w fun e w' => e = .returned (.bool (σ.up && (σ.L.length : Int) == 0)) ∧ w' = w := by
  obtain ⟨Al, cl, hv⟩ := A.L.slice
  subst hv
  have d5 := blk_cell A.blk 5 (.bool σ.up) rfl
  have d6 := blk_cell A.blk 6 (.slice Al σ.L.length cl) rfl
  obtain ⟨z, hz⟩ : ∃ z, z = σ.L.length := ⟨_, rfl⟩
  obtain ⟨u, hu⟩ : ∃ u, u = σ.up := ⟨_, rfl⟩
  rw [← hz] at d6 ⊢
  rw [← hu] at d5 ⊢
  clear A hz hu
  cases u with
  | false =>
    go_enter Try.func63, Try.ntmps63
    go_wp2_with fail
    go_ret
    exact ⟨rfl, rfl⟩
  | true =>
    go_enter Try.func63, Try.ntmps63
    go_wp2_with fail
    go_ret
    exact ⟨rfl, rfl⟩
end
end Go.Proofs.Ytlnhjkbhhdcdeaa
