/- The walk of the law CountsAlgebra. -/
import Derived.Test.YtgekpnbgmbbbdaaDoorCl2
namespace Go.Proofs.YtgekpnbgmbbbdaaDoor
open Go Go.RowKit Go.Proofs.YtgekpnbgmbbbdaaDoorW.PrintWords Go.Proofs.YtgekpnbgmbbbdaaDoorW.PrintLast Go.Proofs.YtgekpnbgmbbbdaaDoorW.PrintMore
theorem bnd_of {m : Nat} (hm : m ≤ 62) : bnd (m : Int) = true := by
  unfold bnd
  rw [Bool.and_eq_true]
  exact ⟨decide_eq_true (by omega), decide_eq_true (by omega)⟩
theorem chk_all {m : Nat} (hm : m ≤ 62) {L : List Nat} (h : ∀ x ∈ L, may m x = true) : chkF (m : Int) L = 0 := by
  unfold chkF
  rw [if_pos (bnd_of hm), Int.toNat_natCast, if_pos (List.all_eq_true.2 h)]
theorem may_64 {m x : Nat} (hm : m ≤ 62) (h : may m x = true) : x < 2 ^ 64 := Nat.lt_of_lt_of_le (may_lt h) (Nat.pow_le_pow_right (by decide) (by omega))
theorem V_u64s (L : List Nat) (W : World) (cs : Array Value) (hcs : cs.toList = (u64s L).map (.int .u64 ·)) (h : (u64s L).length ≤ 9223372036854775807) :
    Kd.V (Kd.int .u64) 24 (W.alloc (.cells cs 24)) 0 (fun k => False ∨ k = W.heap.size) (.slice (some ⟨W.heap.size, 0, none⟩) (u64s L).length (u64s L).length) (u64s L) := V_ints .u64 24 (u64s L) W cs hcs h
/-- The sum of sets that lie in a new slice. -/
theorem suml_w {m : Nat} (hm : m ≤ 62) (L : List Nat) (h : ∀ x ∈ L, may m x = true) (hl : L.length < 100) (r : Nat) (hr : sumF m L = r) (W : World) (cs : Array Value) (hcs : cs.toList = (u64s L).map (.int .u64 ·)) (n k : Nat) (hn : n = W.heap.size) (hk : k = L.length) :
    Calls Tryd.prog 17 #[.int .i64 (m : Int), .slice (some ⟨n, 0, none⟩) k k] (W.alloc (.cells cs 24)) fun e w' => e = .returned (.tuple #[.int .u64 (r : Nat), .int .i64 0]) ∧ Below W.heap.size W w' := by
  subst hn
  subst hk
  have hV := V_u64s L W cs hcs (by rw [u64s_len]; omega)
  rw [u64s_len] at hV
  refine (callsIn_wide.1 (sum_in (m : Int) _ _ _ _ L _ hV (fun x hx => may_64 hm (h x hx)) (by omega) (r, 0) ?_)).mono ?_
  · unfold sumR
    rw [if_pos (chk_all hm h)]
    show _ = (sumF m L, _)
    rw [hr]
  · rintro e w' ⟨rfl, hb⟩
    exact ⟨rfl, (below_alloc (Below.refl _ W) (.cells cs 24)).trans (hb.mono (by simp only [World.size_alloc]; omega))⟩
/-- Their union. -/
theorem unil_w {m : Nat} (hm : m ≤ 62) (L : List Nat) (h : ∀ x ∈ L, may m x = true) (hl : L.length < 100) (r : Nat) (h0 : r ≠ 0) (hr : uniF L = r) (W : World) (cs : Array Value) (hcs : cs.toList = (u64s L).map (.int .u64 ·)) (n k : Nat) (hn : n = W.heap.size) (hk : k = L.length) :
    Calls Tryd.prog 19 #[.int .i64 (m : Int), .slice (some ⟨n, 0, none⟩) k k] (W.alloc (.cells cs 24)) fun e w' => e = .returned (.tuple #[.int .u64 (r : Nat), .int .i64 0]) ∧ Below W.heap.size W w' := by
  subst hn
  subst hk
  have hV := V_u64s L W cs hcs (by rw [u64s_len]; omega)
  rw [u64s_len] at hV
  refine (union_w (m : Int) _ _ _ _ L _ hV (fun x hx => may_64 hm (h x hx)) (by omega) (r, 0) ?_).mono ?_
  · unfold uniR
    rw [if_pos (chk_all hm h), hr, if_neg h0]
  · rintro e w' ⟨rfl, rfl⟩
    exact ⟨rfl, below_alloc (Below.refl _ W) (.cells cs 24)⟩
/-- Whether they may be, by both. -/
theorem chkl_w (t : Int) (L : List Nat) (h : ∀ x ∈ L, x < 2 ^ 64) (hl : L.length < 100) (W : World) (cs : Array Value) (hcs : cs.toList = (u64s L).map (.int .u64 ·)) (n k : Nat) (hn : n = W.heap.size) (hk : k = L.length) :
    Calls Tryd.prog 21 #[.int .i64 t, .slice (some ⟨n, 0, none⟩) k k] (W.alloc (.cells cs 24)) fun e w' => e = .returned (.int .i64 (chkF t L)) ∧ w' = W.alloc (.cells cs 24) := by
  subst hn
  subst hk
  have hV := V_u64s L W cs hcs (by rw [u64s_len]; omega)
  rw [u64s_len] at hV
  exact check_w t _ _ _ _ L _ hV h (by omega)
theorem rchkl_w (t : Int) (L : List Nat) (h : ∀ x ∈ L, x < 2 ^ 64) (hl : L.length < 100) (W : World) (cs : Array Value) (hcs : cs.toList = (u64s L).map (.int .u64 ·)) (n k : Nat) (hn : n = W.heap.size) (hk : k = L.length) :
    Calls Tryd.prog 22 #[.int .i64 t, .slice (some ⟨n, 0, none⟩) k k] (W.alloc (.cells cs 24)) fun e w' => e = .returned (.int .i64 (chkF t L)) ∧ w' = W.alloc (.cells cs 24) := by
  subst hn
  subst hk
  have hV := V_u64s L W cs hcs (by rw [u64s_len]; omega)
  rw [u64s_len] at hV
  exact rcheck_w t _ _ _ _ L _ hV h (by omega)
theorem two_of {p : Nat → Prop} {x y : Nat} (hx : p x) (hy : p y) : ∀ z ∈ [x, y], p z := by
  intro z hz
  rcases List.mem_cons.1 hz with rfl | hz
  · exact hx
  · rw [List.mem_singleton] at hz; subst hz; exact hy
theorem three_of {p : Nat → Prop} {x y u : Nat} (hx : p x) (hy : p y) (hu : p u) : ∀ z ∈ [x, y, u], p z := by
  intro z hz
  rcases List.mem_cons.1 hz with rfl | hz
  · exact hx
  · exact two_of hy hu z hz
theorem sumF_two {m x y : Nat} (hm : m ≤ 62) (hx : may m x = true) : sumF m [x, y] = addF m x y := by
  show addF m (addF m 1 x) y = _
  rw [one_addF hm hx]
theorem sumF_three {m x y z : Nat} (hm : m ≤ 62) (hx : may m x = true) : sumF m [x, y, z] = addF m (addF m x y) z := by
  show addF m (addF m (addF m 1 x) y) z = _
  rw [one_addF hm hx]
theorem uniF_two (x y : Nat) : uniF [x, y] = x ||| y := by
  show 0 ||| x ||| y = _
  rw [Nat.zero_or]
set_option maxRecDepth 100000 in
set_option maxHeartbeats 4000000 in
theorem alglaw_walk (t : Int) (a b c : Int) (w : World) (_hw0 : (Lit.int .i64 t).wf = true) (ha0 : (Lit.int .u64 a).wf = true) (hb0 : (Lit.int .u64 b).wf = true) (hc0 : (Lit.int .u64 c).wf = true) :
    Calls Tryd.prog 6 #[.int .i64 t, .int .u64 a, .int .u64 b, .int .u64 c] w fun e w' => e = .returned (.bool true) ∧ Below w.heap.size w w' := by
  obtain ⟨a, rfl, ha64⟩ := wf_u64 ha0
  obtain ⟨b, rfl, hb64⟩ := wf_u64 hb0
  obtain ⟨c, rfl, hc64⟩ := wf_u64 hc0
  clear _hw0 ha0 hb0 hc0
  by_cases h0 : chkF t [a, b, c] = 0
  · obtain ⟨m, rfl, hm⟩ := bnd_nat (chk_bnd h0)
    have hall : ([a, b, c].all (may m)) = true := by
      unfold chkF at h0
      rw [if_pos (bnd_of hm)] at h0
      split at h0
      · assumption
      · cases h0
    have ha : may m a = true := List.all_eq_true.1 hall a (by simp)
    have hb : may m b = true := List.all_eq_true.1 hall b (by simp)
    have hc : may m c = true := List.all_eq_true.1 hall c (by simp)
    have hab := may_add hm ha hb
    have hu := may_or ha hb
    have hbc := may_add hm hb hc
    have hac := may_add hm ha hc
    have hvv := may_add hm hu hc
    have eu : b ||| a = a ||| b := Nat.or_comm _ _
    have ev : addF m b c ||| addF m a c = addF m (a ||| b) c := by rw [addF_or hm, Nat.or_comm]
    have R0 := fun (W : World) => rchkl_w (m : Int) [a, b, c] (three_of ha64 hb64 hc64) (by simp) W #[.int .u64 (a : Nat), .int .u64 (b : Nat), .int .u64 (c : Nat)] rfl
    rw [h0] at R0
    have c0 := fun (W : World) => suml_w hm [a, b] (two_of ha hb) (by simp) (addF m a b) (sumF_two hm ha) W #[.int .u64 (a : Nat), .int .u64 (b : Nat)] rfl
    have c1 := fun (W : World) => suml_w hm [b, a] (two_of hb ha) (by simp) (addF m a b) ((sumF_two hm hb).trans (addF_comm hm _ _)) W #[.int .u64 (b : Nat), .int .u64 (a : Nat)] rfl
    have c2 := fun (W : World) => suml_w hm [addF m a b, c] (two_of hab hc) (by simp) (addF m (addF m a b) c) (sumF_two hm hab) W #[.int .u64 (addF m a b : Nat), .int .u64 (c : Nat)] rfl
    have c3 := fun (W : World) => suml_w hm [a, b, c] (three_of ha hb hc) (by simp) (addF m (addF m a b) c) (sumF_three hm ha) W #[.int .u64 (a : Nat), .int .u64 (b : Nat), .int .u64 (c : Nat)] rfl
    have c4 := fun (W : World) => unil_w hm [a, b] (two_of ha hb) (by simp) (a ||| b) (may_nz hu) (uniF_two _ _) W #[.int .u64 (a : Nat), .int .u64 (b : Nat)] rfl
    have c5 := fun (W : World) => suml_w hm [a ||| b, c] (two_of hu hc) (by simp) (addF m (a ||| b) c) (sumF_two hm hu) W #[.int .u64 (a ||| b : Nat), .int .u64 (c : Nat)] rfl
    have c6 := fun (W : World) => suml_w hm [b, c] (two_of hb hc) (by simp) (addF m b c) (sumF_two hm hb) W #[.int .u64 (b : Nat), .int .u64 (c : Nat)] rfl
    have c7 := fun (W : World) => suml_w hm [a, c] (two_of ha hc) (by simp) (addF m a c) (sumF_two hm ha) W #[.int .u64 (a : Nat), .int .u64 (c : Nat)] rfl
    have c8 := fun (W : World) => unil_w hm [addF m b c, addF m a c] (two_of hbc hac) (by simp) (addF m (a ||| b) c) (may_nz hvv) ((uniF_two _ _).trans ev) W #[.int .u64 (addF m b c : Nat), .int .u64 (addF m a c : Nat)] rfl
    have c9 := fun (W : World) => suml_w hm [a, 1] (two_of ha (may_one m)) (by simp) a ((sumF_two hm ha).trans (addF_one hm ha)) W #[.int .u64 (a : Nat), .int .u64 1] rfl
    have c10 := fun (W : World) => unil_w hm [b, a] (two_of hb ha) (by simp) (a ||| b) (may_nz hu) ((uniF_two _ _).trans eu) W #[.int .u64 (b : Nat), .int .u64 (a : Nat)] rfl
    simp only [List.length_cons, List.length_nil, Nat.zero_add, Nat.reduceAdd] at R0 c0 c1 c2 c3 c4 c5 c6 c7 c8 c9 c10
    generalize addF m (addF m a b) c = p at *
    generalize addF m (a ||| b) c = v at *
    generalize addF m a b = ab at *
    generalize addF m b c = bc at *
    generalize addF m a c = ac at *
    generalize (a ||| b) = u at *
    have e1 : ((0 : Int) != 0) = false := rfl
    have HR0 := Lib.hid R0
    have H0 := Lib.hid c0
    have H1 := Lib.hid c1
    have H2 := Lib.hid c2
    have H3 := Lib.hid c3
    have H4 := Lib.hid c4
    have H5 := Lib.hid c5
    have H6 := Lib.hid c6
    have H7 := Lib.hid c7
    have H8 := Lib.hid c8
    have H9 := Lib.hid c9
    have H10 := Lib.hid c10
    clear R0 c0 c1 c2 c3 c4 c5 c6 c7 c8 c9 c10 h0 hall ha hb hc hab hu hbc hac hvv eu ev ha64 hb64 hc64
    go_enter Tryd.func6, Tryd.ntmps6
    go_wp2_with fail
    refine (awake_w _).mono ?_
    rintro e w0 ⟨rfl, hb0⟩
    have HB0 := Lib.hid hb0
    clear hb0
    go_wp2_with fail
    refine (HR0.out _ _ _ rfl rfl).mono ?_
    rintro e wr ⟨rfl, rfl⟩
    go_wp2_with fail
    have HBA := Lib.hid (below_alloc HB0.out (.cells #[.int .u64 (a : Nat), .int .u64 (b : Nat), .int .u64 (c : Nat)] 24))
    refine (H0.out _ _ _ (by simp only [World.size_alloc]) rfl).mono ?_
    rintro e w1 ⟨rfl, hb1⟩
    have HB1 := Lib.hid (HBA.out.trans (hb1.mono HBA.out.size))
    clear hb1 HBA HB0 H0
    go_wp2_with fail
    refine (H1.out _ _ _ rfl rfl).mono ?_
    rintro e w2 ⟨rfl, hb2⟩
    have HB2 := Lib.hid (HB1.out.trans (hb2.mono HB1.out.size))
    clear hb2 HB1 H1
    go_wp2_with fail
    refine (H2.out _ _ _ rfl rfl).mono ?_
    rintro e w3 ⟨rfl, hb3⟩
    have HB3 := Lib.hid (HB2.out.trans (hb3.mono HB2.out.size))
    clear hb3 HB2 H2
    go_wp2_with fail
    refine (H3.out _ _ _ rfl rfl).mono ?_
    rintro e w4 ⟨rfl, hb4⟩
    have HB4 := Lib.hid (HB3.out.trans (hb4.mono HB3.out.size))
    clear hb4 HB3 H3
    go_wp2_with fail
    refine (H4.out _ _ _ rfl rfl).mono ?_
    rintro e w5 ⟨rfl, hb5⟩
    have HB5 := Lib.hid (HB4.out.trans (hb5.mono HB4.out.size))
    clear hb5 HB4 H4
    go_wp2_with fail
    refine (H5.out _ _ _ rfl rfl).mono ?_
    rintro e w6 ⟨rfl, hb6⟩
    have HB6 := Lib.hid (HB5.out.trans (hb6.mono HB5.out.size))
    clear hb6 HB5 H5
    go_wp2_with fail
    refine (H6.out _ _ _ rfl rfl).mono ?_
    rintro e w7 ⟨rfl, hb7⟩
    have HB7 := Lib.hid (HB6.out.trans (hb7.mono HB6.out.size))
    clear hb7 HB6 H6
    go_wp2_with fail
    refine (H7.out _ _ _ rfl rfl).mono ?_
    rintro e w8 ⟨rfl, hb8⟩
    have HB8 := Lib.hid (HB7.out.trans (hb8.mono HB7.out.size))
    clear hb8 HB7 H7
    go_wp2_with fail
    refine (H8.out _ _ _ rfl rfl).mono ?_
    rintro e w9 ⟨rfl, hb9⟩
    have HB9 := Lib.hid (HB8.out.trans (hb9.mono HB8.out.size))
    clear hb9 HB8 H8
    go_wp2_with fail
    refine (H9.out _ _ _ rfl rfl).mono ?_
    rintro e w10 ⟨rfl, hb10⟩
    have HB10 := Lib.hid (HB9.out.trans (hb10.mono HB9.out.size))
    clear hb10 HB9 H9
    go_wp2_with fail
    refine (H10.out _ _ _ rfl rfl).mono ?_
    rintro e w11 ⟨rfl, hb11⟩
    have HB11 := Lib.hid (HB10.out.trans (hb11.mono HB10.out.size))
    clear hb11 HB10 H10
    go_wp2_with fail
    go_ret
    exact ⟨rfl, HB11.out⟩
  · have R0 := fun (W : World) => rchkl_w t [a, b, c] (three_of ha64 hb64 hc64) (by simp) W #[.int .u64 (a : Nat), .int .u64 (b : Nat), .int .u64 (c : Nat)] rfl
    have c0 := fun (W : World) => chkl_w t [a, b, c] (three_of ha64 hb64 hc64) (by simp) W #[.int .u64 (a : Nat), .int .u64 (b : Nat), .int .u64 (c : Nat)] rfl
    simp only [List.length_cons, List.length_nil, Nat.zero_add, Nat.reduceAdd] at R0 c0
    generalize chkF t [a, b, c] = z at *
    have e0 : (z != 0) = true := by simpa using h0
    have HR0 := Lib.hid R0
    have H0 := Lib.hid c0
    clear R0 c0 h0 ha64 hb64 hc64
    go_enter Tryd.func6, Tryd.ntmps6
    go_wp2_with fail
    refine (awake_w _).mono ?_
    rintro e w0 ⟨rfl, hb0⟩
    have HB0 := Lib.hid hb0
    clear hb0
    go_wp2_with fail
    refine (HR0.out _ _ _ rfl rfl).mono ?_
    rintro e wr ⟨rfl, rfl⟩
    go_wp2_with fail
    refine (H0.out _ _ _ (by simp only [World.size_alloc]) rfl).mono ?_
    rintro e w1 ⟨rfl, rfl⟩
    go_wp2_with fail
    refine (HR0.out _ _ _ (by simp only [World.size_alloc]) rfl).mono ?_
    rintro e w2 ⟨rfl, rfl⟩
    go_wp2_with fail
    go_ret
    exact ⟨rfl, below_alloc (below_alloc (below_alloc HB0.out _) _) _⟩
end Go.Proofs.YtgekpnbgmbbbdaaDoor
