/- The walk of BddRefs. -/
import Derived.Test.YtbglnddjhlefnaaTv
namespace Go.Proofs.Ytbglnddjhlefnaa
open Go Go.RowKit Go.Proofs.YtbglnddjhlefnaaW.PrintWords Go.Proofs.YtbglnddjhlefnaaW.PrintLast Go.Proofs.YtbglnddjhlefnaaW.PrintMore
/-- An element of a slice of texts that is read. -/
theorem V_str {w : World} {e b : Nat} {ok : Nat → Prop} {A : Option Addr} {n c : Nat} {xs : List ByteArray} (h : Kd.V Kd.string e w b ok (.slice A n c) xs) (i : Nat) (hi : i < xs.length) :
    ∃ ad x, A = some ad ∧ w.cell? (ad.add i) = some (.string x) ∧ Hid (x = xs.getD i ⟨#[]⟩) ∧ ok ad.block := by
  obtain ⟨hn, hl, hF⟩ := Kd.V_at h
  obtain ⟨ad, c, e, hs, hr, hcell, hok⟩ := Kd.F_get hF ⟨#[]⟩ (i : Int) (by omega) (by omega)
  have hr' : c = [Value.string (xs.getD ((i : Int)).toNat ⟨#[]⟩)] := Kd.FK_now hr
  subst hr'
  have := hcell 0 _ rfl
  exact ⟨ad, _, e, by simpa [Kd.string, Kd.scalar] using this, rfl, hok (by show 0 < 1; omega)⟩
section
variable {g : Nat} {S : Nat → Prop} {T : Bd} {w : World}
/-- Cube, whatever the text. -/
theorem cube_any (h : Tab g S T w) (hf : Fine T) (hN : T.N.length + 128 ≤ T.lim) (s : ByteArray) : Calls Try.prog 16 #[.pointer (some ⟨g, 0, none⟩), .string s] w (TwP g S (cubeR T s.data.toList) w) := by
  by_cases hl : s.data.toList.length = T.bits
  · have hlim := hf.lim
    have hb2 := hf.b2
    refine cube_w h hf.wf s hl hf.b2 (by omega) (by omega) hf.nd (fun a N1 hc => ?_)
    have OK := cubeG_ok hf.wf s.data.toList 0 (by omega)
    rw [hc] at OK
    refine (hf.grow OK.wf OK.pre).room (OK.val a rfl).1 ?_
    have hn : N1.length ≤ T.N.length + s.data.toList.length := OK.new
    show N1.length ≤ T.lim
    omega
  · have : cubeR T s.data.toList = (0, 21, T) := by unfold cubeR; rw [if_pos hl]
    rw [this]
    exact cube_len h s hl
end
theorem cubeR_keep (T : Bd) (s : List UInt8) : (cubeR T s).2.2.bits = T.bits ∧ (cubeR T s).2.2.lim = T.lim := by
  unfold cubeR
  split
  · exact ⟨rfl, rfl⟩
  · split <;> exact ⟨rfl, rfl⟩
theorem cubeR_len {T : Bd} (hf : Fine T) (s : List UInt8) : (cubeR T s).2.2.N.length ≤ T.N.length + 128 := by
  have hb2 := hf.b2
  unfold cubeR
  split
  · simp only; omega
  · rename_i hl
    have OK := cubeG_ok hf.wf s 0 (by omega)
    have := OK.new
    generalize cubeG T.N s 0 = x at this
    obtain ⟨o, N1⟩ := x
    cases o <;> simp only [tellF] at this ⊢ <;> omega
/-- A ref that is told is one that was told, or the one that Cube tells. -/
theorem cubeR_refs {T : Bd} (s : List UInt8) (bad : Int) (h : okR (cubeR T s).2.2.refs bad = true) : okR T.refs bad = true ∨ ((cubeR T s).2.1 = 0 ∧ ((cubeR T s).1 : Int) = bad) := by
  unfold cubeR at h ⊢
  split
  · rename_i hl
    rw [if_pos hl] at h
    exact .inl h
  · rename_i hl
    rw [if_neg hl] at h
    generalize cubeG T.N s 0 = x at h
    obtain ⟨o, N1⟩ := x
    cases o with
    | none => exact .inl h
    | some a =>
      simp only [tellF] at h ⊢
      by_cases ha : 1 < a
      · rw [if_pos ha] at h
        unfold okR inS at h ⊢
        simp only [List.any_cons, Bool.or_eq_true, beq_iff_eq] at h ⊢
        rcases h with h | h | h | h
        · exact .inl (.inl h)
        · exact .inl (.inr (.inl h))
        · exact .inr ⟨trivial, h⟩
        · exact .inl (.inr (.inr h))
      · rw [if_neg ha] at h
        exact .inl h
/-- The loop over cubes, under way. -/
structure RfR (g : Nat) (bits : Nat) (bad : Int) (kn : Bool) (i : Nat) (w wr : World) (T : Bd) (S : Nat → Prop) : Prop where
  tab : Tab g S T wr
  fine : Fine T
  lim : T.lim = 1048576
  len : T.N.length ≤ i * 128
  own : Own w.heap.size S w wr
  refs : okR T.refs bad = true → kn = true
theorem RfR.next {g bits : Nat} {bad : Int} {kn : Bool} {i : Nat} {w wr w' : World} {T : Bd} {S S' : Nat → Prop} (h : RfR g bits bad kn i w wr T S) (s : List UInt8) (ht : Tab g S' (cubeR T s).2.2 w') (hg : Gr S S' wr w') (kn' : Bool) (hk : kn = true → kn' = true) (hk2 : (cubeR T s).2.1 = 0 → ((cubeR T s).1 : Int) = bad → kn' = true) : RfR g bits bad kn' (i + 1) w w' (cubeR T s).2.2 S' := by
  have hl := cubeR_len h.fine s
  have hi := h.len
  refine ⟨ht, h.fine.cube s, (cubeR_keep T s).2.trans h.lim, by omega, h.own.gr (Nat.le_refl _) hg, fun hr => ?_⟩
  rcases cubeR_refs s bad hr with h1 | ⟨h1, h2⟩
  · exact hk (h.refs h1)
  · exact hk2 h1 h2
theorem cubeR_err (T : Bd) (s : List UInt8) : (cubeR T s).2.1 = 0 ∨ (cubeR T s).2.1 = 21 := by
  unfold cubeR
  split
  · exact .inr rfl
  · split
    · exact .inr rfl
    · exact .inl rfl
theorem bad_one {refs : List Nat} {bad : Int} (h : okR refs bad = false) : ([bad] : List Int).all (okR refs) = false := by simp [h]
theorem bad_fst {refs : List Nat} {bad : Int} (h : okR refs bad = false) (x : Int) : ([bad, x] : List Int).all (okR refs) = false := by simp [h]
theorem bad_snd {refs : List Nat} {bad : Int} (h : okR refs bad = false) (x : Int) : ([x, bad] : List Int).all (okR refs) = false := by simp [h]
theorem bad_3a {refs : List Nat} {bad : Int} (h : okR refs bad = false) (x y : Int) : ([bad, x, y] : List Int).all (okR refs) = false := by simp [h]
theorem bad_3b {refs : List Nat} {bad : Int} (h : okR refs bad = false) (x y : Int) : ([x, bad, y] : List Int).all (okR refs) = false := by simp [h]
theorem And_bad2 {g : Nat} {S : Nat → Prop} {T : Bd} {W : World} {bad : Int} (h : Tab g S T W) (hb : okR T.refs bad = false) : Calls Try.prog 17 #[.pointer (some ⟨g, 0, none⟩), .slice (some ⟨W.heap.size, 0, none⟩) 2 2] (W.alloc (.cells #[.int .i64 1, .int .i64 bad] 26)) fun e w' => e = .returned (.tuple #[.int .i64 0, .int .i64 22]) ∧ Below W.heap.size W w' :=
  (And_bad (xs := [1, bad]) (A := some ⟨W.heap.size, 0, none⟩) (c0 := 2) (h.below (below_alloc (Below.refl _ _) _)) (new_refs [1, bad] [.int .i64 1, .int .i64 bad] rfl W (by simp) W.heap.size 2 rfl rfl) (by simp) (bad_snd hb 1)).mono (fun _ _ ⟨he, hb2⟩ => ⟨he, below_trans' (below_alloc (Below.refl _ _) _) hb2 (by rw [World.size_alloc]; omega)⟩)
theorem Or_bad2 {g : Nat} {S : Nat → Prop} {T : Bd} {W : World} {bad : Int} (h : Tab g S T W) (hb : okR T.refs bad = false) : Calls Try.prog 14 #[.pointer (some ⟨g, 0, none⟩), .slice (some ⟨W.heap.size, 0, none⟩) 2 2] (W.alloc (.cells #[.int .i64 bad, .int .i64 1] 26)) fun e w' => e = .returned (.tuple #[.int .i64 0, .int .i64 22]) ∧ Below W.heap.size W w' :=
  (Or_bad (xs := [bad, 1]) (A := some ⟨W.heap.size, 0, none⟩) (c0 := 2) (h.below (below_alloc (Below.refl _ _) _)) (new_refs [bad, 1] [.int .i64 bad, .int .i64 1] rfl W (by simp) W.heap.size 2 rfl rfl) (by simp) (bad_fst hb 1)).mono (fun _ _ ⟨he, hb2⟩ => ⟨he, below_trans' (below_alloc (Below.refl _ _) _) hb2 (by rw [World.size_alloc]; omega)⟩)
theorem Keep_bad2 {g : Nat} {S : Nat → Prop} {T : Bd} {W : World} {bad : Int} (h : Tab g S T W) (hb : okR T.refs bad = false) : Calls Try.prog 25 #[.pointer (some ⟨g, 0, none⟩), .slice (some ⟨W.heap.size, 0, none⟩) 1 1] (W.alloc (.cells #[.int .i64 bad] 26)) fun e w' => e = .returned (.tuple #[.slice none 0 0, .int .i64 22]) ∧ Below W.heap.size W w' :=
  (Keep_bad (xs := [bad]) (A := some ⟨W.heap.size, 0, none⟩) (c0 := 1) (h.below (below_alloc (Below.refl _ _) _)) (new_refs [bad] [.int .i64 bad] rfl W (by simp) W.heap.size 1 rfl rfl) (by simp) (bad_one hb)).mono (fun _ _ ⟨he, hb2⟩ => ⟨he, below_trans' (below_alloc (Below.refl _ _) _) hb2 (by rw [World.size_alloc]; omega)⟩)
set_option maxRecDepth 100000 in
set_option maxHeartbeats 4000000 in
theorem refs_bad (bits : Int) (v : Value) (bad : Int) (w : World) (hb : bits < 1 ∨ 128 < bits) : Calls Try.prog 5 #[.int .i64 bits, v, .int .i64 bad] w fun e w' => e = .returned (.bool true) ∧ Below w.heap.size w w' := by
  have HN := Lib.hid (New_bad (w := w) bits 1048576 (by omega))
  have HAW := Lib.hid (awake_w w)
  clear hb
  go_enter Try.func5, Try.ntmps5
  go_wp2_with fail
  refine HN.out.mono ?_
  rintro e w1 ⟨rfl, rfl⟩
  go_wp2_with fail
  refine HAW.out.mono ?_
  rintro e w1 ⟨rfl, hb⟩
  have HB := Lib.hid hb
  clear hb
  go_wp2_with fail
  go_ret
  exact ⟨rfl, HB.out⟩
set_option maxRecDepth 100000 in
set_option maxHeartbeats 8000000 in
theorem refs_w (bits : Nat) (A : Option Addr) (c : Nat) (xs : List ByteArray) (bad : Int) (w : World) (h1 : 1 ≤ bits) (h2 : bits ≤ 128) (hV : Kd.V Kd.string 9 w 0 (fun k => k < w.heap.size) (.slice A xs.length c) xs) (hl : xs.length ≤ 140737488351232) :
    Calls Try.prog 5 #[.int .i64 bits, .slice A xs.length c, .int .i64 bad] w fun e w' => e = .returned (.bool true) ∧ Below w.heap.size w w' := by
  have HN : Hid (Calls Try.prog 19 #[.int .i64 bits, .int .i64 1048576] w fun e w' => ∃ g S, e = .returned (.tuple #[.pointer (some ⟨g, 0, none⟩), .int .i64 0]) ∧ Tab g S (newB bits 1048576) w' ∧ (∀ k, S k → w.heap.size ≤ k) ∧ Below w.heap.size w w') := Lib.hid (New_w (w := w) bits 1048576 h1 h2 (by omega))
  have HF := Lib.hid (Fine.new h1 h2 (show 1048576 ≤ 1048576 from Nat.le_refl _))
  have HV : Hid (∀ w', Below w.heap.size w w' → Kd.V Kd.string 9 w' 0 (fun k => k < w.heap.size) (.slice A xs.length c) xs) := Lib.hid (fun w' hb => Kd.V_step hV (fun k hk _ => hb.block k hk))
  have HAW := Lib.hid awake_w
  obtain ⟨n, hn⟩ : ∃ n, n = xs.length := ⟨_, rfl⟩
  rw [← hn] at HV ⊢
  have hln : n ≤ 140737488351232 := by omega
  have HNN := Lib.hid hn
  clear hV hl hn h1 h2
  obtain ⟨k0, hk0⟩ : ∃ k0, (bad == 0 || bad == 1) = k0 := ⟨_, rfl⟩
  have HK0 := Lib.hid hk0
  clear hk0
  go_enter Try.func5, Try.ntmps5
  go_wp2_with fail
  refine HN.out.mono ?_
  rintro e w1 ⟨g, S1, rfl, q1, q2, q3⟩
  have R1 : Hid (Tab g S1 (newB bits 1048576) w1 ∧ Own w.heap.size S1 w w1) := Lib.hid ⟨q1, q2, q3⟩
  clear q1 q2 q3 HN
  go_wp2_with fail
  refine (HAW.out w1).mono ?_
  rintro e w2 ⟨rfl, hb⟩
  have R2 : Hid (Tab g S1 (newB bits 1048576) w2 ∧ Own w.heap.size S1 w w2) := Lib.hid ⟨R1.out.1.below hb, R1.out.2.below (Nat.le_refl _) hb⟩
  clear hb R1 HAW
  have HST : Hid (∃ T S, RfR g bits bad k0 0 w w2 T S) := Lib.hid ⟨_, _, R2.out.1, HF.out, rfl, by simp [newB], R2.out.2, fun h => by
    rw [← HK0.out]
    unfold okR inS newB at h
    simpa using h⟩
  clear R2 HF
  go_upto_region 6 with fail
  go_cut [9] (fun v9 wx => v9 = .bool k0 ∧ wx = w2)
  case first =>
    cases hx0 : (bad == 0) with
    | true =>
      have : k0 = true := by rw [← HK0.out, hx0]; rfl
      subst this
      go_wp2_with fail
      go_meet
      exact ⟨rfl, rfl⟩
    | false =>
      have : k0 = (bad == 1) := by rw [← HK0.out, hx0]; rfl
      subst this
      go_wp2_with fail
      go_meet
      exact ⟨rfl, rfl⟩
  case rest =>
    obtain ⟨rfl, rfl⟩ := hcut
    go_wp2_with fail
    go_loopw [9, 10] (fun v9 v10 wr => ∃ (kn : Bool) (i : Nat), v9 = .bool kn ∧ v10 = .int .i64 i ∧ i ≤ n ∧ i ≤ 30 ∧ Hid (∃ T S, RfR g bits bad kn i w wr T S)) (fun _ v10 _ => n - (intOf v10).toNat)
    case atStart => exact ⟨k0, 0, rfl, rfl, Nat.zero_le _, by omega, HST⟩
    case round =>
      clear HST HK0
      obtain ⟨kn, i, rfl, rfl, hi, hi30, hrel⟩ := hrel
      by_cases hgo : i < n ∧ i < 30
      · obtain ⟨hlt, hlt30⟩ := hgo
        obtain ⟨T, S, hR⟩ := hrel.out
        obtain ⟨ad, x, rfl, hc, HX, _⟩ := V_str (HV.out wr hR.own.bw) i (by rw [← HNN.out]; exact hlt)
        have hi64 : (i : Int) < (n : Int) := by omega
        have hi64b : decide ((i : Int) < (n : Int)) = true := decide_eq_true hi64
        have hi30a : (i : Int) < 30 := by omega
        have hi30b : decide ((i : Int) < 30) = true := decide_eq_true hi30a
        have hi30c : decide (i < 30) = true := decide_eq_true hlt30
        have hlen : T.N.length + 128 ≤ T.lim := by have h1 := hR.len; have h2 := hR.lim; omega
        have HCU := Lib.hid (cube_any hR.tab hR.fine hlen x)
        have herr := cubeR_err T x.data.toList
        have HRR := Lib.hid hR
        obtain ⟨a, ha⟩ : ∃ a, a = (cubeR T x.data.toList).1 := ⟨_, rfl⟩
        obtain ⟨f, hf⟩ : ∃ f, f = (cubeR T x.data.toList).2.1 := ⟨_, rfl⟩
        rw [← hf] at herr
        have HCU : Hid (Calls Try.prog 16 #[.pointer (some ⟨g, 0, none⟩), .string x] wr fun e w' => e = .returned (.tuple #[.int .i64 a, .int .i64 f]) ∧ ∃ S', Tab g S' (cubeR T x.data.toList).2.2 w' ∧ Gr S S' wr w') := by rw [ha, hf]; exact HCU
        have HA := Lib.hid ha
        have HF2 := Lib.hid hf
        have HERR := Lib.hid herr
        clear hR hrel ha hf herr hlen
        go_wp2_with fail
        refine HCU.out.mono ?_
        rintro e w3 ⟨rfl, S', q1, q2⟩
        have HNX : Hid (∀ kn' : Bool, (kn = true → kn' = true) → ((f : Nat) = 0 → (a : Int) = bad → kn' = true) → RfR g bits bad kn' (i + 1) w w3 (cubeR T x.data.toList).2.2 S') := Lib.hid (fun kn' hk hk2 => HRR.out.next x.data.toList q1 q2 kn' hk (fun h0 h1 => hk2 (HF2.out.trans h0) (by rw [HA.out]; exact h1)))
        clear q1 q2 HCU
        cases kn with
        | true =>
          go_wp2_with fail
          go_roundw
          case rel => exact ⟨true, i + 1, rfl, by go_num, by omega, by omega, Lib.hid ⟨_, _, HNX.out true (fun _ => rfl) (fun _ _ => rfl)⟩⟩
          case measure => simp [intOf]; omega
        | false =>
          rcases HERR.out with h0 | h0
          · subst h0
            cases hab : ((a : Int) == bad) with
            | true =>
              go_wp2_with fail
              go_roundw
              case rel => exact ⟨true, i + 1, rfl, by go_num, by omega, by omega, Lib.hid ⟨_, _, HNX.out true (fun h => rfl) (fun _ _ => rfl)⟩⟩
              case measure => simp [intOf]; omega
            | false =>
              have hne : (a : Int) ≠ bad := by simpa using hab
              have HNE := Lib.hid hne
              clear hne
              go_wp2_with fail
              go_roundw
              case rel => exact ⟨false, i + 1, rfl, by go_num, by omega, by omega, Lib.hid ⟨_, _, HNX.out false (fun h => h) (fun _ h1 => absurd h1 HNE.out)⟩⟩
              case measure => simp [intOf]; omega
          · subst h0
            go_wp2_with fail
            go_roundw
            case rel => exact ⟨false, i + 1, rfl, by go_num, by omega, by omega, Lib.hid ⟨_, _, HNX.out false (fun h => h) (fun h1 _ => by cases h1)⟩⟩
            case measure => simp [intOf]; omega
      · obtain ⟨T, S, hR⟩ := hrel.out
        have hx : (decide ((i : Int) < (n : Int)) = false ∧ decide (i < n) = false) ∨ (((i : Int) < (n : Int)) ∧ decide ((i : Int) < 30) = false ∧ decide (i < 30) = false) := by
          by_cases hin : i < n
          · right
            have h30 : ¬ i < 30 := fun h => hgo ⟨hin, h⟩
            exact ⟨by omega, decide_eq_false (by omega), decide_eq_false h30⟩
          · left
            exact ⟨decide_eq_false (by omega), decide_eq_false hin⟩
        cases kn with
        | true =>
          have HB := Lib.hid hR.own.bw
          clear hR hrel hgo
          rcases hx with ⟨x1, x2⟩ | ⟨x1, x2, x3⟩
          all_goals
            go_wp2_with fail
            go_ret
            exact ⟨rfl, HB.out⟩
        | false =>
          have BAD : Hid (okR T.refs bad = false) := Lib.hid (by
            cases hq : okR T.refs bad with
            | false => rfl
            | true => exact absurd (hR.refs hq) (by decide))
          have FN := Lib.hid hR.fine.nd
          have RR : Hid (Tab g S T wr ∧ Below w.heap.size w wr) := Lib.hid ⟨hR.tab, hR.own.bw⟩
          clear hR hrel hgo
          rcases hx with ⟨x1, x2⟩ | ⟨x1, x2, x3⟩
          all_goals
            go_wp2_with fail
            refine (Size_w RR.out.1 FN.out).mono ?_
            rintro e v0 ⟨rfl, rfl⟩
            obtain ⟨sz, hsz⟩ : ∃ sz, sz = T.used.length := ⟨_, rfl⟩
            rw [← hsz]
            have HSZ := Lib.hid hsz
            clear hsz
            go_wp2_with fail
            refine (And_bad2 RR.out.1 BAD.out).mono ?_
            rintro e v1 ⟨rfl, hb⟩
            replace RR := Lib.hid (show Tab g S T v1 ∧ Below w.heap.size w v1 from ⟨RR.out.1.below hb, below_trans' RR.out.2 hb RR.out.2.size⟩)
            clear hb
            go_wp2_with fail
            refine (Or_bad2 RR.out.1 BAD.out).mono ?_
            rintro e v2 ⟨rfl, hb⟩
            replace RR := Lib.hid (show Tab g S T v2 ∧ Below w.heap.size w v2 from ⟨RR.out.1.below hb, below_trans' RR.out.2 hb RR.out.2.size⟩)
            clear hb
            go_wp2_with fail
            refine (Not_bad RR.out.1 bad (bad_3a BAD.out 0 1)).mono ?_
            rintro e v3 ⟨rfl, hb⟩
            replace RR := Lib.hid (show Tab g S T v3 ∧ Below w.heap.size w v3 from ⟨RR.out.1.below hb, below_trans' RR.out.2 hb RR.out.2.size⟩)
            clear hb
            go_wp2_with fail
            refine (Diff_bad RR.out.1 1 bad (bad_3a BAD.out 0 1)).mono ?_
            rintro e v4 ⟨rfl, hb⟩
            replace RR := Lib.hid (show Tab g S T v4 ∧ Below w.heap.size w v4 from ⟨RR.out.1.below hb, below_trans' RR.out.2 hb RR.out.2.size⟩)
            clear hb
            go_wp2_with fail
            refine (Ite_bad RR.out.1 0 bad 1 (bad_3b BAD.out 0 1)).mono ?_
            rintro e v5 ⟨rfl, hb⟩
            replace RR := Lib.hid (show Tab g S T v5 ∧ Below w.heap.size w v5 from ⟨RR.out.1.below hb, below_trans' RR.out.2 hb RR.out.2.size⟩)
            clear hb
            go_wp2_with fail
            refine (Has_bad RR.out.1 bad ⟨#[48]⟩ (bad_one BAD.out)).mono ?_
            rintro e v6 ⟨rfl, hb⟩
            replace RR := Lib.hid (show Tab g S T v6 ∧ Below w.heap.size w v6 from ⟨RR.out.1.below hb, below_trans' RR.out.2 hb RR.out.2.size⟩)
            clear hb
            go_wp2_with fail
            refine (Any_bad RR.out.1 bad (bad_one BAD.out)).mono ?_
            rintro e v7 ⟨rfl, hb⟩
            replace RR := Lib.hid (show Tab g S T v7 ∧ Below w.heap.size w v7 from ⟨RR.out.1.below hb, below_trans' RR.out.2 hb RR.out.2.size⟩)
            clear hb
            go_wp2_with fail
            refine (Cubes_bad RR.out.1 bad (-1) (bad_one BAD.out)).mono ?_
            rintro e v8 ⟨rfl, hb⟩
            replace RR := Lib.hid (show Tab g S T v8 ∧ Below w.heap.size w v8 from ⟨RR.out.1.below hb, below_trans' RR.out.2 hb RR.out.2.size⟩)
            clear hb
            go_wp2_with fail
            refine (List_bad RR.out.1 bad (bad_one BAD.out)).mono ?_
            rintro e v9 ⟨rfl, hb⟩
            replace RR := Lib.hid (show Tab g S T v9 ∧ Below w.heap.size w v9 from ⟨RR.out.1.below hb, below_trans' RR.out.2 hb RR.out.2.size⟩)
            clear hb
            go_wp2_with fail
            refine (Keep_bad2 RR.out.1 BAD.out).mono ?_
            rintro e v10 ⟨rfl, hb⟩
            replace RR := Lib.hid (show Tab g S T v10 ∧ Below w.heap.size w v10 from ⟨RR.out.1.below hb, below_trans' RR.out.2 hb RR.out.2.size⟩)
            clear hb
            go_wp2_with fail
            refine (Size_w RR.out.1 FN.out).mono ?_
            rintro e v11 ⟨rfl, rfl⟩
            rw [← HSZ.out]
            have hss : ((sz : Int) == (sz : Int)) = true := by simp
            go_wp2_with fail
            go_ret
            exact ⟨rfl, RR.out.2⟩
theorem refs_law (bits : Int) (v : Value) (xs : List ByteArray) (bad : Int) (w : World) (_ : (Lit.int .i64 bits).wf = true) (hV : Kd.V Kd.string 9 w 0 (fun k => k < w.heap.size) v xs) (hok : (∀ x ∈ xs, x.size ≤ 140737488351232) ∧ xs.length * 16 ≤ 140737488351232) (_ : (Lit.int .i64 bad).wf = true) :
    Calls Try.prog 5 #[.int .i64 bits, v, .int .i64 bad] w fun e w' => e = .returned (.bool true) ∧ Below w.heap.size w w' := by
  by_cases hb : bits < 1 ∨ 128 < bits
  · exact refs_bad bits v bad w hb
  · obtain ⟨b, rfl⟩ : ∃ b : Nat, bits = b := ⟨bits.toNat, by omega⟩
    obtain ⟨A, c, hv, _⟩ := id hV
    subst hv
    exact refs_w b A c xs bad w (by omega) (by omega) hV (by omega)
end Go.Proofs.Ytbglnddjhlefnaa
