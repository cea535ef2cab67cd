/- The messages of two boots, and the walk of between and of Bodies. -/
import Derived.Test.YtlnhjkbhhdcdeaaOa
import Derived.Test.YtlnhjkbhhdcdeaaSq2
namespace Go.Proofs.Ytlnhjkbhhdcdeaa
open Go Go.RowKit Go.Proofs.YtlnhjkbhhdcdeaaW.PrintWords Go.Proofs.YtlnhjkbhhdcdeaaW.PrintLast Go.Proofs.YtlnhjkbhhdcdeaaW.PrintMore
open Go.Proofs.Ytlnhjkbhhdcdeaa.PSessionRuns (S27 k27 z27 S116 k116 z116)
set_option linter.unusedVariables false
set_option maxRecDepth 100000
set_option maxHeartbeats 4000000
attribute [local go_sem] max2_mx min2_mn max_two min_two
def btw (l : List Ma) (a b : Int) : List (List Int) := (l.filter (fun x => x.fr == a && x.to_ == b)).map (·.body)
theorem btw_append (l k : List Ma) (a b : Int) : btw (l ++ k) a b = btw l a b ++ btw k a b := by
  unfold btw
  rw [List.filter_append, List.map_append]
theorem btw_one (x : Ma) (a b : Int) : btw [x] a b = if x.fr == a && x.to_ == b then [x.body] else [] := by
  unfold btw
  rw [List.filter_cons]
  split <;> simp_all
theorem btw_take (l : List Ma) (a b : Int) (i : Nat) (h : i < l.length) : btw (l.take (i + 1)) a b = btw (l.take i) a b ++ (if (l.getD i zMa).fr == a && (l.getD i zMa).to_ == b then [(l.getD i zMa).body] else []) := by
  rw [List.take_add_one, btw_append, List.getElem?_eq_getElem h, List.getD_eq_getElem?_getD, List.getElem?_eq_getElem h]
  exact congrArg _ (btw_one _ _ _)
theorem btw_len (l : List Ma) (a b : Int) : (btw l a b).length ≤ l.length := by
  unfold btw
  rw [List.length_map]
  exact List.length_filter_le _ _
/-- A message of a row that is read. -/
theorem V_mail_at {w : World} {t b : Nat} {ok : Nat → Prop} {A : Option Addr} {n c : Nat} {ms : List Ma} (h : Kd.V k89 t w b ok (.slice A n c) ms) (i : Nat) (hi : i < ms.length) :
    ∃ ad A5 c5, ∃ x : Ma, A = some ad ∧ Hid (x = ms.getD i zMa) ∧ w.cell? (ad.add (i * 3)) = some (.int .u32 x.fr) ∧ w.cell? ⟨(ad.add (i * 3)).block, (ad.add (i * 3)).off + 1, none⟩ = some (.int .u32 x.to_) ∧ w.cell? ⟨(ad.add (i * 3)).block, (ad.add (i * 3)).off + 2, none⟩ = some (.slice A5 x.body.length c5) ∧ Kd.V KB 5 w 0 ok (.slice A5 x.body.length c5) x.body := by
  obtain ⟨hn, hl, hF⟩ := Kd.V_at h
  obtain ⟨ad, cs, e, hs, hr, hcell, _⟩ := Kd.F_get hF zMa (i : Int) (by omega) (by omega)
  obtain ⟨x, hx⟩ : ∃ x, x = ms.getD i zMa := ⟨_, rfl⟩
  rw [show ((i : Int)).toNat = i from Int.toNat_natCast i, ← hx] at hr
  obtain ⟨A5, c5, he, _, _⟩ := k89_open (Kd.FK_now hr)
  have hr' : Kd.FK (Kd.pair (Kd.int .u32) (Kd.pair (Kd.int .u32) (Kd.slice 5 (Kd.int .u8)))) w ok (x.fr, x.to_, x.body) cs := hr
  obtain ⟨_, g2⟩ := FK_pair hr'
  obtain ⟨_, g4⟩ := FK_pair g2
  rw [he] at g4 hcell
  have hc : ∀ j u, [Value.int .u32 x.fr, .int .u32 x.to_, .slice A5 x.body.length c5][j]? = some u → w.cell? (ad.add (i * 3 + j)) = some u := hcell
  have g4' : Kd.FK (Kd.slice 5 (Kd.int .u8)) w ok x.body [.slice A5 x.body.length c5] := g4
  exact ⟨ad, A5, c5, x, e, hx, hc 0 _ rfl, by rw [← add_field _ _ 1 (by omega)]; exact hc 1 _ rfl, by rw [← add_field _ _ 2 (by omega)]; exact hc 2 _ rfl, V_of_FK (e := 5) (b := 0) g4'⟩
/-- Two rows of messages that are alike. -/
theorem bodies_w {ok1 ok2 : Nat → Prop} {A B : Option Addr} {c d : Nat} {xs : List (List Int)} {w : World} {t1 t2 : Nat} (hA : Kd.V (Kd.slice 5 KB) t1 w 0 ok1 (.slice A xs.length c) xs) (hB : Kd.V (Kd.slice 5 KB) t2 w 0 ok2 (.slice B xs.length d) xs) (hl : xs.length ≤ 1099511627776) :
    Calls Try.prog 23 #[.slice A xs.length c, .slice B xs.length d] w fun e w' => e = .returned (.bool true) ∧ ∃ n, w' = w.drewN n := by
  have HA := Lib.hid hA
  have HB := Lib.hid hB
  obtain ⟨l, hll⟩ : ∃ l, l = xs.length := ⟨_, rfl⟩
  have HL := Lib.hid hll
  rw [← hll] at hl ⊢
  clear hA hB hll
  have hne : ((l : Int) != (l : Int)) = false := by simp
  go_enter Try.func23, Try.ntmps23
  go_wp2_with fail
  go_loopw [5] (fun v wr => ∃ i : Nat, v = .int .i64 i ∧ i ≤ l ∧ ∃ n, wr = w.drewN n) (fun v _ => l - (intOf v).toNat)
  case atStart => exact ⟨0, rfl, Nat.zero_le _, 0, rfl⟩
  case round =>
    obtain ⟨i, rfl, hi, n, rfl⟩ := hrel
    rcases Nat.lt_or_ge i l with hlt | hge
    · obtain ⟨ad1, A5, c5, x, rfl, q1, V1, hx⟩ := V_row_at HA.out i (by rw [← HL.out]; exact hlt)
      obtain ⟨ad2, A6, c6, y, rfl, q2, V2, hy⟩ := V_row_at HB.out i (by rw [← HL.out]; exact hlt)
      have hxy : y = x := hy.out.trans hx.out.symm
      subst hxy
      obtain ⟨str, hstr⟩ : ∃ str, str = strOfNums y := ⟨_, rfl⟩
      have s1 : ∀ k, (convert 25 9 (.slice A5 y.length c5)).run Try.prog (w.drewN k) = .ok (.string str) (w.drewN k) := fun k => by
        rw [hstr]
        exact Kd.C_string (P := Try.prog) Try.underlying25 Try.underlying5 Try.underlying9 (Kd.C_drewN (Kd.V_reads' V1).2.2 k)
      have s2 : ∀ k, (convert 25 9 (.slice A6 y.length c6)).run Try.prog (w.drewN k) = .ok (.string str) (w.drewN k) := fun k => by
        rw [hstr]
        exact Kd.C_string (P := Try.prog) Try.underlying25 Try.underlying5 Try.underlying9 (Kd.C_drewN (Kd.V_reads' V2).2.2 k)
      obtain ⟨ly, hly⟩ : ∃ ly, ly = y.length := ⟨_, rfl⟩
      rw [← hly] at q1 q2 s1 s2
      clear V1 V2 hx hy hstr hly
      have hlt2 : (i : Int) < (l : Int) := by omega
      have hlt4 : (0 : Int) ≤ (i : Int) := by omega
      go_wp2_with fail
      go_quiet (fail)
      go_wp2_with fail
      go_roundw
      case rel => exact ⟨i + 1, by go_num, by omega, _, rfl⟩
      case measure => simp [intOf]; omega
    · go_wp2_with fail
      go_ret
      exact ⟨rfl, _, rfl⟩
/-- The messages of two boots. -/
theorem between_w {ok : Nat → Prop} {A : Option Addr} {c : Nat} {ms : List Ma} {w : World} (hA : Kd.V k89 89 w 0 ok (.slice A ms.length c) ms) (hok : ∀ k, ok k → k < w.heap.size) (a b : Int) (hl : ms.length ≤ 1099511627776) :
    Calls Try.prog 35 #[.slice A ms.length c, .int .u32 a, .int .u32 b] w fun e w' => ∃ A' c', e = .returned (.slice A' (btw ms a b).length c') ∧ Kd.V (Kd.slice 5 KB) 25 w' 0 (fun _ => True) (.slice A' (btw ms a b).length c') (btw ms a b) ∧ Below w.heap.size w w' := by
  have HA := Lib.hid hA
  have HOK := Lib.hid hok
  obtain ⟨l, hll⟩ : ∃ l, l = ms.length := ⟨_, rfl⟩
  have HL := Lib.hid hll
  rw [← hll] at hl ⊢
  have HLL := Lib.hid hl
  clear hA hll hok
  go_enter Try.func35, Try.ntmps35
  go_wp2_with fail
  go_loopw [7, 8] (fun vo v wr => ∃ i : Nat, v = .int .i64 i ∧ i ≤ l ∧ Hid (Kd.N (Kd.slice 5 KB) 25 wr w.heap.size (fun k => ok k ∨ w.heap.size ≤ k) vo (btw (ms.take i) a b)) ∧ Hid (Below w.heap.size w wr)) (fun _ v _ => l - (intOf v).toNat)
  case atStart => exact ⟨0, rfl, Nat.zero_le _, Lib.hid (Kd.N_nil _ _ _ _ _), Lib.hid (Below.refl _ _)⟩
  case round =>
    obtain ⟨i, rfl, hi, HN, HB⟩ := hrel
    rcases Nat.lt_or_ge i l with hlt | hge
    · obtain ⟨ad, A5, c5, x, rfl, hx, q0, q1, q2, V5⟩ := V_mail_at (Kd.V_step HA.out (fun k hk _ => HB.out.block k (HOK.out k hk))) i (by rw [← HL.out]; exact hlt)
      have HT : Hid (btw (ms.take (i + 1)) a b = btw (ms.take i) a b ++ (if x.fr == a && x.to_ == b then [x.body] else [])) := Lib.hid (by rw [btw_take ms a b i (by rw [← HL.out]; exact hlt), ← hx.out])
      have HV5 := Lib.hid V5
      have HLN : Hid ((btw (ms.take i) a b).length ≤ 1099511627776) := Lib.hid (by
        have h1 := btw_len (ms.take i) a b
        have h2 := List.length_take_le i ms
        have h3 := HLL.out
        have h4 := HL.out
        rw [List.length_take] at h1
        omega)
      obtain ⟨xf, hxf⟩ : ∃ y, y = x.fr := ⟨_, rfl⟩
      obtain ⟨xt, hxt⟩ : ∃ y, y = x.to_ := ⟨_, rfl⟩
      obtain ⟨xb, hxb⟩ : ∃ y, y = x.body := ⟨_, rfl⟩
      rw [← hxf] at q0 HT
      rw [← hxt] at q1 HT
      rw [← hxb] at q2 HV5 HT
      clear hxf hxt hxb V5 hx
      obtain ⟨bl, hbl⟩ : ∃ bl, bl = xb.length := ⟨_, rfl⟩
      rw [← hbl] at q2 HV5
      have HBL := Lib.hid hbl
      clear hbl
      have hlt2 : (i : Int) < (l : Int) := by omega
      obtain ⟨e1, he1⟩ : ∃ e1, (xf == a) = e1 := ⟨_, rfl⟩
      obtain ⟨e2, he2⟩ : ∃ e2, (xt == b) = e2 := ⟨_, rfl⟩
      rw [he1, he2] at HT
      obtain ⟨Ao, co, hvo⟩ := Kd.N_slice HN.out
      subst hvo
      cases e1 with
      | false =>
        go_wp2_with fail
        go_roundw
        case rel => exact ⟨i + 1, by go_num, by omega, Lib.hid (by rw [HT.out]; simpa using HN.out), HB⟩
        case measure => simp [intOf]; omega
      | true =>
        cases e2 with
        | false =>
          go_wp2_with fail
          go_roundw
          case rel => exact ⟨i + 1, by go_num, by omega, Lib.hid (by rw [HT.out]; simpa using HN.out), HB⟩
          case measure => simp [intOf]; omega
        | true =>
          have HNX : Hid (btw (ms.take (i + 1)) a b = btw (ms.take i) a b ++ [xb]) := Lib.hid (by rw [HT.out]; rfl)
          have HI : Hid (i < l) := Lib.hid hlt
          obtain ⟨zs, hzs⟩ : ∃ zs, zs = btw (ms.take i) a b := ⟨_, rfl⟩
          rw [← hzs] at HN HLN HNX
          obtain ⟨z, hz⟩ : ∃ z, z = zs.length := ⟨_, rfl⟩
          have HZ := Lib.hid hz
          rw [← hzs, ← hz]
          rw [← hz] at HN
          clear HT hzs hz
          go_upto_region 6 with fail
          clear he1 he2
          go_wp2_with (first
            | ((with_reducible refine gate_builtin (b := .append) (xs := #[.tmp 31, .tmp 37]) rfl ?_); at_builtin; refine Kd.N_append (Kd.slice 5 KB) (w0 := w) w.heap.size rfl (.tmp 31) (.tmp 37) 45 25 (.slice none 0 0) 24 rfl Try.underlying45 Try.info25 rfl (by decide) (by omega) (.slice Ao z co) zs xb [.slice A5 bl c5] (fun k => ok k ∨ w.heap.size ≤ k) ok rfl rfl ?bP ?bK ?bF ?bO ?bB ?bS ?bL ?_; (case bP => exact FK_slice HV5.out); (case bK => intro k hk; exact ⟨.inl hk, fun he => by have := Kd.N_base HN.out k he.symm; have := HOK.out k hk; omega⟩); (case bF => intro k hk; exact .inr (Nat.le_trans HB.out.size hk)); (case bO => exact HN.out); (case bB => exact HB.out); (case bS => exact HB.out.size); (case bL => have := HLN.out; omega); intro v3 w4 hr4 hb4 hg4 hat4; have HR4 := Lib.hid hr4; have HB4 := Lib.hid hb4; clear hr4 hb4 hg4 hat4))
          have hi2 := HI.out
          go_roundw
          case rel => exact ⟨i + 1, by go_num, by omega, Lib.hid (by rw [HNX.out]; exact HR4.out), HB4⟩
          case measure => simp [intOf]; omega
    · have HE : Hid (btw (ms.take i) a b = btw ms a b) := Lib.hid (by rw [List.take_of_length_le (by rw [← HL.out]; exact hge)])
      obtain ⟨Ao, co, hvo⟩ := Kd.N_slice HN.out
      subst hvo
      rw [HE.out] at HN ⊢
      go_wp2_with fail
      go_ret
      exact ⟨Ao, co, rfl, Kd.V_mono (Kd.N_V HN.out) (fun _ _ => trivial), HB.out⟩
end Go.Proofs.Ytlnhjkbhhdcdeaa
