/- The walk of Take, and the bounds that each step keeps. -/
import Derived.Test.YtlnhjkbhhdcdeaaMd
import Derived.Test.YtlnhjkbhhdcdeaaSk6
namespace Go.Proofs.Ytlnhjkbhhdcdeaa
open Go Go.RowKit Go.Proofs.YtlnhjkbhhdcdeaaW.PrintWords Go.Proofs.YtlnhjkbhhdcdeaaW.PrintLast Go.Proofs.YtlnhjkbhhdcdeaaW.PrintMore
open Go.Proofs.Ytlnhjkbhhdcdeaa.PSessionRuns (S27 k27 z27 S116 k116 z116)
set_option linter.unusedVariables false
set_option maxRecDepth 100000
set_option maxHeartbeats 4000000
attribute [local go_sem] max2_mx min2_mn max_two min_two
structure TR where
  err : Int
  fs : List S27
  got : List (List Int)
  anew : Bool
  σ : Se
def Se.mine (σ : Se) (f : S27) : Bool := (f.f2 == 0) || (f.f2 == σ.boot)
/-- A session that is met. -/
def Se.met (σ : Se) (f : S27) : Se := if f.f2 = σ.boot ∧ σ.up = false then ({ σ with up := true } : Se).stop else σ
/-- What a frame's kind does: the frames that are told, what is handed out. -/
def Se.kind (σ : Se) (f : S27) : List S27 × List (List Int) × Se :=
  if f.f0 = 1 then ([if f.f2 = 0 then σ.helloF else σ.ackF], [], σ)
  else if f.f0 = 2 then ([((σ.told f.f4).put f.f3 f.f5).pop.2.ackF], ((σ.told f.f4).put f.f3 f.f5).pop.1, ((σ.told f.f4).put f.f3 f.f5).pop.2)
  else ([], [], σ.told f.f4)
/-- What Take does. -/
def Se.takeF (σ : Se) (now : Int) (f : S27) : TR :=
  if σ.ask now = 0 then
    if chk f.f0 f.f1 f.f2 f.f3 f.f4 f.f5.length = 0 then
      if σ.mine f = true ∧ f.f1 < σ.peer then ⟨0, [], [], false, { σ with now := now }⟩
      else
        let σ2 := if σ.peer < f.f1 then ({ σ with now := now } : Se).anew f.f1 else { σ with now := now }
        if σ.mine f = true then
          let r := (σ2.met f).kind f
          ⟨0, r.1 ++ r.2.2.freshL, r.2.1, decide (σ.peer < f.f1), r.2.2.fresh⟩
        else ⟨0, [σ2.helloF], [], decide (σ.peer < f.f1), σ2⟩
    else ⟨201, [], [], false, σ⟩
  else ⟨202, [], [], false, σ⟩
/-- What Take leaves. -/
def TkP (w : World) (M B : Nat → Prop) (g m : Nat) (r : TR) (e : Ending) (w' : World) : Prop :=
  ∃ (B' : Nat → Prop) (A Ag : Option Addr) (c cg : Nat), e = .returned (.tuple #[.slice A r.fs.length c, .slice Ag r.got.length cg, .bool r.anew, .int .i64 r.err]) ∧ Ses M B' g m r.σ w' ∧ Gr w w' M B M B' ∧
    Kd.V k27 27 w' 0 (fun k => w.heap.size ≤ k ∧ k < w'.heap.size ∧ ¬ M k) (.slice A r.fs.length c) r.fs ∧ Kd.V (Kd.slice 5 KB) 25 w' 0 (fun k => (B k ∨ w.heap.size ≤ k) ∧ k < w'.heap.size ∧ ¬ M k) (.slice Ag r.got.length cg) r.got
section
variable {P : Program} {T K E : TypeId} {q : IntKind} {w : World} {b : Nat} {L : List (Int × Value)} {k : Int}
theorem run_look1 (hT : P.underlying T = some (.map K E)) (hK : P.underlying K = some (.int q)) (h : MapAt w b q L) {j : Nat} {v : Value} (hp : place L k 0 = some (j, v)) :
    (Instr.lookup T (.map (some b)) (.int q k) false).run P w = .ok v w := by
  obtain ⟨es, clock, hb, hL⟩ := h
  have hf := run_find (P := P) (w := w) (k := k) hK hL
  have hc := run_check (P := P) (w := w) (k := k) hK es.isEmpty 9999
  have hu := run_underlying hT w
  have hg : (getObj b).run P w = .ok (.map es clock) w := by simp [getObj, Sem.run, hb]
  unfold Instr.lookup
  rw [hp] at hf
  simp [go_sem, hu, hg, hf, hc]
end
/-- A method of the taking, as a value. -/
def tkf (n t : Nat) : Value := .func (.func n) #[.pointer (some ⟨t, 0, none⟩)] #[]
/-- The map of kinds. -/
theorem kinds_put (W : World) (t : Nat) : ∃ W1 W2 W3 : World,
    (Instr.mapUpdate 104 (.map (some W.heap.size)) (.int .u8 1) (.func (.func 46) #[.pointer (some ⟨t, 0, none⟩)] #[])).run Try.prog (W.alloc (.map #[] 0)) = .ok () W1 ∧
    (Instr.mapUpdate 104 (.map (some W.heap.size)) (.int .u8 2) (.func (.func 47) #[.pointer (some ⟨t, 0, none⟩)] #[])).run Try.prog W1 = .ok () W2 ∧
    (Instr.mapUpdate 104 (.map (some W.heap.size)) (.int .u8 3) (.func (.func 48) #[.pointer (some ⟨t, 0, none⟩)] #[])).run Try.prog W2 = .ok () W3 ∧
    (Instr.lookup 104 (.map (some W.heap.size)) (.int .u8 1) false).run Try.prog W3 = .ok (.func (.func 46) #[.pointer (some ⟨t, 0, none⟩)] #[]) W3 ∧
    (Instr.lookup 104 (.map (some W.heap.size)) (.int .u8 2) false).run Try.prog W3 = .ok (.func (.func 47) #[.pointer (some ⟨t, 0, none⟩)] #[]) W3 ∧
    (Instr.lookup 104 (.map (some W.heap.size)) (.int .u8 3) false).run Try.prog W3 = .ok (.func (.func 48) #[.pointer (some ⟨t, 0, none⟩)] #[]) W3 ∧ Below W.heap.size W W3 := by
  have h0 : MapAt (W.alloc (.map #[] 0)) W.heap.size .u8 [] := ⟨#[], 0, heap_alloc_new W _, rfl⟩
  obtain ⟨o1, r1, h1⟩ := run_put_new (P := Try.prog) (T := 104) (K := 22) (E := 1) (k := 1) Try.underlying104 Try.underlying22 h0 rfl (.func (.func 46) #[.pointer (some ⟨t, 0, none⟩)] #[])
  obtain ⟨o2, r2, h2⟩ := run_put_new (P := Try.prog) (T := 104) (K := 22) (E := 1) (k := 2) Try.underlying104 Try.underlying22 h1 rfl (.func (.func 47) #[.pointer (some ⟨t, 0, none⟩)] #[])
  obtain ⟨o3, r3, h3⟩ := run_put_new (P := Try.prog) (T := 104) (K := 22) (E := 1) (k := 3) Try.underlying104 Try.underlying22 h2 rfl (.func (.func 48) #[.pointer (some ⟨t, 0, none⟩)] #[])
  refine ⟨_, _, _, r1, r2, r3, run_look1 (k := 1) Try.underlying104 Try.underlying22 h3 (j := 0) rfl, run_look1 (k := 2) Try.underlying104 Try.underlying22 h3 (j := 1) rfl, run_look1 (k := 3) Try.underlying104 Try.underlying22 h3 (j := 2) rfl, ?_⟩
  have e0 : Below W.heap.size W (W.alloc (.map #[] 0)) := below_alloc (Below.refl _ _) _
  have e1 := fun (w : World) o => (chg_putObj w W.heap.size o).below (B := W.heap.size) (fun i hi => by omega)
  have z0 : (W.alloc (.map #[] 0)).heap.size = W.heap.size + 1 := World.size_alloc _ _
  have e2 := e0.trans (e1 _ o1 (by omega))
  have e3 := e2.trans (e1 _ o2 e2.size)
  exact e3.trans (e1 _ o3 e3.size)
section
variable {M B : Nat → Prop} {g m : Nat} {σ : Se} {w : World} {n : Int}
theorem TkP.none_ {σ' : Se} {w' : World} (h : Ses M B g m σ' w') (hc : Chg M w w') (x : Int) : TkP w M B g m ⟨x, [], [], false, σ'⟩ (.returned (.tuple #[.slice none 0 0, .slice none 0 0, .bool false, .int .i64 x])) w' :=
  ⟨B, none, none, 0, 0, rfl, h, Gr.of_chg hc, Kd.V_nil _ _ _ _ _, Kd.V_nil _ _ _ _ _⟩
/-- What stands on the way: the session, the frame, its body. -/
def AT (w : World) (M B : Nat → Prop) (g m b : Nat) (okp : Nat → Prop) (A5 : Option Addr) (c5 : Nat) (f : S27) (σ' : Se) (W : World) : Prop :=
  Ses M B g m σ' W ∧ W.heap[b]? = some (.cells (frc f.f0 f.f1 f.f2 f.f3 f.f4 (.slice A5 f.f5.length c5)) 27 (0, 0)) ∧ Kd.V KB 5 W 0 okp (.slice A5 f.f5.length c5) f.f5 ∧ Chg M w W
theorem AT.drewN {b : Nat} {okp : Nat → Prop} {A5 : Option Addr} {c5 : Nat} {f : S27} {W : World} (h : AT w M B g m b okp A5 c5 f σ W) (n : Nat) : AT w M B g m b okp A5 c5 f σ (W.drewN n) :=
  ⟨h.1.drewN n, h.2.1, Kd.V_drewN h.2.2.1 n, h.2.2.2.drewN n⟩
theorem AT.below {b : Nat} {okp : Nat → Prop} {A5 : Option Addr} {c5 : Nat} {f : S27} {W W' : World} (h : AT w M B g m b okp A5 c5 f σ W) (hb : Below W.heap.size W W') : AT w M B g m b okp A5 c5 f σ W' :=
  ⟨h.1.below hb, (hb.block b (blk_lt h.2.1)).trans h.2.1, Kd.V_step h.2.2.1 (fun k _ hl => hb.block k hl), h.2.2.2.then_below hb⟩
/-- A call that turned the session. -/
theorem AT.turn {b : Nat} {okp : Nat → Prop} {A5 : Option Addr} {c5 : Nat} {f : S27} {W W' : World} {σ' : Se} (h : AT w M B g m b okp A5 c5 f σ W) (hbM : ¬ M b) (hokp : ∀ k, okp k → ¬ M k) (hs : Ses M B g m σ' W') (hc : Chg M W W') : AT w M B g m b okp A5 c5 f σ' W' :=
  ⟨hs, (hc.block b (blk_lt h.2.1) hbM).trans h.2.1, Kd.V_step h.2.2.1 (fun k hk hl => hc.block k hl (hokp k hk)), h.2.2.2.trans hc (fun i hi => .inl hi)⟩
theorem chk_two (a b c d e : Int) (l : Nat) (h : ¬ chk a b c d e l = 0) : chk a b c d e l = 201 := by
  unfold chk at h ⊢
  generalize (if (a == 1) = true then _ else _ : Bool) = q at h ⊢
  cases q <;> simp_all
theorem take_err (h : Ses M B g m σ w) (now : Int) (f : S27) (okp : Nat → Prop) (A5 : Option Addr) (c5 : Nat) (hV : Kd.V KB 5 w 0 okp (.slice A5 f.f5.length c5) f.f5) (hokp : ∀ k, okp k → ¬ M k) (h1 : ¬ (σ.ask now = 0 ∧ chk f.f0 f.f1 f.f2 f.f3 f.f4 f.f5.length = 0)) :
    Calls Try.prog 15 #[.pointer (some ⟨g, 0, none⟩), .int .i64 now, .agg (frc f.f0 f.f1 f.f2 f.f3 f.f4 (.slice A5 f.f5.length c5))] w (TkP w M B g m (σ.takeF now f)) := by
  have hb0 : Below w.heap.size w (w.alloc (.cells (frc f.f0 f.f1 f.f2 f.f3 f.f4 (.slice A5 f.f5.length c5)) 27)) := below_alloc (Below.refl _ _) _
  have hs0 := h.below hb0
  obtain ⟨x0, e0⟩ : ∃ x, x = f.f0 := ⟨_, rfl⟩
  obtain ⟨x1, e1⟩ : ∃ x, x = f.f1 := ⟨_, rfl⟩
  obtain ⟨x2, e2⟩ : ∃ x, x = f.f2 := ⟨_, rfl⟩
  obtain ⟨x3, e3⟩ : ∃ x, x = f.f3 := ⟨_, rfl⟩
  obtain ⟨x4, e4⟩ : ∃ x, x = f.f4 := ⟨_, rfl⟩
  obtain ⟨l5, e5⟩ : ∃ x, x = f.f5.length := ⟨_, rfl⟩
  by_cases h2 : σ.ask now = 0
  · have h3 : ¬ chk f.f0 f.f1 f.f2 f.f3 f.f4 f.f5.length = 0 := fun h => h1 ⟨h2, h⟩
    have hF : σ.takeF now f = ⟨201, [], [], false, σ⟩ := by unfold Se.takeF; rw [if_pos h2, if_neg h3]
    rw [hF]
    rw [← e0, ← e1, ← e2, ← e3, ← e4, ← e5] at hs0 hb0 h3 ⊢
    have H0 := Lib.hid hs0
    have HB0 := Lib.hid hb0
    have HA := Lib.hid h2
    have HC : Hid (∀ w, Calls Try.prog 8 #[.agg #[.int .u8 x0, .int .u32 x1, .int .u32 x2, .int .u64 x3, .int .u64 x4, .slice A5 l5 c5]] w fun e w' => e = .returned (.int .i64 201) ∧ w' = w.alloc (.cells (frc x0 x1 x2 x3 x4 (.slice A5 l5 c5)) 27)) := by
      refine Lib.hid (fun w => ?_)
      have := check_w x0 x1 x2 x3 x4 A5 l5 c5 w
      rw [chk_two _ _ _ _ _ _ h3] at this
      exact this
    clear h hV h1 h2 h3 hF hs0 hb0 e0 e1 e2 e3 e4 e5
    unfold frc
    go_enter Try.func15, Try.ntmps15
    go_wp2_with fail
    refine (ask_ses H0.out now).mono ?_
    rintro e w1 ⟨rfl, rfl⟩
    rw [HA.out]
    unfold frc
    go_wp2_with fail
    refine (HC.out _).mono ?_
    rintro e w1 ⟨rfl, rfl⟩
    go_wp2_with fail
    refine bodyPost_ret (v := .tuple #[.slice none 0 0, .slice none 0 0, .bool false, .int .i64 201]) ?_ rfl ?_
    · simp [results, Try.results15, go_sem]
    · have hb2 := below_then HB0.out HB0.out.size (below_alloc (Below.refl _ _) (.cells (frc x0 x1 x2 x3 x4 (.slice A5 l5 c5)) 27))
      exact TkP.none_ (H0.out.below (below_alloc (Below.refl _ _) _)) (Chg.of_below hb2 M) 201
  · have h3 := ask_two σ now h2
    have hF : σ.takeF now f = ⟨202, [], [], false, σ⟩ := by unfold Se.takeF; rw [if_neg h2]
    rw [hF]
    rw [← e0, ← e1, ← e2, ← e3, ← e4, ← e5] at hs0 hb0 ⊢
    have H0 := Lib.hid hs0
    have HB0 := Lib.hid hb0
    have HA := Lib.hid h3
    clear h hV h1 h2 h3 hF hs0 hb0 e0 e1 e2 e3 e4 e5
    unfold frc
    go_enter Try.func15, Try.ntmps15
    go_wp2_with fail
    refine (ask_ses H0.out now).mono ?_
    rintro e w1 ⟨rfl, rfl⟩
    rw [HA.out]
    go_wp2_with fail
    refine bodyPost_ret (v := .tuple #[.slice none 0 0, .slice none 0 0, .bool false, .int .i64 202]) ?_ rfl ?_
    · simp [results, Try.results15, go_sem]
    · exact TkP.none_ H0.out (Chg.of_below HB0.out M) 202
end
end Go.Proofs.Ytlnhjkbhhdcdeaa
namespace Go.Proofs.Ytlnhjkbhhdcdeaa
open Go Go.RowKit Go.Proofs.YtlnhjkbhhdcdeaaW.PrintWords Go.Proofs.YtlnhjkbhhdcdeaaW.PrintLast Go.Proofs.YtlnhjkbhhdcdeaaW.PrintMore
open Go.Proofs.Ytlnhjkbhhdcdeaa.PSessionRuns (S27 k27 z27 S116 k116 z116)
set_option linter.unusedVariables false
section
variable {σ : Se} {n : Int}
theorem Ok.anew (ok : Ok n σ) (b : Int) (h0 : 0 ≤ b) (h1 : b < 4294967296) : Ok n (σ.anew b) := by
  have k1 := ok.base0
  have k2 := ok.base1
  have hl : ((σ.anew b).L.length : Int) = 0 := rfl
  have he : ((σ.anew b).E.length : Int) = 0 := rfl
  have hb : (σ.anew b).base = 1 := rfl
  have hi : (σ.anew b).inn = 0 := rfl
  have hs : (σ.anew b).sent = 0 := rfl
  exact { now0 := ok.now0, now1 := ok.now1, tmr0 := ok.tmr0, tmr1 := ok.tmr1, win0 := ok.win0, win1 := ok.win1, sent0 := by rw [hs]; omega, sent1 := by rw [hs]; omega, sent2 := by rw [hs, hl]; omega, len := Nat.zero_le _, base0 := by rw [hb]; omega, base1 := by rw [hb, hl]; omega, inn0 := by rw [hi]; omega, inn1 := by rw [hi, he]; omega, big := ok.big, body := fun x hx => (by cases hx), early := fun p hp => (by cases hp), peer0 := h0, peer1 := h1, boot0 := ok.boot0, boot1 := ok.boot1 }
theorem Ok.met (ok : Ok n σ) (f : S27) : Ok n (σ.met f) := by
  unfold Se.met
  split
  · exact { ok with }
  · exact ok
theorem Ok.more (ok : Ok n σ) {k : Int} (h : n ≤ k) (hk : k ≤ 1099511627776) : Ok k σ :=
  { ok with base1 := Int.le_trans ok.base1 h, inn1 := Int.le_trans ok.inn1 h, big := hk }
theorem Ok.told (ok : Ok n σ) (a : Int) : Ok n (σ.told a) := by
  unfold Se.told
  split
  · rename_i ht
    unfold Se.tells at ht
    simp only [Bool.and_eq_true, decide_eq_true_eq] at ht
    have k1 := ok.base0
    have k2 := ok.base1
    have k3 := ok.sent0
    have k4 := ok.sent1
    have k5 := ok.sent2
    have k6 := ok.len
    have hok : Ok n { σ with L := σ.L.drop (a - σ.base + 1).toNat, base := a + 1, sent := σ.sent - (a - σ.base + 1) } := by
      have hl : (σ.L.drop (a - σ.base + 1).toNat).length = σ.L.length - (a - σ.base + 1).toNat := List.length_drop
      refine { ok with sent0 := ?_, sent1 := ?_, sent2 := ?_, len := ?_, base0 := ?_, base1 := ?_, body := ?_ }
      · show 0 ≤ σ.sent - (a - σ.base + 1)
        omega
      · show σ.sent - (a - σ.base + 1) ≤ 64
        omega
      · show σ.sent - (a - σ.base + 1) ≤ ((σ.L.drop (a - σ.base + 1).toNat).length : Int)
        rw [hl]
        omega
      · show (σ.L.drop (a - σ.base + 1).toNat).length ≤ 65536
        rw [hl]
        omega
      · show 1 ≤ a + 1
        omega
      · show a + 1 + ((σ.L.drop (a - σ.base + 1).toNat).length : Int) ≤ n
        rw [hl]
        omega
      · exact fun b hb => ok.body b (List.mem_of_mem_drop hb)
    simp only
    split
    · exact { hok with }
    · exact { hok with }
  · exact ok
theorem Ok.put (ok : Ok n σ) (hn : n + 1 ≤ 1099511627776) (q : Int) (x : List Int) (hl : x.length ≤ 65536) : Ok (n + 1) (σ.put q x) := by
  unfold Se.put
  split
  · have ok2 := ok.more (k := n + 1) (by omega) hn
    refine { ok2 with inn1 := ?_, early := ?_ }
    · show σ.inn + ((σ.E ++ [(q, x)]).length : Int) ≤ n + 1
      have := ok.inn1
      rw [List.length_append, List.length_singleton]
      omega
    · intro p hp
      rcases List.mem_append.1 hp with h | h
      · exact ok.early p h
      · simp at h
        rw [h]
        exact hl
  · exact ok.more (by omega) hn
theorem Ok.pops : ∀ (k : Nat) {σ : Se}, Ok n σ → Ok n (pops k σ).2
  | 0, σ, ok => ok
  | k + 1, σ, ok => by
    rw [Go.Proofs.Ytlnhjkbhhdcdeaa.pops]
    cases hp : plc σ.E (σ.inn + 1) 0 with
    | none => exact ok
    | some j =>
      obtain ⟨_, h2, _⟩ := plc_lt σ.E 0 hp
      have hl : (σ.E.eraseIdx j).length = σ.E.length - 1 := List.length_eraseIdx_of_lt (by omega)
      have hok : Ok n { σ with inn := σ.inn + 1, E := σ.E.eraseIdx j } := by
        refine { ok with inn0 := ?_, inn1 := ?_, early := ?_ }
        · show 0 ≤ σ.inn + 1
          have := ok.inn0
          omega
        · show σ.inn + 1 + ((σ.E.eraseIdx j).length : Int) ≤ n
          have := ok.inn1
          rw [hl]
          omega
        · exact fun p hp => ok.early p (List.mem_of_mem_eraseIdx hp)
      exact Ok.pops k hok
theorem Ok.pop (ok : Ok n σ) : Ok n σ.pop.2 := Ok.pops _ ok
theorem Ok.kind (ok : Ok n σ) (hn : n + 1 ≤ 1099511627776) (f : S27) (hl : f.f0 = 2 → f.f5.length ≤ 65536) : Ok (n + 1) (σ.kind f).2.2 := by
  unfold Se.kind
  split
  · exact ok.more (by omega) hn
  · split
    · rename_i h
      exact ((ok.told _).put hn _ _ (hl h)).pop
    · exact (ok.told _).more (by omega) hn
theorem fl_le (ok : Ok n σ) : σ.fl ≤ 64 ∧ σ.fl ≤ σ.L.length := by
  unfold Se.fl
  have := ok.win1
  split <;> omega
theorem Ok.fresh (ok : Ok n σ) : Ok n σ.fresh := by
  unfold Se.fresh
  split
  · have hf := fl_le ok
    have k1 := ok.sent0
    have k2 := ok.sent1
    have k3 := ok.sent2
    have hm : mx σ.sent σ.fl = max σ.sent σ.fl := by
      unfold mx
      split <;> omega
    have hok : Ok n (if σ.sent = 0 ∧ 0 < σ.fl then σ.start else σ) := by
      split
      · exact ok.start
      · exact ok
    have hL : (if σ.sent = 0 ∧ 0 < σ.fl then σ.start else σ).L = σ.L := by split <;> rfl
    refine { hok with sent0 := ?_, sent1 := ?_, sent2 := ?_ }
    · show 0 ≤ mx σ.sent σ.fl
      omega
    · show mx σ.sent σ.fl ≤ 64
      omega
    · show mx σ.sent σ.fl ≤ (((if σ.sent = 0 ∧ 0 < σ.fl then σ.start else σ) : Se).L.length : Int)
      rw [hL]
      omega
  · exact ok
theorem freshL_len (ok : Ok n σ) : σ.freshL.length ≤ 64 := by
  unfold Se.freshL
  split
  · rename_i hup
    rw [Se.seg_len]
    have := fl_le ok
    omega
  · simp
theorem kind_len (σ : Se) (f : S27) : (σ.kind f).1.length ≤ 1 := by
  unfold Se.kind
  split
  · simp
  · split <;> simp
theorem Ok.takeF (ok : Ok n σ) (hn : n + 1 ≤ 1099511627776) (now : Int) (f : S27) (h0 : 0 ≤ f.f1) (h1 : f.f1 < 4294967296) : Ok (n + 1) (σ.takeF now f).σ := by
  unfold Se.takeF
  split
  · rename_i ha
    split
    · rename_i hc
      have ok1 := ok.now_ ha
      split
      · exact ok1.more (by omega) hn
      · have ok2 : Ok n (if σ.peer < f.f1 then ({ σ with now := now } : Se).anew f.f1 else { σ with now := now }) := by
          split
          · exact ok1.anew _ h0 h1
          · exact ok1
        generalize (if σ.peer < f.f1 then ({ σ with now := now } : Se).anew f.f1 else { σ with now := now }) = σ2 at ok2 ⊢
        simp only
        split
        · refine ((ok2.met f).kind hn f (fun h2 => ?_)).fresh
          unfold chk at hc
          rw [h2] at hc
          simp at hc
          omega
        · exact ok2.more (by omega) hn
    · exact ok.more (by omega) hn
  · exact ok.more (by omega) hn
theorem Ok.tickF (ok : Ok n σ) (now : Int) : Ok n (σ.tickF now).2.2 := by
  unfold Se.tickF
  split
  · rename_i ha
    split
    · split
      · exact (ok.now_ ha).start
      · exact (ok.now_ ha).start
    · exact ok.now_ ha
  · exact ok
theorem Ok.sendF (ok : Ok n σ) (hn : n + 65536 ≤ 1099511627776) (now : Int) (xs : List (List Int)) : Ok (n + 65536) (σ.sendF now xs).2.2 := by
  unfold Se.sendF
  split
  · rename_i ha
    split
    · exact ok.more (by omega) hn
    · rename_i h1
      split
      · exact ok.more (by omega) hn
      · rename_i h2
        exact (ok.send ha h1 h2 hn).fresh
  · exact ok.more (by omega) hn
end
end Go.Proofs.Ytlnhjkbhhdcdeaa
namespace Go.Proofs.Ytlnhjkbhhdcdeaa
open Go Go.RowKit Go.Proofs.YtlnhjkbhhdcdeaaW.PrintWords Go.Proofs.YtlnhjkbhhdcdeaaW.PrintLast Go.Proofs.YtlnhjkbhhdcdeaaW.PrintMore
open Go.Proofs.Ytlnhjkbhhdcdeaa.PSessionRuns (S27 k27 z27 S116 k116 z116)
set_option linter.unusedVariables false
set_option maxRecDepth 100000
set_option maxHeartbeats 4000000
attribute [local go_sem] max2_mx min2_mn max_two min_two
theorem chk_zero {a b c d e : Int} {l : Nat} (h : chk a b c d e l = 0) : 0 < b ∧ (a = 1 ∨ a = 2 ∧ 0 < c ∧ 0 < d ∧ l ≤ 65536 ∨ a = 3) := by
  unfold chk at h
  by_cases h1 : a = 1
  · subst h1
    simp at h
    exact ⟨by omega, .inl rfl⟩
  · by_cases h2 : a = 2
    · subst h2
      simp at h
      exact ⟨by omega, .inr (.inl ⟨rfl, by omega, by omega, by omega⟩)⟩
    · by_cases h3 : a = 3
      · subst h3
        simp at h
        exact ⟨by omega, .inr (.inr rfl)⟩
      · simp [h1, h2, h3] at h
section
variable {M B : Nat → Prop} {g m : Nat} {σ : Se} {w : World} {n : Int}
/-- The taking of a frame, beside what stood. -/
def TT (w : World) (M B : Nat → Prop) (g m b t : Nat) (okp : Nat → Prop) (A5 : Option Addr) (c5 : Nat) (f : S27) (σ' : Se) (W : World) : Prop :=
  AT w M B g m b okp A5 c5 f σ' W ∧ W.heap[t]? = some (.cells (tkc g f (.slice A5 f.f5.length c5) (.slice none 0 0) (.slice none 0 0)) 102 (0, 0)) ∧ w.heap.size ≤ t ∧ b ≠ t
theorem TT.drewN {b t : Nat} {okp : Nat → Prop} {A5 : Option Addr} {c5 : Nat} {f : S27} {W : World} (h : TT w M B g m b t okp A5 c5 f σ W) (n : Nat) : TT w M B g m b t okp A5 c5 f σ (W.drewN n) :=
  ⟨h.1.drewN n, h.2.1, h.2.2⟩
theorem TT.turn {b t : Nat} {okp : Nat → Prop} {A5 : Option Addr} {c5 : Nat} {f : S27} {W W' : World} {σ' : Se} (h : TT w M B g m b t okp A5 c5 f σ W) (hbM : ¬ M b) (htM : ¬ M t) (hokp : ∀ k, okp k → ¬ M k) (hs : Ses M B g m σ' W') (hc : Chg M W W') : TT w M B g m b t okp A5 c5 f σ' W' :=
  ⟨h.1.turn hbM hokp hs hc, (hc.block t (blk_lt h.2.1) htM).trans h.2.1, h.2.2⟩
/-- What stands behind a frame's kind. -/
def KQ (w : World) (M B : Nat → Prop) (g m t : Nat) (f : S27) (v5 : Value) (r : List S27 × List (List Int) × Se) (W : World) : Prop :=
  ∃ (B' : Nat → Prop) (A Ag : Option Addr) (c cg : Nat), Ses M B' g m r.2.2 W ∧ W.heap[t]? = some (.cells (tkc g f v5 (.slice A r.1.length c) (.slice Ag r.2.1.length cg)) 102 (0, 0)) ∧
    Kd.N k27 27 W w.heap.size (fun k => w.heap.size ≤ k ∧ ¬ M k ∧ k ≠ t ∧ ¬ B' k) (.slice A r.1.length c) r.1 ∧ Kd.V (Kd.slice 5 KB) 25 W 0 (fun k => (B k ∨ w.heap.size ≤ k) ∧ k < W.heap.size ∧ k ≠ t ∧ ¬ M k ∧ some k ≠ (Value.slice A r.1.length c).ownBlock) (.slice Ag r.2.1.length cg) r.2.1 ∧ Gr w W M B M B' ∧ ¬ B' t
theorem TkP.drewN {r : TR} {e : Ending} {w' : World} (h : TkP w M B g m r e w') (d : Nat) : TkP w M B g m r e (w'.drewN d) := by
  obtain ⟨B', A, Ag, c, cg, h1, h2, h3, h4, h5⟩ := h
  exact ⟨B', A, Ag, c, cg, h1, h2.drewN d, ⟨h3.mm, h3.mn, h3.bb, h3.bn, h3.chg.drewN d⟩, Kd.V_drewN h4 d, Kd.V_drewN h5 d⟩
theorem K5_ {wc w2 : World} {t : Nat} {B5 : Nat → Prop} {σ : Se} {A3 : Option Addr} {z1 c3 : Nat} {fr : List S27} (hN : Kd.N k27 27 wc w.heap.size (fun k => w.heap.size ≤ k ∧ ¬ M k ∧ k ≠ t ∧ ¬ B5 k) (.slice A3 fr.length c3) fr) (hs : Ses M B5 g m σ wc) (ht : t < wc.heap.size) (hz : w.heap.size ≤ wc.heap.size) (hz1 : z1 = fr.length) :
    ∀ k, wc.heap.size ≤ k ∧ k < w2.heap.size → (w.heap.size ≤ k ∧ ¬ M k ∧ k ≠ t ∧ ¬ B5 k) ∧ some k ≠ (Value.slice A3 z1 c3).ownBlock := by
  subst hz1
  intro k hk
  refine ⟨⟨by omega, fun h => ?_, by omega, fun h => ?_⟩, fun h => ?_⟩
  · have := (hs.2.2.1 k h).1
    omega
  · have := hs.2.2.2.1 k h
    omega
  · have := Kd.N_lt hN k h.symm
    omega
theorem K6_ {wc w2 : World} {t : Nat} {B5 : Nat → Prop} {σ : Se} (hs : Ses M B5 g m σ wc) (ht : t < wc.heap.size) (hz : w.heap.size ≤ wc.heap.size) (hz2 : wc.heap.size ≤ w2.heap.size) :
    ∀ k, w2.heap.size ≤ k → w.heap.size ≤ k ∧ ¬ M k ∧ k ≠ t ∧ ¬ B5 k := by
  intro k hk
  refine ⟨by omega, fun h => ?_, by omega, fun h => ?_⟩
  · have := (hs.2.2.1 k h).1
    omega
  · have := hs.2.2.2.1 k h
    omega
theorem take_ok (h : Ses M B g m σ w) (ok : Ok n σ) (hn : n + 1 ≤ 1099511627776) (now : Int) (f : S27) (okp : Nat → Prop) (A5 : Option Addr) (c5 : Nat) (hV : Kd.V KB 5 w 0 okp (.slice A5 f.f5.length c5) f.f5) (hokp : ∀ k, okp k → ¬ M k)
    (hf1 : 0 ≤ f.f1) (hf1' : f.f1 < 4294967296) (hf3 : 0 ≤ f.f3) (hf3' : f.f3 < 18446744073709551616) (hf4 : 0 ≤ f.f4) (hf4' : f.f4 < 18446744073709551616) (h1 : σ.ask now = 0) (h2 : chk f.f0 f.f1 f.f2 f.f3 f.f4 f.f5.length = 0) :
    Calls Try.prog 15 #[.pointer (some ⟨g, 0, none⟩), .int .i64 now, .agg (frc f.f0 f.f1 f.f2 f.f3 f.f4 (.slice A5 f.f5.length c5))] w (TkP w M B g m (σ.takeF now f)) := by
  obtain ⟨_, _, _, _, _, hM, hMm, hMl, hBl, hgm, _⟩ := h.open_
  have hb0 : Below w.heap.size w (w.alloc (.cells (frc f.f0 f.f1 f.f2 f.f3 f.f4 (.slice A5 f.f5.length c5)) 27)) := below_alloc (Below.refl _ _) _
  have hat0 : AT w M B g m w.heap.size okp A5 c5 f σ (w.alloc (.cells (frc f.f0 f.f1 f.f2 f.f3 f.f4 (.slice A5 f.f5.length c5)) 27)) :=
    ⟨h.below hb0, heap_alloc_new w _, Kd.V_alloc hV _, Chg.of_below hb0 M⟩
  have hbM : ¬ M w.heap.size := fun hm => Nat.lt_irrefl _ (hMl _ hm).1
  have hgb : g ≠ w.heap.size := fun h => hbM (h ▸ hM)
  obtain ⟨x0, e0⟩ : ∃ x, x = f.f0 := ⟨_, rfl⟩
  obtain ⟨x1, e1⟩ : ∃ x, x = f.f1 := ⟨_, rfl⟩
  obtain ⟨x2, e2⟩ : ∃ x, x = f.f2 := ⟨_, rfl⟩
  obtain ⟨x3, e3⟩ : ∃ x, x = f.f3 := ⟨_, rfl⟩
  obtain ⟨x4, e4⟩ : ∃ x, x = f.f4 := ⟨_, rfl⟩
  obtain ⟨l5, e5⟩ : ∃ x, x = f.f5.length := ⟨_, rfl⟩
  obtain ⟨bt, hbt⟩ : ∃ bt, bt = σ.boot := ⟨_, rfl⟩
  obtain ⟨pe, hpe⟩ : ∃ pe, pe = σ.peer := ⟨_, rfl⟩
  have EQ : Hid (x0 = f.f0 ∧ x1 = f.f1 ∧ x2 = f.f2 ∧ x3 = f.f3 ∧ x4 = f.f4 ∧ l5 = f.f5.length ∧ bt = σ.boot ∧ pe = σ.peer) := Lib.hid ⟨e0, e1, e2, e3, e4, e5, hbt, hpe⟩
  obtain ⟨σ1, hσ1⟩ : ∃ σ1 : Se, σ1 = { σ with now := now } := ⟨_, rfl⟩
  have hok1 : Ok n σ1 := by rw [hσ1]; exact ok.now_ h1
  have E1 : Hid (σ1 = { σ with now := now } ∧ σ1.boot = bt ∧ σ1.peer = pe) := by rw [hσ1, hbt, hpe]; exact Lib.hid ⟨rfl, rfl, rfl⟩
  obtain ⟨mi, hmi⟩ : ∃ mi, mi = σ.mine f := ⟨_, rfl⟩
  have hmi2 : mi = ((x2 == 0) || (x2 == bt)) := by rw [hmi, e2, hbt]; rfl
  have HMI := Lib.hid (And.intro hmi hmi2)
  have OK1 := Lib.hid hok1
  have HA := Lib.hid h1
  have HK := Lib.hid (chk_zero h2)
  have HCH := Lib.hid h2
  have HOKP := Lib.hid hokp
  have HBM := Lib.hid hbM
  have HMS := Lib.hid (And.intro hM (And.intro hMm (And.intro hMl hBl)))
  have HW4 := Lib.hid (And.intro hf1 (And.intro hf1' (And.intro hf3 (And.intro hf3' (And.intro hf4 hf4')))))
  have HN := Lib.hid hn
  have HC : Hid (∀ w, Calls Try.prog 8 #[.agg #[.int .u8 x0, .int .u32 x1, .int .u32 x2, .int .u64 x3, .int .u64 x4, .slice A5 l5 c5]] w fun e w' => e = .returned (.int .i64 0) ∧ w' = w.alloc (.cells #[.int .u8 x0, .int .u32 x1, .int .u32 x2, .int .u64 x3, .int .u64 x4, .slice A5 l5 c5] 27)) := by
    refine Lib.hid (fun w => ?_)
    have := check_w x0 x1 x2 x3 x4 A5 l5 c5 w
    rw [e0, e1, e2, e3, e4, e5] at this ⊢
    rw [h2] at this
    exact this
  have hfr : frc f.f0 f.f1 f.f2 f.f3 f.f4 (.slice A5 f.f5.length c5) = #[.int .u8 x0, .int .u32 x1, .int .u32 x2, .int .u64 x3, .int .u64 x4, .slice A5 l5 c5] := by
    rw [e0, e1, e2, e3, e4, e5]; rfl
  have HFR := Lib.hid hfr
  rw [hfr] at hat0 ⊢
  have HAT := Lib.hid hat0
  obtain ⟨b, hb⟩ : ∃ b, b = w.heap.size := ⟨_, rfl⟩
  have HA9 := Lib.hid h1
  clear h ok hV h1 h2 hb0 e0 e1 e2 e3 e4 e5 hbt hpe hσ1 hok1 hmi hmi2 hokp hbM hf1 hf1' hf3 hf3' hf4 hf4' hn hat0 hfr hM hMm hMl hBl
  go_enter Try.func15, Try.ntmps15
  go_wp2_with fail
  refine (ask_ses HAT.out.1 now).mono ?_
  rintro e w1 ⟨rfl, rfl⟩
  rw [HA.out]
  go_wp2_with fail
  refine (HC.out _).mono ?_
  rintro e w1 ⟨rfl, rfl⟩
  go_upto_region 7 with fail
  have HAT2 := Lib.hid (HAT.out.below (below_alloc (Below.refl _ _) (.cells #[.int .u8 x0, .int .u32 x1, .int .u32 x2, .int .u64 x3, .int .u64 x4, .slice A5 l5 c5] 27)))
  clear HAT HC HA
  rw [← hb] at HAT2 HBM hgb ⊢
  have HBE := Lib.hid hb
  clear hb
  generalize (w.alloc (.cells #[.int .u8 x0, .int .u32 x1, .int .u32 x2, .int .u64 x3, .int .u64 x4, .slice A5 l5 c5] 27)).alloc (.cells #[.int .u8 x0, .int .u32 x1, .int .u32 x2, .int .u64 x3, .int .u64 x4, .slice A5 l5 c5] 27) = W0 at *
  obtain ⟨A0, c0, hbk, _⟩ := HAT2.out.1.open_
  have d10 := blk_cell hbk 10 (.int .i64 σ.now) rfl
  have f10 := blk_free hbk 10
  obtain ⟨hs1, hc1⟩ := HAT2.out.1.cell 10 (.int .i64 now) σ1 (fun v => by rw [E1.out.1]; rfl) (by rw [E1.out.1]) (by rw [E1.out.1])
  have HAT1 := Lib.hid (HAT2.out.turn HBM.out HOKP.out hs1 hc1)
  clear hbk hs1 hc1 HAT2
  obtain ⟨q, hq⟩ : ∃ q, q = σ.now := ⟨_, rfl⟩
  rw [← hq] at d10
  clear hq
  go_upto_region 8 with fail
  clear d10 f10
  generalize W0.setCell ⟨g, 10, none⟩ (.int .i64 now) = W1 at *
  go_cut [12] (fun v wx => v = .bool mi ∧ Hid (AT w M B g m b okp A5 c5 f σ1 wx))
  case first =>
    obtain ⟨A0, c0, hbk, _⟩ := HAT1.out.1.open_
    have s3 := blk_cell hbk 3 (.int .u32 bt) (by rw [← E1.out.2.1]; rfl)
    have hbb := HAT1.out.2.1
    have b2 := blk_cell hbb 2 (.int .u32 x2) (by rw [EQ.out.2.2.1]; rfl)
    clear hbk hbb
    obtain ⟨q1, hq1⟩ : ∃ q1, (x2 == 0) = q1 := ⟨_, rfl⟩
    obtain ⟨q2, hq2⟩ : ∃ q2, (x2 == bt) = q2 := ⟨_, rfl⟩
    have HE : Hid (mi = (q1 || q2)) := by rw [← hq1, ← hq2]; exact Lib.hid HMI.out.2
    cases q1 with
    | true =>
      go_quiet (fail)
      go_wp2_with fail
      go_meet
      exact ⟨by rw [HE.out]; rfl, Lib.hid (HAT1.out.drewN _)⟩
    | false =>
      go_quiet (fail)
      go_wp2_with fail
      go_meet
      exact ⟨by rw [HE.out]; rfl, Lib.hid (HAT1.out.drewN _)⟩
  case rest =>
    obtain ⟨rfl, HAT⟩ := hcut
    clear HAT1
    go_upto_region 9 with fail
    obtain ⟨lo, hlo⟩ : ∃ lo, decide (x1 < pe) = lo := ⟨_, rfl⟩
    go_cut [53] (fun v wx => v = .bool (mi && lo) ∧ Hid (AT w M B g m b okp A5 c5 f σ1 wx))
    case first =>
      obtain ⟨A0, c0, hbk, _⟩ := HAT.out.1.open_
      have s6 := blk_cell hbk 6 (.int .u32 pe) (by rw [← E1.out.2.2]; rfl)
      have hbb := HAT.out.2.1
      have b1 := blk_cell hbb 1 (.int .u32 x1) (by rw [EQ.out.2.1]; rfl)
      clear hbk hbb
      cases mi with
      | true =>
        go_quiet (fail)
        go_wp2_with fail
        go_meet
        exact ⟨rfl, Lib.hid (HAT.out.drewN _)⟩
      | false =>
        go_quiet (fail)
        go_wp2_with fail
        go_meet
        exact ⟨rfl, Lib.hid (HAT.out.drewN _)⟩
    case rest =>
      obtain ⟨rfl, HAT9⟩ := hcut
      clear HAT
      have HLO := Lib.hid hlo
      clear hlo
      cases hml : (mi && lo) with
      | true =>
        have HF : Hid (σ.takeF now f = ⟨0, [], [], false, σ1⟩) := by
          refine Lib.hid ?_
          rw [Bool.and_eq_true] at hml
          have h3 : pe = σ.peer := EQ.out.2.2.2.2.2.2.2
          have h4 := HLO.out
          rw [hml.2, decide_eq_true_iff, EQ.out.2.1, h3] at h4
          unfold Se.takeF
          rw [if_pos HA9.out, if_pos HCH.out, if_pos ⟨by rw [← HMI.out.1]; exact hml.1, h4⟩, E1.out.1]
        clear hml
        go_wp2_with fail
        refine bodyPost_ret (v := .tuple #[.slice none 0 0, .slice none 0 0, .bool false, .int .i64 0]) ?_ rfl ?_
        · simp [results, Try.results15, go_sem]
        · rw [HF.out]
          exact TkP.none_ HAT9.out.1 HAT9.out.2.2.2 0
      | false =>
        have HML : Hid (¬ (σ.mine f = true ∧ f.f1 < σ.peer)) := by
          refine Lib.hid ?_
          rintro ⟨h1, h2⟩
          have h3 : pe = σ.peer := EQ.out.2.2.2.2.2.2.2
          have h4 := HLO.out
          rw [EQ.out.2.1, h3, decide_eq_true h2] at h4
          rw [← HMI.out.1] at h1
          rw [h1, ← h4] at hml
          cases hml
        clear hml
        have hbb := HAT9.out.2.1
        rw [HFR.out] at hbb
        have b0 := blk_cell hbb 0 (.int .u8 x0) rfl
        have b1 := blk_cell hbb 1 (.int .u32 x1) rfl
        have b2 := blk_cell hbb 2 (.int .u32 x2) rfl
        have b3 := blk_cell hbb 3 (.int .u64 x3) rfl
        have b4 := blk_cell hbb 4 (.int .u64 x4) rfl
        have b5 := blk_cell hbb 5 (.slice A5 l5 c5) rfl
        clear hbb
        go_upto_region 12 with fail
        have htt : tkc g f (.slice A5 f.f5.length c5) (.slice none 0 0) (.slice none 0 0) = #[.pointer (some ⟨g, 0, none⟩), .int .u8 x0, .int .u32 x1, .int .u32 x2, .int .u64 x3, .int .u64 x4, .slice A5 l5 c5, .slice none 0 0, .slice none 0 0] := by
          have h := EQ.out
          unfold tkc
          rw [h.1, h.2.1, h.2.2.1, h.2.2.2.1, h.2.2.2.2.1, h.2.2.2.2.2.1]
        have hbl : Below wc.heap.size wc (wc.alloc (.cells #[.pointer (some ⟨g, 0, none⟩), .int .u8 x0, .int .u32 x1, .int .u32 x2, .int .u64 x3, .int .u64 x4, .slice A5 l5 c5, .slice none 0 0, .slice none 0 0] 102)) := below_alloc (Below.refl _ _) _
        have HTT : Hid (TT w M B g m b wc.heap.size okp A5 c5 f σ1 (wc.alloc (.cells #[.pointer (some ⟨g, 0, none⟩), .int .u8 x0, .int .u32 x1, .int .u32 x2, .int .u64 x3, .int .u64 x4, .slice A5 l5 c5, .slice none 0 0, .slice none 0 0] 102))) := by
          refine Lib.hid ⟨HAT9.out.below hbl, ?_, ?_, ?_⟩
          · rw [htt]
            exact heap_alloc_new wc _
          · exact HAT9.out.2.2.2.size
          · have := blk_lt HAT9.out.2.1
            omega
        have htM : Hid (¬ M wc.heap.size) := Lib.hid (fun hm => Nat.lt_irrefl _ (HAT9.out.1.2.2.1 _ hm).1)
        have htB : Hid (¬ B wc.heap.size) := Lib.hid (fun hm => Nat.lt_irrefl _ (HAT9.out.1.2.2.2.1 _ hm))
        obtain ⟨t, ht⟩ : ∃ t, t = wc.heap.size := ⟨_, rfl⟩
        rw [← ht] at HTT htM htB ⊢
        clear hbl b0 b1 b2 b3 b4 b5 HAT9 ht htt
        generalize wc.alloc (.cells #[.pointer (some ⟨g, 0, none⟩), .int .u8 x0, .int .u32 x1, .int .u32 x2, .int .u64 x3, .int .u64 x4, .slice A5 l5 c5, .slice none 0 0, .slice none 0 0] 102) = W2 at *
        obtain ⟨an, han⟩ : ∃ an, decide (pe < x1) = an := ⟨_, rfl⟩
        go_cut [14] (fun v wx => v = .bool an ∧ Hid (TT w M B g m b t okp A5 c5 f σ1 wx))
        case first =>
          obtain ⟨A0, c0, hbk, _⟩ := HTT.out.1.1.open_
          have s6 := blk_cell hbk 6 (.int .u32 pe) (by rw [← E1.out.2.2]; rfl)
          have hbb := HTT.out.1.2.1
          have b1 := blk_cell hbb 1 (.int .u32 x1) (by rw [EQ.out.2.1]; rfl)
          clear hbk hbb
          go_quiet (fail)
          go_wp2_with fail
          go_meet
          exact ⟨rfl, Lib.hid (HTT.out.drewN _)⟩
        case rest =>
          obtain ⟨rfl, HT2⟩ := hcut
          clear HTT
          have HAN := Lib.hid han
          clear han
          obtain ⟨σ2, hσ2⟩ : ∃ σ2 : Se, σ2 = if σ.peer < f.f1 then σ1.anew f.f1 else σ1 := ⟨_, rfl⟩
          have hex : (σ.peer < f.f1) = (an = true) := by
            rw [← HAN.out, EQ.out.2.1, EQ.out.2.2.2.2.2.2.2]
            simp
          have HS2 : Hid (σ2 = if an = true then σ1.anew f.f1 else σ1) := Lib.hid (by rw [hσ2]; simp only [hex])
          have HE2 := Lib.hid hσ2
          clear hσ2 hex
          go_upto_if 65 with fail
          go_cut [] (fun wx => Hid (TT w M B g m b t okp A5 c5 f σ2 wx))
          case first =>
            have hbb := HT2.out.1.2.1
            have b1 := blk_cell hbb 1 (.int .u32 x1) (by rw [EQ.out.2.1]; rfl)
            have HF1 : Hid (x1 = f.f1) := Lib.hid EQ.out.2.1
            clear hbb
            cases an with
            | false =>
              go_wp2_with fail
              go_meet
              rw [HS2.out]
              exact HT2
            | true =>
              go_wp2_with fail
              refine (anew_ses HT2.out.1.1 OK1.out.now0 OK1.out.now1 (by have := OK1.out.tmr0; omega) OK1.out.tmr1 x1).mono ?_
              rintro e w4 ⟨rfl, h5, h6⟩
              have H5 : Hid (TT w M B g m b t okp A5 c5 f σ2 w4) := by
                rw [HS2.out, if_pos trivial, ← HF1.out]
                exact Lib.hid (HT2.out.turn HBM.out htM.out HOKP.out h5 h6)
              clear h5 h6 b1
              go_wp2_with fail
              go_meet
              exact H5
          case rest =>
            have HT3 := hcut
            clear hcut HT2
            have hok2 : Ok n σ2 := by
              rw [HE2.out]
              split
              · exact OK1.out.anew _ HW4.out.1 HW4.out.2.1
              · exact OK1.out
            have OK2 := Lib.hid hok2
            clear hok2
            have HB2 : Hid (σ2.boot = bt) := Lib.hid (by
              rw [HE2.out]
              split
              · exact E1.out.2.1
              · exact E1.out.2.1)
            cases hmi : mi with
            | false =>
              have HF : Hid (σ.takeF now f = ⟨0, [σ2.helloF], [], an, σ2⟩) := by
                refine Lib.hid ?_
                have h3 : ¬ σ.mine f = true := by rw [← HMI.out.1, hmi]; simp
                unfold Se.takeF
                rw [if_pos HA9.out, if_pos HCH.out, if_neg HML.out, if_neg h3, HE2.out, ← HAN.out, EQ.out.2.1, EQ.out.2.2.2.2.2.2.2, E1.out.1]
              have hcall := hello_ses HT3.out.1.1
              obtain ⟨x, hx⟩ : ∃ x, x = σ2.helloF := ⟨_, rfl⟩
              have hcl : Hid (Calls Try.prog 38 #[.pointer (some ⟨g, 0, none⟩)] wc fun e w' => e = .returned (.agg #[.int .u8 x.f0, .int .u32 x.f1, .int .u32 x.f2, .int .u64 x.f3, .int .u64 x.f4, .slice none 0 0]) ∧ Below wc.heap.size wc w') := by
                rw [hx]
                exact Lib.hid hcall
              have HX : Hid (x.f5 = []) := by rw [hx]; exact Lib.hid rfl
              have HXE := Lib.hid hx
              clear hmi hcall hx
              go_wp2_with fail
              refine hcl.out.mono ?_
              rintro e w5 ⟨rfl, hb5⟩
              have HB5 := Lib.hid hb5
              clear hb5 hcl
              go_wp2_with fail
              refine bodyPost_ret (v := .tuple #[.slice (some ⟨w5.heap.size, 0, none⟩) 1 1, .slice none 0 0, .bool an, .int .i64 0]) ?_ rfl ?_
              · simp [results, Try.results15, go_sem]
              · rw [HF.out]
                have hsz := HT3.out.1.2.2.2.size
                have hsz5 := HB5.out.size
                have hb6 : Below wc.heap.size wc (w5.alloc (.cells (frc x.f0 x.f1 x.f2 x.f3 x.f4 (.slice none 0 0)) 27)) := below_then HB5.out hsz5 (below_alloc (Below.refl _ _) _)
                refine ⟨B, some ⟨w5.heap.size, 0, none⟩, none, 1, 0, rfl, HT3.out.1.1.below hb6, Gr.of_chg (HT3.out.1.2.2.2.then_below hb6), ?_, Kd.V_nil _ _ _ _ _⟩
                rw [← HXE.out]
                refine Kd.V_mono (one_frame HX.out (heap_alloc_new w5 _) 0) (fun k hk => ⟨by omega, by rw [World.size_alloc]; omega, fun hm => ?_⟩)
                have := (HMS.out.2.2.1 k hm).1
                omega
            | true =>
              have HF : Hid (σ.takeF now f = ⟨0, ((σ2.met f).kind f).1 ++ ((σ2.met f).kind f).2.2.freshL, ((σ2.met f).kind f).2.1, an, ((σ2.met f).kind f).2.2.fresh⟩) := by
                refine Lib.hid ?_
                have h3 : σ.mine f = true := by rw [← HMI.out.1, hmi]
                unfold Se.takeF
                rw [if_pos HA9.out, if_pos HCH.out, if_neg HML.out, if_pos h3, HE2.out, ← HAN.out, EQ.out.2.1, EQ.out.2.2.2.2.2.2.2, E1.out.1]
              clear hmi
              obtain ⟨q1, hq1⟩ : ∃ q1, (x2 == bt) = q1 := ⟨_, rfl⟩
              obtain ⟨q2, hq2⟩ : ∃ q2, q2 = σ2.up := ⟨_, rfl⟩
              have HM : Hid (σ2.met f = if (q1 && !q2) = true then ({ σ2 with up := true } : Se).stop else σ2) := by
                refine Lib.hid ?_
                unfold Se.met
                rw [HB2.out, ← EQ.out.2.2.1, hq2, ← hq1]
                congr 1
                simp
              have HUP := Lib.hid hq2
              go_upto_region 17 with fail
              go_cut [90] (fun v wx => v = .bool (q1 && !q2) ∧ Hid (TT w M B g m b t okp A5 c5 f σ2 wx))
              case first =>
                obtain ⟨A0, c0, hbk, _⟩ := HT3.out.1.1.open_
                have s3 := blk_cell hbk 3 (.int .u32 bt) (by rw [← HB2.out]; rfl)
                have s7 := blk_cell hbk 7 (.bool q2) (by rw [hq2]; rfl)
                have hbb := HT3.out.1.2.1
                have b2 := blk_cell hbb 2 (.int .u32 x2) (by rw [EQ.out.2.2.1]; rfl)
                clear hbk hbb hq2
                cases q1 with
                | true =>
                  go_quiet (fail)
                  go_wp2_with fail
                  go_meet
                  exact ⟨rfl, Lib.hid (HT3.out.drewN _)⟩
                | false =>
                  go_quiet (fail)
                  go_wp2_with fail
                  go_meet
                  exact ⟨rfl, Lib.hid (HT3.out.drewN _)⟩
              case rest =>
                obtain ⟨rfl, HT4⟩ := hcut
                clear HT3 hq1 hq2
                obtain ⟨σ3, hσ3⟩ : ∃ σ3 : Se, σ3 = σ2.met f := ⟨_, rfl⟩
                have hok3 : Ok n σ3 := by rw [hσ3]; exact OK2.out.met f
                have OK3 := Lib.hid hok3
                have HE3 := Lib.hid hσ3
                clear hok3
                rw [← hσ3] at HM HF
                clear hσ3
                obtain ⟨q, hq⟩ : ∃ q, q = (q1 && !q2) := ⟨_, rfl⟩
                rw [← hq] at HM ⊢
                clear hq
                go_upto_if 90 with fail
                go_cut [] (fun wx => Hid (TT w M B g m b t okp A5 c5 f σ3 wx))
                case first =>
                  obtain ⟨A0, c0, hbk, _⟩ := HT4.out.1.1.open_
                  have s7 := blk_cell hbk 7 (.bool q2) (by rw [HUP.out]; rfl)
                  have f7 := blk_free hbk 7
                  clear hbk
                  cases q with
                  | false =>
                    go_wp2_with fail
                    go_meet
                    rw [HM.out]
                    exact HT4
                  | true =>
                    obtain ⟨hs5, hc5⟩ := HT4.out.1.1.cell 7 (.bool true) { σ2 with up := true } (fun v => rfl) rfl rfl
                    have HT5 := Lib.hid (HT4.out.turn HBM.out htM.out HOKP.out hs5 hc5)
                    clear hs5 hc5
                    go_upto_region 19 with fail
                    generalize wc.setCell ⟨g, 7, none⟩ (.bool true) = W5 at *
                    go_wp2_with fail
                    refine (stop_ses HT5.out.1.1).mono ?_
                    rintro e w6 ⟨rfl, h5, h6, _⟩
                    have H5 : Hid (TT w M B g m b t okp A5 c5 f σ3 w6) := by
                      rw [HM.out, if_pos trivial]
                      exact Lib.hid (HT5.out.turn HBM.out htM.out HOKP.out h5 h6)
                    clear h5 h6
                    go_wp2_with fail
                    go_meet
                    exact H5
                case rest =>
                  have HT5 := hcut
                  clear hcut HT4
                  have hmm := fun w : World => run_makeMap (P := Try.prog) 104 w
                  obtain ⟨W7, W8, W9, p1, p2, p3, p4, p5, p6, p7⟩ := kinds_put wc t
                  have HT9 : Hid (TT w M B g m b t okp A5 c5 f σ3 W9) := Lib.hid ⟨HT5.out.1.below p7, (p7.block t (blk_lt HT5.out.2.1)).trans HT5.out.2.1, HT5.out.2.2⟩
                  obtain ⟨mm, hmmm⟩ : ∃ mm, mm = wc.heap.size := ⟨_, rfl⟩
                  have P4 : Hid _ := Lib.hid p4
                  have P5 : Hid _ := Lib.hid p5
                  have P6 : Hid _ := Lib.hid p6
                  clear p4 p5 p6 p7 HT5 hmmm
                  go_upto_region 21 with fail
                  clear hmm p1 p2 p3
                  go_cut [] (fun wx => Hid (KQ w M B g m t f (.slice A5 f.f5.length c5) (σ3.kind f) wx))
                  case first =>
                    have hbb := HT9.out.1.2.1
                    have b0 := blk_cell hbb 0 (.int .u8 x0) (by rw [EQ.out.1]; rfl)
                    have HT0 := Lib.hid EQ.out.1
                    have hsz := HT9.out.1.2.2.2.size
                    have HSZ := Lib.hid hsz
                    clear hbb hsz
                    rcases HK.out.2 with h7 | ⟨h7, h8, h9, h10⟩ | h7
                    · obtain rfl : x0 = 1 := HT0.out.trans h7
                      have hlook := P4.out
                      clear P4 P5 P6
                      have HKI : Hid (σ3.kind f = ([if f.f2 = 0 then σ3.helloF else σ3.ackF], [], σ3)) := Lib.hid (by unfold Se.kind; rw [if_pos h7])
                      clear h7
                      have hcl : Hid (Calls Try.prog 46 #[.pointer (some ⟨t, 0, none⟩)] W9 fun e w' => ∃ A c, e = .returned (.tuple #[]) ∧ w'.heap[t]? = some (.cells (tkc g f (.slice A5 f.f5.length c5) (.slice A 1 c) (.slice none 0 0)) 102 (0, 0)) ∧ Kd.N k27 27 w' W9.heap.size (fun k => W9.heap.size ≤ k) (.slice A 1 c) [if f.f2 = 0 then σ3.helloF else σ3.ackF] ∧ Chg (fun k => k = t) W9 w') := by
                        refine Lib.hid ?_
                        by_cases hz : f.f2 = 0
                        · rw [if_pos hz]
                          exact greeted_hello HT9.out.1.1 t f _ _ HT9.out.2.1 hz
                        · rw [if_neg hz]
                          exact greeted_ack HT9.out.1.1 t f _ _ HT9.out.2.1 hz
                      go_wp2_with fail
                      refine hcl.out.mono ?_
                      rintro e w5 ⟨A3, c3, rfl, j1, j2, j3⟩
                      have J1 := Lib.hid j1
                      have J2 := Lib.hid j2
                      have J3 := Lib.hid j3
                      clear j1 j2 j3 hcl hlook b0
                      go_wp2_with fail
                      go_meet
                      refine Lib.hid ?_
                      rw [HKI.out]
                      have h1 := HT9.out.2.2.1
                      have h2 := blk_lt HT9.out.2.1
                      have hle := HSZ.out
                      have hle2 := J3.out.size
                      have hMl := HT9.out.1.1.2.2.1
                      have hBl := HT9.out.1.1.2.2.2.1
                      refine ⟨B, A3, none, c3, 0, HT9.out.1.1.step hle2 (fun k hk hl => J3.out.block k hl (fun he => ?_)), J1.out, Kd.N_mono (Kd.N_lower J2.out hle) (fun k hk => ⟨by omega, fun hm => ?_, by omega, fun hb => by have := hBl k hb; omega⟩), Kd.V_nil _ _ _ _ _, Gr.of_chg ?_, htB.out⟩
                      · subst he
                        exact hk.elim htM.out htB.out
                      · have := (hMl k hm).1
                        omega
                      · exact HT9.out.1.2.2.2.trans J3.out (fun i hi => .inr (by rw [hi]; exact h1))
                    · obtain rfl : x0 = 2 := HT0.out.trans h7
                      have hlook := P5.out
                      clear P4 P5 P6
                      have HKI : Hid (σ3.kind f = ([((σ3.told f.f4).put f.f3 f.f5).pop.2.ackF], ((σ3.told f.f4).put f.f3 f.f5).pop.1, ((σ3.told f.f4).put f.f3 f.f5).pop.2)) := Lib.hid (by unfold Se.kind; rw [if_neg (by omega), if_pos h7])
                      have hcl := Lib.hid (handed_ses HT9.out.1.1 OK3.out t f A5 c5 HT9.out.2.1 htM.out htB.out okp HT9.out.1.2.2.1 HOKP.out h10 HW4.out.2.2.2.2.1 HW4.out.2.2.2.2.2 HW4.out.2.2.1 HW4.out.2.2.2.1)
                      clear h7 h8 h9 h10
                      go_wp2_with fail
                      refine hcl.out.mono ?_
                      rintro e w5 ⟨B5, A3, Ag, c3, cg, rfl, j1, j2, j3, j4, j5, j6, j7⟩
                      have J1 := Lib.hid j1
                      have J2 := Lib.hid j2
                      have J3 := Lib.hid j3
                      have J4 := Lib.hid j4
                      have J5 := Lib.hid j5
                      have J6 := Lib.hid j6
                      have J7 := Lib.hid j7
                      clear j1 j2 j3 j4 j5 j6 j7 hcl hlook b0
                      go_wp2_with fail
                      go_meet
                      refine Lib.hid ?_
                      rw [HKI.out]
                      have h1 := HT9.out.2.2.1
                      have h2 := blk_lt HT9.out.2.1
                      have hle := HSZ.out
                      have hle2 := J5.out.size
                      have hMl := HT9.out.1.1.2.2.1
                      refine ⟨B5, A3, Ag, c3, cg, J2.out, J1.out, Kd.N_mono (Kd.N_lower J3.out hle) (fun k hk => ⟨by omega, fun hm => ?_, by omega, hk.2⟩), Kd.V_mono J4.out (fun k hk => ⟨hk.1.imp id (fun h => by omega), hk.2⟩), ⟨fun _ h => h, fun _ h => .inl h, J6.out, fun k hk => (J7.out k hk).imp id (fun h => by omega), ?_⟩, fun hb => (J7.out t hb).elim htB.out (fun h => by omega)⟩
                      · have := (hMl k hm).1
                        omega
                      · exact HT9.out.1.2.2.2.trans J5.out (fun i hi => hi.imp id (fun h => by rw [h]; exact h1))
                    · obtain rfl : x0 = 3 := HT0.out.trans h7
                      have hlook := P6.out
                      clear P4 P5 P6
                      have HKI : Hid (σ3.kind f = ([], [], σ3.told f.f4)) := Lib.hid (by unfold Se.kind; rw [if_neg (by omega), if_neg (by omega)])
                      clear h7
                      have hcl := Lib.hid (told_ses HT9.out.1.1 OK3.out t f _ _ _ HT9.out.2.1 HW4.out.2.2.2.2.1 HW4.out.2.2.2.2.2)
                      go_wp2_with fail
                      refine hcl.out.mono ?_
                      rintro e w5 ⟨rfl, j1, j2⟩
                      have J1 := Lib.hid j1
                      have J2 := Lib.hid j2
                      clear j1 j2 hcl hlook b0
                      go_wp2_with fail
                      go_meet
                      refine Lib.hid ?_
                      rw [HKI.out]
                      refine ⟨B, none, none, 0, 0, J1.out, (J2.out.block t (blk_lt HT9.out.2.1) htM.out).trans HT9.out.2.1, Kd.N_nil _ _ _ _ _, Kd.V_nil _ _ _ _ _, Gr.of_chg (HT9.out.1.2.2.2.trans J2.out (fun i hi => .inl hi)), htB.out⟩
                  case rest =>
                    have HKQ := hcut
                    have HTS : Hid (w.heap.size ≤ t) := Lib.hid HT9.out.2.2.1
                    clear hcut HT9 P4 P5 P6
                    obtain ⟨r, hr⟩ : ∃ r, r = σ3.kind f := ⟨_, rfl⟩
                    have hokr : Ok (n + 1) r.2.2 := by
                      rw [hr]
                      refine OK3.out.kind HN.out f (fun h7 => ?_)
                      rcases HK.out.2 with h | h | h
                      · omega
                      · exact h.2.2.2
                      · omega
                    have hr1 : r.1.length ≤ 1 := by rw [hr]; exact kind_len σ3 f
                    have HRE := Lib.hid hr
                    rw [← hr] at HKQ HF
                    have hkq := HKQ.out
                    obtain ⟨B5, A3, Ag, c3, cg, hs, ht, hN, hV, hG, htM5⟩ := hkq
                    have HFR1 : Hid (∀ d, Calls Try.prog 43 #[.pointer (some ⟨g, 0, none⟩)] (wc.drewN d) fun e w' => ∃ A c, e = .returned (.slice A r.2.2.freshL.length c) ∧ Kd.V k27 27 w' 0 (fun k => wc.heap.size ≤ k ∧ k < w'.heap.size) (.slice A r.2.2.freshL.length c) r.2.2.freshL ∧ Ses M B5 g m r.2.2.fresh w' ∧ Chg M wc w') := by
                      refine Lib.hid (fun d => (fresh_ses (hs.drewN d) hokr).mono ?_)
                      rintro e w' ⟨A, c, q1, q2, q3, q4⟩
                      exact ⟨A, c, q1, q2, q3, ⟨q4.os, q4.tape, q4.output, q4.size, q4.block⟩⟩
                    have hfl := freshL_len hokr
                    have HFL := Lib.hid (And.intro hr1 hfl)
                    have t0 := blk_cell ht 7 (.slice A3 r.1.length c3) rfl
                    have HS := Lib.hid hs
                    have HT := Lib.hid ht
                    have HNN := Lib.hid hN
                    have HVV := Lib.hid hV
                    have HGG := Lib.hid hG
                    obtain ⟨z1, hz1⟩ : ∃ z1, z1 = r.1.length := ⟨_, rfl⟩
                    obtain ⟨z2, hz2⟩ : ∃ z2, z2 = r.2.2.freshL.length := ⟨_, rfl⟩
                    obtain ⟨fs, hfs⟩ : ∃ fs, fs = r.2.2.freshL := ⟨_, rfl⟩
                    have HZ1 := Lib.hid hz1
                    have HZ2 := Lib.hid hz2
                    have HFS := Lib.hid hfs
                    rw [← hfs] at hz2 HFR1 HFL
                    have HZ3 : Hid (z2 = fs.length) := Lib.hid hz2
                    rw [← hz2] at HFR1
                    rw [← hz1] at t0
                    clear hs ht hN hV hG hr hokr hr1 hfl HKQ hz1 hz2 hfs
                    go_upto_region 22 with fail
                    have HTL : Hid (t < wc.heap.size) := Lib.hid (blk_lt HT.out)
                    have t8a := blk_cell HT.out 8 (.slice Ag r.2.1.length cg) rfl
                    have FIN : Hid (∀ (w2 w3 : World) (Af A4 : Option Addr) (cf c4 : Nat), Kd.V k27 27 w2 0 (fun k => wc.heap.size ≤ k ∧ k < w2.heap.size) (.slice Af fs.length cf) fs → Ses M B5 g m r.2.2.fresh w2 → Chg M wc w2 → Kd.N k27 27 w3 w.heap.size (fun k => w.heap.size ≤ k ∧ ¬ M k ∧ k ≠ t ∧ ¬ B5 k) (.slice A4 (r.1 ++ fs).length c4) (r.1 ++ fs) → w2.grownBy w3 (Value.slice A3 r.1.length c3).ownBlock →
                        TkP w M B g m (σ.takeF now f) (.returned (.tuple #[.slice A4 (r.1 ++ fs).length c4, .slice Ag r.2.1.length cg, .bool an, .int .i64 0])) (w3.setCell ⟨t, 7, none⟩ (.slice A4 (r.1 ++ fs).length c4)) ∧ w3.heap[t]? = wc.heap[t]?) := by
                      refine Lib.hid ?_
                      intro w2 w3 Af A4 cf c4 h1 h2 h3 h4 h5
                      have hob : ∀ k, (Value.slice A3 r.1.length c3).ownBlock = some k → ¬ M k ∧ k ≠ t ∧ ¬ B5 k ∧ w.heap.size ≤ k := fun k hk => by
                        have := HNN.out.1 k hk
                        exact ⟨this.2.1, this.2.2.1, this.2.2.2, this.1⟩
                      have hkeep : ∀ k, k < w2.heap.size → some k ≠ (Value.slice A3 r.1.length c3).ownBlock → w3.heap[k]? = w2.heap[k]? := fun k hk hn => h5.block k hk hn
                      have hz3 := h3.size
                      have hz5 := h5.size
                      have htl := HTL.out
                      have hszS : (w3.setCell ⟨t, 7, none⟩ (.slice A4 (r.1 ++ fs).length c4)).heap.size = w3.heap.size := by simp [World.setCell]
                      have hkt : w3.heap[t]? = wc.heap[t]? := (hkeep t (by omega) (fun he => (hob t he.symm).2.1 rfl)).trans (h3.block t htl htM.out)
                      refine ⟨?_, hkt⟩
                      rw [HF.out, ← HFS.out]
                      have hMl := HS.out.2.2.1
                      have hBl := HS.out.2.2.2.1
                      have hcw : Chg M w w3 := ((HGG.out.chg.trans h3 (fun i hi => .inl hi))).grown h5 (fun k hk => .inr (hob k hk).2.2.2)
                      have hsz0 := HTS.out
                      refine ⟨B5, A4, Ag, c4, cg, rfl, ?_, ⟨HGG.out.mm, HGG.out.mn, HGG.out.bb, HGG.out.bn, hcw.set _ _ (.inr hsz0)⟩, ?_, ?_⟩
                      · refine h2.step (by rw [hszS]; exact hz5) (fun k hk hl => (Below.heap_setCell _ _ _ _ (show k ≠ t from ?_)).trans (hkeep k hl (fun he => ?_)))
                        · rintro rfl
                          exact hk.elim htM.out htM5
                        · exact hk.elim (hob k he.symm).1 (hob k he.symm).2.2.1
                      · refine Kd.V_mono (Kd.V_far (Kd.N_V (Kd.N_bound h4)) (fun k hk => hk.1.2.2.1) _) (fun k hk => ⟨hk.1.1, by rw [hszS]; exact hk.2, hk.1.2.1⟩)
                      · refine Kd.V_mono (Kd.V_step HVV.out (fun k hk hl => (Below.heap_setCell _ _ _ _ (show k ≠ t from hk.2.2.1)).trans ((hkeep k (by omega) hk.2.2.2.2).trans (h3.block k hl hk.2.2.2.1)))) (fun k hk => ⟨hk.1, by rw [hszS]; have := hk.2.1; omega, hk.2.2.2.1⟩)
                    go_upto_region 22 with fail
                    go_cut [] (fun wx => ∃ A4 c4, wx.cell? ⟨t, 7, none⟩ = some (.slice A4 (r.1 ++ fs).length c4) ∧ wx.cell? ⟨t, 8, none⟩ = some (.slice Ag r.2.1.length cg) ∧ Hid (∀ d, TkP w M B g m (σ.takeF now f) (.returned (.tuple #[.slice A4 (r.1 ++ fs).length c4, .slice Ag r.2.1.length cg, .bool an, .int .i64 0])) (wx.drewN d)))
                    case first =>
                      go_region_law (first
                        | (refine Kd.N_append_rows_step k27 (w0 := w2) w.heap.size (by rfl) (.tmp 113) (.tmp 115) 42 27 (.agg #[.int .u8 0, .int .u32 0, .int .u32 0, .int .u64 0, .int .u64 0, .slice none 0 0]) 56 (by rfl) Try.underlying42 Try.info27 rfl (by decide) (by omega) (.slice A3 z1 c3) r.1 fs Af z2 cf (fun k => w.heap.size ≤ k ∧ ¬ M k ∧ k ≠ t ∧ ¬ B5 k) (fun k => wc.heap.size ≤ k ∧ k < w2.heap.size) (by rfl) (by rfl) (K4.out) (K1.out) (K5.out) (K6.out) (Below.refl _ _) (K7.out) (K8.out) ?_; intro v3 w3 hr3 hb3 hg3 hat3; obtain ⟨A4, c4, e4⟩ := Kd.N_slice hr3; subst e4; have HR3 := Lib.hid hr3; have HG3 := Lib.hid hg3; have hfi := FIN.out w2 w3 Af A4 cf c4 (by rw [← HZ3.out]; exact K0.out) K2.out K3.out hr3 (by rw [← HZ1.out]; exact hg3); have HFI := Lib.hid hfi; have ht3 := hfi.2.trans HT.out; have u7 := blk_cell ht3 7 (.slice A3 z1 c3) (by rw [HZ1.out]; rfl); have u8 := blk_free ht3 7; have HT3 := Lib.hid ht3; clear hr3 hb3 hg3 hat3 hfi ht3)
                        | (go_simp; go_at_call 43; refine (HFR1.out _).mono ?_; rintro e w2 ⟨Af, cf, rfl, k1, k2, k3⟩; have s7 := k3.cell t0 htM.out; have K0 := Lib.hid k1; have K1 : Hid (Kd.F k27 w2 (fun k => wc.heap.size ≤ k ∧ k < w2.heap.size) Af z2 fs) := Lib.hid (by rw [HZ3.out]; exact (Kd.V_at k1).2.2); have K2 := Lib.hid k2; have K3 := Lib.hid k3; have K4 : Hid (Kd.N k27 27 w2 w.heap.size (fun k => w.heap.size ≤ k ∧ ¬ M k ∧ k ≠ t ∧ ¬ B5 k) (.slice A3 z1 c3) r.1) := Lib.hid (by rw [HZ1.out]; exact Kd.N_step HNN.out (fun k hk hl => k3.block k hl hk.2.1)); have K5 : Hid (∀ k, wc.heap.size ≤ k ∧ k < w2.heap.size → (w.heap.size ≤ k ∧ ¬ M k ∧ k ≠ t ∧ ¬ B5 k) ∧ some k ≠ (Value.slice A3 z1 c3).ownBlock) := Lib.hid (K5_ HNN.out HS.out HTL.out HGG.out.chg.size HZ1.out); have K6 : Hid (∀ k, w2.heap.size ≤ k → w.heap.size ≤ k ∧ ¬ M k ∧ k ≠ t ∧ ¬ B5 k) := Lib.hid (K6_ HS.out HTL.out HGG.out.chg.size k3.size); have K7 : Hid (w.heap.size ≤ w2.heap.size) := Lib.hid (Nat.le_trans HGG.out.chg.size k3.size); have K8 : Hid ((r.1.length + z2) * 56 ≤ 140737488355328) := Lib.hid (by have h1 := HFL.out.1; have h2 := HFL.out.2; rw [HZ3.out]; omega); clear k1 k2 k3))
                      all_goals
                        go_wp2_with fail
                        go_meet
                        rw [← List.length_append]
                        refine ⟨A4, c4, ?_, ?_, ?_⟩
                        · exact blk_cell (blk_set HT3.out 7 (.slice A4 (r.1 ++ fs).length c4)) 7 (.slice A4 (r.1 ++ fs).length c4) rfl
                        · exact blk_cell (blk_set HT3.out 7 (.slice A4 (r.1 ++ fs).length c4)) 8 (.slice Ag r.2.1.length cg) rfl
                        · exact Lib.hid (fun d => HFI.out.1.drewN d)
                    case rest =>
                      obtain ⟨A4, c4, t7, t8, HFI⟩ := hcut
                      go_wp2_with fail
                      go_quiet (fail)
                      go_wp2_with fail
                      refine bodyPost_ret (v := .tuple #[.slice A4 (r.1.length + fs.length) c4, .slice Ag r.2.1.length cg, .bool an, .int .i64 0]) ?_ rfl ?_
                      · simp [results, Try.results15, go_sem]
                      · have := HFI.out nq
                        rw [List.length_append] at this
                        exact this
end
end Go.Proofs.Ytlnhjkbhhdcdeaa
