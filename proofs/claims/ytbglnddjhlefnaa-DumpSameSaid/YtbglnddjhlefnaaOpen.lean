/- What a call was handed, opened: a readable datum of a type is a row of its kind. -/
import Derived.Test.YtbglnddjhlefnaaWMore
import Derived.Deep.Slices
import Derived.SizedLaws
import Derived.ChangeArms
namespace Go.Proofs.Ytbglnddjhlefnaa
open Go.RowKit Go.ChangeShapes Go.WideShapes Go.Deep Go.Proofs.YtbglnddjhlefnaaW.PrintWords

/-- Cells that can be read as a datum of type t are of the kind d, and what is read is right. -/
structure Opens {α : Type} (P : Program) (t : TypeId) (d : Kd α) (ok : α → Prop) : Prop where
  cells : P.cellsOf t = d.sz
  open_ : ∀ {H : Type} {enc : TypeId × Value → H} {w : World} {base : Nat} {spare : Nat → Bool} {held : Bool} {fuel : Nat} {cs : List Value} {x : DataW H × List MemPlace},
    DataW.trod enc P w base spare held fuel t cs = some x → cs.length = d.sz → (x.1.weights P t).all (· ≤ reachBytes) = true → ∃ a, d.K w a cs ∧ ok a

theorem Opens.int {P : Program} {t : TypeId} {k : IntKind} (hu : P.underlying t = some (.int k)) (hc : P.cellsOf t = 1) : Opens P t (Kd.int k) (fun n => (Lit.int k n).wf = true) :=
  ⟨hc, fun h _ _ => by
    obtain ⟨n, rfl, _, hw⟩ := DataW.trod_int hu h
    exact ⟨n, rfl, hw⟩⟩
theorem Opens.bool {P : Program} {t : TypeId} (hu : P.underlying t = some .bool) (hc : P.cellsOf t = 1) : Opens P t Kd.bool (fun _ => True) :=
  ⟨hc, fun h _ _ => by
    obtain ⟨b, rfl, _⟩ := DataW.trod_bool hu h
    exact ⟨b, rfl, trivial⟩⟩
theorem Opens.string {P : Program} {t : TypeId} (hu : P.underlying t = some .string) (hc : P.cellsOf t = 1) : Opens P t Kd.string (fun s => s.size ≤ 140737488351232) :=
  ⟨hc, fun h _ hw => by
    obtain ⟨s, rfl, rfl, _⟩ := DataW.trod_string hu h
    refine ⟨s, rfl, ?_⟩
    simp only [DataW.weights, List.all_cons, List.all_nil, Bool.and_true, decide_eq_true_eq, Array.length_toList] at hw
    exact hw⟩

theorem weightsAll_mem {H : Type} {P : Program} {e : TypeId} : ∀ {l : List (DataW H)} {d : DataW H}, d ∈ l → (DataW.weightsAll P e l).all (· ≤ reachBytes) = true → (d.weights P e).all (· ≤ reachBytes) = true
  | y :: r, d, hd, h => by
    rw [DataW.weightsAll, List.all_append, Bool.and_eq_true] at h
    rcases List.mem_cons.1 hd with rfl | hd
    · exact h.1
    · exact weightsAll_mem hd h.2

theorem Opens.slice {α : Type} {P : Program} {t e : TypeId} {d : Kd α} {ok : α → Prop} {B : Nat} (hu : P.underlying t = some (.slice e)) (hc : P.cellsOf t = 1) (hB : P.bytesOf e = B) (he : Opens P e d ok) :
    Opens P t (Kd.slice e d) (fun xs => (∀ x ∈ xs, ok x) ∧ xs.length * B ≤ 140737488351232) := by
  refine ⟨hc, ?_⟩
  intro H enc w base spare held fuel cs x h hcs hw
  rcases open_slice hu h with ⟨rfl, _⟩ | ⟨a, len, cap, m, n, D, Pl, rfl, hb, hl, hm, hmm, rfl, hi⟩
  · exact ⟨[], ⟨none, 0, rfl, Nat.le_refl _, Kd.C_nil d w⟩, by simp⟩
  · simp only [DataW.weights, hu, List.all_cons, Bool.and_eq_true, List.all_append, decide_eq_true_eq, List.length_map, List.length_range, hB] at hw
    obtain ⟨hw0, hw1, _⟩ := hw
    have hlm : len ≤ m := by rw [hmm]; split <;> omega
    have hall : ∀ i, i < len → ∃ y : α, ∃ c : List Value, w.cells? base (a.add (i * d.sz)) d.sz = some c ∧ d.K w y c ∧ ok y := by
      intro i hil
      obtain ⟨c, hc', ht⟩ := hi i (Nat.lt_of_lt_of_le hil hlm)
      rw [he.cells] at hc'
      obtain ⟨_, hcl, _⟩ := World.cells?_some hc'
      obtain ⟨y, hK, hok⟩ := he.open_ ht hcl (weightsAll_mem (List.mem_map.2 ⟨i, List.mem_range.2 hil, rfl⟩) hw1)
      exact ⟨y, c, hc', hK, hok⟩
    obtain ⟨f, hf⟩ : ∃ f : Nat → Option α, ∀ i, i < len → ∃ y, f i = some y ∧ ∃ c, w.cells? base (a.add (i * d.sz)) d.sz = some c ∧ d.K w y c ∧ ok y := by
      refine ⟨fun i => if h : i < len then some (hall i h).choose else none, fun i hil => ⟨(hall i hil).choose, by simp [hil], (hall i hil).choose_spec⟩⟩
    have hlist : ∀ k, k ≤ len → ∃ xs : List α, xs.length = k ∧ ∀ j y, xs[j]? = some y → ∃ c, w.cells? base (a.add (j * d.sz)) d.sz = some c ∧ d.K w y c ∧ ok y := by
      intro k
      induction k with
      | zero => exact fun _ => ⟨[], rfl, fun j y hj => by simp at hj⟩
      | succ k ih =>
        intro hk
        obtain ⟨xs, hxl, hxs⟩ := ih (by omega)
        obtain ⟨y, _, hy⟩ := hf k (by omega)
        refine ⟨xs ++ [y], by simp [hxl], fun j z hj => ?_⟩
        rcases Nat.lt_or_ge j xs.length with hjl | hjl
        · rw [List.getElem?_append_left hjl] at hj
          exact hxs j z hj
        · have hj' : j = xs.length := by
            have := (List.getElem?_eq_some_iff.1 hj).1
            rw [List.length_append, List.length_singleton] at this
            omega
          subst hj'
          have : y = z := by simpa using hj
          subst this
          rw [hxl]
          exact hy
    obtain ⟨xs, hxl, hxs⟩ := hlist len (Nat.le_refl _)
    refine ⟨xs, ⟨some a, cap, by rw [hxl], by rw [hxl]; exact hl, rfl, by rw [hxl]; simp only [maxLen] at hm; omega, fun _ => ⟨a, rfl, fun j p hj => ?_⟩⟩, ?_, ?_⟩
    · obtain ⟨c, hc', hK, _⟩ := hxs j p hj
      obtain ⟨_, hcl, hat⟩ := World.cells?_some hc'
      refine ⟨c, hcl, hK, fun i u hu' => ?_⟩
      have hil : i < d.sz := by have := (List.getElem?_eq_some_iff.1 hu').1; omega
      have := hat i hil
      rw [hu', Go.Deep.add_add] at this
      exact this
    · intro y hy
      obtain ⟨j, hj⟩ := List.getElem?_of_mem hy
      obtain ⟨_, _, _, hok⟩ := hxs j y hj
      exact hok
    · rw [hxl]
      have : len * B ≤ (len + (m - len)) * B := Nat.mul_le_mul_right _ (by omega)
      simp only [reachBytes] at hw0
      omega

/-- The fields of a struct, from cell o on. -/
structure OpensL {α : Type} (P : Program) (o : Nat) (fs : List Field) (d : Kd α) (ok : α → Prop) : Prop where
  open_ : ∀ {H : Type} {enc : TypeId × Value → H} {w : World} {base : Nat} {spare : Nat → Bool} {held : Bool} {n : Nat} {cs : List Value} {xs : List (DataW H × List MemPlace)},
    o + d.sz ≤ cs.length → xs.length = fs.length → (∀ (i : Nat) (f : Field), fs[i]? = some f → DataW.trod enc P w base spare held n f.type ((cs.drop f.offset).take (P.cellsOf f.type)) = xs[i]?) →
    (DataW.weightsEach P (fs.map (·.type)) (xs.map (·.1))).all (· ≤ reachBytes) = true → ∃ a, d.K w a ((cs.drop o).take d.sz) ∧ ok a
theorem OpensL.last {α : Type} {P : Program} {o : Nat} {f : Field} {d : Kd α} {ok : α → Prop} (h : Opens P f.type d ok) (ho : f.offset = o := by rfl) : OpensL P o [f] d ok := by
  refine ⟨fun {H enc w base spare held n cs xs} hl hx hf hw => ?_⟩
  match xs, hx with
  | [x], _ =>
    have h0 := hf 0 f rfl
    rw [h.cells, ho] at h0
    refine h.open_ h0 (by rw [List.length_take, List.length_drop]; omega) ?_
    simpa [DataW.weightsEach] using hw
theorem OpensL.cons {α β : Type} {P : Program} {o : Nat} {f : Field} {fs : List Field} {a : Kd α} {b : Kd β} {oka : α → Prop} {okb : β → Prop} (h : Opens P f.type a oka) (hs : OpensL P (o + a.sz) fs b okb) (ho : f.offset = o := by rfl) : OpensL P o (f :: fs) (Kd.pair a b) (fun x => oka x.1 ∧ okb x.2) := by
  refine ⟨fun {H enc w base spare held n cs xs} hl hx hf hw => ?_⟩
  have hsz : (Kd.pair a b).sz = a.sz + b.sz := rfl
  rw [hsz] at hl ⊢
  match xs, hx with
  | x :: xs, hx =>
    have h0 := hf 0 f rfl
    rw [h.cells, ho] at h0
    rw [List.map_cons, List.map_cons, DataW.weightsEach, List.all_append, Bool.and_eq_true] at hw
    obtain ⟨p, hp, hpo⟩ := h.open_ h0 (by rw [List.length_take, List.length_drop]; omega) hw.1
    obtain ⟨q, hq, hqo⟩ := hs.open_ (cs := cs) (xs := xs) (by omega) (by simpa using hx) (fun i g hg => by simpa using hf (i + 1) g (by simpa using hg)) hw.2
    refine ⟨(p, q), ⟨_, _, ?_, hp, hq⟩, hpo, hqo⟩
    rw [List.take_add, List.drop_drop]
theorem Opens.struct_ {α : Type} {P : Program} {t : TypeId} {fs : Array Field} {d : Kd α} {ok : α → Prop} (hu : P.underlying t = some (.struct fs)) (hc : P.cellsOf t = d.sz) (h : OpensL P 0 fs.toList d ok) : Opens P t d ok := by
  refine ⟨hc, fun {H enc w base spare held fuel cs x} ht hl hw => ?_⟩
  obtain ⟨xs, n, rfl, rfl, _, hlen, hf⟩ := DataW.trod_struct hu ht
  have hw' : (DataW.weightsEach P (fs.toList.map (·.type)) (xs.map (·.1))).all (· ≤ reachBytes) = true := by simpa [DataW.weights, hu] using hw
  obtain ⟨a, ha, hok⟩ := h.open_ (cs := cs) (xs := xs) (by omega) (by simpa using hlen) (fun i f hi => hf i f (by simpa using hi)) hw'
  refine ⟨a, ?_, hok⟩
  rwa [List.drop_zero, List.take_of_length_le (by omega)] at ha
/-- An argument that is a slice. -/
theorem Opens.arg {α H : Type} {enc : TypeId × Value → H} {P : Program} {t e : TypeId} {d : Kd α} {ok : List α → Prop} {W : World} {base b0 b : Nat} {spare : Nat → Bool} {held : Bool} {v : Value} {D : DataW H} {p : List MemPlace} {r : Reach}
    (hd : Kd.Heap d) (hu : P.underlying t = some (.slice e)) (h : Opens P t (Kd.slice e d) ok) (hv : Value.okWide P W r b0 t v) (ht : DataW.Trod enc P W base spare held t v D p) (hw : (D.weights P t).all (· ≤ reachBytes) = true) :
    ∃ xs, Kd.V d e W b (fun k => k < W.heap.size) v xs ∧ ok xs := by
  obtain ⟨a0, len, cap, rfl⟩ := okWide_slice hu hv
  obtain ⟨fuel, hf⟩ := ht
  obtain ⟨xs, ⟨A, c, hc, hl, hC⟩, hok⟩ := h.open_ hf rfl hw
  simp [Value.cells] at hc
  obtain ⟨rfl, rfl, rfl⟩ := hc
  exact ⟨xs, Kd.V_mk hl (Kd.C_F hd hC), hok⟩
end Go.Proofs.Ytbglnddjhlefnaa
