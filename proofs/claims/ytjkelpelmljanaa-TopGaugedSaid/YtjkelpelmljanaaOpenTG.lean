/-
  Arguments opened: structs and slices of structs whose cells are all integers, over any program; and what is read again behind a call that leaves old memory alone.
  Arguments opened whose cells are of several kinds: integers, strings, structs, arrays and slices of such. Over any program.
  The argument of TopGauged, opened: a struct of small numbers and of three slices.
-/
import Derived.Test.YtjkelpelmljanaaWords
import Derived.Deep.Slices
import Derived.ProofKit
import Derived.ChangeOld
import Derived.OpenShut
import Derived.Test.YtjkelpelmljanaaGauDefs
import Derived.Test.YtjkelpelmljanaaRows
set_option linter.unusedSimpArgs false
set_option linter.unusedVariables false
namespace Go.Proofs.Ytjkelpelmljanaa
open Go Go.RowKit Go.ChangeShapes Go.WideShapes Go.Deep

section
variable {H : Type} {enc : TypeId × Value → H} {P : Program} {w : World} {base : Nat} {spare : Nat → Bool} {held : Bool}

/-- A type whose values are so many integers of one kind, cell by cell. -/
def AllInts (P : Program) (t : TypeId) (k : IntKind) (size : Nat) : Prop :=
  P.cellsOf t = size ∧ ∀ (H : Type) (enc : TypeId × Value → H) (w : World) (base : Nat) (spare : Nat → Bool) (held : Bool) (n : Nat) (cs : List Value) (y : DataW H × List MemPlace), DataW.trod enc P w base spare held n t cs = some y → ∃ zs : List Int, cs = zs.map (Value.int k) ∧ zs.length = size ∧ ∀ z ∈ zs, (Lit.int k z).wf = true

theorem allInts_int {t : TypeId} {k : IntKind} (ht : P.underlying t = some (.int k)) (hc : P.cellsOf t = 1) : AllInts P t k 1 :=
  ⟨hc, fun H enc w base spare held n cs y h => by
    obtain ⟨a, e0, _, wa⟩ := DataW.trod_int ht h
    exact ⟨[a], by simpa using e0, rfl, by simpa using wa⟩⟩

/-- A struct whose fields are all so. -/
theorem allInts_struct {t : TypeId} {k : IntKind} {fs : Array Field} {sz : Nat} (ht : P.underlying t = some (.struct fs)) (hc : P.cellsOf t = sz)
    (hf : ∀ c, c < sz → ∃ (i : Nat) (f : Field) (size : Nat), fs[i]? = some f ∧ AllInts P f.type k size ∧ f.offset ≤ c ∧ c < f.offset + size) : AllInts P t k sz := by
  refine ⟨hc, fun H enc w base spare held n cs y h => ?_⟩
  obtain ⟨xs, m, _, _, hlen, hxs, hg⟩ := DataW.trod_struct ht h
  rw [hc] at hlen
  have each : ∀ c, c < cs.length → ∃ z : Int, cs[c]? = some (.int k z) ∧ (Lit.int k z).wf = true := fun c hcl => by
    obtain ⟨i, f, size, hi, ⟨hcf, ha⟩, ho, hlt⟩ := hf c (by omega)
    have h1 := hg i f hi
    have hil : i < xs.length := by rw [hxs]; exact (Array.getElem?_eq_some_iff.1 hi).1
    rw [List.getElem?_eq_getElem hil] at h1
    obtain ⟨zs, hz, hzl, hwf⟩ := ha H enc w base spare held _ _ _ h1
    rw [hcf] at hz
    have h2 : ((cs.drop f.offset).take size)[c - f.offset]? = (zs.map (Value.int k))[c - f.offset]? := by rw [hz]
    rw [List.getElem?_take, if_pos (by omega), List.getElem?_drop, show f.offset + (c - f.offset) = c by omega] at h2
    rw [h2, List.getElem?_map]
    have : c - f.offset < zs.length := by omega
    rw [List.getElem?_eq_getElem this]
    exact ⟨_, rfl, hwf _ (List.getElem_mem this)⟩
  have build : ∀ l : List Value, (∀ c, c < l.length → ∃ z : Int, l[c]? = some (.int k z) ∧ (Lit.int k z).wf = true) → ∃ zs : List Int, l = zs.map (Value.int k) ∧ ∀ z ∈ zs, (Lit.int k z).wf = true := by
    intro l
    induction l with
    | nil => intro _; exact ⟨[], rfl, by simp⟩
    | cons v r ih =>
      intro hl
      obtain ⟨z, hz, hw⟩ := hl 0 (by simp)
      obtain ⟨zs, hzs, hws⟩ := ih (fun c hcl => by have := hl (c + 1) (by simpa using hcl); simpa using this)
      refine ⟨z :: zs, ?_, ?_⟩
      · simp at hz; rw [hz, hzs]; rfl
      · intro x hx
        rcases List.mem_cons.1 hx with rfl | hx
        · exact hw
        · exact hws x hx
  obtain ⟨zs, hzs, hws⟩ := build cs each
  exact ⟨zs, hzs, by rw [← hlen, hzs]; simp, hws⟩

/-- A slice of such. -/
theorem read_slice2 {t e : TypeId} {k : IntKind} {size : Nat} (ht : P.underlying t = some (.slice e)) (he : AllInts P e k size) (hs : 0 < size) {n : Nat} {cs : List Value} {y : DataW H × List MemPlace} (h : DataW.trod enc P w base spare held n t cs = some y) :
    ∃ (A : Option Addr) (len cap : Nat) (zs : List Int), cs = [.slice A len cap] ∧ zs.length = len * size ∧ len ≤ cap ∧ cap ≤ maxLen ∧ Ints w w.heap.size k A zs ∧ ∀ z ∈ zs, (Lit.int k z).wf = true := by
  rcases open_slice ht h with ⟨hcs, _⟩ | ⟨a, len, cap, m, n', D, Pl, hcs, _, hl, hm, hmm, _, hi⟩
  · exact ⟨none, 0, 0, [], hcs, by simp, Nat.le_refl _, by simp [maxLen], Ints.nil_ _ _ _ _, by simp⟩
  · have hlm : len ≤ m := by rw [hmm]; split <;> omega
    have each : ∀ i, i < len → ∃ zs : List Int, zs.length = size ∧ (∀ j, j < size → w.cell? (a.add (i * size + j)) = some (.int k (zs.getD j 0))) ∧ ∀ z ∈ zs, (Lit.int k z).wf = true := fun i hil => by
      obtain ⟨cs', hc, ht'⟩ := hi i (by omega)
      rw [he.1] at hc
      obtain ⟨zs, hz, hzl, hwf⟩ := he.2 H enc w base spare held _ _ _ ht'
      obtain ⟨_, _, hat⟩ := World.cells?_some hc
      refine ⟨zs, hzl, fun j hj => ?_, hwf⟩
      rw [← Go.Deep.add_add, hat j hj, hz]
      simp [List.getD, show j < zs.length by omega]
    obtain ⟨f, hf⟩ := choose_lt each
    refine ⟨some a, len, cap, (List.range len).flatMap f, hcs, ?_, hl, hm, ?_, ?_⟩
    · have : ∀ q, q ≤ len → ((List.range q).flatMap f).length = q * size := by
        intro q
        induction q with
        | zero => intro _; simp
        | succ q ih => intro hq; rw [List.range_succ, List.flatMap_append, List.length_append, ih (by omega)]; simp [(hf q (by omega)).1]; rw [Nat.add_mul]; omega
      exact this len (Nat.le_refl _)
    · have cells : ∀ q, q ≤ len → ∀ j, j < q * size → w.cell? (a.add j) = some (.int k (((List.range q).flatMap f).getD j 0)) ∧ ((List.range q).flatMap f).length = q * size := by
        intro q
        induction q with
        | zero => intro _ j hj; simp at hj
        | succ q ih =>
          intro hq j hj
          have hl1 : ((List.range q).flatMap f).length = q * size := by
            rcases Nat.eq_zero_or_pos (q * size) with h0 | h0
            · rcases Nat.mul_eq_zero.1 h0 with h1 | h1
              · subst h1; simp
              · omega
            · exact (ih (by omega) 0 h0).2
          have hl2 := (hf q (by omega)).1
          rw [List.range_succ, List.flatMap_append]
          simp only [List.flatMap_cons, List.flatMap_nil, List.append_nil]
          refine ⟨?_, by rw [List.length_append, hl1, hl2, Nat.add_mul]; omega⟩
          rw [Nat.add_mul, Nat.one_mul] at hj
          rcases Nat.lt_or_ge j (q * size) with h1 | h1
          · rw [(ih (by omega) j h1).1]
            simp [List.getD, List.getElem?_append_left (show j < ((List.range q).flatMap f).length by omega)]
          · have := (hf q (by omega)).2.1 (j - q * size) (by omega)
            rw [show q * size + (j - q * size) = j by omega] at this
            rw [this]
            simp [List.getD, List.getElem?_append_right (show ((List.range q).flatMap f).length ≤ j by omega), hl1]
      intro hpos
      have hL : ((List.range len).flatMap f).length = len * size := by
        rcases Nat.eq_zero_or_pos (len * size) with h0 | h0
        · rcases Nat.mul_eq_zero.1 h0 with h1 | h1
          · subst h1; simp
          · omega
        · exact (cells len (Nat.le_refl _) 0 h0).2
      rw [hL] at hpos
      have h0 := (cells len (Nat.le_refl _) 0 hpos).1
      obtain ⟨b, off, spot⟩ := a
      have hspot : spot = none := by
        have := World.cell?_spot h0
        simpa [Addr.add] using this
      subst hspot
      refine ⟨b, off, rfl, World.block_lt_of_cell? w _ (by simpa [Addr.add] using h0), fun j hj => ?_⟩
      rw [hL] at hj
      rw [← Go.WideShapes.add_plain]
      exact (cells len (Nat.le_refl _) j hj).1
    · intro z hz
      obtain ⟨i, hi', hz'⟩ := List.mem_flatMap.1 hz
      exact (hf i (List.mem_range.1 hi')).2.2 z hz'

theorem read_slice {t e : TypeId} {k : IntKind} {size : Nat} (ht : P.underlying t = some (.slice e)) (he : AllInts P e k size) (hs : 0 < size) {n : Nat} {cs : List Value} {y : DataW H × List MemPlace} (h : DataW.trod enc P w base spare held n t cs = some y) :
    ∃ (A : Option Addr) (len cap : Nat) (zs : List Int), cs = [.slice A len cap] ∧ zs.length = len * size ∧ len ≤ maxLen ∧ Ints w w.heap.size k A zs ∧ ∀ z ∈ zs, (Lit.int k z).wf = true := by
  obtain ⟨A, len, cap, zs, h1, h2, h3, h4, h5⟩ := read_slice2 ht he hs h
  exact ⟨A, len, cap, zs, h1, h2, Nat.le_trans h3 h4, h5⟩
theorem open_struct {t : TypeId} {fs : Array Field} {k : IntKind} {size : Nat} {r : Reach} {b0 : Nat} {v : Value} {d : DataW H} {ps : List MemPlace} (ht : P.underlying t = some (.struct fs)) (he : AllInts P t k size) (hv : Value.okWide P w r b0 t v) (h : DataW.Trod enc P w base spare held t v d ps) :
    ∃ zs : List Int, v = .agg (zs.map (Value.int k)).toArray ∧ zs.length = size ∧ ∀ z ∈ zs, (Lit.int k z).wf = true := by
  obtain ⟨cs, rfl, _⟩ := okWide_struct ht hv
  obtain ⟨fuel, hf⟩ := h
  obtain ⟨zs, h1, h2, h3⟩ := he.2 _ _ _ _ _ _ _ _ _ hf
  refine ⟨zs, ?_, h2, h3⟩
  simp only [Value.cells] at h1
  rw [← h1]
theorem open_sl {t e : TypeId} {k : IntKind} {size : Nat} {r : Reach} {b0 : Nat} {v : Value} {d : DataW H} {ps : List MemPlace} (ht : P.underlying t = some (.slice e)) (he : AllInts P e k size) (hs : 0 < size) (hv : Value.okWide P w r b0 t v) (h : DataW.Trod enc P w base spare held t v d ps) :
    ∃ (A : Option Addr) (len cap : Nat) (zs : List Int), v = .slice A len cap ∧ zs.length = len * size ∧ len ≤ cap ∧ cap ≤ maxLen ∧ Ints w w.heap.size k A zs ∧ ∀ z ∈ zs, (Lit.int k z).wf = true := by
  obtain ⟨a, len, cap, rfl⟩ := okWide_slice ht hv
  obtain ⟨fuel, hf⟩ := h
  obtain ⟨A, len', cap', zs, h1, h2, h3, h4, h5⟩ := read_slice2 ht he hs hf
  simp [Value.cells] at h1
  obtain ⟨rfl, rfl, rfl⟩ := h1
  exact ⟨_, _, _, zs, rfl, h2, h3, h4, h5⟩

/-- All arguments read as they did, where old memory is as it was. -/
theorem trodAll_below {W W' : World} (hl : laidOutB P = true) (hb : Below W.heap.size W W') : ∀ {ts : List TypeId} {vs : List Value} {ds : List (DataW H)} {ps : List MemPlace},
    (ts.all fun t => P.readableRec t && decide (t < P.types.size)) = true → DataW.TrodAll enc P W 0 (fun _ => true) true ts vs ds ps → DataW.TrodAll enc P W' 0 (fun b => decide (b < W.heap.size)) true ts vs ds ps
  | [], [], [], _, _, h => h
  | t :: ts, v :: vs, d :: ds, _, ht, ⟨p, q, h1, h2, e⟩ => by
    simp only [List.all_cons, Bool.and_eq_true, decide_eq_true_eq] at ht
    exact ⟨p, q, Below.trod hl ht.1.1 ht.1.2 h1 hb (by obtain ⟨m, hm⟩ := h1; exact DataW.trod_lt m _ _ _ hm), trodAll_below hl hb ht.2 h2, e⟩
  | [], _ :: _, _, _, _, h => h.elim
  | _ :: _, [], _, _, _, h => h.elim
  | _ :: _, _ :: _, [], _, _, h => h.elim
  | [], [], _ :: _, _, _, h => h.elim
end
end Go.Proofs.Ytjkelpelmljanaa
namespace Go.Proofs.Ytjkelpelmljanaa
open Go Go.RowKit Go.ChangeShapes Go.WideShapes Go.Deep

/-- The slice value `.slice A n c` reads as `n` elements of `size` cells, those of `f`, all below block `B`. -/
def Rows_ (w : World) (B : Nat) (A : Option Addr) (n size : Nat) (f : Nat → List Value) : Prop :=
  0 < n → ∃ b off, A = some ⟨b, off, none⟩ ∧ b < B ∧ ∀ i, i < n → ∀ j v, (f i)[j]? = some v → w.cell? ⟨b, off + i * size + j, none⟩ = some v
theorem Rows_.below {w w' : World} {B n size : Nat} {A : Option Addr} {f : Nat → List Value} (h : Rows_ w B A n size f) (hb : Below B w w') : Rows_ w' B A n size f := fun hn => by
  obtain ⟨b, off, e, hl, hc⟩ := h hn
  exact ⟨b, off, e, hl, fun i hi j v hv => (hb.cell hl).trans (hc i hi j v hv)⟩
theorem Rows_.more {w : World} {B B' n size : Nat} {A : Option Addr} {f : Nat → List Value} (h : Rows_ w B A n size f) (hB : B ≤ B') : Rows_ w B' A n size f := fun hn => by
  obtain ⟨b, off, e, hl, hc⟩ := h hn
  exact ⟨b, off, e, by omega, hc⟩

section
variable {H : Type} {enc : TypeId × Value → H} {P : Program} {w : World} {base : Nat} {spare : Nat → Bool} {held : Bool}
/-- A type whose values are so many cells, of which `Q` is known. -/
def AllV (P : Program) (t : TypeId) (size : Nat) (Q : List Value → Prop) : Prop :=
  P.cellsOf t = size ∧ ∀ (H : Type) (enc : TypeId × Value → H) (w : World) (base : Nat) (spare : Nat → Bool) (held : Bool) (n : Nat) (cs : List Value) (y : DataW H × List MemPlace), DataW.trod enc P w base spare held n t cs = some y → cs.length = size ∧ Q cs
theorem allV_int {t : TypeId} {k : IntKind} (ht : P.underlying t = some (.int k)) (hc : P.cellsOf t = 1) : AllV P t 1 (fun cs => ∃ z, cs = [.int k z] ∧ (Lit.int k z).wf = true) :=
  ⟨hc, fun H enc w base spare held n cs y h => by
    obtain ⟨a, e0, _, wa⟩ := DataW.trod_int ht h
    subst e0
    exact ⟨rfl, a, rfl, wa⟩⟩
theorem allV_string {t : TypeId} (ht : P.underlying t = some .string) (hc : P.cellsOf t = 1) : AllV P t 1 (fun cs => ∃ s : ByteArray, cs = [.string s] ∧ s.size ≤ maxLen) :=
  ⟨hc, fun H enc w base spare held n cs y h => by
    obtain ⟨s, e0, _, ws⟩ := DataW.trod_string ht h
    subst e0
    exact ⟨rfl, s, rfl, ws⟩⟩
theorem read_structV {t : TypeId} {fs : Array Field} {sz n : Nat} {cs : List Value} {y : DataW H × List MemPlace} (ht : P.underlying t = some (.struct fs)) (hc : P.cellsOf t = sz) (h : DataW.trod enc P w base spare held n t cs = some y) :
    cs.length = sz ∧ ∀ (i : Nat) (f : Field) (size : Nat) (Q : List Value → Prop), fs[i]? = some f → AllV P f.type size Q → Q ((cs.drop f.offset).take size) := by
  obtain ⟨xs, m, _, _, hlen, hxs, hg⟩ := DataW.trod_struct ht h
  refine ⟨hlen.trans hc, fun i f size Q hi hQ => ?_⟩
  have h1 := hg i f hi
  have hil : i < xs.length := by rw [hxs]; exact (Array.getElem?_eq_some_iff.1 hi).1
  rw [List.getElem?_eq_getElem hil] at h1
  rw [hQ.1] at h1
  exact (hQ.2 _ _ _ _ _ _ _ _ _ h1).2
theorem read_arrayV {t e : TypeId} {size m n : Nat} {Q : List Value → Prop} {cs : List Value} {y : DataW H × List MemPlace} (ht : P.underlying t = some (.array m e)) (hQ : AllV P e size Q) (h : DataW.trod enc P w base spare held n t cs = some y) :
    ∀ i, i < m → Q ((cs.drop (i * size)).take size) := fun i hi => by
  obtain ⟨xs, k, _, _, hl, hxl, hg⟩ := DataW.trod_array ht h
  have h1 := hg i hi
  have hil : i < xs.length := by omega
  rw [List.getElem?_eq_getElem hil, hQ.1] at h1
  exact (hQ.2 _ _ _ _ _ _ _ _ _ h1).2
theorem read_sliceV {t e : TypeId} {size n : Nat} {Q : List Value → Prop} {cs : List Value} {y : DataW H × List MemPlace} (ht : P.underlying t = some (.slice e)) (hQ : AllV P e size Q) (hs : 0 < size) (h : DataW.trod enc P w base spare held n t cs = some y) :
    ∃ (A : Option Addr) (len cap : Nat) (f : Nat → List Value), cs = [.slice A len cap] ∧ len ≤ cap ∧ cap ≤ maxLen ∧ (∀ i, i < len → (f i).length = size ∧ Q (f i)) ∧ Rows_ w w.heap.size A len size f := by
  rcases open_slice ht h with ⟨hcs, _⟩ | ⟨a, len, cap, m, n', D, Pl, hcs, _, hl, hm, hmm, _, hi⟩
  · exact ⟨none, 0, 0, fun _ => [], hcs, Nat.le_refl _, by simp [maxLen], fun i hi => absurd hi (by omega), fun h => absurd h (by omega)⟩
  · have hlm : len ≤ m := by rw [hmm]; split <;> omega
    have each : ∀ i, i < len → ∃ l : List Value, (l.length = size ∧ Q l) ∧ ∀ j v, l[j]? = some v → w.cell? ((a.add (i * size)).add j) = some v := fun i hil => by
      obtain ⟨cs', hc, ht'⟩ := hi i (by omega)
      rw [hQ.1] at hc
      obtain ⟨_, hlen, hat⟩ := World.cells?_some hc
      have hq := hQ.2 _ _ _ _ _ _ _ _ _ ht'
      refine ⟨cs', hq, fun j v hj => ?_⟩
      have hjl := (List.getElem?_eq_some_iff.1 hj).1
      rw [hat j (by omega)]
      exact hj
    obtain ⟨f, hf⟩ := choose_lt each
    refine ⟨some a, len, cap, f, hcs, hl, hm, fun i hi => (hf i hi).1, fun hpos => ?_⟩
    have hex : ∃ v, (f 0)[0]? = some v := ⟨(f 0)[0]'(by have := (hf 0 hpos).1.1; omega), List.getElem?_eq_getElem _⟩
    obtain ⟨v0, hv0⟩ := hex
    have h0 := (hf 0 hpos).2 0 v0 hv0
    obtain ⟨b, off, spot⟩ := a
    have hspot : spot = none := by
      have := World.cell?_spot h0
      simpa [Addr.add] using this
    subst hspot
    refine ⟨b, off, rfl, World.block_lt_of_cell? w _ (by simpa [Addr.add] using h0), fun i hi j v hv => ?_⟩
    have h1 := (hf i hi).2 j v hv
    rw [Go.Deep.add_add, Go.WideShapes.add_plain] at h1
    rw [Nat.add_assoc]
    exact h1
theorem open_slV {t e : TypeId} {size : Nat} {Q : List Value → Prop} {r : Reach} {b0 : Nat} {v : Value} {d : DataW H} {ps : List MemPlace} (ht : P.underlying t = some (.slice e)) (hQ : AllV P e size Q) (hs : 0 < size) (hv : Value.okWide P w r b0 t v) (h : DataW.Trod enc P w base spare held t v d ps) :
    ∃ (A : Option Addr) (len cap : Nat) (f : Nat → List Value), v = .slice A len cap ∧ len ≤ cap ∧ cap ≤ maxLen ∧ (∀ i, i < len → (f i).length = size ∧ Q (f i)) ∧ Rows_ w w.heap.size A len size f := by
  obtain ⟨a, len, cap, rfl⟩ := okWide_slice ht hv
  obtain ⟨fuel, hf⟩ := h
  obtain ⟨A, len', cap', f, h1, h2, h3, h4, h5⟩ := read_sliceV ht hQ hs hf
  simp [Value.cells] at h1
  obtain ⟨rfl, rfl, rfl⟩ := h1
  exact ⟨_, _, _, f, rfl, h2, h3, h4, h5⟩
theorem okWide_array {t e : TypeId} {m : Nat} {r : Reach} {b0 : Nat} {v : Value} (ht : P.underlying t = some (.array m e)) (hv : Value.okWide P w r b0 t v) : ∃ cs, v = .agg cs ∧ cs.size = P.cellsOf t := by
  simp only [Value.okWide, ht] at hv
  obtain ⟨cs, h1, h2, _⟩ := hv
  exact ⟨cs, h1, h2⟩
theorem len1 {l : List Value} {n : Nat} (h : l.length = n + 1) : ∃ x r, l = x :: r ∧ r.length = n := by
  cases l with
  | nil => simp at h
  | cons x r => exact ⟨x, r, rfl, by simpa using h⟩
theorem len0 {l : List Value} (h : l.length = 0) : l = [] := List.eq_nil_of_length_eq_zero h
end
end Go.Proofs.Ytjkelpelmljanaa
namespace Go.Proofs.Ytjkelpelmljanaa
open Go Go.RowKit Go.ChangeShapes Go.WideShapes Go.Deep

theorem tgU32 {n : Int} (h : (Lit.int .u32 n).wf = true) : 0 ≤ n ∧ n ≤ 4294967295 := by
  simp only [Lit.wf, Bool.and_eq_true, decide_eq_true_eq] at h
  exact ⟨h.1, h.2⟩
theorem tgU16 {n : Int} (h : (Lit.int .u16 n).wf = true) : 0 ≤ n ∧ n ≤ 65535 := by
  simp only [Lit.wf, Bool.and_eq_true, decide_eq_true_eq] at h
  exact ⟨h.1, h.2⟩
theorem tgU8 {n : Int} (h : (Lit.int .u8 n).wf = true) : 0 ≤ n ∧ n ≤ 255 := by
  simp only [Lit.wf, Bool.and_eq_true, decide_eq_true_eq] at h
  exact ⟨h.1, h.2⟩
theorem tgInt : AllInts Try.prog 3 .i64 1 := allInts_int Try.underlying3 (by kernel_rfl)
theorem tgI32 : AllInts Try.prog 24 .u32 1 := allInts_int Try.underlying24 (by kernel_rfl)
theorem tgI16 : AllInts Try.prog 23 .u16 1 := allInts_int Try.underlying23 (by kernel_rfl)
theorem tgPoint : AllInts Try.prog 62 .i64 2 := allInts_struct Try.underlying62 (by kernel_rfl) (fun c hc => by
  match c, hc with
  | 0, _ => exact ⟨0, _, 1, rfl, tgInt, by simp, by simp⟩
  | 1, _ => exact ⟨1, _, 1, rfl, tgInt, by simp, by simp⟩)
theorem tgFlat2 : ∀ (n : Nat) (zs : List Int), zs.length = n * 2 → ∃ l : List (Int × Int), flat2 l = zs ∧ l.length = n
  | 0, zs, h => ⟨[], by simp at h; rw [h]; rfl, rfl⟩
  | n + 1, zs, h => by
    match zs, h with
    | a :: b :: r, h =>
      obtain ⟨l, h1, h2⟩ := tgFlat2 n r (by simp at h; omega)
      exact ⟨(a, b) :: l, by simp [flat2, h1], by simp [h2]⟩
    | [_], h => simp at h; omega
    | [], h => simp at h
theorem getD_all {zs : List Int} {lo hi : Int} (h0 : lo ≤ 0) (h1 : 0 ≤ hi) (h : ∀ z ∈ zs, lo ≤ z ∧ z ≤ hi) (k : Nat) : lo ≤ zs.getD k 0 ∧ zs.getD k 0 ≤ hi := by
  rcases Nat.lt_or_ge k zs.length with g | g
  · rw [List.getD_eq_getElem?_getD, List.getElem?_eq_getElem g]
    exact h _ (List.getElem_mem g)
  · rw [List.getD_eq_getElem?_getD, List.getElem?_eq_none g]
    exact ⟨h0, h1⟩
section
variable {H : Type} {enc : TypeId × Value → H} {w : World} {base : Nat} {spare : Nat → Bool} {held : Bool}
theorem read_field {P : Program} {t : TypeId} {fs : Array Field} {n : Nat} {cs : List Value} {y : DataW H × List MemPlace} (ht : P.underlying t = some (.struct fs)) (h : DataW.trod enc P w base spare held n t cs = some y) :
    cs.length = P.cellsOf t ∧ ∀ (i : Nat) (ft off sz : Nat), (fs[i]?.map fun f => (f.type, f.offset)) = some (ft, off) → P.cellsOf ft = sz → ∃ m z, DataW.trod enc P w base spare held m ft ((cs.drop off).take sz) = some z := by
  obtain ⟨xs, m, _, _, hlen, hxs, hg⟩ := DataW.trod_struct ht h
  refine ⟨hlen, fun i ft off sz hi hsz => ?_⟩
  cases hfi : fs[i]? with
  | none => rw [hfi] at hi; cases hi
  | some f =>
    rw [hfi] at hi
    have e : (f.type, f.offset) = (ft, off) := by simpa using hi
    have h1 := hg i f hfi
    have hil : i < xs.length := by rw [hxs]; exact (Array.getElem?_eq_some_iff.1 hfi).1
    rw [List.getElem?_eq_getElem hil] at h1
    injection e with e1 e2
    subst e1 e2 hsz
    exact ⟨_, _, h1⟩
/-- What is known of the argument. -/
structure GOpen (w : World) (a : GArg) (zp : List Int) (l : List (Int × Int)) (zb : List Int) : Prop where
  hp : Ints w w.heap.size .u32 a.Ap zp
  lp : zp.length = a.np
  mp : a.np ≤ maxLen
  bp : ∀ k, 0 ≤ zp.getD k 0 ∧ zp.getD k 0 ≤ 4294967295
  hr : Ints w w.heap.size .i64 a.Ar (flat2 l)
  lr : l.length = a.nr
  mr : a.nr ≤ maxLen
  hb : Ints w w.heap.size .u16 a.Ab zb
  lb : zb.length = a.nb
  mb : a.nb ≤ maxLen
  bb : ∀ k, 0 ≤ zb.getD k 0 ∧ zb.getD k 0 ≤ 65535
  gn : 0 ≤ a.gn ∧ a.gn ≤ 65535
  vl : 0 ≤ a.vl ∧ a.vl ≤ 4294967295
  ls : 0 ≤ a.ls ∧ a.ls ≤ 65535
  mo : 0 ≤ a.mo ∧ a.mo ≤ 65535
  sl : 0 ≤ a.sl ∧ a.sl ≤ 65535
  dr : 0 ≤ a.dr ∧ a.dr ≤ 255
  pc : 0 ≤ a.pc ∧ a.pc ≤ 65535
  sk : 0 ≤ a.sk ∧ a.sk ≤ 65535
set_option maxHeartbeats 1000000 in
set_option maxRecDepth 100000 in
theorem open_gauged {r : Reach} {b0 : Nat} {v : Value} {d : DataW H} {ps : List MemPlace} (hv : Value.okWide Try.prog w r b0 28 v) (h : DataW.Trod enc Try.prog w base spare held 28 v d ps) :
    ∃ (a : GArg) (zp : List Int) (l : List (Int × Int)) (zb : List Int), v = .agg (gcells a) ∧ GOpen w a zp l zb := by
  obtain ⟨cs, rfl, _⟩ := okWide_struct Try.underlying28 hv
  obtain ⟨fuel, hf⟩ := h
  simp only [Value.cells] at hf
  obtain ⟨hlen, hg⟩ := read_field Try.underlying28 hf
  have e11 : Try.prog.cellsOf 28 = 11 := by kernel_rfl
  rw [e11] at hlen
  have c1 : Try.prog.cellsOf 22 = 1 := by kernel_rfl
  have c2 : Try.prog.cellsOf 23 = 1 := by kernel_rfl
  have c3 : Try.prog.cellsOf 24 = 1 := by kernel_rfl
  have c4 : Try.prog.cellsOf 5 = 1 := by kernel_rfl
  have c5 : Try.prog.cellsOf 25 = 1 := by kernel_rfl
  have c6 : Try.prog.cellsOf 26 = 1 := by kernel_rfl
  obtain ⟨L, rfl⟩ : ∃ L : List Value, cs = L.toArray := ⟨cs.toList, by simp⟩
  simp only at hlen hg
  obtain ⟨v0, r0, rfl, h0⟩ := len1 hlen
  obtain ⟨v1, r1, rfl, h1⟩ := len1 h0
  obtain ⟨v2, r2, rfl, h2⟩ := len1 h1
  obtain ⟨v3, r3, rfl, h3⟩ := len1 h2
  obtain ⟨v4, r4, rfl, h4⟩ := len1 h3
  obtain ⟨v5, r5, rfl, h5⟩ := len1 h4
  obtain ⟨v6, r6, rfl, h6⟩ := len1 h5
  obtain ⟨v7, r7, rfl, h7⟩ := len1 h6
  obtain ⟨v8, r8, rfl, h8⟩ := len1 h7
  obtain ⟨v9, r9, rfl, h9⟩ := len1 h8
  obtain ⟨v10, r10, rfl, h10⟩ := len1 h9
  obtain rfl := len0 h10
  obtain ⟨_, _, g0⟩ := hg 0 22 0 1 rfl c1
  obtain ⟨_, _, g1⟩ := hg 1 23 1 1 rfl c2
  obtain ⟨_, _, g2⟩ := hg 2 24 2 1 rfl c3
  obtain ⟨_, _, g3⟩ := hg 3 23 3 1 rfl c2
  obtain ⟨_, _, g4⟩ := hg 4 23 4 1 rfl c2
  obtain ⟨_, _, g5⟩ := hg 5 23 5 1 rfl c2
  obtain ⟨_, _, g6⟩ := hg 6 5 6 1 rfl c4
  obtain ⟨_, _, g7⟩ := hg 7 23 7 1 rfl c2
  obtain ⟨_, _, g8⟩ := hg 8 25 8 1 rfl c5
  obtain ⟨_, _, g9⟩ := hg 9 23 9 1 rfl c2
  obtain ⟨_, _, g10⟩ := hg 10 26 10 1 rfl c6
  simp only [List.drop_zero, List.drop_succ_cons, List.take_succ_cons, List.take_zero] at g0 g1 g2 g3 g4 g5 g6 g7 g8 g9 g10
  obtain ⟨A0, n0, k0, z0, q0, l0, m0, M0, I0, w0⟩ := read_slice2 Try.underlying22 tgI32 (by decide) g0
  obtain ⟨z1, q1, _, w1⟩ := DataW.trod_int Try.underlying23 g1
  obtain ⟨z2, q2, _, w2⟩ := DataW.trod_int Try.underlying24 g2
  obtain ⟨z3, q3, _, w3⟩ := DataW.trod_int Try.underlying23 g3
  obtain ⟨z4, q4, _, w4⟩ := DataW.trod_int Try.underlying23 g4
  obtain ⟨z5, q5, _, w5⟩ := DataW.trod_int Try.underlying23 g5
  obtain ⟨z6, q6, _, w6⟩ := DataW.trod_int Try.underlying5 g6
  obtain ⟨z7, q7, _, w7⟩ := DataW.trod_int Try.underlying23 g7
  obtain ⟨A8, n8, k8, z8, q8, l8, m8, M8, I8, -⟩ := read_slice2 Try.underlying25 tgPoint (by decide) g8
  obtain ⟨z9, q9, _, w9⟩ := DataW.trod_int Try.underlying23 g9
  obtain ⟨A10, n10, k10, z10, q10, l10, m10, M10, I10, w10⟩ := read_slice2 Try.underlying26 tgI16 (by decide) g10
  obtain ⟨l, k1, k2⟩ := tgFlat2 n8 z8 l8
  simp at q0 q1 q2 q3 q4 q5 q6 q7 q8 q9 q10
  subst q0 q1 q2 q3 q4 q5 q6 q7 q8 q9 q10
  refine ⟨⟨A0, n0, k0, z1, z2, z3, z4, z5, z6, z7, A8, n8, k8, z9, A10, n10, k10⟩, z0, l, z10, rfl, ?_⟩
  exact ⟨I0, by rw [l0, Nat.mul_one], Nat.le_trans m0 M0, getD_all (by omega) (by omega) fun z hz => tgU32 (w0 z hz), by rw [k1]; exact I8, k2, Nat.le_trans m8 M8, I10, by rw [l10, Nat.mul_one], Nat.le_trans m10 M10, getD_all (by omega) (by omega) fun z hz => tgU16 (w10 z hz),
    tgU16 w1, tgU32 w2, tgU16 w3, tgU16 w4, tgU16 w5, tgU8 w6, tgU16 w7, tgU16 w9⟩
end
end Go.Proofs.Ytjkelpelmljanaa
