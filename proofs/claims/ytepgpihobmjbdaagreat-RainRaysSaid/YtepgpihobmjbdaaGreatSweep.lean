/-
  Arguments opened: structs and slices of structs whose cells are all integers, over any program; and what is read again behind a call that leaves old memory alone.
  Arguments opened whose cells are of several kinds: integers, strings, structs, arrays and slices of such. Over any program.
  Sweeps: what pulse says of them, and the contract.
-/
import Derived.Test.YtepgpihobmjbdaaGreatDivs
import Derived.Deep.Slices
import Derived.ProofKit
import Derived.ChangeOld
import Derived.OpenShut
import Derived.Test.YtepgpihobmjbdaaGreatEcho2
import Derived.Test.YtepgpihobmjbdaaGreatRrRise2
set_option linter.unusedSimpArgs false
set_option linter.unusedVariables false
namespace Go.Proofs.YtepgpihobmjbdaaGreat
open Go Go.RowKit Go.ChangeShapes Go.WideShapes Go.Deep

section
variable {H : Type} {enc : TypeId × Value → H} {P : Program} {w : World} {base : Nat} {spare : Nat → Bool} {held : Bool}

/-- A type whose values are so many integers of one kind, cell by cell. -/
def AllInts (P : Program) (t : TypeId) (k : IntKind) (size : Nat) : Prop :=
  P.cellsOf t = size ∧ ∀ (H : Type) (enc : TypeId × Value → H) (w : World) (base : Nat) (spare : Nat → Bool) (held : Bool) (n : Nat) (cs : List Value) (y : DataW H × List MemPlace), DataW.trod enc P w base spare held n t cs = some y → ∃ zs : List Int, cs = zs.map (Value.int k) ∧ zs.length = size ∧ ∀ z ∈ zs, (Lit.int k z).wf = true

theorem allInts_int {t : TypeId} {k : IntKind} (ht : P.underlying t = some (.int k)) (hc : P.cellsOf t = 1) : AllInts P t k 1 :=
  ⟨hc, fun H enc w base spare held n cs y h => by
    obtain ⟨a, e0, _, wa⟩ := DataW.trod_int ht h
    exact ⟨[a], by simpa using e0, rfl, by simpa using wa⟩⟩

/-- A struct whose fields are all so. -/
theorem allInts_struct {t : TypeId} {k : IntKind} {fs : Array Field} {sz : Nat} (ht : P.underlying t = some (.struct fs)) (hc : P.cellsOf t = sz)
    (hf : ∀ c, c < sz → ∃ (i : Nat) (f : Field) (size : Nat), fs[i]? = some f ∧ AllInts P f.type k size ∧ f.offset ≤ c ∧ c < f.offset + size) : AllInts P t k sz := by
  refine ⟨hc, fun H enc w base spare held n cs y h => ?_⟩
  obtain ⟨xs, m, _, _, hlen, hxs, hg⟩ := DataW.trod_struct ht h
  rw [hc] at hlen
  have each : ∀ c, c < cs.length → ∃ z : Int, cs[c]? = some (.int k z) ∧ (Lit.int k z).wf = true := fun c hcl => by
    obtain ⟨i, f, size, hi, ⟨hcf, ha⟩, ho, hlt⟩ := hf c (by omega)
    have h1 := hg i f hi
    have hil : i < xs.length := by rw [hxs]; exact (Array.getElem?_eq_some_iff.1 hi).1
    rw [List.getElem?_eq_getElem hil] at h1
    obtain ⟨zs, hz, hzl, hwf⟩ := ha H enc w base spare held _ _ _ h1
    rw [hcf] at hz
    have h2 : ((cs.drop f.offset).take size)[c - f.offset]? = (zs.map (Value.int k))[c - f.offset]? := by rw [hz]
    rw [List.getElem?_take, if_pos (by omega), List.getElem?_drop, show f.offset + (c - f.offset) = c by omega] at h2
    rw [h2, List.getElem?_map]
    have : c - f.offset < zs.length := by omega
    rw [List.getElem?_eq_getElem this]
    exact ⟨_, rfl, hwf _ (List.getElem_mem this)⟩
  have build : ∀ l : List Value, (∀ c, c < l.length → ∃ z : Int, l[c]? = some (.int k z) ∧ (Lit.int k z).wf = true) → ∃ zs : List Int, l = zs.map (Value.int k) ∧ ∀ z ∈ zs, (Lit.int k z).wf = true := by
    intro l
    induction l with
    | nil => intro _; exact ⟨[], rfl, by simp⟩
    | cons v r ih =>
      intro hl
      obtain ⟨z, hz, hw⟩ := hl 0 (by simp)
      obtain ⟨zs, hzs, hws⟩ := ih (fun c hcl => by have := hl (c + 1) (by simpa using hcl); simpa using this)
      refine ⟨z :: zs, ?_, ?_⟩
      · simp at hz; rw [hz, hzs]; rfl
      · intro x hx
        rcases List.mem_cons.1 hx with rfl | hx
        · exact hw
        · exact hws x hx
  obtain ⟨zs, hzs, hws⟩ := build cs each
  exact ⟨zs, hzs, by rw [← hlen, hzs]; simp, hws⟩

/-- A slice of such. -/
theorem read_slice2 {t e : TypeId} {k : IntKind} {size : Nat} (ht : P.underlying t = some (.slice e)) (he : AllInts P e k size) (hs : 0 < size) {n : Nat} {cs : List Value} {y : DataW H × List MemPlace} (h : DataW.trod enc P w base spare held n t cs = some y) :
    ∃ (A : Option Addr) (len cap : Nat) (zs : List Int), cs = [.slice A len cap] ∧ zs.length = len * size ∧ len ≤ cap ∧ cap ≤ maxLen ∧ Ints w w.heap.size k A zs ∧ ∀ z ∈ zs, (Lit.int k z).wf = true := by
  rcases open_slice ht h with ⟨hcs, _⟩ | ⟨a, len, cap, m, n', D, Pl, hcs, _, hl, hm, hmm, _, hi⟩
  · exact ⟨none, 0, 0, [], hcs, by simp, Nat.le_refl _, by simp [maxLen], Ints.nil_ _ _ _ _, by simp⟩
  · have hlm : len ≤ m := by rw [hmm]; split <;> omega
    have each : ∀ i, i < len → ∃ zs : List Int, zs.length = size ∧ (∀ j, j < size → w.cell? (a.add (i * size + j)) = some (.int k (zs.getD j 0))) ∧ ∀ z ∈ zs, (Lit.int k z).wf = true := fun i hil => by
      obtain ⟨cs', hc, ht'⟩ := hi i (by omega)
      rw [he.1] at hc
      obtain ⟨zs, hz, hzl, hwf⟩ := he.2 H enc w base spare held _ _ _ ht'
      obtain ⟨_, _, hat⟩ := World.cells?_some hc
      refine ⟨zs, hzl, fun j hj => ?_, hwf⟩
      rw [← Go.Deep.add_add, hat j hj, hz]
      simp [List.getD, show j < zs.length by omega]
    obtain ⟨f, hf⟩ := choose_lt each
    refine ⟨some a, len, cap, (List.range len).flatMap f, hcs, ?_, hl, hm, ?_, ?_⟩
    · have : ∀ q, q ≤ len → ((List.range q).flatMap f).length = q * size := by
        intro q
        induction q with
        | zero => intro _; simp
        | succ q ih => intro hq; rw [List.range_succ, List.flatMap_append, List.length_append, ih (by omega)]; simp [(hf q (by omega)).1]; rw [Nat.add_mul]; omega
      exact this len (Nat.le_refl _)
    · have cells : ∀ q, q ≤ len → ∀ j, j < q * size → w.cell? (a.add j) = some (.int k (((List.range q).flatMap f).getD j 0)) ∧ ((List.range q).flatMap f).length = q * size := by
        intro q
        induction q with
        | zero => intro _ j hj; simp at hj
        | succ q ih =>
          intro hq j hj
          have hl1 : ((List.range q).flatMap f).length = q * size := by
            rcases Nat.eq_zero_or_pos (q * size) with h0 | h0
            · rcases Nat.mul_eq_zero.1 h0 with h1 | h1
              · subst h1; simp
              · omega
            · exact (ih (by omega) 0 h0).2
          have hl2 := (hf q (by omega)).1
          rw [List.range_succ, List.flatMap_append]
          simp only [List.flatMap_cons, List.flatMap_nil, List.append_nil]
          refine ⟨?_, by rw [List.length_append, hl1, hl2, Nat.add_mul]; omega⟩
          rw [Nat.add_mul, Nat.one_mul] at hj
          rcases Nat.lt_or_ge j (q * size) with h1 | h1
          · rw [(ih (by omega) j h1).1]
            simp [List.getD, List.getElem?_append_left (show j < ((List.range q).flatMap f).length by omega)]
          · have := (hf q (by omega)).2.1 (j - q * size) (by omega)
            rw [show q * size + (j - q * size) = j by omega] at this
            rw [this]
            simp [List.getD, List.getElem?_append_right (show ((List.range q).flatMap f).length ≤ j by omega), hl1]
      intro hpos
      have hL : ((List.range len).flatMap f).length = len * size := by
        rcases Nat.eq_zero_or_pos (len * size) with h0 | h0
        · rcases Nat.mul_eq_zero.1 h0 with h1 | h1
          · subst h1; simp
          · omega
        · exact (cells len (Nat.le_refl _) 0 h0).2
      rw [hL] at hpos
      have h0 := (cells len (Nat.le_refl _) 0 hpos).1
      obtain ⟨b, off, spot⟩ := a
      have hspot : spot = none := by
        have := World.cell?_spot h0
        simpa [Addr.add] using this
      subst hspot
      refine ⟨b, off, rfl, World.block_lt_of_cell? w _ (by simpa [Addr.add] using h0), fun j hj => ?_⟩
      rw [hL] at hj
      rw [← Go.WideShapes.add_plain]
      exact (cells len (Nat.le_refl _) j hj).1
    · intro z hz
      obtain ⟨i, hi', hz'⟩ := List.mem_flatMap.1 hz
      exact (hf i (List.mem_range.1 hi')).2.2 z hz'

theorem read_slice {t e : TypeId} {k : IntKind} {size : Nat} (ht : P.underlying t = some (.slice e)) (he : AllInts P e k size) (hs : 0 < size) {n : Nat} {cs : List Value} {y : DataW H × List MemPlace} (h : DataW.trod enc P w base spare held n t cs = some y) :
    ∃ (A : Option Addr) (len cap : Nat) (zs : List Int), cs = [.slice A len cap] ∧ zs.length = len * size ∧ len ≤ maxLen ∧ Ints w w.heap.size k A zs ∧ ∀ z ∈ zs, (Lit.int k z).wf = true := by
  obtain ⟨A, len, cap, zs, h1, h2, h3, h4, h5⟩ := read_slice2 ht he hs h
  exact ⟨A, len, cap, zs, h1, h2, Nat.le_trans h3 h4, h5⟩
theorem open_struct {t : TypeId} {fs : Array Field} {k : IntKind} {size : Nat} {r : Reach} {b0 : Nat} {v : Value} {d : DataW H} {ps : List MemPlace} (ht : P.underlying t = some (.struct fs)) (he : AllInts P t k size) (hv : Value.okWide P w r b0 t v) (h : DataW.Trod enc P w base spare held t v d ps) :
    ∃ zs : List Int, v = .agg (zs.map (Value.int k)).toArray ∧ zs.length = size ∧ ∀ z ∈ zs, (Lit.int k z).wf = true := by
  obtain ⟨cs, rfl, _⟩ := okWide_struct ht hv
  obtain ⟨fuel, hf⟩ := h
  obtain ⟨zs, h1, h2, h3⟩ := he.2 _ _ _ _ _ _ _ _ _ hf
  refine ⟨zs, ?_, h2, h3⟩
  simp only [Value.cells] at h1
  rw [← h1]
theorem open_sl {t e : TypeId} {k : IntKind} {size : Nat} {r : Reach} {b0 : Nat} {v : Value} {d : DataW H} {ps : List MemPlace} (ht : P.underlying t = some (.slice e)) (he : AllInts P e k size) (hs : 0 < size) (hv : Value.okWide P w r b0 t v) (h : DataW.Trod enc P w base spare held t v d ps) :
    ∃ (A : Option Addr) (len cap : Nat) (zs : List Int), v = .slice A len cap ∧ zs.length = len * size ∧ len ≤ cap ∧ cap ≤ maxLen ∧ Ints w w.heap.size k A zs ∧ ∀ z ∈ zs, (Lit.int k z).wf = true := by
  obtain ⟨a, len, cap, rfl⟩ := okWide_slice ht hv
  obtain ⟨fuel, hf⟩ := h
  obtain ⟨A, len', cap', zs, h1, h2, h3, h4, h5⟩ := read_slice2 ht he hs hf
  simp [Value.cells] at h1
  obtain ⟨rfl, rfl, rfl⟩ := h1
  exact ⟨_, _, _, zs, rfl, h2, h3, h4, h5⟩

/-- All arguments read as they did, where old memory is as it was. -/
theorem trodAll_below {W W' : World} (hl : laidOutB P = true) (hb : Below W.heap.size W W') : ∀ {ts : List TypeId} {vs : List Value} {ds : List (DataW H)} {ps : List MemPlace},
    (ts.all fun t => P.readableRec t && decide (t < P.types.size)) = true → DataW.TrodAll enc P W 0 (fun _ => true) true ts vs ds ps → DataW.TrodAll enc P W' 0 (fun b => decide (b < W.heap.size)) true ts vs ds ps
  | [], [], [], _, _, h => h
  | t :: ts, v :: vs, d :: ds, _, ht, ⟨p, q, h1, h2, e⟩ => by
    simp only [List.all_cons, Bool.and_eq_true, decide_eq_true_eq] at ht
    exact ⟨p, q, Below.trod hl ht.1.1 ht.1.2 h1 hb (by obtain ⟨m, hm⟩ := h1; exact DataW.trod_lt m _ _ _ hm), trodAll_below hl hb ht.2 h2, e⟩
  | [], _ :: _, _, _, _, h => h.elim
  | _ :: _, [], _, _, _, h => h.elim
  | _ :: _, _ :: _, [], _, _, h => h.elim
  | [], [], _ :: _, _, _, h => h.elim
end
end Go.Proofs.YtepgpihobmjbdaaGreat
namespace Go.Proofs.YtepgpihobmjbdaaGreat
open Go Go.RowKit Go.ChangeShapes Go.WideShapes Go.Deep

/-- The slice value `.slice A n c` reads as `n` elements of `size` cells, those of `f`, all below block `B`. -/
def Rows_ (w : World) (B : Nat) (A : Option Addr) (n size : Nat) (f : Nat → List Value) : Prop :=
  0 < n → ∃ b off, A = some ⟨b, off, none⟩ ∧ b < B ∧ ∀ i, i < n → ∀ j v, (f i)[j]? = some v → w.cell? ⟨b, off + i * size + j, none⟩ = some v
theorem Rows_.below {w w' : World} {B n size : Nat} {A : Option Addr} {f : Nat → List Value} (h : Rows_ w B A n size f) (hb : Below B w w') : Rows_ w' B A n size f := fun hn => by
  obtain ⟨b, off, e, hl, hc⟩ := h hn
  exact ⟨b, off, e, hl, fun i hi j v hv => (hb.cell hl).trans (hc i hi j v hv)⟩
theorem Rows_.more {w : World} {B B' n size : Nat} {A : Option Addr} {f : Nat → List Value} (h : Rows_ w B A n size f) (hB : B ≤ B') : Rows_ w B' A n size f := fun hn => by
  obtain ⟨b, off, e, hl, hc⟩ := h hn
  exact ⟨b, off, e, by omega, hc⟩

section
variable {H : Type} {enc : TypeId × Value → H} {P : Program} {w : World} {base : Nat} {spare : Nat → Bool} {held : Bool}
/-- A type whose values are so many cells, of which `Q` is known. -/
def AllV (P : Program) (t : TypeId) (size : Nat) (Q : List Value → Prop) : Prop :=
  P.cellsOf t = size ∧ ∀ (H : Type) (enc : TypeId × Value → H) (w : World) (base : Nat) (spare : Nat → Bool) (held : Bool) (n : Nat) (cs : List Value) (y : DataW H × List MemPlace), DataW.trod enc P w base spare held n t cs = some y → cs.length = size ∧ Q cs
theorem allV_int {t : TypeId} {k : IntKind} (ht : P.underlying t = some (.int k)) (hc : P.cellsOf t = 1) : AllV P t 1 (fun cs => ∃ z, cs = [.int k z] ∧ (Lit.int k z).wf = true) :=
  ⟨hc, fun H enc w base spare held n cs y h => by
    obtain ⟨a, e0, _, wa⟩ := DataW.trod_int ht h
    subst e0
    exact ⟨rfl, a, rfl, wa⟩⟩
theorem allV_string {t : TypeId} (ht : P.underlying t = some .string) (hc : P.cellsOf t = 1) : AllV P t 1 (fun cs => ∃ s : ByteArray, cs = [.string s] ∧ s.size ≤ maxLen) :=
  ⟨hc, fun H enc w base spare held n cs y h => by
    obtain ⟨s, e0, _, ws⟩ := DataW.trod_string ht h
    subst e0
    exact ⟨rfl, s, rfl, ws⟩⟩
theorem read_structV {t : TypeId} {fs : Array Field} {sz n : Nat} {cs : List Value} {y : DataW H × List MemPlace} (ht : P.underlying t = some (.struct fs)) (hc : P.cellsOf t = sz) (h : DataW.trod enc P w base spare held n t cs = some y) :
    cs.length = sz ∧ ∀ (i : Nat) (f : Field) (size : Nat) (Q : List Value → Prop), fs[i]? = some f → AllV P f.type size Q → Q ((cs.drop f.offset).take size) := by
  obtain ⟨xs, m, _, _, hlen, hxs, hg⟩ := DataW.trod_struct ht h
  refine ⟨hlen.trans hc, fun i f size Q hi hQ => ?_⟩
  have h1 := hg i f hi
  have hil : i < xs.length := by rw [hxs]; exact (Array.getElem?_eq_some_iff.1 hi).1
  rw [List.getElem?_eq_getElem hil] at h1
  rw [hQ.1] at h1
  exact (hQ.2 _ _ _ _ _ _ _ _ _ h1).2
theorem read_arrayV {t e : TypeId} {size m n : Nat} {Q : List Value → Prop} {cs : List Value} {y : DataW H × List MemPlace} (ht : P.underlying t = some (.array m e)) (hQ : AllV P e size Q) (h : DataW.trod enc P w base spare held n t cs = some y) :
    ∀ i, i < m → Q ((cs.drop (i * size)).take size) := fun i hi => by
  obtain ⟨xs, k, _, _, hl, hxl, hg⟩ := DataW.trod_array ht h
  have h1 := hg i hi
  have hil : i < xs.length := by omega
  rw [List.getElem?_eq_getElem hil, hQ.1] at h1
  exact (hQ.2 _ _ _ _ _ _ _ _ _ h1).2
theorem read_sliceV {t e : TypeId} {size n : Nat} {Q : List Value → Prop} {cs : List Value} {y : DataW H × List MemPlace} (ht : P.underlying t = some (.slice e)) (hQ : AllV P e size Q) (hs : 0 < size) (h : DataW.trod enc P w base spare held n t cs = some y) :
    ∃ (A : Option Addr) (len cap : Nat) (f : Nat → List Value), cs = [.slice A len cap] ∧ len ≤ cap ∧ cap ≤ maxLen ∧ (∀ i, i < len → (f i).length = size ∧ Q (f i)) ∧ Rows_ w w.heap.size A len size f := by
  rcases open_slice ht h with ⟨hcs, _⟩ | ⟨a, len, cap, m, n', D, Pl, hcs, _, hl, hm, hmm, _, hi⟩
  · exact ⟨none, 0, 0, fun _ => [], hcs, Nat.le_refl _, by simp [maxLen], fun i hi => absurd hi (by omega), fun h => absurd h (by omega)⟩
  · have hlm : len ≤ m := by rw [hmm]; split <;> omega
    have each : ∀ i, i < len → ∃ l : List Value, (l.length = size ∧ Q l) ∧ ∀ j v, l[j]? = some v → w.cell? ((a.add (i * size)).add j) = some v := fun i hil => by
      obtain ⟨cs', hc, ht'⟩ := hi i (by omega)
      rw [hQ.1] at hc
      obtain ⟨_, hlen, hat⟩ := World.cells?_some hc
      have hq := hQ.2 _ _ _ _ _ _ _ _ _ ht'
      refine ⟨cs', hq, fun j v hj => ?_⟩
      have hjl := (List.getElem?_eq_some_iff.1 hj).1
      rw [hat j (by omega)]
      exact hj
    obtain ⟨f, hf⟩ := choose_lt each
    refine ⟨some a, len, cap, f, hcs, hl, hm, fun i hi => (hf i hi).1, fun hpos => ?_⟩
    have hex : ∃ v, (f 0)[0]? = some v := ⟨(f 0)[0]'(by have := (hf 0 hpos).1.1; omega), List.getElem?_eq_getElem _⟩
    obtain ⟨v0, hv0⟩ := hex
    have h0 := (hf 0 hpos).2 0 v0 hv0
    obtain ⟨b, off, spot⟩ := a
    have hspot : spot = none := by
      have := World.cell?_spot h0
      simpa [Addr.add] using this
    subst hspot
    refine ⟨b, off, rfl, World.block_lt_of_cell? w _ (by simpa [Addr.add] using h0), fun i hi j v hv => ?_⟩
    have h1 := (hf i hi).2 j v hv
    rw [Go.Deep.add_add, Go.WideShapes.add_plain] at h1
    rw [Nat.add_assoc]
    exact h1
theorem open_slV {t e : TypeId} {size : Nat} {Q : List Value → Prop} {r : Reach} {b0 : Nat} {v : Value} {d : DataW H} {ps : List MemPlace} (ht : P.underlying t = some (.slice e)) (hQ : AllV P e size Q) (hs : 0 < size) (hv : Value.okWide P w r b0 t v) (h : DataW.Trod enc P w base spare held t v d ps) :
    ∃ (A : Option Addr) (len cap : Nat) (f : Nat → List Value), v = .slice A len cap ∧ len ≤ cap ∧ cap ≤ maxLen ∧ (∀ i, i < len → (f i).length = size ∧ Q (f i)) ∧ Rows_ w w.heap.size A len size f := by
  obtain ⟨a, len, cap, rfl⟩ := okWide_slice ht hv
  obtain ⟨fuel, hf⟩ := h
  obtain ⟨A, len', cap', f, h1, h2, h3, h4, h5⟩ := read_sliceV ht hQ hs hf
  simp [Value.cells] at h1
  obtain ⟨rfl, rfl, rfl⟩ := h1
  exact ⟨_, _, _, f, rfl, h2, h3, h4, h5⟩
theorem okWide_array {t e : TypeId} {m : Nat} {r : Reach} {b0 : Nat} {v : Value} (ht : P.underlying t = some (.array m e)) (hv : Value.okWide P w r b0 t v) : ∃ cs, v = .agg cs ∧ cs.size = P.cellsOf t := by
  simp only [Value.okWide, ht] at hv
  obtain ⟨cs, h1, h2, _⟩ := hv
  exact ⟨cs, h1, h2⟩
theorem len1 {l : List Value} {n : Nat} (h : l.length = n + 1) : ∃ x r, l = x :: r ∧ r.length = n := by
  cases l with
  | nil => simp at h
  | cons x r => exact ⟨x, r, rfl, by simpa using h⟩
theorem len0 {l : List Value} (h : l.length = 0) : l = [] := List.eq_nil_of_length_eq_zero h
end
end Go.Proofs.YtepgpihobmjbdaaGreat
namespace Go.Proofs.YtepgpihobmjbdaaGreat
open Go Go.RowKit

/-- The first error, of so many from k on. -/
def firstN (f : Nat → Int) (k : Nat) : Nat → Int
  | 0 => 0
  | m + 1 => if f k ≠ 0 then f k else firstN f (k + 1) m
theorem firstN_step (f : Nat → Int) {n k : Nat} (h : k < n) : firstN f k (n - k) = if f k ≠ 0 then f k else firstN f (k + 1) (n - (k + 1)) := by
  rw [show n - k = (n - (k + 1)) + 1 by omega, firstN]
def shapeB (n : Nat) (len : Nat → Nat) (g : Int) : Bool := (List.range n).all fun i => decide ((len i : Int) = g)
theorem shapeB_no {n : Nat} {len : Nat → Nat} {g : Int} {i : Nat} (hi : i < n) (h : (len i : Int) ≠ g) : shapeB n len g = false := by
  rw [Bool.eq_false_iff]
  intro hc
  have := List.all_eq_true.1 hc i (List.mem_range.2 hi)
  simp at this
  exact h this
theorem shapeB_yes {n : Nat} {len : Nat → Nat} {g : Int} (h : ∀ i, i < n → (len i : Int) = g) : shapeB n len g = true := List.all_eq_true.2 fun i hi => by
  simpa using h i (List.mem_range.1 hi)
/-- The rays of a sweep: for each its slice; in each the echoes. -/
structure Ray1 where
  A : Option Addr
  n : Nat
  c : Nat
  e : Nat → Ech
def RaysAt (w : World) (B : Nat) (A : Option Addr) (n : Nat) (rr : Nat → Ray1) : Prop :=
  0 < n → ∃ b off, A = some ⟨b, off, none⟩ ∧ b < B ∧ ∀ i, i < n → w.cell? ⟨b, off + i, none⟩ = some (.slice (rr i).A (rr i).n (rr i).c) ∧ (rr i).n ≤ maxLen ∧ Rows_ w B (rr i).A (rr i).n 14 (fun j => (echC ((rr i).e j)).toList)
theorem RaysAt.below {w w' : World} {B n : Nat} {A : Option Addr} {rr : Nat → Ray1} (h : RaysAt w B A n rr) (hb : Below B w w') : RaysAt w' B A n rr := fun hn => by
  obtain ⟨b, off, e, hl, hc⟩ := h hn
  exact ⟨b, off, e, hl, fun i hi => ⟨(hb.cell hl).trans (hc i hi).1, (hc i hi).2.1, (hc i hi).2.2.below hb⟩⟩
theorem RaysAt.more {w : World} {B B' n : Nat} {A : Option Addr} {rr : Nat → Ray1} (h : RaysAt w B A n rr) (hB : B ≤ B') : RaysAt w B' A n rr := fun hn => by
  obtain ⟨b, off, e, hl, hc⟩ := h hn
  exact ⟨b, off, e, by omega, fun i hi => ⟨(hc i hi).1, (hc i hi).2.1, (hc i hi).2.2.more hB⟩⟩
def rowsE (n : Nat) (rr : Nat → Ray1) : Int := firstN (fun i => firstN (fun j => echE ((rr i).e j)) 0 (rr i).n) 0 n
/-- What CheckSweep answers, behind the site. -/
def sweepE (se tilt time : Int) (r g : Int) (n : Nat) (rr : Nat → Ray1) : Int :=
  if se ≠ 0 then se else if (win tilt 0 256 && win time 0 4294967296) = false then 3 else if (n : Int) ≠ 4 * r then 11 else if shapeB n (fun i => (rr i).n) g = false then 11 else rowsE n rr
def sweepC (s : ByteArray) (x y z r g st wd tilt time : Int) (A : Option Addr) (n c : Nat) : Array Value := #[.string s, .int .i64 x, .int .i64 y, .int .i64 z, .int .i64 r, .int .i64 g, .int .i64 st, .int .i64 wd, .int .i64 tilt, .int .i64 time, .slice A n c]
theorem site_rg {nb : Bool} {x y z r g st wd : Int} (h : siteE nb x y z r g st wd = 0) : 1 ≤ r ∧ r ≤ 90 ∧ 1 ≤ g ∧ g ≤ 200 := by
  unfold siteE at h
  split at h
  · omega
  · split at h
    · rename_i hh
      simp only [Bool.and_eq_true, winB, decide_eq_true_eq] at hh
      omega
    · omega
set_option maxHeartbeats 4000000 in
set_option maxRecDepth 100000 in
theorem CheckSweep_any (s : ByteArray) (x y z r g st wd tilt time : Int) (A : Option Addr) (n c : Nat) (rr : Nat → Ray1) (w : World) (hs : s.size ≤ 9223372036854775807) (hn : n ≤ maxLen) (h : RaysAt w w.heap.size A n rr) :
    Calls Tryz.prog 43 #[.agg (sweepC s x y z r g st wd tilt time A n c)] w fun e w' => e = .returned (.int .i64 (sweepE (siteE (nameB s) x y z r g st wd) tilt time r g n rr)) ∧ Below w.heap.size w w' := by
  have hsite := fun W => CheckSite_any s (nameB s) x y z r g st wd W (fun W => Name_any s W hs)
  have hrg := @site_rg (nameB s) x y z r g st wd
  obtain ⟨se, hse⟩ : ∃ se, siteE (nameB s) x y z r g st wd = se := ⟨_, rfl⟩
  simp only [hse] at hsite hrg
  rw [hse]
  have hn2 : (n : Int) ≤ 9223372036854775807 := by unfold maxLen at hn; omega
  unfold sweepC
  have HS := hide hsite
  have HR := hide h
  clear hsite h
  clear hse
  by_cases h0 : se = 0
  · obtain ⟨r0, r1, g0, g1⟩ := hrg h0
    subst h0
    have hsw : sweepE 0 tilt time r g n rr = if (win tilt 0 256 && win time 0 4294967296) = false then 3 else if (n : Int) ≠ 4 * r then 11 else if shapeB n (fun i => (rr i).n) g = false then 11 else rowsE n rr := rfl
    rw [hsw]
    clear hsw hrg
    obtain ⟨b1, hb1⟩ : ∃ b, win tilt 0 256 = b := ⟨_, rfl⟩
    obtain ⟨b2, hb2⟩ : ∃ b, win time 0 4294967296 = b := ⟨_, rfl⟩
    rw [hb1, hb2]
    cases b1 with
    | false =>
      rw [if_pos (by simp)]
      go_enter Tryz.func43, Tryz.ntmps43
      have HB := hide (Below.refl w.heap.size w)
      go_wp2_with fail
      refine at_world fun W hW => ?_
      have bq0 : Blk W w.heap.size 31 #[.string s, .int .i64 x, .int .i64 y, .int .i64 z, .int .i64 r, .int .i64 g, .int .i64 st, .int .i64 wd, .int .i64 tilt, .int .i64 time, .slice A n c] := by rw [hW]; exact Blk.new _ _ _
      have LW : Later w W := by rw [hW]; exact ((Below.refl _ _).alloc (Nat.le_refl _) _)
      have szW : W.heap.size = w.heap.size + 1 := by rw [hW]; simp
      clear hW
      replace HB := hide (onward HB.out LW)
      have Hx := hide bq0
      clear bq0 LW szW
      refine (HS.out _).mono ?_
      rintro e w1 ⟨rfl, hb⟩
      replace HB := hide (onward HB.out hb)
      replace Hx := hide (blk_later Hx.out hb)
      clear hb
      have x0 := Hx.out.c 0 rfl
      have x1 := Hx.out.c 1 rfl
      have x2 := Hx.out.c 2 rfl
      have x3 := Hx.out.c 3 rfl
      have x4 := Hx.out.c 4 rfl
      have x5 := Hx.out.c 5 rfl
      have x6 := Hx.out.c 6 rfl
      have x7 := Hx.out.c 7 rfl
      have x8 := Hx.out.c 8 rfl
      have x9 := Hx.out.c 9 rfl
      have x10 := Hx.out.c 10 rfl
      have ltx := Hx.out.lt
      go_wp2_with fail
      refine (pwithin_any _ _ _ _).mono ?_
      rintro e w' ⟨rfl, rfl⟩
      rw [hb1]
      go_wp2
      go_ret
      exact ⟨rfl, HB.out⟩
    | true =>
      cases b2 with
      | false =>
        rw [if_pos (by simp)]
        go_enter Tryz.func43, Tryz.ntmps43
        have HB := hide (Below.refl w.heap.size w)
        go_wp2_with fail
        refine at_world fun W hW => ?_
        have bq0 : Blk W w.heap.size 31 #[.string s, .int .i64 x, .int .i64 y, .int .i64 z, .int .i64 r, .int .i64 g, .int .i64 st, .int .i64 wd, .int .i64 tilt, .int .i64 time, .slice A n c] := by rw [hW]; exact Blk.new _ _ _
        have LW : Later w W := by rw [hW]; exact ((Below.refl _ _).alloc (Nat.le_refl _) _)
        have szW : W.heap.size = w.heap.size + 1 := by rw [hW]; simp
        clear hW
        replace HB := hide (onward HB.out LW)
        have Hx := hide bq0
        clear bq0 LW szW
        refine (HS.out _).mono ?_
        rintro e w1 ⟨rfl, hb⟩
        replace HB := hide (onward HB.out hb)
        replace Hx := hide (blk_later Hx.out hb)
        clear hb
        have x0 := Hx.out.c 0 rfl
        have x1 := Hx.out.c 1 rfl
        have x2 := Hx.out.c 2 rfl
        have x3 := Hx.out.c 3 rfl
        have x4 := Hx.out.c 4 rfl
        have x5 := Hx.out.c 5 rfl
        have x6 := Hx.out.c 6 rfl
        have x7 := Hx.out.c 7 rfl
        have x8 := Hx.out.c 8 rfl
        have x9 := Hx.out.c 9 rfl
        have x10 := Hx.out.c 10 rfl
        have ltx := Hx.out.lt
        go_wp2_with fail
        refine (pwithin_any _ _ _ _).mono ?_
        rintro e w' ⟨rfl, rfl⟩
        rw [hb1]
        go_wp2_with fail
        refine (pwithin_any _ _ _ _).mono ?_
        rintro e w' ⟨rfl, rfl⟩
        rw [hb2]
        go_wp2
        go_ret
        exact ⟨rfl, HB.out⟩
      | true =>
        rw [if_neg (by simp)]
        by_cases h4 : (n : Int) = 4 * r
        · rw [if_neg (by omega)]
          have hd4 : ((n : Int) != 4 * r) = false := by simp [h4]
          obtain ⟨res, hres⟩ : ∃ q, (if shapeB n (fun i => (rr i).n) g = false then 11 else rowsE n rr) = q := ⟨_, rfl⟩
          rw [hres]
          have Hres := hide hres
          clear hres
          go_enter Tryz.func43, Tryz.ntmps43
          have HB := hide (Below.refl w.heap.size w)
          go_wp2_with fail
          refine at_world fun W hW => ?_
          have bq0 : Blk W w.heap.size 31 #[.string s, .int .i64 x, .int .i64 y, .int .i64 z, .int .i64 r, .int .i64 g, .int .i64 st, .int .i64 wd, .int .i64 tilt, .int .i64 time, .slice A n c] := by rw [hW]; exact Blk.new _ _ _
          have LW : Later w W := by rw [hW]; exact ((Below.refl _ _).alloc (Nat.le_refl _) _)
          have szW : W.heap.size = w.heap.size + 1 := by rw [hW]; simp
          clear hW
          replace HB := hide (onward HB.out LW)
          have Hx := hide bq0
          clear bq0 LW szW
          refine (HS.out _).mono ?_
          rintro e w1 ⟨rfl, hb⟩
          replace HB := hide (onward HB.out hb)
          replace Hx := hide (blk_later Hx.out hb)
          clear hb
          have x0 := Hx.out.c 0 rfl
          have x1 := Hx.out.c 1 rfl
          have x2 := Hx.out.c 2 rfl
          have x3 := Hx.out.c 3 rfl
          have x4 := Hx.out.c 4 rfl
          have x5 := Hx.out.c 5 rfl
          have x6 := Hx.out.c 6 rfl
          have x7 := Hx.out.c 7 rfl
          have x8 := Hx.out.c 8 rfl
          have x9 := Hx.out.c 9 rfl
          have x10 := Hx.out.c 10 rfl
          have ltx := Hx.out.lt
          go_wp2_with fail
          refine (pwithin_any _ _ _ _).mono ?_
          rintro e w' ⟨rfl, rfl⟩
          rw [hb1]
          go_wp2_with fail
          refine (pwithin_any _ _ _ _).mono ?_
          rintro e w' ⟨rfl, rfl⟩
          rw [hb2]
          go_wp2_with fail
          go_loopw [38] (fun i wr => ∃ k : Nat, k ≤ n ∧ i = .int .i64 k ∧ Below w.heap.size w wr ∧ Blk wr w.heap.size 31 #[.string s, .int .i64 x, .int .i64 y, .int .i64 z, .int .i64 r, .int .i64 g, .int .i64 st, .int .i64 wd, .int .i64 tilt, .int .i64 time, .slice A n c] ∧ ∀ j, j < k → ((rr j).n : Int) = g) (fun i _ => n - (intOf i).toNat)
          case atStart => exact ⟨0, by omega, rfl, HB.out, Hx.out, fun j hj => absurd hj (by omega)⟩
          case round =>
            obtain ⟨k, hk, rfl, hB, hx, hl⟩ := hrel
            clear HB Hx
            have HB := hide hB
            have Hx := hide hx
            clear hB hx
            by_cases hk2 : k < n
            · have hk3 : (k : Int) < n := by omega
              obtain ⟨b, off, hA, hb, hc⟩ := HR.out (by omega)
              have q := (hc k hk2).1
              rw [← HB.out.cell hb] at q
              have ltb : b < wr.heap.size := Nat.lt_of_lt_of_le hb HB.out.size
              subst hA
              obtain ⟨ln, hln⟩ : ∃ q, (rr k).n = q := ⟨_, rfl⟩
              rw [hln] at q
              clear hc
              by_cases he : (ln : Int) = g
              · have hd : ((ln : Int) != g) = false := by simp [he]
                have x0 := Hx.out.c 0 rfl
                have x1 := Hx.out.c 1 rfl
                have x2 := Hx.out.c 2 rfl
                have x3 := Hx.out.c 3 rfl
                have x4 := Hx.out.c 4 rfl
                have x5 := Hx.out.c 5 rfl
                have x6 := Hx.out.c 6 rfl
                have x7 := Hx.out.c 7 rfl
                have x8 := Hx.out.c 8 rfl
                have x9 := Hx.out.c 9 rfl
                have x10 := Hx.out.c 10 rfl
                have ltx := Hx.out.lt
                go_wp2
                go_roundw
                case rel => exact ⟨k + 1, by omega, by go_num, HB.out, Hx.out, fun j hj => by
                  rcases Nat.lt_or_ge j k with hh | hh
                  · exact hl j hh
                  · obtain rfl : j = k := by omega
                    rw [hln]; exact he⟩
                case measure => simp [intOf] <;> omega
              · have hd : ((ln : Int) != g) = true := by simp [he]
                have hr2 := Hres.out
                rw [if_pos (shapeB_no hk2 (by rw [hln]; exact he))] at hr2
                subst hr2
                clear Hres
                have x0 := Hx.out.c 0 rfl
                have x1 := Hx.out.c 1 rfl
                have x2 := Hx.out.c 2 rfl
                have x3 := Hx.out.c 3 rfl
                have x4 := Hx.out.c 4 rfl
                have x5 := Hx.out.c 5 rfl
                have x6 := Hx.out.c 6 rfl
                have x7 := Hx.out.c 7 rfl
                have x8 := Hx.out.c 8 rfl
                have x9 := Hx.out.c 9 rfl
                have x10 := Hx.out.c 10 rfl
                have ltx := Hx.out.lt
                go_wp2
                go_ret
                exact ⟨rfl, HB.out⟩
            · obtain rfl : k = n := by omega
              have hk3 : ¬ ((k : Int) < k) := by omega
              have hsh := shapeB_yes (len := fun i => (rr i).n) hl
              have hres2 := Hres.out
              rw [if_neg (by rw [hsh]; simp)] at hres2
              unfold rowsE at hres2
              have Hres2 := hide hres2
              clear hres2
              clear Hres hsh
              have x0 := Hx.out.c 0 rfl
              have x1 := Hx.out.c 1 rfl
              have x2 := Hx.out.c 2 rfl
              have x3 := Hx.out.c 3 rfl
              have x4 := Hx.out.c 4 rfl
              have x5 := Hx.out.c 5 rfl
              have x6 := Hx.out.c 6 rfl
              have x7 := Hx.out.c 7 rfl
              have x8 := Hx.out.c 8 rfl
              have x9 := Hx.out.c 9 rfl
              have x10 := Hx.out.c 10 rfl
              have ltx := Hx.out.lt
              go_wp2_with fail
              go_loopw [52] (fun i wr2 => ∃ m : Nat, m ≤ k ∧ i = .int .i64 m ∧ Below w.heap.size w wr2 ∧ firstN (fun i => firstN (fun j => echE ((rr i).e j)) 0 (rr i).n) m (k - m) = res) (fun i _ => k - (intOf i).toNat)
              case atStart => exact ⟨0, by omega, rfl, HB.out, by rw [Nat.sub_zero]; exact Hres2.out⟩
              case round =>
                obtain ⟨m, hm, rfl, hB, hfm⟩ := hrel
                clear HB Hx
                have HB := hide hB
                clear hB
                by_cases hm2 : m < k
                · have hm3 : (m : Int) < k := by omega
                  have hm3d : decide ((m : Int) < 4 * r) = true := decide_eq_true (by omega)
                  have hm3e : decide ((m : Int) < k) = true := decide_eq_true hm3
                  obtain ⟨b, off, hA, hb, hc⟩ := HR.out (by omega)
                  obtain ⟨q, hml, hrow⟩ := hc m hm2
                  rw [← HB.out.cell hb] at q
                  have ltb : b < wr.heap.size := Nat.lt_of_lt_of_le hb HB.out.size
                  subst hA
                  rw [firstN_step _ hm2] at hfm
                  obtain ⟨A1, hA1⟩ : ∃ q, (rr m).A = q := ⟨_, rfl⟩
                  obtain ⟨ln, hln⟩ : ∃ q, (rr m).n = q := ⟨_, rfl⟩
                  obtain ⟨c1, hc1⟩ : ∃ q, (rr m).c = q := ⟨_, rfl⟩
                  rw [hA1, hln, hc1] at q
                  rw [hA1, hln] at hrow
                  rw [hln] at hml hfm
                  have hln2 : (ln : Int) ≤ 9223372036854775807 := by unfold maxLen at hml; omega
                  have Hrow := hide hrow
                  have Hfm := hide hfm
                  clear hrow hfm
                  clear hc
                  go_wp2_with fail
                  go_loopw [58] (fun i wr2 => ∃ j : Nat, j ≤ ln ∧ i = .int .i64 j ∧ Below w.heap.size w wr2 ∧ firstN (fun j => echE ((rr m).e j)) j (ln - j) = firstN (fun j => echE ((rr m).e j)) 0 ln) (fun i _ => ln - (intOf i).toNat)
                  case atStart => exact ⟨0, by omega, rfl, HB.out, by rw [Nat.sub_zero]⟩
                  case round =>
                    obtain ⟨j, hj, rfl, hB, hfj⟩ := hrel
                    clear HB q ltb
                    have HB := hide hB
                    clear hB
                    by_cases hj2 : j < ln
                    · have hj3 : (j : Int) < ln := by omega
                      obtain ⟨b1, off1, hB1, hb1, hc1⟩ := Hrow.out (by omega)
                      rw [firstN_step _ hj2] at hfj
                      obtain ⟨ee, hee⟩ : ∃ q, (rr m).e j = q := ⟨_, rfl⟩
                      have hc2 := fun i v hv => hc1 j hj2 i v hv
                      simp only [hee] at hc2
                      rw [hee] at hfj
                      have hce := fun W => CheckEcho_any ee W
                      obtain ⟨ev, hev⟩ : ∃ q, echE ee = q := ⟨_, rfl⟩
                      simp only [hev] at hce
                      rw [hev] at hfj
                      obtain ⟨k0, p1, p2, s1, s2, s3, s4, sp, r1', r2, m1, m2, t1, t2⟩ := ee
                      unfold echC at hc2 hce
                      have q0 := hc2 0 (.int .i64 k0) rfl
                      have q1 := hc2 1 (.int .i64 p1) rfl
                      have q2 := hc2 2 (.int .i64 p2) rfl
                      have q3 := hc2 3 (.int .i64 s1) rfl
                      have q4 := hc2 4 (.int .i64 s2) rfl
                      have q5 := hc2 5 (.int .i64 s3) rfl
                      have q6 := hc2 6 (.int .i64 s4) rfl
                      have q7 := hc2 7 (.int .i64 sp) rfl
                      have q8 := hc2 8 (.int .i64 r1') rfl
                      have q9 := hc2 9 (.int .i64 r2) rfl
                      have q10 := hc2 10 (.int .i64 m1) rfl
                      have q11 := hc2 11 (.int .i64 m2) rfl
                      have q12 := hc2 12 (.int .i64 t1) rfl
                      have q13 := hc2 13 (.int .i64 t2) rfl
                      rw [Nat.add_zero] at q0
                      rw [← HB.out.cell hb1] at q0 q1 q2 q3 q4 q5 q6 q7 q8 q9 q10 q11 q12 q13
                      have ltb1 : b1 < wr.heap.size := Nat.lt_of_lt_of_le hb1 HB.out.size
                      subst hB1
                      have Hce := hide hce
                      clear hce
                      clear hc1 hc2
                      go_wp2_with fail
                      clear q0 q1 q2 q3 q4 q5 q6 q7 q8 q9 q10 q11 q12 q13
                      refine at_world fun W7 hW => ?_
                      have LW : Later wr W7 := by rw [hW]; exact ((Below.refl _ _).alloc (Nat.le_refl _) _)
                      have szW : W7.heap.size = wr.heap.size + 1 := by rw [hW]; simp
                      clear hW
                      replace HB := hide (onward HB.out LW)
                      clear LW szW
                      refine (Hce.out _).mono ?_
                      rintro e w8 ⟨rfl, hb⟩
                      replace HB := hide (onward HB.out hb)
                      clear hb
                      by_cases hv0 : ev = 0
                      · subst hv0
                        rw [if_neg (by simp)] at hfj
                        go_wp2
                        go_roundw
                        case rel => exact ⟨j + 1, by omega, by go_num, HB.out, hfj⟩
                        case measure => simp [intOf] <;> omega
                      · have hvd : (ev != 0) = true := by simp [hv0]
                        have hvd2 : (ev == 0) = false := by simp [hv0]
                        rw [if_pos hv0] at hfj
                        have hf := Hfm.out
                        rw [← hfj, if_pos hv0] at hf
                        subst hf
                        clear hfj Hfm
                        go_wp2
                        go_ret
                        exact ⟨rfl, HB.out⟩
                    · obtain rfl : j = ln := by omega
                      have hj3 : ¬ ((j : Int) < j) := by omega
                      rw [Nat.sub_self] at hfj
                      have hf := Hfm.out
                      rw [← hfj, if_neg (by simp [firstN])] at hf
                      go_wp2
                      go_roundw
                      case rel => exact ⟨m + 1, by omega, by go_num, HB.out, hf⟩
                      case measure => simp [intOf] <;> omega
                · obtain rfl : m = k := by omega
                  have hm3 : ¬ ((m : Int) < m) := by omega
                  rw [Nat.sub_self] at hfm
                  go_wp2
                  go_ret
                  exact ⟨by rw [← hfm]; rfl, HB.out⟩
        · rw [if_pos h4]
          have hd4 : ((n : Int) != 4 * r) = true := by simp [h4]
          go_enter Tryz.func43, Tryz.ntmps43
          have HB := hide (Below.refl w.heap.size w)
          go_wp2_with fail
          refine at_world fun W hW => ?_
          have bq0 : Blk W w.heap.size 31 #[.string s, .int .i64 x, .int .i64 y, .int .i64 z, .int .i64 r, .int .i64 g, .int .i64 st, .int .i64 wd, .int .i64 tilt, .int .i64 time, .slice A n c] := by rw [hW]; exact Blk.new _ _ _
          have LW : Later w W := by rw [hW]; exact ((Below.refl _ _).alloc (Nat.le_refl _) _)
          have szW : W.heap.size = w.heap.size + 1 := by rw [hW]; simp
          clear hW
          replace HB := hide (onward HB.out LW)
          have Hx := hide bq0
          clear bq0 LW szW
          refine (HS.out _).mono ?_
          rintro e w1 ⟨rfl, hb⟩
          replace HB := hide (onward HB.out hb)
          replace Hx := hide (blk_later Hx.out hb)
          clear hb
          have x0 := Hx.out.c 0 rfl
          have x1 := Hx.out.c 1 rfl
          have x2 := Hx.out.c 2 rfl
          have x3 := Hx.out.c 3 rfl
          have x4 := Hx.out.c 4 rfl
          have x5 := Hx.out.c 5 rfl
          have x6 := Hx.out.c 6 rfl
          have x7 := Hx.out.c 7 rfl
          have x8 := Hx.out.c 8 rfl
          have x9 := Hx.out.c 9 rfl
          have x10 := Hx.out.c 10 rfl
          have ltx := Hx.out.lt
          go_wp2_with fail
          refine (pwithin_any _ _ _ _).mono ?_
          rintro e w' ⟨rfl, rfl⟩
          rw [hb1]
          go_wp2_with fail
          refine (pwithin_any _ _ _ _).mono ?_
          rintro e w' ⟨rfl, rfl⟩
          rw [hb2]
          go_wp2
          go_ret
          exact ⟨rfl, HB.out⟩
  · have hd : (se == 0) = false := beq_eq_false_iff_ne.2 h0
    have hsw : sweepE se tilt time r g n rr = se := by unfold sweepE; rw [if_pos h0]
    rw [hsw]
    go_enter Tryz.func43, Tryz.ntmps43
    have HB := hide (Below.refl w.heap.size w)
    go_wp2_with fail
    refine at_world fun W hW => ?_
    have bq0 : Blk W w.heap.size 31 #[.string s, .int .i64 x, .int .i64 y, .int .i64 z, .int .i64 r, .int .i64 g, .int .i64 st, .int .i64 wd, .int .i64 tilt, .int .i64 time, .slice A n c] := by rw [hW]; exact Blk.new _ _ _
    have LW : Later w W := by rw [hW]; exact ((Below.refl _ _).alloc (Nat.le_refl _) _)
    have szW : W.heap.size = w.heap.size + 1 := by rw [hW]; simp
    clear hW
    replace HB := hide (onward HB.out LW)
    have Hx := hide bq0
    clear bq0 LW szW
    refine (HS.out _).mono ?_
    rintro e w1 ⟨rfl, hb⟩
    replace HB := hide (onward HB.out hb)
    replace Hx := hide (blk_later Hx.out hb)
    clear hb
    have x0 := Hx.out.c 0 rfl
    have x1 := Hx.out.c 1 rfl
    have x2 := Hx.out.c 2 rfl
    have x3 := Hx.out.c 3 rfl
    have x4 := Hx.out.c 4 rfl
    have x5 := Hx.out.c 5 rfl
    have x6 := Hx.out.c 6 rfl
    have x7 := Hx.out.c 7 rfl
    have x8 := Hx.out.c 8 rfl
    have x9 := Hx.out.c 9 rfl
    have x10 := Hx.out.c 10 rfl
    have ltx := Hx.out.lt
    go_wp2
    go_ret
    exact ⟨rfl, HB.out⟩
end Go.Proofs.YtepgpihobmjbdaaGreat
