/-
  The acts of the laws, in plain words.
  Arguments opened: structs and slices of structs whose cells are all integers, over any program; and what is read again behind a call that leaves old memory alone.
  Arguments opened whose cells are of several kinds: integers, strings, structs, arrays and slices of such. Over any program.
  Withdraw, Reinstate; the entries' functions, all kinds.
  A book with the first entries of another one.
  Acts are made; lists of acts are small.
  Regions that draw their order, once more: which operations may turn old memory is said by a set; each of these must wait for every quiet operation that is taken ahead.
  A region that draws its order, in which one call may turn old memory: it waits for all that come ahead, and all others wait for it.
-/
import Derived.Test.YtiggefmckomilaaTraceNilF
import Derived.Test.YtiggefmckomilaaTraceNilL
import Derived.Test.YtiggefmckomilaaWords
import Derived.Deep.Slices
import Derived.ProofKit
import Derived.ChangeOld
import Derived.OpenShut
import Derived.Test.YtiggefmckomilaaTraceTurn
import Derived.Test.YtiggefmckomilaaTraceWorks
import Derived.Test.YtiggefmckomilaaRegD
import Derived.Test.YtiggefmckomilaaRegH
import Derived.Test.YtiggefmckomilaaRegionStep
set_option linter.unusedSimpArgs false
set_option linter.unusedVariables false
namespace Go.Proofs.Ytiggefmckomilaa
open Go Go.RowKit

structure ActR where
  k : Int
  nm : ByteArray
  pr : ByteArray
  lo : Int
  hi : Int
  tm : Int
  un : Int
  n : Int
def actL (a : ActR) : List Value := [.int .i64 a.k, .string a.nm, .string a.pr, .int .i64 a.lo, .int .i64 a.hi, .int .i64 a.tm, .int .i64 a.un, .int .i64 a.n]
def actA (a : ActR) : Array Value := actV a.k a.nm a.pr a.lo a.hi a.tm a.un a.n
structure ActOk (a : ActR) : Prop where
  k0 : -9223372036854775808 ≤ a.k
  k1 : a.k ≤ 9223372036854775807
  nm : a.nm.size ≤ maxLen
  pr : a.pr.size ≤ maxLen
end Go.Proofs.Ytiggefmckomilaa
namespace Go.Proofs.Ytiggefmckomilaa
open Go Go.RowKit Go.ChangeShapes Go.WideShapes Go.Deep

section
variable {H : Type} {enc : TypeId × Value → H} {P : Program} {w : World} {base : Nat} {spare : Nat → Bool} {held : Bool}

/-- A type whose values are so many integers of one kind, cell by cell. -/
def AllInts (P : Program) (t : TypeId) (k : IntKind) (size : Nat) : Prop :=
  P.cellsOf t = size ∧ ∀ (H : Type) (enc : TypeId × Value → H) (w : World) (base : Nat) (spare : Nat → Bool) (held : Bool) (n : Nat) (cs : List Value) (y : DataW H × List MemPlace), DataW.trod enc P w base spare held n t cs = some y → ∃ zs : List Int, cs = zs.map (Value.int k) ∧ zs.length = size ∧ ∀ z ∈ zs, (Lit.int k z).wf = true

theorem allInts_int {t : TypeId} {k : IntKind} (ht : P.underlying t = some (.int k)) (hc : P.cellsOf t = 1) : AllInts P t k 1 :=
  ⟨hc, fun H enc w base spare held n cs y h => by
    obtain ⟨a, e0, _, wa⟩ := DataW.trod_int ht h
    exact ⟨[a], by simpa using e0, rfl, by simpa using wa⟩⟩

/-- A struct whose fields are all so. -/
theorem allInts_struct {t : TypeId} {k : IntKind} {fs : Array Field} {sz : Nat} (ht : P.underlying t = some (.struct fs)) (hc : P.cellsOf t = sz)
    (hf : ∀ c, c < sz → ∃ (i : Nat) (f : Field) (size : Nat), fs[i]? = some f ∧ AllInts P f.type k size ∧ f.offset ≤ c ∧ c < f.offset + size) : AllInts P t k sz := by
  refine ⟨hc, fun H enc w base spare held n cs y h => ?_⟩
  obtain ⟨xs, m, _, _, hlen, hxs, hg⟩ := DataW.trod_struct ht h
  rw [hc] at hlen
  have each : ∀ c, c < cs.length → ∃ z : Int, cs[c]? = some (.int k z) ∧ (Lit.int k z).wf = true := fun c hcl => by
    obtain ⟨i, f, size, hi, ⟨hcf, ha⟩, ho, hlt⟩ := hf c (by omega)
    have h1 := hg i f hi
    have hil : i < xs.length := by rw [hxs]; exact (Array.getElem?_eq_some_iff.1 hi).1
    rw [List.getElem?_eq_getElem hil] at h1
    obtain ⟨zs, hz, hzl, hwf⟩ := ha H enc w base spare held _ _ _ h1
    rw [hcf] at hz
    have h2 : ((cs.drop f.offset).take size)[c - f.offset]? = (zs.map (Value.int k))[c - f.offset]? := by rw [hz]
    rw [List.getElem?_take, if_pos (by omega), List.getElem?_drop, show f.offset + (c - f.offset) = c by omega] at h2
    rw [h2, List.getElem?_map]
    have : c - f.offset < zs.length := by omega
    rw [List.getElem?_eq_getElem this]
    exact ⟨_, rfl, hwf _ (List.getElem_mem this)⟩
  have build : ∀ l : List Value, (∀ c, c < l.length → ∃ z : Int, l[c]? = some (.int k z) ∧ (Lit.int k z).wf = true) → ∃ zs : List Int, l = zs.map (Value.int k) ∧ ∀ z ∈ zs, (Lit.int k z).wf = true := by
    intro l
    induction l with
    | nil => intro _; exact ⟨[], rfl, by simp⟩
    | cons v r ih =>
      intro hl
      obtain ⟨z, hz, hw⟩ := hl 0 (by simp)
      obtain ⟨zs, hzs, hws⟩ := ih (fun c hcl => by have := hl (c + 1) (by simpa using hcl); simpa using this)
      refine ⟨z :: zs, ?_, ?_⟩
      · simp at hz; rw [hz, hzs]; rfl
      · intro x hx
        rcases List.mem_cons.1 hx with rfl | hx
        · exact hw
        · exact hws x hx
  obtain ⟨zs, hzs, hws⟩ := build cs each
  exact ⟨zs, hzs, by rw [← hlen, hzs]; simp, hws⟩

/-- A slice of such. -/
theorem read_slice2 {t e : TypeId} {k : IntKind} {size : Nat} (ht : P.underlying t = some (.slice e)) (he : AllInts P e k size) (hs : 0 < size) {n : Nat} {cs : List Value} {y : DataW H × List MemPlace} (h : DataW.trod enc P w base spare held n t cs = some y) :
    ∃ (A : Option Addr) (len cap : Nat) (zs : List Int), cs = [.slice A len cap] ∧ zs.length = len * size ∧ len ≤ cap ∧ cap ≤ maxLen ∧ Ints w w.heap.size k A zs ∧ ∀ z ∈ zs, (Lit.int k z).wf = true := by
  rcases open_slice ht h with ⟨hcs, _⟩ | ⟨a, len, cap, m, n', D, Pl, hcs, _, hl, hm, hmm, _, hi⟩
  · exact ⟨none, 0, 0, [], hcs, by simp, Nat.le_refl _, by simp [maxLen], Ints.nil_ _ _ _ _, by simp⟩
  · have hlm : len ≤ m := by rw [hmm]; split <;> omega
    have each : ∀ i, i < len → ∃ zs : List Int, zs.length = size ∧ (∀ j, j < size → w.cell? (a.add (i * size + j)) = some (.int k (zs.getD j 0))) ∧ ∀ z ∈ zs, (Lit.int k z).wf = true := fun i hil => by
      obtain ⟨cs', hc, ht'⟩ := hi i (by omega)
      rw [he.1] at hc
      obtain ⟨zs, hz, hzl, hwf⟩ := he.2 H enc w base spare held _ _ _ ht'
      obtain ⟨_, _, hat⟩ := World.cells?_some hc
      refine ⟨zs, hzl, fun j hj => ?_, hwf⟩
      rw [← Go.Deep.add_add, hat j hj, hz]
      simp [List.getD, show j < zs.length by omega]
    obtain ⟨f, hf⟩ := choose_lt each
    refine ⟨some a, len, cap, (List.range len).flatMap f, hcs, ?_, hl, hm, ?_, ?_⟩
    · have : ∀ q, q ≤ len → ((List.range q).flatMap f).length = q * size := by
        intro q
        induction q with
        | zero => intro _; simp
        | succ q ih => intro hq; rw [List.range_succ, List.flatMap_append, List.length_append, ih (by omega)]; simp [(hf q (by omega)).1]; rw [Nat.add_mul]; omega
      exact this len (Nat.le_refl _)
    · have cells : ∀ q, q ≤ len → ∀ j, j < q * size → w.cell? (a.add j) = some (.int k (((List.range q).flatMap f).getD j 0)) ∧ ((List.range q).flatMap f).length = q * size := by
        intro q
        induction q with
        | zero => intro _ j hj; simp at hj
        | succ q ih =>
          intro hq j hj
          have hl1 : ((List.range q).flatMap f).length = q * size := by
            rcases Nat.eq_zero_or_pos (q * size) with h0 | h0
            · rcases Nat.mul_eq_zero.1 h0 with h1 | h1
              · subst h1; simp
              · omega
            · exact (ih (by omega) 0 h0).2
          have hl2 := (hf q (by omega)).1
          rw [List.range_succ, List.flatMap_append]
          simp only [List.flatMap_cons, List.flatMap_nil, List.append_nil]
          refine ⟨?_, by rw [List.length_append, hl1, hl2, Nat.add_mul]; omega⟩
          rw [Nat.add_mul, Nat.one_mul] at hj
          rcases Nat.lt_or_ge j (q * size) with h1 | h1
          · rw [(ih (by omega) j h1).1]
            simp [List.getD, List.getElem?_append_left (show j < ((List.range q).flatMap f).length by omega)]
          · have := (hf q (by omega)).2.1 (j - q * size) (by omega)
            rw [show q * size + (j - q * size) = j by omega] at this
            rw [this]
            simp [List.getD, List.getElem?_append_right (show ((List.range q).flatMap f).length ≤ j by omega), hl1]
      intro hpos
      have hL : ((List.range len).flatMap f).length = len * size := by
        rcases Nat.eq_zero_or_pos (len * size) with h0 | h0
        · rcases Nat.mul_eq_zero.1 h0 with h1 | h1
          · subst h1; simp
          · omega
        · exact (cells len (Nat.le_refl _) 0 h0).2
      rw [hL] at hpos
      have h0 := (cells len (Nat.le_refl _) 0 hpos).1
      obtain ⟨b, off, spot⟩ := a
      have hspot : spot = none := by
        have := World.cell?_spot h0
        simpa [Addr.add] using this
      subst hspot
      refine ⟨b, off, rfl, World.block_lt_of_cell? w _ (by simpa [Addr.add] using h0), fun j hj => ?_⟩
      rw [hL] at hj
      rw [← Go.WideShapes.add_plain]
      exact (cells len (Nat.le_refl _) j hj).1
    · intro z hz
      obtain ⟨i, hi', hz'⟩ := List.mem_flatMap.1 hz
      exact (hf i (List.mem_range.1 hi')).2.2 z hz'

theorem read_slice {t e : TypeId} {k : IntKind} {size : Nat} (ht : P.underlying t = some (.slice e)) (he : AllInts P e k size) (hs : 0 < size) {n : Nat} {cs : List Value} {y : DataW H × List MemPlace} (h : DataW.trod enc P w base spare held n t cs = some y) :
    ∃ (A : Option Addr) (len cap : Nat) (zs : List Int), cs = [.slice A len cap] ∧ zs.length = len * size ∧ len ≤ maxLen ∧ Ints w w.heap.size k A zs ∧ ∀ z ∈ zs, (Lit.int k z).wf = true := by
  obtain ⟨A, len, cap, zs, h1, h2, h3, h4, h5⟩ := read_slice2 ht he hs h
  exact ⟨A, len, cap, zs, h1, h2, Nat.le_trans h3 h4, h5⟩
theorem open_struct {t : TypeId} {fs : Array Field} {k : IntKind} {size : Nat} {r : Reach} {b0 : Nat} {v : Value} {d : DataW H} {ps : List MemPlace} (ht : P.underlying t = some (.struct fs)) (he : AllInts P t k size) (hv : Value.okWide P w r b0 t v) (h : DataW.Trod enc P w base spare held t v d ps) :
    ∃ zs : List Int, v = .agg (zs.map (Value.int k)).toArray ∧ zs.length = size ∧ ∀ z ∈ zs, (Lit.int k z).wf = true := by
  obtain ⟨cs, rfl, _⟩ := okWide_struct ht hv
  obtain ⟨fuel, hf⟩ := h
  obtain ⟨zs, h1, h2, h3⟩ := he.2 _ _ _ _ _ _ _ _ _ hf
  refine ⟨zs, ?_, h2, h3⟩
  simp only [Value.cells] at h1
  rw [← h1]
theorem open_sl {t e : TypeId} {k : IntKind} {size : Nat} {r : Reach} {b0 : Nat} {v : Value} {d : DataW H} {ps : List MemPlace} (ht : P.underlying t = some (.slice e)) (he : AllInts P e k size) (hs : 0 < size) (hv : Value.okWide P w r b0 t v) (h : DataW.Trod enc P w base spare held t v d ps) :
    ∃ (A : Option Addr) (len cap : Nat) (zs : List Int), v = .slice A len cap ∧ zs.length = len * size ∧ len ≤ cap ∧ cap ≤ maxLen ∧ Ints w w.heap.size k A zs ∧ ∀ z ∈ zs, (Lit.int k z).wf = true := by
  obtain ⟨a, len, cap, rfl⟩ := okWide_slice ht hv
  obtain ⟨fuel, hf⟩ := h
  obtain ⟨A, len', cap', zs, h1, h2, h3, h4, h5⟩ := read_slice2 ht he hs hf
  simp [Value.cells] at h1
  obtain ⟨rfl, rfl, rfl⟩ := h1
  exact ⟨_, _, _, zs, rfl, h2, h3, h4, h5⟩

/-- All arguments read as they did, where old memory is as it was. -/
theorem trodAll_below {W W' : World} (hl : laidOutB P = true) (hb : Below W.heap.size W W') : ∀ {ts : List TypeId} {vs : List Value} {ds : List (DataW H)} {ps : List MemPlace},
    (ts.all fun t => P.readableRec t && decide (t < P.types.size)) = true → DataW.TrodAll enc P W 0 (fun _ => true) true ts vs ds ps → DataW.TrodAll enc P W' 0 (fun b => decide (b < W.heap.size)) true ts vs ds ps
  | [], [], [], _, _, h => h
  | t :: ts, v :: vs, d :: ds, _, ht, ⟨p, q, h1, h2, e⟩ => by
    simp only [List.all_cons, Bool.and_eq_true, decide_eq_true_eq] at ht
    exact ⟨p, q, Below.trod hl ht.1.1 ht.1.2 h1 hb (by obtain ⟨m, hm⟩ := h1; exact DataW.trod_lt m _ _ _ hm), trodAll_below hl hb ht.2 h2, e⟩
  | [], _ :: _, _, _, _, h => h.elim
  | _ :: _, [], _, _, _, h => h.elim
  | _ :: _, _ :: _, [], _, _, h => h.elim
  | [], [], _ :: _, _, _, h => h.elim
end
end Go.Proofs.Ytiggefmckomilaa
namespace Go.Proofs.Ytiggefmckomilaa
open Go Go.RowKit Go.ChangeShapes Go.WideShapes Go.Deep

/-- The slice value `.slice A n c` reads as `n` elements of `size` cells, those of `f`, all below block `B`. -/
def Rows_ (w : World) (B : Nat) (A : Option Addr) (n size : Nat) (f : Nat → List Value) : Prop :=
  0 < n → ∃ b off, A = some ⟨b, off, none⟩ ∧ b < B ∧ ∀ i, i < n → ∀ j v, (f i)[j]? = some v → w.cell? ⟨b, off + i * size + j, none⟩ = some v
theorem Rows_.below {w w' : World} {B n size : Nat} {A : Option Addr} {f : Nat → List Value} (h : Rows_ w B A n size f) (hb : Below B w w') : Rows_ w' B A n size f := fun hn => by
  obtain ⟨b, off, e, hl, hc⟩ := h hn
  exact ⟨b, off, e, hl, fun i hi j v hv => (hb.cell hl).trans (hc i hi j v hv)⟩
theorem Rows_.more {w : World} {B B' n size : Nat} {A : Option Addr} {f : Nat → List Value} (h : Rows_ w B A n size f) (hB : B ≤ B') : Rows_ w B' A n size f := fun hn => by
  obtain ⟨b, off, e, hl, hc⟩ := h hn
  exact ⟨b, off, e, by omega, hc⟩

section
variable {H : Type} {enc : TypeId × Value → H} {P : Program} {w : World} {base : Nat} {spare : Nat → Bool} {held : Bool}
/-- A type whose values are so many cells, of which `Q` is known. -/
def AllV (P : Program) (t : TypeId) (size : Nat) (Q : List Value → Prop) : Prop :=
  P.cellsOf t = size ∧ ∀ (H : Type) (enc : TypeId × Value → H) (w : World) (base : Nat) (spare : Nat → Bool) (held : Bool) (n : Nat) (cs : List Value) (y : DataW H × List MemPlace), DataW.trod enc P w base spare held n t cs = some y → cs.length = size ∧ Q cs
theorem allV_int {t : TypeId} {k : IntKind} (ht : P.underlying t = some (.int k)) (hc : P.cellsOf t = 1) : AllV P t 1 (fun cs => ∃ z, cs = [.int k z] ∧ (Lit.int k z).wf = true) :=
  ⟨hc, fun H enc w base spare held n cs y h => by
    obtain ⟨a, e0, _, wa⟩ := DataW.trod_int ht h
    subst e0
    exact ⟨rfl, a, rfl, wa⟩⟩
theorem allV_string {t : TypeId} (ht : P.underlying t = some .string) (hc : P.cellsOf t = 1) : AllV P t 1 (fun cs => ∃ s : ByteArray, cs = [.string s] ∧ s.size ≤ maxLen) :=
  ⟨hc, fun H enc w base spare held n cs y h => by
    obtain ⟨s, e0, _, ws⟩ := DataW.trod_string ht h
    subst e0
    exact ⟨rfl, s, rfl, ws⟩⟩
theorem read_structV {t : TypeId} {fs : Array Field} {sz n : Nat} {cs : List Value} {y : DataW H × List MemPlace} (ht : P.underlying t = some (.struct fs)) (hc : P.cellsOf t = sz) (h : DataW.trod enc P w base spare held n t cs = some y) :
    cs.length = sz ∧ ∀ (i : Nat) (f : Field) (size : Nat) (Q : List Value → Prop), fs[i]? = some f → AllV P f.type size Q → Q ((cs.drop f.offset).take size) := by
  obtain ⟨xs, m, _, _, hlen, hxs, hg⟩ := DataW.trod_struct ht h
  refine ⟨hlen.trans hc, fun i f size Q hi hQ => ?_⟩
  have h1 := hg i f hi
  have hil : i < xs.length := by rw [hxs]; exact (Array.getElem?_eq_some_iff.1 hi).1
  rw [List.getElem?_eq_getElem hil] at h1
  rw [hQ.1] at h1
  exact (hQ.2 _ _ _ _ _ _ _ _ _ h1).2
theorem read_arrayV {t e : TypeId} {size m n : Nat} {Q : List Value → Prop} {cs : List Value} {y : DataW H × List MemPlace} (ht : P.underlying t = some (.array m e)) (hQ : AllV P e size Q) (h : DataW.trod enc P w base spare held n t cs = some y) :
    ∀ i, i < m → Q ((cs.drop (i * size)).take size) := fun i hi => by
  obtain ⟨xs, k, _, _, hl, hxl, hg⟩ := DataW.trod_array ht h
  have h1 := hg i hi
  have hil : i < xs.length := by omega
  rw [List.getElem?_eq_getElem hil, hQ.1] at h1
  exact (hQ.2 _ _ _ _ _ _ _ _ _ h1).2
theorem read_sliceV {t e : TypeId} {size n : Nat} {Q : List Value → Prop} {cs : List Value} {y : DataW H × List MemPlace} (ht : P.underlying t = some (.slice e)) (hQ : AllV P e size Q) (hs : 0 < size) (h : DataW.trod enc P w base spare held n t cs = some y) :
    ∃ (A : Option Addr) (len cap : Nat) (f : Nat → List Value), cs = [.slice A len cap] ∧ len ≤ cap ∧ cap ≤ maxLen ∧ (∀ i, i < len → (f i).length = size ∧ Q (f i)) ∧ Rows_ w w.heap.size A len size f := by
  rcases open_slice ht h with ⟨hcs, _⟩ | ⟨a, len, cap, m, n', D, Pl, hcs, _, hl, hm, hmm, _, hi⟩
  · exact ⟨none, 0, 0, fun _ => [], hcs, Nat.le_refl _, by simp [maxLen], fun i hi => absurd hi (by omega), fun h => absurd h (by omega)⟩
  · have hlm : len ≤ m := by rw [hmm]; split <;> omega
    have each : ∀ i, i < len → ∃ l : List Value, (l.length = size ∧ Q l) ∧ ∀ j v, l[j]? = some v → w.cell? ((a.add (i * size)).add j) = some v := fun i hil => by
      obtain ⟨cs', hc, ht'⟩ := hi i (by omega)
      rw [hQ.1] at hc
      obtain ⟨_, hlen, hat⟩ := World.cells?_some hc
      have hq := hQ.2 _ _ _ _ _ _ _ _ _ ht'
      refine ⟨cs', hq, fun j v hj => ?_⟩
      have hjl := (List.getElem?_eq_some_iff.1 hj).1
      rw [hat j (by omega)]
      exact hj
    obtain ⟨f, hf⟩ := choose_lt each
    refine ⟨some a, len, cap, f, hcs, hl, hm, fun i hi => (hf i hi).1, fun hpos => ?_⟩
    have hex : ∃ v, (f 0)[0]? = some v := ⟨(f 0)[0]'(by have := (hf 0 hpos).1.1; omega), List.getElem?_eq_getElem _⟩
    obtain ⟨v0, hv0⟩ := hex
    have h0 := (hf 0 hpos).2 0 v0 hv0
    obtain ⟨b, off, spot⟩ := a
    have hspot : spot = none := by
      have := World.cell?_spot h0
      simpa [Addr.add] using this
    subst hspot
    refine ⟨b, off, rfl, World.block_lt_of_cell? w _ (by simpa [Addr.add] using h0), fun i hi j v hv => ?_⟩
    have h1 := (hf i hi).2 j v hv
    rw [Go.Deep.add_add, Go.WideShapes.add_plain] at h1
    rw [Nat.add_assoc]
    exact h1
theorem open_slV {t e : TypeId} {size : Nat} {Q : List Value → Prop} {r : Reach} {b0 : Nat} {v : Value} {d : DataW H} {ps : List MemPlace} (ht : P.underlying t = some (.slice e)) (hQ : AllV P e size Q) (hs : 0 < size) (hv : Value.okWide P w r b0 t v) (h : DataW.Trod enc P w base spare held t v d ps) :
    ∃ (A : Option Addr) (len cap : Nat) (f : Nat → List Value), v = .slice A len cap ∧ len ≤ cap ∧ cap ≤ maxLen ∧ (∀ i, i < len → (f i).length = size ∧ Q (f i)) ∧ Rows_ w w.heap.size A len size f := by
  obtain ⟨a, len, cap, rfl⟩ := okWide_slice ht hv
  obtain ⟨fuel, hf⟩ := h
  obtain ⟨A, len', cap', f, h1, h2, h3, h4, h5⟩ := read_sliceV ht hQ hs hf
  simp [Value.cells] at h1
  obtain ⟨rfl, rfl, rfl⟩ := h1
  exact ⟨_, _, _, f, rfl, h2, h3, h4, h5⟩
theorem okWide_array {t e : TypeId} {m : Nat} {r : Reach} {b0 : Nat} {v : Value} (ht : P.underlying t = some (.array m e)) (hv : Value.okWide P w r b0 t v) : ∃ cs, v = .agg cs ∧ cs.size = P.cellsOf t := by
  simp only [Value.okWide, ht] at hv
  obtain ⟨cs, h1, h2, _⟩ := hv
  exact ⟨cs, h1, h2⟩
theorem len1 {l : List Value} {n : Nat} (h : l.length = n + 1) : ∃ x r, l = x :: r ∧ r.length = n := by
  cases l with
  | nil => simp at h
  | cons x r => exact ⟨x, r, rfl, by simpa using h⟩
theorem len0 {l : List Value} (h : l.length = 0) : l = [] := List.eq_nil_of_length_eq_zero h
end
end Go.Proofs.Ytiggefmckomilaa
namespace Go.Proofs.Ytiggefmckomilaa
open Go Go.RowKit

set_option maxRecDepth 100000 in
theorem Withdraw_any (l : List Ent) (p : Nat) (L : Lay) (n : ByteArray) (w : World) (hb : BookR l p L w) (hn : n.size ≤ maxLen) :
    Calls Try.prog 35 #[ptrB p, .string n] w fun e w' => e = .returned (.int .i64 (turnE l n true)) ∧ EntPost l p L w (.turn n true) (turnE l n true) w' := by
  have c1 := turn_any l p L n true w hb hn
  generalize turnE l n true = r at c1 ⊢
  have Hc := hide c1
  clear c1 hb
  unfold ptrB at *
  go_enter Try.func35, Try.ntmps35
  go_wp2_with fail
  refine Hc.out.mono ?_
  rintro e w2 ⟨rfl, hp⟩
  have HP := hide hp
  clear hp
  go_wp2
  go_ret
  exact ⟨rfl, HP.out⟩
set_option maxRecDepth 100000 in
theorem Reinstate_any (l : List Ent) (p : Nat) (L : Lay) (n : ByteArray) (w : World) (hb : BookR l p L w) (hn : n.size ≤ maxLen) :
    Calls Try.prog 36 #[ptrB p, .string n] w fun e w' => e = .returned (.int .i64 (turnE l n false)) ∧ EntPost l p L w (.turn n false) (turnE l n false) w' := by
  have c1 := turn_any l p L n false w hb hn
  generalize turnE l n false = r at c1 ⊢
  have Hc := hide c1
  clear c1 hb
  unfold ptrB at *
  go_enter Try.func36, Try.ntmps36
  go_wp2_with fail
  refine Hc.out.mono ?_
  rintro e w2 ⟨rfl, hp⟩
  have HP := hide hp
  clear hp
  go_wp2
  go_ret
  exact ⟨rfl, HP.out⟩
set_option maxRecDepth 100000 in
theorem turnC_any (l : List Ent) (p : Nat) (L : Lay) (a b : Nat) (n : ByteArray) (o : Bool) (w : World) (hb : BookR l p L w) (hn : n.size ≤ maxLen) (h1 : Blk w a 9 #[.string n]) (h2 : Blk w b 4 #[.bool o]) :
    Calls Try.prog 91 #[ptrB p, ptrB a, ptrB b] w fun e w' => (∃ v, e = .returned v) ∧ EntPost l p L w (.turn n o) (turnE l n o) w' := by
  have c1 := turn_any l p L n o w hb hn
  have a0 : w.cell? ⟨a, 0, none⟩ = some (.string n) := h1.c 0 rfl
  have b0 : w.cell? ⟨b, 0, none⟩ = some (.bool o) := h2.c 0 rfl
  have lta := h1.lt
  have ltb := h2.lt
  generalize turnE l n o = r at c1 ⊢
  have Hc := hide c1
  clear c1 hb h1 h2
  unfold ptrB at *
  go_enter Try.func91, Try.ntmps91
  go_wp2_with fail
  refine Hc.out.mono ?_
  rintro e w2 ⟨rfl, hp⟩
  have HP := hide hp
  clear hp
  go_wp2
  refine bodyPost_end (results_none rfl _ _ _) rfl ⟨⟨_, rfl⟩, HP.out⟩
/-- The function of an entry, and what it has captured. -/
def entId : Ent → Nat
  | .radar _ _ => 61
  | .define _ => 65
  | .test _ => 66
  | .turn _ _ => 91
theorem entF_id (x : Ent) (c : List Nat) : entF x c = .func (.func (entId x)) #[] ⟨c.map ptrB⟩ := by cases x <;> rfl
theorem entC_any (l : List Ent) (p : Nat) (L : Lay) (x : Ent) (c : List Nat) (w : World) (hb : BookR l p L w) (hc : capOk w x c) (hs : sizeOk x) :
    Calls Try.prog (entId x) (#[ptrB p] ++ (⟨c.map ptrB⟩ : Array Value)) w fun e w' => (∃ v, e = .returned v) ∧ EntPost l p L w x (entE l x) w' := by
  cases x with
  | radar n d =>
    obtain ⟨a, b, rfl, h1, h2⟩ := hc
    exact radarC_any l p L a b n d w hb hs h1 h2
  | define s =>
    obtain ⟨a, rfl, h1⟩ := hc
    exact defineC_any l p L a s w hb hs.1 hs.2 h1
  | test t =>
    obtain ⟨a, rfl, h1⟩ := hc
    exact testC_any l p L a t w hb hs.1 hs.2 h1
  | turn n o =>
    obtain ⟨a, b, rfl, h1, h2⟩ := hc
    exact turnC_any l p L a b n o w hb hs h1 h2
theorem ent_enters (x : Ent) : ∀ args w, (callFunc (entId x) args).run Try.prog w = .ok (.enter (entId x) args) w := by
  cases x with
  | radar n d => exact enters_of Try.func61 (by kernel_rfl) rfl
  | define s => exact enters_of Try.func65 (by kernel_rfl) rfl
  | test t => exact enters_of Try.func66 (by kernel_rfl) rfl
  | turn n o => exact enters_of Try.func91 (by kernel_rfl) rfl
end Go.Proofs.Ytiggefmckomilaa
namespace Go.Proofs.Ytiggefmckomilaa
open Go Go.RowKit

def BackPost (l : List Ent) (i : Int) (w : World) (e : Ending) (w' : World) : Prop :=
  if 0 ≤ i ∧ i ≤ (l.length : Int) then ∃ q, e = .returned (.tuple #[ptrB q, .int .i64 0]) ∧ BookN (l.drop (l.length - i.toNat)) q w w'
  else e = .returned (.tuple #[.pointer none, .int .i64 3]) ∧ Below w.heap.size w w'
set_option maxHeartbeats 2000000 in
set_option maxRecDepth 100000 in
theorem Back_any (l : List Ent) (p : Nat) (L : Lay) (i : Int) (w : World) (hb : BookR l p L w) :
    Calls Try.prog 38 #[ptrB p, .int .i64 i] w (BackPost l i w) := by
  obtain ⟨Ao, co, At, ct, Ae, ce, e1, e2, e3, hk⟩ := hb.cells
  have hwi := fun W => within_any i 0 (l.length : Int) W
  have hnw := fun W => New_any W
  obtain ⟨x0, x1, x2, x3, x4, x5, x6, x7⟩ := hk.c8
  have ltk := hk.lt
  unfold ptrB
  have hk0 := hk
  have Hwi := hide hwi
  have Hnw := hide hnw
  have Hk := hide hk
  clear hwi hnw hk
  cases hi : inR i 0 (l.length : Int) with
  | false =>
    rw [hi] at Hwi
    have hP : ∀ e w', (e = .returned (.tuple #[.pointer none, .int .i64 3]) ∧ Below w.heap.size w w') → BackPost l i w e w' := fun e w' h => by
      unfold BackPost
      rw [if_neg (fun h => by rw [inR_iff.2 h] at hi; cases hi)]
      exact h
    go_enter Try.func38, Try.ntmps38
    go_wp2_with fail
    refine (Hwi.out _).mono ?_
    rintro e w' ⟨rfl, rfl⟩
    go_wp2
    exact bodyPost_ret (v := .tuple #[.pointer none, .int .i64 3]) (by simp [results, Try.results38, go_sem]) rfl (hP _ _ ⟨rfl, Below.refl _ _⟩)
  | true =>
    rw [hi] at Hwi
    obtain ⟨i0, i1⟩ := inR_iff.1 hi
    go_enter Try.func38, Try.ntmps38
    go_wp2_with fail
    refine (Hwi.out _).mono ?_
    rintro e w' ⟨rfl, rfl⟩
    go_wp2_with fail
    refine (Hnw.out _).mono ?_
    rintro e w1 hN
    obtain ⟨q, rfl, hq⟩ := BookN.new hN
    unfold ptrB
    have hk1 := blk_later hk0 hq.below
    clear x0 x1 x2 x3 x4 x5 x6 x7 ltk
    obtain ⟨x0, x1, x2, x3, x4, x5, x6, x7⟩ := hk1.c8
    have ltk := hk1.lt
    obtain ⟨m, hm⟩ : ∃ m : Nat, i = (m : Int) := ⟨i.toNat, by omega⟩
    subst hm
    have hml : m ≤ l.length := by omega
    have hen := hb.entries
    rw [e3] at hen
    by_cases hl0 : l.length = 0
    · have hm0 : m = 0 := by omega
      subst hm0
      have hl : l = [] := List.length_eq_zero_iff.1 hl0
      have hR : BackPost l ((0 : Nat) : Int) w (.returned (.tuple #[.pointer (some ⟨q, 0, none⟩), .int .i64 0])) w1 := by
        unfold BackPost
        rw [if_pos ⟨i0, i1⟩]
        exact ⟨q, rfl, by rw [hl]; exact hq⟩
      have HR := hide hR
      rw [hl0] at x7 hen
      clear hR hq
      rcases hen.2 with ⟨hv, -⟩ | ⟨g, cap, cur, hv, -, hg, -, hcap, -⟩
      · injection hv with a1 a2 a3
        subst a1
        subst a3
        go_wp2_with fail
        clear x0 x1 x2 x3 x4 x5 x6 x7 ltk
        go_loopw [36] (fun i wr => i = .int .i64 0 ∧ wr = w1) (fun _ _ => 0)
        case atStart => exact ⟨rfl, rfl⟩
        case round =>
          obtain ⟨rfl, rfl⟩ := hrel
          go_wp2
          exact bodyPost_ret (v := .tuple #[.pointer (some ⟨q, 0, none⟩), .int .i64 0]) (by simp [results, Try.results38, go_sem]) rfl HR.out
      · injection hv with a1 a2 a3
        subst a1
        subst a3
        go_wp2_with fail
        clear x0 x1 x2 x3 x4 x5 x6 x7 ltk
        go_loopw [36] (fun i wr => i = .int .i64 0 ∧ wr = w1) (fun _ _ => 0)
        case atStart => exact ⟨rfl, rfl⟩
        case round =>
          obtain ⟨rfl, rfl⟩ := hrel
          go_wp2
          exact bodyPost_ret (v := .tuple #[.pointer (some ⟨q, 0, none⟩), .int .i64 0]) (by simp [results, Try.results38, go_sem]) rfl HR.out
    · obtain ⟨bo, cur, rfl, -, hbl, hz1, hz2, hcur⟩ := row_blk hen (by omega)
      have hmc : m ≤ ce := by omega
      have HQ := hide hq
      have Hhk1 := hide hk1
      clear hq hk1
      go_wp2_with fail
      clear x0 x1 x2 x3 x4 x5 x6 x7 ltk
      go_loopw [36] (fun i wr => ∃ k : Nat, k ≤ m ∧ i = .int .i64 k ∧ BookN (l.drop (l.length - k)) q w wr) (fun i _ => m - (intOf i).toNat)
      case atStart =>
        exact ⟨0, Nat.zero_le _, rfl, by rw [List.drop_of_length_le (by omega)]; exact HQ.out⟩
      case round =>
        obtain ⟨k, hkm, rfl, hN1⟩ := hrel
        have HN := hide hN1
        clear hN1
        by_cases hlt : k < m
        · obtain ⟨x, c, k1, k2, k3, k4, k5⟩ := ent_at hb.good hb.caps k (by omega)
          have hBw := HN.out.below
          obtain ⟨L2, hb2, hB2, hL2⟩ := HN.out
          have c0 := hbl.c k (hcur k _ k1)
          rw [entF_id, ← hBw.cell hbl.lt] at c0
          have hlb : bo < wr.heap.size := Nat.lt_of_lt_of_le hbl.lt hBw.size
          have hkm' : (k : Int) < m := by omega
          have hkb : k + 1 ≤ 9223372036854775807 := by unfold maxLen at hz2; omega
          have hE := entC_any _ q L2 x c wr hb2 (k2.stab fun z hz => hBw.block z (k2.lt z hz)) (size_of k3 k4)
          have e9 : (#[ptrB q] ++ (⟨c.map ptrB⟩ : Array Value)) = (Value.pointer (some ⟨q, 0, none⟩) :: c.map ptrB).toArray := by simp [ptrB]
          rw [e9] at hE
          have hen9 := ent_enters x
          have HE := hide hE
          clear hE e9
          have hz : entE (l.drop (l.length - k)) x = 0 := by
            unfold okEnt at k4
            cases x <;> simpa [entE] using k4
          rw [hz] at HE
          have HB2 := hide (And.intro hB2 hL2)
          have H5 := hide k5
          clear hz hB2 hL2 hb2 k1 k2 k3 k4 k5
          generalize hid : entId x = fi at *
          clear hid
          go_wp2_with fail
          refine HE.out.mono ?_
          rintro e w2 ⟨⟨v, rfl⟩, hp⟩
          have hN2 := BookN.step HB2.out.1 HB2.out.2 hp
          rw [if_pos rfl, ← H5.out] at hN2
          have HN2 := hide hN2
          clear hN2 hp HN
          go_wp2_with fail
          go_roundw
          case rel => exact ⟨k + 1, by omega, by go_num, HN2.out⟩
          case measure => simp [intOf] <;> omega
        · obtain rfl : k = m := by omega
          go_wp2
          refine bodyPost_ret (v := .tuple #[.pointer (some ⟨q, 0, none⟩), .int .i64 0]) (by simp [results, Try.results38, go_sem]) rfl ?_
          unfold BackPost
          rw [if_pos ⟨i0, i1⟩]
          exact ⟨q, rfl, HN.out⟩
set_option maxRecDepth 100000 in
theorem Copy_any (l : List Ent) (p : Nat) (L : Lay) (w : World) (hb : BookR l p L w) :
    Calls Try.prog 37 #[ptrB p] w fun e w' => ∃ q, e = .returned (ptrB q) ∧ BookN l q w w' := by
  obtain ⟨Ao, co, At, ct, Ae, ce, e1, e2, e3, hk⟩ := hb.cells
  have hB : Calls Try.prog 38 #[ptrB p, .int .i64 (l.length : Int)] w fun e w' => ∃ q, e = .returned (.tuple #[ptrB q, .int .i64 0]) ∧ BookN l q w w' := by
    refine (Back_any l p L (l.length : Int) w hb).mono fun e w' h => ?_
    unfold BackPost at h
    rw [if_pos ⟨by omega, by omega⟩] at h
    simpa using h
  obtain ⟨x0, x1, x2, x3, x4, x5, x6, x7⟩ := hk.c8
  have ltk := hk.lt
  have HB := hide hB
  clear hB
  unfold ptrB at HB ⊢
  go_enter Try.func37, Try.ntmps37
  go_wp2_with fail
  refine HB.out.mono ?_
  rintro e w2 ⟨q, rfl, hq⟩
  have HQ := hide hq
  clear hq
  go_wp2
  exact bodyPost_ret (v := .pointer (some ⟨q, 0, none⟩)) (by simp [results, Try.results37, go_sem]) rfl ⟨q, rfl, HQ.out⟩
end Go.Proofs.Ytiggefmckomilaa
namespace Go.Proofs.Ytiggefmckomilaa
open Go Go.RowKit

theorem Step.base {p : Nat} {L L' : Lay} {w W w' : World} (h : Below w.heap.size w W) (hs : Step p L L' W w') : Step p L L' w w' :=
  have hsz := h.size
  ⟨⟨hs.kept.os.trans h.os, hs.kept.tape.trans h.tape, hs.kept.output.trans h.output, Nat.le_trans hsz hs.kept.size, fun k hk => (hs.kept.block k ⟨by omega, hk.2⟩).trans (h.block k hk.1)⟩,
   fun k hk => (hs.new k hk).imp id fun h => by omega⟩
end Go.Proofs.Ytiggefmckomilaa
namespace Go.Proofs.Ytiggefmckomilaa
open Go Go.RowKit
section
variable {P : Program} {md : Region.Mode} {ops : Array Oper} {S : Nat → Prop} {E : Nat → Bool} {w0 : World}
end
end Go.Proofs.Ytiggefmckomilaa
namespace Go.Proofs.Ytiggefmckomilaa
open Go Go.RowKit

section
variable {P : Program} {md : Region.Mode} {ops : Array Oper} {S : Nat → Prop} {E : Nat → Bool} {w0 : World}
end
section
variable {P : Program} {md : Region.Mode} {ops : Array Oper} {S : Nat → Prop} {E : Nat → Bool}
end
end Go.Proofs.Ytiggefmckomilaa
