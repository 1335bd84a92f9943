/-
  Arguments opened: structs and slices of structs whose cells are all integers, over any program; and what is read again behind a call that leaves old memory alone.
  The arguments of the laws about rain, opened: spans, points, models (of a seat without readings).
-/
import Derived.Test.YtepgpihobmjbdaaLoopsOf
import Derived.Deep.Slices
import Derived.ProofKit
import Derived.ChangeOld
import Derived.Test.YtepgpihobmjbdaaProg
import Derived.Test.YtepgpihobmjbdaaBeam2Math
set_option linter.unusedSimpArgs false
set_option linter.unusedVariables false
section
namespace Go.Proofs.Ytepgpihobmjbdaa
open Go Go.RowKit Go.ChangeShapes Go.WideShapes Go.Deep
section
variable {H : Type} {enc : TypeId × Value → H} {P : Program} {w : World} {base : Nat} {spare : Nat → Bool} {held : Bool}
def AllInts (P : Program) (t : TypeId) (k : IntKind) (size : Nat) : Prop :=
 P.cellsOf t = size ∧ ∀ (H : Type) (enc : TypeId × Value → H) (w : World) (base : Nat) (spare : Nat → Bool) (held : Bool) (n : Nat) (cs : List Value) (y : DataW H × List MemPlace), DataW.trod enc P w base spare held n t cs = some y → ∃ zs : List Int, cs = zs.map (Value.int k) ∧ zs.length = size ∧ ∀ z ∈ zs, (Lit.int k z).wf = true
theorem allInts_int {t : TypeId} {k : IntKind} (ht : P.underlying t = some (.int k)) (hc : P.cellsOf t = 1) : AllInts P t k 1 :=
 ⟨hc, fun H enc w base spare held n cs y h => by
  obtain ⟨a, e0, _, wa⟩ := DataW.trod_int ht h
  exact ⟨[a], by simpa using e0, rfl, by simpa using wa⟩⟩
theorem allInts_struct {t : TypeId} {k : IntKind} {fs : Array Field} {sz : Nat} (ht : P.underlying t = some (.struct fs)) (hc : P.cellsOf t = sz)
  (hf : ∀ c, c < sz → ∃ (i : Nat) (f : Field) (size : Nat), fs[i]? = some f ∧ AllInts P f.type k size ∧ f.offset ≤ c ∧ c < f.offset + size) : AllInts P t k sz := by
 refine ⟨hc, fun H enc w base spare held n cs y h => ?_⟩
 obtain ⟨xs, m, _, _, hlen, hxs, hg⟩ := DataW.trod_struct ht h
 rw [hc] at hlen
 have each : ∀ c, c < cs.length → ∃ z : Int, cs[c]? = some (.int k z) ∧ (Lit.int k z).wf = true := fun c hcl => by
  obtain ⟨i, f, size, hi, ⟨hcf, ha⟩, ho, hlt⟩ := hf c (by omega)
  have h1 := hg i f hi
  have hil : i < xs.length := by rw [hxs]; exact (Array.getElem?_eq_some_iff.1 hi).1
  rw [List.getElem?_eq_getElem hil] at h1
  obtain ⟨zs, hz, hzl, hwf⟩ := ha H enc w base spare held _ _ _ h1
  rw [hcf] at hz
  have h2 : ((cs.drop f.offset).take size)[c - f.offset]? = (zs.map (Value.int k))[c - f.offset]? := by rw [hz]
  rw [List.getElem?_take, if_pos (by omega), List.getElem?_drop, show f.offset + (c - f.offset) = c by omega] at h2
  rw [h2, List.getElem?_map]
  have : c - f.offset < zs.length := by omega
  rw [List.getElem?_eq_getElem this]
  exact ⟨_, rfl, hwf _ (List.getElem_mem this)⟩
 have build : ∀ l : List Value, (∀ c, c < l.length → ∃ z : Int, l[c]? = some (.int k z) ∧ (Lit.int k z).wf = true) → ∃ zs : List Int, l = zs.map (Value.int k) ∧ ∀ z ∈ zs, (Lit.int k z).wf = true := by
  intro l
  induction l with
  | nil => intro _; exact ⟨[], rfl, by simp⟩
  | cons v r ih =>
   intro hl
   obtain ⟨z, hz, hw⟩ := hl 0 (by simp)
   obtain ⟨zs, hzs, hws⟩ := ih (fun c hcl => by have := hl (c + 1) (by simpa using hcl); simpa using this)
   refine ⟨z :: zs, ?_, ?_⟩
   · simp at hz; rw [hz, hzs]; rfl
   ·
    intro x hx
    rcases List.mem_cons.1 hx with rfl | hx
    · exact hw
    · exact hws x hx
 obtain ⟨zs, hzs, hws⟩ := build cs each
 exact ⟨zs, hzs, by rw [← hlen, hzs]; simp, hws⟩
theorem read_slice2 {t e : TypeId} {k : IntKind} {size : Nat} (ht : P.underlying t = some (.slice e)) (he : AllInts P e k size) (hs : 0 < size) {n : Nat} {cs : List Value} {y : DataW H × List MemPlace} (h : DataW.trod enc P w base spare held n t cs = some y) :
  ∃ (A : Option Addr) (len cap : Nat) (zs : List Int), cs = [.slice A len cap] ∧ zs.length = len * size ∧ len ≤ cap ∧ cap ≤ maxLen ∧ Ints w w.heap.size k A zs ∧ ∀ z ∈ zs, (Lit.int k z).wf = true := by
 rcases open_slice ht h with ⟨hcs, _⟩ | ⟨a, len, cap, m, n', D, Pl, hcs, _, hl, hm, hmm, _, hi⟩
 · exact ⟨none, 0, 0, [], hcs, by simp, Nat.le_refl _, by simp [maxLen], Ints.nil_ _ _ _ _, by simp⟩
 ·
  have hlm : len ≤ m := by rw [hmm]; split <;> omega
  have each : ∀ i, i < len → ∃ zs : List Int, zs.length = size ∧ (∀ j, j < size → w.cell? (a.add (i * size + j)) = some (.int k (zs.getD j 0))) ∧ ∀ z ∈ zs, (Lit.int k z).wf = true := fun i hil => by
   obtain ⟨cs', hc, ht'⟩ := hi i (by omega)
   rw [he.1] at hc
   obtain ⟨zs, hz, hzl, hwf⟩ := he.2 H enc w base spare held _ _ _ ht'
   obtain ⟨_, _, hat⟩ := World.cells?_some hc
   refine ⟨zs, hzl, fun j hj => ?_, hwf⟩
   rw [← Go.Deep.add_add, hat j hj, hz]
   simp [List.getD, show j < zs.length by omega]
  obtain ⟨f, hf⟩ := choose_lt each
  refine ⟨some a, len, cap, (List.range len).flatMap f, hcs, ?_, hl, hm, ?_, ?_⟩
  ·
   have : ∀ q, q ≤ len → ((List.range q).flatMap f).length = q * size := by
    intro q
    induction q with
    | zero => intro _; simp
    | succ q ih => intro hq; rw [List.range_succ, List.flatMap_append, List.length_append, ih (by omega)]; simp [(hf q (by omega)).1]; rw [Nat.add_mul]; omega
   exact this len (Nat.le_refl _)
  ·
   have cells : ∀ q, q ≤ len → ∀ j, j < q * size → w.cell? (a.add j) = some (.int k (((List.range q).flatMap f).getD j 0)) ∧ ((List.range q).flatMap f).length = q * size := by
    intro q
    induction q with
    | zero => intro _ j hj; simp at hj
    | succ q ih =>
     intro hq j hj
     have hl1 : ((List.range q).flatMap f).length = q * size := by
      rcases Nat.eq_zero_or_pos (q * size) with h0 | h0
      ·
       rcases Nat.mul_eq_zero.1 h0 with h1 | h1
       · subst h1; simp
       · omega
      · exact (ih (by omega) 0 h0).2
     have hl2 := (hf q (by omega)).1
     rw [List.range_succ, List.flatMap_append]
     simp only [List.flatMap_cons, List.flatMap_nil, List.append_nil]
     refine ⟨?_, by rw [List.length_append, hl1, hl2, Nat.add_mul]; omega⟩
     rw [Nat.add_mul, Nat.one_mul] at hj
     rcases Nat.lt_or_ge j (q * size) with h1 | h1
     ·
      rw [(ih (by omega) j h1).1]
      simp [List.getD, List.getElem?_append_left (show j < ((List.range q).flatMap f).length by omega)]
     ·
      have := (hf q (by omega)).2.1 (j - q * size) (by omega)
      rw [show q * size + (j - q * size) = j by omega] at this
      rw [this]
      simp [List.getD, List.getElem?_append_right (show ((List.range q).flatMap f).length ≤ j by omega), hl1]
   intro hpos
   have hL : ((List.range len).flatMap f).length = len * size := by
    rcases Nat.eq_zero_or_pos (len * size) with h0 | h0
    ·
     rcases Nat.mul_eq_zero.1 h0 with h1 | h1
     · subst h1; simp
     · omega
    · exact (cells len (Nat.le_refl _) 0 h0).2
   rw [hL] at hpos
   have h0 := (cells len (Nat.le_refl _) 0 hpos).1
   obtain ⟨b, off, spot⟩ := a
   have hspot : spot = none := by
    have := World.cell?_spot h0
    simpa [Addr.add] using this
   subst hspot
   refine ⟨b, off, rfl, World.block_lt_of_cell? w _ (by simpa [Addr.add] using h0), fun j hj => ?_⟩
   rw [hL] at hj
   rw [← Go.WideShapes.add_plain]
   exact (cells len (Nat.le_refl _) j hj).1
  ·
   intro z hz
   obtain ⟨i, hi', hz'⟩ := List.mem_flatMap.1 hz
   exact (hf i (List.mem_range.1 hi')).2.2 z hz'
theorem read_slice {t e : TypeId} {k : IntKind} {size : Nat} (ht : P.underlying t = some (.slice e)) (he : AllInts P e k size) (hs : 0 < size) {n : Nat} {cs : List Value} {y : DataW H × List MemPlace} (h : DataW.trod enc P w base spare held n t cs = some y) :
  ∃ (A : Option Addr) (len cap : Nat) (zs : List Int), cs = [.slice A len cap] ∧ zs.length = len * size ∧ len ≤ maxLen ∧ Ints w w.heap.size k A zs ∧ ∀ z ∈ zs, (Lit.int k z).wf = true := by
 obtain ⟨A, len, cap, zs, h1, h2, h3, h4, h5⟩ := read_slice2 ht he hs h
 exact ⟨A, len, cap, zs, h1, h2, Nat.le_trans h3 h4, h5⟩
theorem open_struct {t : TypeId} {fs : Array Field} {k : IntKind} {size : Nat} {r : Reach} {b0 : Nat} {v : Value} {d : DataW H} {ps : List MemPlace} (ht : P.underlying t = some (.struct fs)) (he : AllInts P t k size) (hv : Value.okWide P w r b0 t v) (h : DataW.Trod enc P w base spare held t v d ps) :
  ∃ zs : List Int, v = .agg (zs.map (Value.int k)).toArray ∧ zs.length = size ∧ ∀ z ∈ zs, (Lit.int k z).wf = true := by
 obtain ⟨cs, rfl, _⟩ := okWide_struct ht hv
 obtain ⟨fuel, hf⟩ := h
 obtain ⟨zs, h1, h2, h3⟩ := he.2 _ _ _ _ _ _ _ _ _ hf
 refine ⟨zs, ?_, h2, h3⟩
 simp only [Value.cells] at h1
 rw [← h1]
theorem trodAll_below {W W' : World} (hl : laidOutB P = true) (hb : Below W.heap.size W W') : ∀ {ts : List TypeId} {vs : List Value} {ds : List (DataW H)} {ps : List MemPlace},
  (ts.all fun t => P.readableRec t && decide (t < P.types.size)) = true → DataW.TrodAll enc P W 0 (fun _ => true) true ts vs ds ps → DataW.TrodAll enc P W' 0 (fun b => decide (b < W.heap.size)) true ts vs ds ps
 | [], [], [], _, _, h => h
 | t :: ts, v :: vs, d :: ds, _, ht, ⟨p, q, h1, h2, e⟩ => by
  simp only [List.all_cons, Bool.and_eq_true, decide_eq_true_eq] at ht
  exact ⟨p, q, Below.trod hl ht.1.1 ht.1.2 h1 hb (by obtain ⟨m, hm⟩ := h1; exact DataW.trod_lt m _ _ _ hm), trodAll_below hl hb ht.2 h2, e⟩
 | [], _ :: _, _, _, _, h => h.elim
 | _ :: _, [], _, _, _, h => h.elim
 | _ :: _, _ :: _, [], _, _, h => h.elim
 | [], [], _ :: _, _, _, h => h.elim
end
end Go.Proofs.Ytepgpihobmjbdaa
end
section
namespace Go.Proofs.Ytepgpihobmjbdaa
open Go Go.RowKit Go.ChangeShapes Go.WideShapes Go.Deep
theorem aiInt : AllInts Try.prog 3 .i64 1 := allInts_int Try.underlying3 (by kernel_rfl)
theorem aiSpan : AllInts Try.prog 24 .i64 2 := allInts_struct Try.underlying24 (by kernel_rfl) (fun c hc => by
 match c, hc with
 | 0, _ => exact ⟨0, _, 1, rfl, aiInt, by simp, by simp⟩
 | 1, _ => exact ⟨1, _, 1, rfl, aiInt, by simp, by simp⟩)
theorem aiPoint : AllInts Try.prog 94 .i64 2 := allInts_struct Try.underlying94 (by kernel_rfl) (fun c hc => by
 match c, hc with
 | 0, _ => exact ⟨0, _, 1, rfl, aiInt, by simp, by simp⟩
 | 1, _ => exact ⟨1, _, 1, rfl, aiInt, by simp, by simp⟩)
theorem unflat2 : ∀ (n : Nat) (zs : List Int), zs.length = n * 2 → ∃ l : List (Int × Int), flat2 l = zs ∧ l.length = n
 | 0, zs, h => ⟨[], by simp at h; rw [h]; rfl, rfl⟩
 | n + 1, zs, h => by
  match zs, h with
  | a :: b :: r, h =>
   obtain ⟨l, h1, h2⟩ := unflat2 n r (by simp at h; omega)
   exact ⟨(a, b) :: l, by simp [flat2, h1], by simp [h2]⟩
  | [_], h => simp at h; omega
  | [], h => simp at h
section
variable {H : Type} {enc : TypeId × Value → H} {w : World} {base : Nat} {spare : Nat → Bool} {held : Bool}
theorem read_points {n : Nat} {cs : List Value} {y : DataW H × List MemPlace} (h : DataW.trod enc Try.prog w base spare held n 22 cs = some y) :
  ∃ (A : Option Addr) (len cap : Nat) (l : List (Int × Int)), cs = [.slice A len cap] ∧ l.length = len ∧ len ≤ maxLen ∧ Ints w w.heap.size .i64 A (flat2 l) := by
 obtain ⟨A, len, cap, zs, h1, h2, h3, h4, _⟩ := read_slice Try.underlying22 aiPoint (by decide) h
 obtain ⟨l, h5, h6⟩ := unflat2 len zs h2
 exact ⟨A, len, cap, l, h1, h6, h3, by rw [h5]; exact h4⟩
theorem read_span {n : Nat} {cs : List Value} {y : DataW H × List MemPlace} (h : DataW.trod enc Try.prog w base spare held n 24 cs = some y) : ∃ a b : Int, cs = [.int .i64 a, .int .i64 b] := by
 obtain ⟨zs, h1, h2, _⟩ := aiSpan.2 _ _ _ _ _ _ _ _ _ h
 match zs, h2 with
 | [a, b], _ => exact ⟨a, b, h1⟩
theorem list1 {α : Type} {l : List α} {n : Nat} (h : l.length = n + 1) : ∃ x r, l = x :: r ∧ r.length = n := by
 cases l with
 | nil => simp at h
 | cons x r => exact ⟨x, r, rfl, by simpa using h⟩
theorem list8 {α : Type} {l : List α} (h : l.length = 8) : ∃ x0 x1 x2 x3 x4 x5 x6 x7, l = [x0, x1, x2, x3, x4, x5, x6, x7] := by
 obtain ⟨x0, l0, rfl, h0⟩ := list1 h
 obtain ⟨x1, l1, rfl, h1⟩ := list1 h0
 obtain ⟨x2, l2, rfl, h2⟩ := list1 h1
 obtain ⟨x3, l3, rfl, h3⟩ := list1 h2
 obtain ⟨x4, l4, rfl, h4⟩ := list1 h3
 obtain ⟨x5, l5, rfl, h5⟩ := list1 h4
 obtain ⟨x6, l6, rfl, h6⟩ := list1 h5
 obtain ⟨x7, l7, rfl, h7⟩ := list1 h6
 obtain rfl := List.eq_nil_of_length_eq_zero h7
 exact ⟨x0, x1, x2, x3, x4, x5, x6, x7, rfl⟩
set_option maxRecDepth 100000 in
theorem open_model {r : Reach} {b0 : Nat} {v : Value} {d : DataW H} {ps : List MemPlace} (hv : Value.okWide Try.prog w r b0 26 v) (h : DataW.Trod enc Try.prog w base spare held 26 v d ps) :
  ∃ (A : Option Addr) (n c : Nat) (l : List (Int × Int)) (A' : Option Addr) (n' c' : Nat) (m : List (Int × Int)) (a0 a1 b0 b1 c0 c1 : Int),
   v = .agg #[.slice A n c, .slice A' n' c', .int .i64 a0, .int .i64 a1, .int .i64 b0, .int .i64 b1, .int .i64 c0, .int .i64 c1] ∧
   l.length = n ∧ n ≤ maxLen ∧ m.length = n' ∧ n' ≤ maxLen ∧ Ints w w.heap.size .i64 A (flat2 l) ∧ Ints w w.heap.size .i64 A' (flat2 m) := by
 obtain ⟨cs, rfl, hsz⟩ := okWide_struct Try.underlying26 hv
 have e8 : Try.prog.cellsOf 26 = 8 := by kernel_rfl
 have e1 : Try.prog.cellsOf 22 = 1 := by kernel_rfl
 have e2 : Try.prog.cellsOf 24 = 2 := by kernel_rfl
 obtain ⟨fuel, hf⟩ := h
 obtain ⟨xs, n, _, _, hl, hxl, hg⟩ := DataW.trod_struct Try.underlying26 hf
 obtain ⟨q0, q1, q2, q3, q4, q5, q6, q7, hq⟩ := list8 (l := cs.toList) (by simpa using hsz.trans e8)
 have hcs : cs = #[q0, q1, q2, q3, q4, q5, q6, q7] := by rw [← Array.toArray_toList (xs := cs), hq]
 subst hcs
 have g0 := hg 0 _ rfl
 have g1 := hg 1 _ rfl
 have g2 := hg 2 _ rfl
 have g3 := hg 3 _ rfl
 have g4 := hg 4 _ rfl
 simp only [Value.cells] at g0 g1 g2 g3 g4
 have ex : ∀ i, i < 5 → ∃ y, xs[i]? = some y := fun i hi => ⟨xs[i]'(by rw [hxl]; exact hi), List.getElem?_eq_getElem _⟩
 obtain ⟨y0, h0⟩ := ex 0 (by omega)
 obtain ⟨y1, h1⟩ := ex 1 (by omega)
 obtain ⟨y2, h2⟩ := ex 2 (by omega)
 obtain ⟨y3, h3⟩ := ex 3 (by omega)
 obtain ⟨y4, h4⟩ := ex 4 (by omega)
 rw [h0] at g0
 rw [h1] at g1
 rw [h2] at g2
 rw [h3] at g3
 rw [h4] at g4
 obtain ⟨A, len, cap, l, k0, k1, k2, k3⟩ := read_points g0
 obtain ⟨A', len', cap', m, j0, j1, j2, j3⟩ := read_points g1
 obtain ⟨a0, a1, s0⟩ := read_span g2
 obtain ⟨b0, b1, s1⟩ := read_span g3
 obtain ⟨c0, c1, s2⟩ := read_span g4
 simp [e1] at k0 j0
 simp [e2] at s0 s1 s2
 obtain rfl := k0
 obtain rfl := j0
 obtain ⟨rfl, rfl⟩ := s0
 obtain ⟨rfl, rfl⟩ := s1
 obtain ⟨rfl, rfl⟩ := s2
 exact ⟨A, len, cap, l, A', len', cap', m, a0, a1, b0, b1, c0, c1, rfl, k1, k2, j1, j2, k3, j3⟩
set_option maxRecDepth 100000 in
theorem open_span {r : Reach} {b0 : Nat} {v : Value} {d : DataW H} {ps : List MemPlace} (hv : Value.okWide Try.prog w r b0 24 v) (h : DataW.Trod enc Try.prog w base spare held 24 v d ps) :
  ∃ a b : Int, v = .agg #[.int .i64 a, .int .i64 b] := by
 obtain ⟨zs, h1, h2, _⟩ := open_struct Try.underlying24 aiSpan hv h
 match zs, h2 with
 | [a, b], _ => exact ⟨a, b, h1⟩
end
end Go.Proofs.Ytepgpihobmjbdaa
end
