/-
  The arguments of the laws about beams, opened: sites, grids, fields, spans.
-/
import Derived.Test.YthhhecidogcmjaaOpenB
import Derived.Test.YthhhecidogcmjaaChecks
import Derived.Test.YthhhecidogcmjaaFields
namespace Go.Proofs.Ythhhecidogcmjaa
open Go Go.RowKit Go.ChangeShapes Go.WideShapes Go.Deep

section
variable {H : Type} {enc : TypeId × Value → H} {w : World} {base : Nat} {spare : Nat → Bool} {held : Bool}
theorem aiInt : AllInts Try.prog 3 .i64 1 := allInts_int Try.underlying3 (by kernel_rfl)
theorem aiSpan : AllInts Try.prog 47 .i64 2 := allInts_struct Try.underlying47 (by kernel_rfl) (fun c hc => by
  match c, hc with
  | 0, _ => exact ⟨0, _, 1, rfl, aiInt, by simp, by simp⟩
  | 1, _ => exact ⟨1, _, 1, rfl, aiInt, by simp, by simp⟩)
theorem aiGrid : AllInts Try.prog 35 .i64 5 := allInts_struct Try.underlying35 (by kernel_rfl) (fun c hc => by
  match c, hc with
  | 0, _ => exact ⟨0, _, 1, rfl, aiInt, by simp, by simp⟩
  | 1, _ => exact ⟨1, _, 1, rfl, aiInt, by simp, by simp⟩
  | 2, _ => exact ⟨2, _, 1, rfl, aiInt, by simp, by simp⟩
  | 3, _ => exact ⟨3, _, 1, rfl, aiInt, by simp, by simp⟩
  | 4, _ => exact ⟨4, _, 1, rfl, aiInt, by simp, by simp⟩)
theorem list1 {α : Type} {l : List α} {n : Nat} (h : l.length = n + 1) : ∃ x r, l = x :: r ∧ r.length = n := by
  cases l with
  | nil => simp at h
  | cons x r => exact ⟨x, r, rfl, by simpa using h⟩
theorem list5 {α : Type} {l : List α} (h : l.length = 5) : ∃ x0 x1 x2 x3 x4, l = [x0, x1, x2, x3, x4] := by
  obtain ⟨x0, l0, rfl, h0⟩ := list1 h
  obtain ⟨x1, l1, rfl, h1⟩ := list1 h0
  obtain ⟨x2, l2, rfl, h2⟩ := list1 h1
  obtain ⟨x3, l3, rfl, h3⟩ := list1 h2
  obtain ⟨x4, l4, rfl, h4⟩ := list1 h3
  obtain rfl := List.eq_nil_of_length_eq_zero h4
  exact ⟨x0, x1, x2, x3, x4, rfl⟩
theorem list6 {α : Type} {l : List α} (h : l.length = 6) : ∃ x0 x1 x2 x3 x4 x5, l = [x0, x1, x2, x3, x4, x5] := by
  obtain ⟨x0, l0, rfl, h0⟩ := list1 h
  obtain ⟨x1, l1, rfl, h1⟩ := list1 h0
  obtain ⟨x2, l2, rfl, h2⟩ := list1 h1
  obtain ⟨x3, l3, rfl, h3⟩ := list1 h2
  obtain ⟨x4, l4, rfl, h4⟩ := list1 h3
  obtain ⟨x5, l5, rfl, h5⟩ := list1 h4
  obtain rfl := List.eq_nil_of_length_eq_zero h5
  exact ⟨x0, x1, x2, x3, x4, x5, rfl⟩
theorem list8 {α : Type} {l : List α} (h : l.length = 8) : ∃ x0 x1 x2 x3 x4 x5 x6 x7, l = [x0, x1, x2, x3, x4, x5, x6, x7] := by
  obtain ⟨x0, l0, rfl, h0⟩ := list1 h
  obtain ⟨x1, l1, rfl, h1⟩ := list1 h0
  obtain ⟨x2, l2, rfl, h2⟩ := list1 h1
  obtain ⟨x3, l3, rfl, h3⟩ := list1 h2
  obtain ⟨x4, l4, rfl, h4⟩ := list1 h3
  obtain ⟨x5, l5, rfl, h5⟩ := list1 h4
  obtain ⟨x6, l6, rfl, h6⟩ := list1 h5
  obtain ⟨x7, l7, rfl, h7⟩ := list1 h6
  obtain rfl := List.eq_nil_of_length_eq_zero h7
  exact ⟨x0, x1, x2, x3, x4, x5, x6, x7, rfl⟩
theorem unflat2 : ∀ (n : Nat) (zs : List Int), zs.length = n * 2 → ∃ l : List (Int × Int), flat2 l = zs ∧ l.length = n
  | 0, zs, h => ⟨[], by have := List.eq_nil_of_length_eq_zero (l := zs) (by omega); subst this; rfl, rfl⟩
  | n + 1, zs, h => by
    match zs, h with
    | a :: b :: r, h =>
      obtain ⟨l, h1, h2⟩ := unflat2 n r (by simp at h; omega)
      exact ⟨(a, b) :: l, by simp [flat2, h1], by simp [h2]⟩
    | [_], h => simp at h; omega
    | [], h => simp at h
set_option maxRecDepth 100000 in
theorem open_site {r : Reach} {b0 : Nat} {v : Value} {d : DataW H} {ps : List MemPlace} (hv : Value.okWide Try.prog w r b0 33 v) (h : DataW.Trod enc Try.prog w base spare held 33 v d ps) :
    ∃ (s : ByteArray) (a1 a2 a3 a4 a5 a6 a7 : Int), v = siteV s a1 a2 a3 a4 a5 a6 a7 ∧ s.size ≤ maxLen ∧ (Lit.int .i64 a1).wf = true ∧ (Lit.int .i64 a2).wf = true ∧ (Lit.int .i64 a3).wf = true ∧ (Lit.int .i64 a4).wf = true ∧ (Lit.int .i64 a5).wf = true ∧ (Lit.int .i64 a6).wf = true ∧ (Lit.int .i64 a7).wf = true := by
  obtain ⟨cs, rfl, hsz⟩ := okWide_struct Try.underlying33 hv
  have e8 : Try.prog.cellsOf 33 = 8 := by kernel_rfl
  have e1 : Try.prog.cellsOf 3 = 1 := by kernel_rfl
  have e0 : Try.prog.cellsOf 9 = 1 := by kernel_rfl
  obtain ⟨fuel, hf⟩ := h
  obtain ⟨xs, n, _, _, hl, hxl, hg⟩ := DataW.trod_struct Try.underlying33 hf
  obtain ⟨q0, q1, q2, q3, q4, q5, q6, q7, hq⟩ := list8 (l := cs.toList) (by simpa using hsz.trans e8)
  have hcs : cs = #[q0, q1, q2, q3, q4, q5, q6, q7] := by rw [← Array.toArray_toList (xs := cs), hq]
  subst hcs
  have ex : ∀ i, i < 8 → ∃ y, xs[i]? = some y := fun i hi => ⟨xs[i]'(by rw [hxl]; exact hi), List.getElem?_eq_getElem _⟩
  have g0 := hg 0 _ rfl
  obtain ⟨y0, h0⟩ := ex 0 (by omega)
  rw [h0] at g0
  simp only [Value.cells] at g0
  have g1 := hg 1 _ rfl
  obtain ⟨y1, h1⟩ := ex 1 (by omega)
  rw [h1] at g1
  simp only [Value.cells] at g1
  have g2 := hg 2 _ rfl
  obtain ⟨y2, h2⟩ := ex 2 (by omega)
  rw [h2] at g2
  simp only [Value.cells] at g2
  have g3 := hg 3 _ rfl
  obtain ⟨y3, h3⟩ := ex 3 (by omega)
  rw [h3] at g3
  simp only [Value.cells] at g3
  have g4 := hg 4 _ rfl
  obtain ⟨y4, h4⟩ := ex 4 (by omega)
  rw [h4] at g4
  simp only [Value.cells] at g4
  have g5 := hg 5 _ rfl
  obtain ⟨y5, h5⟩ := ex 5 (by omega)
  rw [h5] at g5
  simp only [Value.cells] at g5
  have g6 := hg 6 _ rfl
  obtain ⟨y6, h6⟩ := ex 6 (by omega)
  rw [h6] at g6
  simp only [Value.cells] at g6
  have g7 := hg 7 _ rfl
  obtain ⟨y7, h7⟩ := ex 7 (by omega)
  rw [h7] at g7
  simp only [Value.cells] at g7
  obtain ⟨s, k0, _, ws⟩ := DataW.trod_string Try.underlying9 g0
  obtain ⟨a1, k1, _, w1⟩ := DataW.trod_int Try.underlying3 g1
  obtain ⟨a2, k2, _, w2⟩ := DataW.trod_int Try.underlying3 g2
  obtain ⟨a3, k3, _, w3⟩ := DataW.trod_int Try.underlying3 g3
  obtain ⟨a4, k4, _, w4⟩ := DataW.trod_int Try.underlying3 g4
  obtain ⟨a5, k5, _, w5⟩ := DataW.trod_int Try.underlying3 g5
  obtain ⟨a6, k6, _, w6⟩ := DataW.trod_int Try.underlying3 g6
  obtain ⟨a7, k7, _, w7⟩ := DataW.trod_int Try.underlying3 g7
  simp [e0] at k0
  simp [e1] at k1
  simp [e1] at k2
  simp [e1] at k3
  simp [e1] at k4
  simp [e1] at k5
  simp [e1] at k6
  simp [e1] at k7
  subst k0 k1 k2 k3 k4 k5 k6 k7
  exact ⟨s, a1, a2, a3, a4, a5, a6, a7, rfl, ws, w1, w2, w3, w4, w5, w6, w7⟩
set_option maxRecDepth 100000 in
theorem open_field {r : Reach} {b0 : Nat} {v : Value} {d : DataW H} {ps : List MemPlace} (hv : Value.okWide Try.prog w r b0 38 v) (h : DataW.Trod enc Try.prog w base spare held 38 v d ps) :
    ∃ (a0 a1 a2 a3 a4 : Int) (A : Option Addr) (n c : Nat) (l : List (Int × Int)), v = fieldV a0 a1 a2 a3 a4 A n c ∧ l.length = n ∧ n ≤ maxLen ∧ Ints w w.heap.size .i64 A (flat2 l) ∧ (Lit.int .i64 a0).wf = true ∧ (Lit.int .i64 a1).wf = true ∧ (Lit.int .i64 a2).wf = true ∧ (Lit.int .i64 a3).wf = true ∧ (Lit.int .i64 a4).wf = true ∧ (∀ z ∈ flat2 l, (Lit.int .i64 z).wf = true) := by
  obtain ⟨cs, rfl, hsz⟩ := okWide_struct Try.underlying38 hv
  have e6 : Try.prog.cellsOf 38 = 6 := by kernel_rfl
  have e5 : Try.prog.cellsOf 35 = 5 := by kernel_rfl
  have e1 : Try.prog.cellsOf 36 = 1 := by kernel_rfl
  obtain ⟨fuel, hf⟩ := h
  obtain ⟨xs, n, _, _, hl, hxl, hg⟩ := DataW.trod_struct Try.underlying38 hf
  obtain ⟨q0, q1, q2, q3, q4, q5, hq⟩ := list6 (l := cs.toList) (by simpa using hsz.trans e6)
  have hcs : cs = #[q0, q1, q2, q3, q4, q5] := by rw [← Array.toArray_toList (xs := cs), hq]
  subst hcs
  have ex : ∀ i, i < 2 → ∃ y, xs[i]? = some y := fun i hi => ⟨xs[i]'(by rw [hxl]; exact hi), List.getElem?_eq_getElem _⟩
  have g0 := hg 0 _ rfl
  obtain ⟨y0, h0⟩ := ex 0 (by omega)
  rw [h0] at g0
  simp only [Value.cells] at g0
  have g1 := hg 1 _ rfl
  obtain ⟨y1, h1⟩ := ex 1 (by omega)
  rw [h1] at g1
  simp only [Value.cells] at g1
  obtain ⟨zs, k0, k1, k2⟩ := aiGrid.2 _ _ _ _ _ _ _ _ _ g0
  obtain ⟨A, len, cap, ys, j0, j1, j2, j3, j4⟩ := read_slice Try.underlying36 aiSpan (by decide) g1
  obtain ⟨l, l1, l2⟩ := unflat2 len ys j1
  obtain ⟨a0, a1, a2, a3, a4, rfl⟩ := list5 k1
  simp [e5] at k0
  simp [e1] at j0
  obtain ⟨rfl, rfl, rfl, rfl, rfl⟩ := k0
  obtain rfl := j0
  exact ⟨a0, a1, a2, a3, a4, A, len, cap, l, rfl, l2, j2, by rw [l1]; exact j3, k2 a0 (by simp), k2 a1 (by simp), k2 a2 (by simp), k2 a3 (by simp), k2 a4 (by simp), by rw [l1]; exact j4⟩
set_option maxRecDepth 100000 in
theorem open_grid {r : Reach} {b0 : Nat} {v : Value} {d : DataW H} {ps : List MemPlace} (hv : Value.okWide Try.prog w r b0 35 v) (h : DataW.Trod enc Try.prog w base spare held 35 v d ps) :
    ∃ (a0 a1 a2 a3 a4 : Int), v = gridV a0 a1 a2 a3 a4 ∧ (Lit.int .i64 a0).wf = true ∧ (Lit.int .i64 a1).wf = true ∧ (Lit.int .i64 a2).wf = true ∧ (Lit.int .i64 a3).wf = true ∧ (Lit.int .i64 a4).wf = true := by
  obtain ⟨zs, h1, h2, h3⟩ := open_struct Try.underlying35 aiGrid hv h
  obtain ⟨a0, a1, a2, a3, a4, rfl⟩ := list5 h2
  exact ⟨a0, a1, a2, a3, a4, h1, h3 a0 (by simp), h3 a1 (by simp), h3 a2 (by simp), h3 a3 (by simp), h3 a4 (by simp)⟩
set_option maxRecDepth 100000 in
theorem open_span {r : Reach} {b0 : Nat} {v : Value} {d : DataW H} {ps : List MemPlace} (hv : Value.okWide Try.prog w r b0 47 v) (h : DataW.Trod enc Try.prog w base spare held 47 v d ps) :
    ∃ a b : Int, v = .agg #[.int .i64 a, .int .i64 b] ∧ (Lit.int .i64 a).wf = true ∧ (Lit.int .i64 b).wf = true := by
  obtain ⟨zs, h1, h2, h3⟩ := open_struct Try.underlying47 aiSpan hv h
  match zs, h2 with
  | [a, b], _ => exact ⟨a, b, h1, h3 a (by simp), h3 b (by simp)⟩
end
end Go.Proofs.Ythhhecidogcmjaa
