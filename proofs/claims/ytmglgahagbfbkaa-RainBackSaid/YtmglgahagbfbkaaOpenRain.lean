/-
  The arguments of the laws about rain, opened: spans, points, models.
-/
import Derived.Test.YtmglgahagbfbkaaProg
import Derived.Test.YtmglgahagbfbkaaOpen
import Derived.Test.YtmglgahagbfbkaaRainMath
namespace Go.Proofs.Ytmglgahagbfbkaa
open Go Go.RowKit Go.ChangeShapes Go.WideShapes Go.Deep

theorem aiInt : AllInts Try.prog 3 .i64 1 := allInts_int Try.underlying3 (by kernel_rfl)
theorem aiSpan : AllInts Try.prog 24 .i64 2 := allInts_struct Try.underlying24 (by kernel_rfl) (fun c hc => by
  match c, hc with
  | 0, _ => exact ⟨0, _, 1, rfl, aiInt, by simp, by simp⟩
  | 1, _ => exact ⟨1, _, 1, rfl, aiInt, by simp, by simp⟩)
theorem aiPoint : AllInts Try.prog 94 .i64 2 := allInts_struct Try.underlying94 (by kernel_rfl) (fun c hc => by
  match c, hc with
  | 0, _ => exact ⟨0, _, 1, rfl, aiInt, by simp, by simp⟩
  | 1, _ => exact ⟨1, _, 1, rfl, aiInt, by simp, by simp⟩)

theorem unflat2 : ∀ (n : Nat) (zs : List Int), zs.length = n * 2 → ∃ l : List (Int × Int), flat2 l = zs ∧ l.length = n
  | 0, zs, h => ⟨[], by simp at h; rw [h]; rfl, rfl⟩
  | n + 1, zs, h => by
    match zs, h with
    | a :: b :: r, h =>
      obtain ⟨l, h1, h2⟩ := unflat2 n r (by simp at h; omega)
      exact ⟨(a, b) :: l, by simp [flat2, h1], by simp [h2]⟩
    | [_], h => simp at h; omega
    | [], h => simp at h

section
variable {H : Type} {enc : TypeId × Value → H} {w : World} {base : Nat} {spare : Nat → Bool} {held : Bool}
theorem read_points {n : Nat} {cs : List Value} {y : DataW H × List MemPlace} (h : DataW.trod enc Try.prog w base spare held n 22 cs = some y) :
    ∃ (A : Option Addr) (len cap : Nat) (l : List (Int × Int)), cs = [.slice A len cap] ∧ l.length = len ∧ len ≤ maxLen ∧ Ints w w.heap.size .i64 A (flat2 l) := by
  obtain ⟨A, len, cap, zs, h1, h2, h3, h4, _⟩ := read_slice Try.underlying22 aiPoint (by decide) h
  obtain ⟨l, h5, h6⟩ := unflat2 len zs h2
  exact ⟨A, len, cap, l, h1, h6, h3, by rw [h5]; exact h4⟩
theorem read_span {n : Nat} {cs : List Value} {y : DataW H × List MemPlace} (h : DataW.trod enc Try.prog w base spare held n 24 cs = some y) : ∃ a b : Int, cs = [.int .i64 a, .int .i64 b] := by
  obtain ⟨zs, h1, h2, _⟩ := aiSpan.2 _ _ _ _ _ _ _ _ _ h
  match zs, h2 with
  | [a, b], _ => exact ⟨a, b, h1⟩

theorem list1 {α : Type} {l : List α} {n : Nat} (h : l.length = n + 1) : ∃ x r, l = x :: r ∧ r.length = n := by
  cases l with
  | nil => simp at h
  | cons x r => exact ⟨x, r, rfl, by simpa using h⟩
theorem list8 {α : Type} {l : List α} (h : l.length = 8) : ∃ x0 x1 x2 x3 x4 x5 x6 x7, l = [x0, x1, x2, x3, x4, x5, x6, x7] := by
  obtain ⟨x0, l0, rfl, h0⟩ := list1 h
  obtain ⟨x1, l1, rfl, h1⟩ := list1 h0
  obtain ⟨x2, l2, rfl, h2⟩ := list1 h1
  obtain ⟨x3, l3, rfl, h3⟩ := list1 h2
  obtain ⟨x4, l4, rfl, h4⟩ := list1 h3
  obtain ⟨x5, l5, rfl, h5⟩ := list1 h4
  obtain ⟨x6, l6, rfl, h6⟩ := list1 h5
  obtain ⟨x7, l7, rfl, h7⟩ := list1 h6
  obtain rfl := List.eq_nil_of_length_eq_zero h7
  exact ⟨x0, x1, x2, x3, x4, x5, x6, x7, rfl⟩
set_option maxRecDepth 100000 in
theorem open_model {r : Reach} {b0 : Nat} {v : Value} {d : DataW H} {ps : List MemPlace} (hv : Value.okWide Try.prog w r b0 26 v) (h : DataW.Trod enc Try.prog w base spare held 26 v d ps) :
    ∃ (A : Option Addr) (n c : Nat) (l : List (Int × Int)) (A' : Option Addr) (n' c' : Nat) (m : List (Int × Int)) (a0 a1 b0 b1 c0 c1 : Int),
      v = .agg #[.slice A n c, .slice A' n' c', .int .i64 a0, .int .i64 a1, .int .i64 b0, .int .i64 b1, .int .i64 c0, .int .i64 c1] ∧
      l.length = n ∧ n ≤ maxLen ∧ m.length = n' ∧ n' ≤ maxLen ∧ Ints w w.heap.size .i64 A (flat2 l) ∧ Ints w w.heap.size .i64 A' (flat2 m) := by
  obtain ⟨cs, rfl, hsz⟩ := okWide_struct Try.underlying26 hv
  have e8 : Try.prog.cellsOf 26 = 8 := by kernel_rfl
  have e1 : Try.prog.cellsOf 22 = 1 := by kernel_rfl
  have e2 : Try.prog.cellsOf 24 = 2 := by kernel_rfl
  obtain ⟨fuel, hf⟩ := h
  obtain ⟨xs, n, _, _, hl, hxl, hg⟩ := DataW.trod_struct Try.underlying26 hf
  obtain ⟨q0, q1, q2, q3, q4, q5, q6, q7, hq⟩ := list8 (l := cs.toList) (by simpa using hsz.trans e8)
  have hcs : cs = #[q0, q1, q2, q3, q4, q5, q6, q7] := by rw [← Array.toArray_toList (xs := cs), hq]
  subst hcs
  have g0 := hg 0 _ rfl
  have g1 := hg 1 _ rfl
  have g2 := hg 2 _ rfl
  have g3 := hg 3 _ rfl
  have g4 := hg 4 _ rfl
  simp only [Value.cells] at g0 g1 g2 g3 g4
  have ex : ∀ i, i < 5 → ∃ y, xs[i]? = some y := fun i hi => ⟨xs[i]'(by rw [hxl]; exact hi), List.getElem?_eq_getElem _⟩
  obtain ⟨y0, h0⟩ := ex 0 (by omega)
  obtain ⟨y1, h1⟩ := ex 1 (by omega)
  obtain ⟨y2, h2⟩ := ex 2 (by omega)
  obtain ⟨y3, h3⟩ := ex 3 (by omega)
  obtain ⟨y4, h4⟩ := ex 4 (by omega)
  rw [h0] at g0
  rw [h1] at g1
  rw [h2] at g2
  rw [h3] at g3
  rw [h4] at g4
  obtain ⟨A, len, cap, l, k0, k1, k2, k3⟩ := read_points g0
  obtain ⟨A', len', cap', m, j0, j1, j2, j3⟩ := read_points g1
  obtain ⟨a0, a1, s0⟩ := read_span g2
  obtain ⟨b0, b1, s1⟩ := read_span g3
  obtain ⟨c0, c1, s2⟩ := read_span g4
  simp [e1] at k0 j0
  simp [e2] at s0 s1 s2
  obtain rfl := k0
  obtain rfl := j0
  obtain ⟨rfl, rfl⟩ := s0
  obtain ⟨rfl, rfl⟩ := s1
  obtain ⟨rfl, rfl⟩ := s2
  exact ⟨A, len, cap, l, A', len', cap', m, a0, a1, b0, b1, c0, c1, rfl, k1, k2, j1, j2, k3, j3⟩
set_option maxRecDepth 100000 in
theorem open_span {r : Reach} {b0 : Nat} {v : Value} {d : DataW H} {ps : List MemPlace} (hv : Value.okWide Try.prog w r b0 24 v) (h : DataW.Trod enc Try.prog w base spare held 24 v d ps) :
    ∃ a b : Int, v = .agg #[.int .i64 a, .int .i64 b] := by
  obtain ⟨zs, h1, h2, _⟩ := open_struct Try.underlying24 aiSpan hv h
  match zs, h2 with
  | [a, b], _ => exact ⟨a, b, h1⟩
theorem aiReading : AllInts Try.prog 47 .i64 3 := allInts_struct Try.underlying47 (by kernel_rfl) (fun c hc => by
  match c, hc with
  | 0, _ => exact ⟨0, _, 1, rfl, aiInt, by simp, by simp⟩
  | 1, _ => exact ⟨1, _, 2, rfl, aiSpan, by simp, by simp⟩
  | 2, _ => exact ⟨1, _, 2, rfl, aiSpan, by simp, by simp⟩)
set_option maxRecDepth 100000 in
theorem open_sl3 {r : Reach} {b0 : Nat} {v : Value} {d : DataW H} {ps : List MemPlace} (hv : Value.okWide Try.prog w r b0 43 v) (h : DataW.Trod enc Try.prog w base spare held 43 v d ps) :
    ∃ (A : Option Addr) (n c : Nat) (zs : List Int), v = .slice A n c ∧ zs.length = n * 3 ∧ n ≤ maxLen ∧ n ≤ c ∧ c ≤ maxLen ∧ Ints w w.heap.size .i64 A zs := by
  obtain ⟨A, n, c, zs, h1, h2, h3, h4, h5, _⟩ := open_sl Try.underlying43 aiReading (by decide) hv h
  exact ⟨A, n, c, zs, h1, h2, Nat.le_trans h3 h4, h3, h4, h5⟩
end
end Go.Proofs.Ytmglgahagbfbkaa
