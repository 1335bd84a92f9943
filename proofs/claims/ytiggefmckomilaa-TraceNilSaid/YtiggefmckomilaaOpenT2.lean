/-
  The arguments of the laws about traces, opened: acts.
-/
import Derived.Test.YtiggefmckomilaaOpenT
import Derived.Test.YtiggefmckomilaaTraceNilL
namespace Go.Proofs.Ytiggefmckomilaa
open Go Go.RowKit Go.ChangeShapes Go.WideShapes Go.Deep

section
variable {H : Type} {enc : TypeId × Value → H} {w : World} {base : Nat} {spare : Nat → Bool} {held : Bool}
theorem cut1 {α : Type} {l : List α} {n : Nat} (h : l.length = n + 1) : ∃ x r, l = x :: r ∧ r.length = n := by
  cases l with
  | nil => simp at h
  | cons x r => exact ⟨x, r, rfl, by simpa using h⟩
theorem cut8 {α : Type} {l : List α} (h : l.length = 8) : ∃ x0 x1 x2 x3 x4 x5 x6 x7, l = [x0, x1, x2, x3, x4, x5, x6, x7] := by
  obtain ⟨x0, l0, rfl, h0⟩ := cut1 h
  obtain ⟨x1, l1, rfl, h1⟩ := cut1 h0
  obtain ⟨x2, l2, rfl, h2⟩ := cut1 h1
  obtain ⟨x3, l3, rfl, h3⟩ := cut1 h2
  obtain ⟨x4, l4, rfl, h4⟩ := cut1 h3
  obtain ⟨x5, l5, rfl, h5⟩ := cut1 h4
  obtain ⟨x6, l6, rfl, h6⟩ := cut1 h5
  obtain ⟨x7, l7, rfl, h7⟩ := cut1 h6
  obtain rfl := List.eq_nil_of_length_eq_zero h7
  exact ⟨x0, x1, x2, x3, x4, x5, x6, x7, rfl⟩
set_option maxRecDepth 100000 in
theorem open_act {r : Reach} {b0 : Nat} {v : Value} {d : DataW H} {ps : List MemPlace} (hv : Value.okWide Try.prog w r b0 59 v) (h : DataW.Trod enc Try.prog w base spare held 59 v d ps) :
    ∃ (k : Int) (nm pr : ByteArray) (lo hi tm un n : Int), v = .agg (actV k nm pr lo hi tm un n) ∧ nm.size ≤ maxLen ∧ pr.size ≤ maxLen ∧ (Lit.int .i64 k).wf = true ∧ (Lit.int .i64 lo).wf = true ∧ (Lit.int .i64 hi).wf = true ∧ (Lit.int .i64 tm).wf = true ∧ (Lit.int .i64 un).wf = true ∧ (Lit.int .i64 n).wf = true := by
  obtain ⟨cs, rfl, hsz⟩ := okWide_struct Try.underlying59 hv
  have e8 : Try.prog.cellsOf 59 = 8 := by kernel_rfl
  have e2 : Try.prog.cellsOf 23 = 2 := by kernel_rfl
  have e1 : Try.prog.cellsOf 3 = 1 := by kernel_rfl
  have e0 : Try.prog.cellsOf 9 = 1 := by kernel_rfl
  obtain ⟨fuel, hf⟩ := h
  obtain ⟨xs, n, _, _, hl, hxl, hg⟩ := DataW.trod_struct Try.underlying59 hf
  obtain ⟨q0, q1, q2, q3, q4, q5, q6, q7, hq⟩ := cut8 (l := cs.toList) (by simpa using hsz.trans e8)
  have hcs : cs = #[q0, q1, q2, q3, q4, q5, q6, q7] := by rw [← Array.toArray_toList (xs := cs), hq]
  subst hcs
  have ex : ∀ i, i < 7 → ∃ y, xs[i]? = some y := fun i hi => ⟨xs[i]'(by rw [hxl]; exact hi), List.getElem?_eq_getElem _⟩
  have g0 := hg 0 _ rfl
  obtain ⟨y0, h0⟩ := ex 0 (by omega)
  rw [h0] at g0
  simp only [Value.cells] at g0
  have g1 := hg 1 _ rfl
  obtain ⟨y1, h1⟩ := ex 1 (by omega)
  rw [h1] at g1
  simp only [Value.cells] at g1
  have g2 := hg 2 _ rfl
  obtain ⟨y2, h2⟩ := ex 2 (by omega)
  rw [h2] at g2
  simp only [Value.cells] at g2
  have g3 := hg 3 _ rfl
  obtain ⟨y3, h3⟩ := ex 3 (by omega)
  rw [h3] at g3
  simp only [Value.cells] at g3
  have g4 := hg 4 _ rfl
  obtain ⟨y4, h4⟩ := ex 4 (by omega)
  rw [h4] at g4
  simp only [Value.cells] at g4
  have g5 := hg 5 _ rfl
  obtain ⟨y5, h5⟩ := ex 5 (by omega)
  rw [h5] at g5
  simp only [Value.cells] at g5
  have g6 := hg 6 _ rfl
  obtain ⟨y6, h6⟩ := ex 6 (by omega)
  rw [h6] at g6
  simp only [Value.cells] at g6
  obtain ⟨k, k0, _, w0⟩ := DataW.trod_int Try.underlying3 g0
  obtain ⟨nm, k1, _, w1⟩ := DataW.trod_string Try.underlying9 g1
  obtain ⟨pr, k2, _, w2⟩ := DataW.trod_string Try.underlying9 g2
  obtain ⟨zs, k3, j3, w3⟩ := aiSpan.2 _ _ _ _ _ _ _ _ _ g3
  obtain ⟨a4, k4, _, w4⟩ := DataW.trod_int Try.underlying3 g4
  obtain ⟨a5, k5, _, w5⟩ := DataW.trod_int Try.underlying3 g5
  obtain ⟨a6, k6, _, w6⟩ := DataW.trod_int Try.underlying3 g6
  obtain ⟨lo, r1, rfl, hr1⟩ := cut1 j3
  obtain ⟨hi, r2, rfl, hr2⟩ := cut1 hr1
  obtain rfl := List.eq_nil_of_length_eq_zero hr2
  simp [e1] at k0
  simp [e0] at k1
  simp [e0] at k2
  simp [e2] at k3
  simp [e1] at k4
  simp [e1] at k5
  simp [e1] at k6
  obtain ⟨rfl, rfl⟩ := k3
  subst k0 k1 k2 k4 k5 k6
  exact ⟨k, nm, pr, lo, hi, a4, a5, a6, rfl, w1, w2, w0, w3 lo (by simp), w3 hi (by simp), w4, w5, w6⟩
end
end Go.Proofs.Ytiggefmckomilaa
