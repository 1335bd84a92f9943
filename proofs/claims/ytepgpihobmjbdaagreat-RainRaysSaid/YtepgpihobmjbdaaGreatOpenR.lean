/-
  Sweeps as arguments, opened: a site, two numbers, and rays of echoes.
-/
import Derived.Test.YtepgpihobmjbdaaGreatSweep
import Derived.Test.YtepgpihobmjbdaaGreatRegM
import Derived.Test.YtepgpihobmjbdaaGreatOpenM
set_option linter.unusedSimpArgs false
set_option linter.unusedVariables false
namespace Go.Proofs.YtepgpihobmjbdaaGreat
open Go Go.RowKit Go.ChangeShapes Go.WideShapes Go.Deep

section
variable {H : Type} {enc : TypeId × Value → H} {w : World} {base : Nat} {spare : Nat → Bool} {held : Bool}
/-- An array of two whose elements are all so many integers. -/
theorem allInts_two {P : Program} {t e : TypeId} {k : IntKind} {size : Nat} (ht : P.underlying t = some (.array 2 e)) (he : AllInts P e k size) (hc : P.cellsOf t = size + size) : AllInts P t k (size + size) := by
  refine ⟨hc, fun H enc w base spare held n cs y h => ?_⟩
  obtain ⟨xs, m, _, _, hl, hxl, hg⟩ := DataW.trod_array ht h
  rw [hc] at hl
  have g0 := hg 0 (by omega)
  have g1 := hg 1 (by omega)
  rw [List.getElem?_eq_getElem (by omega), he.1] at g0 g1
  obtain ⟨z0, a0, b0, c0⟩ := he.2 _ _ _ _ _ _ _ _ _ g0
  obtain ⟨z1, a1, b1, c1⟩ := he.2 _ _ _ _ _ _ _ _ _ g1
  rw [Nat.zero_mul, List.drop_zero] at a0
  rw [Nat.one_mul, List.take_of_length_le (by rw [List.length_drop]; omega)] at a1
  refine ⟨z0 ++ z1, ?_, by rw [List.length_append]; omega, fun z hz => ?_⟩
  · rw [List.map_append, ← a0, ← a1, List.take_append_drop]
  · rcases List.mem_append.1 hz with h1 | h1
    · exact c0 z h1
    · exact c1 z h1
theorem read_fieldR {P : Program} {t : TypeId} {fs : Array Field} {n : Nat} {cs : List Value} {y : DataW H × List MemPlace} (ht : P.underlying t = some (.struct fs)) (h : DataW.trod enc P w base spare held n t cs = some y) :
    cs.length = P.cellsOf t ∧ ∀ (i : Nat) (ft off sz : Nat), (fs[i]?.map fun f => (f.type, f.offset)) = some (ft, off) → P.cellsOf ft = sz → ∃ m z, DataW.trod enc P w base spare held m ft ((cs.drop off).take sz) = some z := by
  obtain ⟨xs, m, _, _, hlen, hxs, hg⟩ := DataW.trod_struct ht h
  refine ⟨hlen, fun i ft off sz hi hsz => ?_⟩
  cases hfi : fs[i]? with
  | none => rw [hfi] at hi; cases hi
  | some f =>
    rw [hfi] at hi
    have e : (f.type, f.offset) = (ft, off) := by simpa using hi
    have h1 := hg i f hfi
    have hil : i < xs.length := by rw [hxs]; exact (Array.getElem?_eq_some_iff.1 hfi).1
    rw [List.getElem?_eq_getElem hil] at h1
    injection e with e1 e2
    subst e1 e2 hsz
    exact ⟨_, _, h1⟩
instance : Inhabited Ech := ⟨⟨0, 0, 0, 0, 0, 0, 0, 0, 0, 0, 0, 0, 0, 0⟩⟩
instance : Inhabited Ray1 := ⟨⟨none, 0, 0, fun _ => default⟩⟩
theorem aiSpan2 : AllInts Tryz.prog 66 .i64 4 := allInts_two Tryz.underlying66 aiSpan (by kernel_rfl)
theorem aiEcho : AllInts Tryz.prog 68 .i64 14 := allInts_struct Tryz.underlying68 (by kernel_rfl) (fun c hc => by
  match c, hc with
  | 0, _ => exact ⟨0, _, 1, rfl, aiInt, by simp, by simp⟩
  | 1, _ => exact ⟨1, _, 2, rfl, aiSpan, by simp, by simp⟩
  | 2, _ => exact ⟨1, _, 2, rfl, aiSpan, by simp, by simp⟩
  | 3, _ => exact ⟨2, _, 4, rfl, aiSpan2, by simp, by simp⟩
  | 4, _ => exact ⟨2, _, 4, rfl, aiSpan2, by simp, by simp⟩
  | 5, _ => exact ⟨2, _, 4, rfl, aiSpan2, by simp, by simp⟩
  | 6, _ => exact ⟨2, _, 4, rfl, aiSpan2, by simp, by simp⟩
  | 7, _ => exact ⟨3, _, 1, rfl, aiInt, by simp, by simp⟩
  | 8, _ => exact ⟨4, _, 2, rfl, aiSpan, by simp, by simp⟩
  | 9, _ => exact ⟨4, _, 2, rfl, aiSpan, by simp, by simp⟩
  | 10, _ => exact ⟨5, _, 2, rfl, aiSpan, by simp, by simp⟩
  | 11, _ => exact ⟨5, _, 2, rfl, aiSpan, by simp, by simp⟩
  | 12, _ => exact ⟨6, _, 2, rfl, aiSpan, by simp, by simp⟩
  | 13, _ => exact ⟨6, _, 2, rfl, aiSpan, by simp, by simp⟩)
theorem ech_of {zs : List Int} (h : zs.length = 14) : ∃ x : Ech, (echC x).toList = zs.map (Value.int .i64) := by
  match zs, h with
  | [a, b, c, d, e, f, g, i, j, k, l, m, n, o], _ => exact ⟨⟨a, b, c, d, e, f, g, i, j, k, l, m, n, o⟩, rfl⟩
theorem avEcho : AllV Tryz.prog 68 14 (fun cs => ∃ x : Ech, (echC x).toList = cs) := ⟨aiEcho.1, fun H enc w base spare held n cs y h => by
  obtain ⟨zs, h1, h2, _⟩ := aiEcho.2 _ _ _ _ _ _ _ _ _ h
  obtain ⟨x, hx⟩ := ech_of h2
  exact ⟨by rw [h1]; simpa using h2, x, by rw [hx, h1]⟩⟩
/-- One ray. -/
theorem read_ray {n : Nat} {cs : List Value} {y : DataW H × List MemPlace} (h : DataW.trod enc Tryz.prog w base spare held n 53 cs = some y) :
    ∃ r : Ray1, cs = [.slice r.A r.n r.c] ∧ r.n ≤ maxLen ∧ Rows_ w w.heap.size r.A r.n 14 (fun j => (echC (r.e j)).toList) := by
  obtain ⟨A, len, cap, f, h1, h2, h3, h4, h5⟩ := read_sliceV Tryz.underlying53 avEcho (by decide) h
  obtain ⟨g, hg⟩ := choose_lt (α := Ech) (p := fun i x => (echC x).toList = f i) (fun i hi => (h4 i hi).2)
  refine ⟨⟨A, len, cap, g⟩, h1, Nat.le_trans h2 h3, fun hn => ?_⟩
  obtain ⟨b, off, e1, e2, e3⟩ := h5 hn
  exact ⟨b, off, e1, e2, fun i hi j v hv => e3 i hi j v (by rw [← hg i hi]; exact hv)⟩
/-- All rays. -/
theorem read_rays {n : Nat} {cs : List Value} {y : DataW H × List MemPlace} (h : DataW.trod enc Tryz.prog w base spare held n 29 cs = some y) :
    ∃ (A : Option Addr) (len cap : Nat) (rr : Nat → Ray1), cs = [.slice A len cap] ∧ len ≤ cap ∧ cap ≤ maxLen ∧ RaysAt w w.heap.size A len rr := by
  rcases open_slice1 Tryz.underlying29 (by kernel_rfl) h with ⟨hcs, _⟩ | ⟨a, len, cap, m, n', V, D, Pl, hcs, _, hl, hm, hmm, _, hi⟩
  · exact ⟨none, 0, 0, fun _ => ⟨none, 0, 0, fun _ => ⟨0, 0, 0, 0, 0, 0, 0, 0, 0, 0, 0, 0, 0, 0⟩⟩, hcs, Nat.le_refl _, by simp [maxLen], fun h => absurd h (by omega)⟩
  · have hlm : len ≤ m := by rw [hmm]; split <;> omega
    obtain ⟨rr, hr⟩ := choose_lt (n := len) (α := Ray1) (p := fun i r => w.cell? (a.add i) = some (.slice r.A r.n r.c) ∧ r.n ≤ maxLen ∧ Rows_ w w.heap.size r.A r.n 14 (fun j => (echC (r.e j)).toList)) (fun i hil => by
      obtain ⟨h1, h2⟩ := hi i (by omega)
      obtain ⟨r, e1, e2, e3⟩ := read_ray h2
      injection e1 with e1
      exact ⟨r, by rw [h1, e1], e2, e3⟩)
    refine ⟨some a, len, cap, rr, hcs, hl, hm, fun hpos => ?_⟩
    have h0 := (hr 0 hpos).1
    obtain ⟨b, off, spot⟩ := a
    have hspot : spot = none := by
      have := World.cell?_spot h0
      simpa [Addr.add] using this
    subst hspot
    refine ⟨b, off, rfl, World.block_lt_of_cell? w _ (by simpa [Addr.add] using h0), fun i hil => ?_⟩
    have h1 := (hr i hil).1
    rw [Go.WideShapes.add_plain] at h1
    exact ⟨h1, (hr i hil).2⟩
theorem read_int {n : Nat} {cs : List Value} {y : DataW H × List MemPlace} (h : DataW.trod enc Tryz.prog w base spare held n 3 cs = some y) : ∃ a : Int, cs = [.int .i64 a] ∧ (Lit.int .i64 a).wf = true := by
  obtain ⟨a, e0, _, wa⟩ := DataW.trod_int Tryz.underlying3 h
  exact ⟨a, e0, wa⟩
theorem read_site {n : Nat} {cs : List Value} {y : DataW H × List MemPlace} (h : DataW.trod enc Tryz.prog w base spare held n 28 cs = some y) :
    ∃ (s : ByteArray) (a1 a2 a3 a4 a5 a6 a7 : Int), cs = [.string s, .int .i64 a1, .int .i64 a2, .int .i64 a3, .int .i64 a4, .int .i64 a5, .int .i64 a6, .int .i64 a7] ∧ s.size ≤ maxLen ∧ (Lit.int .i64 a1).wf = true ∧ (Lit.int .i64 a2).wf = true ∧ (Lit.int .i64 a3).wf = true ∧ (Lit.int .i64 a4).wf = true ∧ (Lit.int .i64 a5).wf = true ∧ (Lit.int .i64 a6).wf = true ∧ (Lit.int .i64 a7).wf = true := by
  obtain ⟨hlen, hg⟩ := read_fieldR Tryz.underlying28 h
  have e8 : Tryz.prog.cellsOf 28 = 8 := by kernel_rfl
  have e1 : Tryz.prog.cellsOf 3 = 1 := by kernel_rfl
  have e0 : Tryz.prog.cellsOf 9 = 1 := by kernel_rfl
  rw [e8] at hlen
  obtain ⟨q0, q1, q2, q3, q4, q5, q6, q7, rfl⟩ := list8 hlen
  obtain ⟨_, _, g0⟩ := hg 0 9 0 1 rfl e0
  obtain ⟨_, _, g1⟩ := hg 1 3 1 1 rfl e1
  obtain ⟨_, _, g2⟩ := hg 2 3 2 1 rfl e1
  obtain ⟨_, _, g3⟩ := hg 3 3 3 1 rfl e1
  obtain ⟨_, _, g4⟩ := hg 4 3 4 1 rfl e1
  obtain ⟨_, _, g5⟩ := hg 5 3 5 1 rfl e1
  obtain ⟨_, _, g6⟩ := hg 6 3 6 1 rfl e1
  obtain ⟨_, _, g7⟩ := hg 7 3 7 1 rfl e1
  simp only [List.drop_zero, List.drop_succ_cons, List.take_succ_cons, List.take_zero] at g0 g1 g2 g3 g4 g5 g6 g7
  obtain ⟨s, k0, _, ws⟩ := DataW.trod_string Tryz.underlying9 g0
  obtain ⟨a1, k1, w1⟩ := read_int g1
  obtain ⟨a2, k2, w2⟩ := read_int g2
  obtain ⟨a3, k3, w3⟩ := read_int g3
  obtain ⟨a4, k4, w4⟩ := read_int g4
  obtain ⟨a5, k5, w5⟩ := read_int g5
  obtain ⟨a6, k6, w6⟩ := read_int g6
  obtain ⟨a7, k7, w7⟩ := read_int g7
  simp at k0 k1 k2 k3 k4 k5 k6 k7
  subst k0 k1 k2 k3 k4 k5 k6 k7
  exact ⟨s, a1, a2, a3, a4, a5, a6, a7, rfl, ws, w1, w2, w3, w4, w5, w6, w7⟩
theorem list11 {α : Type} {l : List α} (h : l.length = 11) : ∃ x0 x1 x2 x3 x4 x5 x6 x7 x8 x9 x10, l = [x0, x1, x2, x3, x4, x5, x6, x7, x8, x9, x10] := by
  obtain ⟨x0, l0, rfl, h0⟩ := list1 h
  obtain ⟨x1, l1, rfl, h1⟩ := list1 h0
  obtain ⟨x2, l2, rfl, h2⟩ := list1 h1
  obtain ⟨x3, x4, x5, x6, x7, x8, x9, x10, rfl⟩ := list8 h2
  exact ⟨x0, x1, x2, x3, x4, x5, x6, x7, x8, x9, x10, rfl⟩
set_option maxRecDepth 100000 in
theorem open_sweep {r : Reach} {b0 : Nat} {v : Value} {d : DataW H} {ps : List MemPlace} (hv : Value.okWide Tryz.prog w r b0 31 v) (h : DataW.Trod enc Tryz.prog w base spare held 31 v d ps) :
    ∃ (s : ByteArray) (x y z r g st wd tilt time : Int) (A : Option Addr) (n c : Nat) (rr : Nat → Ray1), v = .agg (sweepC s x y z r g st wd tilt time A n c) ∧ s.size ≤ maxLen ∧ n ≤ c ∧ c ≤ maxLen ∧ RaysAt w w.heap.size A n rr := by
  obtain ⟨cs, rfl, hsz⟩ := okWide_struct Tryz.underlying31 hv
  obtain ⟨fuel, hf⟩ := h
  simp only [Value.cells] at hf
  obtain ⟨hlen, hg⟩ := read_fieldR Tryz.underlying31 hf
  have e11 : Tryz.prog.cellsOf 31 = 11 := by kernel_rfl
  have e8 : Tryz.prog.cellsOf 28 = 8 := by kernel_rfl
  have e1 : Tryz.prog.cellsOf 3 = 1 := by kernel_rfl
  have er : Tryz.prog.cellsOf 29 = 1 := by kernel_rfl
  rw [e11] at hlen
  obtain ⟨q0, q1, q2, q3, q4, q5, q6, q7, q8, q9, q10, hq⟩ := list11 hlen
  have hcs : cs = #[q0, q1, q2, q3, q4, q5, q6, q7, q8, q9, q10] := by rw [← Array.toArray_toList (xs := cs), hq]
  subst hcs
  simp only at hg
  obtain ⟨_, _, g0⟩ := hg 0 28 0 8 rfl e8
  obtain ⟨_, _, g1⟩ := hg 1 3 8 1 rfl e1
  obtain ⟨_, _, g2⟩ := hg 2 3 9 1 rfl e1
  obtain ⟨_, _, g3⟩ := hg 3 29 10 1 rfl er
  simp only [List.drop_zero, List.drop_succ_cons, List.take_succ_cons, List.take_zero] at g0 g1 g2 g3
  obtain ⟨s, a1, a2, a3, a4, a5, a6, a7, k0, ws, -⟩ := read_site g0
  obtain ⟨t1, k1, -⟩ := read_int g1
  obtain ⟨t2, k2, -⟩ := read_int g2
  obtain ⟨A, len, cap, rr, k3, l1, l2, l3⟩ := read_rays g3
  simp at k0 k1 k2 k3
  obtain ⟨rfl, rfl, rfl, rfl, rfl, rfl, rfl, rfl⟩ := k0
  subst k1 k2 k3
  exact ⟨s, a1, a2, a3, a4, a5, a6, a7, t1, t2, A, len, cap, rr, rfl, ws, l1, l2, l3⟩
theorem aiGridR : AllInts Tryz.prog 33 .i64 5 := allInts_struct Tryz.underlying33 (by kernel_rfl) (fun c hc => by
  match c, hc with
  | 0, _ => exact ⟨0, _, 1, rfl, aiInt, by simp, by simp⟩
  | 1, _ => exact ⟨1, _, 1, rfl, aiInt, by simp, by simp⟩
  | 2, _ => exact ⟨2, _, 1, rfl, aiInt, by simp, by simp⟩
  | 3, _ => exact ⟨3, _, 1, rfl, aiInt, by simp, by simp⟩
  | 4, _ => exact ⟨4, _, 1, rfl, aiInt, by simp, by simp⟩)
theorem list5 {α : Type} {l : List α} (h : l.length = 5) : ∃ x0 x1 x2 x3 x4, l = [x0, x1, x2, x3, x4] := by
  obtain ⟨x0, l0, rfl, h0⟩ := list1 h
  obtain ⟨x1, l1, rfl, h1⟩ := list1 h0
  obtain ⟨x2, l2, rfl, h2⟩ := list1 h1
  obtain ⟨x3, l3, rfl, h3⟩ := list1 h2
  obtain ⟨x4, l4, rfl, h4⟩ := list1 h3
  obtain rfl := List.eq_nil_of_length_eq_zero h4
  exact ⟨x0, x1, x2, x3, x4, rfl⟩
set_option maxRecDepth 100000 in
theorem open_grid {r : Reach} {b0 : Nat} {v : Value} {d : DataW H} {ps : List MemPlace} (hv : Value.okWide Tryz.prog w r b0 33 v) (h : DataW.Trod enc Tryz.prog w base spare held 33 v d ps) :
    ∃ (a0 a1 a2 a3 a4 : Int), v = .agg #[.int .i64 a0, .int .i64 a1, .int .i64 a2, .int .i64 a3, .int .i64 a4] ∧ (Lit.int .i64 a0).wf = true ∧ (Lit.int .i64 a1).wf = true ∧ (Lit.int .i64 a2).wf = true ∧ (Lit.int .i64 a3).wf = true ∧ (Lit.int .i64 a4).wf = true := by
  obtain ⟨zs, h1, h2, h3⟩ := open_struct Tryz.underlying33 aiGridR hv h
  obtain ⟨a0, a1, a2, a3, a4, rfl⟩ := list5 h2
  exact ⟨a0, a1, a2, a3, a4, h1, h3 a0 (by simp), h3 a1 (by simp), h3 a2 (by simp), h3 a3 (by simp), h3 a4 (by simp)⟩
set_option maxRecDepth 100000 in
theorem open_field {r : Reach} {b0 : Nat} {v : Value} {d : DataW H} {ps : List MemPlace} (hv : Value.okWide Tryz.prog w r b0 36 v) (h : DataW.Trod enc Tryz.prog w base spare held 36 v d ps) :
    ∃ (a0 a1 a2 a3 a4 : Int) (A : Option Addr) (n c : Nat) (l : List (Int × Int)), v = .agg (fldC a0 a1 a2 a3 a4 A n c) ∧ l.length = n ∧ n ≤ maxLen ∧ Ints w w.heap.size .i64 A (flat2 l) := by
  obtain ⟨cs, rfl, hsz⟩ := okWide_struct Tryz.underlying36 hv
  obtain ⟨fuel, hf⟩ := h
  simp only [Value.cells] at hf
  obtain ⟨hlen, hg⟩ := read_fieldR Tryz.underlying36 hf
  have e6 : Tryz.prog.cellsOf 36 = 6 := by kernel_rfl
  have e5 : Tryz.prog.cellsOf 33 = 5 := by kernel_rfl
  have e1 : Tryz.prog.cellsOf 34 = 1 := by kernel_rfl
  rw [e6] at hlen
  obtain ⟨q0, L0, hq, hL⟩ := list1 hlen
  obtain ⟨q1, q2, q3, q4, q5, rfl⟩ := list5 hL
  have hcs : cs = #[q0, q1, q2, q3, q4, q5] := by rw [← Array.toArray_toList (xs := cs), hq]
  subst hcs
  simp only at hg
  obtain ⟨_, _, g0⟩ := hg 0 33 0 5 rfl e5
  obtain ⟨_, _, g1⟩ := hg 1 34 5 1 rfl e1
  simp only [List.drop_zero, List.drop_succ_cons, List.take_succ_cons, List.take_zero] at g0 g1
  obtain ⟨zs, k0, k1, -⟩ := aiGridR.2 _ _ _ _ _ _ _ _ _ g0
  obtain ⟨A, len, cap, ys, j0, j1, j2, j3, -⟩ := read_slice Tryz.underlying34 aiSpan (by decide) g1
  obtain ⟨l, l1, l2⟩ := unflat2 len ys j1
  obtain ⟨a0, a1, a2, a3, a4, rfl⟩ := list5 k1
  simp at k0 j0
  obtain ⟨rfl, rfl, rfl, rfl, rfl⟩ := k0
  subst j0
  exact ⟨a0, a1, a2, a3, a4, A, len, cap, l, rfl, l2, j2, by rw [l1]; exact j3⟩
end
end Go.Proofs.YtepgpihobmjbdaaGreat
