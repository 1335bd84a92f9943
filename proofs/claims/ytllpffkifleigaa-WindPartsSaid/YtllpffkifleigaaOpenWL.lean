/-
  The argument of the laws about sights, opened: lists of sights.
-/
import Derived.Test.YtllpffkifleigaaOpenV
import Derived.Test.YtllpffkifleigaaWdWithout
import Derived.Test.YtllpffkifleigaaRows
set_option linter.unusedSimpArgs false
set_option linter.unusedVariables false
namespace Go.Proofs.Ytllpffkifleigaa
open Go Go.RowKit Go.ChangeShapes Go.WideShapes Go.Deep

theorem wfS_i64 {n : Int} (h : (Lit.int .i64 n).wf = true) : I64 n := by
  simp only [Lit.wf, Bool.and_eq_true, decide_eq_true_eq] at h
  exact ⟨h.1, h.2⟩
theorem avInt : AllV Try.prog 3 1 (fun cs => ∃ z, cs = [.int .i64 z] ∧ (Lit.int .i64 z).wf = true) := allV_int Try.underlying3 (by kernel_rfl)
theorem avStr : AllV Try.prog 9 1 (fun cs => ∃ s : ByteArray, cs = [.string s] ∧ s.size ≤ maxLen) := allV_string Try.underlying9 (by kernel_rfl)
set_option maxRecDepth 100000 in
theorem avSpan : AllV Try.prog 32 2 (fun cs => ∃ lo hi, I64 lo ∧ I64 hi ∧ cs = [.int .i64 lo, .int .i64 hi]) := by
  refine ⟨by kernel_rfl, fun H enc w base spare held n cs y h => ?_⟩
  obtain ⟨hl, hf⟩ := read_structV Try.underlying32 (by kernel_rfl : Try.prog.cellsOf 32 = 2) h
  refine ⟨hl, ?_⟩
  obtain ⟨c0, r0, rfl, h0⟩ := len1 hl
  obtain ⟨c1, r1, rfl, h1⟩ := len1 h0
  obtain rfl := len0 h1
  obtain ⟨z0, e0, w0⟩ := hf 0 _ 1 _ rfl avInt
  obtain ⟨z1, e1, w1⟩ := hf 1 _ 1 _ rfl avInt
  simp at e0 e1
  subst e0
  subst e1
  exact ⟨z0, z1, wfS_i64 w0, wfS_i64 w1, rfl⟩
set_option maxRecDepth 100000 in
theorem avSight : AllV Try.prog 88 5 (fun cs => ∃ s : Sgt, I64 s.x ∧ I64 s.y ∧ I64 s.l ∧ I64 s.lo ∧ I64 s.hi ∧ cs = [.int .i64 s.x, .int .i64 s.y, .int .i64 s.l, .int .i64 s.lo, .int .i64 s.hi]) := by
  refine ⟨by kernel_rfl, fun H enc w base spare held n cs y h => ?_⟩
  obtain ⟨hl, hf⟩ := read_structV Try.underlying88 (by kernel_rfl : Try.prog.cellsOf 88 = 5) h
  refine ⟨hl, ?_⟩
  obtain ⟨c0, r0, rfl, h0⟩ := len1 hl
  obtain ⟨c1, r1, rfl, h1⟩ := len1 h0
  obtain ⟨c2, r2, rfl, h2⟩ := len1 h1
  obtain ⟨c3, r3, rfl, h3⟩ := len1 h2
  obtain ⟨c4, r4, rfl, h4⟩ := len1 h3
  obtain rfl := len0 h4
  obtain ⟨z0, e0, w0⟩ := hf 0 _ 1 _ rfl avInt
  obtain ⟨z1, e1, w1⟩ := hf 1 _ 1 _ rfl avInt
  obtain ⟨z2, e2, w2⟩ := hf 2 _ 1 _ rfl avInt
  obtain ⟨l3, u3, lw3, uw3, e3⟩ := hf 3 _ 2 _ rfl avSpan
  simp at e0 e1 e2 e3
  subst e0
  subst e1
  subst e2
  obtain ⟨rfl, rfl⟩ := e3
  exact ⟨⟨z0, z1, z2, _, _⟩, wfS_i64 w0, wfS_i64 w1, wfS_i64 w2, lw3, uw3, rfl⟩
section
variable {H : Type} {enc : TypeId × Value → H} {P : Program} {w : World} {base : Nat} {spare : Nat → Bool} {held : Bool}
theorem open_stV {t : TypeId} {fs : Array Field} {size : Nat} {Q : List Value → Prop} {r : Reach} {b0 : Nat} {v : Value} {d : DataW H} {ps : List MemPlace} (ht : P.underlying t = some (.struct fs)) (hQ : AllV P t size Q) (hv : Value.okWide P w r b0 t v) (h : DataW.Trod enc P w base spare held t v d ps) :
    ∃ cs : Array Value, v = .agg cs ∧ Q cs.toList := by
  obtain ⟨cs, rfl, hsz⟩ := okWide_struct ht hv
  obtain ⟨fuel, hf⟩ := h
  exact ⟨cs, rfl, (hQ.2 _ _ _ _ _ _ _ _ _ hf).2⟩
set_option maxRecDepth 100000 in
theorem open_sights {r : Reach} {b0 : Nat} {v : Value} {d : DataW H} {ps : List MemPlace} (hv : Value.okWide Try.prog w r b0 22 v) (h : DataW.Trod enc Try.prog w base spare held 22 v d ps) :
    ∃ (A : Option Addr) (n c : Nat) (L : List Sgt), v = .slice A n c ∧ L.length = n ∧ n ≤ maxLen ∧ n ≤ c ∧ c ≤ maxLen ∧ (∀ s ∈ L, I64 s.x ∧ I64 s.y ∧ I64 s.l ∧ I64 s.lo ∧ I64 s.hi) ∧ SgtsH w A L := by
  obtain ⟨A, n, c, f, rfl, h2, h3, h4, h5⟩ := open_slV Try.underlying22 avSight (by decide) hv h
  haveI : Inhabited Sgt := ⟨sg0⟩
  obtain ⟨g, hg⟩ := choose_lt (α := Sgt) (p := fun i s => (I64 s.x ∧ I64 s.y ∧ I64 s.l ∧ I64 s.lo ∧ I64 s.hi) ∧ f i = [.int .i64 s.x, .int .i64 s.y, .int .i64 s.l, .int .i64 s.lo, .int .i64 s.hi]) (fun i hi => by
    obtain ⟨s, a1, a2, a3, a4, a5, a6⟩ := (h4 i hi).2
    exact ⟨s, ⟨a1, a2, a3, a4, a5⟩, a6⟩)
  have hget : ∀ i, i < n → ((List.range n).map g).getD i sg0 = g i := fun i hi => by simp [List.getD, hi]
  refine ⟨A, n, c, (List.range n).map g, rfl, by simp, by omega, h2, h3, fun e he => ?_, fun hn => ?_⟩
  · obtain ⟨i, hi, rfl⟩ := List.mem_map.1 he
    exact (hg i (List.mem_range.1 hi)).1
  · have hn' : 0 < n := by simpa using hn
    obtain ⟨b, off, e1, e2, e3⟩ := h5 hn'
    refine ⟨b, off, e1, e2, fun i hi => ?_⟩
    have hi' : i < n := by simpa using hi
    have ec := (hg i hi').2
    rw [hget i hi']
    exact ⟨e3 i hi' 0 _ (by rw [ec]; rfl), e3 i hi' 1 _ (by rw [ec]; rfl), e3 i hi' 2 _ (by rw [ec]; rfl), e3 i hi' 3 _ (by rw [ec]; rfl), e3 i hi' 4 _ (by rw [ec]; rfl)⟩
end
end Go.Proofs.Ytllpffkifleigaa
