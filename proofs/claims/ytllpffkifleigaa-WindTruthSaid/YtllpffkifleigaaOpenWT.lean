/-
  The arguments of the laws about winds, opened: eyes, small integers.
  A slice of bytes, opened.
-/
import Derived.Test.YtllpffkifleigaaWdTruQ
import Derived.Test.YtllpffkifleigaaOpenV
import Derived.Test.YtllpffkifleigaaRows
import Derived.Test.YtllpffkifleigaaLoopsOf
set_option linter.unusedSimpArgs false
set_option linter.unusedVariables false
section
namespace Go.Proofs.Ytllpffkifleigaa
open Go Go.RowKit Go.ChangeShapes Go.WideShapes Go.Deep

theorem wE_u16 {n : Int} (h : (Lit.int .u16 n).wf = true) : 0 ≤ n ∧ n ≤ 65535 := by
  simp only [Lit.wf, Bool.and_eq_true, decide_eq_true_eq] at h
  exact ⟨h.1, h.2⟩
theorem wE_u8 {n : Int} (h : (Lit.int .u8 n).wf = true) : 0 ≤ n ∧ n ≤ 255 := by
  simp only [Lit.wf, Bool.and_eq_true, decide_eq_true_eq] at h
  exact ⟨h.1, h.2⟩
theorem wE_i8 {n : Int} (h : (Lit.int .i8 n).wf = true) : -128 ≤ n ∧ n ≤ 127 := by
  simp only [Lit.wf, Bool.and_eq_true, decide_eq_true_eq] at h
  exact ⟨h.1, h.2⟩
theorem wE_i16 {n : Int} (h : (Lit.int .i16 n).wf = true) : -32768 ≤ n ∧ n ≤ 32767 := by
  simp only [Lit.wf, Bool.and_eq_true, decide_eq_true_eq] at h
  exact ⟨h.1, h.2⟩
theorem avE16 : AllV Try.prog 66 1 (fun cs => ∃ z, cs = [.int .u16 z] ∧ (Lit.int .u16 z).wf = true) := allV_int Try.underlying66 (by kernel_rfl)
theorem avE8 : AllV Try.prog 5 1 (fun cs => ∃ z, cs = [.int .u8 z] ∧ (Lit.int .u8 z).wf = true) := allV_int Try.underlying5 (by kernel_rfl)
set_option maxRecDepth 100000 in
theorem avEye : AllV Try.prog 77 4 (fun cs => ∃ e : EyeN, EyeOk e ∧ cs = [.int .u8 e.ro, .int .u8 e.di, .int .u16 e.le, .int .u16 e.mo]) := by
  refine ⟨by kernel_rfl, fun H enc w base spare held n cs y h => ?_⟩
  obtain ⟨hl, hf⟩ := read_structV Try.underlying77 (by kernel_rfl : Try.prog.cellsOf 77 = 4) h
  refine ⟨hl, ?_⟩
  obtain ⟨c0, r0, rfl, h0⟩ := len1 hl
  obtain ⟨c1, r1, rfl, h1⟩ := len1 h0
  obtain ⟨c2, r2, rfl, h2⟩ := len1 h1
  obtain ⟨c3, r3, rfl, h3⟩ := len1 h2
  obtain rfl := len0 h3
  obtain ⟨z0, e0, w0⟩ := hf 0 _ 1 _ rfl avE8
  obtain ⟨z1, e1, w1⟩ := hf 1 _ 1 _ rfl avE8
  obtain ⟨z2, e2, w2⟩ := hf 2 _ 1 _ rfl avE16
  obtain ⟨z3, e3, w3⟩ := hf 3 _ 1 _ rfl avE16
  simp at e0 e1 e2 e3
  subst e0 e1 e2 e3
  exact ⟨⟨z0, z1, z2, z3⟩, ⟨(wE_u8 w0).1, (wE_u8 w0).2, (wE_u8 w1).1, (wE_u8 w1).2, (wE_u16 w2).1, (wE_u16 w2).2, (wE_u16 w3).1, (wE_u16 w3).2⟩, rfl⟩
section
variable {H : Type} {enc : TypeId × Value → H} {w : World} {base : Nat} {spare : Nat → Bool} {held : Bool}
instance : Inhabited EyeN := ⟨eye0⟩
set_option maxRecDepth 100000 in
theorem open_eyes {r : Reach} {b0 : Nat} {v : Value} {d : DataW H} {ps : List MemPlace} (hv : Value.okWide Try.prog w r b0 58 v) (h : DataW.Trod enc Try.prog w base spare held 58 v d ps) :
    ∃ (A : Option Addr) (n c : Nat) (E : List EyeN), v = .slice A n c ∧ E.length = n ∧ n ≤ maxLen ∧ (∀ e ∈ E, EyeOk e) ∧ EyesAt w w.heap.size A E := by
  obtain ⟨A, n, c, f, rfl, h2, h3, h4, h5⟩ := open_slV Try.underlying58 avEye (by decide) hv h
  obtain ⟨g, hg⟩ := choose_lt (α := EyeN) (p := fun i x => EyeOk x ∧ f i = [.int .u8 x.ro, .int .u8 x.di, .int .u16 x.le, .int .u16 x.mo]) (fun i hi => (h4 i hi).2)
  have hget : ∀ i, i < n → ((List.range n).map g).getD i eye0 = g i := fun i hi => by simp [List.getD, hi]
  refine ⟨A, n, c, (List.range n).map g, rfl, by simp, by omega, fun e he => ?_, fun hn => ?_⟩
  · obtain ⟨i, hi, rfl⟩ := List.mem_map.1 he
    exact (hg i (List.mem_range.1 hi)).1
  · have hn' : 0 < n := by simpa using hn
    obtain ⟨b, off, e1, e2, e3⟩ := h5 hn'
    refine ⟨b, off, e1, e2, fun i hi => ?_⟩
    have hi' : i < n := by simpa using hi
    have ec := (hg i hi').2
    rw [hget i hi']
    exact ⟨e3 i hi' 0 _ (by rw [ec]; rfl), e3 i hi' 1 _ (by rw [ec]; rfl), e3 i hi' 2 _ (by rw [ec]; rfl), e3 i hi' 3 _ (by rw [ec]; rfl)⟩
end
end Go.Proofs.Ytllpffkifleigaa
end
section
namespace Go.Proofs.Ytllpffkifleigaa
open Go Go.RowKit Go.ChangeShapes Go.WideShapes Go.Deep

section
variable {H : Type} {enc : TypeId × Value → H} {w : World} {base : Nat} {spare : Nat → Bool} {held : Bool}
set_option maxRecDepth 100000 in
theorem open_bytesW {r : Reach} {b0 : Nat} {v : Value} {d : DataW H} {ps : List MemPlace} (hv : Value.okWide Try.prog w r b0 110 v) (h : DataW.Trod enc Try.prog w base spare held 110 v d ps) :
    ∃ (A : Option Addr) (n c : Nat) (Z : List Int), v = .slice A n c ∧ Z.length = n ∧ n ≤ maxLen ∧ (∀ z ∈ Z, 0 ≤ z ∧ z ≤ 255) ∧ Ints w w.heap.size .u8 A Z := by
  obtain ⟨A, n, c, f, rfl, h2, h3, h4, h5⟩ := open_slV Try.underlying110 avE8 (by decide) hv h
  obtain ⟨g, hg⟩ := choose_lt (α := Int) (p := fun i x => f i = [.int .u8 x] ∧ (Lit.int .u8 x).wf = true) (fun i hi => (h4 i hi).2)
  have hget : ∀ i, i < n → ((List.range n).map g).getD i 0 = g i := fun i hi => by simp [List.getD, hi]
  refine ⟨A, n, c, (List.range n).map g, rfl, by simp, by omega, fun e he => ?_, fun hn => ?_⟩
  · obtain ⟨i, hi, rfl⟩ := List.mem_map.1 he
    exact wE_u8 (hg i (List.mem_range.1 hi)).2
  · have hn' : 0 < n := by simpa using hn
    obtain ⟨b, off, e1, e2, e3⟩ := h5 hn'
    refine ⟨b, off, e1, e2, fun i hi => ?_⟩
    have hi' : i < n := by simpa using hi
    have ec := (hg i hi').1
    rw [hget i hi']
    have := e3 i hi' 0 _ (by rw [ec]; rfl)
    simpa using this
end
end Go.Proofs.Ytllpffkifleigaa
end
