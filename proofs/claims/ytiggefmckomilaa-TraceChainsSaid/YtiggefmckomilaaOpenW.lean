/-
  The arguments of the laws about traces, opened: lists of acts.
-/
import Derived.Test.YtiggefmckomilaaActF
import Derived.Test.YtiggefmckomilaaRows
set_option linter.unusedSimpArgs false
set_option linter.unusedVariables false
namespace Go.Proofs.Ytiggefmckomilaa
open Go Go.RowKit Go.ChangeShapes Go.WideShapes Go.Deep

theorem wfT_i64 {n : Int} (h : (Lit.int .i64 n).wf = true) : -9223372036854775808 ≤ n ∧ n ≤ 9223372036854775807 := by
  simp only [Lit.wf, Bool.and_eq_true, decide_eq_true_eq] at h
  exact ⟨h.1, h.2⟩
theorem wfA_u8 {n : Int} (h : (Lit.int .u8 n).wf = true) : 0 ≤ n ∧ n ≤ 255 := by
  simp only [Lit.wf, Bool.and_eq_true, decide_eq_true_eq] at h
  exact ⟨h.1, h.2⟩
theorem avInt : AllV Try.prog 3 1 (fun cs => ∃ z, cs = [.int .i64 z] ∧ (Lit.int .i64 z).wf = true) := allV_int Try.underlying3 (by kernel_rfl)
theorem avStr : AllV Try.prog 9 1 (fun cs => ∃ s : ByteArray, cs = [.string s] ∧ s.size ≤ maxLen) := allV_string Try.underlying9 (by kernel_rfl)
set_option maxRecDepth 100000 in
theorem avSpan : AllV Try.prog 23 2 (fun cs => ∃ lo hi, cs = [.int .i64 lo, .int .i64 hi]) := by
  refine ⟨by kernel_rfl, fun H enc w base spare held n cs y h => ?_⟩
  obtain ⟨hl, hf⟩ := read_structV Try.underlying23 (by kernel_rfl : Try.prog.cellsOf 23 = 2) h
  refine ⟨hl, ?_⟩
  obtain ⟨c0, r0, rfl, h0⟩ := len1 hl
  obtain ⟨c1, r1, rfl, h1⟩ := len1 h0
  obtain rfl := len0 h1
  obtain ⟨z0, e0, w0⟩ := hf 0 _ 1 _ rfl avInt
  obtain ⟨z1, e1, w1⟩ := hf 1 _ 1 _ rfl avInt
  simp at e0 e1
  subst e0 e1
  exact ⟨z0, z1, rfl⟩
set_option maxRecDepth 100000 in
theorem avAct : AllV Try.prog 59 8 (fun cs => ∃ a : ActR, ActOk a ∧ cs = actL a) := by
  refine ⟨by kernel_rfl, fun H enc w base spare held n cs y h => ?_⟩
  obtain ⟨hl, hf⟩ := read_structV Try.underlying59 (by kernel_rfl : Try.prog.cellsOf 59 = 8) h
  refine ⟨hl, ?_⟩
  obtain ⟨c0, r0, rfl, h0⟩ := len1 hl
  obtain ⟨c1, r1, rfl, h1⟩ := len1 h0
  obtain ⟨c2, r2, rfl, h2⟩ := len1 h1
  obtain ⟨c3, r3, rfl, h3⟩ := len1 h2
  obtain ⟨c4, r4, rfl, h4⟩ := len1 h3
  obtain ⟨c5, r5, rfl, h5⟩ := len1 h4
  obtain ⟨c6, r6, rfl, h6⟩ := len1 h5
  obtain ⟨c7, r7, rfl, h7⟩ := len1 h6
  obtain rfl := len0 h7
  obtain ⟨z0, e0, w0⟩ := hf 0 _ 1 _ rfl avInt
  obtain ⟨z1, e1, w1⟩ := hf 1 _ 1 _ rfl avStr
  obtain ⟨z2, e2, w2⟩ := hf 2 _ 1 _ rfl avStr
  obtain ⟨z3, z4, e3⟩ := hf 3 _ 2 _ rfl avSpan
  obtain ⟨z5, e5, w5⟩ := hf 4 _ 1 _ rfl avInt
  obtain ⟨z6, e6, w6⟩ := hf 5 _ 1 _ rfl avInt
  obtain ⟨z7, e7, w7⟩ := hf 6 _ 1 _ rfl avInt
  simp at e0 e1 e2 e3 e5 e6 e7
  obtain ⟨rfl, rfl⟩ := e3
  subst e0 e1 e2 e5 e6 e7
  exact ⟨⟨z0, z1, z2, _, _, z5, z6, z7⟩, ⟨(wfT_i64 w0).1, (wfT_i64 w0).2, w1, w2⟩, rfl⟩
section
variable {H : Type} {enc : TypeId × Value → H} {w : World} {base : Nat} {spare : Nat → Bool} {held : Bool}
set_option maxRecDepth 100000 in
theorem open_acts {r : Reach} {b0 : Nat} {v : Value} {d : DataW H} {ps : List MemPlace} (hv : Value.okWide Try.prog w r b0 56 v) (h : DataW.Trod enc Try.prog w base spare held 56 v d ps) :
    ∃ (A : Option Addr) (n c : Nat) (ac : Nat → ActR), v = .slice A n c ∧ n ≤ maxLen ∧ Rows_ w w.heap.size A n 8 (fun i => actL (ac i)) ∧ ∀ i, ActOk (ac i) := by
  obtain ⟨A, n, c, f, h1, h2, h3, h4, h5⟩ := open_slV Try.underlying56 avAct (by decide) hv h
  have z : ActOk ⟨0, ⟨#[]⟩, ⟨#[]⟩, 0, 0, 0, 0, 0⟩ := by constructor <;> decide
  have ex : ∀ i, ∃ x : ActR, ActOk x ∧ (i < n → f i = actL x) := fun i => by
    by_cases hi : i < n
    · obtain ⟨x, hx, e⟩ := (h4 i hi).2
      exact ⟨x, hx, fun _ => e⟩
    · exact ⟨_, z, fun h => absurd h hi⟩
  refine ⟨A, n, c, fun i => Classical.choose (ex i), h1, Nat.le_trans h2 h3, fun hn => ?_, fun i => (Classical.choose_spec (ex i)).1⟩
  obtain ⟨b, off, e, hl, hc⟩ := h5 hn
  exact ⟨b, off, e, hl, fun i hi j v hv => hc i hi j v (by rw [(Classical.choose_spec (ex i)).2 hi]; exact hv)⟩
end
end Go.Proofs.Ytiggefmckomilaa
