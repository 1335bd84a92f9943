/-
  Keys of maps: areas of the earlier and the later map, areas of maps, numbers.
-/
import Derived.Test.YtidbjidcjmbnlaaProg
import Derived.Test.YtidbjidcjmbnlaaMapK
import Derived.Test.YtidbjidcjmbnlaaTmCount
set_option linter.unusedSimpArgs false
set_option linter.unusedVariables false
namespace Go.Proofs.Ytidbjidcjmbnlaa
open Go Go.RowKit Go.WideShapes Go.WideMaps
open Go.Maps (Keyed)

theorem laidOut : laidOutB Try.prog = true := by kernel_rfl
def ndV (x : Nd) : Value := .agg #[.bool x.1, .int .i64 (x.2 : Nat)]
def ndL (x : Nd) : Lit := .string (keyBytes [.bool x.1, .int .i64 (x.2 : Nat)])
def plV (x : Nat × Nat) : Value := .agg #[.int .i64 (x.1 : Nat), .int .i64 (x.2 : Nat)]
def plL (x : Nat × Nat) : Lit := .string (keyBytes [.int .i64 (x.1 : Nat), .int .i64 (x.2 : Nat)])
def okNd (x : Nd) : Prop := x.2 ≤ 1000000
def okPl (x : Nat × Nat) : Prop := x.1 ≤ 1000000 ∧ x.2 ≤ 1000000
theorem wfN {n : Nat} (h : n ≤ 1000000) : (Lit.int .i64 (n : Nat)).wf = true := by
  have e1 : IntKind.i64.min = -9223372036854775808 := rfl
  have e2 : IntKind.i64.max = 9223372036854775807 := rfl
  simp [Lit.wf, e1, e2]
  omega
theorem typesSz : ∃ m, Try.prog.types.size = m + 2 := ⟨Try.prog.types.size - 2, by
  have : decide (2 ≤ Try.prog.types.size) = true := by kernel_rfl
  have := of_decide_eq_true this
  omega⟩
theorem ndKeyOf_t : Try.prog.keyType 142 = true := by kernel_rfl
theorem ndKeyOf_c : Try.prog.cellsOf 142 = 2 := by kernel_rfl
theorem ndKeyOf_r : (142 : TypeId) < Try.prog.types.size := of_decide_eq_true (by kernel_rfl)
theorem ndKeyOf_w : (match Try.prog.underlying 142 with | some (.array _ _) | some (.struct _) => true | _ => false) = true := by kernel_rfl
set_option maxRecDepth 100000 in
theorem ndKeyOf_l : KeyLaw Try.prog 142 := deep_law_laid laidOut (m := 2) (by omega) ndKeyOf_r (by kernel_rfl) ndKeyOf_w
theorem plKeyOf_t : Try.prog.keyType 118 = true := by kernel_rfl
theorem plKeyOf_c : Try.prog.cellsOf 118 = 2 := by kernel_rfl
theorem plKeyOf_r : (118 : TypeId) < Try.prog.types.size := of_decide_eq_true (by kernel_rfl)
theorem plKeyOf_w : (match Try.prog.underlying 118 with | some (.array _ _) | some (.struct _) => true | _ => false) = true := by kernel_rfl
set_option maxRecDepth 100000 in
theorem plKeyOf_l : KeyLaw Try.prog 118 := deep_law_laid laidOut (m := 2) (by omega) plKeyOf_r (by kernel_rfl) plKeyOf_w
theorem int_c : Try.prog.cellsOf 3 = 1 := by kernel_rfl
theorem bool_c : Try.prog.cellsOf 4 = 1 := by kernel_rfl
theorem ndKeyOf (x : Nd) (h : okNd x) : keyOf Try.prog 142 (ndV x) = some (ndL x) := by
  have wa := wfN h
  obtain ⟨m, hm⟩ := typesSz
  unfold keyOf ndV ndL
  simp only [Try.underlying142]
  rw [if_pos (by simp [ndKeyOf_t, Value.formed, Try.underlying142, ndKeyOf_c]), hm]
  unfold Program.keyLits
  simp only [Try.underlying142, Value.cells]
  rw [if_pos ⟨by rw [ndKeyOf_c]; rfl, by kernel_rfl⟩]
  simp [Program.keyLits, Try.underlying4, Try.underlying3, int_c, bool_c, wa]
theorem plKeyOf (x : Nat × Nat) (h : okPl x) : keyOf Try.prog 118 (plV x) = some (plL x) := by
  have wa := wfN h.1
  have wb := wfN h.2
  obtain ⟨m, hm⟩ := typesSz
  unfold keyOf plV plL
  simp only [Try.underlying118]
  rw [if_pos (by simp [plKeyOf_t, Value.formed, Try.underlying118, plKeyOf_c]), hm]
  unfold Program.keyLits
  simp only [Try.underlying118, Value.cells]
  rw [if_pos ⟨by rw [plKeyOf_c]; rfl, by kernel_rfl⟩]
  simp [Program.keyLits, Try.underlying3, int_c, wa, wb]
theorem ndV_inj {x y : Nd} (h : ndV x = ndV y) : x = y := by
  unfold ndV at h
  simp only [Value.agg.injEq, Array.mk.injEq, List.cons.injEq, Value.bool.injEq, Value.int.injEq, true_and, and_true] at h
  exact Prod.ext h.1 (by omega)
theorem plV_inj {x y : Nat × Nat} (h : plV x = plV y) : x = y := by
  unfold plV at h
  simp only [Value.agg.injEq, Array.mk.injEq, List.cons.injEq, Value.int.injEq, true_and, and_true] at h
  exact Prod.ext (by omega) (by omega)
theorem ndKey : KeyF Try.prog 142 ndV ndL okNd where
  law := Keyed.of_law ndKeyOf_l
  of := ndKeyOf
  inj s t hs ht e := ndV_inj ((Keyed.of_law ndKeyOf_l).inj (ndKeyOf s hs) (by rw [e]; exact ndKeyOf t ht))
theorem plKey : KeyF Try.prog 118 plV plL okPl where
  law := Keyed.of_law plKeyOf_l
  of := plKeyOf
  inj s t hs ht e := plV_inj ((Keyed.of_law plKeyOf_l).inj (plKeyOf s hs) (by rw [e]; exact plKeyOf t ht))
/-- Numbers as keys. -/
def nmV (n : Nat) : Value := .int .i64 (n : Nat)
def nmL (n : Nat) : Lit := .int .i64 (n : Nat)
def okNm (n : Nat) : Prop := n ≤ 1000000
theorem nmKey : KeyF Try.prog 3 nmV nmL okNm where
  law := Maps.int_keyed Try.underlying3
  of s hs := Maps.keyOf_int_mk Try.underlying3 (wfN hs)
  inj s t _ _ e := by
    have := (Lit.int.inj e).2
    omega
end Go.Proofs.Ytidbjidcjmbnlaa
