/-
  TraceCorrects answers true for all powers and gains: corrected powers are those of the reference.
  No condition: every input that the row reads.
-/
import Derived.Test.YtiggefmckomilaaRows
import Derived.Test.YtiggefmckomilaaTraceCorrL
import Derived.Test.YtiggefmckomilaaOpenT
namespace Go.Proofs.Ytiggefmckomilaa
open Go Go.RowKit Go.ChangeShapes Go.WideShapes Go.Deep Go.ChangeAt

theorem ownTraceCorrects : ownKnob Try.prog.godebug = none := by kernel_rfl
theorem laidOutTraceCorrects : laidOutB Try.prog = true := by kernel_rfl

set_option maxRecDepth 100000 in
theorem liftedTraceCorrects (os : Os) (started : os.Started) (H : Type) (enc : TypeId × Value → H) :
    ReturnsInHanded {} Try.checked os 3 .any (Rows.traceCorrectsSpec.pre6 enc Try.prog Try.f3 Rows.traceCorrectsRow.domain false) (Rows.traceCorrectsSpec.post enc Try.prog Try.f3 false true false false) := by
  refine returnsInHanded_of_change (C := Try.checked) ownTraceCorrects started (by kernel_rfl) Try.func3
    (ChangeSpec.witness6 (enc := enc) (C := Try.checked) false ⟨#[], #[.agg #[.int .i64 0, .int .i64 0], .agg #[.int .i64 0, .int .i64 0]], []⟩ 8 (by kernel_rfl) (by kernel_rfl) (by kernel_rfl) (by kernel_rfl)) ?_
  intro W base args ds gs before hval0 hW hcnd _
  have hval : ∀ (j : Nat) t v, Try.f3.params[j]? = some t → args[j]? = some v → Value.okWide Try.prog W .any base t v := hval0
  have hW' := hW
  obtain ⟨p, q, hA0, hV, rfl, hfz, hnd⟩ := hW
  have hA : DataW.TrodAll enc Try.prog W 0 (fun _ => true) true Try.f3.params.toList args.toList ds p := hA0
  rw [Try.params3] at hA hval
  have hAk := hA
  obtain ⟨v0, vs0, d0, ds0, p0, q0, hargs, rfl, rfl, h0, r0⟩ := trodAll_cons hA
  obtain ⟨v1, vs1, d1, ds1, p1, q1, rfl, rfl, rfl, h1, r1⟩ := trodAll_cons r0
  obtain ⟨rfl, rfl, rfl⟩ := trodAll_nil r1
  obtain rfl : args = #[v0, v1] := by cases args; simp_all
  obtain ⟨rfl, rfl⟩ := trodVars_none hV
  obtain ⟨p1, p2, rfl⟩ := open_span (hval 0 _ v0 rfl rfl) h0
  obtain ⟨g1, g2, rfl⟩ := open_span (hval 1 _ v1 rfl rfl) h1
  clear hA0 hval0
  refine (TraceCorrects_any p1 p2 g1 g2 W).mono fun e W' ⟨he, bel⟩ => ?_
  subst he
  exact ⟨_, rfl, _, _, _, [], _, [], hW', trodAll_mk1 (shut_bool Try.underlying4 _), trodAll_below laidOutTraceCorrects bel (by kernel_rfl) hAk, rfl, bel.frame _, fun h => by cases h⟩

theorem TraceCorrects_holds : Rows.TraceCorrectsSaid :=
  OpenClaim.holds_of_wide 3 Try.f3 rfl rfl rfl rfl rfl rfl rfl ⟨rfl, rfl, rfl, rfl, rfl⟩ rfl rfl rfl rfl rfl (by kernel_rfl) Try.func3 (by kernel_rfl)
    (of_decide_eq_true (by kernel_rfl)) (by unfold Func.isWrapper; first | (rw [if_pos (by decide +kernel)]; kernel_rfl) | (rw [if_neg (by decide +kernel)]; exact ⟨rfl, rfl⟩))
    (fun os started H enc _ => liftedTraceCorrects os started H enc)
#print axioms TraceCorrects_holds
end Go.Proofs.Ytiggefmckomilaa
