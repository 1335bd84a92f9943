/-
  BeamChecks answers true for every site and every field: names, sites, grids and fields are checked as the reference checks them.
  No condition: every input that the row reads.
-/
import Derived.Test.YthhhecidogcmjaaRows
import Derived.Test.YthhhecidogcmjaaBeamChecksL
import Derived.Test.YthhhecidogcmjaaOpenS
namespace Go.Proofs.Ythhhecidogcmjaa
open Go Go.RowKit Go.ChangeShapes Go.WideShapes Go.Deep Go.ChangeAt

theorem ownBeamChecks : ownKnob Try.prog.godebug = none := by kernel_rfl
theorem laidOutBeamChecks : laidOutB Try.prog = true := by kernel_rfl

set_option maxRecDepth 100000 in
theorem liftedBeamChecks (os : Os) (started : os.Started) (H : Type) (enc : TypeId × Value → H) :
    ReturnsInHanded {} Try.checked os 5 .any (Rows.beamChecksSpec.pre6 enc Try.prog Try.f5 Rows.beamChecksRow.domain false) (Rows.beamChecksSpec.post enc Try.prog Try.f5 false true false false) := by
  refine returnsInHanded_of_change (C := Try.checked) ownBeamChecks started (by kernel_rfl) Try.func5
    (ChangeSpec.witness6 (enc := enc) (C := Try.checked) false ⟨#[], #[.agg #[.string ⟨#[]⟩, .int .i64 0, .int .i64 0, .int .i64 0, .int .i64 0, .int .i64 0, .int .i64 0, .int .i64 0], .agg #[.int .i64 0, .int .i64 0, .int .i64 0, .int .i64 0, .int .i64 0, .slice none 0 0]], []⟩ 8 (by kernel_rfl) (by kernel_rfl) (by kernel_rfl) (by kernel_rfl)) ?_
  intro W base args ds gs before hval0 hW hcnd _
  have hval : ∀ (j : Nat) t v, Try.f5.params[j]? = some t → args[j]? = some v → Value.okWide Try.prog W .any base t v := hval0
  have hW' := hW
  obtain ⟨p, q, hA0, hV, rfl, hfz, hnd⟩ := hW
  have hA : DataW.TrodAll enc Try.prog W 0 (fun _ => true) true Try.f5.params.toList args.toList ds p := hA0
  rw [Try.params5] at hA hval
  have hAk := hA
  obtain ⟨v0, vs0, d0, ds0, p0, q0, hargs, rfl, rfl, h0, r0⟩ := trodAll_cons hA
  obtain ⟨v1, vs1, d1, ds1, p1, q1, rfl, rfl, rfl, h1, r1⟩ := trodAll_cons r0
  obtain ⟨rfl, rfl, rfl⟩ := trodAll_nil r1
  obtain rfl : args = #[v0, v1] := by cases args; simp_all
  obtain ⟨rfl, rfl⟩ := trodVars_none hV
  obtain ⟨s, x, y, z, r, g, st, wd, rfl, hs, -, -, -, -, -, -, -⟩ := open_site (hval 0 _ v0 rfl rfl) h0
  obtain ⟨fx, fy, sz, wi, hi, A, n, c, l, rfl, hn, hmax, hl, -, -, -, -, -, -⟩ := open_field (hval 1 _ v1 rfl rfl) h1
  clear hA0 hval0
  unfold maxLen at hmax hs
  refine (BeamChecks_any s x y z r g st wd fx fy sz wi hi A n c l W (by omega) hn (by omega) hl).mono fun e W' ⟨he, bel⟩ => ?_
  subst he
  exact ⟨_, rfl, _, _, _, [], _, [], hW', trodAll_mk1 (shut_bool Try.underlying4 _), trodAll_below laidOutBeamChecks bel (by kernel_rfl) hAk, rfl, bel.frame _, fun h => by cases h⟩

theorem BeamChecks_holds : Rows.BeamChecksSaid :=
  OpenClaim.holds_of_wide 5 Try.f5 rfl rfl rfl rfl rfl rfl rfl ⟨rfl, rfl, rfl, rfl, rfl⟩ rfl rfl rfl rfl rfl (by kernel_rfl) Try.func5 (by kernel_rfl)
    (of_decide_eq_true (by kernel_rfl)) (by unfold Func.isWrapper; first | (rw [if_pos (by decide +kernel)]; kernel_rfl) | (rw [if_neg (by decide +kernel)]; exact ⟨rfl, rfl⟩))
    (fun os started H enc _ => liftedBeamChecks os started H enc)
#print axioms BeamChecks_holds
end Go.Proofs.Ythhhecidogcmjaa
