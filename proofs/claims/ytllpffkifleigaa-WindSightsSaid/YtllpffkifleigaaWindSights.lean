/-
  WindSights answers true for all sites, tilts, rays, spans and places: the sights of gates, rings and places, or the errors, are the document's.
  No condition: every input that the row reads. That the two lengths add up to a number of the machine follows from the row's own bound on slices.
-/
import Derived.Test.YtllpffkifleigaaRows
import Derived.Test.YtllpffkifleigaaWdSigT
import Derived.Test.YtllpffkifleigaaOpenWS
set_option linter.unusedSimpArgs false
set_option linter.unusedVariables false
namespace Go.Proofs.Ytllpffkifleigaa
open Go Go.RowKit Go.ChangeShapes Go.WideShapes Go.Deep Go.ChangeAt

theorem ownWindSights : ownKnob Try.prog.godebug = none := by kernel_rfl
theorem laidOutWindSights : laidOutB Try.prog = true := by kernel_rfl

set_option maxRecDepth 100000 in
theorem liftedWindSights (os : Os) (started : os.Started) (H : Type) (enc : TypeId × Value → H) :
    ReturnsInHanded {} Try.checked os 10 .any (Rows.windSightsSpec.pre6 enc Try.prog Try.f10 Rows.windSightsRow.domain false) (Rows.windSightsSpec.post enc Try.prog Try.f10 false true false false) := by
  refine returnsInHanded_of_change_sized (C := Try.checked) ownWindSights started (by kernel_rfl) Try.func10
    (ChangeSpec.witness6 (enc := enc) (C := Try.checked) false ⟨#[], #[.agg #[.string ⟨#[]⟩, .int .i64 0, .int .i64 0, .int .i64 0, .int .i64 0, .int .i64 0, .int .i64 0, .int .i64 0], .int .i64 0, .int .i64 0, .agg #[.int .i64 0, .int .i64 0], .agg #[.int .i64 0, .int .i64 0], .slice none 0 0, .slice none 0 0, .int .i64 0, .int .i64 0], []⟩ 8 (by kernel_rfl) (by kernel_rfl) (by kernel_rfl) (by kernel_rfl)) ?_
  intro W base args ds gs before hval0 hW hcnd hsz _
  have hval : ∀ (j : Nat) t v, Try.f10.params[j]? = some t → args[j]? = some v → Value.okWide Try.prog W .any base t v := hval0
  have hW' := hW
  obtain ⟨p, q, hA0, hV, rfl, hfz, hnd⟩ := hW
  have hA : DataW.TrodAll enc Try.prog W 0 (fun _ => true) true Try.f10.params.toList args.toList ds p := hA0
  rw [Try.params10] at hA hval
  have hAk := hA
  obtain ⟨v0, vs0, d0, ds0, p0, q0, hargs, rfl, rfl, h0, r0⟩ := trodAll_cons hA
  obtain ⟨v1, vs1, d1, ds1, p1, q1, rfl, rfl, rfl, h1, r1⟩ := trodAll_cons r0
  obtain ⟨v2, vs2, d2, ds2, p2, q2, rfl, rfl, rfl, h2, r2⟩ := trodAll_cons r1
  obtain ⟨v3, vs3, d3, ds3, p3, q3, rfl, rfl, rfl, h3, r3⟩ := trodAll_cons r2
  obtain ⟨v4, vs4, d4, ds4, p4, q4, rfl, rfl, rfl, h4, r4⟩ := trodAll_cons r3
  obtain ⟨v5, vs5, d5, ds5, p5, q5, rfl, rfl, rfl, h5, r5⟩ := trodAll_cons r4
  obtain ⟨v6, vs6, d6, ds6, p6, q6, rfl, rfl, rfl, h6, r6⟩ := trodAll_cons r5
  obtain ⟨v7, vs7, d7, ds7, p7, q7, rfl, rfl, rfl, h7, r7⟩ := trodAll_cons r6
  obtain ⟨v8, vs8, d8, ds8, p8, q8, rfl, rfl, rfl, h8, r8⟩ := trodAll_cons r7
  obtain ⟨rfl, rfl, rfl⟩ := trodAll_nil r8
  obtain rfl : args = #[v0, v1, v2, v3, v4, v5, v6, v7, v8] := by cases args; simp_all
  obtain ⟨rfl, rfl⟩ := trodVars_none hV
  obtain ⟨s, x, y, z, r, g, st, wd, rfl, hs⟩ := open_siteW (hval 0 _ v0 rfl rfl) h0
  obtain ⟨t, rfl, rfl, rfl, w1⟩ := open_int Try.underlying3 (hval 1 _ v1 rfl rfl) h1
  obtain ⟨ray, rfl, rfl, rfl, w2⟩ := open_int Try.underlying3 (hval 2 _ v2 rfl rfl) h2
  obtain ⟨slo, shi, rfl, -, -⟩ := open_spanW (hval 3 _ v3 rfl rfl) h3
  obtain ⟨rlo, rhi, rfl, -, -⟩ := open_spanW (hval 4 _ v4 rfl rfl) h4
  obtain ⟨A, n1, c1, Q, rfl, hQ, hm1, hA1, hn1⟩ := open_rays (hval 5 _ v5 rfl rfl) h5
  obtain ⟨B, n2, c2, S, rfl, hS, hm2, hsS, hB1, hn2⟩ := open_seens (hval 6 _ v6 rfl rfl) h6
  obtain ⟨X, rfl, rfl, rfl, w3⟩ := open_int Try.underlying3 (hval 7 _ v7 rfl rfl) h7
  obtain ⟨Y, rfl, rfl, rfl, w4⟩ := open_int Try.underlying3 (hval 8 _ v8 rfl rfl) h8
  clear hA0 hval0
  have z1 := sized_len (j := 5) hsz rfl rfl Try.underlying84 (of_decide_eq_true (by kernel_rfl)) hn1
  have z2 := sized_len (j := 6) hsz rfl rfl Try.underlying85 (of_decide_eq_true (by kernel_rfl)) hn2
  refine (Sights_any A B n1 c1 n2 c2 Q S s x y z r g st wd t ray slo shi rlo rhi X Y W hm1 hm2 hQ hS (by omega) (by unfold maxLen at hs; omega) hsS hA1 hB1).mono fun e W' ⟨he, bel⟩ => ?_
  subst he
  exact ⟨_, rfl, _, _, _, [], _, [], hW', trodAll_mk1 (shut_bool Try.underlying4 _), trodAll_below laidOutWindSights bel (by kernel_rfl) hAk, rfl, bel.frame _, fun h => by cases h⟩

theorem WindSights_holds : Rows.WindSightsSaid :=
  OpenClaim.holds_of_wide 10 Try.f10 rfl rfl rfl rfl rfl rfl rfl ⟨rfl, rfl, rfl, rfl, rfl⟩ rfl rfl rfl rfl rfl (by kernel_rfl) Try.func10 (by kernel_rfl)
    (of_decide_eq_true (by kernel_rfl)) (by unfold Func.isWrapper; first | (rw [if_pos (by decide +kernel)]; kernel_rfl) | (rw [if_neg (by decide +kernel)]; exact ⟨rfl, rfl⟩))
    (fun os started H enc _ => liftedWindSights os started H enc)
#print axioms WindSights_holds
end Go.Proofs.Ytllpffkifleigaa
