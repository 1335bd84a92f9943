/-
  WindOutliers answers true for all eyes and winds: two wrong sights are found and left out, no smaller set does; a front between two winds is found, and its parts agree.
  No condition: every input that the row reads.
-/
import Derived.Test.YtllpffkifleigaaRows
import Derived.Test.YtllpffkifleigaaWdOut
import Derived.Test.YtllpffkifleigaaOpenE
set_option linter.unusedSimpArgs false
set_option linter.unusedVariables false
namespace Go.Proofs.Ytllpffkifleigaa
open Go Go.RowKit Go.ChangeShapes Go.WideShapes Go.Deep Go.ChangeAt

theorem ownWindOutliers : ownKnob Try.prog.godebug = none := by kernel_rfl
theorem laidOutWindOutliers : laidOutB Try.prog = true := by kernel_rfl

set_option maxRecDepth 100000 in
theorem liftedWindOutliers (os : Os) (started : os.Started) (H : Type) (enc : TypeId × Value → H) :
    ReturnsInHanded {} Try.checked os 8 .any (Rows.windOutliersSpec.pre6 enc Try.prog Try.f8 Rows.windOutliersRow.domain false) (Rows.windOutliersSpec.post enc Try.prog Try.f8 false true false false) := by
  refine returnsInHanded_of_change (C := Try.checked) ownWindOutliers started (by kernel_rfl) Try.func8
    (ChangeSpec.witness6 (enc := enc) (C := Try.checked) false ⟨#[], #[.slice none 0 0, .int .i16 0, .int .i16 0, .int .i16 0, .int .i16 0, .int .u8 0, .int .u8 0], []⟩ 8 (by kernel_rfl) (by kernel_rfl) (by kernel_rfl) (by kernel_rfl)) ?_
  intro W base args ds gs before hval0 hW hcnd _
  have hval : ∀ (j : Nat) t v, Try.f8.params[j]? = some t → args[j]? = some v → Value.okWide Try.prog W .any base t v := hval0
  have hW' := hW
  obtain ⟨p, q, hA0, hV, rfl, hfz, hnd⟩ := hW
  have hA : DataW.TrodAll enc Try.prog W 0 (fun _ => true) true Try.f8.params.toList args.toList ds p := hA0
  rw [Try.params8] at hA hval
  have hAk := hA
  obtain ⟨v0, vs0, d0, ds0, p0, q0, hargs, rfl, rfl, h0, r0⟩ := trodAll_cons hA
  obtain ⟨v1, vs1, d1, ds1, p1, q1, rfl, rfl, rfl, h1, r1⟩ := trodAll_cons r0
  obtain ⟨v2, vs2, d2, ds2, p2, q2, rfl, rfl, rfl, h2, r2⟩ := trodAll_cons r1
  obtain ⟨v3, vs3, d3, ds3, p3, q3, rfl, rfl, rfl, h3, r3⟩ := trodAll_cons r2
  obtain ⟨v4, vs4, d4, ds4, p4, q4, rfl, rfl, rfl, h4, r4⟩ := trodAll_cons r3
  obtain ⟨v5, vs5, d5, ds5, p5, q5, rfl, rfl, rfl, h5, r5⟩ := trodAll_cons r4
  obtain ⟨v6, vs6, d6, ds6, p6, q6, rfl, rfl, rfl, h6, r6⟩ := trodAll_cons r5
  obtain ⟨rfl, rfl, rfl⟩ := trodAll_nil r6
  obtain rfl : args = #[v0, v1, v2, v3, v4, v5, v6] := by cases args; simp_all
  obtain ⟨rfl, rfl⟩ := trodVars_none hV
  obtain ⟨A, n, c, E, rfl, hn, hmax, he, hEy⟩ := open_eyes (hval 0 _ v0 rfl rfl) h0
  obtain ⟨u, rfl, rfl, rfl, w1⟩ := open_int Try.underlying59 (hval 1 _ v1 rfl rfl) h1
  obtain ⟨v, rfl, rfl, rfl, w2⟩ := open_int Try.underlying59 (hval 2 _ v2 rfl rfl) h2
  obtain ⟨p, rfl, rfl, rfl, w3⟩ := open_int Try.underlying59 (hval 3 _ v3 rfl rfl) h3
  obtain ⟨q, rfl, rfl, rfl, w4⟩ := open_int Try.underlying59 (hval 4 _ v4 rfl rfl) h4
  obtain ⟨one, rfl, rfl, rfl, w5⟩ := open_int Try.underlying5 (hval 5 _ v5 rfl rfl) h5
  obtain ⟨two, rfl, rfl, rfl, w6⟩ := open_int Try.underlying5 (hval 6 _ v6 rfl rfl) h6
  clear hA0 hval0
  refine (WindOutliers_any A n c E u v p q one two W hn hmax he hEy (wE_i16 w1) (wE_i16 w2) (wE_i16 w3) (wE_i16 w4) (wE_u8 w5) (wE_u8 w6)).mono fun e W' ⟨he, bel⟩ => ?_
  subst he
  exact ⟨_, rfl, _, _, _, [], _, [], hW', trodAll_mk1 (shut_bool Try.underlying4 _), trodAll_below laidOutWindOutliers bel (by kernel_rfl) hAk, rfl, bel.frame _, fun h => by cases h⟩

theorem WindOutliers_holds : Rows.WindOutliersSaid :=
  OpenClaim.holds_of_wide 8 Try.f8 rfl rfl rfl rfl rfl rfl rfl ⟨rfl, rfl, rfl, rfl, rfl⟩ rfl rfl rfl rfl rfl (by kernel_rfl) Try.func8 (by kernel_rfl)
    (of_decide_eq_true (by kernel_rfl)) (by unfold Func.isWrapper; first | (rw [if_pos (by decide +kernel)]; kernel_rfl) | (rw [if_neg (by decide +kernel)]; exact ⟨rfl, rfl⟩))
    (fun os started H enc _ => liftedWindOutliers os started H enc)
#print axioms WindOutliers_holds
end Go.Proofs.Ytllpffkifleigaa
