/-
  RainMaps answers true for every model, sweep, earth, ground and grid: rain's map of a sweep is that of the reference.
  No condition: every input that the row reads.
-/
import Derived.Test.YtepgpihobmjbdaaGreatRows
import Derived.Test.YtepgpihobmjbdaaGreatMapsL
import Derived.Test.YtepgpihobmjbdaaGreatOpenR
set_option linter.unusedSimpArgs false
set_option linter.unusedVariables false
namespace Go.Proofs.YtepgpihobmjbdaaGreat
open Go Go.RowKit Go.ChangeShapes Go.WideShapes Go.Deep Go.ChangeAt
theorem ownRainMaps : ownKnob Tryz.prog.godebug = none := by kernel_rfl
theorem laidOutRainMaps : laidOutB Tryz.prog = true := by kernel_rfl
set_option maxRecDepth 100000 in
theorem liftedRainMaps (os : Os) (started : os.Started) (H : Type) (enc : TypeId × Value → H) :
  ReturnsInHanded {} Tryz.checked os 4 .any (Rows.rainMapsSpec.pre6 enc Tryz.prog Tryz.f4 Rows.rainMapsRow.domain false) (Rows.rainMapsSpec.post enc Tryz.prog Tryz.f4 false true false false) := by
 refine returnsInHanded_of_change (C := Tryz.checked) ownRainMaps started (by kernel_rfl) Tryz.func4
  (ChangeSpec.witness6 (enc := enc) (C := Tryz.checked) false ⟨#[], #[.agg #[.slice none 0 0, .slice none 0 0, .int .i64 0, .int .i64 0, .int .i64 0, .int .i64 0, .int .i64 0, .int .i64 0], .agg #[.string ⟨#[]⟩, .int .i64 0, .int .i64 0, .int .i64 0, .int .i64 0, .int .i64 0, .int .i64 0, .int .i64 0, .int .i64 0, .int .i64 0, .slice none 0 0], .agg #[.int .i64 0, .int .i64 0], .agg #[.int .i64 0, .int .i64 0, .int .i64 0, .int .i64 0, .int .i64 0, .slice none 0 0], .agg #[.int .i64 0, .int .i64 0, .int .i64 0, .int .i64 0, .int .i64 0]], []⟩ 8 (by kernel_rfl) (by kernel_rfl) (by kernel_rfl) (by kernel_rfl)) ?_
 intro W base args ds gs before hval0 hW hcnd _
 have hval : ∀ (j : Nat) t v, Tryz.f4.params[j]? = some t → args[j]? = some v → Value.okWide Tryz.prog W .any base t v := hval0
 have hW' := hW
 obtain ⟨p, q, hA0, hV, rfl, hfz, hnd⟩ := hW
 have hA : DataW.TrodAll enc Tryz.prog W 0 (fun _ => true) true Tryz.f4.params.toList args.toList ds p := hA0
 rw [Tryz.params4] at hA hval
 have hAk := hA
 obtain ⟨v0, vs0, d0, ds0, p0, q0, hargs, rfl, rfl, h0, r0⟩ := trodAll_cons hA
 obtain ⟨v1, vs1, d1, ds1, p1, q1, rfl, rfl, rfl, h1, r1⟩ := trodAll_cons r0
 obtain ⟨v2, vs2, d2, ds2, p2, q2, rfl, rfl, rfl, h2, r2⟩ := trodAll_cons r1
 obtain ⟨v3, vs3, d3, ds3, p3, q3, rfl, rfl, rfl, h3, r3⟩ := trodAll_cons r2
 obtain ⟨v4, vs4, d4, ds4, p4, q4, rfl, rfl, rfl, h4, r4⟩ := trodAll_cons r3
 obtain ⟨rfl, rfl, rfl⟩ := trodAll_nil r4
 obtain rfl : args = #[v0, v1, v2, v3, v4] := by cases args; simp_all
 obtain ⟨rfl, rfl⟩ := trodVars_none hV
 obtain ⟨A, nl, cl, l, Ar, nr, cr, rt, a0, a1, b0, b1, c0, c1, rfl, hn, hmax, hnr, hmaxr, hl, hlr⟩ := open_model (hval 0 _ v0 rfl rfl) h0
 obtain ⟨s, sx, sy, z, r, g, st, wd, tilt, time, As, n, cs, rr, rfl, hs, hns, hcs, hrs⟩ := open_sweep (hval 1 _ v1 rfl rfl) h1
 obtain ⟨elo, ehi, rfl⟩ := open_span (hval 2 _ v2 rfl rfl) h2
 obtain ⟨gx, gy, gs, wi, hi, Ag, ng, cg, gl, rfl, hng, hmaxg, hlg⟩ := open_field (hval 3 _ v3 rfl rfl) h3
 obtain ⟨ux, uy, us, uw, uh, rfl, -⟩ := open_grid (hval 4 _ v4 rfl rfl) h4
 clear hA0 hval0
 unfold maxLen at hs hmax hmaxr hmaxg hcs
 refine (RainMaps_any s sx sy z r g st wd tilt time elo ehi gx gy gs wi hi ux uy us uw uh l rt gl a0 a1 b0 b1 c0 c1 n ng rr A nl cl Ar nr cr As cs Ag cg W (by omega) hn (by omega) hnr (by omega) hng (by omega) (by unfold maxLen; omega) hl hlr hlg hrs).mono fun e W' ⟨he, bel⟩ => ?_
 subst he
 exact ⟨_, rfl, _, _, _, [], _, [], hW', trodAll_mk1 (shut_bool Tryz.underlying4 _), trodAll_below laidOutRainMaps bel (by kernel_rfl) hAk, rfl, bel.frame _, fun h => by cases h⟩
theorem RainMaps_holds : Rows.RainMapsSaid :=
 OpenClaim.holds_of_wide 4 Tryz.f4 rfl rfl rfl rfl rfl rfl rfl ⟨rfl, rfl, rfl, rfl, rfl⟩ rfl rfl rfl rfl rfl (by kernel_rfl) Tryz.func4 (by kernel_rfl)
  (of_decide_eq_true (by kernel_rfl)) (by unfold Func.isWrapper; first | (rw [if_pos (by decide +kernel)]; kernel_rfl) | (rw [if_neg (by decide +kernel)]; exact ⟨rfl, rfl⟩))
  (fun os started H enc _ => liftedRainMaps os started H enc)
#print axioms RainMaps_holds
end Go.Proofs.YtepgpihobmjbdaaGreat
