/-
  RainTruth answers true for every model, site, tilt, earth, ground, ray and whatever is aloft: the rates lie within the rates.
  No condition: every input that the row reads.
-/
import Derived.Test.YtepgpihobmjbdaaRows
import Derived.Test.YtepgpihobmjbdaaOpenAl
set_option linter.unusedSimpArgs false
set_option linter.unusedVariables false
namespace Go.Proofs.Ytepgpihobmjbdaa
open Go Go.RowKit Go.ChangeShapes Go.WideShapes Go.Deep Go.ChangeAt
theorem ownRainTruth : ownKnob Try.prog.godebug = none := by kernel_rfl
theorem laidOutRainTruth : laidOutB Try.prog = true := by kernel_rfl
set_option maxRecDepth 100000 in
theorem liftedRainTruth (os : Os) (started : os.Started) (H : Type) (enc : TypeId × Value → H) :
  ReturnsInHanded {} Try.checked os 3 .any (Rows.rainTruthSpec.pre6 enc Try.prog Try.f3 Rows.rainTruthRow.domain false) (Rows.rainTruthSpec.post enc Try.prog Try.f3 false true false false) := by
 refine returnsInHanded_of_change (C := Try.checked) ownRainTruth started (by kernel_rfl) Try.func3
  (ChangeSpec.witness6 (enc := enc) (C := Try.checked) false ⟨#[], #[.agg #[.slice none 0 0, .slice none 0 0, .int .i64 0, .int .i64 0, .int .i64 0, .int .i64 0, .int .i64 0, .int .i64 0], .agg #[.string ⟨#[]⟩, .int .i64 0, .int .i64 0, .int .i64 0, .int .i64 0, .int .i64 0, .int .i64 0, .int .i64 0], .int .i64 0, .agg #[.int .i64 0, .int .i64 0], .agg #[.int .i64 0, .int .i64 0, .int .i64 0, .int .i64 0, .int .i64 0, .slice none 0 0], .int .u8 0, .agg #[.slice none 0 0, .slice none 0 0, .slice none 0 0, .slice none 0 0]], []⟩ 8 (by kernel_rfl) (by kernel_rfl) (by kernel_rfl) (by kernel_rfl)) ?_
 intro W base args ds gs before hval0 hW hcnd _
 have hval : ∀ (j : Nat) t v, Try.f3.params[j]? = some t → args[j]? = some v → Value.okWide Try.prog W .any base t v := hval0
 have hW' := hW
 obtain ⟨p, q, hA0, hV, rfl, hfz, hnd⟩ := hW
 have hA : DataW.TrodAll enc Try.prog W 0 (fun _ => true) true Try.f3.params.toList args.toList ds p := hA0
 rw [Try.params3] at hA hval
 have hAk := hA
 obtain ⟨v0, vs0, d0, ds0, p0, q0, hargs, rfl, rfl, h0, r0⟩ := trodAll_cons hA
 obtain ⟨v1, vs1, d1, ds1, p1, q1, rfl, rfl, rfl, h1, r1⟩ := trodAll_cons r0
 obtain ⟨v2, vs2, d2, ds2, p2, q2, rfl, rfl, rfl, h2, r2⟩ := trodAll_cons r1
 obtain ⟨v3, vs3, d3, ds3, p3, q3, rfl, rfl, rfl, h3, r3⟩ := trodAll_cons r2
 obtain ⟨v4, vs4, d4, ds4, p4, q4, rfl, rfl, rfl, h4, r4⟩ := trodAll_cons r3
 obtain ⟨v5, vs5, d5, ds5, p5, q5, rfl, rfl, rfl, h5, r5⟩ := trodAll_cons r4
 obtain ⟨v6, vs6, d6, ds6, p6, q6, rfl, rfl, rfl, h6, r6⟩ := trodAll_cons r5
 obtain ⟨rfl, rfl, rfl⟩ := trodAll_nil r6
 obtain rfl : args = #[v0, v1, v2, v3, v4, v5, v6] := by cases args; simp_all
 obtain ⟨rfl, rfl⟩ := trodVars_none hV
 obtain ⟨A, nl, cl, l, Ar, nr, cr, rt, a0, a1, b0, b1, c0, c1, rfl, hn, hmax, hnr, hmaxr, hl, hlr⟩ := open_model (hval 0 _ v0 rfl rfl) h0
 obtain ⟨s, sx, sy, z, r, g, st, wd, rfl, hs⟩ := open_site (hval 1 _ v1 rfl rfl) h1
 obtain ⟨tilt, rfl, rfl, rfl, w2⟩ := open_int Try.underlying3 (hval 2 _ v2 rfl rfl) h2
 obtain ⟨elo, ehi, rfl⟩ := open_span (hval 3 _ v3 rfl rfl) h3
 obtain ⟨gx, gy, gs, wi, hi, Ag, ng, cg, gl, rfl, hng, hmaxg, hlg⟩ := open_field (hval 4 _ v4 rfl rfl) h4
 obtain ⟨ray, rfl, rfl, rfl, w5⟩ := open_int Try.underlying5 (hval 5 _ v5 rfl rfl) h5
 obtain ⟨Ap, np, cp, Ab, nb, cb, Af, nf, cf, Aw, nw, cw, zp, zb, zf, zw, rfl, ⟨hzp, hzb, hzf, hzw⟩, ⟨hnp, hnf⟩, ⟨hbp, hbb, hbf, hbw⟩, hIp, hIb, hIf, hIw⟩ := open_aloft (hval 6 _ v6 rfl rfl) h6
 clear hA0 hval0
 unfold maxLen at hs hmax hmaxr hmaxg hnp hnf
 have hray := bU8 w5
 refine (RainTruth_any s sx sy z r g st wd tilt elo ehi gx gy gs wi hi ray l rt gl a0 a1 b0 b1 c0 c1 ng A nl cl Ar nr cr Ag cg Ap np cp Ab nb cb Af nf cf Aw nw cw zp zb zf zw W (by omega) hn (by omega) hnr (by omega) hng (by omega) hzp hzb hzf hzw (by omega) (by omega) hbp hbb hbf hbw hray hl hlr hlg hIp hIb hIf hIw).mono fun e W' ⟨he, bel⟩ => ?_
 subst he
 exact ⟨_, rfl, _, _, _, [], _, [], hW', trodAll_mk1 (shut_bool Try.underlying4 _), trodAll_below laidOutRainTruth bel (by kernel_rfl) hAk, rfl, bel.frame _, fun h => by cases h⟩
theorem RainTruth_holds : Rows.RainTruthSaid :=
 OpenClaim.holds_of_wide 3 Try.f3 rfl rfl rfl rfl rfl rfl rfl ⟨rfl, rfl, rfl, rfl, rfl⟩ rfl rfl rfl rfl rfl (by kernel_rfl) Try.func3 (by kernel_rfl)
  (of_decide_eq_true (by kernel_rfl)) (by unfold Func.isWrapper; first | (rw [if_pos (by decide +kernel)]; kernel_rfl) | (rw [if_neg (by decide +kernel)]; exact ⟨rfl, rfl⟩))
  (fun os started H enc _ => liftedRainTruth os started H enc)
#print axioms RainTruth_holds
end Go.Proofs.Ytepgpihobmjbdaa
