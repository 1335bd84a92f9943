/-
  BeamBlocks answers true for every site, tilt, earth, field of ground and ray: what is in the way is that of the reference.
  No condition: every input that the row reads.
-/
import Derived.Test.YthhhecidogcmjaaRows
import Derived.Test.YthhhecidogcmjaaBeamBlocksL
import Derived.Test.YthhhecidogcmjaaOpenS
namespace Go.Proofs.Ythhhecidogcmjaa
open Go Go.RowKit Go.ChangeShapes Go.WideShapes Go.Deep Go.ChangeAt

theorem ownBeamBlocks : ownKnob Try.prog.godebug = none := by kernel_rfl
theorem laidOutBeamBlocks : laidOutB Try.prog = true := by kernel_rfl

set_option maxRecDepth 100000 in
theorem liftedBeamBlocks (os : Os) (started : os.Started) (H : Type) (enc : TypeId × Value → H) :
    ReturnsInHanded {} Try.checked os 9 .any (Rows.beamBlocksSpec.pre6 enc Try.prog Try.f9 Rows.beamBlocksRow.domain false) (Rows.beamBlocksSpec.post enc Try.prog Try.f9 false true false false) := by
  refine returnsInHanded_of_change (C := Try.checked) ownBeamBlocks started (by kernel_rfl) Try.func9
    (ChangeSpec.witness6 (enc := enc) (C := Try.checked) false ⟨#[], #[.agg #[.string ⟨#[]⟩, .int .i64 0, .int .i64 0, .int .i64 0, .int .i64 0, .int .i64 0, .int .i64 0, .int .i64 0], .int .i64 0, .agg #[.int .i64 0, .int .i64 0], .agg #[.int .i64 0, .int .i64 0, .int .i64 0, .int .i64 0, .int .i64 0, .slice none 0 0], .int .i64 0], []⟩ 8 (by kernel_rfl) (by kernel_rfl) (by kernel_rfl) (by kernel_rfl)) ?_
  intro W base args ds gs before hval0 hW hcnd _
  have hval : ∀ (j : Nat) t v, Try.f9.params[j]? = some t → args[j]? = some v → Value.okWide Try.prog W .any base t v := hval0
  have hW' := hW
  obtain ⟨p, q, hA0, hV, rfl, hfz, hnd⟩ := hW
  have hA : DataW.TrodAll enc Try.prog W 0 (fun _ => true) true Try.f9.params.toList args.toList ds p := hA0
  rw [Try.params9] at hA hval
  have hAk := hA
  obtain ⟨v0, vs0, d0, ds0, p0, q0, hargs, rfl, rfl, h0, r0⟩ := trodAll_cons hA
  obtain ⟨v1, vs1, d1, ds1, p1, q1, rfl, rfl, rfl, h1, r1⟩ := trodAll_cons r0
  obtain ⟨v2, vs2, d2, ds2, p2, q2, rfl, rfl, rfl, h2, r2⟩ := trodAll_cons r1
  obtain ⟨v3, vs3, d3, ds3, p3, q3, rfl, rfl, rfl, h3, r3⟩ := trodAll_cons r2
  obtain ⟨v4, vs4, d4, ds4, p4, q4, rfl, rfl, rfl, h4, r4⟩ := trodAll_cons r3
  obtain ⟨rfl, rfl, rfl⟩ := trodAll_nil r4
  obtain rfl : args = #[v0, v1, v2, v3, v4] := by cases args; simp_all
  obtain ⟨rfl, rfl⟩ := trodVars_none hV
  obtain ⟨s, sx, sy, z, r, g, st, wd, rfl, hs, -, -, -, -, -, -, -⟩ := open_site (hval 0 _ v0 rfl rfl) h0
  obtain ⟨t, rfl, rfl, rfl, w1⟩ := open_int Try.underlying3 (hval 1 _ v1 rfl rfl) h1
  obtain ⟨elo, ehi, rfl, -, -⟩ := open_span (hval 2 _ v2 rfl rfl) h2
  obtain ⟨gx, gy, gs, wi, hi, A, n, c, l, rfl, hn, hmax, hl, -, -, -, -, -, -⟩ := open_field (hval 3 _ v3 rfl rfl) h3
  obtain ⟨ray, rfl, rfl, rfl, w2⟩ := open_int Try.underlying3 (hval 4 _ v4 rfl rfl) h4
  clear hA0 hval0
  unfold maxLen at hs hmax
  refine (BeamBlocks_any s sx sy z r g st wd t elo ehi gx gy gs wi hi A n c l ray W (by omega) hn (by omega) hl).mono fun e W' ⟨he, bel⟩ => ?_
  subst he
  exact ⟨_, rfl, _, _, _, [], _, [], hW', trodAll_mk1 (shut_bool Try.underlying4 _), trodAll_below laidOutBeamBlocks bel (by kernel_rfl) hAk, rfl, bel.frame _, fun h => by cases h⟩

theorem BeamBlocks_holds : Rows.BeamBlocksSaid :=
  OpenClaim.holds_of_wide 9 Try.f9 rfl rfl rfl rfl rfl rfl rfl ⟨rfl, rfl, rfl, rfl, rfl⟩ rfl rfl rfl rfl rfl (by kernel_rfl) Try.func9 (by kernel_rfl)
    (of_decide_eq_true (by kernel_rfl)) (by unfold Func.isWrapper; first | (rw [if_pos (by decide +kernel)]; kernel_rfl) | (rw [if_neg (by decide +kernel)]; exact ⟨rfl, rfl⟩))
    (fun os started H enc _ => liftedBeamBlocks os started H enc)
#print axioms BeamBlocks_holds
end Go.Proofs.Ythhhecidogcmjaa
