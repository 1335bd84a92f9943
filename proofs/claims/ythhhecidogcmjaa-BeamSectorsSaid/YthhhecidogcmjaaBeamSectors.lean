/-
  BeamSectors answers true for every site, tilt and place: a near place belongs to just one ray and at most one gate, those that Find returns; turned by a quarter it belongs to the ray a quarter further.
  No condition: every input that the row reads.
-/
import Derived.Test.YthhhecidogcmjaaRows
import Derived.Test.YthhhecidogcmjaaBeamSectorsL
import Derived.Test.YthhhecidogcmjaaOpenS
import Derived.Test.YthhhecidogcmjaaOpenI
namespace Go.Proofs.Ythhhecidogcmjaa
open Go Go.RowKit Go.ChangeShapes Go.WideShapes Go.Deep Go.ChangeAt

theorem ownBeamSectors : ownKnob Try.prog.godebug = none := by kernel_rfl
theorem laidOutBeamSectors : laidOutB Try.prog = true := by kernel_rfl

set_option maxRecDepth 100000 in
theorem liftedBeamSectors (os : Os) (started : os.Started) (H : Type) (enc : TypeId × Value → H) :
    ReturnsInHanded {} Try.checked os 8 .any (Rows.beamSectorsSpec.pre6 enc Try.prog Try.f8 Rows.beamSectorsRow.domain false) (Rows.beamSectorsSpec.post enc Try.prog Try.f8 false true false false) := by
  refine returnsInHanded_of_change (C := Try.checked) ownBeamSectors started (by kernel_rfl) Try.func8
    (ChangeSpec.witness6 (enc := enc) (C := Try.checked) false ⟨#[], #[.agg #[.string ⟨#[]⟩, .int .i64 0, .int .i64 0, .int .i64 0, .int .i64 0, .int .i64 0, .int .i64 0, .int .i64 0], .int .i64 0, .int .i32 0, .int .i32 0], []⟩ 8 (by kernel_rfl) (by kernel_rfl) (by kernel_rfl) (by kernel_rfl)) ?_
  intro W base args ds gs before hval0 hW hcnd _
  have hval : ∀ (j : Nat) t v, Try.f8.params[j]? = some t → args[j]? = some v → Value.okWide Try.prog W .any base t v := hval0
  have hW' := hW
  obtain ⟨p, q, hA0, hV, rfl, hfz, hnd⟩ := hW
  have hA : DataW.TrodAll enc Try.prog W 0 (fun _ => true) true Try.f8.params.toList args.toList ds p := hA0
  rw [Try.params8] at hA hval
  have hAk := hA
  obtain ⟨v0, vs0, d0, ds0, p0, q0, hargs, rfl, rfl, h0, r0⟩ := trodAll_cons hA
  obtain ⟨v1, vs1, d1, ds1, p1, q1, rfl, rfl, rfl, h1, r1⟩ := trodAll_cons r0
  obtain ⟨v2, vs2, d2, ds2, p2, q2, rfl, rfl, rfl, h2, r2⟩ := trodAll_cons r1
  obtain ⟨v3, vs3, d3, ds3, p3, q3, rfl, rfl, rfl, h3, r3⟩ := trodAll_cons r2
  obtain ⟨rfl, rfl, rfl⟩ := trodAll_nil r3
  obtain rfl : args = #[v0, v1, v2, v3] := by cases args; simp_all
  obtain ⟨rfl, rfl⟩ := trodVars_none hV
  obtain ⟨s, x, y, z, r, g, st, wd, rfl, hs, -, -, -, -, -, -, -⟩ := open_site (hval 0 _ v0 rfl rfl) h0
  obtain ⟨t, rfl, rfl, rfl, w1⟩ := open_int Try.underlying3 (hval 1 _ v1 rfl rfl) h1
  obtain ⟨dx, rfl, rfl, rfl, w2⟩ := open_int Try.underlying21 (hval 2 _ v2 rfl rfl) h2
  obtain ⟨dy, rfl, rfl, rfl, w3⟩ := open_int Try.underlying21 (hval 3 _ v3 rfl rfl) h3
  clear hA0 hval0
  unfold maxLen at hs
  obtain ⟨a1, a2⟩ := wf_i32 w2
  obtain ⟨b1, b2⟩ := wf_i32 w3
  refine (BeamSectors_any s x y z r g st wd t dx dy W (by omega) a1 a2 b1 b2).mono fun e W' ⟨he, bel⟩ => ?_
  subst he
  exact ⟨_, rfl, _, _, _, [], _, [], hW', trodAll_mk1 (shut_bool Try.underlying4 _), trodAll_below laidOutBeamSectors bel (by kernel_rfl) hAk, rfl, bel.frame _, fun h => by cases h⟩

theorem BeamSectors_holds : Rows.BeamSectorsSaid :=
  OpenClaim.holds_of_wide 8 Try.f8 rfl rfl rfl rfl rfl rfl rfl ⟨rfl, rfl, rfl, rfl, rfl⟩ rfl rfl rfl rfl rfl (by kernel_rfl) Try.func8 (by kernel_rfl)
    (of_decide_eq_true (by kernel_rfl)) (by unfold Func.isWrapper; first | (rw [if_pos (by decide +kernel)]; kernel_rfl) | (rw [if_neg (by decide +kernel)]; exact ⟨rfl, rfl⟩))
    (fun os started H enc _ => liftedBeamSectors os started H enc)
#print axioms BeamSectors_holds
end Go.Proofs.Ythhhecidogcmjaa
