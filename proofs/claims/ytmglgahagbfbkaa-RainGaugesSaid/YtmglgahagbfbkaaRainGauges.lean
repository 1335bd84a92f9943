/-
  RainGauges answers true for every list of pairs: what fell into a gauge, and the scales that suit pairs, are those of the reference.
  No condition: every input that the row reads.
-/
import Derived.Test.YtmglgahagbfbkaaRows
import Derived.Test.YtmglgahagbfbkaaGaugesLaw
import Derived.Test.YtmglgahagbfbkaaOpenRain2
namespace Go.Proofs.Ytmglgahagbfbkaa
open Go Go.RowKit Go.ChangeShapes Go.WideShapes Go.Deep Go.ChangeAt

theorem ownRainGauges : ownKnob Try.prog.godebug = none := by kernel_rfl
theorem laidOutRainGauges : laidOutB Try.prog = true := by kernel_rfl

set_option maxRecDepth 100000 in
theorem liftedRainGauges (os : Os) (started : os.Started) (H : Type) (enc : TypeId × Value → H) :
    ReturnsInHanded {} Try.checked os 7 .any (Rows.rainGaugesSpec.pre6 enc Try.prog Try.f7 Rows.rainGaugesRow.domain false) (Rows.rainGaugesSpec.post enc Try.prog Try.f7 false true false false) := by
  refine returnsInHanded_of_change (C := Try.checked) ownRainGauges started (by kernel_rfl) Try.func7
    (ChangeSpec.witness6 (enc := enc) (C := Try.checked) false ⟨#[], #[.slice none 0 0], []⟩ 8 (by kernel_rfl) (by kernel_rfl) (by kernel_rfl) (by kernel_rfl)) ?_
  intro W base args ds gs before hval0 hW hcnd _
  have hval : ∀ (j : Nat) t v, Try.f7.params[j]? = some t → args[j]? = some v → Value.okWide Try.prog W .any base t v := hval0
  have hW' := hW
  obtain ⟨p, q, hA0, hV, rfl, hfz, hnd⟩ := hW
  have hA : DataW.TrodAll enc Try.prog W 0 (fun _ => true) true Try.f7.params.toList args.toList ds p := hA0
  rw [Try.params7] at hA hval
  have hAk := hA
  obtain ⟨v0, vs0, d0, ds0, p0, q0, hargs, rfl, rfl, h0, r0⟩ := trodAll_cons hA
  obtain ⟨rfl, rfl, rfl⟩ := trodAll_nil r0
  obtain rfl : args = #[v0] := by cases args; simp_all
  obtain ⟨rfl, rfl⟩ := trodVars_none hV
  obtain ⟨A, n, c, zs, rfl, hz, hmax, hcap, hcm, hl⟩ := open_sl4 (hval 0 _ v0 rfl rfl) h0
  clear hA0 hval0
  unfold maxLen at hmax hcm
  refine (RainGauges_any A n c zs W hz (by omega) hcap (by omega) hl).mono fun e W' ⟨he, bel⟩ => ?_
  subst he
  exact ⟨_, rfl, _, _, _, [], _, [], hW', trodAll_mk1 (shut_bool Try.underlying4 _), trodAll_below laidOutRainGauges bel (by kernel_rfl) hAk, rfl, bel.frame _, fun h => by cases h⟩

theorem RainGauges_holds : Rows.RainGaugesSaid :=
  OpenClaim.holds_of_wide 7 Try.f7 rfl rfl rfl rfl rfl rfl rfl ⟨rfl, rfl, rfl, rfl, rfl⟩ rfl rfl rfl rfl rfl (by kernel_rfl) Try.func7 (by kernel_rfl)
    (of_decide_eq_true (by kernel_rfl)) (by unfold Func.isWrapper; first | (rw [if_pos (by decide +kernel)]; kernel_rfl) | (rw [if_neg (by decide +kernel)]; exact ⟨rfl, rfl⟩))
    (fun os started H enc _ => liftedRainGauges os started H enc)
#print axioms RainGauges_holds
end Go.Proofs.Ytmglgahagbfbkaa
