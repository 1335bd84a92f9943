/-
  RainFits answers true for every list of pairs and all numbers: a scale suits all pairs exactly if it is one of those that Adjust returns.
  No condition: every input that the row reads.
-/
import Derived.Test.YtmglgahagbfbkaaRows
import Derived.Test.YtmglgahagbfbkaaFits2
import Derived.Test.YtmglgahagbfbkaaOpenRain2
import Derived.Test.YtmglgahagbfbkaaOpenU
namespace Go.Proofs.Ytmglgahagbfbkaa
open Go Go.RowKit Go.ChangeShapes Go.WideShapes Go.Deep Go.ChangeAt

theorem ownRainFits : ownKnob Try.prog.godebug = none := by kernel_rfl
theorem laidOutRainFits : laidOutB Try.prog = true := by kernel_rfl

set_option maxRecDepth 100000 in
theorem liftedRainFits (os : Os) (started : os.Started) (H : Type) (enc : TypeId × Value → H) :
    ReturnsInHanded {} Try.checked os 8 .any (Rows.rainFitsSpec.pre6 enc Try.prog Try.f8 Rows.rainFitsRow.domain false) (Rows.rainFitsSpec.post enc Try.prog Try.f8 false true false false) := by
  refine returnsInHanded_of_change (C := Try.checked) ownRainFits started (by kernel_rfl) Try.func8
    (ChangeSpec.witness6 (enc := enc) (C := Try.checked) false ⟨#[], #[.slice none 0 0, .int .u32 0, .int .u8 0], []⟩ 8 (by kernel_rfl) (by kernel_rfl) (by kernel_rfl) (by kernel_rfl)) ?_
  intro W base args ds gs before hval0 hW hcnd _
  have hval : ∀ (j : Nat) t v, Try.f8.params[j]? = some t → args[j]? = some v → Value.okWide Try.prog W .any base t v := hval0
  have hW' := hW
  obtain ⟨p, q, hA0, hV, rfl, hfz, hnd⟩ := hW
  have hA : DataW.TrodAll enc Try.prog W 0 (fun _ => true) true Try.f8.params.toList args.toList ds p := hA0
  rw [Try.params8] at hA hval
  have hAk := hA
  obtain ⟨v0, vs0, d0, ds0, p0, q0, hargs, rfl, rfl, h0, r0⟩ := trodAll_cons hA
  obtain ⟨v1, vs1, d1, ds1, p1, q1, rfl, rfl, rfl, h1, r1⟩ := trodAll_cons r0
  obtain ⟨v2, vs2, d2, ds2, p2, q2, rfl, rfl, rfl, h2, r2⟩ := trodAll_cons r1
  obtain ⟨rfl, rfl, rfl⟩ := trodAll_nil r2
  obtain rfl : args = #[v0, v1, v2] := by cases args; simp_all
  obtain ⟨rfl, rfl⟩ := trodVars_none hV
  obtain ⟨A, n, c, zs, rfl, hz, hmax, hcap, hcm, hl⟩ := open_sl4 (hval 0 _ v0 rfl rfl) h0
  obtain ⟨sc, rfl, rfl, rfl, w1⟩ := open_int Try.underlying52 (hval 1 _ v1 rfl rfl) h1
  obtain ⟨ou, rfl, rfl, rfl, w2⟩ := open_int Try.underlying5 (hval 2 _ v2 rfl rfl) h2
  clear hA0 hval0
  unfold maxLen at hmax hcm
  obtain ⟨a1, a2⟩ := wf_u32 w1
  obtain ⟨b1, b2⟩ := wf_u8 w2
  refine (RainFits_any A n c zs sc ou W hz (by omega) hcap (by omega) a1 a2 b1 b2 hl).mono fun e W' ⟨he, bel⟩ => ?_
  subst he
  exact ⟨_, rfl, _, _, _, [], _, [], hW', trodAll_mk1 (shut_bool Try.underlying4 _), trodAll_below laidOutRainFits bel (by kernel_rfl) hAk, rfl, bel.frame _, fun h => by cases h⟩

theorem RainFits_holds : Rows.RainFitsSaid :=
  OpenClaim.holds_of_wide 8 Try.f8 rfl rfl rfl rfl rfl rfl rfl ⟨rfl, rfl, rfl, rfl, rfl⟩ rfl rfl rfl rfl rfl (by kernel_rfl) Try.func8 (by kernel_rfl)
    (of_decide_eq_true (by kernel_rfl)) (by unfold Func.isWrapper; first | (rw [if_pos (by decide +kernel)]; kernel_rfl) | (rw [if_neg (by decide +kernel)]; exact ⟨rfl, rfl⟩))
    (fun os started H enc _ => liftedRainFits os started H enc)
#print axioms RainFits_holds
end Go.Proofs.Ytmglgahagbfbkaa
