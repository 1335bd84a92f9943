/-
  TopMoved answers true: rain that moves evenly, by at most two columns and rows from one map to the next one, has this move among those that are possible for areas that are kept, and the next map contradicts no forecast that follows from the two before it.
  No condition: every input that the row reads.
-/
import Derived.Test.YtidbjidcjmbnlaaRows
import Derived.Test.YtidbjidcjmbnlaaTmTop
import Derived.Test.YtidbjidcjmbnlaaOpenTM
set_option linter.unusedSimpArgs false
set_option linter.unusedVariables false
namespace Go.Proofs.Ytidbjidcjmbnlaa
open Go Go.RowKit Go.ChangeShapes Go.WideShapes Go.Deep Go.ChangeAt

theorem ownTopMoved : ownKnob Try.prog.godebug = none := by kernel_rfl
theorem laidOutTopMoved : laidOutB Try.prog = true := by kernel_rfl

set_option maxRecDepth 100000 in
theorem liftedTopMoved (os : Os) (started : os.Started) (H : Type) (enc : TypeId × Value → H) :
    ReturnsInHanded {} Try.checked os 3 .any (Rows.topMovedSpec.pre6 enc Try.prog Try.f3 Rows.topMovedRow.domain false) (Rows.topMovedSpec.post enc Try.prog Try.f3 false true false false) := by
  refine returnsInHanded_of_change (C := Try.checked) ownTopMoved started (by kernel_rfl) Try.func3
    (ChangeSpec.witness6 (enc := enc) (C := Try.checked) false ⟨#[], #[.agg #[.int .u8 0, .int .u8 0, .slice none 0 0, .int .u8 0, .int .u8 0, .slice none 0 0, .int .u16 0]], []⟩ 8 (by kernel_rfl) (by kernel_rfl) (by kernel_rfl) (by kernel_rfl)) ?_
  intro W base args ds gs before hval0 hW hcnd _
  have hval : ∀ (j : Nat) t v, Try.f3.params[j]? = some t → args[j]? = some v → Value.okWide Try.prog W .any base t v := hval0
  have hW' := hW
  obtain ⟨p, q, hA0, hV, rfl, hfz, hnd⟩ := hW
  have hA : DataW.TrodAll enc Try.prog W 0 (fun _ => true) true Try.f3.params.toList args.toList ds p := hA0
  rw [Try.params3] at hA hval
  have hAk := hA
  obtain ⟨v0, vs0, d0, ds0, p0, q0, hargs, rfl, rfl, h0, r0⟩ := trodAll_cons hA
  obtain ⟨rfl, rfl, rfl⟩ := trodAll_nil r0
  obtain rfl : args = #[v0] := by cases args; simp_all
  obtain ⟨rfl, rfl⟩ := trodVars_none hV
  obtain ⟨wd, hg, nA, cA, xb, yb, nD, cD, sec, A, D, inl, dl, rfl, hm⟩ := open_moved (hval 0 _ v0 rfl rfl) h0
  clear hA0 hval0
  refine (TopMoved_any wd hg nA cA xb yb nD cD sec (1 + wd % 8) (1 + hg % 8) ((1 + wd % 8) * (1 + hg % 8)) A D ((100 + sec % 500 : Nat) : Int) inl dl _ W hm.wd hm.hg hm.sec rfl rfl rfl rfl hm.xb hm.yb rfl hm.lA hm.mA hm.lD hm.mD hm.bl hm.dt hm.d8).mono fun e W' ⟨he, bel⟩ => ?_
  subst he
  exact ⟨_, rfl, _, _, _, [], _, [], hW', trodAll_mk1 (shut_bool Try.underlying4 _), trodAll_below laidOutTopMoved bel (by kernel_rfl) hAk, rfl, bel.frame _, fun h => by cases h⟩

theorem TopMoved_holds : Rows.TopMovedSaid :=
  OpenClaim.holds_of_wide 3 Try.f3 rfl rfl rfl rfl rfl rfl rfl ⟨rfl, rfl, rfl, rfl, rfl⟩ rfl rfl rfl rfl rfl (by kernel_rfl) Try.func3 (by kernel_rfl)
    (of_decide_eq_true (by kernel_rfl)) (by unfold Func.isWrapper; first | (rw [if_pos (by decide +kernel)]; kernel_rfl) | (rw [if_neg (by decide +kernel)]; exact ⟨rfl, rfl⟩))
    (fun os started H enc _ => liftedTopMoved os started H enc)
#print axioms TopMoved_holds
end Go.Proofs.Ytidbjidcjmbnlaa
