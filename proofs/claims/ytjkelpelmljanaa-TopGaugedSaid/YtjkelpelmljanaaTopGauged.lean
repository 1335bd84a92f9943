/-
  TopGauged answers true: powers that are corrected by a tested gain have sums that all gauges suit with the scale 1,000.
  No condition: every input that the row reads.
-/
import Derived.Test.YtjkelpelmljanaaRows
import Derived.Test.YtjkelpelmljanaaGauL
import Derived.Test.YtjkelpelmljanaaOpenTG
set_option linter.unusedSimpArgs false
set_option linter.unusedVariables false
namespace Go.Proofs.Ytjkelpelmljanaa
open Go Go.RowKit Go.ChangeShapes Go.WideShapes Go.Deep Go.ChangeAt

theorem ownTopGauged : ownKnob Try.prog.godebug = none := by kernel_rfl
theorem laidOutTopGauged : laidOutB Try.prog = true := by kernel_rfl

set_option maxRecDepth 100000 in
theorem liftedTopGauged (os : Os) (started : os.Started) (H : Type) (enc : TypeId × Value → H) :
    ReturnsInHanded {} Try.checked os 3 .any (Rows.topGaugedSpec.pre6 enc Try.prog Try.f3 Rows.topGaugedRow.domain false) (Rows.topGaugedSpec.post enc Try.prog Try.f3 false true false false) := by
  refine returnsInHanded_of_change (C := Try.checked) ownTopGauged started (by kernel_rfl) Try.func3
    (ChangeSpec.witness6 (enc := enc) (C := Try.checked) false ⟨#[], #[.agg #[.slice none 0 0, .int .u16 0, .int .u32 0, .int .u16 0, .int .u16 0, .int .u16 0, .int .u8 0, .int .u16 0, .slice none 0 0, .int .u16 0, .slice none 0 0]], []⟩ 8 (by kernel_rfl) (by kernel_rfl) (by kernel_rfl) (by kernel_rfl)) ?_
  intro W base args ds gs before hval0 hW hcnd _
  have hval : ∀ (j : Nat) t v, Try.f3.params[j]? = some t → args[j]? = some v → Value.okWide Try.prog W .any base t v := hval0
  have hW' := hW
  obtain ⟨p, q, hA0, hV, rfl, hfz, hnd⟩ := hW
  have hA : DataW.TrodAll enc Try.prog W 0 (fun _ => true) true Try.f3.params.toList args.toList ds p := hA0
  rw [Try.params3] at hA hval
  have hAk := hA
  obtain ⟨v0, vs0, d0, ds0, p0, q0, hargs, rfl, rfl, h0, r0⟩ := trodAll_cons hA
  obtain ⟨rfl, rfl, rfl⟩ := trodAll_nil r0
  obtain rfl : args = #[v0] := by cases args; simp_all
  obtain ⟨rfl, rfl⟩ := trodVars_none hV
  obtain ⟨a, zp, l, zb, rfl, hg⟩ := open_gauged (hval 0 _ v0 rfl rfl) h0
  clear hA0 hval0
  refine (TopGauged_any a zp l zb W hg.hp hg.lp hg.mp hg.bp hg.hr hg.lr hg.mr hg.hb hg.lb hg.mb hg.bb hg.gn hg.vl hg.ls hg.mo hg.sl hg.dr hg.pc hg.sk).mono fun e W' ⟨he, bel⟩ => ?_
  subst he
  exact ⟨_, rfl, _, _, _, [], _, [], hW', trodAll_mk1 (shut_bool Try.underlying4 _), trodAll_below laidOutTopGauged bel (by kernel_rfl) hAk, rfl, bel.frame _, fun h => by cases h⟩

theorem TopGauged_holds : Rows.TopGaugedSaid :=
  OpenClaim.holds_of_wide 3 Try.f3 rfl rfl rfl rfl rfl rfl rfl ⟨rfl, rfl, rfl, rfl, rfl⟩ rfl rfl rfl rfl rfl (by kernel_rfl) Try.func3 (by kernel_rfl)
    (of_decide_eq_true (by kernel_rfl)) (by unfold Func.isWrapper; first | (rw [if_pos (by decide +kernel)]; kernel_rfl) | (rw [if_neg (by decide +kernel)]; exact ⟨rfl, rfl⟩))
    (fun os started H enc _ => liftedTopGauged os started H enc)
#print axioms TopGauged_holds
end Go.Proofs.Ytjkelpelmljanaa
