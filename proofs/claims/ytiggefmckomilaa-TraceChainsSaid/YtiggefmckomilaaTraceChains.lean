/-
  TraceChains answers true: a chain ends with a root; a test depends on what is in its chain; a gain is empty exactly if all its tests are void.
  No condition: every input that the row reads.
-/
import Derived.Test.YtiggefmckomilaaRows
import Derived.Test.YtiggefmckomilaaChainsL
import Derived.Test.YtiggefmckomilaaOpenW
set_option linter.unusedSimpArgs false
set_option linter.unusedVariables false
namespace Go.Proofs.Ytiggefmckomilaa
open Go Go.RowKit Go.ChangeShapes Go.WideShapes Go.Deep Go.ChangeAt

theorem ownTraceChains : ownKnob Try.prog.godebug = none := by kernel_rfl
theorem laidOutTraceChains : laidOutB Try.prog = true := by kernel_rfl

set_option maxRecDepth 100000 in
theorem liftedTraceChains (os : Os) (started : os.Started) (H : Type) (enc : TypeId × Value → H) :
    ReturnsInHanded {} Try.checked os 9 .any (Rows.traceChainsSpec.pre6 enc Try.prog Try.f9 Rows.traceChainsRow.domain false) (Rows.traceChainsSpec.post enc Try.prog Try.f9 false true false false) := by
  refine returnsInHanded_of_change (C := Try.checked) ownTraceChains started (by kernel_rfl) Try.func9
    (ChangeSpec.witness6 (enc := enc) (C := Try.checked) false ⟨#[], #[.slice none 0 0, .int .u8 0], []⟩ 8 (by kernel_rfl) (by kernel_rfl) (by kernel_rfl) (by kernel_rfl)) ?_
  intro W base args ds gs before hval0 hW hcnd _
  have hval : ∀ (j : Nat) t v, Try.f9.params[j]? = some t → args[j]? = some v → Value.okWide Try.prog W .any base t v := hval0
  have hW' := hW
  obtain ⟨p, q, hA0, hV, rfl, hfz, hnd⟩ := hW
  have hA : DataW.TrodAll enc Try.prog W 0 (fun _ => true) true Try.f9.params.toList args.toList ds p := hA0
  rw [Try.params9] at hA hval
  have hAk := hA
  obtain ⟨v0, vs0, d0, ds0, p0, q0, hargs, rfl, rfl, h0, r0⟩ := trodAll_cons hA
  obtain ⟨v1, vs1, d1, ds1, p1, q1, rfl, rfl, rfl, h1, r1⟩ := trodAll_cons r0
  obtain ⟨rfl, rfl, rfl⟩ := trodAll_nil r1
  obtain rfl : args = #[v0, v1] := by cases args; simp_all
  obtain ⟨rfl, rfl⟩ := trodVars_none hV
  obtain ⟨A, n, c, ac, rfl, hn, hrow, hok⟩ := open_acts (hval 0 _ v0 rfl rfl) h0
  obtain ⟨ou, rfl, rfl, rfl, wf⟩ := open_int Try.underlying5 (hval 1 _ v1 rfl rfl) h1
  clear hA0 hval0
  refine (TraceChains_any ac A n c ou W hrow hok hn (wfA_u8 wf).1 (wfA_u8 wf).2).mono fun e W' ⟨he, bel⟩ => ?_
  subst he
  exact ⟨_, rfl, _, _, _, [], _, [], hW', trodAll_mk1 (shut_bool Try.underlying4 _), trodAll_below laidOutTraceChains bel (by kernel_rfl) hAk, rfl, bel.frame _, fun h => by cases h⟩

theorem TraceChains_holds : Rows.TraceChainsSaid :=
  OpenClaim.holds_of_wide 9 Try.f9 rfl rfl rfl rfl rfl rfl rfl ⟨rfl, rfl, rfl, rfl, rfl⟩ rfl rfl rfl rfl rfl (by kernel_rfl) Try.func9 (by kernel_rfl)
    (of_decide_eq_true (by kernel_rfl)) (by unfold Func.isWrapper; first | (rw [if_pos (by decide +kernel)]; kernel_rfl) | (rw [if_neg (by decide +kernel)]; exact ⟨rfl, rfl⟩))
    (fun os started H enc _ => liftedTraceChains os started H enc)
#print axioms TraceChains_holds
end Go.Proofs.Ytiggefmckomilaa
