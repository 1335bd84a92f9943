/-
  RainAdds answers true for every record and all numbers: the sum of a record lies within the sums of two parts of it; with more slack it is wider, with one more reading narrower.
  No condition: every input that the row reads.
-/
import Derived.Test.YtmglgahagbfbkaaRows
import Derived.Test.YtmglgahagbfbkaaAdds
import Derived.Test.YtmglgahagbfbkaaOpenA
namespace Go.Proofs.Ytmglgahagbfbkaa
open Go Go.RowKit Go.ChangeShapes Go.WideShapes Go.Deep Go.ChangeAt

theorem ownRainAdds : ownKnob Try.prog.godebug = none := by kernel_rfl
theorem laidOutRainAdds : laidOutB Try.prog = true := by kernel_rfl

set_option maxRecDepth 100000 in
theorem liftedRainAdds (os : Os) (started : os.Started) (H : Type) (enc : TypeId × Value → H) :
    ReturnsInHanded {} Try.checked os 5 .any (Rows.rainAddsSpec.pre6 enc Try.prog Try.f5 Rows.rainAddsRow.domain false) (Rows.rainAddsSpec.post enc Try.prog Try.f5 false true false false) := by
  refine returnsInHanded_of_change (C := Try.checked) ownRainAdds started (by kernel_rfl) Try.func5
    (ChangeSpec.witness6 (enc := enc) (C := Try.checked) false ⟨#[], #[.slice none 0 0, .int .i64 0, .int .i64 0, .int .u8 0, .agg #[.int .u32 0, .int .u32 0, .int .u32 0], .int .u16 0], []⟩ 8 (by kernel_rfl) (by kernel_rfl) (by kernel_rfl) (by kernel_rfl)) ?_
  intro W base args ds gs before hval0 hW hcnd _
  have hval : ∀ (j : Nat) t v, Try.f5.params[j]? = some t → args[j]? = some v → Value.okWide Try.prog W .any base t v := hval0
  have hW' := hW
  obtain ⟨p, q, hA0, hV, rfl, hfz, hnd⟩ := hW
  have hA : DataW.TrodAll enc Try.prog W 0 (fun _ => true) true Try.f5.params.toList args.toList ds p := hA0
  rw [Try.params5] at hA hval
  have hAk := hA
  obtain ⟨v0, vs0, d0, ds0, p0, q0, hargs, rfl, rfl, h0, r0⟩ := trodAll_cons hA
  obtain ⟨v1, vs1, d1, ds1, p1, q1, rfl, rfl, rfl, h1, r1⟩ := trodAll_cons r0
  obtain ⟨v2, vs2, d2, ds2, p2, q2, rfl, rfl, rfl, h2, r2⟩ := trodAll_cons r1
  obtain ⟨v3, vs3, d3, ds3, p3, q3, rfl, rfl, rfl, h3, r3⟩ := trodAll_cons r2
  obtain ⟨v4, vs4, d4, ds4, p4, q4, rfl, rfl, rfl, h4, r4⟩ := trodAll_cons r3
  obtain ⟨v5, vs5, d5, ds5, p5, q5, rfl, rfl, rfl, h5, r5⟩ := trodAll_cons r4
  obtain ⟨rfl, rfl, rfl⟩ := trodAll_nil r5
  obtain rfl : args = #[v0, v1, v2, v3, v4, v5] := by cases args; simp_all
  obtain ⟨rfl, rfl⟩ := trodVars_none hV
  obtain ⟨A, n, c, zs, rfl, hz, hmax, hcap, hcm, hl⟩ := open_sl3 (hval 0 _ v0 rfl rfl) h0
  obtain ⟨ed, rfl, rfl, rfl, w1⟩ := open_int Try.underlying3 (hval 1 _ v1 rfl rfl) h1
  obtain ⟨sl, rfl, rfl, rfl, w2⟩ := open_int Try.underlying3 (hval 2 _ v2 rfl rfl) h2
  obtain ⟨at_, rfl, rfl, rfl, w3⟩ := open_int Try.underlying5 (hval 3 _ v3 rfl rfl) h3
  obtain ⟨m0, m1, m2, rfl, w4, w5, w6⟩ := open_arr3 Try.underlying53 Try.underlying52 (by kernel_rfl) (by kernel_rfl) (hval 4 _ v4 rfl rfl) h4
  obtain ⟨lo, rfl, rfl, rfl, w7⟩ := open_int Try.underlying54 (hval 5 _ v5 rfl rfl) h5
  clear hA0 hval0
  unfold maxLen at hmax hcm
  obtain ⟨a1, a2⟩ := wf_u8 w3
  obtain ⟨b1, b2⟩ := wf_u32 w4
  obtain ⟨c1, c2⟩ := wf_u32 w5
  obtain ⟨d1, d2⟩ := wf_u32 w6
  obtain ⟨e1, e2⟩ := wf_u16 w7
  refine (RainAdds_any A n c zs ed sl at_ m0 m1 m2 lo W hz (by omega) hcap (by omega) hl a1 a2 b1 b2 c1 c2 d1 d2 e1 e2).mono fun e W' ⟨he, bel⟩ => ?_
  subst he
  exact ⟨_, rfl, _, _, _, [], _, [], hW', trodAll_mk1 (shut_bool Try.underlying4 _), trodAll_below laidOutRainAdds bel (by kernel_rfl) hAk, rfl, bel.frame _, fun h => by cases h⟩

theorem RainAdds_holds : Rows.RainAddsSaid :=
  OpenClaim.holds_of_wide 5 Try.f5 rfl rfl rfl rfl rfl rfl rfl ⟨rfl, rfl, rfl, rfl, rfl⟩ rfl rfl rfl rfl rfl (by kernel_rfl) Try.func5 (by kernel_rfl)
    (of_decide_eq_true (by kernel_rfl)) (by unfold Func.isWrapper; first | (rw [if_pos (by decide +kernel)]; kernel_rfl) | (rw [if_neg (by decide +kernel)]; exact ⟨rfl, rfl⟩))
    (fun os started H enc _ => liftedRainAdds os started H enc)
#print axioms RainAdds_holds
end Go.Proofs.Ytmglgahagbfbkaa
