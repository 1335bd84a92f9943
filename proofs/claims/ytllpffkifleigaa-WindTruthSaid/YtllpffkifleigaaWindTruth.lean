/-
  WindTruth answers true for all winds, radars and rays: the sights of a wind that radars see within bounds agree with it, of rings and of places; it lies within all bounds, and there is no conflict.
  No condition: every input that the row reads.
-/
import Derived.Test.YtllpffkifleigaaRows
import Derived.Test.YtllpffkifleigaaWdTru
import Derived.Test.YtllpffkifleigaaOpenWT
set_option linter.unusedSimpArgs false
set_option linter.unusedVariables false
namespace Go.Proofs.Ytllpffkifleigaa
open Go Go.RowKit Go.ChangeShapes Go.WideShapes Go.Deep Go.ChangeAt

theorem ownWindTruth : ownKnob Try.prog.godebug = none := by kernel_rfl
theorem laidOutWindTruth : laidOutB Try.prog = true := by kernel_rfl

set_option maxRecDepth 100000 in
theorem liftedWindTruth (os : Os) (started : os.Started) (H : Type) (enc : TypeId × Value → H) :
    ReturnsInHanded {} Try.checked os 11 .any (Rows.windTruthSpec.pre6 enc Try.prog Try.f11 Rows.windTruthRow.domain false) (Rows.windTruthSpec.post enc Try.prog Try.f11 false true false false) := by
  refine returnsInHanded_of_change (C := Try.checked) ownWindTruth started (by kernel_rfl) Try.func11
    (ChangeSpec.witness6 (enc := enc) (C := Try.checked) false ⟨#[], #[.int .i16 0, .int .i16 0, .int .i8 0, .int .u8 0, .int .u8 0, .slice none 0 0, .int .u16 0, .int .u16 0, .int .i16 0, .int .i16 0], []⟩ 8 (by kernel_rfl) (by kernel_rfl) (by kernel_rfl) (by kernel_rfl)) ?_
  intro W base args ds gs before hval0 hW hcnd _
  have hval : ∀ (j : Nat) t v, Try.f11.params[j]? = some t → args[j]? = some v → Value.okWide Try.prog W .any base t v := hval0
  have hW' := hW
  obtain ⟨p, q, hA0, hV, rfl, hfz, hnd⟩ := hW
  have hA : DataW.TrodAll enc Try.prog W 0 (fun _ => true) true Try.f11.params.toList args.toList ds p := hA0
  rw [Try.params11] at hA hval
  have hAk := hA
  obtain ⟨v0, vs0, d0, ds0, p0, q0, hargs, rfl, rfl, h0, r0⟩ := trodAll_cons hA
  obtain ⟨v1, vs1, d1, ds1, p1, q1, rfl, rfl, rfl, h1, r1⟩ := trodAll_cons r0
  obtain ⟨v2, vs2, d2, ds2, p2, q2, rfl, rfl, rfl, h2, r2⟩ := trodAll_cons r1
  obtain ⟨v3, vs3, d3, ds3, p3, q3, rfl, rfl, rfl, h3, r3⟩ := trodAll_cons r2
  obtain ⟨v4, vs4, d4, ds4, p4, q4, rfl, rfl, rfl, h4, r4⟩ := trodAll_cons r3
  obtain ⟨v5, vs5, d5, ds5, p5, q5, rfl, rfl, rfl, h5, r5⟩ := trodAll_cons r4
  obtain ⟨v6, vs6, d6, ds6, p6, q6, rfl, rfl, rfl, h6, r6⟩ := trodAll_cons r5
  obtain ⟨v7, vs7, d7, ds7, p7, q7, rfl, rfl, rfl, h7, r7⟩ := trodAll_cons r6
  obtain ⟨v8, vs8, d8, ds8, p8, q8, rfl, rfl, rfl, h8, r8⟩ := trodAll_cons r7
  obtain ⟨v9, vs9, d9, ds9, p9, q9, rfl, rfl, rfl, h9, r9⟩ := trodAll_cons r8
  obtain ⟨rfl, rfl, rfl⟩ := trodAll_nil r9
  obtain rfl : args = #[v0, v1, v2, v3, v4, v5, v6, v7, v8, v9] := by cases args; simp_all
  obtain ⟨rfl, rfl⟩ := trodVars_none hV
  obtain ⟨u, rfl, rfl, rfl, w1⟩ := open_int Try.underlying59 (hval 0 _ v0 rfl rfl) h0
  obtain ⟨v, rfl, rfl, rfl, w2⟩ := open_int Try.underlying59 (hval 1 _ v1 rfl rfl) h1
  obtain ⟨w8, rfl, rfl, rfl, w3⟩ := open_int Try.underlying109 (hval 2 _ v2 rfl rfl) h2
  obtain ⟨ro, rfl, rfl, rfl, w4⟩ := open_int Try.underlying5 (hval 3 _ v3 rfl rfl) h3
  obtain ⟨ti, rfl, rfl, rfl, w5⟩ := open_int Try.underlying5 (hval 4 _ v4 rfl rfl) h4
  obtain ⟨A, n, c, Z, rfl, hn, hmax, hz, hI⟩ := open_bytesW (hval 5 _ v5 rfl rfl) h5
  obtain ⟨le, rfl, rfl, rfl, w6⟩ := open_int Try.underlying66 (hval 6 _ v6 rfl rfl) h6
  obtain ⟨mo, rfl, rfl, rfl, w7⟩ := open_int Try.underlying66 (hval 7 _ v7 rfl rfl) h7
  obtain ⟨px, rfl, rfl, rfl, w9⟩ := open_int Try.underlying59 (hval 8 _ v8 rfl rfl) h8
  obtain ⟨py, rfl, rfl, rfl, w10⟩ := open_int Try.underlying59 (hval 9 _ v9 rfl rfl) h9
  clear hA0 hval0
  refine (WindTruth_any A n c Z u v w8 ro ti le mo px py W hn hmax hI hz (wE_i16 w1) (wE_i16 w2) (wE_i8 w3) (wE_u8 w4) (wE_u8 w5) (wE_u16 w6) (wE_u16 w7) (wE_i16 w9) (wE_i16 w10)).mono fun e W' ⟨he, bel⟩ => ?_
  subst he
  exact ⟨_, rfl, _, _, _, [], _, [], hW', trodAll_mk1 (shut_bool Try.underlying4 _), trodAll_below laidOutWindTruth bel (by kernel_rfl) hAk, rfl, bel.frame _, fun h => by cases h⟩

theorem WindTruth_holds : Rows.WindTruthSaid :=
  OpenClaim.holds_of_wide 11 Try.f11 rfl rfl rfl rfl rfl rfl rfl ⟨rfl, rfl, rfl, rfl, rfl⟩ rfl rfl rfl rfl rfl (by kernel_rfl) Try.func11 (by kernel_rfl)
    (of_decide_eq_true (by kernel_rfl)) (by unfold Func.isWrapper; first | (rw [if_pos (by decide +kernel)]; kernel_rfl) | (rw [if_neg (by decide +kernel)]; exact ⟨rfl, rfl⟩))
    (fun os started H enc _ => liftedWindTruth os started H enc)
#print axioms WindTruth_holds
end Go.Proofs.Ytllpffkifleigaa
