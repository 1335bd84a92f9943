/-
  RainBack answers true for every table and all numbers: what is restored from what passes has the powers that were there; from narrower spans follow narrower ones, from greater ones greater ones.
  No condition: every input that the row reads.
-/
import Derived.Test.YtmglgahagbfbkaaRows
import Derived.Test.YtmglgahagbfbkaaBackLaw
import Derived.Test.YtmglgahagbfbkaaOpenC
namespace Go.Proofs.Ytmglgahagbfbkaa
open Go Go.RowKit Go.ChangeShapes Go.WideShapes Go.Deep Go.ChangeAt

theorem ownRainBack : ownKnob Try.prog.godebug = none := by kernel_rfl
theorem laidOutRainBack : laidOutB Try.prog = true := by kernel_rfl

set_option maxRecDepth 100000 in
theorem liftedRainBack (os : Os) (started : os.Started) (H : Type) (enc : TypeId × Value → H) :
    ReturnsInHanded {} Try.checked os 9 .any (Rows.rainBackSpec.pre6 enc Try.prog Try.f9 Rows.rainBackRow.domain false) (Rows.rainBackSpec.post enc Try.prog Try.f9 false true false false) := by
  refine returnsInHanded_of_change (C := Try.checked) ownRainBack started (by kernel_rfl) Try.func9
    (ChangeSpec.witness6 (enc := enc) (C := Try.checked) false ⟨#[], #[.slice none 0 0, .slice none 0 0, .slice none 0 0, .slice none 0 0], []⟩ 8 (by kernel_rfl) (by kernel_rfl) (by kernel_rfl) (by kernel_rfl)) ?_
  intro W base args ds gs before hval0 hW hcnd _
  have hval : ∀ (j : Nat) t v, Try.f9.params[j]? = some t → args[j]? = some v → Value.okWide Try.prog W .any base t v := hval0
  have hW' := hW
  obtain ⟨p, q, hA0, hV, rfl, hfz, hnd⟩ := hW
  have hA : DataW.TrodAll enc Try.prog W 0 (fun _ => true) true Try.f9.params.toList args.toList ds p := hA0
  rw [Try.params9] at hA hval
  have hAk := hA
  obtain ⟨v0, vs0, d0, ds0, p0, q0, hargs, rfl, rfl, h0, r0⟩ := trodAll_cons hA
  obtain ⟨v1, vs1, d1, ds1, p1, q1, rfl, rfl, rfl, h1, r1⟩ := trodAll_cons r0
  obtain ⟨v2, vs2, d2, ds2, p2, q2, rfl, rfl, rfl, h2, r2⟩ := trodAll_cons r1
  obtain ⟨v3, vs3, d3, ds3, p3, q3, rfl, rfl, rfl, h3, r3⟩ := trodAll_cons r2
  obtain ⟨rfl, rfl, rfl⟩ := trodAll_nil r3
  obtain rfl : args = #[v0, v1, v2, v3] := by cases args; simp_all
  obtain ⟨rfl, rfl⟩ := trodVars_none hV
  obtain ⟨A, n, c, l, rfl, hn, hmax, hl⟩ := open_pts (hval 0 _ v0 rfl rfl) h0
  obtain ⟨A1, n1, c1, ps, rfl, hn1, hmax1, hl1, hb1⟩ := open_u32s (hval 1 _ v1 rfl rfl) h1
  obtain ⟨A2, n2, c2, cs, rfl, hn2, hmax2, hl2, hb2⟩ := open_u32s (hval 2 _ v2 rfl rfl) h2
  obtain ⟨A3, n3, c3, us, rfl, hn3, hmax3, hl3, hb3⟩ := open_u16s (hval 3 _ v3 rfl rfl) h3
  clear hA0 hval0
  unfold maxLen at hmax hmax1 hmax2 hmax3
  refine (RainBack_any A n c l A1 n1 c1 ps A2 n2 c2 cs A3 n3 c3 us W hn (by omega) hn1 (by omega) hn2 (by omega) hn3 (by omega) hl hl1 hl2 hl3 hb1 hb2 hb3).mono fun e W' ⟨he, bel⟩ => ?_
  subst he
  exact ⟨_, rfl, _, _, _, [], _, [], hW', trodAll_mk1 (shut_bool Try.underlying4 _), trodAll_below laidOutRainBack bel (by kernel_rfl) hAk, rfl, bel.frame _, fun h => by cases h⟩

theorem RainBack_holds : Rows.RainBackSaid :=
  OpenClaim.holds_of_wide 9 Try.f9 rfl rfl rfl rfl rfl rfl rfl ⟨rfl, rfl, rfl, rfl, rfl⟩ rfl rfl rfl rfl rfl (by kernel_rfl) Try.func9 (by kernel_rfl)
    (of_decide_eq_true (by kernel_rfl)) (by unfold Func.isWrapper; first | (rw [if_pos (by decide +kernel)]; kernel_rfl) | (rw [if_neg (by decide +kernel)]; exact ⟨rfl, rfl⟩))
    (fun os started H enc _ => liftedRainBack os started H enc)
#print axioms RainBack_holds
end Go.Proofs.Ytmglgahagbfbkaa
