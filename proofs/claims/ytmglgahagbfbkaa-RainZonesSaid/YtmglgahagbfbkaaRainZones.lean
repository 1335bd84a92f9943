/-
  RainZones answers true for every model and every band: rain's factors are those of the reference.
  No condition: every input that the row reads.
-/
import Derived.Test.YtmglgahagbfbkaaRows
import Derived.Test.YtmglgahagbfbkaaZonesLaw
import Derived.Test.YtmglgahagbfbkaaOpenRain
namespace Go.Proofs.Ytmglgahagbfbkaa
open Go Go.RowKit Go.ChangeShapes Go.WideShapes Go.Deep Go.ChangeAt

theorem ownRainZones : ownKnob Try.prog.godebug = none := by kernel_rfl
theorem laidOutRainZones : laidOutB Try.prog = true := by kernel_rfl

set_option maxRecDepth 100000 in
theorem liftedRainZones (os : Os) (started : os.Started) (H : Type) (enc : TypeId × Value → H) :
    ReturnsInHanded {} Try.checked os 6 .any (Rows.rainZonesSpec.pre6 enc Try.prog Try.f6 Rows.rainZonesRow.domain false) (Rows.rainZonesSpec.post enc Try.prog Try.f6 false true false false) := by
  refine returnsInHanded_of_change (C := Try.checked) ownRainZones started (by kernel_rfl) Try.func6
    (ChangeSpec.witness6 (enc := enc) (C := Try.checked) false ⟨#[], #[.agg #[.slice none 0 0, .slice none 0 0, .int .i64 0, .int .i64 0, .int .i64 0, .int .i64 0, .int .i64 0, .int .i64 0], .agg #[.int .i64 0, .int .i64 0]], []⟩ 8 (by kernel_rfl) (by kernel_rfl) (by kernel_rfl) (by kernel_rfl)) ?_
  intro W base args ds gs before hval0 hW hcnd _
  have hval : ∀ (j : Nat) t v, Try.f6.params[j]? = some t → args[j]? = some v → Value.okWide Try.prog W .any base t v := hval0
  have hW' := hW
  obtain ⟨p, q, hA0, hV, rfl, hfz, hnd⟩ := hW
  have hA : DataW.TrodAll enc Try.prog W 0 (fun _ => true) true Try.f6.params.toList args.toList ds p := hA0
  rw [Try.params6] at hA hval
  have hAk := hA
  obtain ⟨v0, vs0, d0, ds0, p0, q0, hargs, rfl, rfl, h0, r0⟩ := trodAll_cons hA
  obtain ⟨v1, vs1, d1, ds1, p1, q1, rfl, rfl, rfl, h1, r1⟩ := trodAll_cons r0
  obtain ⟨rfl, rfl, rfl⟩ := trodAll_nil r1
  obtain rfl : args = #[v0, v1] := by cases args; simp_all
  obtain ⟨rfl, rfl⟩ := trodVars_none hV
  obtain ⟨A, n, c, l, A', n', c', m, a0, a1, b0, b1, c0, c1, rfl, hn, hmax, hn', hmax', hl, hm⟩ := open_model (hval 0 _ v0 rfl rfl) h0
  obtain ⟨x, y, rfl⟩ := open_span (hval 1 _ v1 rfl rfl) h1
  clear hA0 hval0
  unfold maxLen at hmax hmax'
  refine (RainZones_any A n c l A' n' c' m a0 a1 b0 b1 c0 c1 x y W hn (by omega) hn' (by omega) hl hm).mono fun e W' ⟨he, bel⟩ => ?_
  subst he
  exact ⟨_, rfl, _, _, _, [], _, [], hW', trodAll_mk1 (shut_bool Try.underlying4 _), trodAll_below laidOutRainZones bel (by kernel_rfl) hAk, rfl, bel.frame _, fun h => by cases h⟩

theorem RainZones_holds : Rows.RainZonesSaid :=
  OpenClaim.holds_of_wide 6 Try.f6 rfl rfl rfl rfl rfl rfl rfl ⟨rfl, rfl, rfl, rfl, rfl⟩ rfl rfl rfl rfl rfl (by kernel_rfl) Try.func6 (by kernel_rfl)
    (of_decide_eq_true (by kernel_rfl)) (by unfold Func.isWrapper; first | (rw [if_pos (by decide +kernel)]; kernel_rfl) | (rw [if_neg (by decide +kernel)]; exact ⟨rfl, rfl⟩))
    (fun os started H enc _ => liftedRainZones os started H enc)
#print axioms RainZones_holds
end Go.Proofs.Ytmglgahagbfbkaa
