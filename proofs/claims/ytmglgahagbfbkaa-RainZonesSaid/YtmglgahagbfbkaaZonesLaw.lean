/-
  The law RainZones returns true: for every model and every band.
-/
import Derived.Test.YtmglgahagbfbkaaPoints
import Derived.Test.YtmglgahagbfbkaaWorks
import Derived.Test.YtmglgahagbfbkaaFactor
import Derived.Test.YtmglgahagbfbkaaRegH
namespace Go.Proofs.Ytmglgahagbfbkaa
open Go.RowKit

theorem facR_form (l m : List (Int × Int)) (a b c d : Int × Int) : ∃ r1 r2 r3, facR l m a b c d = ((r1, r2), r3) := ⟨_, _, _, rfl⟩

set_option maxHeartbeats 4000000 in
set_option maxRecDepth 100000 in
theorem RainZones_any (A : Option Addr) (n c : Nat) (l : List (Int × Int)) (A' : Option Addr) (n' c' : Nat) (m : List (Int × Int)) (a0 a1 b0 b1 c0 c1 bx by_ : Int) (w : World) (hn : l.length = n) (hmax : n ≤ 9223372036854775807) (hn' : m.length = n') (hmax' : n' ≤ 9223372036854775807)
    (hl : Ints w w.heap.size .i64 A (flat2 l)) (hm : Ints w w.heap.size .i64 A' (flat2 m)) :
    Calls Try.prog 6 #[mdlV A n c A' n' c' (a0, a1) (b0, b1) (c0, c1), .agg #[.int .i64 bx, .int .i64 by_]] w fun e w' => e = .returned (.bool true) ∧ Below w.heap.size w w' := by
  have hV : mdlV A n c A' n' c' (a0, a1) (b0, b1) (c0, c1) = .agg #[.slice A n c, .slice A' n' c', .int .i64 a0, .int .i64 a1, .int .i64 b0, .int .i64 b1, .int .i64 c0, .int .i64 c1] := rfl
  have HV := hide hV
  rw [hV]
  clear hV
  have Hl := hide hl
  have Hm := hide hm
  have Hn := hide hn
  have Hn' := hide hn'
  clear hl hm hn hn'
  by_cases h1 : (100 : Int) < n
  · go_enter Try.func6, Try.ntmps6
    go_wp2_with fail
    refine (works_any _).mono ?_
    rintro e w1 ⟨rfl, hb⟩
    go_wp2
    go_ret
    exact ⟨rfl, (((Below.refl _ _).alloc (Nat.le_refl _) _).alloc (by simp) _).trans (hb.mono (by simp; omega))⟩
  by_cases h2 : (100 : Int) < n'
  · go_enter Try.func6, Try.ntmps6
    go_wp2_with fail
    refine (works_any _).mono ?_
    rintro e w1 ⟨rfl, hb⟩
    go_wp2
    go_ret
    exact ⟨rfl, (((Below.refl _ _).alloc (Nat.le_refl _) _).alloc (by simp) _).trans (hb.mono (by simp; omega))⟩
  go_enter Try.func6, Try.ntmps6
  go_wp2_with fail
  refine at_world fun W hW => ?_
  have bm : Blk W w.heap.size 26 #[.slice A n c, .slice A' n' c', .int .i64 a0, .int .i64 a1, .int .i64 b0, .int .i64 b1, .int .i64 c0, .int .i64 c1] := by rw [hW]; exact (Blk.new _ _ _).alloc _
  have bb : Blk W (w.heap.size + 1) 24 #[.int .i64 bx, .int .i64 by_] := by rw [hW]; exact blk_new_at (by simp)
  have BW : Below w.heap.size w W := by rw [hW]; exact ((Below.refl _ _).alloc (Nat.le_refl _) _).alloc (by simp) _
  have HB := hide BW
  have Hbm := hide bm
  have Hbb := hide bb
  clear hW bm bb BW
  refine (Factor_any A n c l A' n' c' m a0 a1 b0 b1 c0 c1 bx by_ W Hn.out hmax Hn'.out hmax' ((Hl.out.below HB.out).more HB.out.size) ((Hm.out.below HB.out).more HB.out.size)).mono ?_
  rintro e w1 ⟨rfl, hb⟩
  replace Hbm := hide (blk_later Hbm.out hb)
  replace Hbb := hide (blk_later Hbb.out hb)
  replace HB := hide (onward HB.out hb)
  clear hb
  have hfr := facR_form l m (a0, a1) (b0, b1) (c0, c1) (bx, by_)
  obtain ⟨r1, r2, r3, hfr⟩ := hfr
  have HF := hide hfr
  rw [hfr]
  clear hfr
  unfold spanE
  obtain ⟨x0, x1, x2, x3, x4, x5, x6, x7⟩ := Hbm.out.c8
  obtain ⟨y0, y1⟩ := Hbb.out.c2
  have ltm := Hbm.out.lt
  have ltb := Hbb.out.lt
  go_wp2_with fail
  refine code_world fun W2 hW => ?_
  have ba : Blk W2 w1.heap.size 24 #[.int .i64 r1, .int .i64 r2] := by rw [hW]; exact Blk.new _ _ _
  have LW : Later w1 W2 := by rw [hW]; exact (Below.refl _ _).alloc (Nat.le_refl _) _
  clear hW x0 x1 x2 x3 x4 x5 x6 x7 y0 y1 ltm ltb
  replace Hbm := hide (blk_later Hbm.out LW)
  replace Hbb := hide (blk_later Hbb.out LW)
  replace HB := hide (onward HB.out LW)
  have Hba := hide ba
  clear ba LW
  obtain ⟨x0, x1, x2, x3, x4, x5, x6, x7⟩ := Hbm.out.c8
  obtain ⟨y0, y1⟩ := Hbb.out.c2
  have ltm := Hbm.out.lt
  have ltb := Hbb.out.lt
  apply wp_region_L (w0 := W2) [true, false, true, false, true, true, true, false, false, true] [⟨1, none, [], []⟩, ⟨3, none, [1], []⟩, ⟨7, none, [], []⟩, ⟨8, some 7, [7], [7]⟩] (fun i y => match i with | 1 => mdlV (y 0).1 n (y 0).2 (y 1).1 n' (y 1).2 (a0, a1) (b0, b1) (c0, c1) | 3 => .tuple #[.agg #[.int .i64 r1, .int .i64 r2], .int .i64 r3] | 7 => .pointer (y 0).1 | 8 => undef | _ => undef) (fun i x F w => match i with | 1 => OwnF w F W2.heap.size 96 2 (.slice (x 1 0).1 n (x 1 0).2) n ((flat2 l).map (Value.int .i64)) ∧ OwnF w F W2.heap.size 96 2 (.slice (x 1 1).1 n' (x 1 1).2) n' ((flat2 m).map (Value.int .i64)) | 3 => True | 7 => PtrF w F W2.heap.size (x 7 0).1 24 #[.int .i64 0, .int .i64 0] | 8 => PtrF w F W2.heap.size (x 7 0).1 24 #[.int .i64 r1, .int .i64 r2] | _ => True) (fun a x => (((a).put (some 28) (mdlV ((x 1) 0).1 n ((x 1) 0).2 ((x 1) 1).1 n' ((x 1) 1).2 (a0, a1) (b0, b1) (c0, c1))).put (some 30) (.tuple #[.agg #[.int .i64 r1, .int .i64 r2], .int .i64 r3])).put (some 7) (.pointer ((x 7) 0).1)) (by kernel_rfl) (by kernel_rfl) (fun _ => rfl)
  · intro x D hD
    have hne := hD.some
    have k0 := liftB hD x0 (by omega)
    have k1 := liftB hD x1 (by omega)
    have k2 := liftB hD x2 (by omega)
    have k3 := liftB hD x3 (by omega)
    have k4 := liftB hD x4 (by omega)
    have k5 := liftB hD x5 (by omega)
    have k6 := liftB hD x6 (by omega)
    have k7 := liftB hD x7 (by omega)
    have j0 := liftB hD y0 (by omega)
    have j1 := liftB hD y1 (by omega)
    simp only [takeOps, Act.put, List.setIfInBounds_toArray, List.set_cons_succ, List.set_cons_zero]
    repeat (go_big_quiet_step (fail))
    exact wpQuiet_nil rfl
  · exact fun _ _ => rfl
  · refine ⟨?_, ?_, ?_, ?_, trivial⟩
    · refine obl_callL rfl (fun _ => by kernel_rfl) 18 (fun x => #[.agg #[.slice A n c, .slice A' n' c', .int .i64 a0, .int .i64 a1, .int .i64 b0, .int .i64 b1, .int .i64 c0, .int .i64 c1]]) (fun x w => by kernel_rfl) ?_
      intro x w F hL hN
      have hB := onward HB.out hL
      refine (model_own A n c l A' n' c' m (a0, a1) (b0, b1) (c0, c1) w Hn.out (by omega) Hn'.out (by omega) ((Hl.out.below hB).more hB.size) ((Hm.out.below hB).more hB.size)).mono ?_
      rintro e w' ⟨v, rfl, hb, A1, e1, A2, e2, rfl, o1, o2⟩
      exact ⟨fun k => if k = 0 then (A1, e1) else (A2, e2), rfl, hb, (OwnF.of o1 (Nat.le_refl _)).base hL.size, (OwnF.of o2 (Nat.le_refl _)).base hL.size⟩
    · refine obl_callL rfl (fun _ => by kernel_rfl) 28 (fun x => #[mdlV (x 1 0).1 n (x 1 0).2 (x 1 1).1 n' (x 1 1).2 (a0, a1) (b0, b1) (c0, c1), .agg #[.int .i64 bx, .int .i64 by_]]) (fun x w => by kernel_rfl) ?_
      intro x w F hL hN
      have n1 := hN 1 (by simp)
      refine calls_one (y := fun _ => (none, 0)) (RefFactor_any _ n _ l _ n' _ m a0 a1 b0 b1 c0 c1 bx by_ w Hn.out hmax Hn'.out hmax' (Ints.own n1.1.1 rfl (Nat.le_refl _)) (Ints.own n1.2.1 rfl (Nat.le_refl _))) ?_ (fun _ => trivial)
      rw [HF.out]; rfl
    · exact obl_alloc 24 7 (.agg #[.int .i64 0, .int .i64 0]) (by kernel_rfl) (by kernel_rfl) (fun _ => rfl) (fun _ _ _ h => h)
    · refine obl_store 24 7 31 7 #[.int .i64 0, .int .i64 0] (fun x => #[.int .i64 r1, .int .i64 r2]) (by kernel_rfl) rfl (by simp) (fun _ _ _ h => h) (fun _ => rfl) (fun _ => rfl) (fun _ => by kernel_rfl) (fun _ => rfl) (fun _ => by simp [Value.oneCell']) (fun _ => rfl) (by decide) (fun _ _ _ _ h => h)
  · refine ⟨?_, ?_, ?_, ?_, trivial⟩
    · refine ⟨fun x F w w' h hs hk => ?_, fun x x' F w hx h => ?_⟩
      · have h2 : OwnF w F W2.heap.size 96 2 (.slice (x 1 0).1 n (x 1 0).2) n ((flat2 l).map (Value.int .i64)) ∧ OwnF w F W2.heap.size 96 2 (.slice (x 1 1).1 n' (x 1 1).2) n' ((flat2 m).map (Value.int .i64)) := h
        exact ⟨h2.1.stab hk, h2.2.stab hk⟩
      · have h2 : OwnF w F W2.heap.size 96 2 (.slice (x 1 0).1 n (x 1 0).2) n ((flat2 l).map (Value.int .i64)) ∧ OwnF w F W2.heap.size 96 2 (.slice (x 1 1).1 n' (x 1 1).2) n' ((flat2 m).map (Value.int .i64)) := h
        rw [hx 1 (by simp)] at h2
        exact h2
    · exact owe_true (fun _ _ _ => trivial)
    · exact owe_ptr 7 _ _ (fun x => #[.int .i64 0, .int .i64 0]) (fun _ _ _ => rfl) (by simp) (fun _ _ _ => rfl)
    · exact owe_ptr 7 _ _ (fun x => #[.int .i64 r1, .int .i64 r2]) (fun _ _ _ => rfl) (by simp) (fun _ _ _ => rfl)
  intro xx w2 F hL2 hlv1
  obtain ⟨fct1, fct3, -, fct8, -⟩ := hlv1
  replace fct1 : OwnF w2 (F 1) W2.heap.size 96 2 (.slice (xx 1 0).1 n (xx 1 0).2) n ((flat2 l).map (Value.int .i64)) ∧ OwnF w2 (F 1) W2.heap.size 96 2 (.slice (xx 1 1).1 n' (xx 1 1).2) n' ((flat2 m).map (Value.int .i64)) := fct1 rfl
  clear fct3
  replace fct8 : PtrF w2 (F 8) W2.heap.size (xx 7 0).1 24 #[.int .i64 r1, .int .i64 r2] := fct8 rfl
  obtain ⟨g, hg, hge, -, hbg⟩ := fct8
  rw [hg]
  replace HB := hide (onward HB.out hL2)
  replace Hba := hide (blk_later Hba.out hL2)
  have Hbg := hide hbg
  clear hg hbg hL2 x0 x1 x2 x3 x4 x5 x6 x7 y0 y1 ltm ltb fct1
  obtain ⟨u0, u1⟩ := Hba.out.c2
  obtain ⟨v0, v1⟩ := Hbg.out.c2
  have lta := Hba.out.lt
  have ltg := Hbg.out.lt
  go_wp2_with fail
  refine (works_any _).mono ?_
  rintro e w3 ⟨rfl, hb⟩
  replace HB := hide (onward HB.out hb)
  clear hb u0 u1 v0 v1 lta ltg
  go_wp2
  go_ret
  exact ⟨rfl, HB.out⟩
end Go.Proofs.Ytmglgahagbfbkaa
