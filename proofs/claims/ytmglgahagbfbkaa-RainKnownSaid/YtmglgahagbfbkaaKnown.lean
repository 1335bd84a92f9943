/-
  The examples of the chapter: what the functions answer there.
-/
import Derived.Test.YtmglgahagbfbkaaRestore
import Derived.Test.YtmglgahagbfbkaaFill
import Derived.Test.YtmglgahagbfbkaaFactor
import Derived.Test.YtmglgahagbfbkaaSum
import Derived.Test.YtmglgahagbfbkaaAdjust
import Derived.Test.YtmglgahagbfbkaaWorks
import Derived.Test.YtmglgahagbfbkaaPoints
namespace Go.Proofs.Ytmglgahagbfbkaa
open Go.RowKit

theorem run_equalIn_arr2k {P : Program} {t e : TypeId} {k : IntKind} (ht : P.underlying t = some (.array 2 e)) (he : P.underlying e = some (.int k)) (hs : P.cellsOf e = 1) (n : Nat) (a b a' b' : Int) (w : World) :
    (Op.equalIn (n + 2) t (.agg #[.int k a, .int k b]) (.agg #[.int k a', .int k b'])).run P w = .ok (a == a' && b == b') w := by
  obtain ⟨i, hi⟩ := info_of_underlying he
  rw [run_equalIn_array w (n + 1) _ _ ht hi, hs]
  have hp : P.plainKey e = true := by unfold Program.plainKey; rw [he]
  have h0 : ∀ x y : Int, (part e #[Value.int k x, .int k y] 0).run P w = .ok (.int k x) w := fun x y => run_part_plain w hp rfl
  have h1 : ∀ x y : Int, (part e #[Value.int k x, .int k y] 1).run P w = .ok (.int k y) w := fun x y => run_part_plain w hp rfl
  have hq : ∀ x y : Int, (Op.equalIn (n + 1) e (.int k x) (.int k y)).run P w = .ok (x == y) w := fun x y => run_equalIn_int w n e k k x y he
  show (Op.eqItems (n + 1) e 1 _ _ [0, 1]).run P w = _
  simp only [Op.eqItems, Sem.run_bind, Nat.zero_mul, Nat.one_mul, h0, h1, hq, Result.andThen_ok]
  by_cases c0 : a = a' <;> by_cases c1 : b = b' <;> simp [c0, c1, h0, h1, hq, Sem.run_bind]

theorem kV1 : valueR tabT 101 = ((11, 11), 0) := by decide +kernel
theorem kV2 : valueR [(0, 0), (3, 1)] 1 = ((0, 1), 0) := by decide +kernel
theorem kV3 : valueR tabT 1000000 = ((110, 110), 0) := by decide +kernel
theorem kR1 : restR tabL [(1000, 1000), (500, 500), (125, 125)] = ([(1000, 1000), (1000, 1000), (500, 500)], 0) := by decide +kernel
theorem kR2 : restR tabL [(900, 1100), (500, 500)] = ([(900, 1100), (909, 1000)], 0) := by decide +kernel
theorem kF1 : fillR (100, 200) 3 (0, 1) = ((100, 300), 0) := by decide +kernel
theorem kF2 : fillR (100, 200) 3 (3, 3) = ((300, 1073741824), 0) := by decide +kernel
theorem kF3 : fillR (100, 200) 3 (1, 3) = ((150, 1073741824), 0) := by decide +kernel
theorem kZ1 : facR tabL tabT (2000, 2500) (200, 1000) (1000, 3000) (0, 1999) = ((1000, 1000), 0) := by decide +kernel
theorem kZ2 : facR tabL tabT (2000, 2500) (200, 1000) (1000, 3000) (1000, 2200) = ((200, 1000), 0) := by decide +kernel
theorem kZ3 : facR tabL tabT (2000, 2500) (200, 1000) (1000, 3000) (2600, 3000) = ((1000, 3000), 0) := by decide +kernel
theorem kZ4 : facR tabL tabT (2000, 2500) (200, 1000) (1000, 3000) (0, 9000) = ((200, 3000), 0) := by decide +kernel
theorem kS1 : sumR (fun j => [0, 360, 360, 100, 720, 720].getD j 0) 2 200 0 = ((300, 400), 0) := by decide +kernel
theorem kG1 : fellR 0 200 = ((0, 199), 0) := by decide +kernel
theorem kA1 : adjG (okZ (fun j => [1000, 2000, 3, 200, 4000, 4000, 10, 200].getD j 0)) (scZ (fun j => [1000, 2000, 3, 200, 4000, 4000, 10, 200].getD j 0)) 2 = (((451, 549), (0, 0)), 0) := by decide +kernel
theorem kA2 : adjG (okZ (fun j => [1000, 1000, 3, 200, 4000, 4000, 100, 200].getD j 0)) (scZ (fun j => [1000, 1000, 3, 200, 4000, 4000, 100, 200].getD j 0)) 2 = (((0, 0), (0, 1)), 14) := by decide +kernel

theorem to_world {w W x : World} {B : Nat} (h : W = x) (hb : Below B w x) : Below B w W := h ▸ hb
theorem blk_to {W x : World} {g : Nat} {t : TypeId} {cs : Array Value} (h : W = x) (hb : Blk x g t cs) : Blk W g t cs := h ▸ hb
theorem T_at (w : World) : Calls Try.prog 21 #[] w fun e w' => ∃ g, e = .returned (.slice (some ⟨g, 0, none⟩) 3 3) ∧ w.heap.size ≤ g ∧ Blk w' g 94 #[.int .i64 0, .int .i64 0, .int .i64 100, .int .i64 10, .int .i64 200, .int .i64 110] ∧ Below w.heap.size w w' := by
  refine (T_any w).mono ?_
  rintro e w1 ⟨rfl, rfl⟩
  exact ⟨_, rfl, Nat.le_refl _, Blk.new _ _ _, (Below.refl _ _).alloc (Nat.le_refl _) _⟩
theorem L_at (w : World) : Calls Try.prog 42 #[] w fun e w' => ∃ g, e = .returned (.slice (some ⟨g, 0, none⟩) 2 2) ∧ w.heap.size ≤ g ∧ Blk w' g 94 #[.int .i64 0, .int .i64 0, .int .i64 1000, .int .i64 32768] ∧ Below w.heap.size w w' := by
  refine (L_any w).mono ?_
  rintro e w1 ⟨rfl, rfl⟩
  exact ⟨_, rfl, Nat.le_refl _, Blk.new _ _ _, (Below.refl _ _).alloc (Nat.le_refl _) _⟩
theorem spans_post {f : FuncId} {args : Array Value} {w : World} {r : List (Int × Int) × Int} {l : List (Int × Int)} {k : Int} {n : Nat} (h : Calls Try.prog f args w (SpansPost r w)) (hr : r = (l, k)) (hn : l.length = n) :
    Calls Try.prog f args w fun e w' => ∃ A c, e = .returned (.tuple #[.slice A n c, .int .i64 k]) ∧ Below w.heap.size w w' ∧ w'.ownsRow w.heap.size 24 2 (.slice A n c) n (spanCells l) := by
  subst hr hn
  refine h.mono ?_
  rintro e w' ⟨v, rfl, ho, hb⟩
  obtain ⟨A, c, rfl⟩ := own_slice ho
  exact ⟨A, c, rfl, hb, ho⟩
theorem eqAt3 (a b a' b' : Int) (w : World) : (Op.equalIn 10000 72 (.agg #[.int .i64 a, .int .i64 b]) (.agg #[.int .i64 a', .int .i64 b'])).run Try.prog w = .ok (a == a' && b == b') w :=
  run_equalIn_arr2k Try.underlying72 Try.underlying3 (by kernel_rfl) 9998 a b a' b' w
theorem ints_at {w : World} {g : Nat} {t : TypeId} {cs : Array Value} {zs : List Int} (hb : Blk w g t cs) (h : cs.toList = zs.map (Value.int .i64)) : Ints w w.heap.size .i64 (some ⟨g, 0, none⟩) zs := (ints_new hb h).more hb.lt

set_option maxHeartbeats 8000000 in
set_option maxRecDepth 100000 in
theorem RainKnown_any (w : World) : Calls Try.prog 11 #[] w fun e w' => e = .returned (.bool true) ∧ Below w.heap.size w w' := by
  have heq := eqAt3
  go_enter Try.func11, Try.ntmps11
  have HB := hide (Below.refl w.heap.size w)
  go_wp2_with fail
  refine (T_at _).mono ?_
  rintro e w1 ⟨gt, rfl, -, hq, hb⟩
  replace HB := hide (onward HB.out hb)
  clear hb
  have HT := hide hq
  clear hq
  go_wp2_with fail
  have c1 := Value_any (some ⟨gt, 0, none⟩) 3 3 tabT 101 w1 rfl (by decide) (ints_at HT.out rfl)
  rw [kV1] at c1
  unfold spanE at c1
  refine (c1).mono ?_
  rintro e w2 ⟨rfl, hb⟩
  replace HB := hide (onward HB.out hb)
  replace HT := hide (blk_later HT.out hb)
  clear hb
  clear c1
  clear HT
  have HO := hide HB.out.size
  go_wp2_with fail
  refine at_world fun W2 hW => ?_
  have bq0 : Blk W2 w2.heap.size 24 #[.int .i64 11, .int .i64 11] := by rw [hW]; exact (Blk.new _ _ _).alloc _
  have bq1 : Blk W2 (w2.heap.size + 1) 94 #[.int .i64 0, .int .i64 0, .int .i64 3, .int .i64 1] := by rw [hW]; exact blk_new_at (by simp)
  have LW : Later w2 W2 := by rw [hW]; exact (((Below.refl _ _).alloc (Nat.le_refl _) _).alloc (by simp; try omega) _)
  have szW : W2.heap.size = w2.heap.size + 2 := by rw [hW]; simp
  clear hW
  replace HB := hide (onward HB.out LW)
  have Ha := hide bq0
  have Hs := hide bq1
  clear bq0 bq1 LW szW
  have c1 := Value_any (some ⟨w2.heap.size + 1, 0, none⟩) 2 2 [(0, 0), (3, 1)] 1 W2 rfl (by decide) (ints_at Hs.out rfl)
  rw [kV2] at c1
  unfold spanE at c1
  refine (c1).mono ?_
  rintro e w3 ⟨rfl, hb⟩
  replace HB := hide (onward HB.out hb)
  replace Ha := hide (blk_later Ha.out hb)
  replace Hs := hide (blk_later Hs.out hb)
  clear hb
  clear c1
  clear Hs
  replace HO := hide (And.intro HO.out Ha.out.lt)
  go_wp2_with fail
  refine at_world fun W3 hW => ?_
  have bq0 : Blk W3 w3.heap.size 24 #[.int .i64 0, .int .i64 1] := by rw [hW]; exact Blk.new _ _ _
  have LW : Later w3 W3 := by rw [hW]; exact ((Below.refl _ _).alloc (Nat.le_refl _) _)
  have szW : W3.heap.size = w3.heap.size + 1 := by rw [hW]; simp
  clear hW
  replace HB := hide (onward HB.out LW)
  replace Ha := hide (blk_later Ha.out LW)
  have Hb := hide bq0
  clear bq0 LW szW
  refine (T_at _).mono ?_
  rintro e w4 ⟨gt, rfl, -, hq, hb⟩
  replace HB := hide (onward HB.out hb)
  replace Ha := hide (blk_later Ha.out hb)
  replace Hb := hide (blk_later Hb.out hb)
  clear hb
  have HT := hide hq
  clear hq
  go_wp2_with fail
  have c1 := Value_any (some ⟨gt, 0, none⟩) 3 3 tabT 1000000 w4 rfl (by decide) (ints_at HT.out rfl)
  rw [kV3] at c1
  unfold spanE at c1
  refine (c1).mono ?_
  rintro e w5 ⟨rfl, hb⟩
  replace HB := hide (onward HB.out hb)
  replace Ha := hide (blk_later Ha.out hb)
  replace Hb := hide (blk_later Hb.out hb)
  replace HT := hide (blk_later HT.out hb)
  clear hb
  clear c1
  clear HT
  replace HO := hide (And.intro HO.out Hb.out.lt)
  go_wp2_with fail
  refine at_world fun W5 hW => ?_
  have bq0 : Blk W5 w5.heap.size 24 #[.int .i64 110, .int .i64 110] := by rw [hW]; exact Blk.new _ _ _
  have LW : Later w5 W5 := by rw [hW]; exact ((Below.refl _ _).alloc (Nat.le_refl _) _)
  have szW : W5.heap.size = w5.heap.size + 1 := by rw [hW]; simp
  clear hW
  replace HB := hide (onward HB.out LW)
  replace Ha := hide (blk_later Ha.out LW)
  replace Hb := hide (blk_later Hb.out LW)
  have Hc := hide bq0
  clear bq0 LW szW
  refine (L_at _).mono ?_
  rintro e w6 ⟨gl, rfl, -, hq, hb⟩
  replace HB := hide (onward HB.out hb)
  replace Ha := hide (blk_later Ha.out hb)
  replace Hb := hide (blk_later Hb.out hb)
  replace Hc := hide (blk_later Hc.out hb)
  clear hb
  have HL := hide hq
  clear hq
  go_wp2_with fail
  refine (point_any _ _).mono ?_
  rintro e w7 ⟨rfl, hb⟩
  replace HB := hide (onward HB.out hb)
  replace Ha := hide (blk_later Ha.out hb)
  replace Hb := hide (blk_later Hb.out hb)
  replace Hc := hide (blk_later Hc.out hb)
  replace HL := hide (blk_later HL.out hb)
  clear hb
  go_wp2_with fail
  refine (point_any _ _).mono ?_
  rintro e w8 ⟨rfl, hb⟩
  replace HB := hide (onward HB.out hb)
  replace Ha := hide (blk_later Ha.out hb)
  replace Hb := hide (blk_later Hb.out hb)
  replace Hc := hide (blk_later Hc.out hb)
  replace HL := hide (blk_later HL.out hb)
  clear hb
  go_wp2_with fail
  refine (point_any _ _).mono ?_
  rintro e w9 ⟨rfl, hb⟩
  replace HB := hide (onward HB.out hb)
  replace Ha := hide (blk_later Ha.out hb)
  replace Hb := hide (blk_later Hb.out hb)
  replace Hc := hide (blk_later Hc.out hb)
  replace HL := hide (blk_later HL.out hb)
  clear hb
  go_wp2_with fail
  refine at_world fun W9 hW => ?_
  have bq0 : Blk W9 w9.heap.size 24 #[.int .i64 1000, .int .i64 1000, .int .i64 500, .int .i64 500, .int .i64 125, .int .i64 125] := by rw [hW]; exact Blk.new _ _ _
  have LW : Later w9 W9 := by rw [hW]; exact ((Below.refl _ _).alloc (Nat.le_refl _) _)
  have szW : W9.heap.size = w9.heap.size + 1 := by rw [hW]; simp
  clear hW
  replace HB := hide (onward HB.out LW)
  replace Ha := hide (blk_later Ha.out LW)
  replace Hb := hide (blk_later Hb.out LW)
  replace Hc := hide (blk_later Hc.out LW)
  replace HL := hide (blk_later HL.out LW)
  have Hs := hide bq0
  clear bq0 LW szW
  have c1 := spans_post (Restore_any (some ⟨gl, 0, none⟩) 2 2 tabL (some ⟨w9.heap.size, 0, none⟩) 3 3 [(1000, 1000), (500, 500), (125, 125)] W9 rfl (by decide) rfl (by decide) (ints_at HL.out rfl) (ints_at Hs.out rfl)) kR1 rfl
  refine (c1).mono ?_
  rintro e w10 ⟨A1, k1, rfl, hb, ho⟩
  replace HB := hide (onward HB.out hb)
  replace Ha := hide (blk_later Ha.out hb)
  replace Hb := hide (blk_later Hb.out hb)
  replace Hc := hide (blk_later Hc.out hb)
  replace HL := hide (blk_later HL.out hb)
  replace Hs := hide (blk_later Hs.out hb)
  clear hb
  clear c1
  clear HL Hs
  have Ho1 := hide ho
  clear ho
  go_wp2_with fail
  refine (L_at _).mono ?_
  rintro e w11 ⟨gm, rfl, -, hq, hb⟩
  replace HB := hide (onward HB.out hb)
  replace Ha := hide (blk_later Ha.out hb)
  replace Hb := hide (blk_later Hb.out hb)
  replace Hc := hide (blk_later Hc.out hb)
  replace Ho1 := hide (own_later Ho1.out hb)
  clear hb
  have HL := hide hq
  clear hq
  go_wp2_with fail
  refine (point_any _ _).mono ?_
  rintro e w12 ⟨rfl, hb⟩
  replace HB := hide (onward HB.out hb)
  replace Ha := hide (blk_later Ha.out hb)
  replace Hb := hide (blk_later Hb.out hb)
  replace Hc := hide (blk_later Hc.out hb)
  replace Ho1 := hide (own_later Ho1.out hb)
  replace HL := hide (blk_later HL.out hb)
  clear hb
  go_wp2_with fail
  refine at_world fun W12 hW => ?_
  have bq0 : Blk W12 w12.heap.size 24 #[.int .i64 900, .int .i64 1100, .int .i64 500, .int .i64 500] := by rw [hW]; exact Blk.new _ _ _
  have LW : Later w12 W12 := by rw [hW]; exact ((Below.refl _ _).alloc (Nat.le_refl _) _)
  have szW : W12.heap.size = w12.heap.size + 1 := by rw [hW]; simp
  clear hW
  replace HB := hide (onward HB.out LW)
  replace Ha := hide (blk_later Ha.out LW)
  replace Hb := hide (blk_later Hb.out LW)
  replace Hc := hide (blk_later Hc.out LW)
  replace Ho1 := hide (own_later Ho1.out LW)
  replace HL := hide (blk_later HL.out LW)
  have Hs := hide bq0
  clear bq0 LW szW
  have c1 := spans_post (Restore_any (some ⟨gm, 0, none⟩) 2 2 tabL (some ⟨w12.heap.size, 0, none⟩) 2 2 [(900, 1100), (500, 500)] W12 rfl (by decide) rfl (by decide) (ints_at HL.out rfl) (ints_at Hs.out rfl)) kR2 rfl
  refine (c1).mono ?_
  rintro e w13 ⟨A2, k2, rfl, hb, ho⟩
  replace HB := hide (onward HB.out hb)
  replace Ha := hide (blk_later Ha.out hb)
  replace Hb := hide (blk_later Hb.out hb)
  replace Hc := hide (blk_later Hc.out hb)
  replace Ho1 := hide (own_later Ho1.out hb)
  replace HL := hide (blk_later HL.out hb)
  replace Hs := hide (blk_later Hs.out hb)
  clear hb
  clear c1
  clear HL Hs
  have Ho2 := hide ho
  clear ho
  obtain ⟨a0, a1⟩ := Ha.out.c2
  have lta := Ha.out.lt
  obtain ⟨b0, b1⟩ := Hb.out.c2
  have ltb := Hb.out.lt
  obtain ⟨c0, c1⟩ := Hc.out.c2
  have ltc := Hc.out.lt
  go_wp2_with fail
  apply wp_region_L (w0 := w13) [[], [], [], [], [], [], [], [], [], [], [], [], [], [], [], [], [], [], [], [], [], [], [], [], [], [], [], [], [], [], [], [30], [30, 31], [30, 31], [30, 31], [30, 31], [30, 31], [30, 31], [30, 31], [30, 31], [30, 31], [30, 31], [30, 31], [30, 31, 42], [30, 31, 42, 43], [30, 31, 42, 43], [30, 31, 42, 43], [30, 31, 42, 43], [30, 31, 42, 43], [30, 31, 42, 43]] [true, true, true, true, true, true, true, true, true, true, true, true, true, true, true, true, true, true, true, true, true, true, true, true, true, true, true, true, true, true, false, false, true, true, true, true, true, true, true, true, true, true, false, false, true, true, true, true, true, true] [⟨30, none, [], []⟩, ⟨31, none, [30], []⟩, ⟨42, none, [], []⟩, ⟨43, none, [42], []⟩] (fun ixq y => match ixq with | 30 => .slice (y 0).1 3 3 | 31 => .bool true | 42 => .slice (y 0).1 2 2 | 43 => .bool true | _ => undef) (fun ixq x F wq => match ixq with | 30 => OwnF wq F w13.heap.size 24 2 (.slice (x 30 0).1 3 3) 3 #[.int .i64 1000, .int .i64 1000, .int .i64 1000, .int .i64 1000, .int .i64 500, .int .i64 500].toList | 31 => True | 42 => OwnF wq F w13.heap.size 24 2 (.slice (x 42 0).1 2 2) 2 #[.int .i64 900, .int .i64 1100, .int .i64 909, .int .i64 1000].toList | 43 => True | _ => True) (fun a x => ((((a).put (some 83) (.slice ((x 30) 0).1 3 3)).put (some 84) (.bool true)).put (some 95) (.slice ((x 42) 0).1 2 2)).put (some 96) (.bool true)) (by kernel_rfl) (by kernel_rfl) (fun _ => rfl) [54, 71, 80, 81, 82] (by kernel_rfl)
  · intro x D hD
    have hne := hD.some
    have k0 := liftB hD a0 (by first | assumption | omega)
    have k1 := liftB hD a1 (by first | assumption | omega)
    have l0 := liftB hD b0 (by first | assumption | omega)
    have l1 := liftB hD b1 (by first | assumption | omega)
    have m0 := liftB hD c0 (by first | assumption | omega)
    have m1 := liftB hD c1 (by first | assumption | omega)
    simp only [takeOps, Act.put, List.setIfInBounds_toArray, List.set_cons_succ, List.set_cons_zero]
    repeat (go_big_quiet_step ((go_at_call 24; exact calls_later hD _ (point_any _ _))))
    exact wpQuiet_nil rfl
  · intro d hd x x'
    simp only [List.mem_cons, List.not_mem_nil, or_false] at hd
    rcases hd with rfl | rfl | rfl | rfl | rfl
    all_goals rfl
  · refine ⟨?_, ?_, ?_, ?_, trivial⟩
    · exact obl_new rfl (fun _ => by kernel_rfl) 24 (fun x => #[.int .i64 1000, .int .i64 1000, .int .i64 1000, .int .i64 1000, .int .i64 500, .int .i64 500]) gP (fun x w => by kernel_rfl) (fun x w hle => own_new hle rfl (by unfold maxLen; omega))
    · refine obl_callL rfl (fun _ => by kernel_rfl) 39 (fun x => #[.slice A1 3 k1, .slice (x 30 0).1 3 3]) (fun x w => by kernel_rfl) ?_
      intro x w F hL hN
      have n30 := hN 30 (by simp)
      have c := same_any A1 3 k1 [(1000, 1000), (1000, 1000), (500, 500)] (x 30 0).1 3 3 [(1000, 1000), (1000, 1000), (500, 500)] w rfl (by decide) rfl (by decide) (Ints.own (own_later Ho1.out hL) rfl (Nat.le_refl _)) (Ints.own n30.1 rfl (Nat.le_refl _))
      exact calls_one (y := fun _ => (none, 0)) c (by simp) (fun _ => trivial)
    · exact obl_new rfl (fun _ => by kernel_rfl) 24 (fun x => #[.int .i64 900, .int .i64 1100, .int .i64 909, .int .i64 1000]) gP (fun x w => by kernel_rfl) (fun x w hle => own_new hle rfl (by unfold maxLen; omega))
    · refine obl_callL rfl (fun _ => by kernel_rfl) 39 (fun x => #[.slice A2 2 k2, .slice (x 42 0).1 2 2]) (fun x w => by kernel_rfl) ?_
      intro x w F hL hN
      have n42 := hN 42 (by simp)
      have c := same_any A2 2 k2 [(900, 1100), (909, 1000)] (x 42 0).1 2 2 [(900, 1100), (909, 1000)] w rfl (by decide) rfl (by decide) (Ints.own (own_later Ho2.out hL) rfl (Nat.le_refl _)) (Ints.own n42.1 rfl (Nat.le_refl _))
      exact calls_one (y := fun _ => (none, 0)) c (by simp) (fun _ => trivial)
  · refine ⟨?_, ?_, ?_, ?_, trivial⟩
    · refine ⟨fun x F wq wq' h hs hk => ?_, fun x x' F wq hx h => ?_⟩
      · have h2 : OwnF wq F w13.heap.size 24 2 (.slice (x 30 0).1 3 3) 3 #[.int .i64 1000, .int .i64 1000, .int .i64 1000, .int .i64 1000, .int .i64 500, .int .i64 500].toList := h
        exact h2.stab hk
      · have h2 : OwnF wq F w13.heap.size 24 2 (.slice (x 30 0).1 3 3) 3 #[.int .i64 1000, .int .i64 1000, .int .i64 1000, .int .i64 1000, .int .i64 500, .int .i64 500].toList := h
        rw [hx 30 (by simp)] at h2
        exact h2
    · exact owe_true (fun _ _ _ => trivial)
    · refine ⟨fun x F wq wq' h hs hk => ?_, fun x x' F wq hx h => ?_⟩
      · have h2 : OwnF wq F w13.heap.size 24 2 (.slice (x 42 0).1 2 2) 2 #[.int .i64 900, .int .i64 1100, .int .i64 909, .int .i64 1000].toList := h
        exact h2.stab hk
      · have h2 : OwnF wq F w13.heap.size 24 2 (.slice (x 42 0).1 2 2) 2 #[.int .i64 900, .int .i64 1100, .int .i64 909, .int .i64 1000].toList := h
        rw [hx 42 (by simp)] at h2
        exact h2
    · exact owe_true (fun _ _ _ => trivial)
  intro xx w14 F hL hlv1
  obtain ⟨fct30, fct31, fct42, fct43, -⟩ := hlv1
  replace fct30 : OwnF w14 (F 30) w13.heap.size 24 2 (.slice (xx 30 0).1 3 3) 3 #[.int .i64 1000, .int .i64 1000, .int .i64 1000, .int .i64 1000, .int .i64 500, .int .i64 500].toList := fct30 rfl
  clear fct31
  replace fct42 : OwnF w14 (F 42) w13.heap.size 24 2 (.slice (xx 42 0).1 2 2) 2 #[.int .i64 900, .int .i64 1100, .int .i64 909, .int .i64 1000].toList := fct42 rfl
  clear fct43
  clear fct30 fct42
  replace HB := hide (onward HB.out hL)
  replace Ha := hide (blk_later Ha.out hL)
  replace Hb := hide (blk_later Hb.out hL)
  replace Hc := hide (blk_later Hc.out hL)
  replace Ho1 := hide (own_later Ho1.out hL)
  replace Ho2 := hide (own_later Ho2.out hL)
  clear hL a0 a1 lta b0 b1 ltb c0 c1 ltc
  clear Ho1 Ho2
  replace HO := hide (And.intro HO.out Hc.out.lt)
  go_wp2_with fail
  refine at_world fun W14 hW => ?_
  have bq0 : Blk W14 w14.heap.size 24 #[.int .i64 100, .int .i64 200] := by rw [hW]; exact Blk.new _ _ _
  have LW : Later w14 W14 := by rw [hW]; exact ((Below.refl _ _).alloc (Nat.le_refl _) _)
  have szW : W14.heap.size = w14.heap.size + 1 := by rw [hW]; simp
  clear hW
  replace HB := hide (onward HB.out LW)
  replace Ha := hide (blk_later Ha.out LW)
  replace Hb := hide (blk_later Hb.out LW)
  replace Hc := hide (blk_later Hc.out LW)
  have Hp := hide bq0
  clear bq0 LW szW
  have c1 := Fill_any 100 200 3 0 1 W14
  rw [kF1] at c1
  unfold spanE at c1
  refine (c1).mono ?_
  rintro e w15 ⟨rfl, hb⟩
  replace HB := hide (onward HB.out hb)
  replace Ha := hide (blk_later Ha.out hb)
  replace Hb := hide (blk_later Hb.out hb)
  replace Hc := hide (blk_later Hc.out hb)
  replace Hp := hide (blk_later Hp.out hb)
  clear hb
  clear c1
  replace HO := hide (And.intro HO.out Hp.out.lt)
  obtain ⟨a0, a1⟩ := Ha.out.c2
  have lta := Ha.out.lt
  have fa0 := Ha.out.frozen 0
  have fa1 := Ha.out.frozen 1
  go_upto_region 10 with fail
  have lq_HB := HB.out.size
  have lq_Ha := Ha.out.lt
  have lq_Hb := Hb.out.lt
  have lq_Hc := Hc.out.lt
  have lq_Hp := Hp.out.lt
  first | refine at_world fun W15 hW => ?_ | refine code_world fun W15 hW => ?_
  replace HB := hide (to_world hW (Below.setCell (Below.setCell HB.out (by have ho := HO.out; (try dsimp only); omega) _) (by have ho := HO.out; (try dsimp only); omega) _) : Below _ _ W15)
  have q_Ha := blk_to hW (Blk.set_ (Blk.set_ Ha.out 0 _) 1 _)
  replace Ha := hide (blk_of q_Ha (show _ = #[.int .i64 100, .int .i64 300] from rfl))
  clear q_Ha
  have q_Hb := blk_to hW (Blk.far (Blk.far Hb.out (by have ho := HO.out; (try dsimp only); omega) _) (by have ho := HO.out; (try dsimp only); omega) _)
  replace Hb := hide q_Hb
  clear q_Hb
  have q_Hc := blk_to hW (Blk.far (Blk.far Hc.out (by have ho := HO.out; (try dsimp only); omega) _) (by have ho := HO.out; (try dsimp only); omega) _)
  replace Hc := hide q_Hc
  clear q_Hc
  have q_Hp := blk_to hW (Blk.far (Blk.far Hp.out (by have ho := HO.out; (try dsimp only); omega) _) (by have ho := HO.out; (try dsimp only); omega) _)
  replace Hp := hide q_Hp
  clear q_Hp
  clear hW lq_HB lq_Ha lq_Hb lq_Hc lq_Hp a0 a1 lta fa0 fa1
  obtain ⟨p0, p1⟩ := Hp.out.c2
  have ltp := Hp.out.lt
  obtain ⟨b0, b1⟩ := Hb.out.c2
  have ltb := Hb.out.lt
  have hF2 := fun W => Fill_any 100 200 3 3 3 W
  rw [kF2] at hF2
  unfold spanE at hF2
  have HF2 := hide hF2
  clear hF2
  apply wp_region_F (w0 := W15) [[], [], [0, 1], [0, 1, 2], [0, 1, 2, 3], [0, 1, 2, 3], [0, 1, 2, 3, 4], [0, 1, 2, 3, 4, 5, 6]] [true, true, true, true, true, false, false, false] [false, false, false, false, false, true, false, true] [⟨6, none, [], []⟩] [(6, (w3.heap.size))] [6] (fun ixq y => match ixq with | 6 => undef | _ => undef) (fun ixq x F wq => match ixq with | 6 => F (w3.heap.size) ∧ Blk wq (w3.heap.size) 24 #[.int .i64 300, .int .i64 1073741824] | _ => True) (fun a x => (a).put (none) (undef)) (by kernel_rfl) (by kernel_rfl) (by kernel_rfl) (fun _ => rfl) [112, 113] (by kernel_rfl) (fills_lt1 (by omega)) fills_ne1
  · intro x D hD
    have hne := hD.some
    have k0 := liftS hD p0 (by exact early_all (by first | assumption | omega) (by rfl))
    have k1 := liftS hD p1 (by exact early_all (by first | assumption | omega) (by rfl))
    simp only [takeOps, Act.put, List.setIfInBounds_toArray, List.set_cons_succ, List.set_cons_zero]
    repeat (go_big_quiet_step ((first | (go_at_call 24; exact calls_later hD _ (point_any _ _)) | (go_at_call 40; exact calls_later hD _ (HF2.out _)))))
    exact wpQuiet_nil rfl
  · intro x D hD
    have hne := hD.some
    simp only [takeOps, Act.put, List.setIfInBounds_toArray, List.set_cons_succ, List.set_cons_zero]
    repeat (go_big_quiet_step ((first | (go_at_call 24; exact calls_later hD _ (point_any _ _)) | (go_at_call 40; exact calls_later hD _ (HF2.out _)))))
    exact wpQuiet_nil rfl
  · intro d hd x x'
    simp only [List.mem_cons, List.not_mem_nil, or_false] at hd
    rcases hd with rfl | rfl
    all_goals rfl
  · refine ⟨?_, trivial⟩
    · exact obl_fill 24 24 3 114 (w3.heap.size) _ (fun x => #[.int .i64 300, .int .i64 1073741824]) (by kernel_rfl) (fun _ => rfl) (fun _ => rfl) Hb.out eb_fill1 (by simp [wrF]) (fun _ => by kernel_rfl) (fun _ => rfl) (fun _ => by simp [Value.oneCell']) (fun _ => rfl) (fun _ _ _ _ h1 h2 => ⟨h1, h2⟩)
  · refine ⟨?_, trivial⟩
    · exact owe_fill (w3.heap.size) 24 (fun x => #[.int .i64 300, .int .i64 1073741824]) (fun _ _ _ => rfl) (fun _ _ _ => rfl)
  intro xx w16 F hK hlv2
  obtain ⟨fct6, -⟩ := hlv2
  replace fct6 : (F 6) (w3.heap.size) ∧ Blk w16 (w3.heap.size) 24 #[.int .i64 300, .int .i64 1073741824] := fct6 rfl
  have hne := HO.out
  have hgr := grown_kept hK
  replace HB := hide (below_grown HB.out hgr HB.out.size (fun q hq => by simp at hq; omega))
  replace Ha := hide (blk_grown Ha.out hgr (by first | (simp; done) | (simp; omega)))
  replace Hb := hide fct6.2
  replace Hc := hide (blk_grown Hc.out hgr (by first | (simp; done) | (simp; omega)))
  replace Hp := hide (blk_grown Hp.out hgr (by first | (simp; done) | (simp; omega)))
  clear hgr hK fct6 p0 p1 ltp b0 b1 ltb
  clear hne
  obtain ⟨p0, p1⟩ := Hp.out.c2
  have ltp := Hp.out.lt
  go_wp2_with fail
  have c1 := Fill_any 100 200 3 1 3 w16
  rw [kF3] at c1
  unfold spanE at c1
  refine (c1).mono ?_
  rintro e w17 ⟨rfl, hb⟩
  replace HB := hide (onward HB.out hb)
  replace Ha := hide (blk_later Ha.out hb)
  replace Hb := hide (blk_later Hb.out hb)
  replace Hc := hide (blk_later Hc.out hb)
  replace Hp := hide (blk_later Hp.out hb)
  clear hb p0 p1 ltp
  clear c1
  obtain ⟨c0, c1⟩ := Hc.out.c2
  have ltc := Hc.out.lt
  have fc0 := Hc.out.frozen 0
  have fc1 := Hc.out.frozen 1
  go_upto_region 12 with fail
  have lq_HB := HB.out.size
  have lq_Ha := Ha.out.lt
  have lq_Hb := Hb.out.lt
  have lq_Hc := Hc.out.lt
  have lq_Hp := Hp.out.lt
  first | refine at_world fun W17 hW => ?_ | refine code_world fun W17 hW => ?_
  replace HB := hide (to_world hW (Below.setCell (Below.setCell HB.out (by have ho := HO.out; (try dsimp only); omega) _) (by have ho := HO.out; (try dsimp only); omega) _) : Below _ _ W17)
  have q_Ha := blk_to hW (Blk.far (Blk.far Ha.out (by have ho := HO.out; (try dsimp only); omega) _) (by have ho := HO.out; (try dsimp only); omega) _)
  replace Ha := hide q_Ha
  clear q_Ha
  have q_Hb := blk_to hW (Blk.far (Blk.far Hb.out (by have ho := HO.out; (try dsimp only); omega) _) (by have ho := HO.out; (try dsimp only); omega) _)
  replace Hb := hide q_Hb
  clear q_Hb
  have q_Hc := blk_to hW (Blk.set_ (Blk.set_ Hc.out 0 _) 1 _)
  replace Hc := hide (blk_of q_Hc (show _ = #[.int .i64 150, .int .i64 1073741824] from rfl))
  clear q_Hc
  have q_Hp := blk_to hW (Blk.far (Blk.far Hp.out (by have ho := HO.out; (try dsimp only); omega) _) (by have ho := HO.out; (try dsimp only); omega) _)
  replace Hp := hide q_Hp
  clear q_Hp
  clear hW lq_HB lq_Ha lq_Hb lq_Hc lq_Hp c0 c1 ltc fc0 fc1
  obtain ⟨a0, a1⟩ := Ha.out.c2
  have lta := Ha.out.lt
  obtain ⟨b0, b1⟩ := Hb.out.c2
  have ltb := Hb.out.lt
  obtain ⟨c0, c1⟩ := Hc.out.c2
  have ltc := Hc.out.lt
  go_wp2_with fail
  replace HO := hide (And.intro HO.out Hp.out.lt)
  refine (L_at _).mono ?_
  rintro e w18 ⟨gl, rfl, hge, hq, hb⟩
  replace HB := hide (onward HB.out hb)
  replace Ha := hide (blk_later Ha.out hb)
  replace Hb := hide (blk_later Hb.out hb)
  replace Hc := hide (blk_later Hc.out hb)
  replace Hp := hide (blk_later Hp.out hb)
  clear hb a0 a1 lta b0 b1 ltb c0 c1 ltc
  have HL := hide hq
  clear hq
  replace HO := hide (And.intro HO.out (And.intro hge HL.out.lt))
  clear hge
  go_wp2_with fail
  refine (T_at _).mono ?_
  rintro e w19 ⟨gt, rfl, hge, hq, hb⟩
  replace HB := hide (onward HB.out hb)
  replace Ha := hide (blk_later Ha.out hb)
  replace Hb := hide (blk_later Hb.out hb)
  replace Hc := hide (blk_later Hc.out hb)
  replace Hp := hide (blk_later Hp.out hb)
  replace HL := hide (blk_later HL.out hb)
  clear hb
  have HT := hide hq
  clear hq
  replace HO := hide (And.intro HO.out (And.intro hge HT.out.lt))
  clear hge
  go_wp2_with fail
  refine at_world fun W19 hW => ?_
  have bq0 : Blk W19 w19.heap.size 26 #[.slice (some ⟨gl, 0, none⟩) 2 2, .slice (some ⟨gt, 0, none⟩) 3 3, .int .i64 2000, .int .i64 2500, .int .i64 200, .int .i64 1000, .int .i64 1000, .int .i64 3000] := by rw [hW]; exact Blk.new _ _ _
  have LW : Later w19 W19 := by rw [hW]; exact ((Below.refl _ _).alloc (Nat.le_refl _) _)
  have szW : W19.heap.size = w19.heap.size + 1 := by rw [hW]; simp
  clear hW
  replace HB := hide (onward HB.out LW)
  replace Ha := hide (blk_later Ha.out LW)
  replace Hb := hide (blk_later Hb.out LW)
  replace Hc := hide (blk_later Hc.out LW)
  replace Hp := hide (blk_later Hp.out LW)
  replace HL := hide (blk_later HL.out LW)
  replace HT := hide (blk_later HT.out LW)
  have Hm := hide bq0
  clear bq0 LW szW
  replace HO := hide (And.intro HO.out Hm.out.lt)
  have c1 := Factor_any (some ⟨gl, 0, none⟩) 2 2 tabL (some ⟨gt, 0, none⟩) 3 3 tabT 2000 2500 200 1000 1000 3000 0 1999 W19 rfl (by decide) rfl (by decide) (ints_at HL.out rfl) (ints_at HT.out rfl)
  rw [kZ1] at c1
  unfold spanE mdlV at c1
  refine (c1).mono ?_
  rintro e w20 ⟨rfl, hb⟩
  replace HB := hide (onward HB.out hb)
  replace Ha := hide (blk_later Ha.out hb)
  replace Hb := hide (blk_later Hb.out hb)
  replace Hc := hide (blk_later Hc.out hb)
  replace Hp := hide (blk_later Hp.out hb)
  replace HL := hide (blk_later HL.out hb)
  replace HT := hide (blk_later HT.out hb)
  replace Hm := hide (blk_later Hm.out hb)
  clear hb
  clear c1
  obtain ⟨a0, a1⟩ := Ha.out.c2
  have lta := Ha.out.lt
  have fa0 := Ha.out.frozen 0
  have fa1 := Ha.out.frozen 1
  go_upto_region 16 with fail
  have lq_HB := HB.out.size
  have lq_Ha := Ha.out.lt
  have lq_Hb := Hb.out.lt
  have lq_Hc := Hc.out.lt
  have lq_Hp := Hp.out.lt
  have lq_HL := HL.out.lt
  have lq_HT := HT.out.lt
  have lq_Hm := Hm.out.lt
  first | refine at_world fun W20 hW => ?_ | refine code_world fun W20 hW => ?_
  replace HB := hide (to_world hW (Below.setCell (Below.setCell HB.out (by have ho := HO.out; (try dsimp only); omega) _) (by have ho := HO.out; (try dsimp only); omega) _) : Below _ _ W20)
  have q_Ha := blk_to hW (Blk.set_ (Blk.set_ Ha.out 0 _) 1 _)
  replace Ha := hide (blk_of q_Ha (show _ = #[.int .i64 1000, .int .i64 1000] from rfl))
  clear q_Ha
  have q_Hb := blk_to hW (Blk.far (Blk.far Hb.out (by have ho := HO.out; (try dsimp only); omega) _) (by have ho := HO.out; (try dsimp only); omega) _)
  replace Hb := hide q_Hb
  clear q_Hb
  have q_Hc := blk_to hW (Blk.far (Blk.far Hc.out (by have ho := HO.out; (try dsimp only); omega) _) (by have ho := HO.out; (try dsimp only); omega) _)
  replace Hc := hide q_Hc
  clear q_Hc
  have q_Hp := blk_to hW (Blk.far (Blk.far Hp.out (by have ho := HO.out; (try dsimp only); omega) _) (by have ho := HO.out; (try dsimp only); omega) _)
  replace Hp := hide q_Hp
  clear q_Hp
  have q_HL := blk_to hW (Blk.far (Blk.far HL.out (by have ho := HO.out; (try dsimp only); omega) _) (by have ho := HO.out; (try dsimp only); omega) _)
  replace HL := hide q_HL
  clear q_HL
  have q_HT := blk_to hW (Blk.far (Blk.far HT.out (by have ho := HO.out; (try dsimp only); omega) _) (by have ho := HO.out; (try dsimp only); omega) _)
  replace HT := hide q_HT
  clear q_HT
  have q_Hm := blk_to hW (Blk.far (Blk.far Hm.out (by have ho := HO.out; (try dsimp only); omega) _) (by have ho := HO.out; (try dsimp only); omega) _)
  replace Hm := hide q_Hm
  clear q_Hm
  clear hW lq_HB lq_Ha lq_Hb lq_Hc lq_Hp lq_HL lq_HT lq_Hm a0 a1 lta fa0 fa1
  obtain ⟨m0, m1, m2, m3, m4, m5, m6, m7⟩ := Hm.out.c8
  have ltm := Hm.out.lt
  go_wp2_with fail
  have c1 := Factor_any (some ⟨gl, 0, none⟩) 2 2 tabL (some ⟨gt, 0, none⟩) 3 3 tabT 2000 2500 200 1000 1000 3000 1000 2200 W20 rfl (by decide) rfl (by decide) (ints_at HL.out rfl) (ints_at HT.out rfl)
  rw [kZ2] at c1
  unfold spanE mdlV at c1
  refine (c1).mono ?_
  rintro e w21 ⟨rfl, hb⟩
  replace HB := hide (onward HB.out hb)
  replace Ha := hide (blk_later Ha.out hb)
  replace Hb := hide (blk_later Hb.out hb)
  replace Hc := hide (blk_later Hc.out hb)
  replace Hp := hide (blk_later Hp.out hb)
  replace HL := hide (blk_later HL.out hb)
  replace HT := hide (blk_later HT.out hb)
  replace Hm := hide (blk_later Hm.out hb)
  clear hb m0 m1 m2 m3 m4 m5 m6 m7 ltm
  clear c1
  obtain ⟨b0, b1⟩ := Hb.out.c2
  have ltb := Hb.out.lt
  have fb0 := Hb.out.frozen 0
  have fb1 := Hb.out.frozen 1
  go_upto_region 17 with fail
  have lq_HB := HB.out.size
  have lq_Ha := Ha.out.lt
  have lq_Hb := Hb.out.lt
  have lq_Hc := Hc.out.lt
  have lq_Hp := Hp.out.lt
  have lq_HL := HL.out.lt
  have lq_HT := HT.out.lt
  have lq_Hm := Hm.out.lt
  first | refine at_world fun W21 hW => ?_ | refine code_world fun W21 hW => ?_
  replace HB := hide (to_world hW (Below.setCell (Below.setCell HB.out (by have ho := HO.out; (try dsimp only); omega) _) (by have ho := HO.out; (try dsimp only); omega) _) : Below _ _ W21)
  have q_Ha := blk_to hW (Blk.far (Blk.far Ha.out (by have ho := HO.out; (try dsimp only); omega) _) (by have ho := HO.out; (try dsimp only); omega) _)
  replace Ha := hide q_Ha
  clear q_Ha
  have q_Hb := blk_to hW (Blk.set_ (Blk.set_ Hb.out 0 _) 1 _)
  replace Hb := hide (blk_of q_Hb (show _ = #[.int .i64 200, .int .i64 1000] from rfl))
  clear q_Hb
  have q_Hc := blk_to hW (Blk.far (Blk.far Hc.out (by have ho := HO.out; (try dsimp only); omega) _) (by have ho := HO.out; (try dsimp only); omega) _)
  replace Hc := hide q_Hc
  clear q_Hc
  have q_Hp := blk_to hW (Blk.far (Blk.far Hp.out (by have ho := HO.out; (try dsimp only); omega) _) (by have ho := HO.out; (try dsimp only); omega) _)
  replace Hp := hide q_Hp
  clear q_Hp
  have q_HL := blk_to hW (Blk.far (Blk.far HL.out (by have ho := HO.out; (try dsimp only); omega) _) (by have ho := HO.out; (try dsimp only); omega) _)
  replace HL := hide q_HL
  clear q_HL
  have q_HT := blk_to hW (Blk.far (Blk.far HT.out (by have ho := HO.out; (try dsimp only); omega) _) (by have ho := HO.out; (try dsimp only); omega) _)
  replace HT := hide q_HT
  clear q_HT
  have q_Hm := blk_to hW (Blk.far (Blk.far Hm.out (by have ho := HO.out; (try dsimp only); omega) _) (by have ho := HO.out; (try dsimp only); omega) _)
  replace Hm := hide q_Hm
  clear q_Hm
  clear hW lq_HB lq_Ha lq_Hb lq_Hc lq_Hp lq_HL lq_HT lq_Hm b0 b1 ltb fb0 fb1
  obtain ⟨m0, m1, m2, m3, m4, m5, m6, m7⟩ := Hm.out.c8
  have ltm := Hm.out.lt
  go_wp2_with fail
  have c1 := Factor_any (some ⟨gl, 0, none⟩) 2 2 tabL (some ⟨gt, 0, none⟩) 3 3 tabT 2000 2500 200 1000 1000 3000 2600 3000 W21 rfl (by decide) rfl (by decide) (ints_at HL.out rfl) (ints_at HT.out rfl)
  rw [kZ3] at c1
  unfold spanE mdlV at c1
  refine (c1).mono ?_
  rintro e w22 ⟨rfl, hb⟩
  replace HB := hide (onward HB.out hb)
  replace Ha := hide (blk_later Ha.out hb)
  replace Hb := hide (blk_later Hb.out hb)
  replace Hc := hide (blk_later Hc.out hb)
  replace Hp := hide (blk_later Hp.out hb)
  replace HL := hide (blk_later HL.out hb)
  replace HT := hide (blk_later HT.out hb)
  replace Hm := hide (blk_later Hm.out hb)
  clear hb m0 m1 m2 m3 m4 m5 m6 m7 ltm
  clear c1
  obtain ⟨c0, c1⟩ := Hc.out.c2
  have ltc := Hc.out.lt
  have fc0 := Hc.out.frozen 0
  have fc1 := Hc.out.frozen 1
  go_upto_region 18 with fail
  have lq_HB := HB.out.size
  have lq_Ha := Ha.out.lt
  have lq_Hb := Hb.out.lt
  have lq_Hc := Hc.out.lt
  have lq_Hp := Hp.out.lt
  have lq_HL := HL.out.lt
  have lq_HT := HT.out.lt
  have lq_Hm := Hm.out.lt
  first | refine at_world fun W22 hW => ?_ | refine code_world fun W22 hW => ?_
  replace HB := hide (to_world hW (Below.setCell (Below.setCell HB.out (by have ho := HO.out; (try dsimp only); omega) _) (by have ho := HO.out; (try dsimp only); omega) _) : Below _ _ W22)
  have q_Ha := blk_to hW (Blk.far (Blk.far Ha.out (by have ho := HO.out; (try dsimp only); omega) _) (by have ho := HO.out; (try dsimp only); omega) _)
  replace Ha := hide q_Ha
  clear q_Ha
  have q_Hb := blk_to hW (Blk.far (Blk.far Hb.out (by have ho := HO.out; (try dsimp only); omega) _) (by have ho := HO.out; (try dsimp only); omega) _)
  replace Hb := hide q_Hb
  clear q_Hb
  have q_Hc := blk_to hW (Blk.set_ (Blk.set_ Hc.out 0 _) 1 _)
  replace Hc := hide (blk_of q_Hc (show _ = #[.int .i64 1000, .int .i64 3000] from rfl))
  clear q_Hc
  have q_Hp := blk_to hW (Blk.far (Blk.far Hp.out (by have ho := HO.out; (try dsimp only); omega) _) (by have ho := HO.out; (try dsimp only); omega) _)
  replace Hp := hide q_Hp
  clear q_Hp
  have q_HL := blk_to hW (Blk.far (Blk.far HL.out (by have ho := HO.out; (try dsimp only); omega) _) (by have ho := HO.out; (try dsimp only); omega) _)
  replace HL := hide q_HL
  clear q_HL
  have q_HT := blk_to hW (Blk.far (Blk.far HT.out (by have ho := HO.out; (try dsimp only); omega) _) (by have ho := HO.out; (try dsimp only); omega) _)
  replace HT := hide q_HT
  clear q_HT
  have q_Hm := blk_to hW (Blk.far (Blk.far Hm.out (by have ho := HO.out; (try dsimp only); omega) _) (by have ho := HO.out; (try dsimp only); omega) _)
  replace Hm := hide q_Hm
  clear q_Hm
  clear hW lq_HB lq_Ha lq_Hb lq_Hc lq_Hp lq_HL lq_HT lq_Hm c0 c1 ltc fc0 fc1
  obtain ⟨m0, m1, m2, m3, m4, m5, m6, m7⟩ := Hm.out.c8
  have ltm := Hm.out.lt
  go_wp2_with fail
  have c1 := Factor_any (some ⟨gl, 0, none⟩) 2 2 tabL (some ⟨gt, 0, none⟩) 3 3 tabT 2000 2500 200 1000 1000 3000 0 9000 W22 rfl (by decide) rfl (by decide) (ints_at HL.out rfl) (ints_at HT.out rfl)
  rw [kZ4] at c1
  unfold spanE mdlV at c1
  refine (c1).mono ?_
  rintro e w23 ⟨rfl, hb⟩
  replace HB := hide (onward HB.out hb)
  replace Ha := hide (blk_later Ha.out hb)
  replace Hb := hide (blk_later Hb.out hb)
  replace Hc := hide (blk_later Hc.out hb)
  replace Hp := hide (blk_later Hp.out hb)
  replace HL := hide (blk_later HL.out hb)
  replace HT := hide (blk_later HT.out hb)
  replace Hm := hide (blk_later Hm.out hb)
  clear hb m0 m1 m2 m3 m4 m5 m6 m7 ltm
  clear c1
  clear HL HT
  go_wp2_with fail
  refine code_world fun W23 hW => ?_
  have bq0 : Blk W23 w23.heap.size 24 #[.int .i64 200, .int .i64 3000] := by rw [hW]; exact Blk.new _ _ _
  have LW : Later w23 W23 := by rw [hW]; exact ((Below.refl _ _).alloc (Nat.le_refl _) _)
  have szW : W23.heap.size = w23.heap.size + 1 := by rw [hW]; simp
  clear hW
  replace HB := hide (onward HB.out LW)
  replace Ha := hide (blk_later Ha.out LW)
  replace Hb := hide (blk_later Hb.out LW)
  replace Hc := hide (blk_later Hc.out LW)
  replace Hp := hide (blk_later Hp.out LW)
  replace Hm := hide (blk_later Hm.out LW)
  have Hd := hide bq0
  clear bq0 LW szW
  obtain ⟨a0, a1⟩ := Ha.out.c2
  have lta := Ha.out.lt
  obtain ⟨b0, b1⟩ := Hb.out.c2
  have ltb := Hb.out.lt
  obtain ⟨c0, c1⟩ := Hc.out.c2
  have ltc := Hc.out.lt
  obtain ⟨d0, d1⟩ := Hd.out.c2
  have ltd := Hd.out.lt
  obtain ⟨m0, m1, m2, m3, m4, m5, m6, m7⟩ := Hm.out.c8
  have ltm := Hm.out.lt
  apply wp_region_L (w0 := W23) [[], [], [], [], [], [], [], [], [], [], [], [], [], [], [], [], [], [], [], [], [], [], [], [], [], [], [], [], [], [], [], [], [], [], [], []] [true, true, true, true, true, true, true, true, true, true, true, true, true, true, true, true, true, true, true, true, true, true, true, true, true, true, true, true, true, true, true, true, true, true, true, true] [] (fun ixq y => match ixq with  | _ => undef) (fun ixq x F wq => match ixq with  | _ => True) (fun a x => a) (by kernel_rfl) (by kernel_rfl) (fun _ => rfl) [178] (by kernel_rfl)
  · intro x D hD
    have hne := hD.some
    have k0 := liftB hD a0 (by first | assumption | omega)
    have k1 := liftB hD a1 (by first | assumption | omega)
    have l0 := liftB hD b0 (by first | assumption | omega)
    have l1 := liftB hD b1 (by first | assumption | omega)
    have n0 := liftB hD c0 (by first | assumption | omega)
    have n1 := liftB hD c1 (by first | assumption | omega)
    have o0 := liftB hD d0 (by first | assumption | omega)
    have o1 := liftB hD d1 (by first | assumption | omega)
    have r4 := liftB hD m4 (by first | assumption | omega)
    have r5 := liftB hD m5 (by first | assumption | omega)
    have r6 := liftB hD m6 (by first | assumption | omega)
    have r7 := liftB hD m7 (by first | assumption | omega)
    simp only [takeOps, Act.put, List.setIfInBounds_toArray, List.set_cons_succ, List.set_cons_zero]
    repeat (go_big_quiet_step ((go_at_call 24; exact calls_later hD _ (point_any _ _))))
    exact wpQuiet_nil rfl
  · intro d hd x x'
    simp only [List.mem_cons, List.not_mem_nil, or_false] at hd
    rcases hd with rfl
    all_goals rfl
  · exact trivial
  · exact trivial
  intro xx w24 F hL hlv3
  clear hlv3

  replace HB := hide (onward HB.out hL)
  replace Ha := hide (blk_later Ha.out hL)
  replace Hb := hide (blk_later Hb.out hL)
  replace Hc := hide (blk_later Hc.out hL)
  replace Hp := hide (blk_later Hp.out hL)
  replace Hm := hide (blk_later Hm.out hL)
  replace Hd := hide (blk_later Hd.out hL)
  clear hL a0 a1 lta b0 b1 ltb c0 c1 ltc d0 d1 ltd m0 m1 m2 m3 m4 m5 m6 m7 ltm
  clear Hd Hm Hp
  go_wp2_with fail
  refine (point_any _ _).mono ?_
  rintro e w25 ⟨rfl, hb⟩
  replace HB := hide (onward HB.out hb)
  replace Ha := hide (blk_later Ha.out hb)
  replace Hb := hide (blk_later Hb.out hb)
  replace Hc := hide (blk_later Hc.out hb)
  clear hb
  go_wp2_with fail
  refine (point_any _ _).mono ?_
  rintro e w26 ⟨rfl, hb⟩
  replace HB := hide (onward HB.out hb)
  replace Ha := hide (blk_later Ha.out hb)
  replace Hb := hide (blk_later Hb.out hb)
  replace Hc := hide (blk_later Hc.out hb)
  clear hb
  go_wp2_with fail
  refine at_world fun W26 hW => ?_
  have bq0 : Blk W26 w26.heap.size 47 #[.int .i64 0, .int .i64 360, .int .i64 360, .int .i64 100, .int .i64 720, .int .i64 720] := by rw [hW]; exact Blk.new _ _ _
  have LW : Later w26 W26 := by rw [hW]; exact ((Below.refl _ _).alloc (Nat.le_refl _) _)
  have szW : W26.heap.size = w26.heap.size + 1 := by rw [hW]; simp
  clear hW
  replace HB := hide (onward HB.out LW)
  replace Ha := hide (blk_later Ha.out LW)
  replace Hb := hide (blk_later Hb.out LW)
  replace Hc := hide (blk_later Hc.out LW)
  have Hs := hide bq0
  clear bq0 LW szW
  have c1 := Sum_any (some ⟨w26.heap.size, 0, none⟩) 2 2 [0, 360, 360, 100, 720, 720] 200 0 W26 rfl (by decide) (by decide) (by decide) (ints_at Hs.out rfl)
  rw [kS1] at c1
  unfold spanE at c1
  refine (c1).mono ?_
  rintro e w27 ⟨rfl, hb⟩
  replace HB := hide (onward HB.out hb)
  replace Ha := hide (blk_later Ha.out hb)
  replace Hb := hide (blk_later Hb.out hb)
  replace Hc := hide (blk_later Hc.out hb)
  replace Hs := hide (blk_later Hs.out hb)
  clear hb
  clear c1
  clear Hs
  obtain ⟨a0, a1⟩ := Ha.out.c2
  have lta := Ha.out.lt
  have fa0 := Ha.out.frozen 0
  have fa1 := Ha.out.frozen 1
  go_wp2_with fail
  have lq_HB := HB.out.size
  have lq_Ha := Ha.out.lt
  have lq_Hb := Hb.out.lt
  have lq_Hc := Hc.out.lt
  first | refine at_world fun W27 hW => ?_ | refine code_world fun W27 hW => ?_
  replace HB := hide (to_world hW (Below.setCell (Below.setCell HB.out (by have ho := HO.out; (try dsimp only); omega) _) (by have ho := HO.out; (try dsimp only); omega) _) : Below _ _ W27)
  have q_Ha := blk_to hW (Blk.set_ (Blk.set_ Ha.out 0 _) 1 _)
  replace Ha := hide (blk_of q_Ha (show _ = #[.int .i64 300, .int .i64 400] from rfl))
  clear q_Ha
  have q_Hb := blk_to hW (Blk.far (Blk.far Hb.out (by have ho := HO.out; (try dsimp only); omega) _) (by have ho := HO.out; (try dsimp only); omega) _)
  replace Hb := hide q_Hb
  clear q_Hb
  have q_Hc := blk_to hW (Blk.far (Blk.far Hc.out (by have ho := HO.out; (try dsimp only); omega) _) (by have ho := HO.out; (try dsimp only); omega) _)
  replace Hc := hide q_Hc
  clear q_Hc
  clear hW lq_HB lq_Ha lq_Hb lq_Hc a0 a1 lta fa0 fa1
  have c1 := Fell_any 0 200 W27
  rw [kG1] at c1
  unfold spanE at c1
  refine (c1).mono ?_
  rintro e w28 ⟨rfl, hb⟩
  replace HB := hide (onward HB.out hb)
  replace Ha := hide (blk_later Ha.out hb)
  replace Hb := hide (blk_later Hb.out hb)
  replace Hc := hide (blk_later Hc.out hb)
  clear hb
  clear c1
  obtain ⟨b0, b1⟩ := Hb.out.c2
  have ltb := Hb.out.lt
  have fb0 := Hb.out.frozen 0
  have fb1 := Hb.out.frozen 1
  go_wp2_with fail
  have lq_HB := HB.out.size
  have lq_Ha := Ha.out.lt
  have lq_Hb := Hb.out.lt
  have lq_Hc := Hc.out.lt
  first | refine at_world fun W28 hW => ?_ | refine code_world fun W28 hW => ?_
  replace HB := hide (to_world hW (Below.alloc (Below.setCell (Below.setCell HB.out (by have ho := HO.out; (try dsimp only); omega) _) (by have ho := HO.out; (try dsimp only); omega) _) (by have ho := HO.out; first | omega | (simp; omega)) _) : Below _ _ W28)
  have q_Ha := blk_to hW (Blk.alloc (Blk.far (Blk.far Ha.out (by have ho := HO.out; (try dsimp only); omega) _) (by have ho := HO.out; (try dsimp only); omega) _) _)
  replace Ha := hide q_Ha
  clear q_Ha
  have q_Hb := blk_to hW (Blk.alloc (Blk.set_ (Blk.set_ Hb.out 0 _) 1 _) _)
  replace Hb := hide (blk_of q_Hb (show _ = #[.int .i64 0, .int .i64 199] from rfl))
  clear q_Hb
  have q_Hc := blk_to hW (Blk.alloc (Blk.far (Blk.far Hc.out (by have ho := HO.out; (try dsimp only); omega) _) (by have ho := HO.out; (try dsimp only); omega) _) _)
  replace Hc := hide q_Hc
  clear q_Hc
  have q_Hx := blk_to hW (blk_new_at (t := 66) (cs := #[.int .i64 1000, .int .i64 2000, .int .i64 3, .int .i64 200]) (g := w28.heap.size) (by simp))
  have Hx := hide q_Hx
  clear q_Hx
  replace HO := hide (And.intro HO.out (And.intro lq_HB (And.intro lq_Ha (And.intro lq_Hb lq_Hc))))
  clear hW lq_HB lq_Ha lq_Hb lq_Hc b0 b1 ltb fb0 fb1
  refine (point_any _ _).mono ?_
  rintro e w29 ⟨rfl, hb⟩
  replace HB := hide (onward HB.out hb)
  replace Ha := hide (blk_later Ha.out hb)
  replace Hb := hide (blk_later Hb.out hb)
  replace Hc := hide (blk_later Hc.out hb)
  replace Hx := hide (blk_later Hx.out hb)
  clear hb
  obtain ⟨x0, x1, x2, x3⟩ := Hx.out.c4
  have ltx := Hx.out.lt
  have fx0 := Hx.out.frozen 0
  have fx1 := Hx.out.frozen 1
  have fx2 := Hx.out.frozen 2
  have fx3 := Hx.out.frozen 3
  go_wp2_with fail
  have lq_HB := HB.out.size
  have lq_Ha := Ha.out.lt
  have lq_Hb := Hb.out.lt
  have lq_Hc := Hc.out.lt
  have lq_Hx := Hx.out.lt
  first | refine at_world fun W29 hW => ?_ | refine code_world fun W29 hW => ?_
  replace HB := hide (to_world hW (Below.alloc (Below.alloc HB.out (by have ho := HO.out; first | omega | (simp; omega)) _) (by have ho := HO.out; first | omega | (simp; omega)) _) : Below _ _ W29)
  have q_Ha := blk_to hW (Blk.alloc (Blk.alloc Ha.out _) _)
  replace Ha := hide q_Ha
  clear q_Ha
  have q_Hb := blk_to hW (Blk.alloc (Blk.alloc Hb.out _) _)
  replace Hb := hide q_Hb
  clear q_Hb
  have q_Hc := blk_to hW (Blk.alloc (Blk.alloc Hc.out _) _)
  replace Hc := hide q_Hc
  clear q_Hc
  have q_Hx := blk_to hW (Blk.alloc (Blk.alloc Hx.out _) _)
  replace Hx := hide q_Hx
  clear q_Hx
  have q_Hy := blk_to hW (Blk.alloc (blk_new_at (t := 66) (cs := #[.int .i64 4000, .int .i64 4000, .int .i64 10, .int .i64 200]) (g := w29.heap.size) (by simp)) _)
  have Hy := hide q_Hy
  clear q_Hy
  have q_Hs := blk_to hW (blk_new_at (t := 66) (cs := #[.int .i64 1000, .int .i64 2000, .int .i64 3, .int .i64 200, .int .i64 4000, .int .i64 4000, .int .i64 10, .int .i64 200]) (g := w29.heap.size + 1) (by simp))
  have Hs := hide q_Hs
  clear q_Hs
  replace HO := hide (And.intro HO.out (And.intro lq_HB (And.intro lq_Ha (And.intro lq_Hb (And.intro lq_Hc lq_Hx)))))
  clear hW lq_HB lq_Ha lq_Hb lq_Hc lq_Hx x0 x1 x2 x3 ltx fx0 fx1 fx2 fx3
  have c1 := Adjust_any (some ⟨w29.heap.size + 1, 0, none⟩) 2 2 [1000, 2000, 3, 200, 4000, 4000, 10, 200] W29 rfl (by decide) (by decide) (by decide) (ints_at Hs.out rfl)
  rw [kA1] at c1
  unfold adjV at c1
  refine (c1).mono ?_
  rintro e w30 ⟨rfl, hb⟩
  replace HB := hide (onward HB.out hb)
  replace Ha := hide (blk_later Ha.out hb)
  replace Hb := hide (blk_later Hb.out hb)
  replace Hc := hide (blk_later Hc.out hb)
  replace Hx := hide (blk_later Hx.out hb)
  replace Hy := hide (blk_later Hy.out hb)
  replace Hs := hide (blk_later Hs.out hb)
  clear hb
  clear c1
  clear Hs
  obtain ⟨c0, c1⟩ := Hc.out.c2
  have ltc := Hc.out.lt
  have fc0 := Hc.out.frozen 0
  have fc1 := Hc.out.frozen 1
  go_wp2_with fail
  have lq_HB := HB.out.size
  have lq_Ha := Ha.out.lt
  have lq_Hb := Hb.out.lt
  have lq_Hc := Hc.out.lt
  have lq_Hx := Hx.out.lt
  have lq_Hy := Hy.out.lt
  first | refine at_world fun W30 hW => ?_ | refine code_world fun W30 hW => ?_
  replace HB := hide (to_world hW (Below.alloc (Below.setCell (Below.setCell HB.out (by have ho := HO.out; (try dsimp only); omega) _) (by have ho := HO.out; (try dsimp only); omega) _) (by have ho := HO.out; first | omega | (simp; omega)) _) : Below _ _ W30)
  have q_Ha := blk_to hW (Blk.alloc (Blk.far (Blk.far Ha.out (by have ho := HO.out; (try dsimp only); omega) _) (by have ho := HO.out; (try dsimp only); omega) _) _)
  replace Ha := hide q_Ha
  clear q_Ha
  have q_Hb := blk_to hW (Blk.alloc (Blk.far (Blk.far Hb.out (by have ho := HO.out; (try dsimp only); omega) _) (by have ho := HO.out; (try dsimp only); omega) _) _)
  replace Hb := hide q_Hb
  clear q_Hb
  have q_Hc := blk_to hW (Blk.alloc (Blk.set_ (Blk.set_ Hc.out 0 _) 1 _) _)
  replace Hc := hide (blk_of q_Hc (show _ = #[.int .i64 451, .int .i64 549] from rfl))
  clear q_Hc
  have q_Hx := blk_to hW (Blk.alloc (Blk.far (Blk.far Hx.out (by have ho := HO.out; (try dsimp only); omega) _) (by have ho := HO.out; (try dsimp only); omega) _) _)
  replace Hx := hide q_Hx
  clear q_Hx
  have q_Hy := blk_to hW (Blk.alloc (Blk.far (Blk.far Hy.out (by have ho := HO.out; (try dsimp only); omega) _) (by have ho := HO.out; (try dsimp only); omega) _) _)
  replace Hy := hide q_Hy
  clear q_Hy
  have q_Hat := blk_to hW (blk_new_at (t := 72) (cs := #[.int .i64 0, .int .i64 0]) (g := w30.heap.size) (by simp))
  have Hat := hide q_Hat
  clear q_Hat
  replace HO := hide (And.intro HO.out (And.intro lq_HB (And.intro lq_Ha (And.intro lq_Hb (And.intro lq_Hc (And.intro lq_Hx lq_Hy))))))
  clear hW lq_HB lq_Ha lq_Hb lq_Hc lq_Hx lq_Hy c0 c1 ltc fc0 fc1
  refine (point_any _ _).mono ?_
  rintro e w31 ⟨rfl, hb⟩
  replace HB := hide (onward HB.out hb)
  replace Ha := hide (blk_later Ha.out hb)
  replace Hb := hide (blk_later Hb.out hb)
  replace Hc := hide (blk_later Hc.out hb)
  replace Hx := hide (blk_later Hx.out hb)
  replace Hy := hide (blk_later Hy.out hb)
  replace Hat := hide (blk_later Hat.out hb)
  clear hb
  obtain ⟨x0, x1, x2, x3⟩ := Hx.out.c4
  have ltx := Hx.out.lt
  have fx0 := Hx.out.frozen 0
  have fx1 := Hx.out.frozen 1
  have fx2 := Hx.out.frozen 2
  have fx3 := Hx.out.frozen 3
  obtain ⟨y0, y1, y2, y3⟩ := Hy.out.c4
  have lty := Hy.out.lt
  have fy0 := Hy.out.frozen 0
  have fy1 := Hy.out.frozen 1
  have fy2 := Hy.out.frozen 2
  have fy3 := Hy.out.frozen 3
  go_upto_region 27 with fail
  have lq_HB := HB.out.size
  have lq_Ha := Ha.out.lt
  have lq_Hb := Hb.out.lt
  have lq_Hc := Hc.out.lt
  have lq_Hx := Hx.out.lt
  have lq_Hy := Hy.out.lt
  have lq_Hat := Hat.out.lt
  first | refine at_world fun W31 hW => ?_ | refine code_world fun W31 hW => ?_
  replace HB := hide (to_world hW (Below.setCell (Below.setCell (Below.setCell HB.out (by have ho := HO.out; (try dsimp only); omega) _) (by have ho := HO.out; (try dsimp only); omega) _) (by have ho := HO.out; (try dsimp only); omega) _) : Below _ _ W31)
  have q_Ha := blk_to hW (Blk.far (Blk.far (Blk.far Ha.out (by have ho := HO.out; (try dsimp only); omega) _) (by have ho := HO.out; (try dsimp only); omega) _) (by have ho := HO.out; (try dsimp only); omega) _)
  replace Ha := hide q_Ha
  clear q_Ha
  have q_Hb := blk_to hW (Blk.far (Blk.far (Blk.far Hb.out (by have ho := HO.out; (try dsimp only); omega) _) (by have ho := HO.out; (try dsimp only); omega) _) (by have ho := HO.out; (try dsimp only); omega) _)
  replace Hb := hide q_Hb
  clear q_Hb
  have q_Hc := blk_to hW (Blk.far (Blk.far (Blk.far Hc.out (by have ho := HO.out; (try dsimp only); omega) _) (by have ho := HO.out; (try dsimp only); omega) _) (by have ho := HO.out; (try dsimp only); omega) _)
  replace Hc := hide q_Hc
  clear q_Hc
  have q_Hx := blk_to hW (Blk.far (Blk.set_ (Blk.set_ Hx.out 0 _) 1 _) (by have ho := HO.out; (try dsimp only); omega) _)
  replace Hx := hide (blk_of q_Hx (show _ = #[.int .i64 1000, .int .i64 1000, .int .i64 3, .int .i64 200] from rfl))
  clear q_Hx
  have q_Hy := blk_to hW (Blk.set_ (Blk.far (Blk.far Hy.out (by have ho := HO.out; (try dsimp only); omega) _) (by have ho := HO.out; (try dsimp only); omega) _) 2 _)
  replace Hy := hide (blk_of q_Hy (show _ = #[.int .i64 4000, .int .i64 4000, .int .i64 100, .int .i64 200] from rfl))
  clear q_Hy
  have q_Hat := blk_to hW (Blk.far (Blk.far (Blk.far Hat.out (by have ho := HO.out; (try dsimp only); omega) _) (by have ho := HO.out; (try dsimp only); omega) _) (by have ho := HO.out; (try dsimp only); omega) _)
  replace Hat := hide q_Hat
  clear q_Hat
  clear hW lq_HB lq_Ha lq_Hb lq_Hc lq_Hx lq_Hy lq_Hat x0 x1 x2 x3 ltx fx0 fx1 fx2 fx3 y0 y1 y2 y3 lty fy0 fy1 fy2 fy3
  obtain ⟨x0, x1, x2, x3⟩ := Hx.out.c4
  have ltx := Hx.out.lt
  obtain ⟨y0, y1, y2, y3⟩ := Hy.out.c4
  have lty := Hy.out.lt
  go_wp2_with fail
  have lq_HB := HB.out.size
  have lq_Ha := Ha.out.lt
  have lq_Hb := Hb.out.lt
  have lq_Hc := Hc.out.lt
  have lq_Hx := Hx.out.lt
  have lq_Hy := Hy.out.lt
  have lq_Hat := Hat.out.lt
  first | refine at_world fun W32 hW => ?_ | refine code_world fun W32 hW => ?_
  replace HB := hide (to_world hW (Below.alloc HB.out (by have ho := HO.out; first | omega | (simp; omega)) _) : Below _ _ W32)
  have q_Ha := blk_to hW (Blk.alloc Ha.out _)
  replace Ha := hide q_Ha
  clear q_Ha
  have q_Hb := blk_to hW (Blk.alloc Hb.out _)
  replace Hb := hide q_Hb
  clear q_Hb
  have q_Hc := blk_to hW (Blk.alloc Hc.out _)
  replace Hc := hide q_Hc
  clear q_Hc
  have q_Hx := blk_to hW (Blk.alloc Hx.out _)
  replace Hx := hide q_Hx
  clear q_Hx
  have q_Hy := blk_to hW (Blk.alloc Hy.out _)
  replace Hy := hide q_Hy
  clear q_Hy
  have q_Hat := blk_to hW (Blk.alloc Hat.out _)
  replace Hat := hide q_Hat
  clear q_Hat
  have q_Hs := blk_to hW (blk_new_at (t := 66) (cs := #[.int .i64 1000, .int .i64 1000, .int .i64 3, .int .i64 200, .int .i64 4000, .int .i64 4000, .int .i64 100, .int .i64 200]) (g := W31.heap.size) (by simp))
  have Hs := hide q_Hs
  clear q_Hs
  replace HO := hide (And.intro HO.out (And.intro lq_HB (And.intro lq_Ha (And.intro lq_Hb (And.intro lq_Hc (And.intro lq_Hx (And.intro lq_Hy lq_Hat)))))))
  clear hW lq_HB lq_Ha lq_Hb lq_Hc lq_Hx lq_Hy lq_Hat x0 x1 x2 x3 ltx y0 y1 y2 y3 lty
  have c1 := Adjust_any (some ⟨W31.heap.size, 0, none⟩) 2 2 [1000, 1000, 3, 200, 4000, 4000, 100, 200] W32 rfl (by decide) (by decide) (by decide) (ints_at Hs.out rfl)
  rw [kA2] at c1
  unfold adjV at c1
  refine (c1).mono ?_
  rintro e w33 ⟨rfl, hb⟩
  replace HB := hide (onward HB.out hb)
  replace Ha := hide (blk_later Ha.out hb)
  replace Hb := hide (blk_later Hb.out hb)
  replace Hc := hide (blk_later Hc.out hb)
  replace Hx := hide (blk_later Hx.out hb)
  replace Hy := hide (blk_later Hy.out hb)
  replace Hat := hide (blk_later Hat.out hb)
  replace Hs := hide (blk_later Hs.out hb)
  clear hb
  clear c1
  clear Hs
  go_upto_region 28 with fail
  have lq_HB := HB.out.size
  have lq_Ha := Ha.out.lt
  have lq_Hb := Hb.out.lt
  have lq_Hc := Hc.out.lt
  have lq_Hx := Hx.out.lt
  have lq_Hy := Hy.out.lt
  have lq_Hat := Hat.out.lt
  first | refine at_world fun W33 hW => ?_ | refine code_world fun W33 hW => ?_
  replace HB := hide (to_world hW (Below.alloc (Below.alloc HB.out (by have ho := HO.out; first | omega | (simp; omega)) _) (by have ho := HO.out; first | omega | (simp; omega)) _) : Below _ _ W33)
  have q_Ha := blk_to hW (Blk.alloc (Blk.alloc Ha.out _) _)
  replace Ha := hide q_Ha
  clear q_Ha
  have q_Hb := blk_to hW (Blk.alloc (Blk.alloc Hb.out _) _)
  replace Hb := hide q_Hb
  clear q_Hb
  have q_Hc := blk_to hW (Blk.alloc (Blk.alloc Hc.out _) _)
  replace Hc := hide q_Hc
  clear q_Hc
  have q_Hx := blk_to hW (Blk.alloc (Blk.alloc Hx.out _) _)
  replace Hx := hide q_Hx
  clear q_Hx
  have q_Hy := blk_to hW (Blk.alloc (Blk.alloc Hy.out _) _)
  replace Hy := hide q_Hy
  clear q_Hy
  have q_Hat := blk_to hW (Blk.alloc (Blk.alloc Hat.out _) _)
  replace Hat := hide q_Hat
  clear q_Hat
  have q_Hu := blk_to hW (Blk.alloc (blk_new_at (t := 24) (cs := #[.int .i64 0, .int .i64 0]) (g := w33.heap.size) (by simp)) _)
  have Hu := hide q_Hu
  clear q_Hu
  have q_Hto := blk_to hW (blk_new_at (t := 72) (cs := #[.int .i64 0, .int .i64 1]) (g := w33.heap.size + 1) (by simp))
  have Hto := hide q_Hto
  clear q_Hto
  replace HO := hide (And.intro HO.out (And.intro lq_HB (And.intro lq_Ha (And.intro lq_Hb (And.intro lq_Hc (And.intro lq_Hx (And.intro lq_Hy lq_Hat)))))))
  clear hW lq_HB lq_Ha lq_Hb lq_Hc lq_Hx lq_Hy lq_Hat
  obtain ⟨a0, a1⟩ := Ha.out.c2
  have lta := Ha.out.lt
  obtain ⟨b0, b1⟩ := Hb.out.c2
  have ltb := Hb.out.lt
  obtain ⟨c0, c1⟩ := Hc.out.c2
  have ltc := Hc.out.lt
  obtain ⟨d0, d1⟩ := Hat.out.c2
  have ltd := Hat.out.lt
  obtain ⟨e0, e1⟩ := Hto.out.c2
  have lte := Hto.out.lt
  go_wp2_with fail
  refine (works_any _).mono ?_
  rintro e w34 ⟨rfl, hb⟩
  replace HB := hide (onward HB.out hb)
  replace Ha := hide (blk_later Ha.out hb)
  replace Hb := hide (blk_later Hb.out hb)
  replace Hc := hide (blk_later Hc.out hb)
  replace Hx := hide (blk_later Hx.out hb)
  replace Hy := hide (blk_later Hy.out hb)
  replace Hat := hide (blk_later Hat.out hb)
  replace Hu := hide (blk_later Hu.out hb)
  replace Hto := hide (blk_later Hto.out hb)
  clear hb a0 a1 lta b0 b1 ltb c0 c1 ltc d0 d1 ltd e0 e1 lte
  go_wp2
  go_ret
  exact ⟨rfl, HB.out⟩
end Go.Proofs.Ytmglgahagbfbkaa
