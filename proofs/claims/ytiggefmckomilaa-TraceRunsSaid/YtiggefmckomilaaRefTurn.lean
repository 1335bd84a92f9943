/-
  The law TraceRuns: both books answer alike.
  The reference's book: a book with the first entries, a copy.
  The reference's book: a standard is withdrawn or reinstated.
-/
import Derived.Test.YtiggefmckomilaaRefDep
import Derived.Test.YtiggefmckomilaaRefValue
import Derived.Test.YtiggefmckomilaaRefStd
import Derived.Test.YtiggefmckomilaaRegC
import Derived.Deep.Cut
import Derived.Test.YtiggefmckomilaaRunMath
import Derived.Laws.AppendOwnNone
import Derived.Maps.AppendAt
import Derived.Test.YtiggefmckomilaaRefTests
set_option linter.unusedSimpArgs false
set_option linter.unusedVariables false
namespace Go.Proofs.Ytiggefmckomilaa
open Go Go.RowKit

theorem rEntriesR (l : List Ent) (p c : Nat) (A : Option Addr) (w : World) (h : RefR l p A c w) :
    Calls Try.prog 84 #[ptrB p] w fun e w' => e = .returned (.int .i64 (l.length : Int)) ∧ Below w.heap.size w w' := by
  have x0 := h.b.c 0 rfl
  have ltx := h.b.lt
  clear h
  unfold ptrB
  go_enter Try.func84, Try.ntmps84
  go_wp2
  go_ret
  exact ⟨rfl, Below.refl _ _⟩
theorem chainA_len {l : List Ent} {i : Int} (hg : GoodB l) : (chainA l i).1.length ≤ 1000 := by
  have h1 := good_len hg
  unfold chainA
  have h64 := fun n => Nat.le_trans (chain_len (l := l) (n := n)) (stds_le hg)
  split
  · split
    · have := h64 (by assumption : Tst × (Int × Int)).1.std; simp only; omega
    · simp
  · simp
theorem depA_len {l : List Ent} {n : ByteArray} (hg : GoodB l) : (dependA l n).1.length ≤ 1000 ∧ (dependA l n).2.1.length ≤ 1000 := by
  have h1 := stds_le hg
  have h2 := tests_le hg
  unfold dependA
  split
  · simp
  · have a := depN_len (l := l) (other := n) (k := (stdsT l).length)
    have b := depT_len (l := l) (q := depN l n (stdsT l).length) (k := (testsT l).length)
    simp only
    omega
theorem nat_ints (q : List Nat) : ∀ v ∈ natV q, ∃ z, v = .int .i64 z := fun v hv => by
  unfold natV at hv
  obtain ⟨x, -, rfl⟩ := List.mem_map.1 hv
  exact ⟨_, rfl⟩
set_option maxHeartbeats 8000000 in
set_option maxRecDepth 100000 in
theorem asks_any (l : List Ent) (p pr cr : Nat) (L : Lay) (Ar : Option Addr) (a : ActR) (w : World) (hb : BookR l p L w) (hr : RefR l pr Ar cr w) (hn : a.nm.size ≤ maxLen) :
    Calls Try.prog 51 #[ptrB p, ptrB pr, .agg (actA a)] w fun e w' => e = .returned (.bool true) ∧ Below w.heap.size w w' := by
  obtain ⟨k, nm, par, lo, hi, tm, un, n⟩ := a
  simp only at hn
  have hg := hb.good
  have c1 := fun W (hW : Below w.heap.size w W) => Value_any l p L nm tm W (hb.later hW) hn
  have c2 := fun W (hW : Below w.heap.size w W) => rValue_any l pr cr Ar nm tm W (hr.later hW)
  have c3 := fun W (hW : Below w.heap.size w W) => Gain_any l p L nm tm W (hb.later hW) hn
  have c4 := fun W (hW : Below w.heap.size w W) => rGain_any l pr cr Ar nm tm W (hr.later hW)
  have c5 := fun W (hW : Below w.heap.size w W) => Chain_any l p L n W (hb.later hW)
  have c6 := fun W (hW : Below w.heap.size w W) => rChain_any l pr cr Ar n W (hr.later hW)
  have c7 := fun W (hW : Below w.heap.size w W) => Depends_any l p L nm W (hb.later hW) hn
  have c8 := fun W (hW : Below w.heap.size w W) => rDepends_any l pr cr Ar nm W (hr.later hW)
  have c9 := fun W (hW : Below w.heap.size w W) => Entries_any l p L W (hb.later hW)
  have c10 := fun W (hW : Below w.heap.size w W) => rEntriesR l pr cr Ar W (hr.later hW)
  have l1 := chainA_len (i := n) hg
  have l2 := depA_len (n := nm) hg
  generalize valueE l nm tm = vE at *
  generalize gainE l nm tm = gE at *
  generalize chainA l n = cE at *
  generalize dependA l nm = dE at *
  generalize (l.length : Int) = nl at *
  obtain ⟨⟨v1, v2⟩, v3⟩ := vE
  obtain ⟨⟨g1, g2⟩, ⟨g3, g4⟩, g5⟩ := gE
  obtain ⟨q, qe⟩ := cE
  obtain ⟨d1, d2, d3⟩ := dE
  clear hb hr hg hn
  unfold ptrB actA actV at *
  unfold spanE at c1 c2
  unfold gainV at c3 c4
  simp only at *
  have hv := beq_self_eq_true v1
  have C1 := hide c1
  have C2 := hide c2
  have C3 := hide c3
  have C4 := hide c4
  have C5 := hide c5
  have C6 := hide c6
  have C7 := hide c7
  have C8 := hide c8
  have C9 := hide c9
  have C10 := hide c10
  clear c1 c2 c3 c4 c5 c6 c7 c8 c9 c10
  have heq := eqAt g3 g4 g3 g4
  rw [beq_self_eq_true, beq_self_eq_true, Bool.and_self] at heq
  go_enter Try.func51, Try.ntmps51
  have HB := hide (Below.refl w.heap.size w)
  have HO := hide HB.out.size
  go_wp2_with fail
  refine at_world fun W hW => ?_
  have bq0 : Blk W w.heap.size 59 #[.int .i64 k, .string nm, .string par, .int .i64 lo, .int .i64 hi, .int .i64 tm, .int .i64 un, .int .i64 n] := by rw [hW]; exact Blk.new _ _ _
  have LW : Later w W := by rw [hW]; exact ((Below.refl _ _).alloc (Nat.le_refl _) _)
  have szW : W.heap.size = w.heap.size + 1 := by rw [hW]; simp
  clear hW
  replace HB := hide (onward HB.out LW)
  have Hx := hide bq0
  clear bq0 LW szW
  replace HO := hide (And.intro HO.out Hx.out.lt)
  refine (C1.out _ HB.out).mono ?_
  rintro e w1 ⟨rfl, hb⟩
  replace HB := hide (onward HB.out hb)
  replace Hx := hide (blk_later Hx.out hb)
  clear hb
  replace HO := hide (And.intro HO.out Hx.out.lt)
  obtain ⟨x0, x1, x2, x3, x4, x5, x6, x7⟩ := Hx.out.c8
  have ltx := Hx.out.lt
  go_wp2_with fail
  refine at_world fun W2 hW => ?_
  have bq0 : Blk W2 w1.heap.size 23 #[.int .i64 v1, .int .i64 v2] := by rw [hW]; exact Blk.new _ _ _
  have LW : Later w1 W2 := by rw [hW]; exact ((Below.refl _ _).alloc (Nat.le_refl _) _)
  have szW : W2.heap.size = w1.heap.size + 1 := by rw [hW]; simp
  clear hW x0 x1 x2 x3 x4 x5 x6 x7 ltx
  replace HB := hide (onward HB.out LW)
  replace Hx := hide (blk_later Hx.out LW)
  have Hv := hide bq0
  clear bq0 LW szW
  replace HO := hide (And.intro HO.out Hv.out.lt)
  refine (C2.out _ HB.out).mono ?_
  rintro e w3 ⟨rfl, hb⟩
  replace HB := hide (onward HB.out hb)
  replace Hx := hide (blk_later Hx.out hb)
  replace Hv := hide (blk_later Hv.out hb)
  clear hb
  replace HO := hide (And.intro HO.out (And.intro Hx.out.lt Hv.out.lt))
  obtain ⟨x0, x1, x2, x3, x4, x5, x6, x7⟩ := Hx.out.c8
  have ltx := Hx.out.lt
  obtain ⟨y0, y1⟩ := Hv.out.c2
  have lty := Hv.out.lt
  go_wp2_with fail
  refine at_world fun W4 hW => ?_
  have bq0 : Blk W4 w3.heap.size 23 #[.int .i64 v1, .int .i64 v2] := by rw [hW]; exact Blk.new _ _ _
  have LW : Later w3 W4 := by rw [hW]; exact ((Below.refl _ _).alloc (Nat.le_refl _) _)
  have szW : W4.heap.size = w3.heap.size + 1 := by rw [hW]; simp
  clear hW x0 x1 x2 x3 x4 x5 x6 x7 ltx y0 y1 lty
  replace HB := hide (onward HB.out LW)
  replace Hx := hide (blk_later Hx.out LW)
  replace Hv := hide (blk_later Hv.out LW)
  have Hw := hide bq0
  clear bq0 LW szW
  replace HO := hide (And.intro HO.out Hw.out.lt)
  refine (C3.out _ HB.out).mono ?_
  rintro e w5 ⟨rfl, hb⟩
  replace HB := hide (onward HB.out hb)
  replace Hx := hide (blk_later Hx.out hb)
  replace Hv := hide (blk_later Hv.out hb)
  replace Hw := hide (blk_later Hw.out hb)
  clear hb
  replace HO := hide (And.intro HO.out (And.intro Hx.out.lt (And.intro Hv.out.lt Hw.out.lt)))
  obtain ⟨x0, x1, x2, x3, x4, x5, x6, x7⟩ := Hx.out.c8
  have ltx := Hx.out.lt
  obtain ⟨y0, y1⟩ := Hv.out.c2
  have lty := Hv.out.lt
  have fy0 := Hv.out.frozen 0
  have fy1 := Hv.out.frozen 1
  go_upto_region 6 with fail
  have lq_HB := HB.out.size
  have lq_Hx := Hx.out.lt
  have lq_Hv := Hv.out.lt
  have lq_Hw := Hw.out.lt
  first | refine at_world fun W6 hW => ?_ | refine code_world fun W6 hW => ?_
  replace HB := hide (to_world hW (Below.alloc (Below.setCell (Below.setCell HB.out (by have ho := HO.out; (try dsimp only); omega) _) (by have ho := HO.out; (try dsimp only); omega) _) (by have ho := HO.out; first | omega | (simp; omega)) _) : Below _ _ W6)
  have q_Hx := blk_to hW (Blk.alloc (Blk.far (Blk.far Hx.out (by have ho := HO.out; (try dsimp only); omega) _) (by have ho := HO.out; (try dsimp only); omega) _) _)
  replace Hx := hide q_Hx
  clear q_Hx
  have q_Hv := blk_to hW (Blk.alloc (Blk.set_ (Blk.set_ Hv.out 0 _) 1 _) _)
  replace Hv := hide (blk_of q_Hv (show _ = #[.int .i64 g1, .int .i64 g2] from rfl))
  clear q_Hv
  have q_Hw := blk_to hW (Blk.alloc (Blk.far (Blk.far Hw.out (by have ho := HO.out; (try dsimp only); omega) _) (by have ho := HO.out; (try dsimp only); omega) _) _)
  replace Hw := hide q_Hw
  clear q_Hw
  have q_Ha := blk_to hW (blk_new_at (t := 52) (cs := #[.int .i64 g3, .int .i64 g4]) (g := w5.heap.size) (by simp))
  have Ha := hide q_Ha
  clear q_Ha
  replace HO := hide (And.intro HO.out (And.intro lq_HB (And.intro lq_Hx (And.intro lq_Hv lq_Hw))))
  clear hW lq_HB lq_Hx lq_Hv lq_Hw x0 x1 x2 x3 x4 x5 x6 x7 ltx y0 y1 lty fy0 fy1
  replace HO := hide (And.intro HO.out Ha.out.lt)
  obtain ⟨x0, x1, x2, x3, x4, x5, x6, x7⟩ := Hx.out.c8
  have ltx := Hx.out.lt
  go_wp2_with fail
  refine (C4.out _ HB.out).mono ?_
  rintro e w7 ⟨rfl, hb⟩
  replace HB := hide (onward HB.out hb)
  replace Hx := hide (blk_later Hx.out hb)
  replace Hv := hide (blk_later Hv.out hb)
  replace Hw := hide (blk_later Hw.out hb)
  replace Ha := hide (blk_later Ha.out hb)
  clear hb x0 x1 x2 x3 x4 x5 x6 x7 ltx
  replace HO := hide (And.intro HO.out (And.intro Hx.out.lt (And.intro Hv.out.lt (And.intro Hw.out.lt Ha.out.lt))))
  obtain ⟨x0, x1, x2, x3, x4, x5, x6, x7⟩ := Hx.out.c8
  have ltx := Hx.out.lt
  obtain ⟨y0, y1⟩ := Hw.out.c2
  have lty := Hw.out.lt
  have fy0 := Hw.out.frozen 0
  have fy1 := Hw.out.frozen 1
  go_upto_region 7 with fail
  have lq_HB := HB.out.size
  have lq_Hx := Hx.out.lt
  have lq_Hv := Hv.out.lt
  have lq_Hw := Hw.out.lt
  have lq_Ha := Ha.out.lt
  first | refine at_world fun W8 hW => ?_ | refine code_world fun W8 hW => ?_
  replace HB := hide (to_world hW (Below.alloc (Below.setCell (Below.setCell HB.out (by have ho := HO.out; (try dsimp only); omega) _) (by have ho := HO.out; (try dsimp only); omega) _) (by have ho := HO.out; first | omega | (simp; omega)) _) : Below _ _ W8)
  have q_Hx := blk_to hW (Blk.alloc (Blk.far (Blk.far Hx.out (by have ho := HO.out; (try dsimp only); omega) _) (by have ho := HO.out; (try dsimp only); omega) _) _)
  replace Hx := hide q_Hx
  clear q_Hx
  have q_Hv := blk_to hW (Blk.alloc (Blk.far (Blk.far Hv.out (by have ho := HO.out; (try dsimp only); omega) _) (by have ho := HO.out; (try dsimp only); omega) _) _)
  replace Hv := hide q_Hv
  clear q_Hv
  have q_Hw := blk_to hW (Blk.alloc (Blk.set_ (Blk.set_ Hw.out 0 _) 1 _) _)
  replace Hw := hide (blk_of q_Hw (show _ = #[.int .i64 g1, .int .i64 g2] from rfl))
  clear q_Hw
  have q_Ha := blk_to hW (Blk.alloc (Blk.far (Blk.far Ha.out (by have ho := HO.out; (try dsimp only); omega) _) (by have ho := HO.out; (try dsimp only); omega) _) _)
  replace Ha := hide q_Ha
  clear q_Ha
  have q_Hb := blk_to hW (blk_new_at (t := 52) (cs := #[.int .i64 g3, .int .i64 g4]) (g := w7.heap.size) (by simp))
  have Hb := hide q_Hb
  clear q_Hb
  replace HO := hide (And.intro HO.out (And.intro lq_HB (And.intro lq_Hx (And.intro lq_Hv (And.intro lq_Hw lq_Ha)))))
  clear hW lq_HB lq_Hx lq_Hv lq_Hw lq_Ha x0 x1 x2 x3 x4 x5 x6 x7 ltx y0 y1 lty fy0 fy1
  obtain ⟨x0, x1, x2, x3, x4, x5, x6, x7⟩ := Hx.out.c8
  have ltx := Hx.out.lt
  obtain ⟨y0, y1⟩ := Hv.out.c2
  have lty := Hv.out.lt
  obtain ⟨z0, z1⟩ := Hw.out.c2
  have ltz := Hw.out.lt
  obtain ⟨s0, s1⟩ := Ha.out.c2
  have lts := Ha.out.lt
  obtain ⟨t0, t1⟩ := Hb.out.c2
  have ltt := Hb.out.lt
  go_wp2_with fail
  clear Hv Hw Ha Hb
  refine (C5.out _ HB.out).mono ?_
  rintro e w9 ⟨o1, rfl, hb1, hown⟩
  obtain ⟨A1, k1, rfl⟩ := own_shape2 hown
  have L1 := hide (ListAt.own hown (by unfold strV; simp))
  clear hown
  replace HB := hide (onward HB.out hb1)
  replace Hx := hide (blk_later Hx.out hb1)
  clear hb1 x0 x1 x2 x3 x4 x5 x6 x7 ltx y0 y1 lty z0 z1 ltz s0 s1 lts t0 t1 ltt
  obtain ⟨x0, x1, x2, x3, x4, x5, x6, x7⟩ := Hx.out.c8
  have ltx := Hx.out.lt
  go_wp2_with fail
  refine (C6.out _ HB.out).mono ?_
  rintro e w10 ⟨o2, rfl, hb1, hown⟩
  obtain ⟨A2, k2, rfl⟩ := own_shape2 hown
  have L2 := hide (ListAt.own hown (by unfold strV; simp))
  replace L1 := hide (L1.out.later hb1 hb1.size)
  clear hown
  replace HB := hide (onward HB.out hb1)
  replace Hx := hide (blk_later Hx.out hb1)
  clear hb1 x0 x1 x2 x3 x4 x5 x6 x7 ltx
  go_wp2_with fail
  refine (texts_any A1 A2 _ _ k1 k2 q w10 rfl rfl l1 L1.out L2.out).mono ?_
  rintro e w11 ⟨rfl, hb⟩
  replace HB := hide (onward HB.out hb)
  replace Hx := hide (blk_later Hx.out hb)
  clear hb
  clear L1 L2
  obtain ⟨x0, x1, x2, x3, x4, x5, x6, x7⟩ := Hx.out.c8
  have ltx := Hx.out.lt
  go_wp2_with fail
  refine (C7.out _ HB.out).mono ?_
  rintro e w12 ⟨o1, o2, rfl, hm1⟩
  obtain ⟨A1, k1, rfl⟩ := own_shape2 (Mem.row_ hm1 1 rfl)
  obtain ⟨A2, k2, rfl⟩ := own_shape2 (Mem.row_ hm1 0 rfl)
  have L1 := hide (ListAt.own (Mem.row_ hm1 1 rfl) (by unfold strV; simp))
  have L2 := hide (ListAt.own (Mem.row_ hm1 0 rfl) (by unfold natV; simp))
  have hb1 := hm1.below
  clear hm1
  replace HB := hide (onward HB.out hb1)
  replace Hx := hide (blk_later Hx.out hb1)
  clear hb1 x0 x1 x2 x3 x4 x5 x6 x7 ltx
  obtain ⟨x0, x1, x2, x3, x4, x5, x6, x7⟩ := Hx.out.c8
  have ltx := Hx.out.lt
  go_wp2_with fail
  refine (C8.out _ HB.out).mono ?_
  rintro e w13 ⟨o1, o2, rfl, hm1⟩
  obtain ⟨A3, k3, rfl⟩ := own_shape2 (Mem.row_ hm1 1 rfl)
  obtain ⟨A4, k4, rfl⟩ := own_shape2 (Mem.row_ hm1 0 rfl)
  have L3 := hide (ListAt.own (Mem.row_ hm1 1 rfl) (by unfold strV; simp))
  have L4 := hide (ListAt.own (Mem.row_ hm1 0 rfl) (by unfold natV; simp))
  have hb1 := hm1.below
  replace L1 := hide (L1.out.later hb1 hb1.size)
  replace L2 := hide (L2.out.later hb1 hb1.size)
  clear hm1
  replace HB := hide (onward HB.out hb1)
  replace Hx := hide (blk_later Hx.out hb1)
  clear hb1 x0 x1 x2 x3 x4 x5 x6 x7 ltx
  go_wp2_with fail
  refine (texts_any A1 A3 _ _ k1 k3 d1 w13 rfl rfl l2.1 L1.out L3.out).mono ?_
  rintro e w14 ⟨rfl, hb1⟩
  replace L2 := hide (L2.out.later hb1 hb1.size)
  replace L4 := hide (L4.out.later hb1 hb1.size)
  replace HB := hide (onward HB.out hb1)
  replace Hx := hide (blk_later Hx.out hb1)
  clear hb1
  go_wp2_with fail
  refine (ints_any A2 A4 _ _ k2 k4 (natV d2) w14 (by unfold natV; simp) (by unfold natV; simp) l2.2 (nat_ints d2) L2.out L4.out).mono ?_
  rintro e w15 ⟨rfl, hb1⟩
  replace HB := hide (onward HB.out hb1)
  replace Hx := hide (blk_later Hx.out hb1)
  clear hb1
  clear L1 L2 L3 L4
  go_wp2_with fail
  refine (C9.out _ HB.out).mono ?_
  rintro e w16 ⟨rfl, hb⟩
  replace HB := hide (onward HB.out hb)
  replace Hx := hide (blk_later Hx.out hb)
  clear hb
  go_wp2_with fail
  refine (C10.out _ HB.out).mono ?_
  rintro e w17 ⟨rfl, hb⟩
  replace HB := hide (onward HB.out hb)
  replace Hx := hide (blk_later Hx.out hb)
  clear hb
  go_wp2
  go_ret
  exact ⟨rfl, HB.out⟩
end Go.Proofs.Ytiggefmckomilaa
namespace Go.Proofs.Ytiggefmckomilaa
open Go Go.RowKit

def RBackPost (l : List Ent) (i : Int) (w : World) (e : Ending) (w' : World) : Prop :=
  if 0 ≤ i ∧ i ≤ (l.length : Int) then ∃ q v', e = .returned (.tuple #[ptrB q, .int .i64 0]) ∧ RMem w (l.drop (l.length - i.toNat)) q v' [] w'
  else e = .returned (.tuple #[.pointer none, .int .i64 3]) ∧ Below w.heap.size w w'
theorem good_drop : ∀ {l : List Ent} (m : Nat), GoodB l → GoodB (l.drop m)
  | l, 0, h => h
  | [], m + 1, _ => trivial
  | e :: l, m + 1, h => good_drop (l := l) m h.2
theorem row_one (l : List Ent) : ∀ u ∈ refRow l, u.oneCell' = true := fun u hu => by
  unfold refRow at hu
  obtain ⟨x, -, hx⟩ := List.mem_flatMap.1 hu
  unfold rowE at hx
  simp only [List.mem_cons, List.not_mem_nil, or_false] at hx
  rcases hx with rfl | rfl | rfl | rfl | rfl | rfl | rfl | rfl | rfl | rfl | rfl | rfl | rfl | rfl | rfl <;> rfl
theorem row_len : ∀ l : List Ent, (refRow l).length = l.length * 15
  | [] => rfl
  | x :: l => by rw [refRow_cons, List.length_append, row_len l, List.length_cons]; simp [rowE]; omega
theorem row_take : ∀ (l : List Ent) (m : Nat), m ≤ l.length → refRow (l.drop (l.length - m)) = (refRow l).take (m * 15)
  | [], m, h => by
    obtain rfl : m = 0 := by simpa using h
    rfl
  | x :: l, m, h => by
    rw [List.length_cons] at *
    by_cases e : m = l.length + 1
    · subst e
      rw [Nat.sub_self, List.drop_zero, List.take_of_length_le (by rw [row_len, List.length_cons]; exact Nat.le_refl _)]
    · rw [show l.length + 1 - m = l.length - m + 1 by omega, List.drop_succ_cons, row_take l m (by omega), refRow_cons, List.take_append_of_le_length (by rw [row_len]; omega)]
theorem addr0 (b j : Nat) : (⟨b, 0, none⟩ : Addr).add j = ⟨b, j, none⟩ := by simp [Addr.add]; omega
theorem lit_mem (w : World) : Mem w [.row w.heap.size 121 15 (.slice (some ⟨w.heap.size, 0, none⟩) 0 0) 0 []] (w.alloc (.cells #[] 121)) :=
  (Mem.start w).add ((Below.refl _ _).alloc (Nat.le_refl _) _) (show World.ownsRow _ _ _ _ _ _ _ from World.ownsRow_made w #[] 0 (Nat.le_refl _) (by decide) rfl) (fun k hk => by simp [Th.fp, optL, Value.ownBlock] at hk; omega)
theorem lit_grow {w W : World} {v : Value} {n : Nat} {xs : List Value} (ho : W.ownsRow w.heap.size 121 15 v n xs) (hg : (w.alloc (.cells #[] 121)).grownBy W (some w.heap.size)) (hat : v.ownBlock = some w.heap.size ∨ v.ownBlock = some (w.heap.size + 1)) :
    Mem w [.row w.heap.size 121 15 v n xs] W :=
  (lit_mem w).step 0 rfl (show World.ownsRow _ _ _ _ _ _ _ from ho) ⟨hg.os, hg.tape, hg.output, hg.size, fun k hk => hg.block k hk.1 fun e => hk.2 (by have : k = w.heap.size := Option.some.inj e; subst this; exact optL_iff.2 rfl)⟩
    (fun k hk => by
      have hk' := optL_iff.1 hk
      rcases hat with h1 | h1
      · rw [h1] at hk'; exact .inl (optL_iff.2 (by rw [← Option.some.inj hk']; rfl))
      · rw [h1] at hk'; have := Option.some.inj hk'; exact .inr (by simp; omega))
set_option maxHeartbeats 4000000 in
set_option maxRecDepth 100000 in
theorem rBack_any (w0 : World) (l : List Ent) (p : Nat) (v : Value) (ts : List Th) (i : Int) (w : World) (h : RMem w0 l p v ts w) :
    Calls Try.prog 50 #[ptrB p, .int .i64 i] w (RBackPost l i w) := by
  obtain ⟨A, c, rfl⟩ := h.shape
  have hl := good_len h.good
  have hl2 : (l.length : Int) ≤ 2000 := by omega
  have hin := fun W => rIn_any i 0 (l.length : Int) W
  have hbk := Mem.blk_ h.mem 0 rfl
  have hrow := Mem.row_ h.mem 1 rfl
  have x0 := hbk.c 0 rfl
  have ltx := hbk.lt
  unfold ptrB at *
  cases hi : inR i 0 (l.length : Int) with
  | false =>
    rw [hi] at hin
    have hP : ∀ e w', (e = .returned (.tuple #[.pointer none, .int .i64 3]) ∧ Below w.heap.size w w') → RBackPost l i w e w' := fun e w' h => by
      unfold RBackPost
      rw [if_neg (fun h => by rw [inR_iff.2 h] at hi; cases hi)]
      exact h
    have Hin := hide hin
    clear hin h hbk hrow
    go_enter Try.func50, Try.ntmps50
    go_wp2_with fail
    refine (Hin.out _).mono ?_
    rintro e w' ⟨rfl, rfl⟩
    go_wp2
    exact bodyPost_ret (v := .tuple #[.pointer none, .int .i64 3]) (by simp [results, Try.results50, go_sem]) rfl (hP _ _ ⟨rfl, Below.refl _ _⟩)
  | true =>
    obtain ⟨i0, i1⟩ := inR_iff.1 hi
    rw [hi] at hin
    obtain ⟨m, rfl⟩ : ∃ m : Nat, i = (m : Int) := ⟨i.toNat, by omega⟩
    have hml : m ≤ l.length := by omega
    have hP : ∀ (e : Ending) (w' : World), (∃ (q : Nat) (v' : Value), e = .returned (.tuple #[ptrB q, .int .i64 0]) ∧ Mem w [.blk q 117 #[v'], .row w.heap.size 121 15 v' m ((refRow l).take (m * 15))] w') → RBackPost l m w e w' := fun e w' hx => by
      unfold RBackPost
      rw [if_pos ⟨i0, i1⟩]
      obtain ⟨q, v', he, hm⟩ := hx
      refine ⟨q, v', he, good_drop _ h.good, ?_⟩
      rw [Int.toNat_natCast, row_take l m hml, List.length_drop, show l.length - (l.length - m) = m by omega]
      exact hm
    have hone := row_one l
    have hrl := row_len l
    have Hin := hide hin
    have HP := hide hP
    clear hP hin hi h
    unfold ptrB at HP
    obtain ⟨i0', hii, hz0, hz1, hz2⟩ := info_parts entryInfo
    generalize refRow l = rw' at *
    generalize l.length = N at *
    have Hi := hide hii
    have Hz0 := hide hz0
    have Hz1 := hide hz1
    have Hz2 := hide hz2
    clear hii hz0 hz1 hz2
    by_cases hA : A = none
    · subst hA
      have hc0 : N = 0 ∧ c = 0 := by
        rcases hrow.2 with ⟨hv, h1⟩ | ⟨g, cap, cur, hv, -⟩
        · injection hv with e1 e2 e3; exact ⟨e2, e3⟩
        · injection hv with e1; cases e1
      obtain ⟨rfl, rfl⟩ := hc0
      obtain rfl : m = 0 := by omega
      clear hrow hbk
      go_enter Try.func50, Try.ntmps50
      go_wp2_with fail
      refine (Hin.out _).mono ?_
      rintro e w' ⟨rfl, rfl⟩
      go_wp2_with (at_builtin; refine wpList_append_own_none _ rfl (.tmp 14) (.tmp 20) _ rfl w.heap.size 121 i0' 15 Try.underlying115 Hi.out _ 0 [] rfl (Mem.row_ (lit_mem w) 0 rfl) rfl ?_)
      refine ret_world fun W2 hW => ?_
      have hM := ((lit_mem w).alloc #[.slice (some ⟨w.heap.size, 0, none⟩) 0 0] 117).to hW
      refine bodyPost_ret (v := .tuple #[.pointer (some ⟨w.heap.size + 1, 0, none⟩), .int .i64 0]) (by simp [results, Try.results50, go_sem]) rfl (HP.out _ _ ⟨w.heap.size + 1, _, rfl, by simpa using hM⟩)
    · obtain ⟨b, cur, hAb, hNc, hc2, hbb⟩ : ∃ b cur, A = some ⟨b, 0, none⟩ ∧ N ≤ c ∧ Blk w b 121 cur ∧ ∀ (i : Nat) (u : Value), rw'[i]? = some u → cur[i]? = some u := by
        rcases hrow.2 with ⟨hv, h1⟩ | ⟨g, cap, cur, hv, hb, hg, h3, h4, h5, h6⟩
        · injection hv with e1; exact absurd e1 hA
        · injection hv with e1 e2 e3
          subst e3
          refine ⟨g, cur, e1, h3, hg, fun i u hu => ?_⟩
          rw [← h6, List.getElem?_take] at hu
          split at hu
          · simpa using hu
          · cases hu
      subst hAb
      have hNc2 : (N : Int) ≤ c := by omega
      have hmc : (m : Int) ≤ c := by omega
      have ltb := hc2.lt
      have Hnews : Hid (∀ (j : Nat) (u : Value), (rw'.take (m * 15))[j]? = some u → (w.alloc (.cells #[] 121)).cell? ((⟨b, 0, none⟩ : Addr).add j) = some u) := hide fun j u hu => by
        rw [List.getElem?_take] at hu
        split at hu
        · have := (hc2.alloc (.cells #[] 121)).c j (hbb j u hu)
          rwa [addr0]
        · cases hu
      have Hone : Hid (∀ u ∈ rw'.take (m * 15), u.oneCell' = true) := hide fun u hu => hone u (List.mem_of_mem_take hu)
      have Hlen : Hid ((rw'.take (m * 15)).length = m * 15) := hide (by rw [List.length_take, hrl]; omega)
      clear hrow hbk hbb hc2 hone hrl hA
      go_enter Try.func50, Try.ntmps50
      go_wp2_with fail
      refine (Hin.out _).mono ?_
      rintro e w' ⟨rfl, rfl⟩
      go_wp2_with (at_builtin; refine wpList_append_own_at _ rfl (.tmp 14) (.tmp 20) _ rfl w.heap.size 121 i0' _ 15 160 Try.underlying115 Hi.out Hz0.out Hz1.out Hz2.out rfl (by decide) _ 0 [] rfl (Mem.row_ (lit_mem w) 0 rfl) ⟨b, 0, none⟩ m c (rw'.take (m * 15)) rfl Hlen.out Hnews.out Hone.out ?c3 ?c4 ?c5 ?_)
      case c3 => unfold maxLen; omega
      case c4 => omega
      case c5 => simp
      intro v2 w4 hown2 hgr2 _ hat2
      obtain ⟨A2, c2, rfl⟩ := own_shape2 hown2
      have HM := hide (lit_grow hown2 hgr2 (hat2.imp (fun h => h) fun h => h.trans (by simp)))
      clear hown2 hgr2 hat2
      go_wp2_with fail
      refine ret_world fun W2 hW => ?_
      have hM := (HM.out.alloc #[_] 117).to hW
      try rw [Nat.zero_add, List.nil_append] at hM
      refine bodyPost_ret (v := .tuple #[.pointer (some ⟨w4.heap.size, 0, none⟩), .int .i64 0]) (by simp [results, Try.results50, go_sem]) rfl (HP.out _ _ ⟨w4.heap.size, _, rfl, hM⟩)
set_option maxHeartbeats 4000000 in
set_option maxRecDepth 100000 in
theorem rCopy_any (w0 : World) (l : List Ent) (p : Nat) (v : Value) (ts : List Th) (w : World) (h : RMem w0 l p v ts w) :
    Calls Try.prog 52 #[ptrB p] w fun e w' => ∃ q v', e = .returned (ptrB q) ∧ RMem w l q v' [] w' ∧ w'.heap.size = q + 1 := by
  obtain ⟨A, c, rfl⟩ := h.shape
  have hl := good_len h.good
  have hl2 : (l.length : Int) ≤ 2000 := by omega
  have hbk := Mem.blk_ h.mem 0 rfl
  have hrow := Mem.row_ h.mem 1 rfl
  have x0 := hbk.c 0 rfl
  have ltx := hbk.lt
  unfold ptrB at *
  have hP : ∀ (e : Ending) (w' : World), (∃ (q : Nat) (v' : Value), e = .returned (.pointer (some ⟨q, 0, none⟩)) ∧ Mem w [.blk q 117 #[v'], .row w.heap.size 121 15 v' l.length (refRow l)] w' ∧ w'.heap.size = q + 1) → ∃ q v', e = .returned (.pointer (some ⟨q, 0, none⟩)) ∧ RMem w l q v' [] w' ∧ w'.heap.size = q + 1 := fun e w' hx => by
    obtain ⟨q, v', he, hm, hz⟩ := hx
    exact ⟨q, v', he, ⟨h.good, hm⟩, hz⟩
  have hone := row_one l
  have hrl := row_len l
  have HP := hide hP
  clear hP h
  obtain ⟨i0', hii, hz0, hz1, hz2⟩ := info_parts entryInfo
  generalize refRow l = rw' at *
  have Hi := hide hii
  have Hz0 := hide hz0
  have Hz1 := hide hz1
  have Hz2 := hide hz2
  clear hii hz0 hz1 hz2
  by_cases hA : A = none
  · subst hA
    have hc0 : l.length = 0 ∧ c = 0 := by
      rcases hrow.2 with ⟨hv, h1⟩ | ⟨g, cap, cur, hv, -⟩
      · injection hv with e1 e2 e3; exact ⟨e2, e3⟩
      · injection hv with e1; cases e1
    have hr0 : rw' = [] := List.length_eq_zero_iff.1 (by rw [hrl, hc0.1])
    obtain ⟨hN0, rfl⟩ := hc0
    rw [hN0] at x0 HP
    rw [hr0] at HP
    clear hrow hbk
    refine Calls.mono ?_ (fun e w' hx => HP.out e w' hx)
    go_enter Try.func52, Try.ntmps52
    go_wp2_with (at_builtin; refine wpList_append_own_none _ rfl (.tmp 3) (.tmp 7) _ rfl w.heap.size 121 i0' 15 Try.underlying115 Hi.out _ 0 [] rfl (Mem.row_ (lit_mem w) 0 rfl) rfl ?_)
    refine ret_world fun W2 hW => ?_
    have hM := ((lit_mem w).alloc #[.slice (some ⟨w.heap.size, 0, none⟩) 0 0] 117).to hW
    refine bodyPost_ret (v := .pointer (some ⟨w.heap.size + 1, 0, none⟩)) (by simp [results, Try.results52, go_sem]) rfl ⟨w.heap.size + 1, _, rfl, by simpa using hM, by rw [hW]; simp⟩
  · obtain ⟨b, cur, hAb, hNc, hc2, hbb⟩ : ∃ b cur, A = some ⟨b, 0, none⟩ ∧ l.length ≤ c ∧ Blk w b 121 cur ∧ ∀ (i : Nat) (u : Value), rw'[i]? = some u → cur[i]? = some u := by
      rcases hrow.2 with ⟨hv, h1⟩ | ⟨g, cap, cur, hv, hb, hg, h3, h4, h5, h6⟩
      · injection hv with e1; exact absurd e1 hA
      · injection hv with e1 e2 e3
        subst e3
        refine ⟨g, cur, e1, h3, hg, fun i u hu => ?_⟩
        rw [← h6, List.getElem?_take] at hu
        split at hu
        · simpa using hu
        · cases hu
    subst hAb
    have ltb := hc2.lt
    generalize l.length = N at *
    have Hnews : Hid (∀ (j : Nat) (u : Value), rw'[j]? = some u → (w.alloc (.cells #[] 121)).cell? ((⟨b, 0, none⟩ : Addr).add j) = some u) := hide fun j u hu => by
      have := (hc2.alloc (.cells #[] 121)).c j (hbb j u hu)
      rwa [addr0]
    have Hone := hide hone
    have Hlen := hide hrl
    clear hrow hbk hbb hc2 hone hrl hA
    refine Calls.mono ?_ (fun e w' hx => HP.out e w' hx)
    go_enter Try.func52, Try.ntmps52
    go_wp2_with (at_builtin; refine wpList_append_own_at _ rfl (.tmp 3) (.tmp 7) _ rfl w.heap.size 121 i0' _ 15 160 Try.underlying115 Hi.out Hz0.out Hz1.out Hz2.out rfl (by decide) _ 0 [] rfl (Mem.row_ (lit_mem w) 0 rfl) ⟨b, 0, none⟩ N c rw' rfl Hlen.out Hnews.out Hone.out ?c3 ?c4 ?c5 ?_)
    case c3 => unfold maxLen; omega
    case c4 => omega
    case c5 => simp
    intro v2 w4 hown2 hgr2 _ hat2
    obtain ⟨A2, c2, rfl⟩ := own_shape2 hown2
    have HM := hide (lit_grow hown2 hgr2 (hat2.imp (fun h => h) fun h => h.trans (by simp)))
    clear hown2 hgr2 hat2
    go_wp2_with fail
    refine ret_world fun W2 hW => ?_
    have hM := (HM.out.alloc #[_] 117).to hW
    try rw [Nat.zero_add, List.nil_append] at hM
    refine bodyPost_ret (v := .pointer (some ⟨w4.heap.size, 0, none⟩)) (by simp [results, Try.results52, go_sem]) rfl ⟨w4.heap.size, _, rfl, hM, by rw [hW]; simp⟩
end Go.Proofs.Ytiggefmckomilaa
namespace Go.Proofs.Ytiggefmckomilaa
open Go Go.RowKit

set_option maxHeartbeats 8000000 in
set_option maxRecDepth 100000 in
theorem rturn_any (w0 : World) (l : List Ent) (p : Nat) (v : Value) (ts : List Th) (n : ByteArray) (out : Bool) (w : World) (h : RMem w0 l p v ts w) :
    Calls Try.prog 80 #[ptrB p, .string n, .int .i64 (if out = true then 4 else 5)] w fun e w' => e = .returned (.int .i64 (turnE l n out)) ∧ ∃ v', RMem w0 (if turnE l n out = 0 then .turn n out :: l else l) p v' ts w' := by
  obtain ⟨A, c, rfl⟩ := h.shape
  have hl := good_len h.good
  have hl2 : (l.length : Int) ≤ 2000 := by omega
  have hst := fun W (hW : Below w.heap.size w W) => rstandard_any l p c A n W (h.ref.later hW)
  have hwd := fun W (hW : Below w.heap.size w W) => rwd_any l p c A n W (h.ref.later hW)
  have hE : turnE l n out = if 2000 ≤ l.length then 13 else if (stdT l n).isNone then 4 else if wdT l n = out then 6 else 0 := rfl
  have hgood : turnE l n out = 0 → GoodB (.turn n out :: l) := fun e => ⟨by show (turnE l n out == 0) = true; rw [e]; rfl, h.good⟩
  have hrR : rowE (.turn n out) = [.int .i64 (if out = true then 4 else 5), .string n, .int .i64 0, .string ⟨#[]⟩, .string ⟨#[]⟩, .int .i64 0, .int .i64 0, .int .i64 0, .int .i64 0, .int .i64 0, .string ⟨#[]⟩, .string ⟨#[]⟩, .int .i64 0, .int .i64 0, .int .i64 0] := by cases out <;> rfl
  have hb := (Mem.blk_ h.mem 0 rfl)
  have x0 := hb.c 0 rfl
  have ltx := hb.lt
  have H := hide h
  clear h hb
  unfold ptrB at *
  generalize hre : turnE l n out = re at *
  obtain ⟨o, ho⟩ : ∃ o, wdT l n = o := ⟨_, rfl⟩
  rw [ho] at hwd hE
  clear ho
  obtain ⟨kd, hkd⟩ : ∃ kd : Int, (if out = true then (4 : Int) else 5) = kd := ⟨_, rfl⟩
  rw [hkd] at hrR ⊢
  have hk4 : decide (kd = 4) = out := by subst hkd; cases out <;> rfl
  have hk4' : (kd == 4) = out := by subst hkd; cases out <;> rfl
  clear hkd
  have Hst := hide hst
  have Hwd := hide hwd
  have Hgood := hide hgood
  have HrR := hide hrR
  clear hst hwd hgood hrR
  have HB := hide (Below.refl w.heap.size w)
  by_cases h1 : 2000 ≤ l.length
  · rw [if_pos h1] at hE
    subst hE
    have h1' : (2000 : Int) ≤ l.length := by omega
    go_enter Try.func80, Try.ntmps80
    go_wp2
    go_ret
    exact ⟨rfl, .slice A l.length c, by first | exact H.out | (rw [if_neg (by decide)]; exact H.out)⟩
  · rw [if_neg h1] at hE
    have h1' : ¬ (2000 : Int) ≤ l.length := by omega
    cases hs : stdT l n with
    | none =>
      rw [hs, if_pos (show (none : Option Std).isNone = true from rfl)] at hE
      unfold standardV at Hst
      simp only [hs] at Hst
      unfold stdV std0 at Hst
      subst hE
      go_enter Try.func80, Try.ntmps80
      go_wp2_with fail
      refine (Hst.out _ HB.out).mono ?_
      rintro e w3 ⟨rfl, hb⟩
      replace HB := hide (onward HB.out hb)
      clear hb
      go_wp2
      go_ret
      have hsz := HB.out.size
      refine ⟨rfl, .slice A l.length c, ?_⟩
      try rw [if_neg (by decide)]
      refine H.out.later ?_
      repeat (first | exact HB.out | (refine Below.setCell ?_ (by first | omega | (simp; done) | (simp; omega)) _) | (refine Below.alloc ?_ (by first | omega | (simp; done) | (simp; omega)) _) | (refine below_drewN ?_ _))
    | some s =>
      rw [hs, if_neg (show ¬ (some s).isNone = true by simp)] at hE
      unfold standardV at Hst
      simp only [hs] at Hst
      unfold stdV at Hst
      go_enter Try.func80, Try.ntmps80
      go_wp2_with fail
      refine (Hst.out _ HB.out).mono ?_
      rintro e w3 ⟨rfl, hb⟩
      replace HB := hide (onward HB.out hb)
      clear hb
      go_wp2_with fail
      refine at_world fun W4 hW => ?_
      have bq0 : Blk W4 w3.heap.size 67 #[.string s.name, .string s.par, .int .i64 s.lo, .int .i64 s.hi, .int .i64 s.time, .int .i64 s.stop, .int .i64 s.drift] := by rw [hW]; exact Blk.new _ _ _
      have LW : Later w3 W4 := by rw [hW]; exact ((Below.refl _ _).alloc (Nat.le_refl _) _)
      have szW : W4.heap.size = w3.heap.size + 1 := by rw [hW]; simp
      clear hW
      replace HB := hide (onward HB.out LW)
      have Hx := hide bq0
      clear bq0 LW szW
      refine (Hwd.out _ HB.out).mono ?_
      rintro e w5 ⟨rfl, hb⟩
      replace HB := hide (onward HB.out hb)
      replace Hx := hide (blk_later Hx.out hb)
      clear hb
      by_cases hoo : o = out
      · rw [if_pos hoo] at hE
        subst hE
        have hb1 : (o == out) = true := by rw [hoo]; cases out <;> rfl
        have hb2 : decide (o = out) = true := decide_eq_true hoo
        go_wp2
        go_ret
        have hsz := HB.out.size
        refine ⟨rfl, .slice A l.length c, ?_⟩
        try rw [if_neg (by decide)]
        refine H.out.later ?_
        repeat (first | exact HB.out | (refine Below.setCell ?_ (by first | omega | (simp; done) | (simp; omega)) _) | (refine Below.alloc ?_ (by first | omega | (simp; done) | (simp; omega)) _) | (refine below_drewN ?_ _))
      · rw [if_neg hoo] at hE
        subst hE
        have hb1 : (o == out) = false := by revert hoo; cases o <;> cases out <;> simp
        have hb2 : decide (o = out) = false := decide_eq_false hoo
        have hg := Hgood.out (by trivial)
        have HM := hide (H.out.later HB.out).mem
        clear x0 ltx HB
        obtain ⟨i0, hii, hz0, hz1, hz2⟩ := info_parts entryInfo
        have Hi := hide hii
        have Hz0 := hide hz0
        have Hz1 := hide hz1
        have Hz2 := hide hz2
        clear hii hz0 hz1 hz2
        have hb := Mem.blk_ HM.out 0 rfl
        have x0 := hb.c 0 rfl
        have ltx := hb.lt
        have fx := hb.frozen 0
        clear hb
        have hownM := Mem.row_ HM.out 1 rfl
        have hbaseM : w0.heap.size ≤ w5.heap.size := HM.out.size
        go_wp2_with (at_builtin; refine wpList_append_own_at _ rfl (.tmp 33) (.tmp 37) _ rfl w0.heap.size 121 i0 _ 15 160 Try.underlying115 Hi.out Hz0.out Hz1.out Hz2.out rfl (by decide) _ l.length (refRow l) rfl (hownM.alloc _) ⟨w5.heap.size, 0, none⟩ 1 1 [.int .i64 kd, .string n, .int .i64 0, .string ⟨#[]⟩, .string ⟨#[]⟩, .int .i64 0, .int .i64 0, .int .i64 0, .int .i64 0, .int .i64 0, .string ⟨#[]⟩, .string ⟨#[]⟩, .int .i64 0, .int .i64 0, .int .i64 0] rfl rfl ?q1c1 (by intro u hu; simp only [List.mem_cons, List.not_mem_nil, or_false] at hu; rcases hu with rfl | rfl | rfl | rfl | rfl | rfl | rfl | rfl | rfl | rfl | rfl | rfl | rfl | rfl | rfl <;> rfl) ?q1c3 ?q1c4 ?q1c5 ?_)
        try case q1c1 => exact new_cellsQ w5 _ [.int .i64 kd, .string n, .int .i64 0, .string ⟨#[]⟩, .string ⟨#[]⟩, .int .i64 0, .int .i64 0, .int .i64 0, .int .i64 0, .int .i64 0, .string ⟨#[]⟩, .string ⟨#[]⟩, .int .i64 0, .int .i64 0, .int .i64 0]
        case q1c3 => unfold maxLen; omega
        case q1c4 => omega
        case q1c5 => simp; omega
        intro v2 w7 hown2 hgr2 _ hat2
        have HMn := HM.out.grow 1 rfl _ hgr2 hown2 hat2
        replace HM := hide HMn
        clear HMn hown2 hgr2 hat2 hownM hbaseM
        clear x0 ltx fx
        have hb := Mem.blk_ HM.out 0 rfl
        have x0 := hb.c 0 rfl
        have ltx := hb.lt
        have fx := hb.frozen 0
        clear hb
        obtain ⟨A2, c2, rfl⟩ := own_shape2 (Mem.row_ HM.out 1 rfl)
        go_wp2
        go_ret
        have hM2 := HM.out.set_ 0 rfl 0 (.slice A2 (l.length + 1) c2) rfl
        have hX : RMem w0 (.turn n out :: l) p (.slice A2 (l.length + 1) c2) ts _ := ⟨hg, by rw [refRow_cons, HrR.out, List.length_cons]; exact hM2⟩
        exact ⟨rfl, .slice A2 (l.length + 1) c2, by first | exact hX | (rw [if_pos rfl]; exact hX)⟩
theorem rWithdraw_any (w0 : World) (l : List Ent) (p : Nat) (v : Value) (ts : List Th) (n : ByteArray) (w : World) (h : RMem w0 l p v ts w) :
    Calls Try.prog 48 #[ptrB p, .string n] w fun e w' => e = .returned (.int .i64 (turnE l n true)) ∧ ∃ v', RMem w0 (if turnE l n true = 0 then .turn n true :: l else l) p v' ts w' := by
  have c1 := rturn_any w0 l p v ts n true w h
  rw [if_pos rfl] at c1
  generalize (if turnE l n true = 0 then Ent.turn n true :: l else l) = NL at c1 ⊢
  generalize turnE l n true = r at c1 ⊢
  unfold ptrB at *
  go_enter Try.func48, Try.ntmps48
  go_wp2_with fail
  refine c1.mono ?_
  rintro e w' ⟨rfl, hx⟩
  have Hx := hide hx
  clear c1 hx
  go_wp2
  go_ret
  exact ⟨rfl, Hx.out⟩
theorem rReinstate_any (w0 : World) (l : List Ent) (p : Nat) (v : Value) (ts : List Th) (n : ByteArray) (w : World) (h : RMem w0 l p v ts w) :
    Calls Try.prog 49 #[ptrB p, .string n] w fun e w' => e = .returned (.int .i64 (turnE l n false)) ∧ ∃ v', RMem w0 (if turnE l n false = 0 then .turn n false :: l else l) p v' ts w' := by
  have c1 := rturn_any w0 l p v ts n false w h
  rw [if_neg (by decide)] at c1
  generalize (if turnE l n false = 0 then Ent.turn n false :: l else l) = NL at c1 ⊢
  generalize turnE l n false = r at c1 ⊢
  unfold ptrB at *
  go_enter Try.func49, Try.ntmps49
  go_wp2_with fail
  refine c1.mono ?_
  rintro e w' ⟨rfl, hx⟩
  have Hx := hide hx
  clear c1 hx
  go_wp2
  go_ret
  exact ⟨rfl, Hx.out⟩
end Go.Proofs.Ytiggefmckomilaa
