/-
  slices.Grow at nil, laid at this program.
-/
import Derived.Shelf.Spec.SlicesGrow
import Derived.Test.YtidbjidcjmbnlaaTmChgM
set_option linter.unusedSimpArgs false
set_option linter.unusedVariables false
namespace Go.Proofs
open Go Go.RowKit Go.Shelf
def Try.laysGrow_ren : Go.Shelf.Ren := ⟨fun | 4 => 70 | n => n, fun | 22 => 33 | 25 => 3 | 0 => 0 | 3 => 3 | 4 => 4 | 9 => 9 | 20 => 20 | n => n, fun | n => n⟩
theorem Try.laysGrow : Go.Proofs.Lays8.n4 Try.prog Try.laysGrow_ren := {
  mixed := by kernel_rfl
  f4 := ⟨Try.f70.name, by decide, Try.func70.trans (congrArg some (by kernel_rfl))⟩
  t0 := by kernel_rfl
  a0 := fun w => by kernel_rfl
  z0 := fun w => by kernel_rfl
  v0 := fun w => by kernel_rfl
  t3 := Try.underlying3
  a3 := Try.isAgg3
  z3 := Try.sizeOf3
  v3 := Try.zeroValue3
  t4 := Try.underlying4
  a4 := Try.isAgg4
  z4 := Try.sizeOf4
  v4 := Try.zeroValue4
  t9 := Try.underlying9
  a9 := Try.isAgg9
  z9 := Try.sizeOf9
  v9 := Try.zeroValue9
  t20 := by kernel_rfl
  a20 := fun w => by kernel_rfl
  z20 := fun w => by kernel_rfl
  v20 := fun w => by kernel_rfl
  t22 := Try.underlying33
  a22 := Try.isAgg33
  z22 := Try.sizeOf33
  v22 := Try.zeroValue33 }
end Go.Proofs
namespace Go.Proofs.Ytidbjidcjmbnlaa
open Go Go.RowKit
set_option maxRecDepth 100000 in
theorem grow_nil (n : Nat) (w : World) (hn : n ≤ 1000000) :
    Calls Try.prog 70 #[.slice none 0 0, .int .i64 (n : Nat)] w fun e w' => ∃ v, e = .returned v ∧ Below w.heap.size w w' ∧ w'.ownsRow w.heap.size 3 1 v 0 [] := by
  rcases Nat.eq_zero_or_pos n with rfl | h0
  · refine (Any8.slices_Grow_room Try.laysGrow none 0 0 0 w (Nat.le_refl _) (by omega) (by omega) (Nat.le_refl _)).mono ?_
    rintro e w' ⟨rfl, rfl⟩
    exact ⟨_, rfl, Below.refl _ _, World.ownsRow_nil _ _ _ _⟩
  · obtain ⟨i0, hi0, hz0, hz1, hz2⟩ := info_parts intInfoC
    refine (Any8.slices_Grow_grow Try.laysGrow i0 (.int .i64 0) hi0 hz0 (by omega) none 0 0 n [] w (Nat.le_refl _) (by omega) (by rw [hz2]; omega) (by omega) (by simp) (fun _ => rfl) (fun a h => by cases h)).mono ?_
    rintro e w' ⟨rfl, rfl⟩
    refine ⟨_, rfl, (Below.refl _ w).drew.alloc (Nat.le_refl _) _, ?_⟩
    refine World.ownsRow_made w.drew _ _ (Nat.le_refl _) ?_ ?_
    · exact grownCap_le_maxLen _ _ _ _ (by unfold maxLen; omega)
    · have h1 := grownCap_ge w n 0 (Try.laysGrow_ren.t 25)
      have h2 : (Value.int IntKind.i64 0).cells.size = 1 := rfl
      simp only [List.toArray, Array.size_append, Builtin.zeroCells]
      simp
      rw [h2, Nat.mul_one, Nat.mul_one]
      omega
/-- Rows of numbers are put one behind the other. -/
def ConcPost (l : List Nat) (w : World) (e : Ending) (w' : World) : Prop := ∃ v, e = .returned v ∧ Below w.heap.size w w' ∧ w'.ownsRow w.heap.size 3 1 v l.length (numsV l)
def catL (kl : List (Value × List Nat)) (k : Nat) : List Nat := (kl.take k).flatMap (·.2)
theorem catL_next {kl : List (Value × List Nat)} {k : Nat} {y : Value × List Nat} (h : kl[k]? = some y) : catL kl (k + 1) = catL kl k ++ y.2 := by
  unfold catL
  rw [List.take_add_one, h]
  simp
theorem catL_len {kl : List (Value × List Nat)} {k m : Nat} (h : ∀ y ∈ kl, y.2.length ≤ m) : (catL kl k).length ≤ k * m := by
  induction k with
  | zero => simp [catL]
  | succ k ih =>
    cases hk : kl[k]? with
    | none =>
      have : catL kl (k + 1) = catL kl k := by unfold catL; rw [List.take_add_one, hk]; simp
      rw [this, Nat.succ_mul]
      omega
    | some y =>
      rw [catL_next hk, List.length_append, Nat.succ_mul]
      have := h y (List.mem_of_getElem? hk)
      omega
set_option maxHeartbeats 4000000 in
set_option maxRecDepth 100000 in
theorem Concat_any (base K c m : Nat) (A : Option Addr) (kl : List (Value × List Nat)) (w : World) (hK : kl.length = K) (hK6 : K ≤ 100) (hm : ∀ y ∈ kl, y.2.length ≤ m) (hm6 : m ≤ 100) (h : w.ownsRow base 33 1 (.slice A K c) K (kl.map (fun x : Value × List Nat => x.1))) (hr : ∀ y ∈ kl, w.ownsRow base 3 1 y.1 y.2.length (numsV y.2)) :
    Calls Try.prog 52 #[.slice A K c] w (ConcPost (kl.flatMap (·.2)) w) := by
  obtain ⟨PP, hPP⟩ : ∃ PP, ConcPost (kl.flatMap (·.2)) w = PP := ⟨_, rfl⟩
  rw [hPP]
  have hrow := fun V (hB : Below w.heap.size w V) => own_belowT h hB
  have hrows := fun V (hB : Below w.heap.size w V) y (hy : y ∈ kl) => own_belowT (hr y hy) hB
  have hbd : ∀ k, k ≤ K → (catL kl k).length ≤ 10000 := fun k hk => Nat.le_trans (catL_len hm) (Nat.le_trans (Nat.mul_le_mul (Nat.le_trans hk hK6) hm6) (Nat.le_refl _))
  have HROW := hide hrow
  have HROWS := hide hrows
  have HPP := hide hPP
  have HK := hide hK
  have HBD := hide hbd
  clear hrow hrows hPP hK hbd
  clear h hr hm hm6
  go_enter Try.func52, Try.ntmps52
  have HM := hide (Mem.start w)
  go_wp2_with fail
  go_loopw [3, 11] (fun z u wr => ∃ k s : Nat, k ≤ K ∧ s = (catL kl k).length ∧ z = .int .i64 (s : Nat) ∧ u = .int .i64 (k : Nat) ∧ Hid (Mem w [] wr)) (fun _ u _ => K - (intOf u).toNat)
  case atStart => exact ⟨0, 0, Nat.zero_le _, rfl, rfl, rfl, HM⟩
  case round =>
    clear HM
    obtain ⟨k, s, hkK, hs, rfl, rfl, HM⟩ := hrel
    have hs6 : s ≤ 10000 := by rw [hs]; exact HBD.out k hkK
    have HS := hide hs
    clear hs
    by_cases hlt : k < K
    · have hlt2 : (k : Int) < K := by omega
      have hrw := HROW.out wr HM.out.below
      obtain ⟨bk, cur, hA, -, hbk, -, -, hck⟩ := row_blk hrw (by omega)
      subst hA
      obtain ⟨y, hy⟩ : ∃ y, kl[k]? = some y := ⟨_, List.getElem?_eq_getElem (by rw [HK.out]; exact hlt)⟩
      have k0 := hbk.c k (hck k y.1 (by rw [List.getElem?_map, hy]; rfl))
      have ltk := hbk.lt
      have hown := HROWS.out wr HM.out.below y (List.mem_of_getElem? hy)
      have hnx := catL_next hy
      have hb2 := HBD.out (k + 1) hlt
      obtain ⟨y1, ps⟩ := y
      dsimp only at k0 hown hnx
      obtain ⟨Ap, cp, rfl⟩ := own_shape2 hown
      rw [hnx, List.length_append] at hb2
      obtain ⟨np, hnp⟩ : ∃ q, ps.length = q := ⟨_, rfl⟩
      have hnx2 : s + np = (catL kl (k + 1)).length := by rw [hnx, List.length_append, HS.out, hnp]
      rw [hnp, ← HS.out] at hb2
      rw [hnp] at k0
      have hsn : ¬ (s : Int) + np < 0 := by omega
      have HNX := hide hnx2
      clear hnx2
      clear hrw hbk hck hown hnx hy hnp
      go_wp2_with fail
      go_roundw
      case rel => exact ⟨k + 1, s + np, hlt, HNX.out, by go_num, by go_num, HM⟩
      case measure => simp [intOf] <;> omega
    · obtain rfl : K = k := by omega
      have hkk : ¬ ((K : Int) < K) := by omega
      go_wp2_with fail
      refine (grow_nil s wr (by omega)).mono ?_
      rintro e w3 ⟨v0, rfl, hb3, hown3⟩
      have hM3 := (HM.out.called hb3 hown3).lowRow 0 rfl HM.out.size
      simp only [List.set_cons_zero] at hM3
      have HM3 := hide (show Mem w [.row w.heap.size 3 1 v0 (catL kl 0).length (numsV (catL kl 0))] w3 from hM3)
      clear HM hM3 hb3 hown3
      go_wp2_with fail
      go_loopw [6, 27] (fun z u wr => ∃ k : Nat, k ≤ K ∧ u = .int .i64 (k : Nat) ∧ Hid (Mem w [.row w.heap.size 3 1 z (catL kl k).length (numsV (catL kl k))] wr)) (fun _ u _ => K - (intOf u).toNat)
      case atStart => exact ⟨0, Nat.zero_le _, rfl, HM3⟩
      case round =>
        clear HM3
        obtain ⟨k, hkK, rfl, HM⟩ := hrel
        by_cases hlt : k < K
        · have hlt2 : (k : Int) < K := by omega
          have hrw := HROW.out wr HM.out.below
          obtain ⟨bk, cur, hA, -, hbk, -, -, hck⟩ := row_blk hrw (by omega)
          subst hA
          obtain ⟨y, hy⟩ : ∃ y, kl[k]? = some y := ⟨_, List.getElem?_eq_getElem (by rw [HK.out]; exact hlt)⟩
          have k0 := hbk.c k (hck k y.1 (by rw [List.getElem?_map, hy]; rfl))
          have ltk := hbk.lt
          have hown := HROWS.out wr HM.out.below y (List.mem_of_getElem? hy)
          have hnx := catL_next hy
          have hb1 := HBD.out k hkK
          have hb2 := HBD.out (k + 1) hlt
          obtain ⟨y1, ps⟩ := y
          dsimp only at k0 hown hnx
          obtain ⟨Ap, cp, rfl⟩ := own_shape2 hown
          rw [hnx, List.length_append] at hb2
          have hsrc := src_own hown
          have hone := nums_one (l := ps)
          have hpl : (numsV ps).length = ps.length * 1 := by unfold numsV; rw [List.length_map, Nat.mul_one]
          obtain ⟨np, hnp⟩ : ∃ q, ps.length = q := ⟨_, rfl⟩
          rw [hnp] at k0 hsrc hpl hb2
          obtain ⟨i0, hi0, hz0, hz1, hz2⟩ := info_parts intInfoC
          have How := hide (HM.out.row_ 0 rfl)
          have HSRC := hide hsrc
          have HONE := hide hone
          have HPL := hide hpl
          have HNX := hide hnx
          have Hi := hide hi0
          have Hz0 := hide hz0
          have Hz1 := hide hz1
          have Hz2 := hide hz2
          have HNP := hide hnp
          clear hsrc hone hpl hnx hi0 hz0 hz1 hz2 hnp
          have hsz := HM.out.size
          clear hrw hbk hck hown hy
          go_wp2_with (at_builtin; go_must (refine wpList_append_srcN rfl (.tmp 31) (.tmp 32) _ rfl w.heap.size 3 i0 _ 1 8 Try.underlying33 Hi.out Hz0.out Hz1.out Hz2.out rfl (by decide) _ (catL kl k).length (numsV (catL kl k)) rfl How.out Ap np cp (numsV ps) rfl HSRC.out HPL.out HONE.out ?c1 ?c2 hsz ?_))
          case c1 => unfold maxLen; omega
          case c2 => omega
          intro v' w6 hownA hgrA hatA
          have hM6 := HM.out.grown_ 0 rfl hgrA hownA hatA
          simp only [List.set_cons_zero] at hM6
          have e1 : numsV (catL kl k) ++ numsV ps = numsV (catL kl (k + 1)) := by rw [HNX.out]; unfold numsV; rw [List.map_append]
          have e2 : (catL kl k).length + np = (catL kl (k + 1)).length := by rw [HNX.out, List.length_append, HNP.out]
          rw [e1, e2] at hM6
          have HM6 := hide hM6
          clear HM How hownA hgrA hatA hM6 e1 e2 hsz
          go_wp2_with fail
          go_roundw
          case rel => exact ⟨k + 1, hlt, by go_num, HM6⟩
          case measure => simp [intOf] <;> omega
        · obtain rfl : K = k := by omega
          have hkk2 : ¬ ((K : Int) < K) := by omega
          go_wp2
          rw [← HPP.out]
          have e : catL kl K = kl.flatMap (·.2) := by unfold catL; rw [List.take_of_length_le (Nat.le_of_eq HK.out)]
          refine ⟨_, rfl, HM.out.below, ?_⟩
          rw [← e]
          exact HM.out.row_ 0 rfl
end Go.Proofs.Ytidbjidcjmbnlaa
