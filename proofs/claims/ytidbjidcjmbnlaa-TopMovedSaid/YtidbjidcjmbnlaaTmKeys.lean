/-
  The keys of a set, sorted.
-/
import Derived.Shelf.SlIterI.Nil
import Derived.Test.YtidbjidcjmbnlaaTmChgM
set_option linter.unusedSimpArgs false
set_option linter.unusedVariables false
namespace Go.Proofs
open Go Go.RowKit Go.Maps Go.Sort Go.Shelf
def Try.keysA_ren : Go.Shelf.Ren := ⟨fun | 7 => 50 | 10 => 69 | n => n, fun | 23 => 85 | 26 => 3 | 3 => 4 | 28 => 130 | 0 => 0 | 27 => 129 | 33 => 152 | 4 => 4 | n => n, fun | n => n⟩
theorem Try.keysA : SlLaysZI.n7 Try.prog Try.keysA_ren := {
  mixed := by kernel_rfl
  f7 := ⟨Try.f50.name, by decide, Try.func50.trans (congrArg some (by kernel_rfl))⟩
  f10 := ⟨Try.f69.name, by decide, Try.func69.trans (congrArg some (by kernel_rfl))⟩
  t0 := by kernel_rfl
  a0 := fun w => by kernel_rfl
  z0 := fun w => by kernel_rfl
  v0 := fun w => by kernel_rfl
  t4 := Try.underlying4
  a4 := Try.isAgg4
  z4 := Try.sizeOf4
  v4 := Try.zeroValue4
  t23 := Try.underlying85
  a23 := Try.isAgg85
  z23 := Try.sizeOf85
  v23 := Try.zeroValue85
  t26 := Try.underlying3
  a26 := Try.isAgg3
  z26 := Try.sizeOf3
  v26 := Try.zeroValue3
  t27 := by kernel_rfl
  a27 := fun w => by kernel_rfl
  z27 := fun w => by kernel_rfl
  v27 := fun w => by kernel_rfl
  t28 := by kernel_rfl
  a28 := fun w => by kernel_rfl
  z28 := fun w => by kernel_rfl
  v28 := fun w => by kernel_rfl
  t33 := by kernel_rfl
  a33 := fun w => by kernel_rfl
  z33 := fun w => by kernel_rfl
  v33 := fun w => by kernel_rfl }
def Try.sortedA_ren : Go.Shelf.Ren := ⟨fun | 6 => 49 | 8 => 68 | 9 => 62 | 11 => 77 | n => n, fun | 26 => 3 | 28 => 130 | 24 => 33 | 0 => 0 | 3 => 3 | 33 => 152 | n => n, fun | n => n⟩
theorem Try.sortedA : SlLaysZI.n6 Try.prog Try.sortedA_ren := {
  mixed := by kernel_rfl
  f6 := ⟨Try.f49.name, by decide, Try.func49.trans (congrArg some (by kernel_rfl))⟩
  f8 := ⟨Try.f68.name, by decide, Try.func68.trans (congrArg some (by kernel_rfl))⟩
  f11 := ⟨Try.f77.name, by decide, Try.func77.trans (congrArg some (by kernel_rfl))⟩
  t0 := by kernel_rfl
  a0 := fun w => by kernel_rfl
  z0 := fun w => by kernel_rfl
  v0 := fun w => by kernel_rfl
  t24 := Try.underlying33
  a24 := Try.isAgg33
  z24 := Try.sizeOf33
  v24 := Try.zeroValue33
  t26 := Try.underlying3
  a26 := Try.isAgg3
  z26 := Try.sizeOf3
  v26 := Try.zeroValue3
  t28 := by kernel_rfl
  a28 := fun w => by kernel_rfl
  z28 := fun w => by kernel_rfl
  v28 := fun w => by kernel_rfl
  i26 := by kernel_rfl }
theorem Try.sortsA (m : Nat) : AnyZI.SortsIn Try.prog Try.sortedA_ren Fence.wide m :=
  ⟨fun blk off cap ss W hH hblk hsz => callsIn_wide.2 (Try.slices_Sort_int blk off cap ss W hH hblk hsz),
   fun p cap W => callsIn_wide.2 (Try.slices_Sort_int_none p cap W)⟩
end Go.Proofs
namespace Go.Proofs.Ytidbjidcjmbnlaa
open Go Go.RowKit Go.Maps Go.Sort Go.Shelf
theorem keys_any (b : Nat) (W : World) : Calls Try.prog 50 #[.map (some b)] W fun e w' => e = .returned (.func (.func 69) #[] #[.pointer (some ⟨W.heap.size, 0, none⟩)]) ∧ w' = W.alloc (.cells #[.map (some b)] 85) :=
  (callsIn_wide (n := 5)).1 (AnyZI.keys_in Try.keysA Fence.wide 5 trivial rfl (some b) W)
theorem sorted_any (Bm b c : Nat) (l : List Nat) (W : World) (hBm : Bm < W.heap.size) (hc : W.cell? ⟨Bm, 0, none⟩ = some (.map (some b))) (hm : MapK W Try.prog 3 izL okI b (setF l) c) (hc6 : c ≤ 1000000) (hl : ∀ p ∈ l, p ≤ 1000000) :
    Calls Try.prog 49 #[.func (.func 69) #[] #[.pointer (some ⟨Bm, 0, none⟩)]] W fun e w' => ∃ (v : Value) (sl : List Nat), e = .returned v ∧ Below W.heap.size W w' ∧ w'.ownsRow W.heap.size 3 1 v sl.length (numsV sl) ∧ sl.Pairwise (· < ·) ∧ ∀ p, p ∈ sl ↔ p ∈ l := by
  obtain ⟨D, hown, hsz, hat⟩ := hm
  have hseq : SeqGives Fence.wide 2 Try.prog 69 #[.pointer (some ⟨Bm, 0, none⟩)] encZ (fun ss => ss.Perm (intKeys D)) (Maps.size D) W :=
    AnyZI.keys_gives (ρ := Try.keysA_ren) { Try.keysA with } Fence.wide _ trivial rfl (by omega) Bm b c D W hBm hc hown
  have cS := AnyZI.sorted_in Try.sortedA Fence.wide 5 trivial trivial trivial trivial rfl (by omega) (Try.sortsA _) (enters_of Try.func62 (by kernel_rfl) rfl) 69 #[.pointer (some ⟨Bm, 0, none⟩)] trivial (enters_of Try.func69 (by kernel_rfl) rfl) _ _ (by rw [hsz]; unfold maxLen; omega) (by rw [hsz]; omega) _ hseq
  have cS2 := (callsIn_wide (n := 5)).1 cS
  refine Calls.mono (show Calls Try.prog 49 _ _ _ from cS2) ?_
  rintro e w' ⟨v, ss, rfl, hS, hrow, hnil, hb⟩
  have hnz : ∀ x, x ∈ ss ↔ x ∈ iz l := by
    intro x
    rw [hS.mem_iff]
    obtain ⟨es, hD, -, -⟩ := hown.entries izKey.law
    obtain ⟨es', hD', hko⟩ := hown.keysOf
    obtain rfl : es = es' := by rw [hD] at hD'; simpa using hD'
    have hki : ∀ p ∈ es, ∃ y, p.1 = .int .i64 y ∧ (Lit.int .i64 y).wf = true := fun p hp => by
      obtain ⟨v, hv⟩ := hko p hp
      obtain ⟨y, -, hy, hw⟩ := Maps.keyOf_i64 Try.underlying3 hv
      exact ⟨y, hy, hw⟩
    have hhas : x ∈ intKeys D ↔ has D (.int .i64 x) = true := by
      rw [hD, has_eq, List.any_eq_true]
      show x ∈ es.map (fun p => Go.intOf p.1) ↔ _
      rw [List.mem_map]
      constructor
      · rintro ⟨p, hp, rfl⟩
        obtain ⟨y, hy, -⟩ := hki p hp
        exact ⟨p, hp, by rw [hy]; simp [Lit.sameKey, Go.intOf]⟩
      · rintro ⟨p, hp, hs⟩
        obtain ⟨y, hy, -⟩ := hki p hp
        rw [hy] at hs
        exact ⟨p, hp, by rw [hy]; simpa [Lit.sameKey, Go.intOf] using hs⟩
    constructor
    · intro hx
      have hw := intKeys_wf hown Try.underlying3 x hx
      have h1 := (hat x hw).1
      rw [show izL x = .int .i64 x from rfl, hhas.1 hx] at h1
      by_cases hm : x ∈ iz l
      · exact hm
      · unfold setF at h1
        rw [if_neg hm] at h1
        cases h1
    · intro hx
      obtain ⟨p, hp, rfl⟩ := List.mem_map.1 hx
      have h1 := (hat (p : Int) (wfN (hl p hp))).1
      unfold setF at h1
      rw [if_pos hx] at h1
      exact hhas.2 h1
  have hnd : ss.Nodup := by
    obtain ⟨es, hD, hpw, -⟩ := hown.entries izKey.law
    obtain ⟨es', hD', hko⟩ := hown.keysOf
    obtain rfl : es = es' := by rw [hD] at hD'; simpa using hD'
    refine hS.symm.nodup ?_
    rw [hD]
    show (es.map fun p => Go.intOf p.1).Nodup
    refine List.pairwise_map.2 (hpw.imp_of_mem fun {p q} hp' hq' hne e => hne ?_)
    obtain ⟨v, hv⟩ := hko p hp'
    obtain ⟨y, -, hy, -⟩ := Maps.keyOf_i64 Try.underlying3 hv
    obtain ⟨v2, hv2⟩ := hko q hq'
    obtain ⟨z, -, hz, -⟩ := Maps.keyOf_i64 Try.underlying3 hv2
    rw [hy, hz] at e ⊢
    exact congrArg _ e
  obtain ⟨sl, hsl⟩ : ∃ sl : List Nat, iz sl = ss.mergeSort fun x y => decide (x ≤ y) := by
    refine ⟨(ss.mergeSort fun x y => decide (x ≤ y)).map Int.toNat, ?_⟩
    unfold iz
    rw [List.map_map]
    refine (List.map_congr_left fun x hx => ?_).trans (List.map_id _)
    obtain ⟨p, -, rfl⟩ := List.mem_map.1 ((hnz x).1 (List.mem_mergeSort.1 hx))
    rfl
  have hlen : sl.length = ss.length := by
    have h := congrArg List.length hsl
    unfold iz at h
    rwa [List.length_map, List.length_mergeSort] at h
  have hnv : numsV sl = (ss.mergeSort fun x y => decide (x ≤ y)).map encZ := by
    rw [← hsl]
    unfold numsV iz
    rw [List.map_map]
    rfl
  refine ⟨v, sl, rfl, hb, by rw [hlen, hnv]; exact hrow, ?_, fun p => ?_⟩
  · have h1 := List.pairwise_mergeSort (le := fun x y : Int => decide (x ≤ y)) (fun a b c h1 h2 => by simp at *; omega) (fun a b => by simp; omega) ss
    have h2 : (ss.mergeSort fun x y => decide (x ≤ y)).Nodup := (List.mergeSort_perm ss _).symm.nodup hnd
    rw [← hsl] at h1 h2
    unfold iz at h1 h2
    rw [List.pairwise_map] at h1
    have h3 := List.pairwise_map.1 h2
    exact (h1.and h3).imp fun {a b} h => by
      have h4 : (a : Int) ≤ b := by simpa using h.1
      have h5 : (a : Int) ≠ b := h.2
      omega
  · rw [← iz_mem, hsl, List.mem_mergeSort, hnz, iz_mem]
end Go.Proofs.Ytidbjidcjmbnlaa
