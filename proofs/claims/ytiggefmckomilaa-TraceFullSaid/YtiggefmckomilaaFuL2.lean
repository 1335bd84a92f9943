/-
  The reference's book: the value of a standard at a time.
  How much a book holds: plain words.
  Names of two letters; the reference's new book.
  A loop's code, taken out of a function.
  The law TraceFull: its first loop.
  The law TraceFull: its second loop.
-/
import Derived.Test.YtiggefmckomilaaRefEnt
import Derived.Test.YtiggefmckomilaaRefDef
import Derived.BigQuiet
import Derived.Test.YtiggefmckomilaaWords
import Derived.Test.YtiggefmckomilaaOrdMath
import Derived.Test.YtiggefmckomilaaRegC
import Derived.Deep.Cut
set_option linter.unusedSimpArgs false
set_option linter.unusedVariables false
namespace Go.Proofs.Ytiggefmckomilaa
open Go Go.RowKit

set_option maxHeartbeats 4000000 in
set_option maxRecDepth 100000 in
theorem rValue_any (l : List Ent) (p c : Nat) (A : Option Addr) (n : ByteArray) (t : Int) (w : World) (hb : RefR l p A c w) :
    Calls Try.prog 33 #[ptrB p, .string n, .int .i64 t] w fun e w' => e = .returned (spanE (valueE l n t)) ∧ Below w.heap.size w w' := by
  have hsc := fun W (hW : Below w.heap.size w W) => rstandard_any l p c A n W (hb.later hW)
  have hE : valueE l n t = match stdT l n with | none => ((0, 0), 4) | some s => if (voidT l n || !inR t s.time s.stop) = true then ((0, 0), 22) else (valueT l s t, 0) := rfl
  generalize valueE l n t = R at *
  have HB := hide (Below.refl w.heap.size w)
  unfold ptrB spanE
  cases hs : stdT l n with
  | none =>
    rw [hs] at hE
    subst hE
    unfold standardV at hsc
    simp only [hs] at hsc
    unfold stdV std0 ptrB at hsc
    have Hsc := hide hsc
    clear hsc
    go_enter Try.func33, Try.ntmps33
    go_wp2_with fail
    refine at_world fun W hW => ?_
    have bq0 : Blk W w.heap.size 23 #[.int .i64 0, .int .i64 0] := by rw [hW]; exact Blk.new _ _ _
    have LW : Later w W := by rw [hW]; exact ((Below.refl _ _).alloc (Nat.le_refl _) _)
    have szW : W.heap.size = w.heap.size + 1 := by rw [hW]; simp
    clear hW
    replace HB := hide (onward HB.out LW)
    have Ho := hide bq0
    clear bq0 LW szW
    refine (Hsc.out _ HB.out).mono ?_
    rintro e w2 ⟨rfl, hb⟩
    replace HB := hide (onward HB.out hb)
    replace Ho := hide (blk_later Ho.out hb)
    clear hb
    obtain ⟨o0, o1⟩ := Ho.out.c2
    have lto := Ho.out.lt
    have fo0 := Ho.out.frozen 0
    have fo1 := Ho.out.frozen 1
    go_wp2
    refine ret_world fun W9 hW => ?_
    have hb2 : Blk W9 w.heap.size 23 #[.int .i64 0, .int .i64 0] := by
      rw [hW]
      exact (((Ho.out.set_ 0 (.int .i64 0)).set_ 1 (.int .i64 0)).alloc _)
    have hB2 : Below w.heap.size w W9 := by
      rw [hW]
      exact (((HB.out.setCell (Nat.le_refl _) _).setCell (Nat.le_refl _) _).alloc (by simp; exact HB.out.size) _)
    clear hW o0 o1 lto fo0 fo1
    obtain ⟨o0, o1⟩ := hb2.c2
    have lto := hb2.lt
    refine bodyPost_ret (v := .tuple #[.agg #[.int .i64 0, .int .i64 0], .int .i64 4]) (by simp [results, Try.results33, go_sem, o0, o1, lto]) rfl ⟨rfl, hB2⟩
  | some s =>
    rw [hs] at hE
    simp only at hE
    have hvo := fun W (hW : Below w.heap.size w W) => rvoid_any l p c A n W (hb.later hW) ⟨s, hs⟩
    have hin := fun W => rIn_any t s.time s.stop W
    have hva := fun (t0 : 0 ≤ t) (t1 : t ≤ 4294967296) W (hW : Below w.heap.size w W) => rvalue_any (n := n) t W (hb.later hW) hs t0 t1
    obtain ⟨ho, -, -⟩ := good_std hb.good hs
    have ht1 := ho.t0
    have ht2 := ho.t2
    unfold standardV at hsc
    simp only [hs] at hsc
    obtain ⟨sn, sp, slo, shi, stm, sst, sdr⟩ := s
    unfold stdV ptrB at *
    simp only at *
    have Hsc := hide hsc
    clear hsc hb hs ho
    cases hv : voidT l n with
    | true =>
      rw [hv, Bool.true_or, if_pos rfl] at hE
      subst hE
      rw [hv] at hvo
      have Hvo := hide hvo
      clear hvo hva hin hv
      go_enter Try.func33, Try.ntmps33
      go_wp2_with fail
      refine at_world fun W hW => ?_
      have bq0 : Blk W w.heap.size 23 #[.int .i64 0, .int .i64 0] := by rw [hW]; exact Blk.new _ _ _
      have LW : Later w W := by rw [hW]; exact ((Below.refl _ _).alloc (Nat.le_refl _) _)
      have szW : W.heap.size = w.heap.size + 1 := by rw [hW]; simp
      clear hW
      replace HB := hide (onward HB.out LW)
      have Ho := hide bq0
      clear bq0 LW szW
      refine (Hsc.out _ HB.out).mono ?_
      rintro e w2 ⟨rfl, hb⟩
      replace HB := hide (onward HB.out hb)
      replace Ho := hide (blk_later Ho.out hb)
      clear hb
      go_wp2_with fail
      refine at_world fun W3 hW => ?_
      have bq0 : Blk W3 w2.heap.size 67 #[.string sn, .string sp, .int .i64 slo, .int .i64 shi, .int .i64 stm, .int .i64 sst, .int .i64 sdr] := by rw [hW]; exact Blk.new _ _ _
      have LW : Later w2 W3 := by rw [hW]; exact ((Below.refl _ _).alloc (Nat.le_refl _) _)
      have szW : W3.heap.size = w2.heap.size + 1 := by rw [hW]; simp
      clear hW
      replace HB := hide (onward HB.out LW)
      replace Ho := hide (blk_later Ho.out LW)
      have Hq := hide bq0
      clear bq0 LW szW
      refine (Hvo.out _ HB.out).mono ?_
      rintro e w4 ⟨rfl, hb⟩
      replace HB := hide (onward HB.out hb)
      replace Ho := hide (blk_later Ho.out hb)
      replace Hq := hide (blk_later Hq.out hb)
      clear hb
      obtain ⟨o0, o1⟩ := Ho.out.c2
      have lto := Ho.out.lt
      have fo0 := Ho.out.frozen 0
      have fo1 := Ho.out.frozen 1
      go_wp2
      refine ret_world fun W9 hW => ?_
      have hb2 : Blk W9 w.heap.size 23 #[.int .i64 0, .int .i64 0] := by
        rw [hW]
        exact ((Ho.out.set_ 0 (.int .i64 0)).set_ 1 (.int .i64 0))
      have hB2 : Below w.heap.size w W9 := by
        rw [hW]
        exact ((HB.out.setCell (Nat.le_refl _) _).setCell (Nat.le_refl _) _)
      clear hW o0 o1 lto fo0 fo1
      obtain ⟨o0, o1⟩ := hb2.c2
      have lto := hb2.lt
      refine bodyPost_ret (v := .tuple #[.agg #[.int .i64 0, .int .i64 0], .int .i64 22]) (by simp [results, Try.results33, go_sem, o0, o1, lto]) rfl ⟨rfl, hB2⟩
    | false =>
      rw [hv, Bool.false_or] at hE
      rw [hv] at hvo
      have Hvo := hide hvo
      clear hvo hv
      cases hi : inR t stm sst with
      | false =>
        rw [hi, if_pos (show (!false) = true from rfl)] at hE
        subst hE
        rw [hi] at hin
        have Hin := hide hin
        clear hin hva hi
        go_enter Try.func33, Try.ntmps33
        go_wp2_with fail
        refine at_world fun W hW => ?_
        have bq0 : Blk W w.heap.size 23 #[.int .i64 0, .int .i64 0] := by rw [hW]; exact Blk.new _ _ _
        have LW : Later w W := by rw [hW]; exact ((Below.refl _ _).alloc (Nat.le_refl _) _)
        have szW : W.heap.size = w.heap.size + 1 := by rw [hW]; simp
        clear hW
        replace HB := hide (onward HB.out LW)
        have Ho := hide bq0
        clear bq0 LW szW
        refine (Hsc.out _ HB.out).mono ?_
        rintro e w2 ⟨rfl, hb⟩
        replace HB := hide (onward HB.out hb)
        replace Ho := hide (blk_later Ho.out hb)
        clear hb
        go_wp2_with fail
        refine at_world fun W3 hW => ?_
        have bq0 : Blk W3 w2.heap.size 67 #[.string sn, .string sp, .int .i64 slo, .int .i64 shi, .int .i64 stm, .int .i64 sst, .int .i64 sdr] := by rw [hW]; exact Blk.new _ _ _
        have LW : Later w2 W3 := by rw [hW]; exact ((Below.refl _ _).alloc (Nat.le_refl _) _)
        have szW : W3.heap.size = w2.heap.size + 1 := by rw [hW]; simp
        clear hW
        replace HB := hide (onward HB.out LW)
        replace Ho := hide (blk_later Ho.out LW)
        have Hq := hide bq0
        clear bq0 LW szW
        refine (Hvo.out _ HB.out).mono ?_
        rintro e w4 ⟨rfl, hb⟩
        replace HB := hide (onward HB.out hb)
        replace Ho := hide (blk_later Ho.out hb)
        replace Hq := hide (blk_later Hq.out hb)
        clear hb
        obtain ⟨q0, q1, q2, q3, q4, q5, q6⟩ := Hq.out.c7
        have ltq := Hq.out.lt
        go_wp2_with fail
        refine (Hin.out _).mono ?_
        rintro e w' ⟨rfl, rfl⟩
        clear q0 q1 q2 q3 q4 q5 q6 ltq
        obtain ⟨o0, o1⟩ := Ho.out.c2
        have lto := Ho.out.lt
        have fo0 := Ho.out.frozen 0
        have fo1 := Ho.out.frozen 1
        go_wp2
        refine ret_world fun W9 hW => ?_
        have hb2 : Blk W9 w.heap.size 23 #[.int .i64 0, .int .i64 0] := by
          rw [hW]
          exact ((Ho.out.set_ 0 (.int .i64 0)).set_ 1 (.int .i64 0))
        have hB2 : Below w.heap.size w W9 := by
          rw [hW]
          exact ((HB.out.setCell (Nat.le_refl _) _).setCell (Nat.le_refl _) _)
        clear hW o0 o1 lto fo0 fo1
        obtain ⟨o0, o1⟩ := hb2.c2
        have lto := hb2.lt
        refine bodyPost_ret (v := .tuple #[.agg #[.int .i64 0, .int .i64 0], .int .i64 22]) (by simp [results, Try.results33, go_sem, o0, o1, lto]) rfl ⟨rfl, hB2⟩
      | true =>
        rw [hi, if_neg (show ¬ (!true) = true by decide)] at hE
        rw [hi] at hin
        obtain ⟨k1, k2⟩ := inR_iff.1 hi
        have hva := hva (by omega) (by omega)
        generalize valueT l ⟨sn, sp, slo, shi, stm, sst, sdr⟩ t = v at *
        obtain ⟨v1, v2⟩ := v
        simp only at hva
        subst hE
        have Hin := hide hin
        have Hva := hide hva
        clear hin hva hi
        go_enter Try.func33, Try.ntmps33
        go_wp2_with fail
        refine at_world fun W hW => ?_
        have bq0 : Blk W w.heap.size 23 #[.int .i64 0, .int .i64 0] := by rw [hW]; exact Blk.new _ _ _
        have LW : Later w W := by rw [hW]; exact ((Below.refl _ _).alloc (Nat.le_refl _) _)
        have szW : W.heap.size = w.heap.size + 1 := by rw [hW]; simp
        clear hW
        replace HB := hide (onward HB.out LW)
        have Ho := hide bq0
        clear bq0 LW szW
        refine (Hsc.out _ HB.out).mono ?_
        rintro e w2 ⟨rfl, hb⟩
        replace HB := hide (onward HB.out hb)
        replace Ho := hide (blk_later Ho.out hb)
        clear hb
        go_wp2_with fail
        refine at_world fun W3 hW => ?_
        have bq0 : Blk W3 w2.heap.size 67 #[.string sn, .string sp, .int .i64 slo, .int .i64 shi, .int .i64 stm, .int .i64 sst, .int .i64 sdr] := by rw [hW]; exact Blk.new _ _ _
        have LW : Later w2 W3 := by rw [hW]; exact ((Below.refl _ _).alloc (Nat.le_refl _) _)
        have szW : W3.heap.size = w2.heap.size + 1 := by rw [hW]; simp
        clear hW
        replace HB := hide (onward HB.out LW)
        replace Ho := hide (blk_later Ho.out LW)
        have Hq := hide bq0
        clear bq0 LW szW
        refine (Hvo.out _ HB.out).mono ?_
        rintro e w4 ⟨rfl, hb⟩
        replace HB := hide (onward HB.out hb)
        replace Ho := hide (blk_later Ho.out hb)
        replace Hq := hide (blk_later Hq.out hb)
        clear hb
        obtain ⟨q0, q1, q2, q3, q4, q5, q6⟩ := Hq.out.c7
        have ltq := Hq.out.lt
        go_wp2_with fail
        refine (Hin.out _).mono ?_
        rintro e w' ⟨rfl, rfl⟩
        go_wp2_with fail
        clear q0 q1 q2 q3 q4 q5 q6 ltq
        refine (Hva.out _ HB.out).mono ?_
        rintro e w5 ⟨rfl, hb⟩
        replace HB := hide (onward HB.out hb)
        replace Ho := hide (blk_later Ho.out hb)
        replace Hq := hide (blk_later Hq.out hb)
        clear hb
        obtain ⟨o0, o1⟩ := Ho.out.c2
        have lto := Ho.out.lt
        have fo0 := Ho.out.frozen 0
        have fo1 := Ho.out.frozen 1
        go_wp2
        refine ret_world fun W9 hW => ?_
        have hb2 : Blk W9 w.heap.size 23 #[.int .i64 v1, .int .i64 v2] := by
          rw [hW]
          exact ((Ho.out.set_ 0 (.int .i64 v1)).set_ 1 (.int .i64 v2))
        have hB2 : Below w.heap.size w W9 := by
          rw [hW]
          exact ((HB.out.setCell (Nat.le_refl _) _).setCell (Nat.le_refl _) _)
        clear hW o0 o1 lto fo0 fo1
        obtain ⟨o0, o1⟩ := hb2.c2
        have lto := hb2.lt
        refine bodyPost_ret (v := .tuple #[.agg #[.int .i64 v1, .int .i64 v2], .int .i64 0]) (by simp [results, Try.results33, go_sem, o0, o1, lto]) rfl ⟨rfl, hB2⟩
end Go.Proofs.Ytiggefmckomilaa
namespace Go.Proofs.Ytiggefmckomilaa
open Go Go.RowKit

/-- A name of two letters. -/
def nm2 (i : Nat) : ByteArray := ⟨#[UInt8.ofNat (97 + i / 26), UInt8.ofNat (97 + i % 26)]⟩
def radB : Nat → List Ent
  | 0 => []
  | k + 1 => if k < 32 then .radar (nm2 k) k :: radB k else radB k
theorem radB_ok : ∀ k, k < 41 → radarE (radB k) (nm2 k) k = if k < 32 then 0 else 9 := by decide +kernel
theorem radB_good : ∀ k, k ≤ 41 → GoodB (radB k)
  | 0, _ => trivial
  | k + 1, h => by
    have ih := radB_good k (by omega)
    rw [radB]
    split
    · rename_i h32
      refine ⟨?_, ih⟩
      show (radarE (radB k) (nm2 k) k == 0) = true
      rw [radB_ok k (by omega), if_pos h32]
      rfl
    · exact ih
theorem radB_len : ∀ k, (radB k).length = min k 32
  | 0 => rfl
  | k + 1 => by
    rw [radB]
    have := radB_len k
    split
    · rw [List.length_cons]; omega
    · omega
/-- The standards, each made from the one ahead of it, or none. -/
def stdF (ch : Bool) (k : Nat) : Std := ⟨nm2 k, if ch = true ∧ 0 < k then nm2 (k - 1) else ⟨#[]⟩, 999, 1001, k, 1000000, k⟩
def stdB (ch : Bool) (base : List Ent) : Nat → List Ent
  | 0 => base
  | k + 1 => if k < 64 then .define (stdF ch k) :: stdB ch base k else stdB ch base k
/-- Books that differ in radars alone. -/
structure SameS (l l' : List Ent) : Prop where
  stds : stdsT l = stdsT l'
  std : ∀ n, stdT l n = stdT l' n
  made : ∀ n, madeT l n = madeT l' n
  wd : ∀ n, wdT l n = false
  wd' : ∀ n, wdT l' n = false
theorem SameS.define {l l' : List Ent} (h : SameS l l') (s : Std) : SameS (.define s :: l) (.define s :: l') :=
  ⟨by rw [stdsT, stdsT, h.stds], fun n => by rw [stdT, stdT, h.std], fun n => by rw [madeT, madeT, h.std, h.made, h.made], h.wd, h.wd'⟩
theorem rad_none : ∀ k, SameS (radB k) []
  | 0 => ⟨rfl, fun _ => rfl, fun _ => rfl, fun _ => rfl, fun _ => rfl⟩
  | k + 1 => by
    have ih := rad_none k
    rw [radB]
    split
    · exact ⟨ih.stds, ih.std, ih.made, ih.wd, ih.wd'⟩
    · exact ih
theorem SameS.ok {l l' : List Ent} (h : SameS l l') {s : Std} (hl : l.length < 2000) (hl' : l'.length < 2000) : defineE l s = defineE l' s := by
  unfold defineE
  rw [h.std, h.stds, if_neg (by omega : ¬ 2000 ≤ l.length), if_neg (by omega : ¬ 2000 ≤ l'.length), h.std, void_none h.wd, void_none h.wd']
  cases stdT l' s.par with
  | none => rfl
  | some p =>
    simp only
    unfold valueT
    rw [h.made]
theorem stdB_same (ch : Bool) (r : Nat) : ∀ k, SameS (stdB ch (radB r) k) (stdB ch [] k)
  | 0 => rad_none r
  | k + 1 => by
    have ih := stdB_same ch r k
    rw [stdB, stdB]
    split
    · exact ih.define _
    · exact ih
theorem stdB_len (ch : Bool) (base : List Ent) : ∀ k, (stdB ch base k).length = base.length + min k 64
  | 0 => by rw [stdB]; omega
  | k + 1 => by
    have := stdB_len ch base k
    rw [stdB]
    split
    · rw [List.length_cons]; omega
    · omega
theorem std_okT : ∀ k, k < 71 → defineE (stdB true [] k) (stdF true k) = if k < 64 then 0 else 9 := by decide +kernel
theorem std_okF : ∀ k, k < 71 → defineE (stdB false [] k) (stdF false k) = if k < 64 then 0 else 9 := by decide +kernel
theorem stdB_ok (ch : Bool) (r k : Nat) (hr : r ≤ 41) (hk : k < 71) : defineE (stdB ch (radB r) k) (stdF ch k) = if k < 64 then 0 else 9 := by
  have h1 := stdB_len ch (radB r) k
  have h2 := stdB_len ch [] k
  have h3 := radB_len r
  simp only [List.length_nil] at h2
  rw [(stdB_same ch r k).ok (by omega) (by omega)]
  cases ch with
  | true => exact std_okT k hk
  | false => exact std_okF k hk
/-- A standard is withdrawn and reinstated. -/
def turB (base : List Ent) : Nat → List Ent
  | 0 => base
  | i + 1 => if (turB base i).length < 2000 then .turn ⟨#[97, 97]⟩ (decide (i % 2 = 0)) :: turB base i else turB base i
theorem turB_len (base : List Ent) (hb : base.length ≤ 2000) : ∀ i, (turB base i).length = min (base.length + i) 2000
  | 0 => by rw [turB]; omega
  | i + 1 => by
    have := turB_len base hb i
    rw [turB]
    split
    · rw [List.length_cons]; omega
    · omega
theorem turB_std (base : List Ent) (n : ByteArray) : ∀ i, stdT (turB base i) n = stdT base n
  | 0 => rfl
  | i + 1 => by rw [turB]; split <;> exact turB_std base n i
theorem turB_wd (base : List Ent) (hb : base.length ≤ 2000) (hw : wdT base ⟨#[97, 97]⟩ = false) : ∀ i, base.length + i ≤ 2000 → wdT (turB base i) ⟨#[97, 97]⟩ = decide (i % 2 = 1)
  | 0, _ => hw
  | i + 1, h => by
    have hl := turB_len base hb i
    rw [turB, if_pos (by omega), wdT, if_pos rfl]
    by_cases h2 : i % 2 = 0
    · rw [decide_eq_true h2, decide_eq_true (by omega)]
    · rw [decide_eq_false h2, decide_eq_false (by omega)]
theorem turB_ok (base : List Ent) (hb : base.length ≤ 2000) (hw : wdT base ⟨#[97, 97]⟩ = false) (hs : ∃ s, stdT base ⟨#[97, 97]⟩ = some s) (i : Nat) : turnE (turB base i) ⟨#[97, 97]⟩ (decide (i % 2 = 0)) = if (turB base i).length < 2000 then 0 else 13 := by
  have hl := turB_len base hb i
  obtain ⟨s, hs⟩ := hs
  unfold turnE
  rw [turB_std, hs]
  by_cases h : (turB base i).length < 2000
  · rw [if_neg (by omega : ¬ 2000 ≤ (turB base i).length), if_neg (show ¬ (some s).isNone = true by simp), if_pos h, turB_wd base hb hw i (by omega)]
    rw [if_neg]
    by_cases h2 : i % 2 = 0
    · rw [decide_eq_true h2, decide_eq_false (by omega)]; decide
    · rw [decide_eq_false h2, decide_eq_true (by omega)]; decide
  · rw [if_pos (by omega), if_neg h]
theorem turB_good (base : List Ent) (hg : GoodB base) (hb : base.length ≤ 2000) (hw : wdT base ⟨#[97, 97]⟩ = false) (hs : ∃ s, stdT base ⟨#[97, 97]⟩ = some s) : ∀ i, GoodB (turB base i)
  | 0 => hg
  | i + 1 => by
    have ih := turB_good base hg hb hw hs i
    have ho := turB_ok base hb hw hs i
    rw [turB]
    split
    · rename_i h
      refine ⟨?_, ih⟩
      show (turnE (turB base i) ⟨#[97, 97]⟩ (decide (i % 2 = 0)) == 0) = true
      rw [ho, if_pos h]
      rfl
    · exact ih
theorem stdB_good (ch : Bool) (r : Nat) (hr : r ≤ 41) : ∀ k, k ≤ 71 → GoodB (stdB ch (radB r) k)
  | 0, _ => radB_good r hr
  | k + 1, h => by
    have ih := stdB_good ch r hr k (by omega)
    rw [stdB]
    split
    · rename_i h64
      refine ⟨?_, ih⟩
      show (defineE (stdB ch (radB r) k) (stdF ch k) == 0) = true
      rw [stdB_ok ch r k hr (by omega), if_pos h64]
      rfl
    · exact ih
theorem stdB_aa (ch : Bool) (r : Nat) (hr : r ≤ 41) : ∀ k, 0 < k → k ≤ 71 → ∃ s, stdT (stdB ch (radB r) k) ⟨#[97, 97]⟩ = some s
  | 1, _, _ => ⟨stdF ch 0, by
      show stdT (stdB ch (radB r) (0 + 1)) ⟨#[97, 97]⟩ = _
      rw [stdB, if_pos (by decide), stdT, if_pos]
      show nm2 0 = ⟨#[97, 97]⟩
      decide +kernel⟩
  | k + 2, _, h => by
    obtain ⟨s, hs⟩ := stdB_aa ch r hr (k + 1) (by omega) (by omega)
    have hg := stdB_good ch r hr (k + 1 + 1) h
    rw [show k + 2 = k + 1 + 1 from rfl, stdB] at *
    split
    · rename_i h64
      rw [if_pos h64] at hg
      exact ⟨s, by rw [stdT_cons (fresh_of hg hs)]; exact hs⟩
    · exact ⟨s, hs⟩
theorem stdB_wd (ch : Bool) (r : Nat) (k : Nat) (n : ByteArray) : wdT (stdB ch (radB r) k) n = false := (stdB_same ch r k).wd n
end Go.Proofs.Ytiggefmckomilaa
namespace Go.Proofs.Ytiggefmckomilaa
open Go Go.RowKit

theorem abc_cut : ∀ a, a < 3 → ∀ b, b < 26 → (⟨#[97, 98, 99, 100, 101, 102, 103, 104, 105, 106, 107, 108, 109, 110, 111, 112, 113, 114, 115, 116, 117, 118, 119, 120, 121, 122]⟩ : ByteArray).extract a (a + 1) ++ (⟨#[97, 98, 99, 100, 101, 102, 103, 104, 105, 106, 107, 108, 109, 110, 111, 112, 113, 114, 115, 116, 117, 118, 119, 120, 121, 122]⟩ : ByteArray).extract b (b + 1) = ⟨#[UInt8.ofNat (97 + a), UInt8.ofNat (97 + b)]⟩ := by decide +kernel
set_option maxHeartbeats 2000000 in
set_option maxRecDepth 100000 in
theorem name_any (i : Nat) (hi : i < 71) (w : World) : Calls Try.prog 30 #[.int .i64 (i : Int)] w fun e w' => e = .returned (.string (nm2 i)) ∧ Below w.heap.size w w' := by
  have h1 : (i : Int).tdiv 26 = ((i / 26 : Nat) : Int) := by rw [Int.tdiv_eq_ediv_of_nonneg (by omega)]; omega
  have h2 : (i : Int).tmod 26 = ((i % 26 : Nat) : Int) := by rw [Int.tmod_eq_emod_of_nonneg (by omega)]; omega
  obtain ⟨a, ha⟩ : ∃ a, i / 26 = a := ⟨_, rfl⟩
  obtain ⟨b, hb⟩ : ∃ b, i % 26 = b := ⟨_, rfl⟩
  have hab : a ≤ 2 ∧ b ≤ 25 := by omega
  have hn : nm2 i = ⟨#[UInt8.ofNat (97 + a), UInt8.ofNat (97 + b)]⟩ := by unfold nm2; rw [ha, hb]
  rw [ha] at h1
  rw [hb] at h2
  rw [hn]
  clear hn ha hb
  go_enter Try.func30, Try.ntmps30
  go_wp2_with fail
  go_quiet (fail)
  have hL : Below w.heap.size w (w.drewN nq) := below_drewN (Below.refl _ _) _
  generalize (w.drewN nq : World) = w2 at hL ⊢
  have hx := abc_cut a (by omega) b (by omega)
  go_wp2
  go_ret
  exact ⟨by rw [← hx]; rfl, hL⟩
theorem rNew_any (w : World) : Calls Try.prog 29 #[] w fun e w' => e = .returned (ptrB w.heap.size) ∧ w' = w.alloc (.cells #[.slice none 0 0] 117) := by
  unfold ptrB
  go_enter Try.func29, Try.ntmps29
  go_wp2
  go_ret
  exact ⟨rfl, rfl⟩
theorem rmem_new {w0 W : World} {ts : List Th} (h : Mem w0 ts W) : RMem w0 [] W.heap.size (.slice none 0 0) ts (W.alloc (.cells #[.slice none 0 0] 117)) := by
  refine ⟨trivial, ?_⟩
  have h1 := (h.nilRow w0.heap.size 121 15).alloc #[.slice none 0 0] 117
  exact h1
end Go.Proofs.Ytiggefmckomilaa
namespace Go.Proofs.Ytiggefmckomilaa
open Go Go.RowKit

/-- The loops of a code, in order. -/
def loopsOf : Code → List Code
  | .loop c => .loop c :: loopsOf c
  | .seq a b => loopsOf a ++ loopsOf b
  | .block _ c => loopsOf c
  | .scope c => loopsOf c
  | .cond _ a b => loopsOf a ++ loopsOf b
  | _ => []
end Go.Proofs.Ytiggefmckomilaa
namespace Go.Proofs.Ytiggefmckomilaa
open Go Go.RowKit

set_option maxRecDepth 1000000 in
noncomputable def ful1C : Code := ((loopsOf ((Try.f6.body).getD .skip))[0]?).getD .skip
set_option maxHeartbeats 8000000 in
set_option maxRecDepth 1000000 in
theorem ful1 {kc1 kc2 kc3 kc4 kc5 kc6 kc7 ku8 ku12 kc13 kc14 kc15 kc16 kc17 kc18 kc19 kc20 kc21 kc22 kc23 kc24 kc25 ku26 ku27 ku28 ku29 ku30 ku31 ku32 ku33 ku34 ku35 ku36 ku37 ku38 ku39 ku40 ku41 ku42 ku43 ku44 ku45 ku46 ku47 ku48 ku49 ku50 ku51 ku52 ku53 ku54 ku55 ku56 ku57 ku58 ku59 kc60 kc61 kc62 kc63 kc64 kc65 kc66 kc67 kc68 kc69 kc70 kc71 kc72 kc73 kc74 kc75 kc76 kc77 kc78 kc79 kc80 kc81 kc82 kc83 kc84 kc85 kc86 kc87 kc88 kc89 kc90 kc91 kc92 kc93 kc94 kc95 kc96 kc97 kc98 kc99 kc100 kc101 kc102 kc103 kc104 kc105 kc106 kc107 kc108 kc109 kc110 kc111 kc112 kc113 kc114 kc115 kc116 kc117 kc118 kc119 kc120 kc121 kc122 kc123 kc124 kc125 kc126 kc127 kc128 kc129 kc130 kc131 kc132 kc133 kc134 kc135 kc136 kc137 kc138 kc139 kc140 kc141 kc142 kc143 kc144 kc145 kc146 kc147 kc148 kc149 kc150 kc151 kc152 kc153 kc154 kc155 kc156 kc157 kc158 kc159 kc160 kc161 kc162 kc163 kc164 kc165 kc166 kc167 kc168 kc169 kc170 kc171 kc172 kc173 kc174 kc175 kc176 : Value} (ra : Int) (h0 : 0 ≤ ra) (h255 : ra ≤ 255) (m : Nat) (hm : ra.tmod 41 = (m : Int)) (hm41 : m ≤ 40) (p pr : Nat) (L : Lay) (v : Value) (w' : World) {Q : Exit → Act → World → Prop} {wr : World} (hR : RMem w' [] pr v [.book [] p L] wr)
    (hexit : ∀ ⦃kv8 kv12 kv26 kv27 kv28 kv29 kv30 kv31 kv32 kv33 kv34 kv35 kv36 kv37 kv38 kv39 kv40 kv41 kv42 kv43 kv44 kv45 kv46 kv47 kv48 kv49 kv50 kv51 kv52 kv53 kv54 kv55 kv56 kv57 kv58 kv59 : Value⦄ ⦃L : Lay⦄ ⦃v : Value⦄ ⦃w2 : World⦄, RMem w' (radB m) pr v [.book (radB m) p L] w2 → Q (.exit 0) ⟨List.toArray (.int .u8 ra :: kc1 :: kc2 :: kc3 :: kc4 :: kc5 :: kc6 :: kc7 :: kv8 :: .pointer (some ⟨p, 0, none⟩) :: .pointer (some ⟨pr, 0, none⟩) :: .int .i64 (m : Int) :: kv12 :: kc13 :: kc14 :: kc15 :: kc16 :: kc17 :: kc18 :: kc19 :: kc20 :: kc21 :: kc22 :: kc23 :: kc24 :: kc25 :: kv26 :: kv27 :: kv28 :: kv29 :: kv30 :: kv31 :: kv32 :: kv33 :: kv34 :: kv35 :: kv36 :: kv37 :: kv38 :: kv39 :: kv40 :: kv41 :: kv42 :: kv43 :: kv44 :: kv45 :: kv46 :: kv47 :: kv48 :: kv49 :: kv50 :: kv51 :: kv52 :: kv53 :: kv54 :: kv55 :: kv56 :: kv57 :: kv58 :: kv59 :: kc60 :: kc61 :: kc62 :: kc63 :: kc64 :: kc65 :: kc66 :: kc67 :: kc68 :: kc69 :: kc70 :: kc71 :: kc72 :: kc73 :: kc74 :: kc75 :: kc76 :: kc77 :: kc78 :: kc79 :: kc80 :: kc81 :: kc82 :: kc83 :: kc84 :: kc85 :: kc86 :: kc87 :: kc88 :: kc89 :: kc90 :: kc91 :: kc92 :: kc93 :: kc94 :: kc95 :: kc96 :: kc97 :: kc98 :: kc99 :: kc100 :: kc101 :: kc102 :: kc103 :: kc104 :: kc105 :: kc106 :: kc107 :: kc108 :: kc109 :: kc110 :: kc111 :: kc112 :: kc113 :: kc114 :: kc115 :: kc116 :: kc117 :: kc118 :: kc119 :: kc120 :: kc121 :: kc122 :: kc123 :: kc124 :: kc125 :: kc126 :: kc127 :: kc128 :: kc129 :: kc130 :: kc131 :: kc132 :: kc133 :: kc134 :: kc135 :: kc136 :: kc137 :: kc138 :: kc139 :: kc140 :: kc141 :: kc142 :: kc143 :: kc144 :: kc145 :: kc146 :: kc147 :: kc148 :: kc149 :: kc150 :: kc151 :: kc152 :: kc153 :: kc154 :: kc155 :: kc156 :: kc157 :: kc158 :: kc159 :: kc160 :: kc161 :: kc162 :: kc163 :: kc164 :: kc165 :: kc166 :: kc167 :: kc168 :: kc169 :: kc170 :: kc171 :: kc172 :: kc173 :: kc174 :: kc175 :: kc176 :: []), []⟩ w2) :
    Code.wp Try.prog ful1C Q ⟨List.toArray (.int .u8 ra :: kc1 :: kc2 :: kc3 :: kc4 :: kc5 :: kc6 :: kc7 :: ku8 :: .pointer (some ⟨p, 0, none⟩) :: .pointer (some ⟨pr, 0, none⟩) :: .int .i64 0 :: ku12 :: kc13 :: kc14 :: kc15 :: kc16 :: kc17 :: kc18 :: kc19 :: kc20 :: kc21 :: kc22 :: kc23 :: kc24 :: kc25 :: ku26 :: ku27 :: ku28 :: ku29 :: ku30 :: ku31 :: ku32 :: ku33 :: ku34 :: ku35 :: ku36 :: ku37 :: ku38 :: ku39 :: ku40 :: ku41 :: ku42 :: ku43 :: ku44 :: ku45 :: ku46 :: ku47 :: ku48 :: ku49 :: ku50 :: ku51 :: ku52 :: ku53 :: ku54 :: ku55 :: ku56 :: ku57 :: ku58 :: ku59 :: kc60 :: kc61 :: kc62 :: kc63 :: kc64 :: kc65 :: kc66 :: kc67 :: kc68 :: kc69 :: kc70 :: kc71 :: kc72 :: kc73 :: kc74 :: kc75 :: kc76 :: kc77 :: kc78 :: kc79 :: kc80 :: kc81 :: kc82 :: kc83 :: kc84 :: kc85 :: kc86 :: kc87 :: kc88 :: kc89 :: kc90 :: kc91 :: kc92 :: kc93 :: kc94 :: kc95 :: kc96 :: kc97 :: kc98 :: kc99 :: kc100 :: kc101 :: kc102 :: kc103 :: kc104 :: kc105 :: kc106 :: kc107 :: kc108 :: kc109 :: kc110 :: kc111 :: kc112 :: kc113 :: kc114 :: kc115 :: kc116 :: kc117 :: kc118 :: kc119 :: kc120 :: kc121 :: kc122 :: kc123 :: kc124 :: kc125 :: kc126 :: kc127 :: kc128 :: kc129 :: kc130 :: kc131 :: kc132 :: kc133 :: kc134 :: kc135 :: kc136 :: kc137 :: kc138 :: kc139 :: kc140 :: kc141 :: kc142 :: kc143 :: kc144 :: kc145 :: kc146 :: kc147 :: kc148 :: kc149 :: kc150 :: kc151 :: kc152 :: kc153 :: kc154 :: kc155 :: kc156 :: kc157 :: kc158 :: kc159 :: kc160 :: kc161 :: kc162 :: kc163 :: kc164 :: kc165 :: kc166 :: kc167 :: kc168 :: kc169 :: kc170 :: kc171 :: kc172 :: kc173 :: kc174 :: kc175 :: kc176 :: []), []⟩ wr := by
  have HX := hide hexit
  clear hexit
  unfold ful1C
  conv => arg 2; whnf
  have HM := hide hR
  clear hR
  go_loopw [11] (fun i wr => ∃ (k : Nat) (L : Lay) (v : Value), k ≤ m ∧ i = .int .i64 k ∧ RMem w' (radB k) pr v [.book (radB k) p L] wr) (fun i _ => m - (intOf i).toNat)
  case atStart => exact ⟨0, L, v, Nat.zero_le _, rfl, HM.out⟩
  case round =>
    obtain ⟨k, L1, v1, hk, rfl, hM⟩ := hrel
    clear HM
    have HM := hide hM
    clear hM
    by_cases hlt : k < m
    · have hlt2 : (k : Int) < m := by omega
      have hn := fun W => name_any k (by omega) W
      have hok := radB_ok k (by omega)
      have hS : radB (k + 1) = if k < 32 then .radar (nm2 k) k :: radB k else radB k := rfl
      have hsz : (nm2 k).size ≤ maxLen := by show 2 ≤ maxLen; decide
      generalize nm2 k = nk at *
      obtain ⟨B, hB⟩ : ∃ B, radB k = B := ⟨_, rfl⟩
      rw [hB] at hok hS HM
      clear hB
      have Hn := hide hn
      have HS := hide hS
      clear hn hS
      have hgd := HM.out.good
      have HGd := hide hgd
      clear hgd
      go_wp2_with fail
      refine (Hn.out _).mono ?_
      rintro e w1 ⟨rfl, hb⟩
      replace HM := hide (HM.out.later hb)
      clear hb
      go_wp2_with fail
      have c1 := Radar_any B p L1 nk k w1 (Mem.book_ HM.out.mem 2 rfl) hsz
      by_cases h32 : k < 32
      · have h32' : (k : Int) < 32 := by omega
        have h32x : ¬ (32 : Int) ≤ k := by omega
        rw [hok, if_pos h32] at c1
        unfold ptrB at c1
        refine c1.mono ?_
        clear c1
        rintro e w2 ⟨rfl, hp⟩
        obtain ⟨L2, HMn⟩ := Mem.enter HM.out.mem 2 rfl hp
        rw [if_pos rfl] at HMn
        have HM2 := hide (show RMem w' B pr v1 [.book (.radar nk k :: B) p L2] w2 from ⟨HGd.out, HMn⟩)
        clear HM HMn hp
        have HM := HM2
        clear HM2
        go_wp2_with fail
        refine (Hn.out _).mono ?_
        rintro e w3 ⟨rfl, hb⟩
        replace HM := hide (HM.out.later hb)
        clear hb
        have c2 := rRadar_any w' B pr v1 [.book (.radar nk k :: B) p L2] nk k w3 HM.out hsz
        rw [hok, if_pos h32] at c2
        unfold ptrB at c2
        go_wp2_with fail
        refine c2.mono ?_
        clear c2
        rintro e w4 ⟨rfl, v2, hM⟩
        first | rw [if_pos rfl] at hM | simp only [if_true, if_false] at hM
        clear HM
        have HM := hide hM
        clear hM
        go_wp2_with fail
        go_roundw
        case rel => exact ⟨k + 1, L2, v2, hlt, by go_num, by rw [HS.out, if_pos h32]; exact HM.out⟩
        case measure => simp [intOf] <;> omega
      · have h32' : ¬ (k : Int) < 32 := by omega
        have h32x : (32 : Int) ≤ k := by omega
        rw [hok, if_neg h32] at c1
        unfold ptrB at c1
        refine c1.mono ?_
        clear c1
        rintro e w2 ⟨rfl, hp⟩
        obtain ⟨L2, HMn⟩ := Mem.enter HM.out.mem 2 rfl hp
        rw [if_neg (show ¬ (9 : Int) = 0 by decide)] at HMn
        have HM2 := hide (show RMem w' B pr v1 [.book B p L2] w2 from ⟨HGd.out, HMn⟩)
        clear HM HMn hp
        have HM := HM2
        clear HM2
        go_wp2_with fail
        refine (Hn.out _).mono ?_
        rintro e w3 ⟨rfl, hb⟩
        replace HM := hide (HM.out.later hb)
        clear hb
        have c2 := rRadar_any w' B pr v1 [.book B p L2] nk k w3 HM.out hsz
        rw [hok, if_neg h32] at c2
        unfold ptrB at c2
        go_wp2_with fail
        refine c2.mono ?_
        clear c2
        rintro e w4 ⟨rfl, v2, hM⟩
        first | rw [if_neg (show ¬ (9 : Int) = 0 by decide)] at hM | simp only [if_true, if_false] at hM
        clear HM
        have HM := hide hM
        clear hM
        go_wp2_with fail
        go_roundw
        case rel => exact ⟨k + 1, L2, v2, hlt, by go_num, by rw [HS.out, if_neg h32]; exact HM.out⟩
        case measure => simp [intOf] <;> omega
    · obtain rfl : k = m := by omega
      go_wp2_with fail
      exact HX.out HM.out
end Go.Proofs.Ytiggefmckomilaa
namespace Go.Proofs.Ytiggefmckomilaa
open Go Go.RowKit

set_option maxRecDepth 1000000 in
noncomputable def ful2C : Code := ((loopsOf ((Try.f6.body).getD .skip))[1]?).getD .skip
set_option maxHeartbeats 8000000 in
set_option maxRecDepth 1000000 in
theorem ful2 {kc0 kc3 kc4 kc5 kc6 kc7 ku8 kc11 kc12 ku15 ku16 ku17 ku18 ku19 ku20 kc21 kc22 kc23 kc24 kc25 kc26 kc27 kc28 kc29 kc30 kc31 kc32 kc33 kc34 kc35 kc36 kc37 kc38 kc39 kc40 kc41 kc42 kc43 kc44 kc45 kc46 kc47 kc48 kc49 kc50 kc51 kc52 kc53 kc54 kc55 kc56 kc57 kc58 kc59 ku60 ku61 ku62 ku63 ku64 ku65 ku66 ku67 ku68 ku69 ku70 ku71 ku72 ku73 ku74 ku75 ku76 ku77 ku78 ku79 ku80 ku81 ku82 ku83 ku84 ku85 ku86 ku87 ku88 ku89 ku90 ku91 ku92 ku93 ku94 ku95 ku96 ku97 ku98 ku99 ku100 ku101 ku102 ku103 ku104 ku105 ku106 ku107 ku108 ku109 ku110 ku111 ku112 ku113 ku114 ku115 ku116 ku117 ku118 ku119 ku120 ku121 kc122 kc123 kc124 kc125 kc126 kc127 kc128 kc129 kc130 kc131 kc132 kc133 kc134 kc135 kc136 kc137 kc138 kc139 kc140 kc141 kc142 kc143 kc144 kc145 kc146 kc147 kc148 kc149 kc150 kc151 kc152 kc153 kc154 kc155 kc156 kc157 kc158 kc159 kc160 kc161 kc162 kc163 kc164 kc165 kc166 kc167 kc168 kc169 kc170 kc171 kc172 kc173 kc174 kc175 kc176 : Value} (sa : Int) (h0 : 0 ≤ sa) (h255 : sa ≤ 255) (m : Nat) (hm : sa.tmod 71 = (m : Int)) (hm71 : m ≤ 70) (ch : Bool) (r : Nat) (hr : r ≤ 41) (p pr : Nat) (L : Lay) (v : Value) (w' : World) {Q : Exit → Act → World → Prop} {wr : World} (hR : RMem w' (radB r) pr v [.book (radB r) p L] wr)
    (hexit : ∀ ⦃kv8 kv13 kv15 kv16 kv17 kv18 kv19 kv20 kv60 kv61 kv62 kv63 kv64 kv65 kv66 kv67 kv68 kv69 kv70 kv71 kv72 kv73 kv74 kv75 kv76 kv77 kv78 kv79 kv80 kv81 kv82 kv83 kv84 kv85 kv86 kv87 kv88 kv89 kv90 kv91 kv92 kv93 kv94 kv95 kv96 kv97 kv98 kv99 kv100 kv101 kv102 kv103 kv104 kv105 kv106 kv107 kv108 kv109 kv110 kv111 kv112 kv113 kv114 kv115 kv116 kv117 kv118 kv119 kv120 kv121 : Value⦄ ⦃L : Lay⦄ ⦃v : Value⦄ ⦃w2 : World⦄, RMem w' (stdB ch (radB r) m) pr v [.book (stdB ch (radB r) m) p L] w2 → Q (.exit 2) ⟨List.toArray (kc0 :: .int .u8 sa :: .bool ch :: kc3 :: kc4 :: kc5 :: kc6 :: kc7 :: kv8 :: .pointer (some ⟨p, 0, none⟩) :: .pointer (some ⟨pr, 0, none⟩) :: kc11 :: kc12 :: kv13 :: .int .i64 (m : Int) :: kv15 :: kv16 :: kv17 :: kv18 :: kv19 :: kv20 :: kc21 :: kc22 :: kc23 :: kc24 :: kc25 :: kc26 :: kc27 :: kc28 :: kc29 :: kc30 :: kc31 :: kc32 :: kc33 :: kc34 :: kc35 :: kc36 :: kc37 :: kc38 :: kc39 :: kc40 :: kc41 :: kc42 :: kc43 :: kc44 :: kc45 :: kc46 :: kc47 :: kc48 :: kc49 :: kc50 :: kc51 :: kc52 :: kc53 :: kc54 :: kc55 :: kc56 :: kc57 :: kc58 :: kc59 :: kv60 :: kv61 :: kv62 :: kv63 :: kv64 :: kv65 :: kv66 :: kv67 :: kv68 :: kv69 :: kv70 :: kv71 :: kv72 :: kv73 :: kv74 :: kv75 :: kv76 :: kv77 :: kv78 :: kv79 :: kv80 :: kv81 :: kv82 :: kv83 :: kv84 :: kv85 :: kv86 :: kv87 :: kv88 :: kv89 :: kv90 :: kv91 :: kv92 :: kv93 :: kv94 :: kv95 :: kv96 :: kv97 :: kv98 :: kv99 :: kv100 :: kv101 :: kv102 :: kv103 :: kv104 :: kv105 :: kv106 :: kv107 :: kv108 :: kv109 :: kv110 :: kv111 :: kv112 :: kv113 :: kv114 :: kv115 :: kv116 :: kv117 :: kv118 :: kv119 :: kv120 :: kv121 :: kc122 :: kc123 :: kc124 :: kc125 :: kc126 :: kc127 :: kc128 :: kc129 :: kc130 :: kc131 :: kc132 :: kc133 :: kc134 :: kc135 :: kc136 :: kc137 :: kc138 :: kc139 :: kc140 :: kc141 :: kc142 :: kc143 :: kc144 :: kc145 :: kc146 :: kc147 :: kc148 :: kc149 :: kc150 :: kc151 :: kc152 :: kc153 :: kc154 :: kc155 :: kc156 :: kc157 :: kc158 :: kc159 :: kc160 :: kc161 :: kc162 :: kc163 :: kc164 :: kc165 :: kc166 :: kc167 :: kc168 :: kc169 :: kc170 :: kc171 :: kc172 :: kc173 :: kc174 :: kc175 :: kc176 :: []), []⟩ w2) :
    Code.wp Try.prog ful2C Q ⟨List.toArray (kc0 :: .int .u8 sa :: .bool ch :: kc3 :: kc4 :: kc5 :: kc6 :: kc7 :: ku8 :: .pointer (some ⟨p, 0, none⟩) :: .pointer (some ⟨pr, 0, none⟩) :: kc11 :: kc12 :: .string ⟨#[]⟩ :: .int .i64 0 :: ku15 :: ku16 :: ku17 :: ku18 :: ku19 :: ku20 :: kc21 :: kc22 :: kc23 :: kc24 :: kc25 :: kc26 :: kc27 :: kc28 :: kc29 :: kc30 :: kc31 :: kc32 :: kc33 :: kc34 :: kc35 :: kc36 :: kc37 :: kc38 :: kc39 :: kc40 :: kc41 :: kc42 :: kc43 :: kc44 :: kc45 :: kc46 :: kc47 :: kc48 :: kc49 :: kc50 :: kc51 :: kc52 :: kc53 :: kc54 :: kc55 :: kc56 :: kc57 :: kc58 :: kc59 :: ku60 :: ku61 :: ku62 :: ku63 :: ku64 :: ku65 :: ku66 :: ku67 :: ku68 :: ku69 :: ku70 :: ku71 :: ku72 :: ku73 :: ku74 :: ku75 :: ku76 :: ku77 :: ku78 :: ku79 :: ku80 :: ku81 :: ku82 :: ku83 :: ku84 :: ku85 :: ku86 :: ku87 :: ku88 :: ku89 :: ku90 :: ku91 :: ku92 :: ku93 :: ku94 :: ku95 :: ku96 :: ku97 :: ku98 :: ku99 :: ku100 :: ku101 :: ku102 :: ku103 :: ku104 :: ku105 :: ku106 :: ku107 :: ku108 :: ku109 :: ku110 :: ku111 :: ku112 :: ku113 :: ku114 :: ku115 :: ku116 :: ku117 :: ku118 :: ku119 :: ku120 :: ku121 :: kc122 :: kc123 :: kc124 :: kc125 :: kc126 :: kc127 :: kc128 :: kc129 :: kc130 :: kc131 :: kc132 :: kc133 :: kc134 :: kc135 :: kc136 :: kc137 :: kc138 :: kc139 :: kc140 :: kc141 :: kc142 :: kc143 :: kc144 :: kc145 :: kc146 :: kc147 :: kc148 :: kc149 :: kc150 :: kc151 :: kc152 :: kc153 :: kc154 :: kc155 :: kc156 :: kc157 :: kc158 :: kc159 :: kc160 :: kc161 :: kc162 :: kc163 :: kc164 :: kc165 :: kc166 :: kc167 :: kc168 :: kc169 :: kc170 :: kc171 :: kc172 :: kc173 :: kc174 :: kc175 :: kc176 :: []), []⟩ wr := by
  have HX := hide hexit
  clear hexit
  unfold ful2C
  conv => arg 2; whnf
  have HM := hide hR
  clear hR
  go_loopw [13, 14] (fun b i wr => ∃ (k : Nat) (L : Lay) (v : Value), k ≤ m ∧ i = .int .i64 k ∧ b = .string (stdF ch k).par ∧ RMem w' (stdB ch (radB r) k) pr v [.book (stdB ch (radB r) k) p L] wr) (fun _ i _ => m - (intOf i).toNat)
  case atStart => exact ⟨0, L, v, Nat.zero_le _, rfl, by unfold stdF; simp, HM.out⟩
  case round =>
    obtain ⟨k, L1, v1, hk, rfl, rfl, hM⟩ := hrel
    clear HM
    have HM := hide hM
    clear hM
    by_cases hlt : k < m
    · have hlt2 : (k : Int) < m := by omega
      have hn := fun W => name_any k (by omega) W
      have hok := stdB_ok ch r k hr (by omega)
      have hS : stdB ch (radB r) (k + 1) = if k < 64 then .define (stdF ch k) :: stdB ch (radB r) k else stdB ch (radB r) k := rfl
      have hP : (stdF ch (k + 1)).par = if ch = true then nm2 k else (stdF ch k).par := by cases ch <;> simp [stdF]
      have hF : stdF ch k = ⟨nm2 k, (stdF ch k).par, 999, 1001, k, 1000000, k⟩ := rfl
      have hps : (stdF ch k).par.size ≤ maxLen := by
        unfold stdF
        simp only
        split
        · show 2 ≤ maxLen
          decide
        · show 0 ≤ maxLen
          decide
      have hsz : (nm2 k).size ≤ maxLen := by show 2 ≤ maxLen; decide
      obtain ⟨pk, hpk⟩ : ∃ pk, (stdF ch k).par = pk := ⟨_, rfl⟩
      rw [hpk] at hF hP hps ⊢
      rw [hF] at hok hS
      clear hF hpk
      generalize nm2 k = nk at *
      obtain ⟨B, hB⟩ : ∃ B, stdB ch (radB r) k = B := ⟨_, rfl⟩
      rw [hB] at hok hS HM
      clear hB
      have hgd := HM.out.good
      have HMm := hide HM.out.mem
      clear HM
      have HM := HMm
      clear HMm
      have Hn := hide hn
      have HS := hide hS
      have HP := hide hP
      have HGd := hide hgd
      clear hn hS hP hgd
      go_wp2_with fail
      refine (Hn.out _).mono ?_
      rintro e w1 ⟨rfl, hb⟩
      replace HM := hide (HM.out.later hb)
      clear hb
      go_wp2_with fail
      refine at_world fun w3 hW => ?_
      have HMn := Mem.to (Mem.allocAt HM.out w1.heap.size rfl #[.string nk, .string pk, .int .i64 999, .int .i64 1001, .int .i64 k, .int .i64 1000000, .int .i64 k] 43) hW
      have LW : Later w1 w3 := by rw [hW]; exact ((Below.refl _ _).alloc (Nat.le_refl _) _)
      have szW : w3.heap.size = w1.heap.size + 1 := by rw [hW]; simp
      clear hW
      replace HM := hide HMn
      clear HMn LW
      generalize hgs : w1.heap.size = gs at HM ⊢
      have bz : Blk w3 gs 43 #[.string nk, .string pk, .int .i64 999, .int .i64 1001, .int .i64 k, .int .i64 1000000, .int .i64 k] := HM.out.get 0 rfl
      have ltz := bz.lt
      have z0 := bz.c 0 rfl
      have z1 := bz.c 1 rfl
      have z2 := bz.c 2 rfl
      have z3 := bz.c 3 rfl
      have z4 := bz.c 4 rfl
      have z5 := bz.c 5 rfl
      have z6 := bz.c 6 rfl
      go_wp2_with fail
      have c1 := Define_any B p L1 ⟨nk, pk, 999, 1001, k, 1000000, k⟩ w3 (Mem.book_ HM.out 3 rfl) hsz hps
      by_cases h64 : k < 64
      · have h64' : (k : Int) < 64 := by omega
        have h64x : ¬ (64 : Int) ≤ k := by omega
        rw [hok, if_pos h64] at c1
        unfold ptrB stdC at c1
        refine c1.mono ?_
        clear c1
        rintro e w4 ⟨rfl, hp⟩
        obtain ⟨L2, HMn⟩ := HM.out.enter 3 rfl hp
        replace HM := hide HMn
        clear HMn hp
        clear bz ltz z0 z1 z2 z3 z4 z5 z6
        rw [if_pos rfl] at HM
        have HM2 := hide (show RMem w' B pr v1 [.blk gs 43 #[.string nk, .string pk, .int .i64 999, .int .i64 1001, .int .i64 k, .int .i64 1000000, .int .i64 k], .book (.define ⟨nk, pk, 999, 1001, k, 1000000, k⟩ :: B) p L2] w4 from ⟨HGd.out, HM.out.perm ((List.Perm.swap _ _ _).trans ((List.Perm.swap _ _ _).cons _))⟩)
        have bz : Blk w4 gs 43 #[.string nk, .string pk, .int .i64 999, .int .i64 1001, .int .i64 k, .int .i64 1000000, .int .i64 k] := HM.out.get 0 rfl
        have ltz := bz.lt
        have z0 := bz.c 0 rfl
        have z1 := bz.c 1 rfl
        have z2 := bz.c 2 rfl
        have z3 := bz.c 3 rfl
        have z4 := bz.c 4 rfl
        have z5 := bz.c 5 rfl
        have z6 := bz.c 6 rfl
        clear HM
        have HM := HM2
        clear HM2
        go_wp2_with fail
        have c2 := rDefine_any w' B pr v1 _ ⟨nk, pk, 999, 1001, k, 1000000, k⟩ w4 HM.out hsz
        rw [hok, if_pos h64] at c2
        unfold ptrB stdV at c2
        refine c2.mono ?_
        clear c2
        rintro e w5 ⟨rfl, v2, hM⟩
        first | rw [if_pos rfl] at hM | simp only [if_true, if_false] at hM
        clear HM z0 z1 z2 z3 z4 z5 z6
        have hgd2 := hM.good
        have HM := hide hM
        clear hM
        go_wp2_with fail
        obtain ⟨sA, sB, sE, hsE⟩ : ∃ sA sB sE, valueE (.define ⟨nk, pk, 999, 1001, k, 1000000, k⟩ :: B) nk 999999 = ((sA, sB), sE) := ⟨_, _, _, rfl⟩
        have hva := fun W (h : Below w5.heap.size w5 W) => Value_any (.define ⟨nk, pk, 999, 1001, k, 1000000, k⟩ :: B) p L2 nk 999999 W (Mem.book_ (HM.out.later h).mem 3 rfl) hsz
        rw [hsE] at hva
        unfold spanE ptrB at hva
        simp only at hva
        have HsE := hide hsE
        clear hsE
        refine (Hn.out _).mono ?_
        rintro e w6 ⟨rfl, hb⟩
        replace HM := hide (HM.out.later hb)
        clear hb
        go_wp2_with fail
        have c3 := Value_any (.define ⟨nk, pk, 999, 1001, k, 1000000, k⟩ :: B) p L2 nk 999999 w6 (Mem.book_ HM.out.mem 3 rfl) hsz
        rw [HsE.out] at c3
        unfold spanE ptrB at c3
        simp only at c3
        refine (c3).mono ?_
        rintro e w7 ⟨rfl, hb⟩
        replace HM := hide (HM.out.later hb)
        clear hb
        clear c3
        go_wp2_with fail
        have hgd3 := HM.out.good
        have HM3 := hide HM.out.mem
        clear HM
        have HM := HM3
        clear HM3
        refine at_world fun w8 hW => ?_
        have HMn := Mem.to (Mem.allocAt HM.out w7.heap.size rfl #[.int .i64 sA, .int .i64 sB] 23) hW
        have LW : Later w7 w8 := by rw [hW]; exact ((Below.refl _ _).alloc (Nat.le_refl _) _)
        have szW : w8.heap.size = w7.heap.size + 1 := by rw [hW]; simp
        clear hW
        replace HM := hide HMn
        clear HMn LW
        generalize hga : w7.heap.size = ga at HM ⊢
        have HM3 := hide (show RMem w' (.define ⟨nk, pk, 999, 1001, k, 1000000, k⟩ :: B) pr v2 [.blk ga 23 #[.int .i64 sA, .int .i64 sB], .blk gs 43 #[.string nk, .string pk, .int .i64 999, .int .i64 1001, .int .i64 k, .int .i64 1000000, .int .i64 k], .book (.define ⟨nk, pk, 999, 1001, k, 1000000, k⟩ :: B) p L2] w8 from ⟨hgd3, HM.out.perm ((List.Perm.swap _ _ _).trans ((List.Perm.swap _ _ _).cons _))⟩)
        clear HM hgd3
        have HM := HM3
        clear HM3
        obtain ⟨Av, cv, rfl⟩ := HM.out.shape
        go_wp2_with fail
        refine (Hn.out _).mono ?_
        rintro e w9 ⟨rfl, hb⟩
        replace HM := hide (HM.out.later hb)
        clear hb
        go_wp2_with fail
        have c4 := rValue_any (.define ⟨nk, pk, 999, 1001, k, 1000000, k⟩ :: B) pr cv Av nk 999999 w9 HM.out.ref
        rw [HsE.out] at c4
        unfold spanE ptrB at c4
        simp only at c4
        refine (c4).mono ?_
        rintro e w10 ⟨rfl, hb⟩
        replace HM := hide (HM.out.later hb)
        clear hb
        clear c4
        have hgd3 := HM.out.good
        have HM3 := hide HM.out.mem
        clear HM
        have HM := HM3
        clear HM3
        go_upto_region 18 with fail
        refine code_world fun w11 hW => ?_
        have HMn := Mem.to (Mem.allocAt HM.out w10.heap.size rfl #[.int .i64 sA, .int .i64 sB] 23) hW
        have LW : Later w10 w11 := by rw [hW]; exact ((Below.refl _ _).alloc (Nat.le_refl _) _)
        have szW : w11.heap.size = w10.heap.size + 1 := by rw [hW]; simp
        clear hW
        replace HM := hide HMn
        clear HMn LW
        generalize hgc : w10.heap.size = gc at HM ⊢
        have bz : Blk w11 gc 23 #[.int .i64 sA, .int .i64 sB] := HM.out.get 0 rfl
        have ltz := bz.lt
        have z0 := bz.c 0 rfl
        have z1 := bz.c 1 rfl
        have bq : Blk w11 ga 23 #[.int .i64 sA, .int .i64 sB] := HM.out.get 3 rfl
        have ltq := bq.lt
        have q0 := bq.c 0 rfl
        have q1 := bq.c 1 rfl
        cases ch with
        | false =>
          go_wp2_with fail
          go_roundw
          case rel => exact ⟨k + 1, L2, _, hlt, by go_num, by rw [HP.out]; rfl, by rw [HS.out, if_pos h64]; exact ⟨hgd3, (HM.out.tail.drop 2 rfl).drop 2 rfl⟩⟩
          case measure => simp [intOf] <;> omega
        | true =>
          go_wp2_with fail
          refine (Hn.out _).mono ?_
          rintro e w12 ⟨rfl, hb⟩
          replace HM := hide (HM.out.later hb)
          clear hb bz ltz z0 z1 bq ltq q0 q1
          go_wp2_with fail
          go_roundw
          case rel => exact ⟨k + 1, L2, _, hlt, by go_num, by rw [HP.out]; rfl, by rw [HS.out, if_pos h64]; exact ⟨hgd3, (HM.out.tail.drop 2 rfl).drop 2 rfl⟩⟩
          case measure => simp [intOf] <;> omega
      · have h64' : ¬ (k : Int) < 64 := by omega
        have h64x : (64 : Int) ≤ k := by omega
        rw [hok, if_neg h64] at c1
        unfold ptrB stdC at c1
        refine c1.mono ?_
        clear c1
        rintro e w4 ⟨rfl, hp⟩
        obtain ⟨L2, HMn⟩ := HM.out.enter 3 rfl hp
        replace HM := hide HMn
        clear HMn hp
        clear bz ltz z0 z1 z2 z3 z4 z5 z6
        rw [if_neg (show ¬ (9 : Int) = 0 by decide)] at HM
        have HM2 := hide (show RMem w' B pr v1 [.blk gs 43 #[.string nk, .string pk, .int .i64 999, .int .i64 1001, .int .i64 k, .int .i64 1000000, .int .i64 k], .book B p L2] w4 from ⟨HGd.out, HM.out.perm ((List.Perm.swap _ _ _).trans ((List.Perm.swap _ _ _).cons _))⟩)
        have bz : Blk w4 gs 43 #[.string nk, .string pk, .int .i64 999, .int .i64 1001, .int .i64 k, .int .i64 1000000, .int .i64 k] := HM.out.get 0 rfl
        have ltz := bz.lt
        have z0 := bz.c 0 rfl
        have z1 := bz.c 1 rfl
        have z2 := bz.c 2 rfl
        have z3 := bz.c 3 rfl
        have z4 := bz.c 4 rfl
        have z5 := bz.c 5 rfl
        have z6 := bz.c 6 rfl
        clear HM
        have HM := HM2
        clear HM2
        go_wp2_with fail
        have c2 := rDefine_any w' B pr v1 _ ⟨nk, pk, 999, 1001, k, 1000000, k⟩ w4 HM.out hsz
        rw [hok, if_neg h64] at c2
        unfold ptrB stdV at c2
        refine c2.mono ?_
        clear c2
        rintro e w5 ⟨rfl, v2, hM⟩
        first | rw [if_neg (show ¬ (9 : Int) = 0 by decide)] at hM | simp only [if_true, if_false] at hM
        clear HM z0 z1 z2 z3 z4 z5 z6
        have hgd2 := hM.good
        have HM := hide hM
        clear hM
        go_wp2_with fail
        obtain ⟨sA, sB, sE, hsE⟩ : ∃ sA sB sE, valueE B nk 999999 = ((sA, sB), sE) := ⟨_, _, _, rfl⟩
        have hva := fun W (h : Below w5.heap.size w5 W) => Value_any B p L2 nk 999999 W (Mem.book_ (HM.out.later h).mem 3 rfl) hsz
        rw [hsE] at hva
        unfold spanE ptrB at hva
        simp only at hva
        have HsE := hide hsE
        clear hsE
        refine (Hn.out _).mono ?_
        rintro e w6 ⟨rfl, hb⟩
        replace HM := hide (HM.out.later hb)
        clear hb
        go_wp2_with fail
        have c3 := Value_any B p L2 nk 999999 w6 (Mem.book_ HM.out.mem 3 rfl) hsz
        rw [HsE.out] at c3
        unfold spanE ptrB at c3
        simp only at c3
        refine (c3).mono ?_
        rintro e w7 ⟨rfl, hb⟩
        replace HM := hide (HM.out.later hb)
        clear hb
        clear c3
        go_wp2_with fail
        have hgd3 := HM.out.good
        have HM3 := hide HM.out.mem
        clear HM
        have HM := HM3
        clear HM3
        refine at_world fun w8 hW => ?_
        have HMn := Mem.to (Mem.allocAt HM.out w7.heap.size rfl #[.int .i64 sA, .int .i64 sB] 23) hW
        have LW : Later w7 w8 := by rw [hW]; exact ((Below.refl _ _).alloc (Nat.le_refl _) _)
        have szW : w8.heap.size = w7.heap.size + 1 := by rw [hW]; simp
        clear hW
        replace HM := hide HMn
        clear HMn LW
        generalize hga : w7.heap.size = ga at HM ⊢
        have HM3 := hide (show RMem w' B pr v2 [.blk ga 23 #[.int .i64 sA, .int .i64 sB], .blk gs 43 #[.string nk, .string pk, .int .i64 999, .int .i64 1001, .int .i64 k, .int .i64 1000000, .int .i64 k], .book B p L2] w8 from ⟨hgd3, HM.out.perm ((List.Perm.swap _ _ _).trans ((List.Perm.swap _ _ _).cons _))⟩)
        clear HM hgd3
        have HM := HM3
        clear HM3
        obtain ⟨Av, cv, rfl⟩ := HM.out.shape
        go_wp2_with fail
        refine (Hn.out _).mono ?_
        rintro e w9 ⟨rfl, hb⟩
        replace HM := hide (HM.out.later hb)
        clear hb
        go_wp2_with fail
        have c4 := rValue_any B pr cv Av nk 999999 w9 HM.out.ref
        rw [HsE.out] at c4
        unfold spanE ptrB at c4
        simp only at c4
        refine (c4).mono ?_
        rintro e w10 ⟨rfl, hb⟩
        replace HM := hide (HM.out.later hb)
        clear hb
        clear c4
        have hgd3 := HM.out.good
        have HM3 := hide HM.out.mem
        clear HM
        have HM := HM3
        clear HM3
        go_upto_region 18 with fail
        refine code_world fun w11 hW => ?_
        have HMn := Mem.to (Mem.allocAt HM.out w10.heap.size rfl #[.int .i64 sA, .int .i64 sB] 23) hW
        have LW : Later w10 w11 := by rw [hW]; exact ((Below.refl _ _).alloc (Nat.le_refl _) _)
        have szW : w11.heap.size = w10.heap.size + 1 := by rw [hW]; simp
        clear hW
        replace HM := hide HMn
        clear HMn LW
        generalize hgc : w10.heap.size = gc at HM ⊢
        have bz : Blk w11 gc 23 #[.int .i64 sA, .int .i64 sB] := HM.out.get 0 rfl
        have ltz := bz.lt
        have z0 := bz.c 0 rfl
        have z1 := bz.c 1 rfl
        have bq : Blk w11 ga 23 #[.int .i64 sA, .int .i64 sB] := HM.out.get 3 rfl
        have ltq := bq.lt
        have q0 := bq.c 0 rfl
        have q1 := bq.c 1 rfl
        cases ch with
        | false =>
          go_wp2_with fail
          go_roundw
          case rel => exact ⟨k + 1, L2, _, hlt, by go_num, by rw [HP.out]; rfl, by rw [HS.out, if_neg h64]; exact ⟨hgd3, (HM.out.tail.drop 2 rfl).drop 2 rfl⟩⟩
          case measure => simp [intOf] <;> omega
        | true =>
          go_wp2_with fail
          refine (Hn.out _).mono ?_
          rintro e w12 ⟨rfl, hb⟩
          replace HM := hide (HM.out.later hb)
          clear hb bz ltz z0 z1 bq ltq q0 q1
          go_wp2_with fail
          go_roundw
          case rel => exact ⟨k + 1, L2, _, hlt, by go_num, by rw [HP.out]; rfl, by rw [HS.out, if_neg h64]; exact ⟨hgd3, (HM.out.tail.drop 2 rfl).drop 2 rfl⟩⟩
          case measure => simp [intOf] <;> omega
    · obtain rfl : k = m := by omega
      go_wp2_with fail
      exact HX.out HM.out
end Go.Proofs.Ytiggefmckomilaa
