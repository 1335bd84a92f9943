/-
  The reference's book: a test.
  The reference's book: the gain by a test at a time.
  What the reference's book says of gains and of what depends on a standard: plain words.
-/
import Derived.Test.YtiggefmckomilaaRefDef
import Derived.Test.YtiggefmckomilaaRefStd
import Derived.Test.YtiggefmckomilaaRefTests
import Derived.Test.YtiggefmckomilaaRegD
set_option linter.unusedSimpArgs false
set_option linter.unusedVariables false
namespace Go.Proofs.Ytiggefmckomilaa
open Go Go.RowKit

def tstV (t : Tst) : Value := .agg #[.string t.radar, .string t.std, .int .i64 t.time, .int .i64 t.lo, .int .i64 t.hi]
theorem std_named : ∀ (l : List Ent) (n : ByteArray) (s : Std), stdT l n = some s → s.name = n := by
  intro l
  induction l with
  | nil => intro n s h; simp [stdT] at h
  | cons x l ih =>
    intro n s h
    cases x with
    | define q =>
      rw [stdT] at h
      split at h
      · rename_i e
        have e2 : q = s := by simpa using h
        rw [← e2]
        exact e
      · exact ih n s h
    | radar a b => exact ih n s h
    | test t => exact ih n s h
    | turn a b => exact ih n s h
def testN (l : List Ent) (e : Int) : Int := if e = 0 then ((testsT l).length : Int) else 0
set_option maxHeartbeats 8000000 in
set_option maxRecDepth 100000 in
theorem rTest_any (w0 : World) (l : List Ent) (p : Nat) (v : Value) (ts : List Th) (t : Tst) (w : World) (h : RMem w0 l p v ts w) :
    Calls Try.prog 47 #[ptrB p, tstV t] w fun e w' => e = .returned (.tuple #[.int .i64 (testN l (testE l t)), .int .i64 (testE l t)]) ∧ ∃ v', RMem w0 (if testE l t = 0 then .test t :: l else l) p v' ts w' := by
  obtain ⟨A, c, rfl⟩ := h.shape
  have hl := good_len h.good
  have hl2 : (l.length : Int) ≤ 2000 := by omega
  have hdr := fun W (hW : Below w.heap.size w W) => rdrift_any l p c A t.radar W (h.ref.later hW)
  have hst := fun W (hW : Below w.heap.size w W) => rstandard_any l p c A t.std W (h.ref.later hW)
  have hcn := fun W (hW : Below w.heap.size w W) => rcount_any l p c A 3 W (h.ref.later hW)
  have hi1 := fun W => rIn_any t.time 0 4294967296 W
  have hva := fun W => RefValid_any t.lo t.hi 1 1000000000 W
  have hvo := fun q (hq : stdT l t.std = some q) W (hW : Below w.heap.size w W) => rvoid_any l p c A t.std W (h.ref.later hW) ⟨q, hq⟩
  have hE : testE l t = if 2000 ≤ l.length then 13 else match driftT l t.radar, stdT l t.std with
    | some _, some s => if 512 ≤ (testsT l).length then 9 else if (inR t.time 0 4294967296 && inS t.lo t.hi 1 1000000000) = false then 3 else if (voidT l t.std || !inR t.time s.time s.stop) = true then 22 else 0
    | _, _ => 4 := rfl
  rw [cnt_test] at hcn
  have hnm := std_named l t.std
  have hrl : (testsT l).length ≤ l.length := by rw [← cnt_test]; exact cnt_le 3 l
  have hgood : testE l t = 0 → GoodB (.test t :: l) := fun e => ⟨by show (testE l t == 0) = true; rw [e]; rfl, h.good⟩
  have hrR : rowE (.test t) = [.int .i64 3, .string ⟨#[]⟩, .int .i64 0, .string ⟨#[]⟩, .string ⟨#[]⟩, .int .i64 0, .int .i64 0, .int .i64 0, .int .i64 0, .int .i64 0, .string t.radar, .string t.std, .int .i64 t.time, .int .i64 t.lo, .int .i64 t.hi] := rfl
  unfold testN
  obtain ⟨M, hM⟩ : ∃ M, (testsT l).length = M := ⟨_, rfl⟩
  rw [hM] at hcn hE hrl ⊢
  have hM2 : (M : Int) ≤ 2000 := by omega
  have hb := (Mem.blk_ h.mem 0 rfl)
  have x0 : w.cell? ⟨p, 0, none⟩ = some (.slice A l.length c) := hb.c 0 rfl
  have ltx := hb.lt
  have H := hide h
  clear h hb hM
  have HB := hide (Below.refl w.heap.size w)
  generalize hre : testE l t = re at *
  obtain ⟨tr, tn, tt, tl, th⟩ := t
  simp only at *
  unfold ptrB tstV at *
  simp only at *
  have Hdr := hide hdr
  have Hst := hide hst
  have Hcn := hide hcn
  have Hi1 := hide hi1
  have Hva := hide hva
  have Hvo := hide hvo
  have Hgood := hide hgood
  have HrR := hide hrR
  have Hnm := hide hnm
  clear hdr hst hcn hi1 hva hvo hgood hrR hnm
  by_cases h1 : 2000 ≤ l.length
  · rw [if_pos h1] at hE
    subst hE
    have h1' : (2000 : Int) ≤ l.length := by omega
    go_enter Try.func47, Try.ntmps47
    go_wp2
    have hsz := HB.out.size
    refine bodyPost_ret (v := .tuple #[.int .i64 0, .int .i64 13]) (by simp [results, Try.results47, go_sem]) rfl ⟨rfl, .slice A l.length c, ?_⟩
    try rw [if_neg (by decide)]
    refine H.out.later ?_
    repeat (first | exact HB.out | (refine Below.setCell ?_ (by first | omega | (simp; done) | (simp; omega)) _) | (refine Below.alloc ?_ (by first | omega | (simp; done) | (simp; omega)) _) | (refine below_drewN ?_ _))
  · rw [if_neg h1] at hE
    have h1' : ¬ (2000 : Int) ≤ l.length := by omega
    cases hd : driftT l tr with
    | none =>
      cases hs : stdT l tn with
      | none =>
        unfold std0 at *
        rw [hd, hs] at hE
        obtain rfl : re = 4 := hE
        unfold driftV at Hdr
        simp only [hd] at Hdr
        unfold standardV at Hst
        simp only [hs] at Hst
        unfold stdV at Hst
        go_enter Try.func47, Try.ntmps47
        go_wp2_with fail
        refine at_world fun W hW => ?_
        have bq0 : Blk W w.heap.size 87 #[.string tr, .string tn, .int .i64 tt, .int .i64 tl, .int .i64 th] := by rw [hW]; exact Blk.new _ _ _
        have LW : Later w W := by rw [hW]; exact ((Below.refl _ _).alloc (Nat.le_refl _) _)
        have szW : W.heap.size = w.heap.size + 1 := by rw [hW]; simp
        clear hW
        replace HB := hide (onward HB.out LW)
        have Ht := hide bq0
        clear bq0 LW szW
        refine (Hdr.out _ HB.out).mono ?_
        rintro e w1 ⟨rfl, hb⟩
        replace HB := hide (onward HB.out hb)
        replace Ht := hide (blk_later Ht.out hb)
        clear hb
        obtain ⟨t0, t1, t2, t3, t4⟩ := Ht.out.c5
        have ltt := Ht.out.lt
        go_wp2_with fail
        refine (Hst.out _ HB.out).mono ?_
        rintro e w2 ⟨rfl, hb⟩
        replace HB := hide (onward HB.out hb)
        replace Ht := hide (blk_later Ht.out hb)
        clear hb t0 t1 t2 t3 t4 ltt
        go_wp2
        have hsz := HB.out.size
        refine bodyPost_ret (v := .tuple #[.int .i64 0, .int .i64 4]) (by simp [results, Try.results47, go_sem]) rfl ⟨rfl, .slice A l.length c, ?_⟩
        try rw [if_neg (by decide)]
        refine H.out.later ?_
        repeat (first | exact HB.out | (refine Below.setCell ?_ (by first | omega | (simp; done) | (simp; omega)) _) | (refine Below.alloc ?_ (by first | omega | (simp; done) | (simp; omega)) _) | (refine below_drewN ?_ _))
      | some s =>
        rw [hd, hs] at hE
        obtain rfl : re = 4 := hE
        unfold driftV at Hdr
        simp only [hd] at Hdr
        unfold standardV at Hst
        simp only [hs] at Hst
        unfold stdV at Hst
        go_enter Try.func47, Try.ntmps47
        go_wp2_with fail
        refine at_world fun W hW => ?_
        have bq0 : Blk W w.heap.size 87 #[.string tr, .string tn, .int .i64 tt, .int .i64 tl, .int .i64 th] := by rw [hW]; exact Blk.new _ _ _
        have LW : Later w W := by rw [hW]; exact ((Below.refl _ _).alloc (Nat.le_refl _) _)
        have szW : W.heap.size = w.heap.size + 1 := by rw [hW]; simp
        clear hW
        replace HB := hide (onward HB.out LW)
        have Ht := hide bq0
        clear bq0 LW szW
        refine (Hdr.out _ HB.out).mono ?_
        rintro e w1 ⟨rfl, hb⟩
        replace HB := hide (onward HB.out hb)
        replace Ht := hide (blk_later Ht.out hb)
        clear hb
        obtain ⟨t0, t1, t2, t3, t4⟩ := Ht.out.c5
        have ltt := Ht.out.lt
        go_wp2_with fail
        refine (Hst.out _ HB.out).mono ?_
        rintro e w2 ⟨rfl, hb⟩
        replace HB := hide (onward HB.out hb)
        replace Ht := hide (blk_later Ht.out hb)
        clear hb t0 t1 t2 t3 t4 ltt
        go_wp2
        have hsz := HB.out.size
        refine bodyPost_ret (v := .tuple #[.int .i64 0, .int .i64 4]) (by simp [results, Try.results47, go_sem]) rfl ⟨rfl, .slice A l.length c, ?_⟩
        try rw [if_neg (by decide)]
        refine H.out.later ?_
        repeat (first | exact HB.out | (refine Below.setCell ?_ (by first | omega | (simp; done) | (simp; omega)) _) | (refine Below.alloc ?_ (by first | omega | (simp; done) | (simp; omega)) _) | (refine below_drewN ?_ _))
    | some d =>
      cases hs : stdT l tn with
      | none =>
        rw [hd, hs] at hE
        obtain rfl : re = 4 := hE
        unfold driftV at Hdr
        simp only [hd] at Hdr
        unfold standardV at Hst
        simp only [hs] at Hst
        unfold stdV at Hst
        go_enter Try.func47, Try.ntmps47
        go_wp2_with fail
        refine at_world fun W hW => ?_
        have bq0 : Blk W w.heap.size 87 #[.string tr, .string tn, .int .i64 tt, .int .i64 tl, .int .i64 th] := by rw [hW]; exact Blk.new _ _ _
        have LW : Later w W := by rw [hW]; exact ((Below.refl _ _).alloc (Nat.le_refl _) _)
        have szW : W.heap.size = w.heap.size + 1 := by rw [hW]; simp
        clear hW
        replace HB := hide (onward HB.out LW)
        have Ht := hide bq0
        clear bq0 LW szW
        refine (Hdr.out _ HB.out).mono ?_
        rintro e w1 ⟨rfl, hb⟩
        replace HB := hide (onward HB.out hb)
        replace Ht := hide (blk_later Ht.out hb)
        clear hb
        obtain ⟨t0, t1, t2, t3, t4⟩ := Ht.out.c5
        have ltt := Ht.out.lt
        go_wp2_with fail
        refine (Hst.out _ HB.out).mono ?_
        rintro e w2 ⟨rfl, hb⟩
        replace HB := hide (onward HB.out hb)
        replace Ht := hide (blk_later Ht.out hb)
        clear hb t0 t1 t2 t3 t4 ltt
        go_wp2
        have hsz := HB.out.size
        refine bodyPost_ret (v := .tuple #[.int .i64 0, .int .i64 4]) (by simp [results, Try.results47, go_sem]) rfl ⟨rfl, .slice A l.length c, ?_⟩
        try rw [if_neg (by decide)]
        refine H.out.later ?_
        repeat (first | exact HB.out | (refine Below.setCell ?_ (by first | omega | (simp; done) | (simp; omega)) _) | (refine Below.alloc ?_ (by first | omega | (simp; done) | (simp; omega)) _) | (refine below_drewN ?_ _))
      | some s =>
        have hN := Hnm.out s hs
        have hvs := Hvo.out s hs
        have hin := fun W => rIn_any tt s.time s.stop W
        obtain ⟨sn, sp, slo, shi, stm, sst, sdr⟩ := s
        simp only at hN hin
        have hN2 := hN.symm
        clear hN
        subst hN2
        rw [hd, hs] at hE
        simp only at hE
        unfold driftV at Hdr
        simp only [hd] at Hdr
        unfold standardV at Hst
        simp only [hs] at Hst
        unfold stdV at Hst
        simp only at Hst
        have Hvs := hide hvs
        have Hin := hide hin
        clear hvs hin hd hs
        by_cases h2 : 512 ≤ M
        · rw [if_pos h2] at hE
          subst hE
          have h2' : (512 : Int) ≤ M := by omega
          go_enter Try.func47, Try.ntmps47
          go_wp2_with fail
          refine at_world fun W hW => ?_
          have bq0 : Blk W w.heap.size 87 #[.string tr, .string tn, .int .i64 tt, .int .i64 tl, .int .i64 th] := by rw [hW]; exact Blk.new _ _ _
          have LW : Later w W := by rw [hW]; exact ((Below.refl _ _).alloc (Nat.le_refl _) _)
          have szW : W.heap.size = w.heap.size + 1 := by rw [hW]; simp
          clear hW
          replace HB := hide (onward HB.out LW)
          have Ht := hide bq0
          clear bq0 LW szW
          refine (Hdr.out _ HB.out).mono ?_
          rintro e w1 ⟨rfl, hb⟩
          replace HB := hide (onward HB.out hb)
          replace Ht := hide (blk_later Ht.out hb)
          clear hb
          obtain ⟨t0, t1, t2, t3, t4⟩ := Ht.out.c5
          have ltt := Ht.out.lt
          go_wp2_with fail
          refine (Hst.out _ HB.out).mono ?_
          rintro e w2 ⟨rfl, hb⟩
          replace HB := hide (onward HB.out hb)
          replace Ht := hide (blk_later Ht.out hb)
          clear hb t0 t1 t2 t3 t4 ltt
          go_wp2_with fail
          refine at_world fun W3 hW => ?_
          have bq0 : Blk W3 w2.heap.size 67 #[.string tn, .string sp, .int .i64 slo, .int .i64 shi, .int .i64 stm, .int .i64 sst, .int .i64 sdr] := by rw [hW]; exact Blk.new _ _ _
          have LW : Later w2 W3 := by rw [hW]; exact ((Below.refl _ _).alloc (Nat.le_refl _) _)
          have szW : W3.heap.size = w2.heap.size + 1 := by rw [hW]; simp
          clear hW
          replace HB := hide (onward HB.out LW)
          replace Ht := hide (blk_later Ht.out LW)
          have Hs := hide bq0
          clear bq0 LW szW
          refine (Hcn.out _ HB.out).mono ?_
          rintro e w4 ⟨rfl, hb⟩
          replace HB := hide (onward HB.out hb)
          replace Ht := hide (blk_later Ht.out hb)
          replace Hs := hide (blk_later Hs.out hb)
          clear hb
          go_wp2
          have hsz := HB.out.size
          refine bodyPost_ret (v := .tuple #[.int .i64 0, .int .i64 9]) (by simp [results, Try.results47, go_sem]) rfl ⟨rfl, .slice A l.length c, ?_⟩
          try rw [if_neg (by decide)]
          refine H.out.later ?_
          repeat (first | exact HB.out | (refine Below.setCell ?_ (by first | omega | (simp; done) | (simp; omega)) _) | (refine Below.alloc ?_ (by first | omega | (simp; done) | (simp; omega)) _) | (refine below_drewN ?_ _))
        · rw [if_neg h2] at hE
          have h2' : ¬ (512 : Int) ≤ M := by omega
          cases h3 : inR tt 0 4294967296 with
          | false =>
            rw [h3, Bool.false_and, if_pos rfl] at hE
            rw [h3] at Hi1
            subst hE
            go_enter Try.func47, Try.ntmps47
            go_wp2_with fail
            refine at_world fun W hW => ?_
            have bq0 : Blk W w.heap.size 87 #[.string tr, .string tn, .int .i64 tt, .int .i64 tl, .int .i64 th] := by rw [hW]; exact Blk.new _ _ _
            have LW : Later w W := by rw [hW]; exact ((Below.refl _ _).alloc (Nat.le_refl _) _)
            have szW : W.heap.size = w.heap.size + 1 := by rw [hW]; simp
            clear hW
            replace HB := hide (onward HB.out LW)
            have Ht := hide bq0
            clear bq0 LW szW
            refine (Hdr.out _ HB.out).mono ?_
            rintro e w1 ⟨rfl, hb⟩
            replace HB := hide (onward HB.out hb)
            replace Ht := hide (blk_later Ht.out hb)
            clear hb
            obtain ⟨t0, t1, t2, t3, t4⟩ := Ht.out.c5
            have ltt := Ht.out.lt
            go_wp2_with fail
            refine (Hst.out _ HB.out).mono ?_
            rintro e w2 ⟨rfl, hb⟩
            replace HB := hide (onward HB.out hb)
            replace Ht := hide (blk_later Ht.out hb)
            clear hb t0 t1 t2 t3 t4 ltt
            go_wp2_with fail
            refine at_world fun W3 hW => ?_
            have bq0 : Blk W3 w2.heap.size 67 #[.string tn, .string sp, .int .i64 slo, .int .i64 shi, .int .i64 stm, .int .i64 sst, .int .i64 sdr] := by rw [hW]; exact Blk.new _ _ _
            have LW : Later w2 W3 := by rw [hW]; exact ((Below.refl _ _).alloc (Nat.le_refl _) _)
            have szW : W3.heap.size = w2.heap.size + 1 := by rw [hW]; simp
            clear hW
            replace HB := hide (onward HB.out LW)
            replace Ht := hide (blk_later Ht.out LW)
            have Hs := hide bq0
            clear bq0 LW szW
            refine (Hcn.out _ HB.out).mono ?_
            rintro e w4 ⟨rfl, hb⟩
            replace HB := hide (onward HB.out hb)
            replace Ht := hide (blk_later Ht.out hb)
            replace Hs := hide (blk_later Hs.out hb)
            clear hb
            obtain ⟨t0, t1, t2, t3, t4⟩ := Ht.out.c5
            have ltt := Ht.out.lt
            go_wp2_with fail
            refine (Hi1.out _).mono ?_
            rintro e w' ⟨rfl, rfl⟩
            go_wp2
            have hsz := HB.out.size
            refine bodyPost_ret (v := .tuple #[.int .i64 0, .int .i64 3]) (by simp [results, Try.results47, go_sem]) rfl ⟨rfl, .slice A l.length c, ?_⟩
            try rw [if_neg (by decide)]
            refine H.out.later ?_
            repeat (first | exact HB.out | (refine Below.setCell ?_ (by first | omega | (simp; done) | (simp; omega)) _) | (refine Below.alloc ?_ (by first | omega | (simp; done) | (simp; omega)) _) | (refine below_drewN ?_ _))
          | true =>
            rw [h3, Bool.true_and] at hE
            rw [h3] at Hi1
            cases h4 : inS tl th 1 1000000000 with
            | false =>
              rw [h4, if_pos rfl] at hE
              rw [h4] at Hva
              subst hE
              go_enter Try.func47, Try.ntmps47
              go_wp2_with fail
              refine at_world fun W hW => ?_
              have bq0 : Blk W w.heap.size 87 #[.string tr, .string tn, .int .i64 tt, .int .i64 tl, .int .i64 th] := by rw [hW]; exact Blk.new _ _ _
              have LW : Later w W := by rw [hW]; exact ((Below.refl _ _).alloc (Nat.le_refl _) _)
              have szW : W.heap.size = w.heap.size + 1 := by rw [hW]; simp
              clear hW
              replace HB := hide (onward HB.out LW)
              have Ht := hide bq0
              clear bq0 LW szW
              refine (Hdr.out _ HB.out).mono ?_
              rintro e w1 ⟨rfl, hb⟩
              replace HB := hide (onward HB.out hb)
              replace Ht := hide (blk_later Ht.out hb)
              clear hb
              obtain ⟨t0, t1, t2, t3, t4⟩ := Ht.out.c5
              have ltt := Ht.out.lt
              go_wp2_with fail
              refine (Hst.out _ HB.out).mono ?_
              rintro e w2 ⟨rfl, hb⟩
              replace HB := hide (onward HB.out hb)
              replace Ht := hide (blk_later Ht.out hb)
              clear hb t0 t1 t2 t3 t4 ltt
              go_wp2_with fail
              refine at_world fun W3 hW => ?_
              have bq0 : Blk W3 w2.heap.size 67 #[.string tn, .string sp, .int .i64 slo, .int .i64 shi, .int .i64 stm, .int .i64 sst, .int .i64 sdr] := by rw [hW]; exact Blk.new _ _ _
              have LW : Later w2 W3 := by rw [hW]; exact ((Below.refl _ _).alloc (Nat.le_refl _) _)
              have szW : W3.heap.size = w2.heap.size + 1 := by rw [hW]; simp
              clear hW
              replace HB := hide (onward HB.out LW)
              replace Ht := hide (blk_later Ht.out LW)
              have Hs := hide bq0
              clear bq0 LW szW
              refine (Hcn.out _ HB.out).mono ?_
              rintro e w4 ⟨rfl, hb⟩
              replace HB := hide (onward HB.out hb)
              replace Ht := hide (blk_later Ht.out hb)
              replace Hs := hide (blk_later Hs.out hb)
              clear hb
              obtain ⟨t0, t1, t2, t3, t4⟩ := Ht.out.c5
              have ltt := Ht.out.lt
              go_wp2_with fail
              refine (Hi1.out _).mono ?_
              rintro e w' ⟨rfl, rfl⟩
              obtain ⟨t0, t1, t2, t3, t4⟩ := Ht.out.c5
              have ltt := Ht.out.lt
              go_wp2_with fail
              refine (Hva.out _).mono ?_
              rintro e w5 ⟨rfl, hb⟩
              replace HB := hide (onward HB.out hb)
              replace Ht := hide (blk_later Ht.out hb)
              replace Hs := hide (blk_later Hs.out hb)
              clear hb t0 t1 t2 t3 t4 ltt
              go_wp2
              have hsz := HB.out.size
              refine bodyPost_ret (v := .tuple #[.int .i64 0, .int .i64 3]) (by simp [results, Try.results47, go_sem]) rfl ⟨rfl, .slice A l.length c, ?_⟩
              try rw [if_neg (by decide)]
              refine H.out.later ?_
              repeat (first | exact HB.out | (refine Below.setCell ?_ (by first | omega | (simp; done) | (simp; omega)) _) | (refine Below.alloc ?_ (by first | omega | (simp; done) | (simp; omega)) _) | (refine below_drewN ?_ _))
            | true =>
              rw [h4, if_neg (by decide)] at hE
              rw [h4] at Hva
              cases h5 : voidT l tn with
              | true =>
                rw [h5, Bool.true_or, if_pos rfl] at hE
                rw [h5] at Hvs
                subst hE
                go_enter Try.func47, Try.ntmps47
                go_wp2_with fail
                refine at_world fun W hW => ?_
                have bq0 : Blk W w.heap.size 87 #[.string tr, .string tn, .int .i64 tt, .int .i64 tl, .int .i64 th] := by rw [hW]; exact Blk.new _ _ _
                have LW : Later w W := by rw [hW]; exact ((Below.refl _ _).alloc (Nat.le_refl _) _)
                have szW : W.heap.size = w.heap.size + 1 := by rw [hW]; simp
                clear hW
                replace HB := hide (onward HB.out LW)
                have Ht := hide bq0
                clear bq0 LW szW
                refine (Hdr.out _ HB.out).mono ?_
                rintro e w1 ⟨rfl, hb⟩
                replace HB := hide (onward HB.out hb)
                replace Ht := hide (blk_later Ht.out hb)
                clear hb
                obtain ⟨t0, t1, t2, t3, t4⟩ := Ht.out.c5
                have ltt := Ht.out.lt
                go_wp2_with fail
                refine (Hst.out _ HB.out).mono ?_
                rintro e w2 ⟨rfl, hb⟩
                replace HB := hide (onward HB.out hb)
                replace Ht := hide (blk_later Ht.out hb)
                clear hb t0 t1 t2 t3 t4 ltt
                go_wp2_with fail
                refine at_world fun W3 hW => ?_
                have bq0 : Blk W3 w2.heap.size 67 #[.string tn, .string sp, .int .i64 slo, .int .i64 shi, .int .i64 stm, .int .i64 sst, .int .i64 sdr] := by rw [hW]; exact Blk.new _ _ _
                have LW : Later w2 W3 := by rw [hW]; exact ((Below.refl _ _).alloc (Nat.le_refl _) _)
                have szW : W3.heap.size = w2.heap.size + 1 := by rw [hW]; simp
                clear hW
                replace HB := hide (onward HB.out LW)
                replace Ht := hide (blk_later Ht.out LW)
                have Hs := hide bq0
                clear bq0 LW szW
                refine (Hcn.out _ HB.out).mono ?_
                rintro e w4 ⟨rfl, hb⟩
                replace HB := hide (onward HB.out hb)
                replace Ht := hide (blk_later Ht.out hb)
                replace Hs := hide (blk_later Hs.out hb)
                clear hb
                obtain ⟨t0, t1, t2, t3, t4⟩ := Ht.out.c5
                have ltt := Ht.out.lt
                go_wp2_with fail
                refine (Hi1.out _).mono ?_
                rintro e w' ⟨rfl, rfl⟩
                obtain ⟨t0, t1, t2, t3, t4⟩ := Ht.out.c5
                have ltt := Ht.out.lt
                go_wp2_with fail
                refine (Hva.out _).mono ?_
                rintro e w5 ⟨rfl, hb⟩
                replace HB := hide (onward HB.out hb)
                replace Ht := hide (blk_later Ht.out hb)
                replace Hs := hide (blk_later Hs.out hb)
                clear hb t0 t1 t2 t3 t4 ltt
                obtain ⟨s0, s1, s2, s3, s4, s5, s6⟩ := Hs.out.c7
                have lts := Hs.out.lt
                go_wp2_with fail
                refine (Hvs.out _ HB.out).mono ?_
                rintro e w6 ⟨rfl, hb⟩
                replace HB := hide (onward HB.out hb)
                replace Ht := hide (blk_later Ht.out hb)
                replace Hs := hide (blk_later Hs.out hb)
                clear hb s0 s1 s2 s3 s4 s5 s6 lts
                go_wp2
                have hsz := HB.out.size
                refine bodyPost_ret (v := .tuple #[.int .i64 0, .int .i64 22]) (by simp [results, Try.results47, go_sem]) rfl ⟨rfl, .slice A l.length c, ?_⟩
                try rw [if_neg (by decide)]
                refine H.out.later ?_
                repeat (first | exact HB.out | (refine Below.setCell ?_ (by first | omega | (simp; done) | (simp; omega)) _) | (refine Below.alloc ?_ (by first | omega | (simp; done) | (simp; omega)) _) | (refine below_drewN ?_ _))
              | false =>
                rw [h5, Bool.false_or] at hE
                rw [h5] at Hvs
                cases h6 : inR tt stm sst with
                | false =>
                  rw [h6, if_pos (show (!false) = true from rfl)] at hE
                  rw [h6] at Hin
                  subst hE
                  go_enter Try.func47, Try.ntmps47
                  go_wp2_with fail
                  refine at_world fun W hW => ?_
                  have bq0 : Blk W w.heap.size 87 #[.string tr, .string tn, .int .i64 tt, .int .i64 tl, .int .i64 th] := by rw [hW]; exact Blk.new _ _ _
                  have LW : Later w W := by rw [hW]; exact ((Below.refl _ _).alloc (Nat.le_refl _) _)
                  have szW : W.heap.size = w.heap.size + 1 := by rw [hW]; simp
                  clear hW
                  replace HB := hide (onward HB.out LW)
                  have Ht := hide bq0
                  clear bq0 LW szW
                  refine (Hdr.out _ HB.out).mono ?_
                  rintro e w1 ⟨rfl, hb⟩
                  replace HB := hide (onward HB.out hb)
                  replace Ht := hide (blk_later Ht.out hb)
                  clear hb
                  obtain ⟨t0, t1, t2, t3, t4⟩ := Ht.out.c5
                  have ltt := Ht.out.lt
                  go_wp2_with fail
                  refine (Hst.out _ HB.out).mono ?_
                  rintro e w2 ⟨rfl, hb⟩
                  replace HB := hide (onward HB.out hb)
                  replace Ht := hide (blk_later Ht.out hb)
                  clear hb t0 t1 t2 t3 t4 ltt
                  go_wp2_with fail
                  refine at_world fun W3 hW => ?_
                  have bq0 : Blk W3 w2.heap.size 67 #[.string tn, .string sp, .int .i64 slo, .int .i64 shi, .int .i64 stm, .int .i64 sst, .int .i64 sdr] := by rw [hW]; exact Blk.new _ _ _
                  have LW : Later w2 W3 := by rw [hW]; exact ((Below.refl _ _).alloc (Nat.le_refl _) _)
                  have szW : W3.heap.size = w2.heap.size + 1 := by rw [hW]; simp
                  clear hW
                  replace HB := hide (onward HB.out LW)
                  replace Ht := hide (blk_later Ht.out LW)
                  have Hs := hide bq0
                  clear bq0 LW szW
                  refine (Hcn.out _ HB.out).mono ?_
                  rintro e w4 ⟨rfl, hb⟩
                  replace HB := hide (onward HB.out hb)
                  replace Ht := hide (blk_later Ht.out hb)
                  replace Hs := hide (blk_later Hs.out hb)
                  clear hb
                  obtain ⟨t0, t1, t2, t3, t4⟩ := Ht.out.c5
                  have ltt := Ht.out.lt
                  go_wp2_with fail
                  refine (Hi1.out _).mono ?_
                  rintro e w' ⟨rfl, rfl⟩
                  obtain ⟨t0, t1, t2, t3, t4⟩ := Ht.out.c5
                  have ltt := Ht.out.lt
                  go_wp2_with fail
                  refine (Hva.out _).mono ?_
                  rintro e w5 ⟨rfl, hb⟩
                  replace HB := hide (onward HB.out hb)
                  replace Ht := hide (blk_later Ht.out hb)
                  replace Hs := hide (blk_later Hs.out hb)
                  clear hb t0 t1 t2 t3 t4 ltt
                  obtain ⟨s0, s1, s2, s3, s4, s5, s6⟩ := Hs.out.c7
                  have lts := Hs.out.lt
                  go_wp2_with fail
                  refine (Hvs.out _ HB.out).mono ?_
                  rintro e w6 ⟨rfl, hb⟩
                  replace HB := hide (onward HB.out hb)
                  replace Ht := hide (blk_later Ht.out hb)
                  replace Hs := hide (blk_later Hs.out hb)
                  clear hb s0 s1 s2 s3 s4 s5 s6 lts
                  obtain ⟨t0, t1, t2, t3, t4⟩ := Ht.out.c5
                  have ltt := Ht.out.lt
                  obtain ⟨s0, s1, s2, s3, s4, s5, s6⟩ := Hs.out.c7
                  have lts := Hs.out.lt
                  go_wp2_with fail
                  refine (Hin.out _).mono ?_
                  rintro e w' ⟨rfl, rfl⟩
                  go_wp2
                  have hsz := HB.out.size
                  refine bodyPost_ret (v := .tuple #[.int .i64 0, .int .i64 22]) (by simp [results, Try.results47, go_sem]) rfl ⟨rfl, .slice A l.length c, ?_⟩
                  try rw [if_neg (by decide)]
                  refine H.out.later ?_
                  repeat (first | exact HB.out | (refine Below.setCell ?_ (by first | omega | (simp; done) | (simp; omega)) _) | (refine Below.alloc ?_ (by first | omega | (simp; done) | (simp; omega)) _) | (refine below_drewN ?_ _))
                | true =>
                  rw [h6, if_neg (show ¬ (!true) = true by decide)] at hE
                  rw [h6] at Hin
                  subst hE
                  go_enter Try.func47, Try.ntmps47
                  go_wp2_with fail
                  refine at_world fun W hW => ?_
                  have bq0 : Blk W w.heap.size 87 #[.string tr, .string tn, .int .i64 tt, .int .i64 tl, .int .i64 th] := by rw [hW]; exact Blk.new _ _ _
                  have LW : Later w W := by rw [hW]; exact ((Below.refl _ _).alloc (Nat.le_refl _) _)
                  have szW : W.heap.size = w.heap.size + 1 := by rw [hW]; simp
                  clear hW
                  replace HB := hide (onward HB.out LW)
                  have Ht := hide bq0
                  clear bq0 LW szW
                  refine (Hdr.out _ HB.out).mono ?_
                  rintro e w1 ⟨rfl, hb⟩
                  replace HB := hide (onward HB.out hb)
                  replace Ht := hide (blk_later Ht.out hb)
                  clear hb
                  obtain ⟨t0, t1, t2, t3, t4⟩ := Ht.out.c5
                  have ltt := Ht.out.lt
                  go_wp2_with fail
                  refine (Hst.out _ HB.out).mono ?_
                  rintro e w2 ⟨rfl, hb⟩
                  replace HB := hide (onward HB.out hb)
                  replace Ht := hide (blk_later Ht.out hb)
                  clear hb t0 t1 t2 t3 t4 ltt
                  go_wp2_with fail
                  refine at_world fun W3 hW => ?_
                  have bq0 : Blk W3 w2.heap.size 67 #[.string tn, .string sp, .int .i64 slo, .int .i64 shi, .int .i64 stm, .int .i64 sst, .int .i64 sdr] := by rw [hW]; exact Blk.new _ _ _
                  have LW : Later w2 W3 := by rw [hW]; exact ((Below.refl _ _).alloc (Nat.le_refl _) _)
                  have szW : W3.heap.size = w2.heap.size + 1 := by rw [hW]; simp
                  clear hW
                  replace HB := hide (onward HB.out LW)
                  replace Ht := hide (blk_later Ht.out LW)
                  have Hs := hide bq0
                  clear bq0 LW szW
                  refine (Hcn.out _ HB.out).mono ?_
                  rintro e w4 ⟨rfl, hb⟩
                  replace HB := hide (onward HB.out hb)
                  replace Ht := hide (blk_later Ht.out hb)
                  replace Hs := hide (blk_later Hs.out hb)
                  clear hb
                  obtain ⟨t0, t1, t2, t3, t4⟩ := Ht.out.c5
                  have ltt := Ht.out.lt
                  go_wp2_with fail
                  refine (Hi1.out _).mono ?_
                  rintro e w' ⟨rfl, rfl⟩
                  obtain ⟨t0, t1, t2, t3, t4⟩ := Ht.out.c5
                  have ltt := Ht.out.lt
                  go_wp2_with fail
                  refine (Hva.out _).mono ?_
                  rintro e w5 ⟨rfl, hb⟩
                  replace HB := hide (onward HB.out hb)
                  replace Ht := hide (blk_later Ht.out hb)
                  replace Hs := hide (blk_later Hs.out hb)
                  clear hb t0 t1 t2 t3 t4 ltt
                  obtain ⟨s0, s1, s2, s3, s4, s5, s6⟩ := Hs.out.c7
                  have lts := Hs.out.lt
                  go_wp2_with fail
                  refine (Hvs.out _ HB.out).mono ?_
                  rintro e w6 ⟨rfl, hb⟩
                  replace HB := hide (onward HB.out hb)
                  replace Ht := hide (blk_later Ht.out hb)
                  replace Hs := hide (blk_later Hs.out hb)
                  clear hb s0 s1 s2 s3 s4 s5 s6 lts
                  obtain ⟨t0, t1, t2, t3, t4⟩ := Ht.out.c5
                  have ltt := Ht.out.lt
                  obtain ⟨s0, s1, s2, s3, s4, s5, s6⟩ := Hs.out.c7
                  have lts := Hs.out.lt
                  go_wp2_with fail
                  refine (Hin.out _).mono ?_
                  rintro e w' ⟨rfl, rfl⟩
                  go_wp2_with fail
                  clear t0 t1 t2 t3 t4 ltt s0 s1 s2 s3 s4 s5 s6 lts
                  have hRM := H.out.later HB.out
                  have hrow := Mem.row_ hRM.mem 1 rfl
                  have Hbk := hide (Mem.blk_ hRM.mem 0 rfl)
                  have hnp : (Value.slice A l.length c).ownBlock ≠ some p := fun e => Mem.apart hRM.mem 0 1 rfl rfl (by decide) p (List.mem_singleton.2 rfl) (optL_iff.2 e)
                  have hns2 : (Value.slice A l.length c).ownBlock ≠ some w.heap.size := own_high_ne (Mem.row_ H.out.mem 1 rfl) (Nat.le_refl _)
                  have hgd := Hgood.out (by first | rfl | trivial)
                  have x4 : w6.cell? ⟨p, 0, none⟩ = some (.slice A l.length c) := Hbk.out.c 0 rfl
                  have ltx4 := Hbk.out.lt
                  have Htr := hide hrow
                  have HneT := hide hnp
                  have HRM := hide hRM
                  clear hrow hRM
                  obtain ⟨i0, hii, hz0, hz1, hz2⟩ := info_parts entryInfo
                  have Hi := hide hii
                  have Hz0 := hide hz0
                  have Hz1 := hide hz1
                  have Hz2 := hide hz2
                  clear hii hz0 hz1 hz2
                  obtain ⟨t0, t1, t2, t3, t4⟩ := Ht.out.c5
                  have ltt := Ht.out.lt
                  have hlm : l.length < 2000 := by omega
                  have hbz : w0.heap.size ≤ w6.heap.size := HRM.out.mem.size
                  apply wp_region_F (w0 := w6) [[], [], [1], [1, 2], [1, 2, 3], [], [5], [5, 6], [1, 2, 3, 4, 5, 6, 7], [0, 1, 2, 3, 4, 5, 6, 7, 8], [0, 1, 2, 3, 4, 5, 6, 7, 8, 9], [0, 1, 2, 3, 4, 5, 6, 7, 8, 9, 10]] [true, true, true, true, true, true, true, false, false, true, true, false] [false, false, false, false, false, false, false, false, false, false, false, false] [⟨7, none, [], []⟩, ⟨8, none, [7], []⟩, ⟨11, none, [], [8]⟩] (fillQ 8 (.slice A l.length c) 11 p) [11] (fun ixq y => match ixq with | 7 => .slice (y 0).1 1 1 | 8 => .slice (y 0).1 (l.length + 1) (y 0).2 | 11 => undef | _ => undef) (fun ixq x F wq => match ixq with | 7 => OwnF wq F w6.heap.size 121 15 (.slice (x 7 0).1 1 1) 1 #[.int .i64 3, .string ⟨#[]⟩, .int .i64 0, .string ⟨#[]⟩, .string ⟨#[]⟩, .int .i64 0, .int .i64 0, .int .i64 0, .int .i64 0, .int .i64 0, .string tr, .string tn, .int .i64 tt, .int .i64 tl, .int .i64 th].toList | 8 => OwnF wq F w0.heap.size 121 15 (.slice (x 8 0).1 (l.length + 1) (x 8 0).2) (l.length + 1) ((refRow l) ++ (#[.int .i64 3, .string ⟨#[]⟩, .int .i64 0, .string ⟨#[]⟩, .string ⟨#[]⟩, .int .i64 0, .int .i64 0, .int .i64 0, .int .i64 0, .int .i64 0, .string tr, .string tn, .int .i64 tt, .int .i64 tl, .int .i64 th] : Array Value).toList) ∧ FreshOr w6.heap.size (.slice A l.length c) (.slice (x 8 0).1 (l.length + 1) (x 8 0).2) | 11 => F p ∧ Blk wq p 117 #[.slice (x 8 0).1 (l.length + 1) (x 8 0).2] | _ => True) (fun a x => (((a).put (some 72) (.slice ((x 7) 0).1 1 1)).put (some 73) (.slice ((x 8) 0).1 (l.length + 1) ((x 8) 0).2)).put (none) (undef)) (by kernel_rfl) (by kernel_rfl) (by kernel_rfl) (fun _ => rfl) [67, 74] (by kernel_rfl) (fillQ_lt (fun g hg => (Htr.out.lt g hg).2) (by omega)) (fillQ_ne HneT.out)
                  · intro x D hD
                    have hne := hD.some
                    have k4 := liftS hD x4 (earlyQ (by first | assumption | omega) HneT.out)
                    have n0 := liftS hD t0 (earlyQ (by first | assumption | omega) hns2)
                    have n1 := liftS hD t1 (earlyQ (by first | assumption | omega) hns2)
                    have n2 := liftS hD t2 (earlyQ (by first | assumption | omega) hns2)
                    have n3 := liftS hD t3 (earlyQ (by first | assumption | omega) hns2)
                    have n4 := liftS hD t4 (earlyQ (by first | assumption | omega) hns2)
                    simp only [takeOps, Act.put, List.setIfInBounds_toArray, List.set_cons_succ, List.set_cons_zero]
                    repeat (go_big_quiet_step (fail))
                    exact wpQuiet_nil rfl
                  · exact fun x D hD => wpQuiet_nil rfl
                  · intro d hd x x'
                    simp only [List.mem_cons, List.not_mem_nil, or_false] at hd
                    rcases hd with rfl | rfl
                    all_goals rfl
                  · refine ⟨?_, ?_, ?_, trivial⟩
                    · exact obl_new rfl (fun _ => by kernel_rfl) 121 (fun x => #[.int .i64 3, .string ⟨#[]⟩, .int .i64 0, .string ⟨#[]⟩, .string ⟨#[]⟩, .int .i64 0, .int .i64 0, .int .i64 0, .int .i64 0, .int .i64 0, .string tr, .string tn, .int .i64 tt, .int .i64 tl, .int .i64 th]) gP (fun x w => by kernel_rfl) (fun x w hle => own_new hle rfl (by unfold maxLen; omega))
                    · refine obl_pushQ 115 69 72 (by kernel_rfl) w0.heap.size 121 i0 _ 15 160 Try.underlying115 Hi.out Hz0.out Hz1.out Hz2.out rfl (by decide) (.slice A l.length c) l.length 1 ((refRow l)) (#[.int .i64 3, .string ⟨#[]⟩, .int .i64 0, .string ⟨#[]⟩, .string ⟨#[]⟩, .int .i64 0, .int .i64 0, .int .i64 0, .int .i64 0, .int .i64 0, .string tr, .string tn, .int .i64 tt, .int .i64 tl, .int .i64 th] : Array Value).toList (by first | rfl | (simp; done) | (simp; omega)) (by simp [Value.oneCell']) (by unfold maxLen; omega) (by omega) (by first | assumption | omega) (fun x w F hk hn => ?_) (fun _ => rfl) (fun _ _ _ _ h1 h2 => ⟨h1, h2⟩)
                      have hj : OwnF w (F 7) w6.heap.size 121 15 (.slice (x 7 0).1 1 1) 1 (#[.int .i64 3, .string ⟨#[]⟩, .int .i64 0, .string ⟨#[]⟩, .string ⟨#[]⟩, .int .i64 0, .int .i64 0, .int .i64 0, .int .i64 0, .int .i64 0, .string tr, .string tn, .int .i64 tt, .int .i64 tl, .int .i64 th] : Array Value).toList := hn 7 (by simp)
                      obtain ⟨ad, hA, hc⟩ := news_own hj (by decide)
                      exact ⟨ad, 1, rfl, row_thenQ Htr.out HneT.out hk, wrQ_row, (show Value.slice (x 7 0).1 1 1 = _ by rw [hA]), hc⟩
                    · exact obl_setv 115 117 75 73 p 0 _ (fun x => .slice (x 8 0).1 (l.length + 1) (x 8 0).2) (fun x => #[.slice (x 8 0).1 (l.length + 1) (x 8 0).2]) (by kernel_rfl) (fun _ => rfl) (fun _ => rfl) (fun _ => rfl) Hbk.out (ebQ_set HneT.out) wrQ_set (by kernel_rfl) (by first | assumption | (simp; done)) (fun _ => rfl) (fun _ => rfl) (fun _ _ _ _ h1 h2 => ⟨h1, h2⟩)
                  · refine ⟨?_, ?_, ?_, trivial⟩
                    · refine ⟨fun x F wq wq' h hs hk => ?_, fun x x' F wq hx h => ?_⟩
                      · have h2 : OwnF wq F w6.heap.size 121 15 (.slice (x 7 0).1 1 1) 1 #[.int .i64 3, .string ⟨#[]⟩, .int .i64 0, .string ⟨#[]⟩, .string ⟨#[]⟩, .int .i64 0, .int .i64 0, .int .i64 0, .int .i64 0, .int .i64 0, .string tr, .string tn, .int .i64 tt, .int .i64 tl, .int .i64 th].toList := h
                        exact h2.stab hk
                      · have h2 : OwnF wq F w6.heap.size 121 15 (.slice (x 7 0).1 1 1) 1 #[.int .i64 3, .string ⟨#[]⟩, .int .i64 0, .string ⟨#[]⟩, .string ⟨#[]⟩, .int .i64 0, .int .i64 0, .int .i64 0, .int .i64 0, .int .i64 0, .string tr, .string tn, .int .i64 tt, .int .i64 tl, .int .i64 th].toList := h
                        rw [hx 7 (by simp)] at h2
                        exact h2
                    · exact owe_pushQ 8 _ w0.heap.size (.slice A l.length c) 121 15 (l.length + 1) ((refRow l) ++ (#[.int .i64 3, .string ⟨#[]⟩, .int .i64 0, .string ⟨#[]⟩, .string ⟨#[]⟩, .int .i64 0, .int .i64 0, .int .i64 0, .int .i64 0, .int .i64 0, .string tr, .string tn, .int .i64 tt, .int .i64 tl, .int .i64 th] : Array Value).toList) rfl (fun _ _ _ => rfl)
                    · exact owe_fill p 117 (fun x => #[.slice (x 8 0).1 (l.length + 1) (x 8 0).2]) (fun _ _ _ => rfl) (fun x x' hx => by simp only [hx 8 (by simp)])
                  intro xx w20 F hK hlv1
                  obtain ⟨-, fct8, fct11, -⟩ := hlv1
                  replace fct8 : OwnF w20 (F 8) w0.heap.size 121 15 (.slice (xx 8 0).1 (l.length + 1) (xx 8 0).2) (l.length + 1) ((refRow l) ++ (#[.int .i64 3, .string ⟨#[]⟩, .int .i64 0, .string ⟨#[]⟩, .string ⟨#[]⟩, .int .i64 0, .int .i64 0, .int .i64 0, .int .i64 0, .int .i64 0, .string tr, .string tn, .int .i64 tt, .int .i64 tl, .int .i64 th] : Array Value).toList) ∧ FreshOr w6.heap.size (.slice A l.length c) (.slice (xx 8 0).1 (l.length + 1) (xx 8 0).2) := fct8 rfl
                  replace fct11 : (F 11) p ∧ Blk w20 p 117 #[.slice (xx 8 0).1 (l.length + 1) (xx 8 0).2] := fct11 rfl
                  obtain ⟨⟨hot, -⟩, hfr⟩ := fct8
                  have hbk := fct11.2
                  generalize (xx 8 0).1 = A7 at *
                  generalize (xx 8 0).2 = c7 at *
                  have hM2 := HRM.out.mem.two hbk hot ⟨hK.os, hK.tape, hK.output, hK.size, fun k hk => hK.block k ⟨hk.1, freeQ hk.2.2 (Ne.symm hk.2.1)⟩⟩ hfr
                  have hX : RMem w0 (.test ⟨tr, tn, tt, tl, th⟩ :: l) p (.slice A7 (l.length + 1) c7) ts w20 := ⟨hgd, by rw [refRow_cons, HrR.out, List.length_cons]; exact hM2⟩
                  have HXX := hide hX
                  clear hX hM2 hbk hot hK hfr
                  go_wp2
                  refine bodyPost_ret (v := .tuple #[.int .i64 M, .int .i64 0]) (by simp [results, Try.results47, go_sem]) rfl ⟨rfl, .slice A7 (l.length + 1) c7, ?_⟩
                  first | exact HXX.out | (rw [if_pos rfl]; exact HXX.out)
end Go.Proofs.Ytiggefmckomilaa
namespace Go.Proofs.Ytiggefmckomilaa
open Go Go.RowKit

set_option maxHeartbeats 4000000 in
set_option maxRecDepth 100000 in
theorem rgain_any (l : List Ent) (p c : Nat) (A : Option Addr) (t : Tst) (d time : Int) (w : World) (hb : RefR l p A c w) (ht : TestIn l t) (hd : driftT l t.radar = some d) (t0 : 0 ≤ time) (t1 : time ≤ 4294967296) :
    Calls Try.prog 95 #[ptrB p, tstV t, .int .i64 time] w fun e w' => e = .returned (.agg #[.int .i64 (widenS (gainT l t) d t.time time).1, .int .i64 (widenS (gainT l t) d t.time time).2]) ∧ Below w.heap.size w w' := by
  have hg := hb.good
  obtain ⟨-, k1, k2, s, hs, -⟩ := ht
  obtain ⟨a1, a2⟩ := inR_iff.1 k1
  obtain ⟨b1, b2, b3⟩ := inS_iff.1 k2
  obtain ⟨hq, hqn, hqm⟩ := good_std hg hs
  have hdb := drift_bd hg hd
  have hvb := widenS_bd (s := madeT l s.name) (d := s.drift) (f := s.time) (t := t.time) hq.d0 hq.d1 hq.t0 (by have := hq.t1; have := hq.t2; omega) a1 a2 (by rw [hqn]; exact hqm.2.1) (by rw [hqn]; have := hqm.1; have := hqm.2.1; omega)
  have hm3 := hqm.2.2
  rw [← hqn] at hm3
  have hG : gainT l t = (max 1 (1000 * t.lo / (valueT l s t.time).2), upD (1000 * t.hi) (valueT l s t.time).1) := by unfold gainT; rw [hs]
  have hvE : valueT l s t.time = widenS (madeT l s.name) s.drift s.time t.time := rfl
  rw [← hvE] at hvb
  have hva := fun W (hW : Below w.heap.size w W) => rvalue_any (n := t.std) t.time W (hb.later hW) hs a1 a2
  have hst := fun W (hW : Below w.heap.size w W) => rstandard_any l p c A t.std W (hb.later hW)
  have hdr := fun W (hW : Below w.heap.size w W) => rdrift_any l p c A t.radar W (hb.later hW)
  unfold standardV at hst
  simp only [hs] at hst
  unfold driftV at hdr
  simp only [hd] at hdr
  rw [hG]
  obtain ⟨v, hv⟩ : ∃ v, valueT l s t.time = v := ⟨_, rfl⟩
  rw [hv] at hvb hva ⊢
  obtain ⟨v1, v2⟩ := v
  simp only at hvb hva ⊢
  clear hvE hG hv hs hd hb hg hq hqm hqn k1 k2
  obtain ⟨tr, tn, tt, tl, th⟩ := t
  obtain ⟨sn, sp, slo, shi, stm, sst, sdr⟩ := s
  simp only at *
  obtain ⟨d1, d2, d3⟩ := div_bd (a := 1000 * tl) (b := v2) (by omega) (by omega)
  obtain ⟨u1, u2, u3, u4⟩ := upD_bd (a := 1000 * th) (b := v1) (by omega) (by omega)
  have hu := fun W => Up_any (1000 * th) v1 W (by omega) (by omega) (by omega) (by omega)
  rw [← upD_cdiv (by omega)] at hu
  have hdn := fun W => Down_any (1000 * tl) v2 W (by omega) (by omega) (by omega) (by omega)
  obtain ⟨dq, hdq⟩ : ∃ q : Int, 1000 * tl / v2 = q := ⟨_, rfl⟩
  rw [hdq] at hdn d1 d2 d3 ⊢
  obtain ⟨mm, hmm⟩ : ∃ m : Int, (if 1 < dq then dq else 1) = m := ⟨_, rfl⟩
  have hmm2 : max 1 dq = mm := by rw [← hmm, Int.max_def]; split <;> split <;> omega
  rw [hmm2]
  have hmb : 1 ≤ mm ∧ mm ≤ 1000000000001 := by rw [← hmm2]; omega
  generalize upD (1000 * th) v1 = u at *
  obtain ⟨dt, hdt⟩ : ∃ dt : Int, time - tt = dt := ⟨_, rfl⟩
  have hw := fun W => rWiden_any mm u d tt time W hdb.1 hdb.2 a1 a2 t0 t1 (by omega) (by omega) (by omega) (by omega) dt hdt.symm
  generalize widenS (mm, u) d tt time = r at *
  obtain ⟨r1, r2⟩ := r
  simp only at hw ⊢
  clear u3 u4 d3
  unfold ptrB tstV stdV at *
  simp only at *
  have Hu := hide hu
  have Hdn := hide hdn
  have Hva := hide hva
  have Hst := hide hst
  have Hdr := hide hdr
  have Hw := hide hw
  clear hu hdn hva hst hdr hw
  go_enter Try.func95, Try.ntmps95
  have HB := hide (Below.refl w.heap.size w)
  go_wp2_with fail
  refine at_world fun W hW => ?_
  have bq0 : Blk W w.heap.size 87 #[.string tr, .string tn, .int .i64 tt, .int .i64 tl, .int .i64 th] := by rw [hW]; exact (Blk.new _ _ _).alloc _
  have bq1 : Blk W (w.heap.size + 1) 23 #[.int .i64 0, .int .i64 0] := by rw [hW]; exact blk_new_at (by simp)
  have LW : Later w W := by rw [hW]; exact (((Below.refl _ _).alloc (Nat.le_refl _) _).alloc (by simp; try omega) _)
  have szW : W.heap.size = w.heap.size + 2 := by rw [hW]; simp
  clear hW
  replace HB := hide (onward HB.out LW)
  have Ht := hide bq0
  have Ho := hide bq1
  clear bq0 bq1 LW szW
  refine (Hst.out _ HB.out).mono ?_
  rintro e w2 ⟨rfl, hb⟩
  replace HB := hide (onward HB.out hb)
  replace Ht := hide (blk_later Ht.out hb)
  replace Ho := hide (blk_later Ho.out hb)
  clear hb
  obtain ⟨t0, t1, t2, t3, t4⟩ := Ht.out.c5
  have ltt := Ht.out.lt
  go_wp2_with fail
  refine at_world fun W3 hW => ?_
  have bq0 : Blk W3 w2.heap.size 67 #[.string sn, .string sp, .int .i64 slo, .int .i64 shi, .int .i64 stm, .int .i64 sst, .int .i64 sdr] := by rw [hW]; exact Blk.new _ _ _
  have LW : Later w2 W3 := by rw [hW]; exact ((Below.refl _ _).alloc (Nat.le_refl _) _)
  have szW : W3.heap.size = w2.heap.size + 1 := by rw [hW]; simp
  clear hW t0 t1 t2 t3 t4 ltt
  replace HB := hide (onward HB.out LW)
  replace Ht := hide (blk_later Ht.out LW)
  replace Ho := hide (blk_later Ho.out LW)
  have Hs := hide bq0
  clear bq0 LW szW
  refine (Hdr.out _ HB.out).mono ?_
  rintro e w4 ⟨rfl, hb⟩
  replace HB := hide (onward HB.out hb)
  replace Ht := hide (blk_later Ht.out hb)
  replace Ho := hide (blk_later Ho.out hb)
  replace Hs := hide (blk_later Hs.out hb)
  clear hb
  obtain ⟨t0, t1, t2, t3, t4⟩ := Ht.out.c5
  have ltt := Ht.out.lt
  obtain ⟨s0, s1, s2, s3, s4, s5, s6⟩ := Hs.out.c7
  have lts := Hs.out.lt
  go_wp2_with fail
  refine (Hva.out _ HB.out).mono ?_
  rintro e w5 ⟨rfl, hb⟩
  replace HB := hide (onward HB.out hb)
  replace Ht := hide (blk_later Ht.out hb)
  replace Ho := hide (blk_later Ho.out hb)
  replace Hs := hide (blk_later Hs.out hb)
  clear hb t0 t1 t2 t3 t4 ltt s0 s1 s2 s3 s4 s5 s6 lts
  go_wp2_with fail
  refine code_world fun W6 hW => ?_
  have bq0 : Blk W6 w5.heap.size 23 #[.int .i64 v1, .int .i64 v2] := by rw [hW]; exact Blk.new _ _ _
  have LW : Later w5 W6 := by rw [hW]; exact ((Below.refl _ _).alloc (Nat.le_refl _) _)
  have szW : W6.heap.size = w5.heap.size + 1 := by rw [hW]; simp
  clear hW
  replace HB := hide (onward HB.out LW)
  replace Ht := hide (blk_later Ht.out LW)
  replace Ho := hide (blk_later Ho.out LW)
  replace Hs := hide (blk_later Hs.out LW)
  have Hv := hide bq0
  clear bq0 LW szW
  obtain ⟨t0, t1, t2, t3, t4⟩ := Ht.out.c5
  have ltt := Ht.out.lt
  obtain ⟨vv0, vv1⟩ := Hv.out.c2
  have ltvv := Hv.out.lt
  apply wp_region_L (w0 := W6) [[], [], [], [], [], [], [], [], [], [], [], [], [], [], [], [], [], [16]] [true, true, true, true, true, true, true, true, true, true, true, true, true, true, true, true, false, false] [⟨16, none, [], []⟩, ⟨17, some 16, [16], [16]⟩] (fun ixq y => match ixq with | 16 => .pointer (y 0).1 | 17 => undef | _ => undef) (fun ixq x F wq => match ixq with | 16 => PtrF wq F W6.heap.size (x 16 0).1 23 #[.int .i64 0, .int .i64 0] | 17 => PtrF wq F W6.heap.size (x 16 0).1 23 #[.int .i64 mm, .int .i64 u] | _ => True) (fun a x => ((a).put (some 12) (.pointer ((x 16) 0).1)).put (none) (undef)) (by kernel_rfl) (by kernel_rfl) (fun _ => rfl) [38, 46] (by kernel_rfl)
  · intro x D hD
    have hne := hD.some
    have k3 := liftB hD t3 (by first | assumption | omega)
    have k4 := liftB hD t4 (by first | assumption | omega)
    have j0 := liftB hD vv0 (by first | assumption | omega)
    have j1 := liftB hD vv1 (by first | assumption | omega)
    simp only [takeOps, Act.put, List.setIfInBounds_toArray, List.set_cons_succ, List.set_cons_zero]
    repeat (go_big_quiet_step ((first | (go_at_call 56; exact calls_same _ (Hdn.out _)) | (go_at_call 57; exact calls_same _ (Hu.out _)))))
    exact wpQuiet_nil rfl
  · intro d hd x x'
    simp only [List.mem_cons, List.not_mem_nil, or_false] at hd
    rcases hd with rfl | rfl
    all_goals rfl
  · refine ⟨?_, ?_, trivial⟩
    · exact obl_alloc 23 12 (.agg #[.int .i64 0, .int .i64 0]) (by kernel_rfl) (by kernel_rfl) (fun _ => rfl) (fun _ _ _ h => h)
    · refine obl_store 23 12 47 16 #[.int .i64 0, .int .i64 0] (fun x => #[.int .i64 mm, .int .i64 u]) (by kernel_rfl) rfl (by simp) (fun _ _ _ h => h) (fun _ => rfl) (fun _ => rfl) (fun _ => by kernel_rfl) (fun _ => rfl) (fun _ => by simp [Value.oneCell']) (fun _ => rfl) (by decide) (fun _ _ _ _ h => h)
  · refine ⟨?_, ?_, trivial⟩
    · exact owe_ptr 16 _ _ (fun x => #[.int .i64 0, .int .i64 0]) (fun _ _ _ => rfl) (by simp) (fun _ _ _ => rfl)
    · exact owe_ptr 16 _ _ (fun x => #[.int .i64 mm, .int .i64 u]) (fun _ _ _ => rfl) (by simp) (fun _ _ _ => rfl)
  intro xx w7 F hL hlv1
  obtain ⟨-, fct17, -⟩ := hlv1
  replace fct17 : PtrF w7 (F 17) W6.heap.size (xx 16 0).1 23 #[.int .i64 mm, .int .i64 u] := fct17 rfl
  obtain ⟨gx, hgs, hge, -, hbg⟩ := fct17
  rw [hgs]
  clear hgs
  replace HB := hide (onward HB.out hL)
  replace Ht := hide (blk_later Ht.out hL)
  replace Ho := hide (blk_later Ho.out hL)
  replace Hs := hide (blk_later Hs.out hL)
  replace Hv := hide (blk_later Hv.out hL)
  clear hL t0 t1 t2 t3 t4 ltt vv0 vv1 ltvv
  have Hbg := hide hbg
  clear hbg
  obtain ⟨z0, z1⟩ := Hbg.out.c2
  have ltz := Hbg.out.lt
  obtain ⟨t0, t1, t2, t3, t4⟩ := Ht.out.c5
  have ltt := Ht.out.lt
  go_wp2_with fail
  refine (Hw.out _).mono ?_
  rintro e w8 ⟨rfl, hb⟩
  replace HB := hide (onward HB.out hb)
  replace Ht := hide (blk_later Ht.out hb)
  replace Ho := hide (blk_later Ho.out hb)
  replace Hs := hide (blk_later Hs.out hb)
  replace Hv := hide (blk_later Hv.out hb)
  replace Hbg := hide (blk_later Hbg.out hb)
  clear hb z0 z1 ltz t0 t1 t2 t3 t4 ltt
  obtain ⟨o0, o1⟩ := Ho.out.c2
  have lto := Ho.out.lt
  have fo0 := Ho.out.frozen 0
  have fo1 := Ho.out.frozen 1
  go_wp2
  refine bodyPost_ret (v := .agg #[.int .i64 r1, .int .i64 r2]) (by simp [results, Try.results95, go_sem, o0, o1, fo0, fo1, lto]) rfl ⟨rfl, ?_⟩
  have hsz := HB.out.size
  repeat (first | exact HB.out | (refine Below.setCell ?_ (by first | omega | (simp; done) | (simp; omega)) _) | (refine Below.alloc ?_ (by first | omega | (simp; done) | (simp; omega)) _) | (refine below_drewN ?_ _))
end Go.Proofs.Ytiggefmckomilaa
namespace Go.Proofs.Ytiggefmckomilaa
open Go Go.RowKit

theorem Mem.lowRow {w0 W : World} {ts : List Th} {base base' size n : Nat} {e : TypeId} {v : Value} {xs : List Value} (h : Mem w0 ts W) (i : Nat) (hi : ts[i]? = some (.row base e size v n xs)) (hb : base' ≤ base) : Mem w0 (ts.set i (.row base' e size v n xs)) W :=
  h.step i hi (show World.ownsRow _ _ _ _ _ _ _ from own_mono (h.row_ i hi) hb) ⟨rfl, rfl, rfl, Nat.le_refl _, fun _ _ => rfl⟩ (fun k hk => .inl hk)
theorem Mem.joinL {w0 W W' : World} {ts ts' : List Th} (h : Mem w0 ts W) (h' : Mem W ts' W') : Mem w0 (ts' ++ ts) W' := by
  have hl := h.later h'.below
  refine ⟨fun t ht => ?_, ?_, fun k hk => ?_, hl.below⟩
  · rcases List.mem_append.1 ht with h1 | h1
    · exact h'.all t h1
    · exact hl.all t h1
  · unfold fps
    rw [List.flatMap_append, List.nodup_append]
    exact ⟨h'.nodup, h.nodup, fun a ha b hb e => by subst e; have := h'.low a ha; have := h.lt a hb; omega⟩
  · unfold fps at hk
    rw [List.flatMap_append] at hk
    rcases List.mem_append.1 hk with h1 | h1
    · have := h'.low k h1; have := h.size; omega
    · exact h.low k h1
/-- The tests that count, of the first ones. -/
def cntQ (l : List Ent) (n : ByteArray) (d time : Int) (k : Nat) : List (Nat × (Int × Int)) := selN (testInfo l) n (voidT l) d time k
theorem info_at {l : List Ent} {k : Nat} {t : Tst} (hg : GoodB l) (h : (testsT l).reverse[k]? = some t) : (testInfo l)[k]? = some (t, gainT l t) := by
  rw [info_map hg, List.getElem?_map, h]; rfl
theorem rev_in {l : List Ent} {k : Nat} {t : Tst} (hg : GoodB l) (h : (testsT l).reverse[k]? = some t) : TestIn l t := good_tin hg t (List.mem_reverse.1 (List.mem_of_getElem? h))
theorem cnt_step {l : List Ent} {n : ByteArray} {d time : Int} {k : Nat} {t : Tst} (hg : GoodB l) (h : (testsT l).reverse[k]? = some t) :
    cntQ l n d time (k + 1) = cntQ l n d time k ++ if t.radar = n ∧ voidT l t.std = false then [(k, widenS (gainT l t) d t.time time)] else [] := by
  unfold cntQ
  rw [selN, info_at hg h]
theorem cnt_at {l : List Ent} {n : ByteArray} {d time : Int} {k i : Nat} (hg : GoodB l) (hi : i < (cntQ l n d time k).length) :
    ∃ t, (testsT l).reverse[((cntQ l n d time k).getD i (0, (0, 0))).1]? = some t ∧ TestIn l t ∧ t.radar = n ∧ ((cntQ l n d time k).getD i (0, (0, 0))).2 = widenS (gainT l t) d t.time time := by
  obtain ⟨a, -⟩ := selN_num (testInfo l) n (voidT l) d time k
  obtain ⟨-, x, h1, h2, h3⟩ := a _ (getD_mem hi)
  have h1' : ((testsT l).reverse.map fun t => (t, gainT l t))[((cntQ l n d time k).getD i (0, (0, 0))).1]? = some x := by rw [← info_map hg]; exact h1
  rw [List.getElem?_map] at h1'
  obtain ⟨t, ht, e⟩ := Option.map_eq_some_iff.1 h1'
  subst e
  exact ⟨t, ht, rev_in hg ht, h2, h3⟩
theorem span_le {l : List Ent} {t : Tst} {d time : Int} (hg : GoodB l) (ht : TestIn l t) (hd : 0 ≤ d) (hd2 : d ≤ 1000000) (t0 : 0 ≤ time) (t1 : time ≤ 4294967296) : (widenS (gainT l t) d t.time time).1 ≤ (widenS (gainT l t) d t.time time).2 := by
  obtain ⟨a1, a2⟩ := inR_iff.1 ht.2.1
  obtain ⟨g1, g2⟩ := gain_le hg ht
  exact (widenS_bd hd hd2 a1 a2 t0 t1 g2 (by omega)).2.1
theorem cnt_le2 {l : List Ent} {n : ByteArray} {d time : Int} {k : Nat} (hg : GoodB l) (hd : 0 ≤ d) (hd2 : d ≤ 1000000) (t0 : 0 ≤ time) (t1 : time ≤ 4294967296) : ∀ y ∈ cntQ l n d time k, y.2.1 ≤ y.2.2 := fun y hy => by
  obtain ⟨i, hi, e⟩ := mem_getD hy
  obtain ⟨t, -, h1, -, h2⟩ := cnt_at hg hi
  rw [← e, h2]
  exact span_le hg h1 hd hd2 t0 t1
theorem gainQ_conf {q : List (Nat × (Int × Int))} {p : Nat × Nat} (hf : findF (offQ q) q.length 0 q.length = some p) : gainQ q = ((0, 0), (((q.getD p.1 (0, (0, 0))).1 : Int), ((q.getD p.2 (0, (0, 0))).1 : Int)), 14) := by
  obtain ⟨x, -⟩ := findF_spec (offQ q) q.length q.length 0 (by omega)
  obtain ⟨h1, h2, h3⟩ := x p hf
  obtain ⟨a, -⟩ := meetQ_ends q q.length (Nat.le_refl _)
  have a1 := a p.1 (by omega)
  have a2 := a p.2 h2
  have hm : ¬ (meetQ q q.length).1 ≤ (meetQ q q.length).2 := by
    unfold offQ offB at h3
    simp only [Bool.or_eq_true, decide_eq_true_eq] at h3
    omega
  rw [gainQ_off (by omega) hm, hf]
  rfl
theorem gainQ_none {q : List (Nat × (Int × Int))} (h0 : q.length ≠ 0) (hs : ∀ y ∈ q, y.2.1 ≤ y.2.2) (hf : findF (offQ q) q.length 0 q.length = none) : gainQ q = (meetQ q q.length, (0, 0), 0) := by
  by_cases hm : (meetQ q q.length).1 ≤ (meetQ q q.length).2
  · exact gainQ_meet h0 hm
  · obtain ⟨i, j, h, -⟩ := off_pair h0 hs hm
    rw [hf] at h
    cases h
theorem off_max {x y : Int × Int} (hx : x.1 ≤ x.2) (hy : y.1 ≤ y.2) : offB x y = decide (min x.2 y.2 < max x.1 y.1) := by
  unfold offB
  rw [← Bool.decide_or]
  refine decide_eq_decide.2 ?_
  omega
theorem rts_at {l : List Ent} {k : Nat} {t : Tst} (h : (testsT l).reverse[k]? = some t) (j : Nat) (v : Value) (hv : (rtsL t)[j]? = some v) : (rtsRow l)[k * 5 + j]? = some v := by
  unfold rtsRow
  rw [flatMap_at rtsL 5 (fun _ => rfl) _ k j t h (by have := (List.getElem?_eq_some_iff.1 hv).1; simpa [rtsL] using this)]
  exact hv
theorem std_drop : ∀ (l : List Ent) (m : Nat), ∃ Y, stdsT l = Y ++ stdsT (l.drop m)
  | l, 0 => ⟨[], rfl⟩
  | [], m + 1 => ⟨[], rfl⟩
  | x :: l, m + 1 => by
    obtain ⟨Y, hY⟩ := std_drop l m
    cases x with
    | define s => exact ⟨s :: Y, by rw [stdsT, hY]; rfl⟩
    | _ => exact ⟨Y, hY⟩
/-- The standards in the order in which they were entered. -/
theorem ord_suf {l : List Ent} {k : Nat} (hk : k < l.length) (h2 : kdE (entN l k) = 2) : (ordN l)[(stdsT (sufL l k)).length]? = some (sdE (entN l k)).name := by
  obtain ⟨Y, hY⟩ := std_drop l (l.length - (k + 1))
  have h3 : l.drop (l.length - (k + 1)) = entN l k :: sufL l k := suf_succ hk
  rw [h3] at hY
  unfold ordN
  generalize entN l k = x at *
  cases x with
  | define s =>
    rw [stdsT] at hY
    rw [hY, List.reverse_append, List.reverse_cons, List.map_append, List.map_append, List.append_assoc, List.getElem?_append_right (by simp)]
    simp [sdE]
  | radar a b => exact absurd h2 (by decide : ¬ (1 : Int) = 2)
  | test t => exact absurd h2 (by decide : ¬ (3 : Int) = 2)
  | turn a o => exact absurd h2 (kd_turn o).2.1
end Go.Proofs.Ytiggefmckomilaa
