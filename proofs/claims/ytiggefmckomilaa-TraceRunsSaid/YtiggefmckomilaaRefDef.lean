/-
  The reference's book gets a standard.
-/
import Derived.Test.YtiggefmckomilaaRefTests
import Derived.Test.YtiggefmckomilaaMapV
set_option linter.unusedSimpArgs false
set_option linter.unusedVariables false
namespace Go.Proofs.Ytiggefmckomilaa
open Go Go.RowKit

/-- The variable and the row of a list that grows are turned together. -/
theorem Mem.two {w0 W W' : World} {ts : List Th} {p base size n n' : Nat} {t e : TypeId} {cs cs' : Array Value} {v v' : Value} {xs xs' : List Value} (h : Mem w0 (.blk p t cs :: .row base e size v n xs :: ts) W) (hb : Blk W' p t cs') (ho : W'.ownsRow base e size v' n' xs')
    (hk : Kept (fun k => k < W.heap.size ∧ k ≠ p ∧ v.ownBlock ≠ some k) W W') (hn : v'.ownBlock = v.ownBlock ∨ ∃ g, v'.ownBlock = some g ∧ W.heap.size ≤ g) : Mem w0 (.blk p t cs' :: .row base e size v' n' xs' :: ts) W' := by
  have hlt := h.lt
  have hsz := h.size
  have hnd := h.nodup
  have hpl : p < W.heap.size := hlt p (by rw [fps_cons]; exact List.mem_append_left _ (List.mem_singleton.2 rfl))
  have hv : ∀ k, v.ownBlock = some k → k ∈ (Th.row base e size v n xs).fp := fun k hk => optL_iff.2 hk
  rw [fps_cons, fps_cons] at hnd
  rw [List.nodup_append, List.nodup_append] at hnd
  obtain ⟨-, ⟨-, n2, n3⟩, n4⟩ := hnd
  have tsk : ∀ k ∈ fps ts, W'.heap[k]? = W.heap[k]? := fun k hk' => hk.block k ⟨hlt k (by rw [fps_cons, fps_cons]; exact List.mem_append_right _ (List.mem_append_right _ hk')), fun e => n4 p (List.mem_singleton.2 rfl) k (List.mem_append_right _ hk') e.symm, fun e => n3 k (hv k e) k hk' rfl⟩
  have tsl : ∀ k ∈ fps ts, k < W.heap.size := fun k hk' => hlt k (by rw [fps_cons, fps_cons]; exact List.mem_append_right _ (List.mem_append_right _ hk'))
  have hnew : ∀ k, v'.ownBlock = some k → k ∉ fps ts ∧ k ≠ p ∧ w0.heap.size ≤ k := fun k hk' => by
    rcases hn with e | ⟨g, e, hg⟩
    · rw [hk'] at e
      have hm := hv k e.symm
      refine ⟨fun hm' => n3 k hm k hm' rfl, fun e' => n4 p (List.mem_singleton.2 rfl) k (List.mem_append_left _ hm) e'.symm, h.low k ?_⟩
      rw [fps_cons, fps_cons]
      exact List.mem_append_right _ (List.mem_append_left _ hm)
    · rw [hk'] at e
      have := Option.some.inj e
      refine ⟨fun hm' => ?_, by omega, by omega⟩
      have := tsl k hm'
      omega
  refine ⟨fun x hx => ?_, ?_, fun k hk' => ?_, ?_⟩
  · rcases List.mem_cons.1 hx with rfl | hx
    · exact hb
    · rcases List.mem_cons.1 hx with rfl | hx
      · exact ho
      · refine Th.stab (h.all x (List.mem_cons_of_mem _ (List.mem_cons_of_mem _ hx))) fun k hk' => tsk k (List.mem_flatMap.2 ⟨x, hx, hk'⟩)
  · rw [fps_cons, fps_cons, List.nodup_append, List.nodup_append]
    refine ⟨List.nodup_cons.2 ⟨List.not_mem_nil, List.nodup_nil⟩, ⟨optL_nodup v', n2, fun a ha b hb' e => ?_⟩, fun a ha b hb' e => ?_⟩
    · subst e
      exact (hnew a (optL_iff.1 ha)).1 hb'
    · subst e
      rw [List.mem_singleton.1 ha] at hb'
      rcases List.mem_append.1 hb' with h1 | h1
      · exact (hnew p (optL_iff.1 h1)).2.1 rfl
      · exact n4 p (List.mem_singleton.2 rfl) p (List.mem_append_right _ h1) rfl
  · rw [fps_cons, fps_cons] at hk'
    rcases List.mem_append.1 hk' with h1 | h1
    · rw [List.mem_singleton.1 h1]
      exact h.low p (by rw [fps_cons]; exact List.mem_append_left _ (List.mem_singleton.2 rfl))
    · rcases List.mem_append.1 h1 with h1 | h1
      · exact (hnew k (optL_iff.1 h1)).2.2
      · exact h.low k (by rw [fps_cons, fps_cons]; exact List.mem_append_right _ (List.mem_append_right _ h1))
  · refine h.below.trans ⟨hk.os, hk.tape, hk.output, hk.size, fun k hk' => hk.block k ⟨by omega, fun e => ?_, fun e => ?_⟩⟩
    · have := h.low p (by rw [fps_cons]; exact List.mem_append_left _ (List.mem_singleton.2 rfl))
      omega
    · have := h.low k (by rw [fps_cons, fps_cons]; exact List.mem_append_right _ (List.mem_append_left _ (hv k e)))
      omega
theorem fieldSpan1 (a b : Int) (w : World) : (Instr.field 23 (.agg #[.int .i64 a, .int .i64 b]) 1).run Try.prog w = .ok (.int .i64 b) w := by kernel_rfl
attribute [local go_sem] fieldSpan1
set_option maxHeartbeats 8000000 in
set_option maxRecDepth 100000 in
theorem rDefine_any (w0 : World) (l : List Ent) (p : Nat) (v : Value) (ts : List Th) (s : Std) (w : World) (h : RMem w0 l p v ts w) (hns : s.name.size ≤ maxLen) :
    Calls Try.prog 32 #[ptrB p, stdV s] w fun e w' => e = .returned (.int .i64 (defineE l s)) ∧ ∃ v', RMem w0 (if defineE l s = 0 then .define s :: l else l) p v' ts w' := by
  obtain ⟨A, c, rfl⟩ := h.shape
  have hl := good_len h.good
  have hl2 : (l.length : Int) ≤ 2000 := by omega
  have hsc := fun n W (hW : Below w.heap.size w W) => rstandard_any l p c A n W (h.ref.later hW)
  have hcn := fun W (hW : Below w.heap.size w W) => rcount_any l p c A 2 W (h.ref.later hW)
  have hnm := fun W => RefName_any s.name W (by unfold maxLen at hns; omega)
  have hva := fun m W => RefValid_any s.lo s.hi 1 m W
  have hi1 := fun W => rIn_any s.time 0 s.stop W
  have hi2 := fun W => rIn_any s.drift 0 1000000 W
  have hE : defineE l s = if 2000 ≤ l.length then 13 else if nameB s.name = false then 10 else if (stdT l s.name).isSome then 5 else if 64 ≤ (stdsT l).length then 9
    else if (inS s.lo s.hi 1 (if s.par = ByteArray.empty then 1000000 else 100000) && inR s.time 0 s.stop && decide (s.stop ≤ 4294967296) && inR s.drift 0 1000000) = false then 3
    else if s.par = ByteArray.empty then 0
    else match stdT l s.par with
      | none => 4
      | some q => if (voidT l s.par || !inR s.time q.time q.stop) = true then 22 else if 1000000000 < (scaledS (valueT l q s.time) (s.lo, s.hi)).2 then 26 else 0 := rfl
  rw [cnt_define] at hcn
  have hrl : (stdsT l).length ≤ l.length := stds_len_le
  have hvo := fun q (hq : stdT l s.par = some q) W (hW : Below w.heap.size w W) => rvoid_any l p c A s.par W (h.ref.later hW) ⟨q, hq⟩
  have hmd := fun q (hq : stdT l s.par = some q) hp t0 t1 h1 h2 h3 W (hW : Below w.heap.size w W) => rmade_par l p c A s q W (h.ref.later hW) hp hq (rmade_any p c A h.good hq) t0 t1 h1 h2 h3
  obtain ⟨M, hM⟩ : ∃ M, (stdsT l).length = M := ⟨_, rfl⟩
  rw [hM] at hcn hE hrl
  have hM2 : (M : Int) ≤ 2000 := by omega
  have hgood : defineE l s = 0 → GoodB (.define s :: l) := fun e => ⟨by show (defineE l s == 0) = true; rw [e]; rfl, h.good⟩
  have hgx : ∀ n s0, stdT l n = some s0 → True := fun _ _ _ => trivial
  have hb := (Mem.blk_ h.mem 0 rfl)
  have x0 : w.cell? ⟨p, 0, none⟩ = some (.slice A l.length c) := hb.c 0 rfl
  have ltx := hb.lt
  have hrR : rowE (.define s) = [.int .i64 2, .string ⟨#[]⟩, .int .i64 0, .string s.name, .string s.par, .int .i64 s.lo, .int .i64 s.hi, .int .i64 s.time, .int .i64 s.stop, .int .i64 s.drift, .string ⟨#[]⟩, .string ⟨#[]⟩, .int .i64 0, .int .i64 0, .int .i64 0] := rfl
  have H := hide h
  clear h hb hM hgx
  have HB := hide (Below.refl w.heap.size w)
  obtain ⟨sn, sp, slo, shi, stm, sst, sdr⟩ := s
  simp only at *
  unfold ptrB stdV at *
  simp only at *
  have Hsc := hide hsc
  have Hcn := hide hcn
  have Hi1 := hide hi1
  have Hi2 := hide hi2
  have Hnm := hide hnm
  have Hva := hide hva
  have Hgood := hide hgood
  have Hvo := hide hvo
  have Hmd := hide hmd
  have HrR := hide hrR
  clear hsc hcn hi1 hi2 hnm hva hgood hvo hmd hrR
  generalize hre : defineE l ⟨sn, sp, slo, shi, stm, sst, sdr⟩ = re at *
  by_cases h1 : 2000 ≤ l.length
  · rw [if_pos h1] at hE
    subst hE
    have h1' : (2000 : Int) ≤ l.length := by omega
    go_enter Try.func32, Try.ntmps32
    go_wp2
    go_ret
    have hsz := HB.out.size
    refine ⟨rfl, .slice A l.length c, ?_⟩
    try rw [if_neg (by decide)]
    refine H.out.later ?_
    repeat (first | exact HB.out | (refine Below.setCell ?_ (by first | omega | (simp; done) | (simp; omega)) _) | (refine Below.alloc ?_ (by first | omega | (simp; done) | (simp; omega)) _) | (refine below_drewN ?_ _))
  · rw [if_neg h1] at hE
    have h1' : ¬ (2000 : Int) ≤ l.length := by omega
    cases hn : nameB sn with
    | false =>
      rw [hn, if_pos rfl] at hE
      rw [hn] at Hnm
      subst hE
      go_enter Try.func32, Try.ntmps32
      go_wp2_with fail
      refine at_world fun W hW => ?_
      have bq0 : Blk W w.heap.size 67 #[.string sn, .string sp, .int .i64 slo, .int .i64 shi, .int .i64 stm, .int .i64 sst, .int .i64 sdr] := by rw [hW]; exact Blk.new _ _ _
      have LW : Later w W := by rw [hW]; exact ((Below.refl _ _).alloc (Nat.le_refl _) _)
      have szW : W.heap.size = w.heap.size + 1 := by rw [hW]; simp
      clear hW
      replace HB := hide (onward HB.out LW)
      have Hs := hide bq0
      clear bq0 LW szW
      refine (Hnm.out _).mono ?_
      rintro e w' ⟨rfl, rfl⟩
      go_wp2
      go_ret
      have hsz := HB.out.size
      refine ⟨rfl, .slice A l.length c, ?_⟩
      try rw [if_neg (by decide)]
      refine H.out.later ?_
      repeat (first | exact HB.out | (refine Below.setCell ?_ (by first | omega | (simp; done) | (simp; omega)) _) | (refine Below.alloc ?_ (by first | omega | (simp; done) | (simp; omega)) _) | (refine below_drewN ?_ _))
    | true =>
      rw [hn, if_neg (by decide)] at hE
      rw [hn] at Hnm
      have hsn := Hsc.out sn
      cases hd : stdT l sn with
      | some s0 =>
        rw [hd, if_pos (show (some s0).isSome = true from rfl)] at hE
        unfold standardV at hsn
        simp only [hd] at hsn
        obtain ⟨tn, tp, tlo, thi, ttm, tst, tdr⟩ := s0
        unfold stdV at hsn
        simp only at hsn
        have Hsn := hide hsn
        clear hsn hd
        subst hE
        go_enter Try.func32, Try.ntmps32
        go_wp2_with fail
        refine at_world fun W hW => ?_
        have bq0 : Blk W w.heap.size 67 #[.string sn, .string sp, .int .i64 slo, .int .i64 shi, .int .i64 stm, .int .i64 sst, .int .i64 sdr] := by rw [hW]; exact Blk.new _ _ _
        have LW : Later w W := by rw [hW]; exact ((Below.refl _ _).alloc (Nat.le_refl _) _)
        have szW : W.heap.size = w.heap.size + 1 := by rw [hW]; simp
        clear hW
        replace HB := hide (onward HB.out LW)
        have Hs := hide bq0
        clear bq0 LW szW
        refine (Hnm.out _).mono ?_
        rintro e w' ⟨rfl, rfl⟩
        obtain ⟨s0, s1, s2, s3, s4, s5, s6⟩ := Hs.out.c7
        have lts := Hs.out.lt
        go_wp2_with fail
        refine (Hsn.out _ HB.out).mono ?_
        rintro e w2 ⟨rfl, hb⟩
        replace HB := hide (onward HB.out hb)
        replace Hs := hide (blk_later Hs.out hb)
        clear hb s0 s1 s2 s3 s4 s5 s6 lts
        go_wp2
        go_ret
        have hsz := HB.out.size
        refine ⟨rfl, .slice A l.length c, ?_⟩
        try rw [if_neg (by decide)]
        refine H.out.later ?_
        repeat (first | exact HB.out | (refine Below.setCell ?_ (by first | omega | (simp; done) | (simp; omega)) _) | (refine Below.alloc ?_ (by first | omega | (simp; done) | (simp; omega)) _) | (refine below_drewN ?_ _))
      | none =>
        rw [hd, if_neg (show ¬ (none : Option Std).isSome = true by decide)] at hE
        unfold standardV at hsn
        simp only [hd] at hsn
        unfold stdV std0 at hsn
        simp only at hsn
        have Hsn := hide hsn
        clear hsn hd
        by_cases h4 : 64 ≤ M
        · rw [if_pos h4] at hE
          have h4' : (64 : Int) ≤ M := by omega
          subst hE
          go_enter Try.func32, Try.ntmps32
          go_wp2_with fail
          refine at_world fun W hW => ?_
          have bq0 : Blk W w.heap.size 67 #[.string sn, .string sp, .int .i64 slo, .int .i64 shi, .int .i64 stm, .int .i64 sst, .int .i64 sdr] := by rw [hW]; exact Blk.new _ _ _
          have LW : Later w W := by rw [hW]; exact ((Below.refl _ _).alloc (Nat.le_refl _) _)
          have szW : W.heap.size = w.heap.size + 1 := by rw [hW]; simp
          clear hW
          replace HB := hide (onward HB.out LW)
          have Hs := hide bq0
          clear bq0 LW szW
          refine (Hnm.out _).mono ?_
          rintro e w' ⟨rfl, rfl⟩
          obtain ⟨s0, s1, s2, s3, s4, s5, s6⟩ := Hs.out.c7
          have lts := Hs.out.lt
          go_wp2_with fail
          refine (Hsn.out _ HB.out).mono ?_
          rintro e w2 ⟨rfl, hb⟩
          replace HB := hide (onward HB.out hb)
          replace Hs := hide (blk_later Hs.out hb)
          clear hb s0 s1 s2 s3 s4 s5 s6 lts
          obtain ⟨s0, s1, s2, s3, s4, s5, s6⟩ := Hs.out.c7
          have lts := Hs.out.lt
          go_wp2_with fail
          refine at_world fun W3 hW => ?_
          have bq0 : Blk W3 w2.heap.size 67 #[.string ⟨#[]⟩, .string ⟨#[]⟩, .int .i64 0, .int .i64 0, .int .i64 0, .int .i64 0, .int .i64 0] := by rw [hW]; exact Blk.new _ _ _
          have LW : Later w2 W3 := by rw [hW]; exact ((Below.refl _ _).alloc (Nat.le_refl _) _)
          have szW : W3.heap.size = w2.heap.size + 1 := by rw [hW]; simp
          clear hW s0 s1 s2 s3 s4 s5 s6 lts
          replace HB := hide (onward HB.out LW)
          replace Hs := hide (blk_later Hs.out LW)
          have Hx := hide bq0
          clear bq0 LW szW
          refine (Hcn.out _ HB.out).mono ?_
          rintro e w4 ⟨rfl, hb⟩
          replace HB := hide (onward HB.out hb)
          replace Hs := hide (blk_later Hs.out hb)
          replace Hx := hide (blk_later Hx.out hb)
          clear hb
          go_wp2
          go_ret
          have hsz := HB.out.size
          refine ⟨rfl, .slice A l.length c, ?_⟩
          try rw [if_neg (by decide)]
          refine H.out.later ?_
          repeat (first | exact HB.out | (refine Below.setCell ?_ (by first | omega | (simp; done) | (simp; omega)) _) | (refine Below.alloc ?_ (by first | omega | (simp; done) | (simp; omega)) _) | (refine below_drewN ?_ _))
        · rw [if_neg h4] at hE
          have h4' : ¬ (64 : Int) ≤ M := by omega
          by_cases hp : sp = ByteArray.empty
          · rw [if_pos hp, if_pos hp] at hE
            have he1 : sp.toList.isEmpty = true := by rw [hp, ByteArray.toList_eq]; rfl
            clear hp
            have hvx := Hva.out 1000000
            have e3 := fun h => hE.trans (if_pos h)
            have e4 := fun h => hE.trans (if_neg h)
            have hi1 := Hi1.out
            have hi2 := Hi2.out
            cases hv : inS slo shi 1 1000000 with
            | false =>
              rw [hv] at hvx
              obtain rfl : re = 3 := e3 (by rw [hv]; rfl)
              have Hvx := hide hvx
              clear hvx hi1 hi2 e3 e4 hE
              go_enter Try.func32, Try.ntmps32
              go_wp2_with fail
              refine at_world fun W hW => ?_
              have bq0 : Blk W w.heap.size 67 #[.string sn, .string sp, .int .i64 slo, .int .i64 shi, .int .i64 stm, .int .i64 sst, .int .i64 sdr] := by rw [hW]; exact Blk.new _ _ _
              have LW : Later w W := by rw [hW]; exact ((Below.refl _ _).alloc (Nat.le_refl _) _)
              have szW : W.heap.size = w.heap.size + 1 := by rw [hW]; simp
              clear hW
              replace HB := hide (onward HB.out LW)
              have Hs := hide bq0
              clear bq0 LW szW
              refine (Hnm.out _).mono ?_
              rintro e w' ⟨rfl, rfl⟩
              obtain ⟨s0, s1, s2, s3, s4, s5, s6⟩ := Hs.out.c7
              have lts := Hs.out.lt
              go_wp2_with fail
              refine (Hsn.out _ HB.out).mono ?_
              rintro e w2 ⟨rfl, hb⟩
              replace HB := hide (onward HB.out hb)
              replace Hs := hide (blk_later Hs.out hb)
              clear hb s0 s1 s2 s3 s4 s5 s6 lts
              obtain ⟨s0, s1, s2, s3, s4, s5, s6⟩ := Hs.out.c7
              have lts := Hs.out.lt
              go_wp2_with fail
              refine at_world fun W3 hW => ?_
              have bq0 : Blk W3 w2.heap.size 67 #[.string ⟨#[]⟩, .string ⟨#[]⟩, .int .i64 0, .int .i64 0, .int .i64 0, .int .i64 0, .int .i64 0] := by rw [hW]; exact Blk.new _ _ _
              have LW : Later w2 W3 := by rw [hW]; exact ((Below.refl _ _).alloc (Nat.le_refl _) _)
              have szW : W3.heap.size = w2.heap.size + 1 := by rw [hW]; simp
              clear hW s0 s1 s2 s3 s4 s5 s6 lts
              replace HB := hide (onward HB.out LW)
              replace Hs := hide (blk_later Hs.out LW)
              have Hx := hide bq0
              clear bq0 LW szW
              refine (Hcn.out _ HB.out).mono ?_
              rintro e w4 ⟨rfl, hb⟩
              replace HB := hide (onward HB.out hb)
              replace Hs := hide (blk_later Hs.out hb)
              replace Hx := hide (blk_later Hx.out hb)
              clear hb
              obtain ⟨s0, s1, s2, s3, s4, s5, s6⟩ := Hs.out.c7
              have lts := Hs.out.lt
              go_wp2_with fail
              refine (Hvx.out _).mono ?_
              rintro e w5 ⟨rfl, hb⟩
              replace HB := hide (onward HB.out hb)
              replace Hs := hide (blk_later Hs.out hb)
              replace Hx := hide (blk_later Hx.out hb)
              clear hb s0 s1 s2 s3 s4 s5 s6 lts
              obtain ⟨s0, s1, s2, s3, s4, s5, s6⟩ := Hs.out.c7
              have lts := Hs.out.lt
              go_wp2
              go_ret
              have hsz := HB.out.size
              refine ⟨rfl, .slice A l.length c, ?_⟩
              try rw [if_neg (by decide)]
              refine H.out.later ?_
              repeat (first | exact HB.out | (refine Below.setCell ?_ (by first | omega | (simp; done) | (simp; omega)) _) | (refine Below.alloc ?_ (by first | omega | (simp; done) | (simp; omega)) _) | (refine below_drewN ?_ _))
            | true =>
              rw [hv] at hvx
              have Hvx := hide hvx
              clear hvx
              cases h5 : inR stm 0 sst with
              | false =>
                rw [h5] at hi1
                obtain rfl : re = 3 := e3 (by rw [hv, h5]; rfl)
                replace Hi1 := hide hi1
                clear hi1 hi2 e3 e4 hE
                go_enter Try.func32, Try.ntmps32
                go_wp2_with fail
                refine at_world fun W hW => ?_
                have bq0 : Blk W w.heap.size 67 #[.string sn, .string sp, .int .i64 slo, .int .i64 shi, .int .i64 stm, .int .i64 sst, .int .i64 sdr] := by rw [hW]; exact Blk.new _ _ _
                have LW : Later w W := by rw [hW]; exact ((Below.refl _ _).alloc (Nat.le_refl _) _)
                have szW : W.heap.size = w.heap.size + 1 := by rw [hW]; simp
                clear hW
                replace HB := hide (onward HB.out LW)
                have Hs := hide bq0
                clear bq0 LW szW
                refine (Hnm.out _).mono ?_
                rintro e w' ⟨rfl, rfl⟩
                obtain ⟨s0, s1, s2, s3, s4, s5, s6⟩ := Hs.out.c7
                have lts := Hs.out.lt
                go_wp2_with fail
                refine (Hsn.out _ HB.out).mono ?_
                rintro e w2 ⟨rfl, hb⟩
                replace HB := hide (onward HB.out hb)
                replace Hs := hide (blk_later Hs.out hb)
                clear hb s0 s1 s2 s3 s4 s5 s6 lts
                obtain ⟨s0, s1, s2, s3, s4, s5, s6⟩ := Hs.out.c7
                have lts := Hs.out.lt
                go_wp2_with fail
                refine at_world fun W3 hW => ?_
                have bq0 : Blk W3 w2.heap.size 67 #[.string ⟨#[]⟩, .string ⟨#[]⟩, .int .i64 0, .int .i64 0, .int .i64 0, .int .i64 0, .int .i64 0] := by rw [hW]; exact Blk.new _ _ _
                have LW : Later w2 W3 := by rw [hW]; exact ((Below.refl _ _).alloc (Nat.le_refl _) _)
                have szW : W3.heap.size = w2.heap.size + 1 := by rw [hW]; simp
                clear hW s0 s1 s2 s3 s4 s5 s6 lts
                replace HB := hide (onward HB.out LW)
                replace Hs := hide (blk_later Hs.out LW)
                have Hx := hide bq0
                clear bq0 LW szW
                refine (Hcn.out _ HB.out).mono ?_
                rintro e w4 ⟨rfl, hb⟩
                replace HB := hide (onward HB.out hb)
                replace Hs := hide (blk_later Hs.out hb)
                replace Hx := hide (blk_later Hx.out hb)
                clear hb
                obtain ⟨s0, s1, s2, s3, s4, s5, s6⟩ := Hs.out.c7
                have lts := Hs.out.lt
                go_wp2_with fail
                refine (Hvx.out _).mono ?_
                rintro e w5 ⟨rfl, hb⟩
                replace HB := hide (onward HB.out hb)
                replace Hs := hide (blk_later Hs.out hb)
                replace Hx := hide (blk_later Hx.out hb)
                clear hb s0 s1 s2 s3 s4 s5 s6 lts
                obtain ⟨s0, s1, s2, s3, s4, s5, s6⟩ := Hs.out.c7
                have lts := Hs.out.lt
                go_wp2_with fail
                refine (Hi1.out _).mono ?_
                rintro e w' ⟨rfl, rfl⟩
                go_wp2
                go_ret
                have hsz := HB.out.size
                refine ⟨rfl, .slice A l.length c, ?_⟩
                try rw [if_neg (by decide)]
                refine H.out.later ?_
                repeat (first | exact HB.out | (refine Below.setCell ?_ (by first | omega | (simp; done) | (simp; omega)) _) | (refine Below.alloc ?_ (by first | omega | (simp; done) | (simp; omega)) _) | (refine below_drewN ?_ _))
              | true =>
                rw [h5] at hi1
                replace Hi1 := hide hi1
                clear hi1
                by_cases h6 : 4294967296 < sst
                · obtain rfl : re = 3 := e3 (by rw [hv, h5, decide_eq_false (show ¬ sst ≤ 4294967296 by omega)]; rfl)
                  clear hi2 e3 e4 hE
                  go_enter Try.func32, Try.ntmps32
                  go_wp2_with fail
                  refine at_world fun W hW => ?_
                  have bq0 : Blk W w.heap.size 67 #[.string sn, .string sp, .int .i64 slo, .int .i64 shi, .int .i64 stm, .int .i64 sst, .int .i64 sdr] := by rw [hW]; exact Blk.new _ _ _
                  have LW : Later w W := by rw [hW]; exact ((Below.refl _ _).alloc (Nat.le_refl _) _)
                  have szW : W.heap.size = w.heap.size + 1 := by rw [hW]; simp
                  clear hW
                  replace HB := hide (onward HB.out LW)
                  have Hs := hide bq0
                  clear bq0 LW szW
                  refine (Hnm.out _).mono ?_
                  rintro e w' ⟨rfl, rfl⟩
                  obtain ⟨s0, s1, s2, s3, s4, s5, s6⟩ := Hs.out.c7
                  have lts := Hs.out.lt
                  go_wp2_with fail
                  refine (Hsn.out _ HB.out).mono ?_
                  rintro e w2 ⟨rfl, hb⟩
                  replace HB := hide (onward HB.out hb)
                  replace Hs := hide (blk_later Hs.out hb)
                  clear hb s0 s1 s2 s3 s4 s5 s6 lts
                  obtain ⟨s0, s1, s2, s3, s4, s5, s6⟩ := Hs.out.c7
                  have lts := Hs.out.lt
                  go_wp2_with fail
                  refine at_world fun W3 hW => ?_
                  have bq0 : Blk W3 w2.heap.size 67 #[.string ⟨#[]⟩, .string ⟨#[]⟩, .int .i64 0, .int .i64 0, .int .i64 0, .int .i64 0, .int .i64 0] := by rw [hW]; exact Blk.new _ _ _
                  have LW : Later w2 W3 := by rw [hW]; exact ((Below.refl _ _).alloc (Nat.le_refl _) _)
                  have szW : W3.heap.size = w2.heap.size + 1 := by rw [hW]; simp
                  clear hW s0 s1 s2 s3 s4 s5 s6 lts
                  replace HB := hide (onward HB.out LW)
                  replace Hs := hide (blk_later Hs.out LW)
                  have Hx := hide bq0
                  clear bq0 LW szW
                  refine (Hcn.out _ HB.out).mono ?_
                  rintro e w4 ⟨rfl, hb⟩
                  replace HB := hide (onward HB.out hb)
                  replace Hs := hide (blk_later Hs.out hb)
                  replace Hx := hide (blk_later Hx.out hb)
                  clear hb
                  obtain ⟨s0, s1, s2, s3, s4, s5, s6⟩ := Hs.out.c7
                  have lts := Hs.out.lt
                  go_wp2_with fail
                  refine (Hvx.out _).mono ?_
                  rintro e w5 ⟨rfl, hb⟩
                  replace HB := hide (onward HB.out hb)
                  replace Hs := hide (blk_later Hs.out hb)
                  replace Hx := hide (blk_later Hx.out hb)
                  clear hb s0 s1 s2 s3 s4 s5 s6 lts
                  obtain ⟨s0, s1, s2, s3, s4, s5, s6⟩ := Hs.out.c7
                  have lts := Hs.out.lt
                  go_wp2_with fail
                  refine (Hi1.out _).mono ?_
                  rintro e w' ⟨rfl, rfl⟩
                  obtain ⟨s0, s1, s2, s3, s4, s5, s6⟩ := Hs.out.c7
                  have lts := Hs.out.lt
                  go_wp2
                  go_ret
                  have hsz := HB.out.size
                  refine ⟨rfl, .slice A l.length c, ?_⟩
                  try rw [if_neg (by decide)]
                  refine H.out.later ?_
                  repeat (first | exact HB.out | (refine Below.setCell ?_ (by first | omega | (simp; done) | (simp; omega)) _) | (refine Below.alloc ?_ (by first | omega | (simp; done) | (simp; omega)) _) | (refine below_drewN ?_ _))
                · cases h7 : inR sdr 0 1000000 with
                  | false =>
                    rw [h7] at hi2
                    obtain rfl : re = 3 := e3 (by rw [hv, h5, decide_eq_true (show sst ≤ 4294967296 by omega), h7]; rfl)
                    replace Hi2 := hide hi2
                    clear hi2 e3 e4 hE
                    go_enter Try.func32, Try.ntmps32
                    go_wp2_with fail
                    refine at_world fun W hW => ?_
                    have bq0 : Blk W w.heap.size 67 #[.string sn, .string sp, .int .i64 slo, .int .i64 shi, .int .i64 stm, .int .i64 sst, .int .i64 sdr] := by rw [hW]; exact Blk.new _ _ _
                    have LW : Later w W := by rw [hW]; exact ((Below.refl _ _).alloc (Nat.le_refl _) _)
                    have szW : W.heap.size = w.heap.size + 1 := by rw [hW]; simp
                    clear hW
                    replace HB := hide (onward HB.out LW)
                    have Hs := hide bq0
                    clear bq0 LW szW
                    refine (Hnm.out _).mono ?_
                    rintro e w' ⟨rfl, rfl⟩
                    obtain ⟨s0, s1, s2, s3, s4, s5, s6⟩ := Hs.out.c7
                    have lts := Hs.out.lt
                    go_wp2_with fail
                    refine (Hsn.out _ HB.out).mono ?_
                    rintro e w2 ⟨rfl, hb⟩
                    replace HB := hide (onward HB.out hb)
                    replace Hs := hide (blk_later Hs.out hb)
                    clear hb s0 s1 s2 s3 s4 s5 s6 lts
                    obtain ⟨s0, s1, s2, s3, s4, s5, s6⟩ := Hs.out.c7
                    have lts := Hs.out.lt
                    go_wp2_with fail
                    refine at_world fun W3 hW => ?_
                    have bq0 : Blk W3 w2.heap.size 67 #[.string ⟨#[]⟩, .string ⟨#[]⟩, .int .i64 0, .int .i64 0, .int .i64 0, .int .i64 0, .int .i64 0] := by rw [hW]; exact Blk.new _ _ _
                    have LW : Later w2 W3 := by rw [hW]; exact ((Below.refl _ _).alloc (Nat.le_refl _) _)
                    have szW : W3.heap.size = w2.heap.size + 1 := by rw [hW]; simp
                    clear hW s0 s1 s2 s3 s4 s5 s6 lts
                    replace HB := hide (onward HB.out LW)
                    replace Hs := hide (blk_later Hs.out LW)
                    have Hx := hide bq0
                    clear bq0 LW szW
                    refine (Hcn.out _ HB.out).mono ?_
                    rintro e w4 ⟨rfl, hb⟩
                    replace HB := hide (onward HB.out hb)
                    replace Hs := hide (blk_later Hs.out hb)
                    replace Hx := hide (blk_later Hx.out hb)
                    clear hb
                    obtain ⟨s0, s1, s2, s3, s4, s5, s6⟩ := Hs.out.c7
                    have lts := Hs.out.lt
                    go_wp2_with fail
                    refine (Hvx.out _).mono ?_
                    rintro e w5 ⟨rfl, hb⟩
                    replace HB := hide (onward HB.out hb)
                    replace Hs := hide (blk_later Hs.out hb)
                    replace Hx := hide (blk_later Hx.out hb)
                    clear hb s0 s1 s2 s3 s4 s5 s6 lts
                    obtain ⟨s0, s1, s2, s3, s4, s5, s6⟩ := Hs.out.c7
                    have lts := Hs.out.lt
                    go_wp2_with fail
                    refine (Hi1.out _).mono ?_
                    rintro e w' ⟨rfl, rfl⟩
                    obtain ⟨s0, s1, s2, s3, s4, s5, s6⟩ := Hs.out.c7
                    have lts := Hs.out.lt
                    go_wp2_with fail
                    refine (Hi2.out _).mono ?_
                    rintro e w' ⟨rfl, rfl⟩
                    go_wp2
                    go_ret
                    have hsz := HB.out.size
                    refine ⟨rfl, .slice A l.length c, ?_⟩
                    try rw [if_neg (by decide)]
                    refine H.out.later ?_
                    repeat (first | exact HB.out | (refine Below.setCell ?_ (by first | omega | (simp; done) | (simp; omega)) _) | (refine Below.alloc ?_ (by first | omega | (simp; done) | (simp; omega)) _) | (refine below_drewN ?_ _))
                  | true =>
                    rw [h7] at hi2
                    have hE2 := e4 (by rw [hv, h5, decide_eq_true (show sst ≤ 4294967296 by omega), h7]; decide)
                    replace Hi2 := hide hi2
                    clear hi2 e3 e4 hE
                    obtain rfl : re = 0 := hE2
                    go_enter Try.func32, Try.ntmps32
                    go_wp2_with fail
                    refine at_world fun W hW => ?_
                    have bq0 : Blk W w.heap.size 67 #[.string sn, .string sp, .int .i64 slo, .int .i64 shi, .int .i64 stm, .int .i64 sst, .int .i64 sdr] := by rw [hW]; exact Blk.new _ _ _
                    have LW : Later w W := by rw [hW]; exact ((Below.refl _ _).alloc (Nat.le_refl _) _)
                    have szW : W.heap.size = w.heap.size + 1 := by rw [hW]; simp
                    clear hW
                    replace HB := hide (onward HB.out LW)
                    have Hs := hide bq0
                    clear bq0 LW szW
                    refine (Hnm.out _).mono ?_
                    rintro e w' ⟨rfl, rfl⟩
                    obtain ⟨s0, s1, s2, s3, s4, s5, s6⟩ := Hs.out.c7
                    have lts := Hs.out.lt
                    go_wp2_with fail
                    refine (Hsn.out _ HB.out).mono ?_
                    rintro e w2 ⟨rfl, hb⟩
                    replace HB := hide (onward HB.out hb)
                    replace Hs := hide (blk_later Hs.out hb)
                    clear hb s0 s1 s2 s3 s4 s5 s6 lts
                    obtain ⟨s0, s1, s2, s3, s4, s5, s6⟩ := Hs.out.c7
                    have lts := Hs.out.lt
                    go_wp2_with fail
                    refine at_world fun W3 hW => ?_
                    have bq0 : Blk W3 w2.heap.size 67 #[.string ⟨#[]⟩, .string ⟨#[]⟩, .int .i64 0, .int .i64 0, .int .i64 0, .int .i64 0, .int .i64 0] := by rw [hW]; exact Blk.new _ _ _
                    have LW : Later w2 W3 := by rw [hW]; exact ((Below.refl _ _).alloc (Nat.le_refl _) _)
                    have szW : W3.heap.size = w2.heap.size + 1 := by rw [hW]; simp
                    clear hW s0 s1 s2 s3 s4 s5 s6 lts
                    replace HB := hide (onward HB.out LW)
                    replace Hs := hide (blk_later Hs.out LW)
                    have Hx := hide bq0
                    clear bq0 LW szW
                    refine (Hcn.out _ HB.out).mono ?_
                    rintro e w4 ⟨rfl, hb⟩
                    replace HB := hide (onward HB.out hb)
                    replace Hs := hide (blk_later Hs.out hb)
                    replace Hx := hide (blk_later Hx.out hb)
                    clear hb
                    obtain ⟨s0, s1, s2, s3, s4, s5, s6⟩ := Hs.out.c7
                    have lts := Hs.out.lt
                    go_wp2_with fail
                    refine (Hvx.out _).mono ?_
                    rintro e w5 ⟨rfl, hb⟩
                    replace HB := hide (onward HB.out hb)
                    replace Hs := hide (blk_later Hs.out hb)
                    replace Hx := hide (blk_later Hx.out hb)
                    clear hb s0 s1 s2 s3 s4 s5 s6 lts
                    obtain ⟨s0, s1, s2, s3, s4, s5, s6⟩ := Hs.out.c7
                    have lts := Hs.out.lt
                    go_wp2_with fail
                    refine (Hi1.out _).mono ?_
                    rintro e w' ⟨rfl, rfl⟩
                    obtain ⟨s0, s1, s2, s3, s4, s5, s6⟩ := Hs.out.c7
                    have lts := Hs.out.lt
                    go_wp2_with fail
                    refine (Hi2.out _).mono ?_
                    rintro e w' ⟨rfl, rfl⟩
                    obtain ⟨s0, s1, s2, s3, s4, s5, s6⟩ := Hs.out.c7
                    have lts := Hs.out.lt
                    go_wp2_with fail
                    clear s0 s1 s2 s3 s4 s5 s6 lts
                    have hRM := H.out.later HB.out
                    have hrow := Mem.row_ hRM.mem 1 rfl
                    have Hbk := hide (Mem.blk_ hRM.mem 0 rfl)
                    have hnp : (Value.slice A l.length c).ownBlock ≠ some p := fun e => Mem.apart hRM.mem 0 1 rfl rfl (by decide) p (List.mem_singleton.2 rfl) (optL_iff.2 e)
                    have hns2 : (Value.slice A l.length c).ownBlock ≠ some w.heap.size := own_high_ne (Mem.row_ H.out.mem 1 rfl) (Nat.le_refl _)
                    have hgd := Hgood.out (by first | rfl | trivial)
                    have x4 : w5.cell? ⟨p, 0, none⟩ = some (.slice A l.length c) := Hbk.out.c 0 rfl
                    have ltx4 := Hbk.out.lt
                    have Htr := hide hrow
                    have HneT := hide hnp
                    have HRM := hide hRM
                    clear hrow hRM
                    obtain ⟨i0, hii, hz0, hz1, hz2⟩ := info_parts entryInfo
                    have Hi := hide hii
                    have Hz0 := hide hz0
                    have Hz1 := hide hz1
                    have Hz2 := hide hz2
                    clear hii hz0 hz1 hz2
                    obtain ⟨s0, s1, s2, s3, s4, s5, s6⟩ := Hs.out.c7
                    have lts := Hs.out.lt
                    have hlm : l.length < 2000 := by omega
                    have hbz : w0.heap.size ≤ w5.heap.size := HRM.out.mem.size
                    apply wp_region_F (w0 := w5) [[], [], [1], [1, 2], [1, 2, 3], [], [5], [5, 6], [1, 2, 3, 4, 5, 6, 7], [0, 1, 2, 3, 4, 5, 6, 7, 8], [0, 1, 2, 3, 4, 5, 6, 7, 8, 9], [0, 1, 2, 3, 4, 5, 6, 7, 8, 9, 10]] [true, true, true, true, true, true, true, false, false, true, true, false] [false, false, false, false, false, false, false, false, false, false, false, false] [⟨7, none, [], []⟩, ⟨8, none, [7], []⟩, ⟨11, none, [], [8]⟩] (fillQ 8 (.slice A l.length c) 11 p) [11] (fun ixq y => match ixq with | 7 => .slice (y 0).1 1 1 | 8 => .slice (y 0).1 (l.length + 1) (y 0).2 | 11 => undef | _ => undef) (fun ixq x F wq => match ixq with | 7 => OwnF wq F w5.heap.size 121 15 (.slice (x 7 0).1 1 1) 1 #[.int .i64 2, .string ⟨#[]⟩, .int .i64 0, .string sn, .string sp, .int .i64 slo, .int .i64 shi, .int .i64 stm, .int .i64 sst, .int .i64 sdr, .string ⟨#[]⟩, .string ⟨#[]⟩, .int .i64 0, .int .i64 0, .int .i64 0].toList | 8 => OwnF wq F w0.heap.size 121 15 (.slice (x 8 0).1 (l.length + 1) (x 8 0).2) (l.length + 1) ((refRow l) ++ (#[.int .i64 2, .string ⟨#[]⟩, .int .i64 0, .string sn, .string sp, .int .i64 slo, .int .i64 shi, .int .i64 stm, .int .i64 sst, .int .i64 sdr, .string ⟨#[]⟩, .string ⟨#[]⟩, .int .i64 0, .int .i64 0, .int .i64 0] : Array Value).toList) ∧ FreshOr w5.heap.size (.slice A l.length c) (.slice (x 8 0).1 (l.length + 1) (x 8 0).2) | 11 => F p ∧ Blk wq p 117 #[.slice (x 8 0).1 (l.length + 1) (x 8 0).2] | _ => True) (fun a x => (((a).put (some 96) (.slice ((x 7) 0).1 1 1)).put (some 97) (.slice ((x 8) 0).1 (l.length + 1) ((x 8) 0).2)).put (none) (undef)) (by kernel_rfl) (by kernel_rfl) (by kernel_rfl) (fun _ => rfl) [91, 98] (by kernel_rfl) (fillQ_lt (fun g hg => (Htr.out.lt g hg).2) (by omega)) (fillQ_ne HneT.out)
                    · intro x D hD
                      have hne := hD.some
                      have k4 := liftS hD x4 (earlyQ (by first | assumption | omega) HneT.out)
                      have n0 := liftS hD s0 (earlyQ (by first | assumption | omega) hns2)
                      have n1 := liftS hD s1 (earlyQ (by first | assumption | omega) hns2)
                      have n2 := liftS hD s2 (earlyQ (by first | assumption | omega) hns2)
                      have n3 := liftS hD s3 (earlyQ (by first | assumption | omega) hns2)
                      have n4 := liftS hD s4 (earlyQ (by first | assumption | omega) hns2)
                      have n5 := liftS hD s5 (earlyQ (by first | assumption | omega) hns2)
                      have n6 := liftS hD s6 (earlyQ (by first | assumption | omega) hns2)
                      simp only [takeOps, Act.put, List.setIfInBounds_toArray, List.set_cons_succ, List.set_cons_zero]
                      repeat (go_big_quiet_step (fail))
                      exact wpQuiet_nil rfl
                    · exact fun x D hD => wpQuiet_nil rfl
                    · intro d hd x x'
                      simp only [List.mem_cons, List.not_mem_nil, or_false] at hd
                      rcases hd with rfl | rfl
                      all_goals rfl
                    · refine ⟨?_, ?_, ?_, trivial⟩
                      · exact obl_new rfl (fun _ => by kernel_rfl) 121 (fun x => #[.int .i64 2, .string ⟨#[]⟩, .int .i64 0, .string sn, .string sp, .int .i64 slo, .int .i64 shi, .int .i64 stm, .int .i64 sst, .int .i64 sdr, .string ⟨#[]⟩, .string ⟨#[]⟩, .int .i64 0, .int .i64 0, .int .i64 0]) gP (fun x w => by kernel_rfl) (fun x w hle => own_new hle rfl (by unfold maxLen; omega))
                      · refine obl_pushQ 115 93 96 (by kernel_rfl) w0.heap.size 121 i0 _ 15 160 Try.underlying115 Hi.out Hz0.out Hz1.out Hz2.out rfl (by decide) (.slice A l.length c) l.length 1 ((refRow l)) (#[.int .i64 2, .string ⟨#[]⟩, .int .i64 0, .string sn, .string sp, .int .i64 slo, .int .i64 shi, .int .i64 stm, .int .i64 sst, .int .i64 sdr, .string ⟨#[]⟩, .string ⟨#[]⟩, .int .i64 0, .int .i64 0, .int .i64 0] : Array Value).toList (by first | rfl | (simp; done) | (simp; omega)) (by simp [Value.oneCell']) (by unfold maxLen; omega) (by omega) (by first | assumption | omega) (fun x w F hk hn => ?_) (fun _ => rfl) (fun _ _ _ _ h1 h2 => ⟨h1, h2⟩)
                        have hj : OwnF w (F 7) w5.heap.size 121 15 (.slice (x 7 0).1 1 1) 1 (#[.int .i64 2, .string ⟨#[]⟩, .int .i64 0, .string sn, .string sp, .int .i64 slo, .int .i64 shi, .int .i64 stm, .int .i64 sst, .int .i64 sdr, .string ⟨#[]⟩, .string ⟨#[]⟩, .int .i64 0, .int .i64 0, .int .i64 0] : Array Value).toList := hn 7 (by simp)
                        obtain ⟨ad, hA, hc⟩ := news_own hj (by decide)
                        exact ⟨ad, 1, rfl, row_thenQ Htr.out HneT.out hk, wrQ_row, (show Value.slice (x 7 0).1 1 1 = _ by rw [hA]), hc⟩
                      · exact obl_setv 115 117 99 97 p 0 _ (fun x => .slice (x 8 0).1 (l.length + 1) (x 8 0).2) (fun x => #[.slice (x 8 0).1 (l.length + 1) (x 8 0).2]) (by kernel_rfl) (fun _ => rfl) (fun _ => rfl) (fun _ => rfl) Hbk.out (ebQ_set HneT.out) wrQ_set (by kernel_rfl) (by first | assumption | (simp; done)) (fun _ => rfl) (fun _ => rfl) (fun _ _ _ _ h1 h2 => ⟨h1, h2⟩)
                    · refine ⟨?_, ?_, ?_, trivial⟩
                      · refine ⟨fun x F wq wq' h hs hk => ?_, fun x x' F wq hx h => ?_⟩
                        · have h2 : OwnF wq F w5.heap.size 121 15 (.slice (x 7 0).1 1 1) 1 #[.int .i64 2, .string ⟨#[]⟩, .int .i64 0, .string sn, .string sp, .int .i64 slo, .int .i64 shi, .int .i64 stm, .int .i64 sst, .int .i64 sdr, .string ⟨#[]⟩, .string ⟨#[]⟩, .int .i64 0, .int .i64 0, .int .i64 0].toList := h
                          exact h2.stab hk
                        · have h2 : OwnF wq F w5.heap.size 121 15 (.slice (x 7 0).1 1 1) 1 #[.int .i64 2, .string ⟨#[]⟩, .int .i64 0, .string sn, .string sp, .int .i64 slo, .int .i64 shi, .int .i64 stm, .int .i64 sst, .int .i64 sdr, .string ⟨#[]⟩, .string ⟨#[]⟩, .int .i64 0, .int .i64 0, .int .i64 0].toList := h
                          rw [hx 7 (by simp)] at h2
                          exact h2
                      · exact owe_pushQ 8 _ w0.heap.size (.slice A l.length c) 121 15 (l.length + 1) ((refRow l) ++ (#[.int .i64 2, .string ⟨#[]⟩, .int .i64 0, .string sn, .string sp, .int .i64 slo, .int .i64 shi, .int .i64 stm, .int .i64 sst, .int .i64 sdr, .string ⟨#[]⟩, .string ⟨#[]⟩, .int .i64 0, .int .i64 0, .int .i64 0] : Array Value).toList) rfl (fun _ _ _ => rfl)
                      · exact owe_fill p 117 (fun x => #[.slice (x 8 0).1 (l.length + 1) (x 8 0).2]) (fun _ _ _ => rfl) (fun x x' hx => by simp only [hx 8 (by simp)])
                    intro xx w20 F hK hlv1
                    obtain ⟨-, fct8, fct11, -⟩ := hlv1
                    replace fct8 : OwnF w20 (F 8) w0.heap.size 121 15 (.slice (xx 8 0).1 (l.length + 1) (xx 8 0).2) (l.length + 1) ((refRow l) ++ (#[.int .i64 2, .string ⟨#[]⟩, .int .i64 0, .string sn, .string sp, .int .i64 slo, .int .i64 shi, .int .i64 stm, .int .i64 sst, .int .i64 sdr, .string ⟨#[]⟩, .string ⟨#[]⟩, .int .i64 0, .int .i64 0, .int .i64 0] : Array Value).toList) ∧ FreshOr w5.heap.size (.slice A l.length c) (.slice (xx 8 0).1 (l.length + 1) (xx 8 0).2) := fct8 rfl
                    replace fct11 : (F 11) p ∧ Blk w20 p 117 #[.slice (xx 8 0).1 (l.length + 1) (xx 8 0).2] := fct11 rfl
                    obtain ⟨⟨hot, -⟩, hfr⟩ := fct8
                    have hbk := fct11.2
                    generalize (xx 8 0).1 = A7 at *
                    generalize (xx 8 0).2 = c7 at *
                    have hM2 := HRM.out.mem.two hbk hot ⟨hK.os, hK.tape, hK.output, hK.size, fun k hk => hK.block k ⟨hk.1, freeQ hk.2.2 (Ne.symm hk.2.1)⟩⟩ hfr
                    have hX : RMem w0 (.define ⟨sn, sp, slo, shi, stm, sst, sdr⟩ :: l) p (.slice A7 (l.length + 1) c7) ts w20 := ⟨hgd, by rw [refRow_cons, HrR.out, List.length_cons]; exact hM2⟩
                    have HXX := hide hX
                    clear hX hM2 hbk hot hK hfr
                    go_wp2
                    go_ret
                    exact ⟨rfl, .slice A7 (l.length + 1) c7, by first | exact HXX.out | (rw [if_pos rfl]; exact HXX.out)⟩
          · rw [if_neg hp, if_neg hp] at hE
            have he1 : sp.toList.isEmpty = false := notEmpty hp
            have hvx := Hva.out 100000
            have e3 := fun h => hE.trans (if_pos h)
            have e4 := fun h => hE.trans (if_neg h)
            have hi1 := Hi1.out
            have hi2 := Hi2.out
            cases hv : inS slo shi 1 100000 with
            | false =>
              rw [hv] at hvx
              obtain rfl : re = 3 := e3 (by rw [hv]; rfl)
              have Hvx := hide hvx
              clear hvx hi1 hi2 e3 e4 hE
              go_enter Try.func32, Try.ntmps32
              go_wp2_with fail
              refine at_world fun W hW => ?_
              have bq0 : Blk W w.heap.size 67 #[.string sn, .string sp, .int .i64 slo, .int .i64 shi, .int .i64 stm, .int .i64 sst, .int .i64 sdr] := by rw [hW]; exact Blk.new _ _ _
              have LW : Later w W := by rw [hW]; exact ((Below.refl _ _).alloc (Nat.le_refl _) _)
              have szW : W.heap.size = w.heap.size + 1 := by rw [hW]; simp
              clear hW
              replace HB := hide (onward HB.out LW)
              have Hs := hide bq0
              clear bq0 LW szW
              refine (Hnm.out _).mono ?_
              rintro e w' ⟨rfl, rfl⟩
              obtain ⟨s0, s1, s2, s3, s4, s5, s6⟩ := Hs.out.c7
              have lts := Hs.out.lt
              go_wp2_with fail
              refine (Hsn.out _ HB.out).mono ?_
              rintro e w2 ⟨rfl, hb⟩
              replace HB := hide (onward HB.out hb)
              replace Hs := hide (blk_later Hs.out hb)
              clear hb s0 s1 s2 s3 s4 s5 s6 lts
              obtain ⟨s0, s1, s2, s3, s4, s5, s6⟩ := Hs.out.c7
              have lts := Hs.out.lt
              go_wp2_with fail
              refine at_world fun W3 hW => ?_
              have bq0 : Blk W3 w2.heap.size 67 #[.string ⟨#[]⟩, .string ⟨#[]⟩, .int .i64 0, .int .i64 0, .int .i64 0, .int .i64 0, .int .i64 0] := by rw [hW]; exact Blk.new _ _ _
              have LW : Later w2 W3 := by rw [hW]; exact ((Below.refl _ _).alloc (Nat.le_refl _) _)
              have szW : W3.heap.size = w2.heap.size + 1 := by rw [hW]; simp
              clear hW s0 s1 s2 s3 s4 s5 s6 lts
              replace HB := hide (onward HB.out LW)
              replace Hs := hide (blk_later Hs.out LW)
              have Hx := hide bq0
              clear bq0 LW szW
              refine (Hcn.out _ HB.out).mono ?_
              rintro e w4 ⟨rfl, hb⟩
              replace HB := hide (onward HB.out hb)
              replace Hs := hide (blk_later Hs.out hb)
              replace Hx := hide (blk_later Hx.out hb)
              clear hb
              obtain ⟨s0, s1, s2, s3, s4, s5, s6⟩ := Hs.out.c7
              have lts := Hs.out.lt
              go_wp2_with fail
              refine (Hvx.out _).mono ?_
              rintro e w5 ⟨rfl, hb⟩
              replace HB := hide (onward HB.out hb)
              replace Hs := hide (blk_later Hs.out hb)
              replace Hx := hide (blk_later Hx.out hb)
              clear hb s0 s1 s2 s3 s4 s5 s6 lts
              obtain ⟨s0, s1, s2, s3, s4, s5, s6⟩ := Hs.out.c7
              have lts := Hs.out.lt
              go_wp2
              go_ret
              have hsz := HB.out.size
              refine ⟨rfl, .slice A l.length c, ?_⟩
              try rw [if_neg (by decide)]
              refine H.out.later ?_
              repeat (first | exact HB.out | (refine Below.setCell ?_ (by first | omega | (simp; done) | (simp; omega)) _) | (refine Below.alloc ?_ (by first | omega | (simp; done) | (simp; omega)) _) | (refine below_drewN ?_ _))
            | true =>
              rw [hv] at hvx
              have Hvx := hide hvx
              clear hvx
              cases h5 : inR stm 0 sst with
              | false =>
                rw [h5] at hi1
                obtain rfl : re = 3 := e3 (by rw [hv, h5]; rfl)
                replace Hi1 := hide hi1
                clear hi1 hi2 e3 e4 hE
                go_enter Try.func32, Try.ntmps32
                go_wp2_with fail
                refine at_world fun W hW => ?_
                have bq0 : Blk W w.heap.size 67 #[.string sn, .string sp, .int .i64 slo, .int .i64 shi, .int .i64 stm, .int .i64 sst, .int .i64 sdr] := by rw [hW]; exact Blk.new _ _ _
                have LW : Later w W := by rw [hW]; exact ((Below.refl _ _).alloc (Nat.le_refl _) _)
                have szW : W.heap.size = w.heap.size + 1 := by rw [hW]; simp
                clear hW
                replace HB := hide (onward HB.out LW)
                have Hs := hide bq0
                clear bq0 LW szW
                refine (Hnm.out _).mono ?_
                rintro e w' ⟨rfl, rfl⟩
                obtain ⟨s0, s1, s2, s3, s4, s5, s6⟩ := Hs.out.c7
                have lts := Hs.out.lt
                go_wp2_with fail
                refine (Hsn.out _ HB.out).mono ?_
                rintro e w2 ⟨rfl, hb⟩
                replace HB := hide (onward HB.out hb)
                replace Hs := hide (blk_later Hs.out hb)
                clear hb s0 s1 s2 s3 s4 s5 s6 lts
                obtain ⟨s0, s1, s2, s3, s4, s5, s6⟩ := Hs.out.c7
                have lts := Hs.out.lt
                go_wp2_with fail
                refine at_world fun W3 hW => ?_
                have bq0 : Blk W3 w2.heap.size 67 #[.string ⟨#[]⟩, .string ⟨#[]⟩, .int .i64 0, .int .i64 0, .int .i64 0, .int .i64 0, .int .i64 0] := by rw [hW]; exact Blk.new _ _ _
                have LW : Later w2 W3 := by rw [hW]; exact ((Below.refl _ _).alloc (Nat.le_refl _) _)
                have szW : W3.heap.size = w2.heap.size + 1 := by rw [hW]; simp
                clear hW s0 s1 s2 s3 s4 s5 s6 lts
                replace HB := hide (onward HB.out LW)
                replace Hs := hide (blk_later Hs.out LW)
                have Hx := hide bq0
                clear bq0 LW szW
                refine (Hcn.out _ HB.out).mono ?_
                rintro e w4 ⟨rfl, hb⟩
                replace HB := hide (onward HB.out hb)
                replace Hs := hide (blk_later Hs.out hb)
                replace Hx := hide (blk_later Hx.out hb)
                clear hb
                obtain ⟨s0, s1, s2, s3, s4, s5, s6⟩ := Hs.out.c7
                have lts := Hs.out.lt
                go_wp2_with fail
                refine (Hvx.out _).mono ?_
                rintro e w5 ⟨rfl, hb⟩
                replace HB := hide (onward HB.out hb)
                replace Hs := hide (blk_later Hs.out hb)
                replace Hx := hide (blk_later Hx.out hb)
                clear hb s0 s1 s2 s3 s4 s5 s6 lts
                obtain ⟨s0, s1, s2, s3, s4, s5, s6⟩ := Hs.out.c7
                have lts := Hs.out.lt
                go_wp2_with fail
                refine (Hi1.out _).mono ?_
                rintro e w' ⟨rfl, rfl⟩
                go_wp2
                go_ret
                have hsz := HB.out.size
                refine ⟨rfl, .slice A l.length c, ?_⟩
                try rw [if_neg (by decide)]
                refine H.out.later ?_
                repeat (first | exact HB.out | (refine Below.setCell ?_ (by first | omega | (simp; done) | (simp; omega)) _) | (refine Below.alloc ?_ (by first | omega | (simp; done) | (simp; omega)) _) | (refine below_drewN ?_ _))
              | true =>
                rw [h5] at hi1
                replace Hi1 := hide hi1
                clear hi1
                by_cases h6 : 4294967296 < sst
                · obtain rfl : re = 3 := e3 (by rw [hv, h5, decide_eq_false (show ¬ sst ≤ 4294967296 by omega)]; rfl)
                  clear hi2 e3 e4 hE
                  go_enter Try.func32, Try.ntmps32
                  go_wp2_with fail
                  refine at_world fun W hW => ?_
                  have bq0 : Blk W w.heap.size 67 #[.string sn, .string sp, .int .i64 slo, .int .i64 shi, .int .i64 stm, .int .i64 sst, .int .i64 sdr] := by rw [hW]; exact Blk.new _ _ _
                  have LW : Later w W := by rw [hW]; exact ((Below.refl _ _).alloc (Nat.le_refl _) _)
                  have szW : W.heap.size = w.heap.size + 1 := by rw [hW]; simp
                  clear hW
                  replace HB := hide (onward HB.out LW)
                  have Hs := hide bq0
                  clear bq0 LW szW
                  refine (Hnm.out _).mono ?_
                  rintro e w' ⟨rfl, rfl⟩
                  obtain ⟨s0, s1, s2, s3, s4, s5, s6⟩ := Hs.out.c7
                  have lts := Hs.out.lt
                  go_wp2_with fail
                  refine (Hsn.out _ HB.out).mono ?_
                  rintro e w2 ⟨rfl, hb⟩
                  replace HB := hide (onward HB.out hb)
                  replace Hs := hide (blk_later Hs.out hb)
                  clear hb s0 s1 s2 s3 s4 s5 s6 lts
                  obtain ⟨s0, s1, s2, s3, s4, s5, s6⟩ := Hs.out.c7
                  have lts := Hs.out.lt
                  go_wp2_with fail
                  refine at_world fun W3 hW => ?_
                  have bq0 : Blk W3 w2.heap.size 67 #[.string ⟨#[]⟩, .string ⟨#[]⟩, .int .i64 0, .int .i64 0, .int .i64 0, .int .i64 0, .int .i64 0] := by rw [hW]; exact Blk.new _ _ _
                  have LW : Later w2 W3 := by rw [hW]; exact ((Below.refl _ _).alloc (Nat.le_refl _) _)
                  have szW : W3.heap.size = w2.heap.size + 1 := by rw [hW]; simp
                  clear hW s0 s1 s2 s3 s4 s5 s6 lts
                  replace HB := hide (onward HB.out LW)
                  replace Hs := hide (blk_later Hs.out LW)
                  have Hx := hide bq0
                  clear bq0 LW szW
                  refine (Hcn.out _ HB.out).mono ?_
                  rintro e w4 ⟨rfl, hb⟩
                  replace HB := hide (onward HB.out hb)
                  replace Hs := hide (blk_later Hs.out hb)
                  replace Hx := hide (blk_later Hx.out hb)
                  clear hb
                  obtain ⟨s0, s1, s2, s3, s4, s5, s6⟩ := Hs.out.c7
                  have lts := Hs.out.lt
                  go_wp2_with fail
                  refine (Hvx.out _).mono ?_
                  rintro e w5 ⟨rfl, hb⟩
                  replace HB := hide (onward HB.out hb)
                  replace Hs := hide (blk_later Hs.out hb)
                  replace Hx := hide (blk_later Hx.out hb)
                  clear hb s0 s1 s2 s3 s4 s5 s6 lts
                  obtain ⟨s0, s1, s2, s3, s4, s5, s6⟩ := Hs.out.c7
                  have lts := Hs.out.lt
                  go_wp2_with fail
                  refine (Hi1.out _).mono ?_
                  rintro e w' ⟨rfl, rfl⟩
                  obtain ⟨s0, s1, s2, s3, s4, s5, s6⟩ := Hs.out.c7
                  have lts := Hs.out.lt
                  go_wp2
                  go_ret
                  have hsz := HB.out.size
                  refine ⟨rfl, .slice A l.length c, ?_⟩
                  try rw [if_neg (by decide)]
                  refine H.out.later ?_
                  repeat (first | exact HB.out | (refine Below.setCell ?_ (by first | omega | (simp; done) | (simp; omega)) _) | (refine Below.alloc ?_ (by first | omega | (simp; done) | (simp; omega)) _) | (refine below_drewN ?_ _))
                · cases h7 : inR sdr 0 1000000 with
                  | false =>
                    rw [h7] at hi2
                    obtain rfl : re = 3 := e3 (by rw [hv, h5, decide_eq_true (show sst ≤ 4294967296 by omega), h7]; rfl)
                    replace Hi2 := hide hi2
                    clear hi2 e3 e4 hE
                    go_enter Try.func32, Try.ntmps32
                    go_wp2_with fail
                    refine at_world fun W hW => ?_
                    have bq0 : Blk W w.heap.size 67 #[.string sn, .string sp, .int .i64 slo, .int .i64 shi, .int .i64 stm, .int .i64 sst, .int .i64 sdr] := by rw [hW]; exact Blk.new _ _ _
                    have LW : Later w W := by rw [hW]; exact ((Below.refl _ _).alloc (Nat.le_refl _) _)
                    have szW : W.heap.size = w.heap.size + 1 := by rw [hW]; simp
                    clear hW
                    replace HB := hide (onward HB.out LW)
                    have Hs := hide bq0
                    clear bq0 LW szW
                    refine (Hnm.out _).mono ?_
                    rintro e w' ⟨rfl, rfl⟩
                    obtain ⟨s0, s1, s2, s3, s4, s5, s6⟩ := Hs.out.c7
                    have lts := Hs.out.lt
                    go_wp2_with fail
                    refine (Hsn.out _ HB.out).mono ?_
                    rintro e w2 ⟨rfl, hb⟩
                    replace HB := hide (onward HB.out hb)
                    replace Hs := hide (blk_later Hs.out hb)
                    clear hb s0 s1 s2 s3 s4 s5 s6 lts
                    obtain ⟨s0, s1, s2, s3, s4, s5, s6⟩ := Hs.out.c7
                    have lts := Hs.out.lt
                    go_wp2_with fail
                    refine at_world fun W3 hW => ?_
                    have bq0 : Blk W3 w2.heap.size 67 #[.string ⟨#[]⟩, .string ⟨#[]⟩, .int .i64 0, .int .i64 0, .int .i64 0, .int .i64 0, .int .i64 0] := by rw [hW]; exact Blk.new _ _ _
                    have LW : Later w2 W3 := by rw [hW]; exact ((Below.refl _ _).alloc (Nat.le_refl _) _)
                    have szW : W3.heap.size = w2.heap.size + 1 := by rw [hW]; simp
                    clear hW s0 s1 s2 s3 s4 s5 s6 lts
                    replace HB := hide (onward HB.out LW)
                    replace Hs := hide (blk_later Hs.out LW)
                    have Hx := hide bq0
                    clear bq0 LW szW
                    refine (Hcn.out _ HB.out).mono ?_
                    rintro e w4 ⟨rfl, hb⟩
                    replace HB := hide (onward HB.out hb)
                    replace Hs := hide (blk_later Hs.out hb)
                    replace Hx := hide (blk_later Hx.out hb)
                    clear hb
                    obtain ⟨s0, s1, s2, s3, s4, s5, s6⟩ := Hs.out.c7
                    have lts := Hs.out.lt
                    go_wp2_with fail
                    refine (Hvx.out _).mono ?_
                    rintro e w5 ⟨rfl, hb⟩
                    replace HB := hide (onward HB.out hb)
                    replace Hs := hide (blk_later Hs.out hb)
                    replace Hx := hide (blk_later Hx.out hb)
                    clear hb s0 s1 s2 s3 s4 s5 s6 lts
                    obtain ⟨s0, s1, s2, s3, s4, s5, s6⟩ := Hs.out.c7
                    have lts := Hs.out.lt
                    go_wp2_with fail
                    refine (Hi1.out _).mono ?_
                    rintro e w' ⟨rfl, rfl⟩
                    obtain ⟨s0, s1, s2, s3, s4, s5, s6⟩ := Hs.out.c7
                    have lts := Hs.out.lt
                    go_wp2_with fail
                    refine (Hi2.out _).mono ?_
                    rintro e w' ⟨rfl, rfl⟩
                    go_wp2
                    go_ret
                    have hsz := HB.out.size
                    refine ⟨rfl, .slice A l.length c, ?_⟩
                    try rw [if_neg (by decide)]
                    refine H.out.later ?_
                    repeat (first | exact HB.out | (refine Below.setCell ?_ (by first | omega | (simp; done) | (simp; omega)) _) | (refine Below.alloc ?_ (by first | omega | (simp; done) | (simp; omega)) _) | (refine below_drewN ?_ _))
                  | true =>
                    rw [h7] at hi2
                    have hE2 := e4 (by rw [hv, h5, decide_eq_true (show sst ≤ 4294967296 by omega), h7]; decide)
                    replace Hi2 := hide hi2
                    clear hi2 e3 e4 hE
                    have hsp := Hsc.out sp
                    unfold standardV at hsp
                    obtain ⟨b1, b2, b3⟩ := inS_iff.1 hv
                    obtain ⟨b4, b5⟩ := inR_iff.1 h5
                    cases hq : stdT l sp with
                    | none =>
                      rw [hq] at hE2
                      obtain rfl : re = 4 := hE2
                      simp only [hq] at hsp
                      unfold stdV std0 at hsp
                      have Hsp := hide hsp
                      clear hsp
                      go_enter Try.func32, Try.ntmps32
                      go_wp2_with fail
                      refine at_world fun W hW => ?_
                      have bq0 : Blk W w.heap.size 67 #[.string sn, .string sp, .int .i64 slo, .int .i64 shi, .int .i64 stm, .int .i64 sst, .int .i64 sdr] := by rw [hW]; exact Blk.new _ _ _
                      have LW : Later w W := by rw [hW]; exact ((Below.refl _ _).alloc (Nat.le_refl _) _)
                      have szW : W.heap.size = w.heap.size + 1 := by rw [hW]; simp
                      clear hW
                      replace HB := hide (onward HB.out LW)
                      have Hs := hide bq0
                      clear bq0 LW szW
                      refine (Hnm.out _).mono ?_
                      rintro e w' ⟨rfl, rfl⟩
                      obtain ⟨s0, s1, s2, s3, s4, s5, s6⟩ := Hs.out.c7
                      have lts := Hs.out.lt
                      go_wp2_with fail
                      refine (Hsn.out _ HB.out).mono ?_
                      rintro e w2 ⟨rfl, hb⟩
                      replace HB := hide (onward HB.out hb)
                      replace Hs := hide (blk_later Hs.out hb)
                      clear hb s0 s1 s2 s3 s4 s5 s6 lts
                      obtain ⟨s0, s1, s2, s3, s4, s5, s6⟩ := Hs.out.c7
                      have lts := Hs.out.lt
                      go_wp2_with fail
                      refine at_world fun W3 hW => ?_
                      have bq0 : Blk W3 w2.heap.size 67 #[.string ⟨#[]⟩, .string ⟨#[]⟩, .int .i64 0, .int .i64 0, .int .i64 0, .int .i64 0, .int .i64 0] := by rw [hW]; exact Blk.new _ _ _
                      have LW : Later w2 W3 := by rw [hW]; exact ((Below.refl _ _).alloc (Nat.le_refl _) _)
                      have szW : W3.heap.size = w2.heap.size + 1 := by rw [hW]; simp
                      clear hW s0 s1 s2 s3 s4 s5 s6 lts
                      replace HB := hide (onward HB.out LW)
                      replace Hs := hide (blk_later Hs.out LW)
                      have Hx := hide bq0
                      clear bq0 LW szW
                      refine (Hcn.out _ HB.out).mono ?_
                      rintro e w4 ⟨rfl, hb⟩
                      replace HB := hide (onward HB.out hb)
                      replace Hs := hide (blk_later Hs.out hb)
                      replace Hx := hide (blk_later Hx.out hb)
                      clear hb
                      obtain ⟨s0, s1, s2, s3, s4, s5, s6⟩ := Hs.out.c7
                      have lts := Hs.out.lt
                      go_wp2_with fail
                      refine (Hvx.out _).mono ?_
                      rintro e w5 ⟨rfl, hb⟩
                      replace HB := hide (onward HB.out hb)
                      replace Hs := hide (blk_later Hs.out hb)
                      replace Hx := hide (blk_later Hx.out hb)
                      clear hb s0 s1 s2 s3 s4 s5 s6 lts
                      obtain ⟨s0, s1, s2, s3, s4, s5, s6⟩ := Hs.out.c7
                      have lts := Hs.out.lt
                      go_wp2_with fail
                      refine (Hi1.out _).mono ?_
                      rintro e w' ⟨rfl, rfl⟩
                      obtain ⟨s0, s1, s2, s3, s4, s5, s6⟩ := Hs.out.c7
                      have lts := Hs.out.lt
                      go_wp2_with fail
                      refine (Hi2.out _).mono ?_
                      rintro e w' ⟨rfl, rfl⟩
                      obtain ⟨s0, s1, s2, s3, s4, s5, s6⟩ := Hs.out.c7
                      have lts := Hs.out.lt
                      go_wp2_with fail
                      refine (Hsp.out _ HB.out).mono ?_
                      rintro e w6 ⟨rfl, hb⟩
                      replace HB := hide (onward HB.out hb)
                      replace Hs := hide (blk_later Hs.out hb)
                      replace Hx := hide (blk_later Hx.out hb)
                      clear hb s0 s1 s2 s3 s4 s5 s6 lts
                      obtain ⟨s0, s1, s2, s3, s4, s5, s6⟩ := Hs.out.c7
                      have lts := Hs.out.lt
                      go_wp2
                      go_ret
                      have hsz := HB.out.size
                      refine ⟨rfl, .slice A l.length c, ?_⟩
                      try rw [if_neg (by decide)]
                      refine H.out.later ?_
                      repeat (first | exact HB.out | (refine Below.setCell ?_ (by first | omega | (simp; done) | (simp; omega)) _) | (refine Below.alloc ?_ (by first | omega | (simp; done) | (simp; omega)) _) | (refine below_drewN ?_ _))
                    | some q =>
                      rw [hq] at hE2
                      simp only at hE2
                      simp only [hq] at hsp
                      have hvq := Hvo.out q hq
                      have hmq := Hmd.out q hq hp b4 (by omega) b1 b2 (by omega)
                      have hin := fun W => rIn_any stm q.time q.stop W
                      obtain ⟨qn, qp, qlo, qhi, qtm, qst, qdr⟩ := q
                      unfold stdV at hsp
                      simp only at hsp hin hE2
                      have Hsp := hide hsp
                      clear hsp hq
                      cases h8 : voidT l sp with
                      | true =>
                        rw [h8, Bool.true_or, if_pos rfl] at hE2
                        obtain rfl : re = 22 := hE2
                        rw [h8] at hvq
                        have Hvq := hide hvq
                        clear hvq hmq hin h8
                        go_enter Try.func32, Try.ntmps32
                        go_wp2_with fail
                        refine at_world fun W hW => ?_
                        have bq0 : Blk W w.heap.size 67 #[.string sn, .string sp, .int .i64 slo, .int .i64 shi, .int .i64 stm, .int .i64 sst, .int .i64 sdr] := by rw [hW]; exact Blk.new _ _ _
                        have LW : Later w W := by rw [hW]; exact ((Below.refl _ _).alloc (Nat.le_refl _) _)
                        have szW : W.heap.size = w.heap.size + 1 := by rw [hW]; simp
                        clear hW
                        replace HB := hide (onward HB.out LW)
                        have Hs := hide bq0
                        clear bq0 LW szW
                        refine (Hnm.out _).mono ?_
                        rintro e w' ⟨rfl, rfl⟩
                        obtain ⟨s0, s1, s2, s3, s4, s5, s6⟩ := Hs.out.c7
                        have lts := Hs.out.lt
                        go_wp2_with fail
                        refine (Hsn.out _ HB.out).mono ?_
                        rintro e w2 ⟨rfl, hb⟩
                        replace HB := hide (onward HB.out hb)
                        replace Hs := hide (blk_later Hs.out hb)
                        clear hb s0 s1 s2 s3 s4 s5 s6 lts
                        obtain ⟨s0, s1, s2, s3, s4, s5, s6⟩ := Hs.out.c7
                        have lts := Hs.out.lt
                        go_wp2_with fail
                        refine at_world fun W3 hW => ?_
                        have bq0 : Blk W3 w2.heap.size 67 #[.string ⟨#[]⟩, .string ⟨#[]⟩, .int .i64 0, .int .i64 0, .int .i64 0, .int .i64 0, .int .i64 0] := by rw [hW]; exact Blk.new _ _ _
                        have LW : Later w2 W3 := by rw [hW]; exact ((Below.refl _ _).alloc (Nat.le_refl _) _)
                        have szW : W3.heap.size = w2.heap.size + 1 := by rw [hW]; simp
                        clear hW s0 s1 s2 s3 s4 s5 s6 lts
                        replace HB := hide (onward HB.out LW)
                        replace Hs := hide (blk_later Hs.out LW)
                        have Hx := hide bq0
                        clear bq0 LW szW
                        refine (Hcn.out _ HB.out).mono ?_
                        rintro e w4 ⟨rfl, hb⟩
                        replace HB := hide (onward HB.out hb)
                        replace Hs := hide (blk_later Hs.out hb)
                        replace Hx := hide (blk_later Hx.out hb)
                        clear hb
                        obtain ⟨s0, s1, s2, s3, s4, s5, s6⟩ := Hs.out.c7
                        have lts := Hs.out.lt
                        go_wp2_with fail
                        refine (Hvx.out _).mono ?_
                        rintro e w5 ⟨rfl, hb⟩
                        replace HB := hide (onward HB.out hb)
                        replace Hs := hide (blk_later Hs.out hb)
                        replace Hx := hide (blk_later Hx.out hb)
                        clear hb s0 s1 s2 s3 s4 s5 s6 lts
                        obtain ⟨s0, s1, s2, s3, s4, s5, s6⟩ := Hs.out.c7
                        have lts := Hs.out.lt
                        go_wp2_with fail
                        refine (Hi1.out _).mono ?_
                        rintro e w' ⟨rfl, rfl⟩
                        obtain ⟨s0, s1, s2, s3, s4, s5, s6⟩ := Hs.out.c7
                        have lts := Hs.out.lt
                        go_wp2_with fail
                        refine (Hi2.out _).mono ?_
                        rintro e w' ⟨rfl, rfl⟩
                        obtain ⟨s0, s1, s2, s3, s4, s5, s6⟩ := Hs.out.c7
                        have lts := Hs.out.lt
                        go_wp2_with fail
                        refine (Hsp.out _ HB.out).mono ?_
                        rintro e w6 ⟨rfl, hb⟩
                        replace HB := hide (onward HB.out hb)
                        replace Hs := hide (blk_later Hs.out hb)
                        replace Hx := hide (blk_later Hx.out hb)
                        clear hb s0 s1 s2 s3 s4 s5 s6 lts
                        obtain ⟨s0, s1, s2, s3, s4, s5, s6⟩ := Hs.out.c7
                        have lts := Hs.out.lt
                        go_wp2_with fail
                        refine at_world fun W7 hW => ?_
                        have bq0 : Blk W7 w6.heap.size 67 #[.string qn, .string qp, .int .i64 qlo, .int .i64 qhi, .int .i64 qtm, .int .i64 qst, .int .i64 qdr] := by rw [hW]; exact Blk.new _ _ _
                        have LW : Later w6 W7 := by rw [hW]; exact ((Below.refl _ _).alloc (Nat.le_refl _) _)
                        have szW : W7.heap.size = w6.heap.size + 1 := by rw [hW]; simp
                        clear hW s0 s1 s2 s3 s4 s5 s6 lts
                        replace HB := hide (onward HB.out LW)
                        replace Hs := hide (blk_later Hs.out LW)
                        replace Hx := hide (blk_later Hx.out LW)
                        have Hq := hide bq0
                        clear bq0 LW szW
                        refine (Hvq.out _ HB.out).mono ?_
                        rintro e w8 ⟨rfl, hb⟩
                        replace HB := hide (onward HB.out hb)
                        replace Hs := hide (blk_later Hs.out hb)
                        replace Hx := hide (blk_later Hx.out hb)
                        replace Hq := hide (blk_later Hq.out hb)
                        clear hb
                        go_wp2
                        go_ret
                        have hsz := HB.out.size
                        refine ⟨rfl, .slice A l.length c, ?_⟩
                        try rw [if_neg (by decide)]
                        refine H.out.later ?_
                        repeat (first | exact HB.out | (refine Below.setCell ?_ (by first | omega | (simp; done) | (simp; omega)) _) | (refine Below.alloc ?_ (by first | omega | (simp; done) | (simp; omega)) _) | (refine below_drewN ?_ _))
                      | false =>
                        rw [h8, Bool.false_or] at hE2
                        rw [h8] at hvq
                        have Hvq := hide hvq
                        clear hvq h8
                        cases h9 : inR stm qtm qst with
                        | false =>
                          rw [h9, if_pos (show (!false) = true from rfl)] at hE2
                          obtain rfl : re = 22 := hE2
                          rw [h9] at hin
                          have Hin := hide hin
                          clear hmq hin h9
                          go_enter Try.func32, Try.ntmps32
                          go_wp2_with fail
                          refine at_world fun W hW => ?_
                          have bq0 : Blk W w.heap.size 67 #[.string sn, .string sp, .int .i64 slo, .int .i64 shi, .int .i64 stm, .int .i64 sst, .int .i64 sdr] := by rw [hW]; exact Blk.new _ _ _
                          have LW : Later w W := by rw [hW]; exact ((Below.refl _ _).alloc (Nat.le_refl _) _)
                          have szW : W.heap.size = w.heap.size + 1 := by rw [hW]; simp
                          clear hW
                          replace HB := hide (onward HB.out LW)
                          have Hs := hide bq0
                          clear bq0 LW szW
                          refine (Hnm.out _).mono ?_
                          rintro e w' ⟨rfl, rfl⟩
                          obtain ⟨s0, s1, s2, s3, s4, s5, s6⟩ := Hs.out.c7
                          have lts := Hs.out.lt
                          go_wp2_with fail
                          refine (Hsn.out _ HB.out).mono ?_
                          rintro e w2 ⟨rfl, hb⟩
                          replace HB := hide (onward HB.out hb)
                          replace Hs := hide (blk_later Hs.out hb)
                          clear hb s0 s1 s2 s3 s4 s5 s6 lts
                          obtain ⟨s0, s1, s2, s3, s4, s5, s6⟩ := Hs.out.c7
                          have lts := Hs.out.lt
                          go_wp2_with fail
                          refine at_world fun W3 hW => ?_
                          have bq0 : Blk W3 w2.heap.size 67 #[.string ⟨#[]⟩, .string ⟨#[]⟩, .int .i64 0, .int .i64 0, .int .i64 0, .int .i64 0, .int .i64 0] := by rw [hW]; exact Blk.new _ _ _
                          have LW : Later w2 W3 := by rw [hW]; exact ((Below.refl _ _).alloc (Nat.le_refl _) _)
                          have szW : W3.heap.size = w2.heap.size + 1 := by rw [hW]; simp
                          clear hW s0 s1 s2 s3 s4 s5 s6 lts
                          replace HB := hide (onward HB.out LW)
                          replace Hs := hide (blk_later Hs.out LW)
                          have Hx := hide bq0
                          clear bq0 LW szW
                          refine (Hcn.out _ HB.out).mono ?_
                          rintro e w4 ⟨rfl, hb⟩
                          replace HB := hide (onward HB.out hb)
                          replace Hs := hide (blk_later Hs.out hb)
                          replace Hx := hide (blk_later Hx.out hb)
                          clear hb
                          obtain ⟨s0, s1, s2, s3, s4, s5, s6⟩ := Hs.out.c7
                          have lts := Hs.out.lt
                          go_wp2_with fail
                          refine (Hvx.out _).mono ?_
                          rintro e w5 ⟨rfl, hb⟩
                          replace HB := hide (onward HB.out hb)
                          replace Hs := hide (blk_later Hs.out hb)
                          replace Hx := hide (blk_later Hx.out hb)
                          clear hb s0 s1 s2 s3 s4 s5 s6 lts
                          obtain ⟨s0, s1, s2, s3, s4, s5, s6⟩ := Hs.out.c7
                          have lts := Hs.out.lt
                          go_wp2_with fail
                          refine (Hi1.out _).mono ?_
                          rintro e w' ⟨rfl, rfl⟩
                          obtain ⟨s0, s1, s2, s3, s4, s5, s6⟩ := Hs.out.c7
                          have lts := Hs.out.lt
                          go_wp2_with fail
                          refine (Hi2.out _).mono ?_
                          rintro e w' ⟨rfl, rfl⟩
                          obtain ⟨s0, s1, s2, s3, s4, s5, s6⟩ := Hs.out.c7
                          have lts := Hs.out.lt
                          go_wp2_with fail
                          refine (Hsp.out _ HB.out).mono ?_
                          rintro e w6 ⟨rfl, hb⟩
                          replace HB := hide (onward HB.out hb)
                          replace Hs := hide (blk_later Hs.out hb)
                          replace Hx := hide (blk_later Hx.out hb)
                          clear hb s0 s1 s2 s3 s4 s5 s6 lts
                          obtain ⟨s0, s1, s2, s3, s4, s5, s6⟩ := Hs.out.c7
                          have lts := Hs.out.lt
                          go_wp2_with fail
                          refine at_world fun W7 hW => ?_
                          have bq0 : Blk W7 w6.heap.size 67 #[.string qn, .string qp, .int .i64 qlo, .int .i64 qhi, .int .i64 qtm, .int .i64 qst, .int .i64 qdr] := by rw [hW]; exact Blk.new _ _ _
                          have LW : Later w6 W7 := by rw [hW]; exact ((Below.refl _ _).alloc (Nat.le_refl _) _)
                          have szW : W7.heap.size = w6.heap.size + 1 := by rw [hW]; simp
                          clear hW s0 s1 s2 s3 s4 s5 s6 lts
                          replace HB := hide (onward HB.out LW)
                          replace Hs := hide (blk_later Hs.out LW)
                          replace Hx := hide (blk_later Hx.out LW)
                          have Hq := hide bq0
                          clear bq0 LW szW
                          refine (Hvq.out _ HB.out).mono ?_
                          rintro e w8 ⟨rfl, hb⟩
                          replace HB := hide (onward HB.out hb)
                          replace Hs := hide (blk_later Hs.out hb)
                          replace Hx := hide (blk_later Hx.out hb)
                          replace Hq := hide (blk_later Hq.out hb)
                          clear hb
                          obtain ⟨s0, s1, s2, s3, s4, s5, s6⟩ := Hs.out.c7
                          have lts := Hs.out.lt
                          obtain ⟨q0, q1, q2, q3, q4, q5, q6⟩ := Hq.out.c7
                          have ltq := Hq.out.lt
                          go_wp2_with fail
                          refine (Hin.out _).mono ?_
                          rintro e w' ⟨rfl, rfl⟩
                          go_wp2
                          go_ret
                          have hsz := HB.out.size
                          refine ⟨rfl, .slice A l.length c, ?_⟩
                          try rw [if_neg (by decide)]
                          refine H.out.later ?_
                          repeat (first | exact HB.out | (refine Below.setCell ?_ (by first | omega | (simp; done) | (simp; omega)) _) | (refine Below.alloc ?_ (by first | omega | (simp; done) | (simp; omega)) _) | (refine below_drewN ?_ _))
                        | true =>
                          rw [h9, if_neg (show ¬ (!true) = true by decide)] at hE2
                          rw [h9] at hin
                          have Hin := hide hin
                          generalize scaledS (valueT l ⟨qn, qp, qlo, qhi, qtm, qst, qdr⟩ stm) (slo, shi) = mv at *
                          obtain ⟨mv1, mv2⟩ := mv
                          simp only at hE2 hmq
                          have Hmq := hide hmq
                          clear hmq hin h9
                          by_cases h10 : 1000000000 < mv2
                          · rw [if_pos h10] at hE2
                            obtain rfl : re = 26 := hE2
                            go_enter Try.func32, Try.ntmps32
                            go_wp2_with fail
                            refine at_world fun W hW => ?_
                            have bq0 : Blk W w.heap.size 67 #[.string sn, .string sp, .int .i64 slo, .int .i64 shi, .int .i64 stm, .int .i64 sst, .int .i64 sdr] := by rw [hW]; exact Blk.new _ _ _
                            have LW : Later w W := by rw [hW]; exact ((Below.refl _ _).alloc (Nat.le_refl _) _)
                            have szW : W.heap.size = w.heap.size + 1 := by rw [hW]; simp
                            clear hW
                            replace HB := hide (onward HB.out LW)
                            have Hs := hide bq0
                            clear bq0 LW szW
                            refine (Hnm.out _).mono ?_
                            rintro e w' ⟨rfl, rfl⟩
                            obtain ⟨s0, s1, s2, s3, s4, s5, s6⟩ := Hs.out.c7
                            have lts := Hs.out.lt
                            go_wp2_with fail
                            refine (Hsn.out _ HB.out).mono ?_
                            rintro e w2 ⟨rfl, hb⟩
                            replace HB := hide (onward HB.out hb)
                            replace Hs := hide (blk_later Hs.out hb)
                            clear hb s0 s1 s2 s3 s4 s5 s6 lts
                            obtain ⟨s0, s1, s2, s3, s4, s5, s6⟩ := Hs.out.c7
                            have lts := Hs.out.lt
                            go_wp2_with fail
                            refine at_world fun W3 hW => ?_
                            have bq0 : Blk W3 w2.heap.size 67 #[.string ⟨#[]⟩, .string ⟨#[]⟩, .int .i64 0, .int .i64 0, .int .i64 0, .int .i64 0, .int .i64 0] := by rw [hW]; exact Blk.new _ _ _
                            have LW : Later w2 W3 := by rw [hW]; exact ((Below.refl _ _).alloc (Nat.le_refl _) _)
                            have szW : W3.heap.size = w2.heap.size + 1 := by rw [hW]; simp
                            clear hW s0 s1 s2 s3 s4 s5 s6 lts
                            replace HB := hide (onward HB.out LW)
                            replace Hs := hide (blk_later Hs.out LW)
                            have Hx := hide bq0
                            clear bq0 LW szW
                            refine (Hcn.out _ HB.out).mono ?_
                            rintro e w4 ⟨rfl, hb⟩
                            replace HB := hide (onward HB.out hb)
                            replace Hs := hide (blk_later Hs.out hb)
                            replace Hx := hide (blk_later Hx.out hb)
                            clear hb
                            obtain ⟨s0, s1, s2, s3, s4, s5, s6⟩ := Hs.out.c7
                            have lts := Hs.out.lt
                            go_wp2_with fail
                            refine (Hvx.out _).mono ?_
                            rintro e w5 ⟨rfl, hb⟩
                            replace HB := hide (onward HB.out hb)
                            replace Hs := hide (blk_later Hs.out hb)
                            replace Hx := hide (blk_later Hx.out hb)
                            clear hb s0 s1 s2 s3 s4 s5 s6 lts
                            obtain ⟨s0, s1, s2, s3, s4, s5, s6⟩ := Hs.out.c7
                            have lts := Hs.out.lt
                            go_wp2_with fail
                            refine (Hi1.out _).mono ?_
                            rintro e w' ⟨rfl, rfl⟩
                            obtain ⟨s0, s1, s2, s3, s4, s5, s6⟩ := Hs.out.c7
                            have lts := Hs.out.lt
                            go_wp2_with fail
                            refine (Hi2.out _).mono ?_
                            rintro e w' ⟨rfl, rfl⟩
                            obtain ⟨s0, s1, s2, s3, s4, s5, s6⟩ := Hs.out.c7
                            have lts := Hs.out.lt
                            go_wp2_with fail
                            refine (Hsp.out _ HB.out).mono ?_
                            rintro e w6 ⟨rfl, hb⟩
                            replace HB := hide (onward HB.out hb)
                            replace Hs := hide (blk_later Hs.out hb)
                            replace Hx := hide (blk_later Hx.out hb)
                            clear hb s0 s1 s2 s3 s4 s5 s6 lts
                            obtain ⟨s0, s1, s2, s3, s4, s5, s6⟩ := Hs.out.c7
                            have lts := Hs.out.lt
                            go_wp2_with fail
                            refine at_world fun W7 hW => ?_
                            have bq0 : Blk W7 w6.heap.size 67 #[.string qn, .string qp, .int .i64 qlo, .int .i64 qhi, .int .i64 qtm, .int .i64 qst, .int .i64 qdr] := by rw [hW]; exact Blk.new _ _ _
                            have LW : Later w6 W7 := by rw [hW]; exact ((Below.refl _ _).alloc (Nat.le_refl _) _)
                            have szW : W7.heap.size = w6.heap.size + 1 := by rw [hW]; simp
                            clear hW s0 s1 s2 s3 s4 s5 s6 lts
                            replace HB := hide (onward HB.out LW)
                            replace Hs := hide (blk_later Hs.out LW)
                            replace Hx := hide (blk_later Hx.out LW)
                            have Hq := hide bq0
                            clear bq0 LW szW
                            refine (Hvq.out _ HB.out).mono ?_
                            rintro e w8 ⟨rfl, hb⟩
                            replace HB := hide (onward HB.out hb)
                            replace Hs := hide (blk_later Hs.out hb)
                            replace Hx := hide (blk_later Hx.out hb)
                            replace Hq := hide (blk_later Hq.out hb)
                            clear hb
                            obtain ⟨s0, s1, s2, s3, s4, s5, s6⟩ := Hs.out.c7
                            have lts := Hs.out.lt
                            obtain ⟨q0, q1, q2, q3, q4, q5, q6⟩ := Hq.out.c7
                            have ltq := Hq.out.lt
                            go_wp2_with fail
                            refine (Hin.out _).mono ?_
                            rintro e w' ⟨rfl, rfl⟩
                            obtain ⟨s0, s1, s2, s3, s4, s5, s6⟩ := Hs.out.c7
                            have lts := Hs.out.lt
                            go_wp2_with fail
                            refine (Hmq.out _ HB.out).mono ?_
                            rintro e w9 ⟨rfl, hb⟩
                            replace HB := hide (onward HB.out hb)
                            replace Hs := hide (blk_later Hs.out hb)
                            replace Hx := hide (blk_later Hx.out hb)
                            replace Hq := hide (blk_later Hq.out hb)
                            clear hb s0 s1 s2 s3 s4 s5 s6 lts q0 q1 q2 q3 q4 q5 q6 ltq
                            go_wp2
                            go_ret
                            have hsz := HB.out.size
                            refine ⟨rfl, .slice A l.length c, ?_⟩
                            try rw [if_neg (by decide)]
                            refine H.out.later ?_
                            repeat (first | exact HB.out | (refine Below.setCell ?_ (by first | omega | (simp; done) | (simp; omega)) _) | (refine Below.alloc ?_ (by first | omega | (simp; done) | (simp; omega)) _) | (refine below_drewN ?_ _))
                          · rw [if_neg h10] at hE2
                            obtain rfl : re = 0 := hE2
                            go_enter Try.func32, Try.ntmps32
                            go_wp2_with fail
                            refine at_world fun W hW => ?_
                            have bq0 : Blk W w.heap.size 67 #[.string sn, .string sp, .int .i64 slo, .int .i64 shi, .int .i64 stm, .int .i64 sst, .int .i64 sdr] := by rw [hW]; exact Blk.new _ _ _
                            have LW : Later w W := by rw [hW]; exact ((Below.refl _ _).alloc (Nat.le_refl _) _)
                            have szW : W.heap.size = w.heap.size + 1 := by rw [hW]; simp
                            clear hW
                            replace HB := hide (onward HB.out LW)
                            have Hs := hide bq0
                            clear bq0 LW szW
                            refine (Hnm.out _).mono ?_
                            rintro e w' ⟨rfl, rfl⟩
                            obtain ⟨s0, s1, s2, s3, s4, s5, s6⟩ := Hs.out.c7
                            have lts := Hs.out.lt
                            go_wp2_with fail
                            refine (Hsn.out _ HB.out).mono ?_
                            rintro e w2 ⟨rfl, hb⟩
                            replace HB := hide (onward HB.out hb)
                            replace Hs := hide (blk_later Hs.out hb)
                            clear hb s0 s1 s2 s3 s4 s5 s6 lts
                            obtain ⟨s0, s1, s2, s3, s4, s5, s6⟩ := Hs.out.c7
                            have lts := Hs.out.lt
                            go_wp2_with fail
                            refine at_world fun W3 hW => ?_
                            have bq0 : Blk W3 w2.heap.size 67 #[.string ⟨#[]⟩, .string ⟨#[]⟩, .int .i64 0, .int .i64 0, .int .i64 0, .int .i64 0, .int .i64 0] := by rw [hW]; exact Blk.new _ _ _
                            have LW : Later w2 W3 := by rw [hW]; exact ((Below.refl _ _).alloc (Nat.le_refl _) _)
                            have szW : W3.heap.size = w2.heap.size + 1 := by rw [hW]; simp
                            clear hW s0 s1 s2 s3 s4 s5 s6 lts
                            replace HB := hide (onward HB.out LW)
                            replace Hs := hide (blk_later Hs.out LW)
                            have Hx := hide bq0
                            clear bq0 LW szW
                            refine (Hcn.out _ HB.out).mono ?_
                            rintro e w4 ⟨rfl, hb⟩
                            replace HB := hide (onward HB.out hb)
                            replace Hs := hide (blk_later Hs.out hb)
                            replace Hx := hide (blk_later Hx.out hb)
                            clear hb
                            obtain ⟨s0, s1, s2, s3, s4, s5, s6⟩ := Hs.out.c7
                            have lts := Hs.out.lt
                            go_wp2_with fail
                            refine (Hvx.out _).mono ?_
                            rintro e w5 ⟨rfl, hb⟩
                            replace HB := hide (onward HB.out hb)
                            replace Hs := hide (blk_later Hs.out hb)
                            replace Hx := hide (blk_later Hx.out hb)
                            clear hb s0 s1 s2 s3 s4 s5 s6 lts
                            obtain ⟨s0, s1, s2, s3, s4, s5, s6⟩ := Hs.out.c7
                            have lts := Hs.out.lt
                            go_wp2_with fail
                            refine (Hi1.out _).mono ?_
                            rintro e w' ⟨rfl, rfl⟩
                            obtain ⟨s0, s1, s2, s3, s4, s5, s6⟩ := Hs.out.c7
                            have lts := Hs.out.lt
                            go_wp2_with fail
                            refine (Hi2.out _).mono ?_
                            rintro e w' ⟨rfl, rfl⟩
                            obtain ⟨s0, s1, s2, s3, s4, s5, s6⟩ := Hs.out.c7
                            have lts := Hs.out.lt
                            go_wp2_with fail
                            refine (Hsp.out _ HB.out).mono ?_
                            rintro e w6 ⟨rfl, hb⟩
                            replace HB := hide (onward HB.out hb)
                            replace Hs := hide (blk_later Hs.out hb)
                            replace Hx := hide (blk_later Hx.out hb)
                            clear hb s0 s1 s2 s3 s4 s5 s6 lts
                            obtain ⟨s0, s1, s2, s3, s4, s5, s6⟩ := Hs.out.c7
                            have lts := Hs.out.lt
                            go_wp2_with fail
                            refine at_world fun W7 hW => ?_
                            have bq0 : Blk W7 w6.heap.size 67 #[.string qn, .string qp, .int .i64 qlo, .int .i64 qhi, .int .i64 qtm, .int .i64 qst, .int .i64 qdr] := by rw [hW]; exact Blk.new _ _ _
                            have LW : Later w6 W7 := by rw [hW]; exact ((Below.refl _ _).alloc (Nat.le_refl _) _)
                            have szW : W7.heap.size = w6.heap.size + 1 := by rw [hW]; simp
                            clear hW s0 s1 s2 s3 s4 s5 s6 lts
                            replace HB := hide (onward HB.out LW)
                            replace Hs := hide (blk_later Hs.out LW)
                            replace Hx := hide (blk_later Hx.out LW)
                            have Hq := hide bq0
                            clear bq0 LW szW
                            refine (Hvq.out _ HB.out).mono ?_
                            rintro e w8 ⟨rfl, hb⟩
                            replace HB := hide (onward HB.out hb)
                            replace Hs := hide (blk_later Hs.out hb)
                            replace Hx := hide (blk_later Hx.out hb)
                            replace Hq := hide (blk_later Hq.out hb)
                            clear hb
                            obtain ⟨s0, s1, s2, s3, s4, s5, s6⟩ := Hs.out.c7
                            have lts := Hs.out.lt
                            obtain ⟨q0, q1, q2, q3, q4, q5, q6⟩ := Hq.out.c7
                            have ltq := Hq.out.lt
                            go_wp2_with fail
                            refine (Hin.out _).mono ?_
                            rintro e w' ⟨rfl, rfl⟩
                            obtain ⟨s0, s1, s2, s3, s4, s5, s6⟩ := Hs.out.c7
                            have lts := Hs.out.lt
                            go_wp2_with fail
                            refine (Hmq.out _ HB.out).mono ?_
                            rintro e w9 ⟨rfl, hb⟩
                            replace HB := hide (onward HB.out hb)
                            replace Hs := hide (blk_later Hs.out hb)
                            replace Hx := hide (blk_later Hx.out hb)
                            replace Hq := hide (blk_later Hq.out hb)
                            clear hb s0 s1 s2 s3 s4 s5 s6 lts q0 q1 q2 q3 q4 q5 q6 ltq
                            go_wp2_with fail
                            have hRM := H.out.later HB.out
                            have hrow := Mem.row_ hRM.mem 1 rfl
                            have Hbk := hide (Mem.blk_ hRM.mem 0 rfl)
                            have hnp : (Value.slice A l.length c).ownBlock ≠ some p := fun e => Mem.apart hRM.mem 0 1 rfl rfl (by decide) p (List.mem_singleton.2 rfl) (optL_iff.2 e)
                            have hns2 : (Value.slice A l.length c).ownBlock ≠ some w.heap.size := own_high_ne (Mem.row_ H.out.mem 1 rfl) (Nat.le_refl _)
                            have hgd := Hgood.out (by first | rfl | trivial)
                            have x4 : w9.cell? ⟨p, 0, none⟩ = some (.slice A l.length c) := Hbk.out.c 0 rfl
                            have ltx4 := Hbk.out.lt
                            have Htr := hide hrow
                            have HneT := hide hnp
                            have HRM := hide hRM
                            clear hrow hRM
                            obtain ⟨i0, hii, hz0, hz1, hz2⟩ := info_parts entryInfo
                            have Hi := hide hii
                            have Hz0 := hide hz0
                            have Hz1 := hide hz1
                            have Hz2 := hide hz2
                            clear hii hz0 hz1 hz2
                            obtain ⟨s0, s1, s2, s3, s4, s5, s6⟩ := Hs.out.c7
                            have lts := Hs.out.lt
                            have hlm : l.length < 2000 := by omega
                            have hbz : w0.heap.size ≤ w9.heap.size := HRM.out.mem.size
                            apply wp_region_F (w0 := w9) [[], [], [1], [1, 2], [1, 2, 3], [], [5], [5, 6], [1, 2, 3, 4, 5, 6, 7], [0, 1, 2, 3, 4, 5, 6, 7, 8], [0, 1, 2, 3, 4, 5, 6, 7, 8, 9], [0, 1, 2, 3, 4, 5, 6, 7, 8, 9, 10]] [true, true, true, true, true, true, true, false, false, true, true, false] [false, false, false, false, false, false, false, false, false, false, false, false] [⟨7, none, [], []⟩, ⟨8, none, [7], []⟩, ⟨11, none, [], [8]⟩] (fillQ 8 (.slice A l.length c) 11 p) [11] (fun ixq y => match ixq with | 7 => .slice (y 0).1 1 1 | 8 => .slice (y 0).1 (l.length + 1) (y 0).2 | 11 => undef | _ => undef) (fun ixq x F wq => match ixq with | 7 => OwnF wq F w9.heap.size 121 15 (.slice (x 7 0).1 1 1) 1 #[.int .i64 2, .string ⟨#[]⟩, .int .i64 0, .string sn, .string sp, .int .i64 slo, .int .i64 shi, .int .i64 stm, .int .i64 sst, .int .i64 sdr, .string ⟨#[]⟩, .string ⟨#[]⟩, .int .i64 0, .int .i64 0, .int .i64 0].toList | 8 => OwnF wq F w0.heap.size 121 15 (.slice (x 8 0).1 (l.length + 1) (x 8 0).2) (l.length + 1) ((refRow l) ++ (#[.int .i64 2, .string ⟨#[]⟩, .int .i64 0, .string sn, .string sp, .int .i64 slo, .int .i64 shi, .int .i64 stm, .int .i64 sst, .int .i64 sdr, .string ⟨#[]⟩, .string ⟨#[]⟩, .int .i64 0, .int .i64 0, .int .i64 0] : Array Value).toList) ∧ FreshOr w9.heap.size (.slice A l.length c) (.slice (x 8 0).1 (l.length + 1) (x 8 0).2) | 11 => F p ∧ Blk wq p 117 #[.slice (x 8 0).1 (l.length + 1) (x 8 0).2] | _ => True) (fun a x => (((a).put (some 96) (.slice ((x 7) 0).1 1 1)).put (some 97) (.slice ((x 8) 0).1 (l.length + 1) ((x 8) 0).2)).put (none) (undef)) (by kernel_rfl) (by kernel_rfl) (by kernel_rfl) (fun _ => rfl) [91, 98] (by kernel_rfl) (fillQ_lt (fun g hg => (Htr.out.lt g hg).2) (by omega)) (fillQ_ne HneT.out)
                            · intro x D hD
                              have hne := hD.some
                              have k4 := liftS hD x4 (earlyQ (by first | assumption | omega) HneT.out)
                              have n0 := liftS hD s0 (earlyQ (by first | assumption | omega) hns2)
                              have n1 := liftS hD s1 (earlyQ (by first | assumption | omega) hns2)
                              have n2 := liftS hD s2 (earlyQ (by first | assumption | omega) hns2)
                              have n3 := liftS hD s3 (earlyQ (by first | assumption | omega) hns2)
                              have n4 := liftS hD s4 (earlyQ (by first | assumption | omega) hns2)
                              have n5 := liftS hD s5 (earlyQ (by first | assumption | omega) hns2)
                              have n6 := liftS hD s6 (earlyQ (by first | assumption | omega) hns2)
                              simp only [takeOps, Act.put, List.setIfInBounds_toArray, List.set_cons_succ, List.set_cons_zero]
                              repeat (go_big_quiet_step (fail))
                              exact wpQuiet_nil rfl
                            · exact fun x D hD => wpQuiet_nil rfl
                            · intro d hd x x'
                              simp only [List.mem_cons, List.not_mem_nil, or_false] at hd
                              rcases hd with rfl | rfl
                              all_goals rfl
                            · refine ⟨?_, ?_, ?_, trivial⟩
                              · exact obl_new rfl (fun _ => by kernel_rfl) 121 (fun x => #[.int .i64 2, .string ⟨#[]⟩, .int .i64 0, .string sn, .string sp, .int .i64 slo, .int .i64 shi, .int .i64 stm, .int .i64 sst, .int .i64 sdr, .string ⟨#[]⟩, .string ⟨#[]⟩, .int .i64 0, .int .i64 0, .int .i64 0]) gP (fun x w => by kernel_rfl) (fun x w hle => own_new hle rfl (by unfold maxLen; omega))
                              · refine obl_pushQ 115 93 96 (by kernel_rfl) w0.heap.size 121 i0 _ 15 160 Try.underlying115 Hi.out Hz0.out Hz1.out Hz2.out rfl (by decide) (.slice A l.length c) l.length 1 ((refRow l)) (#[.int .i64 2, .string ⟨#[]⟩, .int .i64 0, .string sn, .string sp, .int .i64 slo, .int .i64 shi, .int .i64 stm, .int .i64 sst, .int .i64 sdr, .string ⟨#[]⟩, .string ⟨#[]⟩, .int .i64 0, .int .i64 0, .int .i64 0] : Array Value).toList (by first | rfl | (simp; done) | (simp; omega)) (by simp [Value.oneCell']) (by unfold maxLen; omega) (by omega) (by first | assumption | omega) (fun x w F hk hn => ?_) (fun _ => rfl) (fun _ _ _ _ h1 h2 => ⟨h1, h2⟩)
                                have hj : OwnF w (F 7) w9.heap.size 121 15 (.slice (x 7 0).1 1 1) 1 (#[.int .i64 2, .string ⟨#[]⟩, .int .i64 0, .string sn, .string sp, .int .i64 slo, .int .i64 shi, .int .i64 stm, .int .i64 sst, .int .i64 sdr, .string ⟨#[]⟩, .string ⟨#[]⟩, .int .i64 0, .int .i64 0, .int .i64 0] : Array Value).toList := hn 7 (by simp)
                                obtain ⟨ad, hA, hc⟩ := news_own hj (by decide)
                                exact ⟨ad, 1, rfl, row_thenQ Htr.out HneT.out hk, wrQ_row, (show Value.slice (x 7 0).1 1 1 = _ by rw [hA]), hc⟩
                              · exact obl_setv 115 117 99 97 p 0 _ (fun x => .slice (x 8 0).1 (l.length + 1) (x 8 0).2) (fun x => #[.slice (x 8 0).1 (l.length + 1) (x 8 0).2]) (by kernel_rfl) (fun _ => rfl) (fun _ => rfl) (fun _ => rfl) Hbk.out (ebQ_set HneT.out) wrQ_set (by kernel_rfl) (by first | assumption | (simp; done)) (fun _ => rfl) (fun _ => rfl) (fun _ _ _ _ h1 h2 => ⟨h1, h2⟩)
                            · refine ⟨?_, ?_, ?_, trivial⟩
                              · refine ⟨fun x F wq wq' h hs hk => ?_, fun x x' F wq hx h => ?_⟩
                                · have h2 : OwnF wq F w9.heap.size 121 15 (.slice (x 7 0).1 1 1) 1 #[.int .i64 2, .string ⟨#[]⟩, .int .i64 0, .string sn, .string sp, .int .i64 slo, .int .i64 shi, .int .i64 stm, .int .i64 sst, .int .i64 sdr, .string ⟨#[]⟩, .string ⟨#[]⟩, .int .i64 0, .int .i64 0, .int .i64 0].toList := h
                                  exact h2.stab hk
                                · have h2 : OwnF wq F w9.heap.size 121 15 (.slice (x 7 0).1 1 1) 1 #[.int .i64 2, .string ⟨#[]⟩, .int .i64 0, .string sn, .string sp, .int .i64 slo, .int .i64 shi, .int .i64 stm, .int .i64 sst, .int .i64 sdr, .string ⟨#[]⟩, .string ⟨#[]⟩, .int .i64 0, .int .i64 0, .int .i64 0].toList := h
                                  rw [hx 7 (by simp)] at h2
                                  exact h2
                              · exact owe_pushQ 8 _ w0.heap.size (.slice A l.length c) 121 15 (l.length + 1) ((refRow l) ++ (#[.int .i64 2, .string ⟨#[]⟩, .int .i64 0, .string sn, .string sp, .int .i64 slo, .int .i64 shi, .int .i64 stm, .int .i64 sst, .int .i64 sdr, .string ⟨#[]⟩, .string ⟨#[]⟩, .int .i64 0, .int .i64 0, .int .i64 0] : Array Value).toList) rfl (fun _ _ _ => rfl)
                              · exact owe_fill p 117 (fun x => #[.slice (x 8 0).1 (l.length + 1) (x 8 0).2]) (fun _ _ _ => rfl) (fun x x' hx => by simp only [hx 8 (by simp)])
                            intro xx w20 F hK hlv2
                            obtain ⟨-, fct8, fct11, -⟩ := hlv2
                            replace fct8 : OwnF w20 (F 8) w0.heap.size 121 15 (.slice (xx 8 0).1 (l.length + 1) (xx 8 0).2) (l.length + 1) ((refRow l) ++ (#[.int .i64 2, .string ⟨#[]⟩, .int .i64 0, .string sn, .string sp, .int .i64 slo, .int .i64 shi, .int .i64 stm, .int .i64 sst, .int .i64 sdr, .string ⟨#[]⟩, .string ⟨#[]⟩, .int .i64 0, .int .i64 0, .int .i64 0] : Array Value).toList) ∧ FreshOr w9.heap.size (.slice A l.length c) (.slice (xx 8 0).1 (l.length + 1) (xx 8 0).2) := fct8 rfl
                            replace fct11 : (F 11) p ∧ Blk w20 p 117 #[.slice (xx 8 0).1 (l.length + 1) (xx 8 0).2] := fct11 rfl
                            obtain ⟨⟨hot, -⟩, hfr⟩ := fct8
                            have hbk := fct11.2
                            generalize (xx 8 0).1 = A7 at *
                            generalize (xx 8 0).2 = c7 at *
                            have hM2 := HRM.out.mem.two hbk hot ⟨hK.os, hK.tape, hK.output, hK.size, fun k hk => hK.block k ⟨hk.1, freeQ hk.2.2 (Ne.symm hk.2.1)⟩⟩ hfr
                            have hX : RMem w0 (.define ⟨sn, sp, slo, shi, stm, sst, sdr⟩ :: l) p (.slice A7 (l.length + 1) c7) ts w20 := ⟨hgd, by rw [refRow_cons, HrR.out, List.length_cons]; exact hM2⟩
                            have HXX := hide hX
                            clear hX hM2 hbk hot hK hfr
                            go_wp2
                            go_ret
                            exact ⟨rfl, .slice A7 (l.length + 1) c7, by first | exact HXX.out | (rw [if_pos rfl]; exact HXX.out)⟩
end Go.Proofs.Ytiggefmckomilaa
