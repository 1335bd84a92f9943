/-
  Fields: the program's checks, the reference's.
-/
import Derived.Test.YthhhecidogcmjaaChecks
namespace Go.Proofs.Ythhhecidogcmjaa
open Go Go.RowKit

def flat2 : List (Int × Int) → List Int
  | [] => []
  | p :: l => p.1 :: p.2 :: flat2 l
theorem flat2_length : ∀ l : List (Int × Int), (flat2 l).length = l.length * 2
  | [] => rfl
  | p :: l => by simp [flat2, flat2_length l]; omega
theorem flat2_get : ∀ (l : List (Int × Int)) (k : Nat), k < l.length → (flat2 l).getD (k * 2) 0 = (l.getD k (0, 0)).1 ∧ (flat2 l).getD (k * 2 + 1) 0 = (l.getD k (0, 0)).2
  | [], k, h => by simp at h
  | p :: l, 0, _ => ⟨rfl, rfl⟩
  | p :: l, k + 1, h => by
    have := flat2_get l k (by simpa using h)
    rw [show (k + 1) * 2 = k * 2 + 1 + 1 by omega]
    simpa [flat2, List.getD] using this
/-- A list of pairs, read. -/
theorem Ints.pt {w : World} {B : Nat} {A : Option Addr} {l : List (Int × Int)} (h : Ints w B .i64 A (flat2 l)) (hl : 0 < l.length) : ∃ b off, A = some ⟨b, off, none⟩ ∧ b < B ∧ ∀ k, k < l.length → w.cell? ⟨b, off + k * 2, none⟩ = some (.int .i64 (l.getD k (0, 0)).1) ∧ w.cell? ⟨b, off + k * 2 + 1, none⟩ = some (.int .i64 (l.getD k (0, 0)).2) := by
  obtain ⟨b, off, e, hb, hc⟩ := h (by rw [flat2_length]; omega)
  refine ⟨b, off, e, hb, fun k hk => ?_⟩
  obtain ⟨h1, h2⟩ := flat2_get l k hk
  rw [← h1, ← h2]
  exact ⟨hc _ (by rw [flat2_length]; omega), by have := hc (k * 2 + 1) (by rw [flat2_length]; omega); rwa [show off + (k * 2 + 1) = off + k * 2 + 1 by omega] at this⟩
theorem all_okS {l : List (Int × Int)} {most : Int} (h : ∀ j, j < l.length → okS most (l.getD j (0, 0)) = true) : l.all (okS most) = true := by
  rw [List.all_eq_true]
  intro x hx
  obtain ⟨j, hj, rfl⟩ := List.mem_iff_getElem.1 hx
  have := h j hj
  simpa [List.getD, hj] using this
theorem not_all_okS {l : List (Int × Int)} {most : Int} {j : Nat} (hj : j < l.length) (h : okS most (l.getD j (0, 0)) = false) : l.all (okS most) = false := by
  rw [List.all_eq_false]
  refine ⟨l[j], List.getElem_mem hj, ?_⟩
  have e : l.getD j (0, 0) = l[j] := by simp [List.getD, hj]
  rw [← e, h]
  simp

set_option maxHeartbeats 2000000 in
set_option maxRecDepth 100000 in
theorem check_any (x y sz wi hi : Int) (A : Option Addr) (n c : Nat) (l : List (Int × Int)) (most : Int) (w : World) (hn : l.length = n) (hmax : n ≤ 9223372036854775807) (hl : Ints w w.heap.size .i64 A (flat2 l)) :
    Calls Try.prog 63 #[fieldV x y sz wi hi A n c, .int .i64 most] w fun e w' => e = .returned (.int .i64 (fieldE (gridE x y sz wi hi) n wi hi l most)) ∧ Below w.heap.size w w' := by
  have hg := fun W => CheckGrid_any x y sz wi hi W
  have hR : ∀ ge, gridE x y sz wi hi = ge → fieldE (gridE x y sz wi hi) n wi hi l most = if ge ≠ 0 then ge else if (n : Int) ≠ wi * hi then 11 else if l.all (okS most) = true then 0 else 3 := fun ge h => by rw [h]; rfl
  obtain ⟨ge, hge⟩ : ∃ ge, gridE x y sz wi hi = ge := ⟨_, rfl⟩
  replace hR := hR ge hge
  have hok := fun h : ge = 0 => gridE_ok (hge.trans h)
  generalize fieldE (gridE x y sz wi hi) n wi hi l most = res at *
  rw [hge] at hg
  unfold gridV at hg
  unfold fieldV
  clear hge
  have Hg := hide hg
  have Hok := hide hok
  have Hl := hide hl
  have Hn := hide hn
  clear hg hok hl hn
  by_cases h0 : ge = 0
  · subst h0
    obtain ⟨-, -, -, -, -, -, s1, s2, s3, s4⟩ := Hok.out rfl
    obtain ⟨m1, m2⟩ := mul_bdB (a := wi) (b := hi) (A := 64) (B := 64) (by omega) s2 (by omega) s4
    rw [if_neg (by simp)] at hR
    by_cases h1 : (n : Int) = wi * hi
    · rw [if_neg (by simpa using h1)] at hR
      have h1' : ((n : Int) != wi * hi) = false := by simp [h1]
      have hn4 : (n : Int) ≤ 4096 := by omega
      have HR := hide hR
      have H1 := hide h1
      clear hR h1
      go_enter Try.func63, Try.ntmps63
      have HB := hide (Below.refl w.heap.size w)
      go_wp2_with fail
      refine at_world fun W hW => ?_
      have bq0 : Blk W w.heap.size 38 #[.int .i64 x, .int .i64 y, .int .i64 sz, .int .i64 wi, .int .i64 hi, .slice A n c] := by rw [hW]; exact Blk.new _ _ _
      have LW : Later w W := by rw [hW]; exact ((Below.refl _ _).alloc (Nat.le_refl _) _)
      have szW : W.heap.size = w.heap.size + 1 := by rw [hW]; simp
      clear hW
      replace HB := hide (onward HB.out LW)
      have Hf := hide bq0
      clear bq0 LW szW
      refine (Hg.out _).mono ?_
      rintro e w1 ⟨rfl, hb⟩
      replace HB := hide (onward HB.out hb)
      replace Hf := hide (blk_later Hf.out hb)
      clear hb
      obtain ⟨q0, q1, q2, q3, q4, q5⟩ := Hf.out.c6
      have ltf := Hf.out.lt
      go_wp2_with fail
      go_loopw [28] (fun i wr => ∃ k : Nat, k ≤ n ∧ i = .int .i64 k ∧ Below w.heap.size w wr ∧ ∀ j, j < k → okS most (l.getD j (0, 0)) = true) (fun i _ => n - (intOf i).toNat)
      case atStart => exact ⟨0, by omega, rfl, HB.out, fun j hj => by omega⟩
      case round =>
        clear HB Hf q0 q1 q2 q3 q4 q5 ltf
        obtain ⟨k, hk, rfl, hbw, hall⟩ := hrel
        have HB := hide hbw
        have Hall := hide hall
        clear hbw hall
        have hsw := HB.out.size
        by_cases hlt : k < n
        · obtain ⟨b, off, rfl, hb, hc⟩ := Hl.out.pt (by have := Hn.out; omega)
          obtain ⟨p0, p1⟩ := hc k (by have := Hn.out; omega)
          rw [← HB.out.cell hb] at p0 p1
          have hnn := fun h => not_all_okS (l := l) (most := most) (j := k) (by have := Hn.out; omega) h
          have hok1 : okS most (l.getD k (0, 0)) = true → ∀ j, j < k + 1 → okS most (l.getD j (0, 0)) = true := fun h j hj => by
            rcases Nat.lt_or_ge j k with h1 | h1
            · exact Hall.out j h1
            · obtain rfl : j = k := by omega
              exact h
          generalize l.getD k (0, 0) = m at *
          obtain ⟨m1', m2'⟩ := m
          simp only at p0 p1
          have hdec : okS most (m1', m2') = decide (0 ≤ m1' ∧ m1' ≤ m2' ∧ m2' ≤ most) := rfl
          rw [hdec] at hnn hok1
          have Hnn := hide hnn
          have Hok1 := hide hok1
          clear hnn hok1
          clear hc hdec
          by_cases g1 : m1' < 0
          · have HR2 := hide (HR.out.trans (if_neg (by rw [Hnn.out (decide_eq_false (by omega))]; simp)))
            go_wp2
            go_ret
            refine ⟨ret_int HR2.out.symm, ?_⟩
            repeat (first | exact HB.out | (refine Below.setCell ?_ (by first | omega | (simp; done) | (simp; omega)) _) | (refine Below.alloc ?_ (by first | omega | (simp; done) | (simp; omega)) _) | (refine below_drewN ?_ _))
          by_cases g2 : m2' < m1'
          · have HR2 := hide (HR.out.trans (if_neg (by rw [Hnn.out (decide_eq_false (by omega))]; simp)))
            go_wp2
            go_ret
            refine ⟨ret_int HR2.out.symm, ?_⟩
            repeat (first | exact HB.out | (refine Below.setCell ?_ (by first | omega | (simp; done) | (simp; omega)) _) | (refine Below.alloc ?_ (by first | omega | (simp; done) | (simp; omega)) _) | (refine below_drewN ?_ _))
          by_cases g3 : most < m2'
          · have HR2 := hide (HR.out.trans (if_neg (by rw [Hnn.out (decide_eq_false (by omega))]; simp)))
            go_wp2
            go_ret
            refine ⟨ret_int HR2.out.symm, ?_⟩
            repeat (first | exact HB.out | (refine Below.setCell ?_ (by first | omega | (simp; done) | (simp; omega)) _) | (refine Below.alloc ?_ (by first | omega | (simp; done) | (simp; omega)) _) | (refine below_drewN ?_ _))
          · have Hk2 := hide (Hok1.out (decide_eq_true (by omega)))
            go_wp2
            go_roundw
            case rel =>
              refine ⟨k + 1, by omega, by go_num, ?_, Hk2.out⟩
              repeat (first | exact HB.out | (refine Below.setCell ?_ (by first | omega | (simp; done) | (simp; omega)) _) | (refine Below.alloc ?_ (by first | omega | (simp; done) | (simp; omega)) _) | (refine below_drewN ?_ _))
            case measure => simp [intOf] <;> omega
        · obtain rfl : k = n := by omega
          have HR2 := hide (HR.out.trans (if_pos (all_okS fun j hj => Hall.out j (by have := Hn.out; omega))))
          go_wp2
          go_ret
          exact ⟨ret_int HR2.out.symm, HB.out⟩
    · rw [if_pos h1] at hR
      have h1' : ((n : Int) != wi * hi) = true := by simpa [bne] using h1
      have HR := hide hR
      clear hR
      go_enter Try.func63, Try.ntmps63
      have HB := hide (Below.refl w.heap.size w)
      go_wp2_with fail
      refine at_world fun W hW => ?_
      have bq0 : Blk W w.heap.size 38 #[.int .i64 x, .int .i64 y, .int .i64 sz, .int .i64 wi, .int .i64 hi, .slice A n c] := by rw [hW]; exact Blk.new _ _ _
      have LW : Later w W := by rw [hW]; exact ((Below.refl _ _).alloc (Nat.le_refl _) _)
      have szW : W.heap.size = w.heap.size + 1 := by rw [hW]; simp
      clear hW
      replace HB := hide (onward HB.out LW)
      have Hf := hide bq0
      clear bq0 LW szW
      refine (Hg.out _).mono ?_
      rintro e w1 ⟨rfl, hb⟩
      replace HB := hide (onward HB.out hb)
      replace Hf := hide (blk_later Hf.out hb)
      clear hb
      obtain ⟨q0, q1, q2, q3, q4, q5⟩ := Hf.out.c6
      have ltf := Hf.out.lt
      go_wp2
      go_ret
      exact ⟨ret_int HR.out.symm, HB.out⟩
  · rw [if_pos h0] at hR
    have h00 : (ge != 0) = true := by simpa [bne] using h0
    have HR := hide hR
    clear hR
    go_enter Try.func63, Try.ntmps63
    have HB := hide (Below.refl w.heap.size w)
    go_wp2_with fail
    refine at_world fun W hW => ?_
    have bq0 : Blk W w.heap.size 38 #[.int .i64 x, .int .i64 y, .int .i64 sz, .int .i64 wi, .int .i64 hi, .slice A n c] := by rw [hW]; exact Blk.new _ _ _
    have LW : Later w W := by rw [hW]; exact ((Below.refl _ _).alloc (Nat.le_refl _) _)
    have szW : W.heap.size = w.heap.size + 1 := by rw [hW]; simp
    clear hW
    replace HB := hide (onward HB.out LW)
    have Hf := hide bq0
    clear bq0 LW szW
    refine (Hg.out _).mono ?_
    rintro e w1 ⟨rfl, hb⟩
    replace HB := hide (onward HB.out hb)
    replace Hf := hide (blk_later Hf.out hb)
    clear hb
    obtain ⟨q0, q1, q2, q3, q4, q5⟩ := Hf.out.c6
    have ltf := Hf.out.lt
    go_wp2
    go_ret
    exact ⟨ret_int HR.out.symm, HB.out⟩
theorem Valid_any (a b lo hi : Int) (w : World) :
    Calls Try.prog 85 #[.agg #[.int .i64 a, .int .i64 b], .int .i64 lo, .int .i64 hi] w fun e w' => e = .returned (.bool (decide (lo ≤ a ∧ a ≤ b ∧ b ≤ hi))) ∧ Below w.heap.size w w' := by
  by_cases h1 : a ≤ b <;> by_cases h2 : lo ≤ a <;> by_cases h3 : b ≤ hi
  all_goals
    go_enter Try.func85, Try.ntmps85
    go_wp2
    go_ret
    exact ⟨by simp [*], (Below.refl _ _).alloc (Nat.le_refl _) _⟩
set_option maxHeartbeats 2000000 in
set_option maxRecDepth 100000 in
theorem fits_any (x y sz wi hi : Int) (A : Option Addr) (n c : Nat) (l : List (Int × Int)) (most : Int) (w : World) (hn : l.length = n) (hmax : n ≤ 9223372036854775807) (hl : Ints w w.heap.size .i64 A (flat2 l)) :
    Calls Try.prog 64 #[fieldV x y sz wi hi A n c, .int .i64 most] w fun e w' => e = .returned (.int .i64 (fieldE (gridE x y sz wi hi) n wi hi l most)) ∧ Below w.heap.size w w' := by
  have hg := fun W => RefCheckGrid_any x y sz wi hi W
  have hR : ∀ ge, gridE x y sz wi hi = ge → fieldE (gridE x y sz wi hi) n wi hi l most = if ge ≠ 0 then ge else if (n : Int) ≠ wi * hi then 11 else if l.all (okS most) = true then 0 else 3 := fun ge h => by rw [h]; rfl
  obtain ⟨ge, hge⟩ : ∃ ge, gridE x y sz wi hi = ge := ⟨_, rfl⟩
  replace hR := hR ge hge
  have hok := fun h : ge = 0 => gridE_ok (hge.trans h)
  generalize fieldE (gridE x y sz wi hi) n wi hi l most = res at *
  rw [hge] at hg
  unfold gridV at hg
  unfold fieldV
  clear hge
  have Hg := hide hg
  have Hok := hide hok
  have Hl := hide hl
  have Hn := hide hn
  clear hg hok hl hn
  by_cases h0 : ge = 0
  · subst h0
    obtain ⟨-, -, -, -, -, -, s1, s2, s3, s4⟩ := Hok.out rfl
    obtain ⟨m1, m2⟩ := mul_bdB (a := wi) (b := hi) (A := 64) (B := 64) (by omega) s2 (by omega) s4
    rw [if_neg (by simp)] at hR
    by_cases h1 : (n : Int) = wi * hi
    · rw [if_neg (by simpa using h1)] at hR
      have h1' : ((n : Int) != wi * hi) = false := by simp [h1]
      have hn4 : (n : Int) ≤ 4096 := by omega
      have HR := hide hR
      have H1 := hide h1
      clear hR h1
      go_enter Try.func64, Try.ntmps64
      have HB := hide (Below.refl w.heap.size w)
      go_wp2_with fail
      refine at_world fun W hW => ?_
      have bq0 : Blk W w.heap.size 38 #[.int .i64 x, .int .i64 y, .int .i64 sz, .int .i64 wi, .int .i64 hi, .slice A n c] := by rw [hW]; exact Blk.new _ _ _
      have LW : Later w W := by rw [hW]; exact ((Below.refl _ _).alloc (Nat.le_refl _) _)
      have szW : W.heap.size = w.heap.size + 1 := by rw [hW]; simp
      clear hW
      replace HB := hide (onward HB.out LW)
      have Hf := hide bq0
      clear bq0 LW szW
      refine (Hg.out _).mono ?_
      rintro e w1 ⟨rfl, hb⟩
      replace HB := hide (onward HB.out hb)
      replace Hf := hide (blk_later Hf.out hb)
      clear hb
      obtain ⟨q0, q1, q2, q3, q4, q5⟩ := Hf.out.c6
      have ltf := Hf.out.lt
      go_wp2_with fail
      go_loopw [6] (fun i wr => ∃ k : Nat, k ≤ n ∧ i = .int .i64 k ∧ Below w.heap.size w wr ∧ Blk wr w.heap.size 38 #[.int .i64 x, .int .i64 y, .int .i64 sz, .int .i64 wi, .int .i64 hi, .slice A n c] ∧ ∀ j, j < k → okS most (l.getD j (0, 0)) = true) (fun i _ => n - (intOf i).toNat)
      case atStart => exact ⟨0, by omega, rfl, HB.out, Hf.out, fun j hj => by omega⟩
      case round =>
        clear HB Hf q0 q1 q2 q3 q4 q5 ltf
        obtain ⟨k, hk, rfl, hbw, hbf, hall⟩ := hrel
        have HB := hide hbw
        have Hf := hide hbf
        have Hall := hide hall
        clear hbw hbf hall
        have q5 := Hf.out.c6.2.2.2.2.2
        have ltf := Hf.out.lt
        by_cases hlt : k < n
        · obtain ⟨b, off, rfl, hb, hc⟩ := Hl.out.pt (by have := Hn.out; omega)
          obtain ⟨p0, p1⟩ := hc k (by have := Hn.out; omega)
          rw [← HB.out.cell hb] at p0 p1
          have hnn := fun h => not_all_okS (l := l) (most := most) (j := k) (by have := Hn.out; omega) h
          have hok1 : okS most (l.getD k (0, 0)) = true → ∀ j, j < k + 1 → okS most (l.getD j (0, 0)) = true := fun h j hj => by
            rcases Nat.lt_or_ge j k with h1 | h1
            · exact Hall.out j h1
            · obtain rfl : j = k := by omega
              exact h
          generalize l.getD k (0, 0) = m at *
          obtain ⟨m1', m2'⟩ := m
          simp only at p0 p1
          have hv := fun W => Valid_any m1' m2' 0 most W
          have hdec : okS most (m1', m2') = decide (0 ≤ m1' ∧ m1' ≤ m2' ∧ m2' ≤ most) := rfl
          rw [← hdec] at hv
          clear hc hdec
          generalize okS most (m1', m2') = ob at *
          cases ob with
          | true =>
            have Hk2 := hide (hok1 rfl)
            have Hv := hide hv
            clear hv
            clear hnn hok1
            go_wp2_with fail
            refine (Hv.out _).mono ?_
            rintro e w2 ⟨rfl, hb⟩
            replace HB := hide (onward HB.out hb)
            replace Hf := hide (blk_later Hf.out hb)
            clear hb
            go_wp2
            go_roundw
            case rel => exact ⟨k + 1, by omega, by go_num, HB.out, Hf.out, Hk2.out⟩
            case measure => simp [intOf] <;> omega
          | false =>
            have HR2 := hide (HR.out.trans (if_neg (by rw [hnn rfl]; simp)))
            have Hv := hide hv
            clear hv
            clear hnn hok1
            go_wp2_with fail
            refine (Hv.out _).mono ?_
            rintro e w2 ⟨rfl, hb⟩
            replace HB := hide (onward HB.out hb)
            replace Hf := hide (blk_later Hf.out hb)
            clear hb
            go_wp2
            go_ret
            exact ⟨ret_int HR2.out.symm, HB.out⟩
        · obtain rfl : k = n := by omega
          have HR2 := hide (HR.out.trans (if_pos (all_okS fun j hj => Hall.out j (by have := Hn.out; omega))))
          go_wp2
          go_ret
          exact ⟨ret_int HR2.out.symm, HB.out⟩
    · rw [if_pos h1] at hR
      have h1' : ((n : Int) != wi * hi) = true := by simpa [bne] using h1
      have HR := hide hR
      clear hR
      go_enter Try.func64, Try.ntmps64
      have HB := hide (Below.refl w.heap.size w)
      go_wp2_with fail
      refine at_world fun W hW => ?_
      have bq0 : Blk W w.heap.size 38 #[.int .i64 x, .int .i64 y, .int .i64 sz, .int .i64 wi, .int .i64 hi, .slice A n c] := by rw [hW]; exact Blk.new _ _ _
      have LW : Later w W := by rw [hW]; exact ((Below.refl _ _).alloc (Nat.le_refl _) _)
      have szW : W.heap.size = w.heap.size + 1 := by rw [hW]; simp
      clear hW
      replace HB := hide (onward HB.out LW)
      have Hf := hide bq0
      clear bq0 LW szW
      refine (Hg.out _).mono ?_
      rintro e w1 ⟨rfl, hb⟩
      replace HB := hide (onward HB.out hb)
      replace Hf := hide (blk_later Hf.out hb)
      clear hb
      obtain ⟨q0, q1, q2, q3, q4, q5⟩ := Hf.out.c6
      have ltf := Hf.out.lt
      go_wp2
      go_ret
      exact ⟨ret_int HR.out.symm, HB.out⟩
  · rw [if_pos h0] at hR
    have h00 : (ge != 0) = true := by simpa [bne] using h0
    have HR := hide hR
    clear hR
    go_enter Try.func64, Try.ntmps64
    have HB := hide (Below.refl w.heap.size w)
    go_wp2_with fail
    refine at_world fun W hW => ?_
    have bq0 : Blk W w.heap.size 38 #[.int .i64 x, .int .i64 y, .int .i64 sz, .int .i64 wi, .int .i64 hi, .slice A n c] := by rw [hW]; exact Blk.new _ _ _
    have LW : Later w W := by rw [hW]; exact ((Below.refl _ _).alloc (Nat.le_refl _) _)
    have szW : W.heap.size = w.heap.size + 1 := by rw [hW]; simp
    clear hW
    replace HB := hide (onward HB.out LW)
    have Hf := hide bq0
    clear bq0 LW szW
    refine (Hg.out _).mono ?_
    rintro e w1 ⟨rfl, hb⟩
    replace HB := hide (onward HB.out hb)
    replace Hf := hide (blk_later Hf.out hb)
    clear hb
    obtain ⟨q0, q1, q2, q3, q4, q5⟩ := Hf.out.c6
    have ltf := Hf.out.lt
    go_wp2
    go_ret
    exact ⟨ret_int HR.out.symm, HB.out⟩
set_option maxRecDepth 100000 in
theorem CheckField_any (x y sz wi hi : Int) (A : Option Addr) (n c : Nat) (l : List (Int × Int)) (w : World) (hn : l.length = n) (hmax : n ≤ 9223372036854775807) (hl : Ints w w.heap.size .i64 A (flat2 l)) :
    Calls Try.prog 26 #[fieldV x y sz wi hi A n c] w fun e w' => e = .returned (.int .i64 (fieldE (gridE x y sz wi hi) n wi hi l 1073741824)) ∧ Below w.heap.size w w' := by
  have hc := fun W (hB : Below w.heap.size w W) => check_any x y sz wi hi A n c l 1073741824 W hn hmax ((hl.below hB).more hB.size)
  generalize fieldE (gridE x y sz wi hi) n wi hi l 1073741824 = res at *
  unfold fieldV at *
  have Hc := hide hc
  clear hc
  clear hn hl
  go_enter Try.func26, Try.ntmps26
  have HB := hide (Below.refl w.heap.size w)
  go_wp2_with fail
  refine at_world fun W hW => ?_
  have bq0 : Blk W w.heap.size 38 #[.int .i64 x, .int .i64 y, .int .i64 sz, .int .i64 wi, .int .i64 hi, .slice A n c] := by rw [hW]; exact Blk.new _ _ _
  have LW : Later w W := by rw [hW]; exact ((Below.refl _ _).alloc (Nat.le_refl _) _)
  have szW : W.heap.size = w.heap.size + 1 := by rw [hW]; simp
  clear hW
  replace HB := hide (onward HB.out LW)
  have Hf := hide bq0
  clear bq0 LW szW
  refine (Hc.out _ HB.out).mono ?_
  rintro e w1 ⟨rfl, hb⟩
  replace HB := hide (onward HB.out hb)
  replace Hf := hide (blk_later Hf.out hb)
  clear hb
  go_wp2
  go_ret
  exact ⟨rfl, HB.out⟩
set_option maxRecDepth 100000 in
theorem RefCheckField_any (x y sz wi hi : Int) (A : Option Addr) (n c : Nat) (l : List (Int × Int)) (w : World) (hn : l.length = n) (hmax : n ≤ 9223372036854775807) (hl : Ints w w.heap.size .i64 A (flat2 l)) :
    Calls Try.prog 27 #[fieldV x y sz wi hi A n c] w fun e w' => e = .returned (.int .i64 (fieldE (gridE x y sz wi hi) n wi hi l 1073741824)) ∧ Below w.heap.size w w' := by
  have hc := fun W (hB : Below w.heap.size w W) => fits_any x y sz wi hi A n c l 1073741824 W hn hmax ((hl.below hB).more hB.size)
  generalize fieldE (gridE x y sz wi hi) n wi hi l 1073741824 = res at *
  unfold fieldV at *
  have Hc := hide hc
  clear hc
  clear hn hl
  go_enter Try.func27, Try.ntmps27
  have HB := hide (Below.refl w.heap.size w)
  go_wp2_with fail
  refine at_world fun W hW => ?_
  have bq0 : Blk W w.heap.size 38 #[.int .i64 x, .int .i64 y, .int .i64 sz, .int .i64 wi, .int .i64 hi, .slice A n c] := by rw [hW]; exact Blk.new _ _ _
  have LW : Later w W := by rw [hW]; exact ((Below.refl _ _).alloc (Nat.le_refl _) _)
  have szW : W.heap.size = w.heap.size + 1 := by rw [hW]; simp
  clear hW
  replace HB := hide (onward HB.out LW)
  have Hf := hide bq0
  clear bq0 LW szW
  refine (Hc.out _ HB.out).mono ?_
  rintro e w1 ⟨rfl, hb⟩
  replace HB := hide (onward HB.out hb)
  replace Hf := hide (blk_later Hf.out hb)
  clear hb
  go_wp2
  go_ret
  exact ⟨rfl, HB.out⟩
end Go.Proofs.Ythhhecidogcmjaa
