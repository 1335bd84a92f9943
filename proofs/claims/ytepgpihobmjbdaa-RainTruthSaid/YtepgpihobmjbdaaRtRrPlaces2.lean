/-
  Sites, grids and fields: the program's checks, the reference's.
  Fields: the program's checks, the reference's.
  Heights of gates: the program's inner contracts.
  Heights of gates: the program's contracts.
  Heights of gates: the reference's inner contracts.
  Ground ranges, heights and bands: the program's contracts, the reference's.
  Gates, and places found: the program's contracts.
  Places found, pixels: the program's contracts.
  Places found: the program's exported Find.
  Quarter turns of places found; the law's own small functions.
  Pixels and places: the program's contracts.
  Pixels and places: the exported contracts.
-/
import Derived.Test.YtepgpihobmjbdaaRtNames2
import Derived.Test.YtepgpihobmjbdaaRtRrBoundsMath
import Derived.Test.YtepgpihobmjbdaaRtRrRefDivs
set_option linter.unusedSimpArgs false
set_option linter.unusedVariables false
section
namespace Go.Proofs.Ytepgpihobmjbdaa
open Go Go.RowKit
def gridE (x y sz wi hi : Int) : Int := if (winB x (-1048576) 1048576 && winB y (-1048576) 1048576 && winB sz 1 10000 && winB wi 1 64 && winB hi 1 64) = true then 0 else 3
theorem gridE_ok {x y sz wi hi : Int} (h : gridE x y sz wi hi = 0) : -1048576 ≤ x ∧ x ≤ 1048576 ∧ -1048576 ≤ y ∧ y ≤ 1048576 ∧ 1 ≤ sz ∧ sz ≤ 10000 ∧ 1 ≤ wi ∧ wi ≤ 64 ∧ 1 ≤ hi ∧ hi ≤ 64 := by
 unfold gridE at h
 split at h
 ·
  rename_i h2
  simp only [Bool.and_eq_true, winB_iff] at h2
  omega
 · omega
def okS (most : Int) (p : Int × Int) : Bool := decide (0 ≤ p.1 ∧ p.1 ≤ p.2 ∧ p.2 ≤ most)
def fieldE (ge : Int) (n : Nat) (wi hi : Int) (l : List (Int × Int)) (most : Int) : Int := if ge ≠ 0 then ge else if (n : Int) ≠ wi * hi then 11 else if l.all (okS most) = true then 0 else 3
def gridV (x y sz wi hi : Int) : Value := .agg #[.int .i64 x, .int .i64 y, .int .i64 sz, .int .i64 wi, .int .i64 hi]
def fieldV (x y sz wi hi : Int) (A : Option Addr) (n c : Nat) : Value := .agg #[.int .i64 x, .int .i64 y, .int .i64 sz, .int .i64 wi, .int .i64 hi, .slice A n c]
theorem Blk.c5 {w : World} {g : Nat} {t : TypeId} {a0 a1 a2 a3 a4 : Value} (h : Blk w g t #[a0, a1, a2, a3, a4]) : w.cell? ⟨g, 0, none⟩ = some a0 ∧ w.cell? ⟨g, 1, none⟩ = some a1 ∧ w.cell? ⟨g, 2, none⟩ = some a2 ∧ w.cell? ⟨g, 3, none⟩ = some a3 ∧ w.cell? ⟨g, 4, none⟩ = some a4 :=
 ⟨h.c 0 rfl, h.c 1 rfl, h.c 2 rfl, h.c 3 rfl, h.c 4 rfl⟩
theorem Blk.c6 {w : World} {g : Nat} {t : TypeId} {a0 a1 a2 a3 a4 a5 : Value} (h : Blk w g t #[a0, a1, a2, a3, a4, a5]) : w.cell? ⟨g, 0, none⟩ = some a0 ∧ w.cell? ⟨g, 1, none⟩ = some a1 ∧ w.cell? ⟨g, 2, none⟩ = some a2 ∧ w.cell? ⟨g, 3, none⟩ = some a3 ∧ w.cell? ⟨g, 4, none⟩ = some a4 ∧ w.cell? ⟨g, 5, none⟩ = some a5 :=
 ⟨h.c 0 rfl, h.c 1 rfl, h.c 2 rfl, h.c 3 rfl, h.c 4 rfl, h.c 5 rfl⟩
set_option maxHeartbeats 2000000 in
set_option maxRecDepth 100000 in
theorem CheckGrid_any (x y sz wi hi : Int) (w : World) :
  Calls Try.prog 46 #[gridV x y sz wi hi] w fun e w' => e = .returned (.int .i64 (gridE x y sz wi hi)) ∧ Below w.heap.size w w' := by
 unfold gridV
 go_enter Try.func46, Try.ntmps46
 have HB := hide (Below.refl w.heap.size w)
 go_wp2_with fail
 refine at_world fun W hW => ?_
 have bq0 : Blk W w.heap.size 30 #[.int .i64 x, .int .i64 y, .int .i64 sz, .int .i64 wi, .int .i64 hi] := by rw [hW]; exact Blk.new _ _ _
 have LW : Later w W := by rw [hW]; exact ((Below.refl _ _).alloc (Nat.le_refl _) _)
 have szW : W.heap.size = w.heap.size + 1 := by rw [hW]; simp
 clear hW
 replace HB := hide (onward HB.out LW)
 have Hs := hide bq0
 clear bq0 LW szW
 obtain ⟨q0, q1, q2, q3, q4⟩ := Hs.out.c5
 have lts := Hs.out.lt
 refine (within_anyQ _ _ _ _).mono ?_
 rintro e w' ⟨rfl, rfl⟩
 go_wp2_with (go_at_call 18; refine (within_anyQ _ _ _ _).mono ?_; rintro e w' ⟨rfl, rfl⟩)
 all_goals
  go_ret
  simp only [Bool.not_eq_true', Bool.not_eq_false'] at *
  refine ⟨ret_int ?_, HB.out⟩
  first | (simp [gridE, *]; done) | (exfalso; clear HB Hs q0 q1 q2 q3 q4; simp_all; done)
end Go.Proofs.Ytepgpihobmjbdaa
end
section
namespace Go.Proofs.Ytepgpihobmjbdaa
open Go Go.RowKit
def flat2Q : List (Int × Int) → List Int
 | [] => []
 | p :: l => p.1 :: p.2 :: flat2Q l
theorem flat2_lengthQ : ∀ l : List (Int × Int), (flat2Q l).length = l.length * 2
 | [] => rfl
 | p :: l => by simp [flat2Q, flat2_lengthQ l]; omega
theorem flat2_get : ∀ (l : List (Int × Int)) (k : Nat), k < l.length → (flat2Q l).getD (k * 2) 0 = (l.getD k (0, 0)).1 ∧ (flat2Q l).getD (k * 2 + 1) 0 = (l.getD k (0, 0)).2
 | [], k, h => by simp at h
 | p :: l, 0, _ => ⟨rfl, rfl⟩
 | p :: l, k + 1, h => by
  have := flat2_get l k (by simpa using h)
  rw [show (k + 1) * 2 = k * 2 + 1 + 1 by omega]
  simpa [flat2Q, List.getD] using this
theorem Ints.ptQ {w : World} {B : Nat} {A : Option Addr} {l : List (Int × Int)} (h : Ints w B .i64 A (flat2Q l)) (hl : 0 < l.length) : ∃ b off, A = some ⟨b, off, none⟩ ∧ b < B ∧ ∀ k, k < l.length → w.cell? ⟨b, off + k * 2, none⟩ = some (.int .i64 (l.getD k (0, 0)).1) ∧ w.cell? ⟨b, off + k * 2 + 1, none⟩ = some (.int .i64 (l.getD k (0, 0)).2) := by
 obtain ⟨b, off, e, hb, hc⟩ := h (by rw [flat2_lengthQ]; omega)
 refine ⟨b, off, e, hb, fun k hk => ?_⟩
 obtain ⟨h1, h2⟩ := flat2_get l k hk
 rw [← h1, ← h2]
 exact ⟨hc _ (by rw [flat2_lengthQ]; omega), by have := hc (k * 2 + 1) (by rw [flat2_lengthQ]; omega); rwa [show off + (k * 2 + 1) = off + k * 2 + 1 by omega] at this⟩
theorem all_okS {l : List (Int × Int)} {most : Int} (h : ∀ j, j < l.length → okS most (l.getD j (0, 0)) = true) : l.all (okS most) = true := by
 rw [List.all_eq_true]
 intro x hx
 obtain ⟨j, hj, rfl⟩ := List.mem_iff_getElem.1 hx
 have := h j hj
 simpa [List.getD, hj] using this
theorem not_all_okS {l : List (Int × Int)} {most : Int} {j : Nat} (hj : j < l.length) (h : okS most (l.getD j (0, 0)) = false) : l.all (okS most) = false := by
 rw [List.all_eq_false]
 refine ⟨l[j], List.getElem_mem hj, ?_⟩
 have e : l.getD j (0, 0) = l[j] := by simp [List.getD, hj]
 rw [← e, h]
 simp
set_option maxHeartbeats 2000000 in
set_option maxRecDepth 100000 in
theorem check_any (x y sz wi hi : Int) (A : Option Addr) (n c : Nat) (l : List (Int × Int)) (most : Int) (w : World) (hn : l.length = n) (hmax : n ≤ 9223372036854775807) (hl : Ints w w.heap.size .i64 A (flat2Q l)) :
  Calls Try.prog 24 #[fieldV x y sz wi hi A n c, .int .i64 most] w fun e w' => e = .returned (.int .i64 (fieldE (gridE x y sz wi hi) n wi hi l most)) ∧ Below w.heap.size w w' := by
 have hg := fun W => CheckGrid_any x y sz wi hi W
 have hR : ∀ ge, gridE x y sz wi hi = ge → fieldE (gridE x y sz wi hi) n wi hi l most = if ge ≠ 0 then ge else if (n : Int) ≠ wi * hi then 11 else if l.all (okS most) = true then 0 else 3 := fun ge h => by rw [h]; rfl
 obtain ⟨ge, hge⟩ : ∃ ge, gridE x y sz wi hi = ge := ⟨_, rfl⟩
 replace hR := hR ge hge
 have hok := fun h : ge = 0 => gridE_ok (hge.trans h)
 generalize fieldE (gridE x y sz wi hi) n wi hi l most = res at *
 rw [hge] at hg
 unfold gridV at hg
 unfold fieldV
 clear hge
 have Hg := hide hg
 have Hok := hide hok
 have Hl := hide hl
 have Hn := hide hn
 clear hg hok hl hn
 by_cases h0 : ge = 0
 ·
  subst h0
  obtain ⟨-, -, -, -, -, -, s1, s2, s3, s4⟩ := Hok.out rfl
  obtain ⟨m1, m2⟩ := mul_bdB (a := wi) (b := hi) (A := 64) (B := 64) (by omega) s2 (by omega) s4
  rw [if_neg (by simp)] at hR
  by_cases h1 : (n : Int) = wi * hi
  ·
   rw [if_neg (by simpa using h1)] at hR
   have h1' : ((n : Int) != wi * hi) = false := by simp [h1]
   have hn4 : (n : Int) ≤ 4096 := by omega
   have HR := hide hR
   have H1 := hide h1
   clear hR h1
   go_enter Try.func24, Try.ntmps24
   have HB := hide (Below.refl w.heap.size w)
   go_wp2_with fail
   refine at_world fun W hW => ?_
   have bq0 : Blk W w.heap.size 33 #[.int .i64 x, .int .i64 y, .int .i64 sz, .int .i64 wi, .int .i64 hi, .slice A n c] := by rw [hW]; exact Blk.new _ _ _
   have LW : Later w W := by rw [hW]; exact ((Below.refl _ _).alloc (Nat.le_refl _) _)
   have szW : W.heap.size = w.heap.size + 1 := by rw [hW]; simp
   clear hW
   replace HB := hide (onward HB.out LW)
   have Hf := hide bq0
   clear bq0 LW szW
   refine (Hg.out _).mono ?_
   rintro e w1 ⟨rfl, hb⟩
   replace HB := hide (onward HB.out hb)
   replace Hf := hide (blk_later Hf.out hb)
   clear hb
   obtain ⟨q0, q1, q2, q3, q4, q5⟩ := Hf.out.c6
   have ltf := Hf.out.lt
   go_wp2_with fail
   go_loopw [28] (fun i wr => ∃ k : Nat, k ≤ n ∧ i = .int .i64 k ∧ Below w.heap.size w wr ∧ ∀ j, j < k → okS most (l.getD j (0, 0)) = true) (fun i _ => n - (intOf i).toNat)
   case atStart => exact ⟨0, by omega, rfl, HB.out, fun j hj => by omega⟩
   case round =>
    clear HB Hf q0 q1 q2 q3 q4 q5 ltf
    obtain ⟨k, hk, rfl, hbw, hall⟩ := hrel
    have HB := hide hbw
    have Hall := hide hall
    clear hbw hall
    have hsw := HB.out.size
    by_cases hlt : k < n
    ·
     obtain ⟨b, off, rfl, hb, hc⟩ := Hl.out.ptQ (by have := Hn.out; omega)
     obtain ⟨p0, p1⟩ := hc k (by have := Hn.out; omega)
     rw [← HB.out.cell hb] at p0 p1
     have hnn := fun h => not_all_okS (l := l) (most := most) (j := k) (by have := Hn.out; omega) h
     have hok1 : okS most (l.getD k (0, 0)) = true → ∀ j, j < k + 1 → okS most (l.getD j (0, 0)) = true := fun h j hj => by
      rcases Nat.lt_or_ge j k with h1 | h1
      · exact Hall.out j h1
      ·
       obtain rfl : j = k := by omega
       exact h
     generalize l.getD k (0, 0) = m at *
     obtain ⟨m1', m2'⟩ := m
     simp only at p0 p1
     have hdec : okS most (m1', m2') = decide (0 ≤ m1' ∧ m1' ≤ m2' ∧ m2' ≤ most) := rfl
     rw [hdec] at hnn hok1
     have Hnn := hide hnn
     have Hok1 := hide hok1
     clear hnn hok1
     clear hc hdec
     by_cases g1 : m1' < 0
     ·
      have HR2 := hide (HR.out.trans (if_neg (by rw [Hnn.out (decide_eq_false (by omega))]; simp)))
      go_wp2
      go_ret
      refine ⟨ret_int HR2.out.symm, ?_⟩
      repeat (first | exact HB.out | (refine Below.setCell ?_ (by first | omega | (simp <;> omega)) _) | (refine Below.alloc ?_ (by first | omega | (simp <;> omega)) _) | (refine below_drewN ?_ _))
     by_cases g2 : m2' < m1'
     ·
      have HR2 := hide (HR.out.trans (if_neg (by rw [Hnn.out (decide_eq_false (by omega))]; simp)))
      go_wp2
      go_ret
      refine ⟨ret_int HR2.out.symm, ?_⟩
      repeat (first | exact HB.out | (refine Below.setCell ?_ (by first | omega | (simp <;> omega)) _) | (refine Below.alloc ?_ (by first | omega | (simp <;> omega)) _) | (refine below_drewN ?_ _))
     by_cases g3 : most < m2'
     ·
      have HR2 := hide (HR.out.trans (if_neg (by rw [Hnn.out (decide_eq_false (by omega))]; simp)))
      go_wp2
      go_ret
      refine ⟨ret_int HR2.out.symm, ?_⟩
      repeat (first | exact HB.out | (refine Below.setCell ?_ (by first | omega | (simp <;> omega)) _) | (refine Below.alloc ?_ (by first | omega | (simp <;> omega)) _) | (refine below_drewN ?_ _))
     ·
      have Hk2 := hide (Hok1.out (decide_eq_true (by omega)))
      go_wp2
      go_roundw
      case rel =>
       refine ⟨k + 1, by omega, by go_num, ?_, Hk2.out⟩
       repeat (first | exact HB.out | (refine Below.setCell ?_ (by first | omega | (simp <;> omega)) _) | (refine Below.alloc ?_ (by first | omega | (simp <;> omega)) _) | (refine below_drewN ?_ _))
      case measure => simp [intOf] <;> omega
    ·
     obtain rfl : k = n := by omega
     have HR2 := hide (HR.out.trans (if_pos (all_okS fun j hj => Hall.out j (by have := Hn.out; omega))))
     go_wp2
     go_ret
     exact ⟨ret_int HR2.out.symm, HB.out⟩
  ·
   rw [if_pos h1] at hR
   have h1' : ((n : Int) != wi * hi) = true := by simpa [bne] using h1
   have HR := hide hR
   clear hR
   go_enter Try.func24, Try.ntmps24
   have HB := hide (Below.refl w.heap.size w)
   go_wp2_with fail
   refine at_world fun W hW => ?_
   have bq0 : Blk W w.heap.size 33 #[.int .i64 x, .int .i64 y, .int .i64 sz, .int .i64 wi, .int .i64 hi, .slice A n c] := by rw [hW]; exact Blk.new _ _ _
   have LW : Later w W := by rw [hW]; exact ((Below.refl _ _).alloc (Nat.le_refl _) _)
   have szW : W.heap.size = w.heap.size + 1 := by rw [hW]; simp
   clear hW
   replace HB := hide (onward HB.out LW)
   have Hf := hide bq0
   clear bq0 LW szW
   refine (Hg.out _).mono ?_
   rintro e w1 ⟨rfl, hb⟩
   replace HB := hide (onward HB.out hb)
   replace Hf := hide (blk_later Hf.out hb)
   clear hb
   obtain ⟨q0, q1, q2, q3, q4, q5⟩ := Hf.out.c6
   have ltf := Hf.out.lt
   go_wp2
   go_ret
   exact ⟨ret_int HR.out.symm, HB.out⟩
 ·
  rw [if_pos h0] at hR
  have h00 : (ge != 0) = true := by simpa [bne] using h0
  have HR := hide hR
  clear hR
  go_enter Try.func24, Try.ntmps24
  have HB := hide (Below.refl w.heap.size w)
  go_wp2_with fail
  refine at_world fun W hW => ?_
  have bq0 : Blk W w.heap.size 33 #[.int .i64 x, .int .i64 y, .int .i64 sz, .int .i64 wi, .int .i64 hi, .slice A n c] := by rw [hW]; exact Blk.new _ _ _
  have LW : Later w W := by rw [hW]; exact ((Below.refl _ _).alloc (Nat.le_refl _) _)
  have szW : W.heap.size = w.heap.size + 1 := by rw [hW]; simp
  clear hW
  replace HB := hide (onward HB.out LW)
  have Hf := hide bq0
  clear bq0 LW szW
  refine (Hg.out _).mono ?_
  rintro e w1 ⟨rfl, hb⟩
  replace HB := hide (onward HB.out hb)
  replace Hf := hide (blk_later Hf.out hb)
  clear hb
  obtain ⟨q0, q1, q2, q3, q4, q5⟩ := Hf.out.c6
  have ltf := Hf.out.lt
  go_wp2
  go_ret
  exact ⟨ret_int HR.out.symm, HB.out⟩
end Go.Proofs.Ytepgpihobmjbdaa
end
section
namespace Go.Proofs.Ytepgpihobmjbdaa
open Go.RowKit
set_option maxHeartbeats 2000000 in
set_option maxRecDepth 100000 in
theorem riseDown_any (s : ByteArray) (x y z r g st wd t gate e : Int) (w : World) (h1 : -8 ≤ t) (h2 : t ≤ 264) (h3 : 0 ≤ gate) (h4 : gate ≤ 199) (h5 : 0 ≤ st) (h6 : st ≤ 2000) (z0 : 0 ≤ z) (z1 : z ≤ 20000) (e0 : 1000000 ≤ e) (e1 : e ≤ 100000000) :
  Calls Try.prog 36 #[siteV s x y z r g st wd, .int .i64 t, .int .i64 gate, .int .i64 e, .func (.func 37) #[] #[]] w fun e' w' => e' = .returned (.int .i64 (riseD z st gate t e)) ∧ Below w.heap.size w w' := by
 obtain ⟨a1, a2, a3, a4, a5, a6⟩ := reach_bd h1 h2 h3 h4 h5 h6
 obtain ⟨s1, s2⟩ := sine_bd h1 h2 a3 a4
 obtain ⟨b1, b2, -, -, -⟩ := r_bd h1 h2 h3 h4 h5 h6
 obtain ⟨c1, c2⟩ := sq_bd b1 b2
 obtain ⟨u1, u2, -, -⟩ := q_bd (b := 2 * (262144 + t * t)) (by omega) s1 s2 (by omega)
 obtain ⟨v1, v2, -, -⟩ := q_bd (a := rD st gate t * rD st gate t) (b := 2 * e) (C := 160000000000) (by omega) (by omega) c2 (by omega)
 have hs := fun W => slantOf_any t W h1 h2
 have hr := fun W => reachDown_any s x y z r g st wd t gate W h1 h2 h3 h4 h5 h6
 have hf1 := fun W => round_down ((2 * gate + 1) * st * (1024 * t)) (2 * (262144 + t * t)) W (by omega) (by omega) (by omega) (by omega)
 have hf2 := fun W => round_down (rD st gate t * rD st gate t) (2 * e) W (by omega) (by omega) (by omega) (by omega)
 have hQ : riseD z st gate t e = z + (sineN st gate t / reachD t) + (rD st gate t * rD st gate t / (2 * e)) := rfl
 have hr' : ∀ W, Calls Try.prog 53 #[siteV s x y z r g st wd, .int .i64 t, .int .i64 gate, .func (.func 37) #[] #[]] W fun e w' => e = .returned (.int .i64 (rD st gate t)) ∧ Below W.heap.size W w' := hr
 unfold sineN reachD at hQ
 unfold vecV slantV at hs
 unfold siteV at hr' ⊢
 simp only at hs hf1 hf2 u1 u2 v1 v2
 rw [hQ]
 clear hQ hr
 generalize rD st gate t = G at *
 generalize hP1 : ((2 * gate + 1) * st * (1024 * t) / (2 * (262144 + t * t))) = P1 at *
 generalize hP2 : (G * G / (2 * e)) = P2 at *
 have Hs := hide hs
 have Hr := hide hr'
 have Hf1 := hide hf1
 have Hf2 := hide hf2
 clear hs hr' hf1 hf2
 clear hP1 hP2 a5 a6
 go_enter Try.func36, Try.ntmps36
 have HB := hide (Below.refl w.heap.size w)
 go_wp2_with fail
 refine at_world fun W hW => ?_
 have bq0 : Blk W w.heap.size 28 #[.string s, .int .i64 x, .int .i64 y, .int .i64 z, .int .i64 r, .int .i64 g, .int .i64 st, .int .i64 wd] := by rw [hW]; exact Blk.new _ _ _
 have LW : Later w W := by rw [hW]; exact ((Below.refl _ _).alloc (Nat.le_refl _) _)
 have szW : W.heap.size = w.heap.size + 1 := by rw [hW]; simp
 clear hW
 replace HB := hide (onward HB.out LW)
 have Hq := hide bq0
 clear bq0 LW szW
 refine (Hs.out _).mono ?_
 rintro e w1 ⟨rfl, hb⟩
 replace HB := hide (onward HB.out hb)
 replace Hq := hide (blk_later Hq.out hb)
 clear hb
 obtain ⟨q0, q1, q2, q3, q4, q5, q6, q7⟩ := Hq.out.site8
 have lts := Hq.out.lt
 go_wp2_with fail
 refine at_world fun W1 hW => ?_
 have bq0 : Blk W1 w1.heap.size 115 #[.int .i64 (262144 - t * t), .int .i64 (1024 * t), .int .i64 (262144 + t * t)] := by rw [hW]; exact Blk.new _ _ _
 have LW : Later w1 W1 := by rw [hW]; exact ((Below.refl _ _).alloc (Nat.le_refl _) _)
 have szW : W1.heap.size = w1.heap.size + 1 := by rw [hW]; simp
 clear hW
 replace HB := hide (onward HB.out LW)
 replace Hq := hide (blk_later Hq.out LW)
 have Hx := hide bq0
 clear bq0 LW szW
 refine (Hr.out _).mono ?_
 rintro e w2 ⟨rfl, hb⟩
 replace HB := hide (onward HB.out hb)
 replace Hq := hide (blk_later Hq.out hb)
 replace Hx := hide (blk_later Hx.out hb)
 clear hb
 clear q0 q1 q2 q3 q4 q5 q6 q7 lts
 obtain ⟨q0, q1, q2, q3, q4, q5, q6, q7⟩ := Hq.out.site8
 have lts := Hq.out.lt
 obtain ⟨x0, x1, x2⟩ := Hx.out.c3
 have ltx := Hx.out.lt
 go_wp2_with fail
 apply wp_region_L (w0 := w2) [[], [], [], [], [], [], [], [], [], [], [], [], [], [], [], [], [], [], [], [], [], [], [], [], [], []] [true, true, true, true, true, true, true, true, true, true, true, true, true, true, true, true, true, true, true, true, true, true, true, true, true, true] [] (fun ixq y => match ixq with  | _ => undef) (fun ixq x F wq => match ixq with  | _ => True) (fun a x => a) (by kernel_rfl) (by kernel_rfl) (fun _ => rfl) [35, 43] (by kernel_rfl)
 ·
  intro x D hD
  have hne := hD.some
  have k3 := liftB hD q3 (by first | assumption | omega)
  have k6 := liftB hD q6 (by first | assumption | omega)
  have l1 := liftB hD x1 (by first | assumption | omega)
  have l2 := liftB hD x2 (by first | assumption | omega)
  simp only [takeOps, Act.put, List.setIfInBounds_toArray, List.set_cons_succ, List.set_cons_zero]
  repeat (go_big_quiet_step ((go_at_call 37; first | (with_reducible exact calls_same _ (Hf1.out _)) | (with_reducible exact calls_same _ (Hf2.out _)))))
  exact wpQuiet_nil rfl
 ·
  intro d hd x x'
  simp only [List.mem_cons, List.not_mem_nil, or_false] at hd
  rcases hd with rfl | rfl
  all_goals rfl
 · exact trivial
 · exact trivial
 intro xx w3 F hL hlv1
 clear hlv1
 replace HB := hide (onward HB.out hL)
 replace Hq := hide (blk_later Hq.out hL)
 replace Hx := hide (blk_later Hx.out hL)
 clear hL x0 x1 x2 ltx
 go_wp2
 go_ret
 exact ⟨rfl, HB.out⟩
set_option maxHeartbeats 2000000 in
set_option maxRecDepth 100000 in
theorem riseUp_any (s : ByteArray) (x y z r g st wd t gate e : Int) (w : World) (h1 : -8 ≤ t) (h2 : t ≤ 264) (h3 : 0 ≤ gate) (h4 : gate ≤ 199) (h5 : 0 ≤ st) (h6 : st ≤ 2000) (z0 : 0 ≤ z) (z1 : z ≤ 20000) (e0 : 1000000 ≤ e) (e1 : e ≤ 100000000) :
  Calls Try.prog 36 #[siteV s x y z r g st wd, .int .i64 t, .int .i64 gate, .int .i64 e, .func (.func 38) #[] #[]] w fun e' w' => e' = .returned (.int .i64 (riseU z st gate t e)) ∧ Below w.heap.size w w' := by
 obtain ⟨a1, a2, a3, a4, a5, a6⟩ := reach_bd h1 h2 h3 h4 h5 h6
 obtain ⟨s1, s2⟩ := sine_bd h1 h2 a3 a4
 obtain ⟨-, -, b1, b2, -⟩ := r_bd h1 h2 h3 h4 h5 h6
 obtain ⟨c1, c2⟩ := sq_bd b1 b2
 obtain ⟨-, -, u1, u2⟩ := q_bd (b := 2 * (262144 + t * t)) (by omega) s1 s2 (by omega)
 obtain ⟨-, -, v1, v2⟩ := q_bd (a := rU st gate t * rU st gate t) (b := 2 * e) (C := 160000000000) (by omega) (by omega) c2 (by omega)
 have hs := fun W => slantOf_any t W h1 h2
 have hr := fun W => reachUp_any s x y z r g st wd t gate W h1 h2 h3 h4 h5 h6
 have hf1 := fun W => round_up ((2 * gate + 1) * st * (1024 * t)) (2 * (262144 + t * t)) W (by omega) (by omega) (by omega) (by omega)
 have hf2 := fun W => round_up (rU st gate t * rU st gate t) (2 * e) W (by omega) (by omega) (by omega) (by omega)
 have hQ : riseU z st gate t e = z + (cdiv (sineN st gate t) (reachD t)) + (cdiv (rU st gate t * rU st gate t) (2 * e)) := rfl
 have hr' : ∀ W, Calls Try.prog 53 #[siteV s x y z r g st wd, .int .i64 t, .int .i64 gate, .func (.func 38) #[] #[]] W fun e w' => e = .returned (.int .i64 (rU st gate t)) ∧ Below W.heap.size W w' := hr
 unfold sineN reachD at hQ
 unfold vecV slantV at hs
 unfold siteV at hr' ⊢
 simp only at hs hf1 hf2 u1 u2 v1 v2
 rw [hQ]
 clear hQ hr
 generalize rU st gate t = G at *
 generalize hP1 : (cdiv ((2 * gate + 1) * st * (1024 * t)) (2 * (262144 + t * t))) = P1 at *
 generalize hP2 : (cdiv (G * G) (2 * e)) = P2 at *
 have Hs := hide hs
 have Hr := hide hr'
 have Hf1 := hide hf1
 have Hf2 := hide hf2
 clear hs hr' hf1 hf2
 clear hP1 hP2 a5 a6
 go_enter Try.func36, Try.ntmps36
 have HB := hide (Below.refl w.heap.size w)
 go_wp2_with fail
 refine at_world fun W hW => ?_
 have bq0 : Blk W w.heap.size 28 #[.string s, .int .i64 x, .int .i64 y, .int .i64 z, .int .i64 r, .int .i64 g, .int .i64 st, .int .i64 wd] := by rw [hW]; exact Blk.new _ _ _
 have LW : Later w W := by rw [hW]; exact ((Below.refl _ _).alloc (Nat.le_refl _) _)
 have szW : W.heap.size = w.heap.size + 1 := by rw [hW]; simp
 clear hW
 replace HB := hide (onward HB.out LW)
 have Hq := hide bq0
 clear bq0 LW szW
 refine (Hs.out _).mono ?_
 rintro e w1 ⟨rfl, hb⟩
 replace HB := hide (onward HB.out hb)
 replace Hq := hide (blk_later Hq.out hb)
 clear hb
 obtain ⟨q0, q1, q2, q3, q4, q5, q6, q7⟩ := Hq.out.site8
 have lts := Hq.out.lt
 go_wp2_with fail
 refine at_world fun W1 hW => ?_
 have bq0 : Blk W1 w1.heap.size 115 #[.int .i64 (262144 - t * t), .int .i64 (1024 * t), .int .i64 (262144 + t * t)] := by rw [hW]; exact Blk.new _ _ _
 have LW : Later w1 W1 := by rw [hW]; exact ((Below.refl _ _).alloc (Nat.le_refl _) _)
 have szW : W1.heap.size = w1.heap.size + 1 := by rw [hW]; simp
 clear hW
 replace HB := hide (onward HB.out LW)
 replace Hq := hide (blk_later Hq.out LW)
 have Hx := hide bq0
 clear bq0 LW szW
 refine (Hr.out _).mono ?_
 rintro e w2 ⟨rfl, hb⟩
 replace HB := hide (onward HB.out hb)
 replace Hq := hide (blk_later Hq.out hb)
 replace Hx := hide (blk_later Hx.out hb)
 clear hb
 clear q0 q1 q2 q3 q4 q5 q6 q7 lts
 obtain ⟨q0, q1, q2, q3, q4, q5, q6, q7⟩ := Hq.out.site8
 have lts := Hq.out.lt
 obtain ⟨x0, x1, x2⟩ := Hx.out.c3
 have ltx := Hx.out.lt
 go_wp2_with fail
 apply wp_region_L (w0 := w2) [[], [], [], [], [], [], [], [], [], [], [], [], [], [], [], [], [], [], [], [], [], [], [], [], [], []] [true, true, true, true, true, true, true, true, true, true, true, true, true, true, true, true, true, true, true, true, true, true, true, true, true, true] [] (fun ixq y => match ixq with  | _ => undef) (fun ixq x F wq => match ixq with  | _ => True) (fun a x => a) (by kernel_rfl) (by kernel_rfl) (fun _ => rfl) [35, 43] (by kernel_rfl)
 ·
  intro x D hD
  have hne := hD.some
  have k3 := liftB hD q3 (by first | assumption | omega)
  have k6 := liftB hD q6 (by first | assumption | omega)
  have l1 := liftB hD x1 (by first | assumption | omega)
  have l2 := liftB hD x2 (by first | assumption | omega)
  simp only [takeOps, Act.put, List.setIfInBounds_toArray, List.set_cons_succ, List.set_cons_zero]
  repeat (go_big_quiet_step ((go_at_call 38; first | (with_reducible exact calls_same _ (Hf1.out _)) | (with_reducible exact calls_same _ (Hf2.out _)))))
  exact wpQuiet_nil rfl
 ·
  intro d hd x x'
  simp only [List.mem_cons, List.not_mem_nil, or_false] at hd
  rcases hd with rfl | rfl
  all_goals rfl
 · exact trivial
 · exact trivial
 intro xx w3 F hL hlv2
 clear hlv2
 replace HB := hide (onward HB.out hL)
 replace Hq := hide (blk_later Hq.out hL)
 replace Hx := hide (blk_later Hx.out hL)
 clear hL x0 x1 x2 ltx
 go_wp2
 go_ret
 exact ⟨rfl, HB.out⟩
end Go.Proofs.Ytepgpihobmjbdaa
end
section
namespace Go.Proofs.Ytepgpihobmjbdaa
open Go.RowKit
theorem valid_anyQ (a b : Int) (w : World) :
  Calls Try.prog 25 #[.agg #[.int .i64 a, .int .i64 b]] w fun e w' => e = .returned (.bool (okE a b)) ∧ Below w.heap.size w w' := by
 unfold okE
 have hE : decide (1000000 ≤ a ∧ a ≤ b ∧ b ≤ 100000000) = (decide (1000000 ≤ a) && decide (a ≤ b) && decide (b ≤ 100000000)) := by
  rw [Bool.eq_iff_iff]; simp [and_assoc]
 rw [hE]
 clear hE
 cases h1 : decide (1000000 ≤ a) <;> cases h2 : decide (a ≤ b) <;> cases h3 : decide (b ≤ 100000000)
 all_goals
  go_enter Try.func25, Try.ntmps25
  go_wp2
  go_ret
  exact ⟨rfl, (Below.refl _ _).alloc (Nat.le_refl _) _⟩
set_option maxHeartbeats 2000000 in
set_option maxRecDepth 100000 in
theorem height_any (s : ByteArray) (x y z r g st wd t gate elo ehi : Int) (w : World) (h1 : -8 ≤ t) (h2 : t ≤ 264) (h3 : 0 ≤ gate) (h4 : gate ≤ 199) (h5 : 0 ≤ st) (h6 : st ≤ 2000) (z0 : 0 ≤ z) (z1 : z ≤ 20000) (he : okE elo ehi = true) :
  Calls Try.prog 27 #[siteV s x y z r g st wd, .int .i64 t, .int .i64 gate, .agg #[.int .i64 elo, .int .i64 ehi]] w fun e w' => e = .returned (.agg #[.int .i64 (riseD z st gate t ehi), .int .i64 (riseU z st gate t elo)]) ∧ Below w.heap.size w w' := by
 obtain ⟨e1, e2, e3⟩ := okE_iff he
 have hd := fun W => riseDown_any s x y z r g st wd t gate ehi W h1 h2 h3 h4 h5 h6 z0 z1 (by omega) e3
 have hu := fun W => riseUp_any s x y z r g st wd t gate elo W h1 h2 h3 h4 h5 h6 z0 z1 e1 (by omega)
 unfold siteV at *
 generalize riseD z st gate t ehi = a at *
 generalize riseU z st gate t elo = b at *
 have Hd := hide hd
 have Hu := hide hu
 clear hd hu
 clear he
 go_enter Try.func27, Try.ntmps27
 have HB := hide (Below.refl w.heap.size w)
 go_wp2_with fail
 refine code_world fun W hW => ?_
 have bq0 : Blk W w.heap.size 28 #[.string s, .int .i64 x, .int .i64 y, .int .i64 z, .int .i64 r, .int .i64 g, .int .i64 st, .int .i64 wd] := by rw [hW]; exact ((Blk.new _ _ _).alloc _).alloc _
 have bq1 : Blk W (w.heap.size + 1) 24 #[.int .i64 elo, .int .i64 ehi] := by rw [hW]; exact (blk_new_at (by simp)).alloc _
 have bq2 : Blk W (w.heap.size + 2) 24 #[.int .i64 0, .int .i64 0] := by rw [hW]; exact blk_new_at (by simp)
 have LW : Later w W := by rw [hW]; exact ((((Below.refl _ _).alloc (Nat.le_refl _) _).alloc (by simp; try omega) _).alloc (by simp; try omega) _)
 have szW : W.heap.size = w.heap.size + 3 := by rw [hW]; simp
 clear hW
 replace HB := hide (onward HB.out LW)
 have Hq := hide bq0
 have He := hide bq1
 have Ho := hide bq2
 clear bq0 bq1 bq2 LW szW
 obtain ⟨q0, q1, q2, q3, q4, q5, q6, q7⟩ := Hq.out.site8
 have lts := Hq.out.lt
 obtain ⟨v0, v1⟩ := He.out.c2
 have ltv := He.out.lt
 have lto := Ho.out.lt
 apply wp_region_F (w0 := W) [[], [], [], [], [3], [0, 1, 2, 3, 4], [], [], [], [], [9], [0, 1, 2, 3, 4, 5, 6, 7, 8, 9, 10], [0, 1, 2, 3, 4, 5, 6, 7, 8, 9, 10, 11], [0, 1, 2, 3, 4, 5, 6, 7, 8, 9, 10, 11, 12]] [true, true, true, true, true, true, true, true, true, true, true, true, true, false] [false, false, false, false, false, false, false, false, false, false, false, false, false, false] [⟨13, none, [], []⟩] [(13, (w.heap.size+2))] [13] (fun ixq y => match ixq with | 13 => undef | _ => undef) (fun ixq x F wq => match ixq with | 13 => F (w.heap.size+2) ∧ Blk wq (w.heap.size+2) 24 #[.int .i64 a, .int .i64 b] | _ => True) (fun a x => (a).put (none) (undef)) (by kernel_rfl) (by kernel_rfl) (by kernel_rfl) (fun _ => rfl) [14, 20] (by kernel_rfl) (fills_lt1 (by omega)) fills_ne1
 ·
  intro x D hD
  have hne := hD.some
  have k0 := liftS hD q0 (by exact early_all (by first | assumption | omega) (by rfl))
  have k1 := liftS hD q1 (by exact early_all (by first | assumption | omega) (by rfl))
  have k2 := liftS hD q2 (by exact early_all (by first | assumption | omega) (by rfl))
  have k3 := liftS hD q3 (by exact early_all (by first | assumption | omega) (by rfl))
  have k4 := liftS hD q4 (by exact early_all (by first | assumption | omega) (by rfl))
  have k5 := liftS hD q5 (by exact early_all (by first | assumption | omega) (by rfl))
  have k6 := liftS hD q6 (by exact early_all (by first | assumption | omega) (by rfl))
  have k7 := liftS hD q7 (by exact early_all (by first | assumption | omega) (by rfl))
  have l0 := liftS hD v0 (by exact early_all (by first | assumption | omega) (by rfl))
  have l1 := liftS hD v1 (by exact early_all (by first | assumption | omega) (by rfl))
  simp only [takeOps, Act.put, List.setIfInBounds_toArray, List.set_cons_succ, List.set_cons_zero]
  repeat (go_big_quiet_step ((go_at_call 36; first | (with_reducible exact calls_later hD _ (Hd.out _)) | (with_reducible exact calls_later hD _ (Hu.out _)))))
  exact wpQuiet_nil rfl
 · exact fun x D hD => wpQuiet_nil rfl
 ·
  intro d hd x x'
  simp only [List.mem_cons, List.not_mem_nil, or_false] at hd
  rcases hd with rfl | rfl
  all_goals rfl
 ·
  refine ⟨?_, trivial⟩
  · exact obl_fill 24 24 8 21 (w.heap.size+2) _ (fun x => #[.int .i64 a, .int .i64 b]) (by kernel_rfl) (fun _ => rfl) (fun _ => rfl) Ho.out eb_fill1 (by simp [wrF]) (fun _ => by kernel_rfl) (fun _ => rfl) (fun _ => by simp [Value.oneCell']) (fun _ => rfl) (fun _ _ _ _ h1 h2 => ⟨h1, h2⟩)
 ·
  refine ⟨?_, trivial⟩
  · exact owe_fill (w.heap.size+2) 24 (fun x => #[.int .i64 a, .int .i64 b]) (fun _ _ _ => rfl) (fun _ _ _ => rfl)
 intro xx w2 F hK hlv1
 obtain ⟨fct13, -⟩ := hlv1
 replace fct13 : (F 13) (w.heap.size+2) ∧ Blk w2 (w.heap.size+2) 24 #[.int .i64 a, .int .i64 b] := fct13 rfl
 clear q0 q1 q2 q3 q4 q5 q6 q7 lts lto
 clear Hq He
 have hgr := grown_kept hK
 replace HB := hide (below_grown HB.out hgr HB.out.size (fun q hq => by simp at hq; omega))
 replace Ho := hide fct13.2
 clear hgr hK fct13 v0 v1 ltv
 obtain ⟨o0, o1⟩ := Ho.out.c2
 have lto := Ho.out.lt
 go_wp2
 refine bodyPost_ret (v := .agg #[.int .i64 a, .int .i64 b]) (by simp [results, Try.results27, go_sem, o0, o1]) rfl ⟨rfl, HB.out⟩
end Go.Proofs.Ytepgpihobmjbdaa
end
section
namespace Go.Proofs.Ytepgpihobmjbdaa
open Go.RowKit
end Go.Proofs.Ytepgpihobmjbdaa
end
section
namespace Go.Proofs.Ytepgpihobmjbdaa
open Go.RowKit
theorem nm_any (s : ByteArray) (hs : s.size ≤ 9223372036854775807) : ∀ W, Calls Try.prog 17 #[.string s] W fun e w' => e = .returned (.bool (nameB s)) ∧ Below W.heap.size W w' := fun W => Name_any s W hs
end Go.Proofs.Ytepgpihobmjbdaa
end
section
namespace Go.Proofs.Ytepgpihobmjbdaa
open Go Go.RowKit
end Go.Proofs.Ytepgpihobmjbdaa
end
section
namespace Go.Proofs.Ytepgpihobmjbdaa
open Go Go.RowKit
end Go.Proofs.Ytepgpihobmjbdaa
end
section
namespace Go.Proofs.Ytepgpihobmjbdaa
open Go Go.RowKit
end Go.Proofs.Ytepgpihobmjbdaa
end
section
namespace Go.Proofs.Ytepgpihobmjbdaa
open Go Go.RowKit
theorem dirV_bd {n a : Int} (h1 : 1 ≤ n) (h2 : n ≤ 180) (h3 : 0 ≤ a) (h4 : a < 4 * n) : (-64800 ≤ (dirV n a).x ∧ (dirV n a).x ≤ 64800) ∧ (-64800 ≤ (dirV n a).y ∧ (dirV n a).y ≤ 64800) ∧ 1 ≤ (dirV n a).l ∧ (dirV n a).l ≤ 64800 := by
 obtain ⟨q, b1, b2, b3, b4, b5, b6, b7, b8⟩ := dir_bd h1 h2 h3 (show a ≤ 4 * n - 1 by omega)
 have b9 : 1 ≤ n * n := Int.mul_pos (by omega) (by omega)
 unfold dirV
 generalize 2 * n * (a % n) = p at *
 generalize n * n = m at *
 generalize a % n * (a % n) = k at *
 generalize a / n = c at *
 clear h1 h2 h3 h4 b1 b2
 unfold quarter
 split
 · exact ⟨⟨by show -64800 ≤ p; omega, by show p ≤ 64800; omega⟩, ⟨by show -64800 ≤ m - k; omega, by show m - k ≤ 64800; omega⟩, by show 1 ≤ m + k; omega, by show m + k ≤ 64800; omega⟩
 ·
  split
  · exact ⟨⟨by show -64800 ≤ m - k; omega, by show m - k ≤ 64800; omega⟩, ⟨by show -64800 ≤ -p; omega, by show -p ≤ 64800; omega⟩, by show 1 ≤ m + k; omega, by show m + k ≤ 64800; omega⟩
  ·
   split
   · exact ⟨⟨by show -64800 ≤ -p; omega, by show -p ≤ 64800; omega⟩, ⟨by show -64800 ≤ -(m - k); omega, by show -(m - k) ≤ 64800; omega⟩, by show 1 ≤ m + k; omega, by show m + k ≤ 64800; omega⟩
   · exact ⟨⟨by show -64800 ≤ -(m - k); omega, by show -(m - k) ≤ 64800; omega⟩, ⟨by show -64800 ≤ p; omega, by show p ≤ 64800; omega⟩, by show 1 ≤ m + k; omega, by show m + k ≤ 64800; omega⟩
end Go.Proofs.Ytepgpihobmjbdaa
end
section
namespace Go.Proofs.Ytepgpihobmjbdaa
open Go Go.RowKit
def pixZ (gx gy gs wi hi x y : Int) : Int :=
 if x < gx ∨ y < gy ∨ gx + wi * gs ≤ x ∨ gy + hi * gs ≤ y then -1 else (y - gy) / gs * wi + (x - gx) / gs
theorem pix_bd {gx gs wi x : Int} (h1 : 1 ≤ gs) (h2 : gx ≤ x) (h3 : x < gx + wi * gs) : 0 ≤ (x - gx) / gs ∧ (x - gx) / gs < wi :=
 ⟨Int.ediv_nonneg (by omega) (by omega), Int.ediv_lt_of_lt_mul (by omega) (by omega)⟩
set_option maxHeartbeats 2000000 in
set_option maxRecDepth 100000 in
theorem pixel_any (gx gy gs wi hi x y : Int) (w : World) (a1 : -1048576 ≤ gx) (a2 : gx ≤ 1048576) (b1 : -1048576 ≤ gy) (b2 : gy ≤ 1048576) (c1 : 1 ≤ gs) (c2 : gs ≤ 10000) (d1 : 1 ≤ wi) (d2 : wi ≤ 64) (e1 : 1 ≤ hi) (e2 : hi ≤ 64) :
  Calls Try.prog 49 #[gridV gx gy gs wi hi, .int .i64 x, .int .i64 y] w fun e w' => e = .returned (.int .i64 (pixZ gx gy gs wi hi x y)) ∧ Below w.heap.size w w' := by
 obtain ⟨m1, m2⟩ := mul_bdB (a := wi) (b := gs) (A := 64) (B := 10000) (by omega) d2 (by omega) c2
 obtain ⟨n1, n2⟩ := mul_bdB (a := hi) (b := gs) (A := 64) (B := 10000) (by omega) e2 (by omega) c2
 obtain ⟨res, hres⟩ : ∃ p, pixZ gx gy gs wi hi x y = p := ⟨_, rfl⟩
 rw [hres]
 unfold pixZ at hres
 unfold gridV
 by_cases g1 : x < gx
 ·
  have hres2 := hide (hres.symm.trans (if_pos (by omega)))
  clear hres
  go_enter Try.func49, Try.ntmps49
  go_wp2
  go_ret
  exact ⟨ret_int hres2.out.symm, (Below.refl _ _).alloc (Nat.le_refl _) _⟩
 by_cases g2 : y < gy
 ·
  have hres2 := hide (hres.symm.trans (if_pos (by omega)))
  clear hres
  go_enter Try.func49, Try.ntmps49
  go_wp2
  go_ret
  exact ⟨ret_int hres2.out.symm, (Below.refl _ _).alloc (Nat.le_refl _) _⟩
 by_cases g3 : gx + wi * gs ≤ x
 ·
  have hres2 := hide (hres.symm.trans (if_pos (by omega)))
  clear hres
  go_enter Try.func49, Try.ntmps49
  go_wp2
  go_ret
  exact ⟨ret_int hres2.out.symm, (Below.refl _ _).alloc (Nat.le_refl _) _⟩
 by_cases g4 : gy + hi * gs ≤ y
 ·
  have hres2 := hide (hres.symm.trans (if_pos (by omega)))
  clear hres
  go_enter Try.func49, Try.ntmps49
  go_wp2
  go_ret
  exact ⟨ret_int hres2.out.symm, (Below.refl _ _).alloc (Nat.le_refl _) _⟩
 obtain ⟨p1, p2⟩ := pix_bd (gx := gx) (x := x) (wi := wi) c1 (by omega) (by omega)
 obtain ⟨q1, q2⟩ := pix_bd (gx := gy) (x := y) (wi := hi) c1 (by omega) (by omega)
 obtain ⟨r1, r2⟩ := mul_bdB (a := (y - gy) / gs) (b := wi) (A := 64) (B := 64) q1 (by omega) (by omega) d2
 have c3 : gs ≠ 0 := by omega
 have c4 : 0 < gs := by omega
 have hres2 := hide (hres.symm.trans (if_neg (by omega)))
 clear hres
 go_enter Try.func49, Try.ntmps49
 have HB := hide (Below.refl w.heap.size w)
 go_wp2_with fail
 refine code_world fun W hW => ?_
 have bq0 : Blk W w.heap.size 30 #[.int .i64 gx, .int .i64 gy, .int .i64 gs, .int .i64 wi, .int .i64 hi] := by rw [hW]; exact Blk.new _ _ _
 have LW : Later w W := by rw [hW]; exact ((Below.refl _ _).alloc (Nat.le_refl _) _)
 have szW : W.heap.size = w.heap.size + 1 := by rw [hW]; simp
 clear hW
 replace HB := hide (onward HB.out LW)
 have Hg := hide bq0
 clear bq0 LW szW
 obtain ⟨k0, k1, k2, k3, k4⟩ := Hg.out.c5
 have ltk := Hg.out.lt
 apply wp_region_L (w0 := W) [[], [], [], [], [], [], [], [], [], [], [], [], [], [], [], [], [], [], []] [true, true, true, true, true, true, true, true, true, true, true, true, true, true, true, true, true, true, true] [] (fun ixq y => match ixq with  | _ => undef) (fun ixq x F wq => match ixq with  | _ => True) (fun a x => a) (by kernel_rfl) (by kernel_rfl) (fun _ => rfl) [] (by kernel_rfl)
 ·
  intro x D hD
  have hne := hD.some
  have k0 := liftB hD k0 (by first | assumption | omega)
  have k1 := liftB hD k1 (by first | assumption | omega)
  have k2 := liftB hD k2 (by first | assumption | omega)
  have k3 := liftB hD k3 (by first | assumption | omega)
  simp only [takeOps, Act.put, List.setIfInBounds_toArray, List.set_cons_succ, List.set_cons_zero]
  repeat (go_big_quiet_step (fail))
  exact wpQuiet_nil rfl
 · exact fun _ h => absurd h (by simp)
 · exact trivial
 · exact trivial
 intro xx w2 F hL hlv1
 clear hlv1
 replace HB := hide (onward HB.out hL)
 replace Hg := hide (blk_later Hg.out hL)
 clear hL k0 k1 k2 k3 k4 ltk
 go_wp2
 go_ret
 exact ⟨ret_int hres2.out.symm, HB.out⟩
def placeZ (sx sy ro st t ray gate : Int) : Int × Int := (sx + rD st gate t * (dirV (2 * ro) (2 * ray + 1)).x / (dirV (2 * ro) (2 * ray + 1)).l, sy + rD st gate t * (dirV (2 * ro) (2 * ray + 1)).y / (dirV (2 * ro) (2 * ray + 1)).l)
theorem rD_bd {st gate t : Int} (h1 : -8 ≤ t) (h2 : t ≤ 264) (h3 : 0 ≤ gate) (h4 : gate ≤ 199) (h5 : 0 ≤ st) (h6 : st ≤ 2000) : 0 ≤ rD st gate t ∧ rD st gate t ≤ 600000 := by
 obtain ⟨a1, a2, a3, a4, a5, a6⟩ := reach_bd h1 h2 h3 h4 h5 h6
 unfold rD reachN reachD
 generalize (2 * gate + 1) * st * (262144 - t * t) = n at *
 generalize t * t = m at *
 exact ⟨Int.ediv_nonneg a5 (by omega), Int.le_of_lt_add_one (Int.ediv_lt_of_lt_mul (by omega) (by omega))⟩
theorem quot_bd {a b M : Int} (hb : 1 ≤ b) (hM : 0 ≤ M) (h1 : -M ≤ a) (h2 : a ≤ M) : -M ≤ a / b ∧ a / b ≤ M := by
 constructor
 ·
  rw [Int.le_ediv_iff_mul_le (by omega)]
  have : M ≤ M * b := by have := Int.mul_le_mul_of_nonneg_left hb hM; omega
  have e : -M * b = -(M * b) := Int.neg_mul _ _
  omega
 ·
  have : M ≤ M * b := by have := Int.mul_le_mul_of_nonneg_left hb hM; omega
  exact Int.ediv_le_of_le_mul (by omega) (by omega)
set_option maxHeartbeats 2000000 in
set_option maxRecDepth 100000 in
theorem place_any (s : ByteArray) (sx sy z ro g st wd t ray gate : Int) (w : World) (h1 : 0 ≤ t) (h2 : t ≤ 256) (h3 : 0 ≤ gate) (h4 : gate ≤ 199) (h5 : 0 ≤ st) (h6 : st ≤ 2000) (r1 : 1 ≤ ro) (r2 : ro ≤ 90) (a1 : 0 ≤ ray) (a2 : ray < 4 * ro)
  (X1 : -1048576 ≤ sx) (X2 : sx ≤ 1048576) (Y1 : -1048576 ≤ sy) (Y2 : sy ≤ 1048576) :
  Calls Try.prog 48 #[siteV s sx sy z ro g st wd, .int .i64 t, .int .i64 ray, .int .i64 gate] w fun e w' => e = .returned (.tuple #[.int .i64 (placeZ sx sy ro st t ray gate).1, .int .i64 (placeZ sx sy ro st t ray gate).2]) ∧ Below w.heap.size w w' := by
 have hd := fun W => direction_any (2 * ro) (2 * ray + 1) W (by omega) (by omega) (by omega) (by omega)
 have hr := fun W => reachDown_any s sx sy z ro g st wd t gate W (by omega) (by omega) h3 h4 h5 h6
 have hrd : reachN st gate t / reachD t = rD st gate t := rfl
 rw [hrd] at hr
 obtain ⟨b1, b2⟩ := rD_bd (st := st) (gate := gate) (t := t) (by omega) (by omega) h3 h4 h5 h6
 obtain ⟨⟨v1, v2⟩, ⟨v3, v4⟩, v5, v6⟩ := dirV_bd (n := 2 * ro) (a := 2 * ray + 1) (by omega) (by omega) (by omega) (by omega)
 have hP : placeZ sx sy ro st t ray gate = (sx + rD st gate t * (dirV (2 * ro) (2 * ray + 1)).x / (dirV (2 * ro) (2 * ray + 1)).l, sy + rD st gate t * (dirV (2 * ro) (2 * ray + 1)).y / (dirV (2 * ro) (2 * ray + 1)).l) := rfl
 rw [hP]
 unfold vecV at hd
 unfold siteV at *
 clear hP hrd
 generalize dirV (2 * ro) (2 * ray + 1) = v at *
 obtain ⟨vx, vy, vl⟩ := v
 simp only at *
 generalize rD st gate t = q at *
 obtain ⟨m1, m2⟩ := prod_bdQ (A := 600000) (B := 64800) (by omega) (by omega) ⟨by omega, b2⟩ ⟨v1, v2⟩
 obtain ⟨n1, n2⟩ := prod_bdQ (A := 600000) (B := 64800) (by omega) (by omega) ⟨by omega, b2⟩ ⟨v3, v4⟩
 obtain ⟨o1, o2⟩ := quot_bd (b := vl) (M := 38880000000) v5 (by omega) (show -38880000000 ≤ q * vx by omega) (by omega)
 obtain ⟨p1, p2⟩ := quot_bd (b := vl) (M := 38880000000) v5 (by omega) (show -38880000000 ≤ q * vy by omega) (by omega)
 have hc1 := fun W => downB_any (q * vx) vl W (by omega) (by omega) (by omega) (by omega)
 have hc2 := fun W => downB_any (q * vy) vl W (by omega) (by omega) (by omega) (by omega)
 have Hd := hide hd
 have Hr := hide hr
 have C1 := hide hc1
 have C2 := hide hc2
 clear hd hr hc1 hc2
 go_enter Try.func48, Try.ntmps48
 have HB := hide (Below.refl w.heap.size w)
 go_wp2_with fail
 refine at_world fun W hW => ?_
 have bq0 : Blk W w.heap.size 28 #[.string s, .int .i64 sx, .int .i64 sy, .int .i64 z, .int .i64 ro, .int .i64 g, .int .i64 st, .int .i64 wd] := by rw [hW]; exact Blk.new _ _ _
 have LW : Later w W := by rw [hW]; exact ((Below.refl _ _).alloc (Nat.le_refl _) _)
 have szW : W.heap.size = w.heap.size + 1 := by rw [hW]; simp
 clear hW
 replace HB := hide (onward HB.out LW)
 have Hq := hide bq0
 clear bq0 LW szW
 obtain ⟨q0, q1, q2, q3, q4, q5, q6, q7⟩ := Hq.out.site8
 have lts := Hq.out.lt
 go_wp2_with fail
 refine (Hd.out _).mono ?_
 rintro e w1 ⟨rfl, hb⟩
 replace HB := hide (onward HB.out hb)
 replace Hq := hide (blk_later Hq.out hb)
 clear hb
 clear q0 q1 q2 q3 q4 q5 q6 q7 lts
 obtain ⟨q0, q1, q2, q3, q4, q5, q6, q7⟩ := Hq.out.site8
 have lts := Hq.out.lt
 go_wp2_with fail
 clear q0 q1 q2 q3 q4 q5 q6 q7 lts
 refine at_world fun W1 hW => ?_
 have bq0 : Blk W1 w1.heap.size 126 #[.int .i64 vx, .int .i64 vy, .int .i64 vl] := by rw [hW]; exact Blk.new _ _ _
 have LW : Later w1 W1 := by rw [hW]; exact ((Below.refl _ _).alloc (Nat.le_refl _) _)
 have szW : W1.heap.size = w1.heap.size + 1 := by rw [hW]; simp
 clear hW
 replace HB := hide (onward HB.out LW)
 replace Hq := hide (blk_later Hq.out LW)
 have Hx := hide bq0
 clear bq0 LW szW
 refine (Hr.out _).mono ?_
 rintro e w2 ⟨rfl, hb⟩
 replace HB := hide (onward HB.out hb)
 replace Hq := hide (blk_later Hq.out hb)
 replace Hx := hide (blk_later Hx.out hb)
 clear hb
 obtain ⟨q0, q1, q2, q3, q4, q5, q6, q7⟩ := Hq.out.site8
 have lts := Hq.out.lt
 obtain ⟨x0, x1, x2⟩ := Hx.out.c3
 have ltx := Hx.out.lt
 go_wp2_with fail
 apply wp_region_L (w0 := w2) [[], [], [], [], [], [], [], [], [], [], [], [], [], [], [], [], [], [], [], [], [], []] [true, true, true, true, true, true, true, true, true, true, true, true, true, true, true, true, true, true, true, true, true, true] [] (fun ixq y => match ixq with  | _ => undef) (fun ixq x F wq => match ixq with  | _ => True) (fun a x => a) (by kernel_rfl) (by kernel_rfl) (fun _ => rfl) [31, 41] (by kernel_rfl)
 ·
  intro x D hD
  have hne := hD.some
  have k1 := liftB hD q1 (by first | assumption | omega)
  have k2 := liftB hD q2 (by first | assumption | omega)
  have kx0 := liftB hD x0 (by first | assumption | omega)
  have kx1 := liftB hD x1 (by first | assumption | omega)
  have kx2 := liftB hD x2 (by first | assumption | omega)
  simp only [takeOps, Act.put, List.setIfInBounds_toArray, List.set_cons_succ, List.set_cons_zero]
  repeat (go_big_quiet_step ((go_at_call 37; first | (with_reducible exact calls_same _ (C1.out _)) | (with_reducible exact calls_same _ (C2.out _)))))
  exact wpQuiet_nil rfl
 ·
  intro d hd x x'
  simp only [List.mem_cons, List.not_mem_nil, or_false] at hd
  rcases hd with rfl | rfl
  all_goals rfl
 · exact trivial
 · exact trivial
 intro xx w3 F hL hlv2
 clear hlv2
 clear q0 q1 q2 q3 q4 q5 q6 q7 lts
 replace HB := hide (onward HB.out hL)
 replace Hq := hide (blk_later Hq.out hL)
 replace Hx := hide (blk_later Hx.out hL)
 clear hL x0 x1 x2 ltx
 go_wp2
 refine bodyPost_ret (v := .tuple #[.int .i64 (sx + q * vx / vl), .int .i64 (sy + q * vy / vl)]) (by simp [results, Try.results48, go_sem]) rfl ⟨rfl, HB.out⟩
end Go.Proofs.Ytepgpihobmjbdaa
end
section
namespace Go.Proofs.Ytepgpihobmjbdaa
open Go Go.RowKit
end Go.Proofs.Ytepgpihobmjbdaa
end
