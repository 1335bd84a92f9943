/-
  Sites, grids and fields: the program's checks, the reference's.
  Fields: the program's checks, the reference's.
  Heights of gates: the program's inner contracts.
  Heights of gates: the program's contracts.
  Heights of gates: the reference's inner contracts.
  Ground ranges, heights and bands: the program's contracts, the reference's.
  Gates, and places found: the program's contracts.
  Places found, pixels: the program's contracts.
  Places found: the program's exported Find.
  Quarter turns of places found; the law's own small functions.
  Pixels and places: the program's contracts.
  Pixels and places: the exported contracts.
-/
import Derived.Test.YtepgpihobmjbdaaGreatNames2
import Derived.Test.YtepgpihobmjbdaaGreatRrBoundsMath
import Derived.Test.YtepgpihobmjbdaaGreatRrRefDivs
set_option linter.unusedSimpArgs false
set_option linter.unusedVariables false
section
namespace Go.Proofs.YtepgpihobmjbdaaGreat
open Go Go.RowKit
def gridE (x y sz wi hi : Int) : Int := if (winB x (-1048576) 1048576 && winB y (-1048576) 1048576 && winB sz 1 10000 && winB wi 1 64 && winB hi 1 64) = true then 0 else 3
theorem gridE_ok {x y sz wi hi : Int} (h : gridE x y sz wi hi = 0) : -1048576 ≤ x ∧ x ≤ 1048576 ∧ -1048576 ≤ y ∧ y ≤ 1048576 ∧ 1 ≤ sz ∧ sz ≤ 10000 ∧ 1 ≤ wi ∧ wi ≤ 64 ∧ 1 ≤ hi ∧ hi ≤ 64 := by
 unfold gridE at h
 split at h
 ·
  rename_i h2
  simp only [Bool.and_eq_true, winB_iff] at h2
  omega
 · omega
def okS (most : Int) (p : Int × Int) : Bool := decide (0 ≤ p.1 ∧ p.1 ≤ p.2 ∧ p.2 ≤ most)
def fieldE (ge : Int) (n : Nat) (wi hi : Int) (l : List (Int × Int)) (most : Int) : Int := if ge ≠ 0 then ge else if (n : Int) ≠ wi * hi then 11 else if l.all (okS most) = true then 0 else 3
def gridV (x y sz wi hi : Int) : Value := .agg #[.int .i64 x, .int .i64 y, .int .i64 sz, .int .i64 wi, .int .i64 hi]
def fieldV (x y sz wi hi : Int) (A : Option Addr) (n c : Nat) : Value := .agg #[.int .i64 x, .int .i64 y, .int .i64 sz, .int .i64 wi, .int .i64 hi, .slice A n c]
theorem Blk.c5 {w : World} {g : Nat} {t : TypeId} {a0 a1 a2 a3 a4 : Value} (h : Blk w g t #[a0, a1, a2, a3, a4]) : w.cell? ⟨g, 0, none⟩ = some a0 ∧ w.cell? ⟨g, 1, none⟩ = some a1 ∧ w.cell? ⟨g, 2, none⟩ = some a2 ∧ w.cell? ⟨g, 3, none⟩ = some a3 ∧ w.cell? ⟨g, 4, none⟩ = some a4 :=
 ⟨h.c 0 rfl, h.c 1 rfl, h.c 2 rfl, h.c 3 rfl, h.c 4 rfl⟩
theorem Blk.c6 {w : World} {g : Nat} {t : TypeId} {a0 a1 a2 a3 a4 a5 : Value} (h : Blk w g t #[a0, a1, a2, a3, a4, a5]) : w.cell? ⟨g, 0, none⟩ = some a0 ∧ w.cell? ⟨g, 1, none⟩ = some a1 ∧ w.cell? ⟨g, 2, none⟩ = some a2 ∧ w.cell? ⟨g, 3, none⟩ = some a3 ∧ w.cell? ⟨g, 4, none⟩ = some a4 ∧ w.cell? ⟨g, 5, none⟩ = some a5 :=
 ⟨h.c 0 rfl, h.c 1 rfl, h.c 2 rfl, h.c 3 rfl, h.c 4 rfl, h.c 5 rfl⟩
set_option maxHeartbeats 2000000 in
set_option maxRecDepth 100000 in
theorem RefCheckSite_any (s : ByteArray) (x y z r g st wd : Int) (w : World) (hs : s.size ≤ 9223372036854775807) :
  Calls Tryz.prog 51 #[siteV s x y z r g st wd] w fun e w' => e = .returned (.int .i64 (siteE (nameB s) x y z r g st wd)) ∧ Below w.heap.size w w' := by
 have hnm := fun W => RefName_any s W hs
 unfold siteV
 generalize nameB s = nb at *
 have Hnm := hide hnm
 clear hnm hs
 cases nb with
 | true =>
  go_enter Tryz.func51, Tryz.ntmps51
  have HB := hide (Below.refl w.heap.size w)
  go_wp2_with fail
  refine at_world fun W hW => ?_
  have bq0 : Blk W w.heap.size 28 #[.string s, .int .i64 x, .int .i64 y, .int .i64 z, .int .i64 r, .int .i64 g, .int .i64 st, .int .i64 wd] := by rw [hW]; exact Blk.new _ _ _
  have LW : Later w W := by rw [hW]; exact ((Below.refl _ _).alloc (Nat.le_refl _) _)
  have szW : W.heap.size = w.heap.size + 1 := by rw [hW]; simp
  clear hW
  replace HB := hide (onward HB.out LW)
  have Hs := hide bq0
  clear bq0 LW szW
  refine (Hnm.out _).mono ?_
  rintro e w' ⟨rfl, rfl⟩
  obtain ⟨q0, q1, q2, q3, q4, q5, q6, q7⟩ := Hs.out.site8
  have lts := Hs.out.lt
  go_wp2_with (go_at_call 52; refine (In_anyQ _ _ _ _).mono ?_; rintro e w' ⟨rfl, rfl⟩)
  all_goals
   go_ret
   simp only [Bool.not_eq_true', Bool.not_eq_false'] at *
   refine ⟨ret_int ?_, HB.out⟩
   first | (simp [siteE, *]; done) | (exfalso; clear Hnm HB Hs q0 q1 q2 q3 q4 q5 q6 q7; simp_all; done)
 | false =>
  go_enter Tryz.func51, Tryz.ntmps51
  have HB := hide (Below.refl w.heap.size w)
  go_wp2_with fail
  refine at_world fun W hW => ?_
  have bq0 : Blk W w.heap.size 28 #[.string s, .int .i64 x, .int .i64 y, .int .i64 z, .int .i64 r, .int .i64 g, .int .i64 st, .int .i64 wd] := by rw [hW]; exact Blk.new _ _ _
  have LW : Later w W := by rw [hW]; exact ((Below.refl _ _).alloc (Nat.le_refl _) _)
  have szW : W.heap.size = w.heap.size + 1 := by rw [hW]; simp
  clear hW
  replace HB := hide (onward HB.out LW)
  have Hs := hide bq0
  clear bq0 LW szW
  refine (Hnm.out _).mono ?_
  rintro e w' ⟨rfl, rfl⟩
  go_wp2
  go_ret
  exact ⟨ret_int (by simp [siteE]), HB.out⟩
set_option maxHeartbeats 2000000 in
set_option maxRecDepth 100000 in
theorem CheckGrid_any (x y sz wi hi : Int) (w : World) :
  Calls Tryz.prog 56 #[gridV x y sz wi hi] w fun e w' => e = .returned (.int .i64 (gridE x y sz wi hi)) ∧ Below w.heap.size w w' := by
 unfold gridV
 go_enter Tryz.func56, Tryz.ntmps56
 have HB := hide (Below.refl w.heap.size w)
 go_wp2_with fail
 refine at_world fun W hW => ?_
 have bq0 : Blk W w.heap.size 33 #[.int .i64 x, .int .i64 y, .int .i64 sz, .int .i64 wi, .int .i64 hi] := by rw [hW]; exact Blk.new _ _ _
 have LW : Later w W := by rw [hW]; exact ((Below.refl _ _).alloc (Nat.le_refl _) _)
 have szW : W.heap.size = w.heap.size + 1 := by rw [hW]; simp
 clear hW
 replace HB := hide (onward HB.out LW)
 have Hs := hide bq0
 clear bq0 LW szW
 obtain ⟨q0, q1, q2, q3, q4⟩ := Hs.out.c5
 have lts := Hs.out.lt
 refine (within_anyQ _ _ _ _).mono ?_
 rintro e w' ⟨rfl, rfl⟩
 go_wp2_with (go_at_call 57; refine (within_anyQ _ _ _ _).mono ?_; rintro e w' ⟨rfl, rfl⟩)
 all_goals
  go_ret
  simp only [Bool.not_eq_true', Bool.not_eq_false'] at *
  refine ⟨ret_int ?_, HB.out⟩
  first | (simp [gridE, *]; done) | (exfalso; clear HB Hs q0 q1 q2 q3 q4; simp_all; done)
set_option maxHeartbeats 2000000 in
set_option maxRecDepth 100000 in
theorem RefCheckGrid_any (x y sz wi hi : Int) (w : World) :
  Calls Tryz.prog 31 #[gridV x y sz wi hi] w fun e w' => e = .returned (.int .i64 (gridE x y sz wi hi)) ∧ Below w.heap.size w w' := by
 unfold gridV
 go_enter Tryz.func31, Tryz.ntmps31
 have HB := hide (Below.refl w.heap.size w)
 go_wp2_with fail
 refine at_world fun W hW => ?_
 have bq0 : Blk W w.heap.size 33 #[.int .i64 x, .int .i64 y, .int .i64 sz, .int .i64 wi, .int .i64 hi] := by rw [hW]; exact Blk.new _ _ _
 have LW : Later w W := by rw [hW]; exact ((Below.refl _ _).alloc (Nat.le_refl _) _)
 have szW : W.heap.size = w.heap.size + 1 := by rw [hW]; simp
 clear hW
 replace HB := hide (onward HB.out LW)
 have Hs := hide bq0
 clear bq0 LW szW
 obtain ⟨q0, q1, q2, q3, q4⟩ := Hs.out.c5
 have lts := Hs.out.lt
 refine (In_anyQ _ _ _ _).mono ?_
 rintro e w' ⟨rfl, rfl⟩
 go_wp2_with (go_at_call 52; refine (In_anyQ _ _ _ _).mono ?_; rintro e w' ⟨rfl, rfl⟩)
 all_goals
  go_ret
  simp only [Bool.not_eq_true', Bool.not_eq_false'] at *
  refine ⟨ret_int ?_, HB.out⟩
  first | (simp [gridE, *]; done) | (exfalso; clear HB Hs q0 q1 q2 q3 q4; simp_all; done)
end Go.Proofs.YtepgpihobmjbdaaGreat
end
section
namespace Go.Proofs.YtepgpihobmjbdaaGreat
open Go Go.RowKit
def flat2Q : List (Int × Int) → List Int
 | [] => []
 | p :: l => p.1 :: p.2 :: flat2Q l
theorem flat2_lengthQ : ∀ l : List (Int × Int), (flat2Q l).length = l.length * 2
 | [] => rfl
 | p :: l => by simp [flat2Q, flat2_lengthQ l]; omega
theorem flat2_get : ∀ (l : List (Int × Int)) (k : Nat), k < l.length → (flat2Q l).getD (k * 2) 0 = (l.getD k (0, 0)).1 ∧ (flat2Q l).getD (k * 2 + 1) 0 = (l.getD k (0, 0)).2
 | [], k, h => by simp at h
 | p :: l, 0, _ => ⟨rfl, rfl⟩
 | p :: l, k + 1, h => by
  have := flat2_get l k (by simpa using h)
  rw [show (k + 1) * 2 = k * 2 + 1 + 1 by omega]
  simpa [flat2Q, List.getD] using this
theorem Ints.ptQ {w : World} {B : Nat} {A : Option Addr} {l : List (Int × Int)} (h : Ints w B .i64 A (flat2Q l)) (hl : 0 < l.length) : ∃ b off, A = some ⟨b, off, none⟩ ∧ b < B ∧ ∀ k, k < l.length → w.cell? ⟨b, off + k * 2, none⟩ = some (.int .i64 (l.getD k (0, 0)).1) ∧ w.cell? ⟨b, off + k * 2 + 1, none⟩ = some (.int .i64 (l.getD k (0, 0)).2) := by
 obtain ⟨b, off, e, hb, hc⟩ := h (by rw [flat2_lengthQ]; omega)
 refine ⟨b, off, e, hb, fun k hk => ?_⟩
 obtain ⟨h1, h2⟩ := flat2_get l k hk
 rw [← h1, ← h2]
 exact ⟨hc _ (by rw [flat2_lengthQ]; omega), by have := hc (k * 2 + 1) (by rw [flat2_lengthQ]; omega); rwa [show off + (k * 2 + 1) = off + k * 2 + 1 by omega] at this⟩
theorem all_okS {l : List (Int × Int)} {most : Int} (h : ∀ j, j < l.length → okS most (l.getD j (0, 0)) = true) : l.all (okS most) = true := by
 rw [List.all_eq_true]
 intro x hx
 obtain ⟨j, hj, rfl⟩ := List.mem_iff_getElem.1 hx
 have := h j hj
 simpa [List.getD, hj] using this
theorem not_all_okS {l : List (Int × Int)} {most : Int} {j : Nat} (hj : j < l.length) (h : okS most (l.getD j (0, 0)) = false) : l.all (okS most) = false := by
 rw [List.all_eq_false]
 refine ⟨l[j], List.getElem_mem hj, ?_⟩
 have e : l.getD j (0, 0) = l[j] := by simp [List.getD, hj]
 rw [← e, h]
 simp
set_option maxHeartbeats 2000000 in
set_option maxRecDepth 100000 in
theorem check_any (x y sz wi hi : Int) (A : Option Addr) (n c : Nat) (l : List (Int × Int)) (most : Int) (w : World) (hn : l.length = n) (hmax : n ≤ 9223372036854775807) (hl : Ints w w.heap.size .i64 A (flat2Q l)) :
  Calls Tryz.prog 67 #[fieldV x y sz wi hi A n c, .int .i64 most] w fun e w' => e = .returned (.int .i64 (fieldE (gridE x y sz wi hi) n wi hi l most)) ∧ Below w.heap.size w w' := by
 have hg := fun W => CheckGrid_any x y sz wi hi W
 have hR : ∀ ge, gridE x y sz wi hi = ge → fieldE (gridE x y sz wi hi) n wi hi l most = if ge ≠ 0 then ge else if (n : Int) ≠ wi * hi then 11 else if l.all (okS most) = true then 0 else 3 := fun ge h => by rw [h]; rfl
 obtain ⟨ge, hge⟩ : ∃ ge, gridE x y sz wi hi = ge := ⟨_, rfl⟩
 replace hR := hR ge hge
 have hok := fun h : ge = 0 => gridE_ok (hge.trans h)
 generalize fieldE (gridE x y sz wi hi) n wi hi l most = res at *
 rw [hge] at hg
 unfold gridV at hg
 unfold fieldV
 clear hge
 have Hg := hide hg
 have Hok := hide hok
 have Hl := hide hl
 have Hn := hide hn
 clear hg hok hl hn
 by_cases h0 : ge = 0
 ·
  subst h0
  obtain ⟨-, -, -, -, -, -, s1, s2, s3, s4⟩ := Hok.out rfl
  obtain ⟨m1, m2⟩ := mul_bdB (a := wi) (b := hi) (A := 64) (B := 64) (by omega) s2 (by omega) s4
  rw [if_neg (by simp)] at hR
  by_cases h1 : (n : Int) = wi * hi
  ·
   rw [if_neg (by simpa using h1)] at hR
   have h1' : ((n : Int) != wi * hi) = false := by simp [h1]
   have hn4 : (n : Int) ≤ 4096 := by omega
   have HR := hide hR
   have H1 := hide h1
   clear hR h1
   go_enter Tryz.func67, Tryz.ntmps67
   have HB := hide (Below.refl w.heap.size w)
   go_wp2_with fail
   refine at_world fun W hW => ?_
   have bq0 : Blk W w.heap.size 36 #[.int .i64 x, .int .i64 y, .int .i64 sz, .int .i64 wi, .int .i64 hi, .slice A n c] := by rw [hW]; exact Blk.new _ _ _
   have LW : Later w W := by rw [hW]; exact ((Below.refl _ _).alloc (Nat.le_refl _) _)
   have szW : W.heap.size = w.heap.size + 1 := by rw [hW]; simp
   clear hW
   replace HB := hide (onward HB.out LW)
   have Hf := hide bq0
   clear bq0 LW szW
   refine (Hg.out _).mono ?_
   rintro e w1 ⟨rfl, hb⟩
   replace HB := hide (onward HB.out hb)
   replace Hf := hide (blk_later Hf.out hb)
   clear hb
   obtain ⟨q0, q1, q2, q3, q4, q5⟩ := Hf.out.c6
   have ltf := Hf.out.lt
   go_wp2_with fail
   go_loopw [28] (fun i wr => ∃ k : Nat, k ≤ n ∧ i = .int .i64 k ∧ Below w.heap.size w wr ∧ ∀ j, j < k → okS most (l.getD j (0, 0)) = true) (fun i _ => n - (intOf i).toNat)
   case atStart => exact ⟨0, by omega, rfl, HB.out, fun j hj => by omega⟩
   case round =>
    clear HB Hf q0 q1 q2 q3 q4 q5 ltf
    obtain ⟨k, hk, rfl, hbw, hall⟩ := hrel
    have HB := hide hbw
    have Hall := hide hall
    clear hbw hall
    have hsw := HB.out.size
    by_cases hlt : k < n
    ·
     obtain ⟨b, off, rfl, hb, hc⟩ := Hl.out.ptQ (by have := Hn.out; omega)
     obtain ⟨p0, p1⟩ := hc k (by have := Hn.out; omega)
     rw [← HB.out.cell hb] at p0 p1
     have hnn := fun h => not_all_okS (l := l) (most := most) (j := k) (by have := Hn.out; omega) h
     have hok1 : okS most (l.getD k (0, 0)) = true → ∀ j, j < k + 1 → okS most (l.getD j (0, 0)) = true := fun h j hj => by
      rcases Nat.lt_or_ge j k with h1 | h1
      · exact Hall.out j h1
      ·
       obtain rfl : j = k := by omega
       exact h
     generalize l.getD k (0, 0) = m at *
     obtain ⟨m1', m2'⟩ := m
     simp only at p0 p1
     have hdec : okS most (m1', m2') = decide (0 ≤ m1' ∧ m1' ≤ m2' ∧ m2' ≤ most) := rfl
     rw [hdec] at hnn hok1
     have Hnn := hide hnn
     have Hok1 := hide hok1
     clear hnn hok1
     clear hc hdec
     by_cases g1 : m1' < 0
     ·
      have HR2 := hide (HR.out.trans (if_neg (by rw [Hnn.out (decide_eq_false (by omega))]; simp)))
      go_wp2
      go_ret
      refine ⟨ret_int HR2.out.symm, ?_⟩
      repeat (first | exact HB.out | (refine Below.setCell ?_ (by first | omega | (simp <;> omega)) _) | (refine Below.alloc ?_ (by first | omega | (simp <;> omega)) _) | (refine below_drewN ?_ _))
     by_cases g2 : m2' < m1'
     ·
      have HR2 := hide (HR.out.trans (if_neg (by rw [Hnn.out (decide_eq_false (by omega))]; simp)))
      go_wp2
      go_ret
      refine ⟨ret_int HR2.out.symm, ?_⟩
      repeat (first | exact HB.out | (refine Below.setCell ?_ (by first | omega | (simp <;> omega)) _) | (refine Below.alloc ?_ (by first | omega | (simp <;> omega)) _) | (refine below_drewN ?_ _))
     by_cases g3 : most < m2'
     ·
      have HR2 := hide (HR.out.trans (if_neg (by rw [Hnn.out (decide_eq_false (by omega))]; simp)))
      go_wp2
      go_ret
      refine ⟨ret_int HR2.out.symm, ?_⟩
      repeat (first | exact HB.out | (refine Below.setCell ?_ (by first | omega | (simp <;> omega)) _) | (refine Below.alloc ?_ (by first | omega | (simp <;> omega)) _) | (refine below_drewN ?_ _))
     ·
      have Hk2 := hide (Hok1.out (decide_eq_true (by omega)))
      go_wp2
      go_roundw
      case rel =>
       refine ⟨k + 1, by omega, by go_num, ?_, Hk2.out⟩
       repeat (first | exact HB.out | (refine Below.setCell ?_ (by first | omega | (simp <;> omega)) _) | (refine Below.alloc ?_ (by first | omega | (simp <;> omega)) _) | (refine below_drewN ?_ _))
      case measure => simp [intOf] <;> omega
    ·
     obtain rfl : k = n := by omega
     have HR2 := hide (HR.out.trans (if_pos (all_okS fun j hj => Hall.out j (by have := Hn.out; omega))))
     go_wp2
     go_ret
     exact ⟨ret_int HR2.out.symm, HB.out⟩
  ·
   rw [if_pos h1] at hR
   have h1' : ((n : Int) != wi * hi) = true := by simpa [bne] using h1
   have HR := hide hR
   clear hR
   go_enter Tryz.func67, Tryz.ntmps67
   have HB := hide (Below.refl w.heap.size w)
   go_wp2_with fail
   refine at_world fun W hW => ?_
   have bq0 : Blk W w.heap.size 36 #[.int .i64 x, .int .i64 y, .int .i64 sz, .int .i64 wi, .int .i64 hi, .slice A n c] := by rw [hW]; exact Blk.new _ _ _
   have LW : Later w W := by rw [hW]; exact ((Below.refl _ _).alloc (Nat.le_refl _) _)
   have szW : W.heap.size = w.heap.size + 1 := by rw [hW]; simp
   clear hW
   replace HB := hide (onward HB.out LW)
   have Hf := hide bq0
   clear bq0 LW szW
   refine (Hg.out _).mono ?_
   rintro e w1 ⟨rfl, hb⟩
   replace HB := hide (onward HB.out hb)
   replace Hf := hide (blk_later Hf.out hb)
   clear hb
   obtain ⟨q0, q1, q2, q3, q4, q5⟩ := Hf.out.c6
   have ltf := Hf.out.lt
   go_wp2
   go_ret
   exact ⟨ret_int HR.out.symm, HB.out⟩
 ·
  rw [if_pos h0] at hR
  have h00 : (ge != 0) = true := by simpa [bne] using h0
  have HR := hide hR
  clear hR
  go_enter Tryz.func67, Tryz.ntmps67
  have HB := hide (Below.refl w.heap.size w)
  go_wp2_with fail
  refine at_world fun W hW => ?_
  have bq0 : Blk W w.heap.size 36 #[.int .i64 x, .int .i64 y, .int .i64 sz, .int .i64 wi, .int .i64 hi, .slice A n c] := by rw [hW]; exact Blk.new _ _ _
  have LW : Later w W := by rw [hW]; exact ((Below.refl _ _).alloc (Nat.le_refl _) _)
  have szW : W.heap.size = w.heap.size + 1 := by rw [hW]; simp
  clear hW
  replace HB := hide (onward HB.out LW)
  have Hf := hide bq0
  clear bq0 LW szW
  refine (Hg.out _).mono ?_
  rintro e w1 ⟨rfl, hb⟩
  replace HB := hide (onward HB.out hb)
  replace Hf := hide (blk_later Hf.out hb)
  clear hb
  obtain ⟨q0, q1, q2, q3, q4, q5⟩ := Hf.out.c6
  have ltf := Hf.out.lt
  go_wp2
  go_ret
  exact ⟨ret_int HR.out.symm, HB.out⟩
theorem Valid_anyQ (a b lo hi : Int) (w : World) :
  Calls Tryz.prog 75 #[.agg #[.int .i64 a, .int .i64 b], .int .i64 lo, .int .i64 hi] w fun e w' => e = .returned (.bool (decide (lo ≤ a ∧ a ≤ b ∧ b ≤ hi))) ∧ Below w.heap.size w w' := by
 by_cases h1 : a ≤ b <;> by_cases h2 : lo ≤ a <;> by_cases h3 : b ≤ hi
 all_goals
  go_enter Tryz.func75, Tryz.ntmps75
  go_wp2
  go_ret
  exact ⟨by simp [*], (Below.refl _ _).alloc (Nat.le_refl _) _⟩
set_option maxHeartbeats 2000000 in
set_option maxRecDepth 100000 in
theorem fits_any (x y sz wi hi : Int) (A : Option Addr) (n c : Nat) (l : List (Int × Int)) (most : Int) (w : World) (hn : l.length = n) (hmax : n ≤ 9223372036854775807) (hl : Ints w w.heap.size .i64 A (flat2Q l)) :
  Calls Tryz.prog 77 #[fieldV x y sz wi hi A n c, .int .i64 most] w fun e w' => e = .returned (.int .i64 (fieldE (gridE x y sz wi hi) n wi hi l most)) ∧ Below w.heap.size w w' := by
 have hg := fun W => RefCheckGrid_any x y sz wi hi W
 have hR : ∀ ge, gridE x y sz wi hi = ge → fieldE (gridE x y sz wi hi) n wi hi l most = if ge ≠ 0 then ge else if (n : Int) ≠ wi * hi then 11 else if l.all (okS most) = true then 0 else 3 := fun ge h => by rw [h]; rfl
 obtain ⟨ge, hge⟩ : ∃ ge, gridE x y sz wi hi = ge := ⟨_, rfl⟩
 replace hR := hR ge hge
 have hok := fun h : ge = 0 => gridE_ok (hge.trans h)
 generalize fieldE (gridE x y sz wi hi) n wi hi l most = res at *
 rw [hge] at hg
 unfold gridV at hg
 unfold fieldV
 clear hge
 have Hg := hide hg
 have Hok := hide hok
 have Hl := hide hl
 have Hn := hide hn
 clear hg hok hl hn
 by_cases h0 : ge = 0
 ·
  subst h0
  obtain ⟨-, -, -, -, -, -, s1, s2, s3, s4⟩ := Hok.out rfl
  obtain ⟨m1, m2⟩ := mul_bdB (a := wi) (b := hi) (A := 64) (B := 64) (by omega) s2 (by omega) s4
  rw [if_neg (by simp)] at hR
  by_cases h1 : (n : Int) = wi * hi
  ·
   rw [if_neg (by simpa using h1)] at hR
   have h1' : ((n : Int) != wi * hi) = false := by simp [h1]
   have hn4 : (n : Int) ≤ 4096 := by omega
   have HR := hide hR
   have H1 := hide h1
   clear hR h1
   go_enter Tryz.func77, Tryz.ntmps77
   have HB := hide (Below.refl w.heap.size w)
   go_wp2_with fail
   refine at_world fun W hW => ?_
   have bq0 : Blk W w.heap.size 36 #[.int .i64 x, .int .i64 y, .int .i64 sz, .int .i64 wi, .int .i64 hi, .slice A n c] := by rw [hW]; exact Blk.new _ _ _
   have LW : Later w W := by rw [hW]; exact ((Below.refl _ _).alloc (Nat.le_refl _) _)
   have szW : W.heap.size = w.heap.size + 1 := by rw [hW]; simp
   clear hW
   replace HB := hide (onward HB.out LW)
   have Hf := hide bq0
   clear bq0 LW szW
   refine (Hg.out _).mono ?_
   rintro e w1 ⟨rfl, hb⟩
   replace HB := hide (onward HB.out hb)
   replace Hf := hide (blk_later Hf.out hb)
   clear hb
   obtain ⟨q0, q1, q2, q3, q4, q5⟩ := Hf.out.c6
   have ltf := Hf.out.lt
   go_wp2_with fail
   go_loopw [6] (fun i wr => ∃ k : Nat, k ≤ n ∧ i = .int .i64 k ∧ Below w.heap.size w wr ∧ Blk wr w.heap.size 36 #[.int .i64 x, .int .i64 y, .int .i64 sz, .int .i64 wi, .int .i64 hi, .slice A n c] ∧ ∀ j, j < k → okS most (l.getD j (0, 0)) = true) (fun i _ => n - (intOf i).toNat)
   case atStart => exact ⟨0, by omega, rfl, HB.out, Hf.out, fun j hj => by omega⟩
   case round =>
    clear HB Hf q0 q1 q2 q3 q4 q5 ltf
    obtain ⟨k, hk, rfl, hbw, hbf, hall⟩ := hrel
    have HB := hide hbw
    have Hf := hide hbf
    have Hall := hide hall
    clear hbw hbf hall
    have q5 := Hf.out.c6.2.2.2.2.2
    have ltf := Hf.out.lt
    by_cases hlt : k < n
    ·
     obtain ⟨b, off, rfl, hb, hc⟩ := Hl.out.ptQ (by have := Hn.out; omega)
     obtain ⟨p0, p1⟩ := hc k (by have := Hn.out; omega)
     rw [← HB.out.cell hb] at p0 p1
     have hnn := fun h => not_all_okS (l := l) (most := most) (j := k) (by have := Hn.out; omega) h
     have hok1 : okS most (l.getD k (0, 0)) = true → ∀ j, j < k + 1 → okS most (l.getD j (0, 0)) = true := fun h j hj => by
      rcases Nat.lt_or_ge j k with h1 | h1
      · exact Hall.out j h1
      ·
       obtain rfl : j = k := by omega
       exact h
     generalize l.getD k (0, 0) = m at *
     obtain ⟨m1', m2'⟩ := m
     simp only at p0 p1
     have hv := fun W => Valid_anyQ m1' m2' 0 most W
     have hdec : okS most (m1', m2') = decide (0 ≤ m1' ∧ m1' ≤ m2' ∧ m2' ≤ most) := rfl
     rw [← hdec] at hv
     clear hc hdec
     generalize okS most (m1', m2') = ob at *
     cases ob with
     | true =>
      have Hk2 := hide (hok1 rfl)
      have Hv := hide hv
      clear hv
      clear hnn hok1
      go_wp2_with fail
      refine (Hv.out _).mono ?_
      rintro e w2 ⟨rfl, hb⟩
      replace HB := hide (onward HB.out hb)
      replace Hf := hide (blk_later Hf.out hb)
      clear hb
      go_wp2
      go_roundw
      case rel => exact ⟨k + 1, by omega, by go_num, HB.out, Hf.out, Hk2.out⟩
      case measure => simp [intOf] <;> omega
     | false =>
      have HR2 := hide (HR.out.trans (if_neg (by rw [hnn rfl]; simp)))
      have Hv := hide hv
      clear hv
      clear hnn hok1
      go_wp2_with fail
      refine (Hv.out _).mono ?_
      rintro e w2 ⟨rfl, hb⟩
      replace HB := hide (onward HB.out hb)
      replace Hf := hide (blk_later Hf.out hb)
      clear hb
      go_wp2
      go_ret
      exact ⟨ret_int HR2.out.symm, HB.out⟩
    ·
     obtain rfl : k = n := by omega
     have HR2 := hide (HR.out.trans (if_pos (all_okS fun j hj => Hall.out j (by have := Hn.out; omega))))
     go_wp2
     go_ret
     exact ⟨ret_int HR2.out.symm, HB.out⟩
  ·
   rw [if_pos h1] at hR
   have h1' : ((n : Int) != wi * hi) = true := by simpa [bne] using h1
   have HR := hide hR
   clear hR
   go_enter Tryz.func77, Tryz.ntmps77
   have HB := hide (Below.refl w.heap.size w)
   go_wp2_with fail
   refine at_world fun W hW => ?_
   have bq0 : Blk W w.heap.size 36 #[.int .i64 x, .int .i64 y, .int .i64 sz, .int .i64 wi, .int .i64 hi, .slice A n c] := by rw [hW]; exact Blk.new _ _ _
   have LW : Later w W := by rw [hW]; exact ((Below.refl _ _).alloc (Nat.le_refl _) _)
   have szW : W.heap.size = w.heap.size + 1 := by rw [hW]; simp
   clear hW
   replace HB := hide (onward HB.out LW)
   have Hf := hide bq0
   clear bq0 LW szW
   refine (Hg.out _).mono ?_
   rintro e w1 ⟨rfl, hb⟩
   replace HB := hide (onward HB.out hb)
   replace Hf := hide (blk_later Hf.out hb)
   clear hb
   obtain ⟨q0, q1, q2, q3, q4, q5⟩ := Hf.out.c6
   have ltf := Hf.out.lt
   go_wp2
   go_ret
   exact ⟨ret_int HR.out.symm, HB.out⟩
 ·
  rw [if_pos h0] at hR
  have h00 : (ge != 0) = true := by simpa [bne] using h0
  have HR := hide hR
  clear hR
  go_enter Tryz.func77, Tryz.ntmps77
  have HB := hide (Below.refl w.heap.size w)
  go_wp2_with fail
  refine at_world fun W hW => ?_
  have bq0 : Blk W w.heap.size 36 #[.int .i64 x, .int .i64 y, .int .i64 sz, .int .i64 wi, .int .i64 hi, .slice A n c] := by rw [hW]; exact Blk.new _ _ _
  have LW : Later w W := by rw [hW]; exact ((Below.refl _ _).alloc (Nat.le_refl _) _)
  have szW : W.heap.size = w.heap.size + 1 := by rw [hW]; simp
  clear hW
  replace HB := hide (onward HB.out LW)
  have Hf := hide bq0
  clear bq0 LW szW
  refine (Hg.out _).mono ?_
  rintro e w1 ⟨rfl, hb⟩
  replace HB := hide (onward HB.out hb)
  replace Hf := hide (blk_later Hf.out hb)
  clear hb
  obtain ⟨q0, q1, q2, q3, q4, q5⟩ := Hf.out.c6
  have ltf := Hf.out.lt
  go_wp2
  go_ret
  exact ⟨ret_int HR.out.symm, HB.out⟩
end Go.Proofs.YtepgpihobmjbdaaGreat
end
section
namespace Go.Proofs.YtepgpihobmjbdaaGreat
open Go.RowKit
set_option maxHeartbeats 2000000 in
set_option maxRecDepth 100000 in
theorem riseDown_any (s : ByteArray) (x y z r g st wd t gate e : Int) (w : World) (h1 : -8 ≤ t) (h2 : t ≤ 264) (h3 : 0 ≤ gate) (h4 : gate ≤ 199) (h5 : 0 ≤ st) (h6 : st ≤ 2000) (z0 : 0 ≤ z) (z1 : z ≤ 20000) (e0 : 1000000 ≤ e) (e1 : e ≤ 100000000) :
  Calls Tryz.prog 71 #[siteV s x y z r g st wd, .int .i64 t, .int .i64 gate, .int .i64 e, .func (.func 72) #[] #[]] w fun e' w' => e' = .returned (.int .i64 (riseD z st gate t e)) ∧ Below w.heap.size w w' := by
 obtain ⟨a1, a2, a3, a4, a5, a6⟩ := reach_bd h1 h2 h3 h4 h5 h6
 obtain ⟨s1, s2⟩ := sine_bd h1 h2 a3 a4
 obtain ⟨b1, b2, -, -, -⟩ := r_bd h1 h2 h3 h4 h5 h6
 obtain ⟨c1, c2⟩ := sq_bd b1 b2
 obtain ⟨u1, u2, -, -⟩ := q_bd (b := 2 * (262144 + t * t)) (by omega) s1 s2 (by omega)
 obtain ⟨v1, v2, -, -⟩ := q_bd (a := rD st gate t * rD st gate t) (b := 2 * e) (C := 160000000000) (by omega) (by omega) c2 (by omega)
 have hs := fun W => slantOf_any t W h1 h2
 have hr := fun W => reachDown_any s x y z r g st wd t gate W h1 h2 h3 h4 h5 h6
 have hf1 := fun W => round_down ((2 * gate + 1) * st * (1024 * t)) (2 * (262144 + t * t)) W (by omega) (by omega) (by omega) (by omega)
 have hf2 := fun W => round_down (rD st gate t * rD st gate t) (2 * e) W (by omega) (by omega) (by omega) (by omega)
 have hQ : riseD z st gate t e = z + (sineN st gate t / reachD t) + (rD st gate t * rD st gate t / (2 * e)) := rfl
 have hr' : ∀ W, Calls Tryz.prog 94 #[siteV s x y z r g st wd, .int .i64 t, .int .i64 gate, .func (.func 72) #[] #[]] W fun e w' => e = .returned (.int .i64 (rD st gate t)) ∧ Below W.heap.size W w' := hr
 unfold sineN reachD at hQ
 unfold vecV slantV at hs
 unfold siteV at hr' ⊢
 simp only at hs hf1 hf2 u1 u2 v1 v2
 rw [hQ]
 clear hQ hr
 generalize rD st gate t = G at *
 generalize hP1 : ((2 * gate + 1) * st * (1024 * t) / (2 * (262144 + t * t))) = P1 at *
 generalize hP2 : (G * G / (2 * e)) = P2 at *
 have Hs := hide hs
 have Hr := hide hr'
 have Hf1 := hide hf1
 have Hf2 := hide hf2
 clear hs hr' hf1 hf2
 clear hP1 hP2 a5 a6
 go_enter Tryz.func71, Tryz.ntmps71
 have HB := hide (Below.refl w.heap.size w)
 go_wp2_with fail
 refine at_world fun W hW => ?_
 have bq0 : Blk W w.heap.size 28 #[.string s, .int .i64 x, .int .i64 y, .int .i64 z, .int .i64 r, .int .i64 g, .int .i64 st, .int .i64 wd] := by rw [hW]; exact Blk.new _ _ _
 have LW : Later w W := by rw [hW]; exact ((Below.refl _ _).alloc (Nat.le_refl _) _)
 have szW : W.heap.size = w.heap.size + 1 := by rw [hW]; simp
 clear hW
 replace HB := hide (onward HB.out LW)
 have Hq := hide bq0
 clear bq0 LW szW
 refine (Hs.out _).mono ?_
 rintro e w1 ⟨rfl, hb⟩
 replace HB := hide (onward HB.out hb)
 replace Hq := hide (blk_later Hq.out hb)
 clear hb
 obtain ⟨q0, q1, q2, q3, q4, q5, q6, q7⟩ := Hq.out.site8
 have lts := Hq.out.lt
 go_wp2_with fail
 refine at_world fun W1 hW => ?_
 have bq0 : Blk W1 w1.heap.size 147 #[.int .i64 (262144 - t * t), .int .i64 (1024 * t), .int .i64 (262144 + t * t)] := by rw [hW]; exact Blk.new _ _ _
 have LW : Later w1 W1 := by rw [hW]; exact ((Below.refl _ _).alloc (Nat.le_refl _) _)
 have szW : W1.heap.size = w1.heap.size + 1 := by rw [hW]; simp
 clear hW
 replace HB := hide (onward HB.out LW)
 replace Hq := hide (blk_later Hq.out LW)
 have Hx := hide bq0
 clear bq0 LW szW
 refine (Hr.out _).mono ?_
 rintro e w2 ⟨rfl, hb⟩
 replace HB := hide (onward HB.out hb)
 replace Hq := hide (blk_later Hq.out hb)
 replace Hx := hide (blk_later Hx.out hb)
 clear hb
 clear q0 q1 q2 q3 q4 q5 q6 q7 lts
 obtain ⟨q0, q1, q2, q3, q4, q5, q6, q7⟩ := Hq.out.site8
 have lts := Hq.out.lt
 obtain ⟨x0, x1, x2⟩ := Hx.out.c3
 have ltx := Hx.out.lt
 go_wp2_with fail
 apply wp_region_L (w0 := w2) [[], [], [], [], [], [], [], [], [], [], [], [], [], [], [], [], [], [], [], [], [], [], [], [], [], []] [true, true, true, true, true, true, true, true, true, true, true, true, true, true, true, true, true, true, true, true, true, true, true, true, true, true] [] (fun ixq y => match ixq with  | _ => undef) (fun ixq x F wq => match ixq with  | _ => True) (fun a x => a) (by kernel_rfl) (by kernel_rfl) (fun _ => rfl) [35, 43] (by kernel_rfl)
 ·
  intro x D hD
  have hne := hD.some
  have k3 := liftB hD q3 (by first | assumption | omega)
  have k6 := liftB hD q6 (by first | assumption | omega)
  have l1 := liftB hD x1 (by first | assumption | omega)
  have l2 := liftB hD x2 (by first | assumption | omega)
  simp only [takeOps, Act.put, List.setIfInBounds_toArray, List.set_cons_succ, List.set_cons_zero]
  repeat (go_big_quiet_step ((go_at_call 72; first | (with_reducible exact calls_same _ (Hf1.out _)) | (with_reducible exact calls_same _ (Hf2.out _)))))
  exact wpQuiet_nil rfl
 ·
  intro d hd x x'
  simp only [List.mem_cons, List.not_mem_nil, or_false] at hd
  rcases hd with rfl | rfl
  all_goals rfl
 · exact trivial
 · exact trivial
 intro xx w3 F hL hlv1
 clear hlv1
 replace HB := hide (onward HB.out hL)
 replace Hq := hide (blk_later Hq.out hL)
 replace Hx := hide (blk_later Hx.out hL)
 clear hL x0 x1 x2 ltx
 go_wp2
 go_ret
 exact ⟨rfl, HB.out⟩
set_option maxHeartbeats 2000000 in
set_option maxRecDepth 100000 in
theorem riseUp_any (s : ByteArray) (x y z r g st wd t gate e : Int) (w : World) (h1 : -8 ≤ t) (h2 : t ≤ 264) (h3 : 0 ≤ gate) (h4 : gate ≤ 199) (h5 : 0 ≤ st) (h6 : st ≤ 2000) (z0 : 0 ≤ z) (z1 : z ≤ 20000) (e0 : 1000000 ≤ e) (e1 : e ≤ 100000000) :
  Calls Tryz.prog 71 #[siteV s x y z r g st wd, .int .i64 t, .int .i64 gate, .int .i64 e, .func (.func 73) #[] #[]] w fun e' w' => e' = .returned (.int .i64 (riseU z st gate t e)) ∧ Below w.heap.size w w' := by
 obtain ⟨a1, a2, a3, a4, a5, a6⟩ := reach_bd h1 h2 h3 h4 h5 h6
 obtain ⟨s1, s2⟩ := sine_bd h1 h2 a3 a4
 obtain ⟨-, -, b1, b2, -⟩ := r_bd h1 h2 h3 h4 h5 h6
 obtain ⟨c1, c2⟩ := sq_bd b1 b2
 obtain ⟨-, -, u1, u2⟩ := q_bd (b := 2 * (262144 + t * t)) (by omega) s1 s2 (by omega)
 obtain ⟨-, -, v1, v2⟩ := q_bd (a := rU st gate t * rU st gate t) (b := 2 * e) (C := 160000000000) (by omega) (by omega) c2 (by omega)
 have hs := fun W => slantOf_any t W h1 h2
 have hr := fun W => reachUp_any s x y z r g st wd t gate W h1 h2 h3 h4 h5 h6
 have hf1 := fun W => round_up ((2 * gate + 1) * st * (1024 * t)) (2 * (262144 + t * t)) W (by omega) (by omega) (by omega) (by omega)
 have hf2 := fun W => round_up (rU st gate t * rU st gate t) (2 * e) W (by omega) (by omega) (by omega) (by omega)
 have hQ : riseU z st gate t e = z + (cdiv (sineN st gate t) (reachD t)) + (cdiv (rU st gate t * rU st gate t) (2 * e)) := rfl
 have hr' : ∀ W, Calls Tryz.prog 94 #[siteV s x y z r g st wd, .int .i64 t, .int .i64 gate, .func (.func 73) #[] #[]] W fun e w' => e = .returned (.int .i64 (rU st gate t)) ∧ Below W.heap.size W w' := hr
 unfold sineN reachD at hQ
 unfold vecV slantV at hs
 unfold siteV at hr' ⊢
 simp only at hs hf1 hf2 u1 u2 v1 v2
 rw [hQ]
 clear hQ hr
 generalize rU st gate t = G at *
 generalize hP1 : (cdiv ((2 * gate + 1) * st * (1024 * t)) (2 * (262144 + t * t))) = P1 at *
 generalize hP2 : (cdiv (G * G) (2 * e)) = P2 at *
 have Hs := hide hs
 have Hr := hide hr'
 have Hf1 := hide hf1
 have Hf2 := hide hf2
 clear hs hr' hf1 hf2
 clear hP1 hP2 a5 a6
 go_enter Tryz.func71, Tryz.ntmps71
 have HB := hide (Below.refl w.heap.size w)
 go_wp2_with fail
 refine at_world fun W hW => ?_
 have bq0 : Blk W w.heap.size 28 #[.string s, .int .i64 x, .int .i64 y, .int .i64 z, .int .i64 r, .int .i64 g, .int .i64 st, .int .i64 wd] := by rw [hW]; exact Blk.new _ _ _
 have LW : Later w W := by rw [hW]; exact ((Below.refl _ _).alloc (Nat.le_refl _) _)
 have szW : W.heap.size = w.heap.size + 1 := by rw [hW]; simp
 clear hW
 replace HB := hide (onward HB.out LW)
 have Hq := hide bq0
 clear bq0 LW szW
 refine (Hs.out _).mono ?_
 rintro e w1 ⟨rfl, hb⟩
 replace HB := hide (onward HB.out hb)
 replace Hq := hide (blk_later Hq.out hb)
 clear hb
 obtain ⟨q0, q1, q2, q3, q4, q5, q6, q7⟩ := Hq.out.site8
 have lts := Hq.out.lt
 go_wp2_with fail
 refine at_world fun W1 hW => ?_
 have bq0 : Blk W1 w1.heap.size 147 #[.int .i64 (262144 - t * t), .int .i64 (1024 * t), .int .i64 (262144 + t * t)] := by rw [hW]; exact Blk.new _ _ _
 have LW : Later w1 W1 := by rw [hW]; exact ((Below.refl _ _).alloc (Nat.le_refl _) _)
 have szW : W1.heap.size = w1.heap.size + 1 := by rw [hW]; simp
 clear hW
 replace HB := hide (onward HB.out LW)
 replace Hq := hide (blk_later Hq.out LW)
 have Hx := hide bq0
 clear bq0 LW szW
 refine (Hr.out _).mono ?_
 rintro e w2 ⟨rfl, hb⟩
 replace HB := hide (onward HB.out hb)
 replace Hq := hide (blk_later Hq.out hb)
 replace Hx := hide (blk_later Hx.out hb)
 clear hb
 clear q0 q1 q2 q3 q4 q5 q6 q7 lts
 obtain ⟨q0, q1, q2, q3, q4, q5, q6, q7⟩ := Hq.out.site8
 have lts := Hq.out.lt
 obtain ⟨x0, x1, x2⟩ := Hx.out.c3
 have ltx := Hx.out.lt
 go_wp2_with fail
 apply wp_region_L (w0 := w2) [[], [], [], [], [], [], [], [], [], [], [], [], [], [], [], [], [], [], [], [], [], [], [], [], [], []] [true, true, true, true, true, true, true, true, true, true, true, true, true, true, true, true, true, true, true, true, true, true, true, true, true, true] [] (fun ixq y => match ixq with  | _ => undef) (fun ixq x F wq => match ixq with  | _ => True) (fun a x => a) (by kernel_rfl) (by kernel_rfl) (fun _ => rfl) [35, 43] (by kernel_rfl)
 ·
  intro x D hD
  have hne := hD.some
  have k3 := liftB hD q3 (by first | assumption | omega)
  have k6 := liftB hD q6 (by first | assumption | omega)
  have l1 := liftB hD x1 (by first | assumption | omega)
  have l2 := liftB hD x2 (by first | assumption | omega)
  simp only [takeOps, Act.put, List.setIfInBounds_toArray, List.set_cons_succ, List.set_cons_zero]
  repeat (go_big_quiet_step ((go_at_call 73; first | (with_reducible exact calls_same _ (Hf1.out _)) | (with_reducible exact calls_same _ (Hf2.out _)))))
  exact wpQuiet_nil rfl
 ·
  intro d hd x x'
  simp only [List.mem_cons, List.not_mem_nil, or_false] at hd
  rcases hd with rfl | rfl
  all_goals rfl
 · exact trivial
 · exact trivial
 intro xx w3 F hL hlv2
 clear hlv2
 replace HB := hide (onward HB.out hL)
 replace Hq := hide (blk_later Hq.out hL)
 replace Hx := hide (blk_later Hx.out hL)
 clear hL x0 x1 x2 ltx
 go_wp2
 go_ret
 exact ⟨rfl, HB.out⟩
end Go.Proofs.YtepgpihobmjbdaaGreat
end
section
namespace Go.Proofs.YtepgpihobmjbdaaGreat
open Go.RowKit
theorem valid_anyQ (a b : Int) (w : World) :
  Calls Tryz.prog 68 #[.agg #[.int .i64 a, .int .i64 b]] w fun e w' => e = .returned (.bool (okE a b)) ∧ Below w.heap.size w w' := by
 unfold okE
 have hE : decide (1000000 ≤ a ∧ a ≤ b ∧ b ≤ 100000000) = (decide (1000000 ≤ a) && decide (a ≤ b) && decide (b ≤ 100000000)) := by
  rw [Bool.eq_iff_iff]; simp [and_assoc]
 rw [hE]
 clear hE
 cases h1 : decide (1000000 ≤ a) <;> cases h2 : decide (a ≤ b) <;> cases h3 : decide (b ≤ 100000000)
 all_goals
  go_enter Tryz.func68, Tryz.ntmps68
  go_wp2
  go_ret
  exact ⟨rfl, (Below.refl _ _).alloc (Nat.le_refl _) _⟩
theorem Earth_any (a b : Int) (w : World) :
  Calls Tryz.prog 53 #[.agg #[.int .i64 a, .int .i64 b]] w fun e w' => e = .returned (.bool (okE a b)) ∧ Below w.heap.size w w' := by
 have hv := fun W => Valid_anyQ a b 1000000 100000000 W
 have hE : decide (1000000 ≤ a ∧ a ≤ b ∧ b ≤ 100000000) = okE a b := rfl
 rw [hE] at hv
 generalize okE a b = r at *
 have Hv := hide hv
 clear hv
 clear hE
 go_enter Tryz.func53, Tryz.ntmps53
 have HB := hide (Below.refl w.heap.size w)
 go_wp2_with fail
 refine at_world fun W hW => ?_
 have bq0 : Blk W w.heap.size 24 #[.int .i64 a, .int .i64 b] := by rw [hW]; exact Blk.new _ _ _
 have LW : Later w W := by rw [hW]; exact ((Below.refl _ _).alloc (Nat.le_refl _) _)
 have szW : W.heap.size = w.heap.size + 1 := by rw [hW]; simp
 clear hW
 replace HB := hide (onward HB.out LW)
 have Hb := hide bq0
 clear bq0 LW szW
 refine (Hv.out _).mono ?_
 rintro e w1 ⟨rfl, hb⟩
 replace HB := hide (onward HB.out hb)
 replace Hb := hide (blk_later Hb.out hb)
 clear hb
 go_wp2
 go_ret
 exact ⟨rfl, HB.out⟩
set_option maxHeartbeats 2000000 in
set_option maxRecDepth 100000 in
theorem height_any (s : ByteArray) (x y z r g st wd t gate elo ehi : Int) (w : World) (h1 : -8 ≤ t) (h2 : t ≤ 264) (h3 : 0 ≤ gate) (h4 : gate ≤ 199) (h5 : 0 ≤ st) (h6 : st ≤ 2000) (z0 : 0 ≤ z) (z1 : z ≤ 20000) (he : okE elo ehi = true) :
  Calls Tryz.prog 70 #[siteV s x y z r g st wd, .int .i64 t, .int .i64 gate, .agg #[.int .i64 elo, .int .i64 ehi]] w fun e w' => e = .returned (.agg #[.int .i64 (riseD z st gate t ehi), .int .i64 (riseU z st gate t elo)]) ∧ Below w.heap.size w w' := by
 obtain ⟨e1, e2, e3⟩ := okE_iff he
 have hd := fun W => riseDown_any s x y z r g st wd t gate ehi W h1 h2 h3 h4 h5 h6 z0 z1 (by omega) e3
 have hu := fun W => riseUp_any s x y z r g st wd t gate elo W h1 h2 h3 h4 h5 h6 z0 z1 e1 (by omega)
 unfold siteV at *
 generalize riseD z st gate t ehi = a at *
 generalize riseU z st gate t elo = b at *
 have Hd := hide hd
 have Hu := hide hu
 clear hd hu
 clear he
 go_enter Tryz.func70, Tryz.ntmps70
 have HB := hide (Below.refl w.heap.size w)
 go_wp2_with fail
 refine code_world fun W hW => ?_
 have bq0 : Blk W w.heap.size 28 #[.string s, .int .i64 x, .int .i64 y, .int .i64 z, .int .i64 r, .int .i64 g, .int .i64 st, .int .i64 wd] := by rw [hW]; exact ((Blk.new _ _ _).alloc _).alloc _
 have bq1 : Blk W (w.heap.size + 1) 24 #[.int .i64 elo, .int .i64 ehi] := by rw [hW]; exact (blk_new_at (by simp)).alloc _
 have bq2 : Blk W (w.heap.size + 2) 24 #[.int .i64 0, .int .i64 0] := by rw [hW]; exact blk_new_at (by simp)
 have LW : Later w W := by rw [hW]; exact ((((Below.refl _ _).alloc (Nat.le_refl _) _).alloc (by simp; try omega) _).alloc (by simp; try omega) _)
 have szW : W.heap.size = w.heap.size + 3 := by rw [hW]; simp
 clear hW
 replace HB := hide (onward HB.out LW)
 have Hq := hide bq0
 have He := hide bq1
 have Ho := hide bq2
 clear bq0 bq1 bq2 LW szW
 obtain ⟨q0, q1, q2, q3, q4, q5, q6, q7⟩ := Hq.out.site8
 have lts := Hq.out.lt
 obtain ⟨v0, v1⟩ := He.out.c2
 have ltv := He.out.lt
 have lto := Ho.out.lt
 apply wp_region_F (w0 := W) [[], [], [], [], [3], [0, 1, 2, 3, 4], [], [], [], [], [9], [0, 1, 2, 3, 4, 5, 6, 7, 8, 9, 10], [0, 1, 2, 3, 4, 5, 6, 7, 8, 9, 10, 11], [0, 1, 2, 3, 4, 5, 6, 7, 8, 9, 10, 11, 12]] [true, true, true, true, true, true, true, true, true, true, true, true, true, false] [false, false, false, false, false, false, false, false, false, false, false, false, false, false] [⟨13, none, [], []⟩] [(13, (w.heap.size+2))] [13] (fun ixq y => match ixq with | 13 => undef | _ => undef) (fun ixq x F wq => match ixq with | 13 => F (w.heap.size+2) ∧ Blk wq (w.heap.size+2) 24 #[.int .i64 a, .int .i64 b] | _ => True) (fun a x => (a).put (none) (undef)) (by kernel_rfl) (by kernel_rfl) (by kernel_rfl) (fun _ => rfl) [14, 20] (by kernel_rfl) (fills_lt1 (by omega)) fills_ne1
 ·
  intro x D hD
  have hne := hD.some
  have k0 := liftS hD q0 (by exact early_all (by first | assumption | omega) (by rfl))
  have k1 := liftS hD q1 (by exact early_all (by first | assumption | omega) (by rfl))
  have k2 := liftS hD q2 (by exact early_all (by first | assumption | omega) (by rfl))
  have k3 := liftS hD q3 (by exact early_all (by first | assumption | omega) (by rfl))
  have k4 := liftS hD q4 (by exact early_all (by first | assumption | omega) (by rfl))
  have k5 := liftS hD q5 (by exact early_all (by first | assumption | omega) (by rfl))
  have k6 := liftS hD q6 (by exact early_all (by first | assumption | omega) (by rfl))
  have k7 := liftS hD q7 (by exact early_all (by first | assumption | omega) (by rfl))
  have l0 := liftS hD v0 (by exact early_all (by first | assumption | omega) (by rfl))
  have l1 := liftS hD v1 (by exact early_all (by first | assumption | omega) (by rfl))
  simp only [takeOps, Act.put, List.setIfInBounds_toArray, List.set_cons_succ, List.set_cons_zero]
  repeat (go_big_quiet_step ((go_at_call 71; first | (with_reducible exact calls_later hD _ (Hd.out _)) | (with_reducible exact calls_later hD _ (Hu.out _)))))
  exact wpQuiet_nil rfl
 · exact fun x D hD => wpQuiet_nil rfl
 ·
  intro d hd x x'
  simp only [List.mem_cons, List.not_mem_nil, or_false] at hd
  rcases hd with rfl | rfl
  all_goals rfl
 ·
  refine ⟨?_, trivial⟩
  · exact obl_fill 24 24 8 21 (w.heap.size+2) _ (fun x => #[.int .i64 a, .int .i64 b]) (by kernel_rfl) (fun _ => rfl) (fun _ => rfl) Ho.out eb_fill1 (by simp [wrF]) (fun _ => by kernel_rfl) (fun _ => rfl) (fun _ => by simp [Value.oneCell']) (fun _ => rfl) (fun _ _ _ _ h1 h2 => ⟨h1, h2⟩)
 ·
  refine ⟨?_, trivial⟩
  · exact owe_fill (w.heap.size+2) 24 (fun x => #[.int .i64 a, .int .i64 b]) (fun _ _ _ => rfl) (fun _ _ _ => rfl)
 intro xx w2 F hK hlv1
 obtain ⟨fct13, -⟩ := hlv1
 replace fct13 : (F 13) (w.heap.size+2) ∧ Blk w2 (w.heap.size+2) 24 #[.int .i64 a, .int .i64 b] := fct13 rfl
 clear q0 q1 q2 q3 q4 q5 q6 q7 lts lto
 clear Hq He
 have hgr := grown_kept hK
 replace HB := hide (below_grown HB.out hgr HB.out.size (fun q hq => by simp at hq; omega))
 replace Ho := hide fct13.2
 clear hgr hK fct13 v0 v1 ltv
 obtain ⟨o0, o1⟩ := Ho.out.c2
 have lto := Ho.out.lt
 go_wp2
 refine bodyPost_ret (v := .agg #[.int .i64 a, .int .i64 b]) (by simp [results, Tryz.results70, go_sem, o0, o1]) rfl ⟨rfl, HB.out⟩
end Go.Proofs.YtepgpihobmjbdaaGreat
end
section
namespace Go.Proofs.YtepgpihobmjbdaaGreat
open Go.RowKit
set_option maxHeartbeats 2000000 in
set_option maxRecDepth 100000 in
theorem refground_any (s : ByteArray) (x y z r g st wd t gate : Int) (w : World) (h1 : -8 ≤ t) (h2 : t ≤ 264) (h3 : 0 ≤ gate) (h4 : gate ≤ 199) (h5 : 0 ≤ st) (h6 : st ≤ 2000) :
  Calls Tryz.prog 82 #[siteV s x y z r g st wd, .int .i64 t, .int .i64 gate] w fun e w' => e = .returned (.agg #[.int .i64 (rD st gate t), .int .i64 (rU st gate t)]) ∧ Below w.heap.size w w' := by
 obtain ⟨a1, a2, a3, a4, a5, a6⟩ := reach_bd h1 h2 h3 h4 h5 h6
 have hs := fun W => RefSlant_any t W
 have hd := fun W => Down_any ((2 * gate + 1) * st * (262144 - t * t)) (2 * (262144 + t * t)) W (by omega) (by omega) (by omega) (by omega)
 have hu := fun W => Up_any ((2 * gate + 1) * st * (262144 - t * t)) (2 * (262144 + t * t)) W (by omega) (by omega) (by omega) (by omega)
 have eD : rD st gate t = (2 * gate + 1) * st * (262144 - t * t) / (2 * (262144 + t * t)) := rfl
 have eU : rU st gate t = cdiv ((2 * gate + 1) * st * (262144 - t * t)) (2 * (262144 + t * t)) := rfl
 have hsl : slantR t = (⟨262144 - t * t, 1024 * t, 262144 + t * t⟩, 0) := by unfold slantR; rw [if_pos (winB_iff.2 ⟨h1, h2⟩)]; rfl
 rw [← eD] at hd
 rw [← eU] at hu
 rw [hsl] at hs
 unfold vecE at hs
 unfold siteV
 simp only at hs
 clear eD eU hsl
 generalize rD st gate t = a at *
 generalize rU st gate t = b at *
 have Hs := hide hs
 have Hd := hide hd
 have Hu := hide hu
 clear hs hd hu
 go_enter Tryz.func82, Tryz.ntmps82
 have HB := hide (Below.refl w.heap.size w)
 go_wp2_with fail
 refine at_world fun W hW => ?_
 have bq0 : Blk W w.heap.size 28 #[.string s, .int .i64 x, .int .i64 y, .int .i64 z, .int .i64 r, .int .i64 g, .int .i64 st, .int .i64 wd] := by rw [hW]; exact (Blk.new _ _ _).alloc _
 have bq1 : Blk W (w.heap.size + 1) 24 #[.int .i64 0, .int .i64 0] := by rw [hW]; exact blk_new_at (by simp)
 have LW : Later w W := by rw [hW]; exact (((Below.refl _ _).alloc (Nat.le_refl _) _).alloc (by simp; try omega) _)
 have szW : W.heap.size = w.heap.size + 2 := by rw [hW]; simp
 clear hW
 replace HB := hide (onward HB.out LW)
 have Hq := hide bq0
 have Ho := hide bq1
 clear bq0 bq1 LW szW
 refine (Hs.out _).mono ?_
 rintro e w' ⟨rfl, rfl⟩
 obtain ⟨q0, q1, q2, q3, q4, q5, q6, q7⟩ := Hq.out.site8
 have lts := Hq.out.lt
 obtain ⟨o0, o1⟩ := Ho.out.c2
 have lto := Ho.out.lt
 have fo0 := Ho.out.frozen 0
 have fo1 := Ho.out.frozen 1
 go_wp2_with (first | (go_at_call 26; refine (Hd.out _).mono ?_; rintro e w' ⟨rfl, rfl⟩) | (go_at_call 27; refine (Hu.out _).mono ?_; rintro e w' ⟨rfl, rfl⟩))
 refine bodyPost_ret (v := .agg #[.int .i64 a, .int .i64 b]) (by simp [results, Tryz.results82, go_sem, o0, o1, lto]) rfl ⟨rfl, ?_⟩
 repeat (first | exact HB.out | (refine Below.setCell ?_ (by first | omega | (simp <;> omega)) _) | (refine Below.alloc ?_ (by first | omega | (simp <;> omega)) _) | (refine below_drewN ?_ _))
set_option maxHeartbeats 4000000 in
set_option maxRecDepth 100000 in
theorem refheight_any (s : ByteArray) (x y z r g st wd t gate elo ehi : Int) (w : World) (h1 : -8 ≤ t) (h2 : t ≤ 264) (h3 : 0 ≤ gate) (h4 : gate ≤ 199) (h5 : 0 ≤ st) (h6 : st ≤ 2000) (z0 : 0 ≤ z) (z1 : z ≤ 20000) (he : okE elo ehi = true) :
  Calls Tryz.prog 54 #[siteV s x y z r g st wd, .int .i64 t, .agg #[.int .i64 elo, .int .i64 ehi], .int .i64 gate] w fun e w' => e = .returned (.agg #[.int .i64 (riseD z st gate t ehi), .int .i64 (riseU z st gate t elo)]) ∧ Below w.heap.size w w' := by
 obtain ⟨e1, e2, e3⟩ := okE_iff he
 obtain ⟨a1, a2, a3, a4, a5, a6⟩ := reach_bd h1 h2 h3 h4 h5 h6
 obtain ⟨s1, s2⟩ := sine_bd h1 h2 a3 a4
 obtain ⟨b1, b2, b3, b4, b5⟩ := r_bd h1 h2 h3 h4 h5 h6
 obtain ⟨c1, c2⟩ := sq_bd b1 b2
 obtain ⟨c3, c4⟩ := sq_bd b3 b4
 obtain ⟨u1, u2, u3, u4⟩ := q_bd (b := 2 * (262144 + t * t)) (by omega) s1 s2 (by omega)
 obtain ⟨v1, v2, -, -⟩ := q_bd (a := rD st gate t * rD st gate t) (b := 2 * ehi) (C := 160000000000) (by omega) (by omega) c2 (by omega)
 obtain ⟨-, -, v3, v4⟩ := q_bd (a := rU st gate t * rU st gate t) (b := 2 * elo) (C := 160000000000) (by omega) (by omega) c4 (by omega)
 have hs := fun W => RefSlant_any t W
 have hg := fun W => refground_any s x y z r g st wd t gate W h1 h2 h3 h4 h5 h6
 have d1 := fun W => Down_any ((2 * gate + 1) * st * (1024 * t)) (2 * (262144 + t * t)) W (by omega) (by omega) (by omega) (by omega)
 have d2 := fun W => Down_any (rD st gate t * rD st gate t) (2 * ehi) W (by omega) (by omega) (by omega) (by omega)
 have d3 := fun W => Up_any ((2 * gate + 1) * st * (1024 * t)) (2 * (262144 + t * t)) W (by omega) (by omega) (by omega) (by omega)
 have d4 := fun W => Up_any (rU st gate t * rU st gate t) (2 * elo) W (by omega) (by omega) (by omega) (by omega)
 have eD : riseD z st gate t ehi = z + (2 * gate + 1) * st * (1024 * t) / (2 * (262144 + t * t)) + rD st gate t * rD st gate t / (2 * ehi) := rfl
 have eU : riseU z st gate t elo = z + cdiv ((2 * gate + 1) * st * (1024 * t)) (2 * (262144 + t * t)) + cdiv (rU st gate t * rU st gate t) (2 * elo) := rfl
 have hsl : slantR t = (⟨262144 - t * t, 1024 * t, 262144 + t * t⟩, 0) := by unfold slantR; rw [if_pos (winB_iff.2 ⟨h1, h2⟩)]; rfl
 rw [hsl] at hs
 unfold vecE at hs
 unfold siteV at *
 simp only at hs
 rw [eD, eU]
 clear eD eU hsl he
 generalize rD st gate t = G1 at *
 generalize rU st gate t = G2 at *
 generalize hP1 : (2 * gate + 1) * st * (1024 * t) / (2 * (262144 + t * t)) = P1 at *
 generalize hP2 : cdiv ((2 * gate + 1) * st * (1024 * t)) (2 * (262144 + t * t)) = P2 at *
 generalize hP3 : G1 * G1 / (2 * ehi) = P3 at *
 generalize hP4 : cdiv (G2 * G2) (2 * elo) = P4 at *
 clear hP1 hP2 hP3 hP4
 have Hs := hide hs
 have Hg := hide hg
 have D1 := hide d1
 have D2 := hide d2
 have D3 := hide d3
 have D4 := hide d4
 clear hs hg d1 d2 d3 d4
 go_enter Tryz.func54, Tryz.ntmps54
 have HB := hide (Below.refl w.heap.size w)
 go_wp2_with fail
 refine at_world fun W hW => ?_
 have bq0 : Blk W w.heap.size 28 #[.string s, .int .i64 x, .int .i64 y, .int .i64 z, .int .i64 r, .int .i64 g, .int .i64 st, .int .i64 wd] := by rw [hW]; exact ((Blk.new _ _ _).alloc _).alloc _
 have bq1 : Blk W (w.heap.size + 1) 24 #[.int .i64 elo, .int .i64 ehi] := by rw [hW]; exact (blk_new_at (by simp)).alloc _
 have bq2 : Blk W (w.heap.size + 2) 24 #[.int .i64 0, .int .i64 0] := by rw [hW]; exact blk_new_at (by simp)
 have LW : Later w W := by rw [hW]; exact ((((Below.refl _ _).alloc (Nat.le_refl _) _).alloc (by simp; try omega) _).alloc (by simp; try omega) _)
 have szW : W.heap.size = w.heap.size + 3 := by rw [hW]; simp
 clear hW
 replace HB := hide (onward HB.out LW)
 have Hq := hide bq0
 have He := hide bq1
 have Ho := hide bq2
 clear bq0 bq1 bq2 LW szW
 refine (Hs.out _).mono ?_
 rintro e w' ⟨rfl, rfl⟩
 obtain ⟨q0, q1, q2, q3, q4, q5, q6, q7⟩ := Hq.out.site8
 have lts := Hq.out.lt
 go_wp2_with fail
 refine (Hg.out _).mono ?_
 rintro e w1 ⟨rfl, hb⟩
 replace HB := hide (onward HB.out hb)
 replace Hq := hide (blk_later Hq.out hb)
 replace He := hide (blk_later He.out hb)
 replace Ho := hide (blk_later Ho.out hb)
 clear hb
 clear q0 q1 q2 q3 q4 q5 q6 q7 lts
 obtain ⟨q0, q1, q2, q3, q4, q5, q6, q7⟩ := Hq.out.site8
 have lts := Hq.out.lt
 go_wp2_with fail
 refine code_world fun W2 hW => ?_
 have bq0 : Blk W2 w1.heap.size 24 #[.int .i64 G1, .int .i64 G2] := by rw [hW]; exact Blk.new _ _ _
 have LW : Later w1 W2 := by rw [hW]; exact ((Below.refl _ _).alloc (Nat.le_refl _) _)
 have szW : W2.heap.size = w1.heap.size + 1 := by rw [hW]; simp
 clear hW
 replace HB := hide (onward HB.out LW)
 replace Hq := hide (blk_later Hq.out LW)
 replace He := hide (blk_later He.out LW)
 replace Ho := hide (blk_later Ho.out LW)
 have Hr := hide bq0
 clear bq0 LW szW
 clear q0 q1 q2 q3 q4 q5 q6 q7 lts
 obtain ⟨q0, q1, q2, q3, q4, q5, q6, q7⟩ := Hq.out.site8
 have lts := Hq.out.lt
 obtain ⟨v0, v1⟩ := He.out.c2
 have ltv := He.out.lt
 obtain ⟨k0, k1⟩ := Hr.out.c2
 have ltk := Hr.out.lt
 have lto := Ho.out.lt
 apply wp_region_F (w0 := W2) [[], [0], [], [], [3], [2, 3, 4], [0, 1, 2, 3, 4, 5], [], [7], [], [9], [7, 8, 9, 10], [], [12], [12, 13], [2, 3, 4, 5, 7, 8, 9, 10, 11, 12, 13, 14], [0, 1, 2, 3, 4, 5, 6, 7, 8, 9, 10, 11, 12, 13, 14, 15], [], [17], [], [], [20], [2, 3, 4, 5, 7, 8, 9, 10, 11, 12, 13, 14, 15, 19, 20, 21], [2, 3, 4, 5, 7, 8, 9, 10, 11, 12, 13, 14, 15, 17, 18, 19, 20, 21, 22], [], [24], [], [26], [24, 25, 26, 27], [], [29], [29, 30], [2, 3, 4, 5, 7, 8, 9, 10, 11, 12, 13, 14, 15, 19, 20, 21, 22, 24, 25, 26, 27, 28, 29, 30, 31], [2, 3, 4, 5, 7, 8, 9, 10, 11, 12, 13, 14, 15, 17, 18, 19, 20, 21, 22, 23, 24, 25, 26, 27, 28, 29, 30, 31, 32], [0, 1, 2, 3, 4, 5, 6, 7, 8, 9, 10, 11, 12, 13, 14, 15, 16, 17, 18, 19, 20, 21, 22, 23, 24, 25, 26, 27, 28, 29, 30, 31, 32, 33], [0, 1, 2, 3, 4, 5, 6, 7, 8, 9, 10, 11, 12, 13, 14, 15, 16, 17, 18, 19, 20, 21, 22, 23, 24, 25, 26, 27, 28, 29, 30, 31, 32, 33, 34]] [true, true, true, true, true, true, true, true, true, true, true, true, true, true, true, true, true, true, true, true, true, true, true, true, true, true, true, true, true, true, true, true, true, true, true, false] [false, false, false, false, false, false, false, false, false, false, false, false, false, false, false, false, false, false, false, false, false, false, false, false, false, false, false, false, false, false, false, false, false, false, false, false] [⟨35, none, [], []⟩] [(35, (w.heap.size+2))] [35] (fun ixq y => match ixq with | 35 => undef | _ => undef) (fun ixq x F wq => match ixq with | 35 => F (w.heap.size+2) ∧ Blk wq (w.heap.size+2) 24 #[.int .i64 (z + P1 + P3), .int .i64 (z + P2 + P4)] | _ => True) (fun a x => (a).put (none) (undef)) (by kernel_rfl) (by kernel_rfl) (by kernel_rfl) (fun _ => rfl) [39, 49, 56, 66] (by kernel_rfl) (fills_lt1 (by omega)) fills_ne1
 ·
  intro x D hD
  have hne := hD.some
  have m3 := liftS hD q3 (by exact early_all (by first | assumption | omega) (by rfl))
  have l0 := liftS hD v0 (by exact early_all (by first | assumption | omega) (by rfl))
  have l1 := liftS hD v1 (by exact early_all (by first | assumption | omega) (by rfl))
  have j0 := liftS hD k0 (by exact early_all (by first | assumption | omega) (by rfl))
  have j1 := liftS hD k1 (by exact early_all (by first | assumption | omega) (by rfl))
  simp only [takeOps, Act.put, List.setIfInBounds_toArray, List.set_cons_succ, List.set_cons_zero]
  repeat (go_big_quiet_step ((first | (go_at_call 26; first | (with_reducible exact calls_same _ (D1.out _)) | (with_reducible exact calls_same _ (D2.out _))) | (go_at_call 27; first | (with_reducible exact calls_same _ (D3.out _)) | (with_reducible exact calls_same _ (D4.out _))))))
  exact wpQuiet_nil rfl
 · exact fun x D hD => wpQuiet_nil rfl
 ·
  intro d hd x x'
  simp only [List.mem_cons, List.not_mem_nil, or_false] at hd
  rcases hd with rfl | rfl | rfl | rfl
  all_goals rfl
 ·
  refine ⟨?_, trivial⟩
  · exact obl_fill 24 24 8 68 (w.heap.size+2) _ (fun x => #[.int .i64 (z + P1 + P3), .int .i64 (z + P2 + P4)]) (by kernel_rfl) (fun _ => rfl) (fun _ => rfl) Ho.out eb_fill1 (by simp [wrF]) (fun _ => by kernel_rfl) (fun _ => rfl) (fun _ => by simp [Value.oneCell']) (fun _ => rfl) (fun _ _ _ _ h1 h2 => ⟨h1, h2⟩)
 ·
  refine ⟨?_, trivial⟩
  · exact owe_fill (w.heap.size+2) 24 (fun x => #[.int .i64 (z + P1 + P3), .int .i64 (z + P2 + P4)]) (fun _ _ _ => rfl) (fun _ _ _ => rfl)
 intro xx w3 F hK hlv1
 obtain ⟨fct35, -⟩ := hlv1
 replace fct35 : (F 35) (w.heap.size+2) ∧ Blk w3 (w.heap.size+2) 24 #[.int .i64 (z + P1 + P3), .int .i64 (z + P2 + P4)] := fct35 rfl
 clear q0 q1 q2 q3 q4 q5 q6 q7 lts lto
 clear Hq He Hr
 have hgr := grown_kept hK
 replace HB := hide (below_grown HB.out hgr HB.out.size (fun q hq => by simp at hq; omega))
 replace Ho := hide fct35.2
 clear hgr hK fct35 v0 v1 ltv k0 k1 ltk
 obtain ⟨o0, o1⟩ := Ho.out.c2
 have lto := Ho.out.lt
 go_wp2
 refine bodyPost_ret (v := .agg #[.int .i64 (z + P1 + P3), .int .i64 (z + P2 + P4)]) (by simp [results, Tryz.results54, go_sem, o0, o1]) rfl ⟨rfl, HB.out⟩
end Go.Proofs.YtepgpihobmjbdaaGreat
end
section
namespace Go.Proofs.YtepgpihobmjbdaaGreat
open Go.RowKit
theorem nm_any (s : ByteArray) (hs : s.size ≤ 9223372036854775807) : ∀ W, Calls Tryz.prog 83 #[.string s] W fun e w' => e = .returned (.bool (nameB s)) ∧ Below W.heap.size W w' := fun W => Name_any s W hs
end Go.Proofs.YtepgpihobmjbdaaGreat
end
section
namespace Go.Proofs.YtepgpihobmjbdaaGreat
open Go Go.RowKit
set_option maxHeartbeats 1000000 in
theorem border_any (s : ByteArray) (x y z r g st wd t c2 j : Int) (gs gx : Nat) (w : World) (hq : Blk w gs 28 #[.string s, .int .i64 x, .int .i64 y, .int .i64 z, .int .i64 r, .int .i64 g, .int .i64 st, .int .i64 wd]) (hx : Blk w gx 147 #[.int .i64 (262144 - t * t), .int .i64 c2, .int .i64 (262144 + t * t)])
  (h1 : 0 ≤ st) (h1' : st ≤ 2000) (h2 : 0 ≤ t) (h3 : t ≤ 256) (h4 : 0 ≤ j) (h5 : j ≤ 200) :
  Calls Tryz.prog 101 #[.int .i64 j, .pointer (some ⟨gs, 0, none⟩), .pointer (some ⟨gx, 0, none⟩)] w fun e w' => e = .returned (.int .i64 (bord st t j)) ∧ w = w' := by
 obtain ⟨b1, b2, b3, b4, b5, b6⟩ := bord_bd h1 h1' h2 h3 h4 h5
 obtain ⟨t1, t2⟩ := tilt_bd (show -8 ≤ t by omega) (show t ≤ 264 by omega)
 have hB : bord st t j = j * st * (262144 - t * t) / (262144 + t * t) := rfl
 have lts := hq.lt
 have ltx := hx.lt
 obtain ⟨q0, q1, q2, q3, q4, q5, q6, q7⟩ := hq.site8
 obtain ⟨x0, x1, x2⟩ := hx.c3
 have hd : (262144 + t * t) ≠ 0 := by omega
 have hd2 : 0 < 262144 + t * t := by omega
 rw [hB]
 clear hB hq hx b5 b6
 go_enter Tryz.func101, Tryz.ntmps101
 go_wp2
 go_ret
 exact ⟨rfl, rfl⟩
set_option maxHeartbeats 2000000 in
set_option maxRecDepth 100000 in
theorem gate_any (s : ByteArray) (x y z r g st wd t v : Int) (w : World) (h1 : 0 ≤ st) (h1' : st ≤ 2000) (h2 : 0 ≤ t) (h3 : t ≤ 256) (h4 : 1 ≤ g) (h5 : g ≤ 200) (v0 : 0 ≤ v) (v1 : v ≤ 1000000000000000) :
  Calls Tryz.prog 84 #[siteV s x y z r g st wd, .int .i64 t, .int .i64 v] w fun e w' => e = .returned (.int .i64 (gateZ st t g v)) ∧ Below w.heap.size w w' := by
 have hs := fun W => slantOf_any t W (by omega) (by omega)
 unfold vecV slantV at hs
 simp only at hs
 unfold siteV
 have hbo := fun (j : Int) (h4 : 0 ≤ j) (h5 : j ≤ 200) => bord_bd (j := j) h1 h1' h2 h3 h4 h5
 have hno := gate_no (st := st) (t := t) (g := g) (w := v) h1 h2 h3
 have hyes : ∀ j, 0 ≤ j → j < g → bord st t j * bord st t j ≤ v → v < bord st t (j + 1) * bord st t (j + 1) → gateZ st t g v = j := fun j a b c d => gate_is h1 h2 h3 a b (by unfold gateB; rw [decide_eq_true c, decide_eq_true d]; rfl)
 have hz : bord st t 0 = 0 := by unfold bord; simp
 have hcl := fun (j : Int) (gs gx : Nat) (W : World) hq hx h4 h5 => border_any s x y z r g st wd t (1024 * t) j gs gx W hq hx h1 h1' h2 h3 h4 h5
 generalize hG : gateZ st t g v = res at *
 clear hG
 have Hs := hide hs
 have Hbo := hide hbo
 have Hno := hide hno
 have Hyes := hide hyes
 have Hz := hide hz
 have Hcl := hide hcl
 clear hs hbo hno hyes hz hcl
 go_enter Tryz.func84, Tryz.ntmps84
 have HB := hide (Below.refl w.heap.size w)
 go_wp2_with fail
 refine at_world fun W hW => ?_
 have bq0 : Blk W w.heap.size 28 #[.string s, .int .i64 x, .int .i64 y, .int .i64 z, .int .i64 r, .int .i64 g, .int .i64 st, .int .i64 wd] := by rw [hW]; exact Blk.new _ _ _
 have LW : Later w W := by rw [hW]; exact ((Below.refl _ _).alloc (Nat.le_refl _) _)
 have szW : W.heap.size = w.heap.size + 1 := by rw [hW]; simp
 clear hW
 replace HB := hide (onward HB.out LW)
 have Hq := hide bq0
 clear bq0 LW szW
 refine (Hs.out _).mono ?_
 rintro e w1 ⟨rfl, hb⟩
 replace HB := hide (onward HB.out hb)
 replace Hq := hide (blk_later Hq.out hb)
 clear hb
 obtain ⟨q0, q1, q2, q3, q4, q5, q6, q7⟩ := Hq.out.site8
 have lts := Hq.out.lt
 go_wp2_with fail
 clear q0 q1 q2 q3 q4 q5 q6 q7 lts
 refine at_world fun W1 hW => ?_
 have bq0 : Blk W1 w1.heap.size 147 #[.int .i64 (262144 - t * t), .int .i64 (1024 * t), .int .i64 (262144 + t * t)] := by rw [hW]; exact Blk.new _ _ _
 have LW : Later w1 W1 := by rw [hW]; exact ((Below.refl _ _).alloc (Nat.le_refl _) _)
 have szW : W1.heap.size = w1.heap.size + 1 := by rw [hW]; simp
 clear hW
 replace HB := hide (onward HB.out LW)
 replace Hq := hide (blk_later Hq.out LW)
 have Hx := hide bq0
 clear bq0 LW szW
 refine (Hcl.out g _ _ _ Hq.out Hx.out (by omega) (by omega)).mono ?_
 rintro e w' ⟨rfl, rfl⟩
 obtain ⟨-, -, -, -, bg0, bg1⟩ := Hbo.out g (by omega) (by omega)
 have sqg : 0 ≤ bord st t g * bord st t g ∧ bord st t g * bord st t g ≤ 160000000000 := by
  have := mul_bdB bg0 bg1 bg0 bg1; omega
 have hno := Hno.out
 generalize hbg : bord st t g = bg at *
 have Hbg := hide hbg
 clear hbg
 by_cases hw : bg * bg ≤ v
 ·
  have hr := hno hw
  have Hr := hide hr
  clear hr
  clear hno
  go_wp2
  go_ret
  exact ⟨by rw [Hr.out]; rfl, HB.out⟩
 ·
  clear hno
  go_wp2_with fail
  obtain ⟨q0, q1, q2, q3, q4, q5, q6, q7⟩ := Hq.out.site8
  have lts := Hq.out.lt
  apply wp_region_L (w0 := W1) [[], [], [], []] [true, true, true, true] [] (fun ixq y => match ixq with  | _ => undef) (fun ixq x F wq => match ixq with  | _ => True) (fun a x => a) (by kernel_rfl) (by kernel_rfl) (fun _ => rfl) [] (by kernel_rfl)
  ·
   intro x D hD
   have hne := hD.some
   have k5 := liftB hD q5 (by first | assumption | omega)
   simp only [takeOps, Act.put, List.setIfInBounds_toArray, List.set_cons_succ, List.set_cons_zero]
   repeat (go_big_quiet_step (fail))
   exact wpQuiet_nil rfl
  · exact fun _ h => absurd h (by simp)
  · exact trivial
  · exact trivial
  intro xx w3 F hL hlv1
  clear hlv1
  clear q0 q1 q2 q3 q4 q5 q6 q7 lts
  replace HB := hide (onward HB.out hL)
  replace Hq := hide (blk_later Hq.out hL)
  replace Hx := hide (blk_later Hx.out hL)
  clear hL
  go_wp2_with fail
  go_loop [10, 11] (fun lo hi => ∃ a b : Int, 0 ≤ a ∧ a < b ∧ b ≤ g ∧ lo = .int .i64 a ∧ hi = .int .i64 b ∧ bord st t a * bord st t a ≤ v ∧ v < bord st t b * bord st t b) (fun lo hi => (intOf hi - intOf lo).toNat)
  case atStart => exact ⟨0, g, by omega, by omega, by omega, rfl, rfl, by rw [Hz.out]; simpa using v0, by rw [Hbg.out]; omega⟩
  case round =>
   obtain ⟨a, b, a0, ab, bn, rfl, rfl, ha, hb⟩ := hrel
   have Ha := hide ha
   have Hb := hide hb
   clear ha hb
   by_cases hlt : 1 < b - a
   ·
    obtain ⟨m, hm⟩ : ∃ m : Int, (a + b) / 2 = m := ⟨_, rfl⟩
    have m0 : a < m := by omega
    have m1 : m < b := by omega
    obtain ⟨-, -, -, -, bm0, bm1⟩ := Hbo.out m (by omega) (by omega)
    have sqm : 0 ≤ bord st t m * bord st t m ∧ bord st t m * bord st t m ≤ 160000000000 := by
     have := mul_bdB bm0 bm1 bm0 bm1; omega
    have hc := fun W hq hx => Hcl.out m w.heap.size w1.heap.size W hq hx (by omega) (by omega)
    generalize hbm : bord st t m = bm at *
    have Hbm := hide hbm
    clear hbm
    have cc := hc w3 Hq.out Hx.out
    have CC := hide cc
    clear cc
    clear hc
    by_cases hle : bm * bm ≤ v
    ·
     go_wp2_with (go_at_call 101; refine CC.out.mono ?_; rintro e w' ⟨rfl, rfl⟩)
     go_round
     case rel => exact ⟨m, b, by omega, by omega, by omega, rfl, rfl, by rw [Hbm.out]; exact hle, Hb.out⟩
     case measure => simp [intOf]; omega
    ·
     go_wp2_with (go_at_call 101; refine CC.out.mono ?_; rintro e w' ⟨rfl, rfl⟩)
     go_round
     case rel => exact ⟨a, m, by omega, by omega, by omega, rfl, rfl, Ha.out, by rw [Hbm.out]; omega⟩
     case measure => simp [intOf]; omega
   ·
    obtain rfl : b = a + 1 := by omega
    have hr := Hyes.out a a0 (by omega) Ha.out Hb.out
    have Hr := hide hr
    clear hr
    go_wp2
    go_ret
    exact ⟨by rw [Hr.out]; rfl, HB.out⟩
end Go.Proofs.YtepgpihobmjbdaaGreat
end
section
namespace Go.Proofs.YtepgpihobmjbdaaGreat
open Go Go.RowKit
def findZ (ro st t g dx dy : Int) : (Int × Int) × Bool :=
 if dx = 0 ∧ dy = 0 then ((0, 0), true) else if gateZ st t g (dx * dx + dy * dy) < 0 then ((0, 0), false) else ((rayZ ro dx dy, gateZ st t g (dx * dx + dy * dy)), true)
def findR (e t ro st g sx sy x y : Int) : (Int × Int) × Int :=
 if e ≠ 0 then ((0, 0), e) else if (winB t 0 256 && winB x (-4194304) 4194304 && winB y (-4194304) 4194304) = true then
  (if (findZ ro st t g (x - sx) (y - sy)).2 = true then ((findZ ro st t g (x - sx) (y - sy)).1, 0) else ((0, 0), 29)) else ((0, 0), 3)
def twoE (p : (Int × Int) × Int) : Value := .tuple #[.int .i64 p.1.1, .int .i64 p.1.2, .int .i64 p.2]
theorem sq_pos {d : Int} (h : -5300000 ≤ d ∧ d ≤ 5300000) : 0 ≤ d * d ∧ d * d ≤ 28090000000000 := by
 have := mul_bdB (a := d) (b := d) (A := 5300000) (B := 5300000)
 by_cases c : 0 ≤ d
 · have := this c h.2 c h.2; omega
 ·
  have := mul_bdB (a := -d) (b := -d) (A := 5300000) (B := 5300000) (by omega) (by omega) (by omega) (by omega)
  rw [Int.neg_mul_neg] at this; omega
set_option maxHeartbeats 2000000 in
set_option maxRecDepth 100000 in
theorem find_any (s : ByteArray) (sx sy z ro g st wd t x y : Int) (w : World) (h1 : 0 ≤ st) (h1' : st ≤ 2000) (h2 : 0 ≤ t) (h3 : t ≤ 256) (h4 : 1 ≤ g) (h5 : g ≤ 200) (r1 : 1 ≤ ro) (r2 : ro ≤ 90)
  (X1 : -5300000 ≤ x - sx ∧ x - sx ≤ 5300000) (Y1 : -5300000 ≤ y - sy ∧ y - sy ≤ 5300000) :
  Calls Tryz.prog 58 #[siteV s sx sy z ro g st wd, .int .i64 t, .int .i64 x, .int .i64 y] w fun e w' => e = .returned (.tuple #[.int .i64 (findZ ro st t g (x - sx) (y - sy)).1.1, .int .i64 (findZ ro st t g (x - sx) (y - sy)).1.2, .bool (findZ ro st t g (x - sx) (y - sy)).2]) ∧ Below w.heap.size w w' := by
 obtain ⟨dx, hdx⟩ : ∃ d, x - sx = d := ⟨_, rfl⟩
 obtain ⟨dy, hdy⟩ := (⟨_, rfl⟩ : ∃ d, y - sy = d)
 have hx3 := X1.1
 have hx4 := X1.2
 have hy3 := Y1.1
 have hy4 := Y1.2
 rw [hdx, hdy]
 rw [hdx] at X1
 rw [hdy] at Y1
 obtain ⟨u1, u2⟩ := sq_pos X1
 obtain ⟨v1, v2⟩ := sq_pos Y1
 have hg := fun W => gate_any s sx sy z ro g st wd t (dx * dx + dy * dy) W h1 h1' h2 h3 h4 h5 (by omega) (by omega)
 have hr := fun W h0 => ray_any ro dx dy W r1 (by omega) (by omega) (by omega) h0
 unfold siteV at *
 have hF : findZ ro st t g dx dy = if dx = 0 ∧ dy = 0 then ((0, 0), true) else if gateZ st t g (dx * dx + dy * dy) < 0 then ((0, 0), false) else ((rayZ ro dx dy, gateZ st t g (dx * dx + dy * dy)), true) := rfl
 have gb := gate_cases (st := st) (t := t) (g := g) (w := dx * dx + dy * dy)
 have gb1 : -1 ≤ gateZ st t g (dx * dx + dy * dy) := by omega
 clear gb
 generalize findZ ro st t g dx dy = res at *
 generalize gateZ st t g (dx * dx + dy * dy) = gt at *
 generalize rayZ ro dx dy = ry at *
 obtain ⟨hx1, hx2⟩ := X1
 obtain ⟨hy1, hy2⟩ := Y1
 have Hg := hide hg
 have Hr := hide hr
 clear hg hr
 have Hdx := hide hdx
 have Hdy := hide hdy
 clear hdx hdy
 by_cases h0 : dx = 0 ∧ dy = 0
 ·
  rw [if_pos h0] at hF
  have z1 : (dx == 0) = true := by simpa using h0.1
  have z2 : (dy == 0) = true := by simpa using h0.2
  clear h0
  have HF := hide hF
  have Z1 := hide z1
  have Z2 := hide z2
  clear hF z1 z2
  go_enter Tryz.func58, Tryz.ntmps58
  have HB := hide (Below.refl w.heap.size w)
  go_wp2_with fail
  refine code_world fun W hW => ?_
  have bq0 : Blk W w.heap.size 28 #[.string s, .int .i64 sx, .int .i64 sy, .int .i64 z, .int .i64 ro, .int .i64 g, .int .i64 st, .int .i64 wd] := by rw [hW]; exact Blk.new _ _ _
  have LW : Later w W := by rw [hW]; exact ((Below.refl _ _).alloc (Nat.le_refl _) _)
  have szW : W.heap.size = w.heap.size + 1 := by rw [hW]; simp
  clear hW
  replace HB := hide (onward HB.out LW)
  have Hq := hide bq0
  clear bq0 LW szW
  obtain ⟨q0, q1, q2, q3, q4, q5, q6, q7⟩ := Hq.out.site8
  have lts := Hq.out.lt
  go_quiet (fail)
  have hL : Below W.heap.size W (W.drewN nq) := below_drewN (Below.refl _ _) _
  generalize (W.drewN nq : World) = w1 at hL ⊢
  clear q0 q1 q2 q3 q4 q5 q6 q7 lts
  replace HB := hide (onward HB.out hL)
  replace Hq := hide (blk_later Hq.out hL)
  clear hL
  simp only [Hdx.out, Hdy.out]
  obtain ⟨q0, q1, q2, q3, q4, q5, q6, q7⟩ := Hq.out.site8
  have lts := Hq.out.lt
  have kk1 := Z1.out
  have kk2 := Z2.out
  go_wp2
  refine bodyPost_ret (v := .tuple #[.int .i64 res.1.1, .int .i64 res.1.2, .bool res.2]) (by rw [HF.out]; simp [results, Tryz.results58, go_sem]) rfl ⟨rfl, HB.out⟩
 ·
  rw [if_neg h0] at hF
  have hr := fun W => Hr.out W h0
  clear Hr
  have h0' : dx ≠ 0 ∨ (dx = 0 ∧ dy ≠ 0) := by omega
  have hw1 : wrap64 0 = 0 := IntWalk.wrap64_in 0 (by omega)
  have Hr2 := hide hr
  clear hr
  clear h0
  by_cases hneg : gt < 0
  ·
   rw [if_pos hneg] at hF
   have HF := hide hF
   clear hF
   rcases h0' with k1 | ⟨rfl, k2⟩
   ·
    have k1' : (dx == 0) = false := by simpa using k1
    have HK := hide k1'
    clear k1'
    clear k1
    go_enter Tryz.func58, Tryz.ntmps58
    have HB := hide (Below.refl w.heap.size w)
    go_wp2_with fail
    refine code_world fun W hW => ?_
    have bq0 : Blk W w.heap.size 28 #[.string s, .int .i64 sx, .int .i64 sy, .int .i64 z, .int .i64 ro, .int .i64 g, .int .i64 st, .int .i64 wd] := by rw [hW]; exact Blk.new _ _ _
    have LW : Later w W := by rw [hW]; exact ((Below.refl _ _).alloc (Nat.le_refl _) _)
    have szW : W.heap.size = w.heap.size + 1 := by rw [hW]; simp
    clear hW
    replace HB := hide (onward HB.out LW)
    have Hq := hide bq0
    clear bq0 LW szW
    obtain ⟨q0, q1, q2, q3, q4, q5, q6, q7⟩ := Hq.out.site8
    have lts := Hq.out.lt
    go_quiet (fail)
    have hL : Below W.heap.size W (W.drewN nq) := below_drewN (Below.refl _ _) _
    generalize (W.drewN nq : World) = w1 at hL ⊢
    clear q0 q1 q2 q3 q4 q5 q6 q7 lts
    replace HB := hide (onward HB.out hL)
    replace Hq := hide (blk_later Hq.out hL)
    clear hL
    simp only [Hdx.out, Hdy.out]
    obtain ⟨q0, q1, q2, q3, q4, q5, q6, q7⟩ := Hq.out.site8
    have lts := Hq.out.lt
    have kk := HK.out
    go_wp2_with fail
    refine (Hg.out _).mono ?_
    rintro e w2 ⟨rfl, hb⟩
    replace HB := hide (onward HB.out hb)
    replace Hq := hide (blk_later Hq.out hb)
    clear hb
    go_wp2
    refine bodyPost_ret (v := .tuple #[.int .i64 res.1.1, .int .i64 res.1.2, .bool res.2]) (by rw [HF.out]; simp [results, Tryz.results58, go_sem]) rfl ⟨rfl, HB.out⟩
   ·
    have k2' : (dy == 0) = false := by simpa using k2
    have HK := hide k2'
    clear k2'
    clear k2
    have hg := Hg.out
    simp only [Int.mul_zero, Int.zero_add] at hg
    clear Hg
    have Hg := hide hg
    clear hg
    go_enter Tryz.func58, Tryz.ntmps58
    have HB := hide (Below.refl w.heap.size w)
    go_wp2_with fail
    refine code_world fun W hW => ?_
    have bq0 : Blk W w.heap.size 28 #[.string s, .int .i64 sx, .int .i64 sy, .int .i64 z, .int .i64 ro, .int .i64 g, .int .i64 st, .int .i64 wd] := by rw [hW]; exact Blk.new _ _ _
    have LW : Later w W := by rw [hW]; exact ((Below.refl _ _).alloc (Nat.le_refl _) _)
    have szW : W.heap.size = w.heap.size + 1 := by rw [hW]; simp
    clear hW
    replace HB := hide (onward HB.out LW)
    have Hq := hide bq0
    clear bq0 LW szW
    obtain ⟨q0, q1, q2, q3, q4, q5, q6, q7⟩ := Hq.out.site8
    have lts := Hq.out.lt
    go_quiet (fail)
    have hL : Below W.heap.size W (W.drewN nq) := below_drewN (Below.refl _ _) _
    generalize (W.drewN nq : World) = w1 at hL ⊢
    clear q0 q1 q2 q3 q4 q5 q6 q7 lts
    replace HB := hide (onward HB.out hL)
    replace Hq := hide (blk_later Hq.out hL)
    clear hL
    simp only [Hdx.out, Hdy.out]
    obtain ⟨q0, q1, q2, q3, q4, q5, q6, q7⟩ := Hq.out.site8
    have lts := Hq.out.lt
    have kk := HK.out
    go_wp2_with fail
    refine (Hg.out _).mono ?_
    rintro e w2 ⟨rfl, hb⟩
    replace HB := hide (onward HB.out hb)
    replace Hq := hide (blk_later Hq.out hb)
    clear hb
    go_wp2
    refine bodyPost_ret (v := .tuple #[.int .i64 res.1.1, .int .i64 res.1.2, .bool res.2]) (by rw [HF.out]; simp [results, Tryz.results58, go_sem]) rfl ⟨rfl, HB.out⟩
  ·
   rw [if_neg hneg] at hF
   have HF := hide hF
   clear hF
   rcases h0' with k1 | ⟨rfl, k2⟩
   ·
    have k1' : (dx == 0) = false := by simpa using k1
    have HK := hide k1'
    clear k1'
    clear k1
    go_enter Tryz.func58, Tryz.ntmps58
    have HB := hide (Below.refl w.heap.size w)
    go_wp2_with fail
    refine code_world fun W hW => ?_
    have bq0 : Blk W w.heap.size 28 #[.string s, .int .i64 sx, .int .i64 sy, .int .i64 z, .int .i64 ro, .int .i64 g, .int .i64 st, .int .i64 wd] := by rw [hW]; exact Blk.new _ _ _
    have LW : Later w W := by rw [hW]; exact ((Below.refl _ _).alloc (Nat.le_refl _) _)
    have szW : W.heap.size = w.heap.size + 1 := by rw [hW]; simp
    clear hW
    replace HB := hide (onward HB.out LW)
    have Hq := hide bq0
    clear bq0 LW szW
    obtain ⟨q0, q1, q2, q3, q4, q5, q6, q7⟩ := Hq.out.site8
    have lts := Hq.out.lt
    go_quiet (fail)
    have hL : Below W.heap.size W (W.drewN nq) := below_drewN (Below.refl _ _) _
    generalize (W.drewN nq : World) = w1 at hL ⊢
    clear q0 q1 q2 q3 q4 q5 q6 q7 lts
    replace HB := hide (onward HB.out hL)
    replace Hq := hide (blk_later Hq.out hL)
    clear hL
    simp only [Hdx.out, Hdy.out]
    obtain ⟨q0, q1, q2, q3, q4, q5, q6, q7⟩ := Hq.out.site8
    have lts := Hq.out.lt
    have kk := HK.out
    go_wp2_with fail
    refine (Hg.out _).mono ?_
    rintro e w2 ⟨rfl, hb⟩
    replace HB := hide (onward HB.out hb)
    replace Hq := hide (blk_later Hq.out hb)
    clear hb
    clear q0 q1 q2 q3 q4 q5 q6 q7 lts
    obtain ⟨q0, q1, q2, q3, q4, q5, q6, q7⟩ := Hq.out.site8
    have lts := Hq.out.lt
    go_wp2_with fail
    refine (Hr2.out _).mono ?_
    rintro e w3 ⟨rfl, hb⟩
    replace HB := hide (onward HB.out hb)
    replace Hq := hide (blk_later Hq.out hb)
    clear hb
    go_wp2
    refine bodyPost_ret (v := .tuple #[.int .i64 res.1.1, .int .i64 res.1.2, .bool res.2]) (by rw [HF.out]; simp [results, Tryz.results58, go_sem]) rfl ⟨rfl, HB.out⟩
   ·
    have k2' : (dy == 0) = false := by simpa using k2
    have HK := hide k2'
    clear k2'
    clear k2
    have hg := Hg.out
    simp only [Int.mul_zero, Int.zero_add] at hg
    clear Hg
    have Hg := hide hg
    clear hg
    go_enter Tryz.func58, Tryz.ntmps58
    have HB := hide (Below.refl w.heap.size w)
    go_wp2_with fail
    refine code_world fun W hW => ?_
    have bq0 : Blk W w.heap.size 28 #[.string s, .int .i64 sx, .int .i64 sy, .int .i64 z, .int .i64 ro, .int .i64 g, .int .i64 st, .int .i64 wd] := by rw [hW]; exact Blk.new _ _ _
    have LW : Later w W := by rw [hW]; exact ((Below.refl _ _).alloc (Nat.le_refl _) _)
    have szW : W.heap.size = w.heap.size + 1 := by rw [hW]; simp
    clear hW
    replace HB := hide (onward HB.out LW)
    have Hq := hide bq0
    clear bq0 LW szW
    obtain ⟨q0, q1, q2, q3, q4, q5, q6, q7⟩ := Hq.out.site8
    have lts := Hq.out.lt
    go_quiet (fail)
    have hL : Below W.heap.size W (W.drewN nq) := below_drewN (Below.refl _ _) _
    generalize (W.drewN nq : World) = w1 at hL ⊢
    clear q0 q1 q2 q3 q4 q5 q6 q7 lts
    replace HB := hide (onward HB.out hL)
    replace Hq := hide (blk_later Hq.out hL)
    clear hL
    simp only [Hdx.out, Hdy.out]
    obtain ⟨q0, q1, q2, q3, q4, q5, q6, q7⟩ := Hq.out.site8
    have lts := Hq.out.lt
    have kk := HK.out
    go_wp2_with fail
    refine (Hg.out _).mono ?_
    rintro e w2 ⟨rfl, hb⟩
    replace HB := hide (onward HB.out hb)
    replace Hq := hide (blk_later Hq.out hb)
    clear hb
    clear q0 q1 q2 q3 q4 q5 q6 q7 lts
    obtain ⟨q0, q1, q2, q3, q4, q5, q6, q7⟩ := Hq.out.site8
    have lts := Hq.out.lt
    go_wp2_with fail
    refine (Hr2.out _).mono ?_
    rintro e w3 ⟨rfl, hb⟩
    replace HB := hide (onward HB.out hb)
    replace Hq := hide (blk_later Hq.out hb)
    clear hb
    go_wp2
    refine bodyPost_ret (v := .tuple #[.int .i64 res.1.1, .int .i64 res.1.2, .bool res.2]) (by rw [HF.out]; simp [results, Tryz.results58, go_sem]) rfl ⟨rfl, HB.out⟩
end Go.Proofs.YtepgpihobmjbdaaGreat
end
section
namespace Go.Proofs.YtepgpihobmjbdaaGreat
open Go Go.RowKit
end Go.Proofs.YtepgpihobmjbdaaGreat
end
section
namespace Go.Proofs.YtepgpihobmjbdaaGreat
open Go Go.RowKit
theorem dirV_bd {n a : Int} (h1 : 1 ≤ n) (h2 : n ≤ 180) (h3 : 0 ≤ a) (h4 : a < 4 * n) : (-64800 ≤ (dirV n a).x ∧ (dirV n a).x ≤ 64800) ∧ (-64800 ≤ (dirV n a).y ∧ (dirV n a).y ≤ 64800) ∧ 1 ≤ (dirV n a).l ∧ (dirV n a).l ≤ 64800 := by
 obtain ⟨q, b1, b2, b3, b4, b5, b6, b7, b8⟩ := dir_bd h1 h2 h3 (show a ≤ 4 * n - 1 by omega)
 have b9 : 1 ≤ n * n := Int.mul_pos (by omega) (by omega)
 unfold dirV
 generalize 2 * n * (a % n) = p at *
 generalize n * n = m at *
 generalize a % n * (a % n) = k at *
 generalize a / n = c at *
 clear h1 h2 h3 h4 b1 b2
 unfold quarter
 split
 · exact ⟨⟨by show -64800 ≤ p; omega, by show p ≤ 64800; omega⟩, ⟨by show -64800 ≤ m - k; omega, by show m - k ≤ 64800; omega⟩, by show 1 ≤ m + k; omega, by show m + k ≤ 64800; omega⟩
 ·
  split
  · exact ⟨⟨by show -64800 ≤ m - k; omega, by show m - k ≤ 64800; omega⟩, ⟨by show -64800 ≤ -p; omega, by show -p ≤ 64800; omega⟩, by show 1 ≤ m + k; omega, by show m + k ≤ 64800; omega⟩
  ·
   split
   · exact ⟨⟨by show -64800 ≤ -p; omega, by show -p ≤ 64800; omega⟩, ⟨by show -64800 ≤ -(m - k); omega, by show -(m - k) ≤ 64800; omega⟩, by show 1 ≤ m + k; omega, by show m + k ≤ 64800; omega⟩
   · exact ⟨⟨by show -64800 ≤ -(m - k); omega, by show -(m - k) ≤ 64800; omega⟩, ⟨by show -64800 ≤ p; omega, by show p ≤ 64800; omega⟩, by show 1 ≤ m + k; omega, by show m + k ≤ 64800; omega⟩
end Go.Proofs.YtepgpihobmjbdaaGreat
end
section
namespace Go.Proofs.YtepgpihobmjbdaaGreat
open Go Go.RowKit
def pixZ (gx gy gs wi hi x y : Int) : Int :=
 if x < gx ∨ y < gy ∨ gx + wi * gs ≤ x ∨ gy + hi * gs ≤ y then -1 else (y - gy) / gs * wi + (x - gx) / gs
def pixR (e gx gy gs wi hi x y : Int) : Int × Int :=
 if e ≠ 0 then (0, e) else if pixZ gx gy gs wi hi x y < 0 then (0, 29) else (pixZ gx gy gs wi hi x y, 0)
theorem pix_bd {gx gs wi x : Int} (h1 : 1 ≤ gs) (h2 : gx ≤ x) (h3 : x < gx + wi * gs) : 0 ≤ (x - gx) / gs ∧ (x - gx) / gs < wi :=
 ⟨Int.ediv_nonneg (by omega) (by omega), Int.ediv_lt_of_lt_mul (by omega) (by omega)⟩
set_option maxHeartbeats 2000000 in
set_option maxRecDepth 100000 in
theorem pixel_any (gx gy gs wi hi x y : Int) (w : World) (a1 : -1048576 ≤ gx) (a2 : gx ≤ 1048576) (b1 : -1048576 ≤ gy) (b2 : gy ≤ 1048576) (c1 : 1 ≤ gs) (c2 : gs ≤ 10000) (d1 : 1 ≤ wi) (d2 : wi ≤ 64) (e1 : 1 ≤ hi) (e2 : hi ≤ 64) :
  Calls Tryz.prog 92 #[gridV gx gy gs wi hi, .int .i64 x, .int .i64 y] w fun e w' => e = .returned (.int .i64 (pixZ gx gy gs wi hi x y)) ∧ Below w.heap.size w w' := by
 obtain ⟨m1, m2⟩ := mul_bdB (a := wi) (b := gs) (A := 64) (B := 10000) (by omega) d2 (by omega) c2
 obtain ⟨n1, n2⟩ := mul_bdB (a := hi) (b := gs) (A := 64) (B := 10000) (by omega) e2 (by omega) c2
 obtain ⟨res, hres⟩ : ∃ p, pixZ gx gy gs wi hi x y = p := ⟨_, rfl⟩
 rw [hres]
 unfold pixZ at hres
 unfold gridV
 by_cases g1 : x < gx
 ·
  have hres2 := hide (hres.symm.trans (if_pos (by omega)))
  clear hres
  go_enter Tryz.func92, Tryz.ntmps92
  go_wp2
  go_ret
  exact ⟨ret_int hres2.out.symm, (Below.refl _ _).alloc (Nat.le_refl _) _⟩
 by_cases g2 : y < gy
 ·
  have hres2 := hide (hres.symm.trans (if_pos (by omega)))
  clear hres
  go_enter Tryz.func92, Tryz.ntmps92
  go_wp2
  go_ret
  exact ⟨ret_int hres2.out.symm, (Below.refl _ _).alloc (Nat.le_refl _) _⟩
 by_cases g3 : gx + wi * gs ≤ x
 ·
  have hres2 := hide (hres.symm.trans (if_pos (by omega)))
  clear hres
  go_enter Tryz.func92, Tryz.ntmps92
  go_wp2
  go_ret
  exact ⟨ret_int hres2.out.symm, (Below.refl _ _).alloc (Nat.le_refl _) _⟩
 by_cases g4 : gy + hi * gs ≤ y
 ·
  have hres2 := hide (hres.symm.trans (if_pos (by omega)))
  clear hres
  go_enter Tryz.func92, Tryz.ntmps92
  go_wp2
  go_ret
  exact ⟨ret_int hres2.out.symm, (Below.refl _ _).alloc (Nat.le_refl _) _⟩
 obtain ⟨p1, p2⟩ := pix_bd (gx := gx) (x := x) (wi := wi) c1 (by omega) (by omega)
 obtain ⟨q1, q2⟩ := pix_bd (gx := gy) (x := y) (wi := hi) c1 (by omega) (by omega)
 obtain ⟨r1, r2⟩ := mul_bdB (a := (y - gy) / gs) (b := wi) (A := 64) (B := 64) q1 (by omega) (by omega) d2
 have c3 : gs ≠ 0 := by omega
 have c4 : 0 < gs := by omega
 have hres2 := hide (hres.symm.trans (if_neg (by omega)))
 clear hres
 go_enter Tryz.func92, Tryz.ntmps92
 have HB := hide (Below.refl w.heap.size w)
 go_wp2_with fail
 refine code_world fun W hW => ?_
 have bq0 : Blk W w.heap.size 33 #[.int .i64 gx, .int .i64 gy, .int .i64 gs, .int .i64 wi, .int .i64 hi] := by rw [hW]; exact Blk.new _ _ _
 have LW : Later w W := by rw [hW]; exact ((Below.refl _ _).alloc (Nat.le_refl _) _)
 have szW : W.heap.size = w.heap.size + 1 := by rw [hW]; simp
 clear hW
 replace HB := hide (onward HB.out LW)
 have Hg := hide bq0
 clear bq0 LW szW
 obtain ⟨k0, k1, k2, k3, k4⟩ := Hg.out.c5
 have ltk := Hg.out.lt
 apply wp_region_L (w0 := W) [[], [], [], [], [], [], [], [], [], [], [], [], [], [], [], [], [], [], []] [true, true, true, true, true, true, true, true, true, true, true, true, true, true, true, true, true, true, true] [] (fun ixq y => match ixq with  | _ => undef) (fun ixq x F wq => match ixq with  | _ => True) (fun a x => a) (by kernel_rfl) (by kernel_rfl) (fun _ => rfl) [] (by kernel_rfl)
 ·
  intro x D hD
  have hne := hD.some
  have k0 := liftB hD k0 (by first | assumption | omega)
  have k1 := liftB hD k1 (by first | assumption | omega)
  have k2 := liftB hD k2 (by first | assumption | omega)
  have k3 := liftB hD k3 (by first | assumption | omega)
  simp only [takeOps, Act.put, List.setIfInBounds_toArray, List.set_cons_succ, List.set_cons_zero]
  repeat (go_big_quiet_step (fail))
  exact wpQuiet_nil rfl
 · exact fun _ h => absurd h (by simp)
 · exact trivial
 · exact trivial
 intro xx w2 F hL hlv1
 clear hlv1
 replace HB := hide (onward HB.out hL)
 replace Hg := hide (blk_later Hg.out hL)
 clear hL k0 k1 k2 k3 k4 ltk
 go_wp2
 go_ret
 exact ⟨ret_int hres2.out.symm, HB.out⟩
def placeZ (sx sy ro st t ray gate : Int) : Int × Int := (sx + rD st gate t * (dirV (2 * ro) (2 * ray + 1)).x / (dirV (2 * ro) (2 * ray + 1)).l, sy + rD st gate t * (dirV (2 * ro) (2 * ray + 1)).y / (dirV (2 * ro) (2 * ray + 1)).l)
theorem rD_bd {st gate t : Int} (h1 : -8 ≤ t) (h2 : t ≤ 264) (h3 : 0 ≤ gate) (h4 : gate ≤ 199) (h5 : 0 ≤ st) (h6 : st ≤ 2000) : 0 ≤ rD st gate t ∧ rD st gate t ≤ 600000 := by
 obtain ⟨a1, a2, a3, a4, a5, a6⟩ := reach_bd h1 h2 h3 h4 h5 h6
 unfold rD reachN reachD
 generalize (2 * gate + 1) * st * (262144 - t * t) = n at *
 generalize t * t = m at *
 exact ⟨Int.ediv_nonneg a5 (by omega), Int.le_of_lt_add_one (Int.ediv_lt_of_lt_mul (by omega) (by omega))⟩
theorem quot_bd {a b M : Int} (hb : 1 ≤ b) (hM : 0 ≤ M) (h1 : -M ≤ a) (h2 : a ≤ M) : -M ≤ a / b ∧ a / b ≤ M := by
 constructor
 ·
  rw [Int.le_ediv_iff_mul_le (by omega)]
  have : M ≤ M * b := by have := Int.mul_le_mul_of_nonneg_left hb hM; omega
  have e : -M * b = -(M * b) := Int.neg_mul _ _
  omega
 ·
  have : M ≤ M * b := by have := Int.mul_le_mul_of_nonneg_left hb hM; omega
  exact Int.ediv_le_of_le_mul (by omega) (by omega)
set_option maxHeartbeats 2000000 in
set_option maxRecDepth 100000 in
theorem place_any (s : ByteArray) (sx sy z ro g st wd t ray gate : Int) (w : World) (h1 : 0 ≤ t) (h2 : t ≤ 256) (h3 : 0 ≤ gate) (h4 : gate ≤ 199) (h5 : 0 ≤ st) (h6 : st ≤ 2000) (r1 : 1 ≤ ro) (r2 : ro ≤ 90) (a1 : 0 ≤ ray) (a2 : ray < 4 * ro)
  (X1 : -1048576 ≤ sx) (X2 : sx ≤ 1048576) (Y1 : -1048576 ≤ sy) (Y2 : sy ≤ 1048576) :
  Calls Tryz.prog 91 #[siteV s sx sy z ro g st wd, .int .i64 t, .int .i64 ray, .int .i64 gate] w fun e w' => e = .returned (.tuple #[.int .i64 (placeZ sx sy ro st t ray gate).1, .int .i64 (placeZ sx sy ro st t ray gate).2]) ∧ Below w.heap.size w w' := by
 have hd := fun W => direction_any (2 * ro) (2 * ray + 1) W (by omega) (by omega) (by omega) (by omega)
 have hr := fun W => reachDown_any s sx sy z ro g st wd t gate W (by omega) (by omega) h3 h4 h5 h6
 have hrd : reachN st gate t / reachD t = rD st gate t := rfl
 rw [hrd] at hr
 obtain ⟨b1, b2⟩ := rD_bd (st := st) (gate := gate) (t := t) (by omega) (by omega) h3 h4 h5 h6
 obtain ⟨⟨v1, v2⟩, ⟨v3, v4⟩, v5, v6⟩ := dirV_bd (n := 2 * ro) (a := 2 * ray + 1) (by omega) (by omega) (by omega) (by omega)
 have hP : placeZ sx sy ro st t ray gate = (sx + rD st gate t * (dirV (2 * ro) (2 * ray + 1)).x / (dirV (2 * ro) (2 * ray + 1)).l, sy + rD st gate t * (dirV (2 * ro) (2 * ray + 1)).y / (dirV (2 * ro) (2 * ray + 1)).l) := rfl
 rw [hP]
 unfold vecV at hd
 unfold siteV at *
 clear hP hrd
 generalize dirV (2 * ro) (2 * ray + 1) = v at *
 obtain ⟨vx, vy, vl⟩ := v
 simp only at *
 generalize rD st gate t = q at *
 obtain ⟨m1, m2⟩ := prod_bdQ (A := 600000) (B := 64800) (by omega) (by omega) ⟨by omega, b2⟩ ⟨v1, v2⟩
 obtain ⟨n1, n2⟩ := prod_bdQ (A := 600000) (B := 64800) (by omega) (by omega) ⟨by omega, b2⟩ ⟨v3, v4⟩
 obtain ⟨o1, o2⟩ := quot_bd (b := vl) (M := 38880000000) v5 (by omega) (show -38880000000 ≤ q * vx by omega) (by omega)
 obtain ⟨p1, p2⟩ := quot_bd (b := vl) (M := 38880000000) v5 (by omega) (show -38880000000 ≤ q * vy by omega) (by omega)
 have hc1 := fun W => downB_any (q * vx) vl W (by omega) (by omega) (by omega) (by omega)
 have hc2 := fun W => downB_any (q * vy) vl W (by omega) (by omega) (by omega) (by omega)
 have Hd := hide hd
 have Hr := hide hr
 have C1 := hide hc1
 have C2 := hide hc2
 clear hd hr hc1 hc2
 go_enter Tryz.func91, Tryz.ntmps91
 have HB := hide (Below.refl w.heap.size w)
 go_wp2_with fail
 refine at_world fun W hW => ?_
 have bq0 : Blk W w.heap.size 28 #[.string s, .int .i64 sx, .int .i64 sy, .int .i64 z, .int .i64 ro, .int .i64 g, .int .i64 st, .int .i64 wd] := by rw [hW]; exact Blk.new _ _ _
 have LW : Later w W := by rw [hW]; exact ((Below.refl _ _).alloc (Nat.le_refl _) _)
 have szW : W.heap.size = w.heap.size + 1 := by rw [hW]; simp
 clear hW
 replace HB := hide (onward HB.out LW)
 have Hq := hide bq0
 clear bq0 LW szW
 obtain ⟨q0, q1, q2, q3, q4, q5, q6, q7⟩ := Hq.out.site8
 have lts := Hq.out.lt
 go_wp2_with fail
 refine (Hd.out _).mono ?_
 rintro e w1 ⟨rfl, hb⟩
 replace HB := hide (onward HB.out hb)
 replace Hq := hide (blk_later Hq.out hb)
 clear hb
 clear q0 q1 q2 q3 q4 q5 q6 q7 lts
 obtain ⟨q0, q1, q2, q3, q4, q5, q6, q7⟩ := Hq.out.site8
 have lts := Hq.out.lt
 go_wp2_with fail
 clear q0 q1 q2 q3 q4 q5 q6 q7 lts
 refine at_world fun W1 hW => ?_
 have bq0 : Blk W1 w1.heap.size 158 #[.int .i64 vx, .int .i64 vy, .int .i64 vl] := by rw [hW]; exact Blk.new _ _ _
 have LW : Later w1 W1 := by rw [hW]; exact ((Below.refl _ _).alloc (Nat.le_refl _) _)
 have szW : W1.heap.size = w1.heap.size + 1 := by rw [hW]; simp
 clear hW
 replace HB := hide (onward HB.out LW)
 replace Hq := hide (blk_later Hq.out LW)
 have Hx := hide bq0
 clear bq0 LW szW
 refine (Hr.out _).mono ?_
 rintro e w2 ⟨rfl, hb⟩
 replace HB := hide (onward HB.out hb)
 replace Hq := hide (blk_later Hq.out hb)
 replace Hx := hide (blk_later Hx.out hb)
 clear hb
 obtain ⟨q0, q1, q2, q3, q4, q5, q6, q7⟩ := Hq.out.site8
 have lts := Hq.out.lt
 obtain ⟨x0, x1, x2⟩ := Hx.out.c3
 have ltx := Hx.out.lt
 go_wp2_with fail
 apply wp_region_L (w0 := w2) [[], [], [], [], [], [], [], [], [], [], [], [], [], [], [], [], [], [], [], [], [], []] [true, true, true, true, true, true, true, true, true, true, true, true, true, true, true, true, true, true, true, true, true, true] [] (fun ixq y => match ixq with  | _ => undef) (fun ixq x F wq => match ixq with  | _ => True) (fun a x => a) (by kernel_rfl) (by kernel_rfl) (fun _ => rfl) [31, 41] (by kernel_rfl)
 ·
  intro x D hD
  have hne := hD.some
  have k1 := liftB hD q1 (by first | assumption | omega)
  have k2 := liftB hD q2 (by first | assumption | omega)
  have kx0 := liftB hD x0 (by first | assumption | omega)
  have kx1 := liftB hD x1 (by first | assumption | omega)
  have kx2 := liftB hD x2 (by first | assumption | omega)
  simp only [takeOps, Act.put, List.setIfInBounds_toArray, List.set_cons_succ, List.set_cons_zero]
  repeat (go_big_quiet_step ((go_at_call 72; first | (with_reducible exact calls_same _ (C1.out _)) | (with_reducible exact calls_same _ (C2.out _)))))
  exact wpQuiet_nil rfl
 ·
  intro d hd x x'
  simp only [List.mem_cons, List.not_mem_nil, or_false] at hd
  rcases hd with rfl | rfl
  all_goals rfl
 · exact trivial
 · exact trivial
 intro xx w3 F hL hlv2
 clear hlv2
 clear q0 q1 q2 q3 q4 q5 q6 q7 lts
 replace HB := hide (onward HB.out hL)
 replace Hq := hide (blk_later Hq.out hL)
 replace Hx := hide (blk_later Hx.out hL)
 clear hL x0 x1 x2 ltx
 go_wp2
 refine bodyPost_ret (v := .tuple #[.int .i64 (sx + q * vx / vl), .int .i64 (sy + q * vy / vl)]) (by simp [results, Tryz.results91, go_sem]) rfl ⟨rfl, HB.out⟩
end Go.Proofs.YtepgpihobmjbdaaGreat
end
section
namespace Go.Proofs.YtepgpihobmjbdaaGreat
open Go Go.RowKit
def placeR (e t ray gate g sx sy ro st : Int) : (Int × Int) × Int :=
 if e ≠ 0 then ((0, 0), e) else if (winB t 0 256 && winB ray 0 (4 * ro - 1) && winB gate 0 (g - 1)) = true then (placeZ sx sy ro st t ray gate, 0) else ((0, 0), 3)
end Go.Proofs.YtepgpihobmjbdaaGreat
end
