/-
  Whether a string is a name: the program's contract, the reference's.
  Sites, grids and fields: the program's checks, the reference's.
  Fields: the program's checks, the reference's.
  Heights of gates: the program's inner contracts.
  Heights of gates: the program's contracts.
-/
import Derived.Test.YtepgpihobmjbdaaGreatNames
import Derived.Test.YtepgpihobmjbdaaGreatNameMath
set_option linter.unusedSimpArgs false
set_option linter.unusedVariables false
namespace Go.Proofs.YtepgpihobmjbdaaGreat
open Go Go.RowKit

theorem IndexFunc_any (s : ByteArray) (w : World) :
    Calls Tryz.prog 105 #[.string s, .func (.func 99) #[] #[]] w fun e w' => (∃ i : Int, e = .returned (.int .i64 i) ∧ decide (0 ≤ i) = !(s.data.toList.all fun b => isAl b.toNat)) ∧ Below w.heap.size w w' := by
  have hi := fun W => indexFunc_any s W
  have Hi := hide hi
  clear hi
  go_enter Tryz.func105, Tryz.ntmps105
  have HB := hide (Below.refl w.heap.size w)
  go_wp2_with fail
  refine (Hi.out _).mono ?_
  rintro e w1 ⟨⟨i, rfl, hd⟩, hb⟩
  replace HB := hide (onward HB.out hb)
  clear hb
  have Hd := hide hd
  clear hd
  go_wp2
  go_ret
  exact ⟨⟨i, rfl, Hd.out⟩, HB.out⟩
theorem ContainsFunc_any (s : ByteArray) (w : World) :
    Calls Tryz.prog 98 #[.string s, .func (.func 99) #[] #[]] w fun e w' => e = .returned (.bool (!(s.data.toList.all fun b => isAl b.toNat))) ∧ Below w.heap.size w w' := by
  have hi := fun W => IndexFunc_any s W
  have Hi := hide hi
  clear hi
  go_enter Tryz.func98, Tryz.ntmps98
  have HB := hide (Below.refl w.heap.size w)
  go_wp2_with fail
  refine (Hi.out _).mono ?_
  rintro e w1 ⟨⟨i, rfl, hd⟩, hb⟩
  replace HB := hide (onward HB.out hb)
  clear hb
  have Hd := hide hd
  clear hd
  go_wp2
  go_ret
  exact ⟨by rw [← Hd.out]; rfl, HB.out⟩
theorem empty_of (s : ByteArray) (h : s.size = 0) : s = ⟨#[]⟩ := by
  obtain ⟨a⟩ := s
  congr
  exact Array.eq_empty_of_size_eq_zero h
theorem get0 (s : ByteArray) (h : 0 < s.size) : s.data.toList.getD 0 0 = s[0]'h := by
  have := get_toList s 0 h
  simp [List.getD, this]
set_option maxHeartbeats 1000000 in
theorem Name_any (s : ByteArray) (w : World) (hs : s.size ≤ 9223372036854775807) :
    Calls Tryz.prog 83 #[.string s] w fun e w' => e = .returned (.bool (nameB s)) ∧ Below w.heap.size w w' := by
  by_cases h0 : s.size = 0
  · obtain rfl := empty_of s h0
    have e : nameB ⟨#[]⟩ = false := rfl
    rw [e]
    clear h0 hs e
    go_enter Tryz.func83, Tryz.ntmps83
    go_wp2
    go_ret
    exact ⟨rfl, Below.refl _ _⟩
  · have hpos : 0 < s.size := by omega
    have hne : s.toList.isEmpty = false := by
      rw [Lib.toList_data]
      cases h : s.data.toList with
      | nil => have : s.data.toList.length = s.size := by simp
               rw [h] at this; simp at this; omega
      | cons a l => rfl
    have hne2 : ¬ s.toList = [] := fun h => by rw [h] at hne; cases hne
    have hi := fun W => ContainsFunc_any s W
    have hB : nameB s = (decide (s.size ≤ 12) && decide (97 ≤ (s[0]'hpos).toNat) && decide ((s[0]'hpos).toNat ≤ 122) && s.data.toList.all fun b => isAl b.toNat) := by
      unfold nameB
      rw [get0 s hpos, decide_eq_true (show s.size ≠ 0 from h0), Bool.true_and]
    generalize (s.data.toList.all fun b => isAl b.toNat) = r at *
    have Hi := hide hi
    have HBn := hide hB
    clear hi hB
    by_cases h1 : (s.size : Int) ≤ 12
    · by_cases h2 : (97 : Int) ≤ ((s[0]'hpos).toNat : Int)
      · by_cases h3 : ((s[0]'hpos).toNat : Int) ≤ 122
        · go_enter Tryz.func83, Tryz.ntmps83
          have HB := hide (Below.refl w.heap.size w)
          go_wp2_with fail
          refine (Hi.out _).mono ?_
          rintro e w1 ⟨rfl, hb⟩
          replace HB := hide (onward HB.out hb)
          clear hb
          go_wp2
          go_ret
          exact ⟨by rw [HBn.out, decide_eq_true (show s.size ≤ 12 by omega), decide_eq_true (show 97 ≤ (s[0]'hpos).toNat by omega), decide_eq_true (show (s[0]'hpos).toNat ≤ 122 by omega)]; simp, HB.out⟩
        · go_enter Tryz.func83, Tryz.ntmps83
          go_wp2
          go_ret
          exact ⟨by rw [HBn.out, decide_eq_false (show ¬ (s[0]'hpos).toNat ≤ 122 by omega)]; simp, Below.refl _ _⟩
      · go_enter Tryz.func83, Tryz.ntmps83
        go_wp2
        go_ret
        exact ⟨by rw [HBn.out, decide_eq_false (show ¬ 97 ≤ (s[0]'hpos).toNat by omega)]; simp, Below.refl _ _⟩
    · go_enter Tryz.func83, Tryz.ntmps83
      go_wp2
      go_ret
      exact ⟨by rw [HBn.out, decide_eq_false (show ¬ s.size ≤ 12 by omega)]; simp, Below.refl _ _⟩
theorem isAl_cases {n : Nat} (h : isAl n = true) : ((97 : Int) ≤ n ∧ (n : Int) ≤ 122) ∨ ((48 : Int) ≤ n ∧ (n : Int) ≤ 57) ∨ n = 95 := by
  unfold isAl at h
  simp only [Bool.or_eq_true, Bool.and_eq_true, decide_eq_true_eq] at h
  omega
theorem isAl_not {n : Nat} (h : ¬ isAl n = true) : ¬ (97 ≤ n ∧ n ≤ 122) ∧ ¬ (48 ≤ n ∧ n ≤ 57) ∧ n ≠ 95 := by
  unfold isAl at h
  simp only [Bool.or_eq_true, Bool.and_eq_true, decide_eq_true_eq] at h
  omega
set_option maxHeartbeats 1000000 in
set_option maxRecDepth 100000 in
theorem RefName_any (s : ByteArray) (w : World) (hs : s.size ≤ 9223372036854775807) :
    Calls Tryz.prog 80 #[.string s] w fun e w' => e = .returned (.bool (nameB s)) ∧ w = w' := by
  by_cases h0 : s.size = 0
  · obtain rfl := empty_of s h0
    have e : nameB ⟨#[]⟩ = false := rfl
    rw [e]
    clear h0 hs e
    go_enter Tryz.func80, Tryz.ntmps80
    go_wp2
    go_ret
    exact ⟨rfl, rfl⟩
  · have hpos : 0 < s.size := by omega
    have h00 : ¬ (s.size : Int) < 1 := by omega
    have hB : nameB s = (decide (s.size ≤ 12) && decide (97 ≤ (s[0]'hpos).toNat) && decide ((s[0]'hpos).toNat ≤ 122) && s.data.toList.all fun b => isAl b.toNat) := by
      unfold nameB
      rw [get0 s hpos, decide_eq_true (show s.size ≠ 0 from h0), Bool.true_and]
    have HBn := hide hB
    clear hB
    by_cases h1 : (12 : Int) < s.size
    · go_enter Tryz.func80, Tryz.ntmps80
      go_wp2
      go_ret
      exact ⟨by rw [HBn.out, decide_eq_false (show ¬ s.size ≤ 12 by omega)]; simp, rfl⟩
    by_cases h2 : ((s[0]'hpos).toNat : Int) < 97
    · go_enter Tryz.func80, Tryz.ntmps80
      go_wp2
      go_ret
      exact ⟨by rw [HBn.out, decide_eq_false (show ¬ 97 ≤ (s[0]'hpos).toNat by omega)]; simp, rfl⟩
    by_cases h3 : (122 : Int) < ((s[0]'hpos).toNat : Int)
    · go_enter Tryz.func80, Tryz.ntmps80
      go_wp2
      go_ret
      exact ⟨by rw [HBn.out, decide_eq_false (show ¬ (s[0]'hpos).toNat ≤ 122 by omega)]; simp, rfl⟩
    have hB2 : nameB s = s.data.toList.all fun b => isAl b.toNat := by
      rw [HBn.out, decide_eq_true (show s.size ≤ 12 by omega), decide_eq_true (show 97 ≤ (s[0]'hpos).toNat by omega), decide_eq_true (show (s[0]'hpos).toNat ≤ 122 by omega)]
      simp
    have HB2 := hide hB2
    clear hB2
    clear HBn
    go_enter Tryz.func80, Tryz.ntmps80
    go_wp2
    go_loop [3] (fun i => ∃ k : Nat, k ≤ s.size ∧ i = .int .i64 k ∧ Hid (∀ j, j < k → ∀ b, s.data.toList[j]? = some b → isAl b.toNat = true)) (fun i => s.size - (intOf i).toNat)
    case atStart => exact ⟨0, by omega, rfl, fun j hj => by omega⟩
    case round =>
      obtain ⟨k, hk, rfl, hall⟩ := hrel
      by_cases hlt : k < s.size
      · have hg := get_toList s k hlt
        have hlt' : (k : Int) < s.size := by omega
        by_cases hal : isAl (s[k]'hlt).toNat = true
        · have hall2 : ∀ j, j < k + 1 → ∀ b, s.data.toList[j]? = some b → isAl b.toNat = true := fun j hj b hb => by
            by_cases h : j < k
            · exact hall j h b hb
            · obtain rfl : j = k := by omega
              rw [hg] at hb
              rw [← Option.some.inj hb]; exact hal
          have Hall := hide hall2
          clear hall2
          have hcs := isAl_cases hal
          clear hal hg hall
          rcases hcs with ⟨c1, c2⟩ | ⟨c1, c2⟩ | c1
          · have d1 : ¬ ((s[k]'hlt).toNat : Int) < 97 := by omega
            have d2 : ¬ (122 : Int) < ((s[k]'hlt).toNat : Int) := by omega
            go_wp2
            go_round
            case rel => exact ⟨k + 1, by omega, by go_num, Hall.out⟩
            case measure => simp [intOf]; omega
          · have d1 : ((s[k]'hlt).toNat : Int) < 97 := by omega
            have d2 : ¬ ((s[k]'hlt).toNat : Int) < 48 := by omega
            have d3 : ¬ (57 : Int) < ((s[k]'hlt).toNat : Int) := by omega
            go_wp2
            go_round
            case rel => exact ⟨k + 1, by omega, by go_num, Hall.out⟩
            case measure => simp [intOf]; omega
          · have d0 : ((s[k]'hlt).toNat : Int) = 95 := by omega
            clear c1
            go_wp2
            go_round
            case rel => exact ⟨k + 1, by omega, by go_num, Hall.out⟩
            case measure => simp [intOf]; omega
        · have hnot : nameB s = false := by
            rw [HB2.out, List.all_eq_false]
            exact ⟨s[k]'hlt, List.mem_of_getElem? hg, hal⟩
          obtain ⟨c1, c2, c3⟩ := isAl_not hal
          have c4 : (((s[k]'hlt).toNat : Int) != 95) = true := by simp; omega
          have c5 : (((s[k]'hlt).toNat : Int) == 95) = false := by simp; omega
          have Hnot := hide hnot
          clear hnot
          clear hal hg hall
          have h4 : ((s[k]'hlt).toNat : Int) < 48 ∨ ((57 : Int) < ((s[k]'hlt).toNat : Int) ∧ ((s[k]'hlt).toNat : Int) < 97) ∨ (122 : Int) < ((s[k]'hlt).toNat : Int) := by omega
          clear c1 c2 c3
          rcases h4 with h4 | ⟨h4, h5⟩ | h4
          · have d1 : ((s[k]'hlt).toNat : Int) < 97 := by omega
            go_wp2
            go_ret
            exact ⟨by rw [Hnot.out]; rfl, rfl⟩
          · have d1 : ¬ ((s[k]'hlt).toNat : Int) < 48 := by omega
            go_wp2
            go_ret
            exact ⟨by rw [Hnot.out]; rfl, rfl⟩
          · have d1 : ¬ ((s[k]'hlt).toNat : Int) < 97 := by omega
            have d2 : ¬ ((s[k]'hlt).toNat : Int) < 48 := by omega
            have d3 : (57 : Int) < ((s[k]'hlt).toNat : Int) := by omega
            go_wp2
            go_ret
            exact ⟨by rw [Hnot.out]; rfl, rfl⟩
      · have hyes : nameB s = true := by
          rw [HB2.out, List.all_eq_true]
          intro b hb
          obtain ⟨j, hj⟩ := List.getElem?_of_mem hb
          have : j < s.size := by have := (List.getElem?_eq_some_iff.1 hj).1; simpa using this
          exact hall j (by omega) b hj
        have Hyes := hide hyes
        clear hyes
        clear hall
        go_wp2
        go_ret
        exact ⟨by rw [Hyes.out]; rfl, rfl⟩
end Go.Proofs.YtepgpihobmjbdaaGreat
namespace Go.Proofs.YtepgpihobmjbdaaGreat
open Go Go.RowKit

def gridE (x y sz wi hi : Int) : Int := if (winB x (-1048576) 1048576 && winB y (-1048576) 1048576 && winB sz 1 10000 && winB wi 1 64 && winB hi 1 64) = true then 0 else 3
theorem gridE_ok {x y sz wi hi : Int} (h : gridE x y sz wi hi = 0) : -1048576 ≤ x ∧ x ≤ 1048576 ∧ -1048576 ≤ y ∧ y ≤ 1048576 ∧ 1 ≤ sz ∧ sz ≤ 10000 ∧ 1 ≤ wi ∧ wi ≤ 64 ∧ 1 ≤ hi ∧ hi ≤ 64 := by
  unfold gridE at h
  split at h
  · rename_i h2
    simp only [Bool.and_eq_true, winB_iff] at h2
    omega
  · omega
def okS (most : Int) (p : Int × Int) : Bool := decide (0 ≤ p.1 ∧ p.1 ≤ p.2 ∧ p.2 ≤ most)
def fieldE (ge : Int) (n : Nat) (wi hi : Int) (l : List (Int × Int)) (most : Int) : Int := if ge ≠ 0 then ge else if (n : Int) ≠ wi * hi then 11 else if l.all (okS most) = true then 0 else 3
def gridV (x y sz wi hi : Int) : Value := .agg #[.int .i64 x, .int .i64 y, .int .i64 sz, .int .i64 wi, .int .i64 hi]
def fieldV (x y sz wi hi : Int) (A : Option Addr) (n c : Nat) : Value := .agg #[.int .i64 x, .int .i64 y, .int .i64 sz, .int .i64 wi, .int .i64 hi, .slice A n c]
theorem Blk.c5 {w : World} {g : Nat} {t : TypeId} {a0 a1 a2 a3 a4 : Value} (h : Blk w g t #[a0, a1, a2, a3, a4]) : w.cell? ⟨g, 0, none⟩ = some a0 ∧ w.cell? ⟨g, 1, none⟩ = some a1 ∧ w.cell? ⟨g, 2, none⟩ = some a2 ∧ w.cell? ⟨g, 3, none⟩ = some a3 ∧ w.cell? ⟨g, 4, none⟩ = some a4 :=
  ⟨h.c 0 rfl, h.c 1 rfl, h.c 2 rfl, h.c 3 rfl, h.c 4 rfl⟩
theorem Blk.c6 {w : World} {g : Nat} {t : TypeId} {a0 a1 a2 a3 a4 a5 : Value} (h : Blk w g t #[a0, a1, a2, a3, a4, a5]) : w.cell? ⟨g, 0, none⟩ = some a0 ∧ w.cell? ⟨g, 1, none⟩ = some a1 ∧ w.cell? ⟨g, 2, none⟩ = some a2 ∧ w.cell? ⟨g, 3, none⟩ = some a3 ∧ w.cell? ⟨g, 4, none⟩ = some a4 ∧ w.cell? ⟨g, 5, none⟩ = some a5 :=
  ⟨h.c 0 rfl, h.c 1 rfl, h.c 2 rfl, h.c 3 rfl, h.c 4 rfl, h.c 5 rfl⟩

set_option maxHeartbeats 2000000 in
set_option maxRecDepth 100000 in
theorem RefCheckSite_any (s : ByteArray) (x y z r g st wd : Int) (w : World) (hs : s.size ≤ 9223372036854775807) :
    Calls Tryz.prog 51 #[siteV s x y z r g st wd] w fun e w' => e = .returned (.int .i64 (siteE (nameB s) x y z r g st wd)) ∧ Below w.heap.size w w' := by
  have hnm := fun W => RefName_any s W hs
  unfold siteV
  generalize nameB s = nb at *
  have Hnm := hide hnm
  clear hnm hs
  cases nb with
  | true =>
    go_enter Tryz.func51, Tryz.ntmps51
    have HB := hide (Below.refl w.heap.size w)
    go_wp2_with fail
    refine at_world fun W hW => ?_
    have bq0 : Blk W w.heap.size 28 #[.string s, .int .i64 x, .int .i64 y, .int .i64 z, .int .i64 r, .int .i64 g, .int .i64 st, .int .i64 wd] := by rw [hW]; exact Blk.new _ _ _
    have LW : Later w W := by rw [hW]; exact ((Below.refl _ _).alloc (Nat.le_refl _) _)
    have szW : W.heap.size = w.heap.size + 1 := by rw [hW]; simp
    clear hW
    replace HB := hide (onward HB.out LW)
    have Hs := hide bq0
    clear bq0 LW szW
    refine (Hnm.out _).mono ?_
    rintro e w' ⟨rfl, rfl⟩
    obtain ⟨q0, q1, q2, q3, q4, q5, q6, q7⟩ := Hs.out.site8
    have lts := Hs.out.lt
    go_wp2_with (go_at_call 52; refine (In_anyQ _ _ _ _).mono ?_; rintro e w' ⟨rfl, rfl⟩)
    all_goals
      go_ret
      simp only [Bool.not_eq_true', Bool.not_eq_false'] at *
      refine ⟨ret_int ?_, HB.out⟩
      first | (simp [siteE, *]; done) | (exfalso; clear Hnm HB Hs q0 q1 q2 q3 q4 q5 q6 q7; simp_all; done)
  | false =>
    go_enter Tryz.func51, Tryz.ntmps51
    have HB := hide (Below.refl w.heap.size w)
    go_wp2_with fail
    refine at_world fun W hW => ?_
    have bq0 : Blk W w.heap.size 28 #[.string s, .int .i64 x, .int .i64 y, .int .i64 z, .int .i64 r, .int .i64 g, .int .i64 st, .int .i64 wd] := by rw [hW]; exact Blk.new _ _ _
    have LW : Later w W := by rw [hW]; exact ((Below.refl _ _).alloc (Nat.le_refl _) _)
    have szW : W.heap.size = w.heap.size + 1 := by rw [hW]; simp
    clear hW
    replace HB := hide (onward HB.out LW)
    have Hs := hide bq0
    clear bq0 LW szW
    refine (Hnm.out _).mono ?_
    rintro e w' ⟨rfl, rfl⟩
    go_wp2
    go_ret
    exact ⟨ret_int (by simp [siteE]), HB.out⟩
set_option maxHeartbeats 2000000 in
set_option maxRecDepth 100000 in
theorem CheckGrid_any (x y sz wi hi : Int) (w : World) :
    Calls Tryz.prog 56 #[gridV x y sz wi hi] w fun e w' => e = .returned (.int .i64 (gridE x y sz wi hi)) ∧ Below w.heap.size w w' := by
  unfold gridV
  go_enter Tryz.func56, Tryz.ntmps56
  have HB := hide (Below.refl w.heap.size w)
  go_wp2_with fail
  refine at_world fun W hW => ?_
  have bq0 : Blk W w.heap.size 33 #[.int .i64 x, .int .i64 y, .int .i64 sz, .int .i64 wi, .int .i64 hi] := by rw [hW]; exact Blk.new _ _ _
  have LW : Later w W := by rw [hW]; exact ((Below.refl _ _).alloc (Nat.le_refl _) _)
  have szW : W.heap.size = w.heap.size + 1 := by rw [hW]; simp
  clear hW
  replace HB := hide (onward HB.out LW)
  have Hs := hide bq0
  clear bq0 LW szW
  obtain ⟨q0, q1, q2, q3, q4⟩ := Hs.out.c5
  have lts := Hs.out.lt
  refine (within_anyQ _ _ _ _).mono ?_
  rintro e w' ⟨rfl, rfl⟩
  go_wp2_with (go_at_call 57; refine (within_anyQ _ _ _ _).mono ?_; rintro e w' ⟨rfl, rfl⟩)
  all_goals
    go_ret
    simp only [Bool.not_eq_true', Bool.not_eq_false'] at *
    refine ⟨ret_int ?_, HB.out⟩
    first | (simp [gridE, *]; done) | (exfalso; clear HB Hs q0 q1 q2 q3 q4; simp_all; done)
set_option maxHeartbeats 2000000 in
set_option maxRecDepth 100000 in
theorem RefCheckGrid_any (x y sz wi hi : Int) (w : World) :
    Calls Tryz.prog 31 #[gridV x y sz wi hi] w fun e w' => e = .returned (.int .i64 (gridE x y sz wi hi)) ∧ Below w.heap.size w w' := by
  unfold gridV
  go_enter Tryz.func31, Tryz.ntmps31
  have HB := hide (Below.refl w.heap.size w)
  go_wp2_with fail
  refine at_world fun W hW => ?_
  have bq0 : Blk W w.heap.size 33 #[.int .i64 x, .int .i64 y, .int .i64 sz, .int .i64 wi, .int .i64 hi] := by rw [hW]; exact Blk.new _ _ _
  have LW : Later w W := by rw [hW]; exact ((Below.refl _ _).alloc (Nat.le_refl _) _)
  have szW : W.heap.size = w.heap.size + 1 := by rw [hW]; simp
  clear hW
  replace HB := hide (onward HB.out LW)
  have Hs := hide bq0
  clear bq0 LW szW
  obtain ⟨q0, q1, q2, q3, q4⟩ := Hs.out.c5
  have lts := Hs.out.lt
  refine (In_anyQ _ _ _ _).mono ?_
  rintro e w' ⟨rfl, rfl⟩
  go_wp2_with (go_at_call 52; refine (In_anyQ _ _ _ _).mono ?_; rintro e w' ⟨rfl, rfl⟩)
  all_goals
    go_ret
    simp only [Bool.not_eq_true', Bool.not_eq_false'] at *
    refine ⟨ret_int ?_, HB.out⟩
    first | (simp [gridE, *]; done) | (exfalso; clear HB Hs q0 q1 q2 q3 q4; simp_all; done)
end Go.Proofs.YtepgpihobmjbdaaGreat
namespace Go.Proofs.YtepgpihobmjbdaaGreat
open Go Go.RowKit

def flat2Q : List (Int × Int) → List Int
  | [] => []
  | p :: l => p.1 :: p.2 :: flat2Q l
theorem flat2_lengthQ : ∀ l : List (Int × Int), (flat2Q l).length = l.length * 2
  | [] => rfl
  | p :: l => by simp [flat2Q, flat2_lengthQ l]; omega
theorem flat2_get : ∀ (l : List (Int × Int)) (k : Nat), k < l.length → (flat2Q l).getD (k * 2) 0 = (l.getD k (0, 0)).1 ∧ (flat2Q l).getD (k * 2 + 1) 0 = (l.getD k (0, 0)).2
  | [], k, h => by simp at h
  | p :: l, 0, _ => ⟨rfl, rfl⟩
  | p :: l, k + 1, h => by
    have := flat2_get l k (by simpa using h)
    rw [show (k + 1) * 2 = k * 2 + 1 + 1 by omega]
    simpa [flat2Q, List.getD] using this
/-- A list of pairs, read. -/
theorem Ints.ptQ {w : World} {B : Nat} {A : Option Addr} {l : List (Int × Int)} (h : Ints w B .i64 A (flat2Q l)) (hl : 0 < l.length) : ∃ b off, A = some ⟨b, off, none⟩ ∧ b < B ∧ ∀ k, k < l.length → w.cell? ⟨b, off + k * 2, none⟩ = some (.int .i64 (l.getD k (0, 0)).1) ∧ w.cell? ⟨b, off + k * 2 + 1, none⟩ = some (.int .i64 (l.getD k (0, 0)).2) := by
  obtain ⟨b, off, e, hb, hc⟩ := h (by rw [flat2_lengthQ]; omega)
  refine ⟨b, off, e, hb, fun k hk => ?_⟩
  obtain ⟨h1, h2⟩ := flat2_get l k hk
  rw [← h1, ← h2]
  exact ⟨hc _ (by rw [flat2_lengthQ]; omega), by have := hc (k * 2 + 1) (by rw [flat2_lengthQ]; omega); rwa [show off + (k * 2 + 1) = off + k * 2 + 1 by omega] at this⟩
theorem all_okS {l : List (Int × Int)} {most : Int} (h : ∀ j, j < l.length → okS most (l.getD j (0, 0)) = true) : l.all (okS most) = true := by
  rw [List.all_eq_true]
  intro x hx
  obtain ⟨j, hj, rfl⟩ := List.mem_iff_getElem.1 hx
  have := h j hj
  simpa [List.getD, hj] using this
theorem not_all_okS {l : List (Int × Int)} {most : Int} {j : Nat} (hj : j < l.length) (h : okS most (l.getD j (0, 0)) = false) : l.all (okS most) = false := by
  rw [List.all_eq_false]
  refine ⟨l[j], List.getElem_mem hj, ?_⟩
  have e : l.getD j (0, 0) = l[j] := by simp [List.getD, hj]
  rw [← e, h]
  simp

set_option maxHeartbeats 2000000 in
set_option maxRecDepth 100000 in
theorem check_any (x y sz wi hi : Int) (A : Option Addr) (n c : Nat) (l : List (Int × Int)) (most : Int) (w : World) (hn : l.length = n) (hmax : n ≤ 9223372036854775807) (hl : Ints w w.heap.size .i64 A (flat2Q l)) :
    Calls Tryz.prog 67 #[fieldV x y sz wi hi A n c, .int .i64 most] w fun e w' => e = .returned (.int .i64 (fieldE (gridE x y sz wi hi) n wi hi l most)) ∧ Below w.heap.size w w' := by
  have hg := fun W => CheckGrid_any x y sz wi hi W
  have hR : ∀ ge, gridE x y sz wi hi = ge → fieldE (gridE x y sz wi hi) n wi hi l most = if ge ≠ 0 then ge else if (n : Int) ≠ wi * hi then 11 else if l.all (okS most) = true then 0 else 3 := fun ge h => by rw [h]; rfl
  obtain ⟨ge, hge⟩ : ∃ ge, gridE x y sz wi hi = ge := ⟨_, rfl⟩
  replace hR := hR ge hge
  have hok := fun h : ge = 0 => gridE_ok (hge.trans h)
  generalize fieldE (gridE x y sz wi hi) n wi hi l most = res at *
  rw [hge] at hg
  unfold gridV at hg
  unfold fieldV
  clear hge
  have Hg := hide hg
  have Hok := hide hok
  have Hl := hide hl
  have Hn := hide hn
  clear hg hok hl hn
  by_cases h0 : ge = 0
  · subst h0
    obtain ⟨-, -, -, -, -, -, s1, s2, s3, s4⟩ := Hok.out rfl
    obtain ⟨m1, m2⟩ := mul_bdB (a := wi) (b := hi) (A := 64) (B := 64) (by omega) s2 (by omega) s4
    rw [if_neg (by simp)] at hR
    by_cases h1 : (n : Int) = wi * hi
    · rw [if_neg (by simpa using h1)] at hR
      have h1' : ((n : Int) != wi * hi) = false := by simp [h1]
      have hn4 : (n : Int) ≤ 4096 := by omega
      have HR := hide hR
      have H1 := hide h1
      clear hR h1
      go_enter Tryz.func67, Tryz.ntmps67
      have HB := hide (Below.refl w.heap.size w)
      go_wp2_with fail
      refine at_world fun W hW => ?_
      have bq0 : Blk W w.heap.size 36 #[.int .i64 x, .int .i64 y, .int .i64 sz, .int .i64 wi, .int .i64 hi, .slice A n c] := by rw [hW]; exact Blk.new _ _ _
      have LW : Later w W := by rw [hW]; exact ((Below.refl _ _).alloc (Nat.le_refl _) _)
      have szW : W.heap.size = w.heap.size + 1 := by rw [hW]; simp
      clear hW
      replace HB := hide (onward HB.out LW)
      have Hf := hide bq0
      clear bq0 LW szW
      refine (Hg.out _).mono ?_
      rintro e w1 ⟨rfl, hb⟩
      replace HB := hide (onward HB.out hb)
      replace Hf := hide (blk_later Hf.out hb)
      clear hb
      obtain ⟨q0, q1, q2, q3, q4, q5⟩ := Hf.out.c6
      have ltf := Hf.out.lt
      go_wp2_with fail
      go_loopw [28] (fun i wr => ∃ k : Nat, k ≤ n ∧ i = .int .i64 k ∧ Below w.heap.size w wr ∧ ∀ j, j < k → okS most (l.getD j (0, 0)) = true) (fun i _ => n - (intOf i).toNat)
      case atStart => exact ⟨0, by omega, rfl, HB.out, fun j hj => by omega⟩
      case round =>
        clear HB Hf q0 q1 q2 q3 q4 q5 ltf
        obtain ⟨k, hk, rfl, hbw, hall⟩ := hrel
        have HB := hide hbw
        have Hall := hide hall
        clear hbw hall
        have hsw := HB.out.size
        by_cases hlt : k < n
        · obtain ⟨b, off, rfl, hb, hc⟩ := Hl.out.ptQ (by have := Hn.out; omega)
          obtain ⟨p0, p1⟩ := hc k (by have := Hn.out; omega)
          rw [← HB.out.cell hb] at p0 p1
          have hnn := fun h => not_all_okS (l := l) (most := most) (j := k) (by have := Hn.out; omega) h
          have hok1 : okS most (l.getD k (0, 0)) = true → ∀ j, j < k + 1 → okS most (l.getD j (0, 0)) = true := fun h j hj => by
            rcases Nat.lt_or_ge j k with h1 | h1
            · exact Hall.out j h1
            · obtain rfl : j = k := by omega
              exact h
          generalize l.getD k (0, 0) = m at *
          obtain ⟨m1', m2'⟩ := m
          simp only at p0 p1
          have hdec : okS most (m1', m2') = decide (0 ≤ m1' ∧ m1' ≤ m2' ∧ m2' ≤ most) := rfl
          rw [hdec] at hnn hok1
          have Hnn := hide hnn
          have Hok1 := hide hok1
          clear hnn hok1
          clear hc hdec
          by_cases g1 : m1' < 0
          · have HR2 := hide (HR.out.trans (if_neg (by rw [Hnn.out (decide_eq_false (by omega))]; simp)))
            go_wp2
            go_ret
            refine ⟨ret_int HR2.out.symm, ?_⟩
            repeat (first | exact HB.out | (refine Below.setCell ?_ (by first | omega | (simp; done) | (simp; omega)) _) | (refine Below.alloc ?_ (by first | omega | (simp; done) | (simp; omega)) _) | (refine below_drewN ?_ _))
          by_cases g2 : m2' < m1'
          · have HR2 := hide (HR.out.trans (if_neg (by rw [Hnn.out (decide_eq_false (by omega))]; simp)))
            go_wp2
            go_ret
            refine ⟨ret_int HR2.out.symm, ?_⟩
            repeat (first | exact HB.out | (refine Below.setCell ?_ (by first | omega | (simp; done) | (simp; omega)) _) | (refine Below.alloc ?_ (by first | omega | (simp; done) | (simp; omega)) _) | (refine below_drewN ?_ _))
          by_cases g3 : most < m2'
          · have HR2 := hide (HR.out.trans (if_neg (by rw [Hnn.out (decide_eq_false (by omega))]; simp)))
            go_wp2
            go_ret
            refine ⟨ret_int HR2.out.symm, ?_⟩
            repeat (first | exact HB.out | (refine Below.setCell ?_ (by first | omega | (simp; done) | (simp; omega)) _) | (refine Below.alloc ?_ (by first | omega | (simp; done) | (simp; omega)) _) | (refine below_drewN ?_ _))
          · have Hk2 := hide (Hok1.out (decide_eq_true (by omega)))
            go_wp2
            go_roundw
            case rel =>
              refine ⟨k + 1, by omega, by go_num, ?_, Hk2.out⟩
              repeat (first | exact HB.out | (refine Below.setCell ?_ (by first | omega | (simp; done) | (simp; omega)) _) | (refine Below.alloc ?_ (by first | omega | (simp; done) | (simp; omega)) _) | (refine below_drewN ?_ _))
            case measure => simp [intOf] <;> omega
        · obtain rfl : k = n := by omega
          have HR2 := hide (HR.out.trans (if_pos (all_okS fun j hj => Hall.out j (by have := Hn.out; omega))))
          go_wp2
          go_ret
          exact ⟨ret_int HR2.out.symm, HB.out⟩
    · rw [if_pos h1] at hR
      have h1' : ((n : Int) != wi * hi) = true := by simpa [bne] using h1
      have HR := hide hR
      clear hR
      go_enter Tryz.func67, Tryz.ntmps67
      have HB := hide (Below.refl w.heap.size w)
      go_wp2_with fail
      refine at_world fun W hW => ?_
      have bq0 : Blk W w.heap.size 36 #[.int .i64 x, .int .i64 y, .int .i64 sz, .int .i64 wi, .int .i64 hi, .slice A n c] := by rw [hW]; exact Blk.new _ _ _
      have LW : Later w W := by rw [hW]; exact ((Below.refl _ _).alloc (Nat.le_refl _) _)
      have szW : W.heap.size = w.heap.size + 1 := by rw [hW]; simp
      clear hW
      replace HB := hide (onward HB.out LW)
      have Hf := hide bq0
      clear bq0 LW szW
      refine (Hg.out _).mono ?_
      rintro e w1 ⟨rfl, hb⟩
      replace HB := hide (onward HB.out hb)
      replace Hf := hide (blk_later Hf.out hb)
      clear hb
      obtain ⟨q0, q1, q2, q3, q4, q5⟩ := Hf.out.c6
      have ltf := Hf.out.lt
      go_wp2
      go_ret
      exact ⟨ret_int HR.out.symm, HB.out⟩
  · rw [if_pos h0] at hR
    have h00 : (ge != 0) = true := by simpa [bne] using h0
    have HR := hide hR
    clear hR
    go_enter Tryz.func67, Tryz.ntmps67
    have HB := hide (Below.refl w.heap.size w)
    go_wp2_with fail
    refine at_world fun W hW => ?_
    have bq0 : Blk W w.heap.size 36 #[.int .i64 x, .int .i64 y, .int .i64 sz, .int .i64 wi, .int .i64 hi, .slice A n c] := by rw [hW]; exact Blk.new _ _ _
    have LW : Later w W := by rw [hW]; exact ((Below.refl _ _).alloc (Nat.le_refl _) _)
    have szW : W.heap.size = w.heap.size + 1 := by rw [hW]; simp
    clear hW
    replace HB := hide (onward HB.out LW)
    have Hf := hide bq0
    clear bq0 LW szW
    refine (Hg.out _).mono ?_
    rintro e w1 ⟨rfl, hb⟩
    replace HB := hide (onward HB.out hb)
    replace Hf := hide (blk_later Hf.out hb)
    clear hb
    obtain ⟨q0, q1, q2, q3, q4, q5⟩ := Hf.out.c6
    have ltf := Hf.out.lt
    go_wp2
    go_ret
    exact ⟨ret_int HR.out.symm, HB.out⟩
theorem Valid_anyQ (a b lo hi : Int) (w : World) :
    Calls Tryz.prog 75 #[.agg #[.int .i64 a, .int .i64 b], .int .i64 lo, .int .i64 hi] w fun e w' => e = .returned (.bool (decide (lo ≤ a ∧ a ≤ b ∧ b ≤ hi))) ∧ Below w.heap.size w w' := by
  by_cases h1 : a ≤ b <;> by_cases h2 : lo ≤ a <;> by_cases h3 : b ≤ hi
  all_goals
    go_enter Tryz.func75, Tryz.ntmps75
    go_wp2
    go_ret
    exact ⟨by simp [*], (Below.refl _ _).alloc (Nat.le_refl _) _⟩
set_option maxHeartbeats 2000000 in
set_option maxRecDepth 100000 in
theorem fits_any (x y sz wi hi : Int) (A : Option Addr) (n c : Nat) (l : List (Int × Int)) (most : Int) (w : World) (hn : l.length = n) (hmax : n ≤ 9223372036854775807) (hl : Ints w w.heap.size .i64 A (flat2Q l)) :
    Calls Tryz.prog 77 #[fieldV x y sz wi hi A n c, .int .i64 most] w fun e w' => e = .returned (.int .i64 (fieldE (gridE x y sz wi hi) n wi hi l most)) ∧ Below w.heap.size w w' := by
  have hg := fun W => RefCheckGrid_any x y sz wi hi W
  have hR : ∀ ge, gridE x y sz wi hi = ge → fieldE (gridE x y sz wi hi) n wi hi l most = if ge ≠ 0 then ge else if (n : Int) ≠ wi * hi then 11 else if l.all (okS most) = true then 0 else 3 := fun ge h => by rw [h]; rfl
  obtain ⟨ge, hge⟩ : ∃ ge, gridE x y sz wi hi = ge := ⟨_, rfl⟩
  replace hR := hR ge hge
  have hok := fun h : ge = 0 => gridE_ok (hge.trans h)
  generalize fieldE (gridE x y sz wi hi) n wi hi l most = res at *
  rw [hge] at hg
  unfold gridV at hg
  unfold fieldV
  clear hge
  have Hg := hide hg
  have Hok := hide hok
  have Hl := hide hl
  have Hn := hide hn
  clear hg hok hl hn
  by_cases h0 : ge = 0
  · subst h0
    obtain ⟨-, -, -, -, -, -, s1, s2, s3, s4⟩ := Hok.out rfl
    obtain ⟨m1, m2⟩ := mul_bdB (a := wi) (b := hi) (A := 64) (B := 64) (by omega) s2 (by omega) s4
    rw [if_neg (by simp)] at hR
    by_cases h1 : (n : Int) = wi * hi
    · rw [if_neg (by simpa using h1)] at hR
      have h1' : ((n : Int) != wi * hi) = false := by simp [h1]
      have hn4 : (n : Int) ≤ 4096 := by omega
      have HR := hide hR
      have H1 := hide h1
      clear hR h1
      go_enter Tryz.func77, Tryz.ntmps77
      have HB := hide (Below.refl w.heap.size w)
      go_wp2_with fail
      refine at_world fun W hW => ?_
      have bq0 : Blk W w.heap.size 36 #[.int .i64 x, .int .i64 y, .int .i64 sz, .int .i64 wi, .int .i64 hi, .slice A n c] := by rw [hW]; exact Blk.new _ _ _
      have LW : Later w W := by rw [hW]; exact ((Below.refl _ _).alloc (Nat.le_refl _) _)
      have szW : W.heap.size = w.heap.size + 1 := by rw [hW]; simp
      clear hW
      replace HB := hide (onward HB.out LW)
      have Hf := hide bq0
      clear bq0 LW szW
      refine (Hg.out _).mono ?_
      rintro e w1 ⟨rfl, hb⟩
      replace HB := hide (onward HB.out hb)
      replace Hf := hide (blk_later Hf.out hb)
      clear hb
      obtain ⟨q0, q1, q2, q3, q4, q5⟩ := Hf.out.c6
      have ltf := Hf.out.lt
      go_wp2_with fail
      go_loopw [6] (fun i wr => ∃ k : Nat, k ≤ n ∧ i = .int .i64 k ∧ Below w.heap.size w wr ∧ Blk wr w.heap.size 36 #[.int .i64 x, .int .i64 y, .int .i64 sz, .int .i64 wi, .int .i64 hi, .slice A n c] ∧ ∀ j, j < k → okS most (l.getD j (0, 0)) = true) (fun i _ => n - (intOf i).toNat)
      case atStart => exact ⟨0, by omega, rfl, HB.out, Hf.out, fun j hj => by omega⟩
      case round =>
        clear HB Hf q0 q1 q2 q3 q4 q5 ltf
        obtain ⟨k, hk, rfl, hbw, hbf, hall⟩ := hrel
        have HB := hide hbw
        have Hf := hide hbf
        have Hall := hide hall
        clear hbw hbf hall
        have q5 := Hf.out.c6.2.2.2.2.2
        have ltf := Hf.out.lt
        by_cases hlt : k < n
        · obtain ⟨b, off, rfl, hb, hc⟩ := Hl.out.ptQ (by have := Hn.out; omega)
          obtain ⟨p0, p1⟩ := hc k (by have := Hn.out; omega)
          rw [← HB.out.cell hb] at p0 p1
          have hnn := fun h => not_all_okS (l := l) (most := most) (j := k) (by have := Hn.out; omega) h
          have hok1 : okS most (l.getD k (0, 0)) = true → ∀ j, j < k + 1 → okS most (l.getD j (0, 0)) = true := fun h j hj => by
            rcases Nat.lt_or_ge j k with h1 | h1
            · exact Hall.out j h1
            · obtain rfl : j = k := by omega
              exact h
          generalize l.getD k (0, 0) = m at *
          obtain ⟨m1', m2'⟩ := m
          simp only at p0 p1
          have hv := fun W => Valid_anyQ m1' m2' 0 most W
          have hdec : okS most (m1', m2') = decide (0 ≤ m1' ∧ m1' ≤ m2' ∧ m2' ≤ most) := rfl
          rw [← hdec] at hv
          clear hc hdec
          generalize okS most (m1', m2') = ob at *
          cases ob with
          | true =>
            have Hk2 := hide (hok1 rfl)
            have Hv := hide hv
            clear hv
            clear hnn hok1
            go_wp2_with fail
            refine (Hv.out _).mono ?_
            rintro e w2 ⟨rfl, hb⟩
            replace HB := hide (onward HB.out hb)
            replace Hf := hide (blk_later Hf.out hb)
            clear hb
            go_wp2
            go_roundw
            case rel => exact ⟨k + 1, by omega, by go_num, HB.out, Hf.out, Hk2.out⟩
            case measure => simp [intOf] <;> omega
          | false =>
            have HR2 := hide (HR.out.trans (if_neg (by rw [hnn rfl]; simp)))
            have Hv := hide hv
            clear hv
            clear hnn hok1
            go_wp2_with fail
            refine (Hv.out _).mono ?_
            rintro e w2 ⟨rfl, hb⟩
            replace HB := hide (onward HB.out hb)
            replace Hf := hide (blk_later Hf.out hb)
            clear hb
            go_wp2
            go_ret
            exact ⟨ret_int HR2.out.symm, HB.out⟩
        · obtain rfl : k = n := by omega
          have HR2 := hide (HR.out.trans (if_pos (all_okS fun j hj => Hall.out j (by have := Hn.out; omega))))
          go_wp2
          go_ret
          exact ⟨ret_int HR2.out.symm, HB.out⟩
    · rw [if_pos h1] at hR
      have h1' : ((n : Int) != wi * hi) = true := by simpa [bne] using h1
      have HR := hide hR
      clear hR
      go_enter Tryz.func77, Tryz.ntmps77
      have HB := hide (Below.refl w.heap.size w)
      go_wp2_with fail
      refine at_world fun W hW => ?_
      have bq0 : Blk W w.heap.size 36 #[.int .i64 x, .int .i64 y, .int .i64 sz, .int .i64 wi, .int .i64 hi, .slice A n c] := by rw [hW]; exact Blk.new _ _ _
      have LW : Later w W := by rw [hW]; exact ((Below.refl _ _).alloc (Nat.le_refl _) _)
      have szW : W.heap.size = w.heap.size + 1 := by rw [hW]; simp
      clear hW
      replace HB := hide (onward HB.out LW)
      have Hf := hide bq0
      clear bq0 LW szW
      refine (Hg.out _).mono ?_
      rintro e w1 ⟨rfl, hb⟩
      replace HB := hide (onward HB.out hb)
      replace Hf := hide (blk_later Hf.out hb)
      clear hb
      obtain ⟨q0, q1, q2, q3, q4, q5⟩ := Hf.out.c6
      have ltf := Hf.out.lt
      go_wp2
      go_ret
      exact ⟨ret_int HR.out.symm, HB.out⟩
  · rw [if_pos h0] at hR
    have h00 : (ge != 0) = true := by simpa [bne] using h0
    have HR := hide hR
    clear hR
    go_enter Tryz.func77, Tryz.ntmps77
    have HB := hide (Below.refl w.heap.size w)
    go_wp2_with fail
    refine at_world fun W hW => ?_
    have bq0 : Blk W w.heap.size 36 #[.int .i64 x, .int .i64 y, .int .i64 sz, .int .i64 wi, .int .i64 hi, .slice A n c] := by rw [hW]; exact Blk.new _ _ _
    have LW : Later w W := by rw [hW]; exact ((Below.refl _ _).alloc (Nat.le_refl _) _)
    have szW : W.heap.size = w.heap.size + 1 := by rw [hW]; simp
    clear hW
    replace HB := hide (onward HB.out LW)
    have Hf := hide bq0
    clear bq0 LW szW
    refine (Hg.out _).mono ?_
    rintro e w1 ⟨rfl, hb⟩
    replace HB := hide (onward HB.out hb)
    replace Hf := hide (blk_later Hf.out hb)
    clear hb
    obtain ⟨q0, q1, q2, q3, q4, q5⟩ := Hf.out.c6
    have ltf := Hf.out.lt
    go_wp2
    go_ret
    exact ⟨ret_int HR.out.symm, HB.out⟩
end Go.Proofs.YtepgpihobmjbdaaGreat
namespace Go.Proofs.YtepgpihobmjbdaaGreat
open Go.RowKit

set_option maxHeartbeats 2000000 in
set_option maxRecDepth 100000 in
theorem riseDown_any (s : ByteArray) (x y z r g st wd t gate e : Int) (w : World) (h1 : -8 ≤ t) (h2 : t ≤ 264) (h3 : 0 ≤ gate) (h4 : gate ≤ 199) (h5 : 0 ≤ st) (h6 : st ≤ 2000) (z0 : 0 ≤ z) (z1 : z ≤ 20000) (e0 : 1000000 ≤ e) (e1 : e ≤ 100000000) :
    Calls Tryz.prog 71 #[siteV s x y z r g st wd, .int .i64 t, .int .i64 gate, .int .i64 e, .func (.func 72) #[] #[]] w fun e' w' => e' = .returned (.int .i64 (riseD z st gate t e)) ∧ Below w.heap.size w w' := by
  obtain ⟨a1, a2, a3, a4, a5, a6⟩ := reach_bd h1 h2 h3 h4 h5 h6
  obtain ⟨s1, s2⟩ := sine_bd h1 h2 a3 a4
  obtain ⟨b1, b2, -, -, -⟩ := r_bd h1 h2 h3 h4 h5 h6
  obtain ⟨c1, c2⟩ := sq_bd b1 b2
  obtain ⟨u1, u2, -, -⟩ := q_bd (b := 2 * (262144 + t * t)) (by omega) s1 s2 (by omega)
  obtain ⟨v1, v2, -, -⟩ := q_bd (a := rD st gate t * rD st gate t) (b := 2 * e) (C := 160000000000) (by omega) (by omega) c2 (by omega)
  have hs := fun W => slantOf_any t W h1 h2
  have hr := fun W => reachDown_any s x y z r g st wd t gate W h1 h2 h3 h4 h5 h6
  have hf1 := fun W => round_down ((2 * gate + 1) * st * (1024 * t)) (2 * (262144 + t * t)) W (by omega) (by omega) (by omega) (by omega)
  have hf2 := fun W => round_down (rD st gate t * rD st gate t) (2 * e) W (by omega) (by omega) (by omega) (by omega)
  have hQ : riseD z st gate t e = z + (sineN st gate t / reachD t) + (rD st gate t * rD st gate t / (2 * e)) := rfl
  have hr' : ∀ W, Calls Tryz.prog 94 #[siteV s x y z r g st wd, .int .i64 t, .int .i64 gate, .func (.func 72) #[] #[]] W fun e w' => e = .returned (.int .i64 (rD st gate t)) ∧ Below W.heap.size W w' := hr
  unfold sineN reachD at hQ
  unfold vecV slantV at hs
  unfold siteV at hr' ⊢
  simp only at hs hf1 hf2 u1 u2 v1 v2
  rw [hQ]
  clear hQ hr
  generalize rD st gate t = G at *
  generalize hP1 : ((2 * gate + 1) * st * (1024 * t) / (2 * (262144 + t * t))) = P1 at *
  generalize hP2 : (G * G / (2 * e)) = P2 at *
  have Hs := hide hs
  have Hr := hide hr'
  have Hf1 := hide hf1
  have Hf2 := hide hf2
  clear hs hr' hf1 hf2
  clear hP1 hP2 a5 a6
  go_enter Tryz.func71, Tryz.ntmps71
  have HB := hide (Below.refl w.heap.size w)
  go_wp2_with fail
  refine at_world fun W hW => ?_
  have bq0 : Blk W w.heap.size 28 #[.string s, .int .i64 x, .int .i64 y, .int .i64 z, .int .i64 r, .int .i64 g, .int .i64 st, .int .i64 wd] := by rw [hW]; exact Blk.new _ _ _
  have LW : Later w W := by rw [hW]; exact ((Below.refl _ _).alloc (Nat.le_refl _) _)
  have szW : W.heap.size = w.heap.size + 1 := by rw [hW]; simp
  clear hW
  replace HB := hide (onward HB.out LW)
  have Hq := hide bq0
  clear bq0 LW szW
  refine (Hs.out _).mono ?_
  rintro e w1 ⟨rfl, hb⟩
  replace HB := hide (onward HB.out hb)
  replace Hq := hide (blk_later Hq.out hb)
  clear hb
  obtain ⟨q0, q1, q2, q3, q4, q5, q6, q7⟩ := Hq.out.site8
  have lts := Hq.out.lt
  go_wp2_with fail
  refine at_world fun W1 hW => ?_
  have bq0 : Blk W1 w1.heap.size 147 #[.int .i64 (262144 - t * t), .int .i64 (1024 * t), .int .i64 (262144 + t * t)] := by rw [hW]; exact Blk.new _ _ _
  have LW : Later w1 W1 := by rw [hW]; exact ((Below.refl _ _).alloc (Nat.le_refl _) _)
  have szW : W1.heap.size = w1.heap.size + 1 := by rw [hW]; simp
  clear hW
  replace HB := hide (onward HB.out LW)
  replace Hq := hide (blk_later Hq.out LW)
  have Hx := hide bq0
  clear bq0 LW szW
  refine (Hr.out _).mono ?_
  rintro e w2 ⟨rfl, hb⟩
  replace HB := hide (onward HB.out hb)
  replace Hq := hide (blk_later Hq.out hb)
  replace Hx := hide (blk_later Hx.out hb)
  clear hb
  clear q0 q1 q2 q3 q4 q5 q6 q7 lts
  obtain ⟨q0, q1, q2, q3, q4, q5, q6, q7⟩ := Hq.out.site8
  have lts := Hq.out.lt
  obtain ⟨x0, x1, x2⟩ := Hx.out.c3
  have ltx := Hx.out.lt
  go_wp2_with fail
  apply wp_region_L (w0 := w2) [[], [], [], [], [], [], [], [], [], [], [], [], [], [], [], [], [], [], [], [], [], [], [], [], [], []] [true, true, true, true, true, true, true, true, true, true, true, true, true, true, true, true, true, true, true, true, true, true, true, true, true, true] [] (fun ixq y => match ixq with  | _ => undef) (fun ixq x F wq => match ixq with  | _ => True) (fun a x => a) (by kernel_rfl) (by kernel_rfl) (fun _ => rfl) [35, 43] (by kernel_rfl)
  · intro x D hD
    have hne := hD.some
    have k3 := liftB hD q3 (by first | assumption | omega)
    have k6 := liftB hD q6 (by first | assumption | omega)
    have l1 := liftB hD x1 (by first | assumption | omega)
    have l2 := liftB hD x2 (by first | assumption | omega)
    simp only [takeOps, Act.put, List.setIfInBounds_toArray, List.set_cons_succ, List.set_cons_zero]
    repeat (go_big_quiet_step ((go_at_call 72; first | (with_reducible exact calls_same _ (Hf1.out _)) | (with_reducible exact calls_same _ (Hf2.out _)))))
    exact wpQuiet_nil rfl
  · intro d hd x x'
    simp only [List.mem_cons, List.not_mem_nil, or_false] at hd
    rcases hd with rfl | rfl
    all_goals rfl
  · exact trivial
  · exact trivial
  intro xx w3 F hL hlv1
  clear hlv1
  replace HB := hide (onward HB.out hL)
  replace Hq := hide (blk_later Hq.out hL)
  replace Hx := hide (blk_later Hx.out hL)
  clear hL x0 x1 x2 ltx
  go_wp2
  go_ret
  exact ⟨rfl, HB.out⟩
set_option maxHeartbeats 2000000 in
set_option maxRecDepth 100000 in
theorem riseUp_any (s : ByteArray) (x y z r g st wd t gate e : Int) (w : World) (h1 : -8 ≤ t) (h2 : t ≤ 264) (h3 : 0 ≤ gate) (h4 : gate ≤ 199) (h5 : 0 ≤ st) (h6 : st ≤ 2000) (z0 : 0 ≤ z) (z1 : z ≤ 20000) (e0 : 1000000 ≤ e) (e1 : e ≤ 100000000) :
    Calls Tryz.prog 71 #[siteV s x y z r g st wd, .int .i64 t, .int .i64 gate, .int .i64 e, .func (.func 73) #[] #[]] w fun e' w' => e' = .returned (.int .i64 (riseU z st gate t e)) ∧ Below w.heap.size w w' := by
  obtain ⟨a1, a2, a3, a4, a5, a6⟩ := reach_bd h1 h2 h3 h4 h5 h6
  obtain ⟨s1, s2⟩ := sine_bd h1 h2 a3 a4
  obtain ⟨-, -, b1, b2, -⟩ := r_bd h1 h2 h3 h4 h5 h6
  obtain ⟨c1, c2⟩ := sq_bd b1 b2
  obtain ⟨-, -, u1, u2⟩ := q_bd (b := 2 * (262144 + t * t)) (by omega) s1 s2 (by omega)
  obtain ⟨-, -, v1, v2⟩ := q_bd (a := rU st gate t * rU st gate t) (b := 2 * e) (C := 160000000000) (by omega) (by omega) c2 (by omega)
  have hs := fun W => slantOf_any t W h1 h2
  have hr := fun W => reachUp_any s x y z r g st wd t gate W h1 h2 h3 h4 h5 h6
  have hf1 := fun W => round_up ((2 * gate + 1) * st * (1024 * t)) (2 * (262144 + t * t)) W (by omega) (by omega) (by omega) (by omega)
  have hf2 := fun W => round_up (rU st gate t * rU st gate t) (2 * e) W (by omega) (by omega) (by omega) (by omega)
  have hQ : riseU z st gate t e = z + (cdiv (sineN st gate t) (reachD t)) + (cdiv (rU st gate t * rU st gate t) (2 * e)) := rfl
  have hr' : ∀ W, Calls Tryz.prog 94 #[siteV s x y z r g st wd, .int .i64 t, .int .i64 gate, .func (.func 73) #[] #[]] W fun e w' => e = .returned (.int .i64 (rU st gate t)) ∧ Below W.heap.size W w' := hr
  unfold sineN reachD at hQ
  unfold vecV slantV at hs
  unfold siteV at hr' ⊢
  simp only at hs hf1 hf2 u1 u2 v1 v2
  rw [hQ]
  clear hQ hr
  generalize rU st gate t = G at *
  generalize hP1 : (cdiv ((2 * gate + 1) * st * (1024 * t)) (2 * (262144 + t * t))) = P1 at *
  generalize hP2 : (cdiv (G * G) (2 * e)) = P2 at *
  have Hs := hide hs
  have Hr := hide hr'
  have Hf1 := hide hf1
  have Hf2 := hide hf2
  clear hs hr' hf1 hf2
  clear hP1 hP2 a5 a6
  go_enter Tryz.func71, Tryz.ntmps71
  have HB := hide (Below.refl w.heap.size w)
  go_wp2_with fail
  refine at_world fun W hW => ?_
  have bq0 : Blk W w.heap.size 28 #[.string s, .int .i64 x, .int .i64 y, .int .i64 z, .int .i64 r, .int .i64 g, .int .i64 st, .int .i64 wd] := by rw [hW]; exact Blk.new _ _ _
  have LW : Later w W := by rw [hW]; exact ((Below.refl _ _).alloc (Nat.le_refl _) _)
  have szW : W.heap.size = w.heap.size + 1 := by rw [hW]; simp
  clear hW
  replace HB := hide (onward HB.out LW)
  have Hq := hide bq0
  clear bq0 LW szW
  refine (Hs.out _).mono ?_
  rintro e w1 ⟨rfl, hb⟩
  replace HB := hide (onward HB.out hb)
  replace Hq := hide (blk_later Hq.out hb)
  clear hb
  obtain ⟨q0, q1, q2, q3, q4, q5, q6, q7⟩ := Hq.out.site8
  have lts := Hq.out.lt
  go_wp2_with fail
  refine at_world fun W1 hW => ?_
  have bq0 : Blk W1 w1.heap.size 147 #[.int .i64 (262144 - t * t), .int .i64 (1024 * t), .int .i64 (262144 + t * t)] := by rw [hW]; exact Blk.new _ _ _
  have LW : Later w1 W1 := by rw [hW]; exact ((Below.refl _ _).alloc (Nat.le_refl _) _)
  have szW : W1.heap.size = w1.heap.size + 1 := by rw [hW]; simp
  clear hW
  replace HB := hide (onward HB.out LW)
  replace Hq := hide (blk_later Hq.out LW)
  have Hx := hide bq0
  clear bq0 LW szW
  refine (Hr.out _).mono ?_
  rintro e w2 ⟨rfl, hb⟩
  replace HB := hide (onward HB.out hb)
  replace Hq := hide (blk_later Hq.out hb)
  replace Hx := hide (blk_later Hx.out hb)
  clear hb
  clear q0 q1 q2 q3 q4 q5 q6 q7 lts
  obtain ⟨q0, q1, q2, q3, q4, q5, q6, q7⟩ := Hq.out.site8
  have lts := Hq.out.lt
  obtain ⟨x0, x1, x2⟩ := Hx.out.c3
  have ltx := Hx.out.lt
  go_wp2_with fail
  apply wp_region_L (w0 := w2) [[], [], [], [], [], [], [], [], [], [], [], [], [], [], [], [], [], [], [], [], [], [], [], [], [], []] [true, true, true, true, true, true, true, true, true, true, true, true, true, true, true, true, true, true, true, true, true, true, true, true, true, true] [] (fun ixq y => match ixq with  | _ => undef) (fun ixq x F wq => match ixq with  | _ => True) (fun a x => a) (by kernel_rfl) (by kernel_rfl) (fun _ => rfl) [35, 43] (by kernel_rfl)
  · intro x D hD
    have hne := hD.some
    have k3 := liftB hD q3 (by first | assumption | omega)
    have k6 := liftB hD q6 (by first | assumption | omega)
    have l1 := liftB hD x1 (by first | assumption | omega)
    have l2 := liftB hD x2 (by first | assumption | omega)
    simp only [takeOps, Act.put, List.setIfInBounds_toArray, List.set_cons_succ, List.set_cons_zero]
    repeat (go_big_quiet_step ((go_at_call 73; first | (with_reducible exact calls_same _ (Hf1.out _)) | (with_reducible exact calls_same _ (Hf2.out _)))))
    exact wpQuiet_nil rfl
  · intro d hd x x'
    simp only [List.mem_cons, List.not_mem_nil, or_false] at hd
    rcases hd with rfl | rfl
    all_goals rfl
  · exact trivial
  · exact trivial
  intro xx w3 F hL hlv2
  clear hlv2
  replace HB := hide (onward HB.out hL)
  replace Hq := hide (blk_later Hq.out hL)
  replace Hx := hide (blk_later Hx.out hL)
  clear hL x0 x1 x2 ltx
  go_wp2
  go_ret
  exact ⟨rfl, HB.out⟩
end Go.Proofs.YtepgpihobmjbdaaGreat
namespace Go.Proofs.YtepgpihobmjbdaaGreat
open Go.RowKit

theorem valid_anyQ (a b : Int) (w : World) :
    Calls Tryz.prog 68 #[.agg #[.int .i64 a, .int .i64 b]] w fun e w' => e = .returned (.bool (okE a b)) ∧ Below w.heap.size w w' := by
  unfold okE
  have hE : decide (1000000 ≤ a ∧ a ≤ b ∧ b ≤ 100000000) = (decide (1000000 ≤ a) && decide (a ≤ b) && decide (b ≤ 100000000)) := by
    rw [Bool.eq_iff_iff]; simp [and_assoc]
  rw [hE]
  clear hE
  cases h1 : decide (1000000 ≤ a) <;> cases h2 : decide (a ≤ b) <;> cases h3 : decide (b ≤ 100000000)
  all_goals
    go_enter Tryz.func68, Tryz.ntmps68
    go_wp2
    go_ret
    exact ⟨rfl, (Below.refl _ _).alloc (Nat.le_refl _) _⟩
theorem Earth_any (a b : Int) (w : World) :
    Calls Tryz.prog 53 #[.agg #[.int .i64 a, .int .i64 b]] w fun e w' => e = .returned (.bool (okE a b)) ∧ Below w.heap.size w w' := by
  have hv := fun W => Valid_anyQ a b 1000000 100000000 W
  have hE : decide (1000000 ≤ a ∧ a ≤ b ∧ b ≤ 100000000) = okE a b := rfl
  rw [hE] at hv
  generalize okE a b = r at *
  have Hv := hide hv
  clear hv
  clear hE
  go_enter Tryz.func53, Tryz.ntmps53
  have HB := hide (Below.refl w.heap.size w)
  go_wp2_with fail
  refine at_world fun W hW => ?_
  have bq0 : Blk W w.heap.size 24 #[.int .i64 a, .int .i64 b] := by rw [hW]; exact Blk.new _ _ _
  have LW : Later w W := by rw [hW]; exact ((Below.refl _ _).alloc (Nat.le_refl _) _)
  have szW : W.heap.size = w.heap.size + 1 := by rw [hW]; simp
  clear hW
  replace HB := hide (onward HB.out LW)
  have Hb := hide bq0
  clear bq0 LW szW
  refine (Hv.out _).mono ?_
  rintro e w1 ⟨rfl, hb⟩
  replace HB := hide (onward HB.out hb)
  replace Hb := hide (blk_later Hb.out hb)
  clear hb
  go_wp2
  go_ret
  exact ⟨rfl, HB.out⟩
set_option maxHeartbeats 2000000 in
set_option maxRecDepth 100000 in
theorem height_any (s : ByteArray) (x y z r g st wd t gate elo ehi : Int) (w : World) (h1 : -8 ≤ t) (h2 : t ≤ 264) (h3 : 0 ≤ gate) (h4 : gate ≤ 199) (h5 : 0 ≤ st) (h6 : st ≤ 2000) (z0 : 0 ≤ z) (z1 : z ≤ 20000) (he : okE elo ehi = true) :
    Calls Tryz.prog 70 #[siteV s x y z r g st wd, .int .i64 t, .int .i64 gate, .agg #[.int .i64 elo, .int .i64 ehi]] w fun e w' => e = .returned (.agg #[.int .i64 (riseD z st gate t ehi), .int .i64 (riseU z st gate t elo)]) ∧ Below w.heap.size w w' := by
  obtain ⟨e1, e2, e3⟩ := okE_iff he
  have hd := fun W => riseDown_any s x y z r g st wd t gate ehi W h1 h2 h3 h4 h5 h6 z0 z1 (by omega) e3
  have hu := fun W => riseUp_any s x y z r g st wd t gate elo W h1 h2 h3 h4 h5 h6 z0 z1 e1 (by omega)
  unfold siteV at *
  generalize riseD z st gate t ehi = a at *
  generalize riseU z st gate t elo = b at *
  have Hd := hide hd
  have Hu := hide hu
  clear hd hu
  clear he
  go_enter Tryz.func70, Tryz.ntmps70
  have HB := hide (Below.refl w.heap.size w)
  go_wp2_with fail
  refine code_world fun W hW => ?_
  have bq0 : Blk W w.heap.size 28 #[.string s, .int .i64 x, .int .i64 y, .int .i64 z, .int .i64 r, .int .i64 g, .int .i64 st, .int .i64 wd] := by rw [hW]; exact ((Blk.new _ _ _).alloc _).alloc _
  have bq1 : Blk W (w.heap.size + 1) 24 #[.int .i64 elo, .int .i64 ehi] := by rw [hW]; exact (blk_new_at (by simp)).alloc _
  have bq2 : Blk W (w.heap.size + 2) 24 #[.int .i64 0, .int .i64 0] := by rw [hW]; exact blk_new_at (by simp)
  have LW : Later w W := by rw [hW]; exact ((((Below.refl _ _).alloc (Nat.le_refl _) _).alloc (by simp; try omega) _).alloc (by simp; try omega) _)
  have szW : W.heap.size = w.heap.size + 3 := by rw [hW]; simp
  clear hW
  replace HB := hide (onward HB.out LW)
  have Hq := hide bq0
  have He := hide bq1
  have Ho := hide bq2
  clear bq0 bq1 bq2 LW szW
  obtain ⟨q0, q1, q2, q3, q4, q5, q6, q7⟩ := Hq.out.site8
  have lts := Hq.out.lt
  obtain ⟨v0, v1⟩ := He.out.c2
  have ltv := He.out.lt
  have lto := Ho.out.lt
  apply wp_region_F (w0 := W) [[], [], [], [], [3], [0, 1, 2, 3, 4], [], [], [], [], [9], [0, 1, 2, 3, 4, 5, 6, 7, 8, 9, 10], [0, 1, 2, 3, 4, 5, 6, 7, 8, 9, 10, 11], [0, 1, 2, 3, 4, 5, 6, 7, 8, 9, 10, 11, 12]] [true, true, true, true, true, true, true, true, true, true, true, true, true, false] [false, false, false, false, false, false, false, false, false, false, false, false, false, false] [⟨13, none, [], []⟩] [(13, (w.heap.size+2))] [13] (fun ixq y => match ixq with | 13 => undef | _ => undef) (fun ixq x F wq => match ixq with | 13 => F (w.heap.size+2) ∧ Blk wq (w.heap.size+2) 24 #[.int .i64 a, .int .i64 b] | _ => True) (fun a x => (a).put (none) (undef)) (by kernel_rfl) (by kernel_rfl) (by kernel_rfl) (fun _ => rfl) [14, 20] (by kernel_rfl) (fills_lt1 (by omega)) fills_ne1
  · intro x D hD
    have hne := hD.some
    have k0 := liftS hD q0 (by exact early_all (by first | assumption | omega) (by rfl))
    have k1 := liftS hD q1 (by exact early_all (by first | assumption | omega) (by rfl))
    have k2 := liftS hD q2 (by exact early_all (by first | assumption | omega) (by rfl))
    have k3 := liftS hD q3 (by exact early_all (by first | assumption | omega) (by rfl))
    have k4 := liftS hD q4 (by exact early_all (by first | assumption | omega) (by rfl))
    have k5 := liftS hD q5 (by exact early_all (by first | assumption | omega) (by rfl))
    have k6 := liftS hD q6 (by exact early_all (by first | assumption | omega) (by rfl))
    have k7 := liftS hD q7 (by exact early_all (by first | assumption | omega) (by rfl))
    have l0 := liftS hD v0 (by exact early_all (by first | assumption | omega) (by rfl))
    have l1 := liftS hD v1 (by exact early_all (by first | assumption | omega) (by rfl))
    simp only [takeOps, Act.put, List.setIfInBounds_toArray, List.set_cons_succ, List.set_cons_zero]
    repeat (go_big_quiet_step ((go_at_call 71; first | (with_reducible exact calls_later hD _ (Hd.out _)) | (with_reducible exact calls_later hD _ (Hu.out _)))))
    exact wpQuiet_nil rfl
  · exact fun x D hD => wpQuiet_nil rfl
  · intro d hd x x'
    simp only [List.mem_cons, List.not_mem_nil, or_false] at hd
    rcases hd with rfl | rfl
    all_goals rfl
  · refine ⟨?_, trivial⟩
    · exact obl_fill 24 24 8 21 (w.heap.size+2) _ (fun x => #[.int .i64 a, .int .i64 b]) (by kernel_rfl) (fun _ => rfl) (fun _ => rfl) Ho.out eb_fill1 (by simp [wrF]) (fun _ => by kernel_rfl) (fun _ => rfl) (fun _ => by simp [Value.oneCell']) (fun _ => rfl) (fun _ _ _ _ h1 h2 => ⟨h1, h2⟩)
  · refine ⟨?_, trivial⟩
    · exact owe_fill (w.heap.size+2) 24 (fun x => #[.int .i64 a, .int .i64 b]) (fun _ _ _ => rfl) (fun _ _ _ => rfl)
  intro xx w2 F hK hlv1
  obtain ⟨fct13, -⟩ := hlv1
  replace fct13 : (F 13) (w.heap.size+2) ∧ Blk w2 (w.heap.size+2) 24 #[.int .i64 a, .int .i64 b] := fct13 rfl
  clear q0 q1 q2 q3 q4 q5 q6 q7 lts lto
  clear Hq He
  have hgr := grown_kept hK
  replace HB := hide (below_grown HB.out hgr HB.out.size (fun q hq => by simp at hq; omega))
  replace Ho := hide fct13.2
  clear hgr hK fct13 v0 v1 ltv
  obtain ⟨o0, o1⟩ := Ho.out.c2
  have lto := Ho.out.lt
  go_wp2
  refine bodyPost_ret (v := .agg #[.int .i64 a, .int .i64 b]) (by simp [results, Tryz.results70, go_sem, o0, o1]) rfl ⟨rfl, HB.out⟩
end Go.Proofs.YtepgpihobmjbdaaGreat
