/-
  The law RainAdds: UNDER WAY, NOT BUILT.
-/
import Derived.Test.YtmglgahagbfbkaaAddsMath
import Derived.Test.YtmglgahagbfbkaaInner
import Derived.Test.YtmglgahagbfbkaaSuits
import Derived.Test.YtmglgahagbfbkaaSum
import Derived.Test.YtmglgahagbfbkaaWorks
namespace Go.Proofs.Ytmglgahagbfbkaa
open Go.RowKit

theorem readInfoG : (Try.prog.info? 47).map (fun i => (i.zero, i.size, i.bytes)) = some (some (.agg #[.int .i64 0, .int .i64 0, .int .i64 0]), 3, 24) := by kernel_rfl
theorem src_intsA {w0 w : World} {S : Nat → Prop} {b off : Nat} {zs : List Int} (hk : Kept S w0 w) (hS : S b) (hc : ∀ j, j < zs.length → w0.cell? ⟨b, off + j, none⟩ = some (.int .i64 (zs.getD j 0))) : ∀ j u, (zs.map (Value.int .i64))[j]? = some u → w.cell? ((⟨b, off, none⟩ : Addr).add j) = some u := fun j u hu => by
  rw [List.getElem?_map] at hu
  cases hz : zs[j]? with
  | none => rw [hz] at hu; cases hu
  | some v =>
    rw [hz] at hu
    have hj : j < zs.length := (List.getElem?_eq_some_iff.1 hz).1
    have h1 := hc j hj
    have h2 : zs.getD j 0 = v := by simp [List.getD, hz]
    rw [h2] at h1
    have e : ((⟨b, off, none⟩ : Addr).add j) = ⟨b, off + j, none⟩ := by unfold Addr.add; split <;> simp_all
    rw [e, ← Option.some.inj hu, ← h1]
    have hb := hk.block b hS
    simp only [World.cell?, hb]
theorem own_capA {w : World} {base : Nat} {e : TypeId} {size n c : Nat} {A : Option Addr} {xs : List Value} (h : w.ownsRow base e size (.slice A n c) n xs) : n ≤ c ∧ c ≤ 9223372036854775807 := by
  rcases h.2 with ⟨hv, _⟩ | ⟨g, cap, cur, hv, _, _, h1, h2, _⟩
  · injection hv with e1 e2 e3; omega
  · injection hv with e1 e2 e3
    unfold maxLen at h2
    omega

set_option maxHeartbeats 4000000 in
set_option maxRecDepth 100000 in
theorem RainAdds_any (A : Option Addr) (n c : Nat) (zs : List Int) (ed sl at_ m0 m1 m2 lo : Int) (w : World) (hz : zs.length = n * 3) (hmax : n ≤ 9223372036854775807) (hcap : n ≤ c) (hcm : c ≤ 9223372036854775807) (hl : Ints w w.heap.size .i64 A zs)
    (a0 : 0 ≤ at_) (a1 : at_ ≤ 255) (p0 : 0 ≤ m0) (p1 : m0 ≤ 4294967295) (q0 : 0 ≤ m1) (q1 : m1 ≤ 4294967295) (r0 : 0 ≤ m2) (r1 : m2 ≤ 4294967295) (l0 : 0 ≤ lo) (l1 : lo ≤ 65535) :
    Calls Try.prog 5 #[.slice A n c, .int .i64 ed, .int .i64 sl, .int .u8 at_, .agg #[.int .u32 m0, .int .u32 m1, .int .u32 m2], .int .u16 lo] w fun e w' => e = .returned (.bool true) ∧ Below w.heap.size w w' := by
  have Hl := hide hl
  clear hl
  by_cases g1 : (40 : Int) < n
  · go_enter Try.func5, Try.ntmps5
    have HB := hide (Below.refl w.heap.size w)
    go_wp2_with fail
    refine at_world fun W hW => ?_
    have bq0 : Blk W w.heap.size 53 #[.int .u32 m0, .int .u32 m1, .int .u32 m2] := by rw [hW]; exact Blk.new _ _ _
    have LW : Later w W := by rw [hW]; exact ((Below.refl _ _).alloc (Nat.le_refl _) _)
    have szW : W.heap.size = w.heap.size + 1 := by rw [hW]; simp
    clear hW
    replace HB := hide (onward HB.out LW)
    have Hm := hide bq0
    clear bq0 LW szW
    refine (works_any _).mono ?_
    rintro e w9 ⟨rfl, hb⟩
    replace HB := hide (onward HB.out hb)
    replace Hm := hide (blk_later Hm.out hb)
    clear hb
    go_wp2
    go_ret
    exact ⟨rfl, HB.out⟩
  obtain ⟨⟨tl, th⟩, te, hS⟩ : ∃ t te, sumR (fun j => zs.getD j 0) n ed sl = (t, te) := ⟨_, _, rfl⟩
  have HS := hide hS
  clear hS
  by_cases g2 : te = 0
  · subst g2
    obtain ⟨n0, gd, e0, e1, s0, s1, s5⟩ := sumR_inv (z := fun j => zs.getD j 0) (n := n) (e := ed) (s := sl) (by rw [HS.out])
    obtain ⟨kk, hkk, hkn⟩ : ∃ kk : Nat, at_ % (n : Int) = (kk : Int) ∧ kk < n := by
      have a := Int.emod_nonneg at_ (show (n : Int) ≠ 0 by omega)
      have b := Int.emod_lt_of_pos at_ (show (0 : Int) < n by omega)
      exact ⟨(at_ % (n : Int)).toNat, by omega, by omega⟩
    obtain ⟨al, ah, bl, bh, tl', th', c1, c2, c3, d1, d2, d3, d4, d5, d6, d7, d8, d9, d10, d11, d12⟩ := cut_sum gd hkn s0 s1 e0 e1 s5
    rw [HS.out] at c1
    cases c1
    have n1 : 0 < n := by omega
    obtain ⟨b, off, rfl, hb, hc⟩ := Hl.out (by omega)
    have l1 : (zs.take ((kk + 1) * 3)).length = (kk + 1) * 3 := by rw [List.length_take]; omega
    have l2 : (zs.drop (kk * 3)).length = (n - kk) * 3 := by rw [List.length_drop]; omega
    have hall : ∀ W, Below w.heap.size w W → Calls Try.prog 22 #[.slice (some ⟨b, off, none⟩) n c, .int .i64 ed, .int .i64 sl] W fun e w' => e = .returned (.tuple #[.agg #[.int .i64 tl, .int .i64 th], .int .i64 0]) ∧ Below W.heap.size W w' := fun W hB => by
      have := Sum_any (some ⟨b, off, none⟩) n c zs ed sl W hz hmax hcap hcm ((Hl.out.below hB).more hB.size)
      rw [HS.out] at this
      exact this
    have hhd : ∀ W, Below w.heap.size w W → Calls Try.prog 22 #[.slice (some ⟨b, off, none⟩) (kk + 1) c, .int .i64 (zs.getD (kk * 3) 0), .int .i64 sl] W fun e w' => e = .returned (.tuple #[.agg #[.int .i64 al, .int .i64 ah], .int .i64 0]) ∧ Below W.heap.size W w' := fun W hB => by
      have := Sum_any (some ⟨b, off, none⟩) (kk + 1) c (zs.take ((kk + 1) * 3)) (zs.getD (kk * 3) 0) sl W l1 (by omega) (by omega) hcm (fun _ => ⟨b, off, rfl, Nat.lt_of_lt_of_le hb hB.size, fun j hj => by
        rw [hB.cell (p := ⟨b, off + j, none⟩) hb, hc j (by omega)]
        simp [List.getD, List.getElem?_take, show j < (kk + 1) * 3 by omega]⟩)
      rw [head_list zs n (kk + 1) _ _ hz (by omega)] at this
      rw [c2] at this
      exact this
    have htl : ∀ W, Below w.heap.size w W → Calls Try.prog 22 #[.slice (some ⟨b, off + kk * 3, none⟩) (n - kk) (c - kk), .int .i64 ed, .int .i64 sl] W fun e w' => e = .returned (.tuple #[.agg #[.int .i64 bl, .int .i64 bh], .int .i64 0]) ∧ Below W.heap.size W w' := fun W hB => by
      have := Sum_any (some ⟨b, off + kk * 3, none⟩) (n - kk) (c - kk) (zs.drop (kk * 3)) ed sl W l2 (by omega) (by omega) (by omega) (fun _ => ⟨b, off + kk * 3, rfl, Nat.lt_of_lt_of_le hb hB.size, fun j hj => by
        rw [hB.cell (p := ⟨b, off + kk * 3 + j, none⟩) hb, show off + kk * 3 + j = off + (kk * 3 + j) by omega, hc _ (by omega)]
        simp [List.getD, List.getElem?_drop]⟩)
      rw [tail_list] at this
      rw [c3] at this
      exact this
    obtain ⟨sm, hsm⟩ : ∃ sm : Int, (if sl + lo < 1000 then sl + lo else 1000) = sm := ⟨_, rfl⟩
    have sm0 : sl ≤ sm ∧ sm ≤ 1000 := by rw [← hsm]; split <;> omega
    obtain ⟨tl', th', cl, ch, c4, c5, d13, d14, d15⟩ := more_slack gd n0 s0 sm0.1 sm0.2 e0 e1 s5
    rw [HS.out] at c4
    cases c4
    have hmo : ∀ W, Below w.heap.size w W → Calls Try.prog 22 #[.slice (some ⟨b, off, none⟩) n c, .int .i64 ed, .int .i64 sm] W fun e w' => e = .returned (.tuple #[.agg #[.int .i64 cl, .int .i64 ch], .int .i64 0]) ∧ Below W.heap.size W w' := fun W hB => by
      have := Sum_any (some ⟨b, off, none⟩) n c zs ed sm W hz hmax hcap hcm ((Hl.out.below hB).more hB.size)
      rw [c5] at this
      exact this
    have lies1 : ∀ W, Calls Try.prog 25 #[.agg #[.int .i64 tl, .int .i64 th], .agg #[.int .i64 (al + bl), .int .i64 (ah + bh)]] W fun e w' => e = .returned (.bool true) ∧ Below W.heap.size W w' := fun W => by
      have := lies_any tl th (al + bl) (ah + bh) W
      rwa [show decide (tl ≤ th ∧ al + bl ≤ tl ∧ th ≤ ah + bh) = true from decide_eq_true ⟨by omega, by omega, by omega⟩] at this
    have lies2 : ∀ W, Calls Try.prog 25 #[.agg #[.int .i64 tl, .int .i64 th], .agg #[.int .i64 cl, .int .i64 ch]] W fun e w' => e = .returned (.bool true) ∧ Below W.heap.size W w' := fun W => by
      have := lies_any tl th cl ch W
      rwa [show decide (tl ≤ th ∧ cl ≤ tl ∧ th ≤ ch) = true from decide_eq_true ⟨by omega, by omega, by omega⟩] at this
    have hp : ∀ k, k < n → w.cell? ⟨b, off + k * 3, none⟩ = some (.int .i64 (zs.getD (k * 3) 0)) ∧ w.cell? ⟨b, off + k * 3 + 1, none⟩ = some (.int .i64 (zs.getD (k * 3 + 1) 0)) ∧ w.cell? ⟨b, off + k * 3 + 2, none⟩ = some (.int .i64 (zs.getD (k * 3 + 2) 0)) := fun k hk => ⟨hc (k * 3) (by omega), hc (k * 3 + 1) (by omega), hc (k * 3 + 2) (by omega)⟩
    have t1 : ¬ 2 < tl - al - bl := by omega
    have t2 : ¬ 2 < ah + bh - th := by omega
    have t3 : decide (2 < tl - al - bl) = false := decide_eq_false t1
    have t4 : decide (2 < ah + bh - th) = false := decide_eq_false t2
    have kk0 : (0 : Int) ≤ kk := by omega
    have kk1 : (kk : Int) < n := by omega
    have kk2 : (kk : Int) + 1 ≤ n := by omega
    have kkc : (kk : Int) + 1 ≤ c := by omega
    have kkc0 : (kk : Int) < c := by omega
    have hk1 : (((kk : Int) + 1).toNat) = kk + 1 := by omega
    have hg1 : ¬ (40 : Int) < n := g1
    have HA := hide hall
    have Hhd := hide hhd
    have Htl := hide htl
    have Hmo := hide hmo
    have Lies1 := hide lies1
    have Lies2 := hide lies2
    have Hp := hide hp
    have Hz := hide hz
    have Hc := hide hc
    have C2 := hide c2
    have C3 := hide c3
    have C5 := hide c5
    have Hsm := hide hsm
    have Hk1 := hide hk1
    have Hkk := hide hkk
    clear hall hhd htl hmo lies1 lies2 hp hz hc c2 c3 c5 hsm hk1 hkk
    obtain ⟨p0, -, -⟩ := Hp.out kk hkn
    have Hp0 := hide p0
    clear p0
    generalize hz0 : zs.getD (kk * 3) 0 = z0 at *
    have Hz0' := hide hz0
    clear hz0
    go_enter Try.func5, Try.ntmps5
    have HB := hide (Below.refl w.heap.size w)
    go_wp2_with fail
    refine at_world fun W hW => ?_
    have bq0 : Blk W w.heap.size 53 #[.int .u32 m0, .int .u32 m1, .int .u32 m2] := by rw [hW]; exact Blk.new _ _ _
    have LW : Later w W := by rw [hW]; exact ((Below.refl _ _).alloc (Nat.le_refl _) _)
    have szW : W.heap.size = w.heap.size + 1 := by rw [hW]; simp
    clear hW
    replace HB := hide (onward HB.out LW)
    have Hm := hide bq0
    clear bq0 LW szW
    have hkk := Hkk.out
    refine (HA.out W HB.out).mono ?_
    rintro e w1 ⟨rfl, hb⟩
    replace HB := hide (onward HB.out hb)
    replace Hm := hide (blk_later Hm.out hb)
    clear hb
    go_wp2_with fail
    refine code_world fun W1 hW => ?_
    have bq0 : Blk W1 w1.heap.size 24 #[.int .i64 tl, .int .i64 th] := by rw [hW]; exact Blk.new _ _ _
    have LW : Later w1 W1 := by rw [hW]; exact ((Below.refl _ _).alloc (Nat.le_refl _) _)
    have szW : W1.heap.size = w1.heap.size + 1 := by rw [hW]; simp
    clear hW
    replace HB := hide (onward HB.out LW)
    replace Hm := hide (blk_later Hm.out LW)
    have Ha := hide bq0
    clear bq0 LW szW
    have p0 := Hp0.out
    rw [← HB.out.cell hb] at p0
    have hbW : b < W1.heap.size := by have := HB.out.size; omega
    generalize w1.heap.size = g1 at *
    have HBh := hide (fun (W : World) (hl : Later W1 W) => Hhd.out W (onward HB.out hl))
    apply wp_region_L (w0 := W1) [[], [], [], [], [], [], [], [], [], [], [], [], [], [], [], [14], [14, 15]] [true, true, true, true, true, true, true, true, true, true, true, true, true, true, false, false, true] [⟨14, none, [], []⟩, ⟨15, some 14, [14], [14]⟩] (fun ixq y => match ixq with | 14 => .pointer (y 0).1 | 15 => undef | _ => undef) (fun ixq x F wq => match ixq with | 14 => PtrF wq F W1.heap.size (x 14 0).1 24 #[.int .i64 0, .int .i64 0] | 15 => PtrF wq F W1.heap.size (x 14 0).1 24 #[.int .i64 al, .int .i64 ah] | _ => True) (fun a x => ((a).put (some 16) (.pointer ((x 14) 0).1)).put (none) (undef)) (by kernel_rfl) (by kernel_rfl) (fun _ => rfl) [55] (by kernel_rfl)
    · intro x D hD
      have hne := hD.some
      have k0 := liftB hD p0 (by first | assumption | omega)
      simp only [takeOps, Act.put, List.setIfInBounds_toArray, List.set_cons_succ, List.set_cons_zero]
      repeat (go_big_quiet_step ((go_at_call 22; exact calls_later hD _ (HBh.out _ (kb hD _)))))
      exact wpQuiet_nil rfl
    · intro d hd x x'
      simp only [List.mem_cons, List.not_mem_nil, or_false] at hd
      rcases hd with rfl
      all_goals rfl
    · refine ⟨?_, ?_, trivial⟩
      · exact obl_alloc 24 16 (.agg #[.int .i64 0, .int .i64 0]) (by kernel_rfl) (by kernel_rfl) (fun _ => rfl) (fun _ _ _ h => h)
      · refine obl_store 24 16 56 14 #[.int .i64 0, .int .i64 0] (fun x => #[.int .i64 al, .int .i64 ah]) (by kernel_rfl) rfl (by simp) (fun _ _ _ h => h) (fun _ => rfl) (fun _ => rfl) (fun _ => by kernel_rfl) (fun _ => rfl) (fun _ => by simp [Value.oneCell']) (fun _ => rfl) (by decide) (fun _ _ _ _ h => h)
    · refine ⟨?_, ?_, trivial⟩
      · exact owe_ptr 14 _ _ (fun x => #[.int .i64 0, .int .i64 0]) (fun _ _ _ => rfl) (by simp) (fun _ _ _ => rfl)
      · exact owe_ptr 14 _ _ (fun x => #[.int .i64 al, .int .i64 ah]) (fun _ _ _ => rfl) (by simp) (fun _ _ _ => rfl)
    intro x2 w2 F hL2 hlv1
    obtain ⟨-, fct15, -⟩ := hlv1
    replace fct15 : PtrF w2 (F 15) W1.heap.size (x2 14 0).1 24 #[.int .i64 al, .int .i64 ah] := fct15 rfl
    clear HBh
    obtain ⟨g, hgx, hge, -, hbg⟩ := fct15
    rw [hgx]
    clear hgx p0 hbW
    replace HB := hide (onward HB.out hL2)
    replace Hm := hide (blk_later Hm.out hL2)
    replace Ha := hide (blk_later Ha.out hL2)
    clear hL2
    have Hbg := hide hbg
    clear hbg
    go_wp2_with fail
    refine (Htl.out _ HB.out).mono ?_
    rintro e w3 ⟨rfl, hb⟩
    replace HB := hide (onward HB.out hb)
    replace Hm := hide (blk_later Hm.out hb)
    replace Ha := hide (blk_later Ha.out hb)
    replace Hbg := hide (blk_later Hbg.out hb)
    clear hb
    obtain ⟨x0, x1⟩ := Ha.out.c2
    have ltx := Ha.out.lt
    obtain ⟨y0, y1⟩ := Hbg.out.c2
    have lty := Hbg.out.lt
    go_wp2_with fail
    refine at_world fun W3 hW => ?_
    have bq0 : Blk W3 w3.heap.size 24 #[.int .i64 bl, .int .i64 bh] := by rw [hW]; exact Blk.new _ _ _
    have LW : Later w3 W3 := by rw [hW]; exact ((Below.refl _ _).alloc (Nat.le_refl _) _)
    have szW : W3.heap.size = w3.heap.size + 1 := by rw [hW]; simp
    clear hW x0 x1 ltx y0 y1 lty
    replace HB := hide (onward HB.out LW)
    replace Hm := hide (blk_later Hm.out LW)
    replace Ha := hide (blk_later Ha.out LW)
    replace Hbg := hide (blk_later Hbg.out LW)
    have Hb2 := hide bq0
    clear bq0 LW szW
    refine (Lies1.out _).mono ?_
    rintro e w4 ⟨rfl, hb⟩
    replace HB := hide (onward HB.out hb)
    replace Hm := hide (blk_later Hm.out hb)
    replace Ha := hide (blk_later Ha.out hb)
    replace Hbg := hide (blk_later Hbg.out hb)
    replace Hb2 := hide (blk_later Hb2.out hb)
    clear hb
    generalize w3.heap.size = g3 at *
    obtain ⟨x0, x1⟩ := Ha.out.c2
    have ltx := Ha.out.lt
    obtain ⟨y0, y1⟩ := Hbg.out.c2
    have lty := Hbg.out.lt
    obtain ⟨z0, z1⟩ := Hb2.out.c2
    have ltz := Hb2.out.lt
    have hsm := Hsm.out
    go_wp2_with fail
    refine (Hmo.out _ HB.out).mono ?_
    rintro e w5 ⟨rfl, hb⟩
    replace HB := hide (onward HB.out hb)
    replace Hm := hide (blk_later Hm.out hb)
    replace Ha := hide (blk_later Ha.out hb)
    replace Hbg := hide (blk_later Hbg.out hb)
    replace Hb2 := hide (blk_later Hb2.out hb)
    clear hb x0 x1 ltx y0 y1 lty z0 z1 ltz
    clear hsm
    obtain ⟨x0, x1⟩ := Ha.out.c2
    have ltx := Ha.out.lt
    go_wp2_with fail
    refine at_world fun W5 hW => ?_
    have bq0 : Blk W5 w5.heap.size 24 #[.int .i64 cl, .int .i64 ch] := by rw [hW]; exact Blk.new _ _ _
    have LW : Later w5 W5 := by rw [hW]; exact ((Below.refl _ _).alloc (Nat.le_refl _) _)
    have szW : W5.heap.size = w5.heap.size + 1 := by rw [hW]; simp
    clear hW x0 x1 ltx
    replace HB := hide (onward HB.out LW)
    replace Hm := hide (blk_later Hm.out LW)
    replace Ha := hide (blk_later Ha.out LW)
    replace Hbg := hide (blk_later Hbg.out LW)
    replace Hb2 := hide (blk_later Hb2.out LW)
    have Hb3 := hide bq0
    clear bq0 LW szW
    refine (Lies2.out _).mono ?_
    rintro e w6 ⟨rfl, hb⟩
    replace HB := hide (onward HB.out hb)
    replace Hm := hide (blk_later Hm.out hb)
    replace Ha := hide (blk_later Ha.out hb)
    replace Hbg := hide (blk_later Hbg.out hb)
    replace Hb2 := hide (blk_later Hb2.out hb)
    replace Hb3 := hide (blk_later Hb3.out hb)
    clear hb
    clear Hbg Hb2 Hb3
    clear Lies1 Lies2 Hhd Htl Hmo
    go_wp2_with fail
    have hb6 : b < w6.heap.size := by have := HB.out.size; omega
    have o0 := okR_iff.1 (gd.ok kk hkn)
    simp only [Hz0'.out] at o0
    by_cases g3 : (n : Int) ≤ (kk : Int) + 1
    · have g3' : decide ((n : Int) ≤ (kk : Int) + 1) = true := decide_eq_true g3
      apply wp_region_L (w0 := w6) [[], [], [], [], [], [], [], [], [], [], [], [], [], [], [], [], [], [], [], []] [true, true, true, true, true, true, true, true, true, true, true, true, true, true, true, true, true, true, true, true] [] (fun ixq y => match ixq with  | _ => undef) (fun ixq x F wq => match ixq with  | _ => True) (fun a x => a) (by kernel_rfl) (by kernel_rfl) (fun _ => rfl) [] (by kernel_rfl)
      · intro x D hD
        have hne := hD.some
        simp only [takeOps, Act.put, List.setIfInBounds_toArray, List.set_cons_succ, List.set_cons_zero]
        repeat (go_big_quiet_step (fail))
        exact wpQuiet_nil rfl
      · exact fun _ h => absurd h (by simp)
      · exact trivial
      · exact trivial
      intro x7 w7 F hL7 hlv2
      clear hlv2
      replace HB := hide (onward HB.out hL7)
      replace Hm := hide (blk_later Hm.out hL7)
      replace Ha := hide (blk_later Ha.out hL7)
      clear hL7
      go_wp2_with fail
      refine (works_any _).mono ?_
      rintro e w9 ⟨rfl, hb⟩
      replace HB := hide (onward HB.out hb)
      replace Hm := hide (blk_later Hm.out hb)
      replace Ha := hide (blk_later Ha.out hb)
      clear hb
      go_wp2
      go_ret
      exact ⟨rfl, HB.out⟩
    · have g3' : decide ((n : Int) ≤ (kk : Int) + 1) = false := decide_eq_false g3
      have hk2 : kk + 1 < n := by omega
      have o1 := okR_iff.1 (gd.ok (kk + 1) hk2)
      have hup := gd.up kk hk2
      have hins := fun (t lo' hi : Int) => ins_list zs n kk t lo' hi (Hz.out) hkn
      have Hins := hide hins
      clear hins
      obtain ⟨p0, p1', p2⟩ := Hp.out kk hkn
      obtain ⟨p3, p4, p5⟩ := Hp.out (kk + 1) hk2
      have Hgd := hide gd
      clear gd
      simp only [Hz0'.out] at hup p0
      generalize hz1 : zs.getD (kk * 3 + 1) 0 = z1 at *
      generalize hz2 : zs.getD (kk * 3 + 2) 0 = z2 at *
      generalize hz3 : zs.getD ((kk + 1) * 3) 0 = z3 at *
      generalize hz4 : zs.getD ((kk + 1) * 3 + 1) 0 = z4 at *
      generalize hz5 : zs.getD ((kk + 1) * 3 + 2) 0 = z5 at *
      have HP := hide (And.intro p0 (And.intro p1' (And.intro p2 (And.intro p3 (And.intro p4 p5)))))
      rw [← HB.out.cell hb] at p0 p1' p2 p3 p4 p5
      have Hz1' := hide hz1
      have Hz2' := hide hz2
      have Hz3' := hide hz3
      have Hz4' := hide hz4
      have Hz5' := hide hz5
      clear hz1 hz2 hz3 hz4 hz5
      by_cases g4 : z3 - z0 < 2
      · have g4' : decide (z3 - z0 < 2) = true := decide_eq_true g4
        apply wp_region_L (w0 := w6) [[], [], [], [], [], [], [], [], [], [], [], [], [], [], [], [], [], [], [], []] [true, true, true, true, true, true, true, true, true, true, true, true, true, true, true, true, true, true, true, true] [] (fun ixq y => match ixq with  | _ => undef) (fun ixq x F wq => match ixq with  | _ => True) (fun a x => a) (by kernel_rfl) (by kernel_rfl) (fun _ => rfl) [] (by kernel_rfl)
        · intro x D hD
          have hne := hD.some
          have k0 := liftB hD p0 (by first | assumption | omega)
          have k3 := liftB hD p3 (by first | assumption | omega)
          simp only [takeOps, Act.put, List.setIfInBounds_toArray, List.set_cons_succ, List.set_cons_zero]
          repeat (go_big_quiet_step (fail))
          exact wpQuiet_nil rfl
        · exact fun _ h => absurd h (by simp)
        · exact trivial
        · exact trivial
        intro x7 w7 F hL7 hlv3
        clear hlv3
        replace HB := hide (onward HB.out hL7)
        replace Hm := hide (blk_later Hm.out hL7)
        replace Ha := hide (blk_later Ha.out hL7)
        clear hL7
        clear p0 p1' p2 p3 p4 p5
        go_wp2_with fail
        refine (works_any _).mono ?_
        rintro e w9 ⟨rfl, hb⟩
        replace HB := hide (onward HB.out hb)
        replace Hm := hide (blk_later Hm.out hb)
        replace Ha := hide (blk_later Ha.out hb)
        clear hb
        go_wp2
        go_ret
        exact ⟨rfl, HB.out⟩
      · have g4' : decide (z3 - z0 < 2) = false := decide_eq_false g4
        apply wp_region_L (w0 := w6) [[], [], [], [], [], [], [], [], [], [], [], [], [], [], [], [], [], [], [], []] [true, true, true, true, true, true, true, true, true, true, true, true, true, true, true, true, true, true, true, true] [] (fun ixq y => match ixq with  | _ => undef) (fun ixq x F wq => match ixq with  | _ => True) (fun a x => a) (by kernel_rfl) (by kernel_rfl) (fun _ => rfl) [] (by kernel_rfl)
        · intro x D hD
          have hne := hD.some
          have k0 := liftB hD p0 (by first | assumption | omega)
          have k3 := liftB hD p3 (by first | assumption | omega)
          simp only [takeOps, Act.put, List.setIfInBounds_toArray, List.set_cons_succ, List.set_cons_zero]
          repeat (go_big_quiet_step (fail))
          exact wpQuiet_nil rfl
        · exact fun _ h => absurd h (by simp)
        · exact trivial
        · exact trivial
        intro x7 w7 F hL7 hlv4
        clear hlv4
        replace HB := hide (onward HB.out hL7)
        replace Hm := hide (blk_later Hm.out hL7)
        replace Ha := hide (blk_later Ha.out hL7)
        clear hL7
        clear p0 p1' p2 p3 p4 p5
        obtain ⟨mn, hmn⟩ : ∃ mn : Int, (if z4 < z1 then z4 else z1) = mn := ⟨_, rfl⟩
        obtain ⟨mx, hmx⟩ : ∃ mx : Int, (if z2 < z5 then z5 else z2) = mx := ⟨_, rfl⟩
        have bm : mn = min z1 z4 := by rw [← hmn, Int.min_def]; split <;> split <;> omega
        have bx : mx = max z2 z5 := by rw [← hmx, Int.max_def]; split <;> split <;> omega
        have bm1 : 0 ≤ mn ∧ mn ≤ mx ∧ mx ≤ 1000000 := by omega
        obtain ⟨bm1, bm2, bm3⟩ := bm1
        obtain ⟨rr, hrr⟩ : ∃ rr, m0 % (z3 - z0 - 1) = rr := ⟨_, rfl⟩
        have rr1 : 0 ≤ rr := by rw [← hrr]; exact Int.emod_nonneg _ (by omega)
        have rr2 : rr < z3 - z0 - 1 := by rw [← hrr]; exact Int.emod_lt_of_pos _ (by omega)
        have rr3 : z3 - z0 - 1 ≠ 0 := by omega
        have rr4 : 0 < z3 - z0 - 1 := by omega
        obtain ⟨q1, hq1⟩ : ∃ q, mn + m1 % (mx - mn + 1) = q := ⟨_, rfl⟩
        obtain ⟨q2, hq2⟩ : ∃ q, q1 + m2 % (mx - q1 + 1) = q := ⟨_, rfl⟩
        have hbd := inner_bd (a := mn) (b := mx) (x := m1) (y := m2) bm2 q0 r0
        have hin : ∀ W, Calls Try.prog 26 #[.agg #[.int .i64 mn, .int .i64 mx], .int .u32 m1, .int .u32 m2] W fun e w' => e = .returned (.agg #[.int .i64 q1, .int .i64 q2]) ∧ Below W.heap.size W w' := fun W => by
          have := inner_any mn mx m1 m2 W bm1 bm2 (by omega) (by omega) (by omega) (by omega) (by omega)
          rw [hq1, hq2] at this
          exact this
        rw [hq1, hq2] at hbd
        obtain ⟨bq1, bq2, bq3⟩ := hbd
        obtain ⟨tl', th', dl, dh, c6, c7, d16, d17, d18⟩ := ins_sum Hgd.out (Hins.out (z0 + 1 + rr) q1 q2) hk2 (by rw [Hz0'.out]; omega) (by rw [Hz3'.out]; omega) (by rw [Hz1'.out, Hz4'.out]; omega) bq2 (by rw [Hz2'.out, Hz5'.out]; omega) s0 s1 e0 e1 s5
        rw [HS.out] at c6
        cases c6
        have lies3 : ∀ W, Calls Try.prog 25 #[.agg #[.int .i64 dl, .int .i64 dh], .agg #[.int .i64 tl, .int .i64 th]] W fun e w' => e = .returned (.bool true) ∧ Below W.heap.size W w' := fun W => by
          have := lies_any dl dh tl th W
          rwa [show decide (dl ≤ dh ∧ tl ≤ dl ∧ dh ≤ th) = true from decide_eq_true ⟨by omega, by omega, by omega⟩] at this
        have l3 : (zs.drop ((kk + 1) * 3)).length = (n - (kk + 1)) * 3 := by rw [List.length_drop, Hz.out]; omega
        have hsum : ∀ W A' c', n + 1 ≤ c' → c' ≤ 9223372036854775807 → Ints W W.heap.size .i64 A' (zs.take ((kk + 1) * 3) ++ [z0 + 1 + rr, q1, q2] ++ zs.drop ((kk + 1) * 3)) → Calls Try.prog 22 #[.slice A' (n + 1) c', .int .i64 ed, .int .i64 sl] W fun e w' => e = .returned (.tuple #[.agg #[.int .i64 dl, .int .i64 dh], .int .i64 0]) ∧ Below W.heap.size W w' := fun W A' c' h1 h2 h3 => by
          have := Sum_any A' (n + 1) c' _ ed sl W (by simp only [List.length_append, l1, l3]; simp; omega) (by omega) h1 h2 h3
          rw [c7] at this
          exact this
        have hc1 : ∀ W, Below w.heap.size w W → ∀ j, j < (zs.take ((kk + 1) * 3)).length → W.cell? ⟨b, off + j, none⟩ = some (.int .i64 ((zs.take ((kk + 1) * 3)).getD j 0)) := fun W hB j hj => by
          rw [hB.cell (p := ⟨b, off + j, none⟩) hb, Hc.out j (by rw [List.length_take] at hj; omega)]
          simp [List.getD, List.getElem?_take, show j < (kk + 1) * 3 by omega]
        have hc2 : ∀ W, Below w.heap.size w W → ∀ j, j < (zs.drop ((kk + 1) * 3)).length → W.cell? ⟨b, off + (kk + 1) * 3 + j, none⟩ = some (.int .i64 ((zs.drop ((kk + 1) * 3)).getD j 0)) := fun W hB j hj => by
          rw [hB.cell (p := ⟨b, off + (kk + 1) * 3 + j, none⟩) hb, show off + (kk + 1) * 3 + j = off + ((kk + 1) * 3 + j) by omega, Hc.out _ (by rw [List.length_drop] at hj; omega)]
          simp [List.getD, List.getElem?_drop]
        generalize hl1 : zs.take ((kk + 1) * 3) = L1 at *
        generalize hl3 : zs.drop ((kk + 1) * 3) = L3 at *
        have hk3 : (kk : Int) + 1 < n := by omega
        have Hin := hide hin
        have Lies3 := hide lies3
        have Hsum := hide hsum
        have Hc1 := hide hc1
        have Hc2 := hide hc2
        have Ll1 := hide l1
        have Ll3 := hide l3
        have Hmn := hide hmn
        have Hmx := hide hmx
        have Hrr := hide hrr
        have Hl1 := hide hl1
        have Hl3 := hide hl3
        have C7 := hide c7
        clear hin lies3 hsum hc1 hc2 l1 l3 hmn hmx hrr hl1 hl3 c7
        clear hq1 hq2 Hins l2 bm bx Hz1' Hz2' Hz4' Hz5' HS Hc C2 C3 C5
        go_wp2_with fail
        obtain ⟨p0, p1', p2, p3, p4, p5⟩ := HP.out
        rw [← HB.out.cell hb] at p0 p1' p2 p3 p4 p5
        have hb7 : b < w7.heap.size := by have := HB.out.size; omega
        apply wp_region_L (w0 := w7) [[], [], [], [], [], [], [], [], [], [], [], [], [], [11, 12], [11, 12, 13]] [true, true, true, true, true, true, true, true, true, true, true, false, false, false, false] [⟨11, none, [], []⟩, ⟨12, none, [], []⟩, ⟨13, some 11, [11], [11]⟩, ⟨14, some 12, [12], [12]⟩] (fun ixq y => match ixq with | 11 => .pointer (y 0).1 | 12 => .pointer (y 0).1 | 13 => undef | 14 => undef | _ => undef) (fun ixq x F wq => match ixq with | 11 => PtrF wq F w7.heap.size (x 11 0).1 24 #[.int .i64 0, .int .i64 0] | 12 => PtrF wq F w7.heap.size (x 12 0).1 24 #[.int .i64 0, .int .i64 0] | 13 => PtrF wq F w7.heap.size (x 11 0).1 24 #[.int .i64 z1, .int .i64 z2] | 14 => PtrF wq F w7.heap.size (x 12 0).1 24 #[.int .i64 z4, .int .i64 z5] | _ => True) (fun a x => ((((a).put (some 20) (.pointer ((x 11) 0).1)).put (some 21) (.pointer ((x 12) 0).1)).put (none) (undef)).put (none) (undef)) (by kernel_rfl) (by kernel_rfl) (fun _ => rfl) [] (by kernel_rfl)
        · intro x D hD
          have hne := hD.some
          have k1 := liftB hD p1' (by first | assumption | omega)
          have k2 := liftB hD p2 (by first | assumption | omega)
          have k4 := liftB hD p4 (by first | assumption | omega)
          have k5 := liftB hD p5 (by first | assumption | omega)
          simp only [takeOps, Act.put, List.setIfInBounds_toArray, List.set_cons_succ, List.set_cons_zero]
          repeat (go_big_quiet_step (fail))
          exact wpQuiet_nil rfl
        · exact fun _ h => absurd h (by simp)
        · refine ⟨?_, ?_, ?_, ?_, trivial⟩
          · exact obl_alloc 24 20 (.agg #[.int .i64 0, .int .i64 0]) (by kernel_rfl) (by kernel_rfl) (fun _ => rfl) (fun _ _ _ h => h)
          · exact obl_alloc 24 21 (.agg #[.int .i64 0, .int .i64 0]) (by kernel_rfl) (by kernel_rfl) (fun _ => rfl) (fun _ _ _ h => h)
          · refine obl_store 24 20 155 11 #[.int .i64 0, .int .i64 0] (fun x => #[.int .i64 z1, .int .i64 z2]) (by kernel_rfl) rfl (by simp) (fun _ _ _ h => h) (fun _ => rfl) (fun _ => rfl) (fun _ => by kernel_rfl) (fun _ => rfl) (fun _ => by simp [Value.oneCell']) (fun _ => rfl) (by decide) (fun _ _ _ _ h => h)
          · refine obl_store 24 21 161 12 #[.int .i64 0, .int .i64 0] (fun x => #[.int .i64 z4, .int .i64 z5]) (by kernel_rfl) rfl (by simp) (fun _ _ _ h => h) (fun _ => rfl) (fun _ => rfl) (fun _ => by kernel_rfl) (fun _ => rfl) (fun _ => by simp [Value.oneCell']) (fun _ => rfl) (by decide) (fun _ _ _ _ h => h)
        · refine ⟨?_, ?_, ?_, ?_, trivial⟩
          · exact owe_ptr 11 _ _ (fun x => #[.int .i64 0, .int .i64 0]) (fun _ _ _ => rfl) (by simp) (fun _ _ _ => rfl)
          · exact owe_ptr 12 _ _ (fun x => #[.int .i64 0, .int .i64 0]) (fun _ _ _ => rfl) (by simp) (fun _ _ _ => rfl)
          · exact owe_ptr 11 _ _ (fun x => #[.int .i64 z1, .int .i64 z2]) (fun _ _ _ => rfl) (by simp) (fun _ _ _ => rfl)
          · exact owe_ptr 12 _ _ (fun x => #[.int .i64 z4, .int .i64 z5]) (fun _ _ _ => rfl) (by simp) (fun _ _ _ => rfl)
        intro x8 w8 F hL8 hlv5
        obtain ⟨-, -, fct13, fct14, -⟩ := hlv5
        replace fct13 : PtrF w8 (F 13) w7.heap.size (x8 11 0).1 24 #[.int .i64 z1, .int .i64 z2] := fct13 rfl
        replace fct14 : PtrF w8 (F 14) w7.heap.size (x8 12 0).1 24 #[.int .i64 z4, .int .i64 z5] := fct14 rfl
        obtain ⟨gx, hgx, hge1, -, hbx⟩ := fct13
        obtain ⟨gy, hgy, hge2, -, hby⟩ := fct14
        rw [hgx, hgy]
        clear hgx hgy p0 p1' p2 p3 p4 p5 hb7
        replace HB := hide (onward HB.out hL8)
        replace Hm := hide (blk_later Hm.out hL8)
        replace Ha := hide (blk_later Ha.out hL8)
        clear hL8
        have Hbx := hide hbx
        have Hby := hide hby
        clear hbx hby
        go_wp2_with fail
        obtain ⟨p0, p1', p2, p3, p4, p5⟩ := HP.out
        rw [← HB.out.cell hb] at p0 p3
        clear p1' p2 p4 p5
        have hb8 : b < w8.heap.size := by have := HB.out.size; omega
        obtain ⟨x0, x1⟩ := Hbx.out.c2
        have ltx := Hbx.out.lt
        obtain ⟨y0, y1⟩ := Hby.out.c2
        have lty := Hby.out.lt
        obtain ⟨u0, u1, u2⟩ := Hm.out.c3
        have ltu := Hm.out.lt
        have hmn := Hmn.out
        have hmx := Hmx.out
        have hrr := Hrr.out
        apply wp_region_L (w0 := w8) [[], [], [], [], [], [], [], [], [], [], [], [], [], [], [], [], [], [], [], [], [], [], [], [], [], [], [], [], [], [], [], [], [], [], [], [], [], [], [], [], [], [], [41]] [true, true, true, true, true, true, true, true, true, true, true, true, true, true, true, true, true, true, true, true, true, true, true, true, true, true, true, true, true, true, true, true, true, true, true, true, true, true, true, true, true, false, false] [⟨41, none, [], []⟩, ⟨42, some 41, [41], [41]⟩] (fun ixq y => match ixq with | 41 => .pointer (y 0).1 | 42 => undef | _ => undef) (fun ixq x F wq => match ixq with | 41 => PtrF wq F w8.heap.size (x 41 0).1 47 #[.int .i64 0, .int .i64 0, .int .i64 0] | 42 => PtrF wq F w8.heap.size (x 41 0).1 47 #[.int .i64 (z0 + 1 + rr), .int .i64 q1, .int .i64 q2] | _ => True) (fun a x => ((a).put (some 22) (.pointer ((x 41) 0).1)).put (none) (undef)) (by kernel_rfl) (by kernel_rfl) (fun _ => rfl) [201] (by kernel_rfl)
        · intro x D hD
          have hne := hD.some
          have k0 := liftB hD p0 (by first | assumption | omega)
          have k3 := liftB hD p3 (by first | assumption | omega)
          have l0 := liftB hD x0 (by first | assumption | omega)
          have l1 := liftB hD x1 (by first | assumption | omega)
          have l2 := liftB hD y0 (by first | assumption | omega)
          have l3 := liftB hD y1 (by first | assumption | omega)
          have j0 := liftB hD u0 (by first | assumption | omega)
          have j1 := liftB hD u1 (by first | assumption | omega)
          have j2 := liftB hD u2 (by first | assumption | omega)
          simp only [takeOps, Act.put, List.setIfInBounds_toArray, List.set_cons_succ, List.set_cons_zero]
          repeat (go_big_quiet_step ((go_at_call 26; exact calls_later hD _ (Hin.out _))))
          exact wpQuiet_nil rfl
        · intro d hd x x'
          simp only [List.mem_cons, List.not_mem_nil, or_false] at hd
          rcases hd with rfl
          all_goals rfl
        · refine ⟨?_, ?_, trivial⟩
          · exact obl_alloc 47 22 (.agg #[.int .i64 0, .int .i64 0, .int .i64 0]) (by kernel_rfl) (by kernel_rfl) (fun _ => rfl) (fun _ _ _ h => h)
          · refine obl_store 47 22 202 41 #[.int .i64 0, .int .i64 0, .int .i64 0] (fun x => #[.int .i64 (z0 + 1 + rr), .int .i64 q1, .int .i64 q2]) (by kernel_rfl) rfl (by simp) (fun _ _ _ h => h) (fun _ => rfl) (fun _ => rfl) (fun _ => by kernel_rfl) (fun _ => rfl) (fun _ => by simp [Value.oneCell']) (fun _ => rfl) (by decide) (fun _ _ _ _ h => h)
        · refine ⟨?_, ?_, trivial⟩
          · exact owe_ptr 41 _ _ (fun x => #[.int .i64 0, .int .i64 0, .int .i64 0]) (fun _ _ _ => rfl) (by simp) (fun _ _ _ => rfl)
          · exact owe_ptr 41 _ _ (fun x => #[.int .i64 (z0 + 1 + rr), .int .i64 q1, .int .i64 q2]) (fun _ _ _ => rfl) (by simp) (fun _ _ _ => rfl)
        intro x9 w9 F hL9 hlv6
        obtain ⟨-, fct42, -⟩ := hlv6
        replace fct42 : PtrF w9 (F 42) w8.heap.size (x9 41 0).1 47 #[.int .i64 (z0 + 1 + rr), .int .i64 q1, .int .i64 q2] := fct42 rfl
        obtain ⟨gr, hgr, hge3, -, hbr⟩ := fct42
        rw [hgr]
        clear hgr p0 p3 hb8 hmn hmx hrr
        replace HB := hide (onward HB.out hL9)
        replace Hm := hide (blk_later Hm.out hL9)
        replace Ha := hide (blk_later Ha.out hL9)
        replace Hbx := hide (blk_later Hbx.out hL9)
        replace Hby := hide (blk_later Hby.out hL9)
        clear hL9 x0 x1 ltx y0 y1 lty u0 u1 u2 ltu
        have Hbr := hide hbr
        clear hbr
        clear Hbx Hby
        go_wp2_with fail
        have hb9 : b < w9.heap.size := by have := HB.out.size; omega
        have hs9 := HB.out.size
        have l1 := Ll1.out
        have l3 := Ll3.out
        have Hc1' := hide (Hc1.out w9 HB.out)
        obtain ⟨i0, hi, hz0, hz1, hz2⟩ := info_parts readInfoG
        have Hi := hide hi
        have Hz0 := hide hz0
        have Hz1 := hide hz1
        have Hz2 := hide hz2
        clear hi hz0 hz1 hz2
        obtain ⟨r0, r1, r2⟩ := Hbr.out.c3
        have ltr := Hbr.out.lt
        apply wp_region_L (w0 := w9) [[], [], [], [], [], [0], [], [], [0, 5, 7], [0, 5, 7, 8]] [false, true, true, true, true, false, true, false, false, true] [⟨0, none, [], []⟩, ⟨5, some 0, [0], []⟩, ⟨7, none, [], []⟩, ⟨8, some 5, [5, 7], []⟩] (fun ixq y => match ixq with | 0 => .slice (y 0).1 0 0 | 5 => .slice (y 0).1 (0 + (kk+1)) (y 0).2 | 7 => .slice (y 0).1 1 1 | 8 => .slice (y 0).1 ((0+(kk+1)) + 1) (y 0).2 | _ => undef) (fun ixq x F wq => match ixq with | 0 => OwnF wq F w9.heap.size 47 3 (.slice (x 0 0).1 0 0) 0 #[].toList | 5 => OwnF wq F w9.heap.size 47 3 (.slice (x 5 0).1 (0 + (kk+1)) (x 5 0).2) (0 + (kk+1)) ((#[] : Array Value).toList ++ (L1.map (Value.int .i64))) | 7 => OwnF wq F w9.heap.size 47 3 (.slice (x 7 0).1 1 1) 1 #[.int .i64 (z0 + 1 + rr), .int .i64 q1, .int .i64 q2].toList | 8 => OwnF wq F w9.heap.size 47 3 (.slice (x 8 0).1 ((0+(kk+1)) + 1) (x 8 0).2) ((0+(kk+1)) + 1) ((#[] : Array Value).toList ++ L1.map (Value.int .i64) ++ (#[.int .i64 (z0 + 1 + rr), .int .i64 q1, .int .i64 q2] : Array Value).toList) | _ => True) (fun a x => ((((a).put (some 203) (.slice ((x 0) 0).1 0 0)).put (some 208) (.slice ((x 5) 0).1 (0 + (kk+1)) ((x 5) 0).2)).put (some 210) (.slice ((x 7) 0).1 1 1)).put (some 211) (.slice ((x 8) 0).1 ((0+(kk+1)) + 1) ((x 8) 0).2)) (by kernel_rfl) (by kernel_rfl) (fun x => putH_step (some 203) (.slice ((x 0) 0).1 0 0) rfl rfl <| putH_step (some 208) (.slice ((x 5) 0).1 (0 + (kk+1)) ((x 5) 0).2) rfl rfl <| putH_step (some 210) (.slice ((x 7) 0).1 1 1) rfl rfl <| putH_step (some 211) (.slice ((x 8) 0).1 ((0+(kk+1)) + 1) ((x 8) 0).2) rfl rfl <| putH_end) [] (by kernel_rfl)
        · intro x D hD
          have hne := hD.some
          have k0 := liftB hD r0 (by first | assumption | omega)
          have k1 := liftB hD r1 (by first | assumption | omega)
          have k2 := liftB hD r2 (by first | assumption | omega)
          simp only [takeOps, Act.put, List.setIfInBounds_toArray, List.set_cons_succ, List.set_cons_zero]
          repeat (go_big_quiet_step (fail))
          exact wpQuiet_nil rfl
        · exact fun _ h => absurd h (by simp)
        · refine ⟨?_, ?_, ?_, ?_, trivial⟩
          · exact obl_new rfl (fun _ => by kernel_rfl) 47 (fun x => #[]) gP (fun x w => by kernel_rfl) (fun x w hle => own_new hle rfl (by unfold maxLen; omega))
          · refine obl_append 43 203 207 (by kernel_rfl) w9.heap.size 47 i0 _ 3 24 Try.underlying43 Hi.out Hz0.out Hz1.out Hz2.out rfl (by decide) 0 (kk+1) ((#[] : Array Value).toList) ((L1.map (Value.int .i64))) (by first | rfl | (simp; done) | (simp; omega)) (by intro u hu; simp only [List.mem_map] at hu; obtain ⟨_, _, rfl⟩ := hu; rfl) (by unfold maxLen; omega) (by omega) (by first | assumption | omega) (fun x w F hk hn => ?_) (fun _ => rfl) (fun _ _ _ _ h => h)
            have hj := hn 0 (by simp)
            exact ⟨_, ⟨b, off, none⟩, _, rfl, hj.1, fun g hg => .inr (hj.2 g hg), rfl, src_intsA hk ⟨hb9, fun _ _ h => h.elim⟩ Hc1'.out⟩
          · exact obl_new rfl (fun _ => by kernel_rfl) 47 (fun x => #[.int .i64 (z0 + 1 + rr), .int .i64 q1, .int .i64 q2]) gP (fun x w => by kernel_rfl) (fun x w hle => own_new hle rfl (by unfold maxLen; omega))
          · refine obl_append 43 208 210 (by kernel_rfl) w9.heap.size 47 i0 _ 3 24 Try.underlying43 Hi.out Hz0.out Hz1.out Hz2.out rfl (by decide) (0+(kk+1)) 1 ((#[] : Array Value).toList ++ L1.map (Value.int .i64)) ((#[.int .i64 (z0 + 1 + rr), .int .i64 q1, .int .i64 q2] : Array Value).toList) (by first | rfl | (simp; done) | (simp; omega)) (by simp [Value.oneCell']) (by unfold maxLen; omega) (by omega) (by first | assumption | omega) (fun x w F hk hn => ?_) (fun _ => rfl) (fun _ _ _ _ h => h)
            have hj := hn 5 (by simp)
            have hJ : OwnF w (F 7) w9.heap.size 47 3 (.slice (x 7 0).1 1 1) 1 (#[.int .i64 (z0 + 1 + rr), .int .i64 q1, .int .i64 q2] : Array Value).toList := hn 7 (by simp)
            obtain ⟨ad, hA, hc⟩ := news_own hJ (by decide)
            exact ⟨_, ad, 1, rfl, hj.1, fun g hg => .inr (hj.2 g hg), (show Value.slice (x 7 0).1 1 1 = _ by rw [hA]), hc⟩
        · refine ⟨?_, ?_, ?_, ?_, trivial⟩
          · refine ⟨fun x F wq wq' h hs hk => ?_, fun x x' F wq hx h => ?_⟩
            · have h2 : OwnF wq F w9.heap.size 47 3 (.slice (x 0 0).1 0 0) 0 #[].toList := h
              exact h2.stab hk
            · have h2 : OwnF wq F w9.heap.size 47 3 (.slice (x 0 0).1 0 0) 0 #[].toList := h
              rw [hx 0 (by simp)] at h2
              exact h2
          · exact owe_own 5 w9.heap.size 47 3 (0 + (kk+1)) ((#[] : Array Value).toList ++ (L1.map (Value.int .i64))) rfl (fun _ _ _ => rfl)
          · refine ⟨fun x F wq wq' h hs hk => ?_, fun x x' F wq hx h => ?_⟩
            · have h2 : OwnF wq F w9.heap.size 47 3 (.slice (x 7 0).1 1 1) 1 #[.int .i64 (z0 + 1 + rr), .int .i64 q1, .int .i64 q2].toList := h
              exact h2.stab hk
            · have h2 : OwnF wq F w9.heap.size 47 3 (.slice (x 7 0).1 1 1) 1 #[.int .i64 (z0 + 1 + rr), .int .i64 q1, .int .i64 q2].toList := h
              rw [hx 7 (by simp)] at h2
              exact h2
          · exact owe_own 8 w9.heap.size 47 3 ((0+(kk+1)) + 1) ((#[] : Array Value).toList ++ L1.map (Value.int .i64) ++ (#[.int .i64 (z0 + 1 + rr), .int .i64 q1, .int .i64 q2] : Array Value).toList) rfl (fun _ _ _ => rfl)
        intro x10 w10 F hL10 hlv7
        obtain ⟨-, -, -, fct8, -⟩ := hlv7
        replace fct8 : OwnF w10 (F 8) w9.heap.size 47 3 (.slice (x10 8 0).1 ((0+(kk+1)) + 1) (x10 8 0).2) ((0+(kk+1)) + 1) ((#[] : Array Value).toList ++ L1.map (Value.int .i64) ++ (#[.int .i64 (z0 + 1 + rr), .int .i64 q1, .int .i64 q2] : Array Value).toList) := fct8 rfl
        have hown := own_mono fct8.1 hs9
        clear fct8
        generalize (x10 8 0).1 = A8 at *
        generalize (x10 8 0).2 = c8 at *
        clear Hbr
        replace HB := hide (onward HB.out hL10)
        replace Hm := hide (blk_later Hm.out hL10)
        replace Ha := hide (blk_later Ha.out hL10)
        clear hL10 r0 r1 r2 ltr
        have Hown := hide hown
        clear hown
        have hs10 := HB.out.size
        go_wp2_with (at_builtin; refine wpList_append_own _ rfl (.tmp 213) (.tmp 217) _ rfl w.heap.size 47 i0 _ 3 24 Try.underlying43 Hi.out Hz0.out Hz1.out Hz2.out rfl (by decide) _ (0 + (kk + 1) + 1) _ rfl Hown.out ⟨b, off + (kk + 1) * 3, none⟩ (n - (kk + 1)) (c - (kk + 1)) (L3.map (Value.int .i64)) ?c0 (by simp; omega) ?c1 ?c2 ?c3 ?c4 ?c5 ?_)
        case c1 =>
          intro j u hu
          rw [Hc2.out w10 HB.out j (List.getElem?_eq_some_iff.1 hu).1]
          simp [List.getD, hu]
        case c2 => intro u _; rfl
        case c3 => unfold maxLen; omega
        case c4 => omega
        intro v' w11 hown2 hgr2 _
        obtain ⟨A2, e2, rfl⟩ := own_shape2 hown2
        rw [show kk + 1 + 1 + (n - (kk + 1)) = n + 1 by omega] at hown2 ⊢
        have fctO := And.intro hown2 True.intro
        have hcO := own_capA hown2
        have hgr3 : w10.grownBy w11 (Value.slice A8 (0 + (kk + 1) + 1) c8).ownBlock := by rw [show 0 + (kk + 1) + 1 = kk + 1 + 1 by omega]; exact hgr2
        clear hown2 hgr2
        replace HB := hide (below_grown HB.out hgr3 HB.out.size fun k hk => (Hown.out.lt k hk).1)
        replace Hm := hide (blk_grown Hm.out hgr3 (own_ne Hown.out Hm.out (by decide)))
        replace Ha := hide (blk_grown Ha.out hgr3 (own_ne Hown.out Ha.out (by decide)))
        replace Hown := hide fctO.1
        clear hgr3 fctO
        go_wp2_with fail
        refine (Hsum.out _ A2 e2 hcO.1 hcO.2 (Ints.own Hown.out (by simp) (Nat.le_refl _))).mono ?_
        rintro e w12 ⟨rfl, hb⟩
        replace HB := hide (onward HB.out hb)
        replace Hm := hide (blk_later Hm.out hb)
        replace Ha := hide (blk_later Ha.out hb)
        replace Hown := hide (own_later Hown.out hb)
        clear hb
        obtain ⟨x0, x1⟩ := Ha.out.c2
        have ltx := Ha.out.lt
        go_wp2_with fail
        refine at_world fun W12 hW => ?_
        have bq0 : Blk W12 w12.heap.size 24 #[.int .i64 dl, .int .i64 dh] := by rw [hW]; exact Blk.new _ _ _
        have LW : Later w12 W12 := by rw [hW]; exact ((Below.refl _ _).alloc (Nat.le_refl _) _)
        have szW : W12.heap.size = w12.heap.size + 1 := by rw [hW]; simp
        clear hW x0 x1 ltx
        replace HB := hide (onward HB.out LW)
        replace Hm := hide (blk_later Hm.out LW)
        replace Ha := hide (blk_later Ha.out LW)
        replace Hown := hide (own_later Hown.out LW)
        have Hd := hide bq0
        clear bq0 LW szW
        refine (Lies3.out _).mono ?_
        rintro e w13 ⟨rfl, hb⟩
        replace HB := hide (onward HB.out hb)
        replace Hm := hide (blk_later Hm.out hb)
        replace Ha := hide (blk_later Ha.out hb)
        replace Hown := hide (own_later Hown.out hb)
        replace Hd := hide (blk_later Hd.out hb)
        clear hb
        go_wp2_with fail
        refine (works_any _).mono ?_
        rintro e w14 ⟨rfl, hb⟩
        replace HB := hide (onward HB.out hb)
        replace Hm := hide (blk_later Hm.out hb)
        replace Ha := hide (blk_later Ha.out hb)
        replace Hown := hide (own_later Hown.out hb)
        replace Hd := hide (blk_later Hd.out hb)
        clear hb
        go_wp2
        go_ret
        exact ⟨rfl, HB.out⟩
  · go_enter Try.func5, Try.ntmps5
    have HB := hide (Below.refl w.heap.size w)
    go_wp2_with fail
    refine at_world fun W hW => ?_
    have bq0 : Blk W w.heap.size 53 #[.int .u32 m0, .int .u32 m1, .int .u32 m2] := by rw [hW]; exact Blk.new _ _ _
    have LW : Later w W := by rw [hW]; exact ((Below.refl _ _).alloc (Nat.le_refl _) _)
    have szW : W.heap.size = w.heap.size + 1 := by rw [hW]; simp
    clear hW
    replace HB := hide (onward HB.out LW)
    have Hm := hide bq0
    clear bq0 LW szW
    have c1 := Sum_any A n c zs ed sl W hz hmax hcap hcm ((Hl.out.below HB.out).more HB.out.size)
    rw [HS.out] at c1
    unfold spanE at c1
    refine (c1).mono ?_
    rintro e w1 ⟨rfl, hb⟩
    replace HB := hide (onward HB.out hb)
    replace Hm := hide (blk_later Hm.out hb)
    clear hb
    clear c1
    go_wp2_with fail
    refine at_world fun W1 hW => ?_
    have bq0 : Blk W1 w1.heap.size 24 #[.int .i64 tl, .int .i64 th] := by rw [hW]; exact Blk.new _ _ _
    have LW : Later w1 W1 := by rw [hW]; exact ((Below.refl _ _).alloc (Nat.le_refl _) _)
    have szW : W1.heap.size = w1.heap.size + 1 := by rw [hW]; simp
    clear hW
    replace HB := hide (onward HB.out LW)
    replace Hm := hide (blk_later Hm.out LW)
    have Ha := hide bq0
    clear bq0 LW szW
    refine (works_any _).mono ?_
    rintro e w9 ⟨rfl, hb⟩
    replace HB := hide (onward HB.out hb)
    replace Hm := hide (blk_later Hm.out hb)
    replace Ha := hide (blk_later Ha.out hb)
    clear hb
    go_wp2
    go_ret
    exact ⟨rfl, HB.out⟩
end Go.Proofs.Ytmglgahagbfbkaa
