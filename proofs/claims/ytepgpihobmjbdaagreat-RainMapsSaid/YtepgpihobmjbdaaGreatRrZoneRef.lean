/-
  Factors: the reference's contract.
-/
import Derived.Test.YtepgpihobmjbdaaGreatRrZone
import Derived.Test.YtepgpihobmjbdaaGreatRrGauge
import Derived.Test.YtepgpihobmjbdaaGreatRrWorks
import Derived.Test.YtepgpihobmjbdaaGreatRegW
set_option linter.unusedSimpArgs false
set_option linter.unusedVariables false
namespace Go.Proofs.YtepgpihobmjbdaaGreat
open Go.RowKit
def addIf (f : Bool) (e : Int × Int) (l : List (Int × Int)) : List (Int × Int) := if f then l ++ [e] else l
theorem addIf_pos {p : Prop} [Decidable p] (h : p) (e : Int × Int) (l : List (Int × Int)) : addIf (decide p) e l = l ++ [e] := by simp [addIf, h]
theorem addIf_neg {p : Prop} [Decidable p] (h : ¬ p) (e : Int × Int) (l : List (Int × Int)) : addIf (decide p) e l = l := by simp [addIf, h]
theorem addIf_le (f : Bool) (e : Int × Int) (l : List (Int × Int)) : (addIf f e l).length ≤ l.length + 1 := by cases f <;> simp [addIf]
structure Gath (w wx : World) (A : Option Addr) (n c : Nat) (A' : Option Addr) (n' c' : Nat) (a0 a1 b0 b1 c0 c1 x y : Int) (l : List (Int × Int)) (v : Value) : Prop where
 bel : Below w.heap.size w wx
 mdl : Blk wx w.heap.size 45 #[.slice A n c, .slice A' n' c', .int .i64 a0, .int .i64 a1, .int .i64 b0, .int .i64 b1, .int .i64 c0, .int .i64 c1]
 bnd : Blk wx (w.heap.size + 1) 24 #[.int .i64 x, .int .i64 y]
 res : Blk wx (w.heap.size + 2) 24 #[.int .i64 0, .int .i64 0]
 own : wx.ownsRow (w.heap.size + 3) 24 2 v l.length ((flat2 l).map (Value.int .i64))
theorem gath_push {w wx w' : World} {A : Option Addr} {n c : Nat} {A' : Option Addr} {n' c' : Nat} {a0 a1 b0 b1 c0 c1 x y : Int} {l : List (Int × Int)} {v v' : Value} (h : Gath w wx A n c A' n' c' a0 a1 b0 b1 c0 c1 x y l v) {e0 e1 : Int} {o : Obj}
  (ho : w'.ownsRow (w.heap.size + 3) 24 2 v' (l.length + 1) ((flat2 l).map (Value.int .i64) ++ [.int .i64 e0, .int .i64 e1])) (hg : (wx.alloc o).grownBy w' v.ownBlock) : Gath w w' A n c A' n' c' a0 a1 b0 b1 c0 c1 x y (l ++ [(e0, e1)]) v' := by
 have hr : ∀ k, v.ownBlock = some k → w.heap.size + 3 ≤ k := fun k hk => (h.own.lt k hk).1
 have hne : ∀ g, g < w.heap.size + 3 → v.ownBlock ≠ some g := fun g hg e => absurd (hr g e) (by omega)
 have hs := h.res.lt
 refine ⟨below_grown (h.bel.alloc h.bel.size _) hg (by have := h.bel.size; simp; omega) (fun k hk => by have := hr k hk; omega), blk_grown (h.mdl.alloc _) hg (hne _ (by omega)), blk_grown (h.bnd.alloc _) hg (hne _ (by omega)), blk_grown (h.res.alloc _) hg (hne _ (by omega)), ?_⟩
 rw [flat_snoc] at ho
 simpa using ho
theorem gath_alloc {w wx : World} {A : Option Addr} {n c : Nat} {A' : Option Addr} {n' c' : Nat} {a0 a1 b0 b1 c0 c1 x y : Int} {l : List (Int × Int)} {v : Value} (h : Gath w wx A n c A' n' c' a0 a1 b0 b1 c0 c1 x y l v) (o : Obj) : Gath w (wx.alloc o) A n c A' n' c' a0 a1 b0 b1 c0 c1 x y l v :=
 ⟨h.bel.alloc h.bel.size _, h.mdl.alloc _, h.bnd.alloc _, h.res.alloc _, h.own.alloc _⟩
theorem gath_grown {w wx w' : World} {A : Option Addr} {n c : Nat} {A' : Option Addr} {n' c' : Nat} {a0 a1 b0 b1 c0 c1 x y : Int} {l : List (Int × Int)} {v : Value} (h : Gath w wx A n c A' n' c' a0 a1 b0 b1 c0 c1 x y l v) {s : Nat} (hg : wx.grownBy w' (some s)) (hs : w.heap.size + 3 ≤ s) (hne : v.ownBlock ≠ some s) : Gath w w' A n c A' n' c' a0 a1 b0 b1 c0 c1 x y l v :=
 ⟨below_grown h.bel hg h.bel.size (fun k hk => by injection hk; omega), blk_grown h.mdl hg (fun e => by injection e; omega), blk_grown h.bnd hg (fun e => by injection e; omega), blk_grown h.res hg (fun e => by injection e; omega), own_grown h.own hg hne⟩
def foldF (o : Int × Int) (l : List (Int × Int)) : Int × Int := l.foldl (fun o e => (min o.1 e.1, max o.2 e.2)) o
theorem foldF_take (o : Int × Int) (l : List (Int × Int)) (k : Nat) (h : k < l.length) : foldF o (l.take (k + 1)) = (min (foldF o (l.take k)).1 (l.getD k (0, 0)).1, max (foldF o (l.take k)).2 (l.getD k (0, 0)).2) := by
 rw [take_snoc2 l k h]
 simp [foldF]
theorem sizeInt' : (Tryz.prog.info? 3).map (·.size) = some 1 := by kernel_rfl
theorem facS_fold (a0 a1 b0 b1 c0 c1 x y o1 o2 : Int) (l : List (Int × Int)) (ha : a0 ≤ a1) (hx : x ≤ y) (hbc : b0 ≤ 100000 ∧ 0 ≤ b1 ∧ c0 ≤ 100000 ∧ 0 ≤ c1)
  (hl : l = addIf (decide (a1 < y)) (c0, c1) (addIf (decide (x ≤ a1 ∧ a0 ≤ y)) (b0, b1) (addIf (decide (x < a0)) (1000, 1000) []))) (ho : l.getD 0 (0, 0) = (o1, o2)) : foldF (o1, o2) l = facS (a0, a1) (b0, b1) (c0, c1) (x, y) := by
 have e2 : met2 (a0, a1) (x, y) = decide (x ≤ a1 ∧ a0 ≤ y) := by unfold met2; exact decide_eq_decide.2 (by simp only; omega)
 unfold facS
 rw [e2]
 simp only [met1, met3]
 by_cases q1 : x < a0 <;> by_cases q3 : a1 < y <;> by_cases q2 : x ≤ a1 ∧ a0 ≤ y <;> simp [addIf, q1, q2, q3] at hl <;> subst hl <;> simp at ho <;> (try (obtain ⟨rfl, rfl⟩ := ho)) <;> simp [foldF, meetF, q1, q2, q3] <;> omega
set_option maxHeartbeats 2000000 in
set_option maxRecDepth 100000 in
theorem refFactor_any (A : Option Addr) (n c : Nat) (A' : Option Addr) (n' c' : Nat) (a0 a1 b0 b1 c0 c1 x y : Int) (w : World) (ha : a0 ≤ a1) (hx : x ≤ y) (hbc : b0 ≤ 100000 ∧ 0 ≤ b1 ∧ c0 ≤ 100000 ∧ 0 ≤ c1) :
  Calls Tryz.prog 25 #[.agg #[.slice A n c, .slice A' n' c', .int .i64 a0, .int .i64 a1, .int .i64 b0, .int .i64 b1, .int .i64 c0, .int .i64 c1], .agg #[.int .i64 x, .int .i64 y]] w fun e w' => e = .returned (spanV (facS (a0, a1) (b0, b1) (c0, c1) (x, y))) ∧ Below w.heap.size w w' := by
 obtain ⟨i0, hi, hz0, hz1, hz2⟩ := info_parts spanInfo
 have Hi := hide hi
 have Hz0 := hide hz0
 have Hz1 := hide hz1
 have Hz2 := hide hz2
 clear hi hz0 hz1 hz2
 go_enter Tryz.func25, Tryz.ntmps25
 go_upto_if 13 with fail
 refine code_world fun W hW => ?_
 have hg0 : Gath w W A n c A' n' c' a0 a1 b0 b1 c0 c1 x y [] (.slice none 0 0) := by
  rw [hW]
  exact ⟨((Below.refl _ _).alloc (Nat.le_refl _) _ |>.alloc (by simp) _).alloc (by simp; omega) _, ((Blk.new _ _ _).alloc _).alloc _, (blk_new_at (by simp)).alloc _, blk_new_at (by simp), World.ownsRow_nil _ _ _ _⟩
 have HG := hide hg0
 clear hg0 hW
 go_cut [5] from 13 to 17 (fun v wx => Gath w wx A n c A' n' c' a0 a1 b0 b1 c0 c1 x y (addIf (decide (x < a0)) (1000, 1000) []) v)
 case first =>
  go_wp2_with (at_builtin; refine wpList_append_own _ rfl (.tmp 14) (.tmp 16) _ rfl (w.heap.size + 3) 24 i0 _ 2 16 Tryz.underlying34 Hi.out Hz0.out Hz1.out Hz2.out rfl (by decide) _ 0 [] rfl (World.ownsRow_nil _ _ _ _) ⟨W.heap.size, 0, none⟩ 1 1 [.int .i64 1000, .int .i64 1000] rfl rfl ?c1 ?c2 ?c3 ?c4 ?c5 ?_)
  case c1 => exact new_cells W _ [.int .i64 1000, .int .i64 1000]
  case c2 => intro u hu; simp at hu; rcases hu with rfl | rfl <;> rfl
  case c3 => unfold maxLen; omega
  case c4 => omega
  case c5 => have := HG.out.res.lt; simp; omega
  ·
   rename_i hx0
   intro v' w' hown' hgrow _
   have HP := hide (show Gath w w' A n c A' n' c' a0 a1 b0 b1 c0 c1 x y (addIf (decide (x < a0)) (1000, 1000) []) v' from by rw [addIf_pos hx0]; exact gath_push HG.out (e0 := 1000) (e1 := 1000) hown' hgrow)
   clear hown' hgrow hx0
   go_wp2
   go_meet
   exact HP.out
  ·
   rename_i hx0
   have HP := hide (show Gath w W A n c A' n' c' a0 a1 b0 b1 c0 c1 x y (addIf (decide (x < a0)) (1000, 1000) []) (.slice none 0 0) from by rw [addIf_neg (by omega)]; exact HG.out)
   go_meet
   exact HP.out
 case rest =>
  clear HG
  have hL1 : (addIf (decide (x < a0)) (1000, 1000) []).length ≤ 1 := addIf_le _ _ _
  generalize g1 : addIf (decide (x < a0)) (1000, 1000) [] = l1 at *
  have G1 := hide g1
  obtain ⟨x0, x1, x2, x3, x4, x5, x6, x7⟩ := hcut.mdl.c8
  obtain ⟨y0, y1⟩ := hcut.bnd.c2
  have HG := hide hcut
  have lt1 := hcut.res.lt
  clear hcut g1
  go_upto_region 4 with fail
  go_cut [31] from 18 to 31 (fun v wx => v = .bool (decide (x ≤ a1 ∧ a0 ≤ y)) ∧ wx = wc)
  case first =>
   go_wp2
   all_goals go_meet
   all_goals exact ⟨congrArg Value.bool (by first | (simp [*]; done) | (simp; omega) | (simp [*]; omega)), rfl⟩
  case rest =>
   obtain ⟨rfl, rfl⟩ := hcut
   go_upto_if 31 with fail
   go_cut [5] from 31 to 36 (fun v wx => Gath w wx A n c A' n' c' a0 a1 b0 b1 c0 c1 x y (addIf (decide (x ≤ a1 ∧ a0 ≤ y)) (b0, b1) l1) v)
   case first =>
    go_wp2_with (at_builtin; refine wpList_append_own _ rfl (.tmp 32) (.tmp 35) _ rfl (w.heap.size + 3) 24 i0 _ 2 16 Tryz.underlying34 Hi.out Hz0.out Hz1.out Hz2.out rfl (by decide) _ l1.length _ rfl (HG.out.own.alloc _) ⟨wc.heap.size, 0, none⟩ 1 1 [.int .i64 b0, .int .i64 b1] rfl rfl ?c1 ?c2 ?c3 ?c4 ?c5 ?_)
    case c1 => exact new_cells wc _ [.int .i64 b0, .int .i64 b1]
    case c2 => intro u hu; simp at hu; rcases hu with rfl | rfl <;> rfl
    case c3 => unfold maxLen; omega
    case c4 => omega
    case c5 => simp; omega
    ·
     rename_i hx0
     intro v' w' hown' hgrow _
     have HP := hide (show Gath w w' A n c A' n' c' a0 a1 b0 b1 c0 c1 x y (addIf (decide (x ≤ a1 ∧ a0 ≤ y)) (b0, b1) l1) v' from by rw [addIf_pos hx0]; exact gath_push HG.out (e0 := b0) (e1 := b1) hown' hgrow)
     clear hown' hgrow hx0
     go_wp2
     go_meet
     exact HP.out
    ·
     rename_i hx0
     have HP := hide (show Gath w wc A n c A' n' c' a0 a1 b0 b1 c0 c1 x y (addIf (decide (x ≤ a1 ∧ a0 ≤ y)) (b0, b1) l1) _ from by rw [addIf_neg hx0]; exact HG.out)
     go_meet
     exact HP.out
   case rest =>
    clear HG x0 x1 x2 x3 x4 x5 x6 x7 y0 y1 lt1
    have hL2 : (addIf (decide (x ≤ a1 ∧ a0 ≤ y)) (b0, b1) l1).length ≤ 2 := Nat.le_trans (addIf_le _ _ _) (by omega)
    generalize g2 : addIf (decide (x ≤ a1 ∧ a0 ≤ y)) (b0, b1) l1 = l2 at *
    have G2 := hide g2
    obtain ⟨x0, x1, x2, x3, x4, x5, x6, x7⟩ := hcut.mdl.c8
    obtain ⟨y0, y1⟩ := hcut.bnd.c2
    have HG := hide hcut
    have lt1 := hcut.res.lt
    clear hcut g2
    go_upto_if 42 with fail
    go_cut [5] from 42 to 47 (fun v wx => Gath w wx A n c A' n' c' a0 a1 b0 b1 c0 c1 x y (addIf (decide (a1 < y)) (c0, c1) l2) v)
    case first =>
     go_wp2_with (at_builtin; refine wpList_append_own _ rfl (.tmp 43) (.tmp 46) _ rfl (w.heap.size + 3) 24 i0 _ 2 16 Tryz.underlying34 Hi.out Hz0.out Hz1.out Hz2.out rfl (by decide) _ l2.length _ rfl (HG.out.own.alloc _) ⟨wc.heap.size, 0, none⟩ 1 1 [.int .i64 c0, .int .i64 c1] rfl rfl ?c1 ?c2 ?c3 ?c4 ?c5 ?_)
     case c1 => exact new_cells wc _ [.int .i64 c0, .int .i64 c1]
     case c2 => intro u hu; simp at hu; rcases hu with rfl | rfl <;> rfl
     case c3 => unfold maxLen; omega
     case c4 => omega
     case c5 => simp; omega
     ·
      rename_i hx0
      intro v' w' hown' hgrow _
      have HP := hide (show Gath w w' A n c A' n' c' a0 a1 b0 b1 c0 c1 x y (addIf (decide (a1 < y)) (c0, c1) l2) v' from by rw [addIf_pos hx0]; exact gath_push HG.out (e0 := c0) (e1 := c1) hown' hgrow)
      clear hown' hgrow hx0
      go_wp2
      go_meet
      exact HP.out
     ·
      rename_i hx0
      have HP := hide (show Gath w wc A n c A' n' c' a0 a1 b0 b1 c0 c1 x y (addIf (decide (a1 < y)) (c0, c1) l2) _ from by rw [addIf_neg (by omega)]; exact HG.out)
      go_meet
      exact HP.out
    case rest =>
     clear HG x0 x1 x2 x3 x4 x5 x6 x7 y0 y1 lt1
     generalize g3 : addIf (decide (a1 < y)) (c0, c1) l2 = l3 at *
     have hL3 : l3.length ≤ 3 := by rw [← g3]; exact Nat.le_trans (addIf_le _ _ _) (by omega)
     have hl3 : l3 = addIf (decide (a1 < y)) (c0, c1) (addIf (decide (x ≤ a1 ∧ a0 ≤ y)) (b0, b1) (addIf (decide (x < a0)) (1000, 1000) [])) := by rw [G1.out, G2.out, g3]
     clear G1 G2 g3 hL1 hL2
     have hpos : 0 < l3.length := by
      rw [hl3]
      by_cases q1 : x < a0 <;> by_cases q3 : a1 < y <;> by_cases q2 : x ≤ a1 ∧ a0 ≤ y <;> simp [addIf, q1, q2, q3] <;> omega
     obtain ⟨A3, cap, rfl⟩ := own_slice hcut.own
     have hI : Ints wc wc.heap.size .i64 A3 (flat2 l3) := Ints.own hcut.own rfl (Nat.le_refl _)
     obtain ⟨g, off, rfl, hb, hc⟩ := hI.pt hpos
     obtain ⟨p0, p1⟩ := hc 0 hpos
     generalize ho : l3.getD 0 (0, 0) = o at *
     obtain ⟨o1, o2⟩ := o
     simp only [Nat.zero_mul, Nat.add_zero] at p0 p1
     have lt2 := hcut.res.lt
     have HG := hide hcut
     have HO := hide ho
     have HL := hide hl3
     clear hcut hI hc ho hl3
     go_wp2_with fail
     go_loopw [7] (fun i wr => ∃ k : Nat, k ≤ l3.length ∧ i = .int .i64 k ∧ Gath w wr A n c A' n' c' a0 a1 b0 b1 c0 c1 x y l3 (.slice (some ⟨g, off, none⟩) l3.length cap) ∧ Blk wr wc.heap.size 24 #[.int .i64 (foldF (o1, o2) (l3.take k)).1, .int .i64 (foldF (o1, o2) (l3.take k)).2]) (fun i _ => l3.length - (intOf i).toNat)
     case atStart => exact ⟨0, by omega, rfl, gath_alloc HG.out _, Blk.new _ _ _⟩
     case round =>
      obtain ⟨k, hk, rfl, hG, hS⟩ := hrel
      clear p0 p1
      by_cases hlt : k < l3.length
      ·
       have hI : Ints wr wr.heap.size .i64 (some ⟨g, off, none⟩) (flat2 l3) := Ints.own hG.own rfl (Nat.le_refl _)
       obtain ⟨g', off', he, hb', hc⟩ := hI.pt hpos
       cases he
       obtain ⟨p0, p1⟩ := hc k hlt
       have hst := foldF_take (o1, o2) l3 k hlt
       generalize foldF (o1, o2) (l3.take k) = s at *
       obtain ⟨s1, s2⟩ := s
       generalize l3.getD k (0, 0) = z at *
       obtain ⟨z1, z2⟩ := z
       obtain ⟨q0, q1⟩ := hS.c2
       simp only at p0 p1 q0 q1 hst
       have ltS := hS.lt
       have HS := hide hS
       have HG2 := hide hG
       have HST := hide hst
       clear hS hG hst hc hI
       go_wp2_with fail
       refine wp_region_G (fun j k => k < wr.heap.size ∧ ((!([17, 19] : List Nat).contains j) = true ∨ k ≠ wc.heap.size)) (by kernel_rfl) ?_
       apply anyG_peel (fuel := 10) (fun k => k < wr.heap.size) (fun j => !([17, 19] : List Nat).contains j) [true, true, true, true, true, true, true, true, true, true, false, false, false, false, false, false, false, false, false, false] #[true, true, true, true, true, true, true, true, true, true, false, false, false, false, false, false, false, false, false, false] (by kernel_rfl) rfl (fun k hk => hk) (fun j k hk => hk.1) (fun j hj k hk => ⟨hk, .inl hj⟩)
       ·
        intro D hD
        have hne := hD.some
        have k0 := lift hD p0 (by exact hb')
        have k1 := lift hD p1 (by exact hb')
        have k2 := lift hD q0 (by exact ltS)
        have k3 := lift hD q1 (by exact ltS)
        simp only [takeOps]
        repeat (go_big_quiet_step (fail))
        exact wpQuiet_nil rfl
       apply anyG_peel (fuel := 3) (fun k => k < wr.heap.size ∧ k ≠ wc.heap.size) (fun _ => true) [false, false, false, false, false, false, false, false, false, false, true, true, true, true, true, true, true, false, false, false] #[true, true, true, true, true, true, true, true, true, true, true, true, true, true, true, true, true, false, false, false] (by kernel_rfl) rfl (fun k hk => hk.1) (fun j k hk => hk.1) (fun j hj k hk => ⟨hk.1, .inr hk.2⟩)
       ·
        intro D hD
        have hne := hD.some
        have k0 := lift hD p0 (by exact ⟨hb', by show g ≠ wc.heap.size; omega⟩)
        have k1 := lift hD p1 (by exact ⟨hb', by show g ≠ wc.heap.size; omega⟩)
        simp only [takeOps]
        repeat (go_big_quiet_step (fail))
        exact wpQuiet_nil rfl
       refine anyG_sets 17 18 19 3 24 73 64 74 72 wc.heap.size 0 1 _ _ _ _ (by kernel_rfl) (by kernel_rfl) (by kernel_rfl) (by kernel_rfl) (by kernel_rfl) (by kernel_rfl) rfl rfl rfl (fun _ => by kernel_rfl) rfl rfl rfl (by decide) (by exact of_decide_eq_true rfl) HS.out sizeInt' (by simp) (by simp) rfl (fun h => by simp at h) (fun h => by simp at h) ?_
       intro w2 hgr hbk
       simp only [Act.put, List.setIfInBounds_toArray, List.set_cons_succ, List.set_cons_zero]
       have HG3 := hide (gath_grown HG2.out hgr (by omega) (by simp [Value.ownBlock]; omega))
       have HBK := hide hbk
       clear hgr hbk
       go_wp2
       go_roundw
       case rel =>
        refine ⟨k + 1, by omega, by go_num, HG3.out, blk_of HBK.out ?_⟩
        rw [HST.out]
        simp <;> omega
       case measure => simp [intOf]; omega
      ·
       obtain rfl : k = l3.length := by omega
       rw [List.take_of_length_le (Nat.le_refl _), facS_fold a0 a1 b0 b1 c0 c1 x y o1 o2 l3 ha hx hbc HL.out HO.out] at hS
       obtain ⟨⟨s1, s2⟩, hs⟩ : ∃ s, facS (a0, a1) (b0, b1) (c0, c1) (x, y) = s := ⟨_, rfl⟩
       rw [hs] at hS
       have HFS := hide hs
       clear hs
       obtain ⟨q0, q1⟩ := hS.c2
       simp only at q0 q1
       have r2 := hG.res.c2
       obtain ⟨r0, r1⟩ := r2
       have f0 := hG.res.frozen 0
       have f1 := hG.res.frozen 1
       have lt3 := hG.res.lt
       have ltS := hS.lt
       have HB := hide hG.bel
       clear hG hS
       go_wp2
       refine bodyPost_ret (v := spanV (s1, s2)) (by simp [spanV, results, Tryz.results25, go_sem, r0, r1]) rfl ⟨by rw [HFS.out], ?_⟩
       exact (HB.out.setCell (by simp; omega) _).setCell (by simp; omega) _
end Go.Proofs.YtepgpihobmjbdaaGreat
