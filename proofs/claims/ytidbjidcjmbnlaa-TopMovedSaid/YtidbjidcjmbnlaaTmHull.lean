/-
  The spans of moves.
-/
import Derived.Test.YtidbjidcjmbnlaaTmChgM
import Derived.RegionTactic
import Derived.ChangeAlike
set_option linter.unusedSimpArgs false
set_option linter.unusedVariables false
namespace Go.Proofs.Ytidbjidcjmbnlaa
open Go Go.RowKit
attribute [local go_sem] Oper.semAt_some

def ordZ (a b : Int) : Int := if a < b then -1 else if b < a then 1 else 0
theorem ord_lt {a b : Int} (h : a < b) : ordZ a b < 0 := by unfold ordZ; rw [if_pos h]; omega
theorem ord_nlt {a b : Int} (h : ¬ a < b) : ¬ ordZ a b < 0 := by unfold ordZ; rw [if_neg h]; split <;> omega
theorem ord_gt {a b : Int} (h : b < a) : 0 < ordZ a b := by unfold ordZ; rw [if_neg (by omega), if_pos h]; omega
theorem ord_ngt {a b : Int} (h : ¬ b < a) : ¬ 0 < ordZ a b := by unfold ordZ; split <;> (try split) <;> omega
theorem order_any (a b : Int) (w : World) : Calls Try.prog 40 #[.int .i64 a, .int .i64 b] w fun e w' => e = .returned (.int .i64 (ordZ a b)) ∧ w = w' := by
  by_cases h1 : a < b
  · go_enter Try.func40, Try.ntmps40
    go_wp2
    go_ret
    exact ⟨ret_int (by simp [ordZ, h1]), rfl⟩
  · by_cases h2 : b < a
    · go_enter Try.func40, Try.ntmps40
      go_wp2
      go_ret
      exact ⟨ret_int (by simp [ordZ, h1, h2]), rfl⟩
    · go_enter Try.func40, Try.ntmps40
      go_wp2
      go_ret
      exact ⟨ret_int (by unfold ordZ; split <;> (try split) <;> omega), rfl⟩
set_option maxRecDepth 100000 in
theorem cmpX (ax ay bx b_y : Int) (w : World) : Calls Try.prog 39 #[.agg #[.int .i64 ax, .int .i64 ay], .agg #[.int .i64 bx, .int .i64 b_y]] w fun e w' => e = .returned (.int .i64 (ordZ ax bx)) ∧ Below w.heap.size w w' := by
  go_enter Try.func39, Try.ntmps39
  have HM := hide (Mem.start w)
  go_upto_region 1 with fail
  refine code_world fun W1 hW => ?_
  have HMn := Mem.to (Mem.allocAt (Mem.allocAt HM.out w.heap.size rfl #[.int .i64 ax, .int .i64 ay] 68) (w.heap.size + 1) (by simp) #[.int .i64 bx, .int .i64 b_y] 68) hW
  have LW : Later w W1 := by rw [hW]; exact (((Below.refl _ _).alloc (Nat.le_refl _) _).alloc (by simp; try omega) _)
  have szW : W1.heap.size = w.heap.size + 2 := by rw [hW]; simp
  clear hW
  replace HM := hide HMn
  clear HMn LW
  clear szW
  have ba : Blk W1 w.heap.size 68 #[.int .i64 ax, .int .i64 ay] := HM.out.get 1 rfl
  have lta := ba.lt
  have a0 := ba.c 0 rfl
  have a1 := ba.c 1 rfl
  have bb : Blk W1 (w.heap.size + 1) 68 #[.int .i64 bx, .int .i64 b_y] := HM.out.get 0 rfl
  have ltb := bb.lt
  have b0 := bb.c 0 rfl
  have b1 := bb.c 1 rfl
  go_wp2_with (go_at_call 40; refine (order_any _ _ _).mono ?_; rintro e w' ⟨rfl, rfl⟩)
  go_ret
  exact ⟨rfl, HM.out.below⟩
set_option maxRecDepth 100000 in
theorem cmpY (ax ay bx b_y : Int) (w : World) : Calls Try.prog 41 #[.agg #[.int .i64 ax, .int .i64 ay], .agg #[.int .i64 bx, .int .i64 b_y]] w fun e w' => e = .returned (.int .i64 (ordZ ay b_y)) ∧ Below w.heap.size w w' := by
  go_enter Try.func41, Try.ntmps41
  have HM := hide (Mem.start w)
  go_upto_region 1 with fail
  refine code_world fun W1 hW => ?_
  have HMn := Mem.to (Mem.allocAt (Mem.allocAt HM.out w.heap.size rfl #[.int .i64 ax, .int .i64 ay] 68) (w.heap.size + 1) (by simp) #[.int .i64 bx, .int .i64 b_y] 68) hW
  have LW : Later w W1 := by rw [hW]; exact (((Below.refl _ _).alloc (Nat.le_refl _) _).alloc (by simp; try omega) _)
  have szW : W1.heap.size = w.heap.size + 2 := by rw [hW]; simp
  clear hW
  replace HM := hide HMn
  clear HMn LW
  clear szW
  have ba : Blk W1 w.heap.size 68 #[.int .i64 ax, .int .i64 ay] := HM.out.get 1 rfl
  have lta := ba.lt
  have a0 := ba.c 0 rfl
  have a1 := ba.c 1 rfl
  have bb : Blk W1 (w.heap.size + 1) 68 #[.int .i64 bx, .int .i64 b_y] := HM.out.get 0 rfl
  have ltb := bb.lt
  have b0 := bb.c 0 rfl
  have b1 := bb.c 1 rfl
  go_wp2_with (go_at_call 40; refine (order_any _ _ _).mono ?_; rintro e w' ⟨rfl, rfl⟩)
  go_ret
  exact ⟨rfl, HM.out.below⟩
/-- A row of moves, in memory. -/
def MvRow (V : World) (b c : Nat) (l : List (Int × Int)) : Prop := ∃ cur, Blk V b 68 cur ∧ ∀ k x, l[k]? = some x → cur[k * 2]? = some (.int .i64 x.1) ∧ cur[k * 2 + 1]? = some (.int .i64 x.2)
theorem flat2_at : ∀ {l : List (Int × Int)} {k : Nat} {x : Int × Int}, l[k]? = some x → ((flat2 l).map (Value.int .i64))[k * 2]? = some (.int .i64 x.1) ∧ ((flat2 l).map (Value.int .i64))[k * 2 + 1]? = some (.int .i64 x.2)
  | [], _, _, h => by simp at h
  | y :: l, 0, x, h => by
    simp at h
    subst h
    exact ⟨rfl, rfl⟩
  | y :: l, k + 1, x, h => by
    rw [List.getElem?_cons_succ] at h
    have h2 := flat2_at h
    rw [show (k + 1) * 2 = k * 2 + 1 + 1 by omega]
    exact h2
theorem MvRow.of {V : World} {base b c : Nat} {l : List (Int × Int)} (h : V.ownsRow base 68 2 (.slice (some ⟨b, 0, none⟩) l.length c) l.length ((flat2 l).map (Value.int .i64))) (hl : 0 < l.length) : MvRow V b c l := by
  obtain ⟨g, cur, hg, -, h1, -, -, h2⟩ := row_blk h hl
  obtain rfl : b = g := by
    have := Option.some.inj hg
    exact congrArg (fun a : Addr => a.block) this
  exact ⟨cur, h1, fun k x hx => ⟨h2 _ _ (flat2_at hx).1, h2 _ _ (flat2_at hx).2⟩⟩
theorem MvRow.later {V V' : World} {b c : Nat} {l : List (Int × Int)} (h : MvRow V b c l) (hb : Below V.heap.size V V') : MvRow V' b c l := by
  obtain ⟨cur, h1, h2⟩ := h
  exact ⟨cur, blk_belowN h1 hb h1.lt, h2⟩
def MinPost (P : Int × Int → Int × Int → Prop) (l : List (Int × Int)) (w : World) (e : Ending) (w' : World) : Prop := ∃ m, m ∈ l ∧ (∀ x ∈ l, P m x) ∧ e = .returned (.agg #[.int .i64 m.1, .int .i64 m.2]) ∧ Below w.heap.size w w'
def UpTo (P : Int × Int → Prop) (l : List (Int × Int)) (k : Nat) : Prop := ∀ c x, c < k → l[c]? = some x → P x
set_option maxHeartbeats 2000000 in
set_option maxRecDepth 100000 in
theorem minX_any (b n c : Nat) (l : List (Int × Int)) (w : World) (hn : l.length = n) (h1 : 1 ≤ n) (h64 : n ≤ 1000000) (hr : MvRow w b c l) :
    Calls Try.prog 42 #[.slice (some ⟨b, 0, none⟩) n c, .func (.func 39) #[] #[]] w (MinPost (fun m x => m.1 ≤ x.1) l w) := by
  obtain ⟨PP, hPP⟩ : ∃ PP, MinPost (fun m x : Int × Int => m.1 ≤ x.1) l w = PP := ⟨_, rfl⟩
  rw [hPP]
  have hrow := fun V (hB : Below w.heap.size w V) => hr.later hB
  obtain ⟨m0, hm0⟩ : ∃ x, l[0]? = some x := ⟨_, List.getElem?_eq_getElem (by omega)⟩
  obtain ⟨cur, hb, hget⟩ := hr
  have hmem0 := List.mem_of_getElem? hm0
  have r0 := hb.c 0 (hget 0 m0 hm0).1
  have r1 := hb.c 1 (hget 0 m0 hm0).2
  have ltr := hb.lt
  obtain ⟨x0, y0⟩ := m0
  dsimp only at r0 r1
  have hcmp := fun V a1 a2 y1 y2 => cmpX a1 a2 y1 y2 V
  have HROW := hide hrow
  have HPP := hide hPP
  have HCMP := hide hcmp
  have HM0 := hide hm0
  have HME := hide hmem0
  have HN := hide hn
  clear hrow hPP hcmp hm0 hmem0 hn
  clear hb hget
  have h1' : ¬ ((n : Int) < 1) := by omega
  go_enter Try.func42, Try.ntmps42
  have HM := hide (Mem.start w)
  go_upto_region 4 with fail
  refine code_world fun W1 hW => ?_
  have HMn := Mem.to (Mem.allocAt (Mem.allocAt HM.out w.heap.size rfl #[.int .i64 0, .int .i64 0] 68) (w.heap.size + 1) (by simp) #[.int .i64 x0, .int .i64 y0] 68) hW
  have LW : Later w W1 := by rw [hW]; exact (((Below.refl _ _).alloc (Nat.le_refl _) _).alloc (by simp; try omega) _)
  have szW : W1.heap.size = w.heap.size + 2 := by rw [hW]; simp
  clear hW
  replace HM := hide HMn
  clear HMn LW
  clear szW r0 r1 ltr
  obtain ⟨pR, hpR⟩ : ∃ q, w.heap.size = q := ⟨_, rfl⟩
  obtain ⟨pM, hpM⟩ : ∃ q, pR + 1 = q := ⟨_, rfl⟩
  rw [show w.heap.size + 1 = pM by omega, hpR] at HM
  simp only [hpR, hpM]
  clear hpR hpM
  have HU := hide (show UpTo (fun x : Int × Int => (fun m x : Int × Int => m.1 ≤ x.1) (x0, y0) x) l 1 from fun c x hc hx => by
    obtain rfl : c = 0 := by omega
    have := Option.some.inj (HM0.out.symm.trans hx)
    subst this
    exact Int.le_refl _)
  go_wp2_with fail
  go_loopw [6] (fun u wr => ∃ k a1 a2, 1 ≤ k ∧ k ≤ n ∧ u = .int .i64 (k : Nat) ∧ Hid ((a1, a2) ∈ l) ∧ Hid (UpTo (fun x : Int × Int => (fun m x : Int × Int => m.1 ≤ x.1) (a1, a2) x) l k) ∧ Hid (Mem w [.blk pM 68 #[.int .i64 a1, .int .i64 a2], .blk pR 68 #[.int .i64 0, .int .i64 0]] wr)) (fun u _ => n - (intOf u).toNat)
  case atStart => exact ⟨1, x0, y0, Nat.le_refl _, h1, rfl, HME, HU, HM⟩
  case round =>
    clear HM HU HM0 HME
    obtain ⟨k, a1, a2, hk1, hkn, rfl, HME, HU, HM⟩ := hrel
    by_cases hlt : k < n
    · have hlt2 : (k : Int) < n := by omega
      obtain ⟨x, hx⟩ : ∃ x, l[k]? = some x := ⟨_, List.getElem?_eq_getElem (by rw [HN.out]; exact hlt)⟩
      have hxm := List.mem_of_getElem? hx
      obtain ⟨cur, hb, hget⟩ := HROW.out wr HM.out.below
      have r0 := hb.c (k * 2) (hget k x hx).1
      have r1 := hb.c (k * 2 + 1) (hget k x hx).2
      have ltr := hb.lt
      obtain ⟨y1, y2⟩ := x
      dsimp only at r0 r1
      have HX := hide hx
      have HXM := hide hxm
      clear hx hxm
      clear hb hget
      have bm : Blk wr pM 68 #[.int .i64 a1, .int .i64 a2] := HM.out.get 0 rfl
      have ltm := bm.lt
      have m0 := bm.c 0 rfl
      have m1 := bm.c 1 rfl
      go_wp2_with fail
      apply wp_region_L (w0 := wr) [[], [], [], [], [], [], [], []] [true, true, true, true, true, true, true, true] [] (fun ixq y => match ixq with  | _ => undef) (fun ixq x F wq => match ixq with  | _ => True) (fun a x => a) (by kernel_rfl) (by kernel_rfl) (fun _ => rfl) [26] (by kernel_rfl)
      · intro x D hD
        have hne := hD.some
        have k0 := liftB hD r0 (by first | assumption | omega)
        have k1 := liftB hD r1 (by first | assumption | omega)
        have k2 := liftB hD m0 (by first | assumption | omega)
        have k3 := liftB hD m1 (by first | assumption | omega)
        simp only [takeOps, Act.put, List.setIfInBounds_toArray, List.set_cons_succ, List.set_cons_zero]
        repeat (go_big_quiet_step ((with_reducible exact calls_later hD _ (HCMP.out _ _ _ _ _))))
        exact wpQuiet_nil rfl
      · intro d hd x x'
        simp only [List.mem_cons, List.not_mem_nil, or_false] at hd
        rcases hd with rfl
        all_goals rfl
      · exact trivial
      · exact trivial
      intro xx w2 F hL hlv1
      clear hlv1
      replace HM := hide (HM.out.later hL)
      clear hL bm ltm m0 m1
      by_cases hR : y1 < a1
      · have ho := ord_lt hR
        generalize ordZ y1 a1 = o at *
        have HU2 := hide (show UpTo (fun x : Int × Int => (fun m x : Int × Int => m.1 ≤ x.1) (y1, y2) x) l (k + 1) from fun c x hc hx => by
          by_cases e : c < k
          · have h := HU.out c x e hx
            dsimp only at h ⊢
            omega
          · obtain rfl : c = k := by omega
            have := Option.some.inj (HX.out.symm.trans hx)
            subst this
            exact Int.le_refl _)
        obtain ⟨cur, hb, hget⟩ := HROW.out w2 HM.out.below
        have r0 := hb.c (k * 2) (hget k _ HX.out).1
        have r1 := hb.c (k * 2 + 1) (hget k _ HX.out).2
        have ltr := hb.lt
        dsimp only at r0 r1
        clear hb hget
        have bm : Blk w2 pM 68 #[.int .i64 a1, .int .i64 a2] := HM.out.get 0 rfl
        have ltm := bm.lt
        have m0 := bm.c 0 rfl
        have fm0 := bm.frozen 0
        have m1 := bm.c 1 rfl
        have fm1 := bm.frozen 1
        go_upto_region 6 with fail
        refine code_world fun w7 hw7 => ?_
        have HM7 := hide (Mem.to ((HM.out.set_ 0 rfl 0 (.int .i64 y1) (cs' := #[.int .i64 y1, .int .i64 a2]) rfl).set_ 0 rfl 1 (.int .i64 y2) (cs' := #[.int .i64 y1, .int .i64 y2]) rfl) hw7)
        clear HM hw7 m0 m1 fm0 fm1 ltm bm r0 r1 ltr HU
        have HM := HM7
        clear HM7
        simp only [List.set_cons_zero] at HM
        go_wp2_with fail
        go_roundw
        case rel => exact ⟨k + 1, y1, y2, by omega, hlt, by go_num, HXM, HU2, HM⟩
        case measure => simp [intOf] <;> omega
      · have ho := ord_nlt hR
        generalize ordZ y1 a1 = o at *
        have HU2 := hide (show UpTo (fun x : Int × Int => (fun m x : Int × Int => m.1 ≤ x.1) (a1, a2) x) l (k + 1) from fun c x hc hx => by
          by_cases e : c < k
          · exact HU.out c x e hx
          · obtain rfl : c = k := by omega
            have := Option.some.inj (HX.out.symm.trans hx)
            subst this
            dsimp only
            omega)
        clear HU
        go_wp2_with fail
        go_roundw
        case rel => exact ⟨k + 1, a1, a2, by omega, hlt, by go_num, HME, HU2, HM⟩
        case measure => simp [intOf] <;> omega
    · obtain rfl : k = n := by omega
      have hkk : ¬ ((k : Int) < k) := by omega
      have hall : ∀ x ∈ l, (fun m x : Int × Int => m.1 ≤ x.1) (a1, a2) x := fun x hx => by
        obtain ⟨c, hc⟩ := List.mem_iff_getElem?.1 hx
        exact HU.out c x (by rw [← HN.out]; exact (List.getElem?_eq_some_iff.1 hc).1) hc
      have HALL := hide hall
      clear hall
      clear HU
      have bm : Blk wr pM 68 #[.int .i64 a1, .int .i64 a2] := HM.out.get 0 rfl
      have ltm := bm.lt
      have m0 := bm.c 0 rfl
      have m1 := bm.c 1 rfl
      have br : Blk wr pR 68 #[.int .i64 0, .int .i64 0] := HM.out.get 1 rfl
      have ltr := br.lt
      have r0 := br.c 0 rfl
      have fr0 := br.frozen 0
      have r1 := br.c 1 rfl
      have fr1 := br.frozen 1
      go_wp2_with fail
      refine ret_world fun V hV => ?_
      have hM9 := Mem.to ((HM.out.set_ 1 rfl 0 (.int .i64 a1) (cs' := #[.int .i64 a1, .int .i64 0]) rfl).set_ 1 rfl 1 (.int .i64 a2) (cs' := #[.int .i64 a1, .int .i64 a2]) rfl) hV
      have hb9 := hM9.blk_ 1 rfl
      have q0 := hb9.c 0 rfl
      have q1 := hb9.c 1 rfl
      rw [← HPP.out]
      refine bodyPost_ret (v := .agg #[.int .i64 a1, .int .i64 a2]) (by simp [results, Try.results42, go_sem, q0, q1]) rfl ⟨(a1, a2), HME.out, HALL.out, rfl, hM9.below⟩
set_option maxHeartbeats 2000000 in
set_option maxRecDepth 100000 in
theorem minY_any (b n c : Nat) (l : List (Int × Int)) (w : World) (hn : l.length = n) (h1 : 1 ≤ n) (h64 : n ≤ 1000000) (hr : MvRow w b c l) :
    Calls Try.prog 42 #[.slice (some ⟨b, 0, none⟩) n c, .func (.func 41) #[] #[]] w (MinPost (fun m x => m.2 ≤ x.2) l w) := by
  obtain ⟨PP, hPP⟩ : ∃ PP, MinPost (fun m x : Int × Int => m.2 ≤ x.2) l w = PP := ⟨_, rfl⟩
  rw [hPP]
  have hrow := fun V (hB : Below w.heap.size w V) => hr.later hB
  obtain ⟨m0, hm0⟩ : ∃ x, l[0]? = some x := ⟨_, List.getElem?_eq_getElem (by omega)⟩
  obtain ⟨cur, hb, hget⟩ := hr
  have hmem0 := List.mem_of_getElem? hm0
  have r0 := hb.c 0 (hget 0 m0 hm0).1
  have r1 := hb.c 1 (hget 0 m0 hm0).2
  have ltr := hb.lt
  obtain ⟨x0, y0⟩ := m0
  dsimp only at r0 r1
  have hcmp := fun V a1 a2 y1 y2 => cmpY a1 a2 y1 y2 V
  have HROW := hide hrow
  have HPP := hide hPP
  have HCMP := hide hcmp
  have HM0 := hide hm0
  have HME := hide hmem0
  have HN := hide hn
  clear hrow hPP hcmp hm0 hmem0 hn
  clear hb hget
  have h1' : ¬ ((n : Int) < 1) := by omega
  go_enter Try.func42, Try.ntmps42
  have HM := hide (Mem.start w)
  go_upto_region 4 with fail
  refine code_world fun W1 hW => ?_
  have HMn := Mem.to (Mem.allocAt (Mem.allocAt HM.out w.heap.size rfl #[.int .i64 0, .int .i64 0] 68) (w.heap.size + 1) (by simp) #[.int .i64 x0, .int .i64 y0] 68) hW
  have LW : Later w W1 := by rw [hW]; exact (((Below.refl _ _).alloc (Nat.le_refl _) _).alloc (by simp; try omega) _)
  have szW : W1.heap.size = w.heap.size + 2 := by rw [hW]; simp
  clear hW
  replace HM := hide HMn
  clear HMn LW
  clear szW r0 r1 ltr
  obtain ⟨pR, hpR⟩ : ∃ q, w.heap.size = q := ⟨_, rfl⟩
  obtain ⟨pM, hpM⟩ : ∃ q, pR + 1 = q := ⟨_, rfl⟩
  rw [show w.heap.size + 1 = pM by omega, hpR] at HM
  simp only [hpR, hpM]
  clear hpR hpM
  have HU := hide (show UpTo (fun x : Int × Int => (fun m x : Int × Int => m.2 ≤ x.2) (x0, y0) x) l 1 from fun c x hc hx => by
    obtain rfl : c = 0 := by omega
    have := Option.some.inj (HM0.out.symm.trans hx)
    subst this
    exact Int.le_refl _)
  go_wp2_with fail
  go_loopw [6] (fun u wr => ∃ k a1 a2, 1 ≤ k ∧ k ≤ n ∧ u = .int .i64 (k : Nat) ∧ Hid ((a1, a2) ∈ l) ∧ Hid (UpTo (fun x : Int × Int => (fun m x : Int × Int => m.2 ≤ x.2) (a1, a2) x) l k) ∧ Hid (Mem w [.blk pM 68 #[.int .i64 a1, .int .i64 a2], .blk pR 68 #[.int .i64 0, .int .i64 0]] wr)) (fun u _ => n - (intOf u).toNat)
  case atStart => exact ⟨1, x0, y0, Nat.le_refl _, h1, rfl, HME, HU, HM⟩
  case round =>
    clear HM HU HM0 HME
    obtain ⟨k, a1, a2, hk1, hkn, rfl, HME, HU, HM⟩ := hrel
    by_cases hlt : k < n
    · have hlt2 : (k : Int) < n := by omega
      obtain ⟨x, hx⟩ : ∃ x, l[k]? = some x := ⟨_, List.getElem?_eq_getElem (by rw [HN.out]; exact hlt)⟩
      have hxm := List.mem_of_getElem? hx
      obtain ⟨cur, hb, hget⟩ := HROW.out wr HM.out.below
      have r0 := hb.c (k * 2) (hget k x hx).1
      have r1 := hb.c (k * 2 + 1) (hget k x hx).2
      have ltr := hb.lt
      obtain ⟨y1, y2⟩ := x
      dsimp only at r0 r1
      have HX := hide hx
      have HXM := hide hxm
      clear hx hxm
      clear hb hget
      have bm : Blk wr pM 68 #[.int .i64 a1, .int .i64 a2] := HM.out.get 0 rfl
      have ltm := bm.lt
      have m0 := bm.c 0 rfl
      have m1 := bm.c 1 rfl
      go_wp2_with fail
      apply wp_region_L (w0 := wr) [[], [], [], [], [], [], [], []] [true, true, true, true, true, true, true, true] [] (fun ixq y => match ixq with  | _ => undef) (fun ixq x F wq => match ixq with  | _ => True) (fun a x => a) (by kernel_rfl) (by kernel_rfl) (fun _ => rfl) [26] (by kernel_rfl)
      · intro x D hD
        have hne := hD.some
        have k0 := liftB hD r0 (by first | assumption | omega)
        have k1 := liftB hD r1 (by first | assumption | omega)
        have k2 := liftB hD m0 (by first | assumption | omega)
        have k3 := liftB hD m1 (by first | assumption | omega)
        simp only [takeOps, Act.put, List.setIfInBounds_toArray, List.set_cons_succ, List.set_cons_zero]
        repeat (go_big_quiet_step ((with_reducible exact calls_later hD _ (HCMP.out _ _ _ _ _))))
        exact wpQuiet_nil rfl
      · intro d hd x x'
        simp only [List.mem_cons, List.not_mem_nil, or_false] at hd
        rcases hd with rfl
        all_goals rfl
      · exact trivial
      · exact trivial
      intro xx w2 F hL hlv2
      clear hlv2
      replace HM := hide (HM.out.later hL)
      clear hL bm ltm m0 m1
      by_cases hR : y2 < a2
      · have ho := ord_lt hR
        generalize ordZ y2 a2 = o at *
        have HU2 := hide (show UpTo (fun x : Int × Int => (fun m x : Int × Int => m.2 ≤ x.2) (y1, y2) x) l (k + 1) from fun c x hc hx => by
          by_cases e : c < k
          · have h := HU.out c x e hx
            dsimp only at h ⊢
            omega
          · obtain rfl : c = k := by omega
            have := Option.some.inj (HX.out.symm.trans hx)
            subst this
            exact Int.le_refl _)
        obtain ⟨cur, hb, hget⟩ := HROW.out w2 HM.out.below
        have r0 := hb.c (k * 2) (hget k _ HX.out).1
        have r1 := hb.c (k * 2 + 1) (hget k _ HX.out).2
        have ltr := hb.lt
        dsimp only at r0 r1
        clear hb hget
        have bm : Blk w2 pM 68 #[.int .i64 a1, .int .i64 a2] := HM.out.get 0 rfl
        have ltm := bm.lt
        have m0 := bm.c 0 rfl
        have fm0 := bm.frozen 0
        have m1 := bm.c 1 rfl
        have fm1 := bm.frozen 1
        go_upto_region 6 with fail
        refine code_world fun w7 hw7 => ?_
        have HM7 := hide (Mem.to ((HM.out.set_ 0 rfl 0 (.int .i64 y1) (cs' := #[.int .i64 y1, .int .i64 a2]) rfl).set_ 0 rfl 1 (.int .i64 y2) (cs' := #[.int .i64 y1, .int .i64 y2]) rfl) hw7)
        clear HM hw7 m0 m1 fm0 fm1 ltm bm r0 r1 ltr HU
        have HM := HM7
        clear HM7
        simp only [List.set_cons_zero] at HM
        go_wp2_with fail
        go_roundw
        case rel => exact ⟨k + 1, y1, y2, by omega, hlt, by go_num, HXM, HU2, HM⟩
        case measure => simp [intOf] <;> omega
      · have ho := ord_nlt hR
        generalize ordZ y2 a2 = o at *
        have HU2 := hide (show UpTo (fun x : Int × Int => (fun m x : Int × Int => m.2 ≤ x.2) (a1, a2) x) l (k + 1) from fun c x hc hx => by
          by_cases e : c < k
          · exact HU.out c x e hx
          · obtain rfl : c = k := by omega
            have := Option.some.inj (HX.out.symm.trans hx)
            subst this
            dsimp only
            omega)
        clear HU
        go_wp2_with fail
        go_roundw
        case rel => exact ⟨k + 1, a1, a2, by omega, hlt, by go_num, HME, HU2, HM⟩
        case measure => simp [intOf] <;> omega
    · obtain rfl : k = n := by omega
      have hkk : ¬ ((k : Int) < k) := by omega
      have hall : ∀ x ∈ l, (fun m x : Int × Int => m.2 ≤ x.2) (a1, a2) x := fun x hx => by
        obtain ⟨c, hc⟩ := List.mem_iff_getElem?.1 hx
        exact HU.out c x (by rw [← HN.out]; exact (List.getElem?_eq_some_iff.1 hc).1) hc
      have HALL := hide hall
      clear hall
      clear HU
      have bm : Blk wr pM 68 #[.int .i64 a1, .int .i64 a2] := HM.out.get 0 rfl
      have ltm := bm.lt
      have m0 := bm.c 0 rfl
      have m1 := bm.c 1 rfl
      have br : Blk wr pR 68 #[.int .i64 0, .int .i64 0] := HM.out.get 1 rfl
      have ltr := br.lt
      have r0 := br.c 0 rfl
      have fr0 := br.frozen 0
      have r1 := br.c 1 rfl
      have fr1 := br.frozen 1
      go_wp2_with fail
      refine ret_world fun V hV => ?_
      have hM9 := Mem.to ((HM.out.set_ 1 rfl 0 (.int .i64 a1) (cs' := #[.int .i64 a1, .int .i64 0]) rfl).set_ 1 rfl 1 (.int .i64 a2) (cs' := #[.int .i64 a1, .int .i64 a2]) rfl) hV
      have hb9 := hM9.blk_ 1 rfl
      have q0 := hb9.c 0 rfl
      have q1 := hb9.c 1 rfl
      rw [← HPP.out]
      refine bodyPost_ret (v := .agg #[.int .i64 a1, .int .i64 a2]) (by simp [results, Try.results42, go_sem, q0, q1]) rfl ⟨(a1, a2), HME.out, HALL.out, rfl, hM9.below⟩
set_option maxHeartbeats 2000000 in
set_option maxRecDepth 100000 in
theorem maxX_any (b n c : Nat) (l : List (Int × Int)) (w : World) (hn : l.length = n) (h1 : 1 ≤ n) (h64 : n ≤ 1000000) (hr : MvRow w b c l) :
    Calls Try.prog 43 #[.slice (some ⟨b, 0, none⟩) n c, .func (.func 39) #[] #[]] w (MinPost (fun m x => x.1 ≤ m.1) l w) := by
  obtain ⟨PP, hPP⟩ : ∃ PP, MinPost (fun m x : Int × Int => x.1 ≤ m.1) l w = PP := ⟨_, rfl⟩
  rw [hPP]
  have hrow := fun V (hB : Below w.heap.size w V) => hr.later hB
  obtain ⟨m0, hm0⟩ : ∃ x, l[0]? = some x := ⟨_, List.getElem?_eq_getElem (by omega)⟩
  obtain ⟨cur, hb, hget⟩ := hr
  have hmem0 := List.mem_of_getElem? hm0
  have r0 := hb.c 0 (hget 0 m0 hm0).1
  have r1 := hb.c 1 (hget 0 m0 hm0).2
  have ltr := hb.lt
  obtain ⟨x0, y0⟩ := m0
  dsimp only at r0 r1
  have hcmp := fun V a1 a2 y1 y2 => cmpX a1 a2 y1 y2 V
  have HROW := hide hrow
  have HPP := hide hPP
  have HCMP := hide hcmp
  have HM0 := hide hm0
  have HME := hide hmem0
  have HN := hide hn
  clear hrow hPP hcmp hm0 hmem0 hn
  clear hb hget
  have h1' : ¬ ((n : Int) < 1) := by omega
  go_enter Try.func43, Try.ntmps43
  have HM := hide (Mem.start w)
  go_upto_region 4 with fail
  refine code_world fun W1 hW => ?_
  have HMn := Mem.to (Mem.allocAt (Mem.allocAt HM.out w.heap.size rfl #[.int .i64 0, .int .i64 0] 68) (w.heap.size + 1) (by simp) #[.int .i64 x0, .int .i64 y0] 68) hW
  have LW : Later w W1 := by rw [hW]; exact (((Below.refl _ _).alloc (Nat.le_refl _) _).alloc (by simp; try omega) _)
  have szW : W1.heap.size = w.heap.size + 2 := by rw [hW]; simp
  clear hW
  replace HM := hide HMn
  clear HMn LW
  clear szW r0 r1 ltr
  obtain ⟨pR, hpR⟩ : ∃ q, w.heap.size = q := ⟨_, rfl⟩
  obtain ⟨pM, hpM⟩ : ∃ q, pR + 1 = q := ⟨_, rfl⟩
  rw [show w.heap.size + 1 = pM by omega, hpR] at HM
  simp only [hpR, hpM]
  clear hpR hpM
  have HU := hide (show UpTo (fun x : Int × Int => (fun m x : Int × Int => x.1 ≤ m.1) (x0, y0) x) l 1 from fun c x hc hx => by
    obtain rfl : c = 0 := by omega
    have := Option.some.inj (HM0.out.symm.trans hx)
    subst this
    exact Int.le_refl _)
  go_wp2_with fail
  go_loopw [6] (fun u wr => ∃ k a1 a2, 1 ≤ k ∧ k ≤ n ∧ u = .int .i64 (k : Nat) ∧ Hid ((a1, a2) ∈ l) ∧ Hid (UpTo (fun x : Int × Int => (fun m x : Int × Int => x.1 ≤ m.1) (a1, a2) x) l k) ∧ Hid (Mem w [.blk pM 68 #[.int .i64 a1, .int .i64 a2], .blk pR 68 #[.int .i64 0, .int .i64 0]] wr)) (fun u _ => n - (intOf u).toNat)
  case atStart => exact ⟨1, x0, y0, Nat.le_refl _, h1, rfl, HME, HU, HM⟩
  case round =>
    clear HM HU HM0 HME
    obtain ⟨k, a1, a2, hk1, hkn, rfl, HME, HU, HM⟩ := hrel
    by_cases hlt : k < n
    · have hlt2 : (k : Int) < n := by omega
      obtain ⟨x, hx⟩ : ∃ x, l[k]? = some x := ⟨_, List.getElem?_eq_getElem (by rw [HN.out]; exact hlt)⟩
      have hxm := List.mem_of_getElem? hx
      obtain ⟨cur, hb, hget⟩ := HROW.out wr HM.out.below
      have r0 := hb.c (k * 2) (hget k x hx).1
      have r1 := hb.c (k * 2 + 1) (hget k x hx).2
      have ltr := hb.lt
      obtain ⟨y1, y2⟩ := x
      dsimp only at r0 r1
      have HX := hide hx
      have HXM := hide hxm
      clear hx hxm
      clear hb hget
      have bm : Blk wr pM 68 #[.int .i64 a1, .int .i64 a2] := HM.out.get 0 rfl
      have ltm := bm.lt
      have m0 := bm.c 0 rfl
      have m1 := bm.c 1 rfl
      go_wp2_with fail
      apply wp_region_L (w0 := wr) [[], [], [], [], [], [], [], []] [true, true, true, true, true, true, true, true] [] (fun ixq y => match ixq with  | _ => undef) (fun ixq x F wq => match ixq with  | _ => True) (fun a x => a) (by kernel_rfl) (by kernel_rfl) (fun _ => rfl) [26] (by kernel_rfl)
      · intro x D hD
        have hne := hD.some
        have k0 := liftB hD r0 (by first | assumption | omega)
        have k1 := liftB hD r1 (by first | assumption | omega)
        have k2 := liftB hD m0 (by first | assumption | omega)
        have k3 := liftB hD m1 (by first | assumption | omega)
        simp only [takeOps, Act.put, List.setIfInBounds_toArray, List.set_cons_succ, List.set_cons_zero]
        repeat (go_big_quiet_step ((with_reducible exact calls_later hD _ (HCMP.out _ _ _ _ _))))
        exact wpQuiet_nil rfl
      · intro d hd x x'
        simp only [List.mem_cons, List.not_mem_nil, or_false] at hd
        rcases hd with rfl
        all_goals rfl
      · exact trivial
      · exact trivial
      intro xx w2 F hL hlv3
      clear hlv3
      replace HM := hide (HM.out.later hL)
      clear hL bm ltm m0 m1
      by_cases hR : a1 < y1
      · have ho := ord_gt hR
        generalize ordZ y1 a1 = o at *
        have HU2 := hide (show UpTo (fun x : Int × Int => (fun m x : Int × Int => x.1 ≤ m.1) (y1, y2) x) l (k + 1) from fun c x hc hx => by
          by_cases e : c < k
          · have h := HU.out c x e hx
            dsimp only at h ⊢
            omega
          · obtain rfl : c = k := by omega
            have := Option.some.inj (HX.out.symm.trans hx)
            subst this
            exact Int.le_refl _)
        obtain ⟨cur, hb, hget⟩ := HROW.out w2 HM.out.below
        have r0 := hb.c (k * 2) (hget k _ HX.out).1
        have r1 := hb.c (k * 2 + 1) (hget k _ HX.out).2
        have ltr := hb.lt
        dsimp only at r0 r1
        clear hb hget
        have bm : Blk w2 pM 68 #[.int .i64 a1, .int .i64 a2] := HM.out.get 0 rfl
        have ltm := bm.lt
        have m0 := bm.c 0 rfl
        have fm0 := bm.frozen 0
        have m1 := bm.c 1 rfl
        have fm1 := bm.frozen 1
        go_upto_region 6 with fail
        refine code_world fun w7 hw7 => ?_
        have HM7 := hide (Mem.to ((HM.out.set_ 0 rfl 0 (.int .i64 y1) (cs' := #[.int .i64 y1, .int .i64 a2]) rfl).set_ 0 rfl 1 (.int .i64 y2) (cs' := #[.int .i64 y1, .int .i64 y2]) rfl) hw7)
        clear HM hw7 m0 m1 fm0 fm1 ltm bm r0 r1 ltr HU
        have HM := HM7
        clear HM7
        simp only [List.set_cons_zero] at HM
        go_wp2_with fail
        go_roundw
        case rel => exact ⟨k + 1, y1, y2, by omega, hlt, by go_num, HXM, HU2, HM⟩
        case measure => simp [intOf] <;> omega
      · have ho := ord_ngt hR
        generalize ordZ y1 a1 = o at *
        have HU2 := hide (show UpTo (fun x : Int × Int => (fun m x : Int × Int => x.1 ≤ m.1) (a1, a2) x) l (k + 1) from fun c x hc hx => by
          by_cases e : c < k
          · exact HU.out c x e hx
          · obtain rfl : c = k := by omega
            have := Option.some.inj (HX.out.symm.trans hx)
            subst this
            dsimp only
            omega)
        clear HU
        go_wp2_with fail
        go_roundw
        case rel => exact ⟨k + 1, a1, a2, by omega, hlt, by go_num, HME, HU2, HM⟩
        case measure => simp [intOf] <;> omega
    · obtain rfl : k = n := by omega
      have hkk : ¬ ((k : Int) < k) := by omega
      have hall : ∀ x ∈ l, (fun m x : Int × Int => x.1 ≤ m.1) (a1, a2) x := fun x hx => by
        obtain ⟨c, hc⟩ := List.mem_iff_getElem?.1 hx
        exact HU.out c x (by rw [← HN.out]; exact (List.getElem?_eq_some_iff.1 hc).1) hc
      have HALL := hide hall
      clear hall
      clear HU
      have bm : Blk wr pM 68 #[.int .i64 a1, .int .i64 a2] := HM.out.get 0 rfl
      have ltm := bm.lt
      have m0 := bm.c 0 rfl
      have m1 := bm.c 1 rfl
      have br : Blk wr pR 68 #[.int .i64 0, .int .i64 0] := HM.out.get 1 rfl
      have ltr := br.lt
      have r0 := br.c 0 rfl
      have fr0 := br.frozen 0
      have r1 := br.c 1 rfl
      have fr1 := br.frozen 1
      go_wp2_with fail
      refine ret_world fun V hV => ?_
      have hM9 := Mem.to ((HM.out.set_ 1 rfl 0 (.int .i64 a1) (cs' := #[.int .i64 a1, .int .i64 0]) rfl).set_ 1 rfl 1 (.int .i64 a2) (cs' := #[.int .i64 a1, .int .i64 a2]) rfl) hV
      have hb9 := hM9.blk_ 1 rfl
      have q0 := hb9.c 0 rfl
      have q1 := hb9.c 1 rfl
      rw [← HPP.out]
      refine bodyPost_ret (v := .agg #[.int .i64 a1, .int .i64 a2]) (by simp [results, Try.results43, go_sem, q0, q1]) rfl ⟨(a1, a2), HME.out, HALL.out, rfl, hM9.below⟩
set_option maxHeartbeats 2000000 in
set_option maxRecDepth 100000 in
theorem maxY_any (b n c : Nat) (l : List (Int × Int)) (w : World) (hn : l.length = n) (h1 : 1 ≤ n) (h64 : n ≤ 1000000) (hr : MvRow w b c l) :
    Calls Try.prog 43 #[.slice (some ⟨b, 0, none⟩) n c, .func (.func 41) #[] #[]] w (MinPost (fun m x => x.2 ≤ m.2) l w) := by
  obtain ⟨PP, hPP⟩ : ∃ PP, MinPost (fun m x : Int × Int => x.2 ≤ m.2) l w = PP := ⟨_, rfl⟩
  rw [hPP]
  have hrow := fun V (hB : Below w.heap.size w V) => hr.later hB
  obtain ⟨m0, hm0⟩ : ∃ x, l[0]? = some x := ⟨_, List.getElem?_eq_getElem (by omega)⟩
  obtain ⟨cur, hb, hget⟩ := hr
  have hmem0 := List.mem_of_getElem? hm0
  have r0 := hb.c 0 (hget 0 m0 hm0).1
  have r1 := hb.c 1 (hget 0 m0 hm0).2
  have ltr := hb.lt
  obtain ⟨x0, y0⟩ := m0
  dsimp only at r0 r1
  have hcmp := fun V a1 a2 y1 y2 => cmpY a1 a2 y1 y2 V
  have HROW := hide hrow
  have HPP := hide hPP
  have HCMP := hide hcmp
  have HM0 := hide hm0
  have HME := hide hmem0
  have HN := hide hn
  clear hrow hPP hcmp hm0 hmem0 hn
  clear hb hget
  have h1' : ¬ ((n : Int) < 1) := by omega
  go_enter Try.func43, Try.ntmps43
  have HM := hide (Mem.start w)
  go_upto_region 4 with fail
  refine code_world fun W1 hW => ?_
  have HMn := Mem.to (Mem.allocAt (Mem.allocAt HM.out w.heap.size rfl #[.int .i64 0, .int .i64 0] 68) (w.heap.size + 1) (by simp) #[.int .i64 x0, .int .i64 y0] 68) hW
  have LW : Later w W1 := by rw [hW]; exact (((Below.refl _ _).alloc (Nat.le_refl _) _).alloc (by simp; try omega) _)
  have szW : W1.heap.size = w.heap.size + 2 := by rw [hW]; simp
  clear hW
  replace HM := hide HMn
  clear HMn LW
  clear szW r0 r1 ltr
  obtain ⟨pR, hpR⟩ : ∃ q, w.heap.size = q := ⟨_, rfl⟩
  obtain ⟨pM, hpM⟩ : ∃ q, pR + 1 = q := ⟨_, rfl⟩
  rw [show w.heap.size + 1 = pM by omega, hpR] at HM
  simp only [hpR, hpM]
  clear hpR hpM
  have HU := hide (show UpTo (fun x : Int × Int => (fun m x : Int × Int => x.2 ≤ m.2) (x0, y0) x) l 1 from fun c x hc hx => by
    obtain rfl : c = 0 := by omega
    have := Option.some.inj (HM0.out.symm.trans hx)
    subst this
    exact Int.le_refl _)
  go_wp2_with fail
  go_loopw [6] (fun u wr => ∃ k a1 a2, 1 ≤ k ∧ k ≤ n ∧ u = .int .i64 (k : Nat) ∧ Hid ((a1, a2) ∈ l) ∧ Hid (UpTo (fun x : Int × Int => (fun m x : Int × Int => x.2 ≤ m.2) (a1, a2) x) l k) ∧ Hid (Mem w [.blk pM 68 #[.int .i64 a1, .int .i64 a2], .blk pR 68 #[.int .i64 0, .int .i64 0]] wr)) (fun u _ => n - (intOf u).toNat)
  case atStart => exact ⟨1, x0, y0, Nat.le_refl _, h1, rfl, HME, HU, HM⟩
  case round =>
    clear HM HU HM0 HME
    obtain ⟨k, a1, a2, hk1, hkn, rfl, HME, HU, HM⟩ := hrel
    by_cases hlt : k < n
    · have hlt2 : (k : Int) < n := by omega
      obtain ⟨x, hx⟩ : ∃ x, l[k]? = some x := ⟨_, List.getElem?_eq_getElem (by rw [HN.out]; exact hlt)⟩
      have hxm := List.mem_of_getElem? hx
      obtain ⟨cur, hb, hget⟩ := HROW.out wr HM.out.below
      have r0 := hb.c (k * 2) (hget k x hx).1
      have r1 := hb.c (k * 2 + 1) (hget k x hx).2
      have ltr := hb.lt
      obtain ⟨y1, y2⟩ := x
      dsimp only at r0 r1
      have HX := hide hx
      have HXM := hide hxm
      clear hx hxm
      clear hb hget
      have bm : Blk wr pM 68 #[.int .i64 a1, .int .i64 a2] := HM.out.get 0 rfl
      have ltm := bm.lt
      have m0 := bm.c 0 rfl
      have m1 := bm.c 1 rfl
      go_wp2_with fail
      apply wp_region_L (w0 := wr) [[], [], [], [], [], [], [], []] [true, true, true, true, true, true, true, true] [] (fun ixq y => match ixq with  | _ => undef) (fun ixq x F wq => match ixq with  | _ => True) (fun a x => a) (by kernel_rfl) (by kernel_rfl) (fun _ => rfl) [26] (by kernel_rfl)
      · intro x D hD
        have hne := hD.some
        have k0 := liftB hD r0 (by first | assumption | omega)
        have k1 := liftB hD r1 (by first | assumption | omega)
        have k2 := liftB hD m0 (by first | assumption | omega)
        have k3 := liftB hD m1 (by first | assumption | omega)
        simp only [takeOps, Act.put, List.setIfInBounds_toArray, List.set_cons_succ, List.set_cons_zero]
        repeat (go_big_quiet_step ((with_reducible exact calls_later hD _ (HCMP.out _ _ _ _ _))))
        exact wpQuiet_nil rfl
      · intro d hd x x'
        simp only [List.mem_cons, List.not_mem_nil, or_false] at hd
        rcases hd with rfl
        all_goals rfl
      · exact trivial
      · exact trivial
      intro xx w2 F hL hlv4
      clear hlv4
      replace HM := hide (HM.out.later hL)
      clear hL bm ltm m0 m1
      by_cases hR : a2 < y2
      · have ho := ord_gt hR
        generalize ordZ y2 a2 = o at *
        have HU2 := hide (show UpTo (fun x : Int × Int => (fun m x : Int × Int => x.2 ≤ m.2) (y1, y2) x) l (k + 1) from fun c x hc hx => by
          by_cases e : c < k
          · have h := HU.out c x e hx
            dsimp only at h ⊢
            omega
          · obtain rfl : c = k := by omega
            have := Option.some.inj (HX.out.symm.trans hx)
            subst this
            exact Int.le_refl _)
        obtain ⟨cur, hb, hget⟩ := HROW.out w2 HM.out.below
        have r0 := hb.c (k * 2) (hget k _ HX.out).1
        have r1 := hb.c (k * 2 + 1) (hget k _ HX.out).2
        have ltr := hb.lt
        dsimp only at r0 r1
        clear hb hget
        have bm : Blk w2 pM 68 #[.int .i64 a1, .int .i64 a2] := HM.out.get 0 rfl
        have ltm := bm.lt
        have m0 := bm.c 0 rfl
        have fm0 := bm.frozen 0
        have m1 := bm.c 1 rfl
        have fm1 := bm.frozen 1
        go_upto_region 6 with fail
        refine code_world fun w7 hw7 => ?_
        have HM7 := hide (Mem.to ((HM.out.set_ 0 rfl 0 (.int .i64 y1) (cs' := #[.int .i64 y1, .int .i64 a2]) rfl).set_ 0 rfl 1 (.int .i64 y2) (cs' := #[.int .i64 y1, .int .i64 y2]) rfl) hw7)
        clear HM hw7 m0 m1 fm0 fm1 ltm bm r0 r1 ltr HU
        have HM := HM7
        clear HM7
        simp only [List.set_cons_zero] at HM
        go_wp2_with fail
        go_roundw
        case rel => exact ⟨k + 1, y1, y2, by omega, hlt, by go_num, HXM, HU2, HM⟩
        case measure => simp [intOf] <;> omega
      · have ho := ord_ngt hR
        generalize ordZ y2 a2 = o at *
        have HU2 := hide (show UpTo (fun x : Int × Int => (fun m x : Int × Int => x.2 ≤ m.2) (a1, a2) x) l (k + 1) from fun c x hc hx => by
          by_cases e : c < k
          · exact HU.out c x e hx
          · obtain rfl : c = k := by omega
            have := Option.some.inj (HX.out.symm.trans hx)
            subst this
            dsimp only
            omega)
        clear HU
        go_wp2_with fail
        go_roundw
        case rel => exact ⟨k + 1, a1, a2, by omega, hlt, by go_num, HME, HU2, HM⟩
        case measure => simp [intOf] <;> omega
    · obtain rfl : k = n := by omega
      have hkk : ¬ ((k : Int) < k) := by omega
      have hall : ∀ x ∈ l, (fun m x : Int × Int => x.2 ≤ m.2) (a1, a2) x := fun x hx => by
        obtain ⟨c, hc⟩ := List.mem_iff_getElem?.1 hx
        exact HU.out c x (by rw [← HN.out]; exact (List.getElem?_eq_some_iff.1 hc).1) hc
      have HALL := hide hall
      clear hall
      clear HU
      have bm : Blk wr pM 68 #[.int .i64 a1, .int .i64 a2] := HM.out.get 0 rfl
      have ltm := bm.lt
      have m0 := bm.c 0 rfl
      have m1 := bm.c 1 rfl
      have br : Blk wr pR 68 #[.int .i64 0, .int .i64 0] := HM.out.get 1 rfl
      have ltr := br.lt
      have r0 := br.c 0 rfl
      have fr0 := br.frozen 0
      have r1 := br.c 1 rfl
      have fr1 := br.frozen 1
      go_wp2_with fail
      refine ret_world fun V hV => ?_
      have hM9 := Mem.to ((HM.out.set_ 1 rfl 0 (.int .i64 a1) (cs' := #[.int .i64 a1, .int .i64 0]) rfl).set_ 1 rfl 1 (.int .i64 a2) (cs' := #[.int .i64 a1, .int .i64 a2]) rfl) hV
      have hb9 := hM9.blk_ 1 rfl
      have q0 := hb9.c 0 rfl
      have q1 := hb9.c 1 rfl
      rw [← HPP.out]
      refine bodyPost_ret (v := .agg #[.int .i64 a1, .int .i64 a2]) (by simp [results, Try.results43, go_sem, q0, q1]) rfl ⟨(a1, a2), HME.out, HALL.out, rfl, hM9.below⟩
theorem mv_field0 (x y : Int) (w : World) : (Instr.field 68 (.agg #[.int .i64 x, .int .i64 y]) 0).run Try.prog w = .ok (.int .i64 x) w := by kernel_rfl
theorem mv_field1 (x y : Int) (w : World) : (Instr.field 68 (.agg #[.int .i64 x, .int .i64 y]) 1).run Try.prog w = .ok (.int .i64 y) w := by kernel_rfl
/-- The spans of moves. -/
def HullPost (l : List (Int × Int)) (w : World) (e : Ending) (w' : World) : Prop := ∃ xl xh yl yh : Int, (∀ m ∈ l, xl ≤ m.1 ∧ m.1 ≤ xh ∧ yl ≤ m.2 ∧ m.2 ≤ yh) ∧ (∃ a ∈ l, a.1 = xl) ∧ (∃ a ∈ l, a.1 = xh) ∧ (∃ a ∈ l, a.2 = yl) ∧ (∃ a ∈ l, a.2 = yh) ∧ e = .returned (.tuple #[.agg #[.int .i64 xl, .int .i64 xh], .agg #[.int .i64 yl, .int .i64 yh], .int .i64 0]) ∧ Below w.heap.size w w'
set_option maxHeartbeats 2000000 in
set_option maxRecDepth 100000 in
theorem Hull_any (b n c : Nat) (l : List (Int × Int)) (w : World) (hn : l.length = n) (h1 : 1 ≤ n) (h64 : n ≤ 1000000) (hr : MvRow w b c l) :
    Calls Try.prog 18 #[.slice (some ⟨b, 0, none⟩) n c] w (HullPost l w) := by
  obtain ⟨PP, hPP⟩ : ∃ PP, HullPost l w = PP := ⟨_, rfl⟩
  rw [hPP]
  have h1X := fun V (hB : Below w.heap.size w V) => minX_any b n c l V hn h1 h64 (hr.later hB)
  have h2X := fun V (hB : Below w.heap.size w V) => maxX_any b n c l V hn h1 h64 (hr.later hB)
  have h1Y := fun V (hB : Below w.heap.size w V) => minY_any b n c l V hn h1 h64 (hr.later hB)
  have h2Y := fun V (hB : Below w.heap.size w V) => maxY_any b n c l V hn h1 h64 (hr.later hB)
  have H1X := hide h1X
  have H2X := hide h2X
  have H1Y := hide h1Y
  have H2Y := hide h2Y
  have HPP := hide hPP
  clear h1X h2X h1Y h2Y hPP
  clear hn hr
  have hn0 : ¬ (n : Int) = 0 := by omega
  have hf0 := mv_field0
  have hf1 := mv_field1
  go_enter Try.func18, Try.ntmps18
  have HM := hide (Mem.start w)
  go_upto_region 1 with fail
  refine code_world fun W1 hW => ?_
  have HMn := Mem.to (Mem.allocAt (Mem.allocAt HM.out w.heap.size rfl #[.int .i64 0, .int .i64 0] 60) (w.heap.size + 1) (by simp) #[.int .i64 0, .int .i64 0] 60) hW
  have LW : Later w W1 := by rw [hW]; exact (((Below.refl _ _).alloc (Nat.le_refl _) _).alloc (by simp; try omega) _)
  have szW : W1.heap.size = w.heap.size + 2 := by rw [hW]; simp
  clear hW
  replace HM := hide HMn
  clear HMn LW
  clear szW
  obtain ⟨pX, hpX⟩ : ∃ q, w.heap.size = q := ⟨_, rfl⟩
  obtain ⟨pY, hpY⟩ : ∃ q, pX + 1 = q := ⟨_, rfl⟩
  rw [show w.heap.size + 1 = pY by omega, hpX] at HM
  simp only [hpX, hpY]
  clear hpX hpY
  go_wp2_with fail
  refine (H1X.out W1 HM.out.below).mono ?_
  rintro e w2 ⟨⟨x1, u1⟩, hm1, ha1, rfl, hb2⟩
  replace HM := hide (HM.out.later hb2)
  dsimp only at ha1
  have HM1 := hide hm1
  have HA1 := hide ha1
  clear hm1 ha1
  clear hb2
  go_wp2_with fail
  refine (H2X.out w2 HM.out.below).mono ?_
  rintro e w3 ⟨⟨x2, u2⟩, hm2, ha2, rfl, hb2⟩
  replace HM := hide (HM.out.later hb2)
  dsimp only at ha2
  have HM2 := hide hm2
  have HA2 := hide ha2
  clear hm2 ha2
  clear hb2
  have ba : Blk w3 pX 60 #[.int .i64 0, .int .i64 0] := HM.out.get 1 rfl
  have lta := ba.lt
  have a0 := ba.c 0 rfl
  have fa0 := ba.frozen 0
  have a1 := ba.c 1 rfl
  have fa1 := ba.frozen 1
  go_upto_region 6 with fail
  refine code_world fun w4 hw4 => ?_
  have HM7 := hide (Mem.to ((HM.out.set_ 1 rfl 0 (.int .i64 x1) (cs' := #[.int .i64 x1, .int .i64 0]) rfl).set_ 1 rfl 1 (.int .i64 x2) (cs' := #[.int .i64 x1, .int .i64 x2]) rfl) hw4)
  clear HM hw4 a0 a1 fa0 fa1 lta ba
  have HM := HM7
  clear HM7
  simp only [List.set_cons_zero, List.set_cons_succ] at HM
  go_wp2_with fail
  refine (H1Y.out w4 HM.out.below).mono ?_
  rintro e w5 ⟨⟨u3, y1⟩, hm3, ha3, rfl, hb2⟩
  replace HM := hide (HM.out.later hb2)
  dsimp only at ha3
  have HM3 := hide hm3
  have HA3 := hide ha3
  clear hm3 ha3
  clear hb2
  go_wp2_with fail
  refine (H2Y.out w5 HM.out.below).mono ?_
  rintro e w6 ⟨⟨u4, y2⟩, hm4, ha4, rfl, hb2⟩
  replace HM := hide (HM.out.later hb2)
  dsimp only at ha4
  have HM4 := hide hm4
  have HA4 := hide ha4
  clear hm4 ha4
  clear hb2
  have ba : Blk w6 pY 60 #[.int .i64 0, .int .i64 0] := HM.out.get 0 rfl
  have lta := ba.lt
  have a0 := ba.c 0 rfl
  have fa0 := ba.frozen 0
  have a1 := ba.c 1 rfl
  have fa1 := ba.frozen 1
  go_upto_region 7 with fail
  refine code_world fun w7 hw7 => ?_
  have HM7 := hide (Mem.to ((HM.out.set_ 0 rfl 0 (.int .i64 y1) (cs' := #[.int .i64 y1, .int .i64 0]) rfl).set_ 0 rfl 1 (.int .i64 y2) (cs' := #[.int .i64 y1, .int .i64 y2]) rfl) hw7)
  clear HM hw7 a0 a1 fa0 fa1 lta ba
  have HM := HM7
  clear HM7
  simp only [List.set_cons_zero, List.set_cons_succ] at HM
  have ba : Blk w7 pX 60 #[.int .i64 x1, .int .i64 x2] := HM.out.get 1 rfl
  have lta := ba.lt
  have a0 := ba.c 0 rfl
  have fa0 := ba.frozen 0
  have a1 := ba.c 1 rfl
  have fa1 := ba.frozen 1
  have bb : Blk w7 pY 60 #[.int .i64 y1, .int .i64 y2] := HM.out.get 0 rfl
  have ltb := bb.lt
  have b0 := bb.c 0 rfl
  have fb0 := bb.frozen 0
  have b1 := bb.c 1 rfl
  have fb1 := bb.frozen 1
  have hne : ¬ pX = pY := fun e => HM.out.apart 1 0 rfl rfl (by decide) pX (by simp [Th.fp]) (by rw [e]; simp [Th.fp])
  go_region
  go_wp2_with fail
  refine ret_world fun V hV => ?_
  have hM8 := ((((HM.out.set_ 1 rfl 0 (.int .i64 x1) (cs' := #[.int .i64 x1, .int .i64 x2]) rfl).set_ 1 rfl 1 (.int .i64 x2) (cs' := #[.int .i64 x1, .int .i64 x2]) rfl).set_ 0 rfl 0 (.int .i64 y1) (cs' := #[.int .i64 y1, .int .i64 y2]) rfl).set_ 0 rfl 1 (.int .i64 y2) (cs' := #[.int .i64 y1, .int .i64 y2]) rfl)
  have hM9 := Mem.to (hM8.later (below_drewN (Below.refl _ _) 1)) hV
  have hb9 := hM9.blk_ 1 rfl
  have hc9 := hM9.blk_ 0 rfl
  have q0 := hb9.c 0 rfl
  have q1 := hb9.c 1 rfl
  have t0 := hc9.c 0 rfl
  have t1 := hc9.c 1 rfl
  rw [← HPP.out]
  refine bodyPost_ret (v := .tuple #[.agg #[.int .i64 x1, .int .i64 x2], .agg #[.int .i64 y1, .int .i64 y2], .int .i64 0]) (by simp [results, Try.results18, go_sem, q0, q1, t0, t1]) rfl ⟨x1, x2, y1, y2, fun m hm => ⟨HA1.out m hm, HA2.out m hm, HA3.out m hm, HA4.out m hm⟩, ⟨_, HM1.out, rfl⟩, ⟨_, HM2.out, rfl⟩, ⟨_, HM3.out, rfl⟩, ⟨_, HM4.out, rfl⟩, rfl, hM9.below⟩
end Go.Proofs.Ytidbjidcjmbnlaa
