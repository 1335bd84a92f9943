/-
  Two books have the same values and gains.
-/
import Derived.Test.YtiggefmckomilaaActF
import Derived.Test.YtiggefmckomilaaRegC
import Derived.BigQuiet
set_option linter.unusedSimpArgs false
set_option linter.unusedVariables false
namespace Go.Proofs.Ytiggefmckomilaa
open Go Go.RowKit

def outB (bt : Nat → ByteArray) (m : Nat) (n : ByteArray) : Bool := (List.range m).any fun k => (bt k).toList == n.toList
theorem outB_succ (bt : Nat → ByteArray) (m : Nat) (n : ByteArray) : outB bt (m + 1) n = (outB bt m n || (bt m).toList == n.toList) := by unfold outB; rw [List.range_succ]; simp
structure SameP (l1 l2 : List Ent) (ac : Nat → ActR) (n : Nat) (bt : Nat → ByteArray) (m : Nat) : Prop where
  val : ∀ i, i < n → outB bt m (ac i).nm = false → ∀ t, valueE l1 (ac i).nm t = valueE l2 (ac i).nm t
  out : ∀ i, i < n → outB bt m (ac i).nm = true → ∀ t, (valueE l1 (ac i).nm t).2 = 22
  gain : ∀ i, i < n → ∀ t, (gainE l1 (ac i).nm t).1 = (gainE l2 (ac i).nm t).1 ∧ (gainE l1 (ac i).nm t).2.2 = (gainE l2 (ac i).nm t).2.2
def timeN (a : ActR) (j : Nat) : Int := if j = 0 then a.tm else if j = 1 then a.un else 200000
theorem time_at (a : ActR) {j : Nat} (hj : j < 3) : ([.int .i64 a.tm, .int .i64 a.un, .int .i64 200000] : List Value)[j]? = some (.int .i64 (timeN a j)) := by
  have : j = 0 ∨ j = 1 ∨ j = 2 := by omega
  rcases this with rfl | rfl | rfl <;> rfl

set_option maxHeartbeats 4000000 in
set_option maxRecDepth 100000 in
theorem same_any (l1 l2 : List Ent) (p1 p2 : Nat) (L1 L2 : Lay) (ac : Nat → ActR) (A : Option Addr) (n c : Nat) (bt : Nat → ByteArray) (B : Option Addr) (m cb : Nat) (w : World) (hb1 : BookR l1 p1 L1 w) (hb2 : BookR l2 p2 L2 w)
    (hrow : Rows_ w w.heap.size A n 8 (fun i => actL (ac i))) (hbut : Rows_ w w.heap.size B m 1 (fun i => [.string (bt i)])) (hok : ∀ i, ActOk (ac i)) (hn : n ≤ maxLen) (hm : m ≤ maxLen) (hS : SameP l1 l2 ac n bt m) :
    Calls Try.prog 28 #[ptrB p1, ptrB p2, .slice A n c, .slice B m cb] w fun e w' => e = .returned (.bool true) ∧ Below w.heap.size w w' := by
  have hn63 : (n : Int) ≤ 9223372036854775807 := by unfold maxLen at hn; omega
  have hm63 : (m : Int) ≤ 9223372036854775807 := by unfold maxLen at hm; omega
  unfold ptrB
  have hv1 := fun (nm : ByteArray) (h : nm.size ≤ maxLen) (t : Int) (W : World) (hW : Below w.heap.size w W) => Value_any l1 p1 L1 nm t W (hb1.later hW) h
  have hv2 := fun (nm : ByteArray) (h : nm.size ≤ maxLen) (t : Int) (W : World) (hW : Below w.heap.size w W) => Value_any l2 p2 L2 nm t W (hb2.later hW) h
  have hg1 := fun (nm : ByteArray) (h : nm.size ≤ maxLen) (t : Int) (W : World) (hW : Below w.heap.size w W) => Gain_any l1 p1 L1 nm t W (hb1.later hW) h
  have hg2 := fun (nm : ByteArray) (h : nm.size ≤ maxLen) (t : Int) (W : World) (hW : Below w.heap.size w W) => Gain_any l2 p2 L2 nm t W (hb2.later hW) h
  unfold ptrB spanE at hv1 hv2
  unfold ptrB gainV at hg1 hg2
  clear hb1 hb2
  have Hv1 := hide hv1
  have Hv2 := hide hv2
  have Hg1 := hide hg1
  have Hg2 := hide hg2
  have Hrow := hide hrow
  have Hbut := hide hbut
  have Hok := hide hok
  have HS := hide hS
  clear hv1 hv2 hg1 hg2 hrow hbut hok hS
  go_enter Try.func28, Try.ntmps28
  have HM := hide (Mem.start w)
  go_wp2_with fail
  go_loopw [9] (fun i wr => ∃ k : Nat, k ≤ n ∧ i = .int .i64 k ∧ Mem w [] wr) (fun i _ => n - (intOf i).toNat)
  case atStart => exact ⟨0, Nat.zero_le _, rfl, HM.out⟩
  case round =>
    obtain ⟨k, hkn, rfl, hM⟩ := hrel
    clear HM
    have HM := hide hM
    clear hM
    by_cases hk : k < n
    · have hk' : (k : Int) < n := by omega
      obtain ⟨b, off, hA, hltb, hc⟩ := Hrow.out (by omega)
      have q1 := hc k hk 1 (.string (ac k).nm) rfl
      have q5 := hc k hk 5 (.int .i64 (ac k).tm) rfl
      have q6 := hc k hk 6 (.int .i64 (ac k).un) rfl
      subst hA
      have hnm := (Hok.out k).nm
      have hsv := HS.out.val k hk
      have hso := HS.out.out k hk
      have hsg := HS.out.gain k hk
      have hta := fun j hj => time_at (ac k) (j := j) hj
      obtain ⟨nm, hnmE⟩ : ∃ nm, (ac k).nm = nm := ⟨_, rfl⟩
      rw [hnmE] at q1 hnm hsv hso hsg
      generalize htf : timeN (ac k) = tf at hta
      generalize (ac k).tm = tm at *
      generalize (ac k).un = un at *
      have Q1 := hide q1
      have Q5 := hide q5
      have Q6 := hide q6
      have Hsv := hide hsv
      have Hso := hide hso
      have Hsg := hide hsg
      have Hta := hide hta
      clear q1 q5 q6 hsv hso hsg hta
      clear hc htf hnmE
      go_wp2_with fail
      go_loopw [10, 11] (fun o i wr2 => ∃ j : Nat, j ≤ m ∧ i = .int .i64 j ∧ o = .bool (outB bt j nm) ∧ Mem w [] wr2) (fun _ i _ => m - (intOf i).toNat)
      case atStart => exact ⟨0, Nat.zero_le _, rfl, rfl, HM.out⟩
      case round =>
        obtain ⟨j, hjm, rfl, rfl, hM⟩ := hrel
        clear HM
        have HM := hide hM
        clear hM
        have q1 := Q1.out
        rw [← HM.out.below.cell hltb] at q1
        have ltq : b < wr.heap.size := Nat.lt_of_lt_of_le hltb HM.out.size
        by_cases hj : j < m
        · have hj' : (j : Int) < m := by omega
          obtain ⟨bb, ob, hB, hltB, hc⟩ := Hbut.out (by omega)
          have r1 := hc j hj 0 (.string (bt j)) rfl
          rw [← HM.out.below.cell hltB] at r1
          rw [Nat.mul_one, Nat.add_zero] at r1
          have ltB : bb < wr.heap.size := Nat.lt_of_lt_of_le hltB HM.out.size
          clear hc
          subst hB
          have hos := outB_succ bt j nm
          obtain ⟨o1, ho1⟩ : ∃ o1, outB bt j nm = o1 := ⟨_, rfl⟩
          rw [ho1] at hos ⊢
          have Hos := hide hos
          clear hos ho1
          generalize bt j = bn at *
          cases o1 with
          | true =>
            go_wp2_with fail
            go_quiet (fail)
            have hL : Below wr.heap.size wr (wr.drewN nq) := below_drewN (Below.refl _ _) _
            generalize (wr.drewN nq : World) = w2 at hL ⊢
            clear q1 ltq r1 ltB
            replace HM := hide (HM.out.later hL)
            clear hL
            go_wp2_with fail
            go_roundw
            case rel => exact ⟨j + 1, hj, by go_num, by rw [Hos.out]; rfl, HM.out⟩
            case measure => simp [intOf] <;> omega
          | false =>
            go_wp2_with fail
            go_quiet (fail)
            have hL : Below wr.heap.size wr (wr.drewN nq) := below_drewN (Below.refl _ _) _
            generalize (wr.drewN nq : World) = w2 at hL ⊢
            clear q1 ltq r1 ltB
            replace HM := hide (HM.out.later hL)
            clear hL
            go_wp2_with fail
            go_roundw
            case rel => exact ⟨j + 1, hj, by go_num, by rw [Hos.out]; rfl, HM.out⟩
            case measure => simp [intOf] <;> omega
        · obtain rfl : j = m := by omega
          have hjj : ¬ ((j : Int) < j) := by omega
          obtain ⟨ou, hou⟩ : ∃ ou, outB bt j nm = ou := ⟨_, rfl⟩
          rw [hou]
          have q5 := Q5.out
          rw [← HM.out.below.cell hltb] at q5
          have q6 := Q6.out
          rw [← HM.out.below.cell hltb] at q6
          go_wp2_with fail
          apply wp_region_L (w0 := wr) [[], [], [], [], [], [], [], [], [], [], [], [10]] [true, true, true, true, true, true, true, true, true, true, false, true] [⟨10, none, [], []⟩] (fun ixq y => match ixq with | 10 => .slice (y 0).1 3 3 | _ => undef) (fun ixq x F wq => match ixq with | 10 => OwnF wq F wr.heap.size 3 1 (.slice (x 10 0).1 3 3) 3 #[.int .i64 tm, .int .i64 un, .int .i64 200000].toList | _ => True) (fun a x => (a).put (some 53) (.slice ((x 10) 0).1 3 3)) (by kernel_rfl) (by kernel_rfl) (fun _ => rfl) [] (by kernel_rfl)
          · intro x D hD
            have hne := hD.some
            have k5 := liftB hD q5 (by first | assumption | omega)
            have k6 := liftB hD q6 (by first | assumption | omega)
            simp only [takeOps, Act.put, List.setIfInBounds_toArray, List.set_cons_succ, List.set_cons_zero]
            repeat (go_big_quiet_step (fail))
            exact wpQuiet_nil rfl
          · exact fun _ h => absurd h (by simp)
          · refine ⟨?_, trivial⟩
            · exact obl_new rfl (fun _ => by kernel_rfl) 3 (fun x => #[.int .i64 tm, .int .i64 un, .int .i64 200000]) gP (fun x w => by kernel_rfl) (fun x w hle => own_new hle rfl (by unfold maxLen; omega))
          · refine ⟨?_, trivial⟩
            · refine ⟨fun x F wq wq' h hs hk => ?_, fun x x' F wq hx h => ?_⟩
              · have h2 : OwnF wq F wr.heap.size 3 1 (.slice (x 10 0).1 3 3) 3 #[.int .i64 tm, .int .i64 un, .int .i64 200000].toList := h
                exact h2.stab hk
              · have h2 : OwnF wq F wr.heap.size 3 1 (.slice (x 10 0).1 3 3) 3 #[.int .i64 tm, .int .i64 un, .int .i64 200000].toList := h
                rw [hx 10 (by simp)] at h2
                exact h2
          intro xx w2 F hL hlv1
          obtain ⟨fct10, -⟩ := hlv1
          replace fct10 : OwnF w2 (F 10) wr.heap.size 3 1 (.slice (xx 10 0).1 3 3) 3 #[.int .i64 tm, .int .i64 un, .int .i64 200000].toList := fct10 rfl
          clear q1 ltq q5 q6
          obtain ⟨bT, curT, hTe, hTs, hbT, hT1, hT2, hcT⟩ := row_blk fct10.1 (by decide)
          have HM1 := hide (HM.out.add (t := .blk bT 3 curT) hL (show Blk _ _ _ _ from hbT) (fun z hz => by rw [List.mem_singleton.1 hz]; exact hTs))
          clear HM hL hbT hTs fct10
          have HM := HM1
          clear HM1
          rw [hTe]
          have HcT := hide hcT
          clear hcT
          clear hT1 hT2 hTe
          go_wp2_with fail
          go_loopw [13] (fun i wr3 => ∃ j : Nat, j ≤ 3 ∧ i = .int .i64 j ∧ Mem w [.blk bT 3 curT] wr3) (fun i _ => 3 - (intOf i).toNat)
          case atStart => exact ⟨0, Nat.zero_le _, rfl, HM.out⟩
          case round =>
            obtain ⟨y, hy3, rfl, hM⟩ := hrel
            clear HM
            have HM := hide hM
            clear hM
            by_cases hy : y < 3
            · have q1 := Q1.out
              rw [← HM.out.below.cell hltb] at q1
              have ltq : b < wr.heap.size := Nat.lt_of_lt_of_le hltb HM.out.size
              have Hcy := hide (HcT.out y _ (Hta.out y hy))
              generalize hty : tf y = ty at Hcy
              have hy' : (y : Int) < 3 := by omega
              clear q1 ltq
              obtain ⟨v1, hv1⟩ : ∃ v, valueE l1 nm ty = v := ⟨_, rfl⟩
              obtain ⟨v2, hv2⟩ : ∃ v, valueE l2 nm ty = v := ⟨_, rfl⟩
              obtain ⟨g1, hg1⟩ : ∃ v, gainE l1 nm ty = v := ⟨_, rfl⟩
              obtain ⟨g2, hg2⟩ : ∃ v, gainE l2 nm ty = v := ⟨_, rfl⟩
              have e1 := fun h => Hsv.out h ty
              have e2 := fun h => Hso.out h ty
              have e3 := Hsg.out ty
              have cv1 := fun W h => Hv1.out nm hnm ty W h
              have cv2 := fun W h => Hv2.out nm hnm ty W h
              have cg1 := fun W h => Hg1.out nm hnm ty W h
              have cg2 := fun W h => Hg2.out nm hnm ty W h
              rw [hv1, hv2] at e1
              rw [hv1] at e2
              rw [hg1, hg2] at e3
              simp only [hv1] at cv1
              simp only [hv2] at cv2
              simp only [hg1] at cg1
              simp only [hg2] at cg2
              obtain ⟨⟨va, vb⟩, ve⟩ := v1
              obtain ⟨⟨ua, ub⟩, ue⟩ := v2
              obtain ⟨⟨ga, gb⟩, ⟨gi, gj⟩, ge⟩ := g1
              obtain ⟨⟨ka, kb'⟩, ⟨ki, kj⟩, ke⟩ := g2
              simp only [Prod.mk.injEq] at e1 e2 e3 cv1 cv2 cg1 cg2
              obtain ⟨⟨rfl, rfl⟩, rfl⟩ := e3
              clear hv1 hv2 hg1 hg2 hty
              have Cv1 := hide cv1
              have Cv2 := hide cv2
              have Cg1 := hide cg1
              have Cg2 := hide cg2
              have E1 := hide e1
              have E2 := hide e2
              clear cv1 cv2 cg1 cg2 e1 e2
              have q1 := Q1.out
              rw [← HM.out.below.cell hltb] at q1
              have ltq : b < wr.heap.size := Nat.lt_of_lt_of_le hltb HM.out.size
              have bT0 := Mem.blk_ HM.out 0 rfl
              have y0 := bT0.c _ Hcy.out
              have lty := bT0.lt
              clear bT0
              go_wp2_with fail
              apply wp_region_L (w0 := wr) [[], [], [], [], [], [], [], [], [], [], [], [], [], [], [], [14], [14, 15]] [true, true, true, true, true, true, true, true, true, true, true, true, true, true, false, false, true] [⟨14, none, [], []⟩, ⟨15, some 14, [14], [14]⟩] (fun ixq y => match ixq with | 14 => .pointer (y 0).1 | 15 => undef | _ => undef) (fun ixq x F wq => match ixq with | 14 => PtrF wq F wr.heap.size (x 14 0).1 23 #[.int .i64 0, .int .i64 0] | 15 => PtrF wq F wr.heap.size (x 14 0).1 23 #[.int .i64 va, .int .i64 vb] | _ => True) (fun a x => ((a).put (some 14) (.pointer ((x 14) 0).1)).put (none) (undef)) (by kernel_rfl) (by kernel_rfl) (fun _ => rfl) [71] (by kernel_rfl)
              · intro x D hD
                have hne := hD.some
                have k1 := liftB hD q1 (by first | assumption | omega)
                have k2 := liftB hD y0 (by first | assumption | omega)
                simp only [takeOps, Act.put, List.setIfInBounds_toArray, List.set_cons_succ, List.set_cons_zero]
                repeat (go_big_quiet_step ((go_at_call 22; exact calls_later hD _ (Cv1.out _ (onward HM.out.below (kb hD _))))))
                exact wpQuiet_nil rfl
              · intro d hd x x'
                simp only [List.mem_cons, List.not_mem_nil, or_false] at hd
                rcases hd with rfl
                all_goals rfl
              · refine ⟨?_, ?_, trivial⟩
                · exact obl_alloc 23 14 (.agg #[.int .i64 0, .int .i64 0]) (by kernel_rfl) (by kernel_rfl) (fun _ => rfl) (fun _ _ _ h => h)
                · refine obl_store 23 14 72 14 #[.int .i64 0, .int .i64 0] (fun x => #[.int .i64 va, .int .i64 vb]) (by kernel_rfl) rfl (by simp) (fun _ _ _ h => h) (fun _ => rfl) (fun _ => rfl) (fun _ => by kernel_rfl) (fun _ => rfl) (fun _ => by simp [Value.oneCell']) (fun _ => rfl) (by decide) (fun _ _ _ _ h => h)
              · refine ⟨?_, ?_, trivial⟩
                · exact owe_ptr 14 _ _ (fun x => #[.int .i64 0, .int .i64 0]) (fun _ _ _ => rfl) (by simp) (fun _ _ _ => rfl)
                · exact owe_ptr 14 _ _ (fun x => #[.int .i64 va, .int .i64 vb]) (fun _ _ _ => rfl) (by simp) (fun _ _ _ => rfl)
              intro xx w3 F hL hlv2
              obtain ⟨-, fct15, -⟩ := hlv2
              replace fct15 : PtrF w3 (F 15) wr.heap.size (xx 14 0).1 23 #[.int .i64 va, .int .i64 vb] := fct15 rfl
              clear q1 ltq y0 lty
              obtain ⟨gx, hgs, hge, -, hbg⟩ := fct15
              rw [hgs]
              have HM1 := hide (HM.out.add (t := .blk gx 23 _) hL (show Blk _ _ _ _ from hbg) (fun k hk => by rw [List.mem_singleton.1 hk]; exact hge))
              clear HM hL hbg hge hgs
              have HM := HM1
              clear HM1
              have q1 := Q1.out
              rw [← HM.out.below.cell hltb] at q1
              have ltq : b < w3.heap.size := Nat.lt_of_lt_of_le hltb HM.out.size
              have bT0 := Mem.blk_ HM.out 1 rfl
              have y0 := bT0.c _ Hcy.out
              have lty := bT0.lt
              clear bT0
              go_wp2_with fail
              apply wp_region_L (w0 := w3) [[], [], [], [], [], [], [], [], [], [], [], [], [], [], [], [14], [14, 15]] [true, true, true, true, true, true, true, true, true, true, true, true, true, true, false, false, true] [⟨14, none, [], []⟩, ⟨15, some 14, [14], [14]⟩] (fun ixq y => match ixq with | 14 => .pointer (y 0).1 | 15 => undef | _ => undef) (fun ixq x F wq => match ixq with | 14 => PtrF wq F w3.heap.size (x 14 0).1 23 #[.int .i64 0, .int .i64 0] | 15 => PtrF wq F w3.heap.size (x 14 0).1 23 #[.int .i64 ua, .int .i64 ub] | _ => True) (fun a x => ((a).put (some 16) (.pointer ((x 14) 0).1)).put (none) (undef)) (by kernel_rfl) (by kernel_rfl) (fun _ => rfl) [85] (by kernel_rfl)
              · intro x D hD
                have hne := hD.some
                have k1 := liftB hD q1 (by first | assumption | omega)
                have k2 := liftB hD y0 (by first | assumption | omega)
                simp only [takeOps, Act.put, List.setIfInBounds_toArray, List.set_cons_succ, List.set_cons_zero]
                repeat (go_big_quiet_step ((go_at_call 22; exact calls_later hD _ (Cv2.out _ (onward HM.out.below (kb hD _))))))
                exact wpQuiet_nil rfl
              · intro d hd x x'
                simp only [List.mem_cons, List.not_mem_nil, or_false] at hd
                rcases hd with rfl
                all_goals rfl
              · refine ⟨?_, ?_, trivial⟩
                · exact obl_alloc 23 16 (.agg #[.int .i64 0, .int .i64 0]) (by kernel_rfl) (by kernel_rfl) (fun _ => rfl) (fun _ _ _ h => h)
                · refine obl_store 23 16 86 14 #[.int .i64 0, .int .i64 0] (fun x => #[.int .i64 ua, .int .i64 ub]) (by kernel_rfl) rfl (by simp) (fun _ _ _ h => h) (fun _ => rfl) (fun _ => rfl) (fun _ => by kernel_rfl) (fun _ => rfl) (fun _ => by simp [Value.oneCell']) (fun _ => rfl) (by decide) (fun _ _ _ _ h => h)
              · refine ⟨?_, ?_, trivial⟩
                · exact owe_ptr 14 _ _ (fun x => #[.int .i64 0, .int .i64 0]) (fun _ _ _ => rfl) (by simp) (fun _ _ _ => rfl)
                · exact owe_ptr 14 _ _ (fun x => #[.int .i64 ua, .int .i64 ub]) (fun _ _ _ => rfl) (by simp) (fun _ _ _ => rfl)
              intro xx w4 F hL hlv3
              obtain ⟨-, fct15, -⟩ := hlv3
              replace fct15 : PtrF w4 (F 15) w3.heap.size (xx 14 0).1 23 #[.int .i64 ua, .int .i64 ub] := fct15 rfl
              clear q1 ltq y0 lty
              obtain ⟨gy, hgs, hge, -, hbg⟩ := fct15
              rw [hgs]
              have HM1 := hide (HM.out.add (t := .blk gy 23 _) hL (show Blk _ _ _ _ from hbg) (fun k hk => by rw [List.mem_singleton.1 hk]; exact hge))
              clear HM hL hbg hge hgs
              have HM := HM1
              clear HM1
              cases ou with
              | false =>
                obtain ⟨⟨rfl, rfl⟩, rfl⟩ := E1.out hou
                have bz : Blk w4 gx 23 #[.int .i64 va, .int .i64 vb] := HM.out.get 1 rfl
                have ltz := bz.lt
                have z0 := bz.c 0 rfl
                have z1 := bz.c 1 rfl
                have bu : Blk w4 gy 23 #[.int .i64 va, .int .i64 vb] := HM.out.get 0 rfl
                have ltu := bu.lt
                have u0 := bu.c 0 rfl
                have u1 := bu.c 1 rfl
                go_wp2_with fail
                have q1 := Q1.out
                rw [← HM.out.below.cell hltb] at q1
                have ltq : b < w4.heap.size := Nat.lt_of_lt_of_le hltb HM.out.size
                have bT0 := Mem.blk_ HM.out 2 rfl
                have y0 := bT0.c _ Hcy.out
                have lty := bT0.lt
                clear bT0
                apply wp_region_F (w0 := w4) [[], [], [], [1, 2], [1, 2, 3], [1, 2, 3, 4], [], [], [6, 7], [6, 7, 8], [0, 1, 2, 3, 4, 5, 6, 7, 8, 9], [0, 1, 2, 3, 4, 5, 6, 7, 8, 9, 10], [0, 1, 2, 3, 4, 5, 6, 7, 8, 9, 10, 11], [0, 1, 2, 3, 4, 5, 6, 7, 8, 9, 10, 11], [0, 1, 2, 3, 4, 5, 6, 7, 8, 9, 10, 11], [0, 1, 2, 3, 4, 5, 6, 7, 8, 9, 10, 11, 12], [0, 1, 2, 3, 4, 5, 6, 7, 8, 9, 10, 11, 12, 13, 14, 15]] [true, true, true, true, true, true, true, true, true, true, true, true, true, false, false, false, false] [false, false, false, false, false, false, false, false, false, false, false, false, false, true, true, false, true] [⟨15, none, [], []⟩] [(15, gx)] [15] (fun ixq y => match ixq with | 15 => undef | _ => undef) (fun ixq x F wq => match ixq with | 15 => F gx ∧ Blk wq gx 23 #[.int .i64 ga, .int .i64 gb] | _ => True) (fun a x => (a).put (none) (undef)) (by kernel_rfl) (by kernel_rfl) (by kernel_rfl) (fun _ => rfl) [118] (by kernel_rfl) (fills_lt1 (by omega)) fills_ne1
                · intro x D hD
                  have hne := hD.some
                  have k1 := liftS hD q1 (by exact early_all (by first | assumption | omega) (by rfl))
                  have k2 := liftS hD y0 (by exact early_all (by first | assumption | omega) (by rfl))
                  simp only [takeOps, Act.put, List.setIfInBounds_toArray, List.set_cons_succ, List.set_cons_zero]
                  repeat (go_big_quiet_step ((go_at_call 24; exact calls_later hD _ (Cg1.out _ (onward HM.out.below (kbS hD (fun k hk => early_all hk (by rfl)) _))))))
                  exact wpQuiet_nil rfl
                · intro x D hD
                  have hne := hD.some
                  simp only [takeOps, Act.put, List.setIfInBounds_toArray, List.set_cons_succ, List.set_cons_zero]
                  repeat (go_big_quiet_step ((go_at_call 24; exact calls_later hD _ (Cg1.out _ (onward HM.out.below (kbS hD (fun k hk => early_all hk (by rfl)) _))))))
                  exact wpQuiet_nil rfl
                · intro d hd x x'
                  simp only [List.mem_cons, List.not_mem_nil, or_false] at hd
                  rcases hd with rfl
                  all_goals rfl
                · refine ⟨?_, trivial⟩
                  · exact obl_fill 23 23 14 119 gx _ (fun x => #[.int .i64 ga, .int .i64 gb]) (by kernel_rfl) (fun _ => rfl) (fun _ => rfl) bz eb_fill1 (by simp [wrF]) (fun _ => by kernel_rfl) (fun _ => rfl) (fun _ => by simp [Value.oneCell']) (fun _ => rfl) (fun _ _ _ _ h1 h2 => ⟨h1, h2⟩)
                · refine ⟨?_, trivial⟩
                  · exact owe_fill gx 23 (fun x => #[.int .i64 ga, .int .i64 gb]) (fun _ _ _ => rfl) (fun _ _ _ => rfl)
                intro xx w5 F hK hlv4
                obtain ⟨fct15, -⟩ := hlv4
                replace fct15 : (F 15) gx ∧ Blk w5 gx 23 #[.int .i64 ga, .int .i64 gb] := fct15 rfl
                clear q1 ltq y0 lty
                clear bz ltz z0 z1 bu ltu u0 u1
                have HM1 := hide (HM.out.filled 1 rfl hK (by simp) fct15.2)
                clear HM hK fct15
                have HM := HM1
                clear HM1
                have bu : Blk w5 gy 23 #[.int .i64 va, .int .i64 vb] := HM.out.get 0 rfl
                have ltu := bu.lt
                have u0 := bu.c 0 rfl
                have u1 := bu.c 1 rfl
                go_wp2_with fail
                have q1 := Q1.out
                rw [← HM.out.below.cell hltb] at q1
                have ltq : b < w5.heap.size := Nat.lt_of_lt_of_le hltb HM.out.size
                have bT0 := Mem.blk_ HM.out 2 rfl
                have y0 := bT0.c _ Hcy.out
                have lty := bT0.lt
                clear bT0
                apply wp_region_F (w0 := w5) [[], [], [], [1, 2], [1, 2, 3], [1, 2, 3, 4], [], [], [6, 7], [6, 7, 8], [0, 1, 2, 3, 4, 5, 6, 7, 8, 9], [0, 1, 2, 3, 4, 5, 6, 7, 8, 9, 10], [0, 1, 2, 3, 4, 5, 6, 7, 8, 9, 10, 11], [0, 1, 2, 3, 4, 5, 6, 7, 8, 9, 10, 11], [0, 1, 2, 3, 4, 5, 6, 7, 8, 9, 10, 11], [0, 1, 2, 3, 4, 5, 6, 7, 8, 9, 10, 11, 12], [0, 1, 2, 3, 4, 5, 6, 7, 8, 9, 10, 11, 12, 13, 14, 15]] [true, true, true, true, true, true, true, true, true, true, true, true, true, false, false, false, false] [false, false, false, false, false, false, false, false, false, false, false, false, false, true, true, false, true] [⟨15, none, [], []⟩] [(15, gy)] [15] (fun ixq y => match ixq with | 15 => undef | _ => undef) (fun ixq x F wq => match ixq with | 15 => F gy ∧ Blk wq gy 23 #[.int .i64 ga, .int .i64 gb] | _ => True) (fun a x => (a).put (none) (undef)) (by kernel_rfl) (by kernel_rfl) (by kernel_rfl) (fun _ => rfl) [133] (by kernel_rfl) (fills_lt1 (by omega)) fills_ne1
                · intro x D hD
                  have hne := hD.some
                  have k1 := liftS hD q1 (by exact early_all (by first | assumption | omega) (by rfl))
                  have k2 := liftS hD y0 (by exact early_all (by first | assumption | omega) (by rfl))
                  simp only [takeOps, Act.put, List.setIfInBounds_toArray, List.set_cons_succ, List.set_cons_zero]
                  repeat (go_big_quiet_step ((go_at_call 24; exact calls_later hD _ (Cg2.out _ (onward HM.out.below (kbS hD (fun k hk => early_all hk (by rfl)) _))))))
                  exact wpQuiet_nil rfl
                · intro x D hD
                  have hne := hD.some
                  simp only [takeOps, Act.put, List.setIfInBounds_toArray, List.set_cons_succ, List.set_cons_zero]
                  repeat (go_big_quiet_step ((go_at_call 24; exact calls_later hD _ (Cg2.out _ (onward HM.out.below (kbS hD (fun k hk => early_all hk (by rfl)) _))))))
                  exact wpQuiet_nil rfl
                · intro d hd x x'
                  simp only [List.mem_cons, List.not_mem_nil, or_false] at hd
                  rcases hd with rfl
                  all_goals rfl
                · refine ⟨?_, trivial⟩
                  · exact obl_fill 23 23 16 134 gy _ (fun x => #[.int .i64 ga, .int .i64 gb]) (by kernel_rfl) (fun _ => rfl) (fun _ => rfl) bu eb_fill1 (by simp [wrF]) (fun _ => by kernel_rfl) (fun _ => rfl) (fun _ => by simp [Value.oneCell']) (fun _ => rfl) (fun _ _ _ _ h1 h2 => ⟨h1, h2⟩)
                · refine ⟨?_, trivial⟩
                  · exact owe_fill gy 23 (fun x => #[.int .i64 ga, .int .i64 gb]) (fun _ _ _ => rfl) (fun _ _ _ => rfl)
                intro xx w6 F hK hlv5
                obtain ⟨fct15, -⟩ := hlv5
                replace fct15 : (F 15) gy ∧ Blk w6 gy 23 #[.int .i64 ga, .int .i64 gb] := fct15 rfl
                clear q1 ltq y0 lty
                clear bu ltu u0 u1
                have HM1 := hide (HM.out.filled 0 rfl hK (by simp) fct15.2)
                clear HM hK fct15
                have HM := HM1
                clear HM1
                have bz : Blk w6 gx 23 #[.int .i64 ga, .int .i64 gb] := HM.out.get 1 rfl
                have ltz := bz.lt
                have z0 := bz.c 0 rfl
                have z1 := bz.c 1 rfl
                have bu : Blk w6 gy 23 #[.int .i64 ga, .int .i64 gb] := HM.out.get 0 rfl
                have ltu := bu.lt
                have u0 := bu.c 0 rfl
                have u1 := bu.c 1 rfl
                go_wp2_with fail
                go_roundw
                case rel => exact ⟨y + 1, hy, by go_num, HM.out.tail.tail⟩
                case measure => simp [intOf] <;> omega
              | true =>
                obtain rfl := E2.out hou
                have bz : Blk w4 gx 23 #[.int .i64 va, .int .i64 vb] := HM.out.get 1 rfl
                have ltz := bz.lt
                have z0 := bz.c 0 rfl
                have z1 := bz.c 1 rfl
                have bu : Blk w4 gy 23 #[.int .i64 ua, .int .i64 ub] := HM.out.get 0 rfl
                have ltu := bu.lt
                have u0 := bu.c 0 rfl
                have u1 := bu.c 1 rfl
                go_wp2_with fail
                have q1 := Q1.out
                rw [← HM.out.below.cell hltb] at q1
                have ltq : b < w4.heap.size := Nat.lt_of_lt_of_le hltb HM.out.size
                have bT0 := Mem.blk_ HM.out 2 rfl
                have y0 := bT0.c _ Hcy.out
                have lty := bT0.lt
                clear bT0
                apply wp_region_F (w0 := w4) [[], [], [], [1, 2], [1, 2, 3], [1, 2, 3, 4], [], [], [6, 7], [6, 7, 8], [0, 1, 2, 3, 4, 5, 6, 7, 8, 9], [0, 1, 2, 3, 4, 5, 6, 7, 8, 9, 10], [0, 1, 2, 3, 4, 5, 6, 7, 8, 9, 10, 11], [0, 1, 2, 3, 4, 5, 6, 7, 8, 9, 10, 11], [0, 1, 2, 3, 4, 5, 6, 7, 8, 9, 10, 11], [0, 1, 2, 3, 4, 5, 6, 7, 8, 9, 10, 11, 12], [0, 1, 2, 3, 4, 5, 6, 7, 8, 9, 10, 11, 12, 13, 14, 15]] [true, true, true, true, true, true, true, true, true, true, true, true, true, false, false, false, false] [false, false, false, false, false, false, false, false, false, false, false, false, false, true, true, false, true] [⟨15, none, [], []⟩] [(15, gx)] [15] (fun ixq y => match ixq with | 15 => undef | _ => undef) (fun ixq x F wq => match ixq with | 15 => F gx ∧ Blk wq gx 23 #[.int .i64 ga, .int .i64 gb] | _ => True) (fun a x => (a).put (none) (undef)) (by kernel_rfl) (by kernel_rfl) (by kernel_rfl) (fun _ => rfl) [118] (by kernel_rfl) (fills_lt1 (by omega)) fills_ne1
                · intro x D hD
                  have hne := hD.some
                  have k1 := liftS hD q1 (by exact early_all (by first | assumption | omega) (by rfl))
                  have k2 := liftS hD y0 (by exact early_all (by first | assumption | omega) (by rfl))
                  simp only [takeOps, Act.put, List.setIfInBounds_toArray, List.set_cons_succ, List.set_cons_zero]
                  repeat (go_big_quiet_step ((go_at_call 24; exact calls_later hD _ (Cg1.out _ (onward HM.out.below (kbS hD (fun k hk => early_all hk (by rfl)) _))))))
                  exact wpQuiet_nil rfl
                · intro x D hD
                  have hne := hD.some
                  simp only [takeOps, Act.put, List.setIfInBounds_toArray, List.set_cons_succ, List.set_cons_zero]
                  repeat (go_big_quiet_step ((go_at_call 24; exact calls_later hD _ (Cg1.out _ (onward HM.out.below (kbS hD (fun k hk => early_all hk (by rfl)) _))))))
                  exact wpQuiet_nil rfl
                · intro d hd x x'
                  simp only [List.mem_cons, List.not_mem_nil, or_false] at hd
                  rcases hd with rfl
                  all_goals rfl
                · refine ⟨?_, trivial⟩
                  · exact obl_fill 23 23 14 119 gx _ (fun x => #[.int .i64 ga, .int .i64 gb]) (by kernel_rfl) (fun _ => rfl) (fun _ => rfl) bz eb_fill1 (by simp [wrF]) (fun _ => by kernel_rfl) (fun _ => rfl) (fun _ => by simp [Value.oneCell']) (fun _ => rfl) (fun _ _ _ _ h1 h2 => ⟨h1, h2⟩)
                · refine ⟨?_, trivial⟩
                  · exact owe_fill gx 23 (fun x => #[.int .i64 ga, .int .i64 gb]) (fun _ _ _ => rfl) (fun _ _ _ => rfl)
                intro xx w5 F hK hlv6
                obtain ⟨fct15, -⟩ := hlv6
                replace fct15 : (F 15) gx ∧ Blk w5 gx 23 #[.int .i64 ga, .int .i64 gb] := fct15 rfl
                clear q1 ltq y0 lty
                clear bz ltz z0 z1 bu ltu u0 u1
                have HM1 := hide (HM.out.filled 1 rfl hK (by simp) fct15.2)
                clear HM hK fct15
                have HM := HM1
                clear HM1
                have bu : Blk w5 gy 23 #[.int .i64 ua, .int .i64 ub] := HM.out.get 0 rfl
                have ltu := bu.lt
                have u0 := bu.c 0 rfl
                have u1 := bu.c 1 rfl
                go_wp2_with fail
                have q1 := Q1.out
                rw [← HM.out.below.cell hltb] at q1
                have ltq : b < w5.heap.size := Nat.lt_of_lt_of_le hltb HM.out.size
                have bT0 := Mem.blk_ HM.out 2 rfl
                have y0 := bT0.c _ Hcy.out
                have lty := bT0.lt
                clear bT0
                apply wp_region_F (w0 := w5) [[], [], [], [1, 2], [1, 2, 3], [1, 2, 3, 4], [], [], [6, 7], [6, 7, 8], [0, 1, 2, 3, 4, 5, 6, 7, 8, 9], [0, 1, 2, 3, 4, 5, 6, 7, 8, 9, 10], [0, 1, 2, 3, 4, 5, 6, 7, 8, 9, 10, 11], [0, 1, 2, 3, 4, 5, 6, 7, 8, 9, 10, 11], [0, 1, 2, 3, 4, 5, 6, 7, 8, 9, 10, 11], [0, 1, 2, 3, 4, 5, 6, 7, 8, 9, 10, 11, 12], [0, 1, 2, 3, 4, 5, 6, 7, 8, 9, 10, 11, 12, 13, 14, 15]] [true, true, true, true, true, true, true, true, true, true, true, true, true, false, false, false, false] [false, false, false, false, false, false, false, false, false, false, false, false, false, true, true, false, true] [⟨15, none, [], []⟩] [(15, gy)] [15] (fun ixq y => match ixq with | 15 => undef | _ => undef) (fun ixq x F wq => match ixq with | 15 => F gy ∧ Blk wq gy 23 #[.int .i64 ga, .int .i64 gb] | _ => True) (fun a x => (a).put (none) (undef)) (by kernel_rfl) (by kernel_rfl) (by kernel_rfl) (fun _ => rfl) [133] (by kernel_rfl) (fills_lt1 (by omega)) fills_ne1
                · intro x D hD
                  have hne := hD.some
                  have k1 := liftS hD q1 (by exact early_all (by first | assumption | omega) (by rfl))
                  have k2 := liftS hD y0 (by exact early_all (by first | assumption | omega) (by rfl))
                  simp only [takeOps, Act.put, List.setIfInBounds_toArray, List.set_cons_succ, List.set_cons_zero]
                  repeat (go_big_quiet_step ((go_at_call 24; exact calls_later hD _ (Cg2.out _ (onward HM.out.below (kbS hD (fun k hk => early_all hk (by rfl)) _))))))
                  exact wpQuiet_nil rfl
                · intro x D hD
                  have hne := hD.some
                  simp only [takeOps, Act.put, List.setIfInBounds_toArray, List.set_cons_succ, List.set_cons_zero]
                  repeat (go_big_quiet_step ((go_at_call 24; exact calls_later hD _ (Cg2.out _ (onward HM.out.below (kbS hD (fun k hk => early_all hk (by rfl)) _))))))
                  exact wpQuiet_nil rfl
                · intro d hd x x'
                  simp only [List.mem_cons, List.not_mem_nil, or_false] at hd
                  rcases hd with rfl
                  all_goals rfl
                · refine ⟨?_, trivial⟩
                  · exact obl_fill 23 23 16 134 gy _ (fun x => #[.int .i64 ga, .int .i64 gb]) (by kernel_rfl) (fun _ => rfl) (fun _ => rfl) bu eb_fill1 (by simp [wrF]) (fun _ => by kernel_rfl) (fun _ => rfl) (fun _ => by simp [Value.oneCell']) (fun _ => rfl) (fun _ _ _ _ h1 h2 => ⟨h1, h2⟩)
                · refine ⟨?_, trivial⟩
                  · exact owe_fill gy 23 (fun x => #[.int .i64 ga, .int .i64 gb]) (fun _ _ _ => rfl) (fun _ _ _ => rfl)
                intro xx w6 F hK hlv7
                obtain ⟨fct15, -⟩ := hlv7
                replace fct15 : (F 15) gy ∧ Blk w6 gy 23 #[.int .i64 ga, .int .i64 gb] := fct15 rfl
                clear q1 ltq y0 lty
                clear bu ltu u0 u1
                have HM1 := hide (HM.out.filled 0 rfl hK (by simp) fct15.2)
                clear HM hK fct15
                have HM := HM1
                clear HM1
                have bz : Blk w6 gx 23 #[.int .i64 ga, .int .i64 gb] := HM.out.get 1 rfl
                have ltz := bz.lt
                have z0 := bz.c 0 rfl
                have z1 := bz.c 1 rfl
                have bu : Blk w6 gy 23 #[.int .i64 ga, .int .i64 gb] := HM.out.get 0 rfl
                have ltu := bu.lt
                have u0 := bu.c 0 rfl
                have u1 := bu.c 1 rfl
                go_wp2_with fail
                go_roundw
                case rel => exact ⟨y + 1, hy, by go_num, HM.out.tail.tail⟩
                case measure => simp [intOf] <;> omega
            · obtain rfl : y = 3 := by omega
              go_wp2_with fail
              go_roundw
              case rel => exact ⟨k + 1, hk, by go_num, HM.out.tail⟩
              case measure => simp [intOf] <;> omega
    · obtain rfl : k = n := by omega
      have hkk : ¬ ((k : Int) < k) := by omega
      go_wp2
      go_ret
      exact ⟨rfl, HM.out.below⟩
end Go.Proofs.Ytiggefmckomilaa
