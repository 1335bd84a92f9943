/-
  The law RainBack returns true: the walk.
-/
import Derived.Test.YtmglgahagbfbkaaBack
namespace Go.Proofs.Ytmglgahagbfbkaa
open Go.RowKit

set_option maxHeartbeats 4000000 in
set_option maxRecDepth 100000 in
theorem RainBack_any (A : Option Addr) (n c : Nat) (l : List (Int × Int)) (A1 : Option Addr) (n1 c1 : Nat) (ps : List Int) (A2 : Option Addr) (n2 c2 : Nat) (cs : List Int) (A3 : Option Addr) (n3 c3 : Nat) (us : List Int) (w : World)
    (hn : l.length = n) (hmax : n ≤ 9223372036854775807) (hn1 : ps.length = n1) (hmax1 : n1 ≤ 9223372036854775807) (hn2 : cs.length = n2) (hmax2 : n2 ≤ 9223372036854775807) (hn3 : us.length = n3) (hmax3 : n3 ≤ 9223372036854775807)
    (hl : Ints w w.heap.size .i64 A (flat2 l)) (hl1 : Ints w w.heap.size .u32 A1 ps) (hl2 : Ints w w.heap.size .u32 A2 cs) (hl3 : Ints w w.heap.size .u16 A3 us)
    (hb1 : ∀ x ∈ ps, 0 ≤ x ∧ x ≤ 4294967295) (hb2 : ∀ x ∈ cs, 0 ≤ x ∧ x ≤ 4294967295) (hb3 : ∀ x ∈ us, 0 ≤ x ∧ x ≤ 65535) :
    Calls Try.prog 9 #[.slice A n c, .slice A1 n1 c1, .slice A2 n2 c2, .slice A3 n3 c3] w fun e w' => e = .returned (.bool true) ∧ Below w.heap.size w w' := by
  have hchk := CheckTable_any A n c l 32768 w hn hmax hl
  have Hl := hide hl
  have Hl1 := hide hl1
  have Hl2 := hide hl2
  have Hl3 := hide hl3
  have Hn := hide hn
  have Hn1 := hide hn1
  have Hn2 := hide hn2
  have Hn3 := hide hn3
  have Hb1 := hide hb1
  have Hb2 := hide hb2
  have Hb3 := hide hb3
  clear hl hl1 hl2 hl3 hn hn1 hn2 hn3 hb1 hb2 hb3
  by_cases g1 : (100 : Int) < n
  · clear hchk
    go_enter Try.func9, Try.ntmps9
    have HB := hide (Below.refl w.heap.size w)
    go_wp2_with fail
    refine (works_any _).mono ?_
    rintro e w9 ⟨rfl, hb⟩
    replace HB := hide (onward HB.out hb)
    clear hb
    go_wp2
    go_ret
    exact ⟨rfl, HB.out⟩
  by_cases g2 : (60 : Int) < n1
  · clear hchk
    go_enter Try.func9, Try.ntmps9
    have HB := hide (Below.refl w.heap.size w)
    go_wp2_with fail
    refine (works_any _).mono ?_
    rintro e w9 ⟨rfl, hb⟩
    replace HB := hide (onward HB.out hb)
    clear hb
    go_wp2
    go_ret
    exact ⟨rfl, HB.out⟩
  by_cases g3 : ¬ chk l 32768 = 0
  · have g3' : (chk l 32768 != 0) = true := by simpa [bne] using g3
    clear g3
    generalize chk l 32768 = ck at *
    go_enter Try.func9, Try.ntmps9
    have HB := hide (Below.refl w.heap.size w)
    go_wp2_with fail
    refine (hchk).mono ?_
    rintro e w1 ⟨rfl, hb⟩
    replace HB := hide (onward HB.out hb)
    clear hb
    clear hchk
    go_wp2_with fail
    refine (works_any _).mono ?_
    rintro e w9 ⟨rfl, hb⟩
    replace HB := hide (onward HB.out hb)
    clear hb
    go_wp2
    go_ret
    exact ⟨rfl, HB.out⟩
  replace g3 := Classical.not_not.1 g3
  have hT := tab_of g3
  rw [g3] at hchk
  obtain ⟨m, b, wl, xl, a, d, em, eb, ew, ex, ea, ed, lm, lb, lw, lx, la, ld, om, ow, ox, hall⟩ := back_law hT (powN ps) cs us (powN_in ps) Hb2.out Hb3.out
  have lz : (powN ps).length = n1 := by rw [powN, List.length_map]; exact Hn1.out
  have hpass : passR l (powN ps) = (m, 0) := by
    unfold passR
    rw [if_neg (by rw [g3]; simp), if_neg (by omega), if_pos (List.all_eq_true.2 fun z hz => by have := powN_in ps z hz; exact win_iff.2 this), em]
  have hrest : ∀ q r, q.length = n1 → q.all okM = true → restGo l whole q = r → restR l q = (r, 0) := fun q r h1 h2 h3 => by
    unfold restR
    rw [if_neg (by rw [g3]; simp), if_neg (by omega), if_pos h2, h3]
  rw [lz] at lm lb lw lx la ld hall
  have rb := hrest m b lm om eb
  have ra := hrest wl a lw ow ea
  have rd := hrest xl d lx ox ed
  have hel1 : ∀ k, k < n1 → (powN ps).getD k 0 = ps.getD k 0 % 1073741825 := fun k hk => by
    have : k < ps.length := by rw [Hn1.out]; exact hk
    simp [powN, List.getD, this]
  have hps : ∀ k, k < n1 → 0 ≤ ps.getD k 0 ∧ ps.getD k 0 ≤ 4294967295 := fun k hk => by
    have : k < ps.length := by rw [Hn1.out]; exact hk
    simp only [List.getD, List.getElem?_eq_getElem this]
    exact Hb1.out _ (List.getElem_mem this)
  have hwl : ∀ k, k < n1 → wl.getD k (0, 0) = wideV cs k (m.getD k (0, 0)) := fun k hk => by rw [← ew]; exact mapI_get _ _ (by omega)
  have hxl : ∀ k, k < n1 → xl.getD k (0, 0) = moreV us k (wl.getD k (0, 0)) := fun k hk => by rw [← ex]; exact mapI_get _ _ (by omega)
  generalize powN ps = z at *
  clear g3 em eb ew ex ea ed om ow ox hrest hT
  have Hpass := hide hpass
  have Rb := hide rb
  have Ra := hide ra
  have Rd := hide rd
  have Hel := hide hel1
  have Hps := hide hps
  have Hwl := hide hwl
  have Hxl := hide hxl
  have Lz := hide lz
  have Lm := hide lm
  have Lb := hide lb
  have Lw := hide lw
  have Lx := hide lx
  have La := hide la
  have Ld := hide ld
  have Hall := hide hall
  clear hpass rb ra rd hel1 hps hwl hxl lz lm lb lw lx la ld hall
  obtain ⟨i0, hi, hz0, hz1, hz2⟩ := info_parts intInfo
  have Hi := hide hi
  have Hz0 := hide hz0
  have Hz1 := hide hz1
  have Hz2 := hide hz2
  clear hi hz0 hz1 hz2
  go_enter Try.func9, Try.ntmps9
  have HB := hide (Below.refl w.heap.size w)
  go_wp2_with fail
  refine (hchk).mono ?_
  rintro e w1 ⟨rfl, hb⟩
  replace HB := hide (onward HB.out hb)
  clear hb
  clear hchk
  go_wp2_with fail
  have hs1 := HB.out.size
  go_loopw [9, 10] (fun o i wr => ∃ k : Nat, k ≤ n1 ∧ i = .int .i64 k ∧ wr.ownsRow w.heap.size 3 1 o k ((z.map (Value.int .i64)).take k) ∧ Below w.heap.size w wr)
    (fun _ i _ => n1 - (intOf i).toNat)
  case atStart => exact ⟨0, by omega, rfl, by simpa using World.ownsRow_nil _ _ _ _, HB.out⟩
  case round =>
    clear HB
    obtain ⟨k, hk, rfl, hown, hbw⟩ := hrel
    have hsw := hbw.size
    have Hoz := hide hown
    have HB := hide hbw
    clear hown hbw
    by_cases hlt : k < n1
    · obtain ⟨b1, off1, rfl, hb1, hc1⟩ := Hl1.out (by have := Hn1.out; omega)
      have pc := hc1 k (by have := Hn1.out; omega)
      rw [← HB.out.cell hb1] at pc
      have hel := Hel.out k hlt
      obtain ⟨p0, p1⟩ := Hps.out k hlt
      have hts : (z.map (Value.int .i64)).take k ++ [.int .i64 (z.getD k 0)] = (z.map (Value.int .i64)).take (k + 1) := by
        have hl : k < (z.map (Value.int .i64)).length := by rw [List.length_map, Lz.out]; exact hlt
        rw [List.take_succ_eq_append_getElem hl]
        simp [List.getD, show k < z.length by rw [Lz.out]; exact hlt]
      have Hts := hide hts
      clear hts hc1
      rw [hel] at Hts
      clear hel
      generalize ps.getD k 0 = p at *
      have q0 : 0 ≤ p % 1073741825 := Int.emod_nonneg _ (by omega)
      have q1 : p % 1073741825 < 1073741825 := Int.emod_lt_of_pos _ (by omega)
      generalize hq : p % 1073741825 = q at *
      go_wp2_with (at_builtin; refine wpList_append_own _ rfl (.tmp 42) (.tmp 49) _ rfl w.heap.size 3 i0 _ 1 8 Try.underlying81 Hi.out Hz0.out Hz1.out Hz2.out rfl (by decide) _ k _ rfl (Hoz.out.alloc _) ⟨wr.heap.size, 0, none⟩ 1 1 [.int .i64 q] rfl rfl ?q1c1 ?q1c2 ?q1c3 ?q1c4 ?q1c5 ?_)
      try case q1c1 => exact new_cells wr _ [.int .i64 q]
      case q1c2 => intro u hu; simp at hu; subst hu; rfl
      case q1c3 => unfold maxLen; omega
      case q1c4 => omega
      case q1c5 => simp; omega
      intro v' w2 hown2 hgr2 _
      replace HB := hide (below_grown (HB.out.alloc HB.out.size (.cells #[.int .i64 q] 3)) hgr2 (by simp; omega) fun k hk => Nat.le_trans (by first | exact Nat.le_refl _ | omega) (Hoz.out.lt k hk).1)
      replace Hoz := hide hown2
      clear hown2 hgr2
      go_wp2
      go_roundw
      case rel =>
        refine ⟨k + 1, by omega, by go_num, ?_, HB.out⟩
        have := Hoz.out
        rw [Hts.out] at this; exact this
      case measure => simp [intOf] <;> omega
    · obtain rfl : k = n1 := by omega
      have hown := Hoz.out
      rw [List.take_of_length_le (by have := Lz.out; simp; omega)] at hown
      obtain ⟨Az, cz, rfl⟩ := own_slice hown
      replace Hoz := hide hown
      clear hown i0 Hi Hz0 Hz1 Hz2
      go_wp2_with fail
      have cc := Pass_any A n c l Az k cz z wr Hn.out hmax Lz.out hmax1 ((Hl.out.below HB.out).more HB.out.size) (Ints.own Hoz.out rfl (Nat.le_refl _))
      rw [Hpass.out] at cc
      refine (cc).mono ?_
      rintro e w2 ⟨v, rfl, ho, hb⟩
      replace Hoz := hide (own_later Hoz.out hb)
      replace HB := hide (onward HB.out hb)
      clear hb
      clear cc
      simp only [Lm.out] at ho
      obtain ⟨Am, cm, rfl⟩ := own_slice ho
      have Hom := hide ho
      clear ho
      simp only
      go_wp2_with fail
      have cc := Restore_any A n c l Am k cm m w2 Hn.out hmax Lm.out hmax1 ((Hl.out.below HB.out).more HB.out.size) (spans_ints Hom.out)
      rw [Rb.out] at cc
      refine (cc).mono ?_
      rintro e w3 ⟨v, rfl, ho, hb⟩
      replace Hoz := hide (own_later Hoz.out hb)
      replace HB := hide (onward HB.out hb)
      replace Hom := hide (own_later Hom.out hb)
      clear hb
      clear cc
      simp only [Lb.out] at ho
      obtain ⟨Ab, cb, rfl⟩ := own_slice ho
      have Hob := hide ho
      clear ho
      simp only
      have hs3 := HB.out.size
      have Iz := hide (Ints.own (k := .i64) (zs := z) Hoz.out rfl (Nat.le_refl _))
      have Im := hide (spans_ints Hom.out)
      have Ib := hide (spans_ints Hob.out)
      have Il := hide ((Hl.out.below HB.out).more HB.out.size)
      have Ic := hide ((Hl2.out.below HB.out).more HB.out.size)
      have Iu := hide ((Hl3.out.below HB.out).more HB.out.size)
      have HB3 := HB
      clear Hoz Hom Hob HB
      clear Hl Hl1 Hl2 Hl3 Hpass Hel Hps Rb
      go_wp2_with fail
      go_loopw [14, 15, 16] (fun o p i wr => ∃ q : Nat, q ≤ k ∧ i = .int .i64 q ∧ wr.ownsRow w3.heap.size 24 2 o q (spanCells (wl.take q)) ∧ wr.ownsRow w3.heap.size 24 2 p q (spanCells (xl.take q)) ∧ Apart o p ∧ Below w3.heap.size w3 wr)
        (fun _ _ i _ => k - (intOf i).toNat)
      case atStart => exact ⟨0, by omega, rfl, World.ownsRow_nil _ _ _ _, World.ownsRow_nil _ _ _ _, apart_nil _, Below.refl _ _⟩
      case round =>
        obtain ⟨q, hq, rfl, hown, hown2, hap, hbw⟩ := hrel
        have hsw := hbw.size
        have How := hide hown
        have Hox := hide hown2
        have HG := hide hbw
        have Hap := hide hap
        clear hown hown2 hbw hap
        by_cases hlt : q < k
        · obtain ⟨bz, offz, rfl, hbz, hcz⟩ := Iz.out (by have := Lz.out; omega)
          obtain ⟨bm, offm, rfl, hbm, hcm⟩ := Im.out.pt (by have := Lm.out; omega)
          obtain ⟨bb, offb, rfl, hbb, hcb⟩ := Ib.out.pt (by have := Lb.out; omega)
          have pz := hcz q (by have := Lz.out; omega)
          have pm := hcm q (by have := Lm.out; omega)
          have pb := hcb q (by have := Lb.out; omega)
          obtain ⟨h1, h2, h3, -, -, -, -⟩ := Hall.out q hlt
          have hwq := Hwl.out q hlt
          have hxq := Hxl.out q hlt
          have htw := fun a b h => take_spans wl q (by rw [Lw.out]; exact hlt) a b h
          have htx := fun a b h => take_spans xl q (by rw [Lx.out]; exact hlt) a b h
          clear hcz hcm hcb
          generalize z.getD q 0 = zq at *
          generalize m.getD q (0, 0) = mm at *
          generalize b.getD q (0, 0) = bq at *
          obtain ⟨m1, m2⟩ := mm
          obtain ⟨b1, b2⟩ := bq
          obtain ⟨o1, o2, o3⟩ := okM_iff h1
          simp only at pm pb h2 h3 o1 o2 o3
          obtain ⟨nb1, nb2⟩ := nthV_bd Hb2.out (2 * q)
          obtain ⟨nb3, nb4⟩ := nthV_bd Hb2.out (2 * q + 1)
          have cn1 : ∀ (W : World), Later wr W → Calls Try.prog 36 #[.slice A2 n2 c2, .int .i64 (2 * (q : Int))] W fun e w' => e = .returned (.int .u32 (nthV cs (2 * q))) ∧ Below W.heap.size W w' := fun W hl => by
            have := nth_any A2 n2 c2 cs (2 * q) W Hn2.out hmax2 (by omega) ((Ic.out.below (HG.out.trans (hl.mono HG.out.size))).more (Nat.le_trans HG.out.size hl.size))
            rwa [show ((2 * q : Nat) : Int) = 2 * (q : Int) by omega] at this
          have cn2 : ∀ (W : World), Later wr W → Calls Try.prog 36 #[.slice A2 n2 c2, .int .i64 (2 * (q : Int) + 1)] W fun e w' => e = .returned (.int .u32 (nthV cs (2 * q + 1))) ∧ Below W.heap.size W w' := fun W hl => by
            have := nth_any A2 n2 c2 cs (2 * q + 1) W Hn2.out hmax2 (by omega) ((Ic.out.below (HG.out.trans (hl.mono HG.out.size))).more (Nat.le_trans HG.out.size hl.size))
            rwa [show ((2 * q + 1 : Nat) : Int) = 2 * (q : Int) + 1 by omega] at this
          have clies : ∀ W, Calls Try.prog 25 #[.agg #[.int .i64 zq, .int .i64 zq], .agg #[.int .i64 b1, .int .i64 b2]] W fun e w' => e = .returned (.bool true) ∧ Below W.heap.size W w' := fun W => by
            have := lies_any zq zq b1 b2 W
            rwa [show decide (zq ≤ zq ∧ b1 ≤ zq ∧ zq ≤ b2) = true from decide_eq_true ⟨by omega, by omega, by omega⟩] at this
          have hwV : wideV cs q (m1, m2) = (max 0 (m1 - nthV cs (2 * q) % 1000), min 1073741824 (m2 + nthV cs (2 * q + 1) % 1000)) := rfl
          generalize nthV cs (2 * q) = v1 at *
          generalize nthV cs (2 * q + 1) = v2 at *
          have r1 : 0 ≤ v1 % 1000 := Int.emod_nonneg _ (by omega)
          have r2 : v1 % 1000 < 1000 := Int.emod_lt_of_pos _ (by omega)
          have r3 : 0 ≤ v2 % 1000 := Int.emod_nonneg _ (by omega)
          have r4 : v2 % 1000 < 1000 := Int.emod_lt_of_pos _ (by omega)
          generalize hr1 : v1 % 1000 = q1 at *
          generalize hr2 : v2 % 1000 = q2 at *
          obtain ⟨wa, hwa⟩ : ∃ wa : Int, (if q1 < m1 then m1 - q1 else 0) = wa := ⟨_, rfl⟩
          obtain ⟨wb, hwb⟩ : ∃ wb : Int, (if m2 + q2 < 1073741824 then m2 + q2 else 1073741824) = wb := ⟨_, rfl⟩
          have ewa : max 0 (m1 - q1) = wa := by rw [← hwa, Int.max_def]; split <;> split <;> omega
          have ewb : min 1073741824 (m2 + q2) = wb := by rw [← hwb, Int.min_def]; split <;> split <;> omega
          rw [hwV, ewa, ewb] at hwq
          rw [hwq] at hxq
          have bw1 : 0 ≤ wa ∧ wa ≤ 1073741824 ∧ 0 ≤ wb ∧ wb ≤ 1073741824 := by omega
          obtain ⟨bw1, bw2, bw3, bw4⟩ := bw1
          have htw2 := htw wa wb hwq
          have hq2 : (2 : Int) * q + 1 ≤ 1000 := by omega
          clear htw hwV hwq h1 ewa ewb
          have pp := And.intro pz (And.intro pm.1 (And.intro pm.2 (And.intro pb.1 pb.2)))
          have Cn1 := hide cn1
          have Cn2 := hide cn2
          have Clies := hide clies
          have Hxq := hide hxq
          have Htw := hide htw2
          have Htx := hide htx
          have Hwa := hide hwa
          have Hwb := hide hwb
          have Hr1 := hide hr1
          have Hr2 := hide hr2
          have Pp := hide pp
          clear cn1 cn2 clies hxq htw2 htx hwa hwb hr1 hr2 pp
          clear pz pm pb
          obtain ⟨pz, pm1, pm2, pb1, pb2⟩ := Pp.out
          rw [← HG.out.cell hbz] at pz
          rw [← HG.out.cell hbm] at pm1 pm2
          rw [← HG.out.cell hbb] at pb1 pb2
          have k1 : bz < wr.heap.size := by omega
          have k2 : bm < wr.heap.size := by omega
          have k3 : bb < wr.heap.size := by omega
          have cpt := fun W => point_any zq W
          have Cpt := hide cpt
          clear cpt
          have d1 : decide (m1 < 0) = false := decide_eq_false (by omega)
          have d2 : decide (1073741824 < m2) = false := decide_eq_false (by omega)
          have d3 : decide (m2 < m1) = false := decide_eq_false (by omega)
          go_wp2_with fail
          apply wp_region_L (w0 := wr) [[], [], [], [], [], [], [], [], [], [], [], [], [], [], [], [], [], [], [], [], [], [], [], [], [], [], [], [], [], [], [], [], [], [], [], [], [], [], [], []] [true, true, true, true, true, true, true, true, true, true, true, true, true, true, true, true, true, true, true, true, true, true, true, true, true, true, true, true, true, true, true, true, true, true, true, true, true, true, true, true] [] (fun ixq y => match ixq with  | _ => undef) (fun ixq x F wq => match ixq with  | _ => True) (fun a x => a) (by kernel_rfl) (by kernel_rfl) (fun _ => rfl) [91, 96] (by kernel_rfl)
          · intro x D hD
            have hne := hD.some
            have k0 := liftB hD pz (by first | assumption | omega)
            have k1 := liftB hD pm1 (by first | assumption | omega)
            have k2 := liftB hD pm2 (by first | assumption | omega)
            have k3 := liftB hD pb1 (by first | assumption | omega)
            have k4 := liftB hD pb2 (by first | assumption | omega)
            simp only [takeOps, Act.put, List.setIfInBounds_toArray, List.set_cons_succ, List.set_cons_zero]
            repeat (go_big_quiet_step ((first | (go_at_call 24; exact calls_later hD _ (Cpt.out _)) | (go_at_call 25; exact calls_later hD _ (Clies.out _)))))
            exact wpQuiet_nil rfl
          · intro d hd x x'
            simp only [List.mem_cons, List.not_mem_nil, or_false] at hd
            rcases hd with rfl | rfl
            all_goals rfl
          · exact trivial
          · exact trivial
          intro x4 w4 F hL4 hlv1
          clear hlv1
          clear pz pm1 pm2 pb1 pb2 k1 k2 k3 Clies Cpt
          have Cn1' := hide (fun (W : World) (hl : Below w4.heap.size w4 W) => Cn1.out W (Below.trans hL4 (hl.mono hL4.size)))
          have Cn2' := hide (fun (W : World) (hl : Below w4.heap.size w4 W) => Cn2.out W (Below.trans hL4 (hl.mono hL4.size)))
          clear Cn1 Cn2
          replace How := hide (own_later How.out hL4)
          replace Hox := hide (own_later Hox.out hL4)
          replace HG := hide (onward HG.out hL4)
          clear hL4
          clear d1 d2 d3
          obtain ⟨pz, pm1, pm2, pb1, pb2⟩ := Pp.out
          clear pz pb1 pb2
          rw [← HG.out.cell hbm] at pm1 pm2
          have k2 : bm < w4.heap.size := by have := HG.out.size; omega
          have hwa := Hwa.out
          have hwb := Hwb.out
          have hr1 := Hr1.out
          have hr2 := Hr2.out
          go_wp2_with fail
          apply wp_region_L (w0 := w4) [[], [], [], [], [], [], [], [], [], [], [], [], [], [], [], [], [], [], [], [], [], [], [], [], [], [], [], [], [], [28]] [true, true, true, true, true, true, true, true, true, true, true, true, true, true, true, true, true, true, true, true, true, true, true, true, true, true, true, true, false, false] [⟨28, none, [], []⟩, ⟨29, some 28, [28], [28]⟩] (fun ixq y => match ixq with | 28 => .pointer (y 0).1 | 29 => undef | _ => undef) (fun ixq x F wq => match ixq with | 28 => PtrF wq F w4.heap.size (x 28 0).1 24 #[.int .i64 0, .int .i64 0] | 29 => PtrF wq F w4.heap.size (x 28 0).1 24 #[.int .i64 wa, .int .i64 wb] | _ => True) (fun a x => ((a).put (some 17) (.pointer ((x 28) 0).1)).put (none) (undef)) (by kernel_rfl) (by kernel_rfl) (fun _ => rfl) [135, 149] (by kernel_rfl)
          · intro x D hD
            have hne := hD.some
            have k1 := liftB hD pm1 (by first | assumption | omega)
            have k2 := liftB hD pm2 (by first | assumption | omega)
            simp only [takeOps, Act.put, List.setIfInBounds_toArray, List.set_cons_succ, List.set_cons_zero]
            repeat (go_big_quiet_step ((go_at_call 36; first | (with_reducible exact calls_later hD _ (Cn1'.out _ (kb hD _))) | (with_reducible exact calls_later hD _ (Cn2'.out _ (kb hD _))))))
            exact wpQuiet_nil rfl
          · intro d hd x x'
            simp only [List.mem_cons, List.not_mem_nil, or_false] at hd
            rcases hd with rfl | rfl
            all_goals rfl
          · refine ⟨?_, ?_, trivial⟩
            · exact obl_alloc 24 17 (.agg #[.int .i64 0, .int .i64 0]) (by kernel_rfl) (by kernel_rfl) (fun _ => rfl) (fun _ _ _ h => h)
            · refine obl_store 24 17 154 28 #[.int .i64 0, .int .i64 0] (fun x => #[.int .i64 wa, .int .i64 wb]) (by kernel_rfl) rfl (by simp) (fun _ _ _ h => h) (fun _ => rfl) (fun _ => rfl) (fun _ => by kernel_rfl) (fun _ => rfl) (fun _ => by simp [Value.oneCell']) (fun _ => rfl) (by decide) (fun _ _ _ _ h => h)
          · refine ⟨?_, ?_, trivial⟩
            · exact owe_ptr 28 _ _ (fun x => #[.int .i64 0, .int .i64 0]) (fun _ _ _ => rfl) (by simp) (fun _ _ _ => rfl)
            · exact owe_ptr 28 _ _ (fun x => #[.int .i64 wa, .int .i64 wb]) (fun _ _ _ => rfl) (by simp) (fun _ _ _ => rfl)
          intro x5 w5 F hL5 hlv2
          obtain ⟨-, fct29, -⟩ := hlv2
          replace fct29 : PtrF w5 (F 29) w4.heap.size (x5 28 0).1 24 #[.int .i64 wa, .int .i64 wb] := fct29 rfl
          obtain ⟨gx, hgx, hge, -, hbg⟩ := fct29
          rw [hgx]
          have neW := own_high_ne How.out hge
          have neX := own_high_ne Hox.out hge
          have hg3 : w3.heap.size ≤ gx := Nat.le_trans HG.out.size hge
          clear hgx pm1 pm2 k2 hwa hwb hr1 hr2 Cn1' Cn2' Hwa Hwb Hr1 Hr2
          replace How := hide (own_later How.out hL5)
          replace Hox := hide (own_later Hox.out hL5)
          replace HG := hide (onward HG.out hL5)
          clear hL5
          have Hx := hide hbg
          clear hbg
          have ltx5 := Hx.out.lt
          have hs5 := HG.out.size
          obtain ⟨i0, hi, hz0, hz1, hz2⟩ := info_parts spanInfo
          have Hi := hide hi
          have Hz0 := hide hz0
          have Hz1 := hide hz1
          have Hz2 := hide hz2
          clear hi hz0 hz1 hz2
          obtain ⟨x0, x1⟩ := Hx.out.c2
          go_wp2_with (at_builtin; refine wpList_append_own_at _ rfl (.tmp 155) (.tmp 157) _ rfl w3.heap.size 24 i0 _ 2 16 Try.underlying82 Hi.out Hz0.out Hz1.out Hz2.out rfl (by decide) _ q _ rfl (How.out.alloc _) ⟨w5.heap.size, 0, none⟩ 1 1 [.int .i64 wa, .int .i64 wb] rfl rfl ?c1 ?c2 ?c3 ?c4 ?c5 ?_)
          try case c1 => exact new_cells w5 _ [.int .i64 wa, .int .i64 wb]
          case c2 => intro u hu; simp at hu; rcases hu with rfl | rfl <;> rfl
          case c3 => unfold maxLen; omega
          case c4 => omega
          case c5 => simp; omega
          intro v' w6 hownA hgrA _ hatA
          clear x0 x1
          have hapA : Apart u15 v' := apart_after Hap.out.symm Hox.out (Nat.le_succ _) hatA
          have neA : v'.ownBlock ≠ some gx := by
            rcases hatA with e1 | e1
            · rw [e1]; exact neW
            · rw [e1]; intro e2; have := Option.some.inj e2; omega
          have HG6 := below_grown (HG.out.alloc HG.out.size (.cells #[.int .i64 wa, .int .i64 wb] 24)) hgrA (by simp; omega) (fun k hk => (How.out.lt k hk).1)
          have Hx6 := blk_grown (Hx.out.alloc (.cells #[.int .i64 wa, .int .i64 wb] 24)) hgrA neW
          have Hox6 := (Hox.out.alloc (.cells #[.int .i64 wa, .int .i64 wb] 24)).kept hgrA Hap.out.symm
          rw [Htw.out] at hownA
          clear hgrA hatA neW How HG Hx Hox Hap Htw hs5 ltx5
          have How := hide hownA
          have HG := hide HG6
          have Hx := hide Hx6
          have Hox := hide Hox6
          have Hap := hide hapA
          clear hownA HG6 Hx6 Hox6 hapA
          have hs6 := HG.out.size
          have ltx6 := Hx.out.lt
          by_cases hq3 : q < n3
          · obtain ⟨bu, offu, rfl, hbu, hcu⟩ := Iu.out (by have := Hn3.out; omega)
            have pu := hcu q (by have := Hn3.out; omega)
            have hub : 0 ≤ us.getD q 0 ∧ us.getD q 0 ≤ 65535 := by
              have : q < us.length := by rw [Hn3.out]; exact hq3
              simp only [List.getD, List.getElem?_eq_getElem this]
              exact Hb3.out _ (List.getElem_mem this)
            have hmv : moreV us q (wa, wb) = (min 1073741824 (wa + us.getD q 0), min 1073741824 (wb + us.getD q 0)) := by unfold moreV; rw [if_pos (by rw [Hn3.out]; exact hq3)]
            generalize us.getD q 0 = uq at *
            obtain ⟨ub1, ub2⟩ := hub
            obtain ⟨xa, hxa⟩ : ∃ xa : Int, (if wa + uq < 1073741824 then wa + uq else 1073741824) = xa := ⟨_, rfl⟩
            obtain ⟨xb, hxb⟩ : ∃ xb : Int, (if wb + uq < 1073741824 then wb + uq else 1073741824) = xb := ⟨_, rfl⟩
            have exa : min 1073741824 (wa + uq) = xa := by rw [← hxa, Int.min_def]; split <;> split <;> omega
            have exb : min 1073741824 (wb + uq) = xb := by rw [← hxb, Int.min_def]; split <;> split <;> omega
            rw [exa, exb] at hmv
            have Hxv := hide (Hxq.out.trans hmv)
            clear hmv exa exb hcu
            rw [← HG.out.cell hbu] at pu
            have k4 : bu < w6.heap.size := by omega
            obtain ⟨x0, x1⟩ := Hx.out.c2
            go_wp2_with fail
            apply wp_region_F (w0 := w6) [[], [0], [], [], [2, 3], [2, 3, 4], [2, 3, 4, 5], [0, 1, 2, 3, 4, 5, 6], [0, 1, 2, 3, 4, 5, 6, 7], [], [9], [], [], [11, 12], [11, 12, 13], [11, 12, 13, 14], [9, 10, 11, 12, 13, 14, 15], [9, 10, 11, 12, 13, 14, 15, 16], [0, 1, 2, 3, 4, 5, 6, 7, 8, 9, 10, 11, 12, 13, 14, 15, 16, 17], [0, 1, 2, 3, 4, 5, 6, 7, 8, 9, 10, 11, 12, 13, 14, 15, 16, 17, 18]] [true, true, true, true, true, true, true, true, true, true, true, true, true, true, true, true, true, true, true, false] [false, false, false, false, false, false, false, false, false, false, false, false, false, false, false, false, false, false, false, false] [⟨19, none, [], []⟩] [(19, gx)] [19] (fun ixq y => match ixq with | 19 => undef | _ => undef) (fun ixq x F wq => match ixq with | 19 => F gx ∧ Blk wq gx 24 #[.int .i64 xa, .int .i64 xb] | _ => True) (fun a x => (a).put (none) (undef)) (by kernel_rfl) (by kernel_rfl) (by kernel_rfl) (fun _ => rfl) [] (by kernel_rfl) (fills_lt1 (by omega)) fills_ne1
            · intro x D hD
              have hne := hD.some
              have k0 := liftS hD x0 (by exact early_all (by first | assumption | omega) (by rfl))
              have k1 := liftS hD x1 (by exact early_all (by first | assumption | omega) (by rfl))
              have k2 := liftS hD pu (by exact early_all (by first | assumption | omega) (by rfl))
              simp only [takeOps, Act.put, List.setIfInBounds_toArray, List.set_cons_succ, List.set_cons_zero]
              repeat (go_big_quiet_step (fail))
              exact wpQuiet_nil rfl
            · exact fun x D hD => wpQuiet_nil rfl
            · exact fun _ h => absurd h (by simp)
            · refine ⟨?_, trivial⟩
              · exact obl_fill 24 24 17 181 gx _ (fun x => #[.int .i64 xa, .int .i64 xb]) (by kernel_rfl) (fun _ => rfl) (fun _ => rfl) Hx.out eb_fill1 (by simp [wrF]) (fun _ => by kernel_rfl) (fun _ => rfl) (fun _ => by simp [Value.oneCell']) (fun _ => rfl) (fun _ _ _ _ h1 h2 => ⟨h1, h2⟩)
            · refine ⟨?_, trivial⟩
              · exact owe_fill gx 24 (fun x => #[.int .i64 xa, .int .i64 xb]) (fun _ _ _ => rfl) (fun _ _ _ => rfl)
            intro x7 w7 F hK hlv3
            obtain ⟨fct19, -⟩ := hlv3
            replace fct19 : (F 19) gx ∧ Blk w7 gx 24 #[.int .i64 xa, .int .i64 xb] := fct19 rfl
            have hgr := grown_kept hK
            have HG7 := below_grown HG.out hgr HG.out.size (fun q hq => by simp at hq; omega)
            have How7 := How.out.kept hgr (.inr neA)
            have Hox7 := Hox.out.kept hgr (.inr neX)
            clear hgr hK pu k4 x0 x1 hxa hxb How HG Hox Hx hs6 ltx6
            have HG := hide HG7
            have How := hide How7
            have Hox := hide Hox7
            clear HG7 How7 Hox7
            have Hx := hide fct19.2
            clear fct19
            have hs6 := HG.out.size
            obtain ⟨x0, x1⟩ := Hx.out.c2
            have hxs := Hx.out.lt
            go_wp2_with (at_builtin; refine wpList_append_own_at _ rfl (.tmp 182) (.tmp 184) _ rfl w3.heap.size 24 i0 _ 2 16 Try.underlying82 Hi.out Hz0.out Hz1.out Hz2.out rfl (by decide) _ q _ rfl (Hox.out.alloc _) ⟨w7.heap.size, 0, none⟩ 1 1 [.int .i64 xa, .int .i64 xb] rfl rfl ?c11 ?c12 ?c13 ?c14 ?c15 ?_)
            try case c11 => exact new_cells w7 _ [.int .i64 xa, .int .i64 xb]
            case c12 => intro u hu; simp at hu; rcases hu with rfl | rfl <;> rfl
            case c13 => unfold maxLen; omega
            case c14 => omega
            case c15 => simp; omega
            intro v2' w8 hownB hgrB _ hatB
            clear x0 x1
            have hapB : Apart v' v2' := apart_after Hap.out.symm How.out (Nat.le_succ _) hatB
            have HG8 := hide (below_grown (HG.out.alloc HG.out.size (.cells #[.int .i64 xa, .int .i64 xb] 24)) hgrB (by simp; omega) (fun k hk => (Hox.out.lt k hk).1))
            have How8 := hide ((How.out.alloc (.cells #[.int .i64 xa, .int .i64 xb] 24)).kept hgrB Hap.out.symm)
            rw [Htx.out xa xb Hxv.out] at hownB
            have HownB := hide hownB
            have HapB := hide hapB
            clear hownB hgrB hatB hapB
            go_wp2
            go_roundw
            case rel => exact ⟨q + 1, by omega, by go_num, How8.out, HownB.out, HapB.out, HG8.out⟩
            case measure => simp [intOf] <;> omega
          · have Hxv := hide (Hxq.out.trans (show moreV us q (wa, wb) = (wa, wb) by unfold moreV; rw [if_neg (by rw [Hn3.out]; exact hq3)]))
            obtain ⟨x0, x1⟩ := Hx.out.c2
            have hxs := Hx.out.lt
            go_wp2_with (at_builtin; refine wpList_append_own_at _ rfl (.tmp 182) (.tmp 184) _ rfl w3.heap.size 24 i0 _ 2 16 Try.underlying82 Hi.out Hz0.out Hz1.out Hz2.out rfl (by decide) _ q _ rfl (Hox.out.alloc _) ⟨w6.heap.size, 0, none⟩ 1 1 [.int .i64 wa, .int .i64 wb] rfl rfl ?d11 ?d12 ?d13 ?d14 ?d15 ?_)
            try case d11 => exact new_cells w6 _ [.int .i64 wa, .int .i64 wb]
            case d12 => intro u hu; simp at hu; rcases hu with rfl | rfl <;> rfl
            case d13 => unfold maxLen; omega
            case d14 => omega
            case d15 => simp; omega
            intro v2' w8 hownB hgrB _ hatB
            clear x0 x1
            have hapB : Apart v' v2' := apart_after Hap.out.symm How.out (Nat.le_succ _) hatB
            have HG8 := hide (below_grown (HG.out.alloc HG.out.size (.cells #[.int .i64 wa, .int .i64 wb] 24)) hgrB (by simp; omega) (fun k hk => (Hox.out.lt k hk).1))
            have How8 := hide ((How.out.alloc (.cells #[.int .i64 wa, .int .i64 wb] 24)).kept hgrB Hap.out.symm)
            rw [Htx.out wa wb Hxv.out] at hownB
            have HownB := hide hownB
            have HapB := hide hapB
            clear hownB hgrB hatB hapB
            go_wp2
            go_roundw
            case rel => exact ⟨q + 1, by omega, by go_num, How8.out, HownB.out, HapB.out, HG8.out⟩
            case measure => simp [intOf] <;> omega
        · obtain rfl : q = k := by omega
          have hown := How.out
          have hown2 := Hox.out
          rw [List.take_of_length_le (by have := Lw.out; omega)] at hown
          rw [List.take_of_length_le (by have := Lx.out; omega)] at hown2
          obtain ⟨Aw, cw, rfl⟩ := own_slice hown
          obtain ⟨Ax, cx, rfl⟩ := own_slice hown2
          have HB := hide (onward HB3.out HG.out)
          clear How Hox Hap Hwl Hxl Iz Im Ic Iu
          have How := hide hown
          have Hox := hide hown2
          clear hown hown2
          go_wp2_with fail
          have cc := Restore_any A n c l Aw q cw wl wr Hn.out hmax Lw.out hmax1 ((Il.out.below HG.out).more HG.out.size) (spans_ints How.out)
          rw [Ra.out] at cc
          refine (cc).mono ?_
          rintro e w4 ⟨v, rfl, ho, hb⟩
          replace HB := hide (onward HB.out hb)
          replace HG := hide (onward HG.out hb)
          replace How := hide (own_later How.out hb)
          replace Hox := hide (own_later Hox.out hb)
          clear hb
          clear How
          clear cc
          simp only [La.out] at ho
          obtain ⟨Aa, ca, rfl⟩ := own_slice ho
          have Hoa := hide ho
          clear ho
          simp only
          go_wp2_with fail
          have cc := Restore_any A n c l Ax q cx xl w4 Hn.out hmax Lx.out hmax1 ((Il.out.below HG.out).more HG.out.size) (spans_ints Hox.out)
          rw [Rd.out] at cc
          refine (cc).mono ?_
          rintro e w5 ⟨v, rfl, ho, hb⟩
          replace HB := hide (onward HB.out hb)
          replace HG := hide (onward HG.out hb)
          replace Hox := hide (own_later Hox.out hb)
          replace Hoa := hide (own_later Hoa.out hb)
          clear hb
          clear Hox
          clear cc
          simp only [Ld.out] at ho
          obtain ⟨Ad, cd, rfl⟩ := own_slice ho
          have Hod := hide ho
          clear ho
          simp only
          have Ja := hide (spans_ints Hoa.out)
          have Jd := hide (spans_ints Hod.out)
          have Jb := hide ((Ib.out.below HG.out).more HG.out.size)
          have HB5 := HB
          clear Hoa Hod Ib Il HB HG Ra Rd
          go_wp2_with fail
          go_loopw [21] (fun i wr' => ∃ j : Nat, j ≤ q ∧ i = .int .i64 j ∧ Below w5.heap.size w5 wr')
            (fun i _ => q - (intOf i).toNat)
          case atStart => exact ⟨0, by omega, rfl, Below.refl _ _⟩
          case round =>
            obtain ⟨j, hj, rfl, hbw⟩ := hrel
            have hsw2 := hbw.size
            have HG := hide hbw
            clear hbw
            by_cases hlt : j < q
            · obtain ⟨ba, offa, rfl, hba, hca⟩ := Ja.out.pt (by have := La.out; omega)
              obtain ⟨bb, offb, rfl, hbb, hcb⟩ := Jb.out.pt (by have := Lb.out; omega)
              obtain ⟨bd, offd, rfl, hbd, hcd⟩ := Jd.out.pt (by have := Ld.out; omega)
              have pa := hca j (by have := La.out; omega)
              have pb := hcb j (by have := Lb.out; omega)
              have pd := hcd j (by have := Ld.out; omega)
              obtain ⟨-, h1, h2, h3, h4, h5, h6⟩ := Hall.out j hlt
              clear hca hcb hcd
              generalize a.getD j (0, 0) = aq at *
              generalize b.getD j (0, 0) = bq at *
              generalize d.getD j (0, 0) = dq at *
              obtain ⟨a1, a2⟩ := aq
              obtain ⟨b1, b2⟩ := bq
              obtain ⟨d1, d2⟩ := dq
              simp only at h1 h2 h3 h4 h5 h6 pa pb pd
              obtain ⟨pa1, pa2⟩ := pa
              obtain ⟨pb1, pb2⟩ := pb
              obtain ⟨pd1, pd2⟩ := pd
              rw [← HG.out.cell hba] at pa1 pa2
              rw [← HG.out.cell hbb] at pb1 pb2
              rw [← HG.out.cell hbd] at pd1 pd2
              have k1 : ba < wr.heap.size := by omega
              have k2 : bb < wr.heap.size := by omega
              have k3 : bd < wr.heap.size := by omega
              have clies : ∀ W, Calls Try.prog 25 #[.agg #[.int .i64 b1, .int .i64 b2], .agg #[.int .i64 a1, .int .i64 a2]] W fun e w' => e = .returned (.bool true) ∧ Below W.heap.size W w' := fun W => by
                have := lies_any b1 b2 a1 a2 W
                rwa [show decide (b1 ≤ b2 ∧ a1 ≤ b1 ∧ b2 ≤ a2) = true from decide_eq_true ⟨by omega, by omega, by omega⟩] at this
              have Clies := hide clies
              clear clies
              have e1 : decide (d1 < a1) = false := decide_eq_false (by omega)
              have e2 : decide (d2 < a2) = false := decide_eq_false (by omega)
              go_wp2_with fail
              apply wp_region_L (w0 := wr) [[], [], [], [], [], [], [], [], [], [], [], [], [], [], [], [], [], [], [], [], [], [], [], [], [], [], [], [], [], [], [], [], [], [], [], []] [true, true, true, true, true, true, true, true, true, true, true, true, true, true, true, true, true, true, true, true, true, true, true, true, true, true, true, true, true, true, true, true, true, true, true, true] [] (fun ixq y => match ixq with  | _ => undef) (fun ixq x F wq => match ixq with  | _ => True) (fun a x => a) (by kernel_rfl) (by kernel_rfl) (fun _ => rfl) [232] (by kernel_rfl)
              · intro x D hD
                have hne := hD.some
                have k0 := liftB hD pa1 (by first | assumption | omega)
                have k1 := liftB hD pa2 (by first | assumption | omega)
                have k2 := liftB hD pb1 (by first | assumption | omega)
                have k3 := liftB hD pb2 (by first | assumption | omega)
                have k4 := liftB hD pd1 (by first | assumption | omega)
                have k5 := liftB hD pd2 (by first | assumption | omega)
                simp only [takeOps, Act.put, List.setIfInBounds_toArray, List.set_cons_succ, List.set_cons_zero]
                repeat (go_big_quiet_step ((go_at_call 25; exact calls_later hD _ (Clies.out _))))
                exact wpQuiet_nil rfl
              · intro d hd x x'
                simp only [List.mem_cons, List.not_mem_nil, or_false] at hd
                rcases hd with rfl
                all_goals rfl
              · exact trivial
              · exact trivial
              intro x4 w9 F hL4 hlv4
              clear hlv4
              clear pa1 pa2 pb1 pb2 pd1 pd2 k1 k2 k3 Clies
              replace HG := hide (onward HG.out hL4)
              clear hL4
              go_wp2
              go_roundw
              case rel => exact ⟨j + 1, by omega, by go_num, HG.out⟩
              case measure => simp [intOf] <;> omega
            · have HB := hide (onward HB5.out HG.out)
              go_wp2_with fail
              refine (works_any _).mono ?_
              rintro e w9 ⟨rfl, hb⟩
              replace HB := hide (onward HB.out hb)
              clear hb
              go_wp2
              go_ret
              exact ⟨rfl, HB.out⟩
end Go.Proofs.Ytmglgahagbfbkaa
