/-
  The law TraceOrders returns true.
-/
import Derived.Test.YtiggefmckomilaaKnownMath
set_option linter.unusedSimpArgs false
set_option linter.unusedVariables false
namespace Go.Proofs.Ytiggefmckomilaa
open Go Go.RowKit

theorem actInfo : (Try.prog.info? 59).map (fun i => (i.zero, i.size, i.bytes)) = some (some (.agg #[.int .i64 0, .string ⟨#[]⟩, .string ⟨#[]⟩, .int .i64 0, .int .i64 0, .int .i64 0, .int .i64 0, .int .i64 0]), 8, 80) := by kernel_rfl
/-- Acts in a row. -/
def actsV (ts : List ActR) : List Value := ts.flatMap actL
theorem actsV_snoc (ts : List ActR) (a : ActR) : actsV (ts ++ [a]) = actsV ts ++ [.int .i64 a.k, .string a.nm, .string a.pr, .int .i64 a.lo, .int .i64 a.hi, .int .i64 a.tm, .int .i64 a.un, .int .i64 a.n] := by unfold actsV; simp [actL]
theorem actsV_at {ts : List ActR} {i : Nat} {a : ActR} (h : ts[i]? = some a) {j : Nat} (hj : j < 8) : (actsV ts)[i * 8 + j]? = (actL a)[j]? := flatMap8_get actL (fun _ => rfl) ts i j a h hj
/-- An act of a row, in memory. -/
theorem acts_cells {w : World} {g : Nat} {t : TypeId} {cur : Array Value} {ts : List ActR} (hb : Blk w g t cur) (hc : ∀ (i : Nat) (v : Value), (actsV ts)[i]? = some v → cur[i]? = some v) {i : Nat} {a : ActR} (h : ts[i]? = some a) :
    w.cell? ⟨g, i * 8, none⟩ = some (.int .i64 a.k) ∧ w.cell? ⟨g, i * 8 + 1, none⟩ = some (.string a.nm) ∧ w.cell? ⟨g, i * 8 + 2, none⟩ = some (.string a.pr) ∧ w.cell? ⟨g, i * 8 + 3, none⟩ = some (.int .i64 a.lo) ∧ w.cell? ⟨g, i * 8 + 4, none⟩ = some (.int .i64 a.hi) ∧ w.cell? ⟨g, i * 8 + 5, none⟩ = some (.int .i64 a.tm) ∧ w.cell? ⟨g, i * 8 + 6, none⟩ = some (.int .i64 a.un) ∧ w.cell? ⟨g, i * 8 + 7, none⟩ = some (.int .i64 a.n) :=
  ⟨hb.c _ (hc _ _ (actsV_at h (j := 0) (by omega))), hb.c _ (hc _ _ (actsV_at h (j := 1) (by omega))), hb.c _ (hc _ _ (actsV_at h (j := 2) (by omega))), hb.c _ (hc _ _ (actsV_at h (j := 3) (by omega))), hb.c _ (hc _ _ (actsV_at h (j := 4) (by omega))), hb.c _ (hc _ _ (actsV_at h (j := 5) (by omega))), hb.c _ (hc _ _ (actsV_at h (j := 6) (by omega))), hb.c _ (hc _ _ (actsV_at h (j := 7) (by omega)))⟩
set_option maxRecDepth 100000 in
theorem lies_any (a1 a2 b1 b2 : Int) (w : World) (h1 : a1 ≤ a2) (h2 : b1 ≤ a1) (h3 : a2 ≤ b2) : Calls Try.prog 27 #[.agg #[.int .i64 a1, .int .i64 a2], .agg #[.int .i64 b1, .int .i64 b2]] w fun e w' => e = .returned (.bool true) ∧ Below w.heap.size w w' := by
  go_enter Try.func27, Try.ntmps27
  go_wp2
  go_ret
  refine ⟨rfl, ?_⟩
  repeat (first | exact Below.refl _ _ | (refine Below.setCell ?_ (by first | omega | (simp; done) | (simp; omega)) _) | (refine Below.alloc ?_ (by first | omega | (simp; done) | (simp; omega)) _) | (refine below_drewN ?_ _))
set_option maxHeartbeats 8000000 in
set_option maxRecDepth 100000 in
theorem TraceOrders_any (ac : Nat → ActR) (A : Option Addr) (n c : Nat) (w : World) (hrow : Rows_ w w.heap.size A n 8 (fun i => actL (ac i))) (hok : ∀ i, ActOk (ac i)) (hn : n ≤ maxLen) :
    Calls Try.prog 5 #[.slice A n c] w fun e w' => e = .returned (.bool true) ∧ Below w.heap.size w w' := by
  have hn63 : (n : Int) ≤ 9223372036854775807 := by unfold maxLen at hn; omega
  have hsm := small_any ac A n c 40 w hrow hok hn (by decide)
  obtain ⟨sb, hsb⟩ : ∃ b, smallB ac n 40 = b := ⟨_, rfl⟩
  rw [hsb] at hsm
  rw [show (((40 : Nat) : Int)) = 40 from rfl] at hsm
  cases sb with
  | false =>
    go_enter Try.func5, Try.ntmps5
    have HB := hide (Below.refl w.heap.size w)
    go_wp2_with fail
    refine hsm.mono ?_
    rintro e w' ⟨rfl, rfl⟩
    go_wp2_with fail
    refine (works_any _).mono ?_
    rintro e w2 ⟨rfl, hb⟩
    replace HB := hide (onward HB.out hb)
    clear hb
    go_wp2
    go_ret
    exact ⟨rfl, HB.out⟩
  | true =>
    have hn40 := (smallB_iff.1 hsb).1
    obtain ⟨i0, hii, hz0, hz1, hz2⟩ := info_parts actInfo
    have Hi := hide hii
    have Hz0 := hide hz0
    have Hz1 := hide hz1
    have Hz2 := hide hz2
    have Hrow := hide hrow
    have Hok := hide hok
    clear hii hz0 hz1 hz2 hrow hok
    clear hsb
    go_enter Try.func5, Try.ntmps5
    have HM := hide (Mem.start w)
    go_wp2_with fail
    refine hsm.mono ?_
    rintro e w' ⟨rfl, rfl⟩
    clear hsm
    go_wp2_with fail
    refine (New_any _).mono ?_
    rintro e w1 ⟨p, L, rfl, hb, hB, hL⟩
    have HM1 := hide (HM.out.add (t := .book [] p L) hB hb hL)
    clear HM hb hB hL
    have HM := HM1
    clear HM1
    unfold ptrB
    go_wp2_with fail
    refine (New_any _).mono ?_
    rintro e w2 ⟨pc, Lc, rfl, hb, hB, hL⟩
    have HM1 := hide (((HM.out.add (t := .book [] pc Lc) hB hb hL).nilRow w'.heap.size 59 8).nilRow w'.heap.size 59 8)
    clear HM hb hB hL
    have HM := HM1
    clear HM1
    unfold ptrB
    go_wp2_with fail
    go_loopw [5, 6, 7] (fun tv ov i wr => ∃ (k : Nat) (L Lc : Lay), k ≤ n ∧ i = .int .i64 k ∧ Mem w' [.row w'.heap.size 59 8 tv (tstA ac k).length (actsV (tstA ac k)), .row w'.heap.size 59 8 ov (othA ac k).length (actsV (othA ac k)), .book (bookA (othA ac k)) pc Lc, .book (ordB ac k) p L] wr) (fun _ _ i _ => n - (intOf i).toNat)
    case atStart => exact ⟨0, L, Lc, Nat.zero_le _, rfl, HM.out⟩
    case round =>
      obtain ⟨k, L1, Lc1, hkn, rfl, hM⟩ := hrel
      clear HM
      have HM := hide hM
      clear hM
      by_cases hk : k < n
      · have hk' : (k : Int) < n := by omega
        obtain ⟨At, ct, rfl⟩ := own_shape2 (Mem.row_ HM.out 0 rfl)
        obtain ⟨Ao, co, rfl⟩ := own_shape2 (Mem.row_ HM.out 1 rfl)
        have hI := ordI ac k (by omega)
        have hI2 := ordI ac (k + 1) (by omega)
        have hot := fun h1 h2 => oth_step hI (by omega) h1 h2
        have hgs := fun h1 h2 => gain_step (ac := ac) (k := k) (by omega) h1 h2
        have htl := hI.tlen
        have hol := hI.olen
        have htl2 := hI2.tlen
        have hol2 := hI2.olen
        have eB : ordB ac (k + 1) = if (ac k).k % 8 ≤ 2 then enterL (ordB ac k) (ac k) else ordB ac k := rfl
        have eO : othA ac (k + 1) = othA ac k ++ if (ac k).k % 8 < 2 ∧ enterB (ordB ac k) (ac k) = true then [ac k] else [] := rfl
        have eT : tstA ac (k + 1) = tstA ac k ++ if (ac k).k % 8 = 2 ∧ enterB (ordB ac k) (ac k) = true then [ac k] else [] := rfl
        have hkk := (Hok.out k).k0
        have hkk2 := (Hok.out k).k1
        have hnm := (Hok.out k).nm
        clear hI hI2
        obtain ⟨b, off, hA, hltb, hc⟩ := Hrow.out (by omega)
        have q0 := hc k hk 0 (.int .i64 (ac k).k) rfl
        have q1 := hc k hk 1 (.string (ac k).nm) rfl
        have q2 := hc k hk 2 (.string (ac k).pr) rfl
        have q3 := hc k hk 3 (.int .i64 (ac k).lo) rfl
        have q4 := hc k hk 4 (.int .i64 (ac k).hi) rfl
        have q5 := hc k hk 5 (.int .i64 (ac k).tm) rfl
        have q6 := hc k hk 6 (.int .i64 (ac k).un) rfl
        have q7 := hc k hk 7 (.int .i64 (ac k).n) rfl
        rw [Nat.add_zero] at q0
        have P := hide (And.intro q0 (And.intro q1 (And.intro q2 (And.intro q3 (And.intro q4 (And.intro q5 (And.intro q6 q7)))))))
        clear hc q0 q1 q2 q3 q4 q5 q6 q7
        subst hA
        obtain ⟨qq, hq, hq1, hq2, hr⟩ := kind_mod (k := (ac k).k)
        obtain ⟨r, hr2⟩ : ∃ r, (ac k).k % 8 = r := ⟨_, rfl⟩
        rw [hr2] at hr hot hgs eB eO eT
        have hrb : 0 ≤ r ∧ r ≤ 7 := by omega
        clear hr2
        have Hot := hide hot
        have Hgs := hide hgs
        have EB := hide eB
        have EO := hide eO
        have ET := hide eT
        clear hot hgs eB eO eT
        obtain ⟨q0, q1, q2, q3, q4, q5, q6, q7⟩ := P.out
        rw [← HM.out.below.cell hltb] at q0 q1 q2 q3 q4 q5 q6 q7
        have ltq : b < wr.heap.size := Nat.lt_of_lt_of_le hltb HM.out.size
        by_cases hr3 : 2 < r
        · go_wp2_with fail
          clear q0 q1 q2 q3 q4 q5 q6 q7 ltq
          go_roundw
          case rel =>
            have eB := EB.out
            have eO := EO.out
            have eT := ET.out
            rw [if_neg (by omega)] at eB eO eT
            rw [List.append_nil] at eO eT
            exact ⟨k + 1, L1, Lc1, hk, by go_num, by rw [eB, eO, eT]; exact HM.out⟩
          case measure => simp [intOf] <;> omega
        · have hg1 := Gain_any (ordB ac k) p L1 (ac k).nm 200000 wr (Mem.book_ HM.out 3 rfl) hnm
          obtain ⟨G, hG⟩ : ∃ G, gainE (ordB ac k) (ac k).nm 200000 = G := ⟨_, rfl⟩
          rw [hG] at hg1
          have HG := hide hG
          clear hG
          obtain ⟨⟨ga, gb⟩, ⟨gi, gj⟩, ge⟩ := G
          unfold gainV ptrB at hg1
          go_wp2_with fail
          refine (hg1).mono ?_
          rintro e w3 ⟨rfl, hb⟩
          replace HM := hide (HM.out.later hb)
          clear hb
          clear q0 q1 q2 q3 q4 q5 q6 q7 ltq
          clear hg1
          obtain ⟨q0, q1, q2, q3, q4, q5, q6, q7⟩ := P.out
          rw [← HM.out.below.cell hltb] at q0 q1 q2 q3 q4 q5 q6 q7
          have ltq : b < w3.heap.size := Nat.lt_of_lt_of_le hltb HM.out.size
          go_wp2_with fail
          refine at_world fun w4 hW => ?_
          have HMn := Mem.to (Mem.allocAt (Mem.allocAt HM.out w3.heap.size rfl #[.int .i64 ga, .int .i64 gb] 23) (w3.heap.size + 1) (by simp) #[.int .i64 gi, .int .i64 gj] 52) hW
          have LW : Later w3 w4 := by rw [hW]; exact (((Below.refl _ _).alloc (Nat.le_refl _) _).alloc (by simp; try omega) _)
          have szW : w4.heap.size = w3.heap.size + 2 := by rw [hW]; simp
          clear hW
          replace HM := hide HMn
          clear HMn LW
          generalize hgS : w3.heap.size = gS at HM ⊢
          clear q0 q1 q2 q3 q4 q5 q6 q7 ltq
          have hen := enter_any (ordB ac k) p L1 (ac k) w4 (Mem.book_ HM.out 5 rfl) (Hok.out k)
          unfold actA actV ptrB at hen
          obtain ⟨eb, heb⟩ : ∃ eb, enterB (ordB ac k) (ac k) = eb := ⟨_, rfl⟩
          rw [heb] at hen Hot Hgs EO ET
          clear heb
          refine hen.mono ?_
          rintro e w5 ⟨rfl, hp⟩
          obtain ⟨L2, hM2⟩ := HM.out.enterA 5 rfl hp
          have eB := EB.out
          rw [if_pos (by omega)] at eB
          rw [← eB] at hM2
          clear hp HM hen eB EB
          have HM := hide (hM2 : Mem w' [.blk (gS + 1) 52 #[.int .i64 gi, .int .i64 gj], .blk gS 23 #[.int .i64 ga, .int .i64 gb], .row w'.heap.size 59 8 (.slice At (tstA ac k).length ct) (tstA ac k).length (actsV (tstA ac k)), .row w'.heap.size 59 8 (.slice Ao (othA ac k).length co) (othA ac k).length (actsV (othA ac k)), .book (bookA (othA ac k)) pc Lc1, .book (ordB ac (k + 1)) p L2] w5)
          clear hM2
          cases eb with
          | false =>
            go_wp2_with fail
            go_roundw
            case rel =>
              have eO := EO.out
              have eT := ET.out
              rw [if_neg (by simp), List.append_nil] at eO eT
              exact ⟨k + 1, L2, Lc1, hk, by go_num, by rw [eO, eT]; exact HM.out.tail.tail⟩
            case measure => simp [intOf] <;> omega
          | true =>
            by_cases hr2 : r < 2
            · obtain ⟨x, -, -, e2, e3, -⟩ := Hot.out hr2 rfl
              have Hx := hide (And.intro e2 e3)
              clear e2 e3
              obtain ⟨q0, q1, q2, q3, q4, q5, q6, q7⟩ := P.out
              rw [← HM.out.below.cell hltb] at q0 q1 q2 q3 q4 q5 q6 q7
              have ltq : b < w5.heap.size := Nat.lt_of_lt_of_le hltb HM.out.size
              have hownM := Mem.row_ HM.out 3 rfl
              have hbaseM : w'.heap.size ≤ w5.heap.size := HM.out.size
              go_wp2_with (at_builtin; refine wpList_append_own_at _ rfl (.tmp 63) (.tmp 68) _ rfl w'.heap.size 59 i0 _ 8 80 Try.underlying56 Hi.out Hz0.out Hz1.out Hz2.out rfl (by decide) _ (othA ac k).length (actsV (othA ac k)) rfl (hownM.alloc _) ⟨w5.heap.size, 0, none⟩ 1 1 [.int .i64 (ac k).k, .string (ac k).nm, .string (ac k).pr, .int .i64 (ac k).lo, .int .i64 (ac k).hi, .int .i64 (ac k).tm, .int .i64 (ac k).un, .int .i64 (ac k).n] rfl rfl ?q1c1 (by intro u hu; simp only [List.mem_cons, List.not_mem_nil, or_false] at hu; rcases hu with rfl | rfl | rfl | rfl | rfl | rfl | rfl | rfl <;> rfl) ?q1c3 ?q1c4 ?q1c5 ?_)
              try case q1c1 => exact new_cellsQ w5 _ [.int .i64 (ac k).k, .string (ac k).nm, .string (ac k).pr, .int .i64 (ac k).lo, .int .i64 (ac k).hi, .int .i64 (ac k).tm, .int .i64 (ac k).un, .int .i64 (ac k).n]
              case q1c3 => unfold maxLen; omega
              case q1c4 => omega
              case q1c5 => simp; omega
              intro ov2 w6 hown2 hgr2 _ hat2
              have HMn := HM.out.grow 3 rfl _ hgr2 hown2 hat2
              replace HM := hide HMn
              clear HMn hown2 hgr2 hat2 hownM hbaseM
              clear q0 q1 q2 q3 q4 q5 q6 q7 ltq
              obtain ⟨q0, q1, q2, q3, q4, q5, q6, q7⟩ := P.out
              rw [← HM.out.below.cell hltb] at q0 q1 q2 q3 q4 q5 q6 q7
              have ltq : b < w6.heap.size := Nat.lt_of_lt_of_le hltb HM.out.size
              have hen := enter_any (bookA (othA ac k)) pc Lc1 (ac k) w6 (Mem.book_ HM.out 4 rfl) (Hok.out k)
              unfold actA actV ptrB at hen
              rw [Hx.out.1] at hen
              go_wp2_with fail
              refine hen.mono ?_
              rintro e w7 ⟨rfl, hp⟩
              obtain ⟨Lc2, hM2⟩ := HM.out.enterA 4 rfl hp
              clear q0 q1 q2 q3 q4 q5 q6 q7 ltq
              clear hp HM hen
              have HM := hide hM2
              clear hM2
              go_wp2_with fail
              go_roundw
              case rel =>
                have eO := EO.out
                have eT := ET.out
                rw [if_pos ⟨hr2, by trivial⟩] at eO
                rw [if_neg (by omega), List.append_nil] at eT
                refine ⟨k + 1, L2, Lc2, hk, by go_num, ?_⟩
                rw [eT, eO, bookA_snoc, actsV_snoc, List.length_append]
                exact HM.out.tail.tail
              case measure => simp [intOf] <;> omega
            · obtain rfl : r = 2 := by omega
              obtain ⟨hst, hcf⟩ := Hgs.out rfl rfl
              rw [HG.out] at hst
              obtain ⟨q0, q1, q2, q3, q4, q5, q6, q7⟩ := P.out
              rw [← HM.out.below.cell hltb] at q0 q1 q2 q3 q4 q5 q6 q7
              have ltq : b < w5.heap.size := Nat.lt_of_lt_of_le hltb HM.out.size
              have hownM := Mem.row_ HM.out 2 rfl
              have hbaseM : w'.heap.size ≤ w5.heap.size := HM.out.size
              go_wp2_with (at_builtin; refine wpList_append_own_at _ rfl (.tmp 77) (.tmp 82) _ rfl w'.heap.size 59 i0 _ 8 80 Try.underlying56 Hi.out Hz0.out Hz1.out Hz2.out rfl (by decide) _ (tstA ac k).length (actsV (tstA ac k)) rfl (hownM.alloc _) ⟨w5.heap.size, 0, none⟩ 1 1 [.int .i64 (ac k).k, .string (ac k).nm, .string (ac k).pr, .int .i64 (ac k).lo, .int .i64 (ac k).hi, .int .i64 (ac k).tm, .int .i64 (ac k).un, .int .i64 (ac k).n] rfl rfl ?q2c1 (by intro u hu; simp only [List.mem_cons, List.not_mem_nil, or_false] at hu; rcases hu with rfl | rfl | rfl | rfl | rfl | rfl | rfl | rfl <;> rfl) ?q2c3 ?q2c4 ?q2c5 ?_)
              try case q2c1 => exact new_cellsQ w5 _ [.int .i64 (ac k).k, .string (ac k).nm, .string (ac k).pr, .int .i64 (ac k).lo, .int .i64 (ac k).hi, .int .i64 (ac k).tm, .int .i64 (ac k).un, .int .i64 (ac k).n]
              case q2c3 => unfold maxLen; omega
              case q2c4 => omega
              case q2c5 => simp; omega
              intro tv2 w6 hown2 hgr2 _ hat2
              have HMn := HM.out.grow 2 rfl _ hgr2 hown2 hat2
              replace HM := hide HMn
              clear HMn hown2 hgr2 hat2 hownM hbaseM
              clear q0 q1 q2 q3 q4 q5 q6 q7 ltq
              obtain ⟨At2, ct2, rfl⟩ := own_shape2 (Mem.row_ HM.out 2 rfl)
              have hg2 := Gain_any (ordB ac (k + 1)) p L2 (ac k).nm 200000 w6 (Mem.book_ HM.out 5 rfl) hnm
              obtain ⟨G2, hG2⟩ : ∃ G, gainE (ordB ac (k + 1)) (ac k).nm 200000 = G := ⟨_, rfl⟩
              rw [hG2] at hg2 hst hcf
              clear hG2
              obtain ⟨⟨ha, hb⟩, ⟨hi, hj⟩, he⟩ := G2
              obtain ⟨s1, s2, s3, s4⟩ := hst
              simp only at s1 s2 s3 s4
              unfold gainV ptrB at hg2
              have Hcf := hide hcf
              clear hcf
              obtain ⟨q0, q1, q2, q3, q4, q5, q6, q7⟩ := P.out
              rw [← HM.out.below.cell hltb] at q0 q1 q2 q3 q4 q5 q6 q7
              have ltq : b < w6.heap.size := Nat.lt_of_lt_of_le hltb HM.out.size
              go_wp2_with fail
              refine (hg2).mono ?_
              rintro e w7 ⟨rfl, hb⟩
              replace HM := hide (HM.out.later hb)
              clear hb
              clear q0 q1 q2 q3 q4 q5 q6 q7 ltq
              clear hg2
              have bz : Blk w7 gS 23 #[.int .i64 ga, .int .i64 gb] := HM.out.get 1 rfl
              have ltz := bz.lt
              have z0 := bz.c 0 rfl
              have z1 := bz.c 1 rfl
              rcases s1 with rfl | rfl
              · have hle := s3 rfl
                have hle' : ¬ hb < ha := by omega
                have hge : ¬ ge = 14 := fun h => by have := s2 h; simp at this
                by_cases hge0 : ge = 0
                · subst hge0
                  obtain ⟨l1, l2⟩ := s4 rfl rfl
                  clear s2 s3 s4
                  go_wp2_with fail
                  refine at_world fun w8 hW => ?_
                  have HMn := Mem.to (Mem.allocAt (Mem.allocAt HM.out w7.heap.size rfl #[.int .i64 ha, .int .i64 hb] 23) (w7.heap.size + 1) (by simp) #[.int .i64 hi, .int .i64 hj] 52) hW
                  have LW : Later w7 w8 := by rw [hW]; exact (((Below.refl _ _).alloc (Nat.le_refl _) _).alloc (by simp; try omega) _)
                  have szW : w8.heap.size = w7.heap.size + 2 := by rw [hW]; simp
                  clear hW bz ltz z0 z1
                  replace HM := hide HMn
                  clear HMn LW
                  generalize hgT : w7.heap.size = gT at HM ⊢
                  refine (lies_any ha hb ga gb w8 hle l1 l2).mono ?_
                  rintro e w9 ⟨rfl, hb⟩
                  replace HM := hide (HM.out.later hb)
                  clear hb
                  have bz : Blk w9 gT 23 #[.int .i64 ha, .int .i64 hb] := HM.out.get 1 rfl
                  have ltz := bz.lt
                  have z0 := bz.c 0 rfl
                  have z1 := bz.c 1 rfl
                  go_wp2_with fail
                  go_roundw
                  case rel =>
                    have eO := EO.out
                    have eT := ET.out
                    rw [if_pos (by simp)] at eT
                    rw [if_neg (by omega), List.append_nil] at eO
                    refine ⟨k + 1, L2, Lc1, hk, by go_num, ?_⟩
                    rw [eT, eO, actsV_snoc, List.length_append]
                    exact HM.out.tail.tail.tail.tail
                  case measure => simp [intOf] <;> omega
                · clear s2 s3 s4
                  go_wp2_with fail
                  go_roundw
                  case rel =>
                    have eO := EO.out
                    have eT := ET.out
                    rw [if_pos (by simp)] at eT
                    rw [if_neg (by omega), List.append_nil] at eO
                    refine ⟨k + 1, L2, Lc1, hk, by go_num, ?_⟩
                    rw [eT, eO, actsV_snoc, List.length_append]
                    exact ((HM.out.alloc _ _).alloc _ _).tail.tail.tail.tail
                  case measure => simp [intOf] <;> omega
              · clear s2 s3 s4
                have eO := EO.out
                have eT := ET.out
                rw [if_pos (by simp)] at eT
                rw [if_neg (by omega), List.append_nil] at eO
                obtain ⟨i, j, a0, a1, hat, hij, hjl, ha0, ha1, u1, u2, u3⟩ := Hcf.out rfl
                simp only [Prod.mk.injEq] at hat
                obtain ⟨rfl, rfl⟩ := hat
                rw [eT] at hjl ha0 ha1
                rw [eO] at u1 u2 u3
                rw [List.length_append, List.length_singleton] at hjl
                have k0 := Hok.out
                have o0 : ActOk a0 := by obtain ⟨z, rfl⟩ := tst_mem (k := k + 1) (by rw [eT]; exact List.mem_of_getElem? ha0); exact k0 z
                have o1 : ActOk a1 := by obtain ⟨z, rfl⟩ := tst_mem (k := k + 1) (by rw [eT]; exact List.mem_of_getElem? ha1); exact k0 z
                have oo : ∀ a ∈ othA ac k, ActOk a := fun a ha => by obtain ⟨z, rfl⟩ := oth_mem ha; exact k0 z
                have n1 : ¬ j ≤ i := by omega
                have n2 : ¬ (tstA ac k).length + 1 ≤ j := by omega
                have n3 : ¬ ((j : Int) ≤ (i : Int)) := by omega
                have n4 : ¬ (((tstA ac k).length : Int) + 1 ≤ (j : Int)) := by omega
                clear k0
                have EO2 := hide eO
                have ET2 := hide eT
                have Ha0 := hide ha0
                have Ha1 := hide ha1
                have U1 := hide u1
                have U2 := hide u2
                have U3 := hide u3
                have O0 := hide o0
                have O1 := hide o1
                have OO := hide oo
                clear eO eT ha0 ha1 u1 u2 u3 o0 o1 oo
                by_cases hge : ge = 14
                · subst hge
                  go_wp2_with fail
                  refine at_world fun w8 hW => ?_
                  have HMn := Mem.to (Mem.allocAt (Mem.allocAt HM.out w7.heap.size rfl #[.int .i64 ha, .int .i64 hb] 23) (w7.heap.size + 1) (by simp) #[.int .i64 i, .int .i64 j] 52) hW
                  have LW : Later w7 w8 := by rw [hW]; exact (((Below.refl _ _).alloc (Nat.le_refl _) _).alloc (by simp; try omega) _)
                  have szW : w8.heap.size = w7.heap.size + 2 := by rw [hW]; simp
                  clear hW bz ltz z0 z1
                  replace HM := hide HMn
                  clear HMn LW
                  generalize hgT : w7.heap.size = gT at HM ⊢
                  refine (New_any _).mono ?_
                  rintro e w9 ⟨pt, Lt, rfl, hb, hB, hL⟩
                  have HM1 := hide ((((HM.out.drop 1 rfl).drop 1 rfl).drop 1 rfl).add (t := .book [] pt Lt) hB hb hL : Mem w' [.book [] pt Lt, .blk (gT + 1) 52 #[.int .i64 i, .int .i64 j], .row w'.heap.size 59 8 (.slice At2 ((tstA ac k).length + 1) ct2) ((tstA ac k).length + 1) (actsV (tstA ac k) ++ [.int .i64 (ac k).k, .string (ac k).nm, .string (ac k).pr, .int .i64 (ac k).lo, .int .i64 (ac k).hi, .int .i64 (ac k).tm, .int .i64 (ac k).un, .int .i64 (ac k).n]), .row w'.heap.size 59 8 (.slice Ao (othA ac k).length co) (othA ac k).length (actsV (othA ac k)), .book (bookA (othA ac k)) pc Lc1, .book (ordB ac (k + 1)) p L2] w9)
                  rw [← actsV_snoc] at HM1
                  clear HM hb hB hL
                  have HM := HM1
                  clear HM1
                  unfold ptrB
                  go_wp2_with fail
                  go_loopw [16] (fun v wr2 => ∃ (y : Nat) (Lt : Lay), y ≤ (othA ac k).length ∧ v = .int .i64 y ∧ Mem w' [.book (bookA ((othA ac k).take y)) pt Lt, .blk (gT + 1) 52 #[.int .i64 i, .int .i64 j], .row w'.heap.size 59 8 (.slice At2 ((tstA ac k).length + 1) ct2) ((tstA ac k).length + 1) (actsV (tstA ac k ++ [ac k])), .row w'.heap.size 59 8 (.slice Ao (othA ac k).length co) (othA ac k).length (actsV (othA ac k)), .book (bookA (othA ac k)) pc Lc1, .book (ordB ac (k + 1)) p L2] wr2) (fun v _ => (othA ac k).length - (intOf v).toNat)
                  case atStart => exact ⟨0, Lt, Nat.zero_le _, rfl, HM.out⟩
                  case round =>
                    obtain ⟨y, Lt2, hym, rfl, hM⟩ := hrel
                    clear HM
                    have HM := hide hM
                    clear hM
                    by_cases hy : y < (othA ac k).length
                    · have hy' : (y : Int) < ((othA ac k).length : Int) := by omega
                      obtain ⟨a, haE⟩ : ∃ a, (othA ac k)[y]? = some a := ⟨_, List.getElem?_eq_getElem hy⟩
                      have hao := OO.out a (List.mem_of_getElem? haE)
                      have htk := bookA_take haE
                      obtain ⟨bO, curO, rfl, -, hbO, -, -, hcO⟩ := row_blk (Mem.row_ HM.out 3 rfl) (by omega)
                      obtain ⟨q0, q1, q2, q3, q4, q5, q6, q7⟩ := acts_cells hbO hcO haE
                      have ltq := hbO.lt
                      have hen := enter_any (bookA ((othA ac k).take y)) pt Lt2 a wr (Mem.book_ HM.out 0 rfl) hao
                      unfold actA actV ptrB at hen
                      have Htk := hide htk
                      clear htk hbO hcO haE
                      go_wp2_with fail
                      refine hen.mono ?_
                      rintro e w10 ⟨rfl, hp⟩
                      obtain ⟨Lt3, hM2⟩ := HM.out.enterA 0 rfl hp
                      clear q0 q1 q2 q3 q4 q5 q6 q7 ltq
                      clear hp HM hen
                      have HM := hide hM2
                      clear hM2
                      go_wp2_with fail
                      go_roundw
                      case rel => exact ⟨y + 1, Lt3, hy, by go_num, by rw [Htk.out]; exact HM.out⟩
                      case measure => simp [intOf] <;> omega
                    · obtain rfl : y = (othA ac k).length := by omega
                      rw [List.take_length] at HM
                      obtain ⟨bT, curT, hAt, -, hbT, -, -, hcT⟩ := row_blk (Mem.row_ HM.out 2 rfl) (by omega)
                      obtain ⟨q0, q1, q2, q3, q4, q5, q6, q7⟩ := acts_cells hbT hcT Ha0.out
                      have ltq := hbT.lt
                      clear hbT hcT
                      subst hAt
                      have bz : Blk wr (gT+1) 52 #[.int .i64 i, .int .i64 j] := HM.out.get 1 rfl
                      have ltz := bz.lt
                      have z0 := bz.c 0 rfl
                      have z1 := bz.c 1 rfl
                      have hen := enter_any (bookA (othA ac k)) pt Lt2 a0 wr (Mem.book_ HM.out 0 rfl) O0.out
                      rw [U1.out] at hen
                      unfold actA actV ptrB at hen
                      go_wp2_with fail
                      refine hen.mono ?_
                      rintro e w10 ⟨rfl, hp⟩
                      obtain ⟨Lt3, hM2⟩ := HM.out.enterA 0 rfl hp
                      clear q0 q1 q2 q3 q4 q5 q6 q7 ltq
                      clear bz ltz z0 z1
                      clear hp HM hen
                      have HM := hide hM2
                      clear hM2
                      obtain ⟨bT', curT, hAt, -, hbT, -, -, hcT⟩ := row_blk (Mem.row_ HM.out 2 rfl) (by omega)
                      obtain ⟨q0, q1, q2, q3, q4, q5, q6, q7⟩ := acts_cells hbT hcT Ha1.out
                      have ltq := hbT.lt
                      clear hbT hcT
                      cases hAt
                      have bz : Blk w10 (gT+1) 52 #[.int .i64 i, .int .i64 j] := HM.out.get 1 rfl
                      have ltz := bz.lt
                      have z0 := bz.c 0 rfl
                      have z1 := bz.c 1 rfl
                      have hen := enter_any (enterL (bookA (othA ac k)) a0) pt Lt3 a1 w10 (Mem.book_ HM.out 0 rfl) O1.out
                      rw [U2.out] at hen
                      unfold actA actV ptrB at hen
                      go_wp2_with fail
                      refine hen.mono ?_
                      rintro e w11 ⟨rfl, hp⟩
                      obtain ⟨Lt4, hM2⟩ := HM.out.enterA 0 rfl hp
                      clear q0 q1 q2 q3 q4 q5 q6 q7 ltq
                      clear bz ltz z0 z1
                      clear hp HM hen
                      have HM := hide hM2
                      clear hM2
                      have hg3 := Gain_any (enterL (enterL (bookA (othA ac k)) a0) a1) pt Lt4 (ac k).nm 200000 w11 (Mem.book_ HM.out 0 rfl) hnm
                      rw [U3.out] at hg3
                      unfold gainV ptrB at hg3
                      obtain ⟨q0, q1, q2, q3, q4, q5, q6, q7⟩ := P.out
                      rw [← HM.out.below.cell hltb] at q0 q1 q2 q3 q4 q5 q6 q7
                      have ltq : b < w11.heap.size := Nat.lt_of_lt_of_le hltb HM.out.size
                      go_wp2_with fail
                      refine (hg3).mono ?_
                      rintro e w12 ⟨rfl, hb⟩
                      replace HM := hide (HM.out.later hb)
                      clear hb
                      clear q0 q1 q2 q3 q4 q5 q6 q7 ltq
                      clear hg3
                      have heq := eqAt 0 1 0 1
                      go_wp2_with fail
                      go_roundw
                      case rel =>
                        refine ⟨k + 1, L2, Lc1, hk, by go_num, ?_⟩
                        rw [ET2.out, EO2.out, List.length_append]
                        exact ((HM.out.alloc _ _).alloc _ _).tail.tail.tail.tail
                      case measure => simp [intOf] <;> omega
                · go_wp2_with fail
                  refine at_world fun w8 hW => ?_
                  have HMn := Mem.to (Mem.allocAt (Mem.allocAt HM.out w7.heap.size rfl #[.int .i64 ha, .int .i64 hb] 23) (w7.heap.size + 1) (by simp) #[.int .i64 i, .int .i64 j] 52) hW
                  have LW : Later w7 w8 := by rw [hW]; exact (((Below.refl _ _).alloc (Nat.le_refl _) _).alloc (by simp; try omega) _)
                  have szW : w8.heap.size = w7.heap.size + 2 := by rw [hW]; simp
                  clear hW bz ltz z0 z1
                  replace HM := hide HMn
                  clear HMn LW
                  generalize hgT : w7.heap.size = gT at HM ⊢
                  refine (New_any _).mono ?_
                  rintro e w9 ⟨pt, Lt, rfl, hb, hB, hL⟩
                  have HM1 := hide ((((HM.out.drop 1 rfl).drop 1 rfl).drop 1 rfl).add (t := .book [] pt Lt) hB hb hL : Mem w' [.book [] pt Lt, .blk (gT + 1) 52 #[.int .i64 i, .int .i64 j], .row w'.heap.size 59 8 (.slice At2 ((tstA ac k).length + 1) ct2) ((tstA ac k).length + 1) (actsV (tstA ac k) ++ [.int .i64 (ac k).k, .string (ac k).nm, .string (ac k).pr, .int .i64 (ac k).lo, .int .i64 (ac k).hi, .int .i64 (ac k).tm, .int .i64 (ac k).un, .int .i64 (ac k).n]), .row w'.heap.size 59 8 (.slice Ao (othA ac k).length co) (othA ac k).length (actsV (othA ac k)), .book (bookA (othA ac k)) pc Lc1, .book (ordB ac (k + 1)) p L2] w9)
                  rw [← actsV_snoc] at HM1
                  clear HM hb hB hL
                  have HM := HM1
                  clear HM1
                  unfold ptrB
                  go_wp2_with fail
                  go_loopw [16] (fun v wr2 => ∃ (y : Nat) (Lt : Lay), y ≤ (othA ac k).length ∧ v = .int .i64 y ∧ Mem w' [.book (bookA ((othA ac k).take y)) pt Lt, .blk (gT + 1) 52 #[.int .i64 i, .int .i64 j], .row w'.heap.size 59 8 (.slice At2 ((tstA ac k).length + 1) ct2) ((tstA ac k).length + 1) (actsV (tstA ac k ++ [ac k])), .row w'.heap.size 59 8 (.slice Ao (othA ac k).length co) (othA ac k).length (actsV (othA ac k)), .book (bookA (othA ac k)) pc Lc1, .book (ordB ac (k + 1)) p L2] wr2) (fun v _ => (othA ac k).length - (intOf v).toNat)
                  case atStart => exact ⟨0, Lt, Nat.zero_le _, rfl, HM.out⟩
                  case round =>
                    obtain ⟨y, Lt2, hym, rfl, hM⟩ := hrel
                    clear HM
                    have HM := hide hM
                    clear hM
                    by_cases hy : y < (othA ac k).length
                    · have hy' : (y : Int) < ((othA ac k).length : Int) := by omega
                      obtain ⟨a, haE⟩ : ∃ a, (othA ac k)[y]? = some a := ⟨_, List.getElem?_eq_getElem hy⟩
                      have hao := OO.out a (List.mem_of_getElem? haE)
                      have htk := bookA_take haE
                      obtain ⟨bO, curO, rfl, -, hbO, -, -, hcO⟩ := row_blk (Mem.row_ HM.out 3 rfl) (by omega)
                      obtain ⟨q0, q1, q2, q3, q4, q5, q6, q7⟩ := acts_cells hbO hcO haE
                      have ltq := hbO.lt
                      have hen := enter_any (bookA ((othA ac k).take y)) pt Lt2 a wr (Mem.book_ HM.out 0 rfl) hao
                      unfold actA actV ptrB at hen
                      have Htk := hide htk
                      clear htk hbO hcO haE
                      go_wp2_with fail
                      refine hen.mono ?_
                      rintro e w10 ⟨rfl, hp⟩
                      obtain ⟨Lt3, hM2⟩ := HM.out.enterA 0 rfl hp
                      clear q0 q1 q2 q3 q4 q5 q6 q7 ltq
                      clear hp HM hen
                      have HM := hide hM2
                      clear hM2
                      go_wp2_with fail
                      go_roundw
                      case rel => exact ⟨y + 1, Lt3, hy, by go_num, by rw [Htk.out]; exact HM.out⟩
                      case measure => simp [intOf] <;> omega
                    · obtain rfl : y = (othA ac k).length := by omega
                      rw [List.take_length] at HM
                      obtain ⟨bT, curT, hAt, -, hbT, -, -, hcT⟩ := row_blk (Mem.row_ HM.out 2 rfl) (by omega)
                      obtain ⟨q0, q1, q2, q3, q4, q5, q6, q7⟩ := acts_cells hbT hcT Ha0.out
                      have ltq := hbT.lt
                      clear hbT hcT
                      subst hAt
                      have bz : Blk wr (gT+1) 52 #[.int .i64 i, .int .i64 j] := HM.out.get 1 rfl
                      have ltz := bz.lt
                      have z0 := bz.c 0 rfl
                      have z1 := bz.c 1 rfl
                      have hen := enter_any (bookA (othA ac k)) pt Lt2 a0 wr (Mem.book_ HM.out 0 rfl) O0.out
                      rw [U1.out] at hen
                      unfold actA actV ptrB at hen
                      go_wp2_with fail
                      refine hen.mono ?_
                      rintro e w10 ⟨rfl, hp⟩
                      obtain ⟨Lt3, hM2⟩ := HM.out.enterA 0 rfl hp
                      clear q0 q1 q2 q3 q4 q5 q6 q7 ltq
                      clear bz ltz z0 z1
                      clear hp HM hen
                      have HM := hide hM2
                      clear hM2
                      obtain ⟨bT', curT, hAt, -, hbT, -, -, hcT⟩ := row_blk (Mem.row_ HM.out 2 rfl) (by omega)
                      obtain ⟨q0, q1, q2, q3, q4, q5, q6, q7⟩ := acts_cells hbT hcT Ha1.out
                      have ltq := hbT.lt
                      clear hbT hcT
                      cases hAt
                      have bz : Blk w10 (gT+1) 52 #[.int .i64 i, .int .i64 j] := HM.out.get 1 rfl
                      have ltz := bz.lt
                      have z0 := bz.c 0 rfl
                      have z1 := bz.c 1 rfl
                      have hen := enter_any (enterL (bookA (othA ac k)) a0) pt Lt3 a1 w10 (Mem.book_ HM.out 0 rfl) O1.out
                      rw [U2.out] at hen
                      unfold actA actV ptrB at hen
                      go_wp2_with fail
                      refine hen.mono ?_
                      rintro e w11 ⟨rfl, hp⟩
                      obtain ⟨Lt4, hM2⟩ := HM.out.enterA 0 rfl hp
                      clear q0 q1 q2 q3 q4 q5 q6 q7 ltq
                      clear bz ltz z0 z1
                      clear hp HM hen
                      have HM := hide hM2
                      clear hM2
                      have hg3 := Gain_any (enterL (enterL (bookA (othA ac k)) a0) a1) pt Lt4 (ac k).nm 200000 w11 (Mem.book_ HM.out 0 rfl) hnm
                      rw [U3.out] at hg3
                      unfold gainV ptrB at hg3
                      obtain ⟨q0, q1, q2, q3, q4, q5, q6, q7⟩ := P.out
                      rw [← HM.out.below.cell hltb] at q0 q1 q2 q3 q4 q5 q6 q7
                      have ltq : b < w11.heap.size := Nat.lt_of_lt_of_le hltb HM.out.size
                      go_wp2_with fail
                      refine (hg3).mono ?_
                      rintro e w12 ⟨rfl, hb⟩
                      replace HM := hide (HM.out.later hb)
                      clear hb
                      clear q0 q1 q2 q3 q4 q5 q6 q7 ltq
                      clear hg3
                      have heq := eqAt 0 1 0 1
                      go_wp2_with fail
                      go_roundw
                      case rel =>
                        refine ⟨k + 1, L2, Lc1, hk, by go_num, ?_⟩
                        rw [ET2.out, EO2.out, List.length_append]
                        exact ((HM.out.alloc _ _).alloc _ _).tail.tail.tail.tail
                      case measure => simp [intOf] <;> omega
      · obtain rfl : k = n := by omega
        have hkk : ¬ ((k : Int) < k) := by omega
        obtain ⟨At, ct, rfl⟩ := own_shape2 (Mem.row_ HM.out 0 rfl)
        obtain ⟨Ao, co, rfl⟩ := own_shape2 (Mem.row_ HM.out 1 rfl)
        obtain ⟨g1, g2, g3, g4, g5, g6, g7, g8, g9, g10⟩ := ordI ac k (by omega)
        have hm : ∀ a ∈ tstA ac k, tstOf a ∈ testsT (ordB ac k) := fun a ha => by rw [g4, List.mem_reverse]; exact List.mem_map.2 ⟨a, ha, rfl⟩
        have hro := fun j a h => rev_ok (j := j) (a := a) g1 g9 g3 (by omega) g10 g5 hm h
        have hrs := fun j a h => revB_step (bookA (othA ac k)) (ts := tstA ac k) (j := j) (a := a) h
        have hre := revB_end (bookA (othA ac k)) (tstA ac k)
        have hto : ∀ a ∈ tstA ac k, ActOk a := fun a ha => by obtain ⟨z, rfl⟩ := tst_mem ha; exact Hok.out z
        have hos := orders_same ac k (by omega)
        clear g1 g2 g3 g4 g5 g6 g8 g9 g10 hm
        have Hro := hide hro
        have Hrs := hide hrs
        have Hre := hide hre
        have Hto := hide hto
        have Hos := hide hos
        clear hro hrs hre hto hos
        generalize bookA (othA ac k) = CB at *
        generalize hTS : tstA ac k = TS at *
        clear hTS
        rw [← Hre.out] at HM
        have hml : (TS.length : Int) ≤ 40 := by omega
        go_wp2_with fail
        go_loopw [20] (fun i wr => ∃ (j : Nat) (L : Lay), j ≤ TS.length ∧ i = .int .i64 ((j : Int) - 1) ∧ Mem w' [.row w'.heap.size 59 8 (.slice At TS.length ct) TS.length (actsV TS), .row w'.heap.size 59 8 (.slice Ao (othA ac k).length co) (othA ac k).length (actsV (othA ac k)), .book (revB CB TS j) pc L, .book (ordB ac k) p L1] wr) (fun i _ => ((intOf i) + 1).toNat)
        case atStart => exact ⟨TS.length, _, Nat.le_refl _, rfl, HM.out⟩
        case round =>
          obtain ⟨j, Lc2, hjm, rfl, hM⟩ := hrel
          clear HM
          have HM := hide hM
          clear hM
          by_cases hj : 0 < j
          · obtain ⟨y, rfl⟩ : ∃ y, j = y + 1 := ⟨j - 1, by omega⟩
            rw [show ((y + 1 : Nat) : Int) - 1 = (y : Int) by omega]
            have hy0 : (0 : Int) ≤ y := by omega
            obtain ⟨a, haE⟩ : ∃ a, TS[y]? = some a := ⟨_, List.getElem?_eq_getElem (by omega)⟩
            have hao := Hto.out a (List.mem_of_getElem? haE)
            have hok1 := Hro.out y a haE
            have hst := Hrs.out y a haE
            obtain ⟨bT, curT, rfl, -, hbT, -, -, hcT⟩ := row_blk (Mem.row_ HM.out 0 rfl) (by omega)
            obtain ⟨q0, q1, q2, q3, q4, q5, q6, q7⟩ := acts_cells hbT hcT haE
            have ltq := hbT.lt
            have hen := enter_any (revB CB TS (y + 1)) pc Lc2 a wr (Mem.book_ HM.out 2 rfl) hao
            rw [hok1] at hen
            unfold actA actV ptrB at hen
            have Hst := hide hst
            have hyl : y < TS.length := by omega
            clear hst hbT hcT haE hok1
            go_wp2_with fail
            refine hen.mono ?_
            rintro e w10 ⟨rfl, hp⟩
            obtain ⟨Lt3, hM2⟩ := HM.out.enterA 2 rfl hp
            clear q0 q1 q2 q3 q4 q5 q6 q7 ltq
            clear hp HM hen
            have HM := hide hM2
            clear hM2
            go_wp2_with fail
            go_roundw
            case rel => exact ⟨y, Lt3, by omega, by go_num, by rw [Hst.out]; exact HM.out⟩
            case measure => simp [intOf] <;> omega
          · obtain rfl : j = 0 := by omega
            have hsa := fun W (hW : Below wr.heap.size wr W) => same_any (ordB ac k) (revB CB TS 0) p pc L1 Lc2 ac A k c (fun _ => ⟨#[]⟩) none 0 0 W ((Mem.book_ HM.out 3 rfl).later hW) ((Mem.book_ HM.out 2 rfl).later hW) ((Hrow.out.below (onward HM.out.below hW)).more (onward HM.out.below hW).size) (Rows_.none _ _ _ _) Hok.out hn (by decide) Hos.out
            unfold ptrB at hsa
            have Hsa := hide hsa
            clear hsa
            go_wp2_with fail
            refine (Hsa.out _ (Below.refl _ _)).mono ?_
            rintro e w8 ⟨rfl, hb⟩
            replace HM := hide (HM.out.later hb)
            clear hb
            go_wp2_with fail
            refine (works_any _).mono ?_
            rintro e w9 ⟨rfl, hb⟩
            replace HM := hide (HM.out.later hb)
            clear hb
            go_wp2
            go_ret
            exact ⟨rfl, HM.out.below⟩
end Go.Proofs.Ytiggefmckomilaa
