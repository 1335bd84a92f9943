/-
  Books that were copied after each act: plain words, and how they lie.
  The law TraceBacks returns true.
-/
import Derived.Test.YtiggefmckomilaaActSame
set_option linter.unusedSimpArgs false
set_option linter.unusedVariables false
namespace Go.Proofs.Ytiggefmckomilaa
open Go Go.RowKit

theorem Mem.perm {w0 W : World} {ts ts' : List Th} (h : Mem w0 ts W) (hp : ts.Perm ts') : Mem w0 ts' W :=
  ⟨fun t ht => h.all t (hp.mem_iff.2 ht), ((hp.flatMap_right Th.fp).nodup_iff).1 h.nodup, fun k hk => h.low k (((hp.flatMap_right Th.fp).mem_iff).2 hk), h.below⟩
theorem entO_suffix (l : List Ent) (o : Option Ent) : ∃ r, entO l o = r ++ l := by
  unfold entO
  cases o with
  | none => exact ⟨[], rfl⟩
  | some x => by_cases h : okEnt l x = true
              · exact ⟨[x], by simp [h]⟩
              · exact ⟨[], by simp [h]⟩
theorem acts_suffix (ac : Nat → ActR) {j : Nat} : ∀ {n : Nat}, j ≤ n → ∃ r, actsL ac n = r ++ actsL ac j
  | 0, h => by obtain rfl : j = 0 := by omega
               exact ⟨[], rfl⟩
  | n + 1, h => by
    by_cases e : j = n + 1
    · subst e; exact ⟨[], rfl⟩
    · obtain ⟨r, hr⟩ := acts_suffix ac (j := j) (n := n) (by omega)
      obtain ⟨q, hq⟩ := entO_suffix (actsL ac n) (entA (ac n))
      refine ⟨q ++ r, ?_⟩
      rw [actsL, enterL, hq, hr, List.append_assoc]
theorem acts_drop (ac : Nat → ActR) {j n : Nat} (h : j ≤ n) : (actsL ac j).length ≤ (actsL ac n).length ∧ (actsL ac n).drop ((actsL ac n).length - (actsL ac j).length) = actsL ac j := by
  obtain ⟨r, hr⟩ := acts_suffix ac h
  rw [hr, List.length_append]
  refine ⟨by omega, ?_⟩
  rw [show r.length + (actsL ac j).length - (actsL ac j).length = r.length by omega, List.drop_left]
theorem acts_good (ac : Nat → ActR) : ∀ n, GoodB (actsL ac n)
  | 0 => trivial
  | n + 1 => enterL_good (acts_good ac n)
theorem outB_zero (bt : Nat → ByteArray) (nm : ByteArray) : outB bt 0 nm = false := rfl
theorem SameP.refl (l : List Ent) (ac : Nat → ActR) (n : Nat) (bt : Nat → ByteArray) : SameP l l ac n bt 0 :=
  ⟨fun _ _ _ _ => rfl, (fun _ _ h => by rw [outB_zero] at h; cases h), fun _ _ _ => ⟨rfl, rfl⟩⟩
theorem Rows_.none (w : World) (B size : Nat) (f : Nat → List Value) : Rows_ w B none 0 size f := fun h => absurd h (Nat.lt_irrefl _)
/-- The copies, the newest first. -/
def bks (ac : Nat → ActR) : List (Nat × Lay) → List Th
  | [] => []
  | x :: r => .book (actsL ac (r.length + 1)) x.1 x.2 :: bks ac r
theorem bks_get {ac : Nat → ActR} : ∀ {cq : List (Nat × Lay)} {i : Nat} {x : Nat × Lay}, cq[i]? = some x → (bks ac cq)[i]? = some (.book (actsL ac (cq.length - i)) x.1 x.2)
  | [], i, x, h => by simp at h
  | y :: r, 0, x, h => by
    have : y = x := by simpa using h
    subst this
    rfl
  | y :: r, i + 1, x, h => by
    rw [bks, List.getElem?_cons_succ, bks_get (cq := r) (by simpa using h), List.length_cons, Nat.add_sub_add_right]
def ptrsV (cq : List (Nat × Lay)) : List Value := cq.reverse.map fun x => ptrB x.1
theorem ptrsV_cons (x : Nat × Lay) (cq : List (Nat × Lay)) : ptrsV (x :: cq) = ptrsV cq ++ [ptrB x.1] := by unfold ptrsV; rw [List.reverse_cons, List.map_append]; rfl
theorem ptrs_at (cq : List (Nat × Lay)) {j : Nat} (hj : j < cq.length) : ∃ x, cq[cq.length - 1 - j]? = some x ∧ (ptrsV cq)[j]? = some (ptrB x.1) := by
  refine ⟨cq[cq.length - 1 - j]'(by omega), List.getElem?_eq_getElem _, ?_⟩
  unfold ptrsV
  rw [List.getElem?_map, List.getElem?_reverse hj, List.getElem?_eq_getElem (by omega)]
  rfl
end Go.Proofs.Ytiggefmckomilaa
namespace Go.Proofs.Ytiggefmckomilaa
open Go Go.RowKit

theorem bookInfo : (Try.prog.info? 37).map (fun i => (i.zero, i.size, i.bytes)) = some (some (.pointer none), 1, 8) := by kernel_rfl
set_option maxHeartbeats 4000000 in
set_option maxRecDepth 100000 in
theorem TraceBacks_any (ac : Nat → ActR) (A : Option Addr) (n c : Nat) (w : World) (hrow : Rows_ w w.heap.size A n 8 (fun i => actL (ac i))) (hok : ∀ i, ActOk (ac i)) (hn : n ≤ maxLen) :
    Calls Try.prog 7 #[.slice A n c] w fun e w' => e = .returned (.bool true) ∧ Below w.heap.size w w' := by
  have hn63 : (n : Int) ≤ 9223372036854775807 := by unfold maxLen at hn; omega
  have hsm := small_any ac A n c 30 w hrow hok hn (by decide)
  obtain ⟨sb, hsb⟩ : ∃ b, smallB ac n 30 = b := ⟨_, rfl⟩
  rw [hsb] at hsm
  rw [show (((30 : Nat) : Int)) = 30 from rfl] at hsm
  cases sb with
  | false =>
    go_enter Try.func7, Try.ntmps7
    have HB := hide (Below.refl w.heap.size w)
    go_wp2_with fail
    refine hsm.mono ?_
    rintro e w' ⟨rfl, rfl⟩
    go_wp2_with fail
    refine (works_any _).mono ?_
    rintro e w2 ⟨rfl, hb⟩
    replace HB := hide (onward HB.out hb)
    clear hb
    go_wp2
    go_ret
    exact ⟨rfl, HB.out⟩
  | true =>
    have hn30 := (smallB_iff.1 hsb).1
    have hE := fun W (h : Below w.heap.size w W) => hrow.below h
    obtain ⟨i0, hii, hz0, hz1, hz2⟩ := info_parts bookInfo
    have Hi := hide hii
    have Hz0 := hide hz0
    have Hz1 := hide hz1
    have Hz2 := hide hz2
    have Hrow := hide hrow
    have Hok := hide hok
    have HE := hide hE
    clear hii hz0 hz1 hz2 hrow hok hE
    clear hsb
    go_enter Try.func7, Try.ntmps7
    have HM := hide (Mem.start w)
    go_wp2_with fail
    refine hsm.mono ?_
    rintro e w' ⟨rfl, rfl⟩
    clear hsm
    go_wp2_with fail
    refine (New_any _).mono ?_
    rintro e w1 ⟨p, L, rfl, hb, hB, hL⟩
    have HM1 := hide ((HM.out.add (t := .book [] p L) hB hb hL).nilRow w'.heap.size 37 1)
    clear HM hb hB hL
    have HM := HM1
    clear HM1
    unfold ptrB
    go_wp2_with fail
    go_loopw [4, 5] (fun tv i wr => ∃ (k : Nat) (L : Lay) (cq : List (Nat × Lay)), k ≤ n ∧ i = .int .i64 k ∧ cq.length = k ∧ Mem w' (.row w'.heap.size 37 1 tv k (ptrsV cq) :: .book (actsL ac k) p L :: bks ac cq) wr) (fun _ i _ => n - (intOf i).toNat)
    case atStart => exact ⟨0, L, [], Nat.zero_le _, rfl, rfl, HM.out⟩
    case round =>
      obtain ⟨k, L1, cq, hkn, rfl, hcq, hM⟩ := hrel
      clear HM
      have HM := hide hM
      clear hM
      by_cases hk : k < n
      · have hk' : (k : Int) < n := by omega
        obtain ⟨Av, cv, rfl⟩ := own_shape2 (Mem.row_ HM.out 0 rfl)
        have hen := Entries_any _ _ _ _ (Mem.book_ HM.out 1 rfl)
        have hal := actsL_len ac k
        have hgn := acts_good ac k
        have hal2 := enterL_len (l := actsL ac k) (a := ac k)
        have hs : actsL ac (k + 1) = enterL (actsL ac k) (ac k) := rfl
        obtain ⟨l, hl⟩ : ∃ l, actsL ac k = l := ⟨_, rfl⟩
        rw [hl] at hen hal hgn hal2 hs HM
        unfold ptrB at hen
        have Hl := hide hl
        have Hs := hide hs
        clear hl hs
        go_wp2_with fail
        refine (hen).mono ?_
        rintro e w2 ⟨rfl, hb⟩
        replace HM := hide (HM.out.later hb)
        clear hb
        clear hen
        obtain ⟨b, off, hA, hltb, hc⟩ := Hrow.out (by omega)
        have q0 := hc k hk 0 (.int .i64 (ac k).k) rfl
        have q1 := hc k hk 1 (.string (ac k).nm) rfl
        have q2 := hc k hk 2 (.string (ac k).pr) rfl
        have q3 := hc k hk 3 (.int .i64 (ac k).lo) rfl
        have q4 := hc k hk 4 (.int .i64 (ac k).hi) rfl
        have q5 := hc k hk 5 (.int .i64 (ac k).tm) rfl
        have q6 := hc k hk 6 (.int .i64 (ac k).un) rfl
        have q7 := hc k hk 7 (.int .i64 (ac k).n) rfl
        rw [Nat.add_zero] at q0
        rw [← HM.out.below.cell hltb] at q0 q1 q2 q3 q4 q5 q6 q7
        have ltq : b < w2.heap.size := Nat.lt_of_lt_of_le hltb HM.out.size
        have Hact := hide (Hok.out k)
        have hen := enter_any l p L1 (ac k) w2 (Mem.book_ HM.out 1 rfl) Hact.out
        clear hc
        subst hA
        unfold actA actV ptrB at hen
        have Hen := hide hen
        clear hen
        obtain ⟨eb, heb⟩ : ∃ eb, enterB l (ac k) = eb := ⟨_, rfl⟩
        obtain ⟨l', hl'⟩ : ∃ l', enterL l (ac k) = l' := ⟨_, rfl⟩
        rw [hl', heb] at hal2
        rw [heb] at Hen
        go_wp2_with fail
        refine Hen.out.mono ?_
        rintro e w3 ⟨rfl, hp⟩
        obtain ⟨L2, hM2⟩ := HM.out.enterA 1 rfl hp
        clear q0 q1 q2 q3 q4 q5 q6 q7 ltq hp HM Hen
        rw [hl'] at hM2
        have HM := hide hM2
        clear hM2
        have he1 := fun W hW => Entries_any l' p L2 W ((Mem.book_ HM.out 1 rfl).later hW)
        have hs' : actsL ac (k + 1) = l' := Hs.out.trans hl'
        have hg' : GoodB l' := by rw [← hs']; exact acts_good ac (k + 1)
        have hll : l'.length ≤ k + 1 := by rw [← hs']; exact actsL_len ac (k + 1)
        rw [hal2] at he1
        unfold ptrB at he1
        have He1 := hide he1
        have Hs2 := hide hs'
        clear he1 hs' hl'
        cases eb with
        | true =>
          rw [show (((l.length + (true).toNat : Nat)) : Int) = (l.length : Int) + 1 from rfl] at He1
          go_wp2_with fail
          refine (He1.out _ (Below.refl _ _)).mono ?_
          rintro e w4 ⟨rfl, hb⟩
          replace HM := hide (HM.out.later hb)
          clear hb
          go_wp2_with fail
          have hcp := Copy_any l' p L2 w4 (Mem.book_ HM.out 1 rfl)
          unfold ptrB at hcp
          refine hcp.mono ?_
          rintro e w5 ⟨q, rfl, Lq, hbq, hBq, hLq⟩
          have HM1 := hide ((HM.out.add (t := .book l' q Lq) hBq hbq hLq).perm (ts' := .row _ _ _ _ _ _ :: .book l' p L2 :: .book l' q Lq :: bks ac cq) ((List.Perm.swap _ _ _).trans ((List.Perm.swap _ _ _).cons _)))
          clear HM hcp hbq hBq hLq He1
          have HM := HM1
          clear HM1
          have hownM := Mem.row_ HM.out 0 rfl
          have hbaseM : w'.heap.size ≤ w5.heap.size := HM.out.size
          go_wp2_with (at_builtin; refine wpList_append_own_at _ rfl (.tmp 54) (.tmp 57) _ rfl w'.heap.size 37 i0 _ 1 8 Try.underlying70 Hi.out Hz0.out Hz1.out Hz2.out rfl (by decide) _ k (ptrsV cq) rfl (hownM.alloc _) ⟨w5.heap.size, 0, none⟩ 1 1 [.pointer (some ⟨q, 0, none⟩)] rfl rfl ?q1c1 (by intro u hu; simp only [List.mem_cons, List.not_mem_nil, or_false] at hu; rcases hu with rfl <;> rfl) ?q1c3 ?q1c4 ?q1c5 ?_)
          try case q1c1 => exact new_cellsQ w5 _ [.pointer (some ⟨q, 0, none⟩)]
          case q1c3 => unfold maxLen; omega
          case q1c4 => omega
          case q1c5 => simp; omega
          intro tv2 w6 hown2 hgr2 _ hat2
          have HMn := HM.out.grow 0 rfl _ hgr2 hown2 hat2
          replace HM := hide HMn
          clear HMn hown2 hgr2 hat2 hownM hbaseM
          go_wp2_with fail
          go_roundw
          case rel =>
            refine ⟨k + 1, L2, (q, Lq) :: cq, hk, by go_num, by rw [List.length_cons, hcq], ?_⟩
            rw [ptrsV_cons, bks, hcq, Hs2.out]
            exact HM.out
          case measure => simp [intOf] <;> omega
        | false =>
          rw [show (((l.length + (false).toNat : Nat)) : Int) = (l.length : Int) from rfl] at He1
          go_wp2_with fail
          refine (He1.out _ (Below.refl _ _)).mono ?_
          rintro e w4 ⟨rfl, hb⟩
          replace HM := hide (HM.out.later hb)
          clear hb
          go_wp2_with fail
          have hcp := Copy_any l' p L2 w4 (Mem.book_ HM.out 1 rfl)
          unfold ptrB at hcp
          refine hcp.mono ?_
          rintro e w5 ⟨q, rfl, Lq, hbq, hBq, hLq⟩
          have HM1 := hide ((HM.out.add (t := .book l' q Lq) hBq hbq hLq).perm (ts' := .row _ _ _ _ _ _ :: .book l' p L2 :: .book l' q Lq :: bks ac cq) ((List.Perm.swap _ _ _).trans ((List.Perm.swap _ _ _).cons _)))
          clear HM hcp hbq hBq hLq He1
          have HM := HM1
          clear HM1
          have hownM := Mem.row_ HM.out 0 rfl
          have hbaseM : w'.heap.size ≤ w5.heap.size := HM.out.size
          go_wp2_with (at_builtin; refine wpList_append_own_at _ rfl (.tmp 54) (.tmp 57) _ rfl w'.heap.size 37 i0 _ 1 8 Try.underlying70 Hi.out Hz0.out Hz1.out Hz2.out rfl (by decide) _ k (ptrsV cq) rfl (hownM.alloc _) ⟨w5.heap.size, 0, none⟩ 1 1 [.pointer (some ⟨q, 0, none⟩)] rfl rfl ?q2c1 (by intro u hu; simp only [List.mem_cons, List.not_mem_nil, or_false] at hu; rcases hu with rfl <;> rfl) ?q2c3 ?q2c4 ?q2c5 ?_)
          try case q2c1 => exact new_cellsQ w5 _ [.pointer (some ⟨q, 0, none⟩)]
          case q2c3 => unfold maxLen; omega
          case q2c4 => omega
          case q2c5 => simp; omega
          intro tv2 w6 hown2 hgr2 _ hat2
          have HMn := HM.out.grow 0 rfl _ hgr2 hown2 hat2
          replace HM := hide HMn
          clear HMn hown2 hgr2 hat2 hownM hbaseM
          go_wp2_with fail
          go_roundw
          case rel =>
            refine ⟨k + 1, L2, (q, Lq) :: cq, hk, by go_num, by rw [List.length_cons, hcq], ?_⟩
            rw [ptrsV_cons, bks, hcq, Hs2.out]
            exact HM.out
          case measure => simp [intOf] <;> omega
      · obtain rfl : k = n := by omega
        have hkk : ¬ ((k : Int) < k) := by omega
        obtain ⟨Av, cv, rfl⟩ := own_shape2 (Mem.row_ HM.out 0 rfl)
        go_wp2_with fail
        go_loopw [8] (fun i wr2 => ∃ j : Nat, j ≤ k ∧ i = .int .i64 j ∧ Mem w' (.row w'.heap.size 37 1 (.slice Av k cv) k (ptrsV cq) :: .book (actsL ac k) p L1 :: bks ac cq) wr2) (fun i _ => k - (intOf i).toNat)
        case atStart => exact ⟨0, Nat.zero_le _, rfl, HM.out⟩
        case round =>
          obtain ⟨j, hjk, rfl, hM⟩ := hrel
          clear HM
          have HM := hide hM
          clear hM
          by_cases hj : j < k
          · have hj' : (j : Int) < k := by omega
            obtain ⟨⟨q, Lq⟩, hq1, hq2⟩ := ptrs_at cq (j := j) (by omega)
            have hq3 := bks_get (ac := ac) hq1
            rw [hcq, show k - (k - 1 - j) = j + 1 by omega] at hq3
            obtain ⟨bT, curT, rfl, -, hbT, -, -, hcT⟩ := row_blk (Mem.row_ HM.out 0 rfl) (by omega)
            have y0 := hbT.c j (hcT j _ hq2)
            have lty := hbT.lt
            obtain ⟨hdl, hdd⟩ := acts_drop ac (j := j + 1) (n := k) (by omega)
            have hgj := acts_good ac (j + 1)
            obtain ⟨lj, hlj⟩ : ∃ l, actsL ac (j + 1) = l := ⟨_, rfl⟩
            rw [hlj] at hq3 hdl hdd hgj
            obtain ⟨lk, hlk⟩ : ∃ l, actsL ac k = l := ⟨_, rfl⟩
            rw [hlk] at hdl hdd HM
            have hq4 : (Th.row w'.heap.size 37 1 (.slice (some ⟨bT, 0, none⟩) k cv) k (ptrsV cq) :: .book lk p L1 :: bks ac cq)[k - 1 - j + 2]? = some (.book lj q Lq) := hq3
            have he1 := fun W hW => Entries_any lj q Lq W ((HM.out.get _ hq4 : BookR lj q Lq wr).later hW)
            have hba : ∀ W, Below wr.heap.size wr W → Calls Try.prog 38 #[ptrB p, .int .i64 (lj.length : Int)] W fun e w' => ∃ q, e = .returned (.tuple #[ptrB q, .int .i64 0]) ∧ BookN lj q W w' := fun W hW => (Back_any lk p L1 (lj.length : Int) W ((Mem.book_ HM.out 1 rfl).later hW)).mono fun e w' h => by
              unfold BackPost at h
              rw [if_pos ⟨by omega, by omega⟩, show lk.length - ((lj.length : Nat) : Int).toNat = lk.length - lj.length by omega, hdd] at h
              exact h
            unfold ptrB at he1 hba y0
            have Hlj := hide hlj
            have Hlk := hide hlk
            have Hcj := hide (hcT j _ hq2)
            clear hlj hlk hq2 hq3 hcT hdd
            have He1 := hide he1
            have Hba := hide hba
            have Hq4 := hide hq4
            have HbT := hide hbT
            clear he1 hba hq4 hbT
            have HR := hide (Below.refl wr.heap.size wr)
            go_wp2_with fail
            refine (He1.out _ HR.out).mono ?_
            rintro e w3 ⟨rfl, hb⟩
            replace HM := hide (HM.out.later hb)
            replace HbT := hide (blk_later HbT.out hb)
            replace HR := hide (onward HR.out hb)
            clear hb
            clear y0 lty
            go_wp2_with fail
            refine (Hba.out _ HR.out).mono ?_
            rintro e w4 ⟨q2, rfl, L5, hb5, hB5, hL5⟩
            have HM1 := hide (HM.out.add (t := .book lj q2 L5) hB5 hb5 hL5)
            replace HbT := hide (blk_later HbT.out hB5)
            clear HM hb5 hB5 hL5 He1 Hba
            clear HR
            have HM := HM1
            clear HM1
            have hq5 : (.book lj q2 L5 :: Th.row w'.heap.size 37 1 (.slice (some ⟨bT, 0, none⟩) k cv) k (ptrsV cq) :: .book lk p L1 :: bks ac cq)[k - 1 - j + 3]? = some (.book lj q Lq) := Hq4.out
            have he1 := fun W hW => Entries_any lj q Lq W ((HM.out.get _ hq5 : BookR lj q Lq w4).later hW)
            have he2 := fun W hW => Entries_any lj q2 L5 W ((Mem.book_ HM.out 0 rfl).later hW)
            have hsa := fun W (hW : Below w4.heap.size w4 W) => same_any lj lj q2 q L5 Lq ac A k c (fun _ => ⟨#[]⟩) none 0 0 W ((Mem.book_ HM.out 0 rfl).later hW) ((HM.out.get _ hq5 : BookR lj q Lq w4).later hW) ((Hrow.out.below (onward HM.out.below hW)).more (onward HM.out.below hW).size) (Rows_.none _ _ _ _) Hok.out hn (by decide) (SameP.refl _ _ _ _)
            unfold ptrB at he1 he2 hsa
            have y0 := HbT.out.c j Hcj.out
            have lty := HbT.out.lt
            unfold ptrB at y0
            have He1 := hide he1
            have He2 := hide he2
            have Hsa := hide hsa
            have Hq5 := hide hq5
            clear he1 he2 hsa hq5
            go_wp2_with fail
            apply wp_region_L (w0 := w4) [[], [], [], [], [], [], [], [], [], [], [], [], [], [], [], [], [], [], [], [], [], [], [], [], [], []] [true, true, true, true, true, true, true, true, true, true, true, true, true, true, true, true, true, true, true, true, true, true, true, true, true, true] [] (fun ixq y => match ixq with  | _ => undef) (fun ixq x F wq => match ixq with  | _ => True) (fun a x => a) (by kernel_rfl) (by kernel_rfl) (fun _ => rfl) [83, 88, 98] (by kernel_rfl)
            · intro x D hD
              have hne := hD.some
              have k1 := liftB hD y0 (by first | assumption | omega)
              simp only [takeOps, Act.put, List.setIfInBounds_toArray, List.set_cons_succ, List.set_cons_zero]
              repeat (go_big_quiet_step ((first | (go_at_call 34; first | (with_reducible exact calls_later hD _ (He1.out _ (kb hD _))) | (with_reducible exact calls_later hD _ (He2.out _ (kb hD _)))) | (go_at_call 28; exact calls_later hD _ (Hsa.out _ (kb hD _))))))
              exact wpQuiet_nil rfl
            · intro d hd x x'
              simp only [List.mem_cons, List.not_mem_nil, or_false] at hd
              rcases hd with rfl | rfl | rfl
              all_goals rfl
            · exact trivial
            · exact trivial
            intro xx w5 F hL hlv1
            clear hlv1
            clear y0 lty He1 He2 Hsa
            replace HM := hide (HM.out.later hL)
            replace HbT := hide (blk_later HbT.out hL)
            clear hL
            go_wp2_with fail
            refine (New_any _).mono ?_
            rintro e w6 ⟨pa, La, rfl, hba, hBa, hLa⟩
            have HM1 := hide (HM.out.add (t := .book [] pa La) hBa hba hLa)
            clear HM HbT hba hBa hLa
            have HM := HM1
            clear HM1
            unfold ptrB
            go_wp2_with fail
            go_loopw [12] (fun i wr3 => ∃ (y : Nat) (La : Lay), y ≤ j + 1 ∧ i = .int .i64 y ∧ Mem w' (.book (actsL ac y) pa La :: .book lj q2 L5 :: .row w'.heap.size 37 1 (.slice (some ⟨bT, 0, none⟩) k cv) k (ptrsV cq) :: .book lk p L1 :: bks ac cq) wr3) (fun i _ => j + 1 - (intOf i).toNat)
            case atStart => exact ⟨0, La, Nat.zero_le _, rfl, HM.out⟩
            case round =>
              obtain ⟨y, L7, hyj, rfl, hM⟩ := hrel
              clear HM
              have HM := hide hM
              clear hM
              by_cases hy : y < j + 1
              · have hy' : (y : Int) ≤ j := by omega
                obtain ⟨b, off, hA, hltb, hc⟩ := Hrow.out (by omega)
                have q0 := hc y (by omega) 0 (.int .i64 (ac y).k) rfl
                have q1 := hc y (by omega) 1 (.string (ac y).nm) rfl
                have q2' := hc y (by omega) 2 (.string (ac y).pr) rfl
                have q3 := hc y (by omega) 3 (.int .i64 (ac y).lo) rfl
                have q4 := hc y (by omega) 4 (.int .i64 (ac y).hi) rfl
                have q5 := hc y (by omega) 5 (.int .i64 (ac y).tm) rfl
                have q6 := hc y (by omega) 6 (.int .i64 (ac y).un) rfl
                have q7 := hc y (by omega) 7 (.int .i64 (ac y).n) rfl
                rw [Nat.add_zero] at q0
                rw [← HM.out.below.cell hltb] at q0 q1 q2' q3 q4 q5 q6 q7
                have ltq : b < wr.heap.size := Nat.lt_of_lt_of_le hltb HM.out.size
                have hen := enter_any (actsL ac y) pa L7 (ac y) wr (Mem.book_ HM.out 0 rfl) (Hok.out y)
                clear hc
                subst hA
                unfold actA actV ptrB at hen
                have hyk : (y : Int) < k := by omega
                go_wp2_with fail
                refine hen.mono ?_
                rintro e w3 ⟨rfl, hp⟩
                obtain ⟨L8, hM2⟩ := HM.out.enterA 0 rfl hp
                clear q0 q1 q2' q3 q4 q5 q6 q7 ltq hp HM hen
                have HM := hide hM2
                clear hM2
                go_wp2_with fail
                go_roundw
                case rel => exact ⟨y + 1, L8, hy, by go_num, HM.out⟩
                case measure => simp [intOf] <;> omega
              · obtain rfl : y = j + 1 := by omega
                have hyy : ¬ (((j + 1 : Nat) : Int) ≤ j) := by omega
                rw [Hlj.out] at HM
                have hsa := fun W (hW : Below wr.heap.size wr W) => same_any lj lj q2 pa L5 L7 ac A k c (fun _ => ⟨#[]⟩) none 0 0 W ((Mem.book_ HM.out 1 rfl).later hW) ((Mem.book_ HM.out 0 rfl).later hW) ((Hrow.out.below (onward HM.out.below hW)).more (onward HM.out.below hW).size) (Rows_.none _ _ _ _) Hok.out hn (by decide) (SameP.refl _ _ _ _)
                unfold ptrB at hsa
                have Hsa := hide hsa
                clear hsa
                go_wp2_with fail
                refine (Hsa.out _ (Below.refl _ _)).mono ?_
                rintro e w8 ⟨rfl, hb⟩
                replace HM := hide (HM.out.later hb)
                clear hb
                go_wp2_with fail
                go_roundw
                case rel => exact ⟨j + 1, hj, by go_num, by rw [Hlk.out]; exact HM.out.tail.tail⟩
                case measure => simp [intOf] <;> omega
          · obtain rfl : j = k := by omega
            have hjj : ¬ ((j : Int) < j) := by omega
            have hal := actsL_len ac j
            obtain ⟨lk, hlk⟩ : ∃ l, actsL ac j = l := ⟨_, rfl⟩
            rw [hlk] at HM hal
            have he1 := fun W hW => Entries_any lk p L1 W ((Mem.book_ HM.out 1 rfl).later hW)
            have hb1 : ∀ W, Below wr.heap.size wr W → Calls Try.prog 38 #[ptrB p, .int .i64 ((lk.length : Int) + 1)] W fun e w' => e = .returned (.tuple #[.pointer none, .int .i64 3]) ∧ Below W.heap.size W w' := fun W hW => (Back_any lk p L1 ((lk.length : Int) + 1) W ((Mem.book_ HM.out 1 rfl).later hW)).mono fun e w' h => by
              unfold BackPost at h
              rw [if_neg (by omega)] at h
              exact h
            have hb2 : ∀ W, Below wr.heap.size wr W → Calls Try.prog 38 #[ptrB p, .int .i64 (-1)] W fun e w' => e = .returned (.tuple #[.pointer none, .int .i64 3]) ∧ Below W.heap.size W w' := fun W hW => (Back_any lk p L1 (-1) W ((Mem.book_ HM.out 1 rfl).later hW)).mono fun e w' h => by
              unfold BackPost at h
              rw [if_neg (by omega)] at h
              exact h
            unfold ptrB at he1 hb1 hb2
            have He1 := hide he1
            have Hb1 := hide hb1
            have Hb2 := hide hb2
            clear he1 hb1 hb2
            have HR := hide (Below.refl wr.heap.size wr)
            go_wp2_with fail
            refine (He1.out _ HR.out).mono ?_
            rintro e w3 ⟨rfl, hb⟩
            replace HM := hide (HM.out.later hb)
            replace HR := hide (onward HR.out hb)
            clear hb
            go_wp2_with fail
            refine (Hb1.out _ HR.out).mono ?_
            rintro e w4 ⟨rfl, hb⟩
            replace HM := hide (HM.out.later hb)
            replace HR := hide (onward HR.out hb)
            clear hb
            go_wp2_with fail
            refine (Hb2.out _ HR.out).mono ?_
            rintro e w5 ⟨rfl, hb⟩
            replace HM := hide (HM.out.later hb)
            replace HR := hide (onward HR.out hb)
            clear hb
            go_wp2_with fail
            refine (works_any _).mono ?_
            rintro e w6 ⟨rfl, hb⟩
            replace HM := hide (HM.out.later hb)
            replace HR := hide (onward HR.out hb)
            clear hb
            go_wp2
            go_ret
            exact ⟨rfl, HM.out.below⟩
end Go.Proofs.Ytiggefmckomilaa
