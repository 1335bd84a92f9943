/-
  Models: rain's check and the reference's; what the law hands the reference.
  Regions that draw their order, over any program: each operation is met by itself. A HARD operation (a call that makes memory or needs memory that the region has made, an alloc, a store, an append) has a fact that holds from then on, and the memory that the fact is about; all others are QUIET: one value, read off in one walk. Whatever order is drawn, all facts hold at the end.
  Regions that draw their order: whatever order is drawn, all facts hold at the end.
-/
import Derived.Test.YtepgpihobmjbdaaGreatRegionStep
set_option linter.unusedSimpArgs false
set_option linter.unusedVariables false
namespace Go.Proofs.YtepgpihobmjbdaaGreat
open Go.RowKit

theorem Valid_any (a b most : Int) (w : World) :
    Calls Tryz.prog 75 #[.agg #[.int .i64 a, .int .i64 b], .int .i64 0, .int .i64 most] w fun e w' => e = .returned (.bool (ins a b most)) ∧ Below w.heap.size w w' := by
  by_cases h1 : 0 ≤ a <;> by_cases h2 : a ≤ b <;> by_cases h3 : b ≤ most
  all_goals
    go_enter Tryz.func75, Tryz.ntmps75
    go_wp2
    go_ret
    exact ⟨by simp [ins, *], (Below.refl _ _).alloc (Nat.le_refl _) _⟩

theorem Blk.c8 {w : World} {g : Nat} {t : TypeId} {u0 u1 u2 u3 u4 u5 u6 u7 : Value} (h : Blk w g t #[u0, u1, u2, u3, u4, u5, u6, u7]) : w.cell? ⟨g, 0, none⟩ = some u0 ∧ w.cell? ⟨g, 1, none⟩ = some u1 ∧ w.cell? ⟨g, 2, none⟩ = some u2 ∧ w.cell? ⟨g, 3, none⟩ = some u3 ∧
    w.cell? ⟨g, 4, none⟩ = some u4 ∧ w.cell? ⟨g, 5, none⟩ = some u5 ∧ w.cell? ⟨g, 6, none⟩ = some u6 ∧ w.cell? ⟨g, 7, none⟩ = some u7 :=
  ⟨h.c 0 rfl, h.c 1 rfl, h.c 2 rfl, h.c 3 rfl, h.c 4 rfl, h.c 5 rfl, h.c 6 rfl, h.c 7 rfl⟩
/-- A model as a value. -/
def mdlV (A : Option Addr) (n c : Nat) (A' : Option Addr) (n' c' : Nat) (melt inn above : Int × Int) : Value :=
  .agg #[.slice A n c, .slice A' n' c', .int .i64 melt.1, .int .i64 melt.2, .int .i64 inn.1, .int .i64 inn.2, .int .i64 above.1, .int .i64 above.2]

set_option maxHeartbeats 1000000 in
theorem CheckModel_any (A : Option Addr) (n c : Nat) (l : List (Int × Int)) (A' : Option Addr) (n' c' : Nat) (m : List (Int × Int)) (melt inn above : Int × Int) (w : World) (hn : l.length = n) (hmax : n ≤ 9223372036854775807) (hn' : m.length = n') (hmax' : n' ≤ 9223372036854775807)
    (hl : Ints w w.heap.size .i64 A (flat2 l)) (hm : Ints w w.heap.size .i64 A' (flat2 m)) :
    Calls Tryz.prog 42 #[mdlV A n c A' n' c' melt inn above] w fun e w' => e = .returned (.int .i64 (chkModel l m melt inn above)) ∧ Below w.heap.size w w' := by
  obtain ⟨a0, a1⟩ := melt
  obtain ⟨b0, b1⟩ := inn
  obtain ⟨c0, c1⟩ := above
  have hbx := fun X : Array Value => ((Below.refl w.heap.size w).alloc (Nat.le_refl _) (.cells X 26))
  have h1 := fun X : Array Value => CheckTable_any A n c l 32768 (w.alloc (.cells X 26)) hn hmax ((hl.below (hbx X)).more (by simp))
  have h2 := fun (X : Array Value) (w1 : World) (hb : Below (w.alloc (.cells X 26)).heap.size (w.alloc (.cells X 26)) w1) => CheckTable_any A' n' c' m 1000000 w1 hn' hmax' ((hm.below ((hbx X).trans (hb.mono (by simp)))).more (by have := hb.size; simp at this; omega))
  have Hbx := hide hbx
  have H1 := hide h1
  have H2 := hide h2
  clear h1 h2 hbx hl hm hn hn'
  have hR : chkModel l m (a0, a1) (b0, b1) (c0, c1) = if chk l 32768 ≠ 0 then chk l 32768 else if chk m 1000000 ≠ 0 then chk m 1000000 else if (ins a0 a1 20000 && ins b0 b1 100000 && ins c0 c1 100000) = false then 3 else 0 := rfl
  generalize chk l 32768 = k1 at *
  generalize chk m 1000000 = k2 at *
  unfold mdlV
  simp only
  by_cases g1 : k1 = 0
  · subst g1
    go_enter Tryz.func42, Tryz.ntmps42
    go_wp2_with fail
    refine (H1.out _).mono ?_
    rintro e w1 ⟨rfl, hb1⟩
    have b1 := (Blk.new w 26 #[.slice A n c, .slice A' n' c', .int .i64 a0, .int .i64 a1, .int .i64 b0, .int .i64 b1, .int .i64 c0, .int .i64 c1]).below hb1 (by simp)
    have HB1 := hide ((Hbx.out _).trans (hb1.mono (by simp)))
    have hc1 := H2.out _ w1 hb1
    have HC := hide b1
    obtain ⟨x0, x1, x2, x3, x4, x5, x6, x7⟩ := b1.c8
    clear hb1 b1
    go_wp2_with fail
    refine hc1.mono ?_
    rintro e w2 ⟨rfl, hb2⟩
    have b2 := HC.out.below hb2 HC.out.lt
    have HB2 := hide (onward HB1.out hb2)
    have HC2 := hide b2
    clear hb2 hc1 x0 x1 x2 x3 x4 x5 x6 x7
    obtain ⟨x0, x1, x2, x3, x4, x5, x6, x7⟩ := b2.c8
    clear b2
    by_cases g2 : k2 = 0
    · subst g2
      rw [if_neg (by simp), if_neg (by simp)] at hR
      have HR := hide hR
      clear hR
      go_wp2_with fail
      refine (inside_any _ _ _ _).mono ?_
      rintro e w3 ⟨rfl, hb3⟩
      have b3 := HC2.out.below hb3 HC2.out.lt
      have HB3 := hide (onward HB2.out hb3)
      have HC3 := hide b3
      clear hb3 x0 x1 x2 x3 x4 x5 x6 x7
      obtain ⟨x0, x1, x2, x3, x4, x5, x6, x7⟩ := b3.c8
      clear b3
      by_cases i1 : ins a0 a1 20000 = true
      · go_wp2_with fail
        refine (inside_any _ _ _ _).mono ?_
        rintro e w4 ⟨rfl, hb4⟩
        have b4 := HC3.out.below hb4 HC3.out.lt
        have HB4 := hide (onward HB3.out hb4)
        have HC4 := hide b4
        clear hb4 x0 x1 x2 x3 x4 x5 x6 x7
        obtain ⟨x0, x1, x2, x3, x4, x5, x6, x7⟩ := b4.c8
        clear b4
        by_cases i2 : ins b0 b1 100000 = true
        · go_wp2_with fail
          refine (inside_any _ _ _ _).mono ?_
          rintro e w5 ⟨rfl, hb5⟩
          have HB5 := hide (onward HB4.out hb5)
          clear hb5 x0 x1 x2 x3 x4 x5 x6 x7
          by_cases i3 : ins c0 c1 100000 = true
          · have hr := HR.out
            rw [i1, i2, i3, if_neg (by simp)] at hr
            have HR2 := hide hr
            clear hr
            go_wp2
            go_ret
            exact ⟨(ret_int HR2.out).symm, HB5.out⟩
          · have j3 : ins c0 c1 100000 = false := by simpa using i3
            clear i3
            have hr := HR.out
            rw [j3, if_pos (by simp)] at hr
            have HR2 := hide hr
            clear hr
            go_wp2
            go_ret
            exact ⟨(ret_int HR2.out).symm, HB5.out⟩
        · have j2 : ins b0 b1 100000 = false := by simpa using i2
          clear i2
          have hr := HR.out
          rw [j2, if_pos (by simp)] at hr
          have HR2 := hide hr
          clear hr
          go_wp2
          go_ret
          exact ⟨(ret_int HR2.out).symm, HB4.out⟩
      · have j1 : ins a0 a1 20000 = false := by simpa using i1
        clear i1
        have hr := HR.out
        rw [j1, if_pos (by simp)] at hr
        have HR2 := hide hr
        clear hr
        go_wp2
        go_ret
        exact ⟨(ret_int HR2.out).symm, HB3.out⟩
    · have g2' : (k2 != 0) = true := by simpa [bne] using g2
      rw [if_neg (by simp), if_pos g2] at hR
      have HR := hide hR
      clear hR g2
      go_wp2
      go_ret
      exact ⟨(ret_int HR.out).symm, HB2.out⟩
  · have g1' : (k1 != 0) = true := by simpa [bne] using g1
    have g1'' : (k1 == 0) = false := by simpa using g1
    rw [if_pos g1] at hR
    have HR := hide hR
    clear hR g1
    go_enter Tryz.func42, Tryz.ntmps42
    go_wp2_with fail
    refine (H1.out _).mono ?_
    rintro e w1 ⟨rfl, hb1⟩
    have HB := hide ((Hbx.out _).trans (hb1.mono (by simp)))
    clear hb1
    go_wp2
    go_ret
    exact ⟨(ret_int HR.out).symm, HB.out⟩
set_option maxHeartbeats 1000000 in
theorem RefCheckModel_any (A : Option Addr) (n c : Nat) (l : List (Int × Int)) (A' : Option Addr) (n' c' : Nat) (m : List (Int × Int)) (melt inn above : Int × Int) (w : World) (hn : l.length = n) (hmax : n ≤ 9223372036854775807) (hn' : m.length = n') (hmax' : n' ≤ 9223372036854775807)
    (hl : Ints w w.heap.size .i64 A (flat2 l)) (hm : Ints w w.heap.size .i64 A' (flat2 m)) :
    Calls Tryz.prog 47 #[mdlV A n c A' n' c' melt inn above] w fun e w' => e = .returned (.int .i64 (chkModel l m melt inn above)) ∧ Below w.heap.size w w' := by
  obtain ⟨a0, a1⟩ := melt
  obtain ⟨b0, b1⟩ := inn
  obtain ⟨c0, c1⟩ := above
  have hbx := fun X : Array Value => ((Below.refl w.heap.size w).alloc (Nat.le_refl _) (.cells X 45))
  have h1 := fun X : Array Value => RefCheckTable_any A n c l 32768 (w.alloc (.cells X 45)) hn hmax ((hl.below (hbx X)).more (by simp))
  have h2 := fun (X : Array Value) (w1 : World) (hb : Below (w.alloc (.cells X 45)).heap.size (w.alloc (.cells X 45)) w1) => RefCheckTable_any A' n' c' m 1000000 w1 hn' hmax' ((hm.below ((hbx X).trans (hb.mono (by simp)))).more (by have := hb.size; simp at this; omega))
  have Hbx := hide hbx
  have H1 := hide h1
  have H2 := hide h2
  clear h1 h2 hbx hl hm hn hn'
  have hR : chkModel l m (a0, a1) (b0, b1) (c0, c1) = if chk l 32768 ≠ 0 then chk l 32768 else if chk m 1000000 ≠ 0 then chk m 1000000 else if (ins a0 a1 20000 && ins b0 b1 100000 && ins c0 c1 100000) = false then 3 else 0 := rfl
  generalize chk l 32768 = k1 at *
  generalize chk m 1000000 = k2 at *
  unfold mdlV
  simp only
  by_cases g1 : k1 = 0
  · subst g1
    go_enter Tryz.func47, Tryz.ntmps47
    go_wp2_with fail
    refine (H1.out _).mono ?_
    rintro e w1 ⟨rfl, hb1⟩
    have b1 := (Blk.new w 45 #[.slice A n c, .slice A' n' c', .int .i64 a0, .int .i64 a1, .int .i64 b0, .int .i64 b1, .int .i64 c0, .int .i64 c1]).below hb1 (by simp)
    have HB1 := hide ((Hbx.out _).trans (hb1.mono (by simp)))
    have hc1 := H2.out _ w1 hb1
    have HC := hide b1
    obtain ⟨x0, x1, x2, x3, x4, x5, x6, x7⟩ := b1.c8
    clear hb1 b1
    go_wp2_with fail
    refine hc1.mono ?_
    rintro e w2 ⟨rfl, hb2⟩
    have b2 := HC.out.below hb2 HC.out.lt
    have HB2 := hide (onward HB1.out hb2)
    have HC2 := hide b2
    clear hb2 hc1 x0 x1 x2 x3 x4 x5 x6 x7
    obtain ⟨x0, x1, x2, x3, x4, x5, x6, x7⟩ := b2.c8
    clear b2
    by_cases g2 : k2 = 0
    · subst g2
      rw [if_neg (by simp), if_neg (by simp)] at hR
      have HR := hide hR
      clear hR
      go_wp2_with fail
      refine (Valid_any _ _ _ _).mono ?_
      rintro e w3 ⟨rfl, hb3⟩
      have b3 := HC2.out.below hb3 HC2.out.lt
      have HB3 := hide (onward HB2.out hb3)
      have HC3 := hide b3
      clear hb3 x0 x1 x2 x3 x4 x5 x6 x7
      obtain ⟨x0, x1, x2, x3, x4, x5, x6, x7⟩ := b3.c8
      clear b3
      by_cases i1 : ins a0 a1 20000 = true
      · go_wp2_with fail
        refine (Valid_any _ _ _ _).mono ?_
        rintro e w4 ⟨rfl, hb4⟩
        have b4 := HC3.out.below hb4 HC3.out.lt
        have HB4 := hide (onward HB3.out hb4)
        have HC4 := hide b4
        clear hb4 x0 x1 x2 x3 x4 x5 x6 x7
        obtain ⟨x0, x1, x2, x3, x4, x5, x6, x7⟩ := b4.c8
        clear b4
        by_cases i2 : ins b0 b1 100000 = true
        · go_wp2_with fail
          refine (Valid_any _ _ _ _).mono ?_
          rintro e w5 ⟨rfl, hb5⟩
          have HB5 := hide (onward HB4.out hb5)
          clear hb5 x0 x1 x2 x3 x4 x5 x6 x7
          by_cases i3 : ins c0 c1 100000 = true
          · have hr := HR.out
            rw [i1, i2, i3, if_neg (by simp)] at hr
            have HR2 := hide hr
            clear hr
            go_wp2
            go_ret
            exact ⟨(ret_int HR2.out).symm, HB5.out⟩
          · have j3 : ins c0 c1 100000 = false := by simpa using i3
            clear i3
            have hr := HR.out
            rw [j3, if_pos (by simp)] at hr
            have HR2 := hide hr
            clear hr
            go_wp2
            go_ret
            exact ⟨(ret_int HR2.out).symm, HB5.out⟩
        · have j2 : ins b0 b1 100000 = false := by simpa using i2
          clear i2
          have hr := HR.out
          rw [j2, if_pos (by simp)] at hr
          have HR2 := hide hr
          clear hr
          go_wp2
          go_ret
          exact ⟨(ret_int HR2.out).symm, HB4.out⟩
      · have j1 : ins a0 a1 20000 = false := by simpa using i1
        clear i1
        have hr := HR.out
        rw [j1, if_pos (by simp)] at hr
        have HR2 := hide hr
        clear hr
        go_wp2
        go_ret
        exact ⟨(ret_int HR2.out).symm, HB3.out⟩
    · have g2' : (k2 != 0) = true := by simpa [bne] using g2
      rw [if_neg (by simp), if_pos g2] at hR
      have HR := hide hR
      clear hR g2
      go_wp2
      go_ret
      exact ⟨(ret_int HR.out).symm, HB2.out⟩
  · have g1' : (k1 != 0) = true := by simpa [bne] using g1
    have g1'' : (k1 == 0) = false := by simpa using g1
    rw [if_pos g1] at hR
    have HR := hide hR
    clear hR g1
    go_enter Tryz.func47, Tryz.ntmps47
    go_wp2_with fail
    refine (H1.out _).mono ?_
    rintro e w1 ⟨rfl, hb1⟩
    have HB := hide ((Hbx.out _).trans (hb1.mono (by simp)))
    clear hb1
    go_wp2
    go_ret
    exact ⟨(ret_int HR.out).symm, HB.out⟩
end Go.Proofs.YtepgpihobmjbdaaGreat
namespace Go.Proofs.YtepgpihobmjbdaaGreat
open Go Go.RowKit

/-- What a hard operation is free to choose: addresses and capacities. -/
abbrev Par := Nat → Option Addr × Nat
/-- The static side of a hard operation: its number, the hard operation whose memory it takes over, those whose facts it is given, those on whose choices its own fact may depend. -/
structure St where
  i : Nat
  tgt : Option Nat
  need : List Nat
  dep : List Nat

def upd (x : Nat → Par) (i : Nat) (y : Par) : Nat → Par := fun j => if j = i then y else x j
theorem upd_same (x : Nat → Par) (i : Nat) (y : Par) : upd x i y i = y := by simp [upd]
theorem upd_ne (x : Nat → Par) {i j : Nat} (y : Par) (h : j ≠ i) : upd x i y j = x j := by simp [upd, h]

def bEdges (md : Region.Mode) (o : Oper) : List Nat := (o.after.toList.filter (Region.binds md ·)).map (·.on)
def insL (a : Nat) (l : List Nat) : List Nat := if l.contains a then l else a :: l
/-- A table of operations that have come up before each one: each by an edge, or by one of an edge's own. -/
def ancOK (md : Region.Mode) (lops : List Oper) (an : List (List Nat)) : Bool :=
  (List.range an.length).all fun i => (an.getD i []).all fun j => match lops[i]? with
    | some o => (bEdges md o).any fun e => e == j || (decide (e < i) && (an.getD e []).contains j)
    | none => false
def slotOf (a : Act) (o : Oper) : Value := match o.dst with | some d => a.tmps.getD d undef | none => undef
def callB (o : Oper) : Bool := match o.op with | .call _ => true | _ => false

def regB (md : Region.Mode) (lops : List Oper) (an : List (List Nat)) (m1 m2 : List Bool) (st : List St) : Bool :=
  let hl := st.map (·.i)
  let ops := lops.toArray
  let rg := List.range lops.length
  ancOK md lops an && Region.noSelect ops && dstB lops &&
  (rg.all fun i => match lops[i]? with
    | some o => (bEdges md o).all (fun j => decide (j < i)) && (rg.all fun j => match (lops[j]?).bind (·.dst) with
        | some d => !(o.looksAt ops).contains d || ((bEdges md o).contains j && !(m1.getD i false && m2.getD j false))
        | none => true)
    | none => false) &&
  (rg.all fun i => (if m1.getD i false then !m2.getD i false && !hl.contains i else if m2.getD i false then !hl.contains i else hl.contains i)) &&
  (decide (m1.length = lops.length) && decide (m2.length = lops.length)) &&
  (st.all fun s => decide (s.i < lops.length) && (s.need.all fun j => (an.getD s.i []).contains j && hl.contains j && decide (j ≠ s.i) && st.all fun s' => (match s'.tgt with | some t => t != j | none => true) || s'.i == s.i) &&
    (s.dep.all fun j => (an.getD s.i []).contains j && hl.contains j) && (match s.tgt with | some t => s.need.contains t | none => true))

section anc
variable {md : Region.Mode} {lops : List Oper} {an : List (List Nat)}
theorem anc_spec (h : ancOK md lops an = true) (i j : Nat) (hj : j ∈ an.getD i []) : ∃ o, lops[i]? = some o ∧ ∃ e ∈ bEdges md o, e = j ∨ (e < i ∧ j ∈ an.getD e []) := by
  have hi : i < an.length := by
    rcases Nat.lt_or_ge i an.length with h | h
    · exact h
    · simp [List.getD, List.getElem?_eq_none h] at hj
  have h1 := List.all_eq_true.1 (List.all_eq_true.1 h i (List.mem_range.2 hi)) j hj
  split at h1
  · rename_i o ho
    obtain ⟨e, he, h2⟩ := List.any_eq_true.1 h1
    refine ⟨o, ho, e, he, ?_⟩
    simp only [Bool.or_eq_true, beq_iff_eq, Bool.and_eq_true, decide_eq_true_eq] at h2
    rcases h2 with h2 | ⟨h2, h3⟩
    · exact .inl h2
    · exact .inr ⟨h2, by simpa using h3⟩
  · cases h1
theorem bEdges_spec {o : Oper} {j : Nat} : j ∈ bEdges md o ↔ ∃ e ∈ o.after, Region.binds md e = true ∧ e.on = j := by
  unfold bEdges
  simp [List.mem_map, List.mem_filter, and_assoc]
theorem anc_listed {L : Array Bool} (hA : ancOK md lops an = true) (hc : Closed md lops.toArray L) : ∀ (i : Nat) (o : Oper), lops[i]? = some o → (∀ e ∈ bEdges md o, L.getD e false = true) → ∀ j ∈ an.getD i [], L.getD j false = true := by
  intro i
  induction i using Nat.strongRecOn with
  | _ i ih =>
    intro o ho hall j hj
    obtain ⟨o', ho', e, he, h'⟩ := anc_spec hA i j hj
    have : o' = o := Option.some.inj (ho'.symm.trans ho)
    subst this
    have hLe := hall e he
    rcases h' with rfl | ⟨hlt, h'⟩
    · exact hLe
    · obtain ⟨oe, hoe, _⟩ := anc_spec hA e j h'
      refine ih e hlt oe hoe (fun e' he' => ?_) j h'
      obtain ⟨x, hx, hb, hon⟩ := bEdges_spec.1 he'
      have := hc.2 e oe (by simpa using hoe) hLe x hx hb
      rw [hon] at this
      exact this
end anc

/-- The run of a hard operation: a value and a world, or a call that comes back with them. -/
def HRun (P : Program) (o : Oper) (a : Act) (w : World) (K : Value → World → Prop) : Prop :=
  match (execOp a.eval o).run P w with
  | .ok (.value v) w' => K v w'
  | .ok .skip w' => K undef w'
  | .ok (.enter f args) w' => Calls P f args w' fun e w'' => ∃ v, e = .returned v ∧ K v w''
  | _ => False

theorem exec_agree {o : Oper} (hs : ∀ cs b, o.op ≠ .select cs b) {ops : Array Oper} {a b : Act} (h : ∀ t ∈ o.looksAt ops, a.tmps[t]? = b.tmps[t]?) : execOp a.eval o = execOp b.eval o :=
  execOp_congr o hs fun x hx => by
    cases x with
    | tmp t =>
      have := h t (List.mem_append_left _ (List.mem_filterMap.2 ⟨.tmp t, by simpa using hx, rfl⟩))
      simp only [Act.eval, Array.getD_eq_getD_getElem?, this]
    | _ => rfl
theorem wanted_agree {o : Oper} {ops : Array Oper} {a b : Act} (h : ∀ t ∈ o.looksAt ops, a.tmps[t]? = b.tmps[t]?) : Region.wanted o (yielded ops a.tmps) = Region.wanted o (yielded ops b.tmps) := by
  unfold Region.wanted
  cases hg : o.guard with
  | none => rfl
  | some gw =>
    obtain ⟨g, want⟩ := gw
    have hy : yielded ops a.tmps g = yielded ops b.tmps g := by
      unfold yielded
      cases ht : (ops[g]?).bind (·.dst) with
      | none => rfl
      | some t =>
        have := h t (by simp [Oper.looksAt, hg, ht])
        simp [this]
    simp only [hy]

theorem run_value_ne {s : Sem Value} {P : Program} {w w' : World} {f : FuncId} {args : Array Value} : ((do pure (Next.value (← s))) : Sem Next).run P w ≠ .ok (.enter f args) w' := by
  rw [Sem.run_bind]
  cases s.run P w with
  | ok v w1 => simp [Result.andThen]
  | halt x w1 => simp [Result.andThen]
theorem run_skip_ne {s : Sem Unit} {P : Program} {w w' : World} {f : FuncId} {args : Array Value} : ((do s; pure Next.skip) : Sem Next).run P w ≠ .ok (.enter f args) w' := by
  rw [Sem.run_bind]
  cases s.run P w with
  | ok v w1 => simp [Result.andThen]
  | halt x w1 => simp [Result.andThen]


/-! ### The static side, as facts -/
theorem dst_one : ∀ (l : List Oper), dstB l = true → ∀ (i j : Nat) (oi oj : Oper) (d : Tmp), l[i]? = some oi → l[j]? = some oj → oi.dst = some d → oj.dst = some d → i = j
  | [], _, i, _, _, _, _, hi, _, _, _ => by simp at hi
  | o :: l, h, i, j, oi, oj, d, hi, hj, di, dj => by
    simp only [dstB, Bool.and_eq_true, List.all_eq_true] at h
    have far : ∀ (k : Nat) (ok : Oper), l[k]? = some ok → o.dst = some d → ok.dst = some d → False := fun k ok hk h1 h2 => by
      have := h.1 ok (List.mem_of_getElem? hk)
      rw [h1, h2] at this
      simp at this
    cases i with
    | zero => cases j with
      | zero => rfl
      | succ j =>
        have e : o = oi := by simpa using hi
        subst e
        exact absurd dj (fun dj => far j oj (by simpa using hj) di dj)
    | succ i => cases j with
      | zero =>
        have e : o = oj := by simpa using hj
        subst e
        exact absurd di (fun di => far i oi (by simpa using hi) dj di)
      | succ j => exact congrArg (· + 1) (dst_one l h.2 i j oi oj d (by simpa using hi) (by simpa using hj) di dj)

structure Chk (lops : List Oper) (an : List (List Nat)) (m1 m2 : List Bool) (st : List St) : Prop where
  anc : ancOK .any lops an = true
  nosel : ∀ (j : Nat) (o : Oper) cs b, lops[j]? = some o → o.op ≠ .select cs b
  dst : dstB lops = true
  back : ∀ i o, lops[i]? = some o → ∀ e ∈ bEdges .any o, e < i
  reads : ∀ i o j oj d, lops[i]? = some o → lops[j]? = some oj → oj.dst = some d → d ∈ o.looksAt lops.toArray → j ∈ bEdges .any o ∧ ¬ (m1.getD i false = true ∧ m2.getD j false = true)
  kind1 : ∀ i, i < lops.length → m1.getD i false = true → m2.getD i false = false ∧ ∀ s ∈ st, s.i ≠ i
  kind2 : ∀ i, i < lops.length → m2.getD i false = true → m1.getD i false = false ∧ ∀ s ∈ st, s.i ≠ i
  kind3 : ∀ i, i < lops.length → (∀ s ∈ st, s.i ≠ i) → m1.getD i false = true ∨ m2.getD i false = true
  len1 : m1.length = lops.length
  len2 : m2.length = lops.length
  lt : ∀ s ∈ st, s.i < lops.length
  need : ∀ s ∈ st, ∀ j ∈ s.need, j ∈ an.getD s.i [] ∧ (∃ s' ∈ st, s'.i = j) ∧ j ≠ s.i ∧ ∀ s' ∈ st, s'.tgt = some j → s'.i = s.i
  dep : ∀ s ∈ st, ∀ j ∈ s.dep, j ∈ an.getD s.i [] ∧ ∃ s' ∈ st, s'.i = j
  tgt : ∀ s ∈ st, ∀ t, s.tgt = some t → t ∈ s.need
theorem chk_of {lops : List Oper} {an : List (List Nat)} {m1 m2 : List Bool} {st : List St} (h : regB .any lops an m1 m2 st = true) : Chk lops an m1 m2 st := by
  simp only [regB, Bool.and_eq_true] at h
  obtain ⟨⟨⟨⟨⟨⟨h0, h1⟩, h2⟩, h3⟩, h4⟩, h5, h6⟩, h7⟩ := h
  have mem : ∀ i, (st.map (·.i)).contains i = true ↔ ∃ s ∈ st, s.i = i := fun i => by simp
  have mem' : ∀ i, (st.map (·.i)).contains i = false ↔ ∀ s ∈ st, s.i ≠ i := fun i => by simp
  have k3 := List.all_eq_true.1 h3
  have k4 := List.all_eq_true.1 h4
  have k7 := List.all_eq_true.1 h7
  have lt_of : ∀ {i : Nat} {o : Oper}, lops[i]? = some o → i ∈ List.range lops.length := fun ho => List.mem_range.2 (List.getElem?_eq_some_iff.1 ho).1
  refine ⟨h0, fun j o cs b ho => Region.noSelect_spec h1 j o cs b (by simpa using ho), h2, fun i o ho e he => ?_, fun i o j oj d ho hoj hd hm => ?_, fun i hi hm => ?_, fun i hi hm => ?_, fun i hi hm => ?_, of_decide_eq_true h5, of_decide_eq_true h6, fun s hs => ?_, fun s hs j hj => ?_, fun s hs j hj => ?_, fun s hs t ht => ?_⟩
  · have := k3 i (lt_of ho)
    simp only [ho, Bool.and_eq_true] at this
    exact of_decide_eq_true ((List.all_eq_true.1 this.1) e he)
  · have := k3 i (lt_of ho)
    simp only [ho, Bool.and_eq_true] at this
    have := (List.all_eq_true.1 this.2) j (lt_of hoj)
    have e : (lops[j]?).bind (·.dst) = some d := by rw [hoj]; exact hd
    rw [e] at this
    simp only [Bool.or_eq_true, Bool.not_eq_true', Bool.and_eq_true] at this
    rcases this with h | ⟨h, h'⟩
    · simp at h; exact absurd hm h
    · exact ⟨by simpa using h, fun ⟨a, b⟩ => by rw [a, b] at h'; cases h'⟩
  · have := k4 i (List.mem_range.2 hi)
    rw [hm] at this
    simp only [if_true, Bool.and_eq_true, Bool.not_eq_true'] at this
    exact ⟨this.1, (mem' i).1 this.2⟩
  · have := k4 i (List.mem_range.2 hi)
    cases hm1 : m1.getD i false with
    | true =>
      rw [hm1, hm] at this
      simp at this
    | false =>
      rw [hm1, hm] at this
      simp only [if_true, Bool.false_eq_true, if_false, Bool.not_eq_true'] at this
      exact ⟨rfl, (mem' i).1 this⟩
  · have := k4 i (List.mem_range.2 hi)
    cases hm1 : m1.getD i false with
    | true => exact .inl rfl
    | false =>
      cases hm2 : m2.getD i false with
      | true => exact .inr rfl
      | false =>
        rw [hm1, hm2] at this
        simp only [Bool.false_eq_true, if_false] at this
        obtain ⟨s, hs, e⟩ := (mem i).1 this
        exact absurd e (hm s hs)
  · have := k7 s hs
    simp only [Bool.and_eq_true] at this
    exact of_decide_eq_true this.1.1.1
  · have := k7 s hs
    simp only [Bool.and_eq_true] at this
    have := (List.all_eq_true.1 this.1.1.2) j hj
    simp only [Bool.and_eq_true] at this
    refine ⟨by simpa using this.1.1.1, (mem j).1 this.1.1.2, of_decide_eq_true this.1.2, fun s' hs' ht => ?_⟩
    have := (List.all_eq_true.1 this.2) s' hs'
    rw [ht] at this
    simpa using this
  · have := k7 s hs
    simp only [Bool.and_eq_true] at this
    have := (List.all_eq_true.1 this.1.2) j hj
    simp only [Bool.and_eq_true] at this
    exact ⟨by simpa using this.1, (mem j).1 this.2⟩
  · have := k7 s hs
    simp only [Bool.and_eq_true] at this
    have := this.2
    rw [ht] at this
    simpa using this

/-! ### What is asked, and what follows -/
def Eb (an : List (List Nat)) (st : List St) (wr : Nat → Nat → Prop) (i k : Nat) : Prop := ∀ s ∈ st, wr s.i k → s.i = i ∨ i ∈ an.getD s.i []
def tgtF (s : St) (F : Nat → Nat → Prop) (k : Nat) : Prop := match s.tgt with | some t => F t k | none => False
def Holds (a : Act) (o : Oper) (v : Value) : Prop := ∀ d, o.dst = some d → d < a.tmps.size → a.tmps[d]? = some v

structure AfOk (P : Program) (lops : List Oper) (an : List (List Nat)) (st : List St) (wr : Nat → Nat → Prop) (w0 : World) (a0 : Act) (af : (Nat → Par) → Act) (shape : Nat → Par → Value) : Prop where
  size : ∀ x, (af x).tmps.size = a0.tmps.size
  defers : ∀ x, (af x).defers = a0.defers
  out : ∀ x d, (∀ o ∈ lops, o.dst ≠ some d) → (af x).tmps[d]? = a0.tmps[d]?
  hard : ∀ x, ∀ s ∈ st, ∀ o, lops[s.i]? = some o → Holds (af x) o (shape s.i (x s.i))
  quiet : ∀ x i o, lops[i]? = some o → (∀ s ∈ st, s.i ≠ i) → ∀ D, Good (fun k => k < w0.heap.size ∧ Eb an st wr i k) w0 D → ∃ v, Holds (af x) o v ∧ YieldsIn P lops.toArray D o v (af x)
  call : ∀ x x' i o, lops[i]? = some o → (∀ s ∈ st, s.i ≠ i) → (∀ (a : Act) w f args w', (execOp a.eval o).run P w ≠ .ok (.enter f args) w') ∨ slotOf (af x) o = slotOf (af x') o

def Obl (P : Program) (lops : List Oper) (an : List (List Nat)) (st : List St) (wr : Nat → Nat → Prop) (w0 : World) (af : (Nat → Par) → Act) (shape : Nat → Par → Value) (R : Nat → (Nat → Par) → (Nat → Prop) → World → Prop) (s : St) : Prop :=
  ∀ (x : Nat → Par) (w : World) (F : Nat → Nat → Prop), Kept (fun k => k < w0.heap.size ∧ Eb an st wr s.i k) w0 w → (∀ j ∈ s.need, (∀ k, F j k → k < w.heap.size) ∧ R j x (F j) w) →
    ∃ o, lops[s.i]? = some o ∧ Region.wanted o (yielded lops.toArray (af x).tmps) = true ∧ HRun P o (af x) w fun v w' => ∃ y G, v = shape s.i y ∧
      Kept (fun k => k < w.heap.size ∧ ¬ (wr s.i k ∨ tgtF s F k)) w w' ∧ (∀ k, G k → k < w'.heap.size ∧ (w.heap.size ≤ k ∨ wr s.i k ∨ tgtF s F k)) ∧ R s.i (upd x s.i y) G w'
def Live (st : List St) (L : Array Bool) (h : Nat) : Prop := ∀ s ∈ st, s.tgt = some h → L.getD s.i false = false
def Mix (lops : List Oper) (a0 : Act) (b : Act) (L : Array Bool) (a : Act) : Prop :=
  a.defers = a0.defers ∧ a.tmps.size = a0.tmps.size ∧ ∀ d, ((∃ i o, lops[i]? = some o ∧ L.getD i false = true ∧ o.dst = some d) → a.tmps[d]? = b.tmps[d]?) ∧ ((∀ i o, lops[i]? = some o → o.dst = some d → L.getD i false = false) → a.tmps[d]? = a0.tmps[d]?)

structure Inv (lops : List Oper) (st : List St) (wr : Nat → Nat → Prop) (w0 : World) (a0 : Act) (af : (Nat → Par) → Act) (R : Nat → (Nat → Par) → (Nat → Prop) → World → Prop) (c : Nat → Par) (F : Nat → Nat → Prop) (L : Array Bool) (a : Act) (w : World) : Prop where
  closed : Closed .any lops.toArray L
  kept : Kept (fun k => k < w0.heap.size ∧ ∀ s ∈ st, L.getD s.i false = true → ¬ wr s.i k) w0 w
  mix : ∀ x, (∀ s ∈ st, L.getD s.i false = true → x s.i = c s.i) → Mix lops a0 (af x) L a
  foot : ∀ s ∈ st, L.getD s.i false = true → ∀ k, F s.i k → k < w.heap.size ∧ (w0.heap.size ≤ k ∨ ∃ s2 ∈ st, L.getD s2.i false = true ∧ wr s2.i k)
  apart : ∀ s ∈ st, ∀ s' ∈ st, L.getD s.i false = true → L.getD s'.i false = true → s.i ≠ s'.i → Live st L s.i → Live st L s'.i → ∀ k, F s.i k → ¬ F s'.i k
  fact : ∀ s ∈ st, L.getD s.i false = true → Live st L s.i → R s.i c (F s.i) w

def unl (L : Array Bool) (n : Nat) : Nat := ((List.range n).filter fun i => !L.getD i true).length
theorem filter_lt {p q : Nat → Bool} : ∀ (l : List Nat) (i : Nat), i ∈ l → p i = true → q i = false → (∀ j, q j = true → p j = true) → (l.filter q).length < (l.filter p).length
  | [], i, hi, _, _, _ => by cases hi
  | a :: l, i, hi, hp, hq, hle => by
    have le : ∀ (l : List Nat), (l.filter q).length ≤ (l.filter p).length := fun l => by
      induction l with
      | nil => simp
      | cons b l ih =>
        by_cases hb : q b = true
        · simp [hb, hle b hb]; exact ih
        · cases hpb : p b <;> simp [hb, hpb] <;> omega
    rcases List.mem_cons.1 hi with rfl | hi
    · simp [hp, hq]; have := le l; omega
    · have := filter_lt l i hi hp hq hle
      by_cases hb : q a = true
      · simp [hb, hle a hb]; exact this
      · cases hpb : p a <;> simp [hb, hpb] <;> omega
theorem unl_set {L : Array Bool} {n i : Nat} (hi : i < n) (hL : L.getD i true = false) : unl (L.setIfInBounds i true) n < unl L n := by
  have hs : i < L.size := by
    rcases Nat.lt_or_ge i L.size with h | h
    · exact h
    · simp [Array.getElem?_eq_none h] at hL
  refine filter_lt _ i (List.mem_range.2 hi) (by rw [hL]; rfl) (by simp [Array.getD, hs]) (fun j hj => ?_)
  by_cases hij : i = j
  · subst hij; rw [hL]; rfl
  · rw [getD_set_ne true hij] at hj; exact hj
end Go.Proofs.YtepgpihobmjbdaaGreat
namespace Go.Proofs.YtepgpihobmjbdaaGreat
open Go Go.RowKit

/-- The memory of two facts that stand at the end is not the same. -/
def Aparts (st : List St) (F : Nat → Nat → Prop) : Prop := ∀ s ∈ st, ∀ s' ∈ st, s.i ≠ s'.i → (∀ t ∈ st, t.tgt ≠ some s.i) → (∀ t ∈ st, t.tgt ≠ some s'.i) → ∀ k, F s.i k → ¬ F s'.i k

section
variable {P : Program} {lops : List Oper} {an : List (List Nat)} {m1 m2 : List Bool} {st : List St} {w0 : World} {a0 : Act} {af : (Nat → Par) → Act} {shape : Nat → Par → Value} {wr : Nat → Nat → Prop} {R : Nat → (Nat → Par) → (Nat → Prop) → World → Prop}

theorem put_at {a : Act} {d : Tmp} {v : Value} (e : Tmp) : (a.put (some d) v).tmps[e]? = if d = e then (if d < a.tmps.size then some v else none) else a.tmps[e]? := by
  simp only [Act.put, Array.getElem?_setIfInBounds]
theorem put_size (a : Act) (d : Option Tmp) (v : Value) : (a.put d v).tmps.size = a.tmps.size := by cases d <;> simp [Act.put]
theorem put_defers (a : Act) (d : Option Tmp) (v : Value) : (a.put d v).defers = a.defers := by cases d <;> rfl
theorem put_far {a : Act} {o : Option Tmp} {v : Value} {e : Tmp} (h : o ≠ some e) : (a.put o v).tmps[e]? = a.tmps[e]? := by
  cases o with
  | none => rfl
  | some d => rw [put_at, if_neg (fun e' => h (by rw [e']))]

theorem mix_put {b a : Act} {L : Array Bool} {i : Nat} {o : Oper} {v : Value} (hb : b.tmps.size = a0.tmps.size) (hm : Mix lops a0 b L a) (ho : lops[i]? = some o) (hi : i < L.size) (hv : Holds b o v) : Mix lops a0 b (L.setIfInBounds i true) (a.put o.dst v) := by
  obtain ⟨h1, h2, h3⟩ := hm
  refine ⟨(put_defers _ _ _).trans h1, (put_size _ _ _).trans h2, fun d => ⟨fun ⟨j, oj, hj, hl, hd⟩ => ?_, fun hn => ?_⟩⟩
  · by_cases e : o.dst = some d
    · rw [e, put_at, if_pos rfl]
      by_cases hlt : d < a.tmps.size
      · rw [if_pos hlt, hv d e (by rw [hb, ← h2]; exact hlt)]
      · rw [if_neg hlt, Array.getElem?_eq_none (by rw [hb, ← h2]; exact Nat.le_of_not_lt hlt)]
    · rw [put_far e]
      refine (h3 d).1 ⟨j, oj, hj, ?_, hd⟩
      have hij : i ≠ j := fun e' => by
        subst e'
        have : oj = o := Option.some.inj (hj.symm.trans ho)
        subst this; exact e hd
      rwa [getD_set_ne false hij] at hl
  · have e : o.dst ≠ some d := fun e => by
      have := hn i o ho e
      simp [Array.getD, hi] at this
    rw [put_far e]
    refine (h3 d).2 fun j oj hj hd => ?_
    have := hn j oj hj hd
    by_cases hij : i = j
    · subst hij
      simp [Array.getD, hi] at this
    · rwa [getD_set_ne false hij] at this

theorem reads_eq (hk : Chk lops an m1 m2 st) {b a : Act} (hb : ∀ d, (∀ o ∈ lops, o.dst ≠ some d) → b.tmps[d]? = a0.tmps[d]?) {L : Array Bool} (hm : Mix lops a0 b L a) {i : Nat} {o : Oper} (ho : lops[i]? = some o) (hall : ∀ e ∈ bEdges .any o, L.getD e false = true) :
    ∀ t ∈ o.looksAt lops.toArray, a.tmps[t]? = b.tmps[t]? := fun t ht => by
  by_cases h : ∃ (j : Nat) (oj : Oper), lops[j]? = some oj ∧ oj.dst = some t
  · obtain ⟨j, oj, hj, hd⟩ := h
    exact (hm.2.2 t).1 ⟨j, oj, hj, hall j (hk.reads i o j oj t ho hj hd ht).1, hd⟩
  · rw [(hm.2.2 t).2 fun j oj hj hd => absurd ⟨j, oj, hj, hd⟩ h, hb t fun oj hoj hd => ?_]
    obtain ⟨j, hj⟩ := List.mem_iff_getElem?.1 hoj
    exact h ⟨j, oj, hj, hd⟩

theorem Kept.weak {S S' : Nat → Prop} {a b : World} (h : Kept S a b) (hs : ∀ k, S' k → S k) : Kept S' a b := ⟨h.os, h.tape, h.output, h.size, fun k hk => h.block k (hs k hk)⟩

theorem set_getD {L : Array Bool} {i j : Nat} (hi : i < L.size) : (L.setIfInBounds i true).getD j false = true ↔ j = i ∨ L.getD j false = true := by
  by_cases e : i = j
  · subst e; simp [Array.getD, hi]
  · rw [getD_set_ne false e]; constructor
    · exact .inr
    · rintro (h | h)
      · exact absurd h.symm e
      · exact h

theorem all_listed (hk : Chk lops an m1 m2 st) {L : Array Bool} (hs : L.size = lops.length) (hr : Region.ready .any lops.toArray L = []) : ∀ i, i < lops.length → L.getD i false = true := by
  intro i
  induction i using Nat.strongRecOn with
  | _ i ih =>
    intro hi
    cases h : L.getD i false with
    | true => rfl
    | false =>
      obtain ⟨o, ho⟩ : ∃ o, lops[i]? = some o := ⟨lops[i], by simp [hi]⟩
      have : i ∈ Region.ready .any lops.toArray L := mem_ready.2 ⟨by simp [Array.getD, show i < L.size by omega] at h ⊢; exact h, o, by simpa using ho, fun e he hb => ih e.on (hk.back i o ho e.on (bEdges_spec.2 ⟨e, he, hb, rfl⟩)) (by have := hk.back i o ho e.on (bEdges_spec.2 ⟨e, he, hb, rfl⟩); omega)⟩
      rw [hr] at this
      cases this

theorem anyX {Q : Exit → Act → World → Prop} (hk : Chk lops an m1 m2 st) (hok : AfOk P lops an st wr w0 a0 af shape) (hob : ∀ s ∈ st, Obl P lops an st wr w0 af shape R s)
    (hst : ∀ s ∈ st, ∀ x F w w', R s.i x F w → w.heap.size ≤ w'.heap.size → (∀ k, F k → w'.heap[k]? = w.heap[k]?) → R s.i x F w')
    (hdep : ∀ s ∈ st, ∀ x x' F w, (∀ j, j = s.i ∨ j ∈ s.dep → x j = x' j) → R s.i x F w → R s.i x' F w)
    (hwl : ∀ s ∈ st, ∀ k, wr s.i k → k < w0.heap.size) (hwr : ∀ s ∈ st, ∀ s' ∈ st, s.i ≠ s'.i → ∀ k, wr s.i k → ¬ wr s'.i k)
    (hfin : ∀ (x : Nat → Par) (w : World) (F : Nat → Nat → Prop), Kept (fun k => k < w0.heap.size ∧ ∀ s ∈ st, ¬ wr s.i k) w0 w → (∀ s ∈ st, (∀ s' ∈ st, s'.tgt ≠ some s.i) → R s.i x (F s.i) w) → Aparts st F → Q .normal (af x) w) :
    ∀ (fuel : Nat) (L : Array Bool) (a : Act) (w : World) (c : Nat → Par) (F : Nat → Nat → Prop), unl L lops.length ≤ fuel → Inv lops st wr w0 a0 af R c F L a w → wpAny P .any lops.toArray Q fuel L a w := by
  have fin : ∀ (L : Array Bool) (a : Act) (w : World) (c : Nat → Par) (F : Nat → Nat → Prop), Inv lops st wr w0 a0 af R c F L a w → Region.ready .any lops.toArray L = [] → Q .normal a w := by
    intro L a w c F hi hr
    have hall := all_listed hk (by simpa using hi.closed.1) hr
    obtain ⟨h1, h2, h3⟩ := hi.mix c (fun _ _ _ => rfl)
    have ha : a = af c := by
      have e1 : a.tmps = (af c).tmps := by
        refine Array.ext_getElem? fun d => ?_
        by_cases h : ∃ (j : Nat) (oj : Oper), lops[j]? = some oj ∧ oj.dst = some d
        · obtain ⟨j, oj, hj, hd⟩ := h
          exact (h3 d).1 ⟨j, oj, hj, hall j (List.getElem?_eq_some_iff.1 hj).1, hd⟩
        · rw [(h3 d).2 fun j oj hj hd => absurd ⟨j, oj, hj, hd⟩ h, hok.out c d fun oj hoj hd => ?_]
          obtain ⟨j, hj⟩ := List.mem_iff_getElem?.1 hoj
          exact h ⟨j, oj, hj, hd⟩
      have e2 : a.defers = (af c).defers := h1.trans (hok.defers c).symm
      cases a
      generalize af c = b at *
      cases b
      simp only at e1 e2
      rw [e1, e2]
    rw [ha]
    refine hfin c w F (hi.kept.weak fun k hk' => ⟨hk'.1, fun s hs _ => hk'.2 s hs⟩) (fun s hs hl => ?_) fun s hs s' hs' hne h1 h2 => hi.apart s hs s' hs' (hall _ (hk.lt s hs)) (hall _ (hk.lt s' hs')) hne (fun t ht he => absurd he (h1 t ht)) (fun t ht he => absurd he (h2 t ht))
    exact hi.fact s hs (hall _ (hk.lt s hs)) fun s' hs' ht => absurd ht (hl s' hs')
  intro fuel
  induction fuel with
  | zero =>
    intro L a w c F hu hi
    have hr : Region.ready .any lops.toArray L = [] := by
      cases h : Region.ready .any lops.toArray L with
      | nil => rfl
      | cons i l =>
        have hm : i ∈ Region.ready .any lops.toArray L := by rw [h]; exact List.mem_cons_self
        obtain ⟨hL, o, ho, _⟩ := mem_ready.1 hm
        have := unl_set (L := L) (n := lops.length) (i := i) (by simpa using (Array.getElem?_eq_some_iff.1 ho).1) hL
        omega
    exact ⟨hr, fin L a w c F hi hr⟩
  | succ fuel ih =>
    intro L a w c F hu hi
    refine ⟨fin L a w c F hi, fun i hir => ?_⟩
    obtain ⟨hL, o, ho', hall'⟩ := mem_ready.1 hir
    have ho : lops[i]? = some o := by simpa using ho'
    have hin : i < lops.length := (List.getElem?_eq_some_iff.1 ho).1
    have his : i < L.size := by rw [hi.closed.1]; simpa using hin
    have hLf : L.getD i false = false := getD_ff hL
    have hu' : unl (L.setIfInBounds i true) lops.length ≤ fuel := by have := unl_set hin hL; omega
    have hall : ∀ e ∈ bEdges .any o, L.getD e false = true := fun e he => by
      obtain ⟨x, hx, hb, hon⟩ := bEdges_spec.1 he
      rw [← hon]; exact hall' x hx hb
    have hanc := anc_listed hk.anc hi.closed i o ho hall
    have hcl := hi.closed.set hir
    have rd : ∀ x, (∀ s ∈ st, L.getD s.i false = true → x s.i = c s.i) → ∀ t ∈ o.looksAt lops.toArray, a.tmps[t]? = (af x).tmps[t]? := fun x hx => reads_eq hk (hok.out x) (hi.mix x hx) ho hall
    have ex : ∀ x, (∀ s ∈ st, L.getD s.i false = true → x s.i = c s.i) → execOp a.eval o = execOp (af x).eval o := fun x hx => exec_agree (hk.nosel i o · · ho) (rd x hx)
    have wa : ∀ x, (∀ s ∈ st, L.getD s.i false = true → x s.i = c s.i) → Region.wanted o (yielded lops.toArray a.tmps) = Region.wanted o (yielded lops.toArray (af x).tmps) := fun x hx => wanted_agree (rd x hx)
    have cc : ∀ s ∈ st, L.getD s.i false = true → c s.i = c s.i := fun _ _ _ => rfl
    -- what is kept from the beginning for this operation
    have keptE : Kept (fun k => k < w0.heap.size ∧ Eb an st wr i k) w0 w := hi.kept.weak fun k hk' => ⟨hk'.1, fun s hs hl hw => by
      rcases hk'.2 s hs hw with e | e
      · rw [e, hLf] at hl; cases hl
      · obtain ⟨os, hos, _⟩ := anc_spec hk.anc _ _ e
        have hcs : ∀ e ∈ bEdges .any os, L.getD e false = true := fun e he => by
          obtain ⟨x, hx, hb, hon⟩ := bEdges_spec.1 he
          rw [← hon]; exact hi.closed.2 s.i os (by simpa using hos) hl x hx hb
        rw [anc_listed hk.anc hi.closed s.i os hos hcs i e] at hLf
        cases hLf⟩
    unfold wpOp
    simp only [ho']
    by_cases hhard : ∃ s ∈ st, s.i = i
    · -- a hard operation
      obtain ⟨s, hs, hsi⟩ := hhard
      have need : ∀ j ∈ s.need, (∀ k, F j k → k < w.heap.size) ∧ R j c (F j) w := fun j hj => by
        obtain ⟨h1, ⟨sj, hsj, e⟩, hne, hsup⟩ := hk.need s hs j hj
        rw [hsi] at h1
        have hLj := hanc j h1
        subst e
        refine ⟨fun k hFk => (hi.foot sj hsj hLj k hFk).1, hi.fact sj hsj hLj fun s' hs' ht => ?_⟩
        rw [hsup s' hs' ht, hsi]; exact hLf
      obtain ⟨o', ho'', hw, hrun⟩ := hob s hs c w F (by rw [hsi]; exact keptE) need
      have : o' = o := by rw [hsi, ho] at ho''; exact (Option.some.inj ho'').symm
      subst this
      rw [wa c cc, hw]
      simp only [if_true]
      left
      -- the next state
      have step : ∀ v w', (∃ y G, v = shape s.i y ∧ Kept (fun k => k < w.heap.size ∧ ¬ (wr s.i k ∨ tgtF s F k)) w w' ∧ (∀ k, G k → k < w'.heap.size ∧ (w.heap.size ≤ k ∨ wr s.i k ∨ tgtF s F k)) ∧ R s.i (upd c s.i y) G w') →
          wpAny P .any lops.toArray Q fuel (L.setIfInBounds i true) (a.put o'.dst v) w' := by
        rintro v w' ⟨y, G, rfl, hkw, hG, hR⟩
        subst hsi
        have old : ∀ s' ∈ st, L.getD s'.i false = true → s'.i ≠ s.i := fun s' _ hl e => by rw [e, hLf] at hl; cases hl
        have tgtL : ∀ t, s.tgt = some t → ∃ s' ∈ st, s'.i = t ∧ L.getD t false = true ∧ Live st L t ∧ t ≠ s.i := fun t ht => by
          obtain ⟨h1, ⟨s', hs', e⟩, hne, hsup⟩ := hk.need s hs t (hk.tgt s hs t ht)
          exact ⟨s', hs', e, hanc t h1, fun s2 hs2 ht2 => by rw [hsup s2 hs2 ht2]; exact hLf, hne⟩
        -- nothing that another live fact is about is turned
        have safe : ∀ s' ∈ st, L.getD s'.i false = true → Live st L s'.i → s.tgt ≠ some s'.i → ∀ k, F s'.i k → k < w.heap.size ∧ ¬ (wr s.i k ∨ tgtF s F k) := fun s' hs' hl hlive hnt k hFk => by
          refine ⟨(hi.foot s' hs' hl k hFk).1, fun h => ?_⟩
          rcases h with h | h
          · rcases (hi.foot s' hs' hl k hFk).2 with h2 | ⟨s2, hs2, hl2, hw2⟩
            · have := hwl s hs k h; omega
            · exact hwr s hs s2 hs2 (fun e => old s2 hs2 hl2 e.symm) k h hw2
          · unfold tgtF at h
            cases ht : s.tgt with
            | none => rw [ht] at h; exact h
            | some t =>
              rw [ht] at h
              obtain ⟨st', hst', e, hlt, hlv, _⟩ := tgtL t ht
              subst e
              exact hi.apart s' hs' st' hst' hl hlt (fun e => hnt (by rw [ht, e])) hlive hlv k hFk h
        refine ih _ _ _ (upd c s.i y) (fun j => if j = s.i then G else F j) hu' ⟨hcl, ?_, fun x hx => ?_, fun s' hs' hl k hFk => ?_, fun s1 hs1 s2 hs2 hl1 hl2 hne lv1 lv2 k h1 h2 => ?_, fun s' hs' hl hlv => ?_⟩
        · -- kept
          refine ⟨hkw.os.trans hi.kept.os, hkw.tape.trans hi.kept.tape, hkw.output.trans hi.kept.output, Nat.le_trans hi.kept.size hkw.size, fun k ⟨h1, h2⟩ => ?_⟩
          refine (hkw.block k ⟨Nat.lt_of_lt_of_le h1 hi.kept.size, fun h => ?_⟩).trans (hi.kept.block k ⟨h1, fun s' hs' hl => h2 s' hs' ((set_getD his).2 (.inr hl))⟩)
          rcases h with h | h
          · exact h2 s hs ((set_getD his).2 (.inl rfl)) h
          · unfold tgtF at h
            cases ht : s.tgt with
            | none => rw [ht] at h; exact h
            | some t =>
              rw [ht] at h
              obtain ⟨st', hst', e, hlt, hlv, _⟩ := tgtL t ht
              subst e
              rcases (hi.foot st' hst' hlt k h).2 with h3 | ⟨s2, hs2, hl2, hw2⟩
              · omega
              · exact h2 s2 hs2 ((set_getD his).2 (.inr hl2)) hw2
        · -- the frame
          have hx' : ∀ s' ∈ st, L.getD s'.i false = true → x s'.i = c s'.i := fun s' hs' hl => by
            rw [hx s' hs' ((set_getD his).2 (.inr hl)), upd_ne _ _ (old s' hs' hl)]
          have e : x s.i = y := by rw [hx s hs ((set_getD his).2 (.inl rfl)), upd_same]
          exact mix_put (hok.size x) (hi.mix x hx') ho his (by rw [← e]; exact hok.hard x s hs o' ho)
        · -- footprints
          by_cases e : s'.i = s.i
          · rw [e] at hFk
            simp only [if_true] at hFk
            obtain ⟨h1, h2⟩ := hG k hFk
            refine ⟨h1, ?_⟩
            rcases h2 with h2 | h2 | h2
            · exact .inl (Nat.le_trans hi.kept.size h2)
            · exact .inr ⟨s, hs, (set_getD his).2 (.inl rfl), h2⟩
            · unfold tgtF at h2
              cases ht : s.tgt with
              | none => rw [ht] at h2; exact h2.elim
              | some t =>
                rw [ht] at h2
                obtain ⟨st', hst', e, hlt, hlv, _⟩ := tgtL t ht
                subst e
                rcases (hi.foot st' hst' hlt k h2).2 with h3 | ⟨s2, hs2, hl2, hw2⟩
                · exact .inl h3
                · exact .inr ⟨s2, hs2, (set_getD his).2 (.inr hl2), hw2⟩
          · simp only [e, if_false] at hFk
            have hl' := ((set_getD his).1 hl).resolve_left e
            obtain ⟨h1, h2⟩ := hi.foot s' hs' hl' k hFk
            refine ⟨Nat.lt_of_lt_of_le h1 hkw.size, ?_⟩
            rcases h2 with h2 | ⟨s2, hs2, hl2, hw2⟩
            · exact .inl h2
            · exact .inr ⟨s2, hs2, (set_getD his).2 (.inr hl2), hw2⟩
        · -- apart
          have liveOld : ∀ j, Live st (L.setIfInBounds s.i true) j → Live st L j ∧ s.tgt ≠ some j := fun j lv => by
            refine ⟨fun s3 hs3 ht => ?_, fun ht => ?_⟩
            · have := lv s3 hs3 ht
              cases h3 : L.getD s3.i false with
              | false => rfl
              | true => rw [(set_getD his).2 (.inr h3)] at this; cases this
            · have := lv s hs ht
              rw [(set_getD his).2 (.inl rfl)] at this; cases this
          have newOld : ∀ s3 ∈ st, L.getD s3.i false = true → Live st L s3.i → s.tgt ≠ some s3.i → ∀ k, G k → ¬ F s3.i k := fun s3 hs3 hl3 lv3 hnt k hGk hFk => by
            obtain ⟨h1, h2⟩ := safe s3 hs3 hl3 lv3 hnt k hFk
            obtain ⟨_, h3⟩ := hG k hGk
            rcases h3 with h3 | h3
            · omega
            · exact h2 h3
          by_cases e1 : s1.i = s.i
          · have e2 : s2.i ≠ s.i := fun e => hne (e1.trans e.symm)
            simp only [e1, if_true] at h1
            simp only [e2, if_false] at h2
            have hl2' := ((set_getD his).1 hl2).resolve_left e2
            obtain ⟨a1, a2⟩ := liveOld _ lv2
            exact newOld s2 hs2 hl2' a1 a2 k h1 h2
          · simp only [e1, if_false] at h1
            have hl1' := ((set_getD his).1 hl1).resolve_left e1
            obtain ⟨a1, a2⟩ := liveOld _ lv1
            by_cases e2 : s2.i = s.i
            · simp only [e2, if_true] at h2
              exact newOld s1 hs1 hl1' a1 a2 k h2 h1
            · simp only [e2, if_false] at h2
              have hl2' := ((set_getD his).1 hl2).resolve_left e2
              exact hi.apart s1 hs1 s2 hs2 hl1' hl2' hne a1 (liveOld _ lv2).1 k h1 h2
        · -- facts
          by_cases e : s'.i = s.i
          · simp only [e, if_true]; exact hR
          · simp only [e, if_false]
            have hl' := ((set_getD his).1 hl).resolve_left e
            have lv' : Live st L s'.i := fun s3 hs3 ht => by
              have := hlv s3 hs3 ht
              cases h3 : L.getD s3.i false with
              | false => rfl
              | true => rw [(set_getD his).2 (.inr h3)] at this; cases this
            have hnt : s.tgt ≠ some s'.i := fun ht => by
              have := hlv s hs ht
              rw [(set_getD his).2 (.inl rfl)] at this; cases this
            refine hst s' hs' _ _ w w' (hdep s' hs' c _ _ _ (fun j hj => ?_) (hi.fact s' hs' hl' lv')) hkw.size fun k hFk => hkw.block k (safe s' hs' hl' lv' hnt k hFk)
            refine (upd_ne c y ?_).symm
            rcases hj with rfl | hj
            · exact e
            · obtain ⟨os, hos, _⟩ := anc_spec hk.anc _ _ (hk.dep s' hs' j hj).1
              have hcs : ∀ e ∈ bEdges .any os, L.getD e false = true := fun e he => by
                obtain ⟨x, hx, hb, hon⟩ := bEdges_spec.1 he
                rw [← hon]; exact hi.closed.2 s'.i os (by simpa using hos) hl' x hx hb
              have := anc_listed hk.anc hi.closed s'.i os hos hcs j (hk.dep s' hs' j hj).1
              intro e; rw [e, hLf] at this; cases this
      unfold Oper.wp
      unfold HRun at hrun
      rw [ex c cc]
      generalize (execOp (af c).eval o').run P w = r at *
      cases r with
      | ok n w' =>
        cases n <;> simp only at hrun <;> simp only [Oper.upon]
        case value u => exact step u w' hrun
        case skip => exact step undef w' hrun
        case enter f args => exact hrun.mono fun e w'' ⟨v, he, hk'⟩ => by subst he; exact step v w'' hk'
      | halt x w' => simp only at hrun
    · -- a quiet operation
      have hq : ∀ s ∈ st, s.i ≠ i := fun s hs e => hhard ⟨s, hs, e⟩
      have good : Good (fun k => k < w0.heap.size ∧ Eb an st wr i k) w0 (Later w) :=
        ⟨fun w' h => kept_later (fun k hk' => hk'.1) keptE h, fun _ _ h h' => h.trans h', w, Later.refl w⟩
      have step : ∀ v w', Later w w' → (∀ x, (∀ s ∈ st, L.getD s.i false = true → x s.i = c s.i) → Holds (af x) o v) → wpAny P .any lops.toArray Q fuel (L.setIfInBounds i true) (a.put o.dst v) w' := by
        intro v w' hlw hv
        have up : ∀ s ∈ st, (L.setIfInBounds i true).getD s.i false = true → L.getD s.i false = true := fun s hs hl => ((set_getD his).1 hl).resolve_left (hq s hs)
        have lv : ∀ j, Live st (L.setIfInBounds i true) j → Live st L j := fun j h s hs ht => by
          have := h s hs ht
          cases h3 : L.getD s.i false with
          | false => rfl
          | true => rw [(set_getD his).2 (.inr h3)] at this; cases this
        refine ih _ _ _ c F hu' ⟨hcl, ?_, fun x hx => ?_, fun s' hs' hl k hFk => ?_, fun s1 hs1 s2 hs2 hl1 hl2 hne lv1 lv2 k h1 h2 => ?_, fun s' hs' hl hlv => ?_⟩
        · exact kept_later (fun k hk' => hk'.1) (hi.kept.weak fun k hk' => ⟨hk'.1, fun s hs hl => hk'.2 s hs ((set_getD his).2 (.inr hl))⟩) hlw
        · have hx' : ∀ s ∈ st, L.getD s.i false = true → x s.i = c s.i := fun s hs hl => hx s hs ((set_getD his).2 (.inr hl))
          exact mix_put (hok.size x) (hi.mix x hx') ho his (hv x hx')
        · obtain ⟨h1, h2⟩ := hi.foot s' hs' (up s' hs' hl) k hFk
          refine ⟨Nat.lt_of_lt_of_le h1 hlw.size, ?_⟩
          rcases h2 with h2 | ⟨s2, hs2, hl2, hw2⟩
          · exact .inl h2
          · exact .inr ⟨s2, hs2, (set_getD his).2 (.inr hl2), hw2⟩
        · exact hi.apart s1 hs1 s2 hs2 (up _ hs1 hl1) (up _ hs2 hl2) hne (lv _ lv1) (lv _ lv2) k h1 h2
        · exact hst s' hs' _ _ w w' (hi.fact s' hs' (up _ hs' hl) (lv _ hlv)) hlw.size fun k hFk => hlw.block k (hi.foot s' hs' (up _ hs' hl) k hFk).1
      obtain ⟨v, hv, hy⟩ := hok.quiet c i o ho hq (Later w) good
      rcases hy with ⟨hw, hqa⟩ | ⟨hw, hvu⟩
      · rw [wa c cc, hw]
        simp only [if_true]
        left
        have h1 := hqa w (Later.refl w)
        unfold Oper.quietAt at h1
        unfold Oper.wp
        have others : ∀ x, (∀ s ∈ st, L.getD s.i false = true → x s.i = c s.i) → ∃ vx, Holds (af x) o vx ∧ Oper.quietUpon P (Later w) w vx ((execOp (af c).eval o).run P w) := fun x hx => by
          obtain ⟨vx, hvx, hyx⟩ := hok.quiet x i o ho hq (Later w) good
          rcases hyx with ⟨_, hqx⟩ | ⟨hwx, _⟩
          · refine ⟨vx, hvx, ?_⟩
            have := hqx w (Later.refl w)
            unfold Oper.quietAt at this
            rwa [← ex x hx, ex c cc] at this
          · rw [← wa x hx, wa c cc, hw] at hwx; cases hwx
        have hcall := fun x => hok.call c x i o ho hq
        rw [ex c cc]
        generalize hr : (execOp (af c).eval o).run P w = r at *
        cases r with
        | ok n w' =>
          cases n <;> simp only [Oper.quietUpon] at h1 others <;> simp only [Oper.upon]
          case value u =>
            obtain ⟨e1, e2⟩ := h1
            refine step u w' (by rw [e1]; exact Later.refl w) fun x hx => ?_
            obtain ⟨vx, hvx, _, e3⟩ := others x hx
            rw [e3]; exact hvx
          case skip =>
            obtain ⟨e1, e2⟩ := h1
            refine step undef w' (by rw [e1]; exact Later.refl w) fun x hx => ?_
            obtain ⟨vx, hvx, _, e3⟩ := others x hx
            rw [← e3]; exact hvx
          case enter f args =>
            obtain ⟨e1, hc⟩ := h1
            subst e1
            refine hc.mono fun e w'' ⟨he, hw''⟩ => ?_
            subst he
            refine step v w'' hw'' fun x hx d hd hlt => ?_
            rcases hcall x with h | h
            · exact absurd hr (h _ _ _ _ _)
            · have hc := hv d hd (by rw [hok.size c, ← hok.size x]; exact hlt)
              simp only [slotOf, hd, Array.getD_eq_getD_getElem?, hc, Option.getD_some] at h
              rw [h]
              simp [hlt]
        | halt x w' => simp only [Oper.quietUpon] at h1
      · rw [wa c cc, hw]
        simp only [Bool.false_eq_true, if_false]
        refine step undef w (Later.refl w) fun x hx => ?_
        obtain ⟨vx, hvx, hyx⟩ := hok.quiet x i o ho hq (Later w) good
        rcases hyx with ⟨hwx, _⟩ | ⟨_, e⟩
        · rw [← wa x hx, wa c cc, hw] at hwx; cases hwx
        · rw [← e]; exact hvx
end
end Go.Proofs.YtepgpihobmjbdaaGreat
