/-
  Regions that draw their order, once more: which operations may turn old memory is said by a set; each of these must wait for every quiet operation that is taken ahead.
  A region that draws its order, in which one call may turn old memory: it waits for all that come ahead, and all others wait for it.
-/
import Derived.Test.YtiggefmckomilaaRegH
import Derived.Test.YtiggefmckomilaaRegionStep
set_option linter.unusedSimpArgs false
set_option linter.unusedVariables false
namespace Go.Proofs.Ytiggefmckomilaa
open Go Go.RowKit
section
variable {P : Program} {md : Region.Mode} {ops : Array Oper} {S : Nat → Prop} {E : Nat → Bool} {w0 : World}
theorem anyR_firstE {Q : Act → World → Prop} {i : Nat} {oi : Oper} {v : Value} (hi : ops[i]? = some oi) (hsel : ∀ (j : Nat) (o : Oper) cs b, ops[j]? = some o → o.op ≠ .select cs b) (hS : ∀ k, S k → k < w0.heap.size)
    (hlate : ∀ j, j < ops.size → E j = true ∨ waitsFor md ops j i = true) :
    ∀ (fuel : Nat) (listed : Array Bool) (a : Act) (w : World), Closed md ops listed →
      (∀ j oj, ops[j]? = some oj → j ≠ i → listed.getD j true = false → (∀ e ∈ oj.after, Region.binds md e = true → e.on ≠ i) → oi.apart ops oj = true) →
      i ∈ Region.ready md ops listed → Kept S w0 w → QuietAt P ops S w0 oi v a →
      anyR P md ops S E Q fuel (listed.setIfInBounds i true) (a.put oi.dst v) w → anyR P md ops S E Q (fuel + 1) listed a w := by
  intro fuel
  induction fuel with
  | zero =>
    intro listed a w _ _ hr hw hy H
    refine ⟨fun h => (by rw [h] at hr; cases hr), fun j hj w1 h1 => ?_⟩
    have hw1 : Kept S w0 w1 := kept_later hS hw h1
    by_cases hji : j = i
    · subst hji; exact opR_quiet hi hS hw1 hy fun w2 h2 => anyR_up H (h1.trans h2)
    · have := ready_mono hj hji
      rw [H.1] at this
      cases this
  | succ fuel ih =>
    intro listed a w hcl hfree hr hw hy H
    refine ⟨fun h => (by rw [h] at hr; cases hr), fun j hj w1 h1 => ?_⟩
    have hw1 : Kept S w0 w1 := kept_later hS hw h1
    by_cases hji : j = i
    · subst hji; exact opR_quiet hi hS hw1 hy fun w2 h2 => anyR_up H (h1.trans h2)
    · have hst := H.2 j (ready_mono hj hji) w1 h1
      obtain ⟨hjun, oj, hoj, hall⟩ := mem_ready.1 hj
      have hnot : ∀ e ∈ oj.after, Region.binds md e = true → e.on ≠ i := fun e he hb heq => by
        have h1 := hall e he hb
        have h0 := (mem_ready.1 hr).1
        rw [heq] at h1
        rcases Nat.lt_or_ge i listed.size with h' | h'
        · simp [h'] at h0 h1; rw [h0] at h1; cases h1
        · simp [Array.getElem?_eq_none h'] at h1
      have hEj : E j = true := by
        rcases hlate j (Array.getElem?_eq_some_iff.1 hoj).1 with h | h
        · exact h
        · obtain ⟨o, ho, e, he, hb, hon⟩ := waits_spec h
          have : o = oj := Option.some.inj (ho.symm.trans hoj)
          subst this
          exact absurd hon (hnot e he hb)
      have h2 := opR_put hoj (hfree j oj hoj hji hjun hnot) (fun cs b => hsel i oi cs b hi) (fun cs b => hsel j oj cs b hoj) hy hst
      have hfree' : ∀ k ok, ops[k]? = some ok → k ≠ i → (listed.setIfInBounds j true).getD k true = false →
          (∀ e ∈ ok.after, Region.binds md e = true → e.on ≠ i) → oi.apart ops ok = true := fun k ok hk hki hun hno => by
        refine hfree k ok hk hki ?_ hno
        by_cases hjk : j = k
        · subst hjk; exact hjun
        · rw [getD_set_ne true hjk] at hun; exact hun
      refine opR_mono (fun a' w' hb h3 => ih (listed.setIfInBounds j true) a' w' (hcl.set hj) hfree' (ready_mono hr (Ne.symm hji)) (hw1.trans (hb hEj)) h3.1 ?_) h2
      rw [Array.setIfInBounds_comm _ _ hji]
      exact h3.2

def peelE (md : Region.Mode) (ops : Array Oper) (E : Nat → Bool) : List Bool → Nat → Array Bool → Array Bool → Bool
  | [], _, listed, after => listed == after
  | true :: m, k, listed, after => ((List.range ops.size).all fun j => E j || waitsFor md ops j k) && (Region.ready md ops listed).contains k && Region.free md ops listed k && peelE md ops E m (k + 1) (listed.setIfInBounds k true) after
  | false :: m, k, listed, after => peelE md ops E m (k + 1) listed after
theorem anyR_peel_goE {Q : Act → World → Prop} (hs : Region.noSelect ops = true) (hS : ∀ k, S k → k < w0.heap.size)
    {af : Act} {fuel : Nat} {after : Array Bool} {w : World} (hw : Kept S w0 w) :
    ∀ (m : List Bool) (l : List Oper) (k : Nat) (listed : Array Bool) (a : Act), Closed md ops listed → (∀ j, l[j]? = ops[k + j]?) → peelE md ops E m k listed after = true → dstB (takeOps m l) = true →
      (∀ D, Good S w0 D → wpQuiet P ops (cls D) (fun a' => a' = af) (takeOps m l) a) → anyR P md ops S E Q fuel after af w → anyR P md ops S E Q ((takeOps m l).length + fuel) listed a w
  | [], l, k, listed, a, _, _, hp, _, hq, h => by
    have hl : listed = after := by simpa [peelE] using hp
    have ha : a = af := by
      have := hq (Kept S w0) ⟨fun _ h => h, fun _ _ h h' => kept_later hS h h', w0, Kept.refl _ _⟩
      simpa [takeOps, wpQuiet] using this
    subst hl
    subst ha
    simpa [takeOps] using h
  | false :: m, [], k, listed, a, hcl, hl, hp, hd, hq, h => by
    have e2 : takeOps m [] = [] := by cases m with | nil => rfl | cons b m => cases b <;> rfl
    have r := anyR_peel_goE hs hS hw m [] (k + 1) listed a hcl (fun j => by have := hl (j + 1); simpa [Nat.add_assoc, Nat.add_comm 1 j] using this) (by simpa [peelE] using hp) (by rw [e2]; rfl) (fun D hD => by rw [e2]; exact hq D hD) h
    rw [e2] at r
    exact r
  | false :: m, o :: l, k, listed, a, hcl, hl, hp, hd, hq, h =>
    anyR_peel_goE hs hS hw m l (k + 1) listed a hcl (fun j => by have := hl (j + 1); simpa [Nat.add_assoc, Nat.add_comm 1 j] using this) (by simpa [peelE] using hp) hd hq h
  | true :: m, [], k, listed, a, _, hl, hp, _, _, _ => by
    simp only [peelE, Bool.and_eq_true] at hp
    have hr : k ∈ Region.ready md ops listed := by simpa using hp.1.1.2
    obtain ⟨_, o, ho, _⟩ := mem_ready.1 hr
    have := hl 0
    simp [ho] at this
  | true :: m, o :: l, k, listed, a, hcl, hl, hp, hd, hq, h => by
    have h0 : ops[k]? = some o := by simpa using (hl 0).symm
    simp only [peelE, Bool.and_eq_true, List.all_eq_true, List.mem_range, Bool.or_eq_true] at hp
    obtain ⟨⟨⟨hkn, hr⟩, hf⟩, hp'⟩ := hp
    have hr' : k ∈ Region.ready md ops listed := by simpa using hr
    simp only [takeOps, dstB, Bool.and_eq_true, List.all_eq_true] at hd
    have step : ∀ D, Good S w0 D → ∃ v, YieldsIn P ops D o v a ∧ wpQuiet P ops (cls D) (fun a' => a' = af) (takeOps m l) (a.put o.dst v) := fun D hD => by
      have := hq D hD
      have hk : qOp P ops (cls D) k (wpQuiet P ops (cls D) (fun a' => a' = af) (takeOps m l)) a := by unfold qOp; simp only [h0]; exact this
      obtain ⟨v, hy, hn⟩ := yieldsIn_of_qOp h0 hk
      rw [cls_eq] at hy
      exact ⟨v, hy, hn⟩
    obtain ⟨v, _, hn0⟩ := step (Kept S w0) ⟨fun _ h => h, fun _ _ h h' => kept_later hS h h', w0, Kept.refl _ _⟩
    have same : ∀ D, Good S w0 D → ∀ u, wpQuiet P ops (cls D) (fun a' => a' = af) (takeOps m l) (a.put o.dst u) → a.put o.dst u = a.put o.dst v := fun D _ u hu => by
      cases ho : o.dst with
      | none => rfl
      | some d =>
        rw [ho] at hu hn0
        have hne : ∀ o' ∈ takeOps m l, o'.dst ≠ some d := fun o' ho' => by
          have := hd.1 o' ho'
          simpa [ho] using this
        exact put_slot ((final_slot _ _ hne hu).symm.trans (final_slot _ _ hne hn0))
    have hqa : QuietAt P ops S w0 o v a := fun D hD => by
      obtain ⟨u, hy, hn⟩ := step D hD
      exact ⟨u, hy, same D hD u hn⟩
    have rest := anyR_peel_goE hs hS hw m l (k + 1) (listed.setIfInBounds k true) (a.put o.dst v) (hcl.set hr') (fun j => by have := hl (j + 1); simpa [Nat.add_assoc, Nat.add_comm 1 j] using this) hp' hd.2 (fun D hD => by
      obtain ⟨u, _, hn⟩ := step D hD
      rw [← same D hD u hn]; exact hn) h
    have e : (takeOps (true :: m) (o :: l)).length + fuel = (takeOps m l).length + fuel + 1 := by simp [takeOps]; omega
    rw [e]
    exact anyR_firstE h0 (Region.noSelect_spec hs) hS hkn _ listed a w hcl (Region.free_spec h0 hf) hr' hw hqa rest

theorem anyR_peelE {Q : Act → World → Prop} {lops : List Oper} {listed a af w fuel len} (m : List Bool) (after : Array Bool)
    (hb : (Region.noSelect lops.toArray && closedB md lops.toArray listed && peelE md lops.toArray E m 0 listed after && dstB (takeOps m lops)) = true) (hn : len = (takeOps m lops).length + fuel)
    (hS : ∀ k, S k → k < w.heap.size)
    (hq : ∀ D, Good S w D → wpQuiet P lops.toArray (fun w' => ∃ x : Of D, w' = x.val) (fun a' => a' = af) (takeOps m lops) a) (h : anyR P md lops.toArray S E Q fuel after af w) : anyR P md lops.toArray S E Q len listed a w := by
  simp only [Bool.and_eq_true] at hb
  obtain ⟨⟨⟨hs, hc⟩, hp⟩, hd⟩ := hb
  rw [hn]
  exact anyR_peel_goE hs hS (Kept.refl _ _) m lops 0 listed a (closed_of hc) (by simp) hp hd hq h

theorem wp_region_E {id : Nat} {Q : Exit → Act → World → Prop} {a : Act} {w : World} {lops : List Oper} (S : Nat → Prop) (E : Nat → Bool) (hm : P.follows .mixedOrders = true)
    (h : anyR P .any lops.toArray S E (fun a w => Q .normal a w) lops.length (Array.replicate lops.length false) a w) : (Code.region id lops.toArray true).wp P Q a w :=
  wp_region_any hm (wpAny_of_anyR _ _ _ _ (by
    have := anyR_up h (w' := w.drew) ⟨rfl, rfl, rfl, Nat.le_refl _, fun _ _ => rfl⟩
    simpa using this))

theorem opR_set1 {i : Nat} {t t' : TypeId} {p x : Tmp} {g off : Nat} {old : Array Value} {z : Int} (hs : isStore ops[i]? t p x = true) {K : Act → World → Prop} {a : Act} {w : World}
    (hp : a.tmps.getD p undef = .pointer (some ⟨g, off, none⟩)) (hx : a.tmps.getD x undef = .int .i64 z) (hg : Blk w g t' old) (hi : (P.info? t).map (·.size) = some 1) (ho : off < old.size) (hE : E i = true → ¬ S g)
    (h : K a (w.setCell ⟨g, off, none⟩ (.int .i64 z))) : opR P ops S E i K a w := by
  unfold isStore at hs
  split at hs
  · rename_i t1 p1 x1 ty pos aft heq
    simp only [Bool.and_eq_true, beq_iff_eq] at hs
    obtain ⟨⟨rfl, rfl⟩, rfl⟩ := hs
    refine opR_of heq rfl ?_
    rw [exec_store_cell (P := P) (o := ⟨none, .store t1 (.tmp p1) (.tmp x1), ty, pos, aft, none⟩) rfl (e := a.eval) (w := w) hp hx hg hi ho]
    exact ⟨fun he => kept_setCell (hE he), h⟩
  · cases hs
theorem opR_value {i : Nat} {o : Oper} (h : ops[i]? = some o) (hg : o.guard = none) {q : Tmp} (hd : o.dst = some q) {v : Value} {K : Act → World → Prop} {a : Act} {w : World} (hrun : (execOp a.eval o).run P w = .ok (.value v) w) (hK : K (a.put (some q) v) w) : opR P ops S E i K a w := by
  refine opR_of h hg ?_
  rw [hrun]
  unfold uponR
  rw [hd]
  exact ⟨fun _ => Kept.refl _ _, hK⟩

/-- Two numbers are stored into a block that is known whole, the second one's address reckoned ahead of or behind the first store. -/
theorem anyR_sets2 {Q : Act → World → Prop} {listed : Array Bool} {a : Act} {w : World} (i m k : Nat) (t t' : TypeId) (p x p' x' : Tmp) (g off off' : Nat) (old new : Array Value) (z z' : Int)
    (hr : Region.ready md ops listed = [i, m]) (hr1 : Region.ready md ops (listed.setIfInBounds i true) = [m]) (hr2 : Region.ready md ops (listed.setIfInBounds m true) = [i]) (hr3 : Region.ready md ops ((listed.setIfInBounds i true).setIfInBounds m true) = [k])
    (hr4 : Region.ready md ops (((listed.setIfInBounds i true).setIfInBounds m true).setIfInBounds k true) = []) (him : i ≠ m) (hs : isStore ops[i]? t p x = true) (hs' : isStore ops[k]? t p' x' = true)
    {om : Oper} (hom : ops[m]? = some om) (hgm : om.guard = none) (hdm : om.dst = some p') (hrun : ∀ w, (execOp a.eval om).run P w = .ok (.value (.pointer (some ⟨g, off', none⟩))) w)
    (hp : a.tmps.getD p undef = .pointer (some ⟨g, off, none⟩)) (hx : a.tmps.getD x undef = .int .i64 z) (hx' : a.tmps.getD x' undef = .int .i64 z') (hpp : p' ≠ p) (hpx : p' ≠ x) (hpx' : p' ≠ x') (hsz : p' < a.tmps.size)
    (hg : Blk w g t' old) (hi : (P.info? t).map (·.size) = some 1) (ho : off < old.size) (ho' : off' < old.size) (hnew : (old.setIfInBounds off (.int .i64 z)).setIfInBounds off' (.int .i64 z') = new) (hE : E i = true → ¬ S g) (hE' : E k = true → ¬ S g)
    (h : ∀ w', w.grownBy w' (some g) → Blk w' g t' new → Q (a.put (some p') (.pointer (some ⟨g, off', none⟩))) w') : anyR P md ops S E Q 3 listed a w := by
  subst hnew
  have last : ∀ w2, w.grownBy w2 (some g) → Blk w2 g t' (old.setIfInBounds off (.int .i64 z)) → anyR P md ops S E Q 1 ((listed.setIfInBounds i true).setIfInBounds m true) (a.put (some p') (.pointer (some ⟨g, off', none⟩))) w2 := fun w2 g2 b2 => by
    refine anyR_one k _ hr3 (beq_self_eq_true _) fun w3 l3 => ?_
    refine opR_set1 hs' (getD_put hsz) (by rw [getD_put_ne hpx']; exact hx') (blk_later b2 l3) hi (by simpa using ho') hE' ?_
    refine anyR_done hr4 fun w4 l4 => ?_
    have g3 : w.grownBy (w3.setCell ⟨g, off', none⟩ (.int .i64 z')) (some g) := by
      have e := grown_setCell w3 g off' (.int .i64 z')
      have f := later_grown g2 l3
      exact ⟨e.os.trans f.os, e.tape.trans f.tape, e.output.trans f.output, Nat.le_trans f.size e.size, fun j hj hne => (e.block j (Nat.lt_of_lt_of_le hj f.size) hne).trans (f.block j hj hne)⟩
    exact h _ (later_grown g3 l4) (blk_later ((blk_later b2 l3).set_ off' _) l4)
  refine anyR_two hr (fun w1 l1 => ?_) (fun w1 l1 => ?_)
  · refine opR_set1 hs hp hx (blk_later hg l1) hi ho hE ?_
    refine anyR_one m _ hr1 (beq_self_eq_true _) fun w2 l2 => ?_
    refine opR_value hom hgm hdm (hrun w2) ?_
    exact last w2 (later_grown (grown_later l1 (grown_setCell w1 g off _)) l2) (blk_later ((blk_later hg l1).set_ off _) l2)
  · refine opR_value hom hgm hdm (hrun w1) ?_
    refine anyR_one i _ hr2 (beq_self_eq_true _) fun w2 l2 => ?_
    refine opR_set1 hs (by rw [getD_put_ne hpp]; exact hp) (by rw [getD_put_ne hpx]; exact hx) (blk_later hg (l1.trans l2)) hi ho hE ?_
    rw [Array.setIfInBounds_comm _ _ (Ne.symm him)]
    exact last _ (grown_later (l1.trans l2) (grown_setCell w2 g off _)) ((blk_later hg (l1.trans l2)).set_ off _)
end
end Go.Proofs.Ytiggefmckomilaa
namespace Go.Proofs.Ytiggefmckomilaa
open Go Go.RowKit

/-- Each operation ahead of `n` has a follower up to `n`. -/
def headB (md : Region.Mode) (ops : Array Oper) (n : Nat) : Bool := (List.range n).all fun i => (List.range (n + 1)).any fun j => decide (i < j) && waitsFor md ops j i
section
variable {P : Program} {md : Region.Mode} {ops : Array Oper} {S : Nat → Prop} {E : Nat → Bool} {w0 : World}
theorem anyR_firstX {Q : Act → World → Prop} {n i : Nat} {oi : Oper} {v : Value} (hi : ops[i]? = some oi) (hsel : ∀ (j : Nat) (o : Oper) cs b, ops[j]? = some o → o.op ≠ .select cs b) (hS : ∀ k, S k → k < w0.heap.size)
    (hE : ∀ j, j ≠ n → E j = true) (hnn : n < ops.size) (hs : headB md ops n = true) :
    ∀ (fuel : Nat) (listed : Array Bool) (a : Act) (w : World), (i < n ∨ listed.getD n false = true) → Closed md ops listed →
      (∀ j oj, ops[j]? = some oj → j ≠ i → listed.getD j true = false → (∀ e ∈ oj.after, Region.binds md e = true → e.on ≠ i) → oi.apart ops oj = true) →
      i ∈ Region.ready md ops listed → Kept S w0 w → QuietAt P ops S w0 oi v a →
      anyR P md ops S E Q fuel (listed.setIfInBounds i true) (a.put oi.dst v) w → anyR P md ops S E Q (fuel + 1) listed a w := by
  intro fuel
  induction fuel with
  | zero =>
    intro listed a w _ _ _ hr hw hy H
    refine ⟨fun h => (by rw [h] at hr; cases hr), fun j hj w1 h1 => ?_⟩
    have hw1 : Kept S w0 w1 := kept_later hS hw h1
    by_cases hji : j = i
    · subst hji; exact opR_quiet hi hS hw1 hy fun w2 h2 => anyR_up H (h1.trans h2)
    · have := ready_mono hj hji
      rw [H.1] at this
      cases this
  | succ fuel ih =>
    intro listed a w hin hcl hfree hr hw hy H
    refine ⟨fun h => (by rw [h] at hr; cases hr), fun j hj w1 h1 => ?_⟩
    have hw1 : Kept S w0 w1 := kept_later hS hw h1
    by_cases hji : j = i
    · subst hji; exact opR_quiet hi hS hw1 hy fun w2 h2 => anyR_up H (h1.trans h2)
    · have hst := H.2 j (ready_mono hj hji) w1 h1
      obtain ⟨hjun, oj, hoj, hall⟩ := mem_ready.1 hj
      have hnot : ∀ e ∈ oj.after, Region.binds md e = true → e.on ≠ i := fun e he hb heq => by
        have h1 := hall e he hb
        have h0 := (mem_ready.1 hr).1
        rw [heq] at h1
        rcases Nat.lt_or_ge i listed.size with h' | h'
        · simp [h'] at h0 h1; rw [h0] at h1; cases h1
        · simp [Array.getElem?_eq_none h'] at h1
      have hEj : E j = true := hE j fun e => by
        subst e
        rcases hin with h | h
        · exact (late_head hcl hs hnn _ i rfl h (mem_ready.1 hr).1).1 hj
        · rw [getD_ff hjun] at h
          cases h
      have h2 := opR_put hoj (hfree j oj hoj hji hjun hnot) (fun cs b => hsel i oi cs b hi) (fun cs b => hsel j oj cs b hoj) hy hst
      have hfree' : ∀ k ok, ops[k]? = some ok → k ≠ i → (listed.setIfInBounds j true).getD k true = false →
          (∀ e ∈ ok.after, Region.binds md e = true → e.on ≠ i) → oi.apart ops ok = true := fun k ok hk hki hun hno => by
        refine hfree k ok hk hki ?_ hno
        by_cases hjk : j = k
        · subst hjk; exact hjun
        · rw [getD_set_ne true hjk] at hun; exact hun
      refine opR_mono (fun a' w' hb h3 => ih (listed.setIfInBounds j true) a' w' (hin.imp id fun h => getD_set_true h) (hcl.set hj) hfree' (ready_mono hr (Ne.symm hji)) (hw1.trans (hb hEj)) h3.1 ?_) h2
      rw [Array.setIfInBounds_comm _ _ hji]
      exact h3.2

def peelX (md : Region.Mode) (ops : Array Oper) (n : Nat) : List Bool → Nat → Array Bool → Array Bool → Bool
  | [], _, listed, after => listed == after
  | true :: m, k, listed, after => (decide (k < n) || listed.getD n false) && (Region.ready md ops listed).contains k && Region.free md ops listed k && peelX md ops n m (k + 1) (listed.setIfInBounds k true) after
  | false :: m, k, listed, after => peelX md ops n m (k + 1) listed after
theorem anyR_peel_goX {Q : Act → World → Prop} {n : Nat} (hE : ∀ j, j ≠ n → E j = true) (hnn : n < ops.size) (hhs : headB md ops n = true) (hs : Region.noSelect ops = true) (hS : ∀ k, S k → k < w0.heap.size)
    {af : Act} {fuel : Nat} {after : Array Bool} {w : World} (hw : Kept S w0 w) :
    ∀ (m : List Bool) (l : List Oper) (k : Nat) (listed : Array Bool) (a : Act), Closed md ops listed → (∀ j, l[j]? = ops[k + j]?) → peelX md ops n m k listed after = true → dstB (takeOps m l) = true →
      (∀ D, Good S w0 D → wpQuiet P ops (cls D) (fun a' => a' = af) (takeOps m l) a) → anyR P md ops S E Q fuel after af w → anyR P md ops S E Q ((takeOps m l).length + fuel) listed a w
  | [], l, k, listed, a, _, _, hp, _, hq, h => by
    have hl : listed = after := by simpa [peelX] using hp
    have ha : a = af := by
      have := hq (Kept S w0) ⟨fun _ h => h, fun _ _ h h' => kept_later hS h h', w0, Kept.refl _ _⟩
      simpa [takeOps, wpQuiet] using this
    subst hl
    subst ha
    simpa [takeOps] using h
  | false :: m, [], k, listed, a, hcl, hl, hp, hd, hq, h => by
    have e2 : takeOps m [] = [] := by cases m with | nil => rfl | cons b m => cases b <;> rfl
    have r := anyR_peel_goX hE hnn hhs hs hS hw m [] (k + 1) listed a hcl (fun j => by have := hl (j + 1); simpa [Nat.add_assoc, Nat.add_comm 1 j] using this) (by simpa [peelX] using hp) (by rw [e2]; rfl) (fun D hD => by rw [e2]; exact hq D hD) h
    rw [e2] at r
    exact r
  | false :: m, o :: l, k, listed, a, hcl, hl, hp, hd, hq, h =>
    anyR_peel_goX hE hnn hhs hs hS hw m l (k + 1) listed a hcl (fun j => by have := hl (j + 1); simpa [Nat.add_assoc, Nat.add_comm 1 j] using this) (by simpa [peelX] using hp) hd hq h
  | true :: m, [], k, listed, a, _, hl, hp, _, _, _ => by
    simp only [peelX, Bool.and_eq_true] at hp
    have hr : k ∈ Region.ready md ops listed := by simpa using hp.1.1.2
    obtain ⟨_, o, ho, _⟩ := mem_ready.1 hr
    have := hl 0
    simp [ho] at this
  | true :: m, o :: l, k, listed, a, hcl, hl, hp, hd, hq, h => by
    have h0 : ops[k]? = some o := by simpa using (hl 0).symm
    simp only [peelX, Bool.and_eq_true, Bool.or_eq_true, decide_eq_true_eq] at hp
    obtain ⟨⟨⟨hkn, hr⟩, hf⟩, hp'⟩ := hp
    have hr' : k ∈ Region.ready md ops listed := by simpa using hr
    simp only [takeOps, dstB, Bool.and_eq_true, List.all_eq_true] at hd
    have step : ∀ D, Good S w0 D → ∃ v, YieldsIn P ops D o v a ∧ wpQuiet P ops (cls D) (fun a' => a' = af) (takeOps m l) (a.put o.dst v) := fun D hD => by
      have := hq D hD
      have hk : qOp P ops (cls D) k (wpQuiet P ops (cls D) (fun a' => a' = af) (takeOps m l)) a := by unfold qOp; simp only [h0]; exact this
      obtain ⟨v, hy, hn⟩ := yieldsIn_of_qOp h0 hk
      rw [cls_eq] at hy
      exact ⟨v, hy, hn⟩
    obtain ⟨v, _, hn0⟩ := step (Kept S w0) ⟨fun _ h => h, fun _ _ h h' => kept_later hS h h', w0, Kept.refl _ _⟩
    have same : ∀ D, Good S w0 D → ∀ u, wpQuiet P ops (cls D) (fun a' => a' = af) (takeOps m l) (a.put o.dst u) → a.put o.dst u = a.put o.dst v := fun D _ u hu => by
      cases ho : o.dst with
      | none => rfl
      | some d =>
        rw [ho] at hu hn0
        have hne : ∀ o' ∈ takeOps m l, o'.dst ≠ some d := fun o' ho' => by
          have := hd.1 o' ho'
          simpa [ho] using this
        exact put_slot ((final_slot _ _ hne hu).symm.trans (final_slot _ _ hne hn0))
    have hqa : QuietAt P ops S w0 o v a := fun D hD => by
      obtain ⟨u, hy, hn⟩ := step D hD
      exact ⟨u, hy, same D hD u hn⟩
    have rest := anyR_peel_goX hE hnn hhs hs hS hw m l (k + 1) (listed.setIfInBounds k true) (a.put o.dst v) (hcl.set hr') (fun j => by have := hl (j + 1); simpa [Nat.add_assoc, Nat.add_comm 1 j] using this) hp' hd.2 (fun D hD => by
      obtain ⟨u, _, hn⟩ := step D hD
      rw [← same D hD u hn]; exact hn) h
    have e : (takeOps (true :: m) (o :: l)).length + fuel = (takeOps m l).length + fuel + 1 := by simp [takeOps]; omega
    rw [e]
    exact anyR_firstX h0 (Region.noSelect_spec hs) hS hE hnn hhs _ listed a w hkn hcl (Region.free_spec h0 hf) hr' hw hqa rest

theorem anyR_peelX {Q : Act → World → Prop} {lops : List Oper} {listed a af w fuel len} (n : Nat) (m : List Bool) (after : Array Bool)
    (hE : ∀ j, j ≠ n → E j = true) (hb : (decide (n < lops.length) && headB md lops.toArray n && Region.noSelect lops.toArray && closedB md lops.toArray listed && peelX md lops.toArray n m 0 listed after && dstB (takeOps m lops)) = true) (hn : len = (takeOps m lops).length + fuel)
    (hS : ∀ k, S k → k < w.heap.size)
    (hq : ∀ D, Good S w D → wpQuiet P lops.toArray (fun w' => ∃ x : Of D, w' = x.val) (fun a' => a' = af) (takeOps m lops) a) (h : anyR P md lops.toArray S E Q fuel after af w) : anyR P md lops.toArray S E Q len listed a w := by
  simp only [Bool.and_eq_true] at hb
  simp only [decide_eq_true_eq] at hb
  obtain ⟨⟨⟨⟨⟨hnn, hhs⟩, hs⟩, hc⟩, hp⟩, hd⟩ := hb
  rw [hn]
  exact anyR_peel_goX hE (by simpa using hnn) hhs hs hS (Kept.refl _ _) m lops 0 listed a (closed_of hc) (by simp) hp hd hq h


end
section
variable {P : Program} {md : Region.Mode} {ops : Array Oper} {S : Nat → Prop} {E : Nat → Bool}
/-- The one operation that can come up is a call; what it does is told by its contract. -/
theorem anyR_callX {Q : Act → World → Prop} {f n : Nat} {listed : Array Bool} {a : Act} {w : World} (i : Nat) (after : Array Bool) (hr : Region.ready md ops listed = [i]) (he : (listed.setIfInBounds i true == after) = true) (hn : n = f + 1)
    {oi : Oper} (h : ops[i]? = some oi) {p : Tmp} (hd : oi.dst = some p) (hw : Region.wanted oi (yielded ops a.tmps) = true) (g : FuncId) (args : Array Value)
    (hrun : ∀ w, (execOp a.eval oi).run P w = .ok (.enter g args) w) (hE : E i = false)
    (hc : ∀ w1, Later w w1 → Calls P g args w1 fun e w2 => ∃ v, e = .returned v ∧ anyR P md ops S E Q f after (a.put (some p) v) w2) : anyR P md ops S E Q n listed a w := by
  subst hn
  refine anyR_one i after hr he fun w1 l1 => ?_
  unfold opR
  simp only [h, hw, if_true, hrun, uponR]
  refine (hc w1 l1).mono ?_
  rintro e w2 ⟨v, rfl, hk⟩
  exact ⟨v, rfl, fun h => absurd (hE.symm.trans h) (by simp), by rw [hd]; exact hk⟩
end
end Go.Proofs.Ytiggefmckomilaa
