/-
  Regions that draw their order, with a set of kept blocks for each operation: an operation may turn a block that others read, if each of these comes ahead of it.
  Regions that draw their order, in which calls may turn old memory, each its own.
-/
import Derived.Test.YtepgpihobmjbdaaGreatRegionFree
set_option linter.unusedSimpArgs false
set_option linter.unusedVariables false
section
namespace Go.Proofs.YtepgpihobmjbdaaGreat
open Go Go.RowKit
section
variable {P : Program} {md : Region.Mode} {ops : Array Oper} {S T : Nat → Prop} {E : Nat → Bool} {R : Nat → Nat → Prop} {w0 : World}
theorem kept_less {S T : Nat → Prop} {a b : World} (h : ∀ k, T k → S k) (k : Kept S a b) : Kept T a b := ⟨k.os, k.tape, k.output, k.size, fun i hi => k.block i (h i hi)⟩
theorem opR_putT {j : Nat} {oi oj : Oper} {v : Value} (hj : ops[j]? = some oj) (hap : oi.apart ops oj = true) (hsi : ∀ cs b, oi.op ≠ .select cs b) (hsj : ∀ cs b, oj.op ≠ .select cs b)
  {K : Act → World → Prop} {a : Act} {w1 : World} (hy : QuietAt P ops T w0 oi v a) (h : opR P ops S E j K (a.put oi.dst v) w1) :
  opR P ops S E j (fun a' w' => QuietAt P ops T w0 oi v a' ∧ K (a'.put oi.dst v) w') a w1 := by
 obtain ⟨h1, h2, _⟩ := Oper.apart_spec hap
 unfold opR at *
 simp only [hj] at *
 rw [wanted_put oj a oi.dst v h1, execOp_put oj hsj a oi.dst v h1] at h
 split
 ·
  rename_i hw
  simp only [hw, if_true] at h
  generalize (execOp a.eval oj).run P w1 = r at *
  cases r with
  | ok n w' =>
   cases n <;> simp only [uponR] at h ⊢
   case value u => exact ⟨h.1, hy.keep hap hsi, by rw [← Act.put_comm a v u h2]; exact h.2⟩
   case skip => exact ⟨h.1, hy.keep hap hsi, by rw [← Act.put_comm a v undef h2]; exact h.2⟩
   case enter f args => exact h.mono fun e w'' ⟨u, he, hb, hk⟩ => ⟨u, he, hb, hy.keep hap hsi, by rw [← Act.put_comm a v u h2]; exact hk⟩
  | halt x w' => simp only [uponR] at h
 ·
  rename_i hw
  simp only [hw] at h
  exact ⟨hy.keep hap hsi, by rw [← Act.put_comm a v undef h2]; exact h⟩
theorem opR_quietT {i : Nat} {oi : Oper} {v : Value} (hi : ops[i]? = some oi) (hT : ∀ k, T k → k < w0.heap.size) (hS : ∀ k, S k → k < w0.heap.size) {K : Act → World → Prop} {a : Act} {w1 : World} (hw1 : Kept T w0 w1) (hy : QuietAt P ops T w0 oi v a)
  (hK : ∀ w2, Later w1 w2 → K (a.put oi.dst v) w2) : opR P ops S E i K a w1 := by
 have hS1 : ∀ k, S k → k < w1.heap.size := fun k hk => Nat.lt_of_lt_of_le (hS k hk) hw1.size
 have hT1 : ∀ k, T k → k < w1.heap.size := fun k hk => Nat.lt_of_lt_of_le (hT k hk) hw1.size
 obtain ⟨u, hyu, he⟩ := hy (Later w1) ⟨fun w h => hw1.trans (Kept.of_later hT1 h), fun _ _ h h' => h.trans h', w1, Later.refl w1⟩
 unfold opR
 simp only [hi]
 rcases hyu with ⟨hw, hq⟩ | ⟨hw, hu⟩
 ·
  simp only [hw, if_true]
  have hq := hq w1 (Later.refl w1)
  unfold Oper.quietAt at hq
  generalize (execOp a.eval oi).run P w1 = r at *
  cases r with
  | ok n w' =>
   cases n <;> simp only [Oper.quietUpon] at hq <;> simp only [uponR]
   case value x => obtain ⟨e1, e2⟩ := hq; subst e1; subst e2; exact ⟨fun _ => Kept.refl _ _, by rw [he]; exact hK _ (Later.refl _)⟩
   case skip => obtain ⟨e1, e2⟩ := hq; subst e1; subst e2; exact ⟨fun _ => Kept.refl _ _, by rw [he]; exact hK _ (Later.refl _)⟩
   case enter f args =>
    obtain ⟨e1, hc⟩ := hq
    subst e1
    exact hc.mono fun e w'' ⟨h1, h2⟩ => ⟨u, h1, fun _ => Kept.of_later hS1 h2, by rw [he]; exact hK _ h2⟩
  | halt x w' => simp only [Oper.quietUpon] at hq
 ·
  simp only [hw]
  subst hu
  rw [he]
  exact hK _ (Later.refl _)
def anyG (P : Program) (md : Region.Mode) (ops : Array Oper) (R : Nat → Nat → Prop) (Q : Act → World → Prop) : Nat → Array Bool → Act → World → Prop
 | 0, listed, a, w => Region.ready md ops listed = [] ∧ ∀ w1, Later w w1 → Q a w1
 | f + 1, listed, a, w => (Region.ready md ops listed = [] → ∀ w1, Later w w1 → Q a w1) ∧
  ∀ i ∈ Region.ready md ops listed, ∀ w1, Later w w1 → opR P ops (R i) (fun _ => true) i (anyG P md ops R Q f (listed.setIfInBounds i true)) a w1
theorem anyG_up {Q : Act → World → Prop} {f : Nat} {listed : Array Bool} {a : Act} {w w' : World} (h : anyG P md ops R Q f listed a w) (hl : Later w w') : anyG P md ops R Q f listed a w' := by
 cases f with
 | zero => exact ⟨h.1, fun w1 h1 => h.2 w1 (hl.trans h1)⟩
 | succ f => exact ⟨fun hr w1 h1 => h.1 hr w1 (hl.trans h1), fun i hi w1 h1 => h.2 i hi w1 (hl.trans h1)⟩
theorem wpAny_of_anyG {Q : Exit → Act → World → Prop} : ∀ (f : Nat) (listed : Array Bool) (a : Act) (w : World), anyG P md ops R (fun a w => Q .normal a w) f listed a w → wpAny P md ops Q f listed a w
 | 0, _, _, w, h => ⟨h.1, h.2 w (Later.refl w)⟩
 | f + 1, _, _, w, h => ⟨fun hr => h.1 hr w (Later.refl w), fun i hi => wpOp_of_opR (fun a' w' hk => wpAny_of_anyG f _ a' w' hk) (h.2 i hi w (Later.refl w))⟩
theorem anyG_done {Q : Act → World → Prop} {f : Nat} {listed : Array Bool} {a : Act} {w : World} (hr : Region.ready md ops listed = []) (h : ∀ w1, Later w w1 → Q a w1) : anyG P md ops R Q f listed a w := by
 cases f with
 | zero => exact ⟨hr, h⟩
 | succ f => exact ⟨fun _ => h, fun i hi => by rw [hr] at hi; cases hi⟩
theorem anyG_one {Q : Act → World → Prop} {f : Nat} {listed : Array Bool} {a : Act} {w : World} (i : Nat) (after : Array Bool) (hr : Region.ready md ops listed = [i]) (he : (listed.setIfInBounds i true == after) = true)
  (h : ∀ w1, Later w w1 → opR P ops (R i) (fun _ => true) i (anyG P md ops R Q f after) a w1) : anyG P md ops R Q (f + 1) listed a w := by
 have he' : listed.setIfInBounds i true = after := by simpa using he
 subst he'
 refine ⟨fun h0 => ?_, fun j hj => ?_⟩
 · rw [hr] at h0; cases h0
 ·
  rw [hr] at hj
  have hji : j = i := by simpa using hj
  subst hji
  exact h
theorem anyG_first {Q : Act → World → Prop} {i : Nat} {oi : Oper} {v : Value} (hi : ops[i]? = some oi) (hsel : ∀ (j : Nat) (o : Oper) cs b, ops[j]? = some o → o.op ≠ .select cs b) (hT : ∀ k, T k → k < w0.heap.size) (hR : ∀ j k, R j k → k < w0.heap.size)
  (hlate : ∀ j, j < ops.size → (∀ k, T k → R j k) ∨ waitsFor md ops j i = true) :
  ∀ (fuel : Nat) (listed : Array Bool) (a : Act) (w : World), Closed md ops listed →
   (∀ j oj, ops[j]? = some oj → j ≠ i → listed.getD j true = false → (∀ e ∈ oj.after, Region.binds md e = true → e.on ≠ i) → oi.apart ops oj = true) →
   i ∈ Region.ready md ops listed → Kept T w0 w → QuietAt P ops T w0 oi v a →
   anyG P md ops R Q fuel (listed.setIfInBounds i true) (a.put oi.dst v) w → anyG P md ops R Q (fuel + 1) listed a w := by
 intro fuel
 induction fuel with
 | zero =>
  intro listed a w _ _ hr hw hy H
  refine ⟨fun h => (by rw [h] at hr; cases hr), fun j hj w1 h1 => ?_⟩
  have hw1 : Kept T w0 w1 := kept_later hT hw h1
  by_cases hji : j = i
  · subst hji; exact opR_quietT hi hT (hR _) hw1 hy fun w2 h2 => anyG_up H (h1.trans h2)
  ·
   have := ready_mono hj hji
   rw [H.1] at this
   cases this
 | succ fuel ih =>
  intro listed a w hcl hfree hr hw hy H
  refine ⟨fun h => (by rw [h] at hr; cases hr), fun j hj w1 h1 => ?_⟩
  have hw1 : Kept T w0 w1 := kept_later hT hw h1
  by_cases hji : j = i
  · subst hji; exact opR_quietT hi hT (hR _) hw1 hy fun w2 h2 => anyG_up H (h1.trans h2)
  ·
   have hst := H.2 j (ready_mono hj hji) w1 h1
   obtain ⟨hjun, oj, hoj, hall⟩ := mem_ready.1 hj
   have hnot : ∀ e ∈ oj.after, Region.binds md e = true → e.on ≠ i := fun e he hb heq => by
    have h1 := hall e he hb
    have h0 := (mem_ready.1 hr).1
    rw [heq] at h1
    rcases Nat.lt_or_ge i listed.size with h' | h'
    · simp [h'] at h0 h1; rw [h0] at h1; cases h1
    · simp [Array.getElem?_eq_none h'] at h1
   have hEj : ∀ k, T k → R j k := by
    rcases hlate j (Array.getElem?_eq_some_iff.1 hoj).1 with h | h
    · exact h
    ·
     obtain ⟨o, ho, e, he, hb, hon⟩ := waits_spec h
     have : o = oj := Option.some.inj (ho.symm.trans hoj)
     subst this
     exact absurd hon (hnot e he hb)
   have h2 := opR_putT hoj (hfree j oj hoj hji hjun hnot) (fun cs b => hsel i oi cs b hi) (fun cs b => hsel j oj cs b hoj) hy hst
   have hfree' : ∀ k ok, ops[k]? = some ok → k ≠ i → (listed.setIfInBounds j true).getD k true = false →
     (∀ e ∈ ok.after, Region.binds md e = true → e.on ≠ i) → oi.apart ops ok = true := fun k ok hk hki hun hno => by
    refine hfree k ok hk hki ?_ hno
    by_cases hjk : j = k
    · subst hjk; exact hjun
    · rw [getD_set_ne true hjk] at hun; exact hun
   refine opR_mono (fun a' w' hb h3 => ih (listed.setIfInBounds j true) a' w' (hcl.set hj) hfree' (ready_mono hr (Ne.symm hji)) (hw1.trans (kept_less hEj (hb rfl))) h3.1 ?_) h2
   rw [Array.setIfInBounds_comm _ _ hji]
   exact h3.2
theorem anyG_peel_go {Q : Act → World → Prop} (hs : Region.noSelect ops = true) (hT : ∀ k, T k → k < w0.heap.size) (hR : ∀ j k, R j k → k < w0.heap.size) (G : Nat → Bool) (hG : ∀ j, G j = true → ∀ k, T k → R j k)
  {af : Act} {fuel : Nat} {after : Array Bool} {w : World} (hw : Kept T w0 w) :
  ∀ (m : List Bool) (l : List Oper) (k : Nat) (listed : Array Bool) (a : Act), Closed md ops listed → (∀ j, l[j]? = ops[k + j]?) → peelE md ops G m k listed after = true → dstB (takeOps m l) = true →
   (∀ D, Good T w0 D → wpQuiet P ops (cls D) (fun a' => a' = af) (takeOps m l) a) → anyG P md ops R Q fuel after af w → anyG P md ops R Q ((takeOps m l).length + fuel) listed a w
 | [], l, k, listed, a, _, _, hp, _, hq, h => by
  have hl : listed = after := by simpa [peelE] using hp
  have ha : a = af := by
   have := hq (Kept T w0) ⟨fun _ h => h, fun _ _ h h' => kept_later hT h h', w0, Kept.refl _ _⟩
   simpa [takeOps, wpQuiet] using this
  subst hl
  subst ha
  simpa [takeOps] using h
 | false :: m, [], k, listed, a, hcl, hl, hp, hd, hq, h => by
  have e2 : takeOps m [] = [] := by cases m with | nil => rfl | cons b m => cases b <;> rfl
  have r := anyG_peel_go hs hT hR G hG hw m [] (k + 1) listed a hcl (fun j => by have := hl (j + 1); simpa [Nat.add_assoc, Nat.add_comm 1 j] using this) (by simpa [peelE] using hp) (by rw [e2]; rfl) (fun D hD => by rw [e2]; exact hq D hD) h
  rw [e2] at r
  exact r
 | false :: m, o :: l, k, listed, a, hcl, hl, hp, hd, hq, h =>
  anyG_peel_go hs hT hR G hG hw m l (k + 1) listed a hcl (fun j => by have := hl (j + 1); simpa [Nat.add_assoc, Nat.add_comm 1 j] using this) (by simpa [peelE] using hp) hd hq h
 | true :: m, [], k, listed, a, _, hl, hp, _, _, _ => by
  simp only [peelE, Bool.and_eq_true] at hp
  have hr : k ∈ Region.ready md ops listed := by simpa using hp.1.1.2
  obtain ⟨_, o, ho, _⟩ := mem_ready.1 hr
  have := hl 0
  simp [ho] at this
 | true :: m, o :: l, k, listed, a, hcl, hl, hp, hd, hq, h => by
  have h0 : ops[k]? = some o := by simpa using (hl 0).symm
  simp only [peelE, Bool.and_eq_true, List.all_eq_true, List.mem_range, Bool.or_eq_true] at hp
  obtain ⟨⟨⟨hkn, hr⟩, hf⟩, hp'⟩ := hp
  have hr' : k ∈ Region.ready md ops listed := by simpa using hr
  simp only [takeOps, dstB, Bool.and_eq_true, List.all_eq_true] at hd
  have step : ∀ D, Good T w0 D → ∃ v, YieldsIn P ops D o v a ∧ wpQuiet P ops (cls D) (fun a' => a' = af) (takeOps m l) (a.put o.dst v) := fun D hD => by
   have := hq D hD
   have hk : qOp P ops (cls D) k (wpQuiet P ops (cls D) (fun a' => a' = af) (takeOps m l)) a := by unfold qOp; simp only [h0]; exact this
   obtain ⟨v, hy, hn⟩ := yieldsIn_of_qOp h0 hk
   rw [cls_eq] at hy
   exact ⟨v, hy, hn⟩
  obtain ⟨v, _, hn0⟩ := step (Kept T w0) ⟨fun _ h => h, fun _ _ h h' => kept_later hT h h', w0, Kept.refl _ _⟩
  have same : ∀ D, Good T w0 D → ∀ u, wpQuiet P ops (cls D) (fun a' => a' = af) (takeOps m l) (a.put o.dst u) → a.put o.dst u = a.put o.dst v := fun D _ u hu => by
   cases ho : o.dst with
   | none => rfl
   | some d =>
    rw [ho] at hu hn0
    have hne : ∀ o' ∈ takeOps m l, o'.dst ≠ some d := fun o' ho' => by
     have := hd.1 o' ho'
     simpa [ho] using this
    exact put_slot ((final_slot _ _ hne hu).symm.trans (final_slot _ _ hne hn0))
  have hqa : QuietAt P ops T w0 o v a := fun D hD => by
   obtain ⟨u, hy, hn⟩ := step D hD
   exact ⟨u, hy, same D hD u hn⟩
  have rest := anyG_peel_go hs hT hR G hG hw m l (k + 1) (listed.setIfInBounds k true) (a.put o.dst v) (hcl.set hr') (fun j => by have := hl (j + 1); simpa [Nat.add_assoc, Nat.add_comm 1 j] using this) hp' hd.2 (fun D hD => by
   obtain ⟨u, _, hn⟩ := step D hD
   rw [← same D hD u hn]; exact hn) h
  have e : (takeOps (true :: m) (o :: l)).length + fuel = (takeOps m l).length + fuel + 1 := by simp [takeOps]; omega
  rw [e]
  exact anyG_first h0 (Region.noSelect_spec hs) hT hR (fun j hj => (hkn j hj).imp (hG j) id) _ listed a w hcl (Region.free_spec h0 hf) hr' hw hqa rest
theorem anyG_peel {Q : Act → World → Prop} {lops : List Oper} {listed a af w fuel len} (T : Nat → Prop) (G : Nat → Bool) (m : List Bool) (after : Array Bool)
  (hb : (Region.noSelect lops.toArray && closedB md lops.toArray listed && peelE md lops.toArray G m 0 listed after && dstB (takeOps m lops)) = true) (hn : len = (takeOps m lops).length + fuel)
  (hT : ∀ k, T k → k < w.heap.size) (hR : ∀ j k, R j k → k < w.heap.size) (hG : ∀ j, G j = true → ∀ k, T k → R j k)
  (hq : ∀ D, Good T w D → wpQuiet P lops.toArray (fun w' => ∃ x : Of D, w' = x.val) (fun a' => a' = af) (takeOps m lops) a) (h : anyG P md lops.toArray R Q fuel after af w) : anyG P md lops.toArray R Q len listed a w := by
 simp only [Bool.and_eq_true] at hb
 obtain ⟨⟨⟨hs, hc⟩, hp⟩, hd⟩ := hb
 rw [hn]
 exact anyG_peel_go hs hT hR G hG (Kept.refl _ _) m lops 0 listed a (closed_of hc) (by simp) hp hd hq h
theorem wp_region_G {id : Nat} {Q : Exit → Act → World → Prop} {a : Act} {w : World} {lops : List Oper} (R : Nat → Nat → Prop) (hm : P.follows .mixedOrders = true)
  (h : anyG P .any lops.toArray R (fun a w => Q .normal a w) lops.length (Array.replicate lops.length false) a w) : (Code.region id lops.toArray true).wp P Q a w :=
 wp_region_any hm (wpAny_of_anyG _ _ _ _ (by
  have := anyG_up h (w' := w.drew) ⟨rfl, rfl, rfl, Nat.le_refl _, fun _ _ => rfl⟩
  simpa using this))
theorem anyG_sets {Q : Act → World → Prop} {listed : Array Bool} {a : Act} {w : World} (i m k : Nat) (t t' : TypeId) (p x p' x' : Tmp) (g off off' : Nat) (old new : Array Value) (z z' : Int)
  (hr : Region.ready md ops listed = [i]) (hr1 : Region.ready md ops (listed.setIfInBounds i true) = [m]) (hr3 : Region.ready md ops ((listed.setIfInBounds i true).setIfInBounds m true) = [k])
  (hr4 : Region.ready md ops (((listed.setIfInBounds i true).setIfInBounds m true).setIfInBounds k true) = []) (hs : isStore ops[i]? t p x = true) (hs' : isStore ops[k]? t p' x' = true)
  {om : Oper} (hom : ops[m]? = some om) (hgm : om.guard = none) (hdm : om.dst = some p') (hrun : ∀ w, (execOp a.eval om).run P w = .ok (.value (.pointer (some ⟨g, off', none⟩))) w)
  (hp : a.tmps.getD p undef = .pointer (some ⟨g, off, none⟩)) (hx : a.tmps.getD x undef = .int .i64 z) (hx' : a.tmps.getD x' undef = .int .i64 z') (hpx' : p' ≠ x') (hsz : p' < a.tmps.size)
  (hg : Blk w g t' old) (hi : (P.info? t).map (·.size) = some 1) (ho : off < old.size) (ho' : off' < old.size) (hnew : (old.setIfInBounds off (.int .i64 z)).setIfInBounds off' (.int .i64 z') = new) (hE : ¬ R i g) (hE' : ¬ R k g)
  (h : ∀ w', w.grownBy w' (some g) → Blk w' g t' new → Q (a.put (some p') (.pointer (some ⟨g, off', none⟩))) w') : anyG P md ops R Q 3 listed a w := by
 subst hnew
 have last : ∀ w2, w.grownBy w2 (some g) → Blk w2 g t' (old.setIfInBounds off (.int .i64 z)) → anyG P md ops R Q 1 ((listed.setIfInBounds i true).setIfInBounds m true) (a.put (some p') (.pointer (some ⟨g, off', none⟩))) w2 := fun w2 g2 b2 => by
  refine anyG_one k _ hr3 (beq_self_eq_true _) fun w3 l3 => ?_
  refine opR_set1 hs' (getD_put hsz) (by rw [getD_put_ne hpx']; exact hx') (blk_later b2 l3) hi (by simpa using ho') (fun _ => hE') ?_
  refine anyG_done hr4 fun w4 l4 => ?_
  have g3 : w.grownBy (w3.setCell ⟨g, off', none⟩ (.int .i64 z')) (some g) := by
   have e := grown_setCell w3 g off' (.int .i64 z')
   have f := later_grown g2 l3
   exact ⟨e.os.trans f.os, e.tape.trans f.tape, e.output.trans f.output, Nat.le_trans f.size e.size, fun j hj hne => (e.block j (Nat.lt_of_lt_of_le hj f.size) hne).trans (f.block j hj hne)⟩
  exact h _ (later_grown g3 l4) (blk_later ((blk_later b2 l3).set_ off' _) l4)
 refine anyG_one i _ hr (beq_self_eq_true _) fun w1 l1 => ?_
 refine opR_set1 hs hp hx (blk_later hg l1) hi ho (fun _ => hE) ?_
 refine anyG_one m _ hr1 (beq_self_eq_true _) fun w2 l2 => ?_
 refine opR_value hom hgm hdm (hrun w2) ?_
 exact last w2 (later_grown (grown_later l1 (grown_setCell w1 g off _)) l2) (blk_later ((blk_later hg l1).set_ off _) l2)
end
end Go.Proofs.YtepgpihobmjbdaaGreat
end
section
namespace Go.Proofs.YtepgpihobmjbdaaGreat
open Go Go.RowKit
section
variable {P : Program} {lops : List Oper} {an : List (List Nat)} {m1 : List Bool} {st : List St} {w0 : World} {a0 : Act} {af : (Nat → Par) → Act} {shape : Nat → Par → Value} {wr : Nat → Nat → Prop} {R : Nat → (Nat → Par) → (Nat → Prop) → World → Prop} {s : St} {o : Oper}
end
end Go.Proofs.YtepgpihobmjbdaaGreat
end
