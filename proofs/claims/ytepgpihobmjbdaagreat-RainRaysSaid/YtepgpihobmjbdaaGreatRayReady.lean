/-
  Regions that draw their order, once more: which operations may turn old memory is said by a set; each of these must wait for every quiet operation that is taken ahead.
  Regions that draw their order, with a set of kept blocks for each operation: an operation may turn a block that others read, if each of these comes ahead of it.
  Factors: the reference's contract.
  Rates: rain's, and the reference's.
-/
import Derived.Test.YtepgpihobmjbdaaGreatRegP
import Derived.Test.YtepgpihobmjbdaaGreatRrNext
import Derived.Test.YtepgpihobmjbdaaGreatSectorMath
import Derived.Test.YtepgpihobmjbdaaGreatRrRefPlaces
import Derived.Test.YtepgpihobmjbdaaGreatRrRefBlocked
set_option linter.unusedSimpArgs false
set_option linter.unusedVariables false
namespace Go.Proofs.YtepgpihobmjbdaaGreat
open Go Go.RowKit
section
variable {P : Program} {md : Region.Mode} {ops : Array Oper} {S : Nat → Prop} {E : Nat → Bool} {w0 : World}
def peelE (md : Region.Mode) (ops : Array Oper) (E : Nat → Bool) : List Bool → Nat → Array Bool → Array Bool → Bool
  | [], _, listed, after => listed == after
  | true :: m, k, listed, after => ((List.range ops.size).all fun j => E j || waitsFor md ops j k) && (Region.ready md ops listed).contains k && Region.free md ops listed k && peelE md ops E m (k + 1) (listed.setIfInBounds k true) after
  | false :: m, k, listed, after => peelE md ops E m (k + 1) listed after
theorem opR_set1 {i : Nat} {t t' : TypeId} {p x : Tmp} {g off : Nat} {old : Array Value} {z : Int} (hs : isStore ops[i]? t p x = true) {K : Act → World → Prop} {a : Act} {w : World}
    (hp : a.tmps.getD p undef = .pointer (some ⟨g, off, none⟩)) (hx : a.tmps.getD x undef = .int .i64 z) (hg : Blk w g t' old) (hi : (P.info? t).map (·.size) = some 1) (ho : off < old.size) (hE : E i = true → ¬ S g)
    (h : K a (w.setCell ⟨g, off, none⟩ (.int .i64 z))) : opR P ops S E i K a w := by
  unfold isStore at hs
  split at hs
  · rename_i t1 p1 x1 ty pos aft heq
    simp only [Bool.and_eq_true, beq_iff_eq] at hs
    obtain ⟨⟨rfl, rfl⟩, rfl⟩ := hs
    refine opR_of heq rfl ?_
    rw [exec_store_cell (P := P) (o := ⟨none, .store t1 (.tmp p1) (.tmp x1), ty, pos, aft, none⟩) rfl (e := a.eval) (w := w) hp hx hg hi ho]
    exact ⟨fun he => kept_setCell (hE he), h⟩
  · cases hs
theorem opR_value {i : Nat} {o : Oper} (h : ops[i]? = some o) (hg : o.guard = none) {q : Tmp} (hd : o.dst = some q) {v : Value} {K : Act → World → Prop} {a : Act} {w : World} (hrun : (execOp a.eval o).run P w = .ok (.value v) w) (hK : K (a.put (some q) v) w) : opR P ops S E i K a w := by
  refine opR_of h hg ?_
  rw [hrun]
  unfold uponR
  rw [hd]
  exact ⟨fun _ => Kept.refl _ _, hK⟩

end
end Go.Proofs.YtepgpihobmjbdaaGreat
namespace Go.Proofs.YtepgpihobmjbdaaGreat
open Go Go.RowKit
section
variable {P : Program} {md : Region.Mode} {ops : Array Oper} {S T : Nat → Prop} {E : Nat → Bool} {R : Nat → Nat → Prop} {w0 : World}
theorem kept_less {S T : Nat → Prop} {a b : World} (h : ∀ k, T k → S k) (k : Kept S a b) : Kept T a b := ⟨k.os, k.tape, k.output, k.size, fun i hi => k.block i (h i hi)⟩
theorem opR_putT {j : Nat} {oi oj : Oper} {v : Value} (hj : ops[j]? = some oj) (hap : oi.apart ops oj = true) (hsi : ∀ cs b, oi.op ≠ .select cs b) (hsj : ∀ cs b, oj.op ≠ .select cs b)
    {K : Act → World → Prop} {a : Act} {w1 : World} (hy : QuietAt P ops T w0 oi v a) (h : opR P ops S E j K (a.put oi.dst v) w1) :
    opR P ops S E j (fun a' w' => QuietAt P ops T w0 oi v a' ∧ K (a'.put oi.dst v) w') a w1 := by
  obtain ⟨h1, h2, _⟩ := Oper.apart_spec hap
  unfold opR at *
  simp only [hj] at *
  rw [wanted_put oj a oi.dst v h1, execOp_put oj hsj a oi.dst v h1] at h
  split
  · rename_i hw
    simp only [hw, if_true] at h
    generalize (execOp a.eval oj).run P w1 = r at *
    cases r with
    | ok n w' =>
      cases n <;> simp only [uponR] at h ⊢
      case value u => exact ⟨h.1, hy.keep hap hsi, by rw [← Act.put_comm a v u h2]; exact h.2⟩
      case skip => exact ⟨h.1, hy.keep hap hsi, by rw [← Act.put_comm a v undef h2]; exact h.2⟩
      case enter f args => exact h.mono fun e w'' ⟨u, he, hb, hk⟩ => ⟨u, he, hb, hy.keep hap hsi, by rw [← Act.put_comm a v u h2]; exact hk⟩
    | halt x w' => simp only [uponR] at h
  · rename_i hw
    simp only [hw] at h
    exact ⟨hy.keep hap hsi, by rw [← Act.put_comm a v undef h2]; exact h⟩

theorem opR_quietT {i : Nat} {oi : Oper} {v : Value} (hi : ops[i]? = some oi) (hT : ∀ k, T k → k < w0.heap.size) (hS : ∀ k, S k → k < w0.heap.size) {K : Act → World → Prop} {a : Act} {w1 : World} (hw1 : Kept T w0 w1) (hy : QuietAt P ops T w0 oi v a)
    (hK : ∀ w2, Later w1 w2 → K (a.put oi.dst v) w2) : opR P ops S E i K a w1 := by
  have hS1 : ∀ k, S k → k < w1.heap.size := fun k hk => Nat.lt_of_lt_of_le (hS k hk) hw1.size
  have hT1 : ∀ k, T k → k < w1.heap.size := fun k hk => Nat.lt_of_lt_of_le (hT k hk) hw1.size
  obtain ⟨u, hyu, he⟩ := hy (Later w1) ⟨fun w h => hw1.trans (Kept.of_later hT1 h), fun _ _ h h' => h.trans h', w1, Later.refl w1⟩
  unfold opR
  simp only [hi]
  rcases hyu with ⟨hw, hq⟩ | ⟨hw, hu⟩
  · simp only [hw, if_true]
    have hq := hq w1 (Later.refl w1)
    unfold Oper.quietAt at hq
    generalize (execOp a.eval oi).run P w1 = r at *
    cases r with
    | ok n w' =>
      cases n <;> simp only [Oper.quietUpon] at hq <;> simp only [uponR]
      case value x => obtain ⟨e1, e2⟩ := hq; subst e1; subst e2; exact ⟨fun _ => Kept.refl _ _, by rw [he]; exact hK _ (Later.refl _)⟩
      case skip => obtain ⟨e1, e2⟩ := hq; subst e1; subst e2; exact ⟨fun _ => Kept.refl _ _, by rw [he]; exact hK _ (Later.refl _)⟩
      case enter f args =>
        obtain ⟨e1, hc⟩ := hq
        subst e1
        exact hc.mono fun e w'' ⟨h1, h2⟩ => ⟨u, h1, fun _ => Kept.of_later hS1 h2, by rw [he]; exact hK _ h2⟩
    | halt x w' => simp only [Oper.quietUpon] at hq
  · simp only [hw]
    subst hu
    rw [he]
    exact hK _ (Later.refl _)


def anyG (P : Program) (md : Region.Mode) (ops : Array Oper) (R : Nat → Nat → Prop) (Q : Act → World → Prop) : Nat → Array Bool → Act → World → Prop
  | 0, listed, a, w => Region.ready md ops listed = [] ∧ ∀ w1, Later w w1 → Q a w1
  | f + 1, listed, a, w => (Region.ready md ops listed = [] → ∀ w1, Later w w1 → Q a w1) ∧
    ∀ i ∈ Region.ready md ops listed, ∀ w1, Later w w1 → opR P ops (R i) (fun _ => true) i (anyG P md ops R Q f (listed.setIfInBounds i true)) a w1
theorem anyG_up {Q : Act → World → Prop} {f : Nat} {listed : Array Bool} {a : Act} {w w' : World} (h : anyG P md ops R Q f listed a w) (hl : Later w w') : anyG P md ops R Q f listed a w' := by
  cases f with
  | zero => exact ⟨h.1, fun w1 h1 => h.2 w1 (hl.trans h1)⟩
  | succ f => exact ⟨fun hr w1 h1 => h.1 hr w1 (hl.trans h1), fun i hi w1 h1 => h.2 i hi w1 (hl.trans h1)⟩
theorem wpAny_of_anyG {Q : Exit → Act → World → Prop} : ∀ (f : Nat) (listed : Array Bool) (a : Act) (w : World), anyG P md ops R (fun a w => Q .normal a w) f listed a w → wpAny P md ops Q f listed a w
  | 0, _, _, w, h => ⟨h.1, h.2 w (Later.refl w)⟩
  | f + 1, _, _, w, h => ⟨fun hr => h.1 hr w (Later.refl w), fun i hi => wpOp_of_opR (fun a' w' hk => wpAny_of_anyG f _ a' w' hk) (h.2 i hi w (Later.refl w))⟩
theorem anyG_done {Q : Act → World → Prop} {f : Nat} {listed : Array Bool} {a : Act} {w : World} (hr : Region.ready md ops listed = []) (h : ∀ w1, Later w w1 → Q a w1) : anyG P md ops R Q f listed a w := by
  cases f with
  | zero => exact ⟨hr, h⟩
  | succ f => exact ⟨fun _ => h, fun i hi => by rw [hr] at hi; cases hi⟩
theorem anyG_one {Q : Act → World → Prop} {f : Nat} {listed : Array Bool} {a : Act} {w : World} (i : Nat) (after : Array Bool) (hr : Region.ready md ops listed = [i]) (he : (listed.setIfInBounds i true == after) = true)
    (h : ∀ w1, Later w w1 → opR P ops (R i) (fun _ => true) i (anyG P md ops R Q f after) a w1) : anyG P md ops R Q (f + 1) listed a w := by
  have he' : listed.setIfInBounds i true = after := by simpa using he
  subst he'
  refine ⟨fun h0 => ?_, fun j hj => ?_⟩
  · rw [hr] at h0; cases h0
  · rw [hr] at hj
    have hji : j = i := by simpa using hj
    subst hji
    exact h
theorem anyG_first {Q : Act → World → Prop} {i : Nat} {oi : Oper} {v : Value} (hi : ops[i]? = some oi) (hsel : ∀ (j : Nat) (o : Oper) cs b, ops[j]? = some o → o.op ≠ .select cs b) (hT : ∀ k, T k → k < w0.heap.size) (hR : ∀ j k, R j k → k < w0.heap.size)
    (hlate : ∀ j, j < ops.size → (∀ k, T k → R j k) ∨ waitsFor md ops j i = true) :
    ∀ (fuel : Nat) (listed : Array Bool) (a : Act) (w : World), Closed md ops listed →
      (∀ j oj, ops[j]? = some oj → j ≠ i → listed.getD j true = false → (∀ e ∈ oj.after, Region.binds md e = true → e.on ≠ i) → oi.apart ops oj = true) →
      i ∈ Region.ready md ops listed → Kept T w0 w → QuietAt P ops T w0 oi v a →
      anyG P md ops R Q fuel (listed.setIfInBounds i true) (a.put oi.dst v) w → anyG P md ops R Q (fuel + 1) listed a w := by
  intro fuel
  induction fuel with
  | zero =>
    intro listed a w _ _ hr hw hy H
    refine ⟨fun h => (by rw [h] at hr; cases hr), fun j hj w1 h1 => ?_⟩
    have hw1 : Kept T w0 w1 := kept_later hT hw h1
    by_cases hji : j = i
    · subst hji; exact opR_quietT hi hT (hR _) hw1 hy fun w2 h2 => anyG_up H (h1.trans h2)
    · have := ready_mono hj hji
      rw [H.1] at this
      cases this
  | succ fuel ih =>
    intro listed a w hcl hfree hr hw hy H
    refine ⟨fun h => (by rw [h] at hr; cases hr), fun j hj w1 h1 => ?_⟩
    have hw1 : Kept T w0 w1 := kept_later hT hw h1
    by_cases hji : j = i
    · subst hji; exact opR_quietT hi hT (hR _) hw1 hy fun w2 h2 => anyG_up H (h1.trans h2)
    · have hst := H.2 j (ready_mono hj hji) w1 h1
      obtain ⟨hjun, oj, hoj, hall⟩ := mem_ready.1 hj
      have hnot : ∀ e ∈ oj.after, Region.binds md e = true → e.on ≠ i := fun e he hb heq => by
        have h1 := hall e he hb
        have h0 := (mem_ready.1 hr).1
        rw [heq] at h1
        rcases Nat.lt_or_ge i listed.size with h' | h'
        · simp [h'] at h0 h1; rw [h0] at h1; cases h1
        · simp [Array.getElem?_eq_none h'] at h1
      have hEj : ∀ k, T k → R j k := by
        rcases hlate j (Array.getElem?_eq_some_iff.1 hoj).1 with h | h
        · exact h
        · obtain ⟨o, ho, e, he, hb, hon⟩ := waits_spec h
          have : o = oj := Option.some.inj (ho.symm.trans hoj)
          subst this
          exact absurd hon (hnot e he hb)
      have h2 := opR_putT hoj (hfree j oj hoj hji hjun hnot) (fun cs b => hsel i oi cs b hi) (fun cs b => hsel j oj cs b hoj) hy hst
      have hfree' : ∀ k ok, ops[k]? = some ok → k ≠ i → (listed.setIfInBounds j true).getD k true = false →
          (∀ e ∈ ok.after, Region.binds md e = true → e.on ≠ i) → oi.apart ops ok = true := fun k ok hk hki hun hno => by
        refine hfree k ok hk hki ?_ hno
        by_cases hjk : j = k
        · subst hjk; exact hjun
        · rw [getD_set_ne true hjk] at hun; exact hun
      refine opR_mono (fun a' w' hb h3 => ih (listed.setIfInBounds j true) a' w' (hcl.set hj) hfree' (ready_mono hr (Ne.symm hji)) (hw1.trans (kept_less hEj (hb rfl))) h3.1 ?_) h2
      rw [Array.setIfInBounds_comm _ _ hji]
      exact h3.2

theorem anyG_peel_go {Q : Act → World → Prop} (hs : Region.noSelect ops = true) (hT : ∀ k, T k → k < w0.heap.size) (hR : ∀ j k, R j k → k < w0.heap.size) (G : Nat → Bool) (hG : ∀ j, G j = true → ∀ k, T k → R j k)
    {af : Act} {fuel : Nat} {after : Array Bool} {w : World} (hw : Kept T w0 w) :
    ∀ (m : List Bool) (l : List Oper) (k : Nat) (listed : Array Bool) (a : Act), Closed md ops listed → (∀ j, l[j]? = ops[k + j]?) → peelE md ops G m k listed after = true → dstB (takeOps m l) = true →
      (∀ D, Good T w0 D → wpQuiet P ops (cls D) (fun a' => a' = af) (takeOps m l) a) → anyG P md ops R Q fuel after af w → anyG P md ops R Q ((takeOps m l).length + fuel) listed a w
  | [], l, k, listed, a, _, _, hp, _, hq, h => by
    have hl : listed = after := by simpa [peelE] using hp
    have ha : a = af := by
      have := hq (Kept T w0) ⟨fun _ h => h, fun _ _ h h' => kept_later hT h h', w0, Kept.refl _ _⟩
      simpa [takeOps, wpQuiet] using this
    subst hl
    subst ha
    simpa [takeOps] using h
  | false :: m, [], k, listed, a, hcl, hl, hp, hd, hq, h => by
    have e2 : takeOps m [] = [] := by cases m with | nil => rfl | cons b m => cases b <;> rfl
    have r := anyG_peel_go hs hT hR G hG hw m [] (k + 1) listed a hcl (fun j => by have := hl (j + 1); simpa [Nat.add_assoc, Nat.add_comm 1 j] using this) (by simpa [peelE] using hp) (by rw [e2]; rfl) (fun D hD => by rw [e2]; exact hq D hD) h
    rw [e2] at r
    exact r
  | false :: m, o :: l, k, listed, a, hcl, hl, hp, hd, hq, h =>
    anyG_peel_go hs hT hR G hG hw m l (k + 1) listed a hcl (fun j => by have := hl (j + 1); simpa [Nat.add_assoc, Nat.add_comm 1 j] using this) (by simpa [peelE] using hp) hd hq h
  | true :: m, [], k, listed, a, _, hl, hp, _, _, _ => by
    simp only [peelE, Bool.and_eq_true] at hp
    have hr : k ∈ Region.ready md ops listed := by simpa using hp.1.1.2
    obtain ⟨_, o, ho, _⟩ := mem_ready.1 hr
    have := hl 0
    simp [ho] at this
  | true :: m, o :: l, k, listed, a, hcl, hl, hp, hd, hq, h => by
    have h0 : ops[k]? = some o := by simpa using (hl 0).symm
    simp only [peelE, Bool.and_eq_true, List.all_eq_true, List.mem_range, Bool.or_eq_true] at hp
    obtain ⟨⟨⟨hkn, hr⟩, hf⟩, hp'⟩ := hp
    have hr' : k ∈ Region.ready md ops listed := by simpa using hr
    simp only [takeOps, dstB, Bool.and_eq_true, List.all_eq_true] at hd
    have step : ∀ D, Good T w0 D → ∃ v, YieldsIn P ops D o v a ∧ wpQuiet P ops (cls D) (fun a' => a' = af) (takeOps m l) (a.put o.dst v) := fun D hD => by
      have := hq D hD
      have hk : qOp P ops (cls D) k (wpQuiet P ops (cls D) (fun a' => a' = af) (takeOps m l)) a := by unfold qOp; simp only [h0]; exact this
      obtain ⟨v, hy, hn⟩ := yieldsIn_of_qOp h0 hk
      rw [cls_eq] at hy
      exact ⟨v, hy, hn⟩
    obtain ⟨v, _, hn0⟩ := step (Kept T w0) ⟨fun _ h => h, fun _ _ h h' => kept_later hT h h', w0, Kept.refl _ _⟩
    have same : ∀ D, Good T w0 D → ∀ u, wpQuiet P ops (cls D) (fun a' => a' = af) (takeOps m l) (a.put o.dst u) → a.put o.dst u = a.put o.dst v := fun D _ u hu => by
      cases ho : o.dst with
      | none => rfl
      | some d =>
        rw [ho] at hu hn0
        have hne : ∀ o' ∈ takeOps m l, o'.dst ≠ some d := fun o' ho' => by
          have := hd.1 o' ho'
          simpa [ho] using this
        exact put_slot ((final_slot _ _ hne hu).symm.trans (final_slot _ _ hne hn0))
    have hqa : QuietAt P ops T w0 o v a := fun D hD => by
      obtain ⟨u, hy, hn⟩ := step D hD
      exact ⟨u, hy, same D hD u hn⟩
    have rest := anyG_peel_go hs hT hR G hG hw m l (k + 1) (listed.setIfInBounds k true) (a.put o.dst v) (hcl.set hr') (fun j => by have := hl (j + 1); simpa [Nat.add_assoc, Nat.add_comm 1 j] using this) hp' hd.2 (fun D hD => by
      obtain ⟨u, _, hn⟩ := step D hD
      rw [← same D hD u hn]; exact hn) h
    have e : (takeOps (true :: m) (o :: l)).length + fuel = (takeOps m l).length + fuel + 1 := by simp [takeOps]; omega
    rw [e]
    exact anyG_first h0 (Region.noSelect_spec hs) hT hR (fun j hj => (hkn j hj).imp (hG j) id) _ listed a w hcl (Region.free_spec h0 hf) hr' hw hqa rest

theorem anyG_peel {Q : Act → World → Prop} {lops : List Oper} {listed a af w fuel len} (T : Nat → Prop) (G : Nat → Bool) (m : List Bool) (after : Array Bool)
    (hb : (Region.noSelect lops.toArray && closedB md lops.toArray listed && peelE md lops.toArray G m 0 listed after && dstB (takeOps m lops)) = true) (hn : len = (takeOps m lops).length + fuel)
    (hT : ∀ k, T k → k < w.heap.size) (hR : ∀ j k, R j k → k < w.heap.size) (hG : ∀ j, G j = true → ∀ k, T k → R j k)
    (hq : ∀ D, Good T w D → wpQuiet P lops.toArray (fun w' => ∃ x : Of D, w' = x.val) (fun a' => a' = af) (takeOps m lops) a) (h : anyG P md lops.toArray R Q fuel after af w) : anyG P md lops.toArray R Q len listed a w := by
  simp only [Bool.and_eq_true] at hb
  obtain ⟨⟨⟨hs, hc⟩, hp⟩, hd⟩ := hb
  rw [hn]
  exact anyG_peel_go hs hT hR G hG (Kept.refl _ _) m lops 0 listed a (closed_of hc) (by simp) hp hd hq h


theorem wp_region_G {id : Nat} {Q : Exit → Act → World → Prop} {a : Act} {w : World} {lops : List Oper} (R : Nat → Nat → Prop) (hm : P.follows .mixedOrders = true)
    (h : anyG P .any lops.toArray R (fun a w => Q .normal a w) lops.length (Array.replicate lops.length false) a w) : (Code.region id lops.toArray true).wp P Q a w :=
  wp_region_any hm (wpAny_of_anyG _ _ _ _ (by
    have := anyG_up h (w' := w.drew) ⟨rfl, rfl, rfl, Nat.le_refl _, fun _ _ => rfl⟩
    simpa using this))

/-- Two numbers are stored into a block that is known whole, one behind the other. -/
theorem anyG_sets {Q : Act → World → Prop} {listed : Array Bool} {a : Act} {w : World} (i m k : Nat) (t t' : TypeId) (p x p' x' : Tmp) (g off off' : Nat) (old new : Array Value) (z z' : Int)
    (hr : Region.ready md ops listed = [i]) (hr1 : Region.ready md ops (listed.setIfInBounds i true) = [m]) (hr3 : Region.ready md ops ((listed.setIfInBounds i true).setIfInBounds m true) = [k])
    (hr4 : Region.ready md ops (((listed.setIfInBounds i true).setIfInBounds m true).setIfInBounds k true) = []) (hs : isStore ops[i]? t p x = true) (hs' : isStore ops[k]? t p' x' = true)
    {om : Oper} (hom : ops[m]? = some om) (hgm : om.guard = none) (hdm : om.dst = some p') (hrun : ∀ w, (execOp a.eval om).run P w = .ok (.value (.pointer (some ⟨g, off', none⟩))) w)
    (hp : a.tmps.getD p undef = .pointer (some ⟨g, off, none⟩)) (hx : a.tmps.getD x undef = .int .i64 z) (hx' : a.tmps.getD x' undef = .int .i64 z') (hpx' : p' ≠ x') (hsz : p' < a.tmps.size)
    (hg : Blk w g t' old) (hi : (P.info? t).map (·.size) = some 1) (ho : off < old.size) (ho' : off' < old.size) (hnew : (old.setIfInBounds off (.int .i64 z)).setIfInBounds off' (.int .i64 z') = new) (hE : ¬ R i g) (hE' : ¬ R k g)
    (h : ∀ w', w.grownBy w' (some g) → Blk w' g t' new → Q (a.put (some p') (.pointer (some ⟨g, off', none⟩))) w') : anyG P md ops R Q 3 listed a w := by
  subst hnew
  have last : ∀ w2, w.grownBy w2 (some g) → Blk w2 g t' (old.setIfInBounds off (.int .i64 z)) → anyG P md ops R Q 1 ((listed.setIfInBounds i true).setIfInBounds m true) (a.put (some p') (.pointer (some ⟨g, off', none⟩))) w2 := fun w2 g2 b2 => by
    refine anyG_one k _ hr3 (beq_self_eq_true _) fun w3 l3 => ?_
    refine opR_set1 hs' (getD_put hsz) (by rw [getD_put_ne hpx']; exact hx') (blk_later b2 l3) hi (by simpa using ho') (fun _ => hE') ?_
    refine anyG_done hr4 fun w4 l4 => ?_
    have g3 : w.grownBy (w3.setCell ⟨g, off', none⟩ (.int .i64 z')) (some g) := by
      have e := grown_setCell w3 g off' (.int .i64 z')
      have f := later_grown g2 l3
      exact ⟨e.os.trans f.os, e.tape.trans f.tape, e.output.trans f.output, Nat.le_trans f.size e.size, fun j hj hne => (e.block j (Nat.lt_of_lt_of_le hj f.size) hne).trans (f.block j hj hne)⟩
    exact h _ (later_grown g3 l4) (blk_later ((blk_later b2 l3).set_ off' _) l4)
  refine anyG_one i _ hr (beq_self_eq_true _) fun w1 l1 => ?_
  refine opR_set1 hs hp hx (blk_later hg l1) hi ho (fun _ => hE) ?_
  refine anyG_one m _ hr1 (beq_self_eq_true _) fun w2 l2 => ?_
  refine opR_value hom hgm hdm (hrun w2) ?_
  exact last w2 (later_grown (grown_later l1 (grown_setCell w1 g off _)) l2) (blk_later ((blk_later hg l1).set_ off _) l2)
end
end Go.Proofs.YtepgpihobmjbdaaGreat
namespace Go.Proofs.YtepgpihobmjbdaaGreat
open Go.RowKit

/-- A list with one more, if it is met. -/
def addIf (f : Bool) (e : Int × Int) (l : List (Int × Int)) : List (Int × Int) := if f then l ++ [e] else l

theorem addIf_pos {p : Prop} [Decidable p] (h : p) (e : Int × Int) (l : List (Int × Int)) : addIf (decide p) e l = l ++ [e] := by simp [addIf, h]
theorem addIf_neg {p : Prop} [Decidable p] (h : ¬ p) (e : Int × Int) (l : List (Int × Int)) : addIf (decide p) e l = l := by simp [addIf, h]
theorem addIf_le (f : Bool) (e : Int × Int) (l : List (Int × Int)) : (addIf f e l).length ≤ l.length + 1 := by cases f <;> simp [addIf]

/-- What holds while the reference gathers factors. -/
structure Gath (w wx : World) (A : Option Addr) (n c : Nat) (A' : Option Addr) (n' c' : Nat) (a0 a1 b0 b1 c0 c1 x y : Int) (l : List (Int × Int)) (v : Value) : Prop where
  bel : Below w.heap.size w wx
  mdl : Blk wx w.heap.size 45 #[.slice A n c, .slice A' n' c', .int .i64 a0, .int .i64 a1, .int .i64 b0, .int .i64 b1, .int .i64 c0, .int .i64 c1]
  bnd : Blk wx (w.heap.size + 1) 24 #[.int .i64 x, .int .i64 y]
  res : Blk wx (w.heap.size + 2) 24 #[.int .i64 0, .int .i64 0]
  own : wx.ownsRow (w.heap.size + 3) 24 2 v l.length ((flat2 l).map (Value.int .i64))

theorem gath_push {w wx w' : World} {A : Option Addr} {n c : Nat} {A' : Option Addr} {n' c' : Nat} {a0 a1 b0 b1 c0 c1 x y : Int} {l : List (Int × Int)} {v v' : Value} (h : Gath w wx A n c A' n' c' a0 a1 b0 b1 c0 c1 x y l v) {e0 e1 : Int} {o : Obj}
    (ho : w'.ownsRow (w.heap.size + 3) 24 2 v' (l.length + 1) ((flat2 l).map (Value.int .i64) ++ [.int .i64 e0, .int .i64 e1])) (hg : (wx.alloc o).grownBy w' v.ownBlock) : Gath w w' A n c A' n' c' a0 a1 b0 b1 c0 c1 x y (l ++ [(e0, e1)]) v' := by
  have hr : ∀ k, v.ownBlock = some k → w.heap.size + 3 ≤ k := fun k hk => (h.own.lt k hk).1
  have hne : ∀ g, g < w.heap.size + 3 → v.ownBlock ≠ some g := fun g hg e => absurd (hr g e) (by omega)
  have hs := h.res.lt
  refine ⟨below_grown (h.bel.alloc h.bel.size _) hg (by have := h.bel.size; simp; omega) (fun k hk => by have := hr k hk; omega), blk_grown (h.mdl.alloc _) hg (hne _ (by omega)), blk_grown (h.bnd.alloc _) hg (hne _ (by omega)), blk_grown (h.res.alloc _) hg (hne _ (by omega)), ?_⟩
  rw [flat_snoc] at ho
  simpa using ho

theorem gath_alloc {w wx : World} {A : Option Addr} {n c : Nat} {A' : Option Addr} {n' c' : Nat} {a0 a1 b0 b1 c0 c1 x y : Int} {l : List (Int × Int)} {v : Value} (h : Gath w wx A n c A' n' c' a0 a1 b0 b1 c0 c1 x y l v) (o : Obj) : Gath w (wx.alloc o) A n c A' n' c' a0 a1 b0 b1 c0 c1 x y l v :=
  ⟨h.bel.alloc h.bel.size _, h.mdl.alloc _, h.bnd.alloc _, h.res.alloc _, h.own.alloc _⟩
theorem gath_grown {w wx w' : World} {A : Option Addr} {n c : Nat} {A' : Option Addr} {n' c' : Nat} {a0 a1 b0 b1 c0 c1 x y : Int} {l : List (Int × Int)} {v : Value} (h : Gath w wx A n c A' n' c' a0 a1 b0 b1 c0 c1 x y l v) {s : Nat} (hg : wx.grownBy w' (some s)) (hs : w.heap.size + 3 ≤ s) (hne : v.ownBlock ≠ some s) : Gath w w' A n c A' n' c' a0 a1 b0 b1 c0 c1 x y l v :=
  ⟨below_grown h.bel hg h.bel.size (fun k hk => by injection hk; omega), blk_grown h.mdl hg (fun e => by injection e; omega), blk_grown h.bnd hg (fun e => by injection e; omega), blk_grown h.res hg (fun e => by injection e; omega), own_grown h.own hg hne⟩

/-- The least and the greatest. -/
def foldF (o : Int × Int) (l : List (Int × Int)) : Int × Int := l.foldl (fun o e => (min o.1 e.1, max o.2 e.2)) o
theorem foldF_take (o : Int × Int) (l : List (Int × Int)) (k : Nat) (h : k < l.length) : foldF o (l.take (k + 1)) = (min (foldF o (l.take k)).1 (l.getD k (0, 0)).1, max (foldF o (l.take k)).2 (l.getD k (0, 0)).2) := by
  rw [take_snoc2 l k h]
  simp [foldF]

theorem sizeInt' : (Tryz.prog.info? 3).map (·.size) = some 1 := by kernel_rfl
theorem facS_fold (a0 a1 b0 b1 c0 c1 x y o1 o2 : Int) (l : List (Int × Int)) (ha : a0 ≤ a1) (hx : x ≤ y) (hbc : b0 ≤ 100000 ∧ 0 ≤ b1 ∧ c0 ≤ 100000 ∧ 0 ≤ c1)
    (hl : l = addIf (decide (a1 < y)) (c0, c1) (addIf (decide (x ≤ a1 ∧ a0 ≤ y)) (b0, b1) (addIf (decide (x < a0)) (1000, 1000) []))) (ho : l.getD 0 (0, 0) = (o1, o2)) : foldF (o1, o2) l = facS (a0, a1) (b0, b1) (c0, c1) (x, y) := by
  have e2 : met2 (a0, a1) (x, y) = decide (x ≤ a1 ∧ a0 ≤ y) := by unfold met2; exact decide_eq_decide.2 (by simp only; omega)
  unfold facS
  rw [e2]
  simp only [met1, met3]
  by_cases q1 : x < a0 <;> by_cases q3 : a1 < y <;> by_cases q2 : x ≤ a1 ∧ a0 ≤ y <;> simp [addIf, q1, q2, q3] at hl <;> subst hl <;> simp at ho <;> (try (obtain ⟨rfl, rfl⟩ := ho)) <;> simp [foldF, meetF, q1, q2, q3] <;> omega

set_option maxHeartbeats 2000000 in
set_option maxRecDepth 100000 in
theorem refFactor_any (A : Option Addr) (n c : Nat) (A' : Option Addr) (n' c' : Nat) (a0 a1 b0 b1 c0 c1 x y : Int) (w : World) (ha : a0 ≤ a1) (hx : x ≤ y) (hbc : b0 ≤ 100000 ∧ 0 ≤ b1 ∧ c0 ≤ 100000 ∧ 0 ≤ c1) :
    Calls Tryz.prog 25 #[.agg #[.slice A n c, .slice A' n' c', .int .i64 a0, .int .i64 a1, .int .i64 b0, .int .i64 b1, .int .i64 c0, .int .i64 c1], .agg #[.int .i64 x, .int .i64 y]] w fun e w' => e = .returned (spanV (facS (a0, a1) (b0, b1) (c0, c1) (x, y))) ∧ Below w.heap.size w w' := by
  obtain ⟨i0, hi, hz0, hz1, hz2⟩ := info_parts spanInfo
  have Hi := hide hi
  have Hz0 := hide hz0
  have Hz1 := hide hz1
  have Hz2 := hide hz2
  clear hi hz0 hz1 hz2
  go_enter Tryz.func25, Tryz.ntmps25
  go_upto_if 13 with fail
  refine code_world fun W hW => ?_
  have hg0 : Gath w W A n c A' n' c' a0 a1 b0 b1 c0 c1 x y [] (.slice none 0 0) := by
    rw [hW]
    exact ⟨((Below.refl _ _).alloc (Nat.le_refl _) _ |>.alloc (by simp) _).alloc (by simp; omega) _, ((Blk.new _ _ _).alloc _).alloc _, (blk_new_at (by simp)).alloc _, blk_new_at (by simp), World.ownsRow_nil _ _ _ _⟩
  have HG := hide hg0
  clear hg0 hW
  go_cut [5] from 13 to 17 (fun v wx => Gath w wx A n c A' n' c' a0 a1 b0 b1 c0 c1 x y (addIf (decide (x < a0)) (1000, 1000) []) v)
  case first =>
    go_wp2_with (at_builtin; refine wpList_append_own _ rfl (.tmp 14) (.tmp 16) _ rfl (w.heap.size + 3) 24 i0 _ 2 16 Tryz.underlying34 Hi.out Hz0.out Hz1.out Hz2.out rfl (by decide) _ 0 [] rfl (World.ownsRow_nil _ _ _ _) ⟨W.heap.size, 0, none⟩ 1 1 [.int .i64 1000, .int .i64 1000] rfl rfl ?c1 ?c2 ?c3 ?c4 ?c5 ?_)
    case c1 => exact new_cells W _ [.int .i64 1000, .int .i64 1000]
    case c2 => intro u hu; simp at hu; rcases hu with rfl | rfl <;> rfl
    case c3 => unfold maxLen; omega
    case c4 => omega
    case c5 => have := HG.out.res.lt; simp; omega
    · rename_i hx0
      intro v' w' hown' hgrow _
      have HP := hide (show Gath w w' A n c A' n' c' a0 a1 b0 b1 c0 c1 x y (addIf (decide (x < a0)) (1000, 1000) []) v' from by rw [addIf_pos hx0]; exact gath_push HG.out (e0 := 1000) (e1 := 1000) hown' hgrow)
      clear hown' hgrow hx0
      go_wp2
      go_meet
      exact HP.out
    · rename_i hx0
      have HP := hide (show Gath w W A n c A' n' c' a0 a1 b0 b1 c0 c1 x y (addIf (decide (x < a0)) (1000, 1000) []) (.slice none 0 0) from by rw [addIf_neg (by omega)]; exact HG.out)
      go_meet
      exact HP.out
  case rest =>
    clear HG
    have hL1 : (addIf (decide (x < a0)) (1000, 1000) []).length ≤ 1 := addIf_le _ _ _
    generalize g1 : addIf (decide (x < a0)) (1000, 1000) [] = l1 at *
    have G1 := hide g1
    obtain ⟨x0, x1, x2, x3, x4, x5, x6, x7⟩ := hcut.mdl.c8
    obtain ⟨y0, y1⟩ := hcut.bnd.c2
    have HG := hide hcut
    have lt1 := hcut.res.lt
    clear hcut g1
    go_upto_region 4 with fail
    go_cut [31] from 18 to 31 (fun v wx => v = .bool (decide (x ≤ a1 ∧ a0 ≤ y)) ∧ wx = wc)
    case first =>
      go_wp2
      all_goals go_meet
      all_goals exact ⟨congrArg Value.bool (by first | (simp [*]; done) | (simp; omega) | (simp [*]; omega)), rfl⟩
    case rest =>
      obtain ⟨rfl, rfl⟩ := hcut
      go_upto_if 31 with fail
      go_cut [5] from 31 to 36 (fun v wx => Gath w wx A n c A' n' c' a0 a1 b0 b1 c0 c1 x y (addIf (decide (x ≤ a1 ∧ a0 ≤ y)) (b0, b1) l1) v)
      case first =>
        go_wp2_with (at_builtin; refine wpList_append_own _ rfl (.tmp 32) (.tmp 35) _ rfl (w.heap.size + 3) 24 i0 _ 2 16 Tryz.underlying34 Hi.out Hz0.out Hz1.out Hz2.out rfl (by decide) _ l1.length _ rfl (HG.out.own.alloc _) ⟨wc.heap.size, 0, none⟩ 1 1 [.int .i64 b0, .int .i64 b1] rfl rfl ?c1 ?c2 ?c3 ?c4 ?c5 ?_)
        case c1 => exact new_cells wc _ [.int .i64 b0, .int .i64 b1]
        case c2 => intro u hu; simp at hu; rcases hu with rfl | rfl <;> rfl
        case c3 => unfold maxLen; omega
        case c4 => omega
        case c5 => simp; omega
        · rename_i hx0
          intro v' w' hown' hgrow _
          have HP := hide (show Gath w w' A n c A' n' c' a0 a1 b0 b1 c0 c1 x y (addIf (decide (x ≤ a1 ∧ a0 ≤ y)) (b0, b1) l1) v' from by rw [addIf_pos hx0]; exact gath_push HG.out (e0 := b0) (e1 := b1) hown' hgrow)
          clear hown' hgrow hx0
          go_wp2
          go_meet
          exact HP.out
        · rename_i hx0
          have HP := hide (show Gath w wc A n c A' n' c' a0 a1 b0 b1 c0 c1 x y (addIf (decide (x ≤ a1 ∧ a0 ≤ y)) (b0, b1) l1) _ from by rw [addIf_neg hx0]; exact HG.out)
          go_meet
          exact HP.out
      case rest =>
        clear HG x0 x1 x2 x3 x4 x5 x6 x7 y0 y1 lt1
        have hL2 : (addIf (decide (x ≤ a1 ∧ a0 ≤ y)) (b0, b1) l1).length ≤ 2 := Nat.le_trans (addIf_le _ _ _) (by omega)
        generalize g2 : addIf (decide (x ≤ a1 ∧ a0 ≤ y)) (b0, b1) l1 = l2 at *
        have G2 := hide g2
        obtain ⟨x0, x1, x2, x3, x4, x5, x6, x7⟩ := hcut.mdl.c8
        obtain ⟨y0, y1⟩ := hcut.bnd.c2
        have HG := hide hcut
        have lt1 := hcut.res.lt
        clear hcut g2
        go_upto_if 42 with fail
        go_cut [5] from 42 to 47 (fun v wx => Gath w wx A n c A' n' c' a0 a1 b0 b1 c0 c1 x y (addIf (decide (a1 < y)) (c0, c1) l2) v)
        case first =>
          go_wp2_with (at_builtin; refine wpList_append_own _ rfl (.tmp 43) (.tmp 46) _ rfl (w.heap.size + 3) 24 i0 _ 2 16 Tryz.underlying34 Hi.out Hz0.out Hz1.out Hz2.out rfl (by decide) _ l2.length _ rfl (HG.out.own.alloc _) ⟨wc.heap.size, 0, none⟩ 1 1 [.int .i64 c0, .int .i64 c1] rfl rfl ?c1 ?c2 ?c3 ?c4 ?c5 ?_)
          case c1 => exact new_cells wc _ [.int .i64 c0, .int .i64 c1]
          case c2 => intro u hu; simp at hu; rcases hu with rfl | rfl <;> rfl
          case c3 => unfold maxLen; omega
          case c4 => omega
          case c5 => simp; omega
          · rename_i hx0
            intro v' w' hown' hgrow _
            have HP := hide (show Gath w w' A n c A' n' c' a0 a1 b0 b1 c0 c1 x y (addIf (decide (a1 < y)) (c0, c1) l2) v' from by rw [addIf_pos hx0]; exact gath_push HG.out (e0 := c0) (e1 := c1) hown' hgrow)
            clear hown' hgrow hx0
            go_wp2
            go_meet
            exact HP.out
          · rename_i hx0
            have HP := hide (show Gath w wc A n c A' n' c' a0 a1 b0 b1 c0 c1 x y (addIf (decide (a1 < y)) (c0, c1) l2) _ from by rw [addIf_neg (by omega)]; exact HG.out)
            go_meet
            exact HP.out
        case rest =>
          clear HG x0 x1 x2 x3 x4 x5 x6 x7 y0 y1 lt1
          generalize g3 : addIf (decide (a1 < y)) (c0, c1) l2 = l3 at *
          have hL3 : l3.length ≤ 3 := by rw [← g3]; exact Nat.le_trans (addIf_le _ _ _) (by omega)
          have hl3 : l3 = addIf (decide (a1 < y)) (c0, c1) (addIf (decide (x ≤ a1 ∧ a0 ≤ y)) (b0, b1) (addIf (decide (x < a0)) (1000, 1000) [])) := by rw [G1.out, G2.out, g3]
          clear G1 G2 g3 hL1 hL2
          have hpos : 0 < l3.length := by
            rw [hl3]
            by_cases q1 : x < a0 <;> by_cases q3 : a1 < y <;> by_cases q2 : x ≤ a1 ∧ a0 ≤ y <;> simp [addIf, q1, q2, q3] <;> omega
          obtain ⟨A3, cap, rfl⟩ := own_slice hcut.own
          have hI : Ints wc wc.heap.size .i64 A3 (flat2 l3) := Ints.own hcut.own rfl (Nat.le_refl _)
          obtain ⟨g, off, rfl, hb, hc⟩ := hI.pt hpos
          obtain ⟨p0, p1⟩ := hc 0 hpos
          generalize ho : l3.getD 0 (0, 0) = o at *
          obtain ⟨o1, o2⟩ := o
          simp only [Nat.zero_mul, Nat.add_zero] at p0 p1
          have lt2 := hcut.res.lt
          have HG := hide hcut
          have HO := hide ho
          have HL := hide hl3
          clear hcut hI hc ho hl3
          go_wp2_with fail
          go_loopw [7] (fun i wr => ∃ k : Nat, k ≤ l3.length ∧ i = .int .i64 k ∧ Gath w wr A n c A' n' c' a0 a1 b0 b1 c0 c1 x y l3 (.slice (some ⟨g, off, none⟩) l3.length cap) ∧ Blk wr wc.heap.size 24 #[.int .i64 (foldF (o1, o2) (l3.take k)).1, .int .i64 (foldF (o1, o2) (l3.take k)).2]) (fun i _ => l3.length - (intOf i).toNat)
          case atStart => exact ⟨0, by omega, rfl, gath_alloc HG.out _, Blk.new _ _ _⟩
          case round =>
            obtain ⟨k, hk, rfl, hG, hS⟩ := hrel
            clear p0 p1
            by_cases hlt : k < l3.length
            · have hI : Ints wr wr.heap.size .i64 (some ⟨g, off, none⟩) (flat2 l3) := Ints.own hG.own rfl (Nat.le_refl _)
              obtain ⟨g', off', he, hb', hc⟩ := hI.pt hpos
              cases he
              obtain ⟨p0, p1⟩ := hc k hlt
              have hst := foldF_take (o1, o2) l3 k hlt
              generalize foldF (o1, o2) (l3.take k) = s at *
              obtain ⟨s1, s2⟩ := s
              generalize l3.getD k (0, 0) = z at *
              obtain ⟨z1, z2⟩ := z
              obtain ⟨q0, q1⟩ := hS.c2
              simp only at p0 p1 q0 q1 hst
              have ltS := hS.lt
              have HS := hide hS
              have HG2 := hide hG
              have HST := hide hst
              clear hS hG hst hc hI
              go_wp2_with fail
              refine wp_region_G (fun j k => k < wr.heap.size ∧ ((!([17, 19] : List Nat).contains j) = true ∨ k ≠ wc.heap.size)) (by kernel_rfl) ?_
              apply anyG_peel (fuel := 10) (fun k => k < wr.heap.size) (fun j => !([17, 19] : List Nat).contains j) [true, true, true, true, true, true, true, true, true, true, false, false, false, false, false, false, false, false, false, false] #[true, true, true, true, true, true, true, true, true, true, false, false, false, false, false, false, false, false, false, false] (by kernel_rfl) rfl (fun k hk => hk) (fun j k hk => hk.1) (fun j hj k hk => ⟨hk, .inl hj⟩)
              · intro D hD
                have hne := hD.some
                have k0 := lift hD p0 (by exact hb')
                have k1 := lift hD p1 (by exact hb')
                have k2 := lift hD q0 (by exact ltS)
                have k3 := lift hD q1 (by exact ltS)
                simp only [takeOps]
                repeat (go_big_quiet_step (fail))
                exact wpQuiet_nil rfl
              apply anyG_peel (fuel := 3) (fun k => k < wr.heap.size ∧ k ≠ wc.heap.size) (fun _ => true) [false, false, false, false, false, false, false, false, false, false, true, true, true, true, true, true, true, false, false, false] #[true, true, true, true, true, true, true, true, true, true, true, true, true, true, true, true, true, false, false, false] (by kernel_rfl) rfl (fun k hk => hk.1) (fun j k hk => hk.1) (fun j hj k hk => ⟨hk.1, .inr hk.2⟩)
              · intro D hD
                have hne := hD.some
                have k0 := lift hD p0 (by exact ⟨hb', by show g ≠ wc.heap.size; omega⟩)
                have k1 := lift hD p1 (by exact ⟨hb', by show g ≠ wc.heap.size; omega⟩)
                simp only [takeOps]
                repeat (go_big_quiet_step (fail))
                exact wpQuiet_nil rfl
              refine anyG_sets 17 18 19 3 24 73 64 74 72 wc.heap.size 0 1 _ _ _ _ (by kernel_rfl) (by kernel_rfl) (by kernel_rfl) (by kernel_rfl) (by kernel_rfl) (by kernel_rfl) rfl rfl rfl (fun _ => by kernel_rfl) rfl rfl rfl (by decide) (by exact of_decide_eq_true rfl) HS.out sizeInt' (by simp) (by simp) rfl (fun h => by simp at h) (fun h => by simp at h) ?_
              intro w2 hgr hbk
              simp only [Act.put, List.setIfInBounds_toArray, List.set_cons_succ, List.set_cons_zero]
              have HG3 := hide (gath_grown HG2.out hgr (by omega) (by simp [Value.ownBlock]; omega))
              have HBK := hide hbk
              clear hgr hbk
              go_wp2
              go_roundw
              case rel =>
                refine ⟨k + 1, by omega, by go_num, HG3.out, blk_of HBK.out ?_⟩
                rw [HST.out]
                simp <;> omega
              case measure => simp [intOf]; omega
            · obtain rfl : k = l3.length := by omega
              rw [List.take_of_length_le (Nat.le_refl _), facS_fold a0 a1 b0 b1 c0 c1 x y o1 o2 l3 ha hx hbc HL.out HO.out] at hS
              obtain ⟨⟨s1, s2⟩, hs⟩ : ∃ s, facS (a0, a1) (b0, b1) (c0, c1) (x, y) = s := ⟨_, rfl⟩
              rw [hs] at hS
              have HFS := hide hs
              clear hs
              obtain ⟨q0, q1⟩ := hS.c2
              simp only at q0 q1
              have r2 := hG.res.c2
              obtain ⟨r0, r1⟩ := r2
              have f0 := hG.res.frozen 0
              have f1 := hG.res.frozen 1
              have lt3 := hG.res.lt
              have ltS := hS.lt
              have HB := hide hG.bel
              clear hG hS
              go_wp2
              refine bodyPost_ret (v := spanV (s1, s2)) (by simp [spanV, results, Tryz.results25, go_sem, r0, r1]) rfl ⟨by rw [HFS.out], ?_⟩
              exact (HB.out.setCell (by simp; omega) _).setCell (by simp; omega) _
end Go.Proofs.YtepgpihobmjbdaaGreat
namespace Go.Proofs.YtepgpihobmjbdaaGreat
open Go.RowKit

/-- What Rates answers. -/
def rateR (e : Int) (l : List (Int × Int)) : List (Int × Int) × Int := if e ≠ 0 then ([], e) else (l, 0)

set_option maxHeartbeats 4000000 in
set_option maxRecDepth 100000 in
theorem Rates_any (s : ByteArray) (sx sy z r g st wd tilt time elo ehi gx gy gs wi hi ray : Int) (l rt gl : List (Int × Int)) (a0 a1 b0 b1 c0 c1 : Int) (n ng : Nat) (rr : Nat → Ray1) (A : Option Addr) (nl cl : Nat) (Ar : Option Addr) (nr cr : Nat) (As : Option Addr) (cs : Nat) (Ag : Option Addr) (cg : Nat) (w : World) 
    (hs : s.size ≤ 9223372036854775807) (hn : l.length = nl) (hmax : nl ≤ 9223372036854775807) (hnr : rt.length = nr) (hmaxr : nr ≤ 9223372036854775807) (hng : gl.length = ng) (hmaxg : ng ≤ 9223372036854775807) (hns : n ≤ maxLen)
    (hl : Ints w w.heap.size .i64 A (flat2 l)) (hlr : Ints w w.heap.size .i64 Ar (flat2 rt)) (hlg : Ints w w.heap.size .i64 Ag (flat2Q gl)) (hrs : RaysAt w w.heap.size As n rr) :
    Calls Tryz.prog 7 #[.agg (mdlC A nl cl Ar nr cr a0 a1 b0 b1 c0 c1), .agg (sweepC s sx sy z r g st wd tilt time As n cs), .agg #[.int .i64 elo, .int .i64 ehi], .agg (fldC gx gy gs wi hi Ag ng cg), .int .i64 ray] w (SpansPost (rateR (allE s sx sy z r g st wd tilt time elo ehi gx gy gs wi hi ray l rt gl a0 a1 b0 b1 c0 c1 n ng rr) (rateL z r g st wd tilt elo ehi gx gy gs wi hi sx sy ray l rt gl a0 a1 b0 b1 c0 c1 rr)) w) := by
  have cC := fun (W : World) (h1 : Ints W W.heap.size .i64 A (flat2 l)) (h2 : Ints W W.heap.size .i64 Ar (flat2 rt)) (h3 : Ints W W.heap.size .i64 Ag (flat2Q gl)) (h4 : RaysAt W W.heap.size As n rr) => checked_any s sx sy z r g st wd tilt time elo ehi gx gy gs wi hi ray l rt gl a0 a1 b0 b1 c0 c1 n ng rr A nl cl Ar nr cr As cs Ag cg W hs hn hmax hnr hmaxr hng hmaxg hns h1 h2 h3 h4
  have cR := fun (h0 : (allE s sx sy z r g st wd tilt time elo ehi gx gy gs wi hi ray l rt gl a0 a1 b0 b1 c0 c1 n ng rr) = 0) (W : World) (h1 : Ints W W.heap.size .i64 A (flat2 l)) (h2 : Ints W W.heap.size .i64 Ar (flat2 rt)) (h3 : Ints W W.heap.size .i64 Ag (flat2Q gl)) (h4 : RaysAt W W.heap.size As n rr) => rates_any s sx sy z r g st wd tilt time elo ehi gx gy gs wi hi ray l rt gl a0 a1 b0 b1 c0 c1 n ng rr A nl cl Ar nr cr As cs Ag cg W hs hn hmax hnr hmaxr hng hmaxg hns h1 h2 h3 h4 h0
  have hlen : (rateL z r g st wd tilt elo ehi gx gy gs wi hi sx sy ray l rt gl a0 a1 b0 b1 c0 c1 rr).length = g.toNat := rayL_length _ _ _ _ _ _ _ _
  generalize (rateL z r g st wd tilt elo ehi gx gy gs wi hi sx sy ray l rt gl a0 a1 b0 b1 c0 c1 rr) = RL at *
  generalize (allE s sx sy z r g st wd tilt time elo ehi gx gy gs wi hi ray l rt gl a0 a1 b0 b1 c0 c1 n ng rr) = E at *
  unfold mdlC sweepC fldC at *
  have CC := hide cC
  have CR := hide cR
  have Hl := hide hl
  have Hlr := hide hlr
  have Hlg := hide hlg
  have Hrs := hide hrs
  have Hlen := hide hlen
  clear cC cR hl hlr hlg hrs hlen
  clear hs hn hmax hnr hmaxr hng hmaxg hns
  by_cases h0 : E = 0
  · subst h0
    have cr := CR.out rfl
    have Cr := hide cr
    clear cr
    clear CR
    rw [show rateR 0 RL = (RL, 0) from rfl]
    go_enter Tryz.func7, Tryz.ntmps7
    have HB := hide (Below.refl w.heap.size w)
    go_wp2_with fail
    refine at_world fun W hW => ?_
    have bq0 : Blk W w.heap.size 26 #[.slice A nl cl, .slice Ar nr cr, .int .i64 a0, .int .i64 a1, .int .i64 b0, .int .i64 b1, .int .i64 c0, .int .i64 c1] := by rw [hW]; exact (((Blk.new _ _ _).alloc _).alloc _).alloc _
    have bq1 : Blk W (w.heap.size + 1) 31 #[.string s, .int .i64 sx, .int .i64 sy, .int .i64 z, .int .i64 r, .int .i64 g, .int .i64 st, .int .i64 wd, .int .i64 tilt, .int .i64 time, .slice As n cs] := by rw [hW]; exact ((blk_new_at (by simp)).alloc _).alloc _
    have bq2 : Blk W (w.heap.size + 2) 24 #[.int .i64 elo, .int .i64 ehi] := by rw [hW]; exact (blk_new_at (by simp)).alloc _
    have bq3 : Blk W (w.heap.size + 3) 36 #[.int .i64 gx, .int .i64 gy, .int .i64 gs, .int .i64 wi, .int .i64 hi, .slice Ag ng cg] := by rw [hW]; exact blk_new_at (by simp)
    have LW : Later w W := by rw [hW]; exact (((((Below.refl _ _).alloc (Nat.le_refl _) _).alloc (by simp; try omega) _).alloc (by simp; try omega) _).alloc (by simp; try omega) _)
    have szW : W.heap.size = w.heap.size + 4 := by rw [hW]; simp
    clear hW
    replace HB := hide (onward HB.out LW)
    have Hm := hide bq0
    have Hsw := hide bq1
    have He := hide bq2
    have Hf := hide bq3
    clear bq0 bq1 bq2 bq3 LW szW
    refine (CC.out _ ((Hl.out.below HB.out).more HB.out.size) ((Hlr.out.below HB.out).more HB.out.size) ((Hlg.out.below HB.out).more HB.out.size) ((Hrs.out.below HB.out).more HB.out.size)).mono ?_
    rintro e w1 ⟨rfl, hb⟩
    replace HB := hide (onward HB.out hb)
    replace Hm := hide (blk_later Hm.out hb)
    replace Hsw := hide (blk_later Hsw.out hb)
    replace He := hide (blk_later He.out hb)
    replace Hf := hide (blk_later Hf.out hb)
    clear hb
    obtain ⟨m0, m1, m2, m3, m4, m5, m6, m7⟩ := Hm.out.c8
    have ltm := Hm.out.lt
    have x0 := Hsw.out.c 0 rfl
    have x1 := Hsw.out.c 1 rfl
    have x2 := Hsw.out.c 2 rfl
    have x3 := Hsw.out.c 3 rfl
    have x4 := Hsw.out.c 4 rfl
    have x5 := Hsw.out.c 5 rfl
    have x6 := Hsw.out.c 6 rfl
    have x7 := Hsw.out.c 7 rfl
    have x8 := Hsw.out.c 8 rfl
    have x9 := Hsw.out.c 9 rfl
    have x10 := Hsw.out.c 10 rfl
    have ltx := Hsw.out.lt
    obtain ⟨y0, y1⟩ := He.out.c2
    have lty := He.out.lt
    obtain ⟨f0, f1, f2, f3, f4, f5⟩ := Hf.out.c6
    have ltf := Hf.out.lt
    go_wp2_with fail
    have hsz1 : w.heap.size ≤ w1.heap.size := HB.out.size
    refine (Cr.out _ ((Hl.out.below HB.out).more HB.out.size) ((Hlr.out.below HB.out).more HB.out.size) ((Hlg.out.below HB.out).more HB.out.size) ((Hrs.out.below HB.out).more HB.out.size)).mono ?_
    rintro e w2 ⟨v, rfl, ho, hb⟩
    replace HB := hide (onward HB.out hb)
    replace Hm := hide (blk_later Hm.out hb)
    replace Hsw := hide (blk_later Hsw.out hb)
    replace He := hide (blk_later He.out hb)
    replace Hf := hide (blk_later Hf.out hb)
    clear hb m0 m1 m2 m3 m4 m5 m6 m7 ltm x0 x1 x2 x3 x4 x5 x6 x7 x8 x9 x10 ltx y0 y1 lty f0 f1 f2 f3 f4 f5 ltf
    have ho2 := own_mono ho hsz1
    go_wp2
    go_ret2
    exact ⟨_, rfl, by rw [Hlen.out]; exact ho2, HB.out⟩
  · have hd : (E != 0) = true := by simp [h0]
    rw [show rateR E RL = ([], E) from if_pos h0]
    go_enter Tryz.func7, Tryz.ntmps7
    have HB := hide (Below.refl w.heap.size w)
    go_wp2_with fail
    refine at_world fun W hW => ?_
    have bq0 : Blk W w.heap.size 26 #[.slice A nl cl, .slice Ar nr cr, .int .i64 a0, .int .i64 a1, .int .i64 b0, .int .i64 b1, .int .i64 c0, .int .i64 c1] := by rw [hW]; exact (((Blk.new _ _ _).alloc _).alloc _).alloc _
    have bq1 : Blk W (w.heap.size + 1) 31 #[.string s, .int .i64 sx, .int .i64 sy, .int .i64 z, .int .i64 r, .int .i64 g, .int .i64 st, .int .i64 wd, .int .i64 tilt, .int .i64 time, .slice As n cs] := by rw [hW]; exact ((blk_new_at (by simp)).alloc _).alloc _
    have bq2 : Blk W (w.heap.size + 2) 24 #[.int .i64 elo, .int .i64 ehi] := by rw [hW]; exact (blk_new_at (by simp)).alloc _
    have bq3 : Blk W (w.heap.size + 3) 36 #[.int .i64 gx, .int .i64 gy, .int .i64 gs, .int .i64 wi, .int .i64 hi, .slice Ag ng cg] := by rw [hW]; exact blk_new_at (by simp)
    have LW : Later w W := by rw [hW]; exact (((((Below.refl _ _).alloc (Nat.le_refl _) _).alloc (by simp; try omega) _).alloc (by simp; try omega) _).alloc (by simp; try omega) _)
    have szW : W.heap.size = w.heap.size + 4 := by rw [hW]; simp
    clear hW
    replace HB := hide (onward HB.out LW)
    have Hm := hide bq0
    have Hsw := hide bq1
    have He := hide bq2
    have Hf := hide bq3
    clear bq0 bq1 bq2 bq3 LW szW
    refine (CC.out _ ((Hl.out.below HB.out).more HB.out.size) ((Hlr.out.below HB.out).more HB.out.size) ((Hlg.out.below HB.out).more HB.out.size) ((Hrs.out.below HB.out).more HB.out.size)).mono ?_
    rintro e w1 ⟨rfl, hb⟩
    replace HB := hide (onward HB.out hb)
    replace Hm := hide (blk_later Hm.out hb)
    replace Hsw := hide (blk_later Hsw.out hb)
    replace He := hide (blk_later He.out hb)
    replace Hf := hide (blk_later Hf.out hb)
    clear hb
    go_wp2
    go_ret2
    exact spans_nil _ HB.out

set_option maxHeartbeats 4000000 in
set_option maxRecDepth 100000 in
theorem ready_any (s : ByteArray) (sx sy z r g st wd tilt time elo ehi gx gy gs wi hi ray : Int) (l rt gl : List (Int × Int)) (a0 a1 b0 b1 c0 c1 : Int) (n ng : Nat) (rr : Nat → Ray1) (A : Option Addr) (nl cl : Nat) (Ar : Option Addr) (nr cr : Nat) (As : Option Addr) (cs : Nat) (Ag : Option Addr) (cg : Nat) (w : World) 
    (hs : s.size ≤ 9223372036854775807) (hn : l.length = nl) (hmax : nl ≤ 9223372036854775807) (hnr : rt.length = nr) (hmaxr : nr ≤ 9223372036854775807) (hng : gl.length = ng) (hmaxg : ng ≤ 9223372036854775807) (hns : n ≤ maxLen)
    (hl : Ints w w.heap.size .i64 A (flat2 l)) (hlr : Ints w w.heap.size .i64 Ar (flat2 rt)) (hlg : Ints w w.heap.size .i64 Ag (flat2Q gl)) (hrs : RaysAt w w.heap.size As n rr) :
    Calls Tryz.prog 21 #[.agg (mdlC A nl cl Ar nr cr a0 a1 b0 b1 c0 c1), .agg (sweepC s sx sy z r g st wd tilt time As n cs), .agg #[.int .i64 elo, .int .i64 ehi], .agg (fldC gx gy gs wi hi Ag ng cg), .int .i64 ray] w fun e w' => ∃ A c, e = .returned (.tuple #[.slice A (if (allE s sx sy z r g st wd tilt time elo ehi gx gy gs wi hi ray l rt gl a0 a1 b0 b1 c0 c1 n ng rr) = 0 then g.toNat else 0) c, .int .i64 (allE s sx sy z r g st wd tilt time elo ehi gx gy gs wi hi ray l rt gl a0 a1 b0 b1 c0 c1 n ng rr)]) ∧ Below w.heap.size w w' ∧ ((allE s sx sy z r g st wd tilt time elo ehi gx gy gs wi hi ray l rt gl a0 a1 b0 b1 c0 c1 n ng rr) = 0 → Ints w' w'.heap.size .i64 A (flat2 (rowL (rowB gl sx sy r z st wd tilt ray elo ehi gx gy gs wi hi) g.toNat))) := by
  have cM := fun (W : World) (h1 : Ints W W.heap.size .i64 A (flat2 l)) (h2 : Ints W W.heap.size .i64 Ar (flat2 rt)) => RefCheckModel_any A nl cl l Ar nr cr rt (a0, a1) (b0, b1) (c0, c1) W hn hmax hnr hmaxr h1 h2
  have cS := fun (W : World) (h1 : RaysAt W W.heap.size As n rr) => RefCheckSweep_any s sx sy z r g st wd tilt time As n cs rr W hs hns h1
  have cB := fun (W : World) (h1 : Ints W W.heap.size .i64 Ag (flat2Q gl)) => RefBlocked_any s sx sy z r g st wd tilt elo ehi gx gy gs wi hi Ag ng cg gl ray W hs hng hmaxg h1
  unfold allE
  unfold BlockPost at cB
  unfold mdlV at cM
  unfold siteV fieldV at cB
  unfold sweepC at cS ⊢
  unfold mdlC fldC
  simp only [flat2Q_eq (rowL _ _)] at cB
  change ∀ (W : World) (h1 : Ints W W.heap.size .i64 Ag (flat2Q gl)), Calls _ _ _ W fun e w' => ∃ A c, _ ∧ _ ∧ (_ → Ints w' w'.heap.size .i64 A (flat2 (rowL (rowB gl sx sy r z st wd tilt ray elo ehi gx gy gs wi hi) g.toNat))) at cB
  generalize rowL (rowB gl sx sy r z st wd tilt ray elo ehi gx gy gs wi hi) g.toNat = BL at *
  generalize chkModel l rt (a0, a1) (b0, b1) (c0, c1) = mE at *
  generalize blockE (siteE (nameB s) sx sy z r g st wd) (fieldE (gridE gx gy gs wi hi) ng wi hi gl 20000) tilt elo ehi ray r = bE at *
  generalize sweepE (siteE (nameB s) sx sy z r g st wd) tilt time r g n rr = sE at *
  generalize g.toNat = G at *
  simp only at cM
  obtain ⟨nB, hnB⟩ : ∃ q, (if bE = 0 then G else 0) = q := ⟨_, rfl⟩
  simp only [hnB] at cB
  have CM := hide cM
  have CS := hide cS
  have CB := hide cB
  have Hl := hide hl
  have Hlr := hide hlr
  have Hlg := hide hlg
  have Hrs := hide hrs
  clear cM cS cB hl hlr hlg hrs
  clear hn hmax hnr hmaxr hng hmaxg hns hs
  by_cases hm : mE = 0
  · subst hm
    by_cases hsw : sE = 0
    · subst hsw
      rw [show readyE 0 0 bE = bE by simp [readyE]]
      have HN := hide hnB
      clear hnB
      rw [HN.out]
      go_enter Tryz.func21, Tryz.ntmps21
      have HB := hide (Below.refl w.heap.size w)
      go_wp2_with fail
      refine at_world fun W hW => ?_
      have bq0 : Blk W w.heap.size 45 #[.slice A nl cl, .slice Ar nr cr, .int .i64 a0, .int .i64 a1, .int .i64 b0, .int .i64 b1, .int .i64 c0, .int .i64 c1] := by rw [hW]; exact (((Blk.new _ _ _).alloc _).alloc _).alloc _
      have bq1 : Blk W (w.heap.size + 1) 31 #[.string s, .int .i64 sx, .int .i64 sy, .int .i64 z, .int .i64 r, .int .i64 g, .int .i64 st, .int .i64 wd, .int .i64 tilt, .int .i64 time, .slice As n cs] := by rw [hW]; exact ((blk_new_at (by simp)).alloc _).alloc _
      have bq2 : Blk W (w.heap.size + 2) 24 #[.int .i64 elo, .int .i64 ehi] := by rw [hW]; exact (blk_new_at (by simp)).alloc _
      have bq3 : Blk W (w.heap.size + 3) 36 #[.int .i64 gx, .int .i64 gy, .int .i64 gs, .int .i64 wi, .int .i64 hi, .slice Ag ng cg] := by rw [hW]; exact blk_new_at (by simp)
      have LW : Later w W := by rw [hW]; exact (((((Below.refl _ _).alloc (Nat.le_refl _) _).alloc (by simp; try omega) _).alloc (by simp; try omega) _).alloc (by simp; try omega) _)
      have szW : W.heap.size = w.heap.size + 4 := by rw [hW]; simp
      clear hW
      replace HB := hide (onward HB.out LW)
      have Hm := hide bq0
      have Hsw := hide bq1
      have He := hide bq2
      have Hf := hide bq3
      clear bq0 bq1 bq2 bq3 LW szW
      refine (CM.out _ ((Hl.out.below HB.out).more HB.out.size) ((Hlr.out.below HB.out).more HB.out.size)).mono ?_
      rintro e w1 ⟨rfl, hb⟩
      replace HB := hide (onward HB.out hb)
      replace Hm := hide (blk_later Hm.out hb)
      replace Hsw := hide (blk_later Hsw.out hb)
      replace He := hide (blk_later He.out hb)
      replace Hf := hide (blk_later Hf.out hb)
      clear hb
      have x0 := Hsw.out.c 0 rfl
      have x1 := Hsw.out.c 1 rfl
      have x2 := Hsw.out.c 2 rfl
      have x3 := Hsw.out.c 3 rfl
      have x4 := Hsw.out.c 4 rfl
      have x5 := Hsw.out.c 5 rfl
      have x6 := Hsw.out.c 6 rfl
      have x7 := Hsw.out.c 7 rfl
      have x8 := Hsw.out.c 8 rfl
      have x9 := Hsw.out.c 9 rfl
      have x10 := Hsw.out.c 10 rfl
      have ltx := Hsw.out.lt
      go_wp2_with fail
      refine (CS.out _ ((Hrs.out.below HB.out).more HB.out.size)).mono ?_
      rintro e w2 ⟨rfl, hb⟩
      replace HB := hide (onward HB.out hb)
      replace Hm := hide (blk_later Hm.out hb)
      replace Hsw := hide (blk_later Hsw.out hb)
      replace He := hide (blk_later He.out hb)
      replace Hf := hide (blk_later Hf.out hb)
      clear hb x0 x1 x2 x3 x4 x5 x6 x7 x8 x9 x10 ltx
      have x0 := Hsw.out.c 0 rfl
      have x1 := Hsw.out.c 1 rfl
      have x2 := Hsw.out.c 2 rfl
      have x3 := Hsw.out.c 3 rfl
      have x4 := Hsw.out.c 4 rfl
      have x5 := Hsw.out.c 5 rfl
      have x6 := Hsw.out.c 6 rfl
      have x7 := Hsw.out.c 7 rfl
      have x8 := Hsw.out.c 8 rfl
      have x9 := Hsw.out.c 9 rfl
      have x10 := Hsw.out.c 10 rfl
      have ltx := Hsw.out.lt
      obtain ⟨y0, y1⟩ := He.out.c2
      have lty := He.out.lt
      obtain ⟨f0, f1, f2, f3, f4, f5⟩ := Hf.out.c6
      have ltf := Hf.out.lt
      go_wp2_with fail
      refine (CB.out _ ((Hlg.out.below HB.out).more HB.out.size)).mono ?_
      rintro e w3 ⟨A1, c1', rfl, hb, hi1⟩
      replace HB := hide (onward HB.out hb)
      replace Hm := hide (blk_later Hm.out hb)
      replace Hsw := hide (blk_later Hsw.out hb)
      replace He := hide (blk_later He.out hb)
      replace Hf := hide (blk_later Hf.out hb)
      clear hb x0 x1 x2 x3 x4 x5 x6 x7 x8 x9 x10 ltx y0 y1 lty f0 f1 f2 f3 f4 f5 ltf
      have HI1 := hide hi1
      clear hi1
      go_wp2
      go_ret2
      exact ⟨_, _, rfl, HB.out, HI1.out⟩
    · have hd : (sE != 0) = true := by simp [hsw]
      rw [show readyE 0 sE bE = sE by simp [readyE, hsw], if_neg hsw]
      clear hnB
      go_enter Tryz.func21, Tryz.ntmps21
      have HB := hide (Below.refl w.heap.size w)
      go_wp2_with fail
      refine at_world fun W hW => ?_
      have bq0 : Blk W w.heap.size 45 #[.slice A nl cl, .slice Ar nr cr, .int .i64 a0, .int .i64 a1, .int .i64 b0, .int .i64 b1, .int .i64 c0, .int .i64 c1] := by rw [hW]; exact (((Blk.new _ _ _).alloc _).alloc _).alloc _
      have bq1 : Blk W (w.heap.size + 1) 31 #[.string s, .int .i64 sx, .int .i64 sy, .int .i64 z, .int .i64 r, .int .i64 g, .int .i64 st, .int .i64 wd, .int .i64 tilt, .int .i64 time, .slice As n cs] := by rw [hW]; exact ((blk_new_at (by simp)).alloc _).alloc _
      have bq2 : Blk W (w.heap.size + 2) 24 #[.int .i64 elo, .int .i64 ehi] := by rw [hW]; exact (blk_new_at (by simp)).alloc _
      have bq3 : Blk W (w.heap.size + 3) 36 #[.int .i64 gx, .int .i64 gy, .int .i64 gs, .int .i64 wi, .int .i64 hi, .slice Ag ng cg] := by rw [hW]; exact blk_new_at (by simp)
      have LW : Later w W := by rw [hW]; exact (((((Below.refl _ _).alloc (Nat.le_refl _) _).alloc (by simp; try omega) _).alloc (by simp; try omega) _).alloc (by simp; try omega) _)
      have szW : W.heap.size = w.heap.size + 4 := by rw [hW]; simp
      clear hW
      replace HB := hide (onward HB.out LW)
      have Hm := hide bq0
      have Hsw := hide bq1
      have He := hide bq2
      have Hf := hide bq3
      clear bq0 bq1 bq2 bq3 LW szW
      refine (CM.out _ ((Hl.out.below HB.out).more HB.out.size) ((Hlr.out.below HB.out).more HB.out.size)).mono ?_
      rintro e w1 ⟨rfl, hb⟩
      replace HB := hide (onward HB.out hb)
      replace Hm := hide (blk_later Hm.out hb)
      replace Hsw := hide (blk_later Hsw.out hb)
      replace He := hide (blk_later He.out hb)
      replace Hf := hide (blk_later Hf.out hb)
      clear hb
      have x0 := Hsw.out.c 0 rfl
      have x1 := Hsw.out.c 1 rfl
      have x2 := Hsw.out.c 2 rfl
      have x3 := Hsw.out.c 3 rfl
      have x4 := Hsw.out.c 4 rfl
      have x5 := Hsw.out.c 5 rfl
      have x6 := Hsw.out.c 6 rfl
      have x7 := Hsw.out.c 7 rfl
      have x8 := Hsw.out.c 8 rfl
      have x9 := Hsw.out.c 9 rfl
      have x10 := Hsw.out.c 10 rfl
      have ltx := Hsw.out.lt
      go_wp2_with fail
      refine (CS.out _ ((Hrs.out.below HB.out).more HB.out.size)).mono ?_
      rintro e w2 ⟨rfl, hb⟩
      replace HB := hide (onward HB.out hb)
      replace Hm := hide (blk_later Hm.out hb)
      replace Hsw := hide (blk_later Hsw.out hb)
      replace He := hide (blk_later He.out hb)
      replace Hf := hide (blk_later Hf.out hb)
      clear hb x0 x1 x2 x3 x4 x5 x6 x7 x8 x9 x10 ltx
      go_wp2
      go_ret2
      exact ⟨none, 0, rfl, HB.out, fun h => absurd h hsw⟩
  · have hd : (mE != 0) = true := by simp [hm]
    have hd2 : (mE == 0) = false := by simp [hm]
    rw [show readyE mE sE bE = mE by simp [readyE, hm], if_neg hm]
    clear hnB
    go_enter Tryz.func21, Tryz.ntmps21
    have HB := hide (Below.refl w.heap.size w)
    go_wp2_with fail
    refine at_world fun W hW => ?_
    have bq0 : Blk W w.heap.size 45 #[.slice A nl cl, .slice Ar nr cr, .int .i64 a0, .int .i64 a1, .int .i64 b0, .int .i64 b1, .int .i64 c0, .int .i64 c1] := by rw [hW]; exact (((Blk.new _ _ _).alloc _).alloc _).alloc _
    have bq1 : Blk W (w.heap.size + 1) 31 #[.string s, .int .i64 sx, .int .i64 sy, .int .i64 z, .int .i64 r, .int .i64 g, .int .i64 st, .int .i64 wd, .int .i64 tilt, .int .i64 time, .slice As n cs] := by rw [hW]; exact ((blk_new_at (by simp)).alloc _).alloc _
    have bq2 : Blk W (w.heap.size + 2) 24 #[.int .i64 elo, .int .i64 ehi] := by rw [hW]; exact (blk_new_at (by simp)).alloc _
    have bq3 : Blk W (w.heap.size + 3) 36 #[.int .i64 gx, .int .i64 gy, .int .i64 gs, .int .i64 wi, .int .i64 hi, .slice Ag ng cg] := by rw [hW]; exact blk_new_at (by simp)
    have LW : Later w W := by rw [hW]; exact (((((Below.refl _ _).alloc (Nat.le_refl _) _).alloc (by simp; try omega) _).alloc (by simp; try omega) _).alloc (by simp; try omega) _)
    have szW : W.heap.size = w.heap.size + 4 := by rw [hW]; simp
    clear hW
    replace HB := hide (onward HB.out LW)
    have Hm := hide bq0
    have Hsw := hide bq1
    have He := hide bq2
    have Hf := hide bq3
    clear bq0 bq1 bq2 bq3 LW szW
    refine (CM.out _ ((Hl.out.below HB.out).more HB.out.size) ((Hlr.out.below HB.out).more HB.out.size)).mono ?_
    rintro e w1 ⟨rfl, hb⟩
    replace HB := hide (onward HB.out hb)
    replace Hm := hide (blk_later Hm.out hb)
    replace Hsw := hide (blk_later Hsw.out hb)
    replace He := hide (blk_later He.out hb)
    replace Hf := hide (blk_later Hf.out hb)
    clear hb
    go_wp2
    go_ret2
    exact ⟨none, 0, rfl, HB.out, fun h => absurd h hm⟩
end Go.Proofs.YtepgpihobmjbdaaGreat
