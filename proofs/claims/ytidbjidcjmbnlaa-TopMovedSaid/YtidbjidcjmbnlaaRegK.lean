/-
  A region whose last operations wait for all others: they may be cut off, and are then walked in their order. (They may write what the others have read.)
  A drawn region whose last operations are cut off, without a variable that is filled; and an operation whose value follows from that of a call (an interface made of its answer).
  A region is cut ahead of an operation that waits for all that stands before it (a call that turns old memory); what stands behind is still drawn.
-/
import Derived.Test.YtidbjidcjmbnlaaRegM
import Derived.Tactics
import Derived.Test.YtidbjidcjmbnlaaRegY
import Derived.Test.YtidbjidcjmbnlaaRegC
set_option linter.unusedSimpArgs false
set_option linter.unusedVariables false
section
namespace Go.Proofs.Ytidbjidcjmbnlaa
open Go Go.RowKit

section
variable {P : Program} {lops : List Oper} {an : List (List Nat)} {m1 m2 : List Bool} {st : List St} {w0 : World} {a0 : Act} {shape : Nat → Par → Value} {wr : Nat → Nat → Prop} {R : Nat → (Nat → Par) → (Nat → Prop) → World → Prop}
theorem any_region_XA {Q : Exit → Act → World → Prop} {b af : (Nat → Par) → Act} (an : List (List Nat)) (m1 m2 : List Bool) (st : List St) (shape : Nat → Par → Value) (wr : Nat → Nat → Prop) (R : Nat → (Nat → Par) → (Nat → Prop) → World → Prop) (S1 S2 : Nat → Prop)
    (hb : regB .any lops an m1 m2 st = true)
    (hS1 : ∀ k, S1 k → k < w0.heap.size ∧ ∀ i, m1.getD i false = true → Eb an st wr i k) (hS2 : ∀ k, S2 k → k < w0.heap.size ∧ ∀ i, m2.getD i false = true → Eb an st wr i k)
    (hwl : ∀ s ∈ st, ∀ k, wr s.i k → k < w0.heap.size) (hwr : ∀ s ∈ st, ∀ s' ∈ st, s.i ≠ s'.i → ∀ k, wr s.i k → ¬ wr s'.i k)
    (hq1 : ∀ x D, Good S1 w0 D → wpQuiet P lops.toArray (fun w' => ∃ y : Of D, w' = y.val) (fun a' => a' = b x) (takeOps m1 lops) (putH shape x lops st a0))
    (hq2 : ∀ x D, Good S2 w0 D → wpQuiet P lops.toArray (fun w' => ∃ y : Of D, w' = y.val) (fun a' => a' = af x) (takeOps m2 lops) (b x))
    {ds : List Tmp} (hds : slotsB m1 m2 lops ds = true) (hcall : ∀ d ∈ ds, ∀ x x', (af x).tmps.getD d undef = (af x').tmps.getD d undef)
    (hob : obls P lops an st wr w0 af shape R st) (how : owes R st)
    (hfin : ∀ x w F, Kept (fun k => k < w0.heap.size ∧ ∀ s ∈ st, ¬ wr s.i k) w0 w → lives st R x F w st → Aparts st F → Q .normal (af x) w) :
    wpAny P .any lops.toArray Q lops.toArray.size (Array.replicate lops.toArray.size false) a0 { w0 with drawn := w0.drawn + 1 } := by
  have hk := chk_of hb
  have hok := of_walks hk hS1 hS2 hq1 hq2 hds hcall
  have ob : ∀ (l : List St), obls P lops an st wr w0 af shape R l → ∀ s ∈ l, Obl P lops an st wr w0 af shape R s := fun l => by
    induction l with
    | nil => intro _ s hs; cases hs
    | cons a l ih =>
      intro h s hs
      rcases List.mem_cons.1 hs with rfl | hs
      · exact h.1
      · exact ih h.2 s hs
  have ow : ∀ (l : List St), owes R l → ∀ s ∈ l, Owes R s := fun l => by
    induction l with
    | nil => intro _ s hs; cases hs
    | cons a l ih =>
      intro h s hs
      rcases List.mem_cons.1 hs with rfl | hs
      · exact h.1
      · exact ih h.2 s hs
  have lv : ∀ x w F (l : List St), (∀ s ∈ l, (∀ s' ∈ st, s'.tgt ≠ some s.i) → R s.i x (F s.i) w) → lives st R x F w l := fun x w F l => by
    induction l with
    | nil => intro _; trivial
    | cons a l ih =>
      intro h
      refine ⟨fun hl => h a List.mem_cons_self fun s' hs' ht => ?_, ih fun s hs => h s (List.mem_cons_of_mem _ hs)⟩
      have := List.all_eq_true.1 hl s' hs'
      rw [ht] at this
      simp at this
  refine (anyX hk hok (ob st hob) (fun s hs => (ow st how s hs).1) (fun s hs => (ow st how s hs).2) hwl hwr (fun x w F hkept hR hap => hfin x w F hkept (lv x w F st hR) hap) _ _ _ _ (fun _ _ => (none, 0)) (fun _ _ => False) ?_ ?_)
  · have := List.length_filter_le (fun i => !(Array.replicate lops.toArray.size false).getD i true) (List.range lops.length)
    simpa [unl] using this
  · have none : ∀ i, (Array.replicate lops.toArray.size false).getD i false = false := fun i => by
      simp [Array.getD]
    refine ⟨⟨by simp, fun j oj _ h => absurd ((none j).symm.trans h) (by simp)⟩, ⟨rfl, rfl, rfl, Nat.le_refl _, fun _ _ => rfl⟩, fun x _ => ⟨rfl, rfl, fun d => ⟨fun ⟨i, o, _, h, _⟩ => absurd ((none i).symm.trans h) (by simp), fun _ => rfl⟩⟩, fun s _ h => absurd ((none s.i).symm.trans h) (by simp), fun s _ _ _ h => absurd ((none s.i).symm.trans h) (by simp), fun s _ h => absurd ((none s.i).symm.trans h) (by simp)⟩
theorem any_region_F {Q : Exit → Act → World → Prop} {b af : (Nat → Par) → Act} (an : List (List Nat)) (m1 m2 : List Bool) (st : List St) (fills : List (Nat × Nat)) (early : List Nat) (shape : Nat → Par → Value) (R : Nat → (Nat → Par) → (Nat → Prop) → World → Prop) (bf : Act → (Nat → Par) → Act)
    (hb : regB .any lops an m1 m2 st = true) (he : earlyB lops an m1 early = true) (hbf : ∀ x, putH shape x lops st a0 = bf a0 x) (ds : List Tmp) (hds : slotsB m1 m2 lops ds = true)
    (hl : ∀ p ∈ fills, p.2 < w0.heap.size) (hd : ∀ p ∈ fills, ∀ q ∈ fills, p.1 ≠ q.1 → p.2 ≠ q.2)
    (hq : ∀ (x : Nat → Par) (D : World → Prop), Good (fun k => k < w0.heap.size ∧ ∀ p ∈ fills, p.2 = k → p.1 ∈ early) w0 D → wpQuiet P lops.toArray (fun w' => ∃ y : Of D, w' = y.val) (fun a' => a' = b x) (takeOps m1 lops) (bf a0 x))
    (hq2 : ∀ (x : Nat → Par) (D : World → Prop), Good (fun k => k < w0.heap.size ∧ free fills k) w0 D → wpQuiet P lops.toArray (fun w' => ∃ y : Of D, w' = y.val) (fun a' => a' = af x) (takeOps m2 lops) (b x))
    (hcall : ∀ d ∈ ds, ∀ (x x' : Nat → Par), (af x).tmps.getD d undef = (af x').tmps.getD d undef)
    (hob : obls P lops an st (wrF fills) w0 af shape R st) (how : owes R st)
    (hfin : ∀ (x : Nat → Par) (w : World) (F : Nat → Nat → Prop), Kept (fun k => k < w0.heap.size ∧ free fills k) w0 w → lives st R x F w st → Aparts st F → Q .normal (af x) w) : wpAny P .any lops.toArray Q lops.toArray.size (Array.replicate lops.toArray.size false) a0 { w0 with drawn := w0.drawn + 1 } := by
  have hk := chk_of hb
  refine any_region_XA (b := b) (af := af) an m1 m2 st shape (wrF fills) R (fun k => k < w0.heap.size ∧ ∀ p ∈ fills, p.2 = k → p.1 ∈ early) (fun k => k < w0.heap.size ∧ free fills k) hb ?_ (fun k hk => ⟨hk.1, fun i _ s _ h => absurd rfl (hk.2 _ h)⟩)
    (fun s _ k h => hl _ h) (fun s _ s' _ hne k h h' => hd _ h _ h' hne rfl) (fun x D hD => by rw [hbf]; exact hq x D hD) hq2 hds hcall hob how fun x w F hkk hl hap => hfin x w F (hkk.weak fun k hk => ⟨hk.1, fun s _ h => hk.2 _ h rfl⟩) hl hap
  intro k hk'
  exact ⟨hk'.1, fun i hi s _ hw => .inr (early_spec hk.len1 he (hk'.2 _ hw rfl) hi)⟩
end

section
variable {P : Program} {md : Region.Mode} {ops small : Array Oper} {Q Q1 : Exit → Act → World → Prop}

theorem oper_imp {o : Oper} {a : Act} {w : World} {K : Act → World → Prop} (hq : ∀ e a w, e ≠ .normal → ¬ Q1 e a w) (h : o.wp P a w K Q1) : o.wp P a w K Q := by
  unfold Oper.wp at *
  generalize (execOp a.eval o).run P w = r at *
  cases r with
  | ok n w' =>
    cases n <;> simp only [Oper.upon] at h ⊢ <;>
      first
        | exact h
        | exact Calls.mono h (fun e w'' he => by
            cases e with
            | returned v => exact he
            | panicked c => exact absurd he (hq _ _ _ (by simp))
            | outgrown => obtain ⟨a, w, he⟩ := he; exact absurd he (hq _ _ _ (by simp)))
  | halt x w' =>
    cases x <;> simp only [Oper.upon] at h ⊢
    exact absurd h (hq _ _ _ (by simp))
/-- Operations up to `n` wait for elder ones alone, and ask elder ones. -/
def backB (md : Region.Mode) (ops : Array Oper) : Bool :=
  (List.range ops.size).all fun i => match ops[i]? with
    | some o => (o.after.all fun e => !Region.binds md e || decide (e.on < i)) && (match o.guard with | some (g, _) => decide (g < i) | none => true)
    | none => true
theorem back_spec (h : backB md ops = true) {i : Nat} {o : Oper} (ho : ops[i]? = some o) : (∀ e ∈ o.after, Region.binds md e = true → e.on < i) ∧ ∀ g b, o.guard = some (g, b) → g < i := by
  have h1 := List.all_eq_true.1 h i (List.mem_range.2 (Array.getElem?_eq_some_iff.1 ho).1)
  simp only [ho, Bool.and_eq_true] at h1
  refine ⟨fun e he hb => ?_, fun g b hg => ?_⟩
  · have := (Array.all_eq_true_iff_forall_mem.1 h1.1) e he
    simpa [hb] using this
  · have := h1.2
    rw [hg] at this
    simpa using this
/-- Where one is left, one is ready. -/
theorem ready_some (hb : backB md ops = true) {L : Array Bool} : ∀ (i : Nat), i < ops.size → L.getD i true = false → ∃ j, j ≤ i ∧ j ∈ Region.ready md ops L := by
  intro i
  induction i using Nat.strongRecOn with
  | _ i ih =>
    intro hi hL
    have ho : ops[i]? = some ops[i] := Array.getElem?_eq_getElem hi
    by_cases hall : ∀ e ∈ (ops[i]).after, Region.binds md e = true → L.getD e.on false = true
    · exact ⟨i, Nat.le_refl _, mem_ready.2 ⟨hL, _, ho, hall⟩⟩
    · simp only [Classical.not_forall] at hall
      obtain ⟨e, he, hbe, hne⟩ := hall
      have hlt := (back_spec hb ho).1 e he hbe
      have hLs : i < L.size := by
        rcases Nat.lt_or_ge i L.size with h | h
        · exact h
        · simp [Array.getElem?_eq_none h] at hL
      have hf : L.getD e.on true = false := by
        have : e.on < L.size := by omega
        simp [this] at hne ⊢; exact hne
      obtain ⟨j, h1, h2⟩ := ih e.on hlt (by omega) hf
      exact ⟨j, by omega, h2⟩
theorem ready_none {L : Array Bool} (h : ∀ i, i < ops.size → L.getD i true = true) : Region.ready md ops L = [] := by
  cases hr : Region.ready md ops L with
  | nil => rfl
  | cons j t =>
    have hj : j ∈ Region.ready md ops L := by rw [hr]; exact List.mem_cons_self
    obtain ⟨h1, o, ho, _⟩ := mem_ready.1 hj
    rw [h j (Array.getElem?_eq_some_iff.1 ho).1] at h1
    cases h1
theorem late_chain {n : Nat} (hl : lateB md ops n = true) {t : Nat} (hn : n < t) (ht : t < ops.size) : waitsFor md ops t (t - 1) = true := by
  simp only [lateB, Bool.or_eq_true, decide_eq_true_eq, Bool.and_eq_true] at hl
  rcases hl with hl | ⟨_, hch⟩
  · omega
  · have := List.all_eq_true.1 hch t (List.mem_range.2 ht)
    simp only [Bool.or_eq_true, decide_eq_true_eq] at this
    rcases this with h | h
    · omega
    · exact h
theorem getD_ft {L : Array Bool} {i : Nat} (h : i < L.size) (d d' : Bool) : L.getD i d = L.getD i d' := by simp [h]
/-- The last ones come in their order. -/
theorem any_tail {n : Nat} (hb : backB md ops = true) (hl : lateB md ops n = true) (f : Nat) : ∀ (r p : Nat) (L : Array Bool) (a : Act) (w : World), p + r = ops.size → n ≤ p → L.size = ops.size → (∀ i, i < p → L.getD i false = true) → (∀ i, p ≤ i → L.getD i false = false) →
    wpOps P ops Q (List.range' p r) a w → wpAny P md ops Q (f + r) L a w
  | 0, p, L, a, w, hp, _, hs, hlo, _, h => by
    have hr : Region.ready md ops L = [] := ready_none fun i hi => by rw [getD_ft (by omega) true false]; exact hlo i (by omega)
    have h' : Q .normal a w := by simpa [wpOps] using h
    cases f with
    | zero => exact ⟨hr, h'⟩
    | succ f => exact ⟨fun _ => h', fun i hi => by rw [hr] at hi; cases hi⟩
  | r + 1, p, L, a, w, hp, hnp, hs, hlo, hhi, h => by
    have hps : p < ops.size := by omega
    rw [List.range'_succ, wpOps_cons] at h
    have hone : ∀ i ∈ Region.ready md ops L, i = p := fun i hi => by
      obtain ⟨h1, o, ho, hall⟩ := mem_ready.1 hi
      have his := (Array.getElem?_eq_some_iff.1 ho).1
      rcases Nat.lt_trichotomy i p with h | h | h
      · rw [getD_ft (by omega) true false, hlo i h] at h1; cases h1
      · exact h
      · obtain ⟨o', ho', e, he, hbe, hon⟩ := waits_spec (late_chain hl (by omega) his)
        have : o' = o := Option.some.inj (ho'.symm.trans ho)
        subst this
        have := hall e he hbe
        rw [hon, hhi (i - 1) (by omega)] at this
        cases this
    refine ⟨fun hr => ?_, fun i hi => ?_⟩
    · obtain ⟨j, _, hj⟩ := ready_some hb (L := L) p hps (by rw [getD_ft (by omega) true false]; exact hhi p (Nat.le_refl _))
      rw [hr] at hj; cases hj
    · have := hone i hi
      subst this
      refine wpOp_mono (fun a' w' hk => any_tail hb hl f r (i + 1) _ a' w' (by omega) (by omega) (by simp [hs]) (fun j hj => ?_) (fun j hj => ?_) hk) h
      · by_cases hij : i = j
        · subst hij; simp [Array.getD, hs, hps]
        · rw [getD_set_ne false hij]; exact hlo j (by omega)
      · rw [getD_set_ne false (by omega)]; exact hhi j (by omega)
theorem any_cut {n : Nat} (hb : backB md ops = true) (hl : lateB md ops n = true) (hn : n ≤ ops.size) (hss : small.size = n) (hsm : ∀ i, i < n → small[i]? = ops[i]?)
    (hq : ∀ e a w, e ≠ .normal → ¬ Q1 e a w) (hq1 : ∀ a w, Q1 .normal a w → wpOps P ops Q (List.range' n (ops.size - n)) a w) :
    ∀ (f : Nat) (L L' : Array Bool) (a : Act) (w : World), L.size = n → L'.size = ops.size → (∀ i, i < n → L'.getD i false = L.getD i false) → (∀ i, n ≤ i → L'.getD i false = false) → Closed md ops L' →
      wpAny P md small Q1 f L a w → wpAny P md ops Q (f + (ops.size - n)) L' a w := by
  intro f
  have tail : ∀ (f : Nat) (L L' : Array Bool) (a : Act) (w : World), L.size = n → L'.size = ops.size → (∀ i, i < n → L'.getD i false = L.getD i false) → (∀ i, n ≤ i → L'.getD i false = false) →
      (∀ i, i < n → L.getD i true = true) → wpAny P md small Q1 f L a w → wpAny P md ops Q (f + (ops.size - n)) L' a w := fun f L L' a w hL hL' hag hhi hall h => by
    have hr : Region.ready md small L = [] := ready_none fun i hi => hall i (by omega)
    have hn1 : Q1 .normal a w := by
      cases f with
      | zero => exact h.2
      | succ f => exact h.1 hr
    exact any_tail hb hl f (ops.size - n) n L' a w (by omega) (Nat.le_refl _) hL' (fun i hi => by rw [hag i hi, getD_ft (by omega) false true]; exact hall i hi) hhi (hq1 _ _ hn1)
  have rdy : ∀ (L L' : Array Bool), L.size = n → L'.size = ops.size → (∀ i, i < n → L'.getD i false = L.getD i false) → ∀ i, i < n → (i ∈ Region.ready md ops L' ↔ i ∈ Region.ready md small L) := fun L L' hL hL' hag i hi => by
    rw [mem_ready, mem_ready, hsm i hi, getD_ft (L := L') (by omega) true false, getD_ft (L := L) (by omega) true false, hag i hi]
    refine and_congr_right fun _ => exists_congr fun o => and_congr_right fun ho => ?_
    refine forall_congr' fun e => forall_congr' fun he => forall_congr' fun hbe => ?_
    rw [hag e.on (by have := (back_spec hb ho).1 e he hbe; omega)]
  induction f with
  | zero =>
    intro L L' a w hL hL' hag hhi hc h
    by_cases hall : ∀ i, i < n → L.getD i true = true
    · exact tail 0 L L' a w hL hL' hag hhi hall h
    · exfalso
      simp only [Classical.not_forall] at hall
      obtain ⟨i, hi, hne⟩ := hall
      obtain ⟨j, hj, hr⟩ := ready_some hb (L := L') i (by omega) (by
        rw [getD_ft (by omega) true false, hag i hi, getD_ft (by omega) false true]; simpa using hne)
      have := (rdy L L' hL hL' hag j (by omega)).1 hr
      rw [h.1] at this; cases this
  | succ f ih =>
    intro L L' a w hL hL' hag hhi hc h
    by_cases hall : ∀ i, i < n → L.getD i true = true
    · exact tail (f + 1) L L' a w hL hL' hag hhi hall h
    · simp only [Classical.not_forall] at hall
      obtain ⟨i, hi, hne⟩ := hall
      have hun : L'.getD i true = false := by rw [getD_ft (by omega) true false, hag i hi, getD_ft (by omega) false true]; simpa using hne
      obtain ⟨j, hj, hr⟩ := ready_some hb (L := L') i (by omega) hun
      rw [show f + 1 + (ops.size - n) = (f + (ops.size - n)) + 1 by omega]
      refine ⟨fun h0 => (by rw [h0] at hr; cases hr), fun k hk => ?_⟩
      have hkn := late_spec hc hl hi hun hk
      have hst := h.2 k ((rdy L L' hL hL' hag k hkn).1 hk)
      have next : ∀ a' w', wpAny P md small Q1 f (L.setIfInBounds k true) a' w' → wpAny P md ops Q (f + (ops.size - n)) (L'.setIfInBounds k true) a' w' := fun a' w' hk' =>
        ih _ _ a' w' (by simp [hL]) (by simp [hL']) (fun x hx => by
          by_cases hkx : k = x
          · subst hkx; simp [Array.getD, hL, hL', hx, show k < ops.size by omega]
          · rw [getD_set_ne false hkx, getD_set_ne false hkx]; exact hag x hx) (fun x hx => by rw [getD_set_ne false (by omega)]; exact hhi x hx) (hc.set hk) hk'
      unfold wpOp at hst ⊢
      rw [hsm k hkn] at hst
      obtain ⟨_, o, ho, _⟩ := mem_ready.1 hk
      simp only [ho] at hst ⊢
      have hy : Region.wanted o (yielded small a.tmps) = Region.wanted o (yielded ops a.tmps) := by
        unfold Region.wanted
        cases hg : o.guard with
        | none => rfl
        | some gw =>
          obtain ⟨g, b⟩ := gw
          have := (back_spec hb ho).2 g b hg
          have e : yielded small a.tmps g = yielded ops a.tmps g := by unfold yielded; rw [hsm g (by omega)]
          simp only [e]
      rw [hy] at hst
      split
      · rename_i hw
        simp only [hw, if_true] at hst
        rcases hst with hst | ⟨_, a2, w2, h2⟩
        · exact .inl (oper_imp hq (Oper.wp_mono next hst))
        · exact absurd h2 (hq _ _ _ (by simp))
      · rename_i hw
        simp only [hw] at hst
        exact next _ _ hst
end
/-- THE LAST OPERATIONS ARE CUT OFF: `n` others; the last ones are walked behind them. -/
theorem wp_region_cut {P : Program} {id : Nat} {Q : Exit → Act → World → Prop} {a : Act} {w : World} {lops l1 l2 : List Oper} (n : Nat) (hm : P.follows .mixedOrders = true) (h1 : lops.take n = l1) (h2 : lops.drop n = l2) (hb : (backB .any lops.toArray && lateB .any lops.toArray n && decide (n ≤ lops.length)) = true)
    (h : wpAny P .any l1.toArray (fun e a' w' => e = .normal ∧ wpList P lops.toArray Q l2 a' w') l1.toArray.size (Array.replicate l1.toArray.size false) a { w with drawn := w.drawn + 1 }) : (Code.region id lops.toArray true).wp P Q a w := by
  simp only [Bool.and_eq_true, decide_eq_true_eq] at hb
  obtain ⟨⟨hb, hl⟩, hn⟩ := hb
  subst h1
  have hd : l2.length = lops.length - n := by rw [← h2]; simp
  have e2 := wpOps_eq_wpList (P := P) (ops := lops.toArray) (Q := Q) l2 n (fun j => by rw [← h2]; simp)
  rw [hd] at e2
  have hs : (lops.take n).toArray.size = n := by simp; omega
  refine wp_region_any hm ?_
  have := any_cut (ops := lops.toArray) (Q := Q) hb hl (by simpa using hn) hs (fun i hi => by simp [hi]) (fun e a w he h => he h.1) (fun a w h => by simp only [List.size_toArray]; rw [e2]; exact h.2) _ _ (Array.replicate lops.toArray.size false) a _ (by simp; omega) (by simp) (fun i hi => by simp [Array.getD]) (fun i hi => by simp [Array.getD]) ⟨by simp, fun j oj _ hj => by simp [Array.getD] at hj⟩ h
  rwa [hs, show n + (lops.toArray.size - n) = lops.toArray.size by simp; omega] at this
end Go.Proofs.Ytidbjidcjmbnlaa
end
section
namespace Go.Proofs.Ytidbjidcjmbnlaa
open Go Go.RowKit

section
variable {P : Program} {lops : List Oper} {an : List (List Nat)} {st : List St} {wr : Nat → Nat → Prop} {w0 : World} {a0 : Act} {af : (Nat → Par) → Act} {shape : Nat → Par → Value} {R : Nat → (Nat → Par) → (Nat → Prop) → World → Prop} {s : St} {o : Oper}
theorem any_region_J {Q : Exit → Act → World → Prop} (an : List (List Nat)) (m1 : List Bool) (st : List St) (shape : Nat → Par → Value) (R : Nat → (Nat → Par) → (Nat → Prop) → World → Prop) (bf : Act → (Nat → Par) → Act)
    (hb : regB .any lops an m1 (List.replicate lops.length false) st = true) (hbf : ∀ x, putH shape x lops st a0 = bf a0 x) (ds : List Tmp) (hds : slotsB m1 (List.replicate lops.length false) lops ds = true)
    (hq : ∀ (x : Nat → Par) (D : World → Prop), Good (fun k => k < w0.heap.size) w0 D → wpQuiet P lops.toArray (fun w' => ∃ y : Of D, w' = y.val) (fun a' => a' = af x) (takeOps m1 lops) (bf a0 x))
    (hcall : ∀ d ∈ ds, ∀ (x x' : Nat → Par), (af x).tmps.getD d undef = (af x').tmps.getD d undef)
    (hob : obls P lops an st (fun _ _ => False) w0 af shape R st) (how : owes R st)
    (hfin : ∀ (x : Nat → Par) (w : World) (F : Nat → Nat → Prop), Later w0 w → lives st R x F w st → Aparts st F → Q .normal (af x) w) : wpAny P .any lops.toArray Q lops.toArray.size (Array.replicate lops.toArray.size false) a0 { w0 with drawn := w0.drawn + 1 } := by
  refine any_region_XA (b := af) (af := af) an m1 (List.replicate lops.length false) st shape (fun _ _ => False) R (fun k => k < w0.heap.size) (fun k => k < w0.heap.size) hb (fun k hk => ⟨hk, fun i _ s _ h => h.elim⟩) (fun k hk => ⟨hk, fun i _ s _ h => h.elim⟩)
    (fun s _ k h => h.elim) (fun s _ s' _ _ k h => h.elim) (fun x D hD => by rw [hbf]; exact hq x D hD) (fun x D hD => by rw [take_none]; exact wpQuiet_nil rfl) hds hcall hob how fun x w F hk hl hap => hfin x w F ⟨hk.os, hk.tape, hk.output, hk.size, fun k h => hk.block k ⟨h, fun _ _ h => h⟩⟩ hl hap
theorem any_region_P {Q : Exit → Act → World → Prop} (ki : Nat) (v0 : Value) (an : List (List Nat)) (m1 : List Bool) (st : List St) (shape : Nat → Par → Value) (R : Nat → (Nat → Par) → (Nat → Prop) → World → Prop) (bf : Act → (Nat → Par) → Act)
    (hb : regB .any lops an m1 (List.replicate lops.length false) st = true) (hbf : ∀ x, putH shape x lops st a0 = bf a0 x) (ds : List Tmp) (hds : slotsB m1 (List.replicate lops.length false) lops ds = true) (hlt : ∀ g, v0.ownBlock = some g → g < w0.heap.size)
    (hq : ∀ (x : Nat → Par) (D : World → Prop), Good (fun k => k < w0.heap.size ∧ v0.ownBlock ≠ some k) w0 D → wpQuiet P lops.toArray (fun w' => ∃ y : Of D, w' = y.val) (fun a' => a' = af x) (takeOps m1 lops) (bf a0 x))
    (hcall : ∀ d ∈ ds, ∀ (x x' : Nat → Par), (af x).tmps.getD d undef = (af x').tmps.getD d undef)
    (hob : obls P lops an st (wrP ki v0) w0 af shape R st) (how : owes R st)
    (hfin : ∀ (x : Nat → Par) (w : World) (F : Nat → Nat → Prop), w0.grownBy w v0.ownBlock → lives st R x F w st → Aparts st F → Q .normal (af x) w) : wpAny P .any lops.toArray Q lops.toArray.size (Array.replicate lops.toArray.size false) a0 { w0 with drawn := w0.drawn + 1 } := by
  refine any_region_XA (b := af) (af := af) an m1 (List.replicate lops.length false) st shape (wrP ki v0) R (fun k => k < w0.heap.size ∧ v0.ownBlock ≠ some k) (fun k => k < w0.heap.size ∧ v0.ownBlock ≠ some k) hb (fun k hk => ⟨hk.1, fun i _ s _ h => absurd h.2 hk.2⟩) (fun k hk => ⟨hk.1, fun i _ s _ h => absurd h.2 hk.2⟩)
    (fun s _ k h => hlt k h.2) (fun s _ s' _ hne k h h' => hne (h.1.trans h'.1.symm)) (fun x D hD => by rw [hbf]; exact hq x D hD) (fun x D hD => by rw [take_none]; exact wpQuiet_nil rfl) hds hcall hob how fun x w F hk hl hap => hfin x w F ⟨hk.os, hk.tape, hk.output, hk.size, fun k h hne => hk.block k ⟨h, fun _ _ h => hne h.2.symm⟩⟩ hl hap
end
end Go.Proofs.Ytidbjidcjmbnlaa
end
section
namespace Go.Proofs.Ytidbjidcjmbnlaa
open Go Go.RowKit

section
variable {P : Program} {md : Region.Mode} {ops small : Array Oper} {Q Q1 : Exit → Act → World → Prop}
/-- The operation `n` waits for all before it; each one behind waits for one from `n` on. -/
def lateF (md : Region.Mode) (ops : Array Oper) (n : Nat) : Bool :=
  ((List.range n).all fun i => (List.range (n + 1)).any fun j => decide (i < j) && waitsFor md ops j i) && ((List.range ops.size).all fun t => decide (t ≤ n) || (List.range t).any fun j => decide (n ≤ j) && waitsFor md ops t j)
theorem late_specF {n i j : Nat} {listed : Array Bool} (hc : Closed md ops listed) (hl : lateF md ops n = true) (hi : i < n) (hun : listed.getD i true = false) (hj : j ∈ Region.ready md ops listed) : j < n := by
  rcases Nat.lt_or_ge j n with h | h
  · exact h
  · exfalso
    obtain ⟨hjl, oj, hoj, hall⟩ := mem_ready.1 hj
    have hjs : j < ops.size := (Array.getElem?_eq_some_iff.1 hoj).1
    simp only [lateF, Bool.and_eq_true] at hl
    obtain ⟨hs, hch⟩ := hl
    obtain ⟨h1, h2⟩ := late_head hc hs (by omega) _ i rfl hi hun
    have un : ∀ t, n ≤ t → t < ops.size → listed.getD t false = false := fun t => by
      induction t using Nat.strongRecOn with
      | _ t ih =>
        intro ht hts
        by_cases e : t = n
        · subst e; exact h2
        · have h3 := List.all_eq_true.1 hch t (List.mem_range.2 hts)
          simp only [Bool.or_eq_true, decide_eq_true_eq] at h3
          rcases h3 with h3 | h3
          · omega
          · obtain ⟨k, hk, hk2⟩ := List.any_eq_true.1 h3
            simp only [Bool.and_eq_true, decide_eq_true_eq] at hk2
            have hkt := List.mem_range.1 hk
            obtain ⟨ot, hot, e, he, hb, hon⟩ := waits_spec hk2.2
            cases hl2 : listed.getD t false with
            | false => rfl
            | true =>
              have := hc.2 t ot hot hl2 e he hb
              rw [hon, ih k hkt hk2.1 (by omega)] at this
              cases this
    by_cases e : j = n
    · subst e; exact h1 hj
    · have h3 := List.all_eq_true.1 hch j (List.mem_range.2 hjs)
      simp only [Bool.or_eq_true, decide_eq_true_eq] at h3
      rcases h3 with h3 | h3
      · omega
      · obtain ⟨k, hk, hk2⟩ := List.any_eq_true.1 h3
        simp only [Bool.and_eq_true, decide_eq_true_eq] at hk2
        have hkt := List.mem_range.1 hk
        obtain ⟨ot, hot, e2, he, hb, hon⟩ := waits_spec hk2.2
        have : ot = oj := Option.some.inj (hot.symm.trans hoj)
        subst this
        have h5 := hall e2 he hb
        rw [hon, un k hk2.1 (by omega)] at h5
        cases h5
theorem any_cutA {n : Nat} {Ln : Array Bool} (hLs : Ln.size = ops.size) (hLn : ∀ i, i < ops.size → Ln.getD i false = decide (i < n)) (hb : backB md ops = true) (hl : lateF md ops n = true) (hn : n ≤ ops.size) (hss : small.size = n) (hsm : ∀ i, i < n → small[i]? = ops[i]?)
    (hq : ∀ e a w, e ≠ .normal → ¬ Q1 e a w) (hq1 : ∀ f a w, Q1 .normal a w → wpAny P md ops Q (f + (ops.size - n)) Ln a w) :
    ∀ (f : Nat) (L L' : Array Bool) (a : Act) (w : World), L.size = n → L'.size = ops.size → (∀ i, i < n → L'.getD i false = L.getD i false) → (∀ i, n ≤ i → L'.getD i false = false) → Closed md ops L' →
      wpAny P md small Q1 f L a w → wpAny P md ops Q (f + (ops.size - n)) L' a w := by
  intro f
  have tail : ∀ (f : Nat) (L L' : Array Bool) (a : Act) (w : World), L.size = n → L'.size = ops.size → (∀ i, i < n → L'.getD i false = L.getD i false) → (∀ i, n ≤ i → L'.getD i false = false) →
      (∀ i, i < n → L.getD i true = true) → wpAny P md small Q1 f L a w → wpAny P md ops Q (f + (ops.size - n)) L' a w := fun f L L' a w hL hL' hag hhi hall h => by
    have hr : Region.ready md small L = [] := ready_none fun i hi => hall i (by omega)
    have hn1 : Q1 .normal a w := by
      cases f with
      | zero => exact h.2
      | succ f => exact h.1 hr
    have e : L' = Ln := by
      refine Array.ext (by rw [hL', hLs]) fun i h1 h2 => ?_
      have h3 : L'.getD i false = L'[i] := by simp [Array.getD, h1]
      have h4 : Ln.getD i false = Ln[i] := by simp [Array.getD, h2]
      rw [← h3, ← h4, hLn i (by omega)]
      by_cases hin : i < n
      · rw [hag i hin, getD_ft (by omega) false true, hall i hin, decide_eq_true hin]
      · rw [hhi i (by omega), decide_eq_false hin]
    rw [e]
    exact hq1 f a w hn1
  have rdy : ∀ (L L' : Array Bool), L.size = n → L'.size = ops.size → (∀ i, i < n → L'.getD i false = L.getD i false) → ∀ i, i < n → (i ∈ Region.ready md ops L' ↔ i ∈ Region.ready md small L) := fun L L' hL hL' hag i hi => by
    rw [mem_ready, mem_ready, hsm i hi, getD_ft (L := L') (by omega) true false, getD_ft (L := L) (by omega) true false, hag i hi]
    refine and_congr_right fun _ => exists_congr fun o => and_congr_right fun ho => ?_
    refine forall_congr' fun e => forall_congr' fun he => forall_congr' fun hbe => ?_
    rw [hag e.on (by have := (back_spec hb ho).1 e he hbe; omega)]
  induction f with
  | zero =>
    intro L L' a w hL hL' hag hhi hc h
    by_cases hall : ∀ i, i < n → L.getD i true = true
    · exact tail 0 L L' a w hL hL' hag hhi hall h
    · exfalso
      simp only [Classical.not_forall] at hall
      obtain ⟨i, hi, hne⟩ := hall
      obtain ⟨j, hj, hr⟩ := ready_some hb (L := L') i (by omega) (by
        rw [getD_ft (by omega) true false, hag i hi, getD_ft (by omega) false true]; simpa using hne)
      have := (rdy L L' hL hL' hag j (by omega)).1 hr
      rw [h.1] at this; cases this
  | succ f ih =>
    intro L L' a w hL hL' hag hhi hc h
    by_cases hall : ∀ i, i < n → L.getD i true = true
    · exact tail (f + 1) L L' a w hL hL' hag hhi hall h
    · simp only [Classical.not_forall] at hall
      obtain ⟨i, hi, hne⟩ := hall
      have hun : L'.getD i true = false := by rw [getD_ft (by omega) true false, hag i hi, getD_ft (by omega) false true]; simpa using hne
      obtain ⟨j, hj, hr⟩ := ready_some hb (L := L') i (by omega) hun
      rw [show f + 1 + (ops.size - n) = (f + (ops.size - n)) + 1 by omega]
      refine ⟨fun h0 => (by rw [h0] at hr; cases hr), fun k hk => ?_⟩
      have hkn := late_specF hc hl hi hun hk
      have hst := h.2 k ((rdy L L' hL hL' hag k hkn).1 hk)
      have next : ∀ a' w', wpAny P md small Q1 f (L.setIfInBounds k true) a' w' → wpAny P md ops Q (f + (ops.size - n)) (L'.setIfInBounds k true) a' w' := fun a' w' hk' =>
        ih _ _ a' w' (by simp [hL]) (by simp [hL']) (fun x hx => by
          by_cases hkx : k = x
          · subst hkx; simp [Array.getD, hL, hL', hx, show k < ops.size by omega]
          · rw [getD_set_ne false hkx, getD_set_ne false hkx]; exact hag x hx) (fun x hx => by rw [getD_set_ne false (by omega)]; exact hhi x hx) (hc.set hk) hk'
      unfold wpOp at hst ⊢
      rw [hsm k hkn] at hst
      obtain ⟨_, o, ho, _⟩ := mem_ready.1 hk
      simp only [ho] at hst ⊢
      have hy : Region.wanted o (yielded small a.tmps) = Region.wanted o (yielded ops a.tmps) := by
        unfold Region.wanted
        cases hg : o.guard with
        | none => rfl
        | some gw =>
          obtain ⟨g, b⟩ := gw
          have := (back_spec hb ho).2 g b hg
          have e : yielded small a.tmps g = yielded ops a.tmps g := by unfold yielded; rw [hsm g (by omega)]
          simp only [e]
      rw [hy] at hst
      split
      · rename_i hw
        simp only [hw, if_true] at hst
        rcases hst with hst | ⟨_, a2, w2, h2⟩
        · exact .inl (oper_imp hq (Oper.wp_mono next hst))
        · exact absurd h2 (hq _ _ _ (by simp))
      · rename_i hw
        simp only [hw] at hst
        exact next _ _ hst
end
/-- THE REGION IS CUT AHEAD OF OPERATION `n`. -/
theorem wp_region_cutA {P : Program} {id : Nat} {Q : Exit → Act → World → Prop} {a : Act} {w : World} {lops l1 : List Oper} (n : Nat) (Ln : Array Bool) (hm : P.follows .mixedOrders = true) (h1 : lops.take n = l1) (hb : (backB .any lops.toArray && lateF .any lops.toArray n && decide (n ≤ lops.length) && (Ln == ((List.range lops.length).map fun i => decide (i < n)).toArray)) = true)
    (h : wpAny P .any l1.toArray (fun e a' w' => e = .normal ∧ ∀ f, wpAny P .any lops.toArray Q (f + (lops.length - n)) Ln a' w') l1.toArray.size (Array.replicate l1.toArray.size false) a { w with drawn := w.drawn + 1 }) : (Code.region id lops.toArray true).wp P Q a w := by
  simp only [Bool.and_eq_true, decide_eq_true_eq] at hb
  obtain ⟨⟨⟨hb, hl⟩, hn⟩, hL⟩ := hb
  have hL2 : Ln = ((List.range lops.length).map fun i => decide (i < n)).toArray := by simpa using hL
  subst h1
  have hs : (lops.take n).toArray.size = n := by simp; omega
  refine wp_region_any hm ?_
  have := any_cutA (ops := lops.toArray) (Q := Q) (Ln := Ln) (by rw [hL2]; simp) (fun i hi => by
    rw [hL2]
    have hi2 : i < lops.length := (by simpa using hi)
    simp [Array.getD, hi2]) hb hl (by simpa using hn) hs (fun i hi => by simp [hi]) (fun e a w he h => he h.1) (fun f a w h => by simpa using h.2 f) _ _ (Array.replicate lops.toArray.size false) a _ (by simp; omega) (by simp) (fun i hi => by simp [Array.getD]) (fun i hi => by simp [Array.getD]) ⟨by simp, fun j oj _ hj => by simp [Array.getD] at hj⟩ h
  rwa [hs, show n + (lops.toArray.size - n) = lops.toArray.size by simp; omega] at this
end Go.Proofs.Ytidbjidcjmbnlaa
end
