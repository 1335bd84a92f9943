/-
  Regions that draw their order, over any program. An operation that yields one value whatever of the calls that lay new memory has come before it (a load of old memory, arithmetic, a call that returns plain values) is taken first, in the order of the text; what is left (an alloc, a store into new memory, a call that hands back new memory) is stepped by itself, each time in every later world.
-/
import Derived.Deep.Quiet
import Derived.Deep.QuietTactic
import Derived.BigQuiet
import Derived.Still
import Derived.Below
set_option linter.unusedSimpArgs false
set_option linter.unusedVariables false
namespace Go.Proofs.Ytidbjidcjmbnlaa
open Go Go.RowKit

/-- Nothing that lay in `w` has turned in `w'`. -/
def Later (w w' : World) : Prop := Below w.heap.size w w'
theorem Later.refl (w : World) : Later w w := Below.refl _ _
theorem Later.trans {a b c : World} (h : Later a b) (k : Later b c) : Later a c := Below.trans h (Below.mono k h.size)

/-- The blocks of a set are as they were; no block has gone. -/
structure Kept (S : Nat → Prop) (w w' : World) : Prop where
  os : w'.os = w.os
  tape : w'.tape = w.tape
  output : w'.output = w.output
  size : w.heap.size ≤ w'.heap.size
  block : ∀ k, S k → w'.heap[k]? = w.heap[k]?
theorem Kept.refl (S : Nat → Prop) (w : World) : Kept S w w := ⟨rfl, rfl, rfl, Nat.le_refl _, fun _ _ => rfl⟩
theorem Kept.trans {S : Nat → Prop} {a b c : World} (h : Kept S a b) (k : Kept S b c) : Kept S a c :=
  ⟨k.os.trans h.os, k.tape.trans h.tape, k.output.trans h.output, Nat.le_trans h.size k.size, fun i hi => (k.block i hi).trans (h.block i hi)⟩
theorem Kept.of_later {S : Nat → Prop} {a b : World} (hS : ∀ k, S k → k < a.heap.size) (h : Later a b) : Kept S a b := ⟨h.os, h.tape, h.output, h.size, fun k hk => h.block k (hS k hk)⟩
theorem Kept.of_below {B : Nat} {S : Nat → Prop} {a b : World} (hS : ∀ k, S k → k < B) (h : Below B a b) : Kept S a b := ⟨h.os, h.tape, h.output, h.size, fun k hk => h.block k (hS k hk)⟩
theorem kept_later {S : Nat → Prop} {a b c : World} (hS : ∀ k, S k → k < a.heap.size) (h : Kept S a b) (k : Later b c) : Kept S a c :=
  h.trans (Kept.of_later (fun i hi => Nat.lt_of_lt_of_le (hS i hi) h.size) k)

structure Good (S : Nat → Prop) (w0 : World) (D : World → Prop) : Prop where
  low : ∀ w, D w → Kept S w0 w
  up : ∀ w w', D w → Later w w' → D w'
  ne : ∃ w, D w

/-- A world of the class. -/
structure Of (D : World → Prop) : Type where
  val : World
  ok : D val
theorem Good.some {S : Nat → Prop} {w0 : World} {D : World → Prop} (h : Good S w0 D) : Nonempty (Of D) := let ⟨w, hw⟩ := h.ne; ⟨⟨w, hw⟩⟩
def cls (D : World → Prop) (w' : World) : Prop := ∃ x : Of D, w' = x.val
theorem cls_eq (D : World → Prop) : cls D = D := by
  funext w
  exact propext ⟨fun ⟨x, h⟩ => by rw [h]; exact x.ok, fun h => ⟨⟨w, h⟩, rfl⟩⟩

section
variable {P : Program} {md : Region.Mode} {ops : Array Oper} {S : Nat → Prop} {E : Nat → Bool} {w0 : World}

theorem calls_later {D : World → Prop} {f : FuncId} {args : Array Value} {v : Value} (hD : Good S w0 D) (x : Of D)
    (h : Calls P f args x.val fun e w'' => e = .returned v ∧ Below x.val.heap.size x.val w'') : Calls P f args x.val fun e w'' => e = .returned v ∧ ∃ y : Of D, w'' = y.val :=
  h.mono fun _ w'' ⟨he, hb⟩ => ⟨he, ⟨w'', hD.up _ _ x.ok hb⟩, rfl⟩
def uponR (P : Program) (S : Nat → Prop) (early : Bool) (o : Oper) (a : Act) (w1 : World) (K : Act → World → Prop) : Result Next → Prop
  | .ok (.value v) w' => (early = true → Kept S w1 w') ∧ K (a.put o.dst v) w'
  | .ok .skip w' => (early = true → Kept S w1 w') ∧ K (a.put o.dst undef) w'
  | .ok (.enter f args) w' => Calls P f args w' fun e w'' => ∃ v, e = .returned v ∧ (early = true → Kept S w1 w'') ∧ K (a.put o.dst v) w''
  | _ => False

def opR (P : Program) (ops : Array Oper) (S : Nat → Prop) (E : Nat → Bool) (i : Nat) (K : Act → World → Prop) (a : Act) (w1 : World) : Prop :=
  match ops[i]? with
  | none => K a w1
  | some o => if Region.wanted o (yielded ops a.tmps) then uponR P S (E i) o a w1 K ((execOp a.eval o).run P w1) else K (a.put o.dst undef) w1

def anyR (P : Program) (md : Region.Mode) (ops : Array Oper) (S : Nat → Prop) (E : Nat → Bool) (Q : Act → World → Prop) : Nat → Array Bool → Act → World → Prop
  | 0, listed, a, w => Region.ready md ops listed = [] ∧ ∀ w1, Later w w1 → Q a w1
  | f + 1, listed, a, w => (Region.ready md ops listed = [] → ∀ w1, Later w w1 → Q a w1) ∧
    ∀ i ∈ Region.ready md ops listed, ∀ w1, Later w w1 → opR P ops S E i (anyR P md ops S E Q f (listed.setIfInBounds i true)) a w1

theorem anyR_up {Q : Act → World → Prop} {f : Nat} {listed : Array Bool} {a : Act} {w w' : World} (h : anyR P md ops S E Q f listed a w) (hl : Later w w') : anyR P md ops S E Q f listed a w' := by
  cases f with
  | zero => exact ⟨h.1, fun w1 h1 => h.2 w1 (hl.trans h1)⟩
  | succ f => exact ⟨fun hr w1 h1 => h.1 hr w1 (hl.trans h1), fun i hi w1 h1 => h.2 i hi w1 (hl.trans h1)⟩

theorem opR_mono {i : Nat} {K K' : Act → World → Prop} {a : Act} {w1 : World} (h : ∀ a' w', (E i = true → Kept S w1 w') → K a' w' → K' a' w') (hh : opR P ops S E i K a w1) : opR P ops S E i K' a w1 := by
  unfold opR at *
  split
  · rename_i ho; simp only [ho] at hh; exact h _ _ (fun _ => Kept.refl _ _) hh
  · rename_i o ho
    simp only [ho] at hh
    split
    · rename_i hw
      simp only [hw, if_true] at hh
      generalize (execOp a.eval o).run P w1 = r at *
      cases r with
      | ok n w' =>
        cases n <;> simp only [uponR] at hh ⊢
        case value u => exact ⟨hh.1, h _ _ hh.1 hh.2⟩
        case skip => exact ⟨hh.1, h _ _ hh.1 hh.2⟩
        case enter f args => exact hh.mono fun e w'' ⟨v, he, hb, hk⟩ => ⟨v, he, hb, h _ _ hb hk⟩
      | halt x w' => simp only [uponR] at hh
    · rename_i hw; simp only [hw] at hh; exact h _ _ (fun _ => Kept.refl _ _) hh

theorem wpOp_of_opR {i : Nat} {K K' : Act → World → Prop} {Q' : Exit → Act → World → Prop} {a : Act} {w1 : World} (h : ∀ a' w', K a' w' → K' a' w') (hh : opR P ops S E i K a w1) : wpOp P ops Q' i K' a w1 := by
  unfold opR at hh
  unfold wpOp
  split
  · rename_i ho; simp only [ho] at hh; exact h _ _ hh
  · rename_i o ho
    simp only [ho] at hh
    split
    · rename_i hw
      simp only [hw, if_true] at hh
      left
      unfold Oper.wp
      generalize (execOp a.eval o).run P w1 = r at *
      cases r with
      | ok n w' =>
        cases n <;> simp only [uponR] at hh <;> simp only [Oper.upon]
        case value u => exact h _ _ hh.2
        case skip => exact h _ _ hh.2
        case enter f args => exact hh.mono fun e w'' ⟨v, he, _, hk⟩ => by subst he; exact h _ _ hk
      | halt x w' => simp only [uponR] at hh
    · rename_i hw; simp only [hw] at hh; exact h _ _ hh

theorem wpAny_of_anyR {Q : Exit → Act → World → Prop} : ∀ (f : Nat) (listed : Array Bool) (a : Act) (w : World), anyR P md ops S E (fun a w => Q .normal a w) f listed a w → wpAny P md ops Q f listed a w
  | 0, _, _, w, h => ⟨h.1, h.2 w (Later.refl w)⟩
  | f + 1, _, _, w, h => ⟨fun hr => h.1 hr w (Later.refl w), fun i hi => wpOp_of_opR (fun a' w' hk => wpAny_of_anyR f _ a' w' hk) (h.2 i hi w (Later.refl w))⟩

/-- One value, in every class of worlds that later calls do not leave. -/
def QuietAt (P : Program) (ops : Array Oper) (S : Nat → Prop) (w0 : World) (o : Oper) (v : Value) (a : Act) : Prop :=
  ∀ D, Good S w0 D → ∃ u, YieldsIn P ops D o u a ∧ a.put o.dst u = a.put o.dst v

theorem QuietAt.keep {oi oj : Oper} {v u : Value} {a : Act} (hap : oi.apart ops oj = true) (hsi : ∀ cs b, oi.op ≠ .select cs b) (h : QuietAt P ops S w0 oi v a) : QuietAt P ops S w0 oi v (a.put oj.dst u) := by
  obtain ⟨_, h2, h3⟩ := Oper.apart_spec hap
  intro D hD
  obtain ⟨x, hy, he⟩ := h D hD
  refine ⟨x, hy.of_same (execOp_put oi hsi a oj.dst u h3) (wanted_put oi a oj.dst u h3), ?_⟩
  rw [← Act.put_comm a x u h2, ← Act.put_comm a v u h2, he]

theorem opR_put {j : Nat} {oi oj : Oper} {v : Value} (hj : ops[j]? = some oj) (hap : oi.apart ops oj = true) (hsi : ∀ cs b, oi.op ≠ .select cs b) (hsj : ∀ cs b, oj.op ≠ .select cs b)
    {K : Act → World → Prop} {a : Act} {w1 : World} (hy : QuietAt P ops S w0 oi v a) (h : opR P ops S E j K (a.put oi.dst v) w1) :
    opR P ops S E j (fun a' w' => QuietAt P ops S w0 oi v a' ∧ K (a'.put oi.dst v) w') a w1 := by
  obtain ⟨h1, h2, _⟩ := Oper.apart_spec hap
  unfold opR at *
  simp only [hj] at *
  rw [wanted_put oj a oi.dst v h1, execOp_put oj hsj a oi.dst v h1] at h
  split
  · rename_i hw
    simp only [hw, if_true] at h
    generalize (execOp a.eval oj).run P w1 = r at *
    cases r with
    | ok n w' =>
      cases n <;> simp only [uponR] at h ⊢
      case value u => exact ⟨h.1, hy.keep hap hsi, by rw [← Act.put_comm a v u h2]; exact h.2⟩
      case skip => exact ⟨h.1, hy.keep hap hsi, by rw [← Act.put_comm a v undef h2]; exact h.2⟩
      case enter f args => exact h.mono fun e w'' ⟨u, he, hb, hk⟩ => ⟨u, he, hb, hy.keep hap hsi, by rw [← Act.put_comm a v u h2]; exact hk⟩
    | halt x w' => simp only [uponR] at h
  · rename_i hw
    simp only [hw] at h
    exact ⟨hy.keep hap hsi, by rw [← Act.put_comm a v undef h2]; exact h⟩

theorem opR_quiet {i : Nat} {oi : Oper} {v : Value} (hi : ops[i]? = some oi) (hS : ∀ k, S k → k < w0.heap.size) {K : Act → World → Prop} {a : Act} {w1 : World} (hw1 : Kept S w0 w1) (hy : QuietAt P ops S w0 oi v a)
    (hK : ∀ w2, Later w1 w2 → K (a.put oi.dst v) w2) : opR P ops S E i K a w1 := by
  have hS1 : ∀ k, S k → k < w1.heap.size := fun k hk => Nat.lt_of_lt_of_le (hS k hk) hw1.size
  obtain ⟨u, hyu, he⟩ := hy (Later w1) ⟨fun w h => hw1.trans (Kept.of_later hS1 h), fun _ _ h h' => h.trans h', w1, Later.refl w1⟩
  unfold opR
  simp only [hi]
  rcases hyu with ⟨hw, hq⟩ | ⟨hw, hu⟩
  · simp only [hw, if_true]
    have hq := hq w1 (Later.refl w1)
    unfold Oper.quietAt at hq
    generalize (execOp a.eval oi).run P w1 = r at *
    cases r with
    | ok n w' =>
      cases n <;> simp only [Oper.quietUpon] at hq <;> simp only [uponR]
      case value x => obtain ⟨e1, e2⟩ := hq; subst e1; subst e2; exact ⟨fun _ => Kept.refl _ _, by rw [he]; exact hK _ (Later.refl _)⟩
      case skip => obtain ⟨e1, e2⟩ := hq; subst e1; subst e2; exact ⟨fun _ => Kept.refl _ _, by rw [he]; exact hK _ (Later.refl _)⟩
      case enter f args =>
        obtain ⟨e1, hc⟩ := hq
        subst e1
        exact hc.mono fun e w'' ⟨h1, h2⟩ => ⟨u, h1, fun _ => Kept.of_later hS1 h2, by rw [he]; exact hK _ h2⟩
    | halt x w' => simp only [Oper.quietUpon] at hq
  · simp only [hw]
    subst hu
    rw [he]
    exact hK _ (Later.refl _)

/-! ### Operations that wait for all quiet ones -/

def waitsFor (md : Region.Mode) (ops : Array Oper) (j i : Nat) : Bool :=
  match ops[j]? with
  | some oj => oj.after.any fun e => Region.binds md e && e.on == i
  | none => false
/-- The operations from `n` on come up behind all others: each one before them has a follower up to `n`, and each one behind `n` waits for the one ahead of it. -/
def lateB (md : Region.Mode) (ops : Array Oper) (n : Nat) : Bool :=
  decide (ops.size ≤ n) || ((List.range n).all fun i => (List.range (n + 1)).any fun j => decide (i < j) && waitsFor md ops j i) && ((List.range ops.size).all fun t => decide (t ≤ n) || waitsFor md ops t (t - 1))
def Closed (md : Region.Mode) (ops : Array Oper) (listed : Array Bool) : Prop :=
  listed.size = ops.size ∧ ∀ j oj, ops[j]? = some oj → listed.getD j false = true → ∀ e ∈ oj.after, Region.binds md e = true → listed.getD e.on false = true

theorem getD_ff {listed : Array Bool} {i : Nat} (h : listed.getD i true = false) : listed.getD i false = false := by
  rcases Nat.lt_or_ge i listed.size with h' | h'
  · simp [h'] at h ⊢; exact h
  · simp [Array.getElem?_eq_none h'] at h
theorem Closed.set {i : Nat} {listed : Array Bool} (h : Closed md ops listed) (hi : i ∈ Region.ready md ops listed) : Closed md ops (listed.setIfInBounds i true) := by
  obtain ⟨_, oi, hoi, hall⟩ := mem_ready.1 hi
  refine ⟨by simp [h.1], fun j oj hj hl e he hb => ?_⟩
  by_cases hij : i = j
  · subst hij
    have : oj = oi := Option.some.inj (hj.symm.trans hoi)
    subst this
    exact getD_set_true (hall e he hb)
  · rw [getD_set_ne false hij] at hl
    exact getD_set_true (h.2 j oj hj hl e he hb)
theorem waits_spec {j i : Nat} (h : waitsFor md ops j i = true) : ∃ oj, ops[j]? = some oj ∧ ∃ e ∈ oj.after, Region.binds md e = true ∧ e.on = i := by
  unfold waitsFor at h
  split at h
  · rename_i oj hj
    obtain ⟨e, he, hb⟩ := Array.any_eq_true'.1 h
    simp only [Bool.and_eq_true, beq_iff_eq] at hb
    exact ⟨oj, hj, e, he, hb.1, hb.2⟩
  · cases h
theorem late_head {n : Nat} {listed : Array Bool} (hc : Closed md ops listed) (hs : ((List.range n).all fun i => (List.range (n + 1)).any fun j => decide (i < j) && waitsFor md ops j i) = true) (hn : n < ops.size) :
    ∀ (d i : Nat), n - i = d → i < n → listed.getD i true = false → n ∉ Region.ready md ops listed ∧ listed.getD n false = false := by
  intro d
  induction d using Nat.strongRecOn with
  | _ d ih =>
    intro i hd hi hun
    have h1 := List.all_eq_true.1 hs i (List.mem_range.2 hi)
    obtain ⟨j, hj, hj2⟩ := List.any_eq_true.1 h1
    simp only [Bool.and_eq_true, decide_eq_true_eq] at hj2
    obtain ⟨oj, hoj, e, he, hb, hon⟩ := waits_spec hj2.2
    have hjle : j ≤ n := by have := List.mem_range.1 hj; omega
    have hjun : listed.getD j false = false := by
      cases hl : listed.getD j false with
      | false => rfl
      | true =>
        have := hc.2 j oj hoj hl e he hb
        rw [hon, getD_ff hun] at this
        cases this
    by_cases hjn : j = n
    · subst hjn
      refine ⟨fun hr => ?_, hjun⟩
      obtain ⟨_, o, ho, hall⟩ := mem_ready.1 hr
      have : o = oj := Option.some.inj (ho.symm.trans hoj)
      subst this
      have := hall e he hb
      rw [hon, getD_ff hun] at this
      cases this
    · have hjs : j < listed.size := by rw [hc.1]; omega
      exact ih (n - j) (by omega) j rfl (by omega) (by simp [hjs] at hjun ⊢; exact hjun)
theorem late_spec {n i j : Nat} {listed : Array Bool} (hc : Closed md ops listed) (hl : lateB md ops n = true) (hi : i < n) (hun : listed.getD i true = false) (hj : j ∈ Region.ready md ops listed) : j < n := by
  rcases Nat.lt_or_ge j n with h | h
  · exact h
  · exfalso
    obtain ⟨_, oj, hoj, hall⟩ := mem_ready.1 hj
    have hjs : j < ops.size := (Array.getElem?_eq_some_iff.1 hoj).1
    simp only [lateB, Bool.or_eq_true, decide_eq_true_eq, Bool.and_eq_true] at hl
    rcases hl with hl | ⟨hs, hch⟩
    · omega
    obtain ⟨h1, h2⟩ := late_head hc hs (by omega) _ i rfl hi hun
    by_cases hjn : j = n
    · subst hjn; exact h1 hj
    · -- each one from n on is unlisted
      have up : ∀ m, n + m < ops.size → listed.getD (n + m) false = false := by
        intro m
        induction m with
        | zero => intro _; exact h2
        | succ m ih =>
          intro hm
          have hw := List.all_eq_true.1 hch (n + (m + 1)) (List.mem_range.2 hm)
          simp only [Bool.or_eq_true, decide_eq_true_eq] at hw
          rcases hw with hw | hw
          · omega
          obtain ⟨o, ho, e, he, hb, hon⟩ := waits_spec hw
          cases hq : listed.getD (n + (m + 1)) false with
          | false => rfl
          | true =>
            have := hc.2 _ o ho hq e he hb
            rw [hon, show n + (m + 1) - 1 = n + m by omega, ih (by omega)] at this
            cases this
      have hw := List.all_eq_true.1 hch j (List.mem_range.2 hjs)
      simp only [Bool.or_eq_true, decide_eq_true_eq] at hw
      rcases hw with hw | hw
      · omega
      obtain ⟨o, ho, e, he, hb, hon⟩ := waits_spec hw
      have : o = oj := Option.some.inj (ho.symm.trans hoj)
      subst this
      have h3 := hall e he hb
      have h4 := up (j - 1 - n) (by omega)
      rw [hon] at h3
      rw [show n + (j - 1 - n) = j - 1 by omega, h3] at h4
      cases h4

/-! ### The walk of the quiet operations, in the order of the text -/

/-- Which of the operations are taken, and how the list of those that have come up stands behind them. -/
def takeOps : List Bool → List Oper → List Oper
  | true :: m, o :: l => o :: takeOps m l
  | false :: m, _ :: l => takeOps m l
  | _, _ => []
def dstB : List Oper → Bool
  | [] => true
  | o :: l => l.all (fun o' => o.dst.isNone || o'.dst != o.dst) && dstB l
theorem put_slot {a : Act} {d : Tmp} {u v : Value} (h : (a.put (some d) u).tmps[d]? = (a.put (some d) v).tmps[d]?) : a.put (some d) u = a.put (some d) v := by
  unfold Act.put at *
  simp only at *
  rcases Nat.lt_or_ge d a.tmps.size with hd | hd
  · simp [hd] at h
    rw [h]
  · rw [Array.setIfInBounds_eq_of_size_le hd, Array.setIfInBounds_eq_of_size_le hd]

theorem final_slot {C : World → Prop} {af : Act} {d : Tmp} : ∀ (l : List Oper) (a : Act), (∀ o ∈ l, o.dst ≠ some d) → wpQuiet P ops C (fun a' => a' = af) l a → af.tmps[d]? = a.tmps[d]?
  | [], a, _, h => by rw [show a = af from h]
  | o :: l, a, hd, h => by
    have h' : ∃ v, wpQuiet P ops C (fun a' => a' = af) l (a.put o.dst v) := by
      unfold wpQuiet at h
      split at h
      · obtain ⟨v, _, hn⟩ := h; exact ⟨v, hn⟩
      · exact ⟨_, h⟩
    obtain ⟨v, hn⟩ := h'
    rw [final_slot l _ (fun o' ho => hd o' (List.mem_cons_of_mem _ ho)) hn]
    have hne := hd o List.mem_cons_self
    cases ho : o.dst with
    | none => rfl
    | some x =>
      have hx : x ≠ d := fun e => hne (by rw [ho, e])
      simp [Act.put, hx]

def closedB (md : Region.Mode) (ops : Array Oper) (listed : Array Bool) : Bool :=
  listed.size == ops.size && (List.range ops.size).all fun j => !listed.getD j false || match ops[j]? with
    | some oj => oj.after.all fun e => !Region.binds md e || listed.getD e.on false
    | none => true
theorem closed_of {listed : Array Bool} (h : closedB md ops listed = true) : Closed md ops listed := by
  simp only [closedB, Bool.and_eq_true, beq_iff_eq, List.all_eq_true, List.mem_range] at h
  refine ⟨h.1, fun j oj hj hl e he hb => ?_⟩
  have := h.2 j (Array.getElem?_eq_some_iff.1 hj).1
  simp only [hl, hj, Bool.not_true, Bool.false_or] at this
  have := (Array.all_eq_true_iff_forall_mem.1 this) e he
  simpa [hb] using this

/-- What is known of a cell stays known in every world of a class. -/
theorem lift {D : World → Prop} {w : World} (hD : Good S w D) {p : Addr} {v : Value} (h : w.cell? p = some v) (hp : S p.block) (x : Of D) : x.val.cell? p = some v :=
  (World.cell?_of_block (w := w) ((hD.low _ x.ok).block p.block hp)).trans h

/-- Nothing is left. -/
theorem anyR_done {Q : Act → World → Prop} {f : Nat} {listed : Array Bool} {a : Act} {w : World} (hr : Region.ready md ops listed = []) (h : ∀ w1, Later w w1 → Q a w1) : anyR P md ops S E Q f listed a w := by
  cases f with
  | zero => exact ⟨hr, h⟩
  | succ f => exact ⟨fun _ => h, fun i hi => by rw [hr] at hi; cases hi⟩

/-- Just one operation can come up. -/
theorem anyR_one {Q : Act → World → Prop} {f : Nat} {listed : Array Bool} {a : Act} {w : World} (i : Nat) (after : Array Bool) (hr : Region.ready md ops listed = [i]) (he : (listed.setIfInBounds i true == after) = true)
    (h : ∀ w1, Later w w1 → opR P ops S E i (anyR P md ops S E Q f after) a w1) : anyR P md ops S E Q (f + 1) listed a w := by
  have he' : listed.setIfInBounds i true = after := by simpa using he
  subst he'
  refine ⟨fun h0 => ?_, fun j hj => ?_⟩
  · rw [hr] at h0; cases h0
  · rw [hr] at hj
    have hji : j = i := by simpa using hj
    subst hji
    exact h
end
end Go.Proofs.Ytidbjidcjmbnlaa
