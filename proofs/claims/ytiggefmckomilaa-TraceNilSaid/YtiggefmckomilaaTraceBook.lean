/-
  A book as it lies in memory.
-/
import Derived.Test.YtiggefmckomilaaKnown0
import Derived.Test.YtiggefmckomilaaMapV
namespace Go.Proofs.Ytiggefmckomilaa
open Go Go.RowKit

def ptrB (g : Nat) : Value := .pointer (some ⟨g, 0, none⟩)
/-- The block of the standard of a name. -/
def ptrT : List Std → List Nat → ByteArray → Option Nat
  | s :: ss, b :: bs, n => if s.name = n then some b else ptrT ss bs n
  | _, _, _ => none
def addrO (o : Option Nat) : Option Addr := o.map fun g => ⟨g, 0, none⟩
def parO (l : List Ent) (bs : List Nat) (s : Std) : Option Addr := if s.par = ByteArray.empty then none else addrO (ptrT (stdsT l) bs s.par)
/-- The standards' variables. -/
def KnownsT (w : World) : List Ent → List Nat → Prop
  | [], bs => bs = []
  | .define s :: l, bs => match bs with
    | b :: bs => Blk w b 109 (knownC s (parO l bs s) (madeT (.define s :: l) s.name)) ∧ KnownsT w l bs
    | [] => False
  | _ :: l, bs => KnownsT w l bs
/-- The tests' cells, the oldest first. -/
def testC (l : List Ent) (bs : List Nat) (t : Tst) : List Value :=
  [.string t.radar, .string t.std, .int .i64 t.time, .int .i64 t.lo, .int .i64 t.hi, .pointer (addrO (ptrT (stdsT l) bs t.std)), .int .i64 (gainT l t).1, .int .i64 (gainT l t).2]
def testRows : List Ent → List Nat → List Value
  | [], _ => []
  | .test t :: l, bs => testRows l bs ++ testC l bs t
  | .define _ :: l, bs => testRows l bs.tail
  | _ :: l, bs => testRows l bs
/-- An entry is a function, and what it has captured. -/
def entF (e : Ent) (c : List Nat) : Value := match e with
  | .radar _ _ => .func (.func 61) #[] ⟨c.map ptrB⟩
  | .define _ => .func (.func 65) #[] ⟨c.map ptrB⟩
  | .test _ => .func (.func 66) #[] ⟨c.map ptrB⟩
  | .turn _ _ => .func (.func 91) #[] ⟨c.map ptrB⟩
def entRow : List Ent → List (List Nat) → List Value
  | e :: l, c :: cs => entRow l cs ++ [entF e c]
  | _, _ => []
def stdC (s : Std) : Array Value := #[.string s.name, .string s.par, .int .i64 s.lo, .int .i64 s.hi, .int .i64 s.time, .int .i64 s.stop, .int .i64 s.drift]
def tstC (t : Tst) : Array Value := #[.string t.radar, .string t.std, .int .i64 t.time, .int .i64 t.lo, .int .i64 t.hi]
def capOk (w : World) (e : Ent) (c : List Nat) : Prop := match e with
  | .radar n d => ∃ a b, c = [a, b] ∧ Blk w a 9 #[.string n] ∧ Blk w b 3 #[.int .i64 d]
  | .define s => ∃ a, c = [a] ∧ Blk w a 43 (stdC s)
  | .test t => ∃ a, c = [a] ∧ Blk w a 51 (tstC t)
  | .turn n o => ∃ a b, c = [a, b] ∧ Blk w a 9 #[.string n] ∧ Blk w b 4 #[.bool o]
def CapsT (w : World) : List Ent → List (List Nat) → Prop
  | [], cs => cs = []
  | e :: l, cs => match cs with
    | c :: cs => capOk w e c ∧ CapsT w l cs
    | [] => False

/-- Where a book lies: its maps, its rows, its standards, what its entries have captured. -/
structure Lay where
  br : Nat
  bs : Nat
  bw : Nat
  bv : Nat
  vo : Value
  vt : Value
  ve : Value
  kb : List Nat
  cb : List (List Nat)
def optL (v : Value) : List Nat := v.ownBlock.toList
def Lay.all (L : Lay) (p : Nat) : List Nat := p :: L.br :: L.bs :: L.bw :: L.bv :: (optL L.vo ++ (optL L.vt ++ (optL L.ve ++ (L.kb ++ L.cb.flatten))))
def boolF (f : ByteArray → Bool) (n : ByteArray) : Option Value := if f n = true then some (.bool true) else none
def bookC (L : Lay) : Array Value := #[.bool true, .map (some L.br), .map (some L.bs), L.vo, L.vt, .map (some L.bw), .map (some L.bv), L.ve]
structure BookR (l : List Ent) (p : Nat) (L : Lay) (w : World) : Prop where
  good : GoodB l
  nodup : (L.all p).Nodup
  book : Blk w p 98 (bookC L)
  radars : MapV w Try.prog 9 L.br (fun n => (driftT l n).map (Value.int .i64)) (radarsT l).length
  stds : MapV w Try.prog 9 L.bs (fun n => (ptrT (stdsT l) L.kb n).map ptrB) (stdsT l).length
  wd : ∃ c, c ≤ l.length ∧ MapV w Try.prog 9 L.bw (boolF (wdT l)) c
  void : ∃ c, c ≤ l.length * l.length ∧ MapV w Try.prog 9 L.bv (boolF (voidT l)) c
  order : w.ownsRow 0 107 1 L.vo (stdsT l).length (L.kb.reverse.map ptrB)
  tests : w.ownsRow 0 113 8 L.vt (testsT l).length (testRows l L.kb)
  entries : w.ownsRow 0 106 1 L.ve l.length (entRow l L.cb)
  knowns : KnownsT w l L.kb
  caps : CapsT w l L.cb

theorem optL_mem {v : Value} {g : Nat} (h : v.ownBlock = some g) : g ∈ optL v := by unfold optL; rw [h]; simp
theorem own_stabT {w w' : World} {base : Nat} {e : TypeId} {size n : Nat} {v : Value} {xs : List Value} (h : w.ownsRow base e size v n xs) (hk : ∀ g, v.ownBlock = some g → w'.heap[g]? = w.heap[g]?) : w'.ownsRow base e size v n xs := by
  refine ⟨h.1, ?_⟩
  rcases h.2 with h0 | ⟨g, cap, cur, hv, hb, hg, r⟩
  · exact .inl h0
  · refine .inr ⟨g, cap, cur, hv, hb, ?_, r⟩
    rw [hk g (by rw [hv]; rfl)]; exact hg
theorem KnownsT.stab {w w' : World} : ∀ {l : List Ent} {bs : List Nat}, KnownsT w l bs → (∀ k ∈ bs, w'.heap[k]? = w.heap[k]?) → KnownsT w' l bs
  | [], _, h, _ => h
  | .define s :: l, [], h, _ => h.elim
  | .define s :: l, b :: bs, h, hk => ⟨(hk b List.mem_cons_self).trans h.1, KnownsT.stab (l := l) h.2 fun k h' => hk k (List.mem_cons_of_mem _ h')⟩
  | .radar _ _ :: l, _, h, hk => KnownsT.stab (l := l) h hk
  | .test _ :: l, _, h, hk => KnownsT.stab (l := l) h hk
  | .turn _ _ :: l, _, h, hk => KnownsT.stab (l := l) h hk
theorem capOk.stab {w w' : World} {e : Ent} {c : List Nat} (h : capOk w e c) (hk : ∀ k ∈ c, w'.heap[k]? = w.heap[k]?) : capOk w' e c := by
  unfold capOk at *
  cases e with
  | radar n d =>
    obtain ⟨a, b, rfl, h1, h2⟩ := h
    exact ⟨a, b, rfl, (hk a (by simp)).trans h1, (hk b (by simp)).trans h2⟩
  | define s =>
    obtain ⟨a, rfl, h1⟩ := h
    exact ⟨a, rfl, (hk a (by simp)).trans h1⟩
  | test t =>
    obtain ⟨a, rfl, h1⟩ := h
    exact ⟨a, rfl, (hk a (by simp)).trans h1⟩
  | turn n o =>
    obtain ⟨a, b, rfl, h1, h2⟩ := h
    exact ⟨a, b, rfl, (hk a (by simp)).trans h1, (hk b (by simp)).trans h2⟩
theorem CapsT.stab {w w' : World} : ∀ {l : List Ent} {cs : List (List Nat)}, CapsT w l cs → (∀ k ∈ cs.flatten, w'.heap[k]? = w.heap[k]?) → CapsT w' l cs
  | [], _, h, _ => h
  | e :: l, [], h, _ => h.elim
  | e :: l, c :: cs, h, hk => ⟨capOk.stab h.1 fun k h' => hk k (by rw [List.flatten_cons]; exact List.mem_append_left _ h'), CapsT.stab (l := l) h.2 fun k h' => hk k (by rw [List.flatten_cons]; exact List.mem_append_right _ h')⟩

theorem BookR.stab {l : List Ent} {p : Nat} {L : Lay} {w w' : World} (h : BookR l p L w) (hk : ∀ k ∈ L.all p, w'.heap[k]? = w.heap[k]?) : BookR l p L w' := by
  obtain ⟨h1, h2, h3, h4, h5, ⟨c6, h6a, h6⟩, ⟨c7, h7a, h7⟩, h8, h9, h10, h11, h12⟩ := h
  unfold Lay.all at hk
  refine ⟨h1, h2, (hk p (by simp)).trans h3, h4.stab (hk _ (by simp)), h5.stab (hk _ (by simp)), ⟨c6, h6a, h6.stab (hk _ (by simp))⟩, ⟨c7, h7a, h7.stab (hk _ (by simp))⟩,
    own_stabT h8 fun g hg => hk g (by simp [optL_mem hg]), own_stabT h9 fun g hg => hk g (by simp [optL_mem hg]), own_stabT h10 fun g hg => hk g (by simp [optL_mem hg]),
    h11.stab fun k h' => hk k (by simp [h']), h12.stab fun k h' => hk k ?_⟩
  simp only [List.mem_cons, List.mem_append]
  exact .inr (.inr (.inr (.inr (.inr (.inr (.inr (.inr (.inr h'))))))))
theorem KnownsT.lt {w : World} : ∀ {l : List Ent} {bs : List Nat}, KnownsT w l bs → ∀ k ∈ bs, k < w.heap.size
  | [], _, h, k, hk => by rw [show _ = [] from h] at hk; cases hk
  | .define s :: l, [], h, _, _ => h.elim
  | .define s :: l, b :: bs, h, k, hk => by
    rcases List.mem_cons.1 hk with rfl | hk
    · exact h.1.lt
    · exact KnownsT.lt (l := l) h.2 k hk
  | .radar _ _ :: l, _, h, k, hk => KnownsT.lt (l := l) h k hk
  | .test _ :: l, _, h, k, hk => KnownsT.lt (l := l) h k hk
  | .turn _ _ :: l, _, h, k, hk => KnownsT.lt (l := l) h k hk
theorem capOk.lt {w : World} {e : Ent} {c : List Nat} (h : capOk w e c) : ∀ k ∈ c, k < w.heap.size := by
  unfold capOk at h
  cases e with
  | radar n d => obtain ⟨a, b, rfl, h1, h2⟩ := h; intro k hk; simp at hk; rcases hk with rfl | rfl; exact h1.lt; exact h2.lt
  | define s => obtain ⟨a, rfl, h1⟩ := h; intro k hk; simp at hk; subst hk; exact h1.lt
  | test t => obtain ⟨a, rfl, h1⟩ := h; intro k hk; simp at hk; subst hk; exact h1.lt
  | turn n o => obtain ⟨a, b, rfl, h1, h2⟩ := h; intro k hk; simp at hk; rcases hk with rfl | rfl; exact h1.lt; exact h2.lt
theorem CapsT.lt {w : World} : ∀ {l : List Ent} {cs : List (List Nat)}, CapsT w l cs → ∀ k ∈ cs.flatten, k < w.heap.size
  | [], _, h, k, hk => by rw [show _ = [] from h] at hk; cases hk
  | e :: l, [], h, _, _ => h.elim
  | e :: l, c :: cs, h, k, hk => by
    rw [List.flatten_cons] at hk
    rcases List.mem_append.1 hk with hk | hk
    · exact h.1.lt k hk
    · exact CapsT.lt (l := l) h.2 k hk
theorem own_ltT {w : World} {base : Nat} {e : TypeId} {size n k : Nat} {v : Value} {xs : List Value} (h : w.ownsRow base e size v n xs) (hk : k ∈ optL v) : k < w.heap.size := by
  unfold optL at hk
  cases hv : v.ownBlock with
  | none => rw [hv] at hk; simp at hk
  | some g => rw [hv] at hk; simp at hk; subst hk; exact (h.lt _ hv).2
theorem BookR.lt {l : List Ent} {p : Nat} {L : Lay} {w : World} (h : BookR l p L w) : ∀ k ∈ L.all p, k < w.heap.size := by
  obtain ⟨h1, h2, h3, h4, h5, ⟨c6, h6a, h6⟩, ⟨c7, h7a, h7⟩, h8, h9, h10, h11, h12⟩ := h
  intro k hk
  unfold Lay.all at hk
  simp only [List.mem_cons, List.mem_append] at hk
  rcases hk with rfl | rfl | rfl | rfl | rfl | hk | hk | hk | hk | hk
  · exact h3.lt
  · exact h4.lt
  · exact h5.lt
  · exact h6.lt
  · exact h7.lt
  · exact own_ltT h8 hk
  · exact own_ltT h9 hk
  · exact own_ltT h10 hk
  · exact h11.lt k hk
  · exact h12.lt k hk
theorem BookR.later {l : List Ent} {p : Nat} {L : Lay} {w w' : World} (h : BookR l p L w) (hb : Below w.heap.size w w') : BookR l p L w' := h.stab fun k hk => hb.block k (h.lt k hk)
/-- What a call may have turned: the book's own memory, and new memory. -/
structure Step (p : Nat) (L L' : Lay) (w w' : World) : Prop where
  kept : Kept (fun k => k < w.heap.size ∧ k ∉ L.all p) w w'
  new : ∀ k ∈ L'.all p, k ∈ L.all p ∨ w.heap.size ≤ k
theorem Step.below {p : Nat} {L : Lay} {w w' : World} (h : Below w.heap.size w w') : Step p L L w w' :=
  ⟨⟨h.os, h.tape, h.output, h.size, fun k hk => h.block k hk.1⟩, fun k hk => .inl hk⟩
/-- The variable of a standard. -/
theorem known_get : ∀ {l : List Ent} {bs : List Nat} {w : World} {n : ByteArray} {s : Std}, GoodB l → KnownsT w l bs → stdT l n = some s →
    ∃ b, ptrT (stdsT l) bs n = some b ∧ b ∈ bs ∧ Blk w b 109 (knownC s (parO l bs s) (madeT l n))
  | [], _, _, _, _, _, _, h => by cases h
  | .radar m d :: l, bs, w, n, s, hg, hk, h => known_get (l := l) hg.2 hk h
  | .test t :: l, bs, w, n, s, hg, hk, h => known_get (l := l) hg.2 hk h
  | .turn m o :: l, bs, w, n, s, hg, hk, h => known_get (l := l) hg.2 hk h
  | .define x :: l, [], w, n, s, hg, hk, h => hk.elim
  | .define x :: l, b :: bs, w, n, s, hg, hk, h => by
    have hpar : ∀ y p, stdT l y.par = some p → parO (.define x :: l) (b :: bs) y = parO l bs y := fun y p hp => by
      unfold parO
      have : x.name ≠ y.par := fresh_of hg hp
      rw [stdsT, ptrT, if_neg this]
    by_cases hx : x.name = n
    · have h0 := h
      unfold stdT at h
      rw [if_pos hx] at h
      obtain rfl := Option.some.inj h
      refine ⟨b, by rw [stdsT, ptrT, if_pos hx], List.mem_cons_self, ?_⟩
      have h1 := hk.1
      rw [hx] at h1
      by_cases hp : x.par = ByteArray.empty
      · have e1 : parO l bs x = none := by unfold parO; rw [if_pos hp]
        have e2 : parO (.define x :: l) (b :: bs) x = none := by unfold parO; rw [if_pos hp]
        rw [e2]; rw [e1] at h1; exact h1
      · have he : defineE l x = 0 := by have := hg.1; unfold okEnt at this; simpa using this
        obtain ⟨-, -, -, -, h5⟩ := defineE_zero he
        rcases h5 with h5 | ⟨-, -, p, h7, -⟩
        · exact absurd h5 hp
        · rw [hpar x p h7]; exact h1
    · rw [stdT_cons (show Fresh (.define x) n from hx)] at h
      obtain ⟨g, h1, h2, h3⟩ := known_get (l := l) hg.2 hk.2 h
      refine ⟨g, by rw [stdsT, ptrT, if_neg hx]; exact h1, List.mem_cons_of_mem _ h2, ?_⟩
      rw [madeT_cons (show Fresh (.define x) n from hx)]
      by_cases hp : s.par = ByteArray.empty
      · have e1 : parO l bs s = none := by unfold parO; rw [if_pos hp]
        have e2 : parO (.define x :: l) (b :: bs) s = none := by unfold parO; rw [if_pos hp]
        rw [e2]; rw [e1] at h3; exact h3
      · obtain ⟨p, h7, -⟩ := par_of (l := l) hg.2 h hp
        rw [hpar s p h7]; exact h3
/-- A name that no standard bears has no variable. -/
theorem ptr_none : ∀ {l : List Ent} {bs : List Nat} {n : ByteArray}, stdT l n = none → ptrT (stdsT l) bs n = none
  | [], bs, n, _ => by cases bs <;> rfl
  | .radar m d :: l, bs, n, h => ptr_none (l := l) h
  | .test t :: l, bs, n, h => ptr_none (l := l) h
  | .turn m o :: l, bs, n, h => ptr_none (l := l) h
  | .define x :: l, [], n, h => by rw [stdsT]; rfl
  | .define x :: l, b :: bs, n, h => by
    unfold stdT at h
    split at h
    · cases h
    · rename_i hx
      rw [stdsT, ptrT, if_neg hx]
      exact ptr_none (l := l) h
end Go.Proofs.Ytiggefmckomilaa
