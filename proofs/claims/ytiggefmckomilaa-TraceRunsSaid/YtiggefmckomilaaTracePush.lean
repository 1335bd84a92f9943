/-
  A book as it lies in memory.
  A new book.
  Whether a book has room for an entry; reading calls: Entries, Value.
  The value of a standard at a time.
  Regions that draw their order: a store into a map.
  An entry is laid into a book: the row of entries grows.
-/
import Derived.Test.YtiggefmckomilaaMapV
import Derived.WideKeyEntry
set_option linter.unusedSimpArgs false
set_option linter.unusedVariables false
namespace Go.Proofs.Ytiggefmckomilaa
open Go Go.RowKit

def ptrB (g : Nat) : Value := .pointer (some ⟨g, 0, none⟩)
/-- The block of the standard of a name. -/
def ptrT : List Std → List Nat → ByteArray → Option Nat
  | s :: ss, b :: bs, n => if s.name = n then some b else ptrT ss bs n
  | _, _, _ => none
def addrO (o : Option Nat) : Option Addr := o.map fun g => ⟨g, 0, none⟩
def parO (l : List Ent) (bs : List Nat) (s : Std) : Option Addr := if s.par = ByteArray.empty then none else addrO (ptrT (stdsT l) bs s.par)
/-- The standards' variables. -/
def KnownsT (w : World) : List Ent → List Nat → Prop
  | [], bs => bs = []
  | .define s :: l, bs => match bs with
    | b :: bs => Blk w b 109 (knownC s (parO l bs s) (madeT (.define s :: l) s.name)) ∧ KnownsT w l bs
    | [] => False
  | _ :: l, bs => KnownsT w l bs
/-- The tests' cells, the oldest first. -/
def testC (l : List Ent) (bs : List Nat) (t : Tst) : List Value :=
  [.string t.radar, .string t.std, .int .i64 t.time, .int .i64 t.lo, .int .i64 t.hi, .pointer (addrO (ptrT (stdsT l) bs t.std)), .int .i64 (gainT l t).1, .int .i64 (gainT l t).2]
def testRows : List Ent → List Nat → List Value
  | [], _ => []
  | .test t :: l, bs => testRows l bs ++ testC l bs t
  | .define _ :: l, bs => testRows l bs.tail
  | _ :: l, bs => testRows l bs
/-- An entry is a function, and what it has captured. -/
def entF (e : Ent) (c : List Nat) : Value := match e with
  | .radar _ _ => .func (.func 61) #[] ⟨c.map ptrB⟩
  | .define _ => .func (.func 65) #[] ⟨c.map ptrB⟩
  | .test _ => .func (.func 66) #[] ⟨c.map ptrB⟩
  | .turn _ _ => .func (.func 91) #[] ⟨c.map ptrB⟩
def entRow : List Ent → List (List Nat) → List Value
  | e :: l, c :: cs => entRow l cs ++ [entF e c]
  | _, _ => []
def stdC (s : Std) : Array Value := #[.string s.name, .string s.par, .int .i64 s.lo, .int .i64 s.hi, .int .i64 s.time, .int .i64 s.stop, .int .i64 s.drift]
def tstC (t : Tst) : Array Value := #[.string t.radar, .string t.std, .int .i64 t.time, .int .i64 t.lo, .int .i64 t.hi]
def capOk (w : World) (e : Ent) (c : List Nat) : Prop := match e with
  | .radar n d => ∃ a b, c = [a, b] ∧ Blk w a 9 #[.string n] ∧ Blk w b 3 #[.int .i64 d]
  | .define s => ∃ a, c = [a] ∧ Blk w a 43 (stdC s)
  | .test t => ∃ a, c = [a] ∧ Blk w a 51 (tstC t)
  | .turn n o => ∃ a b, c = [a, b] ∧ Blk w a 9 #[.string n] ∧ Blk w b 4 #[.bool o]
def CapsT (w : World) : List Ent → List (List Nat) → Prop
  | [], cs => cs = []
  | e :: l, cs => match cs with
    | c :: cs => capOk w e c ∧ CapsT w l cs
    | [] => False

/-- Where a book lies: its maps, its rows, its standards, what its entries have captured. -/
structure Lay where
  br : Nat
  bs : Nat
  bw : Nat
  bv : Nat
  vo : Value
  vt : Value
  ve : Value
  kb : List Nat
  cb : List (List Nat)
def optL (v : Value) : List Nat := v.ownBlock.toList
def Lay.all (L : Lay) (p : Nat) : List Nat := p :: L.br :: L.bs :: L.bw :: L.bv :: (optL L.vo ++ (optL L.vt ++ (optL L.ve ++ (L.kb ++ L.cb.flatten))))
def boolF (f : ByteArray → Bool) (n : ByteArray) : Option Value := if f n = true then some (.bool true) else none
def bookC (L : Lay) : Array Value := #[.bool true, .map (some L.br), .map (some L.bs), L.vo, L.vt, .map (some L.bw), .map (some L.bv), L.ve]
structure BookR (l : List Ent) (p : Nat) (L : Lay) (w : World) : Prop where
  good : GoodB l
  nodup : (L.all p).Nodup
  book : Blk w p 98 (bookC L)
  radars : MapV w Try.prog 9 L.br (fun n => (driftT l n).map (Value.int .i64)) (radarsT l).length
  stds : MapV w Try.prog 9 L.bs (fun n => (ptrT (stdsT l) L.kb n).map ptrB) (stdsT l).length
  wd : ∃ c, c ≤ l.length ∧ MapV w Try.prog 9 L.bw (boolF (wdT l)) c
  void : ∃ c, c ≤ l.length * l.length ∧ MapV w Try.prog 9 L.bv (boolF (voidT l)) c
  order : w.ownsRow 0 107 1 L.vo (stdsT l).length (L.kb.reverse.map ptrB)
  tests : w.ownsRow 0 113 8 L.vt (testsT l).length (testRows l L.kb)
  entries : w.ownsRow 0 106 1 L.ve l.length (entRow l L.cb)
  knowns : KnownsT w l L.kb
  caps : CapsT w l L.cb

theorem optL_mem {v : Value} {g : Nat} (h : v.ownBlock = some g) : g ∈ optL v := by unfold optL; rw [h]; simp
theorem own_stabT {w w' : World} {base : Nat} {e : TypeId} {size n : Nat} {v : Value} {xs : List Value} (h : w.ownsRow base e size v n xs) (hk : ∀ g, v.ownBlock = some g → w'.heap[g]? = w.heap[g]?) : w'.ownsRow base e size v n xs := by
  refine ⟨h.1, ?_⟩
  rcases h.2 with h0 | ⟨g, cap, cur, hv, hb, hg, r⟩
  · exact .inl h0
  · refine .inr ⟨g, cap, cur, hv, hb, ?_, r⟩
    rw [hk g (by rw [hv]; rfl)]; exact hg
theorem KnownsT.stab {w w' : World} : ∀ {l : List Ent} {bs : List Nat}, KnownsT w l bs → (∀ k ∈ bs, w'.heap[k]? = w.heap[k]?) → KnownsT w' l bs
  | [], _, h, _ => h
  | .define s :: l, [], h, _ => h.elim
  | .define s :: l, b :: bs, h, hk => ⟨(hk b List.mem_cons_self).trans h.1, KnownsT.stab (l := l) h.2 fun k h' => hk k (List.mem_cons_of_mem _ h')⟩
  | .radar _ _ :: l, _, h, hk => KnownsT.stab (l := l) h hk
  | .test _ :: l, _, h, hk => KnownsT.stab (l := l) h hk
  | .turn _ _ :: l, _, h, hk => KnownsT.stab (l := l) h hk
theorem capOk.stab {w w' : World} {e : Ent} {c : List Nat} (h : capOk w e c) (hk : ∀ k ∈ c, w'.heap[k]? = w.heap[k]?) : capOk w' e c := by
  unfold capOk at *
  cases e with
  | radar n d =>
    obtain ⟨a, b, rfl, h1, h2⟩ := h
    exact ⟨a, b, rfl, (hk a (by simp)).trans h1, (hk b (by simp)).trans h2⟩
  | define s =>
    obtain ⟨a, rfl, h1⟩ := h
    exact ⟨a, rfl, (hk a (by simp)).trans h1⟩
  | test t =>
    obtain ⟨a, rfl, h1⟩ := h
    exact ⟨a, rfl, (hk a (by simp)).trans h1⟩
  | turn n o =>
    obtain ⟨a, b, rfl, h1, h2⟩ := h
    exact ⟨a, b, rfl, (hk a (by simp)).trans h1, (hk b (by simp)).trans h2⟩
theorem CapsT.stab {w w' : World} : ∀ {l : List Ent} {cs : List (List Nat)}, CapsT w l cs → (∀ k ∈ cs.flatten, w'.heap[k]? = w.heap[k]?) → CapsT w' l cs
  | [], _, h, _ => h
  | e :: l, [], h, _ => h.elim
  | e :: l, c :: cs, h, hk => ⟨capOk.stab h.1 fun k h' => hk k (by rw [List.flatten_cons]; exact List.mem_append_left _ h'), CapsT.stab (l := l) h.2 fun k h' => hk k (by rw [List.flatten_cons]; exact List.mem_append_right _ h')⟩

theorem BookR.stab {l : List Ent} {p : Nat} {L : Lay} {w w' : World} (h : BookR l p L w) (hk : ∀ k ∈ L.all p, w'.heap[k]? = w.heap[k]?) : BookR l p L w' := by
  obtain ⟨h1, h2, h3, h4, h5, ⟨c6, h6a, h6⟩, ⟨c7, h7a, h7⟩, h8, h9, h10, h11, h12⟩ := h
  unfold Lay.all at hk
  refine ⟨h1, h2, (hk p (by simp)).trans h3, h4.stab (hk _ (by simp)), h5.stab (hk _ (by simp)), ⟨c6, h6a, h6.stab (hk _ (by simp))⟩, ⟨c7, h7a, h7.stab (hk _ (by simp))⟩,
    own_stabT h8 fun g hg => hk g (by simp [optL_mem hg]), own_stabT h9 fun g hg => hk g (by simp [optL_mem hg]), own_stabT h10 fun g hg => hk g (by simp [optL_mem hg]),
    h11.stab fun k h' => hk k (by simp [h']), h12.stab fun k h' => hk k ?_⟩
  simp only [List.mem_cons, List.mem_append]
  exact .inr (.inr (.inr (.inr (.inr (.inr (.inr (.inr (.inr h'))))))))
theorem KnownsT.lt {w : World} : ∀ {l : List Ent} {bs : List Nat}, KnownsT w l bs → ∀ k ∈ bs, k < w.heap.size
  | [], _, h, k, hk => by rw [show _ = [] from h] at hk; cases hk
  | .define s :: l, [], h, _, _ => h.elim
  | .define s :: l, b :: bs, h, k, hk => by
    rcases List.mem_cons.1 hk with rfl | hk
    · exact h.1.lt
    · exact KnownsT.lt (l := l) h.2 k hk
  | .radar _ _ :: l, _, h, k, hk => KnownsT.lt (l := l) h k hk
  | .test _ :: l, _, h, k, hk => KnownsT.lt (l := l) h k hk
  | .turn _ _ :: l, _, h, k, hk => KnownsT.lt (l := l) h k hk
theorem capOk.lt {w : World} {e : Ent} {c : List Nat} (h : capOk w e c) : ∀ k ∈ c, k < w.heap.size := by
  unfold capOk at h
  cases e with
  | radar n d => obtain ⟨a, b, rfl, h1, h2⟩ := h; intro k hk; simp at hk; rcases hk with rfl | rfl; exact h1.lt; exact h2.lt
  | define s => obtain ⟨a, rfl, h1⟩ := h; intro k hk; simp at hk; subst hk; exact h1.lt
  | test t => obtain ⟨a, rfl, h1⟩ := h; intro k hk; simp at hk; subst hk; exact h1.lt
  | turn n o => obtain ⟨a, b, rfl, h1, h2⟩ := h; intro k hk; simp at hk; rcases hk with rfl | rfl; exact h1.lt; exact h2.lt
theorem CapsT.lt {w : World} : ∀ {l : List Ent} {cs : List (List Nat)}, CapsT w l cs → ∀ k ∈ cs.flatten, k < w.heap.size
  | [], _, h, k, hk => by rw [show _ = [] from h] at hk; cases hk
  | e :: l, [], h, _, _ => h.elim
  | e :: l, c :: cs, h, k, hk => by
    rw [List.flatten_cons] at hk
    rcases List.mem_append.1 hk with hk | hk
    · exact h.1.lt k hk
    · exact CapsT.lt (l := l) h.2 k hk
theorem own_ltT {w : World} {base : Nat} {e : TypeId} {size n k : Nat} {v : Value} {xs : List Value} (h : w.ownsRow base e size v n xs) (hk : k ∈ optL v) : k < w.heap.size := by
  unfold optL at hk
  cases hv : v.ownBlock with
  | none => rw [hv] at hk; simp at hk
  | some g => rw [hv] at hk; simp at hk; subst hk; exact (h.lt _ hv).2
theorem BookR.lt {l : List Ent} {p : Nat} {L : Lay} {w : World} (h : BookR l p L w) : ∀ k ∈ L.all p, k < w.heap.size := by
  obtain ⟨h1, h2, h3, h4, h5, ⟨c6, h6a, h6⟩, ⟨c7, h7a, h7⟩, h8, h9, h10, h11, h12⟩ := h
  intro k hk
  unfold Lay.all at hk
  simp only [List.mem_cons, List.mem_append] at hk
  rcases hk with rfl | rfl | rfl | rfl | rfl | hk | hk | hk | hk | hk
  · exact h3.lt
  · exact h4.lt
  · exact h5.lt
  · exact h6.lt
  · exact h7.lt
  · exact own_ltT h8 hk
  · exact own_ltT h9 hk
  · exact own_ltT h10 hk
  · exact h11.lt k hk
  · exact h12.lt k hk
theorem BookR.later {l : List Ent} {p : Nat} {L : Lay} {w w' : World} (h : BookR l p L w) (hb : Below w.heap.size w w') : BookR l p L w' := h.stab fun k hk => hb.block k (h.lt k hk)
/-- What a call may have turned: the book's own memory, and new memory. -/
structure Step (p : Nat) (L L' : Lay) (w w' : World) : Prop where
  kept : Kept (fun k => k < w.heap.size ∧ k ∉ L.all p) w w'
  new : ∀ k ∈ L'.all p, k ∈ L.all p ∨ w.heap.size ≤ k
theorem Step.below {p : Nat} {L : Lay} {w w' : World} (h : Below w.heap.size w w') : Step p L L w w' :=
  ⟨⟨h.os, h.tape, h.output, h.size, fun k hk => h.block k hk.1⟩, fun k hk => .inl hk⟩
/-- The variable of a standard. -/
theorem known_get : ∀ {l : List Ent} {bs : List Nat} {w : World} {n : ByteArray} {s : Std}, GoodB l → KnownsT w l bs → stdT l n = some s →
    ∃ b, ptrT (stdsT l) bs n = some b ∧ b ∈ bs ∧ Blk w b 109 (knownC s (parO l bs s) (madeT l n))
  | [], _, _, _, _, _, _, h => by cases h
  | .radar m d :: l, bs, w, n, s, hg, hk, h => known_get (l := l) hg.2 hk h
  | .test t :: l, bs, w, n, s, hg, hk, h => known_get (l := l) hg.2 hk h
  | .turn m o :: l, bs, w, n, s, hg, hk, h => known_get (l := l) hg.2 hk h
  | .define x :: l, [], w, n, s, hg, hk, h => hk.elim
  | .define x :: l, b :: bs, w, n, s, hg, hk, h => by
    have hpar : ∀ y p, stdT l y.par = some p → parO (.define x :: l) (b :: bs) y = parO l bs y := fun y p hp => by
      unfold parO
      have : x.name ≠ y.par := fresh_of hg hp
      rw [stdsT, ptrT, if_neg this]
    by_cases hx : x.name = n
    · have h0 := h
      unfold stdT at h
      rw [if_pos hx] at h
      obtain rfl := Option.some.inj h
      refine ⟨b, by rw [stdsT, ptrT, if_pos hx], List.mem_cons_self, ?_⟩
      have h1 := hk.1
      rw [hx] at h1
      by_cases hp : x.par = ByteArray.empty
      · have e1 : parO l bs x = none := by unfold parO; rw [if_pos hp]
        have e2 : parO (.define x :: l) (b :: bs) x = none := by unfold parO; rw [if_pos hp]
        rw [e2]; rw [e1] at h1; exact h1
      · have he : defineE l x = 0 := by have := hg.1; unfold okEnt at this; simpa using this
        obtain ⟨-, -, -, -, h5⟩ := defineE_zero he
        rcases h5 with h5 | ⟨-, -, p, h7, -⟩
        · exact absurd h5 hp
        · rw [hpar x p h7]; exact h1
    · rw [stdT_cons (show Fresh (.define x) n from hx)] at h
      obtain ⟨g, h1, h2, h3⟩ := known_get (l := l) hg.2 hk.2 h
      refine ⟨g, by rw [stdsT, ptrT, if_neg hx]; exact h1, List.mem_cons_of_mem _ h2, ?_⟩
      rw [madeT_cons (show Fresh (.define x) n from hx)]
      by_cases hp : s.par = ByteArray.empty
      · have e1 : parO l bs s = none := by unfold parO; rw [if_pos hp]
        have e2 : parO (.define x :: l) (b :: bs) s = none := by unfold parO; rw [if_pos hp]
        rw [e2]; rw [e1] at h3; exact h3
      · obtain ⟨p, h7, -⟩ := par_of (l := l) hg.2 h hp
        rw [hpar s p h7]; exact h3
/-- A name that no standard bears has no variable. -/
theorem ptr_none : ∀ {l : List Ent} {bs : List Nat} {n : ByteArray}, stdT l n = none → ptrT (stdsT l) bs n = none
  | [], bs, n, _ => by cases bs <;> rfl
  | .radar m d :: l, bs, n, h => ptr_none (l := l) h
  | .test t :: l, bs, n, h => ptr_none (l := l) h
  | .turn m o :: l, bs, n, h => ptr_none (l := l) h
  | .define x :: l, [], n, h => by rw [stdsT]; rfl
  | .define x :: l, b :: bs, n, h => by
    unfold stdT at h
    split at h
    · cases h
    · rename_i hx
      rw [stdsT, ptrT, if_neg hx]
      exact ptr_none (l := l) h
end Go.Proofs.Ytiggefmckomilaa
namespace Go.Proofs.Ytiggefmckomilaa
open Go Go.RowKit

def NewPost (w : World) (e : Ending) (w' : World) : Prop := ∃ p L, e = .returned (ptrB p) ∧ BookR [] p L w' ∧ Below w.heap.size w w' ∧ ∀ k ∈ L.all p, w.heap.size ≤ k
theorem mapV_alloc {w : World} {P : Program} {k : TypeId} {b c : Nat} {f : ByteArray → Option Value} (h : MapV w P k b f c) (o : Obj) : MapV (w.alloc o) P k b f c := h.stab (Below.heap_alloc w o b h.lt)
theorem mapV_at {w : World} {P : Program} {k : TypeId} {b : Nat} (h : b = w.heap.size) : MapV (w.alloc (.map #[] 0)) P k b (fun _ => none) 0 := by subst h; exact MapV_made _ _ _
set_option maxHeartbeats 1000000 in
set_option maxRecDepth 100000 in
theorem New_any (w : World) : Calls Try.prog 16 #[] w (NewPost w) := by
  have hmm := @run_makeMap Try.prog
  go_enter Try.func16, Try.ntmps16
  go_wp2
  go_ret
  have hB : Below w.heap.size w (((((w.alloc (.map #[] 0)).alloc (.map #[] 0)).alloc (.map #[] 0)).alloc (.map #[] 0)).alloc (.cells #[.bool true, .map (some w.heap.size), .map (some (w.heap.size + 1)), .slice none 0 0, .slice none 0 0, .map (some (w.heap.size + 2)), .map (some (w.heap.size + 3)), .slice none 0 0] 98)) :=
    ((((((Below.refl _ _).alloc (Nat.le_refl _) _).alloc (by simp) _).alloc (by simp; omega) _).alloc (by simp; omega) _).alloc (by simp; omega) _)
  refine ⟨w.heap.size + 4, ⟨w.heap.size, w.heap.size + 1, w.heap.size + 2, w.heap.size + 3, .slice none 0 0, .slice none 0 0, .slice none 0 0, [], []⟩, rfl, ?_, hB, ?_⟩
  · refine ⟨trivial, by simp [Lay.all, optL, Value.ownBlock], ?_, ?_, ?_, ⟨0, Nat.le_refl _, ?_⟩, ⟨0, Nat.le_refl _, ?_⟩, World.ownsRow_nil _ _ _ _, World.ownsRow_nil _ _ _ _, World.ownsRow_nil _ _ _ _, rfl, rfl⟩
    · exact blk_new_at (by simp)
    · exact mapV_alloc (mapV_alloc (mapV_alloc (mapV_alloc (MapV_made _ _ _) _) _) _) _
    · exact mapV_alloc (mapV_alloc (mapV_alloc (mapV_at (by simp)) _) _) _
    · exact (mapV_alloc (mapV_alloc (mapV_at (by simp)) _) _)
    · exact (mapV_alloc (mapV_at (by simp)) _)
  · intro k hk
    simp [Lay.all, optL, Value.ownBlock] at hk
    omega
end Go.Proofs.Ytiggefmckomilaa
namespace Go.Proofs.Ytiggefmckomilaa
open Go Go.RowKit

theorem Blk.c8 {w : World} {g : Nat} {t : TypeId} {a b c d e f i j : Value} (h : Blk w g t #[a, b, c, d, e, f, i, j]) :
    w.cell? ⟨g, 0, none⟩ = some a ∧ w.cell? ⟨g, 1, none⟩ = some b ∧ w.cell? ⟨g, 2, none⟩ = some c ∧ w.cell? ⟨g, 3, none⟩ = some d ∧ w.cell? ⟨g, 4, none⟩ = some e ∧ w.cell? ⟨g, 5, none⟩ = some f ∧ w.cell? ⟨g, 6, none⟩ = some i ∧ w.cell? ⟨g, 7, none⟩ = some j :=
  ⟨h.c 0 rfl, h.c 1 rfl, h.c 2 rfl, h.c 3 rfl, h.c 4 rfl, h.c 5 rfl, h.c 6 rfl, h.c 7 rfl⟩
def stateE (n : Nat) : Int := if 2000 ≤ n then 13 else 0
set_option maxHeartbeats 1000000 in
set_option maxRecDepth 100000 in
theorem state_any (p n c : Nat) (a1 a2 a3 a4 a5 a6 : Value) (A : Option Addr) (w : World) (hb : Blk w p 98 #[.bool true, a1, a2, a3, a4, a5, a6, .slice A n c]) :
    Calls Try.prog 58 #[.pointer (some ⟨p, 0, none⟩)] w fun e w' => e = .returned (.int .i64 (stateE n)) ∧ Below w.heap.size w w' := by
  obtain ⟨x0, x1, x2, x3, x4, x5, x6, x7⟩ := hb.c8
  have ltx := hb.lt
  by_cases h : 2000 ≤ n
  · have hi : (2000 : Int) ≤ n := by omega
    have e1 : stateE n = 13 := by unfold stateE; rw [if_pos h]
    rw [e1]
    clear e1 h
    go_enter Try.func58, Try.ntmps58
    go_wp2
    go_ret
    exact ⟨rfl, Below.refl _ _⟩
  · have hi : ¬ (2000 : Int) ≤ n := by omega
    have e1 : stateE n = 0 := by unfold stateE; rw [if_neg h]
    rw [e1]
    clear e1 h
    go_enter Try.func58, Try.ntmps58
    go_wp2
    go_ret
    exact ⟨rfl, Below.refl _ _⟩
theorem Entries_any (l : List Ent) (p : Nat) (L : Lay) (w : World) (hb : BookR l p L w) :
    Calls Try.prog 34 #[ptrB p] w fun e w' => e = .returned (.int .i64 l.length) ∧ Below w.heap.size w w' := by
  have hk := hb.book
  obtain ⟨A, c, hv⟩ := own_shape2 hb.entries
  unfold bookC at hk
  rw [hv] at hk
  obtain ⟨x0, x1, x2, x3, x4, x5, x6, x7⟩ := hk.c8
  have ltx := hk.lt
  clear hb
  unfold ptrB
  go_enter Try.func34, Try.ntmps34
  go_wp2
  go_ret
  exact ⟨rfl, Below.refl _ _⟩
end Go.Proofs.Ytiggefmckomilaa
namespace Go.Proofs.Ytiggefmckomilaa
open Go Go.RowKit

def valueE (l : List Ent) (n : ByteArray) (t : Int) : (Int × Int) × Int := match stdT l n with
  | none => ((0, 0), 4)
  | some s => if (voidT l n || !inR t s.time s.stop) = true then ((0, 0), 22) else (valueT l s t, 0)
def spanE (s : (Int × Int) × Int) : Value := .tuple #[.agg #[.int .i64 s.1.1, .int .i64 s.1.2], .int .i64 s.2]

/-- What the book's maps hold, in every later world. -/
theorem look_std {l : List Ent} {p : Nat} {L : Lay} {w W : World} (hb : BookR l p L w) (hw : Below w.heap.size w W) {n : ByteArray} (hn : n.size ≤ maxLen) :
    (Instr.lookup 92 (.map (some L.bs)) (.string n) false).run Try.prog W = .ok (.pointer (addrO (ptrT (stdsT l) L.kb n))) W := by
  have h := (hb.later hw).stds.look (t := 92) (e := 107) Try.underlying9 Try.underlying92 (z := .pointer none) (by kernel_rfl) hn
  rw [h]
  unfold addrO
  cases ptrT (stdsT l) L.kb n <;> rfl
theorem look_void {l : List Ent} {p : Nat} {L : Lay} {w W : World} (hb : BookR l p L w) (hw : Below w.heap.size w W) {n : ByteArray} (hn : n.size ≤ maxLen) :
    (Instr.lookup 95 (.map (some L.bv)) (.string n) false).run Try.prog W = .ok (.bool (voidT l n)) W := by
  obtain ⟨c, -, hc⟩ := (hb.later hw).void
  have h := hc.look (t := 95) (e := 4) Try.underlying9 Try.underlying95 (z := .bool false) (by kernel_rfl) hn
  rw [h]
  unfold boolF
  cases voidT l n <;> rfl
theorem look_wd {l : List Ent} {p : Nat} {L : Lay} {w W : World} (hb : BookR l p L w) (hw : Below w.heap.size w W) {n : ByteArray} (hn : n.size ≤ maxLen) :
    (Instr.lookup 95 (.map (some L.bw)) (.string n) false).run Try.prog W = .ok (.bool (wdT l n)) W := by
  obtain ⟨c, -, hc⟩ := (hb.later hw).wd
  have h := hc.look (t := 95) (e := 4) Try.underlying9 Try.underlying95 (z := .bool false) (by kernel_rfl) hn
  rw [h]
  unfold boolF
  cases wdT l n <;> rfl
theorem look_radar {l : List Ent} {p : Nat} {L : Lay} {w W : World} (hb : BookR l p L w) (hw : Below w.heap.size w W) {n : ByteArray} (hn : n.size ≤ maxLen) :
    (Instr.lookup 91 (.map (some L.br)) (.string n) true).run Try.prog W = .ok (.tuple #[.int .i64 ((driftT l n).getD 0), .bool (driftT l n).isSome]) W := by
  have h := (hb.later hw).radars.look_ok (t := 91) (e := 3) Try.underlying9 Try.underlying91 (z := .int .i64 0) (by kernel_rfl) hn
  rw [h]
  cases driftT l n <;> rfl
/-- The book's own cells. -/
theorem BookR.cells {l : List Ent} {p : Nat} {L : Lay} {w : World} (h : BookR l p L w) : ∃ Ao co At ct Ae ce, L.vo = .slice Ao (stdsT l).length co ∧ L.vt = .slice At (testsT l).length ct ∧ L.ve = .slice Ae l.length ce ∧
    Blk w p 98 #[.bool true, .map (some L.br), .map (some L.bs), .slice Ao (stdsT l).length co, .slice At (testsT l).length ct, .map (some L.bw), .map (some L.bv), .slice Ae l.length ce] := by
  obtain ⟨Ao, co, h1⟩ := own_shape2 h.order
  obtain ⟨At, ct, h2⟩ := own_shape2 h.tests
  obtain ⟨Ae, ce, h3⟩ := own_shape2 h.entries
  refine ⟨Ao, co, At, ct, Ae, ce, h1, h2, h3, ?_⟩
  have hk := h.book
  unfold bookC at hk
  rwa [h1, h2, h3] at hk

set_option maxHeartbeats 1000000 in
set_option maxRecDepth 100000 in
theorem Value_any (l : List Ent) (p : Nat) (L : Lay) (n : ByteArray) (t : Int) (w : World) (hb : BookR l p L w) (hn : n.size ≤ maxLen) :
    Calls Try.prog 22 #[ptrB p, .string n, .int .i64 t] w fun e w' => e = .returned (spanE (valueE l n t)) ∧ Below w.heap.size w w' := by
  obtain ⟨Ao, co, At, ct, Ae, ce, -, -, -, hk⟩ := hb.cells
  obtain ⟨x0, x1, x2, x3, x4, x5, x6, x7⟩ := hk.c8
  have ltx := hk.lt
  have hl := fun W hw => look_std (W := W) hb hw hn
  have hv := fun W hw => look_void (W := W) hb hw hn
  have hr : valueE l n t = match stdT l n with
    | none => ((0, 0), 4)
    | some s => if (voidT l n || !inR t s.time s.stop) = true then ((0, 0), 22) else (valueT l s t, 0) := rfl
  generalize valueE l n t = r at *
  have hw1 := (Below.refl w.heap.size w).alloc (Nat.le_refl _) (.cells #[.int .i64 0, .int .i64 0] 23)
  have hl1 := hl _ hw1
  have hv1 := hv _ hw1
  clear hl hv
  cases hs : stdT l n with
  | none =>
    rw [hs] at hr
    rw [ptr_none hs] at hl1
    unfold addrO at hl1
    simp only [Option.map_none] at hl1
    subst hr
    clear hb hk hv1
    unfold spanE ptrB
    go_enter Try.func22, Try.ntmps22
    go_wp2
    refine bodyPost_ret (v := .tuple #[.agg #[.int .i64 0, .int .i64 0], .int .i64 4]) (by simp [results, Try.results22, go_sem]) rfl ⟨rfl, ?_⟩
    repeat (first | exact Below.refl _ _ | (refine Below.setCell ?_ (by first | omega | (simp; done) | (simp; omega)) _) | (refine Below.alloc ?_ (by first | omega | (simp; done) | (simp; omega)) _) | (refine below_drewN ?_ _))
  | some s =>
    rw [hs] at hr
    simp only at hr
    obtain ⟨hok, hnm, hmd⟩ := good_std hb.good hs
    obtain ⟨b, hpt, -, hbk⟩ := known_get hb.good hb.knowns hs
    rw [hpt] at hl1
    unfold addrO at hl1
    simp only [Option.map_some] at hl1
    have hbk1 := blk_later hbk hw1
    have hh := fun W hk => holds_any s (parO l L.kb s) (madeT l n) b t W hk
    generalize voidT l n = vd at *
    cases vd with
    | true =>
      rw [if_pos (by simp)] at hr
      subst hr
      have Hh := hide hh
      have Hbk := hide hbk
      clear hh hbk
      clear hbk1 hmd hok hb hk
      unfold spanE ptrB
      go_enter Try.func22, Try.ntmps22
      have HB := hide (Below.refl w.heap.size w)
      go_wp2_with fail
      refine bodyPost_ret (v := .tuple #[.agg #[.int .i64 0, .int .i64 0], .int .i64 22]) (by simp [results, Try.results22, go_sem]) rfl ⟨rfl, ?_⟩
      repeat (first | exact Below.refl _ _ | (refine Below.setCell ?_ (by first | omega | (simp; done) | (simp; omega)) _) | (refine Below.alloc ?_ (by first | omega | (simp; done) | (simp; omega)) _) | (refine below_drewN ?_ _))
    | false =>
      have hat := fun W hk h0 h1 => at_any s (parO l L.kb s) (madeT l n) b t W hk hok hmd h0 h1
      have hvt : valueT l s t = widenS (madeT l n) s.drift s.time t := by unfold valueT; rw [hnm]
      rw [hvt] at hr
      by_cases hin : inR t s.time s.stop = true
      · rw [hin] at hh
        rw [if_neg (by rw [hin]; simp)] at hr
        obtain ⟨i1, i2⟩ := inR_iff.1 hin
        have ha := fun W hk => hat W hk (by have := hok.t0; omega) (by have := hok.t2; omega)
        generalize widenS (madeT l n) s.drift s.time t = v at *
        subst hr
        have Ha := hide ha
        clear ha
        clear hat hvt
        have Hh := hide hh
        have Hbk := hide hbk
        clear hh hbk
        clear hbk1 hmd hok hb hk
        unfold spanE ptrB
        go_enter Try.func22, Try.ntmps22
        have HB := hide (Below.refl w.heap.size w)
        go_wp2_with fail
        refine at_world fun W1 hW => ?_
        have bq0 : Blk W1 w.heap.size 23 #[.int .i64 0, .int .i64 0] := by rw [hW]; exact Blk.new _ _ _
        have LW : Later w W1 := by rw [hW]; exact ((Below.refl _ _).alloc (Nat.le_refl _) _)
        have szW : W1.heap.size = w.heap.size + 1 := by rw [hW]; simp
        clear hW
        replace HB := hide (onward HB.out LW)
        replace Hbk := hide (blk_later Hbk.out LW)
        have Ho := hide bq0
        clear bq0 LW szW
        refine (Hh.out _ Hbk.out).mono ?_
        rintro e w2 ⟨rfl, hb⟩
        replace HB := hide (onward HB.out hb)
        replace Hbk := hide (blk_later Hbk.out hb)
        replace Ho := hide (blk_later Ho.out hb)
        clear hb
        go_wp2_with fail
        refine (Ha.out _ Hbk.out).mono ?_
        rintro e w3 ⟨rfl, hb⟩
        replace HB := hide (onward HB.out hb)
        replace Hbk := hide (blk_later Hbk.out hb)
        replace Ho := hide (blk_later Ho.out hb)
        clear hb
        obtain ⟨o0, o1⟩ := Ho.out.c2
        have lto := Ho.out.lt
        have fo0 := Ho.out.frozen 0
        have fo1 := Ho.out.frozen 1
        go_wp2
        refine bodyPost_ret (v := .tuple #[.agg #[.int .i64 v.1, .int .i64 v.2], .int .i64 0]) (by simp [results, Try.results22, go_sem, o0, o1, fo0, fo1, lto]) rfl ⟨rfl, ?_⟩
        have hsz := HB.out.size
        repeat (first | exact HB.out | (refine Below.setCell ?_ (by first | omega | (simp; done) | (simp; omega)) _) | (refine Below.alloc ?_ (by first | omega | (simp; done) | (simp; omega)) _) | (refine below_drewN ?_ _))
      · have hin' : inR t s.time s.stop = false := by simpa using hin
        rw [hin'] at hh
        rw [if_pos (by rw [hin']; rfl)] at hr
        subst hr
        clear hat hvt
        have Hh := hide hh
        have Hbk := hide hbk
        clear hh hbk
        clear hbk1 hmd hok hb hk
        unfold spanE ptrB
        go_enter Try.func22, Try.ntmps22
        have HB := hide (Below.refl w.heap.size w)
        go_wp2_with fail
        refine at_world fun W1 hW => ?_
        have bq0 : Blk W1 w.heap.size 23 #[.int .i64 0, .int .i64 0] := by rw [hW]; exact Blk.new _ _ _
        have LW : Later w W1 := by rw [hW]; exact ((Below.refl _ _).alloc (Nat.le_refl _) _)
        have szW : W1.heap.size = w.heap.size + 1 := by rw [hW]; simp
        clear hW
        replace HB := hide (onward HB.out LW)
        replace Hbk := hide (blk_later Hbk.out LW)
        have Ho := hide bq0
        clear bq0 LW szW
        refine (Hh.out _ Hbk.out).mono ?_
        rintro e w2 ⟨rfl, hb⟩
        replace HB := hide (onward HB.out hb)
        replace Hbk := hide (blk_later Hbk.out hb)
        replace Ho := hide (blk_later Ho.out hb)
        clear hb
        obtain ⟨o0, o1⟩ := Ho.out.c2
        have lto := Ho.out.lt
        have fo0 := Ho.out.frozen 0
        have fo1 := Ho.out.frozen 1
        go_wp2
        refine bodyPost_ret (v := .tuple #[.agg #[.int .i64 0, .int .i64 0], .int .i64 22]) (by simp [results, Try.results22, go_sem, o0, o1, fo0, fo1, lto]) rfl ⟨rfl, ?_⟩
        have hsz := HB.out.size
        repeat (first | exact HB.out | (refine Below.setCell ?_ (by first | omega | (simp; done) | (simp; omega)) _) | (refine Below.alloc ?_ (by first | omega | (simp; done) | (simp; omega)) _) | (refine below_drewN ?_ _))
end Go.Proofs.Ytiggefmckomilaa
namespace Go.Proofs.Ytiggefmckomilaa
open Go Go.RowKit

def isMapUpd (o : Option Oper) (t : TypeId) (m x v : Tmp) : Bool := match o with
  | some ⟨none, .mapUpdate t' (.tmp m') (.tmp x') (.tmp v'), _, _, _, none⟩ => t' == t && m' == m && x' == x && v' == v
  | _ => false
theorem isMapUpd_spec {o : Option Oper} {t : TypeId} {m x v : Tmp} (h : isMapUpd o t m x v = true) : ∃ ty pos aft, o = some ⟨none, .mapUpdate t (.tmp m) (.tmp x) (.tmp v), ty, pos, aft, none⟩ := by
  unfold isMapUpd at h
  split at h
  · simp only [Bool.and_eq_true, beq_iff_eq] at h
    obtain ⟨⟨⟨rfl, rfl⟩, rfl⟩, rfl⟩ := h
    exact ⟨_, _, _, rfl⟩
  · cases h
theorem mapV_later {w w' : World} {P : Program} {k : TypeId} {b c : Nat} {f : ByteArray → Option Value} (h : MapV w P k b f c) (hl : Later w w') : MapV w' P k b f c := h.stab (hl.block b h.lt)
theorem mapV_grown {w w' : World} {P : Program} {k : TypeId} {b c : Nat} {f : ByteArray → Option Value} {row : Option Nat} (h : MapV w P k b f c) (hg : w.grownBy w' row) (hne : row ≠ some b) : MapV w' P k b f c := h.stab (hg.block b h.lt (Ne.symm hne))
section
variable {P : Program} {lops : List Oper} {an : List (List Nat)} {m1 m2 : List Bool} {st : List St} {w0 : World} {a0 : Act} {af : (Nat → Par) → Act} {shape : Nat → Par → Value} {wr : Nat → Nat → Prop} {R : Nat → (Nat → Par) → (Nat → Prop) → World → Prop} {s : St} {o : Oper}

/-- A store into a map that was there. -/
theorem obl_mapUpd (t k e : TypeId) (m x v : Tmp) (b c : Nat) (f : ByteArray → Option Value) (key : ByteArray) (val : Value) (hs : isMapUpd lops[s.i]? t m x v = true)
    (hm : ∀ (y : Nat → Par), (af y).tmps.getD m undef = .map (some b)) (hx : ∀ (y : Nat → Par), (af y).tmps.getD x undef = .string key) (hv : ∀ (y : Nat → Par), (af y).tmps.getD v undef = val)
    (hk : P.underlying k = some .string) (ht : P.underlying t = some (.map k e)) (hc : c < maxLen) (hsz : key.size ≤ maxLen) (hb0 : MapV w0 P k b f c) (hE : Eb an st wr s.i b) (hwr : wr s.i b) (hsh : ∀ y, shape s.i y = undef)
    (hR : ∀ (x : Nat → Par) (F : Nat → Prop) (w : World) (y : Par), F b → MapV w P k b (putF f key val) (if (f key).isSome then c else c + 1) → R s.i (upd x s.i y) F w) : Obl P lops an st wr w0 af shape R s := by
  intro y w F hkk hn
  cases ho' : lops[s.i]? with
  | none => rw [ho'] at hs; simp [isMapUpd] at hs
  | some o =>
    rw [ho'] at hs
    obtain ⟨ty, pos, aft, heq⟩ := isMapUpd_spec hs
    have e1 := Option.some.inj heq
    subst e1
    have hb : MapV w P k b f c := hb0.stab (hkk.block b ⟨hb0.lt, hE⟩)
    obtain ⟨w', hrun, hm', htn⟩ := hb.store hk ht hc hsz val
    have g := htn.grown
    refine ⟨_, rfl, by simp [Region.wanted], hrun_skip (w' := w') (by simp [execOp, Act.eval, hm y, hx y, hv y, hrun, Result.andThen]) ?_⟩
    refine ⟨fun _ => (none, 0), fun k => k = b, (hsh _).symm, ⟨g.os, g.tape, g.output, g.size, fun q hq => g.block q hq.1 fun e => hq.2 (.inl (by have : q = b := Option.some.inj e; rw [this]; exact hwr))⟩, fun q hq => ?_, hR y _ _ _ rfl hm'⟩
    subst hq
    exact ⟨Nat.lt_of_lt_of_le hb.lt g.size, .inr (.inl hwr)⟩
theorem owe_mapV (P' : Program) (k : TypeId) (b c : Nat) (f : ByteArray → Option Value) (hR : ∀ (x : Nat → Par) (F : Nat → Prop) (w : World), R s.i x F w = (F b ∧ MapV w P' k b f c)) : Owes R s :=
  ⟨fun x F w w' h _ hk => by rw [hR] at *; exact ⟨h.1, h.2.stab (hk b h.1)⟩, fun x x' F w hx h => by rw [hR] at *; exact h⟩
end

/-! ### A row's own block, and any other blocks -/
def fillL (i : Nat) (v : Value) (cs : List (Nat × Nat)) : List (Nat × Nat) := ownFill i v ++ cs
theorem mem_fillL {i : Nat} {v : Value} {cs : List (Nat × Nat)} {p : Nat × Nat} : p ∈ fillL i v cs ↔ (p.1 = i ∧ v.ownBlock = some p.2) ∨ p ∈ cs := by
  unfold fillL
  rw [List.mem_append, mem_ownFill]
section
variable {P : Program} {lops : List Oper} {an : List (List Nat)} {m1 m2 : List Bool} {st : List St} {w0 : World} {a0 : Act} {af : (Nat → Par) → Act} {shape : Nat → Par → Value} {wr : Nat → Nat → Prop} {R : Nat → (Nat → Par) → (Nat → Prop) → World → Prop} {s : St} {o : Oper}
variable {i f T B k : Nat} {v : Value} {cs : List (Nat × Nat)} {early : List Nat}
theorem fillL_lt (h : ∀ g, v.ownBlock = some g → g < B) (hc : ∀ q ∈ cs, q.2 < B) : ∀ p ∈ fillL i v cs, p.2 < B := fun p hp => by
  rcases mem_fillL.1 hp with ⟨_, h2⟩ | h2
  · exact h _ h2
  · exact hc _ h2
theorem fillL_ne (hne : ∀ q ∈ cs, v.ownBlock ≠ some q.2) (hcc : ∀ p ∈ cs, ∀ q ∈ cs, p.1 ≠ q.1 → p.2 ≠ q.2) : ∀ p ∈ fillL i v cs, ∀ q ∈ fillL i v cs, p.1 ≠ q.1 → p.2 ≠ q.2 := fun p hp q hq h e => by
  rcases mem_fillL.1 hp with ⟨h1, h2⟩ | h1 <;> rcases mem_fillL.1 hq with ⟨h3, h4⟩ | h3
  · exact h (h1.trans h3.symm)
  · exact hne q h3 (by rw [h2, e])
  · exact hne p h1 (by rw [h4, e])
  · exact hcc p h1 q h3 h e
theorem ebL_row {g : Nat} (hg : v.ownBlock = some g) (hne : ∀ q ∈ cs, v.ownBlock ≠ some q.2) : Eb an st (wrF (fillL i v cs)) i g := fun s _ h => by
  rcases mem_fillL.1 h with ⟨h1, _⟩ | h1
  · exact .inl h1
  · exact absurd hg (hne _ h1)
theorem ebL_cell (hq : (f, T) ∈ cs) (hne : v.ownBlock ≠ some T) (hcc : ∀ p ∈ cs, ∀ q ∈ cs, p.1 ≠ q.1 → p.2 ≠ q.2) : Eb an st (wrF (fillL i v cs)) f T := fun s _ h => by
  rcases mem_fillL.1 h with ⟨_, h2⟩ | h1
  · exact absurd h2 hne
  · left
    by_cases e : s.i = f
    · exact e
    · exact (hcc (s.i, T) h1 (f, T) hq e rfl).elim
theorem earlyL (h : k < B) (hne : v.ownBlock ≠ some k) (hq : ∀ q ∈ cs, q.2 = k → q.1 ∈ early) : k < B ∧ ∀ p ∈ fillL i v cs, p.2 = k → p.1 ∈ early :=
  ⟨h, fun p hp e => by
    rcases mem_fillL.1 hp with ⟨_, h2⟩ | h1
    · exact absurd (e ▸ h2) hne
    · exact hq p h1 e⟩
theorem freeL (hne : v.ownBlock ≠ some k) (hq : ∀ q ∈ cs, q.2 ≠ k) : free (fillL i v cs) k := fun p hp e => by
  rcases mem_fillL.1 hp with ⟨_, h2⟩ | h1
  · exact hne (e ▸ h2)
  · exact hq p h1 e
theorem wrL_row : ∀ g, v.ownBlock = some g → wrF (fillL i v cs) i g := fun g hg => by
  unfold wrF
  exact mem_fillL.2 (.inl ⟨rfl, hg⟩)
theorem wrL_cell (h : (f, T) ∈ cs) : wrF (fillL i v cs) f T := by
  unfold wrF
  exact mem_fillL.2 (.inr h)
theorem row_thenL {base : Nat} {e : TypeId} {size n : Nat} {xs : List Value} {w : World} (h : w0.ownsRow base e size v n xs) (hne : ∀ q ∈ cs, v.ownBlock ≠ some q.2) (hk : Kept (fun k => k < w0.heap.size ∧ Eb an st (wrF (fillL i v cs)) i k) w0 w) : w.ownsRow base e size v n xs := by
  refine ⟨h.1, ?_⟩
  rcases h.2 with h0 | ⟨g, cap, cur, hv, hb, hg, r⟩
  · exact .inl h0
  · refine .inr ⟨g, cap, cur, hv, hb, ?_, r⟩
    have hlt : g < w0.heap.size := (Array.getElem?_eq_some_iff.1 hg).1
    rw [hk.block g ⟨hlt, ebL_row (by rw [hv]; rfl) hne⟩]; exact hg

theorem row_thenC {v2 : Value} {base : Nat} {e : TypeId} {size n : Nat} {xs : List Value} {w : World} (h : w0.ownsRow base e size v2 n xs) (ha : Apart v v2) (hk : Kept (fun k => k < w0.heap.size ∧ Eb an st (wrF (fillL i v (ownFill f v2))) f k) w0 w) : w.ownsRow base e size v2 n xs := by
  refine ⟨h.1, ?_⟩
  rcases h.2 with h0 | ⟨g, cap, cur, hv, hb, hg, r⟩
  · exact .inl h0
  · refine .inr ⟨g, cap, cur, hv, hb, ?_, r⟩
    have hlt : g < w0.heap.size := (Array.getElem?_eq_some_iff.1 hg).1
    have hgo : v2.ownBlock = some g := by rw [hv]; rfl
    rw [hk.block g ⟨hlt, ebL_cell (mem_ownFill.2 ⟨rfl, hgo⟩) (apart_ne ha hgo) fun p hp q hq hne => absurd ((mem_ownFill.1 hp).1.trans (mem_ownFill.1 hq).1.symm) hne⟩]; exact hg
theorem wrL_own {v2 : Value} : ∀ g, v2.ownBlock = some g → wrF (fillL i v (ownFill f v2)) f g := fun g hg => wrL_cell (mem_ownFill.2 ⟨rfl, hg⟩)

/-! ### 'm[k] = v' in two steps -/
/-- The key has come up: a store at this stamp gives the map with the key. -/
def Pend (P : Program) (w : World) (t k : TypeId) (b c : Nat) (f : ByteArray → Option Value) (key : ByteArray) (n : Nat) : Prop :=
  ∃ es clock, w.heap[b]? = some (.map es clock) ∧ ∀ (w2 : World) (val : Value), w2.heap[b]? = some (.map es clock) → ∃ w', (Instr.entryStore t (.map (some b)) (goInt n) val).run P w2 = .ok () w' ∧ MapV w' P k b (putF f key val) (if (f key).isSome then c else c + 1) ∧ w2.grownBy w' (some b)
theorem grown_setBlock {w : World} {b : Nat} {es : Array MapEntry} {clock : Nat} {o' : Obj} (hb : w.heap[b]? = some (.map es clock)) : w.grownBy (ChangeMaps.setBlock w b o') (some b) :=
  ⟨rfl, rfl, rfl, by simp [ChangeMaps.setBlock], fun i _ hi => ChangeMaps.heap_setBlock_other hb _ (fun e => hi (by rw [e]))⟩
theorem MapV.entry {t k e : TypeId} {w : World} {b c : Nat} {f : ByteArray → Option Value} (h : MapV w P k b f c) (hk : P.underlying k = some .string) (ht : P.underlying t = some (.map k e)) {z : Value} (hz : ∀ u : World, (zeroValue e).run P u = .ok z u) (hc : c < maxLen) {key : ByteArray} (hs : key.size ≤ maxLen) (hf : f key = none) :
    ∃ (n : Nat) (w' : World), (Instr.mapEntry t (.map (some b)) (.string key)).run P w = .ok (.tuple #[z, goInt n]) w' ∧ w.grownBy w' (some b) ∧ Pend P w' t k b c f key n := by
  have h0 := h
  obtain ⟨D, ⟨es, clock, hb, F, hsz, hD⟩, h2, h3⟩ := h
  obtain ⟨v0, st, es1, clock1, r1, r2, r3⟩ := WideElems.entry_then_store (WideMaps.string_law hk) ht hz hb F (WideMaps.keyOf_string_mk hk hs)
  have hv0 : v0 = z := by
    rcases r2 with ⟨e0, he, hke, rfl⟩ | ⟨_, h⟩
    · have h4 := (h0.look hk ht (z := z) (hz w) hs)
      exfalso
      have h5 := (h3 key).1
      rw [hf] at h5
      rcases Maps.fit_look false (Maps.string_keyed hk) ht (hz w) hb F (WideMaps.keyOf_string_mk hk hs) with ⟨_, hno, _⟩ | ⟨e1, y, _, _, _, _, hat, _⟩
      · exact hno e0 he hke
      · have := Maps.has_true_of_atKey hat
        unfold keyL at h5
        rw [hD] at h5
        rw [this] at h5
        cases h5
    · exact h
  subst hv0
  refine ⟨st, _, r1, grown_setBlock hb, es1, clock1, ChangeMaps.heap_setBlock_same hb _, fun w2 val hw2 => ?_⟩
  obtain ⟨es', clock', q1, q2⟩ := r3 w2 val hw2
  obtain ⟨w', m1, m2, m3⟩ := h0.store hk ht hc hs val
  have e1 : w' = ChangeMaps.setBlock w b (.map es' clock') := by
    rw [q2] at m1
    injection m1 with _ m1
    exact m1.symm
  refine ⟨_, q1, m2.stab ?_, grown_setBlock hw2⟩
  rw [e1, ChangeMaps.heap_setBlock_same hw2 _, ChangeMaps.heap_setBlock_same hb _]

def isMapEntry (o : Option Oper) (t : TypeId) (m x : Tmp) : Bool := match o with
  | some ⟨_, .mapEntry t' (.tmp m') (.tmp x'), _, _, _, none⟩ => t' == t && m' == m && x' == x
  | _ => false
theorem isMapEntry_spec {o : Option Oper} {t : TypeId} {m x : Tmp} (h : isMapEntry o t m x = true) : ∃ d ty pos aft, o = some ⟨d, .mapEntry t (.tmp m) (.tmp x), ty, pos, aft, none⟩ := by
  unfold isMapEntry at h
  split at h
  · simp only [Bool.and_eq_true, beq_iff_eq] at h
    obtain ⟨⟨rfl, rfl⟩, rfl⟩ := h
    exact ⟨_, _, _, _, rfl⟩
  · cases h
def isEntryStore (o : Option Oper) (t : TypeId) (m n v : Tmp) : Bool := match o with
  | some ⟨none, .entryStore t' (.tmp m') (.tmp n') (.tmp v'), _, _, _, none⟩ => t' == t && m' == m && n' == n && v' == v
  | _ => false
theorem isEntryStore_spec {o : Option Oper} {t : TypeId} {m n v : Tmp} (h : isEntryStore o t m n v = true) : ∃ ty pos aft, o = some ⟨none, .entryStore t (.tmp m) (.tmp n) (.tmp v), ty, pos, aft, none⟩ := by
  unfold isEntryStore at h
  split at h
  · simp only [Bool.and_eq_true, beq_iff_eq] at h
    obtain ⟨⟨⟨rfl, rfl⟩, rfl⟩, rfl⟩ := h
    exact ⟨_, _, _, rfl⟩
  · cases h
/-- The key of a new entry comes up. -/
theorem obl_mapEntry (t k e : TypeId) (m x : Tmp) (b c : Nat) (f : ByteArray → Option Value) (key : ByteArray) (z : Value) (hs : isMapEntry lops[s.i]? t m x = true)
    (hm : ∀ (y : Nat → Par), (af y).tmps.getD m undef = .map (some b)) (hx : ∀ (y : Nat → Par), (af y).tmps.getD x undef = .string key)
    (hk : P.underlying k = some .string) (ht : P.underlying t = some (.map k e)) (hz : ∀ u : World, (zeroValue e).run P u = .ok z u) (hc : c < maxLen) (hsz : key.size ≤ maxLen) (hf : f key = none) (hb0 : MapV w0 P k b f c) (hE : Eb an st wr s.i b) (hwr : wr s.i b) (hsh : ∀ y, shape s.i y = .tuple #[z, goInt (y 0).2])
    (hR : ∀ (x : Nat → Par) (F : Nat → Prop) (w : World) (y : Par), F b → Pend P w t k b c f key (y 0).2 → R s.i (upd x s.i y) F w) : Obl P lops an st wr w0 af shape R s := by
  intro y w F hkk hn
  cases ho' : lops[s.i]? with
  | none => rw [ho'] at hs; simp [isMapEntry] at hs
  | some o =>
    rw [ho'] at hs
    obtain ⟨d, ty, pos, aft, heq⟩ := isMapEntry_spec hs
    have e1 := Option.some.inj heq
    subst e1
    have hb : MapV w P k b f c := hb0.stab (hkk.block b ⟨hb0.lt, hE⟩)
    obtain ⟨n, w', hrun, g, hp⟩ := hb.entry hk ht hz hc hsz hf
    refine ⟨_, rfl, by simp [Region.wanted], hrun_value (v := .tuple #[z, goInt n]) (w' := w') (by simp [execOp, Act.eval, hm y, hx y, hrun, Result.andThen]) ?_⟩
    refine ⟨fun _ => (none, n), fun k => k = b, (hsh fun _ => (none, n)).symm, ⟨g.os, g.tape, g.output, g.size, fun q hq => g.block q hq.1 fun e => hq.2 (.inl (by have : q = b := Option.some.inj e; rw [this]; exact hwr))⟩, fun q hq => ?_, hR y _ _ _ rfl hp⟩
    subst hq
    exact ⟨Nat.lt_of_lt_of_le hb.lt g.size, .inr (.inl hwr)⟩
/-- The value is stored at the stamp. -/
theorem obl_entryStore (t k : TypeId) (m n v : Tmp) (j b c : Nat) (f : ByteArray → Option Value) (key : ByteArray) (val : Value) (hs : isEntryStore lops[s.i]? t m n v = true) (htg : s.tgt = some j) (hnd : j ∈ s.need)
    (hj : ∀ (x : Nat → Par) (F : Nat → Prop) (w : World), R j x F w → F b ∧ Pend P w t k b c f key (x j 0).2)
    (hm : ∀ (y : Nat → Par), (af y).tmps.getD m undef = .map (some b)) (hx : ∀ (y : Nat → Par), (af y).tmps.getD n undef = goInt (y j 0).2) (hv : ∀ (y : Nat → Par), (af y).tmps.getD v undef = val) (hsh : ∀ y, shape s.i y = undef)
    (hR : ∀ (x : Nat → Par) (F : Nat → Prop) (w : World) (y : Par), F b → MapV w P k b (putF f key val) (if (f key).isSome then c else c + 1) → R s.i (upd x s.i y) F w) : Obl P lops an st wr w0 af shape R s := by
  intro y w F hkk hn
  cases ho' : lops[s.i]? with
  | none => rw [ho'] at hs; simp [isEntryStore] at hs
  | some o =>
    rw [ho'] at hs
    obtain ⟨ty, pos, aft, heq⟩ := isEntryStore_spec hs
    have e1 := Option.some.inj heq
    subst e1
    obtain ⟨hF, es, clock, hb, hst⟩ := hj y _ _ (hn j hnd).2
    obtain ⟨w', hrun, hm', g⟩ := hst w val hb
    have hlt : b < w.heap.size := (Array.getElem?_eq_some_iff.1 hb).1
    have htF : tgtF s F b := by unfold tgtF; rw [htg]; exact hF
    refine ⟨_, rfl, by simp [Region.wanted], hrun_skip (w' := w') (by simp [execOp, Act.eval, hm y, hx y, hv y, hrun, Result.andThen]) ?_⟩
    refine ⟨fun _ => (none, 0), fun k => k = b, (hsh _).symm, ⟨g.os, g.tape, g.output, g.size, fun q hq => g.block q hq.1 fun e => hq.2 (.inr (by have : q = b := Option.some.inj e; rw [this]; exact htF))⟩, fun q hq => ?_, hR y _ _ _ rfl hm'⟩
    subst hq
    exact ⟨Nat.lt_of_lt_of_le hlt g.size, .inr (.inr htF)⟩
theorem owe_pend (P' : Program) (t k : TypeId) (i b c : Nat) (f : ByteArray → Option Value) (key : ByteArray) (hs : s.i = i) (hR : ∀ (x : Nat → Par) (F : Nat → Prop) (w : World), R s.i x F w = (F b ∧ Pend P' w t k b c f key (x i 0).2)) : Owes R s :=
  ⟨fun x F w w' h _ hk => by
    rw [hR] at *
    obtain ⟨hF, es, clock, hb, hst⟩ := h
    exact ⟨hF, es, clock, (hk b hF).trans hb, hst⟩, fun x x' F w hx h => by
    rw [hR] at *
    subst hs
    rw [← hx s.i (.inl rfl)]; exact h⟩
theorem exec_store2 {o : Oper} {t t' : TypeId} {p x : Operand} {g off : Nat} {old : Array Value} {u v : Int} (h : o.op = .store t p x) {e : Operand → Value} {w : World} (hp : e p = .pointer (some ⟨g, off, none⟩)) (hx : e x = .agg #[.int .i64 u, .int .i64 v])
    (hg : Blk w g t' old) (hi : (P.info? t).map (·.size) = some 2) (ho : off + 1 < old.size) :
    (execOp e o).run P w = .ok .skip ((w.setCell ⟨g, off, none⟩ (.int .i64 u)).setCell ⟨g, off + 1, none⟩ (.int .i64 v)) := by
  have hc : w.cell? ⟨g, off, none⟩ = some (old[off]'(by omega)) := by rw [hg.cell off]; simp [show off < old.size by omega]
  have hf := hg.frozen off
  have hg2 := hg.set_ off (.int .i64 u)
  have hc2 : (w.setCell ⟨g, off, none⟩ (.int .i64 u)).cell? ⟨g, off + 1, none⟩ = some ((old.setIfInBounds off (.int .i64 u))[off + 1]'(by simp; omega)) := by rw [hg2.cell (off + 1)]; simp [ho]
  have hf2 := hg2.frozen (off + 1)
  cases hq : P.info? t with
  | none => simp [hq] at hi
  | some i =>
    have hs : i.size = 2 := by simpa [hq] using hi
    simp [execOp, h, hp, hx, go_sem, sizeOf, typeInfo, hq, hs, hc, hf, hc2, hf2]
/-- Two numbers are stored into a variable that was there. -/
theorem obl_set2 (t t' : TypeId) (p q : Tmp) (b off : Nat) (old : Array Value) (u v : Int) (new : Array Value) (hs : isStore lops[s.i]? t p q = true) (hp : ∀ (x : Nat → Par), (af x).tmps.getD p undef = .pointer (some ⟨b, off, none⟩)) (hq : ∀ (x : Nat → Par), (af x).tmps.getD q undef = .agg #[.int .i64 u, .int .i64 v])
    (hb0 : Blk w0 b t' old) (hE : Eb an st wr s.i b) (hwr : wr s.i b) (hi : (P.info? t).map (·.size) = some 2) (hoff : off + 1 < old.size) (hnew : (old.setIfInBounds off (.int .i64 u)).setIfInBounds (off + 1) (.int .i64 v) = new) (hsh : ∀ y, shape s.i y = undef)
    (hR : ∀ (x : Nat → Par) (F : Nat → Prop) (w : World) (y : Par), F b → Blk w b t' new → R s.i (upd x s.i y) F w) : Obl P lops an st wr w0 af shape R s := by
  intro x w F hk hn
  cases ho' : lops[s.i]? with
  | none => rw [ho'] at hs; simp [isStore] at hs
  | some o =>
    rw [ho'] at hs
    unfold isStore at hs
    split at hs
    · rename_i t1 p1 x1 ty pos aft heq
      simp only [Bool.and_eq_true, beq_iff_eq] at hs
      obtain ⟨⟨rfl, rfl⟩, rfl⟩ := hs
      have e := Option.some.inj heq
      subst e
      have hb : Blk w b t' old := (hk.block b ⟨hb0.lt, hE⟩).trans hb0
      refine ⟨_, rfl, by simp [Region.wanted], hrun_skip (exec_store2 (P := P) (o := ⟨none, .store t1 (.tmp p1) (.tmp x1), ty, pos, aft, none⟩) rfl (e := (af x).eval) (w := w) (hp x) (hq x) hb hi hoff) ?_⟩
      have g1 := grown_setCell w b off (.int .i64 u)
      have g2 := grown_setCell (w.setCell ⟨b, off, none⟩ (.int .i64 u)) b (off + 1) (.int .i64 v)
      refine ⟨fun _ => (none, 0), fun k => k = b, (hsh _).symm, ⟨rfl, rfl, rfl, by simp, fun k hk => ?_⟩, fun k hk => ?_, hR x _ _ _ rfl (by have := (hb.set_ off (.int .i64 u)).set_ (off + 1) (.int .i64 v); rw [hnew] at this; exact this)⟩
      · have hne : some k ≠ some b := fun e => hk.2 (.inl (by have : k = b := Option.some.inj e; rw [this]; exact hwr))
        exact (g2.block k (by simpa using hk.1) hne).trans (g1.block k hk.1 hne)
      · subst hk
        exact ⟨by have := hb.lt; simpa using this, .inr (.inl hwr)⟩
    · cases hs
end
end Go.Proofs.Ytiggefmckomilaa
namespace Go.Proofs.Ytiggefmckomilaa
open Go Go.RowKit

theorem funcInfo : (Try.prog.info? 106).map (fun i => (i.zero, i.size, i.bytes)) = some (some .nilFunc, 1, 8) := by kernel_rfl
theorem ptrInfo : (Try.prog.info? 107).map (fun i => (i.zero, i.size, i.bytes)) = some (some (.pointer none), 1, 8) := by kernel_rfl
theorem readInfo : (Try.prog.info? 113).map (fun i => (i.zero, i.size, i.bytes)) = some (some (.agg #[.string ⟨#[]⟩, .string ⟨#[]⟩, .int .i64 0, .int .i64 0, .int .i64 0, .pointer none, .int .i64 0, .int .i64 0]), 8, 80) := by kernel_rfl
theorem Blk.c7 {w : World} {g : Nat} {t : TypeId} {a b c d e f i : Value} (h : Blk w g t #[a, b, c, d, e, f, i]) :
    w.cell? ⟨g, 0, none⟩ = some a ∧ w.cell? ⟨g, 1, none⟩ = some b ∧ w.cell? ⟨g, 2, none⟩ = some c ∧ w.cell? ⟨g, 3, none⟩ = some d ∧ w.cell? ⟨g, 4, none⟩ = some e ∧ w.cell? ⟨g, 5, none⟩ = some f ∧ w.cell? ⟨g, 6, none⟩ = some i :=
  ⟨h.c 0 rfl, h.c 1 rfl, h.c 2 rfl, h.c 3 rfl, h.c 4 rfl, h.c 5 rfl, h.c 6 rfl⟩
theorem Blk.c5 {w : World} {g : Nat} {t : TypeId} {a b c d e : Value} (h : Blk w g t #[a, b, c, d, e]) :
    w.cell? ⟨g, 0, none⟩ = some a ∧ w.cell? ⟨g, 1, none⟩ = some b ∧ w.cell? ⟨g, 2, none⟩ = some c ∧ w.cell? ⟨g, 3, none⟩ = some d ∧ w.cell? ⟨g, 4, none⟩ = some e :=
  ⟨h.c 0 rfl, h.c 1 rfl, h.c 2 rfl, h.c 3 rfl, h.c 4 rfl⟩
/-- What a call leaves: the book with the entry, if it was accepted. -/
def EntPost (l : List Ent) (p : Nat) (L : Lay) (w : World) (x : Ent) (ev : Int) (w' : World) : Prop := ∃ L', BookR (if ev = 0 then x :: l else l) p L' w' ∧ Step p L L' w w'
theorem EntPost.same {l : List Ent} {p : Nat} {L : Lay} {w w' : World} {x : Ent} {ev : Int} (hb : BookR l p L w) (h : Below w.heap.size w w') (he : ev ≠ 0) : EntPost l p L w x ev w' :=
  ⟨L, by rw [if_neg he]; exact hb.later h, Step.below h⟩

/-- A book of which all but the row of entries is already that of the new entry. -/
structure BookQ (x : Ent) (l : List Ent) (p : Nat) (L : Lay) (w : World) : Prop where
  good : GoodB (x :: l)
  nodup : (L.all p).Nodup
  book : Blk w p 98 (bookC L)
  radars : MapV w Try.prog 9 L.br (fun n => (driftT (x :: l) n).map (Value.int .i64)) (radarsT (x :: l)).length
  stds : MapV w Try.prog 9 L.bs (fun n => (ptrT (stdsT (x :: l)) L.kb n).map ptrB) (stdsT (x :: l)).length
  wd : ∃ c, c ≤ (x :: l).length ∧ MapV w Try.prog 9 L.bw (boolF (wdT (x :: l))) c
  void : ∃ c, c ≤ (x :: l).length * (x :: l).length ∧ MapV w Try.prog 9 L.bv (boolF (voidT (x :: l))) c
  order : w.ownsRow 0 107 1 L.vo (stdsT (x :: l)).length (L.kb.reverse.map ptrB)
  tests : w.ownsRow 0 113 8 L.vt (testsT (x :: l)).length (testRows (x :: l) L.kb)
  entries : w.ownsRow 0 106 1 L.ve l.length (entRow l L.cb)
  knowns : KnownsT w (x :: l) L.kb
  caps : CapsT w l L.cb

def Lay.rest (L : Lay) (p : Nat) : List Nat := p :: L.br :: L.bs :: L.bw :: L.bv :: (optL L.vo ++ (optL L.vt ++ (L.kb ++ L.cb.flatten)))
theorem Lay.perm_rest (L : Lay) (p : Nat) : (L.all p).Perm (L.rest p ++ optL L.ve) := by
  refine List.perm_iff_count.2 fun a => ?_
  simp only [Lay.all, Lay.rest, List.count_cons, List.count_append]
  omega
theorem Lay.perm_push (L : Lay) (p : Nat) (v : Value) (c : List Nat) : (Lay.all { L with ve := v, cb := c :: L.cb } p).Perm (L.rest p ++ (optL v ++ c)) := by
  refine List.perm_iff_count.2 fun a => ?_
  simp only [Lay.all, Lay.rest, List.count_cons, List.count_append, List.flatten_cons]
  omega
theorem optL_iff {v : Value} {g : Nat} : g ∈ optL v ↔ v.ownBlock = some g := by
  unfold optL
  cases v.ownBlock <;> simp [eq_comm]
theorem optL_nodup (v : Value) : (optL v).Nodup := by unfold optL; cases v.ownBlock <;> simp
theorem mem_all {L : Lay} {p k : Nat} : k ∈ L.all p ↔ k ∈ L.rest p ∨ L.ve.ownBlock = some k := by
  rw [(L.perm_rest p).mem_iff, List.mem_append, optL_iff]
/-- The layout with a longer row of entries has no block twice. -/
theorem nodup_push {L : Lay} {p B : Nat} {v : Value} {c : List Nat} (h : (L.all p).Nodup) (hlt : ∀ k ∈ L.all p, k < B) (hc : c.Nodup) (hcd : ∀ k ∈ c, k ∉ L.all p ∧ k < B) (hat : v.ownBlock = L.ve.ownBlock ∨ ∃ g, v.ownBlock = some g ∧ B ≤ g) : (Lay.all { L with ve := v, cb := c :: L.cb } p).Nodup := by
  rw [(L.perm_push p v c).nodup_iff, List.nodup_append]
  rw [(L.perm_rest p).nodup_iff, List.nodup_append] at h
  refine ⟨h.1, ?_, fun a ha b hb e => ?_⟩
  · rw [List.nodup_append]
    refine ⟨optL_nodup v, hc, fun a ha b hb e => ?_⟩
    subst e
    rw [optL_iff] at ha
    rcases hat with h1 | ⟨g, h1, h2⟩
    · exact (hcd a hb).1 (mem_all.2 (.inr (h1.symm.trans ha)))
    · rw [h1] at ha
      have := Option.some.inj ha
      have := (hcd a hb).2
      omega
  · subst e
    rcases List.mem_append.1 hb with hb | hb
    · rw [optL_iff] at hb
      rcases hat with h1 | ⟨g, h1, h2⟩
      · exact h.2.2 a ha a (optL_iff.2 (h1.symm.trans hb)) rfl
      · rw [h1] at hb
        have := Option.some.inj hb
        have := hlt a (mem_all.2 (.inl ha))
        omega
    · exact (hcd a hb).1 (mem_all.2 (.inl ha))
theorem BookQ.lt {x : Ent} {l : List Ent} {p : Nat} {L : Lay} {w : World} (h : BookQ x l p L w) : ∀ k ∈ L.all p, k < w.heap.size := by
  obtain ⟨h1, h2, h3, h4, h5, ⟨c6, h6a, h6⟩, ⟨c7, h7a, h7⟩, h8, h9, h10, h11, h12⟩ := h
  intro k hk
  unfold Lay.all at hk
  simp only [List.mem_cons, List.mem_append] at hk
  rcases hk with rfl | rfl | rfl | rfl | rfl | hk | hk | hk | hk | hk
  · exact h3.lt
  · exact h4.lt
  · exact h5.lt
  · exact h6.lt
  · exact h7.lt
  · exact own_ltT h8 hk
  · exact own_ltT h9 hk
  · exact own_ltT h10 hk
  · exact h11.lt k hk
  · exact h12.lt k hk

/-- The entry is laid. -/
theorem BookQ.push {x : Ent} {l : List Ent} {p : Nat} {L : Lay} {w w6 : World} (h : BookQ x l p L w) {c : List Nat} (hc : capOk w x c) (hcn : c.Nodup) (hcd : ∀ k ∈ c, k ∉ L.all p) {v : Value} {o : Obj}
    (hg : (w.alloc o).grownBy w6 L.ve.ownBlock) (hown : w6.ownsRow 0 106 1 v (l.length + 1) (entRow l L.cb ++ [entF x c])) (hat : v.ownBlock = L.ve.ownBlock ∨ v.ownBlock = some (w.alloc o).heap.size) :
    BookR (x :: l) p { L with ve := v, cb := c :: L.cb } (w6.setCell ⟨p, 7, none⟩ v) ∧ (∀ k, k < w.heap.size → k ≠ p → L.ve.ownBlock ≠ some k → (w6.setCell ⟨p, 7, none⟩ v).heap[k]? = w.heap[k]?) ∧ w.heap.size ≤ (w6.setCell ⟨p, 7, none⟩ v).heap.size := by
  have hlt := h.lt
  have hclt := hc.lt
  have hsz : w.heap.size + 1 ≤ w6.heap.size := by have := hg.size; simp at this; omega
  have hat' : v.ownBlock = L.ve.ownBlock ∨ ∃ g, v.ownBlock = some g ∧ w.heap.size ≤ g := by
    rcases hat with h1 | h1
    · exact .inl h1
    · exact .inr ⟨_, h1, by simp⟩
  have hrow : ∀ k, k < w.heap.size → L.ve.ownBlock ≠ some k → w6.heap[k]? = w.heap[k]? := fun k hk hne => (hg.block k (by simp; omega) (Ne.symm hne)).trans (Below.heap_alloc w o k hk)
  have hall : ∀ k, k < w.heap.size → k ≠ p → L.ve.ownBlock ≠ some k → (w6.setCell ⟨p, 7, none⟩ v).heap[k]? = w.heap[k]? := fun k hk hp hne => (Below.heap_setCell w6 ⟨p, 7, none⟩ v k hp).trans (hrow k hk hne)
  have hnd := h.nodup
  rw [(L.perm_rest p).nodup_iff, List.nodup_append] at hnd
  obtain ⟨n1, -, n3⟩ := hnd
  have hpe : L.ve.ownBlock ≠ some p := fun e => n3 p (by simp [Lay.rest]) p (optL_iff.2 e) rfl
  have hrest : ∀ k ∈ L.rest p, k ≠ p → (w6.setCell ⟨p, 7, none⟩ v).heap[k]? = w.heap[k]? := fun k hk hp => hall k (hlt k (mem_all.2 (.inl hk))) hp fun e => n3 k hk k (optL_iff.2 e) rfl
  unfold Lay.rest at n1
  rw [List.nodup_cons] at n1
  have hp : ∀ k ∈ L.br :: L.bs :: L.bw :: L.bv :: (optL L.vo ++ (optL L.vt ++ (L.kb ++ L.cb.flatten))), (w6.setCell ⟨p, 7, none⟩ v).heap[k]? = w.heap[k]? := fun k hk => hrest k (by unfold Lay.rest; exact List.mem_cons_of_mem _ hk) fun e => n1.1 (e ▸ hk)
  have hpB : Blk w6 p 98 (bookC L) := (hrow p h.book.lt hpe).trans h.book
  obtain ⟨c6, h6a, h6⟩ := h.wd
  obtain ⟨c7, h7a, h7⟩ := h.void
  have hcd' : ∀ k ∈ c, (w6.setCell ⟨p, 7, none⟩ v).heap[k]? = w.heap[k]? := fun k hk => hall k (hclt k hk) (fun e => hcd k hk (mem_all.2 (.inl (by rw [e]; simp [Lay.rest])))) fun e => hcd k hk (mem_all.2 (.inr e))
  refine ⟨⟨h.good, nodup_push h.nodup hlt hcn (fun k hk => ⟨hcd k hk, hclt k hk⟩) hat', ?_, h.radars.stab (hp _ (by simp)), h.stds.stab (hp _ (by simp)), ⟨c6, h6a, h6.stab (hp _ (by simp))⟩, ⟨c7, h7a, h7.stab (hp _ (by simp))⟩,
    own_stabT h.order fun g hg' => hp g (by simp [optL_mem hg']), own_stabT h.tests fun g hg' => hp g (by simp [optL_mem hg']), ?_, h.knowns.stab fun k h' => hp k (by simp [h']), ?_, ?_⟩, hall, by simp; omega⟩
  · exact hpB.set_ 7 v
  · have e : (w6.setCell ⟨p, 7, none⟩ v).ownsRow 0 106 1 v (l.length + 1) (entRow l L.cb ++ [entF x c]) := own_stabT hown fun g hg' => Below.heap_setCell w6 ⟨p, 7, none⟩ v g fun e => by
      have e' : g = p := e
      rcases hat' with h1 | ⟨q, h1, h2⟩
      · exact hpe (h1.symm.trans (by rw [hg', e']))
      · rw [h1] at hg'
        have := Option.some.inj hg'
        have := h.book.lt
        omega
    exact e
  · exact hc.stab hcd'
  · exact h.caps.stab fun k h' => hp k (by simp only [List.mem_cons, List.mem_append]; exact .inr (.inr (.inr (.inr (.inr (.inr (.inr h')))))))
/-- The step of the call. -/
theorem step_push {p : Nat} {L L1 : Lay} {w w5 W : World} {v : Value} {c : List Nat} (hk : Kept (fun k => k < w.heap.size ∧ k ∉ L.all p) w w5) (hsub : ∀ k ∈ L1.all p, k ∈ L.all p ∨ w.heap.size ≤ k) (hc : ∀ k ∈ c, w.heap.size ≤ k)
    (hat : v.ownBlock = L1.ve.ownBlock ∨ ∃ g, v.ownBlock = some g ∧ w5.heap.size ≤ g) (hW : ∀ k, k < w5.heap.size → k ≠ p → L1.ve.ownBlock ≠ some k → W.heap[k]? = w5.heap[k]?) (hsz : w5.heap.size ≤ W.heap.size) (hos : W.os = w5.os ∧ W.tape = w5.tape ∧ W.output = w5.output) :
    Step p L { L1 with ve := v, cb := c :: L1.cb } w W := by
  refine ⟨⟨hos.1.trans hk.os, hos.2.1.trans hk.tape, hos.2.2.trans hk.output, Nat.le_trans hk.size hsz, fun k hk' => ?_⟩, fun k hk' => ?_⟩
  · have hne : k ∉ L1.all p := fun hm => by
      rcases hsub k hm with h | h
      · exact hk'.2 h
      · omega
    rw [hW k (Nat.lt_of_lt_of_le hk'.1 hk.size) (fun e => hne (mem_all.2 (.inl (by rw [e]; simp [Lay.rest])))) fun e => hne (mem_all.2 (.inr e))]
    exact hk.block k hk'
  · rw [(L1.perm_push p v c).mem_iff] at hk'
    rcases List.mem_append.1 hk' with h | h
    · exact hsub k (mem_all.2 (.inl h))
    · rcases List.mem_append.1 h with h | h
      · rw [optL_iff] at h
        rcases hat with h1 | ⟨g, h1, h2⟩
        · exact hsub k (mem_all.2 (.inr (h1.symm.trans h)))
        · rw [h1] at h
          have := Option.some.inj h
          have := hk.size
          exact .inr (by omega)
      · exact .inr (hc k h)
end Go.Proofs.Ytiggefmckomilaa
