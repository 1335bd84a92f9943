/-
  An entry is laid into a book: the row of entries grows.
-/
import Derived.Test.YtiggefmckomilaaTraceValue
import Derived.Test.YtiggefmckomilaaRegM
namespace Go.Proofs.Ytiggefmckomilaa
open Go Go.RowKit

theorem funcInfo : (Try.prog.info? 106).map (fun i => (i.zero, i.size, i.bytes)) = some (some .nilFunc, 1, 8) := by kernel_rfl
theorem ptrInfo : (Try.prog.info? 107).map (fun i => (i.zero, i.size, i.bytes)) = some (some (.pointer none), 1, 8) := by kernel_rfl
theorem readInfo : (Try.prog.info? 113).map (fun i => (i.zero, i.size, i.bytes)) = some (some (.agg #[.string ⟨#[]⟩, .string ⟨#[]⟩, .int .i64 0, .int .i64 0, .int .i64 0, .pointer none, .int .i64 0, .int .i64 0]), 8, 80) := by kernel_rfl
theorem Blk.c7 {w : World} {g : Nat} {t : TypeId} {a b c d e f i : Value} (h : Blk w g t #[a, b, c, d, e, f, i]) :
    w.cell? ⟨g, 0, none⟩ = some a ∧ w.cell? ⟨g, 1, none⟩ = some b ∧ w.cell? ⟨g, 2, none⟩ = some c ∧ w.cell? ⟨g, 3, none⟩ = some d ∧ w.cell? ⟨g, 4, none⟩ = some e ∧ w.cell? ⟨g, 5, none⟩ = some f ∧ w.cell? ⟨g, 6, none⟩ = some i :=
  ⟨h.c 0 rfl, h.c 1 rfl, h.c 2 rfl, h.c 3 rfl, h.c 4 rfl, h.c 5 rfl, h.c 6 rfl⟩
theorem Blk.c5 {w : World} {g : Nat} {t : TypeId} {a b c d e : Value} (h : Blk w g t #[a, b, c, d, e]) :
    w.cell? ⟨g, 0, none⟩ = some a ∧ w.cell? ⟨g, 1, none⟩ = some b ∧ w.cell? ⟨g, 2, none⟩ = some c ∧ w.cell? ⟨g, 3, none⟩ = some d ∧ w.cell? ⟨g, 4, none⟩ = some e :=
  ⟨h.c 0 rfl, h.c 1 rfl, h.c 2 rfl, h.c 3 rfl, h.c 4 rfl⟩
/-- What a call leaves: the book with the entry, if it was accepted. -/
def EntPost (l : List Ent) (p : Nat) (L : Lay) (w : World) (x : Ent) (ev : Int) (w' : World) : Prop := ∃ L', BookR (if ev = 0 then x :: l else l) p L' w' ∧ Step p L L' w w'
theorem EntPost.same {l : List Ent} {p : Nat} {L : Lay} {w w' : World} {x : Ent} {ev : Int} (hb : BookR l p L w) (h : Below w.heap.size w w') (he : ev ≠ 0) : EntPost l p L w x ev w' :=
  ⟨L, by rw [if_neg he]; exact hb.later h, Step.below h⟩

/-- A book of which all but the row of entries is already that of the new entry. -/
structure BookQ (x : Ent) (l : List Ent) (p : Nat) (L : Lay) (w : World) : Prop where
  good : GoodB (x :: l)
  nodup : (L.all p).Nodup
  book : Blk w p 98 (bookC L)
  radars : MapV w Try.prog 9 L.br (fun n => (driftT (x :: l) n).map (Value.int .i64)) (radarsT (x :: l)).length
  stds : MapV w Try.prog 9 L.bs (fun n => (ptrT (stdsT (x :: l)) L.kb n).map ptrB) (stdsT (x :: l)).length
  wd : ∃ c, c ≤ (x :: l).length ∧ MapV w Try.prog 9 L.bw (boolF (wdT (x :: l))) c
  void : ∃ c, c ≤ (x :: l).length * (x :: l).length ∧ MapV w Try.prog 9 L.bv (boolF (voidT (x :: l))) c
  order : w.ownsRow 0 107 1 L.vo (stdsT (x :: l)).length (L.kb.reverse.map ptrB)
  tests : w.ownsRow 0 113 8 L.vt (testsT (x :: l)).length (testRows (x :: l) L.kb)
  entries : w.ownsRow 0 106 1 L.ve l.length (entRow l L.cb)
  knowns : KnownsT w (x :: l) L.kb
  caps : CapsT w l L.cb

def Lay.rest (L : Lay) (p : Nat) : List Nat := p :: L.br :: L.bs :: L.bw :: L.bv :: (optL L.vo ++ (optL L.vt ++ (L.kb ++ L.cb.flatten)))
theorem Lay.perm_rest (L : Lay) (p : Nat) : (L.all p).Perm (L.rest p ++ optL L.ve) := by
  refine List.perm_iff_count.2 fun a => ?_
  simp only [Lay.all, Lay.rest, List.count_cons, List.count_append]
  omega
theorem Lay.perm_push (L : Lay) (p : Nat) (v : Value) (c : List Nat) : (Lay.all { L with ve := v, cb := c :: L.cb } p).Perm (L.rest p ++ (optL v ++ c)) := by
  refine List.perm_iff_count.2 fun a => ?_
  simp only [Lay.all, Lay.rest, List.count_cons, List.count_append, List.flatten_cons]
  omega
theorem optL_iff {v : Value} {g : Nat} : g ∈ optL v ↔ v.ownBlock = some g := by
  unfold optL
  cases v.ownBlock <;> simp [eq_comm]
theorem optL_nodup (v : Value) : (optL v).Nodup := by unfold optL; cases v.ownBlock <;> simp
theorem mem_all {L : Lay} {p k : Nat} : k ∈ L.all p ↔ k ∈ L.rest p ∨ L.ve.ownBlock = some k := by
  rw [(L.perm_rest p).mem_iff, List.mem_append, optL_iff]
/-- The layout with a longer row of entries has no block twice. -/
theorem nodup_push {L : Lay} {p B : Nat} {v : Value} {c : List Nat} (h : (L.all p).Nodup) (hlt : ∀ k ∈ L.all p, k < B) (hc : c.Nodup) (hcd : ∀ k ∈ c, k ∉ L.all p ∧ k < B) (hat : v.ownBlock = L.ve.ownBlock ∨ ∃ g, v.ownBlock = some g ∧ B ≤ g) : (Lay.all { L with ve := v, cb := c :: L.cb } p).Nodup := by
  rw [(L.perm_push p v c).nodup_iff, List.nodup_append]
  rw [(L.perm_rest p).nodup_iff, List.nodup_append] at h
  refine ⟨h.1, ?_, fun a ha b hb e => ?_⟩
  · rw [List.nodup_append]
    refine ⟨optL_nodup v, hc, fun a ha b hb e => ?_⟩
    subst e
    rw [optL_iff] at ha
    rcases hat with h1 | ⟨g, h1, h2⟩
    · exact (hcd a hb).1 (mem_all.2 (.inr (h1.symm.trans ha)))
    · rw [h1] at ha
      have := Option.some.inj ha
      have := (hcd a hb).2
      omega
  · subst e
    rcases List.mem_append.1 hb with hb | hb
    · rw [optL_iff] at hb
      rcases hat with h1 | ⟨g, h1, h2⟩
      · exact h.2.2 a ha a (optL_iff.2 (h1.symm.trans hb)) rfl
      · rw [h1] at hb
        have := Option.some.inj hb
        have := hlt a (mem_all.2 (.inl ha))
        omega
    · exact (hcd a hb).1 (mem_all.2 (.inl ha))
theorem BookQ.lt {x : Ent} {l : List Ent} {p : Nat} {L : Lay} {w : World} (h : BookQ x l p L w) : ∀ k ∈ L.all p, k < w.heap.size := by
  obtain ⟨h1, h2, h3, h4, h5, ⟨c6, h6a, h6⟩, ⟨c7, h7a, h7⟩, h8, h9, h10, h11, h12⟩ := h
  intro k hk
  unfold Lay.all at hk
  simp only [List.mem_cons, List.mem_append] at hk
  rcases hk with rfl | rfl | rfl | rfl | rfl | hk | hk | hk | hk | hk
  · exact h3.lt
  · exact h4.lt
  · exact h5.lt
  · exact h6.lt
  · exact h7.lt
  · exact own_ltT h8 hk
  · exact own_ltT h9 hk
  · exact own_ltT h10 hk
  · exact h11.lt k hk
  · exact h12.lt k hk

/-- The entry is laid. -/
theorem BookQ.push {x : Ent} {l : List Ent} {p : Nat} {L : Lay} {w w6 : World} (h : BookQ x l p L w) {c : List Nat} (hc : capOk w x c) (hcn : c.Nodup) (hcd : ∀ k ∈ c, k ∉ L.all p) {v : Value} {o : Obj}
    (hg : (w.alloc o).grownBy w6 L.ve.ownBlock) (hown : w6.ownsRow 0 106 1 v (l.length + 1) (entRow l L.cb ++ [entF x c])) (hat : v.ownBlock = L.ve.ownBlock ∨ v.ownBlock = some (w.alloc o).heap.size) :
    BookR (x :: l) p { L with ve := v, cb := c :: L.cb } (w6.setCell ⟨p, 7, none⟩ v) ∧ (∀ k, k < w.heap.size → k ≠ p → L.ve.ownBlock ≠ some k → (w6.setCell ⟨p, 7, none⟩ v).heap[k]? = w.heap[k]?) ∧ w.heap.size ≤ (w6.setCell ⟨p, 7, none⟩ v).heap.size := by
  have hlt := h.lt
  have hclt := hc.lt
  have hsz : w.heap.size + 1 ≤ w6.heap.size := by have := hg.size; simp at this; omega
  have hat' : v.ownBlock = L.ve.ownBlock ∨ ∃ g, v.ownBlock = some g ∧ w.heap.size ≤ g := by
    rcases hat with h1 | h1
    · exact .inl h1
    · exact .inr ⟨_, h1, by simp⟩
  have hrow : ∀ k, k < w.heap.size → L.ve.ownBlock ≠ some k → w6.heap[k]? = w.heap[k]? := fun k hk hne => (hg.block k (by simp; omega) (Ne.symm hne)).trans (Below.heap_alloc w o k hk)
  have hall : ∀ k, k < w.heap.size → k ≠ p → L.ve.ownBlock ≠ some k → (w6.setCell ⟨p, 7, none⟩ v).heap[k]? = w.heap[k]? := fun k hk hp hne => (Below.heap_setCell w6 ⟨p, 7, none⟩ v k hp).trans (hrow k hk hne)
  have hnd := h.nodup
  rw [(L.perm_rest p).nodup_iff, List.nodup_append] at hnd
  obtain ⟨n1, -, n3⟩ := hnd
  have hpe : L.ve.ownBlock ≠ some p := fun e => n3 p (by simp [Lay.rest]) p (optL_iff.2 e) rfl
  have hrest : ∀ k ∈ L.rest p, k ≠ p → (w6.setCell ⟨p, 7, none⟩ v).heap[k]? = w.heap[k]? := fun k hk hp => hall k (hlt k (mem_all.2 (.inl hk))) hp fun e => n3 k hk k (optL_iff.2 e) rfl
  unfold Lay.rest at n1
  rw [List.nodup_cons] at n1
  have hp : ∀ k ∈ L.br :: L.bs :: L.bw :: L.bv :: (optL L.vo ++ (optL L.vt ++ (L.kb ++ L.cb.flatten))), (w6.setCell ⟨p, 7, none⟩ v).heap[k]? = w.heap[k]? := fun k hk => hrest k (by unfold Lay.rest; exact List.mem_cons_of_mem _ hk) fun e => n1.1 (e ▸ hk)
  have hpB : Blk w6 p 98 (bookC L) := (hrow p h.book.lt hpe).trans h.book
  obtain ⟨c6, h6a, h6⟩ := h.wd
  obtain ⟨c7, h7a, h7⟩ := h.void
  have hcd' : ∀ k ∈ c, (w6.setCell ⟨p, 7, none⟩ v).heap[k]? = w.heap[k]? := fun k hk => hall k (hclt k hk) (fun e => hcd k hk (mem_all.2 (.inl (by rw [e]; simp [Lay.rest])))) fun e => hcd k hk (mem_all.2 (.inr e))
  refine ⟨⟨h.good, nodup_push h.nodup hlt hcn (fun k hk => ⟨hcd k hk, hclt k hk⟩) hat', ?_, h.radars.stab (hp _ (by simp)), h.stds.stab (hp _ (by simp)), ⟨c6, h6a, h6.stab (hp _ (by simp))⟩, ⟨c7, h7a, h7.stab (hp _ (by simp))⟩,
    own_stabT h.order fun g hg' => hp g (by simp [optL_mem hg']), own_stabT h.tests fun g hg' => hp g (by simp [optL_mem hg']), ?_, h.knowns.stab fun k h' => hp k (by simp [h']), ?_, ?_⟩, hall, by simp; omega⟩
  · exact hpB.set_ 7 v
  · have e : (w6.setCell ⟨p, 7, none⟩ v).ownsRow 0 106 1 v (l.length + 1) (entRow l L.cb ++ [entF x c]) := own_stabT hown fun g hg' => Below.heap_setCell w6 ⟨p, 7, none⟩ v g fun e => by
      have e' : g = p := e
      rcases hat' with h1 | ⟨q, h1, h2⟩
      · exact hpe (h1.symm.trans (by rw [hg', e']))
      · rw [h1] at hg'
        have := Option.some.inj hg'
        have := h.book.lt
        omega
    exact e
  · exact hc.stab hcd'
  · exact h.caps.stab fun k h' => hp k (by simp only [List.mem_cons, List.mem_append]; exact .inr (.inr (.inr (.inr (.inr (.inr (.inr h')))))))
/-- The step of the call. -/
theorem step_push {p : Nat} {L L1 : Lay} {w w5 W : World} {v : Value} {c : List Nat} (hk : Kept (fun k => k < w.heap.size ∧ k ∉ L.all p) w w5) (hsub : ∀ k ∈ L1.all p, k ∈ L.all p ∨ w.heap.size ≤ k) (hc : ∀ k ∈ c, w.heap.size ≤ k)
    (hat : v.ownBlock = L1.ve.ownBlock ∨ ∃ g, v.ownBlock = some g ∧ w5.heap.size ≤ g) (hW : ∀ k, k < w5.heap.size → k ≠ p → L1.ve.ownBlock ≠ some k → W.heap[k]? = w5.heap[k]?) (hsz : w5.heap.size ≤ W.heap.size) (hos : W.os = w5.os ∧ W.tape = w5.tape ∧ W.output = w5.output) :
    Step p L { L1 with ve := v, cb := c :: L1.cb } w W := by
  refine ⟨⟨hos.1.trans hk.os, hos.2.1.trans hk.tape, hos.2.2.trans hk.output, Nat.le_trans hk.size hsz, fun k hk' => ?_⟩, fun k hk' => ?_⟩
  · have hne : k ∉ L1.all p := fun hm => by
      rcases hsub k hm with h | h
      · exact hk'.2 h
      · omega
    rw [hW k (Nat.lt_of_lt_of_le hk'.1 hk.size) (fun e => hne (mem_all.2 (.inl (by rw [e]; simp [Lay.rest])))) fun e => hne (mem_all.2 (.inr e))]
    exact hk.block k hk'
  · rw [(L1.perm_push p v c).mem_iff] at hk'
    rcases List.mem_append.1 hk' with h | h
    · exact hsub k (mem_all.2 (.inl h))
    · rcases List.mem_append.1 h with h | h
      · rw [optL_iff] at h
        rcases hat with h1 | ⟨g, h1, h2⟩
        · exact hsub k (mem_all.2 (.inr (h1.symm.trans h)))
        · rw [h1] at h
          have := Option.some.inj h
          have := hk.size
          exact .inr (by omega)
      · exact .inr (hc k h)
end Go.Proofs.Ytiggefmckomilaa
