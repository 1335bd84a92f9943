/-
  Several things side by side in memory: books, rows of one's own, variables. A step on one of them leaves the others as they are.
  What comes from a standard: plain words; the contract of Depends.
  The entries' functions.
  A standard is withdrawn, or reinstated: plain words.
  Regions that draw their order: an entry of a map is deleted.
-/
import Derived.Test.YtiggefmckomilaaTraceWorks
import Derived.Test.YtiggefmckomilaaRegI
set_option linter.unusedSimpArgs false
set_option linter.unusedVariables false
namespace Go.Proofs.Ytiggefmckomilaa
open Go Go.RowKit

inductive Th where
  | book (l : List Ent) (p : Nat) (L : Lay)
  | row (base : Nat) (e : TypeId) (size : Nat) (v : Value) (n : Nat) (xs : List Value)
  | blk (g : Nat) (t : TypeId) (cs : Array Value)
  | raw (k : Nat) (o : Obj)
/-- The blocks of a thing, and that it lies so. -/
def Th.fp : Th → List Nat
  | .book _ p L => L.all p
  | .row _ _ _ v _ _ => optL v
  | .blk g _ _ => [g]
  | .raw k _ => [k]
def Th.ok (W : World) : Th → Prop
  | .book l p L => BookR l p L W
  | .row base e size v n xs => W.ownsRow base e size v n xs
  | .blk g t cs => Blk W g t cs
  | .raw k o => W.heap[k]? = some o
def fps (ts : List Th) : List Nat := ts.flatMap Th.fp
theorem fps_cons (x : Th) (a : List Th) : fps (x :: a) = x.fp ++ fps a := rfl
theorem Th.lt {W : World} {t : Th} (h : t.ok W) : ∀ k ∈ t.fp, k < W.heap.size := by
  cases t with
  | book l p L => exact BookR.lt h
  | row base e size v n xs => exact fun k hk => own_ltT h hk
  | blk g t cs => exact fun k hk => by rw [List.mem_singleton.1 hk]; exact Blk.lt h
  | raw g o => exact fun k hk => by rw [List.mem_singleton.1 hk]; exact (Array.getElem?_eq_some_iff.1 h).1
theorem Th.stab {W W' : World} {t : Th} (h : t.ok W) (hk : ∀ k ∈ t.fp, W'.heap[k]? = W.heap[k]?) : t.ok W' := by
  cases t with
  | book l p L => exact BookR.stab h hk
  | row base e size v n xs => exact own_stabT h fun g hg => hk g (optL_mem hg)
  | blk g t cs => exact (hk g (List.mem_singleton.2 rfl)).trans h
  | raw g o => exact (hk g (List.mem_singleton.2 rfl)).trans h
theorem Th.nodup {W : World} {t : Th} (h : t.ok W) : t.fp.Nodup := by
  cases t with
  | book l p L => exact BookR.nodup h
  | row base e size v n xs => exact optL_nodup v
  | blk g t cs => exact List.nodup_cons.2 ⟨List.not_mem_nil, List.nodup_nil⟩
  | raw g o => exact List.nodup_cons.2 ⟨List.not_mem_nil, List.nodup_nil⟩
/-- What lies in memory that was made behind `w0`. -/
structure Mem (w0 : World) (ts : List Th) (W : World) : Prop where
  all : ∀ t ∈ ts, t.ok W
  nodup : (fps ts).Nodup
  low : ∀ k ∈ fps ts, w0.heap.size ≤ k
  below : Below w0.heap.size w0 W

section
variable {w0 W W' : World} {ts : List Th} {t t' : Th} {i : Nat}
theorem Mem.start (w : World) : Mem w [] w := ⟨fun _ h => absurd h List.not_mem_nil, List.nodup_nil, fun _ h => absurd h List.not_mem_nil, Below.refl _ _⟩
theorem Mem.lt (h : Mem w0 ts W) : ∀ k ∈ fps ts, k < W.heap.size := fun k hk => by
  obtain ⟨b, hb, hk⟩ := List.mem_flatMap.1 hk
  exact Th.lt (h.all b hb) k hk
theorem Mem.size (h : Mem w0 ts W) : w0.heap.size ≤ W.heap.size := h.below.size
theorem Mem.later (h : Mem w0 ts W) (hb : Below W.heap.size W W') : Mem w0 ts W' :=
  ⟨fun t hm => Th.stab (h.all t hm) fun k hk => hb.block k (Th.lt (h.all t hm) k hk), h.nodup, h.low, h.below.trans (Below.mono hb h.size)⟩
theorem Mem.get (h : Mem w0 ts W) (i : Nat) (hi : ts[i]? = some t) : t.ok W := h.all t (List.mem_of_getElem? hi)
theorem fps_mem {k : Nat} (hi : ts[i]? = some t) : k ∈ fps ts ↔ k ∈ t.fp ∨ k ∈ fps (ts.eraseIdx i) := by
  induction ts generalizing i with
  | nil => simp at hi
  | cons x l ih =>
    cases i with
    | zero => simp at hi; subst hi; rw [fps_cons, List.mem_append, List.eraseIdx_zero]; rfl
    | succ i =>
      rw [List.getElem?_cons_succ] at hi
      rw [fps_cons, List.mem_append, ih hi, List.eraseIdx_cons_succ, fps_cons, List.mem_append]
      constructor
      · rintro (h | h | h)
        · exact .inr (.inl h)
        · exact .inl h
        · exact .inr (.inr h)
      · rintro (h | h | h)
        · exact .inr (.inl h)
        · exact .inl h
        · exact .inr (.inr h)
theorem fps_nodup (hi : ts[i]? = some t) : (fps ts).Nodup ↔ (t.fp ++ fps (ts.eraseIdx i)).Nodup := by
  refine List.Perm.nodup_iff ?_
  induction ts generalizing i with
  | nil => simp at hi
  | cons x l ih =>
    cases i with
    | zero => simp at hi; subst hi; exact List.Perm.refl _
    | succ i =>
      rw [List.getElem?_cons_succ] at hi
      rw [List.eraseIdx_cons_succ, fps_cons, fps_cons]
      refine (List.Perm.append_left _ (ih hi)).trans ?_
      rw [← List.append_assoc, ← List.append_assoc]
      exact List.Perm.append_right _ List.perm_append_comm
theorem set_get (hi : ts[i]? = some t) : (ts.set i t')[i]? = some t' := List.getElem?_set_self (List.getElem?_eq_some_iff.1 hi).1
theorem set_erase : (ts.set i t').eraseIdx i = ts.eraseIdx i := by
  induction ts generalizing i with
  | nil => rfl
  | cons x l ih =>
    cases i with
    | zero => rfl
    | succ i => rw [List.set_cons_succ, List.eraseIdx_cons_succ, List.eraseIdx_cons_succ, ih]
theorem mem_erase {x : Th} {k : Nat} (hx : x ∈ ts.eraseIdx i) (hk : k ∈ x.fp) : k ∈ fps (ts.eraseIdx i) := List.mem_flatMap.2 ⟨x, hx, hk⟩
theorem mem_get (hi : ts[i]? = some t) {x : Th} : x ∈ ts → x = t ∨ x ∈ ts.eraseIdx i := by
  induction ts generalizing i with
  | nil => intro h; cases h
  | cons y l ih =>
    intro h
    cases i with
    | zero =>
      simp at hi; subst hi
      rw [List.eraseIdx_zero]
      exact List.mem_cons.1 h
    | succ i =>
      rw [List.getElem?_cons_succ] at hi
      rw [List.eraseIdx_cons_succ]
      rcases List.mem_cons.1 h with rfl | h
      · exact .inr List.mem_cons_self
      · rcases ih hi h with h | h
        · exact .inl h
        · exact .inr (List.mem_cons_of_mem _ h)
/-- One of the things is turned. -/
theorem Mem.step (h : Mem w0 ts W) (i : Nat) (hi : ts[i]? = some t) (hok : t'.ok W') (hk : Kept (fun k => k < W.heap.size ∧ k ∉ t.fp) W W') (hn : ∀ k ∈ t'.fp, k ∈ t.fp ∨ W.heap.size ≤ k) : Mem w0 (ts.set i t') W' := by
  have hnd := (fps_nodup hi).1 h.nodup
  have hlt := h.lt
  have hsz := h.size
  rw [List.nodup_append] at hnd
  obtain ⟨n1, n2, n3⟩ := hnd
  have hi' := set_get (t' := t') hi
  refine ⟨fun x hx => ?_, ?_, fun k hk' => ?_, ?_⟩
  · rcases mem_get hi' hx with rfl | hx
    · exact hok
    · rw [set_erase] at hx
      have hxt := h.all x (List.mem_of_mem_eraseIdx hx)
      exact Th.stab hxt fun k hk' => hk.block k ⟨Th.lt hxt k hk', fun hm => n3 k hm k (mem_erase hx hk') rfl⟩
  · rw [fps_nodup hi', set_erase, List.nodup_append]
    refine ⟨Th.nodup hok, n2, fun a ha b hb e => ?_⟩
    subst e
    rcases hn a ha with h1 | h1
    · exact n3 a h1 a hb rfl
    · have := hlt a ((fps_mem hi).2 (.inr hb)); omega
  · rcases (fps_mem hi').1 hk' with h1 | h1
    · rcases hn k h1 with h2 | h2
      · exact h.low k ((fps_mem hi).2 (.inl h2))
      · omega
    · rw [set_erase] at h1
      exact h.low k ((fps_mem hi).2 (.inr h1))
  · refine h.below.trans ⟨hk.os, hk.tape, hk.output, hk.size, fun k hk' => hk.block k ⟨by omega, fun hm => ?_⟩⟩
    have := h.low k ((fps_mem hi).2 (.inl hm)); omega
/-- A new thing. -/
theorem Mem.add (h : Mem w0 ts W) (hb : Below W.heap.size W W') (hok : t.ok W') (hn : ∀ k ∈ t.fp, W.heap.size ≤ k) : Mem w0 (t :: ts) W' := by
  have hlt := h.lt
  have hsz := h.size
  have h' := h.later hb
  refine ⟨fun x hx => ?_, ?_, fun k hk => ?_, h'.below⟩
  · rcases List.mem_cons.1 hx with rfl | hx
    · exact hok
    · exact h'.all x hx
  · rw [fps_cons, List.nodup_append]
    exact ⟨Th.nodup hok, h.nodup, fun a ha b hb' e => by subst e; have := hn a ha; have := hlt a hb'; omega⟩
  · rw [fps_cons] at hk
    rcases List.mem_append.1 hk with h1 | h1
    · have := hn k h1; omega
    · exact h.low k h1
theorem Mem.alloc (h : Mem w0 ts W) (cs : Array Value) (e : TypeId) : Mem w0 (.blk W.heap.size e cs :: ts) (W.alloc (.cells cs e)) :=
  h.add ((Below.refl _ _).alloc (Nat.le_refl _) _) (show Blk _ _ _ _ from Blk.new _ _ _) (fun k hk => by rw [List.mem_singleton.1 hk]; exact Nat.le_refl _)
theorem Mem.allocAt (h : Mem w0 ts W) (g : Nat) (hg : g = W.heap.size) (cs : Array Value) (e : TypeId) : Mem w0 (.blk g e cs :: ts) (W.alloc (.cells cs e)) := by subst hg; exact h.alloc cs e
theorem Mem.nilRow (h : Mem w0 ts W) (base : Nat) (e : TypeId) (size : Nat) : Mem w0 (.row base e size (.slice none 0 0) 0 [] :: ts) W :=
  h.add (Below.refl _ _) (show World.ownsRow _ _ _ _ _ _ _ from World.ownsRow_nil _ _ _ _) (fun k hk => by simp [Th.fp, optL, Value.ownBlock] at hk)
theorem Mem.drop (h : Mem w0 ts W) (i : Nat) (hi : ts[i]? = some t) : Mem w0 (ts.eraseIdx i) W :=
  ⟨fun x hx => h.all x (List.mem_of_mem_eraseIdx hx), (List.nodup_append.1 ((fps_nodup hi).1 h.nodup)).2.1, fun k hk => h.low k ((fps_mem hi).2 (.inr hk)), h.below⟩
theorem Mem.tail (h : Mem w0 (t :: ts) W) : Mem w0 ts W := h.drop 0 rfl
/-- A cell of a variable is stored. -/
theorem Mem.set_ {g : Nat} {e : TypeId} {cs : Array Value} (h : Mem w0 ts W) (i : Nat) (hi : ts[i]? = some (.blk g e cs)) (o : Nat) (v : Value) {cs' : Array Value} (hc : cs.setIfInBounds o v = cs') : Mem w0 (ts.set i (.blk g e cs')) (W.setCell ⟨g, o, none⟩ v) := by
  subst hc
  have hb : Blk W g e cs := h.get i hi
  refine h.step i hi (show Blk _ _ _ _ from hb.set_ o v) ⟨rfl, rfl, rfl, by simp, fun k hk => Below.heap_setCell W ⟨g, o, none⟩ v k (fun e => hk.2 (List.mem_singleton.2 e))⟩ (fun k hk => .inl hk)
theorem EntPost.size {l : List Ent} {p : Nat} {L : Lay} {W W' : World} {x : Ent} {ev : Int} (h : EntPost l p L W x ev W') : W.heap.size ≤ W'.heap.size := by
  obtain ⟨_, _, h⟩ := h
  exact h.kept.size
/-- A book gets an entry. -/
theorem Mem.enter {l : List Ent} {p : Nat} {L : Lay} {x : Ent} {ev : Int} (h : Mem w0 ts W) (i : Nat) (hi : ts[i]? = some (.book l p L)) (hp : EntPost l p L W x ev W') : ∃ L', Mem w0 (ts.set i (.book (if ev = 0 then x :: l else l) p L')) W' := by
  obtain ⟨L', hb, hs⟩ := hp
  exact ⟨L', h.step i hi (show BookR _ _ _ _ from hb) hs.kept hs.new⟩
/-- A row grows. -/
theorem Mem.grow {base : Nat} {e : TypeId} {size n n' : Nat} {v v' : Value} {xs xs' : List Value} (h : Mem w0 ts W) (i : Nat) (hi : ts[i]? = some (.row base e size v n xs)) (o : Obj) (hg : (W.alloc o).grownBy W' v.ownBlock)
    (hown : W'.ownsRow base e size v' n' xs') (hat : v'.ownBlock = v.ownBlock ∨ v'.ownBlock = some (W.heap.size + 1)) : Mem w0 (ts.set i (.row base e size v' n' xs')) W' := by
  have hsz : W.heap.size + 1 ≤ W'.heap.size := by have := hg.size; simp at this; omega
  refine h.step i hi (show World.ownsRow _ _ _ _ _ _ _ from hown) ⟨hg.os, hg.tape, hg.output, by omega, fun k hk => ?_⟩ (fun k hk => ?_)
  · refine (hg.block k (by simp; omega) fun e => hk.2 (optL_mem ?_)).trans (Below.heap_alloc W o k hk.1)
    first | exact e | exact e.symm
  · have hk' := optL_iff.1 hk
    rcases hat with h1 | h1
    · exact .inl (optL_iff.2 (by rw [← h1]; exact hk'))
    · rw [h1] at hk'
      have := Option.some.inj hk'
      exact .inr (by omega)
theorem Mem.row_ {base : Nat} {e : TypeId} {size n : Nat} {v : Value} {xs : List Value} (h : Mem w0 ts W) (i : Nat) (hi : ts[i]? = some (.row base e size v n xs)) : W.ownsRow base e size v n xs := h.get i hi
theorem Mem.blk_ {g : Nat} {e : TypeId} {cs : Array Value} (h : Mem w0 ts W) (i : Nat) (hi : ts[i]? = some (.blk g e cs)) : Blk W g e cs := h.get i hi
theorem Mem.book_ {l : List Ent} {p : Nat} {L : Lay} (h : Mem w0 ts W) (i : Nat) (hi : ts[i]? = some (.book l p L)) : BookR l p L W := h.get i hi
theorem Mem.apart (h : Mem w0 ts W) (i j : Nat) (hi : ts[i]? = some t) (hj : ts[j]? = some t') (hij : i ≠ j) : ∀ k ∈ t.fp, k ∉ t'.fp := fun k hk hk' => by
  have hnd := (fps_nodup hi).1 h.nodup
  rw [List.nodup_append] at hnd
  have hm : t' ∈ ts.eraseIdx i := by
    rw [List.mem_eraseIdx_iff_getElem?]
    exact ⟨j, Ne.symm hij, hj⟩
  exact hnd.2.2 k hk k (mem_erase hm hk') rfl
/-- Two variables are not one. -/
theorem Mem.ne {g g' : Nat} {e e' : TypeId} {cs cs' : Array Value} (h : Mem w0 ts W) (i j : Nat) (hi : ts[i]? = some (.blk g e cs)) (hj : ts[j]? = some (.blk g' e' cs')) (hij : i ≠ j) : g ≠ g' := fun e => h.apart i j hi hj hij g (List.mem_singleton.2 rfl) (List.mem_singleton.2 e)
/-- A row that will not grow any more is a block. -/
theorem Mem.swapRow {base : Nat} {e : TypeId} {size n c g o : Nat} {xs : List Value} {cur : Array Value} (h : Mem w0 ts W) (i : Nat) (hi : ts[i]? = some (.row base e size (.slice (some ⟨g, o, none⟩) n c) n xs)) (hb : Blk W g e cur) : Mem w0 (ts.set i (.blk g e cur)) W :=
  h.step i hi (show Blk _ _ _ _ from hb) ⟨rfl, rfl, rfl, Nat.le_refl _, fun _ _ => rfl⟩ (fun k hk => .inl (by rw [List.mem_singleton.1 hk]; simp [Th.fp, optL, Value.ownBlock]))
/-- Behind a region that has filled one variable. -/
theorem Mem.filled {g : Nat} {e : TypeId} {cs cs' : Array Value} {fl : List (Nat × Nat)} (h : Mem w0 ts W) (i : Nat) (hi : ts[i]? = some (.blk g e cs)) (hk : Kept (fun k => k < W.heap.size ∧ free fl k) W W') (hfl : ∀ q ∈ fl, q.2 = g) (hb : Blk W' g e cs') : Mem w0 (ts.set i (.blk g e cs')) W' :=
  h.step i hi (show Blk _ _ _ _ from hb) ⟨hk.os, hk.tape, hk.output, hk.size, fun k hk' => hk.block k ⟨hk'.1, fun q hq e => hk'.2 (List.mem_singleton.2 ((hfl q hq ▸ e : g = k).symm))⟩⟩ (fun k hk' => .inl hk')
theorem Mem.to (h : Mem w0 ts W') (e : W = W') : Mem w0 ts W := e ▸ h
end
end Go.Proofs.Ytiggefmckomilaa
namespace Go.Proofs.Ytiggefmckomilaa
open Go Go.RowKit

/-- The standards' names, the oldest first. -/
def ordN (l : List Ent) : List ByteArray := (stdsT l).reverse.map Std.name
theorem std_at : ∀ {l : List Ent} {bs : List Nat}, GoodB l → bs.length = (stdsT l).length → ∀ (i : Nat) (s : Std) (b : Nat), (stdsT l)[i]? = some s → bs[i]? = some b → stdT l s.name = some s ∧ ptrT (stdsT l) bs s.name = some b
  | [], bs, _, _, i, s, b, h, _ => by simp [stdsT] at h
  | .radar _ _ :: l, bs, hg, hl, i, s, b, h, hb => std_at (l := l) hg.2 hl i s b h hb
  | .test _ :: l, bs, hg, hl, i, s, b, h, hb => std_at (l := l) hg.2 hl i s b h hb
  | .turn _ _ :: l, bs, hg, hl, i, s, b, h, hb => std_at (l := l) hg.2 hl i s b h hb
  | .define x :: l, [], hg, hl, i, s, b, h, hb => by rw [stdsT] at hl; simp at hl
  | .define x :: l, b0 :: bs, hg, hl, 0, s, b, h, hb => by
    rw [stdsT] at h
    simp at h hb
    subst h hb
    exact ⟨by rw [stdT, if_pos rfl], by rw [stdsT, ptrT, if_pos rfl]⟩
  | .define x :: l, b0 :: bs, hg, hl, i + 1, s, b, h, hb => by
    rw [stdsT, List.length_cons, List.length_cons] at hl
    rw [stdsT, List.getElem?_cons_succ] at h
    rw [List.getElem?_cons_succ] at hb
    obtain ⟨h1, h2⟩ := std_at (l := l) hg.2 (by omega) i s b h hb
    have hne : x.name ≠ s.name := fresh_of (e := .define x) hg h1
    exact ⟨by rw [stdT_cons (show Fresh (.define x) _ from hne)]; exact h1, by rw [stdsT, ptrT, if_neg hne]; exact h2⟩
theorem ord_at {l : List Ent} {bs : List Nat} (hg : GoodB l) (hl : bs.length = (stdsT l).length) {i : Nat} (hi : i < bs.length) : ∃ (s : Std) (b : Nat), (ordN l)[i]? = some s.name ∧ bs.reverse[i]? = some b ∧ stdT l s.name = some s ∧ ptrT (stdsT l) bs s.name = some b := by
  have h1 : bs.reverse[i]? = some (bs[bs.length - 1 - i]'(by omega)) := by rw [List.getElem?_reverse (by omega)]; exact List.getElem?_eq_getElem _
  have h2 : (stdsT l).reverse[i]? = some ((stdsT l)[(stdsT l).length - 1 - i]'(by omega)) := by rw [List.getElem?_reverse (by omega)]; exact List.getElem?_eq_getElem _
  obtain ⟨k1, k2⟩ := std_at hg hl (bs.length - 1 - i) ((stdsT l)[(stdsT l).length - 1 - i]'(by omega)) (bs[bs.length - 1 - i]'(by omega)) (by rw [hl]; exact List.getElem?_eq_getElem _) (List.getElem?_eq_getElem _)
  exact ⟨_, _, by unfold ordN; rw [List.getElem?_map, h2]; rfl, h1, k1, k2⟩
theorem ptr_inj : ∀ {ss : List Std} {bs : List Nat} {x y : ByteArray} {b : Nat}, bs.Nodup → ptrT ss bs x = some b → ptrT ss bs y = some b → x = y
  | [], bs, x, y, b, _, h, _ => by simp [ptrT] at h
  | s :: ss, [], x, y, b, _, h, _ => by simp [ptrT] at h
  | s :: ss, b0 :: bs, x, y, b, hn, h1, h2 => by
    have mem : ∀ {ss : List Std} {bs : List Nat} {z : ByteArray} {b : Nat}, ptrT ss bs z = some b → b ∈ bs := fun {ss} => by
      induction ss with
      | nil => intro bs z b h; cases bs <;> simp [ptrT] at h
      | cons s ss ih =>
        intro bs z b h
        cases bs with
        | nil => simp [ptrT] at h
        | cons b0 bs =>
          rw [ptrT] at h
          split at h
          · rw [← Option.some.inj h]; exact List.mem_cons_self
          · exact List.mem_cons_of_mem _ (ih h)
    rw [List.nodup_cons] at hn
    rw [ptrT] at h1 h2
    split at h1 <;> split at h2
    · rename_i e1 e2; exact e1.symm.trans e2
    · rename_i e1 e2
      have := Option.some.inj h1
      subst this
      exact absurd (mem h2) hn.1
    · rename_i e1 e2
      have := Option.some.inj h2
      subst this
      exact absurd (mem h1) hn.1
    · exact ptr_inj hn.2 h1 h2
theorem from_mem {l : List Ent} {bs : List Nat} {n other : ByteArray} {o : Nat} (hn : bs.Nodup) (ho : ptrT (stdsT l) bs other = some o) : fromB l bs n o = memB (chainT l n) other := by
  rw [Bool.eq_iff_iff, memB_iff]
  unfold fromB
  rw [List.any_eq_true]
  constructor
  · rintro ⟨x, hx, h⟩
    rw [beq_iff_eq] at h
    rw [← ptr_inj hn h ho]
    exact hx
  · exact fun h => ⟨other, h, by rw [beq_iff_eq]; exact ho⟩
theorem BookR.kb_nodup {l : List Ent} {p : Nat} {L : Lay} {w : World} (h : BookR l p L w) : L.kb.Nodup := by
  have hn := h.nodup
  unfold Lay.all at hn
  have h1 := (List.nodup_cons.1 hn).2
  have h2 := (List.nodup_cons.1 h1).2
  have h3 := (List.nodup_cons.1 h2).2
  have h4 := (List.nodup_cons.1 h3).2
  have h5 := (List.nodup_cons.1 h4).2
  exact (List.nodup_append.1 (List.nodup_append.1 (List.nodup_append.1 (List.nodup_append.1 h5).2.1).2.1).2.1).1

def depN (l : List Ent) (other : ByteArray) (k : Nat) : List ByteArray := ((ordN l).take k).filter fun n => memB (chainT l n) other
def inT (l : List Ent) (q : List ByteArray) (i : Nat) : Bool := match (testInfo l)[i]? with | some x => memB q x.1.std | none => false
def depT (l : List Ent) (q : List ByteArray) (k : Nat) : List Nat := (List.range k).filter (inT l q)
theorem depN_succ {l : List Ent} {other n : ByteArray} {k : Nat} (h : (ordN l)[k]? = some n) : depN l other (k + 1) = depN l other k ++ if memB (chainT l n) other = true then [n] else [] := by
  unfold depN
  have hk := (List.getElem?_eq_some_iff.1 h).1
  rw [List.take_succ_eq_append_getElem hk, List.filter_append]
  have : (ordN l)[k] = n := Option.some.inj ((List.getElem?_eq_getElem hk).symm.trans h)
  rw [this]
  congr 1
  by_cases hm : memB (chainT l n) other = true <;> simp [hm]
theorem depT_succ {l : List Ent} {q : List ByteArray} {k : Nat} : depT l q (k + 1) = depT l q k ++ if inT l q k = true then [k] else [] := by
  unfold depT
  rw [List.range_succ, List.filter_append]
  congr 1
  by_cases hm : inT l q k = true <;> simp [hm]
theorem depN_len {l : List Ent} {other : ByteArray} {k : Nat} : (depN l other k).length ≤ k := by
  unfold depN
  exact Nat.le_trans (List.length_filter_le _ _) (by rw [List.length_take]; omega)
theorem depT_len {l : List Ent} {q : List ByteArray} {k : Nat} : (depT l q k).length ≤ k := by
  unfold depT
  exact Nat.le_trans (List.length_filter_le _ _) (by simp)
def natV (q : List Nat) : List Value := q.map fun (i : Nat) => .int .i64 (i : Int)
/-- What Depends answers. -/
def dependA (l : List Ent) (name : ByteArray) : List ByteArray × List Nat × Int := match stdT l name with
  | none => ([], [], 4)
  | some _ => (depN l name (stdsT l).length, depT l (depN l name (stdsT l).length) (testsT l).length, 0)
def DepPost (w : World) (r : List ByteArray × List Nat × Int) (e : Ending) (w' : World) : Prop :=
  ∃ v1 v2, e = .returned (.tuple #[v1, v2, .int .i64 r.2.2]) ∧ Mem w [.row w.heap.size 3 1 v2 r.2.1.length (natV r.2.1), .row w.heap.size 9 1 v1 r.1.length (strV r.1)] w'
set_option maxHeartbeats 4000000 in
set_option maxRecDepth 100000 in
theorem Depends_any (l : List Ent) (p : Nat) (L : Lay) (n : ByteArray) (w : World) (hb : BookR l p L w) (hn : n.size ≤ maxLen) :
    Calls Try.prog 39 #[ptrB p, .string n] w (DepPost w (dependA l n)) := by
  obtain ⟨Ao, co, At, ct, Ae, ce, e1, e2, e3, hk⟩ := hb.cells
  have hls := fun W hw => look_std (W := W) hb hw hn
  obtain ⟨R, hR⟩ : ∃ R, dependA l n = R := ⟨_, rfl⟩
  rw [hR]
  unfold ptrB
  obtain ⟨x0, x1, x2, x3, x4, x5, x6, x7⟩ := hk.c8
  have ltk := hk.lt
  have hl1 := hls w (Below.refl _ _)
  have HR := hide hR
  have Hk := hide hk
  clear hR hk
  cases hs : stdT l n with
  | none =>
    have hRv : R = ([], [], 4) := by rw [← HR.out]; unfold dependA; rw [hs]
    subst hRv
    rw [ptr_none hs] at hl1
    unfold addrO at hl1
    simp only [Option.map_none] at hl1
    go_enter Try.func39, Try.ntmps39
    go_wp2
    refine bodyPost_ret (v := .tuple #[.slice none 0 0, .slice none 0 0, .int .i64 4]) (by simp [results, Try.results39, go_sem]) rfl ⟨_, _, rfl, ((Mem.start w).nilRow w.heap.size 9 1).nilRow w.heap.size 3 1⟩
  | some sd =>
    have hRv : R = (depN l n (stdsT l).length, depT l (depN l n (stdsT l).length) (testsT l).length, 0) := by rw [← HR.out]; unfold dependA; rw [hs]
    obtain ⟨o, hpo, hom, hbo⟩ := known_get hb.good hb.knowns hs
    rw [hpo] at hl1
    unfold addrO at hl1
    simp only [Option.map_some] at hl1
    have hgd := hb.good
    have hkl := hb.knowns.length
    have hfm := fun m => from_mem (n := m) hb.kb_nodup hpo
    have hord := hb.order
    rw [e1] at hord
    have hM5 := stds_le hb.good
    obtain ⟨M, hM⟩ : ∃ M, (stdsT l).length = M := ⟨_, rfl⟩
    rw [hM] at hRv hkl hord hM5 Hk x3
    obtain ⟨dn, hdn⟩ : ∃ dn, depN l n = dn := ⟨_, rfl⟩
    rw [hdn] at hRv
    have HRv := hide hRv
    clear hRv
    have Hfm := hide hfm
    have Hord := hide hord
    have Hdn := hide hdn
    clear hfm hord hdn
    go_enter Try.func39, Try.ntmps39
    go_wp2_with fail
    clear hl1 x0 x1 x2 x3 x4 x5 x6 x7 ltk
    go_loopw [4, 34] (fun v1 i wr => ∃ k : Nat, k ≤ M ∧ i = .int .i64 k ∧ Mem w [.row w.heap.size 9 1 v1 (dn k).length (strV (dn k))] wr) (fun _ i _ => M - (intOf i).toNat)
    case atStart =>
      have h0 : dn 0 = [] := by rw [← Hdn.out]; rfl
      exact ⟨0, by omega, rfl, by rw [h0]; exact (Mem.start w).nilRow _ _ _⟩
    case round =>
      obtain ⟨k, hkM, rfl, hM0⟩ := hrel
      have HM := hide hM0
      clear hM0
      by_cases hlt : k < M
      · obtain ⟨s, b, k1, k2, k3, k4⟩ := ord_at (bs := L.kb) hgd (by omega) (i := k) (by omega)
        obtain ⟨bo, cur, rfl, -, hbl, -, -, hcur⟩ := row_blk Hord.out (by omega)
        have c0 := hbl.c k (hcur k _ (by rw [List.getElem?_map, k2]; rfl))
        unfold ptrB at c0
        rw [← HM.out.below.cell hbl.lt] at c0
        have hltb : bo < wr.heap.size := Nat.lt_of_lt_of_le hbl.lt HM.out.size
        have hltM : (k : Int) < M := by omega
        have hkw := hb.knowns.stab (w' := wr) fun q hq => HM.out.below.block q (hb.knowns.lt q hq)
        have hfr := from_any l L.kb s.name s b o wr hgd k3 hkw k4 _ _ (hbo.below HM.out.below hbo.lt)
        rw [Hfm.out] at hfr
        have hds := depN_succ (other := n) k1
        rw [Hdn.out] at hds
        obtain ⟨q, hq⟩ : ∃ q, memB (chainT l s.name) n = q := ⟨_, rfl⟩
        rw [hq] at hfr hds
        unfold ptrB at hfr
        have HDS := hide hds
        clear hds hcur k1 k2
        go_wp2_with fail
        clear c0
        refine (hfr).mono ?_
        rintro e w2 ⟨rfl, hb⟩
        replace HM := hide (HM.out.later hb)
        clear hb
        clear hfr
        have hnm := (good_std hgd k3).2.1
        have hbs := hbo
        obtain ⟨b', hb', -, hbk⟩ := known_get hgd hb.knowns k3
        obtain rfl : b' = b := Option.some.inj (hb'.symm.trans k4)
        have hS := hide (hbk.below HM.out.below hbk.lt)
        clear hbs hnm hb' hkw
        cases q with
        | true =>
          have s0 : w2.cell? ⟨b', 0, none⟩ = some (.string s.name) := hS.out.c 0 rfl
          have lts := hS.out.lt
          have HD2 := hide (show dn (k + 1) = dn k ++ [s.name] by rw [HDS.out]; rfl)
          have hlen : (dn k).length ≤ k := by rw [← Hdn.out]; exact depN_len
          obtain ⟨i0, hii, hz0, hz1, hz2⟩ := info_parts strInfo
          have Hi := hide hii
          have Hz0 := hide hz0
          have Hz1 := hide hz1
          have Hz2 := hide hz2
          clear hii hz0 hz1 hz2
          have hstr : strV (dn (k + 1)) = strV (dn k) ++ [.string s.name] := by rw [HD2.out]; unfold strV; rw [List.map_append]; rfl
          have hl2 : (dn (k + 1)).length = (dn k).length + 1 := by rw [HD2.out, List.length_append]; rfl
          have Hstr := hide hstr
          have Hl2 := hide hl2
          clear hstr hl2 HDS
          have hownM := Mem.row_ HM.out 0 rfl
          have hbaseM : w.heap.size ≤ w2.heap.size := HM.out.size
          go_wp2_with (at_builtin; refine wpList_append_own_at _ rfl (.tmp 41) (.tmp 47) _ rfl w.heap.size 9 i0 _ 1 16 Try.underlying36 Hi.out Hz0.out Hz1.out Hz2.out rfl (by decide) _ (dn k).length (strV (dn k)) rfl (hownM.alloc _) ⟨w2.heap.size, 0, none⟩ 1 1 [.string s.name] rfl rfl ?q1c1 (by intro u hu; simp only [List.mem_cons, List.not_mem_nil, or_false] at hu; rcases hu with rfl <;> rfl) ?q1c3 ?q1c4 ?q1c5 ?_)
          try case q1c1 => exact new_cellsQ w2 _ [.string s.name]
          case q1c3 => unfold maxLen; omega
          case q1c4 => omega
          case q1c5 => simp; omega
          intro v2 w3 hown2 hgr2 _ hat2
          have HMn := HM.out.grow 0 rfl _ hgr2 hown2 hat2
          replace HM := hide HMn
          clear HMn hown2 hgr2 hat2 hownM hbaseM
          go_wp2_with fail
          go_roundw
          case rel => exact ⟨k + 1, by omega, by go_num, by rw [Hl2.out, Hstr.out]; exact HM.out⟩
          case measure => simp [intOf] <;> omega
        | false =>
          have HD2 := hide (show dn (k + 1) = dn k by rw [HDS.out]; simp)
          go_wp2_with fail
          go_roundw
          case rel => exact ⟨k + 1, by omega, by go_num, by rw [HD2.out]; exact HM.out⟩
          case measure => simp [intOf] <;> omega
      · have hkM' : k = M := by omega
        subst hkM'
        have hHK := Hk.out
        obtain ⟨y0, y1, y2, y3, y4, y5, y6, y7⟩ := (blk_later hHK HM.out.below).c8
        have ltk := (blk_later hHK HM.out.below).lt
        go_wp2_with fail
        clear y0 y1 y2 y3 y4 y5 y6 y7 ltk hHK
        obtain ⟨q, hq⟩ : ∃ q, dn k = q := ⟨_, rfl⟩
        have hql : q.length ≤ 64 := by rw [← hq, ← Hdn.out]; exact Nat.le_trans depN_len hM5
        rw [hq] at HM HRv
        obtain ⟨dt, hdt⟩ : ∃ dt, depT l q = dt := ⟨_, rfl⟩
        rw [hdt] at HRv
        obtain ⟨X, hX⟩ : ∃ X, testAll l L.kb = X := ⟨_, rfl⟩
        have hXI : X.map (·.1) = testInfo l := by rw [← hX]; exact testAll_info l L.kb
        have hXl : X.length = (testsT l).length := by rw [← testInfo_length, ← hXI, List.length_map]
        have htr := hb.tests
        rw [testRows_all, hX, e2] at htr
        have hT5 := tests_le hb.good
        obtain ⟨T, hT⟩ : ∃ T, (testsT l).length = T := ⟨_, rfl⟩
        rw [hT] at htr hXl HRv hT5
        simp only [hT]
        obtain ⟨A1, cq, rfl⟩ := own_shape2 (Mem.row_ HM.out 0 rfl)
        have HM1 := hide (HM.out.nilRow w.heap.size 3 1)
        clear HM
        have HM := HM1
        clear HM1
        have Htr := hide htr
        have Hdt := hide hdt
        have HXI := hide hXI
        have Hq := hide hq
        clear htr hdt hXI hq
        go_loopw [5, 55] (fun v2 i wr2 => ∃ j : Nat, j ≤ T ∧ i = .int .i64 j ∧ Mem w [.row w.heap.size 3 1 v2 (dt j).length (natV (dt j)), .row w.heap.size 9 1 (.slice A1 q.length cq) q.length (strV q)] wr2) (fun _ i _ => T - (intOf i).toNat)
        case atStart =>
          have h0 : dt 0 = [] := by rw [← Hdt.out]; rfl
          exact ⟨0, by omega, rfl, by rw [h0]; exact HM.out⟩
        case round =>
          obtain ⟨j, hjT, rfl, hM1⟩ := hrel
          clear HM
          have HM := hide hM1
          clear hM1
          by_cases hjt : j < T
          · obtain ⟨bT, rfl, hbl, -, hcl⟩ := rows_pt Htr.out (by omega)
            obtain ⟨x, hx⟩ : ∃ x, X[j]? = some x := ⟨X[j]'(by omega), List.getElem?_eq_getElem (by omega)⟩
            have hTk : (testInfo l)[j]? = some x.1 := by rw [← HXI.out, List.getElem?_map, hx]; rfl
            have hds := depT_succ (l := l) (q := q) (k := j)
            rw [Hdt.out] at hds
            have hin : inT l q j = memB q x.1.1.std := by unfold inT; rw [hTk]
            have c0 := hcl j x hx 0 _ (by decide) rfl
            have c1 := hcl j x hx 1 _ (by decide) rfl
            have c2 := hcl j x hx 2 _ (by decide) rfl
            have c3 := hcl j x hx 3 _ (by decide) rfl
            have c4 := hcl j x hx 4 _ (by decide) rfl
            have c5 := hcl j x hx 5 _ (by decide) rfl
            have c6 := hcl j x hx 6 _ (by decide) rfl
            have c7 := hcl j x hx 7 _ (by decide) rfl
            rw [← HM.out.below.cell hbl] at c0 c1 c2 c3 c4 c5 c6 c7
            rw [Nat.add_zero] at c0
            have hblw : bT < wr.heap.size := Nat.lt_of_lt_of_le hbl HM.out.size
            obtain ⟨⟨⟨rd, sd', tm, lo, hi⟩, ⟨g1, g2⟩⟩, po⟩ := x
            simp only at c0 c1 c2 c3 c4 c5 c6 c7 hin
            obtain ⟨r, hr⟩ : ∃ r, memB q sd' = r := ⟨_, rfl⟩
            have hct := fun W (h : StrsAt W W.heap.size A1 q) => contains_any A1 q.length cq q sd' W rfl (by omega) h
            rw [hr] at hct hin
            rw [hin] at hds
            have HDS := hide hds
            have Hct := hide hct
            have hjt2 : (j : Int) < T := by omega
            clear hct hds hin hr hcl hx hTk
            go_wp2_with fail
            refine at_world fun W3 hW => ?_
            have HMn := Mem.to (Mem.allocAt HM.out wr.heap.size rfl #[.string rd, .string sd', .int .i64 tm, .int .i64 lo, .int .i64 hi, .pointer po, .int .i64 g1, .int .i64 g2] 113) hW
            have LW : Later wr W3 := by rw [hW]; exact ((Below.refl _ _).alloc (Nat.le_refl _) _)
            have szW : W3.heap.size = wr.heap.size + 1 := by rw [hW]; simp
            clear hW
            replace HM := hide HMn
            clear HMn LW
            clear c0 c1 c2 c3 c4 c5 c6 c7 szW
            refine (Hct.out _ (StrsAt.own (Mem.row_ HM.out 2 rfl))).mono ?_
            rintro e w' ⟨rfl, rfl⟩
            cases r with
            | true =>
              have HD2 := hide (show dt (j + 1) = dt j ++ [j] by rw [HDS.out]; rfl)
              have hlen : (dt j).length ≤ j := by rw [← Hdt.out]; exact depT_len
              obtain ⟨i0, hii, hz0, hz1, hz2⟩ := info_parts intInfo
              have Hi := hide hii
              have Hz0 := hide hz0
              have Hz1 := hide hz1
              have Hz2 := hide hz2
              clear hii hz0 hz1 hz2
              have Hstr := hide (show natV (dt (j + 1)) = natV (dt j) ++ [.int .i64 (j : Int)] by rw [HD2.out]; unfold natV; rw [List.map_append]; rfl)
              have Hl2 := hide (show (dt (j + 1)).length = (dt j).length + 1 by rw [HD2.out, List.length_append]; rfl)
              clear HDS
              have hownM := Mem.row_ HM.out 1 rfl
              have hbaseM : w.heap.size ≤ W3.heap.size := HM.out.size
              go_wp2_with (at_builtin; refine wpList_append_own_at _ rfl (.tmp 65) (.tmp 67) _ rfl w.heap.size 3 i0 _ 1 8 Try.underlying40 Hi.out Hz0.out Hz1.out Hz2.out rfl (by decide) _ (dt j).length (natV (dt j)) rfl (hownM.alloc _) ⟨W3.heap.size, 0, none⟩ 1 1 [.int .i64 (j : Int)] rfl rfl ?q2c1 (by intro u hu; simp only [List.mem_cons, List.not_mem_nil, or_false] at hu; rcases hu with rfl <;> rfl) ?q2c3 ?q2c4 ?q2c5 ?_)
              try case q2c1 => exact new_cellsQ W3 _ [.int .i64 (j : Int)]
              case q2c3 => unfold maxLen; omega
              case q2c4 => omega
              case q2c5 => simp; omega
              intro v3 w4 hown2 hgr2 _ hat2
              have HMn := HM.out.grow 1 rfl _ hgr2 hown2 hat2
              replace HM := hide HMn
              clear HMn hown2 hgr2 hat2 hownM hbaseM
              go_wp2_with fail
              go_roundw
              case rel => exact ⟨j + 1, by omega, by go_num, by rw [Hl2.out, Hstr.out]; exact HM.out.tail⟩
              case measure => simp [intOf] <;> omega
            | false =>
              have HD2 := hide (show dt (j + 1) = dt j by rw [HDS.out]; simp)
              go_wp2_with fail
              go_roundw
              case rel => exact ⟨j + 1, by omega, by go_num, by rw [HD2.out]; exact HM.out.tail⟩
              case measure => simp [intOf] <;> omega
          · have hjT' : j = T := by omega
            subst hjT'
            obtain ⟨A2, c2, rfl⟩ := own_shape2 (Mem.row_ HM.out 0 rfl)
            have hRv := HRv.out
            go_wp2
            subst hRv
            refine bodyPost_ret (v := .tuple #[.slice A1 q.length cq, .slice A2 (dt j).length c2, .int .i64 0]) (by simp [results, Try.results39, go_sem]) rfl ⟨_, _, rfl, HM.out⟩
end Go.Proofs.Ytiggefmckomilaa
namespace Go.Proofs.Ytiggefmckomilaa
open Go Go.RowKit

/-- What a call that makes an entry answers. -/
def entE (l : List Ent) : Ent → Int
  | .radar n d => radarE l n d
  | .define s => defineE l s
  | .test t => testE l t
  | .turn n o => turnE l n o
def sizeOk : Ent → Prop
  | .radar n _ => n.size ≤ maxLen
  | .define s => s.name.size ≤ maxLen ∧ s.par.size ≤ maxLen
  | .test t => t.radar.size ≤ maxLen ∧ t.std.size ≤ maxLen
  | .turn n _ => n.size ≤ maxLen
set_option maxRecDepth 100000 in
theorem radarC_any (l : List Ent) (p : Nat) (L : Lay) (a b : Nat) (n : ByteArray) (d : Int) (w : World) (hb : BookR l p L w) (hn : n.size ≤ maxLen) (h1 : Blk w a 9 #[.string n]) (h2 : Blk w b 3 #[.int .i64 d]) :
    Calls Try.prog 61 #[ptrB p, ptrB a, ptrB b] w fun e w' => (∃ v, e = .returned v) ∧ EntPost l p L w (.radar n d) (radarE l n d) w' := by
  have c1 := Radar_any l p L n d w hb hn
  have a0 := h1.c 0 rfl
  have b0 := h2.c 0 rfl
  have lta := h1.lt
  have ltb := h2.lt
  have Hc := hide c1
  clear c1 hb h1 h2
  unfold ptrB at *
  go_enter Try.func61, Try.ntmps61
  go_wp2_with fail
  refine Hc.out.mono ?_
  rintro e w2 ⟨rfl, hp⟩
  have HP := hide hp
  clear hp
  go_wp2
  refine bodyPost_end (results_none rfl _ _ _) rfl ⟨⟨_, rfl⟩, HP.out⟩
set_option maxRecDepth 100000 in
theorem defineC_any (l : List Ent) (p : Nat) (L : Lay) (a : Nat) (s : Std) (w : World) (hb : BookR l p L w) (hn : s.name.size ≤ maxLen) (hp : s.par.size ≤ maxLen) (h1 : Blk w a 43 (stdC s)) :
    Calls Try.prog 65 #[ptrB p, ptrB a] w fun e w' => (∃ v, e = .returned v) ∧ EntPost l p L w (.define s) (defineE l s) w' := by
  have c1 := Define_any l p L s w hb hn hp
  have Hc := hide c1
  unfold stdC at h1 Hc
  obtain ⟨a0, a1, a2, a3, a4, a5, a6⟩ := h1.c7
  have lta := h1.lt
  clear c1 hb h1
  unfold ptrB at *
  go_enter Try.func65, Try.ntmps65
  go_wp2_with fail
  refine Hc.out.mono ?_
  rintro e w2 ⟨rfl, hp⟩
  have HP := hide hp
  clear hp
  go_wp2
  refine bodyPost_end (results_none rfl _ _ _) rfl ⟨⟨_, rfl⟩, HP.out⟩
set_option maxRecDepth 100000 in
theorem testC_any (l : List Ent) (p : Nat) (L : Lay) (a : Nat) (t : Tst) (w : World) (hb : BookR l p L w) (hn : t.radar.size ≤ maxLen) (hp : t.std.size ≤ maxLen) (h1 : Blk w a 51 (tstC t)) :
    Calls Try.prog 66 #[ptrB p, ptrB a] w fun e w' => (∃ v, e = .returned v) ∧ EntPost l p L w (.test t) (testE l t) w' := by
  obtain ⟨rd, sd, tm, lo, hi⟩ := t
  have c1 := Test_any l p L rd sd tm lo hi w hb hn hp
  generalize hE : testE l (⟨rd, sd, tm, lo, hi⟩ : Tst) = eT at c1 ⊢
  have c2 : Calls Try.prog 23 #[ptrB p, .agg (tstC ⟨rd, sd, tm, lo, hi⟩)] w fun e w' => ∃ z : Int, e = .returned (.tuple #[.int .i64 z, .int .i64 eT]) ∧ EntPost l p L w (.test ⟨rd, sd, tm, lo, hi⟩) eT w' :=
    c1.mono fun e w' h => ⟨_, h.1, h.2⟩
  have Hc := hide c2
  unfold tstC at h1 Hc
  obtain ⟨a0, a1, a2, a3, a4⟩ := h1.c5
  have lta := h1.lt
  clear c1 c2 hb h1 hE
  unfold ptrB at *
  go_enter Try.func66, Try.ntmps66
  go_wp2_with fail
  refine Hc.out.mono ?_
  rintro e w2 ⟨z, rfl, hp⟩
  have HP := hide hp
  clear hp
  go_wp2
  refine bodyPost_end (results_none rfl _ _ _) rfl ⟨⟨_, rfl⟩, HP.out⟩
end Go.Proofs.Ytiggefmckomilaa
namespace Go.Proofs.Ytiggefmckomilaa
open Go Go.RowKit

def updB (g : ByteArray → Bool) (n : ByteArray) (a : Bool) (q : ByteArray) : Bool := if q = n then a else g q
theorem boolF_put (g : ByteArray → Bool) (n s : ByteArray) : putF (boolF g) n (.bool true) s = boolF (updB g n true) s := by
  unfold putF boolF updB
  by_cases h : s = n <;> simp [h]
theorem boolF_del (g : ByteArray → Bool) (n s : ByteArray) : delF (boolF g) n s = boolF (updB g n false) s := by
  unfold delF boolF updB
  by_cases h : s = n <;> simp [h]
theorem updB_updB (g : ByteArray → Bool) (n : ByteArray) (a b : Bool) : updB (updB g n a) n b = updB g n b := by
  funext q
  unfold updB
  by_cases h : q = n <;> simp [h]
theorem updB_same {g : ByteArray → Bool} {n : ByteArray} {a : Bool} : updB g n a n = a := by unfold updB; rw [if_pos rfl]
theorem wd_turn (l : List Ent) (n : ByteArray) (o : Bool) : wdT (.turn n o :: l) = updB (wdT l) n o := by
  funext q
  unfold updB
  rw [wdT]
  by_cases h : n = q
  · rw [if_pos h, if_pos h.symm]
  · rw [if_neg h, if_neg (Ne.symm h)]
/-- What is void, when the first of the standards are done. -/
def vB (l l' : List Ent) (ns : List ByteArray) (q : ByteArray) : Bool := if memB ns q = true then voidT l' q else voidT l q
theorem vB_nil (l l' : List Ent) : vB l l' [] = voidT l := by funext q; rfl
theorem vB_next (l l' : List Ent) (ns : List ByteArray) (n : ByteArray) : updB (vB l l' ns) n (voidT l' n) = vB l l' (ns ++ [n]) := by
  funext q
  unfold updB vB
  by_cases h : q = n
  · subst h
    rw [if_pos rfl, if_pos (memB_iff.2 (by simp))]
  · rw [if_neg h]
    congr 1
    rw [eq_iff_iff, memB_iff, memB_iff]
    simp [h]
theorem chainT_none : ∀ {l : List Ent} {n : ByteArray}, stdT l n = none → chainT l n = []
  | [], n, h => rfl
  | .radar _ _ :: l, n, h => chainT_none (l := l) h
  | .test _ :: l, n, h => chainT_none (l := l) h
  | .turn _ _ :: l, n, h => chainT_none (l := l) h
  | .define s :: l, n, h => by
    rw [stdT] at h
    rw [chainT]
    split at h
    · cases h
    · rename_i hne
      rw [if_neg hne]
      exact chainT_none (l := l) h
theorem std_some_mem : ∀ {l : List Ent} {n : ByteArray} {s : Std}, stdT l n = some s → n ∈ (stdsT l).map Std.name
  | [], n, s, h => by cases h
  | .radar _ _ :: l, n, s, h => std_some_mem (l := l) h
  | .test _ :: l, n, s, h => std_some_mem (l := l) h
  | .turn _ _ :: l, n, s, h => std_some_mem (l := l) h
  | .define x :: l, n, s, h => by
    rw [stdT] at h
    rw [stdsT, List.map_cons]
    split at h
    · rename_i he
      rw [he]
      exact List.mem_cons_self
    · exact List.mem_cons_of_mem _ (std_some_mem (l := l) h)
theorem vB_all (l : List Ent) (n : ByteArray) (o : Bool) : vB l (.turn n o :: l) (ordN l) = voidT (.turn n o :: l) := by
  funext q
  unfold vB
  split
  · rfl
  · rename_i h
    have hq : stdT l q = none := by
      cases hs : stdT l q with
      | none => rfl
      | some s => exact absurd (memB_iff.2 (by unfold ordN; rw [List.map_reverse, List.mem_reverse]; exact std_some_mem hs)) h
    unfold voidT
    rw [show chainT (.turn n o :: l) q = chainT l q from rfl, chainT_none hq]
    rfl
theorem stds_len_le : ∀ {l : List Ent}, (stdsT l).length ≤ l.length
  | [] => Nat.le_refl _
  | .radar _ _ :: l => Nat.le_succ_of_le (stds_len_le (l := l))
  | .test _ :: l => Nat.le_succ_of_le (stds_len_le (l := l))
  | .turn _ _ :: l => Nat.le_succ_of_le (stds_len_le (l := l))
  | .define s :: l => Nat.succ_le_succ (stds_len_le (l := l))
/-- Some name of a chain, told by the names that were met. -/
def anyW (f : ByteArray → Bool) {l : List Ent} {n : ByteArray} (pre : List (InC l n)) : Bool := pre.any fun x => f x.1
theorem anyW_snoc (f : ByteArray → Bool) {l : List Ent} {n : ByteArray} (pre : List (InC l n)) (x : InC l n) : anyW f (pre ++ [x]) = (anyW f pre || f x.1) := by unfold anyW; simp
theorem anyW_all (l : List Ent) (n m : ByteArray) (o : Bool) : anyW (wdT (.turn n o :: l)) (chainT l m).attach = voidT (.turn n o :: l) m := by
  unfold anyW voidT
  rw [show chainT (.turn n o :: l) m = chainT l m from rfl, Bool.eq_iff_iff, List.any_eq_true, List.any_eq_true]
  constructor
  · rintro ⟨x, -, h⟩; exact ⟨x.1, x.2, h⟩
  · rintro ⟨x, hx, h⟩; exact ⟨⟨x, hx⟩, List.mem_attach _ _, h⟩

/-- The book, when both maps are turned. -/
theorem bookQ_turn {l : List Ent} {p : Nat} {L : Lay} {w w5 : World} {n : ByteArray} {o : Bool} (h : BookR l p L w) (hok : okEnt l (.turn n o) = true) {c c' : Nat} (hc : c ≤ l.length + 1) (hc' : c' ≤ l.length * l.length + (stdsT l).length)
    (hm : MapV w5 Try.prog 9 L.bw (boolF (wdT (.turn n o :: l))) c) (hm' : MapV w5 Try.prog 9 L.bv (boolF (voidT (.turn n o :: l))) c')
    (hk : ∀ k, k < w.heap.size → k ≠ L.bw → k ≠ L.bv → w5.heap[k]? = w.heap[k]?) : BookQ (.turn n o) l p L w5 := by
  have hlt := h.lt
  have hnd := h.nodup
  have hk' : ∀ k ∈ L.all p, k ≠ L.bw → k ≠ L.bv → w5.heap[k]? = w.heap[k]? := fun k hm => hk k (hlt k hm)
  unfold Lay.all at hnd
  obtain ⟨n1, hnd⟩ := List.nodup_cons.1 hnd
  obtain ⟨n2, hnd⟩ := List.nodup_cons.1 hnd
  obtain ⟨n3, hnd⟩ := List.nodup_cons.1 hnd
  obtain ⟨n4, hnd⟩ := List.nodup_cons.1 hnd
  obtain ⟨n5, -⟩ := List.nodup_cons.1 hnd
  have hne : ∀ k ∈ optL L.vo ++ (optL L.vt ++ (optL L.ve ++ (L.kb ++ L.cb.flatten))), w5.heap[k]? = w.heap[k]? := fun k hm => hk' k (by unfold Lay.all; simp only [List.mem_cons]; exact .inr (.inr (.inr (.inr (.inr hm))))) (fun e => n4 (by rw [← e]; exact List.mem_cons_of_mem _ hm)) (fun e => n5 (by rw [← e]; exact hm))
  have hp : w5.heap[p]? = w.heap[p]? := hk' p (by simp [Lay.all]) (fun e => n1 (by rw [e]; simp)) (fun e => n1 (by rw [e]; simp))
  have hr : w5.heap[L.br]? = w.heap[L.br]? := hk' _ (by simp [Lay.all]) (fun e => n2 (by rw [e]; simp)) (fun e => n2 (by rw [e]; simp))
  have hs : w5.heap[L.bs]? = w.heap[L.bs]? := hk' _ (by simp [Lay.all]) (fun e => n3 (by rw [e]; simp)) (fun e => n3 (by rw [e]; simp))
  have hs64 := stds_len_le (l := l)
  refine ⟨⟨hok, h.good⟩, h.nodup, hp.trans h.book, h.radars.stab hr, h.stds.stab hs, ⟨c, by simpa using hc, hm⟩, ⟨c', ?_, hm'⟩,
    own_stabT h.order fun g hg => hne g (by simp [optL_mem hg]), own_stabT h.tests fun g hg => hne g (by simp [optL_mem hg]), own_stabT h.entries fun g hg => hne g (by simp [optL_mem hg]), h.knowns.stab fun k h' => hne k (by simp [h']), h.caps.stab fun k h' => hne k ?_⟩
  · rw [List.length_cons, Nat.add_mul, Nat.mul_add]; omega
  · simp only [List.mem_append]
    exact .inr (.inr (.inr (.inr h')))

/-- What the call keeps, and how far it is: base `w`, the three boxes, both maps. -/
structure TurnW (w : World) (L : Lay) (p : Nat) (n : ByteArray) (o : Bool) (f : ByteArray → Bool) (cw B : Nat) (Ds : List Nat) (g : ByteArray → Bool) (m : Nat) (W : World) : Prop where
  kept : Kept (fun k => k < w.heap.size ∧ k ≠ L.bw ∧ k ≠ L.bv) w W
  marks : MarksOK w.heap.size Ds W
  size : B ≤ W.heap.size
  bp : Blk W w.heap.size 37 #[.pointer (some ⟨p, 0, none⟩)]
  bs : Blk W (w.heap.size + 1) 9 #[.string n]
  bo : Blk W (w.heap.size + 1 + 1) 4 #[.bool o]
  wd : MapV W Try.prog 9 L.bw (boolF f) cw
  void : ∃ c, c ≤ m ∧ MapV W Try.prog 9 L.bv (boolF g) c
section
variable {w W W' : World} {L : Lay} {p : Nat} {n : ByteArray} {o : Bool} {f g : ByteArray → Bool} {cw B : Nat} {Ds : List Nat} {m : Nat}
theorem TurnW.grow (h : TurnW w L p n o f cw B Ds g m W) {row : Option Nat} (hg : W.grownBy W' row) (hlw : L.bw < w.heap.size) (hlv : L.bv < w.heap.size) (hr : ∀ k, row = some k → w.heap.size + 3 ≤ k ∧ k ∉ Ds) : TurnW w L p n o f cw B Ds g m W' := by
  have hb : ∀ k, k < w.heap.size + 3 → k < W.heap.size → W'.heap[k]? = W.heap[k]? := fun k hk hl => hg.block k hl fun e => by have := (hr k e.symm).1; omega
  have hsz := h.kept.size
  obtain ⟨c, hc, hv⟩ := h.void
  exact ⟨⟨hg.os.trans h.kept.os, hg.tape.trans h.kept.tape, hg.output.trans h.kept.output, Nat.le_trans hsz hg.size, fun k hk => (hb k (by omega) (by omega)).trans (h.kept.block k hk)⟩,
    h.marks.kept hg fun k e => (hr k e).2, Nat.le_trans h.size hg.size, (hb _ (by omega) h.bp.lt).trans h.bp, (hb _ (by omega) h.bs.lt).trans h.bs, (hb _ (by omega) h.bo.lt).trans h.bo,
    h.wd.stab (hb _ (by omega) h.wd.lt), c, hc, hv.stab (hb _ (by omega) hv.lt)⟩
theorem TurnW.later (h : TurnW w L p n o f cw B Ds g m W) (hb : Below W.heap.size W W') (hlw : L.bw < w.heap.size) (hlv : L.bv < w.heap.size) : TurnW w L p n o f cw B Ds g m W' := h.grow (grown_of_below hb) hlw hlv fun k e => by cases e
theorem TurnW.to (h : TurnW w L p n o f cw B Ds g m W) {B' : Nat} (hB : B' ≤ W.heap.size) : TurnW w L p n o f cw B' Ds g m W := ⟨h.kept, h.marks, hB, h.bp, h.bs, h.bo, h.wd, h.void⟩
theorem TurnW.mark (h : TurnW w L p n o f cw B Ds g m W) {D : Nat} (hn : D ∉ Ds) (hB : w.heap.size ≤ D) (hD : W.heap[D]? = some (.deferred (some []))) : TurnW w L p n o f cw B (D :: Ds) g m W := ⟨h.kept, h.marks.cons hn hB hD, h.size, h.bp, h.bs, h.bo, h.wd, h.void⟩
/-- The map of what is void is turned. -/
theorem TurnW.turned (h : TurnW w L p n o f cw B Ds g m W) (hg : W.grownBy W' (some L.bv)) (hlv : L.bv < w.heap.size) (hne : L.bw ≠ L.bv) {g' : ByteArray → Bool} {m' : Nat} (hv : ∃ c, c ≤ m' ∧ MapV W' Try.prog 9 L.bv (boolF g') c) : TurnW w L p n o f cw B Ds g' m' W' := by
  have hb : ∀ k, k ≠ L.bv → k < W.heap.size → W'.heap[k]? = W.heap[k]? := fun k hk hl => hg.block k hl fun e => hk (Option.some.inj e)
  have hsz := h.kept.size
  exact ⟨⟨hg.os.trans h.kept.os, hg.tape.trans h.kept.tape, hg.output.trans h.kept.output, Nat.le_trans hsz hg.size, fun k hk => (hb k hk.2.2 (by omega)).trans (h.kept.block k hk)⟩,
    h.marks.kept hg fun k e hm => by cases e; have := (h.marks.2 _ hm).1; omega, Nat.le_trans h.size hg.size, (hb _ (by omega) h.bp.lt).trans h.bp, (hb _ (by omega) h.bs.lt).trans h.bs, (hb _ (by omega) h.bo.lt).trans h.bo,
    h.wd.stab (hb _ hne h.wd.lt), hv⟩
theorem TurnW.le (h : TurnW w L p n o f cw B Ds g m W) {m' : Nat} (hm : m ≤ m') : TurnW w L p n o f cw B Ds g m' W := ⟨h.kept, h.marks, h.size, h.bp, h.bs, h.bo, h.wd, by obtain ⟨c, hc, hv⟩ := h.void; exact ⟨c, Nat.le_trans hc hm, hv⟩⟩
theorem TurnW.back (h : TurnW w L p n o f cw B Ds g m W) {B' : Nat} (hB : B' ≤ B) : TurnW w L p n o f cw B' Ds g m W := h.to (Nat.le_trans hB h.size)
theorem TurnW.b0 (h : TurnW w L p n o f cw B Ds g m W) : W.cell? ⟨w.heap.size, 0, none⟩ = some (.pointer (some ⟨p, 0, none⟩)) := h.bp.c 0 rfl
theorem TurnW.n0 (h : TurnW w L p n o f cw B Ds g m W) : W.cell? ⟨w.heap.size + 1, 0, none⟩ = some (.string n) := h.bs.c 0 rfl
theorem TurnW.o0 (h : TurnW w L p n o f cw B Ds g m W) : W.cell? ⟨w.heap.size + 1 + 1, 0, none⟩ = some (.bool o) := h.bo.c 0 rfl
theorem ptr0 {W : World} {g : Nat} {t : TypeId} {a : Option Addr} (h : Blk W g t #[.pointer a]) : W.cell? ⟨g, 0, none⟩ = some (.pointer a) := h.c 0 rfl
/-- The map of what is withdrawn is turned. -/
theorem TurnW.turnedW (h : TurnW w L p n o f cw B Ds g m W) (hg : W.grownBy W' (some L.bw)) (hlw : L.bw < w.heap.size) (hne : L.bw ≠ L.bv) {f' : ByteArray → Bool} {cw' : Nat} (hv : MapV W' Try.prog 9 L.bw (boolF f') cw') : TurnW w L p n o f' cw' B Ds g m W' := by
  have hb : ∀ k, k ≠ L.bw → k < W.heap.size → W'.heap[k]? = W.heap[k]? := fun k hk hl => hg.block k hl fun e => hk (Option.some.inj e)
  have hsz := h.kept.size
  obtain ⟨c, hc, hw⟩ := h.void
  exact ⟨⟨hg.os.trans h.kept.os, hg.tape.trans h.kept.tape, hg.output.trans h.kept.output, Nat.le_trans hsz hg.size, fun k hk => (hb k hk.2.1 (by omega)).trans (h.kept.block k hk)⟩,
    h.marks.kept hg fun k e hm => by cases e; have := (h.marks.2 _ hm).1; omega, Nat.le_trans h.size hg.size, (hb _ (by omega) h.bp.lt).trans h.bp, (hb _ (by omega) h.bs.lt).trans h.bs, (hb _ (by omega) h.bo.lt).trans h.bo,
    hv, c, hc, hw.stab (hb _ (Ne.symm hne) hw.lt)⟩
theorem TurnW.own {β : Type} {g : β → ByteArray → Bool} {m : β → Nat} (hlw : L.bw < w.heap.size) (hlv : L.bv < w.heap.size) (hB : w.heap.size + 3 ≤ B) (hD : ∀ D ∈ Ds, D < B) : OwnFrom B (fun s W => TurnW w L p n o f cw B Ds (g s) (m s) W) :=
  fun s W W' row hs hg hr => hs.grow hg hlw hlv fun k e => ⟨by have := (hr k e).1; omega, fun hm => by have := hD k hm; have := (hr k e).1; omega⟩
/-- The book's own variables, and all else of it but both maps, lie as they lay. -/
theorem TurnW.stab (h : TurnW w L p n o f cw B Ds g m W) {k : Nat} (hk : k < w.heap.size) (h1 : k ≠ L.bw) (h2 : k ≠ L.bv) : W.heap[k]? = w.heap[k]? := h.kept.block k ⟨hk, h1, h2⟩
theorem TurnW.look_wd (h : TurnW w L p n o f cw B Ds g m W) {x : ByteArray} (hn : x.size ≤ maxLen) : (Instr.lookup 95 (.map (some L.bw)) (.string x) false).run Try.prog W = .ok (.bool (f x)) W := by
  have h := h.wd.look (t := 95) (e := 4) Try.underlying9 Try.underlying95 (z := .bool false) (by kernel_rfl) hn
  rw [h]
  unfold boolF
  cases f x <;> rfl
end
/-- The entry is laid: behind a region that draws its order. -/
theorem BookQ.push2 {x : Ent} {l : List Ent} {p : Nat} {L : Lay} {w W : World} (h : BookQ x l p L w) {c : List Nat} (hc : capOk w x c) (hcn : c.Nodup) (hcd : ∀ k ∈ c, k ∉ L.all p) {v : Value}
    (hall : ∀ k, k < w.heap.size → k ≠ p → L.ve.ownBlock ≠ some k → W.heap[k]? = w.heap[k]?) (hbk : Blk W p 98 (bookC { L with ve := v, cb := c :: L.cb }))
    (hown : W.ownsRow 0 106 1 v (l.length + 1) (entRow l L.cb ++ [entF x c])) (hat : v.ownBlock = L.ve.ownBlock ∨ ∃ g, v.ownBlock = some g ∧ w.heap.size ≤ g) :
    BookR (x :: l) p { L with ve := v, cb := c :: L.cb } W := by
  have hlt := h.lt
  have hclt := hc.lt
  have hnd := h.nodup
  rw [(L.perm_rest p).nodup_iff, List.nodup_append] at hnd
  obtain ⟨n1, -, n3⟩ := hnd
  have hrest : ∀ k ∈ L.rest p, k ≠ p → W.heap[k]? = w.heap[k]? := fun k hk hp => hall k (hlt k (mem_all.2 (.inl hk))) hp fun e => n3 k hk k (optL_iff.2 e) rfl
  unfold Lay.rest at n1
  rw [List.nodup_cons] at n1
  have hp : ∀ k ∈ L.br :: L.bs :: L.bw :: L.bv :: (optL L.vo ++ (optL L.vt ++ (L.kb ++ L.cb.flatten))), W.heap[k]? = w.heap[k]? := fun k hk => hrest k (by unfold Lay.rest; exact List.mem_cons_of_mem _ hk) fun e => n1.1 (e ▸ hk)
  obtain ⟨c6, h6a, h6⟩ := h.wd
  obtain ⟨c7, h7a, h7⟩ := h.void
  have hcd' : ∀ k ∈ c, W.heap[k]? = w.heap[k]? := fun k hk => hall k (hclt k hk) (fun e => hcd k hk (mem_all.2 (.inl (by rw [e]; simp [Lay.rest])))) fun e => hcd k hk (mem_all.2 (.inr e))
  refine ⟨h.good, nodup_push h.nodup hlt hcn (fun k hk => ⟨hcd k hk, hclt k hk⟩) hat, hbk, h.radars.stab (hp _ (by simp)), h.stds.stab (hp _ (by simp)), ⟨c6, h6a, h6.stab (hp _ (by simp))⟩, ⟨c7, h7a, h7.stab (hp _ (by simp))⟩,
    own_stabT h.order fun g hg' => hp g (by simp [optL_mem hg']), own_stabT h.tests fun g hg' => hp g (by simp [optL_mem hg']), hown, h.knowns.stab fun k h' => hp k (by simp [h']), ?_⟩
  exact ⟨hc.stab hcd', h.caps.stab fun k h' => hp k (by simp only [List.mem_cons, List.mem_append]; exact .inr (.inr (.inr (.inr (.inr (.inr (.inr h')))))))⟩
end Go.Proofs.Ytiggefmckomilaa
namespace Go.Proofs.Ytiggefmckomilaa
open Go Go.RowKit

def deleteB (c : Callee) : Bool := match c with | .builtin .delete => true | _ => false
def isMapDel (o : Option Oper) (t k : TypeId) (p q : Tmp) : Bool := match o with
  | some ⟨none, .call c, _, _, _, none⟩ => deleteB c.callee && (c.args.size == 2 && tmpAt c.args[0]? p && tmpAt c.args[1]? q) && c.argTypes == #[t, k]
  | _ => false
theorem isMapDel_spec {o : Option Oper} {t k : TypeId} {p q : Tmp} (h : isMapDel o t k p q = true) : ∃ ty pos aft, o = some ⟨none, .call { callee := .builtin .delete, args := #[.tmp p, .tmp q], argTypes := #[t, k] }, ty, pos, aft, none⟩ := by
  unfold isMapDel at h
  split at h
  · rename_i c ty pos aft
    simp only [Bool.and_eq_true, beq_iff_eq] at h
    obtain ⟨⟨h1, ⟨h2, h3⟩, h4⟩, h5⟩ := h
    obtain ⟨ce, av, ts⟩ := c
    simp only at h1 h2 h3 h4 h5
    have e1 : ce = .builtin .delete := by
      unfold deleteB at h1
      split at h1
      · rfl
      · cases h1
    have e2 : av = #[.tmp p, .tmp q] := by
      have a0 := tmpAt_spec h3
      have a1 := tmpAt_spec h4
      obtain ⟨l⟩ := av
      match l, h2, a0, a1 with
      | [x, y], _, a0, a1 =>
        simp at a0 a1
        rw [a0, a1]
    exact ⟨ty, pos, aft, by rw [e1, e2, h5]⟩
  · cases h
def isTrue (o : Operand) : Bool := match o with | .const (.bool b) => b | _ => false
theorem isTrue_spec {o : Operand} (h : isTrue o = true) : o = .const (.bool true) := by
  unfold isTrue at h
  split at h
  · rw [h]
  · cases h
def isMapTrue (o : Option Oper) (t : TypeId) (m x : Tmp) : Bool := match o with
  | some ⟨none, .mapUpdate t' (.tmp m') (.tmp x') v, _, _, _, none⟩ => t' == t && m' == m && x' == x && isTrue v
  | _ => false
theorem isMapTrue_spec {o : Option Oper} {t : TypeId} {m x : Tmp} (h : isMapTrue o t m x = true) : ∃ ty pos aft, o = some ⟨none, .mapUpdate t (.tmp m) (.tmp x) (.const (.bool true)), ty, pos, aft, none⟩ := by
  unfold isMapTrue at h
  split at h
  · simp only [Bool.and_eq_true, beq_iff_eq] at h
    obtain ⟨⟨⟨rfl, rfl⟩, rfl⟩, h4⟩ := h
    rw [isTrue_spec h4]
    exact ⟨_, _, _, rfl⟩
  · cases h
section
variable {P : Program} {lops : List Oper} {an : List (List Nat)} {m1 m2 : List Bool} {st : List St} {w0 : World} {a0 : Act} {af : (Nat → Par) → Act} {shape : Nat → Par → Value} {wr : Nat → Nat → Prop} {R : Nat → (Nat → Par) → (Nat → Prop) → World → Prop} {s : St} {o : Oper}
/-- An entry of a map that was there is deleted. -/
theorem obl_mapDel (t k e : TypeId) (m x : Tmp) (b c : Nat) (f : ByteArray → Option Value) (key : ByteArray) (hs : isMapDel lops[s.i]? t k m x = true)
    (hm : ∀ (y : Nat → Par), (af y).tmps.getD m undef = .map (some b)) (hx : ∀ (y : Nat → Par), (af y).tmps.getD x undef = .string key)
    (hk : P.underlying k = some .string) (ht : P.underlying t = some (.map k e)) (hsz : key.size ≤ maxLen) (hb0 : MapV w0 P k b f c) (hE : Eb an st wr s.i b) (hwr : wr s.i b) (hsh : ∀ y, shape s.i y = .tuple #[])
    (hR : ∀ (x : Nat → Par) (F : Nat → Prop) (w : World) (y : Par), F b → MapV w P k b (delF f key) (if (f key).isSome then c - 1 else c) → R s.i (upd x s.i y) F w) : Obl P lops an st wr w0 af shape R s := by
  intro y w F hkk hn
  cases ho' : lops[s.i]? with
  | none => rw [ho'] at hs; simp [isMapDel] at hs
  | some o =>
    rw [ho'] at hs
    obtain ⟨ty, pos, aft, heq⟩ := isMapDel_spec hs
    have e1 := Option.some.inj heq
    subst e1
    have hb : MapV w P k b f c := hb0.stab (hkk.block b ⟨hb0.lt, hE⟩)
    obtain ⟨w', hrun, hm', htn⟩ := hb.drop hk ht hsz ty
    have g := htn.grown
    refine ⟨_, rfl, by simp [Region.wanted], hrun_value (v := .tuple #[]) (w' := w') ?_ ?_⟩
    · simp only [execOp, resolve, invoke, builtin, Sem.run_bind, Sem.run_pure, Result.andThen_ok, List.map_toArray, List.map_cons, List.map_nil, Act.eval, hm y, hx y, hrun]
    · refine ⟨fun _ => (none, 0), fun k => k = b, (hsh _).symm, ⟨g.os, g.tape, g.output, g.size, fun q hq => g.block q hq.1 fun e => hq.2 (.inl (by have : q = b := Option.some.inj e; rw [this]; exact hwr))⟩, fun q hq => ?_, hR y _ _ _ rfl hm'⟩
      subst hq
      exact ⟨Nat.lt_of_lt_of_le hb.lt g.size, .inr (.inl hwr)⟩
/-- 'true' is stored into a map that was there. -/
theorem obl_mapTrue (t k e : TypeId) (m x : Tmp) (b c : Nat) (f : ByteArray → Option Value) (key : ByteArray) (hs : isMapTrue lops[s.i]? t m x = true)
    (hm : ∀ (y : Nat → Par), (af y).tmps.getD m undef = .map (some b)) (hx : ∀ (y : Nat → Par), (af y).tmps.getD x undef = .string key)
    (hk : P.underlying k = some .string) (ht : P.underlying t = some (.map k e)) (hc : c < maxLen) (hsz : key.size ≤ maxLen) (hb0 : MapV w0 P k b f c) (hE : Eb an st wr s.i b) (hwr : wr s.i b) (hsh : ∀ y, shape s.i y = undef)
    (hR : ∀ (x : Nat → Par) (F : Nat → Prop) (w : World) (y : Par), F b → MapV w P k b (putF f key (.bool true)) (if (f key).isSome then c else c + 1) → R s.i (upd x s.i y) F w) : Obl P lops an st wr w0 af shape R s := by
  intro y w F hkk hn
  cases ho' : lops[s.i]? with
  | none => rw [ho'] at hs; simp [isMapTrue] at hs
  | some o =>
    rw [ho'] at hs
    obtain ⟨ty, pos, aft, heq⟩ := isMapTrue_spec hs
    have e1 := Option.some.inj heq
    subst e1
    have hb : MapV w P k b f c := hb0.stab (hkk.block b ⟨hb0.lt, hE⟩)
    obtain ⟨w', hrun, hm', htn⟩ := hb.store hk ht hc hsz (.bool true)
    have g := htn.grown
    refine ⟨_, rfl, by simp [Region.wanted], hrun_skip (w' := w') (by simp [execOp, Act.eval, hm y, hx y, hrun, Result.andThen]) ?_⟩
    refine ⟨fun _ => (none, 0), fun k => k = b, (hsh _).symm, ⟨g.os, g.tape, g.output, g.size, fun q hq => g.block q hq.1 fun e => hq.2 (.inl (by have : q = b := Option.some.inj e; rw [this]; exact hwr))⟩, fun q hq => ?_, hR y _ _ _ rfl hm'⟩
    subst hq
    exact ⟨Nat.lt_of_lt_of_le hb.lt g.size, .inr (.inl hwr)⟩
end
end Go.Proofs.Ytiggefmckomilaa
