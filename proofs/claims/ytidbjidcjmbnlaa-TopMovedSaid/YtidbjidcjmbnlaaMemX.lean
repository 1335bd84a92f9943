/-
  Several things side by side in memory: rows of one's own, variables (any program). A step on one of them leaves the others as they are.
  More of the record of things side by side in memory; an append of a row that may be nil. Over any program.
-/
import Derived.Test.YtidbjidcjmbnlaaRegC
import Derived.Test.YtidbjidcjmbnlaaRegY
import Derived.Test.YtidbjidcjmbnlaaTmCount
import Derived.Maps.AppendAt
import Derived.BigQuiet
import Derived.Deep.Cut
set_option linter.unusedSimpArgs false
set_option linter.unusedVariables false
section
namespace Go.Proofs.Ytidbjidcjmbnlaa
open Go Go.RowKit

def optL (v : Value) : List Nat := v.ownBlock.toList
theorem optL_mem {v : Value} {g : Nat} (h : v.ownBlock = some g) : g ∈ optL v := by unfold optL; rw [h]; simp
theorem own_stabT {w w' : World} {base : Nat} {e : TypeId} {size n : Nat} {v : Value} {xs : List Value} (h : w.ownsRow base e size v n xs) (hk : ∀ g, v.ownBlock = some g → w'.heap[g]? = w.heap[g]?) : w'.ownsRow base e size v n xs := by
  refine ⟨h.1, ?_⟩
  rcases h.2 with h0 | ⟨g, cap, cur, hv, hb, hg, r⟩
  · exact .inl h0
  · refine .inr ⟨g, cap, cur, hv, hb, ?_, r⟩
    rw [hk g (by rw [hv]; rfl)]; exact hg
theorem own_ltT {w : World} {base : Nat} {e : TypeId} {size n k : Nat} {v : Value} {xs : List Value} (h : w.ownsRow base e size v n xs) (hk : k ∈ optL v) : k < w.heap.size := by
  unfold optL at hk
  cases hv : v.ownBlock with
  | none => rw [hv] at hk; simp at hk
  | some g => rw [hv] at hk; simp at hk; subst hk; exact (h.lt _ hv).2
theorem optL_iff {v : Value} {g : Nat} : g ∈ optL v ↔ v.ownBlock = some g := by
  unfold optL
  cases v.ownBlock <;> simp [eq_comm]
theorem optL_nodup (v : Value) : (optL v).Nodup := by unfold optL; cases v.ownBlock <;> simp
theorem row_blk {w : World} {base : Nat} {e : TypeId} {size n c : Nat} {A : Option Addr} {xs : List Value} (h : w.ownsRow base e size (.slice A n c) n xs) (hn : 0 < n) :
    ∃ b cur, A = some ⟨b, 0, none⟩ ∧ base ≤ b ∧ Blk w b e cur ∧ n ≤ c ∧ c ≤ maxLen ∧ ∀ (i : Nat) (u : Value), xs[i]? = some u → cur[i]? = some u := by
  rcases h.2 with ⟨hv, h1⟩ | ⟨g, cap, cur, hv, hb, hg, h3, h4, h5, h6⟩
  · omega
  · injection hv with e1 e2 e3
    subst e1
    subst e3
    refine ⟨g, cur, rfl, hb, hg, h3, h4, fun i u hu => ?_⟩
    rw [← h6, List.getElem?_take] at hu
    split at hu
    · simpa using hu
    · cases hu
theorem ret_world {P : Program} {f : Func} {Post : Ending → World → Prop} {e : Exit} {a : Act} {w : World} (h : ∀ W, W = w → bodyPost P f Post e a W) : bodyPost P f Post e a w := h w rfl
inductive Th where
  | row (base : Nat) (e : TypeId) (size : Nat) (v : Value) (n : Nat) (xs : List Value)
  | blk (g : Nat) (t : TypeId) (cs : Array Value)
  | raw (k : Nat) (o : Obj)
  | one (g : Nat) (R : World → Prop) (hl : ∀ W, R W → g < W.heap.size) (hs : ∀ W W' : World, R W → W'.heap[g]? = W.heap[g]? → R W')
/-- The blocks of a thing, and that it lies so. -/
def Th.fp : Th → List Nat
  | .row _ _ _ v _ _ => optL v
  | .blk g _ _ => [g]
  | .raw k _ => [k]
  | .one g _ _ _ => [g]
def Th.ok (W : World) : Th → Prop
  | .row base e size v n xs => W.ownsRow base e size v n xs
  | .blk g t cs => Blk W g t cs
  | .raw k o => W.heap[k]? = some o
  | .one _ R _ _ => R W
def fps (ts : List Th) : List Nat := ts.flatMap Th.fp
theorem fps_cons (x : Th) (a : List Th) : fps (x :: a) = x.fp ++ fps a := rfl
theorem Th.lt {W : World} {t : Th} (h : t.ok W) : ∀ k ∈ t.fp, k < W.heap.size := by
  cases t with
  | row base e size v n xs => exact fun k hk => own_ltT h hk
  | blk g t cs => exact fun k hk => by rw [List.mem_singleton.1 hk]; exact Blk.lt h
  | raw g o => exact fun k hk => by rw [List.mem_singleton.1 hk]; exact (Array.getElem?_eq_some_iff.1 h).1
  | one g R hl hs => exact fun k hk => by rw [List.mem_singleton.1 hk]; exact hl _ h
theorem Th.stab {W W' : World} {t : Th} (h : t.ok W) (hk : ∀ k ∈ t.fp, W'.heap[k]? = W.heap[k]?) : t.ok W' := by
  cases t with
  | row base e size v n xs => exact own_stabT h fun g hg => hk g (optL_mem hg)
  | blk g t cs => exact (hk g (List.mem_singleton.2 rfl)).trans h
  | raw g o => exact (hk g (List.mem_singleton.2 rfl)).trans h
  | one g R hl hs => exact hs _ _ h (hk g (List.mem_singleton.2 rfl))
theorem Th.nodup {W : World} {t : Th} (h : t.ok W) : t.fp.Nodup := by
  cases t with
  | row base e size v n xs => exact optL_nodup v
  | blk g t cs => exact List.nodup_cons.2 ⟨List.not_mem_nil, List.nodup_nil⟩
  | raw g o => exact List.nodup_cons.2 ⟨List.not_mem_nil, List.nodup_nil⟩
  | one g R hl hs => exact List.nodup_cons.2 ⟨List.not_mem_nil, List.nodup_nil⟩
/-- What lies in memory that was made behind `w0`. -/
structure Mem (w0 : World) (ts : List Th) (W : World) : Prop where
  all : ∀ t ∈ ts, t.ok W
  nodup : (fps ts).Nodup
  low : ∀ k ∈ fps ts, w0.heap.size ≤ k
  below : Below w0.heap.size w0 W

section
variable {w0 W W' : World} {ts : List Th} {t t' : Th} {i : Nat}
theorem Mem.start (w : World) : Mem w [] w := ⟨fun _ h => absurd h List.not_mem_nil, List.nodup_nil, fun _ h => absurd h List.not_mem_nil, Below.refl _ _⟩
theorem Mem.lt (h : Mem w0 ts W) : ∀ k ∈ fps ts, k < W.heap.size := fun k hk => by
  obtain ⟨b, hb, hk⟩ := List.mem_flatMap.1 hk
  exact Th.lt (h.all b hb) k hk
theorem Mem.size (h : Mem w0 ts W) : w0.heap.size ≤ W.heap.size := h.below.size
theorem Mem.later (h : Mem w0 ts W) (hb : Below W.heap.size W W') : Mem w0 ts W' :=
  ⟨fun t hm => Th.stab (h.all t hm) fun k hk => hb.block k (Th.lt (h.all t hm) k hk), h.nodup, h.low, h.below.trans (Below.mono hb h.size)⟩
theorem Mem.get (h : Mem w0 ts W) (i : Nat) (hi : ts[i]? = some t) : t.ok W := h.all t (List.mem_of_getElem? hi)
theorem fps_mem {k : Nat} (hi : ts[i]? = some t) : k ∈ fps ts ↔ k ∈ t.fp ∨ k ∈ fps (ts.eraseIdx i) := by
  induction ts generalizing i with
  | nil => simp at hi
  | cons x l ih =>
    cases i with
    | zero => simp at hi; subst hi; rw [fps_cons, List.mem_append, List.eraseIdx_zero]; rfl
    | succ i =>
      rw [List.getElem?_cons_succ] at hi
      rw [fps_cons, List.mem_append, ih hi, List.eraseIdx_cons_succ, fps_cons, List.mem_append]
      constructor
      · rintro (h | h | h)
        · exact .inr (.inl h)
        · exact .inl h
        · exact .inr (.inr h)
      · rintro (h | h | h)
        · exact .inr (.inl h)
        · exact .inl h
        · exact .inr (.inr h)
theorem fps_nodup (hi : ts[i]? = some t) : (fps ts).Nodup ↔ (t.fp ++ fps (ts.eraseIdx i)).Nodup := by
  refine List.Perm.nodup_iff ?_
  induction ts generalizing i with
  | nil => simp at hi
  | cons x l ih =>
    cases i with
    | zero => simp at hi; subst hi; exact List.Perm.refl _
    | succ i =>
      rw [List.getElem?_cons_succ] at hi
      rw [List.eraseIdx_cons_succ, fps_cons, fps_cons]
      refine (List.Perm.append_left _ (ih hi)).trans ?_
      rw [← List.append_assoc, ← List.append_assoc]
      exact List.Perm.append_right _ List.perm_append_comm
theorem set_get (hi : ts[i]? = some t) : (ts.set i t')[i]? = some t' := List.getElem?_set_self (List.getElem?_eq_some_iff.1 hi).1
theorem set_erase : (ts.set i t').eraseIdx i = ts.eraseIdx i := by
  induction ts generalizing i with
  | nil => rfl
  | cons x l ih =>
    cases i with
    | zero => rfl
    | succ i => rw [List.set_cons_succ, List.eraseIdx_cons_succ, List.eraseIdx_cons_succ, ih]
theorem mem_erase {x : Th} {k : Nat} (hx : x ∈ ts.eraseIdx i) (hk : k ∈ x.fp) : k ∈ fps (ts.eraseIdx i) := List.mem_flatMap.2 ⟨x, hx, hk⟩
theorem mem_get (hi : ts[i]? = some t) {x : Th} : x ∈ ts → x = t ∨ x ∈ ts.eraseIdx i := by
  induction ts generalizing i with
  | nil => intro h; cases h
  | cons y l ih =>
    intro h
    cases i with
    | zero =>
      simp at hi; subst hi
      rw [List.eraseIdx_zero]
      exact List.mem_cons.1 h
    | succ i =>
      rw [List.getElem?_cons_succ] at hi
      rw [List.eraseIdx_cons_succ]
      rcases List.mem_cons.1 h with rfl | h
      · exact .inr List.mem_cons_self
      · rcases ih hi h with h | h
        · exact .inl h
        · exact .inr (List.mem_cons_of_mem _ h)
/-- One of the things is turned. -/
theorem Mem.step (h : Mem w0 ts W) (i : Nat) (hi : ts[i]? = some t) (hok : t'.ok W') (hk : Kept (fun k => k < W.heap.size ∧ k ∉ t.fp) W W') (hn : ∀ k ∈ t'.fp, k ∈ t.fp ∨ W.heap.size ≤ k) : Mem w0 (ts.set i t') W' := by
  have hnd := (fps_nodup hi).1 h.nodup
  have hlt := h.lt
  have hsz := h.size
  rw [List.nodup_append] at hnd
  obtain ⟨n1, n2, n3⟩ := hnd
  have hi' := set_get (t' := t') hi
  refine ⟨fun x hx => ?_, ?_, fun k hk' => ?_, ?_⟩
  · rcases mem_get hi' hx with rfl | hx
    · exact hok
    · rw [set_erase] at hx
      have hxt := h.all x (List.mem_of_mem_eraseIdx hx)
      exact Th.stab hxt fun k hk' => hk.block k ⟨Th.lt hxt k hk', fun hm => n3 k hm k (mem_erase hx hk') rfl⟩
  · rw [fps_nodup hi', set_erase, List.nodup_append]
    refine ⟨Th.nodup hok, n2, fun a ha b hb e => ?_⟩
    subst e
    rcases hn a ha with h1 | h1
    · exact n3 a h1 a hb rfl
    · have := hlt a ((fps_mem hi).2 (.inr hb)); omega
  · rcases (fps_mem hi').1 hk' with h1 | h1
    · rcases hn k h1 with h2 | h2
      · exact h.low k ((fps_mem hi).2 (.inl h2))
      · omega
    · rw [set_erase] at h1
      exact h.low k ((fps_mem hi).2 (.inr h1))
  · refine h.below.trans ⟨hk.os, hk.tape, hk.output, hk.size, fun k hk' => hk.block k ⟨by omega, fun hm => ?_⟩⟩
    have := h.low k ((fps_mem hi).2 (.inl hm)); omega
/-- A new thing. -/
theorem Mem.add (h : Mem w0 ts W) (hb : Below W.heap.size W W') (hok : t.ok W') (hn : ∀ k ∈ t.fp, W.heap.size ≤ k) : Mem w0 (t :: ts) W' := by
  have hlt := h.lt
  have hsz := h.size
  have h' := h.later hb
  refine ⟨fun x hx => ?_, ?_, fun k hk => ?_, h'.below⟩
  · rcases List.mem_cons.1 hx with rfl | hx
    · exact hok
    · exact h'.all x hx
  · rw [fps_cons, List.nodup_append]
    exact ⟨Th.nodup hok, h.nodup, fun a ha b hb' e => by subst e; have := hn a ha; have := hlt a hb'; omega⟩
  · rw [fps_cons] at hk
    rcases List.mem_append.1 hk with h1 | h1
    · have := hn k h1; omega
    · exact h.low k h1
theorem Mem.alloc (h : Mem w0 ts W) (cs : Array Value) (e : TypeId) : Mem w0 (.blk W.heap.size e cs :: ts) (W.alloc (.cells cs e)) :=
  h.add ((Below.refl _ _).alloc (Nat.le_refl _) _) (show Blk _ _ _ _ from Blk.new _ _ _) (fun k hk => by rw [List.mem_singleton.1 hk]; exact Nat.le_refl _)
theorem Mem.allocAt (h : Mem w0 ts W) (g : Nat) (hg : g = W.heap.size) (cs : Array Value) (e : TypeId) : Mem w0 (.blk g e cs :: ts) (W.alloc (.cells cs e)) := by subst hg; exact h.alloc cs e
theorem Mem.nilRow (h : Mem w0 ts W) (base : Nat) (e : TypeId) (size : Nat) : Mem w0 (.row base e size (.slice none 0 0) 0 [] :: ts) W :=
  h.add (Below.refl _ _) (show World.ownsRow _ _ _ _ _ _ _ from World.ownsRow_nil _ _ _ _) (fun k hk => by simp [Th.fp, optL, Value.ownBlock] at hk)
theorem Mem.drop (h : Mem w0 ts W) (i : Nat) (hi : ts[i]? = some t) : Mem w0 (ts.eraseIdx i) W :=
  ⟨fun x hx => h.all x (List.mem_of_mem_eraseIdx hx), (List.nodup_append.1 ((fps_nodup hi).1 h.nodup)).2.1, fun k hk => h.low k ((fps_mem hi).2 (.inr hk)), h.below⟩
theorem Mem.tail (h : Mem w0 (t :: ts) W) : Mem w0 ts W := h.drop 0 rfl
/-- A cell of a variable is stored. -/
theorem Mem.set_ {g : Nat} {e : TypeId} {cs : Array Value} (h : Mem w0 ts W) (i : Nat) (hi : ts[i]? = some (.blk g e cs)) (o : Nat) (v : Value) {cs' : Array Value} (hc : cs.setIfInBounds o v = cs') : Mem w0 (ts.set i (.blk g e cs')) (W.setCell ⟨g, o, none⟩ v) := by
  subst hc
  have hb : Blk W g e cs := h.get i hi
  refine h.step i hi (show Blk _ _ _ _ from hb.set_ o v) ⟨rfl, rfl, rfl, by simp, fun k hk => Below.heap_setCell W ⟨g, o, none⟩ v k (fun e => hk.2 (List.mem_singleton.2 e))⟩ (fun k hk => .inl hk)
/-- A row grows. -/
theorem Mem.grow {base : Nat} {e : TypeId} {size n n' : Nat} {v v' : Value} {xs xs' : List Value} (h : Mem w0 ts W) (i : Nat) (hi : ts[i]? = some (.row base e size v n xs)) (o : Obj) (hg : (W.alloc o).grownBy W' v.ownBlock)
    (hown : W'.ownsRow base e size v' n' xs') (hat : v'.ownBlock = v.ownBlock ∨ v'.ownBlock = some (W.heap.size + 1)) : Mem w0 (ts.set i (.row base e size v' n' xs')) W' := by
  have hsz : W.heap.size + 1 ≤ W'.heap.size := by have := hg.size; simp at this; omega
  refine h.step i hi (show World.ownsRow _ _ _ _ _ _ _ from hown) ⟨hg.os, hg.tape, hg.output, by omega, fun k hk => ?_⟩ (fun k hk => ?_)
  · refine (hg.block k (by simp; omega) fun e => hk.2 (optL_mem ?_)).trans (Below.heap_alloc W o k hk.1)
    first | exact e | exact e.symm
  · have hk' := optL_iff.1 hk
    rcases hat with h1 | h1
    · exact .inl (optL_iff.2 (by rw [← h1]; exact hk'))
    · rw [h1] at hk'
      have := Option.some.inj hk'
      exact .inr (by omega)
theorem Mem.row_ {base : Nat} {e : TypeId} {size n : Nat} {v : Value} {xs : List Value} (h : Mem w0 ts W) (i : Nat) (hi : ts[i]? = some (.row base e size v n xs)) : W.ownsRow base e size v n xs := h.get i hi
theorem Mem.blk_ {g : Nat} {e : TypeId} {cs : Array Value} (h : Mem w0 ts W) (i : Nat) (hi : ts[i]? = some (.blk g e cs)) : Blk W g e cs := h.get i hi
theorem Mem.apart (h : Mem w0 ts W) (i j : Nat) (hi : ts[i]? = some t) (hj : ts[j]? = some t') (hij : i ≠ j) : ∀ k ∈ t.fp, k ∉ t'.fp := fun k hk hk' => by
  have hnd := (fps_nodup hi).1 h.nodup
  rw [List.nodup_append] at hnd
  have hm : t' ∈ ts.eraseIdx i := by
    rw [List.mem_eraseIdx_iff_getElem?]
    exact ⟨j, Ne.symm hij, hj⟩
  exact hnd.2.2 k hk k (mem_erase hm hk') rfl
/-- Two variables are not one. -/
theorem Mem.ne {g g' : Nat} {e e' : TypeId} {cs cs' : Array Value} (h : Mem w0 ts W) (i j : Nat) (hi : ts[i]? = some (.blk g e cs)) (hj : ts[j]? = some (.blk g' e' cs')) (hij : i ≠ j) : g ≠ g' := fun e => h.apart i j hi hj hij g (List.mem_singleton.2 rfl) (List.mem_singleton.2 e)
/-- Behind a region that has filled one variable. -/
theorem Mem.filled {g : Nat} {e : TypeId} {cs cs' : Array Value} {fl : List (Nat × Nat)} (h : Mem w0 ts W) (i : Nat) (hi : ts[i]? = some (.blk g e cs)) (hk : Kept (fun k => k < W.heap.size ∧ free fl k) W W') (hfl : ∀ q ∈ fl, q.2 = g) (hb : Blk W' g e cs') : Mem w0 (ts.set i (.blk g e cs')) W' :=
  h.step i hi (show Blk _ _ _ _ from hb) ⟨hk.os, hk.tape, hk.output, hk.size, fun k hk' => hk.block k ⟨hk'.1, fun q hq e => hk'.2 (List.mem_singleton.2 ((hfl q hq ▸ e : g = k).symm))⟩⟩ (fun k hk' => .inl hk')
theorem Mem.perm {ts' : List Th} (h : Mem w0 ts W) (hp : ts.Perm ts') : Mem w0 ts' W :=
  ⟨fun t ht => h.all t (hp.mem_iff.2 ht), ((hp.flatMap_right Th.fp).nodup_iff).1 h.nodup, fun k hk => h.low k (((hp.flatMap_right Th.fp).mem_iff).2 hk), h.below⟩
theorem Mem.to (h : Mem w0 ts W') (e : W = W') : Mem w0 ts W := e ▸ h
end
theorem Mem.lowRow {w0 W : World} {ts : List Th} {base base' size n : Nat} {e : TypeId} {v : Value} {xs : List Value} (h : Mem w0 ts W) (i : Nat) (hi : ts[i]? = some (.row base e size v n xs)) (hb : base' ≤ base) : Mem w0 (ts.set i (.row base' e size v n xs)) W :=
  h.step i hi (show World.ownsRow _ _ _ _ _ _ _ from own_mono (h.row_ i hi) hb) ⟨rfl, rfl, rfl, Nat.le_refl _, fun _ _ => rfl⟩ (fun k hk => .inl hk)
theorem Mem.joinL {w0 W W' : World} {ts ts' : List Th} (h : Mem w0 ts W) (h' : Mem W ts' W') : Mem w0 (ts' ++ ts) W' := by
  have hl := h.later h'.below
  refine ⟨fun t ht => ?_, ?_, fun k hk => ?_, hl.below⟩
  · rcases List.mem_append.1 ht with h1 | h1
    · exact h'.all t h1
    · exact hl.all t h1
  · unfold fps
    rw [List.flatMap_append, List.nodup_append]
    exact ⟨h'.nodup, h.nodup, fun a ha b hb e => by subst e; have := h'.low a ha; have := h.lt a hb; omega⟩
  · unfold fps at hk
    rw [List.flatMap_append] at hk
    rcases List.mem_append.1 hk with h1 | h1
    · have := h'.low k h1; have := h.size; omega
    · exact h.low k h1
end Go.Proofs.Ytidbjidcjmbnlaa
end
section
set_option linter.unusedSectionVars false
namespace Go.Proofs.Ytidbjidcjmbnlaa
open Go Go.RowKit

theorem Mem.grown_ {w0 W W' : World} {ts : List Th} {base : Nat} {e : TypeId} {size n n' : Nat} {v v' : Value} {xs xs' : List Value} (h : Mem w0 ts W) (i : Nat) (hi : ts[i]? = some (.row base e size v n xs)) (hg : W.grownBy W' v.ownBlock)
    (hown : W'.ownsRow base e size v' n' xs') (hat : v'.ownBlock = v.ownBlock ∨ v'.ownBlock = some W.heap.size) : Mem w0 (ts.set i (.row base e size v' n' xs')) W' := by
  refine h.step i hi (show World.ownsRow _ _ _ _ _ _ _ from hown) ⟨hg.os, hg.tape, hg.output, hg.size, fun k hk => ?_⟩ (fun k hk => ?_)
  · refine hg.block k hk.1 fun e => hk.2 (optL_mem ?_)
    first | exact e | exact e.symm
  · have hk' := optL_iff.1 hk
    rcases hat with h1 | h1
    · exact .inl (optL_iff.2 (by rw [← h1]; exact hk'))
    · rw [h1] at hk'
      have := Option.some.inj hk'
      exact .inr (by omega)
theorem Mem.called {w0 W W' : World} {ts : List Th} {e : TypeId} {size n : Nat} {v : Value} {xs : List Value} (h : Mem w0 ts W) (hb : Below W.heap.size W W') (ho : W'.ownsRow W.heap.size e size v n xs) : Mem w0 (.row W.heap.size e size v n xs :: ts) W' :=
  h.add hb ho fun k hk => (ho.lt k (optL_iff.1 hk)).1
theorem Mem.asRow {w0 W : World} {ts : List Th} {g n size base : Nat} {e : TypeId} {cs : Array Value} (h : Mem w0 ts W) (i : Nat) (hi : ts[i]? = some (.blk g e cs)) (hs : cs.size = n * size) (hn : n ≤ maxLen) (hb : base ≤ g) : Mem w0 (ts.set i (.row base e size (.slice (some ⟨g, 0, none⟩) n n) n cs.toList)) W :=
  h.step i hi (show World.ownsRow _ _ _ _ _ _ _ from ⟨by rw [← hs]; exact Array.length_toList, .inr ⟨g, n, cs, rfl, hb, h.blk_ i hi, Nat.le_refl _, hn, hs, by rw [← hs]; exact List.take_of_length_le (by simp)⟩⟩) ⟨rfl, rfl, rfl, Nat.le_refl _, fun _ _ => rfl⟩ (fun k hk => .inl hk)
section
variable {P : Program} {w : World}
theorem src_own {base size n c : Nat} {e : TypeId} {A : Option Addr} {xs : List Value} (h : w.ownsRow base e size (.slice A n c) n xs) : Src w A n c xs := by
  rcases h.2 with ⟨hv, h0⟩ | ⟨g, cap, cur, hv, -, hg, h3, h4, h5, h6⟩
  · injection hv with e1 e2 e3
    subst e1 e3
    have h1 := h.1
    rw [h0, Nat.zero_mul] at h1
    exact .inl ⟨rfl, h0, rfl, List.eq_nil_of_length_eq_zero h1⟩
  · injection hv with e1 e2 e3
    subst e1
    refine .inr ⟨_, rfl, fun j u hu => ?_⟩
    have hb : Blk w g e cur := hg
    rw [show (⟨g, 0, none⟩ : Addr).add j = ⟨g, j, none⟩ by unfold Addr.add; split <;> simp_all]
    rw [← h6, List.getElem?_take] at hu
    split at hu
    · exact hb.c _ (by simpa using hu)
    · cases hu
theorem wpList_append_srcN {ops : Array Oper} {rest : List Oper} {o : Oper} {a : Act} {Q : Exit → Act → World → Prop} (hgd : o.guard = none) (s x : Operand) (t : TypeId)
    (ho : o.op = .call { callee := .builtin .append, args := #[s, x], argTypes := #[t, t] })
    (base : Nat) (e : TypeId) (i : TypeInfo) (z : Value) (size bytes : Nat) (ht : P.underlying t = some (.slice e)) (hi : P.info? e = some i) (hz : i.zero = some z)
    (hsize : i.size = size) (hby : i.bytes = bytes) (hzs : z.cells.size = size) (hsz : 0 < size)
    (v : Value) (n : Nat) (xs : List Value) (hs : a.eval s = v) (hown : w.ownsRow base e size v n xs)
    (A : Option Addr) (m c : Nat) (news : List Value) (hx : a.eval x = .slice A m c) (hsrc : Src w A m c news) (hl : news.length = m * size) (h1 : ∀ u ∈ news, u.oneCell' = true)
    (h63 : n + m ≤ maxLen) (hbytes : (n + m) * bytes ≤ 140737488355328) (hbase : base ≤ w.heap.size)
    (h : ∀ v' w', w'.ownsRow base e size v' (n + m) (xs ++ news) → w.grownBy w' v.ownBlock → (v'.ownBlock = v.ownBlock ∨ v'.ownBlock = some w.heap.size) → wpList P ops Q rest (a.put o.dst v') w') :
    wpList P ops Q (o :: rest) a w := by
  refine wpList_plain hgd fun K hK => ?_
  rcases hsrc with ⟨rfl, rfl, rfl, rfl⟩ | ⟨ad, rfl, hnews⟩
  · have hr := run_append_owned_none (P := P) (w := w) base t o.type e i size ht hi v n xs hown
    unfold Oper.wp execOp
    simp only [ho, resolve, invoke, builtin, Sem.run_bind, Sem.run_pure, Result.andThen_ok, List.map_toArray, List.map_cons, List.map_nil, hs, hx, hr]
    exact hK _ _ (h v w (by simpa using hown) ⟨rfl, rfl, rfl, Nat.le_refl _, fun _ _ _ => rfl⟩ (.inl rfl))
  · obtain ⟨v', w', hr, h2, h3, h4, h5⟩ := run_append_own_at (P := P) w base t o.type e i z size bytes ht hi hz hsize hby hzs hsz v n xs hown ad m c news hl hnews h1 h63 hbytes hbase
    unfold Oper.wp execOp
    simp only [ho, resolve, invoke, builtin, Sem.run_bind, Sem.run_pure, Result.andThen_ok, List.map_toArray, List.map_cons, List.map_nil, hs, hx, hr]
    exact hK _ _ (h v' w' h2 h3 h5)
end
theorem fps_sub {a b : List Th} (h : a.Sublist b) : (fps a).Sublist (fps b) := by
  induction h with
  | slnil => exact List.Sublist.refl _
  | cons x _ ih => rw [fps_cons]; exact ih.trans (List.sublist_append_right _ _)
  | cons_cons x _ ih => rw [fps_cons, fps_cons]; exact (List.Sublist.refl _).append ih
theorem Mem.sub {w0 W : World} {ts ts' : List Th} (h : Mem w0 ts W) (hs : ts'.Sublist ts) : Mem w0 ts' W :=
  ⟨fun t ht => h.all t (hs.subset ht), (fps_sub hs).nodup h.nodup, fun k hk => h.low k ((fps_sub hs).subset hk), h.below⟩
end Go.Proofs.Ytidbjidcjmbnlaa
end
