/-
  Ranges over functions: small laws.
  The chain of a standard: the iterator's contract.
  Whether a standard comes from another one; the names of a chain.
  Inside a round of a range over a function: a region that draws its order is met by the laws for regions outside of it.
-/
import Derived.Test.YtiggefmckomilaaMapV
import Derived.RangeFuncNested
import Derived.RangeFuncBound
import Derived.RangeFuncCalls
import Derived.RangeFuncLeaves
import Derived.Shelf.Abstract
import Derived.Shelf.RegionOpen
import Derived.OwnWalkIn
import Derived.TacticsInMore
import Derived.LoopNIn
import Derived.LoopIn
import Derived.Test.YtiggefmckomilaaTracePush
import Derived.Deep.LoopGhost
import Derived.LaidEqlPtr
import Derived.Test.YtiggefmckomilaaRegT
set_option linter.unusedSimpArgs false
set_option linter.unusedVariables false
namespace Go.Proofs.Ytiggefmckomilaa
open Go Go.RowKit


theorem at_worldIn {F : Fence} {n : Nat} {P : Program} {f : FuncId} {args : Array Value} {w : World} {R : Ending → World → Prop} (h : ∀ W, W = w → CallsIn F n P f args W R) : CallsIn F n P f args w R := h w rfl
theorem code_worldIn {F : Fence} {n : Nat} {P : Program} {c : Code} {Q : Exit → Act → World → Prop} {a : Act} {w : World} (h : ∀ W, W = w → c.wpIn F n P Q a W) : c.wpIn F n P Q a w := h w rfl
theorem grown_of_below {w w' : World} (h : Below w.heap.size w w') : w.grownBy w' none := ⟨h.os, h.tape, h.output, h.size, fun k hk _ => h.block k hk⟩
theorem abides_below {β : Type} {B : Nat} {J : β → World → Prop} (hJ : AbidesFrom B J) {s : β} {w w' : World} (h : J s w) (hb : Below w.heap.size w w') : J s w' :=
  hJ s w w' none h (grown_of_below hb) (fun r e => by cases e)
theorem blk_belowN {B : Nat} {w w' : World} {g : Nat} {t : TypeId} {cs : Array Value} (h : Blk w g t cs) (hb : Below B w w') (hg : g < B) : Blk w' g t cs := (hb.block g hg).trans h
/-- The blocks of S lie as they lay. -/
structure KeptS (S : Nat → Prop) (X Y : World) : Prop where
  size : X.heap.size ≤ Y.heap.size
  block : ∀ k, S k → k < X.heap.size → Y.heap[k]? = X.heap[k]?
theorem KeptS.refl (S : Nat → Prop) (X : World) : KeptS S X X := ⟨Nat.le_refl _, fun _ _ _ => rfl⟩
theorem KeptS.trans {S : Nat → Prop} {X Y Z : World} (h : KeptS S X Y) (k : KeptS S Y Z) : KeptS S X Z :=
  ⟨Nat.le_trans h.size k.size, fun i hi hl => (k.block i hi (Nat.lt_of_lt_of_le hl h.size)).trans (h.block i hi hl)⟩
theorem KeptS.of_grown {S : Nat → Prop} {X Y : World} {row : Option Nat} (hg : X.grownBy Y row) (hr : ∀ k, row = some k → ¬ S k) : KeptS S X Y :=
  ⟨hg.size, fun k hk hl => hg.block k hl fun e => hr k e.symm hk⟩
theorem KeptS.of_below {S : Nat → Prop} {B : Nat} {X Y : World} (hb : Below B X Y) (hS : ∀ k, S k → k < B) : KeptS S X Y := ⟨hb.size, fun k hk _ => hb.block k (hS k hk)⟩
theorem KeptS.putObj {S : Nat → Prop} {B : Nat} (hS : ∀ k, S k → k < B) (W : World) (l : Nat) (o' : Obj) (hl : B ≤ l) : KeptS S W (W.putObj l o') :=
  .of_grown (grownBy_putObj' W l o') fun k e hk => by cases e; have := hS l hk; omega
theorem blk_keptS {S : Nat → Prop} {X Y : World} {g : Nat} {t : TypeId} {cs : Array Value} (h : Blk X g t cs) (hk : KeptS S X Y) (hs : S g) : Blk Y g t cs := (hk.block g hs h.lt).trans h
theorem cell_of_heap {X Y : World} {k o : Nat} (h : Y.heap[k]? = X.heap[k]?) : Y.cell? ⟨k, o, none⟩ = X.cell? ⟨k, o, none⟩ := by
  unfold World.cell?
  simp only [h]

/-- The marks that loops over functions leave among the deferred calls. -/
def markD (D : Nat) : Deferred := { target := .collected D, args := #[] }
def MarksOK (B : Nat) (Ds : List Nat) (w : World) : Prop := Ds.Nodup ∧ ∀ D, D ∈ Ds → B ≤ D ∧ w.heap[D]? = some (.deferred (some []))
theorem marks_nil (B : Nat) (w : World) : MarksOK B [] w := ⟨List.nodup_nil, fun D h => by cases h⟩
theorem MarksOK.lt {B : Nat} {Ds : List Nat} {w : World} (h : MarksOK B Ds w) : ∀ D, D ∈ Ds → D < w.heap.size := fun D hD => (Array.getElem?_eq_some_iff.1 (h.2 D hD).2).1
/-- A step that turns no mark. -/
theorem MarksOK.kept {B : Nat} {Ds : List Nat} {w w' : World} {row : Option Nat} (h : MarksOK B Ds w) (hg : w.grownBy w' row) (hr : ∀ k, row = some k → k ∉ Ds) : MarksOK B Ds w' :=
  ⟨h.1, fun D hD => ⟨(h.2 D hD).1, (hg.block D (h.lt D hD) (fun e => hr D e.symm hD)).trans (h.2 D hD).2⟩⟩
theorem MarksOK.later {B : Nat} {Ds : List Nat} {w w' : World} (h : MarksOK B Ds w) (hl : Below w.heap.size w w') : MarksOK B Ds w' := h.kept (grown_of_below hl) (fun k e => by cases e)
/-- A block of cells is no mark. -/
theorem MarksOK.cells {B : Nat} {Ds : List Nat} {w : World} {g : Nat} {t : TypeId} {cs : Array Value} (h : MarksOK B Ds w) (hb : Blk w g t cs) : g ∉ Ds := fun hD => by
  have h1 := (h.2 g hD).2
  have h2 : w.heap[g]? = some (.cells cs t (0, 0)) := hb
  rw [h2] at h1
  cases h1
theorem MarksOK.setCell {B : Nat} {Ds : List Nat} {w : World} {g : Nat} {t : TypeId} {cs : Array Value} (h : MarksOK B Ds w) (hb : Blk w g t cs) (o : Nat) (v : Value) : MarksOK B Ds (w.setCell ⟨g, o, none⟩ v) :=
  ⟨h.1, fun D hD => ⟨(h.2 D hD).1, (Below.heap_setCell _ _ _ D (fun e => h.cells hb (by have e' : D = g := e; rw [← e']; exact hD))).trans (h.2 D hD).2⟩⟩
theorem MarksOK.cons {B : Nat} {Ds : List Nat} {w : World} {D : Nat} (h : MarksOK B Ds w) (hn : D ∉ Ds) (hB : B ≤ D) (hD : w.heap[D]? = some (.deferred (some []))) : MarksOK B (D :: Ds) w :=
  ⟨List.nodup_cons.2 ⟨hn, h.1⟩, fun E hE => by
    rcases List.mem_cons.1 hE with rfl | hE
    · exact ⟨hB, hD⟩
    · exact h.2 E hE⟩
/-- At the return the marks are shut: cells lie as they lay. -/
theorem leaves_marks {F : Fence} {n : Nat} {P : Program} {fn : Func} {tmps : Array Value} {R : Ending → World → Prop} {B : Nat} : ∀ (Ds : List Nat) (w : World), MarksOK B Ds w → B ≤ w.heap.size →
    (∀ w', Below B w w' → (∀ g t cs, Blk w g t cs → Blk w' g t cs) → LeavesIn F n P fn tmps R [] .returning w') → LeavesInM F n P fn tmps R (Ds.map markD) .returning w
  | [], w, _, hB, h => h w (Below.refl _ _) (fun _ _ _ hb => hb)
  | D :: Ds, w, hm, hB, h => by
    obtain ⟨h1, h2⟩ := hm.2 D List.mem_cons_self
    have hlt := (Array.getElem?_eq_some_iff.1 h2).1
    have hnd := List.nodup_cons.1 hm.1
    have hm2 : MarksOK B Ds (w.putObj D (.deferred none)) := ⟨hnd.2, fun E hE => ⟨(hm.2 E (List.mem_cons_of_mem _ hE)).1, (World.putObj_heap_other (fun e => hnd.1 (by first | (rw [e]; exact hE) | (rw [← e]; exact hE)))).trans (hm.2 E (List.mem_cons_of_mem _ hE)).2⟩⟩
    have hb : Below B w (w.putObj D (.deferred none)) := (Below.refl B w).grown (grownBy_putObj' w D _) hB (fun k e => by cases e; exact h1)
    refine ⟨by simp, .inl ⟨D, _, rfl, run_takeDeferred h2, leaves_marks Ds _ hm2 (Nat.le_trans hB hb.size) fun w' hb' hc => h w' (hb.trans hb') fun g t cs hg => hc g t cs ?_⟩⟩
    refine (World.putObj_heap_other (fun e => ?_)).trans hg
    have h4 : w.heap[g]? = some (.cells cs t (0, 0)) := hg
    rw [e, h2] at h4
    cases h4

/-- What a loop over a function keeps: old memory, marks, blocks of cells. -/
def BI (base B : Nat) (w : World) (Ds : List Nat) (l : List (Nat × TypeId × Array Value)) (W : World) : Prop := Below base w W ∧ MarksOK base Ds W ∧ B ≤ W.heap.size ∧ ∀ x, x ∈ l → Blk W x.1 x.2.1 x.2.2
theorem BI_own {β : Type} {base B : Nat} {w : World} {Ds : List Nat} {f : β → List (Nat × TypeId × Array Value)} (hb : base ≤ B) (hD : ∀ D, D ∈ Ds → D < B) : OwnFrom B (fun s W => BI base B w Ds (f s) W) :=
  fun s W W' row hs hg hr => ⟨hs.1.grown hg (Nat.le_trans hb hs.2.2.1) (fun k e => Nat.le_trans hb (hr k e).1), hs.2.1.kept hg (fun k e hk => by have := hD k hk; have := (hr k e).1; omega), Nat.le_trans hs.2.2.1 hg.size,
    fun x hx => blk_grown (hs.2.2.2 x hx) hg (fun e => by
      obtain ⟨-, o, ho, hc⟩ := hr x.1 e
      have h2 : W.heap[x.1]? = some (.cells x.2.2 x.2.1 (0, 0)) := hs.2.2.2 x hx
      rw [h2] at ho
      cases ho
      cases hc)⟩

theorem keepf_later {B : Nat} {X W W' : World} (h : KeepsFrom B X W) (hb : Below W.heap.size W W') : KeepsFrom B X W' := h.trans (KeepsFrom.of_grownBy (grown_of_below hb) fun _ e => by cases e)
theorem kepts_later {S : Nat → Prop} {X W W' : World} (h : KeptS S X W) (hb : Below W.heap.size W W') : KeptS S X W' := h.trans (KeptS.of_grown (grown_of_below hb) fun _ e => by cases e)
theorem keepf_alloc {B : Nat} {X W : World} (h : KeepsFrom B X W) (o : Obj) : KeepsFrom B X (W.alloc o) := h.trans ((KeepsOthers.alloc _ _).from _)
theorem keepf_set {B : Nat} {X W : World} (h : KeepsFrom B X W) (a : Addr) (v : Value) : KeepsFrom B X (W.setCell a v) := h.trans ((KeepsOthers.setCell _ _ _).from _)
theorem kepts_alloc {S : Nat → Prop} {X W : World} (h : KeptS S X W) (o : Obj) : KeptS S X (W.alloc o) := h.trans (KeptS.of_grown (World.grownBy_alloc W o none) fun _ e => by cases e)
theorem kepts_set {S : Nat → Prop} {X W : World} {g : Nat} (h : KeptS S X W) (hg : ¬ S g) (o : Nat) (v : Value) : KeptS S X (W.setCell ⟨g, o, none⟩ v) :=
  ⟨by simpa using h.size, fun k hk hl => (Below.heap_setCell _ _ _ k (fun e => hg (by have e' : k = g := e; rw [← e']; exact hk))).trans (h.block k hk hl)⟩
theorem MarksOK.alloc_ {B : Nat} {Ds : List Nat} {w : World} (h : MarksOK B Ds w) (o : Obj) : MarksOK B Ds (w.alloc o) := h.kept (World.grownBy_alloc w o none) fun _ e => by cases e
theorem MarksOK.set_ {B : Nat} {Ds : List Nat} {w : World} {g : Nat} (h : MarksOK B Ds w) (hg : g ∉ Ds) (o : Nat) (v : Value) : MarksOK B Ds (w.setCell ⟨g, o, none⟩ v) :=
  ⟨h.1, fun D hD => ⟨(h.2 D hD).1, (Below.heap_setCell _ _ _ D (fun e => hg (by have e' : D = g := e; rw [← e']; exact hD))).trans (h.2 D hD).2⟩⟩
theorem size_alloc_ {n : Nat} {w : World} (h : n ≤ w.heap.size) (o : Obj) : n ≤ (w.alloc o).heap.size := by simp; omega
theorem size_set_ {n : Nat} {w : World} (h : n ≤ w.heap.size) (a : Addr) (v : Value) : n ≤ (w.setCell a v).heap.size := by simpa using h
theorem blkTo {W x : World} {g : Nat} {t : TypeId} {cs : Array Value} (h : W = x) (hb : Blk x g t cs) : Blk W g t cs := h ▸ hb
theorem blkOf {W : World} {g : Nat} {t : TypeId} {cs cs' : Array Value} (h : Blk W g t cs) (e : cs = cs') : Blk W g t cs' := e ▸ h
theorem grown_set (W : World) (g o : Nat) (v : Value) : W.grownBy (W.setCell ⟨g, o, none⟩ v) (some g) :=
  ⟨rfl, rfl, rfl, by simp, fun k _ hk => Below.heap_setCell _ _ _ k (fun e => hk (by rw [e]))⟩
theorem own_set {w : World} {base : Nat} {e : TypeId} {size n : Nat} {v : Value} {xs : List Value} {g : Nat} (h : w.ownsRow base e size v n xs) (hne : v.ownBlock ≠ some g) (o : Nat) (u : Value) : (w.setCell ⟨g, o, none⟩ u).ownsRow base e size v n xs := own_grown h (grown_set w g o u) hne
theorem own_to {W x : World} {base : Nat} {e : TypeId} {size n : Nat} {v : Value} {xs : List Value} (h : W = x) (hp : x.ownsRow base e size v n xs) : W.ownsRow base e size v n xs := h ▸ hp
theorem marks_to {B : Nat} {Ds : List Nat} {W x : World} (h : W = x) (hp : MarksOK B Ds x) : MarksOK B Ds W := h ▸ hp
theorem below_to {B : Nat} {a W x : World} (h : W = x) (hp : Below B a x) : Below B a W := h ▸ hp
theorem keepf_to {B : Nat} {a W x : World} (h : W = x) (hp : KeepsFrom B a x) : KeepsFrom B a W := h ▸ hp
theorem kepts_to {S : Nat → Prop} {a W x : World} (h : W = x) (hp : KeptS S a x) : KeptS S a W := h ▸ hp
theorem size_to {n : Nat} {W x : World} (h : W = x) (hp : n ≤ x.heap.size) : n ≤ W.heap.size := h ▸ hp
theorem ownFrom_ex {β γ : Type} {B : Nat} {J : γ → β → World → Prop} (h : ∀ c, OwnFrom B (J c)) : OwnFrom B (fun s W => ∃ c, J c s W) := fun s W W' row ⟨c, hc⟩ hg hr => ⟨c, h c s W W' row hc hg hr⟩
theorem blk_of_full {w : World} {base : Nat} {e : TypeId} {g n : Nat} {cs : Array Value} (h : w.ownsRow base e 2 (.slice (some ⟨g, 0, none⟩) n n) n cs.toList) : Blk w g e cs := by
  obtain ⟨hl, hr | ⟨g', cap, cur, hv, hb, hh, h1, h2, h3, h4⟩⟩ := h
  · cases hr.1
  · injection hv with e1 e2 e3
    injection e1 with e1
    injection e1 with e1 _ _
    subst e1 e3
    rw [List.take_of_length_le (by rw [Array.length_toList, h3]; exact Nat.le_refl _)] at h4
    have : cur = cs := Array.toList_inj.1 h4
    subst this
    exact hh

/-- A range over a function with two variables, the second one boxed: in plain words. -/
theorem wp_range2 {α : Type} {P : Program} {g : Operand} {p q d e : Tmp} {assign body : Code} {Q : Exit → Act → World → Prop} {T : Array Value} {ds : List Deferred} {w : World}
    {gf : Nat} {lb : Array Value} (hg : (⟨T, ds⟩ : Act).eval g = .func (.func gf) #[] lb) (eg : ∀ args w, (callFunc gf args).run P w = .ok (.enter gf args) w)
    {v0 v1 : α → Value} {Kp : World → World → Prop} {S Sp : List α → Prop} {N : Nat} {w0 : World} (hseq : SeqStopsK Fence.wide 7 P gf lb (fun x => #[v0 x, v1 x]) Kp S Sp N w0)
    (hKt : ∀ {A B C : World}, Kp A B → Kp B C → Kp A C) (hKb : ∀ (W : World) (l : Nat) (o' : Obj), w.heap.size ≤ l → Kp W (W.putObj l o')) (hKa : ∀ (W : World) (o : Obj), w.heap.size ≤ W.heap.size → Kp W (W.alloc o)) (hb0 : Below w0.heap.size w0 w)
    (I : List α → World → Prop) (Ix : Code → List α → World → Prop) (hI : OwnFrom w.heap.size I) (hIx : ∀ c, OwnFrom w.heap.size (Ix c)) (hIs : ∀ pre W, I pre W → w.heap.size ≤ W.heap.size) (h0 : I [] w) (ty : TypeId) (cs : α → Array Value)
    (hassign : ∀ (l : Nat) (x : α) (W : World) (K : Act → World → Prop), K ⟨(((T.setIfInBounds p (v0 x)).setIfInBounds q (v1 x)).setIfInBounds d (v0 x)).setIfInBounds e (.pointer (some ⟨W.heap.size, 0, none⟩)), []⟩ (W.alloc (.cells (cs x) ty)) →
      assign.wpIn (Fence.wide.inRound l) 6 P (Exit.then K (fun _ _ _ => False)) ⟨(T.setIfInBounds p (v0 x)).setIfInBounds q (v1 x), []⟩ W)
    (hbody : ∀ (l : Nat) (pre : List α) (x : α) (bx : Nat) (W : World), I pre W → w.heap.size ≤ bx → Blk W bx ty (cs x) → pre.length < N →
      body.wpIn (Fence.wide.inRound l) 6 P (ownPostG w.heap.size Kp I Ix (pre ++ [x]) W) ⟨(((T.setIfInBounds p (v0 x)).setIfInBounds q (v1 x)).setIfInBounds d (v0 x)).setIfInBounds e (.pointer (some ⟨bx, 0, none⟩)), []⟩ W)
    (hdone : ∀ (D : Nat) (xs : List α) (W : World), w.heap.size ≤ D → S xs → I xs W → W.heap[D]? = some (.deferred (some [])) → Q .normal ⟨T, markD D :: ds⟩ W)
    (hstop : ∀ (D : Nat) (c : Code) (pre : List α) (W : World), w.heap.size ≤ D → Sp pre → Ix c pre W → W.heap[D]? = some (.deferred (some [])) → c.wp P Q ⟨T, markD D :: ds⟩ W) :
    (Code.rangeFunc g #[p, q] assign body).wp P Q ⟨T, ds⟩ w := by
  refine wpIn_wide.1 (wpIn_rangeFunc_ownH (F := Fence.wide) (n := 8) rfl (by omega) (gf := gf) (lb := lb) hg trivial eg hseq (fun h k => hKt h k) (fun W l o o' hl _ _ _ => hKb W l o' hl) hb0 (fun _ => rfl) I Ix hI hIx h0
    (fun x a' W => ∃ bx, w.heap.size ≤ bx ∧ Blk W bx ty (cs x) ∧ a' = ⟨(((T.setIfInBounds p (v0 x)).setIfInBounds q (v1 x)).setIfInBounds d (v0 x)).setIfInBounds e (.pointer (some ⟨bx, 0, none⟩)), []⟩)
    ?_ ?_ ?_ ?_ ?_)
  · intro x a' s W W' row ⟨bx, h1, h2, h3⟩ hgr hr
    refine ⟨bx, h1, blk_grown h2 hgr (fun er => ?_), h3⟩
    obtain ⟨-, o, ho, hc⟩ := hr bx er
    have h4 : W.heap[bx]? = some (.cells (cs x) ty (0, 0)) := h2
    rw [h4] at ho
    cases ho
    cases hc
  · intro l pre x W K hi hK
    have hz : (#[p, q].zip #[v0 x, v1 x]).foldl (fun t (y : Tmp × Value) => t.setIfInBounds y.1 y.2) T = (T.setIfInBounds p (v0 x)).setIfInBounds q (v1 x) := by simp [Array.zip]
    show Code.wpIn (Fence.wide.inRound l) 6 P assign _ ⟨(#[p, q].zip #[v0 x, v1 x]).foldl (fun t (y : Tmp × Value) => t.setIfInBounds y.1 y.2) T, []⟩ W
    rw [hz]
    exact hassign l x W K (hK _ _ ((KeepsOthers.alloc _ _).from _) (hKa _ _ (hIs _ _ hi)) (hI.alloc _ hi) ⟨W.heap.size, hIs _ _ hi, Blk.new _ _ _, rfl⟩)
  · rintro l pre x a' W hl - hi ⟨bx, h1, h2, rfl⟩ hlen
    exact hbody l pre x bx W hi h1 h2 hlen
  · exact fun D xs W h1 h2 h3 h4 => hdone D xs W h1 h2 h3 h4
  · exact fun D c pre W h1 h2 h3 h4 => wpIn_wide.2 (hstop D c pre W h1 h2 h3 h4)
theorem ownRow_from {β : Type} {B base : Nat} {e : TypeId} {size : Nat} {v : β → Value} {n : β → Nat} {xs : β → List Value} : OwnFrom B (fun s W => W.ownsRow base e size (v s) (n s) (xs s)) :=
  fun s W W' row hs hg hr => hs.kept hg (by
    cases hv : (v s).ownBlock with
    | none => exact .inl rfl
    | some g =>
      refine .inr fun er => ?_
      obtain ⟨-, o, ho, hc⟩ := hr g er.symm
      rcases hs.2 with ⟨h0, -⟩ | ⟨g', cap, cur, h1, -, hh, -⟩
      · rw [h0] at hv; cases hv
      · rw [h1] at hv
        have : g' = g := Option.some.inj hv
        subst this
        rw [hh] at ho
        cases ho
        cases hc)
/-- A range over a function with one variable. -/
theorem wp_range1 {α : Type} {P : Program} {g : Operand} {p d : Tmp} {assign body : Code} {Q : Exit → Act → World → Prop} {T : Array Value} {ds : List Deferred} {w : World}
    {gf : Nat} {lb : Array Value} (hg : (⟨T, ds⟩ : Act).eval g = .func (.func gf) #[] lb) (eg : ∀ args w, (callFunc gf args).run P w = .ok (.enter gf args) w)
    {v0 : α → Value} {Kp : World → World → Prop} {S Sp : List α → Prop} {N : Nat} {w0 : World} (hseq : SeqStopsK Fence.wide 7 P gf lb (fun x => #[v0 x]) Kp S Sp N w0)
    (hKt : ∀ {A B C : World}, Kp A B → Kp B C → Kp A C) (hKb : ∀ (W : World) (l : Nat) (o' : Obj), w.heap.size ≤ l → Kp W (W.putObj l o')) (hKr : ∀ W, Kp W W) (hb0 : Below w0.heap.size w0 w)
    (I : List α → World → Prop) (Ix : Code → List α → World → Prop) (hI : OwnFrom w.heap.size I) (hIx : ∀ c, OwnFrom w.heap.size (Ix c)) (hIs : ∀ pre W, I pre W → w.heap.size ≤ W.heap.size) (h0 : I [] w)
    (hassign : ∀ (l : Nat) (x : α) (W : World) (K : Act → World → Prop), K ⟨(T.setIfInBounds p (v0 x)).setIfInBounds d (v0 x), []⟩ W →
      assign.wpIn (Fence.wide.inRound l) 6 P (Exit.then K (fun _ _ _ => False)) ⟨T.setIfInBounds p (v0 x), []⟩ W)
    (hbody : ∀ (l : Nat) (pre : List α) (x : α) (W : World), I pre W → pre.length < N →
      body.wpIn (Fence.wide.inRound l) 6 P (ownPostG w.heap.size Kp I Ix (pre ++ [x]) W) ⟨(T.setIfInBounds p (v0 x)).setIfInBounds d (v0 x), []⟩ W)
    (hdone : ∀ (D : Nat) (xs : List α) (W : World), w.heap.size ≤ D → S xs → I xs W → W.heap[D]? = some (.deferred (some [])) → Q .normal ⟨T, markD D :: ds⟩ W)
    (hstop : ∀ (D : Nat) (c : Code) (pre : List α) (W : World), w.heap.size ≤ D → Sp pre → Ix c pre W → W.heap[D]? = some (.deferred (some [])) → c.wp P Q ⟨T, markD D :: ds⟩ W) :
    (Code.rangeFunc g #[p] assign body).wp P Q ⟨T, ds⟩ w := by
  refine wpIn_wide.1 (wpIn_rangeFunc_ownH (F := Fence.wide) (n := 8) rfl (by omega) (gf := gf) (lb := lb) hg trivial eg hseq (fun h k => hKt h k) (fun W l o o' hl _ _ _ => hKb W l o' hl) hb0 (fun _ => rfl) I Ix hI hIx h0
    (fun x a' W => a' = ⟨(T.setIfInBounds p (v0 x)).setIfInBounds d (v0 x), []⟩)
    ?_ ?_ ?_ ?_ ?_)
  · intro x a' s W W' row h3 hgr hr
    exact h3
  · intro l pre x W K hi hK
    have hz : (#[p].zip #[v0 x]).foldl (fun t (y : Tmp × Value) => t.setIfInBounds y.1 y.2) T = T.setIfInBounds p (v0 x) := by simp [Array.zip]
    show Code.wpIn (Fence.wide.inRound l) 6 P assign _ ⟨(#[p].zip #[v0 x]).foldl (fun t (y : Tmp × Value) => t.setIfInBounds y.1 y.2) T, []⟩ W
    rw [hz]
    exact hassign l x W K (hK _ _ (KeepsFrom.refl _ _) (hKr _) hi rfl)
  · rintro l pre x a' W hl - hi rfl hlen
    exact hbody l pre x W hi hlen
  · exact fun D xs W h1 h2 h3 h4 => hdone D xs W h1 h2 h3 h4
  · exact fun D c pre W h1 h2 h3 h4 => wpIn_wide.2 (hstop D c pre W h1 h2 h3 h4)
end Go.Proofs.Ytiggefmckomilaa
namespace Go.Proofs.Ytiggefmckomilaa
open Go Go.RowKit
attribute [local go_sem] Oper.semAt_some

/-- A chain, from one of its standards on. -/
theorem chain_drop {l : List Ent} (hg : GoodB l) : ∀ (k : Nat) (n : ByteArray) (s : Std) (x : ByteArray), stdT l n = some s → (chainT l n)[k]? = some x → (chainT l n).drop k = chainT l x ∧ ∃ sx, stdT l x = some sx
  | 0, n, s, x, hs, hx => by
    have h := chain_step hg hs
    rw [h] at hx
    simp at hx
    subst hx
    exact ⟨rfl, s, hs⟩
  | k + 1, n, s, x, hs, hx => by
    have h := chain_step hg hs
    by_cases hp : s.par = ByteArray.empty
    · rw [h, if_pos hp] at hx
      simp at hx
    · rw [if_neg hp] at h
      obtain ⟨q, hq, -⟩ := par_of hg hs hp
      rw [h, List.getElem?_cons_succ] at hx
      obtain ⟨h1, h2⟩ := chain_drop hg k s.par q x hq hx
      exact ⟨by rw [h, List.drop_succ_cons]; exact h1, h2⟩
def nxtT (l : List Ent) (bs : List Nat) (n : ByteArray) (k : Nat) : Option Nat := match (chainT l n)[k]? with
  | some x => ptrT (stdsT l) bs x
  | none => none
/-- The parent's pointer is that of the next one of the chain. -/
theorem chain_next {l : List Ent} {bs : List Nat} {n x : ByteArray} {s : Std} {k : Nat} (hg : GoodB l) (hs : stdT l n = some s) (hx : (chainT l n)[k]? = some x) : ∃ sx, stdT l x = some sx ∧ parO l bs sx = addrO (nxtT l bs n (k + 1)) := by
  obtain ⟨h1, sx, h2⟩ := chain_drop hg k n s x hs hx
  refine ⟨sx, h2, ?_⟩
  have h3 : (chainT l n)[k + 1]? = (chainT l x)[1]? := by rw [← h1, List.getElem?_drop]
  have h4 := chain_step hg h2
  unfold parO nxtT
  rw [h3, h4, List.getElem?_cons_succ]
  by_cases hp : sx.par = ByteArray.empty
  · rw [if_pos hp, if_pos hp]; rfl
  · rw [if_neg hp, if_neg hp]
    obtain ⟨q, hq, -⟩ := par_of hg h2 hp
    rw [chain_step hg hq]
    rfl
theorem nxt_zero {l : List Ent} {bs : List Nat} {n : ByteArray} {s : Std} (hg : GoodB l) (hs : stdT l n = some s) : nxtT l bs n 0 = ptrT (stdsT l) bs n := by
  unfold nxtT
  rw [chain_step hg hs]
  rfl
theorem chain_pos {l : List Ent} {n : ByteArray} {s : Std} (hg : GoodB l) (hs : stdT l n = some s) : 0 < (chainT l n).length := by rw [chain_step hg hs]; simp

/-- A name of a chain. -/
abbrev InC (l : List Ent) (n : ByteArray) := {x : ByteArray // x ∈ chainT l n}
theorem inC_std {l : List Ent} {n : ByteArray} {s : Std} (hg : GoodB l) (hs : stdT l n = some s) (x : InC l n) : ∃ sx, stdT l x.1 = some sx := by
  obtain ⟨k, hk⟩ := List.mem_iff_getElem?.1 x.2
  exact (chain_drop hg k n s x.1 hs hk).2
set_option maxHeartbeats 4000000 in
set_option maxRecDepth 100000 in
theorem chain_stops (S : Nat → Prop) (l : List Ent) (bs : List Nat) (n : ByteArray) (sd : Std) (kb m : Nat) (w : World) (hm : 1 ≤ m) (hg : GoodB l) (hs : stdT l n = some sd) (hk : KnownsT w l bs)
    (hS : ∀ k, S k → k < w.heap.size) (hSb : ∀ k ∈ bs, S k) (hSk : S kb) (Bk : Blk w kb 107 #[.pointer (addrO (ptrT (stdsT l) bs n))]) :
    SeqStopsK Fence.wide m Try.prog 93 #[.pointer (some ⟨kb, 0, none⟩)]
      (fun x : InC l n => #[.pointer (addrO (ptrT (stdsT l) bs x.1))])
      (KeptS S) (fun xs => xs = (chainT l n).attach) (fun q => q <+: (chainT l n).attach) (chainT l n).length w := by
  intro lp J Jx W hW hJ hJx hY h0
  have hSW : ∀ k, S k → k < W.heap.size := fun k h => Nat.lt_of_lt_of_le (hS k h) hW.size
  have hkW : KnownsT W l bs := hk.stab fun k hm => hW.block k (hk.lt k hm)
  replace Bk := blk_later Bk hW
  rw [← nxt_zero hg hs] at Bk
  obtain ⟨N, hN⟩ : ∃ N, (chainT l n).length = N := ⟨_, rfl⟩
  have hnN : nxtT l bs n N = none := by unfold nxtT; rw [List.getElem?_eq_none (by omega)]
  have hstep : ∀ k, k < N → ∃ (x : InC l n) (b : Nat) (sx : Std), (chainT l n)[k]? = some x.1 ∧ nxtT l bs n k = some b ∧ ptrT (stdsT l) bs x.1 = some b ∧ S b ∧ Blk W b 109 (knownC sx (addrO (nxtT l bs n (k + 1))) (madeT l x.1)) ∧ (chainT l n).attach.take (k + 1) = (chainT l n).attach.take k ++ [x] := fun k hk1 => by
    have hx : (chainT l n)[k]? = some (chainT l n)[k] := List.getElem?_eq_getElem (by omega)
    obtain ⟨sx, h1, h2⟩ := chain_next (bs := bs) hg hs hx
    obtain ⟨b, h3, h4, h5⟩ := known_get hg hkW h1
    rw [h2] at h5
    exact ⟨⟨(chainT l n)[k], List.getElem_mem _⟩, b, sx, hx, by unfold nxtT; rw [hx]; exact h3, h3, hSb b h4, h5, by rw [List.take_succ_eq_append_getElem (by simpa using (by omega : k < (chainT l n).length))]; simp⟩
  rw [hN] at hY
  have HSW := hide hSW
  have HkW := hide hkW
  have HY := hide hY
  have H0 := hide h0
  have HJ := hide hJ
  have HJx := hide hJx
  have Hstep := hide hstep
  have HnN := hide hnN
  have HN := hide hN
  clear hSW hkW hY h0 hJ hJx hstep hnN hN
  have B0 := hide Bk
  clear Bk hS hSb hs hk hg
  refine callsIn_of_wp Try.func93 rfl trivial ?_
  simp only [Try.ntmps93, List.size_toArray, List.length_cons, List.length_nil, Nat.reduceAdd, Nat.reduceSub, Array.replicate_succ, Array.replicate_zero, List.push_toArray, List.append_toArray, List.nil_append, List.cons_append]
  have x0 := B0.out.c 0 rfl
  have ltx := B0.out.lt
  gi_wp2_with fail
  clear x0 ltx
  obtain ⟨Rel, hRel⟩ : ∃ Rel : Nat → Value → World → Prop, ∀ r i wr, Rel r i wr ↔ ∃ k, k ≤ N ∧ r = N - k ∧ i = .pointer (addrO (nxtT l bs n k)) ∧ J ((chainT l n).attach.take k) wr ∧ KeptS S W wr := ⟨_, fun _ _ _ => Iff.rfl⟩
  have HRel := hide hRel
  clear hRel
  gi_loopw [3] (fun i wr => ∃ r, Rel r i wr) (fun i wr => leastOf (fun r => Rel r i wr))
  case atStart => exact ⟨N, (HRel.out _ _ _).2 ⟨0, by omega, rfl, rfl, by simpa using H0.out, KeptS.refl _ _⟩⟩
  case round =>
    obtain ⟨r0, hr0⟩ : ∃ r0, leastOf (fun r => Rel r u3 wr) = r0 := ⟨_, rfl⟩
    have hq := (leastOf_spec hrel).1
    rw [hr0] at hq
    obtain ⟨k, hk, hr, hi, hj, hbw⟩ := (HRel.out _ _ _).1 hq
    clear hq hrel
    have hsw := hbw.size
    have HR0 := hide hr0
    clear hr0
    subst hi
    have HB := hide hbw
    have Hj := hide hj
    clear hbw hj
    have HK := hide (Below.refl wr.heap.size wr)
    by_cases hlt : k < N
    · obtain ⟨x, b, sx, e1, e2, e3, e4, e5, e6⟩ := Hstep.out k hlt
      have S0 := hide (blk_keptS e5 HB.out e4)
      rw [e2]
      unfold knownC addrO at S0
      simp only [addrO, Option.map_some]
      have hY4 := HY.out ((chainT l n).attach.take k) x wr Hj.out (by rw [List.length_take]; omega)
      rw [e3] at hY4
      simp only [addrO, Option.map_some] at hY4
      obtain ⟨fn, tmps, assign, body, hy, hR⟩ := hY4
      have HR := hide hR
      have HE := hide (And.intro e4 e6)
      have hk : k + 1 ≤ N := hlt
      clear hR e1 e3 e4 e5 e6
      gi_wp2
      refine HR.out.mono ?_
      rintro e W5 (⟨rfl, hJ5, hk5⟩ | ⟨rfl, hJx5⟩)
      · clear hy HR
        have hbn : KeptS S W W5 := HB.out.trans hk5
        rw [← HE.out.2] at hJ5
        have S5 := blk_keptS S0.out hk5 HE.out.1
        have HJ5 := hide hJ5
        have HBN := hide hbn
        have HK5 := hide hk5
        clear hJ5 hbn hk5
        have c7 := S5.c 7 rfl
        have lt5 := S5.lt
        clear S5
        gi_wp2
        have hn1 : Rel (N - (k + 1)) (.pointer (Option.map (fun g => { block := g, off := 0 }) (nxtT l bs n (k + 1)))) W5 := (HRel.out _ _ _).2 ⟨k + 1, hk, rfl, rfl, HJ5.out, HBN.out⟩
        refine ⟨⟨_, hn1⟩, Nat.lt_of_le_of_lt ((leastOf_spec ⟨_, hn1⟩).2 _ hn1) ?_⟩
        have h9 := HR0.out
        rw [e2] at h9
        simp only [addrO, Option.map_some] at h9
        omega
      · clear hy HR
        rw [← HE.out.2] at hJx5
        have HX5 := hide hJx5
        clear hJx5
        gi_wp2
        refine bodyPost_end (results_none rfl _ _ _) rfl ?_
        exact ⟨⟨_, rfl⟩, .inr ⟨_, List.take_prefix _ _, HX5.out⟩⟩
    · have hkN : k = N := by omega
      subst hkN
      rw [HnN.out]
      simp only [addrO, Option.map_none]
      gi_wp2
      refine ⟨fun f h => (by cases h), ?_⟩
      gi_wp2
      refine bodyPost_end (results_none rfl _ _ _) rfl ?_
      refine ⟨⟨_, rfl⟩, .inl ⟨_, rfl, ?_⟩⟩
      have := Hj.out
      rw [List.take_of_length_le (by rw [List.length_attach, HN.out]; omega)] at this
      exact this
end Go.Proofs.Ytiggefmckomilaa
namespace Go.Proofs.Ytiggefmckomilaa
open Go Go.RowKit
attribute [local go_sem] Oper.semAt_some

set_option maxRecDepth 100000 in
theorem chain_any (A : Option Addr) (w : World) :
    Calls Try.prog 79 #[.pointer A] w fun e w' =>
      e = .returned (.func (.func 93) #[] #[.pointer (some ⟨w.heap.size, 0, none⟩)]) ∧
      Below w.heap.size w w' ∧ w'.heap.size = w.heap.size + 1 ∧ Blk w' w.heap.size 107 #[.pointer A] := by
  go_enter Try.func79, Try.ntmps79
  go_wp2
  refine bodyPost_ret (by simp [results, Try.results79, go_sem]) rfl ⟨rfl, ?_, by simp, ?_⟩
  · exact (Below.refl _ _).alloc (Nat.le_refl _) _
  · exact blk_new_at (by simp)
theorem knownSize : (Try.prog.info? 109).map (·.size) = some 10 := by kernel_rfl
/-- Whether block `o` is that of a standard of a chain. -/
def fromB (l : List Ent) (bs : List Nat) (n : ByteArray) (o : Nat) : Bool := (chainT l n).any fun x => ptrT (stdsT l) bs x == some o

set_option maxHeartbeats 4000000 in
set_option maxRecDepth 100000 in
theorem from_any (l : List Ent) (bs : List Nat) (n : ByteArray) (sd : Std) (b o : Nat) (w : World) (hg : GoodB l) (hs : stdT l n = some sd) (hk : KnownsT w l bs) (hp : ptrT (stdsT l) bs n = some b) (to_ : TypeId) (co : Array Value) (ho : Blk w o to_ co) :
    Calls Try.prog 77 #[ptrB b, ptrB o] w fun e w' => e = .returned (.bool (fromB l bs n o)) ∧ Below w.heap.size w w' := by
  obtain ⟨kj, hkj, hkz⟩ := Option.map_eq_some_iff.1 knownSize
  have hch := fun W => chain_any (some ⟨b, 0, none⟩) W
  unfold ptrB
  obtain ⟨fr, hfr⟩ : ∃ r, fromB l bs n o = r := ⟨_, rfl⟩
  rw [hfr]
  have Hch := hide hch
  have Hfr := hide hfr
  have Hkj := hide hkj
  clear hch hfr hkj
  refine (callsIn_wide (n := 8)).1 (callsIn_of_wp_marks Try.func77 rfl trivial (wpIn_wide.2 ?_))
  simp only [Try.ntmps77, List.size_toArray, List.length_cons, List.length_nil, Nat.reduceAdd, Nat.reduceSub, Array.replicate_succ, Array.replicate_zero, List.push_toArray, List.append_toArray, List.nil_append, List.cons_append]
  have HB := hide (Below.refl w.heap.size w)
  go_wp2_with fail
  refine at_world fun W hW => ?_
  have bq0 : Blk W w.heap.size 107 #[.pointer (some ⟨o, 0, none⟩)] := by rw [hW]; exact (Blk.new _ _ _).alloc _
  have bq1 : Blk W (w.heap.size + 1) 4 #[.bool false] := by rw [hW]; exact blk_new_at (by simp)
  have LW : Later w W := by rw [hW]; exact (((Below.refl _ _).alloc (Nat.le_refl _) _).alloc (by simp; try omega) _)
  have szW : W.heap.size = w.heap.size + 2 := by rw [hW]; simp
  clear hW
  replace HB := hide (onward HB.out LW)
  have Ho := hide bq0
  have Hr := hide bq1
  clear bq0 bq1 LW szW
  refine (Hch.out _).mono ?_
  rintro e w2 ⟨rfl, hb2, hsz2, hbk2⟩
  replace HB := hide (onward HB.out hb2)
  replace Ho := hide (blk_later Ho.out hb2)
  replace Hr := hide (blk_later Hr.out hb2)
  clear hb2
  have hsw := HB.out.size
  have hkw := hk.stab (w' := w2) fun k hm => HB.out.block k (hk.lt k hm)
  have hlo := Ho.out.lt
  have hlr := Hr.out.lt
  have hst := chain_stops (fun k => k < w2.heap.size) l bs n sd W.heap.size 7 w2 (by omega) hg hs hkw (fun k h => h) (fun k hm => hkw.lt k hm) (by omega) (by rw [hp]; exact hbk2)
  obtain ⟨II, hII⟩ : ∃ II : List (InC l n) → World → Prop, II = (fun pre V => BI w.heap.size w2.heap.size w [] [(w.heap.size, 107, #[.pointer (some ⟨o, 0, none⟩)]), (w.heap.size + 1, 4, #[.bool false])] V ∧ ∀ x ∈ pre, ptrT (stdsT l) bs x.1 ≠ some o) := ⟨_, rfl⟩
  obtain ⟨IX, hIX⟩ : ∃ IX : Code → List (InC l n) → World → Prop, IX = (fun jc pre V => BI w.heap.size w2.heap.size w [] [(w.heap.size + 1, 4, #[.bool true])] V ∧ jc = .ret ∧ ∃ x ∈ pre, ptrT (stdsT l) bs x.1 = some o) := ⟨_, rfl⟩
  have HII := hide hII
  have HIX := hide hIX
  have hmlt : ∀ D : Nat, D ∈ ([] : List Nat) → D < w2.heap.size := fun D h => absurd h List.not_mem_nil
  clear hII hIX
  go_wp2_with fail
  refine wp_range1 (α := InC l n) (p := 8) (d := 5) rfl (enters_of Try.func93 (by kernel_rfl) rfl) (v0 := fun x : InC l n => .pointer (addrO (ptrT (stdsT l) bs x.1))) hst
    (fun h k => h.trans k) (fun W' lx o' hl => KeptS.putObj (B := w2.heap.size) (fun k hk => hk) W' lx o' hl) (fun W' => KeptS.refl _ _) (Below.refl _ _)
    II IX
    (by rw [HII.out]; exact OwnFrom.and (BI_own hsw hmlt) (ownFrom_pure _ _)) (fun c => by rw [HIX.out]; exact OwnFrom.and (BI_own hsw hmlt) (ownFrom_pure _ _)) (fun pre W' h => by rw [HII.out] at h; exact h.1.2.2.1)
    (by rw [HII.out]; exact ⟨⟨HB.out, marks_nil _ _, Nat.le_refl _, List.forall_mem_cons.2 ⟨Ho.out, List.forall_mem_cons.2 ⟨Hr.out, fun x hx => absurd hx List.not_mem_nil⟩⟩⟩, fun x hx => absurd hx List.not_mem_nil⟩)
    ?assign ?body ?done ?stop
  case assign =>
    intro lp x V K hK
    gi_wp2
    exact hK
  case body =>
    intro lp pre x V hi hlen
    rw [HII.out] at hi
    obtain ⟨⟨hbw, hmk, hsw, hblk⟩, hno⟩ := hi
    obtain ⟨ho, hbk0⟩ := List.forall_mem_cons.1 hblk
    obtain ⟨hr, -⟩ := List.forall_mem_cons.1 hbk0
    clear hblk hbk0 Ho Hr HB
    have Ho := hide ho
    have Hr := hide hr
    have HB := hide hbw
    have Hmk := hide hmk
    have HZ := hide hsw
    have Hno := hide hno
    clear ho hr hbw hmk hsw hno
    simp only [List.setIfInBounds_toArray, List.set_cons_succ, List.set_cons_zero]
    obtain ⟨sx, hsx⟩ := inC_std hg hs x
    obtain ⟨b', hb', hbm, hbk⟩ := known_get hg hk hsx
    have hcb2 := hide (blk_belowN hbk HB.out hbk.lt)
    have hos := hide (blk_belowN ho HB.out ho.lt)
    have HY := hide hb'
    rw [hb']
    simp only [addrO, Option.map_some]
    clear hb' hbk
    have x0 := Ho.out.c 0 rfl
    have ltx := Ho.out.lt
    have r0 := Hr.out.c 0 rfl
    have ltr := Hr.out.lt
    have fr0 := Hr.out.frozen 0
    by_cases hbo : b' = o
    · subst hbo
      have heq := run_eql_ptr_same (P := Try.prog) V (tp := 107) ⟨b', 0, none⟩ Try.underlying107 Hkj.out
      gi_wp2
      refine ⟨keepf_set (KeepsFrom.refl _ _) _ _, ?_⟩
      rw [HIX.out]
      exact ⟨⟨HB.out.setCell (by simp) _, marks_nil _ _, by simp; exact HZ.out, List.forall_mem_cons.2 ⟨Hr.out.set_ 0 _, fun x hx => absurd hx List.not_mem_nil⟩⟩, rfl, x, by simp, HY.out⟩
    · have heq := run_eql_ptr_other (P := Try.prog) V (tp := 107) (a := ⟨b', 0, none⟩) (b := ⟨o, 0, none⟩) Try.underlying107 Hkj.out (by omega) (fun e => hbo (Addr.mk.inj e).1) hcb2.out hos.out
      gi_wp2
      refine ⟨KeepsFrom.refl _ _, KeptS.refl _ _, ?_⟩
      rw [HII.out]
      exact ⟨⟨HB.out, marks_nil _ _, HZ.out, List.forall_mem_cons.2 ⟨Ho.out, List.forall_mem_cons.2 ⟨Hr.out, fun x hx => absurd hx List.not_mem_nil⟩⟩⟩, List.forall_mem_append.2 ⟨Hno.out, fun z hz => by rw [List.mem_singleton.1 hz, HY.out]; exact fun e => hbo (Option.some.inj e)⟩⟩
  case done =>
    intro D xs V hD hxs hi hdd
    rw [HII.out] at hi
    obtain ⟨⟨hbw, hmk, hsw, hblk⟩, hno⟩ := hi
    obtain ⟨ho, hbk0⟩ := List.forall_mem_cons.1 hblk
    obtain ⟨hr, -⟩ := List.forall_mem_cons.1 hbk0
    subst hxs
    have hF : fromB l bs n o = false := List.any_eq_false.2 fun x hx => (by simpa using hno ⟨x, hx⟩ (List.mem_attach _ _))
    have hFr : fr = false := Hfr.out.symm.trans hF
    subst hFr
    have r0 := hr.c 0 rfl
    have fr0 := hr.frozen 0
    have ltr := hr.lt
    clear hblk hbk0 Ho Hr HB hF hno ho
    go_wp2
    refine leaves_marks [D] _ ((marks_nil w.heap.size V).cons (by simp) (by omega) hdd |>.setCell hr 0 _) (by simp; omega) fun w' hbw' hcells => ?_
    have h3 := hcells _ _ _ (hr.set_ 0 (.bool false))
    have r0' := h3.c 0 rfl
    have ltr' := h3.lt
    refine ⟨.bool false, by simp [results, Try.results77, go_sem, r0', ltr'], rfl, (hbw.setCell (by simp) _).trans hbw'⟩
  case stop =>
    intro D jc pre V hD hpre hix hdd
    rw [HIX.out] at hix
    obtain ⟨⟨hbw, hmk, hsw, hblk⟩, rfl, x, hx, hxo⟩ := hix
    obtain ⟨hr, -⟩ := List.forall_mem_cons.1 hblk
    have hF : fromB l bs n o = true := List.any_eq_true.2 ⟨x.1, x.2, by rw [hxo]; simp⟩
    have hFr : fr = true := Hfr.out.symm.trans hF
    subst hFr
    clear hblk Ho Hr HB hF
    go_wp2
    refine leaves_marks [D] _ ((marks_nil w.heap.size V).cons (by simp) (by omega) hdd) (by omega) fun w' hbw' hcells => ?_
    have h3 := hcells _ _ _ hr
    have r0' := h3.c 0 rfl
    have ltr' := h3.lt
    refine ⟨.bool true, by simp [results, Try.results77, go_sem, r0', ltr'], rfl, hbw.trans hbw'⟩
end Go.Proofs.Ytiggefmckomilaa
namespace Go.Proofs.Ytiggefmckomilaa
open Go Go.RowKit

section
variable {P : Program} {md : Region.Mode} {ops : Array Oper} {Q : Exit → Act → World → Prop} {lp n : Nat}
theorem oper_in {o : Oper} {a : Act} {w : World} {K : Act → World → Prop} (hd : ∀ c, o.op ≠ .defer c) (h : o.wp P a w K Q) : o.wpIn (Fence.wide.inRound lp) n P a w K Q := by
  unfold Oper.wpIn
  refine ⟨fun _ _ => trivial, ?_⟩
  rw [Oper.semAt_plain _ _ _ hd]
  unfold Oper.wp at h
  generalize (execOp a.eval o).run P w = r at *
  cases r with
  | ok x w' =>
    cases x with
    | value v => exact h
    | skip => exact h
    | defer d => exact h
    | enter f args => exact ⟨fun h => by simp [Fence.wide] at h, CallsIn.inRound lp (callsIn_wide.2 h)⟩
    | row row args => exact ⟨fun h => by simp [Fence.wide] at h, fun c cs _ => let ⟨v, w1, r, s⟩ := h c cs; ⟨v, w1, r, stepsIn_wide.2 s⟩⟩
    | _ => exact h.elim
  | halt x w' => cases x <;> exact h
def noDefer (l : List Oper) : Bool := l.all fun o => match o.op with | .defer _ => false | _ => true
theorem noDefer_spec {l : List Oper} (h : noDefer l = true) {i : Nat} {o : Oper} (ho : l.toArray[i]? = some o) : ∀ c, o.op ≠ .defer c := fun c e => by
  have h1 := List.all_eq_true.1 h o (List.mem_of_getElem? (by simpa using ho))
  rw [e] at h1
  cases h1
theorem wpAnyIn_of {l : List Oper} (hd : noDefer l = true) (hQ : ¬ LetsOut Q) : ∀ (f : Nat) (L : Array Bool) (a : Act) (w : World), wpAny P md l.toArray Q f L a w → wpAnyIn (Fence.wide.inRound lp) n P md l.toArray Q f L a w
  | 0, _, _, _, h => h
  | f + 1, L, a, w, h => ⟨h.1, fun i hi => by
    have h1 := h.2 i hi
    unfold wpOp at h1
    unfold wpOpIn
    cases ho : l.toArray[i]? with
    | none => rw [ho] at h1; exact wpAnyIn_of hd hQ f _ a w h1
    | some o =>
      rw [ho] at h1
      simp only at h1 ⊢
      split
      · rename_i hw
        rw [if_pos hw] at h1
        rcases h1 with h1 | h1
        · exact Oper.wpIn_mono (fun a' w' hk => wpAnyIn_of hd hQ f _ a' w' hk) (oper_in (noDefer_spec hd ho) h1)
        · exact absurd h1.2 hQ
      · rename_i hw
        rw [if_neg hw] at h1
        exact ⟨fun _ _ => trivial, wpAnyIn_of hd hQ f _ _ w h1⟩⟩
/-- A region that draws its order, in a round. -/
theorem wpIn_region_wide {id : Nat} {a : Act} {w : World} {lops : List Oper} (hm : P.follows .mixedOrders = true) (hd : noDefer lops = true) (hQ : ¬ LetsOut Q)
    (h : wpAny P .any lops.toArray Q lops.toArray.size (Array.replicate lops.toArray.size false) a { w with drawn := w.drawn + 1 }) : (Code.region id lops.toArray true).wpIn (Fence.wide.inRound lp) n P Q a w :=
  wpIn_region_any hm (wpAnyIn_of hd hQ _ _ _ _ h)
theorem ownPostG_out {α : Type} {B : Nat} {Kp : World → World → Prop} {I : List α → World → Prop} {Ix : Code → List α → World → Prop} {xs : List α} {W : World} : ¬ LetsOut (ownPostG B Kp I Ix xs W) := fun ⟨_, _, h⟩ => h
theorem then_out {K : Act → World → Prop} (h : ¬ LetsOut Q) : ¬ LetsOut (Exit.then K Q) := fun ⟨a, w, h1⟩ => h ⟨a, w, h1⟩
theorem block_out {i : Nat} (h : ¬ LetsOut Q) : ¬ LetsOut (Exit.inBlock i Q) := fun ⟨a, w, h1⟩ => h ⟨a, w, h1⟩
end
section
variable {P : Program} {lops : List Oper} {w0 : World} {a0 : Act} {af : (Nat → Par) → Act}
theorem any_region_L {Q : Exit → Act → World → Prop} (an : List (List Nat)) (m1 : List Bool) (st : List St) (shape : Nat → Par → Value) (R : Nat → (Nat → Par) → (Nat → Prop) → World → Prop) (bf : Act → (Nat → Par) → Act)
    (hb : regB .any lops an m1 (List.replicate lops.length false) st = true) (hbf : ∀ x, putH shape x lops st a0 = bf a0 x) (ds : List Tmp) (hds : slotsB m1 (List.replicate lops.length false) lops ds = true)
    (hq : ∀ (x : Nat → Par) (D : World → Prop), Good (fun k => k < w0.heap.size) w0 D → wpQuiet P lops.toArray (fun w' => ∃ y : Of D, w' = y.val) (fun a' => a' = af x) (takeOps m1 lops) (bf a0 x))
    (hcall : ∀ d ∈ ds, ∀ (x x' : Nat → Par), (af x).tmps.getD d undef = (af x').tmps.getD d undef)
    (hob : obls P lops an st (fun _ _ => False) w0 af shape R st) (how : owes R st)
    (hfin : ∀ (x : Nat → Par) (w : World) (F : Nat → Nat → Prop), Later w0 w → lives st R x F w st → Aparts st F → Q .normal (af x) w) : wpAny P .any lops.toArray Q lops.toArray.size (Array.replicate lops.toArray.size false) a0 { w0 with drawn := w0.drawn + 1 } := by
  refine any_region_XA (b := af) (af := af) an m1 (List.replicate lops.length false) st shape (fun _ _ => False) R (fun k => k < w0.heap.size) (fun k => k < w0.heap.size) hb (fun k hk => ⟨hk, fun i _ s _ h => h.elim⟩) (fun k hk => ⟨hk, fun i _ s _ h => h.elim⟩)
    (fun s _ k h => h.elim) (fun s _ s' _ _ k h => h.elim) (fun x D hD => by rw [hbf]; exact hq x D hD) (fun x D hD => by rw [take_none]; exact wpQuiet_nil rfl) hds hcall hob how fun x w F hk hl hap => hfin x w F ⟨hk.os, hk.tape, hk.output, hk.size, fun k h => hk.block k ⟨h, fun _ _ h => h⟩⟩ hl hap
end
end Go.Proofs.Ytiggefmckomilaa
