/-
  Ranges over functions: small laws.
  Ranges over functions whose elements lie in memory that the iterator has just laid: the iterator tells the body what lies there.
-/
import Derived.Test.YtllpffkifleigaaWbRefDivs
import Derived.RangeFuncNested
import Derived.RangeFuncBound
import Derived.RangeFuncCalls
import Derived.RangeFuncLeaves
import Derived.Shelf.Abstract
import Derived.Shelf.RegionOpen
import Derived.OwnWalkIn
import Derived.TacticsInMore
import Derived.LoopNIn
import Derived.LoopIn
set_option linter.unusedSimpArgs false
set_option linter.unusedVariables false
section
namespace Go.Proofs.Ytllpffkifleigaa
open Go Go.RowKit


theorem at_worldIn {F : Fence} {n : Nat} {P : Program} {f : FuncId} {args : Array Value} {w : World} {R : Ending → World → Prop} (h : ∀ W, W = w → CallsIn F n P f args W R) : CallsIn F n P f args w R := h w rfl
theorem code_worldIn {F : Fence} {n : Nat} {P : Program} {c : Code} {Q : Exit → Act → World → Prop} {a : Act} {w : World} (h : ∀ W, W = w → c.wpIn F n P Q a W) : c.wpIn F n P Q a w := h w rfl
theorem grown_of_below {w w' : World} (h : Below w.heap.size w w') : w.grownBy w' none := ⟨h.os, h.tape, h.output, h.size, fun k hk _ => h.block k hk⟩
theorem abides_below {β : Type} {B : Nat} {J : β → World → Prop} (hJ : AbidesFrom B J) {s : β} {w w' : World} (h : J s w) (hb : Below w.heap.size w w') : J s w' :=
  hJ s w w' none h (grown_of_below hb) (fun r e => by cases e)
theorem blk_belowN {B : Nat} {w w' : World} {g : Nat} {t : TypeId} {cs : Array Value} (h : Blk w g t cs) (hb : Below B w w') (hg : g < B) : Blk w' g t cs := (hb.block g hg).trans h
/-- The blocks of S lie as they lay. -/
structure KeptS (S : Nat → Prop) (X Y : World) : Prop where
  size : X.heap.size ≤ Y.heap.size
  block : ∀ k, S k → k < X.heap.size → Y.heap[k]? = X.heap[k]?
theorem KeptS.refl (S : Nat → Prop) (X : World) : KeptS S X X := ⟨Nat.le_refl _, fun _ _ _ => rfl⟩
theorem KeptS.trans {S : Nat → Prop} {X Y Z : World} (h : KeptS S X Y) (k : KeptS S Y Z) : KeptS S X Z :=
  ⟨Nat.le_trans h.size k.size, fun i hi hl => (k.block i hi (Nat.lt_of_lt_of_le hl h.size)).trans (h.block i hi hl)⟩
theorem KeptS.of_grown {S : Nat → Prop} {X Y : World} {row : Option Nat} (hg : X.grownBy Y row) (hr : ∀ k, row = some k → ¬ S k) : KeptS S X Y :=
  ⟨hg.size, fun k hk hl => hg.block k hl fun e => hr k e.symm hk⟩
theorem KeptS.of_below {S : Nat → Prop} {B : Nat} {X Y : World} (hb : Below B X Y) (hS : ∀ k, S k → k < B) : KeptS S X Y := ⟨hb.size, fun k hk _ => hb.block k (hS k hk)⟩
theorem KeptS.putObj {S : Nat → Prop} {B : Nat} (hS : ∀ k, S k → k < B) (W : World) (l : Nat) (o' : Obj) (hl : B ≤ l) : KeptS S W (W.putObj l o') :=
  .of_grown (grownBy_putObj' W l o') fun k e hk => by cases e; have := hS l hk; omega
theorem blk_keptS {S : Nat → Prop} {X Y : World} {g : Nat} {t : TypeId} {cs : Array Value} (h : Blk X g t cs) (hk : KeptS S X Y) (hs : S g) : Blk Y g t cs := (hk.block g hs h.lt).trans h
theorem cell_of_heap {X Y : World} {k o : Nat} (h : Y.heap[k]? = X.heap[k]?) : Y.cell? ⟨k, o, none⟩ = X.cell? ⟨k, o, none⟩ := by
  unfold World.cell?
  simp only [h]

/-- The marks that loops over functions leave among the deferred calls. -/
def markD (D : Nat) : Deferred := { target := .collected D, args := #[] }
def MarksOK (B : Nat) (Ds : List Nat) (w : World) : Prop := Ds.Nodup ∧ ∀ D, D ∈ Ds → B ≤ D ∧ w.heap[D]? = some (.deferred (some []))
theorem marks_nil (B : Nat) (w : World) : MarksOK B [] w := ⟨List.nodup_nil, fun D h => by cases h⟩
theorem MarksOK.lt {B : Nat} {Ds : List Nat} {w : World} (h : MarksOK B Ds w) : ∀ D, D ∈ Ds → D < w.heap.size := fun D hD => (Array.getElem?_eq_some_iff.1 (h.2 D hD).2).1
/-- A step that turns no mark. -/
theorem MarksOK.kept {B : Nat} {Ds : List Nat} {w w' : World} {row : Option Nat} (h : MarksOK B Ds w) (hg : w.grownBy w' row) (hr : ∀ k, row = some k → k ∉ Ds) : MarksOK B Ds w' :=
  ⟨h.1, fun D hD => ⟨(h.2 D hD).1, (hg.block D (h.lt D hD) (fun e => hr D e.symm hD)).trans (h.2 D hD).2⟩⟩
theorem MarksOK.later {B : Nat} {Ds : List Nat} {w w' : World} (h : MarksOK B Ds w) (hl : Below w.heap.size w w') : MarksOK B Ds w' := h.kept (grown_of_below hl) (fun k e => by cases e)
/-- A block of cells is no mark. -/
theorem MarksOK.cells {B : Nat} {Ds : List Nat} {w : World} {g : Nat} {t : TypeId} {cs : Array Value} (h : MarksOK B Ds w) (hb : Blk w g t cs) : g ∉ Ds := fun hD => by
  have h1 := (h.2 g hD).2
  have h2 : w.heap[g]? = some (.cells cs t (0, 0)) := hb
  rw [h2] at h1
  cases h1
theorem MarksOK.setCell {B : Nat} {Ds : List Nat} {w : World} {g : Nat} {t : TypeId} {cs : Array Value} (h : MarksOK B Ds w) (hb : Blk w g t cs) (o : Nat) (v : Value) : MarksOK B Ds (w.setCell ⟨g, o, none⟩ v) :=
  ⟨h.1, fun D hD => ⟨(h.2 D hD).1, (Below.heap_setCell _ _ _ D (fun e => h.cells hb (by have e' : D = g := e; rw [← e']; exact hD))).trans (h.2 D hD).2⟩⟩
theorem MarksOK.cons {B : Nat} {Ds : List Nat} {w : World} {D : Nat} (h : MarksOK B Ds w) (hn : D ∉ Ds) (hB : B ≤ D) (hD : w.heap[D]? = some (.deferred (some []))) : MarksOK B (D :: Ds) w :=
  ⟨List.nodup_cons.2 ⟨hn, h.1⟩, fun E hE => by
    rcases List.mem_cons.1 hE with rfl | hE
    · exact ⟨hB, hD⟩
    · exact h.2 E hE⟩
/-- At the return the marks are shut: cells lie as they lay. -/
theorem leaves_marks {F : Fence} {n : Nat} {P : Program} {fn : Func} {tmps : Array Value} {R : Ending → World → Prop} {B : Nat} : ∀ (Ds : List Nat) (w : World), MarksOK B Ds w → B ≤ w.heap.size →
    (∀ w', Below B w w' → (∀ g t cs, Blk w g t cs → Blk w' g t cs) → LeavesIn F n P fn tmps R [] .returning w') → LeavesInM F n P fn tmps R (Ds.map markD) .returning w
  | [], w, _, hB, h => h w (Below.refl _ _) (fun _ _ _ hb => hb)
  | D :: Ds, w, hm, hB, h => by
    obtain ⟨h1, h2⟩ := hm.2 D List.mem_cons_self
    have hlt := (Array.getElem?_eq_some_iff.1 h2).1
    have hnd := List.nodup_cons.1 hm.1
    have hm2 : MarksOK B Ds (w.putObj D (.deferred none)) := ⟨hnd.2, fun E hE => ⟨(hm.2 E (List.mem_cons_of_mem _ hE)).1, (World.putObj_heap_other (fun e => hnd.1 (by first | (rw [e]; exact hE) | (rw [← e]; exact hE)))).trans (hm.2 E (List.mem_cons_of_mem _ hE)).2⟩⟩
    have hb : Below B w (w.putObj D (.deferred none)) := (Below.refl B w).grown (grownBy_putObj' w D _) hB (fun k e => by cases e; exact h1)
    refine ⟨by simp, .inl ⟨D, _, rfl, run_takeDeferred h2, leaves_marks Ds _ hm2 (Nat.le_trans hB hb.size) fun w' hb' hc => h w' (hb.trans hb') fun g t cs hg => hc g t cs ?_⟩⟩
    refine (World.putObj_heap_other (fun e => ?_)).trans hg
    have h4 : w.heap[g]? = some (.cells cs t (0, 0)) := hg
    rw [e, h2] at h4
    cases h4

/-- What a loop over a function keeps: old memory, marks, blocks of cells. -/
def BI (base B : Nat) (w : World) (Ds : List Nat) (l : List (Nat × TypeId × Array Value)) (W : World) : Prop := Below base w W ∧ MarksOK base Ds W ∧ B ≤ W.heap.size ∧ ∀ x, x ∈ l → Blk W x.1 x.2.1 x.2.2
theorem BI_own {β : Type} {base B : Nat} {w : World} {Ds : List Nat} {f : β → List (Nat × TypeId × Array Value)} (hb : base ≤ B) (hD : ∀ D, D ∈ Ds → D < B) : OwnFrom B (fun s W => BI base B w Ds (f s) W) :=
  fun s W W' row hs hg hr => ⟨hs.1.grown hg (Nat.le_trans hb hs.2.2.1) (fun k e => Nat.le_trans hb (hr k e).1), hs.2.1.kept hg (fun k e hk => by have := hD k hk; have := (hr k e).1; omega), Nat.le_trans hs.2.2.1 hg.size,
    fun x hx => blk_grown (hs.2.2.2 x hx) hg (fun e => by
      obtain ⟨-, o, ho, hc⟩ := hr x.1 e
      have h2 : W.heap[x.1]? = some (.cells x.2.2 x.2.1 (0, 0)) := hs.2.2.2 x hx
      rw [h2] at ho
      cases ho
      cases hc)⟩

theorem keepf_later {B : Nat} {X W W' : World} (h : KeepsFrom B X W) (hb : Below W.heap.size W W') : KeepsFrom B X W' := h.trans (KeepsFrom.of_grownBy (grown_of_below hb) fun _ e => by cases e)
theorem kepts_later {S : Nat → Prop} {X W W' : World} (h : KeptS S X W) (hb : Below W.heap.size W W') : KeptS S X W' := h.trans (KeptS.of_grown (grown_of_below hb) fun _ e => by cases e)
theorem keepf_alloc {B : Nat} {X W : World} (h : KeepsFrom B X W) (o : Obj) : KeepsFrom B X (W.alloc o) := h.trans ((KeepsOthers.alloc _ _).from _)
theorem keepf_set {B : Nat} {X W : World} (h : KeepsFrom B X W) (a : Addr) (v : Value) : KeepsFrom B X (W.setCell a v) := h.trans ((KeepsOthers.setCell _ _ _).from _)
theorem kepts_alloc {S : Nat → Prop} {X W : World} (h : KeptS S X W) (o : Obj) : KeptS S X (W.alloc o) := h.trans (KeptS.of_grown (World.grownBy_alloc W o none) fun _ e => by cases e)
theorem kepts_set {S : Nat → Prop} {X W : World} {g : Nat} (h : KeptS S X W) (hg : ¬ S g) (o : Nat) (v : Value) : KeptS S X (W.setCell ⟨g, o, none⟩ v) :=
  ⟨by simpa using h.size, fun k hk hl => (Below.heap_setCell _ _ _ k (fun e => hg (by have e' : k = g := e; rw [← e']; exact hk))).trans (h.block k hk hl)⟩
theorem MarksOK.alloc_ {B : Nat} {Ds : List Nat} {w : World} (h : MarksOK B Ds w) (o : Obj) : MarksOK B Ds (w.alloc o) := h.kept (World.grownBy_alloc w o none) fun _ e => by cases e
theorem MarksOK.set_ {B : Nat} {Ds : List Nat} {w : World} {g : Nat} (h : MarksOK B Ds w) (hg : g ∉ Ds) (o : Nat) (v : Value) : MarksOK B Ds (w.setCell ⟨g, o, none⟩ v) :=
  ⟨h.1, fun D hD => ⟨(h.2 D hD).1, (Below.heap_setCell _ _ _ D (fun e => hg (by have e' : D = g := e; rw [← e']; exact hD))).trans (h.2 D hD).2⟩⟩
theorem size_alloc_ {n : Nat} {w : World} (h : n ≤ w.heap.size) (o : Obj) : n ≤ (w.alloc o).heap.size := by simp; omega
theorem size_set_ {n : Nat} {w : World} (h : n ≤ w.heap.size) (a : Addr) (v : Value) : n ≤ (w.setCell a v).heap.size := by simpa using h
theorem blkTo {W x : World} {g : Nat} {t : TypeId} {cs : Array Value} (h : W = x) (hb : Blk x g t cs) : Blk W g t cs := h ▸ hb
theorem blkOf {W : World} {g : Nat} {t : TypeId} {cs cs' : Array Value} (h : Blk W g t cs) (e : cs = cs') : Blk W g t cs' := e ▸ h
theorem grown_set (W : World) (g o : Nat) (v : Value) : W.grownBy (W.setCell ⟨g, o, none⟩ v) (some g) :=
  ⟨rfl, rfl, rfl, by simp, fun k _ hk => Below.heap_setCell _ _ _ k (fun e => hk (by rw [e]))⟩
theorem own_set {w : World} {base : Nat} {e : TypeId} {size n : Nat} {v : Value} {xs : List Value} {g : Nat} (h : w.ownsRow base e size v n xs) (hne : v.ownBlock ≠ some g) (o : Nat) (u : Value) : (w.setCell ⟨g, o, none⟩ u).ownsRow base e size v n xs := own_grown h (grown_set w g o u) hne
theorem own_to {W x : World} {base : Nat} {e : TypeId} {size n : Nat} {v : Value} {xs : List Value} (h : W = x) (hp : x.ownsRow base e size v n xs) : W.ownsRow base e size v n xs := h ▸ hp
theorem marks_to {B : Nat} {Ds : List Nat} {W x : World} (h : W = x) (hp : MarksOK B Ds x) : MarksOK B Ds W := h ▸ hp
theorem below_to {B : Nat} {a W x : World} (h : W = x) (hp : Below B a x) : Below B a W := h ▸ hp
theorem keepf_to {B : Nat} {a W x : World} (h : W = x) (hp : KeepsFrom B a x) : KeepsFrom B a W := h ▸ hp
theorem kepts_to {S : Nat → Prop} {a W x : World} (h : W = x) (hp : KeptS S a x) : KeptS S a W := h ▸ hp
theorem size_to {n : Nat} {W x : World} (h : W = x) (hp : n ≤ x.heap.size) : n ≤ W.heap.size := h ▸ hp
theorem ownFrom_ex {β γ : Type} {B : Nat} {J : γ → β → World → Prop} (h : ∀ c, OwnFrom B (J c)) : OwnFrom B (fun s W => ∃ c, J c s W) := fun s W W' row ⟨c, hc⟩ hg hr => ⟨c, h c s W W' row hc hg hr⟩
theorem blk_of_full {w : World} {base : Nat} {e : TypeId} {g n : Nat} {cs : Array Value} (h : w.ownsRow base e 2 (.slice (some ⟨g, 0, none⟩) n n) n cs.toList) : Blk w g e cs := by
  obtain ⟨hl, hr | ⟨g', cap, cur, hv, hb, hh, h1, h2, h3, h4⟩⟩ := h
  · cases hr.1
  · injection hv with e1 e2 e3
    injection e1 with e1
    injection e1 with e1 _ _
    subst e1 e3
    rw [List.take_of_length_le (by rw [Array.length_toList, h3]; exact Nat.le_refl _)] at h4
    have : cur = cs := Array.toList_inj.1 h4
    subst this
    exact hh

/-- A range over a function with two variables, the second one boxed: in plain words. -/
theorem wp_range2 {α : Type} {P : Program} {g : Operand} {p q d e : Tmp} {assign body : Code} {Q : Exit → Act → World → Prop} {T : Array Value} {ds : List Deferred} {w : World}
    {gf : Nat} {lb : Array Value} (hg : (⟨T, ds⟩ : Act).eval g = .func (.func gf) #[] lb) (eg : ∀ args w, (callFunc gf args).run P w = .ok (.enter gf args) w)
    {v0 v1 : α → Value} {Kp : World → World → Prop} {S Sp : List α → Prop} {N : Nat} {w0 : World} (hseq : SeqStopsK Fence.wide 7 P gf lb (fun x => #[v0 x, v1 x]) Kp S Sp N w0)
    (hKt : ∀ {A B C : World}, Kp A B → Kp B C → Kp A C) (hKb : ∀ (W : World) (l : Nat) (o' : Obj), w.heap.size ≤ l → Kp W (W.putObj l o')) (hKa : ∀ (W : World) (o : Obj), w.heap.size ≤ W.heap.size → Kp W (W.alloc o)) (hb0 : Below w0.heap.size w0 w)
    (I : List α → World → Prop) (Ix : Code → List α → World → Prop) (hI : OwnFrom w.heap.size I) (hIx : ∀ c, OwnFrom w.heap.size (Ix c)) (hIs : ∀ pre W, I pre W → w.heap.size ≤ W.heap.size) (h0 : I [] w) (ty : TypeId) (cs : α → Array Value)
    (hassign : ∀ (l : Nat) (x : α) (W : World) (K : Act → World → Prop), K ⟨(((T.setIfInBounds p (v0 x)).setIfInBounds q (v1 x)).setIfInBounds d (v0 x)).setIfInBounds e (.pointer (some ⟨W.heap.size, 0, none⟩)), []⟩ (W.alloc (.cells (cs x) ty)) →
      assign.wpIn (Fence.wide.inRound l) 6 P (Exit.then K (fun _ _ _ => False)) ⟨(T.setIfInBounds p (v0 x)).setIfInBounds q (v1 x), []⟩ W)
    (hbody : ∀ (l : Nat) (pre : List α) (x : α) (bx : Nat) (W : World), I pre W → w.heap.size ≤ bx → Blk W bx ty (cs x) → pre.length < N →
      body.wpIn (Fence.wide.inRound l) 6 P (ownPostG w.heap.size Kp I Ix (pre ++ [x]) W) ⟨(((T.setIfInBounds p (v0 x)).setIfInBounds q (v1 x)).setIfInBounds d (v0 x)).setIfInBounds e (.pointer (some ⟨bx, 0, none⟩)), []⟩ W)
    (hdone : ∀ (D : Nat) (xs : List α) (W : World), w.heap.size ≤ D → S xs → I xs W → W.heap[D]? = some (.deferred (some [])) → Q .normal ⟨T, markD D :: ds⟩ W)
    (hstop : ∀ (D : Nat) (c : Code) (pre : List α) (W : World), w.heap.size ≤ D → Sp pre → Ix c pre W → W.heap[D]? = some (.deferred (some [])) → c.wp P Q ⟨T, markD D :: ds⟩ W) :
    (Code.rangeFunc g #[p, q] assign body).wp P Q ⟨T, ds⟩ w := by
  refine wpIn_wide.1 (wpIn_rangeFunc_ownH (F := Fence.wide) (n := 8) rfl (by omega) (gf := gf) (lb := lb) hg trivial eg hseq (fun h k => hKt h k) (fun W l o o' hl _ _ _ => hKb W l o' hl) hb0 (fun _ => rfl) I Ix hI hIx h0
    (fun x a' W => ∃ bx, w.heap.size ≤ bx ∧ Blk W bx ty (cs x) ∧ a' = ⟨(((T.setIfInBounds p (v0 x)).setIfInBounds q (v1 x)).setIfInBounds d (v0 x)).setIfInBounds e (.pointer (some ⟨bx, 0, none⟩)), []⟩)
    ?_ ?_ ?_ ?_ ?_)
  · intro x a' s W W' row ⟨bx, h1, h2, h3⟩ hgr hr
    refine ⟨bx, h1, blk_grown h2 hgr (fun er => ?_), h3⟩
    obtain ⟨-, o, ho, hc⟩ := hr bx er
    have h4 : W.heap[bx]? = some (.cells (cs x) ty (0, 0)) := h2
    rw [h4] at ho
    cases ho
    cases hc
  · intro l pre x W K hi hK
    have hz : (#[p, q].zip #[v0 x, v1 x]).foldl (fun t (y : Tmp × Value) => t.setIfInBounds y.1 y.2) T = (T.setIfInBounds p (v0 x)).setIfInBounds q (v1 x) := by simp [Array.zip]
    show Code.wpIn (Fence.wide.inRound l) 6 P assign _ ⟨(#[p, q].zip #[v0 x, v1 x]).foldl (fun t (y : Tmp × Value) => t.setIfInBounds y.1 y.2) T, []⟩ W
    rw [hz]
    exact hassign l x W K (hK _ _ ((KeepsOthers.alloc _ _).from _) (hKa _ _ (hIs _ _ hi)) (hI.alloc _ hi) ⟨W.heap.size, hIs _ _ hi, Blk.new _ _ _, rfl⟩)
  · rintro l pre x a' W hl - hi ⟨bx, h1, h2, rfl⟩ hlen
    exact hbody l pre x bx W hi h1 h2 hlen
  · exact fun D xs W h1 h2 h3 h4 => hdone D xs W h1 h2 h3 h4
  · exact fun D c pre W h1 h2 h3 h4 => wpIn_wide.2 (hstop D c pre W h1 h2 h3 h4)
theorem ownRow_from {β : Type} {B base : Nat} {e : TypeId} {size : Nat} {v : β → Value} {n : β → Nat} {xs : β → List Value} : OwnFrom B (fun s W => W.ownsRow base e size (v s) (n s) (xs s)) :=
  fun s W W' row hs hg hr => hs.kept hg (by
    cases hv : (v s).ownBlock with
    | none => exact .inl rfl
    | some g =>
      refine .inr fun er => ?_
      obtain ⟨-, o, ho, hc⟩ := hr g er.symm
      rcases hs.2 with ⟨h0, -⟩ | ⟨g', cap, cur, h1, -, hh, -⟩
      · rw [h0] at hv; cases hv
      · rw [h1] at hv
        have : g' = g := Option.some.inj hv
        subst this
        rw [hh] at ho
        cases ho
        cases hc)
/-- A range over a function with one variable. -/
theorem wp_range1 {α : Type} {P : Program} {g : Operand} {p d : Tmp} {assign body : Code} {Q : Exit → Act → World → Prop} {T : Array Value} {ds : List Deferred} {w : World}
    {gf : Nat} {lb : Array Value} (hg : (⟨T, ds⟩ : Act).eval g = .func (.func gf) #[] lb) (eg : ∀ args w, (callFunc gf args).run P w = .ok (.enter gf args) w)
    {v0 : α → Value} {Kp : World → World → Prop} {S Sp : List α → Prop} {N : Nat} {w0 : World} (hseq : SeqStopsK Fence.wide 7 P gf lb (fun x => #[v0 x]) Kp S Sp N w0)
    (hKt : ∀ {A B C : World}, Kp A B → Kp B C → Kp A C) (hKb : ∀ (W : World) (l : Nat) (o' : Obj), w.heap.size ≤ l → Kp W (W.putObj l o')) (hKr : ∀ W, Kp W W) (hb0 : Below w0.heap.size w0 w)
    (I : List α → World → Prop) (Ix : Code → List α → World → Prop) (hI : OwnFrom w.heap.size I) (hIx : ∀ c, OwnFrom w.heap.size (Ix c)) (hIs : ∀ pre W, I pre W → w.heap.size ≤ W.heap.size) (h0 : I [] w)
    (hassign : ∀ (l : Nat) (x : α) (W : World) (K : Act → World → Prop), K ⟨(T.setIfInBounds p (v0 x)).setIfInBounds d (v0 x), []⟩ W →
      assign.wpIn (Fence.wide.inRound l) 6 P (Exit.then K (fun _ _ _ => False)) ⟨T.setIfInBounds p (v0 x), []⟩ W)
    (hbody : ∀ (l : Nat) (pre : List α) (x : α) (W : World), I pre W → pre.length < N →
      body.wpIn (Fence.wide.inRound l) 6 P (ownPostG w.heap.size Kp I Ix (pre ++ [x]) W) ⟨(T.setIfInBounds p (v0 x)).setIfInBounds d (v0 x), []⟩ W)
    (hdone : ∀ (D : Nat) (xs : List α) (W : World), w.heap.size ≤ D → S xs → I xs W → W.heap[D]? = some (.deferred (some [])) → Q .normal ⟨T, markD D :: ds⟩ W)
    (hstop : ∀ (D : Nat) (c : Code) (pre : List α) (W : World), w.heap.size ≤ D → Sp pre → Ix c pre W → W.heap[D]? = some (.deferred (some [])) → c.wp P Q ⟨T, markD D :: ds⟩ W) :
    (Code.rangeFunc g #[p] assign body).wp P Q ⟨T, ds⟩ w := by
  refine wpIn_wide.1 (wpIn_rangeFunc_ownH (F := Fence.wide) (n := 8) rfl (by omega) (gf := gf) (lb := lb) hg trivial eg hseq (fun h k => hKt h k) (fun W l o o' hl _ _ _ => hKb W l o' hl) hb0 (fun _ => rfl) I Ix hI hIx h0
    (fun x a' W => a' = ⟨(T.setIfInBounds p (v0 x)).setIfInBounds d (v0 x), []⟩)
    ?_ ?_ ?_ ?_ ?_)
  · intro x a' s W W' row h3 hgr hr
    exact h3
  · intro l pre x W K hi hK
    have hz : (#[p].zip #[v0 x]).foldl (fun t (y : Tmp × Value) => t.setIfInBounds y.1 y.2) T = T.setIfInBounds p (v0 x) := by simp [Array.zip]
    show Code.wpIn (Fence.wide.inRound l) 6 P assign _ ⟨(#[p].zip #[v0 x]).foldl (fun t (y : Tmp × Value) => t.setIfInBounds y.1 y.2) T, []⟩ W
    rw [hz]
    exact hassign l x W K (hK _ _ (KeepsFrom.refl _ _) (hKr _) hi rfl)
  · rintro l pre x a' W hl - hi rfl hlen
    exact hbody l pre x W hi hlen
  · exact fun D xs W h1 h2 h3 h4 => hdone D xs W h1 h2 h3 h4
  · exact fun D c pre W h1 h2 h3 h4 => wpIn_wide.2 (hstop D c pre W h1 h2 h3 h4)
end Go.Proofs.Ytllpffkifleigaa
end
section
namespace Go.Proofs.Ytllpffkifleigaa
open Go Go.RowKit

/-- What speaks of memory below B alone. -/
def LowFrom {β : Type} (B : Nat) (J : β → World → Prop) : Prop := ∀ s W W', J s W → B ≤ W.heap.size → Below B W W' → J s W'
theorem below_put {B l : Nat} {W : World} (o' : Obj) (hB : B ≤ l) (hs : B ≤ W.heap.size) : Below B W (W.putObj l o') := (Below.refl B W).grown (grownBy_putObj' W l o') hs fun k e => by cases e; exact hB
theorem LowFrom.put {β : Type} {B : Nat} {J : β → World → Prop} (h : LowFrom B J) {s : β} {W : World} {l : Nat} (o' : Obj) (hs : J s W) (hB : B ≤ l) (hw : B ≤ W.heap.size) : J s (W.putObj l o') := h s W _ hs hw (below_put o' hB hw)
/-- All cells lie as they lay. -/
structure KeptC (X Y : World) : Prop where
  size : X.heap.size ≤ Y.heap.size
  cells : ∀ (k : Nat) (o : Obj), X.heap[k]? = some o → o.isCells = true → Y.heap[k]? = some o
theorem KeptC.refl (X : World) : KeptC X X := ⟨Nat.le_refl _, fun _ _ h _ => h⟩
theorem KeptC.trans {X Y Z : World} (h : KeptC X Y) (k : KeptC Y Z) : KeptC X Z := ⟨Nat.le_trans h.size k.size, fun i o hi hc => k.cells i o (h.cells i o hi hc) hc⟩
theorem KeptC.putObj (W : World) (l : Nat) (o o' : Obj) (hl : W.heap[l]? = some o) (hc : o.isCells = false) : KeptC W (W.putObj l o') :=
  ⟨by simp, fun k p hk hp => by
    by_cases e : k = l
    · subst e; rw [hl] at hk; injection hk with hk; subst hk; rw [hc] at hp; cases hp
    · exact (World.putObj_heap_other e).trans hk⟩
theorem KeptC.of_below {X Y : World} (h : Below X.heap.size X Y) : KeptC X Y := ⟨h.size, fun k o hk _ => (h.block k (Array.getElem?_eq_some_iff.1 hk).1).trans hk⟩
theorem KeptC.blk {X Y : World} {g : Nat} {t : TypeId} {cs : Array Value} (h : KeptC X Y) (hb : Blk X g t cs) : Blk Y g t cs := h.cells g _ hb rfl
/-- The contract of an iterator that stops: `M` is what it says of each element's memory, ahead of the round. The body speaks of memory below the iterator's own; behind a stop, of any. -/
def SeqM {α : Type} (P : Program) (g : Nat) (lb : Array Value) (v0 : α → Value) (M : List α → α → World → Prop) (Kp : World → World → Prop) (S Sp : List α → Prop) (N : Nat) (w : World) : Prop :=
  ∀ (l : Nat) (J Jx : List α → World → Prop) (W : World), Below w.heap.size w W → LowFrom W.heap.size J → AbidesFrom W.heap.size Jx →
    (∀ pre x W1, J pre W1 → M pre x W1 → pre.length < N → YieldAt Fence.wide 6 P l #[v0 x] W1 fun e W' =>
      (e = .returned (.bool true) ∧ J (pre ++ [x]) W' ∧ Kp W1 W') ∨ (e = .returned (.bool false) ∧ Jx (pre ++ [x]) W')) →
    J [] W → CallsIn Fence.wide 7 P g (#[.func (.yield l) #[] #[]] ++ lb) W fun e W' => (∃ v, e = .returned v) ∧ ((∃ xs, S xs ∧ J xs W') ∨ (∃ pre, Sp pre ∧ Jx pre W'))
/-- The loop's own two blocks: the mark, and behind it the record. -/
structure Bks (D : Nat) (r : Loop) (W : World) : Prop where
  loop : W.heap[D + 1]? = some (.loop r)
  mark : W.heap[D]? = some (.deferred (some []))
theorem Bks.lt {D : Nat} {r : Loop} {W : World} (h : Bks D r W) : D + 1 < W.heap.size := (Array.getElem?_eq_some_iff.1 h.loop).1
theorem Bks.kept {D : Nat} {r : Loop} {W W' : World} (h : Bks D r W) (hk : KeepsFrom D W W') : Bks D r W' := ⟨hk.same _ _ (by omega) h.loop rfl, hk.same _ _ (Nat.le_refl _) h.mark rfl⟩
theorem Bks.walks {D : Nat} {r : Loop} {W W' : World} {row : Option Nat} (h : Bks D r W) (hg : W.grownBy W' row) (hr : ∀ k, row = some k → ∃ o : Obj, W.heap[k]? = some o ∧ o.isWalk = true) : Bks D r W' :=
  ⟨(grownBy_keeps hg hr h.loop rfl).trans h.loop, (grownBy_keeps hg hr h.mark rfl).trans h.mark⟩
theorem Bks.put {D : Nat} {r : Loop} {W : World} (h : Bks D r W) (r' : Loop) : Bks D r' (W.putObj (D + 1) (.loop r')) := ⟨World.putObj_heap_same h.lt, (World.putObj_heap_other (by omega)).trans h.mark⟩
theorem Bks.done {D : Nat} {r : Loop} {W : World} (h : Bks D r W) (o : Obj) : (W.putObj (D + 1) o).heap[D]? = some (.deferred (some [])) := (World.putObj_heap_other (by omega)).trans h.mark
def rcd (fn : FuncId) (T : Array Value) (p : Tmp) (assign body : Code) (D : Nat) (st : LoopState) (pe : Option Code) : Loop := { state := st, pending := pe, fn, tmps := T, params := #[p], assign, body, defers := D }
section
variable {α : Type} {P : Program} {p : Tmp} {assign body : Code} {T : Array Value} {B : Nat}
  {v0 : α → Value} {M : List α → α → World → Prop} {Kp : World → World → Prop} {N : Nat}
/-- One round. -/
theorem round_M (hKt : ∀ {A B C : World}, Kp A B → Kp B C → Kp A C) (hKb : ∀ (W : World) (l : Nat) (o o' : Obj), B ≤ l → W.heap[l]? = some o → o.isCells = false → Kp W (W.putObj l o'))
    (I : List α → World → Prop) (Ix : Code → List α → World → Prop) (hI : LowFrom B I) (hIx : ∀ c, OwnFrom B (Ix c)) (hM : ∀ pre x, OwnFrom B (fun (_ : Unit) W => M pre x W)) (a1 : α → Act) (fn : FuncId)
    (hassign : ∀ (x : α) (W : World) (K : Act → World → Prop), K (a1 x) W → assign.wpIn (Fence.wide.inRound (B + 1)) 6 P (Exit.then K (fun _ _ _ => False)) ⟨T.setIfInBounds p (v0 x), []⟩ W)
    (hbody : ∀ (pre : List α) (x : α) (W : World), I pre W → M pre x W → pre.length < N → body.wpIn (Fence.wide.inRound (B + 1)) 6 P (ownPostG B Kp I Ix (pre ++ [x]) W) (a1 x) W)
    (pre : List α) (x : α) (W : World) (hi : I pre W) (hb : Bks B (rcd fn T p assign body B .ready none) W) (hm : M pre x W) (hn : pre.length < N) :
    YieldAt Fence.wide 6 P (B + 1) #[v0 x] W fun e W' =>
      (e = .returned (.bool true) ∧ (I (pre ++ [x]) W' ∧ Bks B (rcd fn T p assign body B .ready none) W') ∧ Kp W W') ∨
      (e = .returned (.bool false) ∧ ∃ c, Ix c (pre ++ [x]) W' ∧ Bks B (rcd fn T p assign body B .done (some c)) W') := by
  have hy := run_yield (P := P) (args := #[v0 x]) hb.loop rfl
  refine ⟨fn, _, assign, body, hy, roundIn_of_wpIn trivial ?_⟩
  have hz : (#[p].zip #[v0 x]).foldl (fun t (y : Tmp × Value) => t.setIfInBounds y.1 y.2) T = T.setIfInBounds p (v0 x) := by simp [Array.zip]
  show Code.wpIn (Fence.wide.inRound (B + 1)) 6 P assign _ ⟨(#[p].zip #[v0 x]).foldl (fun t (y : Tmp × Value) => t.setIfInBounds y.1 y.2) T, []⟩ W
  rw [hz]
  refine hassign x W _ ?_
  refine ⟨_, run_beginRound hb.loop rfl, ?_⟩
  have hb2 := hb.put (rcd fn T p assign body B .busy none)
  have k1 : Kp W (W.putObj (B + 1) (.loop (rcd fn T p assign body B .busy none))) := hKb _ _ _ _ (by omega) hb.loop rfl
  have hlb := hb.lt
  refine wpIn_mono (hbody pre x _ (hI.put _ hi (by omega) (by omega)) ((hM pre x).putObj (s := ()) _ hm (by omega) hb.loop rfl) hn) ?_
  intro e a3 W3 hp
  have stop : ∀ c, KeepsFrom B (W.putObj (B + 1) (.loop (rcd fn T p assign body B .busy none))) W3 → Ix c (pre ++ [x]) W3 →
      (Instr.endRound (B + 1) (some c)).run P W3 = .ok (.bool false) (W3.putObj (B + 1) (.loop (rcd fn T p assign body B .done (some c)))) ∧ (∃ c', Ix c' (pre ++ [x]) (W3.putObj (B + 1) (.loop (rcd fn T p assign body B .done (some c)))) ∧ Bks B (rcd fn T p assign body B .done (some c')) (W3.putObj (B + 1) (.loop (rcd fn T p assign body B .done (some c))))) := by
    intro c hk hx
    have hb3 := hb2.kept hk
    exact ⟨run_endRound (some c) hb3.loop, c, (hIx c).putObj _ hx (by omega) hb3.loop rfl, hb3.put _⟩
  cases e with
  | normal =>
    obtain ⟨hk, hkp, hi3⟩ := hp
    have hb3 := hb2.kept hk
    exact ⟨_, _, run_endRound none hb3.loop, .inl ⟨rfl, ⟨hI.put _ hi3 (by omega) (by have := hb3.lt; omega), hb3.put _⟩, hKt (hKt k1 hkp) (hKb _ _ _ _ (by omega) hb3.loop rfl)⟩⟩
  | ret => exact ⟨_, _, (stop .ret hp.1 hp.2).1, .inr ⟨rfl, (stop .ret hp.1 hp.2).2⟩⟩
  | exit id => exact ⟨_, _, (stop (.exit id) hp.1 hp.2).1, .inr ⟨rfl, (stop (.exit id) hp.1 hp.2).2⟩⟩
  | goto t => exact ⟨_, _, (stop (.goto t) hp.1 hp.2).1, .inr ⟨rfl, (stop (.goto t) hp.1 hp.2).2⟩⟩
  | panic ch => exact hp.elim
  | outgrown => exact hp.elim
end
/-- A range over such a function, with one variable. -/
theorem wp_rangeM {α : Type} {P : Program} {g : Operand} {p d : Tmp} {assign body : Code} {Q : Exit → Act → World → Prop} {T : Array Value} {ds : List Deferred} {w : World}
    {gf : Nat} {lb : Array Value} (hg : (⟨T, ds⟩ : Act).eval g = .func (.func gf) #[] lb) (eg : ∀ args w, (callFunc gf args).run P w = .ok (.enter gf args) w)
    {v0 : α → Value} {M : List α → α → World → Prop} {Kp : World → World → Prop} {S Sp : List α → Prop} {N : Nat} {w0 : World} (hseq : SeqM P gf lb v0 M Kp S Sp N w0)
    (hKt : ∀ {A B C : World}, Kp A B → Kp B C → Kp A C) (hKb : ∀ (W : World) (l : Nat) (o o' : Obj), w.heap.size ≤ l → W.heap[l]? = some o → o.isCells = false → Kp W (W.putObj l o')) (hb0 : Below w0.heap.size w0 w)
    (hM : ∀ pre x, OwnFrom w.heap.size (fun (_ : Unit) W => M pre x W))
    (I : List α → World → Prop) (Ix : Code → List α → World → Prop) (hI : LowFrom w.heap.size I) (hIx : ∀ c, OwnFrom w.heap.size (Ix c)) (h0 : I [] w)
    (hassign : ∀ (l : Nat) (x : α) (W : World) (K : Act → World → Prop), K ⟨(T.setIfInBounds p (v0 x)).setIfInBounds d (v0 x), []⟩ W →
      assign.wpIn (Fence.wide.inRound l) 6 P (Exit.then K (fun _ _ _ => False)) ⟨T.setIfInBounds p (v0 x), []⟩ W)
    (hbody : ∀ (l : Nat) (pre : List α) (x : α) (W : World), I pre W → M pre x W → pre.length < N →
      body.wpIn (Fence.wide.inRound l) 6 P (ownPostG w.heap.size Kp I Ix (pre ++ [x]) W) ⟨(T.setIfInBounds p (v0 x)).setIfInBounds d (v0 x), []⟩ W)
    (hdone : ∀ (D : Nat) (xs : List α) (W : World), w.heap.size ≤ D → S xs → I xs W → W.heap[D]? = some (.deferred (some [])) → Q .normal ⟨T, markD D :: ds⟩ W)
    (hstop : ∀ (D : Nat) (c : Code) (pre : List α) (W : World), w.heap.size ≤ D → Sp pre → Ix c pre W → W.heap[D]? = some (.deferred (some [])) → c.wp P Q ⟨T, markD D :: ds⟩ W) :
    (Code.rangeFunc g #[p] assign body).wp P Q ⟨T, ds⟩ w := by
  refine wpIn_wide.1 (wpIn_rangeFunc (F := Fence.wide) (n := 8) fun fn _ => ?_)
  have hb1 : Bks w.heap.size (rcd fn T p assign body w.heap.size .ready none) ((w.alloc (.deferred (some []))).alloc (.loop (rcd fn T p assign body w.heap.size .ready none))) := by
    constructor
    · have h := World.alloc_heap_new (w.alloc (.deferred (some []))) (.loop (rcd fn T p assign body w.heap.size .ready none))
      rwa [World.size_alloc] at h
    · exact (Below.heap_alloc _ _ _ (by simp)).trans (World.alloc_heap_new w _)
  have hbw : Below w.heap.size w ((w.alloc (.deferred (some []))).alloc (.loop (rcd fn T p assign body w.heap.size .ready none))) := ((Below.refl _ w).alloc (Nat.le_refl _) _).alloc (by simp) _
  have hsz : w.heap.size + 2 ≤ ((w.alloc (.deferred (some []))).alloc (.loop (rcd fn T p assign body w.heap.size .ready none))).heap.size := by simp
  have hi1 := hI _ _ _ h0 (Nat.le_refl _) hbw
  have hrun : (Instr.enterLoop fn T #[p] assign body none).run P w = .ok (w.heap.size + 1, [markD w.heap.size]) ((w.alloc (.deferred (some []))).alloc (.loop (rcd fn T p assign body w.heap.size .ready none))) := run_enterLoop_outer _ _ _ _ _
  generalize (w.alloc (.deferred (some []))).alloc (.loop (rcd fn T p assign body w.heap.size .ready none)) = W1 at hb1 hbw hsz hi1 hrun
  refine ⟨w.heap.size + 1, [markD w.heap.size], W1, { target := .fn (.func gf) lb, args := #[.func (.yield (w.heap.size + 1)) #[] #[]] }, W1, gf, #[.func (.yield (w.heap.size + 1)) #[] #[]] ++ lb, W1, hrun, ?_, fun _ _ => trivial, ?_, fun _ => by omega, ?_⟩
  · simp only [resolve, hg]
    simp [go_sem]
  · simp [invoke, go_sem, eg]
  have far : ∀ {A : World} {row : Option Nat}, (∀ r, row = some r → W1.heap.size ≤ r ∧ ∃ o : Obj, A.heap[r]? = some o ∧ o.isWalk = true) → ∀ r, row = some r → w.heap.size ≤ r ∧ ∃ o : Obj, A.heap[r]? = some o ∧ o.isCells = false :=
    fun hr r e => by
      obtain ⟨h1, o, ho, hw⟩ := hr r e
      exact ⟨by omega, o, ho, Obj.not_cells_of_walk hw⟩
  refine (hseq (w.heap.size + 1) (fun pre W => I pre W ∧ Bks w.heap.size (rcd fn T p assign body w.heap.size .ready none) W) (fun pre W => ∃ c, Ix c pre W ∧ Bks w.heap.size (rcd fn T p assign body w.heap.size .done (some c)) W)
    W1 (hb0.trans (hbw.mono hb0.size)) ?_ ?_ ?_ ⟨hi1, hb1⟩).mono ?_
  · intro s A C hs hsz' hb'
    refine ⟨hI s A C hs.1 (by omega) (hb'.mono (by omega)), (hb'.block _ (by omega)).trans hs.2.loop, (hb'.block _ (by omega)).trans hs.2.mark⟩
  · rintro s A C row ⟨c, hc, hk⟩ hg' hr
    exact ⟨c, hIx c s A C row hc hg' (far hr), hk.walks hg' fun r e => (hr r e).2⟩
  · rintro pre x W ⟨hi, hb⟩ hm hn
    exact round_M (Kp := Kp) (fun h k => hKt h k) hKb I Ix hI hIx hM (fun x => ⟨(T.setIfInBounds p (v0 x)).setIfInBounds d (v0 x), []⟩) fn (fun x W K hK => hassign _ x W K hK) (fun pre x W h1 h2 h3 => hbody _ pre x W h1 h2 h3) pre x W hi hb hm hn
  · rintro e W2 ⟨⟨v, rfl⟩, ⟨xs, hS, hi, hb⟩ | ⟨pre, hSp, c, hi, hb⟩⟩
    · exact ⟨none, _, run_endLoop hb.loop (by simp [rcd]), hdone _ xs _ (Nat.le_refl _) hS (hI.put _ hi (by omega) (by have := hb.lt; omega)) (hb.done _)⟩
    · exact ⟨some c, _, run_endLoop hb.loop (by simp [rcd]), wpIn_wide.2 (hstop _ c pre _ (Nat.le_refl _) hSp ((hIx c).putObj _ hi (by omega) hb.loop rfl) (hb.done _))⟩
end Go.Proofs.Ytllpffkifleigaa
end
