/-
  Ranges over functions: small laws.
-/
import Derived.Test.YtidbjidcjmbnlaaRegY
import Derived.RangeFuncNested
import Derived.RangeFuncBound
import Derived.RangeFuncCalls
import Derived.RangeFuncLeaves
import Derived.Shelf.Abstract
import Derived.Shelf.RegionOpen
import Derived.OwnWalkIn
import Derived.TacticsInMore
import Derived.LoopNIn
import Derived.LoopIn
set_option linter.unusedSimpArgs false
set_option linter.unusedVariables false
namespace Go.Proofs.Ytidbjidcjmbnlaa
open Go Go.RowKit


theorem code_worldIn {F : Fence} {n : Nat} {P : Program} {c : Code} {Q : Exit → Act → World → Prop} {a : Act} {w : World} (h : ∀ W, W = w → c.wpIn F n P Q a W) : c.wpIn F n P Q a w := h w rfl
theorem grown_of_below {w w' : World} (h : Below w.heap.size w w') : w.grownBy w' none := ⟨h.os, h.tape, h.output, h.size, fun k hk _ => h.block k hk⟩
theorem abides_below {β : Type} {B : Nat} {J : β → World → Prop} (hJ : AbidesFrom B J) {s : β} {w w' : World} (h : J s w) (hb : Below w.heap.size w w') : J s w' :=
  hJ s w w' none h (grown_of_below hb) (fun r e => by cases e)
theorem blk_belowN {B : Nat} {w w' : World} {g : Nat} {t : TypeId} {cs : Array Value} (h : Blk w g t cs) (hb : Below B w w') (hg : g < B) : Blk w' g t cs := (hb.block g hg).trans h
/-- The blocks of S lie as they lay. -/
structure KeptS (S : Nat → Prop) (X Y : World) : Prop where
  size : X.heap.size ≤ Y.heap.size
  block : ∀ k, S k → k < X.heap.size → Y.heap[k]? = X.heap[k]?
theorem KeptS.refl (S : Nat → Prop) (X : World) : KeptS S X X := ⟨Nat.le_refl _, fun _ _ _ => rfl⟩
theorem KeptS.trans {S : Nat → Prop} {X Y Z : World} (h : KeptS S X Y) (k : KeptS S Y Z) : KeptS S X Z :=
  ⟨Nat.le_trans h.size k.size, fun i hi hl => (k.block i hi (Nat.lt_of_lt_of_le hl h.size)).trans (h.block i hi hl)⟩
theorem KeptS.of_grown {S : Nat → Prop} {X Y : World} {row : Option Nat} (hg : X.grownBy Y row) (hr : ∀ k, row = some k → ¬ S k) : KeptS S X Y :=
  ⟨hg.size, fun k hk hl => hg.block k hl fun e => hr k e.symm hk⟩
theorem KeptS.of_below {S : Nat → Prop} {B : Nat} {X Y : World} (hb : Below B X Y) (hS : ∀ k, S k → k < B) : KeptS S X Y := ⟨hb.size, fun k hk _ => hb.block k (hS k hk)⟩
theorem KeptS.putObj {S : Nat → Prop} {B : Nat} (hS : ∀ k, S k → k < B) (W : World) (l : Nat) (o' : Obj) (hl : B ≤ l) : KeptS S W (W.putObj l o') :=
  .of_grown (grownBy_putObj' W l o') fun k e hk => by cases e; have := hS l hk; omega
theorem blk_keptS {S : Nat → Prop} {X Y : World} {g : Nat} {t : TypeId} {cs : Array Value} (h : Blk X g t cs) (hk : KeptS S X Y) (hs : S g) : Blk Y g t cs := (hk.block g hs h.lt).trans h
theorem cell_of_heap {X Y : World} {k o : Nat} (h : Y.heap[k]? = X.heap[k]?) : Y.cell? ⟨k, o, none⟩ = X.cell? ⟨k, o, none⟩ := by
  unfold World.cell?
  simp only [h]

/-- The marks that loops over functions leave among the deferred calls. -/
def markD (D : Nat) : Deferred := { target := .collected D, args := #[] }
def MarksOK (B : Nat) (Ds : List Nat) (w : World) : Prop := Ds.Nodup ∧ ∀ D, D ∈ Ds → B ≤ D ∧ w.heap[D]? = some (.deferred (some []))
theorem MarksOK.lt {B : Nat} {Ds : List Nat} {w : World} (h : MarksOK B Ds w) : ∀ D, D ∈ Ds → D < w.heap.size := fun D hD => (Array.getElem?_eq_some_iff.1 (h.2 D hD).2).1
/-- A step that turns no mark. -/
theorem MarksOK.kept {B : Nat} {Ds : List Nat} {w w' : World} {row : Option Nat} (h : MarksOK B Ds w) (hg : w.grownBy w' row) (hr : ∀ k, row = some k → k ∉ Ds) : MarksOK B Ds w' :=
  ⟨h.1, fun D hD => ⟨(h.2 D hD).1, (hg.block D (h.lt D hD) (fun e => hr D e.symm hD)).trans (h.2 D hD).2⟩⟩
theorem MarksOK.later {B : Nat} {Ds : List Nat} {w w' : World} (h : MarksOK B Ds w) (hl : Below w.heap.size w w') : MarksOK B Ds w' := h.kept (grown_of_below hl) (fun k e => by cases e)
/-- A block of cells is no mark. -/
theorem MarksOK.cells {B : Nat} {Ds : List Nat} {w : World} {g : Nat} {t : TypeId} {cs : Array Value} (h : MarksOK B Ds w) (hb : Blk w g t cs) : g ∉ Ds := fun hD => by
  have h1 := (h.2 g hD).2
  have h2 : w.heap[g]? = some (.cells cs t (0, 0)) := hb
  rw [h2] at h1
  cases h1
theorem MarksOK.setCell {B : Nat} {Ds : List Nat} {w : World} {g : Nat} {t : TypeId} {cs : Array Value} (h : MarksOK B Ds w) (hb : Blk w g t cs) (o : Nat) (v : Value) : MarksOK B Ds (w.setCell ⟨g, o, none⟩ v) :=
  ⟨h.1, fun D hD => ⟨(h.2 D hD).1, (Below.heap_setCell _ _ _ D (fun e => h.cells hb (by have e' : D = g := e; rw [← e']; exact hD))).trans (h.2 D hD).2⟩⟩
theorem MarksOK.cons {B : Nat} {Ds : List Nat} {w : World} {D : Nat} (h : MarksOK B Ds w) (hn : D ∉ Ds) (hB : B ≤ D) (hD : w.heap[D]? = some (.deferred (some []))) : MarksOK B (D :: Ds) w :=
  ⟨List.nodup_cons.2 ⟨hn, h.1⟩, fun E hE => by
    rcases List.mem_cons.1 hE with rfl | hE
    · exact ⟨hB, hD⟩
    · exact h.2 E hE⟩
/-- At the return the marks are shut: cells lie as they lay. -/
theorem leaves_marks {F : Fence} {n : Nat} {P : Program} {fn : Func} {tmps : Array Value} {R : Ending → World → Prop} {B : Nat} : ∀ (Ds : List Nat) (w : World), MarksOK B Ds w → B ≤ w.heap.size →
    (∀ w', Below B w w' → (∀ g t cs, Blk w g t cs → Blk w' g t cs) → LeavesIn F n P fn tmps R [] .returning w') → LeavesInM F n P fn tmps R (Ds.map markD) .returning w
  | [], w, _, hB, h => h w (Below.refl _ _) (fun _ _ _ hb => hb)
  | D :: Ds, w, hm, hB, h => by
    obtain ⟨h1, h2⟩ := hm.2 D List.mem_cons_self
    have hlt := (Array.getElem?_eq_some_iff.1 h2).1
    have hnd := List.nodup_cons.1 hm.1
    have hm2 : MarksOK B Ds (w.putObj D (.deferred none)) := ⟨hnd.2, fun E hE => ⟨(hm.2 E (List.mem_cons_of_mem _ hE)).1, (World.putObj_heap_other (fun e => hnd.1 (by first | (rw [e]; exact hE) | (rw [← e]; exact hE)))).trans (hm.2 E (List.mem_cons_of_mem _ hE)).2⟩⟩
    have hb : Below B w (w.putObj D (.deferred none)) := (Below.refl B w).grown (grownBy_putObj' w D _) hB (fun k e => by cases e; exact h1)
    refine ⟨by simp, .inl ⟨D, _, rfl, run_takeDeferred h2, leaves_marks Ds _ hm2 (Nat.le_trans hB hb.size) fun w' hb' hc => h w' (hb.trans hb') fun g t cs hg => hc g t cs ?_⟩⟩
    refine (World.putObj_heap_other (fun e => ?_)).trans hg
    have h4 : w.heap[g]? = some (.cells cs t (0, 0)) := hg
    rw [e, h2] at h4
    cases h4

theorem keepf_later {B : Nat} {X W W' : World} (h : KeepsFrom B X W) (hb : Below W.heap.size W W') : KeepsFrom B X W' := h.trans (KeepsFrom.of_grownBy (grown_of_below hb) fun _ e => by cases e)
theorem kepts_later {S : Nat → Prop} {X W W' : World} (h : KeptS S X W) (hb : Below W.heap.size W W') : KeptS S X W' := h.trans (KeptS.of_grown (grown_of_below hb) fun _ e => by cases e)
theorem keepf_alloc {B : Nat} {X W : World} (h : KeepsFrom B X W) (o : Obj) : KeepsFrom B X (W.alloc o) := h.trans ((KeepsOthers.alloc _ _).from _)
theorem keepf_set {B : Nat} {X W : World} (h : KeepsFrom B X W) (a : Addr) (v : Value) : KeepsFrom B X (W.setCell a v) := h.trans ((KeepsOthers.setCell _ _ _).from _)
theorem kepts_alloc {S : Nat → Prop} {X W : World} (h : KeptS S X W) (o : Obj) : KeptS S X (W.alloc o) := h.trans (KeptS.of_grown (World.grownBy_alloc W o none) fun _ e => by cases e)
theorem kepts_set {S : Nat → Prop} {X W : World} {g : Nat} (h : KeptS S X W) (hg : ¬ S g) (o : Nat) (v : Value) : KeptS S X (W.setCell ⟨g, o, none⟩ v) :=
  ⟨by simpa using h.size, fun k hk hl => (Below.heap_setCell _ _ _ k (fun e => hg (by have e' : k = g := e; rw [← e']; exact hk))).trans (h.block k hk hl)⟩
theorem MarksOK.set_ {B : Nat} {Ds : List Nat} {w : World} {g : Nat} (h : MarksOK B Ds w) (hg : g ∉ Ds) (o : Nat) (v : Value) : MarksOK B Ds (w.setCell ⟨g, o, none⟩ v) :=
  ⟨h.1, fun D hD => ⟨(h.2 D hD).1, (Below.heap_setCell _ _ _ D (fun e => hg (by have e' : D = g := e; rw [← e']; exact hD))).trans (h.2 D hD).2⟩⟩
theorem grown_set (W : World) (g o : Nat) (v : Value) : W.grownBy (W.setCell ⟨g, o, none⟩ v) (some g) :=
  ⟨rfl, rfl, rfl, by simp, fun k _ hk => Below.heap_setCell _ _ _ k (fun e => hk (by rw [e]))⟩
theorem own_set {w : World} {base : Nat} {e : TypeId} {size n : Nat} {v : Value} {xs : List Value} {g : Nat} (h : w.ownsRow base e size v n xs) (hne : v.ownBlock ≠ some g) (o : Nat) (u : Value) : (w.setCell ⟨g, o, none⟩ u).ownsRow base e size v n xs := own_grown h (grown_set w g o u) hne
theorem keepf_to {B : Nat} {a W x : World} (h : W = x) (hp : KeepsFrom B a x) : KeepsFrom B a W := h ▸ hp
theorem kepts_to {S : Nat → Prop} {a W x : World} (h : W = x) (hp : KeptS S a x) : KeptS S a W := h ▸ hp
theorem ownFrom_ex {β γ : Type} {B : Nat} {J : γ → β → World → Prop} (h : ∀ c, OwnFrom B (J c)) : OwnFrom B (fun s W => ∃ c, J c s W) := fun s W W' row ⟨c, hc⟩ hg hr => ⟨c, h c s W W' row hc hg hr⟩
/-- A range over a function with one variable. -/
theorem wp_range1 {α : Type} {P : Program} {g : Operand} {p d : Tmp} {assign body : Code} {Q : Exit → Act → World → Prop} {T : Array Value} {ds : List Deferred} {w : World}
    {gf : Nat} {lb : Array Value} (hg : (⟨T, ds⟩ : Act).eval g = .func (.func gf) #[] lb) (eg : ∀ args w, (callFunc gf args).run P w = .ok (.enter gf args) w)
    {v0 : α → Value} {Kp : World → World → Prop} {S Sp : List α → Prop} {N : Nat} {w0 : World} (hseq : SeqStopsK Fence.wide 7 P gf lb (fun x => #[v0 x]) Kp S Sp N w0)
    (hKt : ∀ {A B C : World}, Kp A B → Kp B C → Kp A C) (hKb : ∀ (W : World) (l : Nat) (o' : Obj), w.heap.size ≤ l → Kp W (W.putObj l o')) (hKr : ∀ W, Kp W W) (hb0 : Below w0.heap.size w0 w)
    (I : List α → World → Prop) (Ix : Code → List α → World → Prop) (hI : OwnFrom w.heap.size I) (hIx : ∀ c, OwnFrom w.heap.size (Ix c)) (hIs : ∀ pre W, I pre W → w.heap.size ≤ W.heap.size) (h0 : I [] w)
    (hassign : ∀ (l : Nat) (x : α) (W : World) (K : Act → World → Prop), K ⟨(T.setIfInBounds p (v0 x)).setIfInBounds d (v0 x), []⟩ W →
      assign.wpIn (Fence.wide.inRound l) 6 P (Exit.then K (fun _ _ _ => False)) ⟨T.setIfInBounds p (v0 x), []⟩ W)
    (hbody : ∀ (l : Nat) (pre : List α) (x : α) (W : World), I pre W → pre.length < N →
      body.wpIn (Fence.wide.inRound l) 6 P (ownPostG w.heap.size Kp I Ix (pre ++ [x]) W) ⟨(T.setIfInBounds p (v0 x)).setIfInBounds d (v0 x), []⟩ W)
    (hdone : ∀ (D : Nat) (xs : List α) (W : World), w.heap.size ≤ D → S xs → I xs W → W.heap[D]? = some (.deferred (some [])) → Q .normal ⟨T, markD D :: ds⟩ W)
    (hstop : ∀ (D : Nat) (c : Code) (pre : List α) (W : World), w.heap.size ≤ D → Sp pre → Ix c pre W → W.heap[D]? = some (.deferred (some [])) → c.wp P Q ⟨T, markD D :: ds⟩ W) :
    (Code.rangeFunc g #[p] assign body).wp P Q ⟨T, ds⟩ w := by
  refine wpIn_wide.1 (wpIn_rangeFunc_ownH (F := Fence.wide) (n := 8) rfl (by omega) (gf := gf) (lb := lb) hg trivial eg hseq (fun h k => hKt h k) (fun W l o o' hl _ _ _ => hKb W l o' hl) hb0 (fun _ => rfl) I Ix hI hIx h0
    (fun x a' W => a' = ⟨(T.setIfInBounds p (v0 x)).setIfInBounds d (v0 x), []⟩)
    ?_ ?_ ?_ ?_ ?_)
  · intro x a' s W W' row h3 hgr hr
    exact h3
  · intro l pre x W K hi hK
    have hz : (#[p].zip #[v0 x]).foldl (fun t (y : Tmp × Value) => t.setIfInBounds y.1 y.2) T = T.setIfInBounds p (v0 x) := by simp [Array.zip]
    show Code.wpIn (Fence.wide.inRound l) 6 P assign _ ⟨(#[p].zip #[v0 x]).foldl (fun t (y : Tmp × Value) => t.setIfInBounds y.1 y.2) T, []⟩ W
    rw [hz]
    exact hassign l x W K (hK _ _ (KeepsFrom.refl _ _) (hKr _) hi rfl)
  · rintro l pre x a' W hl - hi rfl hlen
    exact hbody l pre x W hi hlen
  · exact fun D xs W h1 h2 h3 h4 => hdone D xs W h1 h2 h3 h4
  · exact fun D c pre W h1 h2 h3 h4 => wpIn_wide.2 (hstop D c pre W h1 h2 h3 h4)
end Go.Proofs.Ytidbjidcjmbnlaa
