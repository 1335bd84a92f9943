/-
  Ranges over functions: small laws. Blocked threads: plain laws.
  The ground under a ray: the iterator's contract.
-/
import Derived.Test.YtepgpihobmjbdaaRegQ
import Derived.RangeFuncNested
import Derived.RangeFuncBound
import Derived.RangeFuncCalls
import Derived.RangeFuncLeaves
import Derived.Shelf.Abstract
import Derived.Shelf.RegionOpen
import Derived.OwnWalkIn
import Derived.TacticsInMore
import Derived.LoopNIn
import Derived.LoopIn
import Derived.Test.YtepgpihobmjbdaaRtRrPlaces2
set_option linter.unusedSimpArgs false
set_option linter.unusedVariables false
section
namespace Go.Proofs.Ytepgpihobmjbdaa
open Go Go.RowKit
theorem at_worldIn {F : Fence} {n : Nat} {P : Program} {f : FuncId} {args : Array Value} {w : World} {R : Ending → World → Prop} (h : ∀ W, W = w → CallsIn F n P f args W R) : CallsIn F n P f args w R := h w rfl
theorem code_worldIn {F : Fence} {n : Nat} {P : Program} {c : Code} {Q : Exit → Act → World → Prop} {a : Act} {w : World} (h : ∀ W, W = w → c.wpIn F n P Q a W) : c.wpIn F n P Q a w := h w rfl
theorem grown_of_below {w w' : World} (h : Below w.heap.size w w') : w.grownBy w' none := ⟨h.os, h.tape, h.output, h.size, fun k hk _ => h.block k hk⟩
theorem abides_below {β : Type} {B : Nat} {J : β → World → Prop} (hJ : AbidesFrom B J) {s : β} {w w' : World} (h : J s w) (hb : Below w.heap.size w w') : J s w' :=
  hJ s w w' none h (grown_of_below hb) (fun r e => by cases e)
theorem blk_belowN {B : Nat} {w w' : World} {g : Nat} {t : TypeId} {cs : Array Value} (h : Blk w g t cs) (hb : Below B w w') (hg : g < B) : Blk w' g t cs := (hb.block g hg).trans h
structure KeptS (S : Nat → Prop) (X Y : World) : Prop where
  size : X.heap.size ≤ Y.heap.size
  block : ∀ k, S k → k < X.heap.size → Y.heap[k]? = X.heap[k]?
theorem KeptS.refl (S : Nat → Prop) (X : World) : KeptS S X X := ⟨Nat.le_refl _, fun _ _ _ => rfl⟩
theorem KeptS.trans {S : Nat → Prop} {X Y Z : World} (h : KeptS S X Y) (k : KeptS S Y Z) : KeptS S X Z :=
  ⟨Nat.le_trans h.size k.size, fun i hi hl => (k.block i hi (Nat.lt_of_lt_of_le hl h.size)).trans (h.block i hi hl)⟩
theorem KeptS.of_grown {S : Nat → Prop} {X Y : World} {row : Option Nat} (hg : X.grownBy Y row) (hr : ∀ k, row = some k → ¬ S k) : KeptS S X Y :=
  ⟨hg.size, fun k hk hl => hg.block k hl fun e => hr k e.symm hk⟩
theorem KeptS.of_below {S : Nat → Prop} {B : Nat} {X Y : World} (hb : Below B X Y) (hS : ∀ k, S k → k < B) : KeptS S X Y := ⟨hb.size, fun k hk _ => hb.block k (hS k hk)⟩
theorem KeptS.putObj {S : Nat → Prop} {B : Nat} (hS : ∀ k, S k → k < B) (W : World) (l : Nat) (o' : Obj) (hl : B ≤ l) : KeptS S W (W.putObj l o') :=
  .of_grown (grownBy_putObj' W l o') fun k e hk => by cases e; have := hS l hk; omega
theorem blk_keptS {S : Nat → Prop} {X Y : World} {g : Nat} {t : TypeId} {cs : Array Value} (h : Blk X g t cs) (hk : KeptS S X Y) (hs : S g) : Blk Y g t cs := (hk.block g hs h.lt).trans h
theorem cell_of_heap {X Y : World} {k o : Nat} (h : Y.heap[k]? = X.heap[k]?) : Y.cell? ⟨k, o, none⟩ = X.cell? ⟨k, o, none⟩ := by
  unfold World.cell?
  simp only [h]
def markD (D : Nat) : Deferred := { target := .collected D, args := #[] }
def MarksOK (B : Nat) (Ds : List Nat) (w : World) : Prop := Ds.Nodup ∧ ∀ D, D ∈ Ds → B ≤ D ∧ w.heap[D]? = some (.deferred (some []))
theorem marks_nil (B : Nat) (w : World) : MarksOK B [] w := ⟨List.nodup_nil, fun D h => by cases h⟩
theorem MarksOK.lt {B : Nat} {Ds : List Nat} {w : World} (h : MarksOK B Ds w) : ∀ D, D ∈ Ds → D < w.heap.size := fun D hD => (Array.getElem?_eq_some_iff.1 (h.2 D hD).2).1
theorem MarksOK.kept {B : Nat} {Ds : List Nat} {w w' : World} {row : Option Nat} (h : MarksOK B Ds w) (hg : w.grownBy w' row) (hr : ∀ k, row = some k → k ∉ Ds) : MarksOK B Ds w' :=
  ⟨h.1, fun D hD => ⟨(h.2 D hD).1, (hg.block D (h.lt D hD) (fun e => hr D e.symm hD)).trans (h.2 D hD).2⟩⟩
theorem MarksOK.later {B : Nat} {Ds : List Nat} {w w' : World} (h : MarksOK B Ds w) (hl : Below w.heap.size w w') : MarksOK B Ds w' := h.kept (grown_of_below hl) (fun k e => by cases e)
theorem MarksOK.cells {B : Nat} {Ds : List Nat} {w : World} {g : Nat} {t : TypeId} {cs : Array Value} (h : MarksOK B Ds w) (hb : Blk w g t cs) : g ∉ Ds := fun hD => by
  have h1 := (h.2 g hD).2
  have h2 : w.heap[g]? = some (.cells cs t (0, 0)) := hb
  rw [h2] at h1
  cases h1
theorem MarksOK.setCell {B : Nat} {Ds : List Nat} {w : World} {g : Nat} {t : TypeId} {cs : Array Value} (h : MarksOK B Ds w) (hb : Blk w g t cs) (o : Nat) (v : Value) : MarksOK B Ds (w.setCell ⟨g, o, none⟩ v) :=
  ⟨h.1, fun D hD => ⟨(h.2 D hD).1, (Below.heap_setCell _ _ _ D (fun e => h.cells hb (by have e' : D = g := e; rw [← e']; exact hD))).trans (h.2 D hD).2⟩⟩
theorem MarksOK.cons {B : Nat} {Ds : List Nat} {w : World} {D : Nat} (h : MarksOK B Ds w) (hn : D ∉ Ds) (hB : B ≤ D) (hD : w.heap[D]? = some (.deferred (some []))) : MarksOK B (D :: Ds) w :=
  ⟨List.nodup_cons.2 ⟨hn, h.1⟩, fun E hE => by
    rcases List.mem_cons.1 hE with rfl | hE
    · exact ⟨hB, hD⟩
    · exact h.2 E hE⟩
theorem leaves_marks {F : Fence} {n : Nat} {P : Program} {fn : Func} {tmps : Array Value} {R : Ending → World → Prop} {B : Nat} : ∀ (Ds : List Nat) (w : World), MarksOK B Ds w → B ≤ w.heap.size →
    (∀ w', Below B w w' → (∀ g t cs, Blk w g t cs → Blk w' g t cs) → LeavesIn F n P fn tmps R [] .returning w') → LeavesInM F n P fn tmps R (Ds.map markD) .returning w
  | [], w, _, hB, h => h w (Below.refl _ _) (fun _ _ _ hb => hb)
  | D :: Ds, w, hm, hB, h => by
    obtain ⟨h1, h2⟩ := hm.2 D List.mem_cons_self
    have hlt := (Array.getElem?_eq_some_iff.1 h2).1
    have hnd := List.nodup_cons.1 hm.1
    have hm2 : MarksOK B Ds (w.putObj D (.deferred none)) := ⟨hnd.2, fun E hE => ⟨(hm.2 E (List.mem_cons_of_mem _ hE)).1, (World.putObj_heap_other (fun e => hnd.1 (by first | (rw [e]; exact hE) | (rw [← e]; exact hE)))).trans (hm.2 E (List.mem_cons_of_mem _ hE)).2⟩⟩
    have hb : Below B w (w.putObj D (.deferred none)) := (Below.refl B w).grown (grownBy_putObj' w D _) hB (fun k e => by cases e; exact h1)
    refine ⟨by simp, .inl ⟨D, _, rfl, run_takeDeferred h2, leaves_marks Ds _ hm2 (Nat.le_trans hB hb.size) fun w' hb' hc => h w' (hb.trans hb') fun g t cs hg => hc g t cs ?_⟩⟩
    refine (World.putObj_heap_other (fun e => ?_)).trans hg
    have h4 : w.heap[g]? = some (.cells cs t (0, 0)) := hg
    rw [e, h2] at h4
    cases h4
def BI (base B : Nat) (w : World) (Ds : List Nat) (l : List (Nat × TypeId × Array Value)) (W : World) : Prop := Below base w W ∧ MarksOK base Ds W ∧ B ≤ W.heap.size ∧ ∀ x, x ∈ l → Blk W x.1 x.2.1 x.2.2
theorem BI_own {β : Type} {base B : Nat} {w : World} {Ds : List Nat} {f : β → List (Nat × TypeId × Array Value)} (hb : base ≤ B) (hD : ∀ D, D ∈ Ds → D < B) : OwnFrom B (fun s W => BI base B w Ds (f s) W) :=
  fun s W W' row hs hg hr => ⟨hs.1.grown hg (Nat.le_trans hb hs.2.2.1) (fun k e => Nat.le_trans hb (hr k e).1), hs.2.1.kept hg (fun k e hk => by have := hD k hk; have := (hr k e).1; omega), Nat.le_trans hs.2.2.1 hg.size,
    fun x hx => blk_grown (hs.2.2.2 x hx) hg (fun e => by
      obtain ⟨-, o, ho, hc⟩ := hr x.1 e
      have h2 : W.heap[x.1]? = some (.cells x.2.2 x.2.1 (0, 0)) := hs.2.2.2 x hx
      rw [h2] at ho
      cases ho
      cases hc)⟩
theorem keepf_later {B : Nat} {X W W' : World} (h : KeepsFrom B X W) (hb : Below W.heap.size W W') : KeepsFrom B X W' := h.trans (KeepsFrom.of_grownBy (grown_of_below hb) fun _ e => by cases e)
theorem kepts_later {S : Nat → Prop} {X W W' : World} (h : KeptS S X W) (hb : Below W.heap.size W W') : KeptS S X W' := h.trans (KeptS.of_grown (grown_of_below hb) fun _ e => by cases e)
theorem keepf_alloc {B : Nat} {X W : World} (h : KeepsFrom B X W) (o : Obj) : KeepsFrom B X (W.alloc o) := h.trans ((KeepsOthers.alloc _ _).from _)
theorem keepf_set {B : Nat} {X W : World} (h : KeepsFrom B X W) (a : Addr) (v : Value) : KeepsFrom B X (W.setCell a v) := h.trans ((KeepsOthers.setCell _ _ _).from _)
theorem kepts_alloc {S : Nat → Prop} {X W : World} (h : KeptS S X W) (o : Obj) : KeptS S X (W.alloc o) := h.trans (KeptS.of_grown (World.grownBy_alloc W o none) fun _ e => by cases e)
theorem kepts_set {S : Nat → Prop} {X W : World} {g : Nat} (h : KeptS S X W) (hg : ¬ S g) (o : Nat) (v : Value) : KeptS S X (W.setCell ⟨g, o, none⟩ v) :=
  ⟨by simpa using h.size, fun k hk hl => (Below.heap_setCell _ _ _ k (fun e => hg (by have e' : k = g := e; rw [← e']; exact hk))).trans (h.block k hk hl)⟩
theorem MarksOK.alloc_ {B : Nat} {Ds : List Nat} {w : World} (h : MarksOK B Ds w) (o : Obj) : MarksOK B Ds (w.alloc o) := h.kept (World.grownBy_alloc w o none) fun _ e => by cases e
theorem MarksOK.set_ {B : Nat} {Ds : List Nat} {w : World} {g : Nat} (h : MarksOK B Ds w) (hg : g ∉ Ds) (o : Nat) (v : Value) : MarksOK B Ds (w.setCell ⟨g, o, none⟩ v) :=
  ⟨h.1, fun D hD => ⟨(h.2 D hD).1, (Below.heap_setCell _ _ _ D (fun e => hg (by have e' : D = g := e; rw [← e']; exact hD))).trans (h.2 D hD).2⟩⟩
theorem size_alloc_ {n : Nat} {w : World} (h : n ≤ w.heap.size) (o : Obj) : n ≤ (w.alloc o).heap.size := by simp; omega
theorem size_set_ {n : Nat} {w : World} (h : n ≤ w.heap.size) (a : Addr) (v : Value) : n ≤ (w.setCell a v).heap.size := by simpa using h
theorem blkTo {W x : World} {g : Nat} {t : TypeId} {cs : Array Value} (h : W = x) (hb : Blk x g t cs) : Blk W g t cs := h ▸ hb
theorem blkOf {W : World} {g : Nat} {t : TypeId} {cs cs' : Array Value} (h : Blk W g t cs) (e : cs = cs') : Blk W g t cs' := e ▸ h
theorem marks_to {B : Nat} {Ds : List Nat} {W x : World} (h : W = x) (hp : MarksOK B Ds x) : MarksOK B Ds W := h ▸ hp
theorem below_to {B : Nat} {a W x : World} (h : W = x) (hp : Below B a x) : Below B a W := h ▸ hp
theorem keepf_to {B : Nat} {a W x : World} (h : W = x) (hp : KeepsFrom B a x) : KeepsFrom B a W := h ▸ hp
theorem kepts_to {S : Nat → Prop} {a W x : World} (h : W = x) (hp : KeptS S a x) : KeptS S a W := h ▸ hp
theorem size_to {n : Nat} {W x : World} (h : W = x) (hp : n ≤ x.heap.size) : n ≤ W.heap.size := h ▸ hp
theorem ownFrom_ex {β γ : Type} {B : Nat} {J : γ → β → World → Prop} (h : ∀ c, OwnFrom B (J c)) : OwnFrom B (fun s W => ∃ c, J c s W) := fun s W W' row ⟨c, hc⟩ hg hr => ⟨c, h c s W W' row hc hg hr⟩
theorem blk_of_full {w : World} {base : Nat} {e : TypeId} {g n : Nat} {cs : Array Value} (h : w.ownsRow base e 2 (.slice (some ⟨g, 0, none⟩) n n) n cs.toList) : Blk w g e cs := by
  obtain ⟨hl, hr | ⟨g', cap, cur, hv, hb, hh, h1, h2, h3, h4⟩⟩ := h
  · cases hr.1
  · injection hv with e1 e2 e3
    injection e1 with e1
    injection e1 with e1 _ _
    subst e1 e3
    rw [List.take_of_length_le (by rw [Array.length_toList, h3]; exact Nat.le_refl _)] at h4
    have : cur = cs := Array.toList_inj.1 h4
    subst this
    exact hh
theorem wp_range2 {α : Type} {P : Program} {g : Operand} {p q d e : Tmp} {assign body : Code} {Q : Exit → Act → World → Prop} {T : Array Value} {ds : List Deferred} {w : World}
    {gf : Nat} {lb : Array Value} (hg : (⟨T, ds⟩ : Act).eval g = .func (.func gf) #[] lb) (eg : ∀ args w, (callFunc gf args).run P w = .ok (.enter gf args) w)
    {v0 v1 : α → Value} {Kp : World → World → Prop} {S Sp : List α → Prop} {N : Nat} {w0 : World} (hseq : SeqStopsK Fence.wide 7 P gf lb (fun x => #[v0 x, v1 x]) Kp S Sp N w0)
    (hKt : ∀ {A B C : World}, Kp A B → Kp B C → Kp A C) (hKb : ∀ (W : World) (l : Nat) (o' : Obj), w.heap.size ≤ l → Kp W (W.putObj l o')) (hKa : ∀ (W : World) (o : Obj), w.heap.size ≤ W.heap.size → Kp W (W.alloc o)) (hb0 : Below w0.heap.size w0 w)
    (I : List α → World → Prop) (Ix : Code → List α → World → Prop) (hI : OwnFrom w.heap.size I) (hIx : ∀ c, OwnFrom w.heap.size (Ix c)) (hIs : ∀ pre W, I pre W → w.heap.size ≤ W.heap.size) (h0 : I [] w) (ty : TypeId) (cs : α → Array Value)
    (hassign : ∀ (l : Nat) (x : α) (W : World) (K : Act → World → Prop), K ⟨(((T.setIfInBounds p (v0 x)).setIfInBounds q (v1 x)).setIfInBounds d (v0 x)).setIfInBounds e (.pointer (some ⟨W.heap.size, 0, none⟩)), []⟩ (W.alloc (.cells (cs x) ty)) →
      assign.wpIn (Fence.wide.inRound l) 6 P (Exit.then K (fun _ _ _ => False)) ⟨(T.setIfInBounds p (v0 x)).setIfInBounds q (v1 x), []⟩ W)
    (hbody : ∀ (l : Nat) (pre : List α) (x : α) (bx : Nat) (W : World), I pre W → w.heap.size ≤ bx → Blk W bx ty (cs x) → pre.length < N →
      body.wpIn (Fence.wide.inRound l) 6 P (ownPostG w.heap.size Kp I Ix (pre ++ [x]) W) ⟨(((T.setIfInBounds p (v0 x)).setIfInBounds q (v1 x)).setIfInBounds d (v0 x)).setIfInBounds e (.pointer (some ⟨bx, 0, none⟩)), []⟩ W)
    (hdone : ∀ (D : Nat) (xs : List α) (W : World), w.heap.size ≤ D → S xs → I xs W → W.heap[D]? = some (.deferred (some [])) → Q .normal ⟨T, markD D :: ds⟩ W)
    (hstop : ∀ (D : Nat) (c : Code) (pre : List α) (W : World), w.heap.size ≤ D → Sp pre → Ix c pre W → W.heap[D]? = some (.deferred (some [])) → c.wp P Q ⟨T, markD D :: ds⟩ W) :
    (Code.rangeFunc g #[p, q] assign body).wp P Q ⟨T, ds⟩ w := by
  refine wpIn_wide.1 (wpIn_rangeFunc_ownH (F := Fence.wide) (n := 8) rfl (by omega) (gf := gf) (lb := lb) hg trivial eg hseq (fun h k => hKt h k) (fun W l o o' hl _ _ _ => hKb W l o' hl) hb0 (fun _ => rfl) I Ix hI hIx h0
    (fun x a' W => ∃ bx, w.heap.size ≤ bx ∧ Blk W bx ty (cs x) ∧ a' = ⟨(((T.setIfInBounds p (v0 x)).setIfInBounds q (v1 x)).setIfInBounds d (v0 x)).setIfInBounds e (.pointer (some ⟨bx, 0, none⟩)), []⟩)
    ?_ ?_ ?_ ?_ ?_)
  · intro x a' s W W' row ⟨bx, h1, h2, h3⟩ hgr hr
    refine ⟨bx, h1, blk_grown h2 hgr (fun er => ?_), h3⟩
    obtain ⟨-, o, ho, hc⟩ := hr bx er
    have h4 : W.heap[bx]? = some (.cells (cs x) ty (0, 0)) := h2
    rw [h4] at ho
    cases ho
    cases hc
  · intro l pre x W K hi hK
    have hz : (#[p, q].zip #[v0 x, v1 x]).foldl (fun t (y : Tmp × Value) => t.setIfInBounds y.1 y.2) T = (T.setIfInBounds p (v0 x)).setIfInBounds q (v1 x) := by simp [Array.zip]
    show Code.wpIn (Fence.wide.inRound l) 6 P assign _ ⟨(#[p, q].zip #[v0 x, v1 x]).foldl (fun t (y : Tmp × Value) => t.setIfInBounds y.1 y.2) T, []⟩ W
    rw [hz]
    exact hassign l x W K (hK _ _ ((KeepsOthers.alloc _ _).from _) (hKa _ _ (hIs _ _ hi)) (hI.alloc _ hi) ⟨W.heap.size, hIs _ _ hi, Blk.new _ _ _, rfl⟩)
  · rintro l pre x a' W hl - hi ⟨bx, h1, h2, rfl⟩ hlen
    exact hbody l pre x bx W hi h1 h2 hlen
  · exact fun D xs W h1 h2 h3 h4 => hdone D xs W h1 h2 h3 h4
  · exact fun D c pre W h1 h2 h3 h4 => wpIn_wide.2 (hstop D c pre W h1 h2 h3 h4)
theorem take_fin {G k : Nat} (h : k < G) : (List.finRange G).take (k + 1) = (List.finRange G).take k ++ [⟨k, h⟩] := by
  rw [List.take_succ_eq_append_getElem (by simpa using h)]
  simp
theorem pre_fin {G : Nat} {q : List (Fin G)} {x : Fin G} (h : q ++ [x] <+: List.finRange G) : q ++ [x] = (List.finRange G).take (x.val + 1) ∧ ∀ i, i < x.val → ∃ y, y ∈ q ∧ y.val = i := by
  have h1 := List.prefix_iff_eq_take.1 h
  have hl := h.length_le
  rw [List.length_append, List.length_singleton, List.length_finRange] at hl
  rw [List.length_append, List.length_singleton] at h1
  rw [take_fin hl] at h1
  obtain ⟨h2, h3⟩ := List.append_inj h1 (by simp; omega)
  injection h3 with h3
  subst h3
  refine ⟨by rw [take_fin hl, ← h2], fun i hi => ?_⟩
  have hi' : i < q.length := hi
  refine ⟨q[i], List.getElem_mem hi', ?_⟩
  have : q[i] = ((List.finRange G).take q.length)[i]'(by simp; omega) := by
    have : q[i]? = ((List.finRange G).take q.length)[i]? := congrArg (fun l => l[i]?) h2
    rw [List.getElem?_eq_getElem hi', List.getElem?_eq_getElem (by simp; omega)] at this
    exact Option.some.inj this
  rw [this]
  simp
def anyB (c : Nat → Bool) : Nat → Bool
  | 0 => c 0
  | j + 1 => anyB c j || c (j + 1)
theorem anyB_of {c : Nat → Bool} {i : Nat} : ∀ {j : Nat}, i ≤ j → c i = true → anyB c j = true
  | 0, h, hc => by obtain rfl : i = 0 := by omega
                   exact hc
  | j + 1, h, hc => by
    unfold anyB
    rcases Nat.lt_or_ge i (j + 1) with h1 | h1
    · rw [anyB_of (by omega) hc]; rfl
    · obtain rfl : i = j + 1 := by omega
      rw [hc, Bool.or_true]
theorem anyB_not {c : Nat → Bool} : ∀ {j : Nat}, (∀ i, i ≤ j → c i = false) → anyB c j = false
  | 0, h => h 0 (Nat.le_refl _)
  | j + 1, h => by
    unfold anyB
    rw [anyB_not fun i hi => h i (by omega), h (j + 1) (Nat.le_refl _)]; rfl
def oneB (b : Bool) : Int := if b = true then 1 else 0
def updR (r : Nat → Int × Int) (j : Nat) (v : Int × Int) : Nat → Int × Int := fun i => if i = j then v else r i
def bumpS (c : Nat → Bool) (s : Bool × (Nat → Int × Int)) (j : Nat) : Bool × (Nat → Int × Int) :=
  ((s.1 || c j), if (s.1 || c j) = true then updR s.2 j ((s.2 j).1, (s.2 j).2 + 1) else s.2)
def runS {G : Nat} (c : Nat → Bool) (r : Nat → Int × Int) (pre : List (Fin G)) : Bool × (Nat → Int × Int) := pre.foldl (fun s x => bumpS c s x.val) (false, r)
theorem runS_snoc {G : Nat} {c : Nat → Bool} {r : Nat → Int × Int} {pre : List (Fin G)} {x : Fin G} : runS c r (pre ++ [x]) = bumpS c (runS c r pre) x.val := by simp [runS]
def RowBd (r : Nat → Int × Int) (S T : Int) : Prop := ∀ i, 0 ≤ (r i).1 ∧ (r i).1 ≤ S ∧ 0 ≤ (r i).2 ∧ (r i).2 ≤ T
theorem updR_bd {r : Nat → Int × Int} {S T S' T' : Int} {j : Nat} {v : Int × Int} (h : RowBd r S T) (hS : S ≤ S') (hT : T ≤ T') (h1 : 0 ≤ v.1 ∧ v.1 ≤ S' ∧ 0 ≤ v.2 ∧ v.2 ≤ T') : RowBd (updR r j v) S' T' := fun i => by
  have := h i
  unfold updR
  split
  · exact h1
  · omega
theorem bumpS_bd {c : Nat → Bool} {s : Bool × (Nat → Int × Int)} {j : Nat} {S T : Int} (h : RowBd s.2 S T) : RowBd (bumpS c s j).2 S (T + 1) := by
  have hj := h j
  unfold bumpS
  simp only
  split
  · exact updR_bd h (by omega) (by omega) (by simp only; omega)
  · exact fun i => by have := h i; omega
theorem foldl_bd {G : Nat} {c : Nat → Bool} {S : Int} : ∀ (pre : List (Fin G)) (s : Bool × (Nat → Int × Int)) (T : Int), RowBd s.2 S T → RowBd (pre.foldl (fun s x => bumpS c s x.val) s).2 S (T + pre.length)
  | [], s, T, h => by simpa using h
  | x :: pre, s, T, h => by
    have := foldl_bd (c := c) pre (bumpS c s x.val) (T + 1) (bumpS_bd h)
    have e : T + ((x :: pre).length : Int) = T + 1 + pre.length := by rw [List.length_cons]; omega
    rw [e]
    exact this
theorem runS_bd {G : Nat} {c : Nat → Bool} {r : Nat → Int × Int} {S T : Int} (h : RowBd r S T) (pre : List (Fin G)) : RowBd (runS c r pre).2 S (T + pre.length) := foldl_bd pre (false, r) T h
theorem runS_take {G : Nat} {c : Nat → Bool} {r : Nat → Int × Int} : ∀ k, k ≤ G → runS c r ((List.finRange G).take k) = ((if k = 0 then false else anyB c (k - 1)), fun i => if i < k ∧ anyB c i = true then ((r i).1, (r i).2 + 1) else r i)
  | 0, _ => by simp [runS]
  | k + 1, h => by
    rw [take_fin h, runS_snoc, runS_take k (by omega)]
    have hp : ((if k = 0 then false else anyB c (k - 1)) || c k) = anyB c k := by
      cases k with
      | zero => simp [anyB]
      | succ k => simp [anyB]
    unfold bumpS
    simp only
    rw [hp]
    refine Prod.ext ?_ ?_
    · simp
    · simp only
      funext i
      by_cases hc : anyB c k = true
      · rw [if_pos hc]
        unfold updR
        simp only
        by_cases he : i = k
        · subst he
          rw [if_pos rfl, if_neg (by omega), if_pos ⟨by omega, hc⟩]
        · rw [if_neg he]
          by_cases h1 : i < k ∧ anyB c i = true
          · rw [if_pos h1, if_pos ⟨by omega, h1.2⟩]
          · rw [if_neg h1, if_neg (fun h2 => h1 ⟨by omega, h2.2⟩)]
      · rw [if_neg hc]
        by_cases h1 : i < k ∧ anyB c i = true
        · rw [if_pos h1, if_pos ⟨by omega, h1.2⟩]
        · rw [if_neg h1, if_neg (fun h2 => ?_)]
          rcases Nat.lt_or_ge i k with h3 | h3
          · exact h1 ⟨h3, h2.2⟩
          · obtain rfl : i = k := by omega
            exact hc h2.2
def finR (r : Nat → Int × Int) (j m : Nat) : Nat → Int × Int := fun i => if i = j then ((r i).1 + 1, (r i).2) else if j < i ∧ i < m then ((r i).1 + 1, (r i).2 + 1) else r i
def addT (cs cm : Nat → Bool) (r : Nat → Int × Int) : Nat → Int × Int := fun i => ((r i).1 + oneB (anyB cs i), (r i).2 + oneB (anyB cm i))
theorem thread_all {G : Nat} {cs cm : Nat → Bool} {r : Nat → Int × Int} (hs : ∀ i, i < G → cs i = false) : ∀ i, i < G → (runS cm r (List.finRange G)).2 i = addT cs cm r i := fun i hi => by
  have h := runS_take (c := cm) (r := r) G (Nat.le_refl _)
  rw [List.take_of_length_le (by simp)] at h
  rw [h]
  unfold addT oneB
  simp only
  rw [show anyB cs i = false from anyB_not fun q hq => hs q (by omega)]
  by_cases h1 : anyB cm i = true
  · simp [h1, hi]
  · simp [h1]
theorem thread_stop {G k : Nat} {cs cm : Nat → Bool} {r : Nat → Int × Int} (hk : k < G) (hs : ∀ i, i < k → cs i = false) (hc : cs k = true) (hcm : cm k = true) : ∀ i, i < G → finR (runS cm r ((List.finRange G).take (k + 1))).2 k G i = addT cs cm r i := fun i hi => by
  rw [runS_take (k + 1) (by omega)]
  unfold addT oneB finR
  simp only
  by_cases h1 : i = k
  · subst h1
    rw [if_pos rfl, if_pos (anyB_of (Nat.le_refl _) hc), if_pos (anyB_of (Nat.le_refl _) hcm), if_pos ⟨by omega, anyB_of (Nat.le_refl _) hcm⟩]
  · rw [if_neg h1]
    by_cases h2 : k < i
    · rw [if_pos ⟨h2, hi⟩, if_pos (anyB_of (by omega) hc), if_pos (anyB_of (by omega) hcm), if_neg (by omega)]
    · rw [show anyB cs i = false from anyB_not fun q hq => hs q (by omega), if_neg (fun h => h2 h.1)]
      by_cases h3 : anyB cm i = true
      · simp [h3, show i < k + 1 by omega]
      · simp [h3]
def rowsZ (cs cm : Nat → Nat → Bool) : Nat → Nat → Int × Int
  | 0 => fun _ => (0, 0)
  | n + 1 => addT (cs n) (cm n) (rowsZ cs cm n)
theorem rowsZ_bd {cs cm : Nat → Nat → Bool} : ∀ n, RowBd (rowsZ cs cm n) n n
  | 0 => fun i => by simp [rowsZ]
  | n + 1 => fun i => by
    have := rowsZ_bd (cs := cs) (cm := cm) n i
    unfold rowsZ addT oneB
    simp only
    split <;> split <;> omega
def cellsR (r : Nat → Int × Int) (G : Nat) : Array Value := (Array.range (G * 2)).map fun k => if k % 2 = 0 then .int .i64 (r (k / 2)).1 else .int .i64 (r (k / 2)).2
theorem cellsR_at {r : Nat → Int × Int} {G k : Nat} (h : k < G * 2) : (cellsR r G)[k]? = some (if k % 2 = 0 then .int .i64 (r (k / 2)).1 else .int .i64 (r (k / 2)).2) := by
  simp [cellsR, h]
theorem cellsR_get0 {r : Nat → Int × Int} {G j : Nat} (h : j < G) : (cellsR r G)[j * 2]? = some (.int .i64 (r j).1) := by
  rw [cellsR_at (by omega), if_pos (by omega), show j * 2 / 2 = j by omega]
theorem cellsR_get1 {r : Nat → Int × Int} {G j : Nat} (h : j < G) : (cellsR r G)[j * 2 + 1]? = some (.int .i64 (r j).2) := by
  rw [cellsR_at (by omega), if_neg (by omega), show (j * 2 + 1) / 2 = j by omega]
theorem cellsR_congr {r r' : Nat → Int × Int} {G : Nat} (h : ∀ i, i < G → r i = r' i) : cellsR r G = cellsR r' G := by
  apply Array.ext
  · simp [cellsR]
  · intro i h1 h2
    have h3 : i < G * 2 := by simpa [cellsR] using h1
    simp [cellsR, h (i / 2) (by omega)]
theorem cellsR_set0 {r : Nat → Int × Int} {G j : Nat} {v : Int} : (cellsR r G).setIfInBounds (j * 2) (.int .i64 v) = cellsR (updR r j (v, (r j).2)) G := by
  apply Array.ext
  · simp [cellsR]
  · intro i h1 h2
    have h3 : i < G * 2 := by simpa [cellsR] using h1
    rw [Array.getElem_setIfInBounds (by simpa [cellsR] using h3)]
    by_cases hi : j * 2 = i
    · subst hi
      simp [cellsR, updR]
    · rw [if_neg hi]
      simp only [cellsR, updR, Array.getElem_map, Array.getElem_range]
      split
      · rw [if_neg (by omega)]
      · split
        · rename_i he
          rw [← he]
        · rfl
theorem cellsR_set1 {r : Nat → Int × Int} {G j : Nat} {v : Int} : (cellsR r G).setIfInBounds (j * 2 + 1) (.int .i64 v) = cellsR (updR r j ((r j).1, v)) G := by
  apply Array.ext
  · simp [cellsR]
  · intro i h1 h2
    have h3 : i < G * 2 := by simpa [cellsR] using h1
    rw [Array.getElem_setIfInBounds (by simpa [cellsR] using h3)]
    by_cases hi : j * 2 + 1 = i
    · subst hi
      simp only [cellsR, updR, Array.getElem_map, Array.getElem_range]
      rw [if_pos trivial, if_neg (by omega), if_pos (by omega)]
    · rw [if_neg hi]
      simp only [cellsR, updR, Array.getElem_map, Array.getElem_range]
      split
      · split
        · rename_i he
          rw [← he]
        · rfl
      · rw [if_neg (by omega)]
theorem cellsR_set01 {r : Nat → Int × Int} {G j : Nat} {a b : Int} : ((cellsR r G).setIfInBounds (j * 2) (.int .i64 a)).setIfInBounds (j * 2 + 1) (.int .i64 b) = cellsR (updR r j (a, b)) G := by
  rw [cellsR_set0, cellsR_set1]
  refine cellsR_congr fun i _ => ?_
  unfold updR
  by_cases h : i = j
  · simp [h]
  · simp [h]
theorem cellsR_set10 {r : Nat → Int × Int} {G j : Nat} {a b : Int} : ((cellsR r G).setIfInBounds (j * 2 + 1) (.int .i64 b)).setIfInBounds (j * 2) (.int .i64 a) = cellsR (updR r j (a, b)) G := by
  rw [cellsR_set1, cellsR_set0]
  refine cellsR_congr fun i _ => ?_
  unfold updR
  by_cases h : i = j
  · simp [h]
  · simp [h]
theorem finR_succ {r : Nat → Int × Int} {j i : Nat} (h : j < i) : updR (finR r j i) i ((r i).1 + 1, (r i).2 + 1) = finR r j (i + 1) := by
  funext k
  unfold updR finR
  by_cases h1 : k = i
  · rw [if_pos h1, if_neg (by omega), if_pos ⟨by omega, by omega⟩, h1]
  · rw [if_neg h1]
    by_cases h2 : k = j
    · rw [if_pos h2, if_pos h2]
    · rw [if_neg h2, if_neg h2]
      by_cases h3 : j < k ∧ k < i
      · rw [if_pos h3, if_pos ⟨h3.1, by omega⟩]
      · rw [if_neg h3, if_neg (by omega)]
theorem finR_at {r : Nat → Int × Int} {j i : Nat} (h : j < i) : finR r j i i = r i := by
  unfold finR
  rw [if_neg (by omega), if_neg (by omega)]
theorem finR_zero2 {r : Nat → Int × Int} {j : Nat} {a b : Int} : finR (updR r j (a, b)) j (j + 1) = updR r j (a + 1, b) := by
  funext k
  unfold finR updR
  by_cases h1 : k = j
  · simp [h1]
  · rw [if_neg h1, if_neg (by omega), if_neg h1, if_neg h1]
theorem cellsR_made {G : Nat} : madeCells #[.int .i64 0, .int .i64 0] (G * 2) = cellsR (fun _ => (0, 0)) G := by
  apply Array.ext
  · simp [cellsR, madeCells]
  · intro i h1 h2
    simp only [madeCells, cellsR, Array.getElem_map, Array.getElem_range]
    rcases Nat.mod_two_eq_zero_or_one i with h | h
    · rw [if_pos h]; simp [h]
    · rw [if_neg (by omega)]; simp [h]
def rowL (r : Nat → Int × Int) (G : Nat) : List (Int × Int) := (List.range G).map r
theorem rowL_length {r : Nat → Int × Int} {G : Nat} : (rowL r G).length = G := by simp [rowL]
theorem rowL_get {r : Nat → Int × Int} {G k : Nat} (h : k < G) : (rowL r G).getD k (0, 0) = r k := by simp [rowL, List.getD, h]
theorem ints_row {w : World} {g : Nat} {t : TypeId} {r : Nat → Int × Int} {G : Nat} (h : Blk w g t (cellsR r G)) : Ints w w.heap.size .i64 (some ⟨g, 0, none⟩) (flat2Q (rowL r G)) := fun _ => by
  refine ⟨g, 0, rfl, h.lt, fun k hk => ?_⟩
  rw [flat2_lengthQ, rowL_length] at hk
  rw [Nat.zero_add, h.cell k, cellsR_at hk]
  have hj : k / 2 < (rowL r G).length := by rw [rowL_length]; omega
  obtain ⟨h1, h2⟩ := flat2_get (rowL r G) (k / 2) hj
  rw [rowL_get (by omega)] at h1 h2
  rcases Nat.mod_two_eq_zero_or_one k with h0 | h0
  · rw [if_pos h0, ← h1, show k / 2 * 2 = k by omega]
  · rw [if_neg (by omega), ← h2, show k / 2 * 2 + 1 = k by omega]
theorem rowL_succ {r : Nat → Int × Int} {G : Nat} : rowL r (G + 1) = rowL r G ++ [r G] := by simp [rowL, List.range_succ]
def prevB (c : Nat → Bool) : Nat → Bool
  | 0 => false
  | j + 1 => anyB c j
def boolsR (f : Nat → Bool) (K : Nat) : Array Value := (Array.range K).map fun k => .bool (f k)
def midB (c : Nat → Nat → Bool) (j k : Nat) : Nat → Bool := fun t => if t < k then anyB (c t) j else prevB (c t) j
theorem boolsR_set {c : Nat → Nat → Bool} {j k K : Nat} {b : Bool} (h : anyB (c k) j = b) : (boolsR (midB c j k) K).setIfInBounds k (.bool b) = boolsR (midB c j (k + 1)) K := by
  apply Array.ext
  · simp [boolsR]
  · intro i h1 h2
    have h3 : i < K := by simpa [boolsR] using h1
    rw [Array.getElem_setIfInBounds (by simpa [boolsR] using h3)]
    simp only [boolsR, midB, Array.getElem_map, Array.getElem_range]
    by_cases hi : k = i
    · subst hi
      rw [if_pos rfl, if_pos (by omega), h]
    · rw [if_neg hi]
      by_cases h4 : i < k
      · rw [if_pos h4, if_pos (by omega)]
      · rw [if_neg h4, if_neg (by omega)]
section
variable {P : Program} {ops : Array Oper} {S : Nat → Prop} {E : Nat → Bool}
variable {md : Region.Mode}
end
end Go.Proofs.Ytepgpihobmjbdaa
end
section
namespace Go.Proofs.Ytepgpihobmjbdaa
open Go Go.RowKit
attribute [local go_sem] Oper.semAt_some
def overZ (l : List (Int × Int)) (gx gy gs wi hi x y : Int) : Int × Int := if pixZ gx gy gs wi hi x y < 0 then (0, 20000) else l.getD (pixZ gx gy gs wi hi x y).toNat (0, 0)
theorem pixZ_lt {gx gy gs wi hi x y : Int} (h1 : 1 ≤ gs) (h2 : ¬ pixZ gx gy gs wi hi x y < 0) (h3 : 1 ≤ wi) (h4 : wi ≤ 64) (h5 : hi ≤ 64) : pixZ gx gy gs wi hi x y < wi * hi ∧ pixZ gx gy gs wi hi x y ≤ 4096 := by
 unfold pixZ at *
 split at h2
 · omega
 ·
  rename_i hc
  rw [if_neg hc]
  obtain ⟨a1, a2⟩ := pix_bd (gx := gx) (gs := gs) (wi := wi) (x := x) h1 (by omega) (by omega)
  obtain ⟨b1, b2⟩ := pix_bd (gx := gy) (gs := gs) (wi := hi) (x := y) h1 (by omega) (by omega)
  have hm := Int.mul_le_mul_of_nonneg_right (show (y - gy) / gs + 1 ≤ hi by omega) (show 0 ≤ wi by omega)
  rw [Int.add_mul, Int.mul_comm hi wi] at hm
  obtain ⟨m1, m2⟩ := mul_bdB (a := wi) (b := hi) (A := 64) (B := 64) (by omega) h4 (by omega) h5
  omega
def groundZ (l : List (Int × Int)) (sx sy ro st t ray gx gy gs wi hi : Int) (j : Nat) : Int × Int := overZ l gx gy gs wi hi (placeZ sx sy ro st t ray j).1 (placeZ sx sy ro st t ray j).2
set_option maxHeartbeats 4000000 in
set_option maxRecDepth 100000 in
theorem under_stops (S : Nat → Prop) (n₀ m : Nat) (s : ByteArray) (sx sy z ro g st wd t ray gx gy gs wi hi : Int) (G : Nat) (A : Option Addr) (n c : Nat) (l : List (Int × Int)) (b0 b1 b2 b3 : Nat) (w : World) (hm : 1 ≤ m)
  (h1 : 0 ≤ t) (h2 : t ≤ 256) (hg : g = G) (hg2 : g ≤ 200) (h5 : 0 ≤ st) (h6 : st ≤ 2000) (r1 : 1 ≤ ro) (r2 : ro ≤ 90) (a1 : 0 ≤ ray) (a2 : ray < 4 * ro)
  (X1 : -1048576 ≤ sx) (X2 : sx ≤ 1048576) (Y1 : -1048576 ≤ sy) (Y2 : sy ≤ 1048576)
  (p1 : -1048576 ≤ gx) (p2 : gx ≤ 1048576) (q1 : -1048576 ≤ gy) (q2 : gy ≤ 1048576) (c1 : 1 ≤ gs) (c2 : gs ≤ 10000) (d1 : 1 ≤ wi) (d2 : wi ≤ 64) (e1 : 1 ≤ hi) (e2 : hi ≤ 64)
  (hn : l.length = n) (hsz : (n : Int) = wi * hi) (hl : Ints w n₀ .i64 A (flat2Q l)) (hn0 : n₀ ≤ w.heap.size) (hS : ∀ k, S k → k < w.heap.size) (hSn : ∀ k, k < n₀ → S k)
  (B0 : Blk w b0 28 #[.string s, .int .i64 sx, .int .i64 sy, .int .i64 z, .int .i64 ro, .int .i64 g, .int .i64 st, .int .i64 wd]) (B1 : Blk w b1 3 #[.int .i64 t]) (B2 : Blk w b2 3 #[.int .i64 ray])
  (B3 : Blk w b3 33 #[.int .i64 gx, .int .i64 gy, .int .i64 gs, .int .i64 wi, .int .i64 hi, .slice A n c]) (l0 : S b0) (l1 : S b1) (l2 : S b2) (l3 : S b3) :
  SeqStopsK Fence.wide m Try.prog 47 #[.pointer (some ⟨b0, 0, none⟩), .pointer (some ⟨b1, 0, none⟩), .pointer (some ⟨b2, 0, none⟩), .pointer (some ⟨b3, 0, none⟩)]
   (fun x : Fin G => #[.int .i64 (x.val : Int), .agg #[.int .i64 (groundZ l sx sy ro st t ray gx gy gs wi hi x.val).1, .int .i64 (groundZ l sx sy ro st t ray gx gy gs wi hi x.val).2]])
   (KeptS S) (fun xs => xs = List.finRange G) (fun q => q <+: List.finRange G) G w := by
 intro lp J Jx W hW hJ hJx hY h0
 have hp := fun j (j0 : 0 ≤ j) (j1 : j < g) W => place_any s sx sy z ro g st wd t ray j W h1 h2 j0 (by omega) h5 h6 r1 r2 a1 a2 X1 X2 Y1 Y2
 have hx := fun x y W => pixel_any gx gy gs wi hi x y W p1 p2 q1 q2 c1 c2 d1 d2 e1 e2
 have hpz : ∀ x y, ¬ pixZ gx gy gs wi hi x y < 0 → pixZ gx gy gs wi hi x y < n ∧ pixZ gx gy gs wi hi x y ≤ 4096 := fun x y h => by
  rw [hsz]; exact pixZ_lt c1 h d1 d2 e2
 have ho : ∀ j : Nat, groundZ l sx sy ro st t ray gx gy gs wi hi j = overZ l gx gy gs wi hi (placeZ sx sy ro st t ray j).1 (placeZ sx sy ro st t ray j).2 := fun j => rfl
 have hwn : n₀ ≤ W.heap.size := Nat.le_trans hn0 hW.size
 have hSW : ∀ k, S k → k < W.heap.size := fun k h => Nat.lt_of_lt_of_le (hS k h) hW.size
 unfold siteV gridV at *
 replace B0 := blk_later B0 hW
 replace B1 := blk_later B1 hW
 replace B2 := blk_later B2 hW
 replace B3 := blk_later B3 hW
 replace hl := hl.below (hW.mono hn0)
 subst hg
 have HS := hide hS
 have HSn := hide hSn
 have HSW := hide hSW
 have Hp := hide hp
 have Hx := hide hx
 have Hpz := hide hpz
 have Ho := hide ho
 have Hl := hide hl
 have Hn := hide hn
 have HJ := hide hJ
 have HY := hide hY
 have H0 := hide h0
 have HJx := hide hJx
 have C0 := hide B0
 have C1 := hide B1
 have C2 := hide B2
 have C3 := hide B3
 have Hsz := hide hsz
 clear hS hSn hSW hp hx hpz ho hl hn hJ hY h0 hJx B0 B1 B2 B3 hsz
 clear hW
 refine callsIn_of_wp Try.func47 rfl trivial ?_
 simp only [Try.ntmps47, List.size_toArray, List.length_cons, List.length_nil, Nat.reduceAdd, Nat.reduceSub, Array.replicate_succ, Array.replicate_zero, List.push_toArray, List.append_toArray, List.nil_append, List.cons_append]
 obtain ⟨q0', q1', q2', q3', q4', q5', q6', q7'⟩ := C0.out.site8
 have ltq := C0.out.lt
 gi_wp2_with fail
 clear q0' q1' q2' q3' q4' q5' q6' q7' ltq
 gi_loopw [13] (fun i wr => ∃ k : Nat, k ≤ G ∧ i = .int .i64 k ∧ J ((List.finRange G).take k) wr ∧ KeptS S W wr) (fun i _ => G - (intOf i).toNat)
 case atStart => exact ⟨0, by omega, rfl, by simpa using H0.out, KeptS.refl _ _⟩
 case round =>
  obtain ⟨k, hk, rfl, hj, hbw⟩ := hrel
  have hsw := hbw.size
  have S0 := hide (blk_keptS C0.out hbw l0)
  have S1 := hide (blk_keptS C1.out hbw l1)
  have S2 := hide (blk_keptS C2.out hbw l2)
  have S3 := hide (blk_keptS C3.out hbw l3)
  have I0 := hide ((Hl.out.keep (fun b o hb => cell_of_heap (hbw.block b (HSn.out b hb) (by omega)))).more (Nat.le_trans hwn hsw))
  have HB := hide hbw
  have Hj := hide hj
  clear hbw hj
  have HK := hide (Below.refl wr.heap.size wr)
  by_cases hlt : k < G
  ·
   have hlt2 : (k : Int) < G := by omega
   have hpk := fun W => Hp.out k (by omega) hlt2 W
   have hok := Ho.out k
   have hts := take_fin hlt
   generalize placeZ sx sy ro st t ray k = pl at *
   obtain ⟨px, py⟩ := pl
   have hxk := fun W => Hx.out px py W
   have hpl := Hpz.out px py
   unfold overZ at hok
   simp only at hpk hok
   generalize pixZ gx gy gs wi hi px py = pz at *
   generalize hgv : groundZ l sx sy ro st t ray gx gy gs wi hi k = gv at *
   obtain ⟨gv1, gv2⟩ := gv
   have Hpk := hide hpk
   have Hxk := hide hxk
   have Hok := hide hok
   have Hts := hide hts
   have Hpl := hide hpl
   have Hgv := hide hgv
   clear hpk hxk hok hts hpl hgv
   obtain ⟨q0', q1', q2', q3', q4', q5', q6', q7'⟩ := S0.out.site8
   have ltq := S0.out.lt
   have x0 := S1.out.c 0 rfl
   have ltx := S1.out.lt
   have y0 := S2.out.c 0 rfl
   have lty := S2.out.lt
   gi_wp2_with fail
   refine ⟨trivial, ?_⟩
   refine at_worldIn fun W1 hW => ?_
   have bq0 : Blk W1 wr.heap.size 24 #[.int .i64 0, .int .i64 20000] := by rw [hW]; exact Blk.new _ _ _
   have LW : Later wr W1 := by rw [hW]; exact ((Below.refl _ _).alloc (Nat.le_refl _) _)
   have szW : W1.heap.size = wr.heap.size + 1 := by rw [hW]; simp
   clear hW x0 ltx y0 lty
   replace I0 := hide ((Ints.below I0.out LW).more (Below.size LW))
   replace S0 := hide (blk_later S0.out LW)
   replace S1 := hide (blk_later S1.out LW)
   replace S2 := hide (blk_later S2.out LW)
   replace S3 := hide (blk_later S3.out LW)
   replace HK := hide (onward HK.out LW)
   have Hv := hide bq0
   clear bq0 LW szW
   clear q0' q1' q2' q3' q4' q5' q6' q7' ltq
   refine (callsIn_wide.2 (Hpk.out _)).mono ?_
   rintro e w2 ⟨rfl, hb⟩
   replace I0 := hide ((Ints.below I0.out hb).more (Below.size hb))
   replace S0 := hide (blk_later S0.out hb)
   replace S1 := hide (blk_later S1.out hb)
   replace S2 := hide (blk_later S2.out hb)
   replace S3 := hide (blk_later S3.out hb)
   replace HK := hide (onward HK.out hb)
   replace Hv := hide (blk_later Hv.out hb)
   clear hb
   obtain ⟨f0, f1, f2, f3, f4, f5⟩ := S3.out.c6
   have ltf := S3.out.lt
   gi_wp2_with fail
   clear f0 f1 f2 f3 f4 f5 ltf
   refine ⟨trivial, ?_⟩
   refine (callsIn_wide.2 (Hxk.out _)).mono ?_
   rintro e w3 ⟨rfl, hb⟩
   replace I0 := hide ((Ints.below I0.out hb).more (Below.size hb))
   replace S0 := hide (blk_later S0.out hb)
   replace S1 := hide (blk_later S1.out hb)
   replace S2 := hide (blk_later S2.out hb)
   replace S3 := hide (blk_later S3.out hb)
   replace HK := hide (onward HK.out hb)
   replace Hv := hide (blk_later Hv.out hb)
   clear hb
   by_cases hz : pz < 0
   ·
    have hg' := Hok.out
    rw [if_pos hz] at hg'
    injection hg' with hg1 hg2
    subst hg1 hg2
    obtain ⟨W4, hW4⟩ : ∃ W4, W4 = w3 := ⟨_, rfl⟩
    have hb4 : Below wr.heap.size wr w3 := HK.out
    obtain ⟨v0, v1⟩ := Hv.out.c2
    have ltv := Hv.out.lt
    have hj4 := abides_below HJ.out Hj.out hb4
    have hY4 := HY.out ((List.finRange G).take k) ⟨k, hlt⟩ W4 (by rw [hW4]; exact hj4) (by simp; omega)
    dsimp only at hY4
    rw [Hgv.out, hW4] at hY4
    have H4 := hide hb4
    clear hb4 hj4 hW4
    obtain ⟨fn, tmps, assign, body, hy, hR⟩ := hY4
    dsimp only at hy hR
    have HR := hide hR
    clear hR
    gi_wp2
    refine HR.out.mono ?_
    rintro e W5 (⟨rfl, hJ5, hk5⟩ | ⟨rfl, hJx5⟩)
    ·
     clear hy HR
     have hbn : KeptS S W W5 := (HB.out.trans (KeptS.of_below H4.out (fun k hk => Nat.lt_of_lt_of_le (HSW.out k hk) hsw))).trans hk5
     rw [← Hts.out] at hJ5
     have HJ5 := hide hJ5
     have HBN := hide hbn
     have HK5 := hide hk5
     clear hJ5 hbn hk5
     gi_wp2
     go_roundw
     case rel => exact ⟨k + 1, by omega, by go_num, HJ5.out, HBN.out⟩
     case measure => simp [intOf]; omega
    ·
     clear hy HR
     rw [← Hts.out] at hJx5
     have HX5 := hide hJx5
     clear hJx5
     gi_wp2
     refine bodyPost_ret (results_none rfl _ _ _) rfl ?_
     exact ⟨⟨_, rfl⟩, .inr ⟨_, List.take_prefix _ _, HX5.out⟩⟩
   ·
    have hg' := Hok.out
    rw [if_neg hz] at hg'
    obtain ⟨hp1, hp2⟩ := Hpl.out (by omega)
    obtain ⟨q, rfl⟩ : ∃ q : Nat, pz = q := ⟨pz.toNat, by omega⟩
    rw [Int.toNat_natCast] at hg'
    have hqn : q < n := by omega
    obtain ⟨bl, off, rfl, hbl, hcl⟩ := I0.out.ptQ (by have := Hn.out; omega)
    obtain ⟨u0, u1⟩ := hcl q (by have := Hn.out; omega)
    rw [← hg'] at u0 u1
    simp only at u0 u1
    clear hcl hg'
    obtain ⟨W4, hW4⟩ : ∃ W4, W4 = (w3.setCell ⟨wr.heap.size, 0, none⟩ (.int .i64 gv1)).setCell ⟨wr.heap.size, 1, none⟩ (.int .i64 gv2) := ⟨_, rfl⟩
    have hb4 : Below wr.heap.size wr ((w3.setCell ⟨wr.heap.size, 0, none⟩ (.int .i64 gv1)).setCell ⟨wr.heap.size, 1, none⟩ (.int .i64 gv2)) := (HK.out.setCell (Nat.le_refl _) _).setCell (Nat.le_refl _) _
    obtain ⟨f0, f1, f2, f3, f4, f5⟩ := S3.out.c6
    have ltf := S3.out.lt
    obtain ⟨v0, v1⟩ := Hv.out.c2
    have ltv := Hv.out.lt
    have fv0 := Hv.out.frozen 0
    have fv1 := Hv.out.frozen 1
    have hj4 := abides_below HJ.out Hj.out hb4
    have hY4 := HY.out ((List.finRange G).take k) ⟨k, hlt⟩ W4 (by rw [hW4]; exact hj4) (by simp; omega)
    dsimp only at hY4
    rw [Hgv.out, hW4] at hY4
    have H4 := hide hb4
    clear hb4 hj4 hW4
    obtain ⟨fn, tmps, assign, body, hy, hR⟩ := hY4
    dsimp only at hy hR
    have HR := hide hR
    clear hR
    gi_wp2
    refine HR.out.mono ?_
    rintro e W5 (⟨rfl, hJ5, hk5⟩ | ⟨rfl, hJx5⟩)
    ·
     clear hy HR
     have hbn : KeptS S W W5 := (HB.out.trans (KeptS.of_below H4.out (fun k hk => Nat.lt_of_lt_of_le (HSW.out k hk) hsw))).trans hk5
     rw [← Hts.out] at hJ5
     have HJ5 := hide hJ5
     have HBN := hide hbn
     have HK5 := hide hk5
     clear hJ5 hbn hk5
     gi_wp2
     go_roundw
     case rel => exact ⟨k + 1, by omega, by go_num, HJ5.out, HBN.out⟩
     case measure => simp [intOf]; omega
    ·
     clear hy HR
     rw [← Hts.out] at hJx5
     have HX5 := hide hJx5
     clear hJx5
     gi_wp2
     refine bodyPost_ret (results_none rfl _ _ _) rfl ?_
     exact ⟨⟨_, rfl⟩, .inr ⟨_, List.take_prefix _ _, HX5.out⟩⟩
  ·
   obtain rfl : k = G := by omega
   gi_wp2
   go_end0
   refine ⟨⟨_, rfl⟩, .inl ⟨_, rfl, ?_⟩⟩
   have := Hj.out
   rw [List.take_of_length_le (by simp)] at this
   exact this
set_option maxHeartbeats 1000000 in
set_option maxRecDepth 100000 in
theorem under_any (s : ByteArray) (sx sy z ro g st wd t ray gx gy gs wi hi : Int) (A : Option Addr) (n c : Nat) (w : World) :
  Calls Try.prog 26 #[siteV s sx sy z ro g st wd, .int .i64 t, .int .i64 ray, fieldV gx gy gs wi hi A n c] w fun e w' =>
   e = .returned (.func (.func 47) #[] #[.pointer (some ⟨w.heap.size, 0, none⟩), .pointer (some ⟨w.heap.size + 1, 0, none⟩), .pointer (some ⟨w.heap.size + 2, 0, none⟩), .pointer (some ⟨w.heap.size + 3, 0, none⟩)]) ∧
   Below w.heap.size w w' ∧ w'.heap.size = w.heap.size + 4 ∧ Blk w' w.heap.size 28 #[.string s, .int .i64 sx, .int .i64 sy, .int .i64 z, .int .i64 ro, .int .i64 g, .int .i64 st, .int .i64 wd] ∧ Blk w' (w.heap.size + 1) 3 #[.int .i64 t] ∧ Blk w' (w.heap.size + 2) 3 #[.int .i64 ray] ∧
   Blk w' (w.heap.size + 3) 33 #[.int .i64 gx, .int .i64 gy, .int .i64 gs, .int .i64 wi, .int .i64 hi, .slice A n c] := by
 unfold siteV fieldV
 go_enter Try.func26, Try.ntmps26
 go_wp2
 refine bodyPost_ret (by simp [results, Try.results26, go_sem]) rfl ⟨rfl, ?_, by simp, ?_, ?_, ?_, ?_⟩
 · exact ((((Below.refl _ _).alloc (Nat.le_refl _) _).alloc (by simp) _).alloc (by simp; omega) _).alloc (by simp; omega) _
 · exact (((Blk.new _ _ _).alloc _).alloc _).alloc _
 · exact ((blk_new_at (by simp)).alloc _).alloc _
 · exact (blk_new_at (by simp)).alloc _
 · exact blk_new_at (by simp)
end Go.Proofs.Ytepgpihobmjbdaa
end
