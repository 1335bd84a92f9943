/-
  Regions that draw their order: what each kind of hard operation owes.
  Regions that draw their order, in which calls may turn old memory, each its own.
-/
import Derived.Test.YtllpffkifleigaaRegionCell
set_option linter.unusedSimpArgs false
set_option linter.unusedVariables false
section
namespace Go.Proofs.Ytllpffkifleigaa
open Go Go.RowKit

/-- A slice value owns its cells; its block lies in `F`. -/
def OwnF (w : World) (F : Nat → Prop) (base : Nat) (e : TypeId) (size : Nat) (v : Value) (n : Nat) (xs : List Value) : Prop := w.ownsRow base e size v n xs ∧ ∀ g, v.ownBlock = some g → F g
theorem own_mono {w : World} {base base' : Nat} {e : TypeId} {size : Nat} {v : Value} {n : Nat} {xs : List Value} (h : w.ownsRow base e size v n xs) (hb : base' ≤ base) : w.ownsRow base' e size v n xs := by
  refine ⟨h.1, ?_⟩
  rcases h.2 with hn | ⟨g, cap, cur, e1, h2, rest⟩
  · exact .inl hn
  · exact .inr ⟨g, cap, cur, e1, Nat.le_trans hb h2, rest⟩
theorem OwnF.stab {w w' : World} {F : Nat → Prop} {base : Nat} {e : TypeId} {size n : Nat} {v : Value} {xs : List Value} (h : OwnF w F base e size v n xs) (hk : ∀ k, F k → w'.heap[k]? = w.heap[k]?) : OwnF w' F base e size v n xs := by
  refine ⟨⟨h.1.1, ?_⟩, h.2⟩
  rcases h.1.2 with hn | ⟨g, cap, cur, rfl, hb, hg, rest⟩
  · exact .inl hn
  · exact .inr ⟨g, cap, cur, rfl, hb, (hk g (h.2 g rfl)).trans hg, rest⟩
theorem OwnF.of {w w1 : World} {base : Nat} {e : TypeId} {size n : Nat} {v : Value} {xs : List Value} (h : w.ownsRow base e size v n xs) (hb : w1.heap.size ≤ base) : OwnF w (fun k => w1.heap.size ≤ k ∧ k < w.heap.size) w1.heap.size e size v n xs :=
  ⟨own_mono h hb, fun g hg => by have := h.lt g hg; omega⟩
theorem OwnF.base {w : World} {F : Nat → Prop} {b b' : Nat} {e : TypeId} {size n : Nat} {v : Value} {xs : List Value} (h : OwnF w F b e size v n xs) (hb : b' ≤ b) : OwnF w F b' e size v n xs := ⟨own_mono h.1 hb, h.2⟩
/-- A pointer to a block that is known whole and lies in `F`. -/
def PtrF (w : World) (F : Nat → Prop) (base : Nat) (A : Option Addr) (t : TypeId) (cs : Array Value) : Prop := ∃ g, A = some ⟨g, 0, none⟩ ∧ base ≤ g ∧ F g ∧ Blk w g t cs
theorem PtrF.stab {w w' : World} {F : Nat → Prop} {base : Nat} {A : Option Addr} {t : TypeId} {cs : Array Value} (h : PtrF w F base A t cs) (hk : ∀ k, F k → w'.heap[k]? = w.heap[k]?) : PtrF w' F base A t cs := by
  obtain ⟨g, h1, h2, h3, h4⟩ := h
  exact ⟨g, h1, h2, h3, (hk g h3).trans h4⟩

theorem hrun_call {P : Program} {o : Oper} {a : Act} {w : World} {K : Value → World → Prop} {g : FuncId} {args : Array Value} (hrun : (execOp a.eval o).run P w = .ok (.enter g args) w) (h : Calls P g args w fun e w'' => ∃ v, e = .returned v ∧ K v w'') : HRun P o a w K := by
  unfold HRun; rw [hrun]; exact h
theorem hrun_value {P : Program} {o : Oper} {a : Act} {w w' : World} {K : Value → World → Prop} {v : Value} (hrun : (execOp a.eval o).run P w = .ok (.value v) w') (h : K v w') : HRun P o a w K := by
  unfold HRun; rw [hrun]; exact h
theorem hrun_skip {P : Program} {o : Oper} {a : Act} {w w' : World} {K : Value → World → Prop} (hrun : (execOp a.eval o).run P w = .ok .skip w') (h : K undef w') : HRun P o a w K := by
  unfold HRun; rw [hrun]; exact h

section
variable {P : Program} {lops : List Oper} {an : List (List Nat)} {m1 m2 : List Bool} {st : List St} {w0 : World} {a0 : Act} {af : (Nat → Par) → Act} {shape : Nat → Par → Value} {wr : Nat → Nat → Prop} {R : Nat → (Nat → Par) → (Nat → Prop) → World → Prop} {s : St} {o : Oper}

/-- A call that leaves what was there alone. -/
theorem obl_call (ho : lops[s.i]? = some o) (hw : ∀ x, Region.wanted o (yielded lops.toArray (af x).tmps) = true) (g : FuncId) (args : (Nat → Par) → Array Value) (hrun : ∀ (x : Nat → Par) (w : World), (execOp (af x).eval o).run P w = .ok (.enter g (args x)) w)
    (hc : ∀ (x : Nat → Par) (w : World) (F : Nat → Nat → Prop), Kept (fun k => k < w0.heap.size ∧ Eb an st wr s.i k) w0 w → (∀ j ∈ s.need, R j x (F j) w) → Calls P g (args x) w fun e w' => ∃ y, e = .returned (shape s.i y) ∧ Below w.heap.size w w' ∧ R s.i (upd x s.i y) (fun k => w.heap.size ≤ k ∧ k < w'.heap.size) w') : Obl P lops an st wr w0 af shape R s := by
  intro x w F hk hn
  refine ⟨o, ho, hw x, hrun_call (hrun x w) ((hc x w F hk fun j hj => (hn j hj).2).mono ?_)⟩
  rintro e w' ⟨y, rfl, hb, hR⟩
  exact ⟨_, rfl, y, _, rfl, ⟨hb.os, hb.tape, hb.output, hb.size, fun k hk => hb.block k hk.1⟩, fun k hk => ⟨hk.2, .inl hk.1⟩, hR⟩

/-- One new block. -/
theorem obl_new (ho : lops[s.i]? = some o) (hw : ∀ x, Region.wanted o (yielded lops.toArray (af x).tmps) = true) (t : TypeId) (cells : (Nat → Par) → Array Value) (y : Nat → Par)
    (hrun : ∀ (x : Nat → Par) (w : World), (execOp (af x).eval o).run P w = .ok (.value (shape s.i (y w.heap.size))) (w.alloc (.cells (cells x) t)))
    (hR : ∀ (x : Nat → Par) (w : World), w0.heap.size ≤ w.heap.size → R s.i (upd x s.i (y w.heap.size)) (fun k => k = w.heap.size) (w.alloc (.cells (cells x) t))) : Obl P lops an st wr w0 af shape R s := by
  intro x w F hk _
  refine ⟨o, ho, hw x, hrun_value (hrun x w) ⟨y w.heap.size, _, rfl, ⟨rfl, rfl, rfl, by simp, fun k hk => heap_alloc_old w _ hk.1⟩, fun k hk => ?_, hR x w hk.size⟩⟩
  subst hk
  exact ⟨by simp, .inl (Nat.le_refl _)⟩

def gP (g : Nat) : Par := fun _ => (some ⟨g, 0, none⟩, 0)
theorem obl_alloc (t : TypeId) (p : Tmp) (z : Value) (ha : isAlloc lops[s.i]? t p = true) (hz : (P.info? t).map (·.zero) = some (some z)) (hsh : ∀ y, shape s.i y = .pointer (y 0).1)
    (hR : ∀ (x : Nat → Par) (F : Nat → Prop) (w : World), PtrF w F w0.heap.size (x s.i 0).1 t z.cells → R s.i x F w) : Obl P lops an st wr w0 af shape R s := by
  cases ho : lops[s.i]? with
  | none => rw [ho] at ha; simp [isAlloc] at ha
  | some o =>
    rw [ho] at ha
    obtain ⟨dst, op, ty, pos, aft, gd⟩ := o
    cases dst with
    | none => simp [isAlloc] at ha
    | some d => cases gd with
      | some x => cases op <;> simp [isAlloc] at ha
      | none => cases op with
        | alloc t' =>
          simp [isAlloc] at ha
          obtain ⟨rfl, rfl⟩ := ha
          refine obl_new ho (fun x => by simp [Region.wanted]) t' (fun _ => z.cells) gP (fun x w => ?_) fun x w hle => hR _ _ _ ?_
          · rw [exec_alloc (P := P) (o := ⟨some d, .alloc t', ty, pos, aft, none⟩) rfl hz _ w, hsh]; rfl
          · rw [upd_same]
            exact ⟨w.heap.size, rfl, hle, rfl, Blk.new _ _ _⟩
        | _ => simp [isAlloc] at ha

/-- The new variable is filled. -/
theorem obl_store (t : TypeId) (p q : Tmp) (j : Nat) (zs : Array Value) (cells : (Nat → Par) → Array Value) (hs : isStore lops[s.i]? t p q = true) (htg : s.tgt = some j) (hnd : j ∈ s.need)
    (hj : ∀ (x : Nat → Par) (F : Nat → Prop) (w : World), R j x F w → PtrF w F w0.heap.size (x j 0).1 t zs) (hp : ∀ x, (af x).tmps.getD p undef = .pointer (x j 0).1) (hq : ∀ x, (af x).tmps.getD q undef = .agg (cells x)) (hi : ∀ x, (P.info? t).map (·.size) = some (cells x).size) (hzs : ∀ x, zs.size = (cells x).size)
    (h1 : ∀ x, (cells x).all (·.oneCell') = true) (hsh : ∀ y, shape s.i y = undef) (hne : j ≠ s.i)
    (hR : ∀ (x : Nat → Par) (F : Nat → Prop) (w : World) (y : Par), PtrF w F w0.heap.size (x j 0).1 t (cells x) → R s.i (upd x s.i y) F w) : Obl P lops an st wr w0 af shape R s := by
  intro x w F hk hn
  cases ho' : lops[s.i]? with
  | none => rw [ho'] at hs; simp [isStore] at hs
  | some o =>
    rw [ho'] at hs
    unfold isStore at hs
    split at hs
    · rename_i t1 p1 x1 ty pos aft heq
      simp only [Bool.and_eq_true, beq_iff_eq] at hs
      obtain ⟨⟨rfl, rfl⟩, rfl⟩ := hs
      have e := Option.some.inj heq
      subst e
      obtain ⟨g, hA, hge, hF, hb⟩ := hj x _ _ (hn j hnd).2
      refine ⟨_, rfl, by simp [Region.wanted], hrun_skip (exec_store (P := P) (o := ⟨none, .store t1 (.tmp p1) (.tmp x1), ty, pos, aft, none⟩) rfl (e := (af x).eval) (w := w) (by show (af x).tmps.getD p1 undef = _; rw [hp x, hA]) (hq x) hb (hi x) (hzs x) (h1 x)) ?_⟩
      refine ⟨fun _ => (none, 0), fun k => k = g, (hsh _).symm, ⟨rfl, rfl, rfl, by simp [World.setRow], fun k hk => ?_⟩, fun k hk => ?_, hR x _ _ _ ⟨g, hA, hge, rfl, blk_setRow hb⟩⟩
      · simp only [World.setRow, Array.getElem?_modify]
        rw [if_neg fun e => hk.2 (.inr (by unfold tgtF; rw [htg]; rw [← e]; exact hF))]
      · subst hk
        exact ⟨by have := hb.lt; simpa [World.setRow] using this, .inr (.inr (by unfold tgtF; rw [htg]; exact hF))⟩
    · cases hs

/-- A variable that was there is filled. -/
theorem obl_fill (t t' : TypeId) (p q : Tmp) (b : Nat) (old : Array Value) (cells : (Nat → Par) → Array Value) (hs : isStore lops[s.i]? t p q = true) (hp : ∀ x, (af x).tmps.getD p undef = .pointer (some ⟨b, 0, none⟩)) (hq : ∀ x, (af x).tmps.getD q undef = .agg (cells x))
    (hb0 : Blk w0 b t' old) (hE : Eb an st wr s.i b) (hwr : wr s.i b) (hi : ∀ x, (P.info? t).map (·.size) = some (cells x).size) (hzs : ∀ x, old.size = (cells x).size) (h1 : ∀ x, (cells x).all (·.oneCell') = true) (hsh : ∀ y, shape s.i y = undef)
    (hR : ∀ (x : Nat → Par) (F : Nat → Prop) (w : World) (y : Par), F b → Blk w b t' (cells x) → R s.i (upd x s.i y) F w) : Obl P lops an st wr w0 af shape R s := by
  intro x w F hk hn
  cases ho' : lops[s.i]? with
  | none => rw [ho'] at hs; simp [isStore] at hs
  | some o =>
    rw [ho'] at hs
    unfold isStore at hs
    split at hs
    · rename_i t1 p1 x1 ty pos aft heq
      simp only [Bool.and_eq_true, beq_iff_eq] at hs
      obtain ⟨⟨rfl, rfl⟩, rfl⟩ := hs
      have e := Option.some.inj heq
      subst e
      have hb : Blk w b t' old := (hk.block b ⟨hb0.lt, hE⟩).trans hb0
      refine ⟨_, rfl, by simp [Region.wanted], hrun_skip (exec_store (P := P) (o := ⟨none, .store t1 (.tmp p1) (.tmp x1), ty, pos, aft, none⟩) rfl (e := (af x).eval) (w := w) (hp x) (hq x) hb (hi x) (hzs x) (h1 x)) ?_⟩
      refine ⟨fun _ => (none, 0), fun k => k = b, (hsh _).symm, ⟨rfl, rfl, rfl, by simp [World.setRow], fun k hk => ?_⟩, fun k hk => ?_, hR x _ _ _ rfl (blk_setRow hb)⟩
      · simp only [World.setRow, Array.getElem?_modify]
        rw [if_neg fun e => hk.2 (.inl (by rw [← e]; exact hwr))]
      · subst hk
        exact ⟨by have := hb.lt; simpa [World.setRow] using this, .inr (.inl hwr)⟩
    · cases hs

theorem take_none : ∀ (n : Nat) (l : List Oper), takeOps (List.replicate n false) l = []
  | 0, l => by cases l <;> rfl
  | n + 1, [] => rfl
  | n + 1, _ :: l => take_none n l

/-- No memory that was there is turned. -/
theorem wp_region_L {id : Nat} {Q : Exit → Act → World → Prop} (an : List (List Nat)) (m1 : List Bool) (st : List St) (shape : Nat → Par → Value) (R : Nat → (Nat → Par) → (Nat → Prop) → World → Prop) (bf : Act → (Nat → Par) → Act)
    (hm : P.follows .mixedOrders = true) (hb : regB .any lops an m1 (List.replicate lops.length false) st = true) (hbf : ∀ x, putH shape x lops st a0 = bf a0 x) (ds : List Tmp) (hds : slotsB m1 (List.replicate lops.length false) lops ds = true)
    (hq : ∀ (x : Nat → Par) (D : World → Prop), Good (fun k => k < w0.heap.size) w0 D → wpQuiet P lops.toArray (fun w' => ∃ y : Of D, w' = y.val) (fun a' => a' = af x) (takeOps m1 lops) (bf a0 x))
    (hcall : ∀ d ∈ ds, ∀ (x x' : Nat → Par), (af x).tmps.getD d undef = (af x').tmps.getD d undef)
    (hob : obls P lops an st (fun _ _ => False) w0 af shape R st) (how : owes R st)
    (hfin : ∀ (x : Nat → Par) (w : World) (F : Nat → Nat → Prop), Later w0 w → lives st R x F w st → Q .normal (af x) w) : (Code.region id lops.toArray true).wp P Q a0 w0 := by
  refine wp_region_X (b := af) (af := af) an m1 (List.replicate lops.length false) st shape (fun _ _ => False) R (fun k => k < w0.heap.size) (fun k => k < w0.heap.size) hm hb (fun k hk => ⟨hk, fun i _ s _ h => h.elim⟩) (fun k hk => ⟨hk, fun i _ s _ h => h.elim⟩)
    (fun s _ k h => h.elim) (fun s _ s' _ _ k h => h.elim) (fun x D hD => by rw [hbf]; exact hq x D hD) (fun x D hD => by rw [take_none]; exact wpQuiet_nil rfl) hds hcall hob how fun x w F hk hl => hfin x w F ⟨hk.os, hk.tape, hk.output, hk.size, fun k h => hk.block k ⟨h, fun _ _ h => h⟩⟩ hl

theorem obl_callL (ho : lops[s.i]? = some o) (hw : ∀ x, Region.wanted o (yielded lops.toArray (af x).tmps) = true) (g : FuncId) (args : (Nat → Par) → Array Value) (hrun : ∀ (x : Nat → Par) (w : World), (execOp (af x).eval o).run P w = .ok (.enter g (args x)) w)
    (hc : ∀ (x : Nat → Par) (w : World) (F : Nat → Nat → Prop), Later w0 w → (∀ j ∈ s.need, R j x (F j) w) → Calls P g (args x) w fun e w' => ∃ y, e = .returned (shape s.i y) ∧ Below w.heap.size w w' ∧ R s.i (upd x s.i y) (fun k => w.heap.size ≤ k ∧ k < w'.heap.size) w') : Obl P lops an st (fun _ _ => False) w0 af shape R s :=
  obl_call ho hw g args hrun fun x w F hk hn => hc x w F ⟨hk.os, hk.tape, hk.output, hk.size, fun k h => hk.block k ⟨h, fun _ _ h => h.elim⟩⟩ hn
/-- A call that has one result. -/
theorem calls_one {f : FuncId} {args : Array Value} {w : World} {v : Value} {K : Par → World → Prop} {y : Par} {sh : Par → Value} (h : Calls P f args w fun e w' => e = .returned v ∧ Below w.heap.size w w') (hv : v = sh y) (hK : ∀ w', K y w') :
    Calls P f args w fun e w' => ∃ y, e = .returned (sh y) ∧ Below w.heap.size w w' ∧ K y w' := h.mono fun _ w' ⟨he, hb⟩ => ⟨y, by rw [he, hv], hb, hK w'⟩

theorem owe_true (h : ∀ (x : Nat → Par) (F : Nat → Prop) (w : World), R s.i x F w) : Owes R s := ⟨fun _ _ _ _ _ _ _ => h _ _ _, fun _ _ _ _ _ _ => h _ _ _⟩
theorem owe_ptr (j base : Nat) (t : TypeId) (cells : (Nat → Par) → Array Value) (hR : ∀ (x : Nat → Par) (F : Nat → Prop) (w : World), R s.i x F w = PtrF w F base (x j 0).1 t (cells x)) (hj : j = s.i ∨ j ∈ s.dep) (hc : ∀ (x x' : Nat → Par), (∀ j, j = s.i ∨ j ∈ s.dep → x j = x' j) → cells x = cells x') : Owes R s :=
  ⟨fun x F w w' h _ hk => by rw [hR] at *; exact h.stab hk, fun x x' F w hx h => by rw [hR] at *; rw [← hx j hj, ← hc x x' hx]; exact h⟩
theorem owe_fill (b : Nat) (t : TypeId) (cells : (Nat → Par) → Array Value) (hR : ∀ (x : Nat → Par) (F : Nat → Prop) (w : World), R s.i x F w = (F b ∧ Blk w b t (cells x))) (hc : ∀ (x x' : Nat → Par), (∀ j, j = s.i ∨ j ∈ s.dep → x j = x' j) → cells x = cells x') : Owes R s :=
  ⟨fun x F w w' h _ hk => by rw [hR] at *; exact ⟨h.1, (hk b h.1).trans h.2⟩, fun x x' F w hx h => by rw [hR] at *; rw [← hc x x' hx]; exact h⟩

/-! ### Variables that were there are filled -/
def earlyB (lops : List Oper) (an : List (List Nat)) (m1 : List Bool) (early : List Nat) : Bool :=
  early.all fun f => (List.range lops.length).all fun i => !m1.getD i false || (an.getD f []).contains i
theorem early_spec {early : List Nat} (hk : m1.length = lops.length) (h : earlyB lops an m1 early = true) {f i : Nat} (hf : f ∈ early) (hi : m1.getD i false = true) : i ∈ an.getD f [] := by
  have h1 := List.all_eq_true.1 (List.all_eq_true.1 h f hf) i (List.mem_range.2 (by
    rcases Nat.lt_or_ge i m1.length with h | h
    · omega
    · simp [List.getD, List.getElem?_eq_none h] at hi))
  rw [hi] at h1
  simpa using h1
def wrF (fills : List (Nat × Nat)) (i k : Nat) : Prop := (i, k) ∈ fills
def free (fills : List (Nat × Nat)) (k : Nat) : Prop := ∀ p ∈ fills, p.2 ≠ k

theorem wp_region_F {id : Nat} {Q : Exit → Act → World → Prop} {b : (Nat → Par) → Act} (an : List (List Nat)) (m1 m2 : List Bool) (st : List St) (fills : List (Nat × Nat)) (early : List Nat) (shape : Nat → Par → Value) (R : Nat → (Nat → Par) → (Nat → Prop) → World → Prop) (bf : Act → (Nat → Par) → Act)
    (hm : P.follows .mixedOrders = true) (hb : regB .any lops an m1 m2 st = true) (he : earlyB lops an m1 early = true) (hbf : ∀ x, putH shape x lops st a0 = bf a0 x) (ds : List Tmp) (hds : slotsB m1 m2 lops ds = true)
    (hl : ∀ p ∈ fills, p.2 < w0.heap.size) (hd : ∀ p ∈ fills, ∀ q ∈ fills, p.1 ≠ q.1 → p.2 ≠ q.2)
    (hq : ∀ (x : Nat → Par) (D : World → Prop), Good (fun k => k < w0.heap.size ∧ ∀ p ∈ fills, p.2 = k → p.1 ∈ early) w0 D → wpQuiet P lops.toArray (fun w' => ∃ y : Of D, w' = y.val) (fun a' => a' = b x) (takeOps m1 lops) (bf a0 x))
    (hq2 : ∀ (x : Nat → Par) (D : World → Prop), Good (fun k => k < w0.heap.size ∧ free fills k) w0 D → wpQuiet P lops.toArray (fun w' => ∃ y : Of D, w' = y.val) (fun a' => a' = af x) (takeOps m2 lops) (b x))
    (hcall : ∀ d ∈ ds, ∀ (x x' : Nat → Par), (af x).tmps.getD d undef = (af x').tmps.getD d undef)
    (hob : obls P lops an st (wrF fills) w0 af shape R st) (how : owes R st)
    (hfin : ∀ (x : Nat → Par) (w : World) (F : Nat → Nat → Prop), Kept (fun k => k < w0.heap.size ∧ free fills k) w0 w → lives st R x F w st → Q .normal (af x) w) : (Code.region id lops.toArray true).wp P Q a0 w0 := by
  have hk := chk_of hb
  refine wp_region_X (b := b) (af := af) an m1 m2 st shape (wrF fills) R (fun k => k < w0.heap.size ∧ ∀ p ∈ fills, p.2 = k → p.1 ∈ early) (fun k => k < w0.heap.size ∧ free fills k) hm hb ?_ (fun k hk => ⟨hk.1, fun i _ s _ h => absurd rfl (hk.2 _ h)⟩)
    (fun s _ k h => hl _ h) (fun s _ s' _ hne k h h' => hd _ h _ h' hne rfl) (fun x D hD => by rw [hbf]; exact hq x D hD) hq2 hds hcall hob how fun x w F hkk hl => hfin x w F (hkk.weak fun k hk => ⟨hk.1, fun s _ h => hk.2 _ h rfl⟩) hl
  intro k hk'
  exact ⟨hk'.1, fun i hi s _ hw => .inr (early_spec hk.len1 he (hk'.2 _ hw rfl) hi)⟩
/-- A call, in such a region: the memory that no one fills is as it was. -/
theorem obl_callF {fills : List (Nat × Nat)} (ho : lops[s.i]? = some o) (hw : ∀ (x : Nat → Par), Region.wanted o (yielded lops.toArray (af x).tmps) = true) (g : FuncId) (args : (Nat → Par) → Array Value) (hrun : ∀ (x : Nat → Par) (w : World), (execOp (af x).eval o).run P w = .ok (.enter g (args x)) w)
    (hc : ∀ (x : Nat → Par) (w : World) (F : Nat → Nat → Prop), Kept (fun k => k < w0.heap.size ∧ free fills k) w0 w → (∀ j ∈ s.need, R j x (F j) w) → Calls P g (args x) w fun e w' => ∃ y, e = .returned (shape s.i y) ∧ Below w.heap.size w w' ∧ R s.i (upd x s.i y) (fun k => w.heap.size ≤ k ∧ k < w'.heap.size) w') : Obl P lops an st (wrF fills) w0 af shape R s :=
  obl_call ho hw g args hrun fun x w F hk hn => hc x w F (hk.weak fun k hk => ⟨hk.1, fun s' _ h => absurd rfl (hk.2 _ h)⟩) hn
theorem fills_lt {fills : List (Nat × Nat)} {B : Nat} (h : (fills.map (·.2)).all (fun k => decide (k < B)) = true) : ∀ p ∈ fills, p.2 < B := fun p hp => of_decide_eq_true (List.all_eq_true.1 h p.2 (List.mem_map.2 ⟨p, hp, rfl⟩))
theorem fills_ne1 {f g : Nat} : ∀ p ∈ [(f, g)], ∀ q ∈ [(f, g)], p.1 ≠ q.1 → p.2 ≠ q.2 := fun p hp q hq hne => by
  simp only [List.mem_singleton] at hp hq
  subst hp; subst hq; exact absurd rfl hne
theorem eb_fill1 {f g : Nat} : Eb an st (wrF [(f, g)]) f g := fun s _ h => by
  have : (s.i, g) = (f, g) := by simpa [wrF] using h
  exact .inl (congrArg Prod.fst this)
/-- Facts on memory in a class of worlds that keeps a set of blocks. -/
theorem liftS {D : World → Prop} {S : Nat → Prop} {w : World} (hD : Good S w D) {b o : Nat} {v : Value} (h : w.cell? ⟨b, o, none⟩ = some v) (hb : S b) (x : Of D) : x.val.cell? ⟨b, o, none⟩ = some v := lift hD h hb x
theorem fills_lt1 {f g B : Nat} (h : g < B) : ∀ p ∈ [(f, g)], p.2 < B := fun p hp => by
  simp only [List.mem_singleton] at hp
  subst hp; exact h
theorem fills_lt2 {f g f' g' B : Nat} (h : g < B) (h' : g' < B) : ∀ p ∈ [(f, g), (f', g')], p.2 < B := fun p hp => by
  simp only [List.mem_cons, List.not_mem_nil, or_false] at hp
  rcases hp with rfl | rfl
  · exact h
  · exact h'
theorem fills_ne2 {f g f' g' : Nat} (h : g ≠ g') : ∀ p ∈ [(f, g), (f', g')], ∀ q ∈ [(f, g), (f', g')], p.1 ≠ q.1 → p.2 ≠ q.2 := fun p hp q hq hne => by
  simp only [List.mem_cons, List.not_mem_nil, or_false] at hp hq
  rcases hp with rfl | rfl <;> rcases hq with rfl | rfl
  · exact absurd rfl hne
  · exact h
  · exact h.symm
  · exact absurd rfl hne
theorem eb_fill2 {f g f' g' : Nat} (h : g ≠ g') : Eb an st (wrF [(f, g), (f', g')]) f g ∧ Eb an st (wrF [(f, g), (f', g')]) f' g' := by
  constructor <;> intro s _ hw <;> simp only [wrF, List.mem_cons, List.not_mem_nil, or_false, Prod.mk.injEq] at hw <;> rcases hw with ⟨h1, h2⟩ | ⟨h1, h2⟩
  · exact .inl h1
  · exact absurd h2 h
  · exact absurd h2.symm h
  · exact .inl h1
theorem early_all {fills : List (Nat × Nat)} {early : List Nat} {k B : Nat} (h : k < B) (he : (fills.all fun p => early.contains p.1) = true) : k < B ∧ ∀ p ∈ fills, p.2 = k → p.1 ∈ early :=
  ⟨h, fun p hp _ => by have := List.all_eq_true.1 he p hp; simpa using this⟩
theorem free1 {f g k : Nat} (h : g ≠ k) : free [(f, g)] k := fun p hp => by
  simp only [List.mem_singleton] at hp
  subst hp; exact h
theorem free2 {f g f' g' k : Nat} (h : g ≠ k) (h' : g' ≠ k) : free [(f, g), (f', g')] k := fun p hp => by
  simp only [List.mem_cons, List.not_mem_nil, or_false] at hp
  rcases hp with rfl | rfl
  · exact h
  · exact h'
theorem grown_kept {f g : Nat} {w w' : World} (h : Kept (fun k => k < w.heap.size ∧ free [(f, g)] k) w w') : w.grownBy w' (some g) :=
  ⟨h.os, h.tape, h.output, h.size, fun k hk hne => h.block k ⟨hk, free1 fun e => hne (by rw [e])⟩⟩
theorem blk_kept {S : Nat → Prop} {w w' : World} {g : Nat} {t : TypeId} {cs : Array Value} (h : Blk w g t cs) (hk : Kept S w w') (hS : S g) : Blk w' g t cs := (hk.block g hS).trans h
/-- One number is stored into a variable that was there. -/
theorem obl_set (t t' : TypeId) (p q : Tmp) (b off : Nat) (old : Array Value) (z : Int) (new : Array Value) (hs : isStore lops[s.i]? t p q = true) (hp : ∀ (x : Nat → Par), (af x).tmps.getD p undef = .pointer (some ⟨b, off, none⟩)) (hq : ∀ (x : Nat → Par), (af x).tmps.getD q undef = .int .i64 z)
    (hb0 : Blk w0 b t' old) (hE : Eb an st wr s.i b) (hwr : wr s.i b) (hi : (P.info? t).map (·.size) = some 1) (hoff : off < old.size) (hnew : old.setIfInBounds off (.int .i64 z) = new) (hsh : ∀ y, shape s.i y = undef)
    (hR : ∀ (x : Nat → Par) (F : Nat → Prop) (w : World) (y : Par), F b → Blk w b t' new → R s.i (upd x s.i y) F w) : Obl P lops an st wr w0 af shape R s := by
  intro x w F hk hn
  cases ho' : lops[s.i]? with
  | none => rw [ho'] at hs; simp [isStore] at hs
  | some o =>
    rw [ho'] at hs
    unfold isStore at hs
    split at hs
    · rename_i t1 p1 x1 ty pos aft heq
      simp only [Bool.and_eq_true, beq_iff_eq] at hs
      obtain ⟨⟨rfl, rfl⟩, rfl⟩ := hs
      have e := Option.some.inj heq
      subst e
      have hb : Blk w b t' old := (hk.block b ⟨hb0.lt, hE⟩).trans hb0
      refine ⟨_, rfl, by simp [Region.wanted], hrun_skip (exec_store_cell (P := P) (o := ⟨none, .store t1 (.tmp p1) (.tmp x1), ty, pos, aft, none⟩) rfl (e := (af x).eval) (w := w) (hp x) (hq x) hb hi hoff) ?_⟩
      have g := grown_setCell w b off (.int .i64 z)
      refine ⟨fun _ => (none, 0), fun k => k = b, (hsh _).symm, ⟨g.os, g.tape, g.output, g.size, fun k hk => g.block k hk.1 fun e => hk.2 (.inl (by have : k = b := Option.some.inj e; rw [this]; exact hwr))⟩, fun k hk => ?_, hR x _ _ _ rfl (by have := hb.set_ off (.int .i64 z); rw [hnew] at this; exact this)⟩
      subst hk
      exact ⟨Nat.lt_of_lt_of_le hb.lt g.size, .inr (.inl hwr)⟩
    · cases hs
/-- Of two variables that are filled, the second may be read first. -/
theorem early_one {f g f' g' k B : Nat} (h : k < B) (hne : g ≠ k) : k < B ∧ ∀ p ∈ [(f, g), (f', g')], p.2 = k → p.1 ∈ [f'] :=
  ⟨h, fun p hp e => by
    simp only [List.mem_cons, List.not_mem_nil, or_false] at hp
    rcases hp with rfl | rfl
    · exact absurd e hne
    · simp⟩
/-- One number more is stored into a variable that this region has begun to fill. -/
theorem obl_set_more (t t' : TypeId) (p q : Tmp) (j b off : Nat) (old : Array Value) (z : Int) (new : Array Value) (hs : isStore lops[s.i]? t p q = true) (htg : s.tgt = some j) (hnd : j ∈ s.need) (hj : ∀ (x : Nat → Par) (F : Nat → Prop) (w : World), R j x F w → F b ∧ Blk w b t' old)
    (hp : ∀ (x : Nat → Par), (af x).tmps.getD p undef = .pointer (some ⟨b, off, none⟩)) (hq : ∀ (x : Nat → Par), (af x).tmps.getD q undef = .int .i64 z) (hi : (P.info? t).map (·.size) = some 1) (hoff : off < old.size) (hnew : old.setIfInBounds off (.int .i64 z) = new) (hsh : ∀ y, shape s.i y = undef)
    (hR : ∀ (x : Nat → Par) (F : Nat → Prop) (w : World) (y : Par), F b → Blk w b t' new → R s.i (upd x s.i y) F w) : Obl P lops an st wr w0 af shape R s := by
  intro x w F hk hn
  cases ho' : lops[s.i]? with
  | none => rw [ho'] at hs; simp [isStore] at hs
  | some o =>
    rw [ho'] at hs
    unfold isStore at hs
    split at hs
    · rename_i t1 p1 x1 ty pos aft heq
      simp only [Bool.and_eq_true, beq_iff_eq] at hs
      obtain ⟨⟨rfl, rfl⟩, rfl⟩ := hs
      have e := Option.some.inj heq
      subst e
      obtain ⟨hF, hb⟩ := hj x _ _ (hn j hnd).2
      have ht : tgtF s F b := by unfold tgtF; rw [htg]; exact hF
      refine ⟨_, rfl, by simp [Region.wanted], hrun_skip (exec_store_cell (P := P) (o := ⟨none, .store t1 (.tmp p1) (.tmp x1), ty, pos, aft, none⟩) rfl (e := (af x).eval) (w := w) (hp x) (hq x) hb hi hoff) ?_⟩
      have g := grown_setCell w b off (.int .i64 z)
      refine ⟨fun _ => (none, 0), fun k => k = b, (hsh _).symm, ⟨g.os, g.tape, g.output, g.size, fun k hk => g.block k hk.1 fun e => hk.2 (.inr (by have : k = b := Option.some.inj e; rw [this]; exact ht))⟩, fun k hk => ?_, hR x _ _ _ rfl (by have := hb.set_ off (.int .i64 z); rw [hnew] at this; exact this)⟩
      subst hk
      exact ⟨Nat.lt_of_lt_of_le hb.lt g.size, .inr (.inr ht)⟩
    · cases hs
theorem below_kept {B : Nat} {w W w2 : World} {fills : List (Nat × Nat)} (h : Below B w W) (hB : B ≤ W.heap.size) (hK : Kept (fun k => k < W.heap.size ∧ free fills k) W w2) (hf : ∀ p ∈ fills, B ≤ p.2) : Below B w w2 :=
  h.trans ⟨hK.os, hK.tape, hK.output, hK.size, fun k hk => hK.block k ⟨Nat.lt_of_lt_of_le hk hB, fun p hp e => by have := hf p hp; omega⟩⟩
end
end Go.Proofs.Ytllpffkifleigaa
end
section
namespace Go.Proofs.Ytllpffkifleigaa
open Go Go.RowKit

section
variable {P : Program} {lops : List Oper} {an : List (List Nat)} {m1 : List Bool} {st : List St} {w0 : World} {a0 : Act} {af : (Nat → Par) → Act} {shape : Nat → Par → Value} {wr : Nat → Nat → Prop} {R : Nat → (Nat → Par) → (Nat → Prop) → World → Prop} {s : St} {o : Oper}
theorem wp_region_W {id : Nat} {Q : Exit → Act → World → Prop} (wr : Nat → Nat → Prop) (an : List (List Nat)) (m1 : List Bool) (st : List St) (shape : Nat → Par → Value) (R : Nat → (Nat → Par) → (Nat → Prop) → World → Prop) (bf : Act → (Nat → Par) → Act)
    (hm : P.follows .mixedOrders = true) (hb : regB .any lops an m1 (List.replicate lops.length false) st = true) (hbf : ∀ x, putH shape x lops st a0 = bf a0 x) (ds : List Tmp) (hds : slotsB m1 (List.replicate lops.length false) lops ds = true)
    (hwl : ∀ i k, wr i k → k < w0.heap.size) (hwr : ∀ i j, i ≠ j → ∀ k, wr i k → ¬ wr j k)
    (hq : ∀ (x : Nat → Par) (D : World → Prop), Good (fun k => k < w0.heap.size ∧ ∀ i, ¬ wr i k) w0 D → wpQuiet P lops.toArray (fun w' => ∃ y : Of D, w' = y.val) (fun a' => a' = af x) (takeOps m1 lops) (bf a0 x))
    (hcall : ∀ d ∈ ds, ∀ (x x' : Nat → Par), (af x).tmps.getD d undef = (af x').tmps.getD d undef)
    (hob : obls P lops an st wr w0 af shape R st) (how : owes R st)
    (hfin : ∀ (x : Nat → Par) (w : World) (F : Nat → Nat → Prop), Kept (fun k => k < w0.heap.size ∧ ∀ i, ¬ wr i k) w0 w → lives st R x F w st → Aparts st F → Q .normal (af x) w) : (Code.region id lops.toArray true).wp P Q a0 w0 := by
  have hS : ∀ k, (k < w0.heap.size ∧ ∀ i, ¬ wr i k) → k < w0.heap.size ∧ ∀ i : Nat, Eb an st wr i k := fun k hk => ⟨hk.1, fun i s _ h => absurd h (hk.2 _)⟩
  exact wp_region_XA (b := af) (af := af) an m1 (List.replicate lops.length false) st shape wr R (fun k => k < w0.heap.size ∧ ∀ i, ¬ wr i k) (fun k => k < w0.heap.size ∧ ∀ i, ¬ wr i k) hm hb (fun k hk => ⟨hk.1, fun i _ => (hS k hk).2 i⟩) (fun k hk => ⟨hk.1, fun i _ => (hS k hk).2 i⟩)
    (fun s _ k h => hwl s.i k h) (fun s _ s' _ hne k h => hwr s.i s'.i hne k h) (fun x D hD => by rw [hbf]; exact hq x D hD) (fun x D hD => by rw [take_none]; exact wpQuiet_nil rfl) hds hcall hob how
    fun x w F hk hl hap => hfin x w F (hk.weak fun k hk' => ⟨hk'.1, fun s _ => hk'.2 s.i⟩) hl hap
theorem obl_turn (ho : lops[s.i]? = some o) (hw : ∀ x, Region.wanted o (yielded lops.toArray (af x).tmps) = true) (g : FuncId) (args : (Nat → Par) → Array Value) (hrun : ∀ (x : Nat → Par) (w : World), (execOp (af x).eval o).run P w = .ok (.enter g (args x)) w)
    (hc : ∀ (x : Nat → Par) (w : World) (F : Nat → Nat → Prop), Kept (fun k => k < w0.heap.size ∧ ∀ j, j ≠ s.i → ¬ wr j k) w0 w → (∀ j ∈ s.need, (∀ k, F j k → k < w.heap.size) ∧ R j x (F j) w) → Calls P g (args x) w fun e w' => ∃ y G, e = .returned (shape s.i y) ∧
      Kept (fun k => k < w.heap.size ∧ ¬ (wr s.i k ∨ tgtF s F k)) w w' ∧ (∀ k, G k → k < w'.heap.size ∧ (w.heap.size ≤ k ∨ wr s.i k ∨ tgtF s F k)) ∧ R s.i (upd x s.i y) G w') : Obl P lops an st wr w0 af shape R s := by
  intro x w F hk hn
  refine ⟨o, ho, hw x, hrun_call (hrun x w) ((hc x w F (hk.weak fun k hk' => ⟨hk'.1, fun s' hs' h => ?_⟩) hn).mono ?_)⟩
  · by_cases e : s'.i = s.i
    · exact .inl e
    · exact absurd h (hk'.2 _ e)
  · rintro e w' ⟨y, G, rfl, h1, h2, h3⟩
    exact ⟨_, rfl, y, G, rfl, h1, h2, h3⟩
end
end Go.Proofs.Ytllpffkifleigaa
end
