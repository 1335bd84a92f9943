/-
  Regions that draw their order: a store into a map.
-/
import Derived.Test.YtllpffkifleigaaWbRefDivs
import Derived.Test.YtllpffkifleigaaMapV
import Derived.WideKeyEntry
set_option linter.unusedSimpArgs false
set_option linter.unusedVariables false
namespace Go.Proofs.Ytllpffkifleigaa
open Go Go.RowKit

def isMapUpd (o : Option Oper) (t : TypeId) (m x v : Tmp) : Bool := match o with
  | some ⟨none, .mapUpdate t' (.tmp m') (.tmp x') (.tmp v'), _, _, _, none⟩ => t' == t && m' == m && x' == x && v' == v
  | _ => false
theorem isMapUpd_spec {o : Option Oper} {t : TypeId} {m x v : Tmp} (h : isMapUpd o t m x v = true) : ∃ ty pos aft, o = some ⟨none, .mapUpdate t (.tmp m) (.tmp x) (.tmp v), ty, pos, aft, none⟩ := by
  unfold isMapUpd at h
  split at h
  · simp only [Bool.and_eq_true, beq_iff_eq] at h
    obtain ⟨⟨⟨rfl, rfl⟩, rfl⟩, rfl⟩ := h
    exact ⟨_, _, _, rfl⟩
  · cases h
theorem mapV_later {w w' : World} {P : Program} {k : TypeId} {b c : Nat} {f : ByteArray → Option Value} (h : MapV w P k b f c) (hl : Later w w') : MapV w' P k b f c := h.stab (hl.block b h.lt)
theorem mapV_grown {w w' : World} {P : Program} {k : TypeId} {b c : Nat} {f : ByteArray → Option Value} {row : Option Nat} (h : MapV w P k b f c) (hg : w.grownBy w' row) (hne : row ≠ some b) : MapV w' P k b f c := h.stab (hg.block b h.lt (Ne.symm hne))
section
variable {P : Program} {lops : List Oper} {an : List (List Nat)} {m1 m2 : List Bool} {st : List St} {w0 : World} {a0 : Act} {af : (Nat → Par) → Act} {shape : Nat → Par → Value} {wr : Nat → Nat → Prop} {R : Nat → (Nat → Par) → (Nat → Prop) → World → Prop} {s : St} {o : Oper}

/-- A store into a map that was there. -/
theorem obl_mapUpd (t k e : TypeId) (m x v : Tmp) (b c : Nat) (f : ByteArray → Option Value) (key : ByteArray) (val : Value) (hs : isMapUpd lops[s.i]? t m x v = true)
    (hm : ∀ (y : Nat → Par), (af y).tmps.getD m undef = .map (some b)) (hx : ∀ (y : Nat → Par), (af y).tmps.getD x undef = .string key) (hv : ∀ (y : Nat → Par), (af y).tmps.getD v undef = val)
    (hk : P.underlying k = some .string) (ht : P.underlying t = some (.map k e)) (hc : c < maxLen) (hsz : key.size ≤ maxLen) (hb0 : MapV w0 P k b f c) (hE : Eb an st wr s.i b) (hwr : wr s.i b) (hsh : ∀ y, shape s.i y = undef)
    (hR : ∀ (x : Nat → Par) (F : Nat → Prop) (w : World) (y : Par), F b → MapV w P k b (putF f key val) (if (f key).isSome then c else c + 1) → R s.i (upd x s.i y) F w) : Obl P lops an st wr w0 af shape R s := by
  intro y w F hkk hn
  cases ho' : lops[s.i]? with
  | none => rw [ho'] at hs; simp [isMapUpd] at hs
  | some o =>
    rw [ho'] at hs
    obtain ⟨ty, pos, aft, heq⟩ := isMapUpd_spec hs
    have e1 := Option.some.inj heq
    subst e1
    have hb : MapV w P k b f c := hb0.stab (hkk.block b ⟨hb0.lt, hE⟩)
    obtain ⟨w', hrun, hm', htn⟩ := hb.store hk ht hc hsz val
    have g := htn.grown
    refine ⟨_, rfl, by simp [Region.wanted], hrun_skip (w' := w') (by simp [execOp, Act.eval, hm y, hx y, hv y, hrun, Result.andThen]) ?_⟩
    refine ⟨fun _ => (none, 0), fun k => k = b, (hsh _).symm, ⟨g.os, g.tape, g.output, g.size, fun q hq => g.block q hq.1 fun e => hq.2 (.inl (by have : q = b := Option.some.inj e; rw [this]; exact hwr))⟩, fun q hq => ?_, hR y _ _ _ rfl hm'⟩
    subst hq
    exact ⟨Nat.lt_of_lt_of_le hb.lt g.size, .inr (.inl hwr)⟩
theorem owe_mapV (P' : Program) (k : TypeId) (b c : Nat) (f : ByteArray → Option Value) (hR : ∀ (x : Nat → Par) (F : Nat → Prop) (w : World), R s.i x F w = (F b ∧ MapV w P' k b f c)) : Owes R s :=
  ⟨fun x F w w' h _ hk => by rw [hR] at *; exact ⟨h.1, h.2.stab (hk b h.1)⟩, fun x x' F w hx h => by rw [hR] at *; exact h⟩
end

/-! ### A row's own block, and any other blocks -/
def fillL (i : Nat) (v : Value) (cs : List (Nat × Nat)) : List (Nat × Nat) := ownFill i v ++ cs
theorem mem_fillL {i : Nat} {v : Value} {cs : List (Nat × Nat)} {p : Nat × Nat} : p ∈ fillL i v cs ↔ (p.1 = i ∧ v.ownBlock = some p.2) ∨ p ∈ cs := by
  unfold fillL
  rw [List.mem_append, mem_ownFill]
section
variable {P : Program} {lops : List Oper} {an : List (List Nat)} {m1 m2 : List Bool} {st : List St} {w0 : World} {a0 : Act} {af : (Nat → Par) → Act} {shape : Nat → Par → Value} {wr : Nat → Nat → Prop} {R : Nat → (Nat → Par) → (Nat → Prop) → World → Prop} {s : St} {o : Oper}
variable {i f T B k : Nat} {v : Value} {cs : List (Nat × Nat)} {early : List Nat}
theorem fillL_lt (h : ∀ g, v.ownBlock = some g → g < B) (hc : ∀ q ∈ cs, q.2 < B) : ∀ p ∈ fillL i v cs, p.2 < B := fun p hp => by
  rcases mem_fillL.1 hp with ⟨_, h2⟩ | h2
  · exact h _ h2
  · exact hc _ h2
theorem fillL_ne (hne : ∀ q ∈ cs, v.ownBlock ≠ some q.2) (hcc : ∀ p ∈ cs, ∀ q ∈ cs, p.1 ≠ q.1 → p.2 ≠ q.2) : ∀ p ∈ fillL i v cs, ∀ q ∈ fillL i v cs, p.1 ≠ q.1 → p.2 ≠ q.2 := fun p hp q hq h e => by
  rcases mem_fillL.1 hp with ⟨h1, h2⟩ | h1 <;> rcases mem_fillL.1 hq with ⟨h3, h4⟩ | h3
  · exact h (h1.trans h3.symm)
  · exact hne q h3 (by rw [h2, e])
  · exact hne p h1 (by rw [h4, e])
  · exact hcc p h1 q h3 h e
theorem ebL_row {g : Nat} (hg : v.ownBlock = some g) (hne : ∀ q ∈ cs, v.ownBlock ≠ some q.2) : Eb an st (wrF (fillL i v cs)) i g := fun s _ h => by
  rcases mem_fillL.1 h with ⟨h1, _⟩ | h1
  · exact .inl h1
  · exact absurd hg (hne _ h1)
theorem ebL_cell (hq : (f, T) ∈ cs) (hne : v.ownBlock ≠ some T) (hcc : ∀ p ∈ cs, ∀ q ∈ cs, p.1 ≠ q.1 → p.2 ≠ q.2) : Eb an st (wrF (fillL i v cs)) f T := fun s _ h => by
  rcases mem_fillL.1 h with ⟨_, h2⟩ | h1
  · exact absurd h2 hne
  · left
    by_cases e : s.i = f
    · exact e
    · exact (hcc (s.i, T) h1 (f, T) hq e rfl).elim
theorem earlyL (h : k < B) (hne : v.ownBlock ≠ some k) (hq : ∀ q ∈ cs, q.2 = k → q.1 ∈ early) : k < B ∧ ∀ p ∈ fillL i v cs, p.2 = k → p.1 ∈ early :=
  ⟨h, fun p hp e => by
    rcases mem_fillL.1 hp with ⟨_, h2⟩ | h1
    · exact absurd (e ▸ h2) hne
    · exact hq p h1 e⟩
theorem freeL (hne : v.ownBlock ≠ some k) (hq : ∀ q ∈ cs, q.2 ≠ k) : free (fillL i v cs) k := fun p hp e => by
  rcases mem_fillL.1 hp with ⟨_, h2⟩ | h1
  · exact hne (e ▸ h2)
  · exact hq p h1 e
theorem wrL_row : ∀ g, v.ownBlock = some g → wrF (fillL i v cs) i g := fun g hg => by
  unfold wrF
  exact mem_fillL.2 (.inl ⟨rfl, hg⟩)
theorem wrL_cell (h : (f, T) ∈ cs) : wrF (fillL i v cs) f T := by
  unfold wrF
  exact mem_fillL.2 (.inr h)
theorem row_thenL {base : Nat} {e : TypeId} {size n : Nat} {xs : List Value} {w : World} (h : w0.ownsRow base e size v n xs) (hne : ∀ q ∈ cs, v.ownBlock ≠ some q.2) (hk : Kept (fun k => k < w0.heap.size ∧ Eb an st (wrF (fillL i v cs)) i k) w0 w) : w.ownsRow base e size v n xs := by
  refine ⟨h.1, ?_⟩
  rcases h.2 with h0 | ⟨g, cap, cur, hv, hb, hg, r⟩
  · exact .inl h0
  · refine .inr ⟨g, cap, cur, hv, hb, ?_, r⟩
    have hlt : g < w0.heap.size := (Array.getElem?_eq_some_iff.1 hg).1
    rw [hk.block g ⟨hlt, ebL_row (by rw [hv]; rfl) hne⟩]; exact hg

theorem row_thenC {v2 : Value} {base : Nat} {e : TypeId} {size n : Nat} {xs : List Value} {w : World} (h : w0.ownsRow base e size v2 n xs) (ha : Apart v v2) (hk : Kept (fun k => k < w0.heap.size ∧ Eb an st (wrF (fillL i v (ownFill f v2))) f k) w0 w) : w.ownsRow base e size v2 n xs := by
  refine ⟨h.1, ?_⟩
  rcases h.2 with h0 | ⟨g, cap, cur, hv, hb, hg, r⟩
  · exact .inl h0
  · refine .inr ⟨g, cap, cur, hv, hb, ?_, r⟩
    have hlt : g < w0.heap.size := (Array.getElem?_eq_some_iff.1 hg).1
    have hgo : v2.ownBlock = some g := by rw [hv]; rfl
    rw [hk.block g ⟨hlt, ebL_cell (mem_ownFill.2 ⟨rfl, hgo⟩) (apart_ne ha hgo) fun p hp q hq hne => absurd ((mem_ownFill.1 hp).1.trans (mem_ownFill.1 hq).1.symm) hne⟩]; exact hg
theorem wrL_own {v2 : Value} : ∀ g, v2.ownBlock = some g → wrF (fillL i v (ownFill f v2)) f g := fun g hg => wrL_cell (mem_ownFill.2 ⟨rfl, hg⟩)

/-! ### 'm[k] = v' in two steps -/
/-- The key has come up: a store at this stamp gives the map with the key. -/
def Pend (P : Program) (w : World) (t k : TypeId) (b c : Nat) (f : ByteArray → Option Value) (key : ByteArray) (n : Nat) : Prop :=
  ∃ es clock, w.heap[b]? = some (.map es clock) ∧ ∀ (w2 : World) (val : Value), w2.heap[b]? = some (.map es clock) → ∃ w', (Instr.entryStore t (.map (some b)) (goInt n) val).run P w2 = .ok () w' ∧ MapV w' P k b (putF f key val) (if (f key).isSome then c else c + 1) ∧ w2.grownBy w' (some b)
theorem grown_setBlock {w : World} {b : Nat} {es : Array MapEntry} {clock : Nat} {o' : Obj} (hb : w.heap[b]? = some (.map es clock)) : w.grownBy (ChangeMaps.setBlock w b o') (some b) :=
  ⟨rfl, rfl, rfl, by simp [ChangeMaps.setBlock], fun i _ hi => ChangeMaps.heap_setBlock_other hb _ (fun e => hi (by rw [e]))⟩
theorem MapV.entry {t k e : TypeId} {w : World} {b c : Nat} {f : ByteArray → Option Value} (h : MapV w P k b f c) (hk : P.underlying k = some .string) (ht : P.underlying t = some (.map k e)) {z : Value} (hz : ∀ u : World, (zeroValue e).run P u = .ok z u) (hc : c < maxLen) {key : ByteArray} (hs : key.size ≤ maxLen) (hf : f key = none) :
    ∃ (n : Nat) (w' : World), (Instr.mapEntry t (.map (some b)) (.string key)).run P w = .ok (.tuple #[z, goInt n]) w' ∧ w.grownBy w' (some b) ∧ Pend P w' t k b c f key n := by
  have h0 := h
  obtain ⟨D, ⟨es, clock, hb, F, hsz, hD⟩, h2, h3⟩ := h
  obtain ⟨v0, st, es1, clock1, r1, r2, r3⟩ := WideElems.entry_then_store (WideMaps.string_law hk) ht hz hb F (WideMaps.keyOf_string_mk hk hs)
  have hv0 : v0 = z := by
    rcases r2 with ⟨e0, he, hke, rfl⟩ | ⟨_, h⟩
    · have h4 := (h0.look hk ht (z := z) (hz w) hs)
      exfalso
      have h5 := (h3 key).1
      rw [hf] at h5
      rcases Maps.fit_look false (Maps.string_keyed hk) ht (hz w) hb F (WideMaps.keyOf_string_mk hk hs) with ⟨_, hno, _⟩ | ⟨e1, y, _, _, _, _, hat, _⟩
      · exact hno e0 he hke
      · have := Maps.has_true_of_atKey hat
        unfold keyL at h5
        rw [hD] at h5
        rw [this] at h5
        cases h5
    · exact h
  subst hv0
  refine ⟨st, _, r1, grown_setBlock hb, es1, clock1, ChangeMaps.heap_setBlock_same hb _, fun w2 val hw2 => ?_⟩
  obtain ⟨es', clock', q1, q2⟩ := r3 w2 val hw2
  obtain ⟨w', m1, m2, m3⟩ := h0.store hk ht hc hs val
  have e1 : w' = ChangeMaps.setBlock w b (.map es' clock') := by
    rw [q2] at m1
    injection m1 with _ m1
    exact m1.symm
  refine ⟨_, q1, m2.stab ?_, grown_setBlock hw2⟩
  rw [e1, ChangeMaps.heap_setBlock_same hw2 _, ChangeMaps.heap_setBlock_same hb _]

def isMapEntry (o : Option Oper) (t : TypeId) (m x : Tmp) : Bool := match o with
  | some ⟨_, .mapEntry t' (.tmp m') (.tmp x'), _, _, _, none⟩ => t' == t && m' == m && x' == x
  | _ => false
theorem isMapEntry_spec {o : Option Oper} {t : TypeId} {m x : Tmp} (h : isMapEntry o t m x = true) : ∃ d ty pos aft, o = some ⟨d, .mapEntry t (.tmp m) (.tmp x), ty, pos, aft, none⟩ := by
  unfold isMapEntry at h
  split at h
  · simp only [Bool.and_eq_true, beq_iff_eq] at h
    obtain ⟨⟨rfl, rfl⟩, rfl⟩ := h
    exact ⟨_, _, _, _, rfl⟩
  · cases h
def isEntryStore (o : Option Oper) (t : TypeId) (m n v : Tmp) : Bool := match o with
  | some ⟨none, .entryStore t' (.tmp m') (.tmp n') (.tmp v'), _, _, _, none⟩ => t' == t && m' == m && n' == n && v' == v
  | _ => false
theorem isEntryStore_spec {o : Option Oper} {t : TypeId} {m n v : Tmp} (h : isEntryStore o t m n v = true) : ∃ ty pos aft, o = some ⟨none, .entryStore t (.tmp m) (.tmp n) (.tmp v), ty, pos, aft, none⟩ := by
  unfold isEntryStore at h
  split at h
  · simp only [Bool.and_eq_true, beq_iff_eq] at h
    obtain ⟨⟨⟨rfl, rfl⟩, rfl⟩, rfl⟩ := h
    exact ⟨_, _, _, rfl⟩
  · cases h
/-- The key of a new entry comes up. -/
theorem obl_mapEntry (t k e : TypeId) (m x : Tmp) (b c : Nat) (f : ByteArray → Option Value) (key : ByteArray) (z : Value) (hs : isMapEntry lops[s.i]? t m x = true)
    (hm : ∀ (y : Nat → Par), (af y).tmps.getD m undef = .map (some b)) (hx : ∀ (y : Nat → Par), (af y).tmps.getD x undef = .string key)
    (hk : P.underlying k = some .string) (ht : P.underlying t = some (.map k e)) (hz : ∀ u : World, (zeroValue e).run P u = .ok z u) (hc : c < maxLen) (hsz : key.size ≤ maxLen) (hf : f key = none) (hb0 : MapV w0 P k b f c) (hE : Eb an st wr s.i b) (hwr : wr s.i b) (hsh : ∀ y, shape s.i y = .tuple #[z, goInt (y 0).2])
    (hR : ∀ (x : Nat → Par) (F : Nat → Prop) (w : World) (y : Par), F b → Pend P w t k b c f key (y 0).2 → R s.i (upd x s.i y) F w) : Obl P lops an st wr w0 af shape R s := by
  intro y w F hkk hn
  cases ho' : lops[s.i]? with
  | none => rw [ho'] at hs; simp [isMapEntry] at hs
  | some o =>
    rw [ho'] at hs
    obtain ⟨d, ty, pos, aft, heq⟩ := isMapEntry_spec hs
    have e1 := Option.some.inj heq
    subst e1
    have hb : MapV w P k b f c := hb0.stab (hkk.block b ⟨hb0.lt, hE⟩)
    obtain ⟨n, w', hrun, g, hp⟩ := hb.entry hk ht hz hc hsz hf
    refine ⟨_, rfl, by simp [Region.wanted], hrun_value (v := .tuple #[z, goInt n]) (w' := w') (by simp [execOp, Act.eval, hm y, hx y, hrun, Result.andThen]) ?_⟩
    refine ⟨fun _ => (none, n), fun k => k = b, (hsh fun _ => (none, n)).symm, ⟨g.os, g.tape, g.output, g.size, fun q hq => g.block q hq.1 fun e => hq.2 (.inl (by have : q = b := Option.some.inj e; rw [this]; exact hwr))⟩, fun q hq => ?_, hR y _ _ _ rfl hp⟩
    subst hq
    exact ⟨Nat.lt_of_lt_of_le hb.lt g.size, .inr (.inl hwr)⟩
/-- The value is stored at the stamp. -/
theorem obl_entryStore (t k : TypeId) (m n v : Tmp) (j b c : Nat) (f : ByteArray → Option Value) (key : ByteArray) (val : Value) (hs : isEntryStore lops[s.i]? t m n v = true) (htg : s.tgt = some j) (hnd : j ∈ s.need)
    (hj : ∀ (x : Nat → Par) (F : Nat → Prop) (w : World), R j x F w → F b ∧ Pend P w t k b c f key (x j 0).2)
    (hm : ∀ (y : Nat → Par), (af y).tmps.getD m undef = .map (some b)) (hx : ∀ (y : Nat → Par), (af y).tmps.getD n undef = goInt (y j 0).2) (hv : ∀ (y : Nat → Par), (af y).tmps.getD v undef = val) (hsh : ∀ y, shape s.i y = undef)
    (hR : ∀ (x : Nat → Par) (F : Nat → Prop) (w : World) (y : Par), F b → MapV w P k b (putF f key val) (if (f key).isSome then c else c + 1) → R s.i (upd x s.i y) F w) : Obl P lops an st wr w0 af shape R s := by
  intro y w F hkk hn
  cases ho' : lops[s.i]? with
  | none => rw [ho'] at hs; simp [isEntryStore] at hs
  | some o =>
    rw [ho'] at hs
    obtain ⟨ty, pos, aft, heq⟩ := isEntryStore_spec hs
    have e1 := Option.some.inj heq
    subst e1
    obtain ⟨hF, es, clock, hb, hst⟩ := hj y _ _ (hn j hnd).2
    obtain ⟨w', hrun, hm', g⟩ := hst w val hb
    have hlt : b < w.heap.size := (Array.getElem?_eq_some_iff.1 hb).1
    have htF : tgtF s F b := by unfold tgtF; rw [htg]; exact hF
    refine ⟨_, rfl, by simp [Region.wanted], hrun_skip (w' := w') (by simp [execOp, Act.eval, hm y, hx y, hv y, hrun, Result.andThen]) ?_⟩
    refine ⟨fun _ => (none, 0), fun k => k = b, (hsh _).symm, ⟨g.os, g.tape, g.output, g.size, fun q hq => g.block q hq.1 fun e => hq.2 (.inr (by have : q = b := Option.some.inj e; rw [this]; exact htF))⟩, fun q hq => ?_, hR y _ _ _ rfl hm'⟩
    subst hq
    exact ⟨Nat.lt_of_lt_of_le hlt g.size, .inr (.inr htF)⟩
theorem owe_pend (P' : Program) (t k : TypeId) (i b c : Nat) (f : ByteArray → Option Value) (key : ByteArray) (hs : s.i = i) (hR : ∀ (x : Nat → Par) (F : Nat → Prop) (w : World), R s.i x F w = (F b ∧ Pend P' w t k b c f key (x i 0).2)) : Owes R s :=
  ⟨fun x F w w' h _ hk => by
    rw [hR] at *
    obtain ⟨hF, es, clock, hb, hst⟩ := h
    exact ⟨hF, es, clock, (hk b hF).trans hb, hst⟩, fun x x' F w hx h => by
    rw [hR] at *
    subst hs
    rw [← hx s.i (.inl rfl)]; exact h⟩
theorem exec_store2 {o : Oper} {t t' : TypeId} {p x : Operand} {g off : Nat} {old : Array Value} {u v : Int} (h : o.op = .store t p x) {e : Operand → Value} {w : World} (hp : e p = .pointer (some ⟨g, off, none⟩)) (hx : e x = .agg #[.int .i64 u, .int .i64 v])
    (hg : Blk w g t' old) (hi : (P.info? t).map (·.size) = some 2) (ho : off + 1 < old.size) :
    (execOp e o).run P w = .ok .skip ((w.setCell ⟨g, off, none⟩ (.int .i64 u)).setCell ⟨g, off + 1, none⟩ (.int .i64 v)) := by
  have hc : w.cell? ⟨g, off, none⟩ = some (old[off]'(by omega)) := by rw [hg.cell off]; simp [show off < old.size by omega]
  have hf := hg.frozen off
  have hg2 := hg.set_ off (.int .i64 u)
  have hc2 : (w.setCell ⟨g, off, none⟩ (.int .i64 u)).cell? ⟨g, off + 1, none⟩ = some ((old.setIfInBounds off (.int .i64 u))[off + 1]'(by simp; omega)) := by rw [hg2.cell (off + 1)]; simp [ho]
  have hf2 := hg2.frozen (off + 1)
  cases hq : P.info? t with
  | none => simp [hq] at hi
  | some i =>
    have hs : i.size = 2 := by simpa [hq] using hi
    simp [execOp, h, hp, hx, go_sem, sizeOf, typeInfo, hq, hs, hc, hf, hc2, hf2]
/-- Two numbers are stored into a variable that was there. -/
theorem obl_set2 (t t' : TypeId) (p q : Tmp) (b off : Nat) (old : Array Value) (u v : Int) (new : Array Value) (hs : isStore lops[s.i]? t p q = true) (hp : ∀ (x : Nat → Par), (af x).tmps.getD p undef = .pointer (some ⟨b, off, none⟩)) (hq : ∀ (x : Nat → Par), (af x).tmps.getD q undef = .agg #[.int .i64 u, .int .i64 v])
    (hb0 : Blk w0 b t' old) (hE : Eb an st wr s.i b) (hwr : wr s.i b) (hi : (P.info? t).map (·.size) = some 2) (hoff : off + 1 < old.size) (hnew : (old.setIfInBounds off (.int .i64 u)).setIfInBounds (off + 1) (.int .i64 v) = new) (hsh : ∀ y, shape s.i y = undef)
    (hR : ∀ (x : Nat → Par) (F : Nat → Prop) (w : World) (y : Par), F b → Blk w b t' new → R s.i (upd x s.i y) F w) : Obl P lops an st wr w0 af shape R s := by
  intro x w F hk hn
  cases ho' : lops[s.i]? with
  | none => rw [ho'] at hs; simp [isStore] at hs
  | some o =>
    rw [ho'] at hs
    unfold isStore at hs
    split at hs
    · rename_i t1 p1 x1 ty pos aft heq
      simp only [Bool.and_eq_true, beq_iff_eq] at hs
      obtain ⟨⟨rfl, rfl⟩, rfl⟩ := hs
      have e := Option.some.inj heq
      subst e
      have hb : Blk w b t' old := (hk.block b ⟨hb0.lt, hE⟩).trans hb0
      refine ⟨_, rfl, by simp [Region.wanted], hrun_skip (exec_store2 (P := P) (o := ⟨none, .store t1 (.tmp p1) (.tmp x1), ty, pos, aft, none⟩) rfl (e := (af x).eval) (w := w) (hp x) (hq x) hb hi hoff) ?_⟩
      have g1 := grown_setCell w b off (.int .i64 u)
      have g2 := grown_setCell (w.setCell ⟨b, off, none⟩ (.int .i64 u)) b (off + 1) (.int .i64 v)
      refine ⟨fun _ => (none, 0), fun k => k = b, (hsh _).symm, ⟨rfl, rfl, rfl, by simp, fun k hk => ?_⟩, fun k hk => ?_, hR x _ _ _ rfl (by have := (hb.set_ off (.int .i64 u)).set_ (off + 1) (.int .i64 v); rw [hnew] at this; exact this)⟩
      · have hne : some k ≠ some b := fun e => hk.2 (.inl (by have : k = b := Option.some.inj e; rw [this]; exact hwr))
        exact (g2.block k (by simpa using hk.1) hne).trans (g1.block k hk.1 hne)
      · subst hk
        exact ⟨by have := hb.lt; simpa using this, .inr (.inl hwr)⟩
    · cases hs
end
end Go.Proofs.Ytllpffkifleigaa
