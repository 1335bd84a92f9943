/-
  Regions that draw their order: appends. To a row that the region itself has made; to a row that was there.
  Regions that draw their order: a row that lies in a field is appended to, and the field is stored.
  Regions that draw their order: an append of a slice that may be nil to a row that the region has made.
  A region that draws its order: an append of what holds other values that the region made. Over any program.
-/
import Derived.Test.YtidbjidcjmbnlaaRegC
import Derived.Maps.AppendAt
set_option linter.unusedSimpArgs false
set_option linter.unusedVariables false
section
namespace Go.Proofs.Ytidbjidcjmbnlaa
open Go Go.RowKit

section
variable {P : Program} {lops : List Oper} {an : List (List Nat)} {m1 m2 : List Bool} {st : List St} {w0 : World} {a0 : Act} {af : (Nat → Par) → Act} {shape : Nat → Par → Value} {wr : Nat → Nat → Prop} {R : Nat → (Nat → Par) → (Nat → Prop) → World → Prop} {s : St} {o : Oper}

theorem own_shape2 {w : World} {base : Nat} {e : TypeId} {size n : Nat} {v : Value} {xs : List Value} (h : w.ownsRow base e size v n xs) : ∃ A c, v = .slice A n c := by
  rcases h.2 with ⟨hv, h0⟩ | ⟨g, cap, _, hv, _⟩
  · exact ⟨none, 0, by rw [hv, h0]⟩
  · exact ⟨_, _, hv⟩
/-- The slots that the hard operations leave, one by one. -/
theorem putH_step {x : Nat → Par} {s : St} {l : List St} {a b : Act} (d : Option Tmp) (v : Value) (hd : (lops[s.i]?).bind (·.dst) = d) (hv : shape s.i (x s.i) = v) (h : putH shape x lops l (a.put d v) = b) : putH shape x lops (s :: l) a = b := by
  rw [putH, hd, hv]; exact h
theorem putH_end {x : Nat → Par} {a : Act} : putH shape x lops [] a = a := rfl
def tmpAt (x : Option Operand) (p : Tmp) : Bool := match x with | some (.tmp q) => q == p | _ => false
def appendB (c : Callee) : Bool := match c with | .builtin .append => true | _ => false
def isAppend (o : Option Oper) (t : TypeId) (p q : Tmp) : Bool := match o with
  | some ⟨_, .call c, _, _, _, none⟩ => appendB c.callee && (c.args.size == 2 && tmpAt c.args[0]? p && tmpAt c.args[1]? q) && c.argTypes == #[t, t]
  | _ => false
theorem tmpAt_spec {x : Option Operand} {p : Tmp} (h : tmpAt x p = true) : x = some (.tmp p) := by
  unfold tmpAt at h
  split at h
  · rw [beq_iff_eq] at h; rw [h]
  · cases h
theorem isAppend_spec {o : Option Oper} {t : TypeId} {p q : Tmp} (h : isAppend o t p q = true) : ∃ d ty pos aft, o = some ⟨d, .call { callee := .builtin .append, args := #[.tmp p, .tmp q], argTypes := #[t, t] }, ty, pos, aft, none⟩ := by
  unfold isAppend at h
  split at h
  · rename_i d c ty pos aft
    simp only [Bool.and_eq_true, beq_iff_eq] at h
    obtain ⟨⟨h1, ⟨h2, h3⟩, h4⟩, h5⟩ := h
    obtain ⟨ce, av, ts⟩ := c
    simp only at h1 h2 h3 h4 h5
    have e1 : ce = .builtin .append := by
      unfold appendB at h1
      split at h1
      · rfl
      · cases h1
    have e2 : av = #[.tmp p, .tmp q] := by
      have a0 := tmpAt_spec h3
      have a1 := tmpAt_spec h4
      obtain ⟨l⟩ := av
      match l, h2, a0, a1 with
      | [x, y], _, a0, a1 =>
        simp at a0 a1
        rw [a0, a1]
    exact ⟨d, ty, pos, aft, by rw [e1, e2, h5]⟩
  · cases h
theorem own_new {w0 w : World} {elem size n : Nat} {cells : Array Value} (hle : w0.heap.size ≤ w.heap.size) (hsz : cells.size = n * size) (hn : n ≤ maxLen) : OwnF (w.alloc (.cells cells elem)) (fun k => k = w.heap.size) w0.heap.size elem size (.slice (some ⟨w.heap.size, 0, none⟩) n n) n cells.toList :=
  ⟨⟨by simpa using hsz, .inr ⟨w.heap.size, n, cells, rfl, hle, heap_alloc_new w _, Nat.le_refl _, hn, hsz, List.take_of_length_le (by rw [Array.length_toList, hsz]; exact Nat.le_refl _)⟩⟩, fun g hg => (Option.some.inj hg).symm⟩
/-- What is appended was laid into a block of its own. -/
theorem news_own {w : World} {F : Nat → Prop} {base : Nat} {e : TypeId} {size n : Nat} {A : Option Addr} {c : Nat} {xs : List Value} (h : OwnF w F base e size (.slice A n c) n xs) (hA : 0 < n) : ∃ ad, A = some ad ∧ ∀ j u, xs[j]? = some u → w.cell? (ad.add j) = some u := by
  rcases h.1.2 with ⟨hv, _⟩ | ⟨g, cap, cur, hv, _⟩
  · injection hv with h1 h2 h3; omega
  · injection hv with h1 h2 h3
    subst h1
    exact ⟨_, rfl, h.1.cells rfl⟩

/-! ### One row that was there is appended to -/
def wrP (ki : Nat) (v : Value) (i k : Nat) : Prop := i = ki ∧ v.ownBlock = some k
theorem obl_callP {ki : Nat} {v0 : Value} (ho : lops[s.i]? = some o) (hw : ∀ x, Region.wanted o (yielded lops.toArray (af x).tmps) = true) (g : FuncId) (args : (Nat → Par) → Array Value) (hrun : ∀ (x : Nat → Par) (w : World), (execOp (af x).eval o).run P w = .ok (.enter g (args x)) w)
    (hc : ∀ (x : Nat → Par) (w : World) (F : Nat → Nat → Prop), w0.grownBy w v0.ownBlock → (∀ j ∈ s.need, R j x (F j) w) → Calls P g (args x) w fun e w' => ∃ y, e = .returned (shape s.i y) ∧ Below w.heap.size w w' ∧ R s.i (upd x s.i y) (fun k => w.heap.size ≤ k ∧ k < w'.heap.size) w') : Obl P lops an st (wrP ki v0) w0 af shape R s :=
  obl_call ho hw g args hrun fun x w F hk hn => hc x w F ⟨hk.os, hk.tape, hk.output, hk.size, fun k h hne => hk.block k ⟨h, fun _ _ h => absurd h.2.symm hne⟩⟩ hn
/-- The row that was there, when its append comes up. -/
theorem row_then {ki : Nat} {v0 : Value} {base : Nat} {e : TypeId} {size n : Nat} {xs : List Value} {w : World} (h : w0.ownsRow base e size v0 n xs) (hs : s.i = ki) (hk : Kept (fun k => k < w0.heap.size ∧ Eb an st (wrP ki v0) s.i k) w0 w) : w.ownsRow base e size v0 n xs := by
  refine ⟨h.1, ?_⟩
  rcases h.2 with h0 | ⟨g, cap, cur, hv, hb, hg, r⟩
  · exact .inl h0
  · refine .inr ⟨g, cap, cur, hv, hb, ?_, r⟩
    have hlt : g < w0.heap.size := (Array.getElem?_eq_some_iff.1 hg).1
    rw [hk.block g ⟨hlt, fun s' _ h' => .inl (h'.1.trans hs.symm)⟩]; exact hg
theorem own_low_ne {w : World} {base : Nat} {e : TypeId} {size n k : Nat} {v : Value} {xs : List Value} (h : w.ownsRow base e size v n xs) (hk : k < base) : v.ownBlock ≠ some k := fun e1 => by
  have := (h.lt k e1).1; omega
theorem liftP {D : World → Prop} {S : Nat → Prop} {w : World} (hD : Good S w D) {b o : Nat} {v : Value} (h : w.cell? ⟨b, o, none⟩ = some v) (hb : S b) (x : Of D) : x.val.cell? ⟨b, o, none⟩ = some v := lift hD h hb x
end
end Go.Proofs.Ytidbjidcjmbnlaa
end
section
namespace Go.Proofs.Ytidbjidcjmbnlaa
open Go Go.RowKit

theorem exec_store_val {P : Program} {o : Oper} {t t' : TypeId} {p x : Operand} {g off : Nat} {old : Array Value} {v : Value} (h : o.op = .store t p x) {e : Operand → Value} {w : World} (hp : e p = .pointer (some ⟨g, off, none⟩)) (hx : e x = v) (h1 : v.oneCell' = true)
    (hg : Blk w g t' old) (hi : (P.info? t).map (·.size) = some 1) (ho : off < old.size) :
    (execOp e o).run P w = .ok .skip (w.setCell ⟨g, off, none⟩ v) := by
  have hc : w.cell? ⟨g, off, none⟩ = some (old[off]'ho) := by rw [hg.cell off]; simp [ho]
  have hf := hg.frozen off
  have hst : ∀ u : Value, u.oneCell' = true → (store ⟨g, off, none⟩ u .plain).run P w = .ok () (w.setCell ⟨g, off, none⟩ u) := fun u h => by rw [run_store P w _ u _ h]; simp [hc, hf]
  cases hq : P.info? t with
  | none => simp [hq] at hi
  | some i =>
    have hs : i.size = 1 := by simpa [hq] using hi
    cases v <;> first
      | (simp [Value.oneCell'] at h1; done)
      | (simp [execOp, h, hp, hx, go_sem, sizeOf, typeInfo, hq, hs, hc, hf]; done)
      | simp [execOp, h, hp, hx, go_sem, sizeOf, typeInfo, hq, hs, hc, hf, hst _ h1]

/-- The row's own block, if it has one, and the field's. -/
def ownFill (i : Nat) (v : Value) : List (Nat × Nat) := match v.ownBlock with | some g => [(i, g)] | none => []
theorem mem_ownFill {i : Nat} {v : Value} {p : Nat × Nat} : p ∈ ownFill i v ↔ p.1 = i ∧ v.ownBlock = some p.2 := by
  unfold ownFill
  cases v.ownBlock with
  | none => simp
  | some g =>
    simp only [List.mem_singleton, Option.some.injEq]
    exact ⟨fun h => by rw [h]; exact ⟨rfl, rfl⟩, fun h => Prod.ext h.1 h.2.symm⟩
def fillQ (i : Nat) (v : Value) (f T : Nat) : List (Nat × Nat) := ownFill i v ++ [(f, T)]
theorem mem_fillQ {i f T : Nat} {v : Value} {p : Nat × Nat} : p ∈ fillQ i v f T ↔ (p.1 = i ∧ v.ownBlock = some p.2) ∨ (p.1 = f ∧ p.2 = T) := by
  unfold fillQ
  rw [List.mem_append, mem_ownFill, List.mem_singleton]
  exact or_congr Iff.rfl ⟨fun h => by rw [h]; exact ⟨rfl, rfl⟩, fun h => Prod.ext h.1 h.2⟩
/-- An append leaves the row where it was, or lays it anew. -/
def FreshOr (B : Nat) (v v' : Value) : Prop := v'.ownBlock = v.ownBlock ∨ ∃ g, v'.ownBlock = some g ∧ B ≤ g

section
variable {P : Program} {lops : List Oper} {an : List (List Nat)} {m1 m2 : List Bool} {st : List St} {w0 : World} {a0 : Act} {af : (Nat → Par) → Act} {shape : Nat → Par → Value} {wr : Nat → Nat → Prop} {R : Nat → (Nat → Par) → (Nat → Prop) → World → Prop} {s : St} {o : Oper}
variable {i f T B k : Nat} {v : Value}

theorem fillQ_lt (h : ∀ g, v.ownBlock = some g → g < B) (hT : T < B) : ∀ p ∈ fillQ i v f T, p.2 < B := fun p hp => by
  rcases mem_fillQ.1 hp with ⟨_, h2⟩ | ⟨_, h2⟩
  · exact h _ h2
  · rw [h2]; exact hT
theorem fillQ_ne (hne : v.ownBlock ≠ some T) : ∀ p ∈ fillQ i v f T, ∀ q ∈ fillQ i v f T, p.1 ≠ q.1 → p.2 ≠ q.2 := fun p hp q hq h e => by
  rcases mem_fillQ.1 hp with ⟨h1, h2⟩ | ⟨h1, h2⟩ <;> rcases mem_fillQ.1 hq with ⟨h3, h4⟩ | ⟨h3, h4⟩
  · exact h (h1.trans h3.symm)
  · exact hne (by rw [h2, e, h4])
  · exact hne (by rw [h4, ← e, h2])
  · exact h (h1.trans h3.symm)
theorem ebQ_row {g : Nat} (hg : v.ownBlock = some g) (hne : v.ownBlock ≠ some T) : Eb an st (wrF (fillQ i v f T)) i g := fun s _ h => by
  rcases mem_fillQ.1 h with ⟨h1, _⟩ | ⟨_, h2⟩
  · exact .inl h1
  · exact absurd (by rw [hg]; exact congrArg some h2) hne
theorem ebQ_set (hne : v.ownBlock ≠ some T) : Eb an st (wrF (fillQ i v f T)) f T := fun s _ h => by
  rcases mem_fillQ.1 h with ⟨_, h2⟩ | ⟨h1, _⟩
  · exact absurd h2 hne
  · exact .inl h1
theorem earlyQ (h : k < B) (hne : v.ownBlock ≠ some k) : k < B ∧ ∀ p ∈ fillQ i v f T, p.2 = k → p.1 ∈ [f] :=
  ⟨h, fun p hp e => by
    rcases mem_fillQ.1 hp with ⟨_, h2⟩ | ⟨h1, _⟩
    · exact absurd (e ▸ h2) hne
    · rw [h1]; simp⟩
theorem freeQ (hne : v.ownBlock ≠ some k) (hT : T ≠ k) : free (fillQ i v f T) k := fun p hp e => by
  rcases mem_fillQ.1 hp with ⟨_, h2⟩ | ⟨_, h2⟩
  · exact hne (e ▸ h2)
  · exact hT (h2 ▸ e)
theorem wrQ_row : ∀ g, v.ownBlock = some g → wrF (fillQ i v f T) i g := fun g hg => by
  unfold wrF
  exact mem_fillQ.2 (.inl ⟨rfl, hg⟩)
theorem wrQ_set : wrF (fillQ i v f T) f T := by
  unfold wrF
  exact mem_fillQ.2 (.inr ⟨rfl, rfl⟩)
/-- The row that was there, when its append comes up. -/
theorem row_thenQ {base : Nat} {e : TypeId} {size n : Nat} {xs : List Value} {w : World} (h : w0.ownsRow base e size v n xs) (hne : v.ownBlock ≠ some T) (hk : Kept (fun k => k < w0.heap.size ∧ Eb an st (wrF (fillQ i v f T)) i k) w0 w) : w.ownsRow base e size v n xs := by
  refine ⟨h.1, ?_⟩
  rcases h.2 with h0 | ⟨g, cap, cur, hv, hb, hg, r⟩
  · exact .inl h0
  · refine .inr ⟨g, cap, cur, hv, hb, ?_, r⟩
    have hlt : g < w0.heap.size := (Array.getElem?_eq_some_iff.1 hg).1
    rw [hk.block g ⟨hlt, ebQ_row (by rw [hv]; rfl) hne⟩]; exact hg

/-- An append to a row that was there. -/
theorem obl_pushQ (t : TypeId) (sp pp : Tmp) (ha : isAppend lops[s.i]? t sp pp = true)
    (base : Nat) (e : TypeId) (i0 : TypeInfo) (z : Value) (size bytes : Nat) (ht : P.underlying t = some (.slice e)) (hi : P.info? e = some i0) (hz : i0.zero = some z) (hsize : i0.size = size) (hby : i0.bytes = bytes) (hzs : z.cells.size = size) (hsz : 0 < size)
    (v0 : Value) (n m : Nat) (xs news : List Value) (hl : news.length = m * size) (h1 : ∀ u ∈ news, u.oneCell' = true) (h63 : n + m ≤ maxLen) (hbytes : (n + m) * bytes ≤ 140737488355328) (hbase : base ≤ w0.heap.size)
    (hv : ∀ (x : Nat → Par) (w : World) (F : Nat → Nat → Prop), Kept (fun k => k < w0.heap.size ∧ Eb an st wr s.i k) w0 w → (∀ j ∈ s.need, R j x (F j) w) →
      ∃ ad c, (af x).tmps.getD sp undef = v0 ∧ w.ownsRow base e size v0 n xs ∧ (∀ g, v0.ownBlock = some g → wr s.i g) ∧ (af x).tmps.getD pp undef = .slice (some ad) m c ∧ (∀ j u, news[j]? = some u → w.cell? (ad.add j) = some u))
    (hsh : ∀ y, shape s.i y = .slice (y 0).1 (n + m) (y 0).2)
    (hR : ∀ (x : Nat → Par) (F : Nat → Prop) (w : World) (y : Par), OwnF w F base e size (.slice (y 0).1 (n + m) (y 0).2) (n + m) (xs ++ news) → FreshOr w0.heap.size v0 (.slice (y 0).1 (n + m) (y 0).2) → R s.i (upd x s.i y) F w) : Obl P lops an st wr w0 af shape R s := by
  intro x w F hk hn
  cases ho' : lops[s.i]? with
  | none => rw [ho'] at ha; simp [isAppend] at ha
  | some o =>
    rw [ho'] at ha
    obtain ⟨d, ty, pos, aft, heq⟩ := isAppend_spec ha
    have e1 := Option.some.inj heq
    subst e1
    obtain ⟨ad, c, hs, hown, hgv, hx, hnews⟩ := hv x w F hk fun j hj => (hn j hj).2
    obtain ⟨v', w', hr, hown', hgrow, _, hat⟩ := run_append_own_at (P := P) w base t ty e i0 z size bytes ht hi hz hsize hby hzs hsz v0 n xs hown ad m c news hl hnews h1 h63 hbytes (Nat.le_trans hbase hk.size)
    obtain ⟨A, cc, rfl⟩ := own_shape2 hown'
    refine ⟨_, rfl, by simp [Region.wanted], hrun_value (v := .slice A (n + m) cc) (w' := w') ?_ ⟨fun _ => (A, cc), fun k => (Value.slice A (n + m) cc).ownBlock = some k, (hsh fun _ => (A, cc)).symm, ⟨hgrow.os, hgrow.tape, hgrow.output, hgrow.size, fun k hk => hgrow.block k hk.1 fun e2 => hk.2 ?_⟩, fun k hk => ⟨(hown'.lt k hk).2, ?_⟩, hR x _ _ _ ⟨hown', fun g hg => hg⟩ ?_⟩⟩
    · simp only [execOp, resolve, invoke, builtin, Sem.run_bind, Sem.run_pure, Result.andThen_ok, List.map_toArray, List.map_cons, List.map_nil, Act.eval, hs, hx, hr]
    · exact .inl (hgv k e2.symm)
    · rcases hat with h | h
      · exact .inr (.inl (hgv k (h.symm.trans hk)))
      · left
        rw [h] at hk
        exact Nat.le_of_eq (Option.some.inj hk)
    · rcases hat with h | h
      · exact .inl h
      · exact .inr ⟨_, h, hk.size⟩

/-- One value is stored into a variable that was there. -/
theorem obl_setv (t t' : TypeId) (p q : Tmp) (b off : Nat) (old : Array Value) (val : (Nat → Par) → Value) (new : (Nat → Par) → Array Value) (hs : isStore lops[s.i]? t p q = true) (hp : ∀ (x : Nat → Par), (af x).tmps.getD p undef = .pointer (some ⟨b, off, none⟩)) (hq : ∀ (x : Nat → Par), (af x).tmps.getD q undef = val x)
    (h1 : ∀ x, (val x).oneCell' = true) (hb0 : Blk w0 b t' old) (hE : Eb an st wr s.i b) (hwr : wr s.i b) (hi : (P.info? t).map (·.size) = some 1) (hoff : off < old.size) (hnew : ∀ x, old.setIfInBounds off (val x) = new x) (hsh : ∀ y, shape s.i y = undef)
    (hR : ∀ (x : Nat → Par) (F : Nat → Prop) (w : World) (y : Par), F b → Blk w b t' (new x) → R s.i (upd x s.i y) F w) : Obl P lops an st wr w0 af shape R s := by
  intro x w F hk hn
  cases ho' : lops[s.i]? with
  | none => rw [ho'] at hs; simp [isStore] at hs
  | some o =>
    rw [ho'] at hs
    unfold isStore at hs
    split at hs
    · rename_i t1 p1 x1 ty pos aft heq
      simp only [Bool.and_eq_true, beq_iff_eq] at hs
      obtain ⟨⟨rfl, rfl⟩, rfl⟩ := hs
      have e := Option.some.inj heq
      subst e
      have hb : Blk w b t' old := (hk.block b ⟨hb0.lt, hE⟩).trans hb0
      refine ⟨_, rfl, by simp [Region.wanted], hrun_skip (exec_store_val (P := P) (o := ⟨none, .store t1 (.tmp p1) (.tmp x1), ty, pos, aft, none⟩) rfl (e := (af x).eval) (w := w) (hp x) (hq x) (h1 x) hb hi hoff) ?_⟩
      have g := grown_setCell w b off (val x)
      refine ⟨fun _ => (none, 0), fun k => k = b, (hsh _).symm, ⟨g.os, g.tape, g.output, g.size, fun k hk => g.block k hk.1 fun e => hk.2 (.inl (by have : k = b := Option.some.inj e; rw [this]; exact hwr))⟩, fun k hk => ?_, hR x _ _ _ rfl (by have := hb.set_ off (val x); rw [hnew x] at this; exact this)⟩
      subst hk
      exact ⟨Nat.lt_of_lt_of_le hb.lt g.size, .inr (.inl hwr)⟩
    · cases hs
theorem owe_pushQ (i : Nat) (B base : Nat) (v0 : Value) (e : TypeId) (size n : Nat) (xs : List Value) (hs : s.i = i) (hR : ∀ (x : Nat → Par) (F : Nat → Prop) (w : World), R s.i x F w = (OwnF w F base e size (.slice (x i 0).1 n (x i 0).2) n xs ∧ FreshOr B v0 (.slice (x i 0).1 n (x i 0).2))) : Owes R s :=
  ⟨fun x F w w' h _ hk => by rw [hR] at *; exact ⟨h.1.stab hk, h.2⟩, fun x x' F w hx h => by
    rw [hR] at *
    subst hs
    rw [← hx s.i (.inl rfl)]; exact h⟩
/-- A row that the region leaves alone. -/
theorem own_keptQ {S : Nat → Prop} {w w' : World} {base : Nat} {e : TypeId} {size n : Nat} {v : Value} {xs : List Value} (h : w.ownsRow base e size v n xs) (hk : Kept S w w') (hS : ∀ g, v.ownBlock = some g → S g) : w'.ownsRow base e size v n xs := by
  refine ⟨h.1, ?_⟩
  rcases h.2 with h0 | ⟨g, cap, cur, hv, hb, hg, r⟩
  · exact .inl h0
  · refine .inr ⟨g, cap, cur, hv, hb, ?_, r⟩
    rw [hk.block g (hS g (by rw [hv]; rfl))]; exact hg
theorem new_cellsQ (w : World) (t : TypeId) (l : List Value) (j : Nat) (u : Value) (h : l[j]? = some u) : (w.alloc (.cells ⟨l⟩ t)).cell? ((⟨w.heap.size, 0, none⟩ : Addr).add j) = some u := by
  rw [show (⟨w.heap.size, 0, none⟩ : Addr).add j = ⟨w.heap.size, j, none⟩ by unfold Addr.add; split <;> simp_all]
  rw [(Blk.new w t ⟨l⟩).cell j]; simpa using h
end
end Go.Proofs.Ytidbjidcjmbnlaa
end
section
namespace Go.Proofs.Ytidbjidcjmbnlaa
open Go Go.RowKit

/-- What is appended: nothing, or cells that lie somewhere. -/
def Src (w : World) (A : Option Addr) (m c : Nat) (news : List Value) : Prop := (A = none ∧ m = 0 ∧ c = 0 ∧ news = []) ∨ ∃ ad, A = some ad ∧ ∀ (j : Nat) (u : Value), news[j]? = some u → w.cell? (ad.add j) = some u
section
variable {P : Program} {lops : List Oper} {an : List (List Nat)} {st : List St} {wr : Nat → Nat → Prop} {w0 : World} {af : (Nat → Par) → Act} {shape : Nat → Par → Value} {R : Nat → (Nat → Par) → (Nat → Prop) → World → Prop} {s : St}
end
end Go.Proofs.Ytidbjidcjmbnlaa
end
section
namespace Go.Proofs.Ytidbjidcjmbnlaa
open Go Go.RowKit

section
variable {P : Program} {lops : List Oper} {an : List (List Nat)} {m1 m2 : List Bool} {st : List St} {w0 : World} {a0 : Act} {af : (Nat → Par) → Act} {shape : Nat → Par → Value} {wr : Nat → Nat → Prop} {R : Nat → (Nat → Par) → (Nat → Prop) → World → Prop} {s : St} {o : Oper}
theorem obl_pushX (t : TypeId) (sp pp : Tmp) (ha : isAppend lops[s.i]? t sp pp = true)
    (base : Nat) (e : TypeId) (i0 : TypeInfo) (z : Value) (size bytes : Nat) (ht : P.underlying t = some (.slice e)) (hi : P.info? e = some i0) (hz : i0.zero = some z) (hsize : i0.size = size) (hby : i0.bytes = bytes) (hzs : z.cells.size = size) (hsz : 0 < size)
    (v0 : Value) (n m : Nat) (xs : List Value) (news : (Nat → Par) → List Value) (hl : ∀ x, (news x).length = m * size) (h1 : ∀ x, ∀ u ∈ news x, u.oneCell' = true) (h63 : n + m ≤ maxLen) (hbytes : (n + m) * bytes ≤ 140737488355328) (hbase : base ≤ w0.heap.size)
    (hv : ∀ (x : Nat → Par) (w : World) (F : Nat → Nat → Prop), Kept (fun k => k < w0.heap.size ∧ Eb an st wr s.i k) w0 w → (∀ j ∈ s.need, R j x (F j) w) →
      ∃ ad c, (af x).tmps.getD sp undef = v0 ∧ w.ownsRow base e size v0 n xs ∧ (∀ g, v0.ownBlock = some g → wr s.i g) ∧ (af x).tmps.getD pp undef = .slice (some ad) m c ∧ (∀ j u, (news x)[j]? = some u → w.cell? (ad.add j) = some u))
    (hsh : ∀ y, shape s.i y = .slice (y 0).1 (n + m) (y 0).2)
    (hR : ∀ (x : Nat → Par) (F : Nat → Prop) (w : World) (y : Par), OwnF w F base e size (.slice (y 0).1 (n + m) (y 0).2) (n + m) (xs ++ news x) → FreshOr w0.heap.size v0 (.slice (y 0).1 (n + m) (y 0).2) → R s.i (upd x s.i y) F w) : Obl P lops an st wr w0 af shape R s := by
  intro x w F hk hn
  cases ho' : lops[s.i]? with
  | none => rw [ho'] at ha; simp [isAppend] at ha
  | some o =>
    rw [ho'] at ha
    obtain ⟨d, ty, pos, aft, heq⟩ := isAppend_spec ha
    have e1 := Option.some.inj heq
    subst e1
    obtain ⟨ad, c, hs, hown, hgv, hx, hnews⟩ := hv x w F hk fun j hj => (hn j hj).2
    obtain ⟨v', w', hr, hown', hgrow, _, hat⟩ := run_append_own_at (P := P) w base t ty e i0 z size bytes ht hi hz hsize hby hzs hsz v0 n xs hown ad m c (news x) (hl x) hnews (h1 x) h63 hbytes (Nat.le_trans hbase hk.size)
    obtain ⟨A, cc, rfl⟩ := own_shape2 hown'
    refine ⟨_, rfl, by simp [Region.wanted], hrun_value (v := .slice A (n + m) cc) (w' := w') ?_ ⟨fun _ => (A, cc), fun k => (Value.slice A (n + m) cc).ownBlock = some k, (hsh fun _ => (A, cc)).symm, ⟨hgrow.os, hgrow.tape, hgrow.output, hgrow.size, fun k hk => hgrow.block k hk.1 fun e2 => hk.2 ?_⟩, fun k hk => ⟨(hown'.lt k hk).2, ?_⟩, hR x _ _ _ ⟨hown', fun g hg => hg⟩ ?_⟩⟩
    · simp only [execOp, resolve, invoke, builtin, Sem.run_bind, Sem.run_pure, Result.andThen_ok, List.map_toArray, List.map_cons, List.map_nil, Act.eval, hs, hx, hr]
    · exact .inl (hgv k e2.symm)
    · rcases hat with h | h
      · exact .inr (.inl (hgv k (h.symm.trans hk)))
      · left
        rw [h] at hk
        exact Nat.le_of_eq (Option.some.inj hk)
    · rcases hat with h | h
      · exact .inl h
      · exact .inr ⟨_, h, hk.size⟩
theorem wp_region_FA {id : Nat} {Q : Exit → Act → World → Prop} {b : (Nat → Par) → Act} (an : List (List Nat)) (m1 m2 : List Bool) (st : List St) (fills : List (Nat × Nat)) (early : List Nat) (shape : Nat → Par → Value) (R : Nat → (Nat → Par) → (Nat → Prop) → World → Prop) (bf : Act → (Nat → Par) → Act)
    (hm : P.follows .mixedOrders = true) (hb : regB .any lops an m1 m2 st = true) (he : earlyB lops an m1 early = true) (hbf : ∀ x, putH shape x lops st a0 = bf a0 x) (ds : List Tmp) (hds : slotsB m1 m2 lops ds = true)
    (hl : ∀ p ∈ fills, p.2 < w0.heap.size) (hd : ∀ p ∈ fills, ∀ q ∈ fills, p.1 ≠ q.1 → p.2 ≠ q.2)
    (hq : ∀ (x : Nat → Par) (D : World → Prop), Good (fun k => k < w0.heap.size ∧ ∀ p ∈ fills, p.2 = k → p.1 ∈ early) w0 D → wpQuiet P lops.toArray (fun w' => ∃ y : Of D, w' = y.val) (fun a' => a' = b x) (takeOps m1 lops) (bf a0 x))
    (hq2 : ∀ (x : Nat → Par) (D : World → Prop), Good (fun k => k < w0.heap.size ∧ free fills k) w0 D → wpQuiet P lops.toArray (fun w' => ∃ y : Of D, w' = y.val) (fun a' => a' = af x) (takeOps m2 lops) (b x))
    (hcall : ∀ d ∈ ds, ∀ (x x' : Nat → Par), (af x).tmps.getD d undef = (af x').tmps.getD d undef)
    (hob : obls P lops an st (wrF fills) w0 af shape R st) (how : owes R st)
    (hfin : ∀ (x : Nat → Par) (w : World) (F : Nat → Nat → Prop), Kept (fun k => k < w0.heap.size ∧ free fills k) w0 w → lives st R x F w st → Aparts st F → Q .normal (af x) w) : (Code.region id lops.toArray true).wp P Q a0 w0 := by
  have hk := chk_of hb
  refine wp_region_XA (b := b) (af := af) an m1 m2 st shape (wrF fills) R (fun k => k < w0.heap.size ∧ ∀ p ∈ fills, p.2 = k → p.1 ∈ early) (fun k => k < w0.heap.size ∧ free fills k) hm hb ?_ (fun k hk => ⟨hk.1, fun i _ s _ h => absurd rfl (hk.2 _ h)⟩)
    (fun s _ k h => hl _ h) (fun s _ s' _ hne k h h' => hd _ h _ h' hne rfl) (fun x D hD => by rw [hbf]; exact hq x D hD) hq2 hds hcall hob how fun x w F hkk hl ha => hfin x w F (hkk.weak fun k hk => ⟨hk.1, fun s _ h => hk.2 _ h rfl⟩) hl ha
  intro k hk'
  exact ⟨hk'.1, fun i hi s _ hw => .inr (early_spec hk.len1 he (hk'.2 _ hw rfl) hi)⟩
theorem owe_pushX (i : Nat) (B base : Nat) (v0 : Value) (e : TypeId) (size n : Nat) (xs : (Nat → Par) → List Value) (hs : s.i = i) (hR : ∀ (x : Nat → Par) (F : Nat → Prop) (w : World), R s.i x F w = (OwnF w F base e size (.slice (x i 0).1 n (x i 0).2) n (xs x) ∧ FreshOr B v0 (.slice (x i 0).1 n (x i 0).2))) (hx' : ∀ x x' : Nat → Par, (∀ j, j = s.i ∨ j ∈ s.dep → x j = x' j) → xs x = xs x') : Owes R s :=
  ⟨fun x F w w' h _ hk => by rw [hR] at *; exact ⟨h.1.stab hk, h.2⟩, fun x x' F w hx h => by
    rw [hR] at *
    rw [← hx' x x' hx]
    subst hs
    rw [← hx s.i (.inl rfl)]; exact h⟩
end
end Go.Proofs.Ytidbjidcjmbnlaa
end
