/-
  Regions that draw their order: appends. To a row that the region itself has made; to a row that was there.
  Regions that draw their order: a row that lies in a field is appended to, and the field is stored.
  Quotients rounded down and up; no program in sight.
  Contracts of the small functions of the books.
  A standard as it lies in memory: its value at a time, and whether it holds.
  A map whose keys are strings, told by a function: what stands at each key, and how many entries there are. Over any program.
-/
import Derived.Test.YtiggefmckomilaaRegH
import Derived.Maps.AppendAt
import Derived.Test.YtiggefmckomilaaProg
import Derived.Test.YtiggefmckomilaaWords
import Derived.Maps.OwnSet
set_option linter.unusedSimpArgs false
set_option linter.unusedVariables false
namespace Go.Proofs.Ytiggefmckomilaa
open Go Go.RowKit

section
variable {P : Program} {lops : List Oper} {an : List (List Nat)} {m1 m2 : List Bool} {st : List St} {w0 : World} {a0 : Act} {af : (Nat → Par) → Act} {shape : Nat → Par → Value} {wr : Nat → Nat → Prop} {R : Nat → (Nat → Par) → (Nat → Prop) → World → Prop} {s : St} {o : Oper}

theorem own_shape2 {w : World} {base : Nat} {e : TypeId} {size n : Nat} {v : Value} {xs : List Value} (h : w.ownsRow base e size v n xs) : ∃ A c, v = .slice A n c := by
  rcases h.2 with ⟨hv, h0⟩ | ⟨g, cap, _, hv, _⟩
  · exact ⟨none, 0, by rw [hv, h0]⟩
  · exact ⟨_, _, hv⟩
/-- The slots that the hard operations leave, one by one. -/
theorem putH_step {x : Nat → Par} {s : St} {l : List St} {a b : Act} (d : Option Tmp) (v : Value) (hd : (lops[s.i]?).bind (·.dst) = d) (hv : shape s.i (x s.i) = v) (h : putH shape x lops l (a.put d v) = b) : putH shape x lops (s :: l) a = b := by
  rw [putH, hd, hv]; exact h
theorem putH_end {x : Nat → Par} {a : Act} : putH shape x lops [] a = a := rfl
def tmpAt (x : Option Operand) (p : Tmp) : Bool := match x with | some (.tmp q) => q == p | _ => false
def appendB (c : Callee) : Bool := match c with | .builtin .append => true | _ => false
def isAppend (o : Option Oper) (t : TypeId) (p q : Tmp) : Bool := match o with
  | some ⟨_, .call c, _, _, _, none⟩ => appendB c.callee && (c.args.size == 2 && tmpAt c.args[0]? p && tmpAt c.args[1]? q) && c.argTypes == #[t, t]
  | _ => false
theorem tmpAt_spec {x : Option Operand} {p : Tmp} (h : tmpAt x p = true) : x = some (.tmp p) := by
  unfold tmpAt at h
  split at h
  · rw [beq_iff_eq] at h; rw [h]
  · cases h
theorem isAppend_spec {o : Option Oper} {t : TypeId} {p q : Tmp} (h : isAppend o t p q = true) : ∃ d ty pos aft, o = some ⟨d, .call { callee := .builtin .append, args := #[.tmp p, .tmp q], argTypes := #[t, t] }, ty, pos, aft, none⟩ := by
  unfold isAppend at h
  split at h
  · rename_i d c ty pos aft
    simp only [Bool.and_eq_true, beq_iff_eq] at h
    obtain ⟨⟨h1, ⟨h2, h3⟩, h4⟩, h5⟩ := h
    obtain ⟨ce, av, ts⟩ := c
    simp only at h1 h2 h3 h4 h5
    have e1 : ce = .builtin .append := by
      unfold appendB at h1
      split at h1
      · rfl
      · cases h1
    have e2 : av = #[.tmp p, .tmp q] := by
      have a0 := tmpAt_spec h3
      have a1 := tmpAt_spec h4
      obtain ⟨l⟩ := av
      match l, h2, a0, a1 with
      | [x, y], _, a0, a1 =>
        simp at a0 a1
        rw [a0, a1]
    exact ⟨d, ty, pos, aft, by rw [e1, e2, h5]⟩
  · cases h
/-- An append: the row lies in memory that this operation may turn, the source is read. -/
theorem obl_append (t : TypeId) (sp pp : Tmp) (ha : isAppend lops[s.i]? t sp pp = true)
    (base : Nat) (e : TypeId) (i0 : TypeInfo) (z : Value) (size bytes : Nat) (ht : P.underlying t = some (.slice e)) (hi : P.info? e = some i0) (hz : i0.zero = some z) (hsize : i0.size = size) (hby : i0.bytes = bytes) (hzs : z.cells.size = size) (hsz : 0 < size)
    (n m : Nat) (xs news : List Value) (hl : news.length = m * size) (h1 : ∀ u ∈ news, u.oneCell' = true) (h63 : n + m ≤ maxLen) (hbytes : (n + m) * bytes ≤ 140737488355328) (hbase : base ≤ w0.heap.size)
    (hv : ∀ (x : Nat → Par) (w : World) (F : Nat → Nat → Prop), Kept (fun k => k < w0.heap.size ∧ Eb an st wr s.i k) w0 w → (∀ j ∈ s.need, R j x (F j) w) →
      ∃ v ad c, (af x).tmps.getD sp undef = v ∧ w.ownsRow base e size v n xs ∧ (∀ g, v.ownBlock = some g → wr s.i g ∨ tgtF s F g) ∧ (af x).tmps.getD pp undef = .slice (some ad) m c ∧ (∀ j u, news[j]? = some u → w.cell? (ad.add j) = some u))
    (hsh : ∀ y, shape s.i y = .slice (y 0).1 (n + m) (y 0).2)
    (hR : ∀ (x : Nat → Par) (F : Nat → Prop) (w : World) (y : Par), OwnF w F base e size (.slice (y 0).1 (n + m) (y 0).2) (n + m) (xs ++ news) → R s.i (upd x s.i y) F w) : Obl P lops an st wr w0 af shape R s := by
  intro x w F hk hn
  cases ho' : lops[s.i]? with
  | none => rw [ho'] at ha; simp [isAppend] at ha
  | some o =>
    rw [ho'] at ha
    obtain ⟨d, ty, pos, aft, heq⟩ := isAppend_spec ha
    have e1 := Option.some.inj heq
    subst e1
    obtain ⟨v, ad, c, hs, hown, hgv, hx, hnews⟩ := hv x w F hk fun j hj => (hn j hj).2
    obtain ⟨v', w', hr, hown', hgrow, _, hat⟩ := run_append_own_at (P := P) w base t ty e i0 z size bytes ht hi hz hsize hby hzs hsz v n xs hown ad m c news hl hnews h1 h63 hbytes (Nat.le_trans hbase hk.size)
    obtain ⟨A, cc, rfl⟩ := own_shape2 hown'
    refine ⟨_, rfl, by simp [Region.wanted], hrun_value (v := .slice A (n + m) cc) (w' := w') ?_ ⟨fun _ => (A, cc), fun k => (Value.slice A (n + m) cc).ownBlock = some k, (hsh fun _ => (A, cc)).symm, ⟨hgrow.os, hgrow.tape, hgrow.output, hgrow.size, fun k hk => hgrow.block k hk.1 fun e2 => hk.2 ?_⟩, fun k hk => ⟨(hown'.lt k hk).2, ?_⟩, hR x _ _ _ ⟨hown', fun g hg => hg⟩⟩⟩
    · simp only [execOp, resolve, invoke, builtin, Sem.run_bind, Sem.run_pure, Result.andThen_ok, List.map_toArray, List.map_cons, List.map_nil, Act.eval, hs, hx, hr]
    · exact hgv k e2.symm
    · rcases hat with h | h
      · exact .inr (hgv k (h.symm.trans hk))
      · left
        rw [h] at hk
        exact Nat.le_of_eq (Option.some.inj hk)

theorem own_new {w0 w : World} {elem size n : Nat} {cells : Array Value} (hle : w0.heap.size ≤ w.heap.size) (hsz : cells.size = n * size) (hn : n ≤ maxLen) : OwnF (w.alloc (.cells cells elem)) (fun k => k = w.heap.size) w0.heap.size elem size (.slice (some ⟨w.heap.size, 0, none⟩) n n) n cells.toList :=
  ⟨⟨by simpa using hsz, .inr ⟨w.heap.size, n, cells, rfl, hle, heap_alloc_new w _, Nat.le_refl _, hn, hsz, List.take_of_length_le (by rw [Array.length_toList, hsz]; exact Nat.le_refl _)⟩⟩, fun g hg => (Option.some.inj hg).symm⟩
/-- What is appended was laid into a block of its own. -/
theorem news_own {w : World} {F : Nat → Prop} {base : Nat} {e : TypeId} {size n : Nat} {A : Option Addr} {c : Nat} {xs : List Value} (h : OwnF w F base e size (.slice A n c) n xs) (hA : 0 < n) : ∃ ad, A = some ad ∧ ∀ j u, xs[j]? = some u → w.cell? (ad.add j) = some u := by
  rcases h.1.2 with ⟨hv, _⟩ | ⟨g, cap, cur, hv, _⟩
  · injection hv with h1 h2 h3; omega
  · injection hv with h1 h2 h3
    subst h1
    exact ⟨_, rfl, h.1.cells rfl⟩

/-! ### One row that was there is appended to -/
def wrP (ki : Nat) (v : Value) (i k : Nat) : Prop := i = ki ∧ v.ownBlock = some k
theorem wp_region_P {id : Nat} {Q : Exit → Act → World → Prop} (ki : Nat) (v0 : Value) (an : List (List Nat)) (m1 : List Bool) (st : List St) (shape : Nat → Par → Value) (R : Nat → (Nat → Par) → (Nat → Prop) → World → Prop) (bf : Act → (Nat → Par) → Act)
    (hm : P.follows .mixedOrders = true) (hb : regB .any lops an m1 (List.replicate lops.length false) st = true) (hbf : ∀ x, putH shape x lops st a0 = bf a0 x) (ds : List Tmp) (hds : slotsB m1 (List.replicate lops.length false) lops ds = true) (hlt : ∀ g, v0.ownBlock = some g → g < w0.heap.size)
    (hq : ∀ (x : Nat → Par) (D : World → Prop), Good (fun k => k < w0.heap.size ∧ v0.ownBlock ≠ some k) w0 D → wpQuiet P lops.toArray (fun w' => ∃ y : Of D, w' = y.val) (fun a' => a' = af x) (takeOps m1 lops) (bf a0 x))
    (hcall : ∀ d ∈ ds, ∀ (x x' : Nat → Par), (af x).tmps.getD d undef = (af x').tmps.getD d undef)
    (hob : obls P lops an st (wrP ki v0) w0 af shape R st) (how : owes R st)
    (hfin : ∀ (x : Nat → Par) (w : World) (F : Nat → Nat → Prop), w0.grownBy w v0.ownBlock → lives st R x F w st → Q .normal (af x) w) : (Code.region id lops.toArray true).wp P Q a0 w0 := by
  refine wp_region_X (b := af) (af := af) an m1 (List.replicate lops.length false) st shape (wrP ki v0) R (fun k => k < w0.heap.size ∧ v0.ownBlock ≠ some k) (fun k => k < w0.heap.size ∧ v0.ownBlock ≠ some k) hm hb (fun k hk => ⟨hk.1, fun i _ s _ h => absurd h.2 hk.2⟩) (fun k hk => ⟨hk.1, fun i _ s _ h => absurd h.2 hk.2⟩)
    (fun s _ k h => hlt k h.2) (fun s _ s' _ hne k h h' => hne (h.1.trans h'.1.symm)) (fun x D hD => by rw [hbf]; exact hq x D hD) (fun x D hD => by rw [take_none]; exact wpQuiet_nil rfl) hds hcall hob how fun x w F hk hl => hfin x w F ⟨hk.os, hk.tape, hk.output, hk.size, fun k h hne => hk.block k ⟨h, fun _ _ h => hne h.2.symm⟩⟩ hl
theorem obl_callP {ki : Nat} {v0 : Value} (ho : lops[s.i]? = some o) (hw : ∀ x, Region.wanted o (yielded lops.toArray (af x).tmps) = true) (g : FuncId) (args : (Nat → Par) → Array Value) (hrun : ∀ (x : Nat → Par) (w : World), (execOp (af x).eval o).run P w = .ok (.enter g (args x)) w)
    (hc : ∀ (x : Nat → Par) (w : World) (F : Nat → Nat → Prop), w0.grownBy w v0.ownBlock → (∀ j ∈ s.need, R j x (F j) w) → Calls P g (args x) w fun e w' => ∃ y, e = .returned (shape s.i y) ∧ Below w.heap.size w w' ∧ R s.i (upd x s.i y) (fun k => w.heap.size ≤ k ∧ k < w'.heap.size) w') : Obl P lops an st (wrP ki v0) w0 af shape R s :=
  obl_call ho hw g args hrun fun x w F hk hn => hc x w F ⟨hk.os, hk.tape, hk.output, hk.size, fun k h hne => hk.block k ⟨h, fun _ _ h => absurd h.2.symm hne⟩⟩ hn
/-- The row that was there, when its append comes up. -/
theorem row_then {ki : Nat} {v0 : Value} {base : Nat} {e : TypeId} {size n : Nat} {xs : List Value} {w : World} (h : w0.ownsRow base e size v0 n xs) (hs : s.i = ki) (hk : Kept (fun k => k < w0.heap.size ∧ Eb an st (wrP ki v0) s.i k) w0 w) : w.ownsRow base e size v0 n xs := by
  refine ⟨h.1, ?_⟩
  rcases h.2 with h0 | ⟨g, cap, cur, hv, hb, hg, r⟩
  · exact .inl h0
  · refine .inr ⟨g, cap, cur, hv, hb, ?_, r⟩
    have hlt : g < w0.heap.size := (Array.getElem?_eq_some_iff.1 hg).1
    rw [hk.block g ⟨hlt, fun s' _ h' => .inl (h'.1.trans hs.symm)⟩]; exact hg
theorem own_low_ne {w : World} {base : Nat} {e : TypeId} {size n k : Nat} {v : Value} {xs : List Value} (h : w.ownsRow base e size v n xs) (hk : k < base) : v.ownBlock ≠ some k := fun e1 => by
  have := (h.lt k e1).1; omega
theorem liftP {D : World → Prop} {S : Nat → Prop} {w : World} (hD : Good S w D) {b o : Nat} {v : Value} (h : w.cell? ⟨b, o, none⟩ = some v) (hb : S b) (x : Of D) : x.val.cell? ⟨b, o, none⟩ = some v := lift hD h hb x
theorem owe_own (i : Nat) (base : Nat) (e : TypeId) (size n : Nat) (xs : List Value) (hs : s.i = i) (hR : ∀ (x : Nat → Par) (F : Nat → Prop) (w : World), R s.i x F w = OwnF w F base e size (.slice (x i 0).1 n (x i 0).2) n xs) : Owes R s :=
  ⟨fun x F w w' h _ hk => by rw [hR] at *; exact h.stab hk, fun x x' F w hx h => by
    rw [hR] at *
    subst hs
    rw [← hx s.i (.inl rfl)]; exact h⟩
end
end Go.Proofs.Ytiggefmckomilaa
namespace Go.Proofs.Ytiggefmckomilaa
open Go Go.RowKit

theorem exec_store_val {P : Program} {o : Oper} {t t' : TypeId} {p x : Operand} {g off : Nat} {old : Array Value} {v : Value} (h : o.op = .store t p x) {e : Operand → Value} {w : World} (hp : e p = .pointer (some ⟨g, off, none⟩)) (hx : e x = v) (h1 : v.oneCell' = true)
    (hg : Blk w g t' old) (hi : (P.info? t).map (·.size) = some 1) (ho : off < old.size) :
    (execOp e o).run P w = .ok .skip (w.setCell ⟨g, off, none⟩ v) := by
  have hc : w.cell? ⟨g, off, none⟩ = some (old[off]'ho) := by rw [hg.cell off]; simp [ho]
  have hf := hg.frozen off
  have hst : ∀ u : Value, u.oneCell' = true → (store ⟨g, off, none⟩ u .plain).run P w = .ok () (w.setCell ⟨g, off, none⟩ u) := fun u h => by rw [run_store P w _ u _ h]; simp [hc, hf]
  cases hq : P.info? t with
  | none => simp [hq] at hi
  | some i =>
    have hs : i.size = 1 := by simpa [hq] using hi
    cases v <;> first
      | (simp [Value.oneCell'] at h1; done)
      | (simp [execOp, h, hp, hx, go_sem, sizeOf, typeInfo, hq, hs, hc, hf]; done)
      | simp [execOp, h, hp, hx, go_sem, sizeOf, typeInfo, hq, hs, hc, hf, hst _ h1]

/-- The row's own block, if it has one, and the field's. -/
def ownFill (i : Nat) (v : Value) : List (Nat × Nat) := match v.ownBlock with | some g => [(i, g)] | none => []
theorem mem_ownFill {i : Nat} {v : Value} {p : Nat × Nat} : p ∈ ownFill i v ↔ p.1 = i ∧ v.ownBlock = some p.2 := by
  unfold ownFill
  cases v.ownBlock with
  | none => simp
  | some g =>
    simp only [List.mem_singleton, Option.some.injEq]
    exact ⟨fun h => by rw [h]; exact ⟨rfl, rfl⟩, fun h => Prod.ext h.1 h.2.symm⟩
def fillQ (i : Nat) (v : Value) (f T : Nat) : List (Nat × Nat) := ownFill i v ++ [(f, T)]
theorem mem_fillQ {i f T : Nat} {v : Value} {p : Nat × Nat} : p ∈ fillQ i v f T ↔ (p.1 = i ∧ v.ownBlock = some p.2) ∨ (p.1 = f ∧ p.2 = T) := by
  unfold fillQ
  rw [List.mem_append, mem_ownFill, List.mem_singleton]
  exact or_congr Iff.rfl ⟨fun h => by rw [h]; exact ⟨rfl, rfl⟩, fun h => Prod.ext h.1 h.2⟩
/-- An append leaves the row where it was, or lays it anew. -/
def FreshOr (B : Nat) (v v' : Value) : Prop := v'.ownBlock = v.ownBlock ∨ ∃ g, v'.ownBlock = some g ∧ B ≤ g

section
variable {P : Program} {lops : List Oper} {an : List (List Nat)} {m1 m2 : List Bool} {st : List St} {w0 : World} {a0 : Act} {af : (Nat → Par) → Act} {shape : Nat → Par → Value} {wr : Nat → Nat → Prop} {R : Nat → (Nat → Par) → (Nat → Prop) → World → Prop} {s : St} {o : Oper}
variable {i f T B k : Nat} {v : Value}

theorem fillQ_lt (h : ∀ g, v.ownBlock = some g → g < B) (hT : T < B) : ∀ p ∈ fillQ i v f T, p.2 < B := fun p hp => by
  rcases mem_fillQ.1 hp with ⟨_, h2⟩ | ⟨_, h2⟩
  · exact h _ h2
  · rw [h2]; exact hT
theorem fillQ_ne (hne : v.ownBlock ≠ some T) : ∀ p ∈ fillQ i v f T, ∀ q ∈ fillQ i v f T, p.1 ≠ q.1 → p.2 ≠ q.2 := fun p hp q hq h e => by
  rcases mem_fillQ.1 hp with ⟨h1, h2⟩ | ⟨h1, h2⟩ <;> rcases mem_fillQ.1 hq with ⟨h3, h4⟩ | ⟨h3, h4⟩
  · exact h (h1.trans h3.symm)
  · exact hne (by rw [h2, e, h4])
  · exact hne (by rw [h4, ← e, h2])
  · exact h (h1.trans h3.symm)
theorem ebQ_row {g : Nat} (hg : v.ownBlock = some g) (hne : v.ownBlock ≠ some T) : Eb an st (wrF (fillQ i v f T)) i g := fun s _ h => by
  rcases mem_fillQ.1 h with ⟨h1, _⟩ | ⟨_, h2⟩
  · exact .inl h1
  · exact absurd (by rw [hg]; exact congrArg some h2) hne
theorem ebQ_set (hne : v.ownBlock ≠ some T) : Eb an st (wrF (fillQ i v f T)) f T := fun s _ h => by
  rcases mem_fillQ.1 h with ⟨_, h2⟩ | ⟨h1, _⟩
  · exact absurd h2 hne
  · exact .inl h1
theorem earlyQ (h : k < B) (hne : v.ownBlock ≠ some k) : k < B ∧ ∀ p ∈ fillQ i v f T, p.2 = k → p.1 ∈ [f] :=
  ⟨h, fun p hp e => by
    rcases mem_fillQ.1 hp with ⟨_, h2⟩ | ⟨h1, _⟩
    · exact absurd (e ▸ h2) hne
    · rw [h1]; simp⟩
theorem freeQ (hne : v.ownBlock ≠ some k) (hT : T ≠ k) : free (fillQ i v f T) k := fun p hp e => by
  rcases mem_fillQ.1 hp with ⟨_, h2⟩ | ⟨_, h2⟩
  · exact hne (e ▸ h2)
  · exact hT (h2 ▸ e)
theorem wrQ_row : ∀ g, v.ownBlock = some g → wrF (fillQ i v f T) i g := fun g hg => by
  unfold wrF
  exact mem_fillQ.2 (.inl ⟨rfl, hg⟩)
theorem wrQ_set : wrF (fillQ i v f T) f T := by
  unfold wrF
  exact mem_fillQ.2 (.inr ⟨rfl, rfl⟩)
theorem kbS {D : World → Prop} {S : Nat → Prop} {w : World} (hD : Good S w D) (h : ∀ k, k < B → S k) (x : Of D) : Below B w x.val := by
  have h' := hD.low _ x.ok
  exact ⟨h'.os, h'.tape, h'.output, h'.size, fun k hk => h'.block k (h k hk)⟩
/-- The row that was there, when its append comes up. -/
theorem row_thenQ {base : Nat} {e : TypeId} {size n : Nat} {xs : List Value} {w : World} (h : w0.ownsRow base e size v n xs) (hne : v.ownBlock ≠ some T) (hk : Kept (fun k => k < w0.heap.size ∧ Eb an st (wrF (fillQ i v f T)) i k) w0 w) : w.ownsRow base e size v n xs := by
  refine ⟨h.1, ?_⟩
  rcases h.2 with h0 | ⟨g, cap, cur, hv, hb, hg, r⟩
  · exact .inl h0
  · refine .inr ⟨g, cap, cur, hv, hb, ?_, r⟩
    have hlt : g < w0.heap.size := (Array.getElem?_eq_some_iff.1 hg).1
    rw [hk.block g ⟨hlt, ebQ_row (by rw [hv]; rfl) hne⟩]; exact hg

/-- An append to a row that was there. -/
theorem obl_pushQ (t : TypeId) (sp pp : Tmp) (ha : isAppend lops[s.i]? t sp pp = true)
    (base : Nat) (e : TypeId) (i0 : TypeInfo) (z : Value) (size bytes : Nat) (ht : P.underlying t = some (.slice e)) (hi : P.info? e = some i0) (hz : i0.zero = some z) (hsize : i0.size = size) (hby : i0.bytes = bytes) (hzs : z.cells.size = size) (hsz : 0 < size)
    (v0 : Value) (n m : Nat) (xs news : List Value) (hl : news.length = m * size) (h1 : ∀ u ∈ news, u.oneCell' = true) (h63 : n + m ≤ maxLen) (hbytes : (n + m) * bytes ≤ 140737488355328) (hbase : base ≤ w0.heap.size)
    (hv : ∀ (x : Nat → Par) (w : World) (F : Nat → Nat → Prop), Kept (fun k => k < w0.heap.size ∧ Eb an st wr s.i k) w0 w → (∀ j ∈ s.need, R j x (F j) w) →
      ∃ ad c, (af x).tmps.getD sp undef = v0 ∧ w.ownsRow base e size v0 n xs ∧ (∀ g, v0.ownBlock = some g → wr s.i g) ∧ (af x).tmps.getD pp undef = .slice (some ad) m c ∧ (∀ j u, news[j]? = some u → w.cell? (ad.add j) = some u))
    (hsh : ∀ y, shape s.i y = .slice (y 0).1 (n + m) (y 0).2)
    (hR : ∀ (x : Nat → Par) (F : Nat → Prop) (w : World) (y : Par), OwnF w F base e size (.slice (y 0).1 (n + m) (y 0).2) (n + m) (xs ++ news) → FreshOr w0.heap.size v0 (.slice (y 0).1 (n + m) (y 0).2) → R s.i (upd x s.i y) F w) : Obl P lops an st wr w0 af shape R s := by
  intro x w F hk hn
  cases ho' : lops[s.i]? with
  | none => rw [ho'] at ha; simp [isAppend] at ha
  | some o =>
    rw [ho'] at ha
    obtain ⟨d, ty, pos, aft, heq⟩ := isAppend_spec ha
    have e1 := Option.some.inj heq
    subst e1
    obtain ⟨ad, c, hs, hown, hgv, hx, hnews⟩ := hv x w F hk fun j hj => (hn j hj).2
    obtain ⟨v', w', hr, hown', hgrow, _, hat⟩ := run_append_own_at (P := P) w base t ty e i0 z size bytes ht hi hz hsize hby hzs hsz v0 n xs hown ad m c news hl hnews h1 h63 hbytes (Nat.le_trans hbase hk.size)
    obtain ⟨A, cc, rfl⟩ := own_shape2 hown'
    refine ⟨_, rfl, by simp [Region.wanted], hrun_value (v := .slice A (n + m) cc) (w' := w') ?_ ⟨fun _ => (A, cc), fun k => (Value.slice A (n + m) cc).ownBlock = some k, (hsh fun _ => (A, cc)).symm, ⟨hgrow.os, hgrow.tape, hgrow.output, hgrow.size, fun k hk => hgrow.block k hk.1 fun e2 => hk.2 ?_⟩, fun k hk => ⟨(hown'.lt k hk).2, ?_⟩, hR x _ _ _ ⟨hown', fun g hg => hg⟩ ?_⟩⟩
    · simp only [execOp, resolve, invoke, builtin, Sem.run_bind, Sem.run_pure, Result.andThen_ok, List.map_toArray, List.map_cons, List.map_nil, Act.eval, hs, hx, hr]
    · exact .inl (hgv k e2.symm)
    · rcases hat with h | h
      · exact .inr (.inl (hgv k (h.symm.trans hk)))
      · left
        rw [h] at hk
        exact Nat.le_of_eq (Option.some.inj hk)
    · rcases hat with h | h
      · exact .inl h
      · exact .inr ⟨_, h, hk.size⟩

/-- One value is stored into a variable that was there. -/
theorem obl_setv (t t' : TypeId) (p q : Tmp) (b off : Nat) (old : Array Value) (val : (Nat → Par) → Value) (new : (Nat → Par) → Array Value) (hs : isStore lops[s.i]? t p q = true) (hp : ∀ (x : Nat → Par), (af x).tmps.getD p undef = .pointer (some ⟨b, off, none⟩)) (hq : ∀ (x : Nat → Par), (af x).tmps.getD q undef = val x)
    (h1 : ∀ x, (val x).oneCell' = true) (hb0 : Blk w0 b t' old) (hE : Eb an st wr s.i b) (hwr : wr s.i b) (hi : (P.info? t).map (·.size) = some 1) (hoff : off < old.size) (hnew : ∀ x, old.setIfInBounds off (val x) = new x) (hsh : ∀ y, shape s.i y = undef)
    (hR : ∀ (x : Nat → Par) (F : Nat → Prop) (w : World) (y : Par), F b → Blk w b t' (new x) → R s.i (upd x s.i y) F w) : Obl P lops an st wr w0 af shape R s := by
  intro x w F hk hn
  cases ho' : lops[s.i]? with
  | none => rw [ho'] at hs; simp [isStore] at hs
  | some o =>
    rw [ho'] at hs
    unfold isStore at hs
    split at hs
    · rename_i t1 p1 x1 ty pos aft heq
      simp only [Bool.and_eq_true, beq_iff_eq] at hs
      obtain ⟨⟨rfl, rfl⟩, rfl⟩ := hs
      have e := Option.some.inj heq
      subst e
      have hb : Blk w b t' old := (hk.block b ⟨hb0.lt, hE⟩).trans hb0
      refine ⟨_, rfl, by simp [Region.wanted], hrun_skip (exec_store_val (P := P) (o := ⟨none, .store t1 (.tmp p1) (.tmp x1), ty, pos, aft, none⟩) rfl (e := (af x).eval) (w := w) (hp x) (hq x) (h1 x) hb hi hoff) ?_⟩
      have g := grown_setCell w b off (val x)
      refine ⟨fun _ => (none, 0), fun k => k = b, (hsh _).symm, ⟨g.os, g.tape, g.output, g.size, fun k hk => g.block k hk.1 fun e => hk.2 (.inl (by have : k = b := Option.some.inj e; rw [this]; exact hwr))⟩, fun k hk => ?_, hR x _ _ _ rfl (by have := hb.set_ off (val x); rw [hnew x] at this; exact this)⟩
      subst hk
      exact ⟨Nat.lt_of_lt_of_le hb.lt g.size, .inr (.inl hwr)⟩
    · cases hs
theorem owe_pushQ (i : Nat) (B base : Nat) (v0 : Value) (e : TypeId) (size n : Nat) (xs : List Value) (hs : s.i = i) (hR : ∀ (x : Nat → Par) (F : Nat → Prop) (w : World), R s.i x F w = (OwnF w F base e size (.slice (x i 0).1 n (x i 0).2) n xs ∧ FreshOr B v0 (.slice (x i 0).1 n (x i 0).2))) : Owes R s :=
  ⟨fun x F w w' h _ hk => by rw [hR] at *; exact ⟨h.1.stab hk, h.2⟩, fun x x' F w hx h => by
    rw [hR] at *
    subst hs
    rw [← hx s.i (.inl rfl)]; exact h⟩
/-- A row that the region leaves alone. -/
theorem own_keptQ {S : Nat → Prop} {w w' : World} {base : Nat} {e : TypeId} {size n : Nat} {v : Value} {xs : List Value} (h : w.ownsRow base e size v n xs) (hk : Kept S w w') (hS : ∀ g, v.ownBlock = some g → S g) : w'.ownsRow base e size v n xs := by
  refine ⟨h.1, ?_⟩
  rcases h.2 with h0 | ⟨g, cap, cur, hv, hb, hg, r⟩
  · exact .inl h0
  · refine .inr ⟨g, cap, cur, hv, hb, ?_, r⟩
    rw [hk.block g (hS g (by rw [hv]; rfl))]; exact hg
theorem own_high_ne {w : World} {base : Nat} {e : TypeId} {size n k : Nat} {v : Value} {xs : List Value} (h : w.ownsRow base e size v n xs) (hk : w.heap.size ≤ k) : v.ownBlock ≠ some k := fun e1 => by
  have := (h.lt k e1).2; omega
theorem new_cellsQ (w : World) (t : TypeId) (l : List Value) (j : Nat) (u : Value) (h : l[j]? = some u) : (w.alloc (.cells ⟨l⟩ t)).cell? ((⟨w.heap.size, 0, none⟩ : Addr).add j) = some u := by
  rw [show (⟨w.heap.size, 0, none⟩ : Addr).add j = ⟨w.heap.size, j, none⟩ by unfold Addr.add; split <;> simp_all]
  rw [(Blk.new w t ⟨l⟩).cell j]; simpa using h
/-- Two rows of the call's own do not share a block. -/
def Apart (u v : Value) : Prop := u.ownBlock = none ∨ u.ownBlock ≠ v.ownBlock
theorem Apart.symm {u v : Value} (h : Apart u v) : Apart v u := by
  unfold Apart at *
  rcases h with h | h
  · rw [h]; cases hv : v.ownBlock <;> simp
  · exact .inr (Ne.symm h)
theorem apart_after {w : World} {u v v' : Value} {base k : Nat} {e : TypeId} {size n : Nat} {xs : List Value} (h : Apart u v) (hu : w.ownsRow base e size u n xs) (hk : w.heap.size ≤ k) (hat : v'.ownBlock = v.ownBlock ∨ v'.ownBlock = some k) : Apart u v' := by
  unfold Apart at *
  rcases hat with e1 | e1
  · rw [e1]; exact h
  · right
    intro e2
    have := (hu.lt k (e2.trans e1)).2
    omega
theorem apart_fresh {w : World} {u v v' : Value} {base B : Nat} {e : TypeId} {size n : Nat} {xs : List Value} (h : Apart u v) (hu : w.ownsRow base e size u n xs) (hk : w.heap.size ≤ B) (hat : FreshOr B v v') : Apart u v' := by
  rcases hat with e1 | ⟨k, e1, hk'⟩
  · exact apart_after h hu (Nat.le_refl _) (.inl e1)
  · exact apart_after h hu (Nat.le_trans hk hk') (.inr e1)
theorem apart_nil (v : Value) : Apart (.slice none 0 0) v := .inl rfl
theorem apart_ne {u v : Value} {g : Nat} (h : Apart u v) (hg : v.ownBlock = some g) : u.ownBlock ≠ some g := fun e => by
  rcases h with h | h
  · rw [h] at e; cases e
  · exact h (e.trans hg.symm)
/-- No memory that was there is turned; what the region has made lies apart. -/
theorem wp_region_LA {id : Nat} {Q : Exit → Act → World → Prop} (an : List (List Nat)) (m1 : List Bool) (st : List St) (shape : Nat → Par → Value) (R : Nat → (Nat → Par) → (Nat → Prop) → World → Prop) (bf : Act → (Nat → Par) → Act)
    (hm : P.follows .mixedOrders = true) (hb : regB .any lops an m1 (List.replicate lops.length false) st = true) (hbf : ∀ x, putH shape x lops st a0 = bf a0 x) (ds : List Tmp) (hds : slotsB m1 (List.replicate lops.length false) lops ds = true)
    (hq : ∀ (x : Nat → Par) (D : World → Prop), Good (fun k => k < w0.heap.size) w0 D → wpQuiet P lops.toArray (fun w' => ∃ y : Of D, w' = y.val) (fun a' => a' = af x) (takeOps m1 lops) (bf a0 x))
    (hcall : ∀ d ∈ ds, ∀ (x x' : Nat → Par), (af x).tmps.getD d undef = (af x').tmps.getD d undef)
    (hob : obls P lops an st (fun _ _ => False) w0 af shape R st) (how : owes R st)
    (hfin : ∀ (x : Nat → Par) (w : World) (F : Nat → Nat → Prop), Later w0 w → lives st R x F w st → Aparts st F → Q .normal (af x) w) : (Code.region id lops.toArray true).wp P Q a0 w0 := by
  refine wp_region_XA (b := af) (af := af) an m1 (List.replicate lops.length false) st shape (fun _ _ => False) R (fun k => k < w0.heap.size) (fun k => k < w0.heap.size) hm hb (fun k hk => ⟨hk, fun i _ s _ h => h.elim⟩) (fun k hk => ⟨hk, fun i _ s _ h => h.elim⟩)
    (fun s _ k h => h.elim) (fun s _ s' _ _ k h => h.elim) (fun x D hD => by rw [hbf]; exact hq x D hD) (fun x D hD => by rw [take_none]; exact wpQuiet_nil rfl) hds hcall hob how fun x w F hk hl ha => hfin x w F ⟨hk.os, hk.tape, hk.output, hk.size, fun k h => hk.block k ⟨h, fun _ _ h => h⟩⟩ hl ha
end
end Go.Proofs.Ytiggefmckomilaa
namespace Go.Proofs.Ytiggefmckomilaa

/-- The quotient rounded up. -/
def cdiv (a b : Int) : Int := -((-a) / b)
theorem cdiv_eq {a b : Int} (hb : 0 < b) : cdiv a b = (a + b - 1) / b := by
  unfold cdiv
  have h1 := Int.mul_ediv_add_emod (a + b - 1) b
  have h2 := Int.emod_nonneg (a + b - 1) (Int.ne_of_gt hb)
  have h3 := Int.emod_lt_of_pos (a + b - 1) hb
  generalize (a + b - 1) / b = q at *
  generalize (a + b - 1) % b = r at *
  have : (-a) / b = -q := by
    have e : -a = (b - 1 - r) + b * (-q) := by rw [Int.mul_neg]; omega
    rw [e, Int.add_mul_ediv_left _ _ (Int.ne_of_gt hb), Int.ediv_eq_zero_of_lt (by omega) (by omega)]
    omega
  rw [this, Int.neg_neg]
/-- Go's quotient, turned down where the remainder is below 0. -/
theorem tdiv_floor {a b : Int} (hb : 0 < b) : a / b = if Int.tmod a b < 0 then Int.tdiv a b - 1 else Int.tdiv a b := by
  have h1 := Int.mul_tdiv_add_tmod a b
  have h4 : (a.tmod b).natAbs < b.natAbs := by rw [Int.natAbs_tmod]; exact Nat.mod_lt _ (by omega)
  generalize Int.tdiv a b = q at *
  generalize Int.tmod a b = r at *
  split
  · have e : a = (r + b) + b * (q - 1) := by rw [Int.mul_sub]; omega
    rw [e, Int.add_mul_ediv_left _ _ (Int.ne_of_gt hb), Int.ediv_eq_zero_of_lt (by omega) (by omega)]; omega
  · have e : a = r + b * q := by omega
    rw [e, Int.add_mul_ediv_left _ _ (Int.ne_of_gt hb), Int.ediv_eq_zero_of_lt (by omega) (by omega)]; omega
theorem tdiv_nonneg_eq {a b : Int} (ha : 0 ≤ a) : Int.tdiv a b = a / b := Int.tdiv_eq_ediv_of_nonneg ha
end Go.Proofs.Ytiggefmckomilaa
namespace Go.Proofs.Ytiggefmckomilaa
open Go Go.RowKit

theorem tdiv_pos {a b : Int} (ha : 0 ≤ a) : a.tdiv b = a / b := Int.tdiv_eq_ediv_of_nonneg ha
theorem within_any (n lo hi : Int) (w : World) :
    Calls Try.prog 60 #[.int .i64 n, .int .i64 lo, .int .i64 hi] w fun e w' => e = .returned (.bool (inR n lo hi)) ∧ w = w' := by
  by_cases h1 : lo ≤ n <;> by_cases h2 : n ≤ hi
  all_goals
    go_enter Try.func60, Try.ntmps60
    go_wp2
    go_ret
    exact ⟨by simp [inR, *], rfl⟩
theorem inside_any (a b lo hi : Int) (w : World) :
    Calls Try.prog 53 #[.agg #[.int .i64 a, .int .i64 b], .int .i64 lo, .int .i64 hi] w fun e w' => e = .returned (.bool (inS a b lo hi)) ∧ Below w.heap.size w w' := by
  by_cases h1 : lo ≤ a <;> by_cases h2 : a ≤ b <;> by_cases h3 : b ≤ hi
  all_goals
    go_enter Try.func53, Try.ntmps53
    go_wp2
    go_ret
    exact ⟨by simp [inS, *], (Below.refl _ _).alloc (Nat.le_refl _) _⟩
theorem up_any (a b : Int) (w : World) (ha : 0 ≤ a) (hb : 1 ≤ b) (ha2 : a ≤ 4611686018427387903) (hb2 : b ≤ 4611686018427387903) :
    Calls Try.prog 54 #[.int .i64 a, .int .i64 b] w fun e w' => e = .returned (.int .i64 (upD a b)) ∧ w = w' := by
  have h1 : 0 ≤ (a + b - 1) / b := Int.ediv_nonneg (by omega) (by omega)
  have h2 : (a + b - 1) / b ≤ a + b - 1 := Int.ediv_le_self b (by omega)
  go_enter Try.func54, Try.ntmps54
  go_wp2
  go_ret
  exact ⟨rfl, rfl⟩

set_option maxHeartbeats 1000000 in
set_option maxRecDepth 100000 in
theorem widen_any (a b d f t : Int) (w : World) (h0 : 0 ≤ d) (h1 : d ≤ 1000000) (f0 : 0 ≤ f) (f1 : f ≤ 4294967296) (t0 : 0 ≤ t) (t1 : t ≤ 4294967296) (a0 : -1000000000000000000 ≤ a) (a1 : a ≤ 1000000000000000000) (b0 : -1000000000000000000 ≤ b) (b1 : b ≤ 1000000000000000000) :
    Calls Try.prog 67 #[.agg #[.int .i64 a, .int .i64 b], .int .i64 d, .int .i64 f, .int .i64 t] w fun e w' => e = .returned (.agg #[.int .i64 (widenS (a, b) d f t).1, .int .i64 (widenS (a, b) d f t).2]) ∧ Below w.heap.size w w' := by
  obtain ⟨k1, k2, k3, k4⟩ := wide_bd (d := d) h0 h1 f0 f1 t0 t1
  have hmx : (if t - f < f - t then f - t else t - f) = max (t - f) (f - t) := by rw [Int.max_def]; split <;> split <;> omega
  have hW : widenS (a, b) d f t = (max 1 (a - upD (d * max (t - f) (f - t)) 86400), b + upD (d * max (t - f) (f - t)) 86400) := rfl
  have m1 : 0 ≤ max (t - f) (f - t) := by omega
  have m2 : max (t - f) (f - t) ≤ 4294967296 := by omega
  have hu := fun W => up_any (d * max (t - f) (f - t)) 86400 W k1 (by omega) (by omega) (by omega)
  generalize max (t - f) (f - t) = m at *
  generalize upD (d * m) 86400 = u at *
  rw [hW]
  have hm1 : (if 1 < a - u then a - u else 1) = max 1 (a - u) := by rw [Int.max_def]; split <;> split <;> omega
  have Hu := hide hu
  clear hu
  clear hW h0 h1
  go_enter Try.func67, Try.ntmps67
  have HB := hide (Below.refl w.heap.size w)
  go_wp2_with fail
  refine at_world fun W hW => ?_
  have bq0 : Blk W w.heap.size 23 #[.int .i64 a, .int .i64 b] := by rw [hW]; exact (Blk.new _ _ _).alloc _
  have bq1 : Blk W (w.heap.size + 1) 23 #[.int .i64 0, .int .i64 0] := by rw [hW]; exact blk_new_at (by simp)
  have LW : Later w W := by rw [hW]; exact (((Below.refl _ _).alloc (Nat.le_refl _) _).alloc (by simp; try omega) _)
  have szW : W.heap.size = w.heap.size + 2 := by rw [hW]; simp
  clear hW
  replace HB := hide (onward HB.out LW)
  have Hs := hide bq0
  have Ho := hide bq1
  clear bq0 bq1 LW szW
  refine (Hu.out _).mono ?_
  rintro e w' ⟨rfl, rfl⟩
  obtain ⟨s0, s1⟩ := Hs.out.c2
  have lts := Hs.out.lt
  obtain ⟨o0, o1⟩ := Ho.out.c2
  have lto := Ho.out.lt
  have fo0 := Ho.out.frozen 0
  have fo1 := Ho.out.frozen 1
  go_wp2
  refine bodyPost_ret (v := .agg #[.int .i64 (max 1 (a - u)), .int .i64 (b + u)]) (by simp [results, Try.results67, go_sem, o0, o1, fo0, fo1, lto]) rfl ⟨rfl, ?_⟩
  have hsz := HB.out.size
  repeat (first | exact HB.out | (refine Below.setCell ?_ (by first | omega | (simp; done) | (simp; omega)) _) | (refine Below.alloc ?_ (by first | omega | (simp; done) | (simp; omega)) _) | (refine below_drewN ?_ _))

set_option maxHeartbeats 1000000 in
set_option maxRecDepth 100000 in
theorem scaled_any (a b c d : Int) (w : World) (a0 : 1 ≤ a) (a1 : a ≤ b) (a2 : b ≤ 100000000000) (c0 : 1 ≤ c) (c1 : c ≤ d) (c2 : d ≤ 1000000) :
    Calls Try.prog 63 #[.agg #[.int .i64 a, .int .i64 b], .agg #[.int .i64 c, .int .i64 d], .int .i64 1000] w fun e w' => e = .returned (.agg #[.int .i64 (scaledS (a, b) (c, d)).1, .int .i64 (scaledS (a, b) (c, d)).2]) ∧ Below w.heap.size w w' := by
  obtain ⟨-, -, -, k1, k2, k3⟩ := scaledS_bd (s := (a, b)) (t := (c, d)) a0 a1 a2 c0 c1 c2
  simp only at k1 k2 k3
  have hS : scaledS (a, b) (c, d) = (max 1 (a * c / 1000), upD (b * d) 1000) := rfl
  have hu := fun W => up_any (b * d) 1000 W (by omega) (by omega) (by omega) (by omega)
  obtain ⟨q1, q2, -⟩ := div_bd (a := a * c) (b := 1000) k1 (by omega)
  rw [hS]
  have q3 : 0 ≤ b * d := by omega
  obtain ⟨m, hm⟩ : ∃ m : Int, (if 1 < a * c / 1000 then a * c / 1000 else 1) = m := ⟨_, rfl⟩
  rw [show max 1 (a * c / 1000) = m by rw [← hm, Int.max_def]; split <;> split <;> omega]
  generalize upD (b * d) 1000 = u at *
  have Hu := hide hu
  clear hu
  clear hS
  go_enter Try.func63, Try.ntmps63
  have HB := hide (Below.refl w.heap.size w)
  go_wp2_with fail
  refine code_world fun W hW => ?_
  have bq0 : Blk W w.heap.size 23 #[.int .i64 a, .int .i64 b] := by rw [hW]; exact ((Blk.new _ _ _).alloc _).alloc _
  have bq1 : Blk W (w.heap.size + 1) 23 #[.int .i64 c, .int .i64 d] := by rw [hW]; exact (blk_new_at (by simp)).alloc _
  have bq2 : Blk W (w.heap.size + 2) 23 #[.int .i64 0, .int .i64 0] := by rw [hW]; exact blk_new_at (by simp)
  have LW : Later w W := by rw [hW]; exact ((((Below.refl _ _).alloc (Nat.le_refl _) _).alloc (by simp; try omega) _).alloc (by simp; try omega) _)
  have szW : W.heap.size = w.heap.size + 3 := by rw [hW]; simp
  clear hW
  replace HB := hide (onward HB.out LW)
  have Hs := hide bq0
  have Ht := hide bq1
  have Ho := hide bq2
  clear bq0 bq1 bq2 LW szW
  obtain ⟨s0, s1⟩ := Hs.out.c2
  have lts := Hs.out.lt
  obtain ⟨t0, t1⟩ := Ht.out.c2
  have ltt := Ht.out.lt
  have hoo := Ho.out.lt
  apply wp_region_F (w0 := W) [[], [0], [], [2], [0, 1, 2, 3], [], [0, 1, 2, 3, 4, 5], [0, 1, 2, 3, 4, 5, 6], [], [8], [], [10], [8, 9, 10, 11], [], [8, 9, 10, 11, 12, 13], [0, 1, 2, 3, 4, 5, 6, 7, 8, 9, 10, 11, 12, 13, 14], [0, 1, 2, 3, 4, 5, 6, 7, 8, 9, 10, 11, 12, 13, 14, 15]] [true, true, true, true, true, true, true, true, true, true, true, true, true, true, true, true, false] [false, false, false, false, false, false, false, false, false, false, false, false, false, false, false, false, false] [⟨16, none, [], []⟩] [(16, (w.heap.size+2))] [16] (fun ixq y => match ixq with | 16 => undef | _ => undef) (fun ixq x F wq => match ixq with | 16 => F (w.heap.size+2) ∧ Blk wq (w.heap.size+2) 23 #[.int .i64 m, .int .i64 u] | _ => True) (fun a x => (a).put (none) (undef)) (by kernel_rfl) (by kernel_rfl) (by kernel_rfl) (fun _ => rfl) [21] (by kernel_rfl) (fills_lt1 (by omega)) fills_ne1
  · intro x D hD
    have hne := hD.some
    have k0 := liftS hD s0 (by exact early_all (by first | assumption | omega) (by rfl))
    have k1 := liftS hD s1 (by exact early_all (by first | assumption | omega) (by rfl))
    have k2 := liftS hD t0 (by exact early_all (by first | assumption | omega) (by rfl))
    have k3 := liftS hD t1 (by exact early_all (by first | assumption | omega) (by rfl))
    simp only [takeOps, Act.put, List.setIfInBounds_toArray, List.set_cons_succ, List.set_cons_zero]
    repeat (go_big_quiet_step ((go_at_call 54; exact calls_same _ (Hu.out _))))
    exact wpQuiet_nil rfl
  · exact fun x D hD => wpQuiet_nil rfl
  · intro d hd x x'
    simp only [List.mem_cons, List.not_mem_nil, or_false] at hd
    rcases hd with rfl
    all_goals rfl
  · refine ⟨?_, trivial⟩
    · exact obl_fill 23 23 6 22 (w.heap.size+2) _ (fun x => #[.int .i64 m, .int .i64 u]) (by kernel_rfl) (fun _ => rfl) (fun _ => rfl) Ho.out eb_fill1 (by simp [wrF]) (fun _ => by kernel_rfl) (fun _ => rfl) (fun _ => by simp [Value.oneCell']) (fun _ => rfl) (fun _ _ _ _ h1 h2 => ⟨h1, h2⟩)
  · refine ⟨?_, trivial⟩
    · exact owe_fill (w.heap.size+2) 23 (fun x => #[.int .i64 m, .int .i64 u]) (fun _ _ _ => rfl) (fun _ _ _ => rfl)
  intro xx w2 F hK hlv1
  obtain ⟨fct16, -⟩ := hlv1
  replace fct16 : (F 16) (w.heap.size+2) ∧ Blk w2 (w.heap.size+2) 23 #[.int .i64 m, .int .i64 u] := fct16 rfl
  have Hq := hide fct16.2
  have hB : Below w.heap.size w w2 := below_kept HB.out HB.out.size hK (fun p hp => by simp only [List.mem_singleton] at hp; subst hp; omega)
  obtain ⟨o0, o1⟩ := Hq.out.c2
  have lto := Hq.out.lt
  have fo0 := Hq.out.frozen 0
  have fo1 := Hq.out.frozen 1
  go_wp2
  refine bodyPost_ret (v := .agg #[.int .i64 m, .int .i64 u]) (by simp [results, Try.results63, go_sem, o0, o1, fo0, fo1, lto]) rfl ⟨rfl, hB⟩
end Go.Proofs.Ytiggefmckomilaa
namespace Go.Proofs.Ytiggefmckomilaa
open Go Go.RowKit

/-- The cells of a standard. -/
def knownC (s : Std) (par : Option Addr) (m : Int × Int) : Array Value :=
  #[.string s.name, .string s.par, .int .i64 s.lo, .int .i64 s.hi, .int .i64 s.time, .int .i64 s.stop, .int .i64 s.drift, .pointer par, .int .i64 m.1, .int .i64 m.2]
theorem Blk.c10 {w : World} {g : Nat} {t : TypeId} {a b c d e f i j k l : Value} (h : Blk w g t #[a, b, c, d, e, f, i, j, k, l]) :
    w.cell? ⟨g, 0, none⟩ = some a ∧ w.cell? ⟨g, 1, none⟩ = some b ∧ w.cell? ⟨g, 2, none⟩ = some c ∧ w.cell? ⟨g, 3, none⟩ = some d ∧ w.cell? ⟨g, 4, none⟩ = some e ∧ w.cell? ⟨g, 5, none⟩ = some f ∧ w.cell? ⟨g, 6, none⟩ = some i ∧ w.cell? ⟨g, 7, none⟩ = some j ∧ w.cell? ⟨g, 8, none⟩ = some k ∧ w.cell? ⟨g, 9, none⟩ = some l :=
  ⟨h.c 0 rfl, h.c 1 rfl, h.c 2 rfl, h.c 3 rfl, h.c 4 rfl, h.c 5 rfl, h.c 6 rfl, h.c 7 rfl, h.c 8 rfl, h.c 9 rfl⟩

set_option maxHeartbeats 1000000 in
set_option maxRecDepth 100000 in
theorem holds_any (s : Std) (par : Option Addr) (m : Int × Int) (k : Nat) (t : Int) (w : World) (hb : Blk w k 109 (knownC s par m)) :
    Calls Try.prog 62 #[.pointer (some ⟨k, 0, none⟩), .int .i64 t] w fun e w' => e = .returned (.bool (inR t s.time s.stop)) ∧ Below w.heap.size w w' := by
  unfold knownC at hb
  have hw := fun W => within_any t s.time s.stop W
  generalize inR t s.time s.stop = r at *
  obtain ⟨x0, x1, x2, x3, x4, x5, x6, x7, x8, x9⟩ := hb.c10
  have ltx := hb.lt
  have Hw := hide hw
  have Hb := hide hb
  clear hw hb
  go_enter Try.func62, Try.ntmps62
  go_wp2_with fail
  apply wp_region_L (w0 := w) [[], [], [], [], [], [], [], [], [], [], [], [], []] [true, true, true, true, true, true, true, true, true, true, true, true, true] [] (fun ixq y => match ixq with  | _ => undef) (fun ixq x F wq => match ixq with  | _ => True) (fun a x => a) (by kernel_rfl) (by kernel_rfl) (fun _ => rfl) [7, 12, 16] (by kernel_rfl)
  · intro x D hD
    have hne := hD.some
    have k4 := liftB hD x4 (by first | assumption | omega)
    have k5 := liftB hD x5 (by first | assumption | omega)
    simp only [takeOps, Act.put, List.setIfInBounds_toArray, List.set_cons_succ, List.set_cons_zero]
    repeat (go_big_quiet_step ((go_at_call 60; exact calls_same _ (Hw.out _))))
    exact wpQuiet_nil rfl
  · intro d hd x x'
    simp only [List.mem_cons, List.not_mem_nil, or_false] at hd
    rcases hd with rfl | rfl | rfl
    all_goals rfl
  · exact trivial
  · exact trivial
  intro xx w2 F hL hlv1
  clear hlv1
  go_wp2
  go_ret
  exact ⟨rfl, hL⟩

set_option maxHeartbeats 1000000 in
set_option maxRecDepth 100000 in
theorem at_any (s : Std) (par : Option Addr) (m : Int × Int) (k : Nat) (t : Int) (w : World) (hb : Blk w k 109 (knownC s par m)) (hs : StdOk s) (hm : SpanOk m) (t0 : 0 ≤ t) (t1 : t ≤ 4294967296) :
    Calls Try.prog 64 #[.pointer (some ⟨k, 0, none⟩), .int .i64 t] w fun e w' => e = .returned (.agg #[.int .i64 (widenS m s.drift s.time t).1, .int .i64 (widenS m s.drift s.time t).2]) ∧ Below w.heap.size w w' := by
  unfold knownC at hb
  obtain ⟨-, -, -, -, h1, h2, h3, h4, h5⟩ := hs
  obtain ⟨m1, m2, m3⟩ := hm
  obtain ⟨ma, mb⟩ := m
  have hw := fun W => widen_any ma mb s.drift s.time t W h4 h5 h1 (by omega) t0 t1 (by simp only at m1; omega) (by simp only at m2 m3; omega) (by simp only at m1 m2; omega) (by simp only at m3; omega)
  generalize (widenS (ma, mb) s.drift s.time t).1 = r1 at *
  generalize (widenS (ma, mb) s.drift s.time t).2 = r2 at *
  have Hw := hide hw
  have Hb := hide hb
  clear hw hb
  go_enter Try.func64, Try.ntmps64
  have HB := hide (Below.refl w.heap.size w)
  go_wp2_with fail
  refine code_world fun W hW => ?_
  have bq0 : Blk W w.heap.size 23 #[.int .i64 0, .int .i64 0] := by rw [hW]; exact Blk.new _ _ _
  have LW : Later w W := by rw [hW]; exact ((Below.refl _ _).alloc (Nat.le_refl _) _)
  have szW : W.heap.size = w.heap.size + 1 := by rw [hW]; simp
  clear hW
  replace HB := hide (onward HB.out LW)
  replace Hb := hide (blk_later Hb.out LW)
  have Ho := hide bq0
  clear bq0 LW szW
  obtain ⟨x0, x1, x2, x3, x4, x5, x6, x7, x8, x9⟩ := Hb.out.c10
  have ltx := Hb.out.lt
  have lto := Ho.out.lt
  apply wp_region_F (w0 := W) [[], [0], [0, 1], [0, 1, 2], [], [4], [4, 5], [4, 5, 6], [4, 5, 6, 7], [], [9], [9, 10], [9, 10, 11], [9, 10, 11, 12], [], [0, 1, 2, 3, 4, 5, 6, 7, 8, 9, 10, 11, 12, 13, 14], [0, 1, 2, 3, 4, 5, 6, 7, 8, 9, 10, 11, 12, 13, 14, 15]] [true, true, true, true, true, true, true, true, true, true, true, true, true, true, true, true, false] [false, false, false, false, false, false, false, false, false, false, false, false, false, false, false, false, false] [⟨16, none, [], []⟩] [(16, w.heap.size)] [16] (fun ixq y => match ixq with | 16 => undef | _ => undef) (fun ixq x F wq => match ixq with | 16 => F w.heap.size ∧ Blk wq w.heap.size 23 #[.int .i64 r1, .int .i64 r2] | _ => True) (fun a x => (a).put (none) (undef)) (by kernel_rfl) (by kernel_rfl) (by kernel_rfl) (fun _ => rfl) [6, 10, 15, 20] (by kernel_rfl) (fills_lt1 (by omega)) fills_ne1
  · intro x D hD
    have hne := hD.some
    have k4 := liftS hD x4 (by exact early_all (by first | assumption | omega) (by rfl))
    have k6 := liftS hD x6 (by exact early_all (by first | assumption | omega) (by rfl))
    have k8 := liftS hD x8 (by exact early_all (by first | assumption | omega) (by rfl))
    have k9 := liftS hD x9 (by exact early_all (by first | assumption | omega) (by rfl))
    simp only [takeOps, Act.put, List.setIfInBounds_toArray, List.set_cons_succ, List.set_cons_zero]
    repeat (go_big_quiet_step ((go_at_call 67; exact calls_later hD _ (Hw.out _))))
    exact wpQuiet_nil rfl
  · exact fun x D hD => wpQuiet_nil rfl
  · intro d hd x x'
    simp only [List.mem_cons, List.not_mem_nil, or_false] at hd
    rcases hd with rfl | rfl | rfl | rfl
    all_goals rfl
  · refine ⟨?_, trivial⟩
    · exact obl_fill 23 23 4 20 w.heap.size _ (fun x => #[.int .i64 r1, .int .i64 r2]) (by kernel_rfl) (fun _ => rfl) (fun _ => rfl) Ho.out eb_fill1 (by simp [wrF]) (fun _ => by kernel_rfl) (fun _ => rfl) (fun _ => by simp [Value.oneCell']) (fun _ => rfl) (fun _ _ _ _ h1 h2 => ⟨h1, h2⟩)
  · refine ⟨?_, trivial⟩
    · exact owe_fill w.heap.size 23 (fun x => #[.int .i64 r1, .int .i64 r2]) (fun _ _ _ => rfl) (fun _ _ _ => rfl)
  intro xx w2 F hK hlv2
  obtain ⟨fct16, -⟩ := hlv2
  replace fct16 : (F 16) w.heap.size ∧ Blk w2 w.heap.size 23 #[.int .i64 r1, .int .i64 r2] := fct16 rfl
  have Hq := hide fct16.2
  have hB : Below w.heap.size w w2 := below_kept HB.out HB.out.size hK (fun p hp => by simp only [List.mem_singleton] at hp; subst hp; exact Nat.le_refl _)
  clear x0 x1 x2 x3 x4 x5 x6 x7 x8 x9 lto
  obtain ⟨o0, o1⟩ := Hq.out.c2
  have lto := Hq.out.lt
  have fo0 := Hq.out.frozen 0
  have fo1 := Hq.out.frozen 1
  go_wp2
  refine bodyPost_ret (v := .agg #[.int .i64 r1, .int .i64 r2]) (by simp [results, Try.results64, go_sem, o0, o1, fo0, fo1, lto]) rfl ⟨rfl, hB⟩
end Go.Proofs.Ytiggefmckomilaa
namespace Go.Proofs.Ytiggefmckomilaa
open Go Go.RowKit Go.WideShapes
open Go.Maps (Keyed IsMap Tidy)

/-- An element of a map, read as it stands. -/
def rawR (v : Value) : Option (DataW Value × List MemPlace) := some (.held v, [])
def keyL (s : ByteArray) : Lit := .string s.data.toList
theorem keyL_inj {s t : ByteArray} (h : keyL s = keyL t) : s = t := by
  unfold keyL at h
  have h1 := Lit.string.inj h
  have h2 : s.data = t.data := Array.ext' h1
  cases s; cases t
  simp only at h2
  rw [h2]
/-- What stands at a key behind a store, behind a delete. -/
def putF (f : ByteArray → Option Value) (s : ByteArray) (v : Value) : ByteArray → Option Value := fun x => if x = s then some v else f x
def delF (f : ByteArray → Option Value) (s : ByteArray) : ByteArray → Option Value := fun x => if x = s then none else f x

/-- Block `b` is a map of `c` entries, in which `f` tells what stands at a key. -/
def MapV (w : World) (P : Program) (k : TypeId) (b : Nat) (f : ByteArray → Option Value) (c : Nat) : Prop :=
  ∃ D : DataW Value, w.ownsMap P k rawR b c D ∧ Maps.size D = c ∧ ∀ s : ByteArray, Maps.has D (keyL s) = (f s).isSome ∧ ∀ v, f s = some v → ∀ z, D.atKey (keyL s) z = .held v

section
variable {P : Program} {k t e : TypeId} {w : World} {b c : Nat} {f : ByteArray → Option Value}

theorem MapV.lt (h : MapV w P k b f c) : b < w.heap.size := by
  obtain ⟨D, h1, _⟩ := h
  exact h1.lt
theorem MapV.stab {w' : World} (h : MapV w P k b f c) (hk : w'.heap[b]? = w.heap[b]?) : MapV w' P k b f c := by
  obtain ⟨D, ⟨es, clock, hb, r⟩, h2⟩ := h
  exact ⟨D, ⟨es, clock, hk.trans hb, r⟩, h2⟩
theorem MapV.congr {f' : ByteArray → Option Value} (h : MapV w P k b f c) (hf : ∀ s, f s = f' s) : MapV w P k b f' c := by
  rw [show f' = f from funext fun s => (hf s).symm]; exact h
theorem MapV_made (w : World) (P : Program) (k : TypeId) : MapV (w.alloc (.map #[] 0)) P k w.heap.size (fun _ => none) 0 :=
  ⟨.map [], World.ownsMap_made w P k rawR, rfl, fun s => ⟨rfl, fun v h => by cases h⟩⟩
theorem MapV.at_none (h : MapV w P k b f c) : ∃ D : DataW Value, w.ownsMap P k rawR b c D ∧ Maps.size D = c ∧ (∀ s : ByteArray, Maps.has D (keyL s) = (f s).isSome) ∧ ∀ (s : ByteArray) (z : DataW Value), D.atKey (keyL s) z = match f s with | some v => .held v | none => z := by
  obtain ⟨D, h1, h2, h3⟩ := h
  refine ⟨D, h1, h2, fun s => (h3 s).1, fun s z => ?_⟩
  cases hf : f s with
  | some v => exact (h3 s).2 v hf z
  | none =>
    have := (h3 s).1
    rw [hf] at this
    exact Maps.atKey_of_not_has this z

/-- 'm[k]'. -/
theorem MapV.look (h : MapV w P k b f c) (hk : P.underlying k = some .string) (ht : P.underlying t = some (.map k e)) {z : Value} (hz : (zeroValue e).run P w = .ok z w) {s : ByteArray} (hs : s.size ≤ maxLen) :
    (Instr.lookup t (.map (some b)) (.string s) false).run P w = .ok ((f s).getD z) w := by
  obtain ⟨D, h1, h2, h3, h4⟩ := h.at_none
  obtain ⟨v, ps, hr, hv⟩ := h1.lookup (Maps.string_keyed hk) ht hz (zd := .held z) (zp := []) rfl (WideMaps.keyOf_string_mk hk hs)
  rw [hr]
  have h5 := h4 s (.held z)
  unfold keyL at h5
  rw [h5] at hv
  unfold rawR at hv
  simp only [Option.some.injEq, Prod.mk.injEq] at hv
  congr 1
  cases hf : f s with
  | some u => rw [hf] at hv; exact DataW.held.inj hv.1
  | none => rw [hf] at hv; exact DataW.held.inj hv.1
/-- 'v, ok := m[k]'. -/
theorem MapV.look_ok (h : MapV w P k b f c) (hk : P.underlying k = some .string) (ht : P.underlying t = some (.map k e)) {z : Value} (hz : (zeroValue e).run P w = .ok z w) {s : ByteArray} (hs : s.size ≤ maxLen) :
    (Instr.lookup t (.map (some b)) (.string s) true).run P w = .ok (.tuple #[(f s).getD z, .bool (f s).isSome]) w := by
  obtain ⟨D, h1, h2, h3, h4⟩ := h.at_none
  obtain ⟨v, ps, hr, hv⟩ := h1.look_ok (Maps.string_keyed hk) ht hz (zd := .held z) (zp := []) rfl (WideMaps.keyOf_string_mk hk hs)
  rw [hr]
  have h5 := h4 s (.held z)
  have h6 := h3 s
  unfold keyL at h5 h6
  rw [h5] at hv
  rw [h6]
  unfold rawR at hv
  simp only [Option.some.injEq, Prod.mk.injEq] at hv
  cases hf : f s with
  | some u => rw [hf] at hv; rw [DataW.held.inj hv.1]; rfl
  | none => rw [hf] at hv; rw [DataW.held.inj hv.1]; rfl
/-- 'len(m)'. -/
theorem MapV.len (h : MapV w P k b f c) (ht : P.underlying t = some (.map k e)) (ty : TypeId) : (Builtin.len_ #[t] ty #[.map (some b)]).run P w = .ok (.int .i64 c) w := by
  obtain ⟨D, h1, h2, _⟩ := h
  rw [h1.len ht ty, h2]
theorem ownsMap_bound {n : Nat} {D : DataW Value} (h : w.ownsMap P k rawR b n D) : w.ownsMap P k rawR b (Maps.size D) D := by
  obtain ⟨es, clock, hb, F, hs, rfl⟩ := h
  exact ⟨es, clock, hb, F, by simp [Maps.size, length_sorted], rfl⟩
theorem keyL_isKey (s : ByteArray) : WideAt.IsKeyLit (keyL s) := by unfold keyL; trivial
/-- 'm[k] = v'. -/
theorem MapV.store (h : MapV w P k b f c) (hk : P.underlying k = some .string) (ht : P.underlying t = some (.map k e)) (hc : c < maxLen) {s : ByteArray} (hs : s.size ≤ maxLen) (v : Value) :
    ∃ w', (Instr.mapUpdate t (.map (some b)) (.string s) v).run P w = .ok () w' ∧ MapV w' P k b (putF f s v) (if (f s).isSome then c else c + 1) ∧ w.mapTurned w' b := by
  obtain ⟨D, h1, h2, h3, h4⟩ := h.at_none
  obtain ⟨w', hr, ho, ht'⟩ := h1.store (Maps.string_keyed hk) ht hc (d := .held v) (ps := []) (WideMaps.keyOf_string_mk hk hs) rfl
  have hT := h1.tidy (Maps.string_keyed hk)
  have hsz : Maps.size (D.put (keyL s) (.held v)) = if (f s).isSome then c else c + 1 := by
    rw [Maps.size_put hT, h3 s, h2]
  refine ⟨w', hr, ⟨D.put (keyL s) (.held v), ?_, hsz, fun x => ?_⟩, ht'⟩
  · rw [← hsz]; exact ownsMap_bound ho
  · unfold putF
    by_cases hx : x = s
    · subst hx
      rw [if_pos rfl]
      exact ⟨Maps.has_put_same hT.isMap (keyL_isKey x) _, fun u hu z => by rw [Maps.atKey_put_same hT.isMap (keyL_isKey x)]; exact congrArg DataW.held (Option.some.inj hu)⟩
    · have hne : keyL x ≠ keyL s := fun e => hx (keyL_inj e)
      rw [if_neg hx]
      exact ⟨by rw [Maps.has_put_other hne]; exact h3 x, fun u hu z => by rw [Maps.atKey_put_other hne, h4 x, hu]⟩
/-- 'delete(m, k)'. -/
theorem MapV.drop (h : MapV w P k b f c) (hk : P.underlying k = some .string) (ht : P.underlying t = some (.map k e)) {s : ByteArray} (hs : s.size ≤ maxLen) (ty : TypeId) :
    ∃ w', (Builtin.delete_ #[t, k] ty #[.map (some b), .string s]).run P w = .ok (.tuple #[]) w' ∧ MapV w' P k b (delF f s) (if (f s).isSome then c - 1 else c) ∧ w.mapTurned w' b := by
  obtain ⟨D, h1, h2, h3, h4⟩ := h.at_none
  obtain ⟨w', hr, ho, ht'⟩ := h1.drop (Maps.string_keyed hk) ht (WideMaps.keyOf_string_mk hk hs) ty
  have hT := h1.tidy (Maps.string_keyed hk)
  have hsz : Maps.size (D.del (keyL s)) = if (f s).isSome then c - 1 else c := by
    have := Maps.size_del (k := keyL s) hT
    rw [h3 s, h2] at this
    cases hf : (f s).isSome <;> rw [hf] at this <;> simp at this ⊢ <;> omega
  refine ⟨w', hr, ⟨D.del (keyL s), ?_, hsz, fun x => ?_⟩, ht'⟩
  · rw [← hsz]; exact ownsMap_bound ho
  · unfold delF
    by_cases hx : x = s
    · subst hx
      rw [if_pos rfl]
      exact ⟨Maps.has_del_same, fun u hu => by cases hu⟩
    · have hne : keyL x ≠ keyL s := fun e => hx (keyL_inj e)
      rw [if_neg hx]
      exact ⟨by rw [Maps.has_del_other hne]; exact h3 x, fun u hu z => by rw [Maps.atKey_del_other hne, h4 x, hu]⟩
end
end Go.Proofs.Ytiggefmckomilaa
