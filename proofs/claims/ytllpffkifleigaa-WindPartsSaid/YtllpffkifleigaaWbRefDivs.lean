/-
  Regions that draw their order: appends. To a row that the region itself has made; to a row that was there.
  Regions that draw their order: a row that lies in a field is appended to, and the field is stored.
  Directions and slants: the program's contracts, the reference's.
  Quotients, and the error of a site: the program's contracts.
  Regions that draw their order: an append of a slice that may be nil to a row that the region has made.
  Quotients of the reference, rounded down and up: its contracts.
-/
import Derived.Test.YtllpffkifleigaaRegW
import Derived.Maps.AppendAt
import Derived.Test.YtllpffkifleigaaProg
import Derived.Test.YtllpffkifleigaaWbSectorMath2
set_option linter.unusedSimpArgs false
set_option linter.unusedVariables false
section
namespace Go.Proofs.Ytllpffkifleigaa
open Go Go.RowKit

section
variable {P : Program} {lops : List Oper} {an : List (List Nat)} {m1 m2 : List Bool} {st : List St} {w0 : World} {a0 : Act} {af : (Nat → Par) → Act} {shape : Nat → Par → Value} {wr : Nat → Nat → Prop} {R : Nat → (Nat → Par) → (Nat → Prop) → World → Prop} {s : St} {o : Oper}

theorem own_shape2 {w : World} {base : Nat} {e : TypeId} {size n : Nat} {v : Value} {xs : List Value} (h : w.ownsRow base e size v n xs) : ∃ A c, v = .slice A n c := by
  rcases h.2 with ⟨hv, h0⟩ | ⟨g, cap, _, hv, _⟩
  · exact ⟨none, 0, by rw [hv, h0]⟩
  · exact ⟨_, _, hv⟩
/-- The slots that the hard operations leave, one by one. -/
theorem putH_step {x : Nat → Par} {s : St} {l : List St} {a b : Act} (d : Option Tmp) (v : Value) (hd : (lops[s.i]?).bind (·.dst) = d) (hv : shape s.i (x s.i) = v) (h : putH shape x lops l (a.put d v) = b) : putH shape x lops (s :: l) a = b := by
  rw [putH, hd, hv]; exact h
theorem putH_end {x : Nat → Par} {a : Act} : putH shape x lops [] a = a := rfl
def tmpAt (x : Option Operand) (p : Tmp) : Bool := match x with | some (.tmp q) => q == p | _ => false
def appendB (c : Callee) : Bool := match c with | .builtin .append => true | _ => false
def isAppend (o : Option Oper) (t : TypeId) (p q : Tmp) : Bool := match o with
  | some ⟨_, .call c, _, _, _, none⟩ => appendB c.callee && (c.args.size == 2 && tmpAt c.args[0]? p && tmpAt c.args[1]? q) && c.argTypes == #[t, t]
  | _ => false
theorem tmpAt_spec {x : Option Operand} {p : Tmp} (h : tmpAt x p = true) : x = some (.tmp p) := by
  unfold tmpAt at h
  split at h
  · rw [beq_iff_eq] at h; rw [h]
  · cases h
theorem isAppend_spec {o : Option Oper} {t : TypeId} {p q : Tmp} (h : isAppend o t p q = true) : ∃ d ty pos aft, o = some ⟨d, .call { callee := .builtin .append, args := #[.tmp p, .tmp q], argTypes := #[t, t] }, ty, pos, aft, none⟩ := by
  unfold isAppend at h
  split at h
  · rename_i d c ty pos aft
    simp only [Bool.and_eq_true, beq_iff_eq] at h
    obtain ⟨⟨h1, ⟨h2, h3⟩, h4⟩, h5⟩ := h
    obtain ⟨ce, av, ts⟩ := c
    simp only at h1 h2 h3 h4 h5
    have e1 : ce = .builtin .append := by
      unfold appendB at h1
      split at h1
      · rfl
      · cases h1
    have e2 : av = #[.tmp p, .tmp q] := by
      have a0 := tmpAt_spec h3
      have a1 := tmpAt_spec h4
      obtain ⟨l⟩ := av
      match l, h2, a0, a1 with
      | [x, y], _, a0, a1 =>
        simp at a0 a1
        rw [a0, a1]
    exact ⟨d, ty, pos, aft, by rw [e1, e2, h5]⟩
  · cases h
/-- An append: the row lies in memory that this operation may turn, the source is read. -/
theorem obl_append (t : TypeId) (sp pp : Tmp) (ha : isAppend lops[s.i]? t sp pp = true)
    (base : Nat) (e : TypeId) (i0 : TypeInfo) (z : Value) (size bytes : Nat) (ht : P.underlying t = some (.slice e)) (hi : P.info? e = some i0) (hz : i0.zero = some z) (hsize : i0.size = size) (hby : i0.bytes = bytes) (hzs : z.cells.size = size) (hsz : 0 < size)
    (n m : Nat) (xs news : List Value) (hl : news.length = m * size) (h1 : ∀ u ∈ news, u.oneCell' = true) (h63 : n + m ≤ maxLen) (hbytes : (n + m) * bytes ≤ 140737488355328) (hbase : base ≤ w0.heap.size)
    (hv : ∀ (x : Nat → Par) (w : World) (F : Nat → Nat → Prop), Kept (fun k => k < w0.heap.size ∧ Eb an st wr s.i k) w0 w → (∀ j ∈ s.need, R j x (F j) w) →
      ∃ v ad c, (af x).tmps.getD sp undef = v ∧ w.ownsRow base e size v n xs ∧ (∀ g, v.ownBlock = some g → wr s.i g ∨ tgtF s F g) ∧ (af x).tmps.getD pp undef = .slice (some ad) m c ∧ (∀ j u, news[j]? = some u → w.cell? (ad.add j) = some u))
    (hsh : ∀ y, shape s.i y = .slice (y 0).1 (n + m) (y 0).2)
    (hR : ∀ (x : Nat → Par) (F : Nat → Prop) (w : World) (y : Par), OwnF w F base e size (.slice (y 0).1 (n + m) (y 0).2) (n + m) (xs ++ news) → R s.i (upd x s.i y) F w) : Obl P lops an st wr w0 af shape R s := by
  intro x w F hk hn
  cases ho' : lops[s.i]? with
  | none => rw [ho'] at ha; simp [isAppend] at ha
  | some o =>
    rw [ho'] at ha
    obtain ⟨d, ty, pos, aft, heq⟩ := isAppend_spec ha
    have e1 := Option.some.inj heq
    subst e1
    obtain ⟨v, ad, c, hs, hown, hgv, hx, hnews⟩ := hv x w F hk fun j hj => (hn j hj).2
    obtain ⟨v', w', hr, hown', hgrow, _, hat⟩ := run_append_own_at (P := P) w base t ty e i0 z size bytes ht hi hz hsize hby hzs hsz v n xs hown ad m c news hl hnews h1 h63 hbytes (Nat.le_trans hbase hk.size)
    obtain ⟨A, cc, rfl⟩ := own_shape2 hown'
    refine ⟨_, rfl, by simp [Region.wanted], hrun_value (v := .slice A (n + m) cc) (w' := w') ?_ ⟨fun _ => (A, cc), fun k => (Value.slice A (n + m) cc).ownBlock = some k, (hsh fun _ => (A, cc)).symm, ⟨hgrow.os, hgrow.tape, hgrow.output, hgrow.size, fun k hk => hgrow.block k hk.1 fun e2 => hk.2 ?_⟩, fun k hk => ⟨(hown'.lt k hk).2, ?_⟩, hR x _ _ _ ⟨hown', fun g hg => hg⟩⟩⟩
    · simp only [execOp, resolve, invoke, builtin, Sem.run_bind, Sem.run_pure, Result.andThen_ok, List.map_toArray, List.map_cons, List.map_nil, Act.eval, hs, hx, hr]
    · exact hgv k e2.symm
    · rcases hat with h | h
      · exact .inr (hgv k (h.symm.trans hk))
      · left
        rw [h] at hk
        exact Nat.le_of_eq (Option.some.inj hk)

theorem own_new {w0 w : World} {elem size n : Nat} {cells : Array Value} (hle : w0.heap.size ≤ w.heap.size) (hsz : cells.size = n * size) (hn : n ≤ maxLen) : OwnF (w.alloc (.cells cells elem)) (fun k => k = w.heap.size) w0.heap.size elem size (.slice (some ⟨w.heap.size, 0, none⟩) n n) n cells.toList :=
  ⟨⟨by simpa using hsz, .inr ⟨w.heap.size, n, cells, rfl, hle, heap_alloc_new w _, Nat.le_refl _, hn, hsz, List.take_of_length_le (by rw [Array.length_toList, hsz]; exact Nat.le_refl _)⟩⟩, fun g hg => (Option.some.inj hg).symm⟩
/-- What is appended was laid into a block of its own. -/
theorem news_own {w : World} {F : Nat → Prop} {base : Nat} {e : TypeId} {size n : Nat} {A : Option Addr} {c : Nat} {xs : List Value} (h : OwnF w F base e size (.slice A n c) n xs) (hA : 0 < n) : ∃ ad, A = some ad ∧ ∀ j u, xs[j]? = some u → w.cell? (ad.add j) = some u := by
  rcases h.1.2 with ⟨hv, _⟩ | ⟨g, cap, cur, hv, _⟩
  · injection hv with h1 h2 h3; omega
  · injection hv with h1 h2 h3
    subst h1
    exact ⟨_, rfl, h.1.cells rfl⟩

/-! ### One row that was there is appended to -/
def wrP (ki : Nat) (v : Value) (i k : Nat) : Prop := i = ki ∧ v.ownBlock = some k
theorem wp_region_P {id : Nat} {Q : Exit → Act → World → Prop} (ki : Nat) (v0 : Value) (an : List (List Nat)) (m1 : List Bool) (st : List St) (shape : Nat → Par → Value) (R : Nat → (Nat → Par) → (Nat → Prop) → World → Prop) (bf : Act → (Nat → Par) → Act)
    (hm : P.follows .mixedOrders = true) (hb : regB .any lops an m1 (List.replicate lops.length false) st = true) (hbf : ∀ x, putH shape x lops st a0 = bf a0 x) (ds : List Tmp) (hds : slotsB m1 (List.replicate lops.length false) lops ds = true) (hlt : ∀ g, v0.ownBlock = some g → g < w0.heap.size)
    (hq : ∀ (x : Nat → Par) (D : World → Prop), Good (fun k => k < w0.heap.size ∧ v0.ownBlock ≠ some k) w0 D → wpQuiet P lops.toArray (fun w' => ∃ y : Of D, w' = y.val) (fun a' => a' = af x) (takeOps m1 lops) (bf a0 x))
    (hcall : ∀ d ∈ ds, ∀ (x x' : Nat → Par), (af x).tmps.getD d undef = (af x').tmps.getD d undef)
    (hob : obls P lops an st (wrP ki v0) w0 af shape R st) (how : owes R st)
    (hfin : ∀ (x : Nat → Par) (w : World) (F : Nat → Nat → Prop), w0.grownBy w v0.ownBlock → lives st R x F w st → Q .normal (af x) w) : (Code.region id lops.toArray true).wp P Q a0 w0 := by
  refine wp_region_X (b := af) (af := af) an m1 (List.replicate lops.length false) st shape (wrP ki v0) R (fun k => k < w0.heap.size ∧ v0.ownBlock ≠ some k) (fun k => k < w0.heap.size ∧ v0.ownBlock ≠ some k) hm hb (fun k hk => ⟨hk.1, fun i _ s _ h => absurd h.2 hk.2⟩) (fun k hk => ⟨hk.1, fun i _ s _ h => absurd h.2 hk.2⟩)
    (fun s _ k h => hlt k h.2) (fun s _ s' _ hne k h h' => hne (h.1.trans h'.1.symm)) (fun x D hD => by rw [hbf]; exact hq x D hD) (fun x D hD => by rw [take_none]; exact wpQuiet_nil rfl) hds hcall hob how fun x w F hk hl => hfin x w F ⟨hk.os, hk.tape, hk.output, hk.size, fun k h hne => hk.block k ⟨h, fun _ _ h => hne h.2.symm⟩⟩ hl
theorem obl_callP {ki : Nat} {v0 : Value} (ho : lops[s.i]? = some o) (hw : ∀ x, Region.wanted o (yielded lops.toArray (af x).tmps) = true) (g : FuncId) (args : (Nat → Par) → Array Value) (hrun : ∀ (x : Nat → Par) (w : World), (execOp (af x).eval o).run P w = .ok (.enter g (args x)) w)
    (hc : ∀ (x : Nat → Par) (w : World) (F : Nat → Nat → Prop), w0.grownBy w v0.ownBlock → (∀ j ∈ s.need, R j x (F j) w) → Calls P g (args x) w fun e w' => ∃ y, e = .returned (shape s.i y) ∧ Below w.heap.size w w' ∧ R s.i (upd x s.i y) (fun k => w.heap.size ≤ k ∧ k < w'.heap.size) w') : Obl P lops an st (wrP ki v0) w0 af shape R s :=
  obl_call ho hw g args hrun fun x w F hk hn => hc x w F ⟨hk.os, hk.tape, hk.output, hk.size, fun k h hne => hk.block k ⟨h, fun _ _ h => absurd h.2.symm hne⟩⟩ hn
/-- The row that was there, when its append comes up. -/
theorem row_then {ki : Nat} {v0 : Value} {base : Nat} {e : TypeId} {size n : Nat} {xs : List Value} {w : World} (h : w0.ownsRow base e size v0 n xs) (hs : s.i = ki) (hk : Kept (fun k => k < w0.heap.size ∧ Eb an st (wrP ki v0) s.i k) w0 w) : w.ownsRow base e size v0 n xs := by
  refine ⟨h.1, ?_⟩
  rcases h.2 with h0 | ⟨g, cap, cur, hv, hb, hg, r⟩
  · exact .inl h0
  · refine .inr ⟨g, cap, cur, hv, hb, ?_, r⟩
    have hlt : g < w0.heap.size := (Array.getElem?_eq_some_iff.1 hg).1
    rw [hk.block g ⟨hlt, fun s' _ h' => .inl (h'.1.trans hs.symm)⟩]; exact hg
theorem own_low_ne {w : World} {base : Nat} {e : TypeId} {size n k : Nat} {v : Value} {xs : List Value} (h : w.ownsRow base e size v n xs) (hk : k < base) : v.ownBlock ≠ some k := fun e1 => by
  have := (h.lt k e1).1; omega
theorem liftP {D : World → Prop} {S : Nat → Prop} {w : World} (hD : Good S w D) {b o : Nat} {v : Value} (h : w.cell? ⟨b, o, none⟩ = some v) (hb : S b) (x : Of D) : x.val.cell? ⟨b, o, none⟩ = some v := lift hD h hb x
theorem owe_own (i : Nat) (base : Nat) (e : TypeId) (size n : Nat) (xs : List Value) (hs : s.i = i) (hR : ∀ (x : Nat → Par) (F : Nat → Prop) (w : World), R s.i x F w = OwnF w F base e size (.slice (x i 0).1 n (x i 0).2) n xs) : Owes R s :=
  ⟨fun x F w w' h _ hk => by rw [hR] at *; exact h.stab hk, fun x x' F w hx h => by
    rw [hR] at *
    subst hs
    rw [← hx s.i (.inl rfl)]; exact h⟩
end
end Go.Proofs.Ytllpffkifleigaa
end
section
namespace Go.Proofs.Ytllpffkifleigaa
open Go Go.RowKit

theorem exec_store_val {P : Program} {o : Oper} {t t' : TypeId} {p x : Operand} {g off : Nat} {old : Array Value} {v : Value} (h : o.op = .store t p x) {e : Operand → Value} {w : World} (hp : e p = .pointer (some ⟨g, off, none⟩)) (hx : e x = v) (h1 : v.oneCell' = true)
    (hg : Blk w g t' old) (hi : (P.info? t).map (·.size) = some 1) (ho : off < old.size) :
    (execOp e o).run P w = .ok .skip (w.setCell ⟨g, off, none⟩ v) := by
  have hc : w.cell? ⟨g, off, none⟩ = some (old[off]'ho) := by rw [hg.cell off]; simp [ho]
  have hf := hg.frozen off
  have hst : ∀ u : Value, u.oneCell' = true → (store ⟨g, off, none⟩ u .plain).run P w = .ok () (w.setCell ⟨g, off, none⟩ u) := fun u h => by rw [run_store P w _ u _ h]; simp [hc, hf]
  cases hq : P.info? t with
  | none => simp [hq] at hi
  | some i =>
    have hs : i.size = 1 := by simpa [hq] using hi
    cases v <;> first
      | (simp [Value.oneCell'] at h1; done)
      | (simp [execOp, h, hp, hx, go_sem, sizeOf, typeInfo, hq, hs, hc, hf]; done)
      | simp [execOp, h, hp, hx, go_sem, sizeOf, typeInfo, hq, hs, hc, hf, hst _ h1]

/-- The row's own block, if it has one, and the field's. -/
def ownFill (i : Nat) (v : Value) : List (Nat × Nat) := match v.ownBlock with | some g => [(i, g)] | none => []
theorem mem_ownFill {i : Nat} {v : Value} {p : Nat × Nat} : p ∈ ownFill i v ↔ p.1 = i ∧ v.ownBlock = some p.2 := by
  unfold ownFill
  cases v.ownBlock with
  | none => simp
  | some g =>
    simp only [List.mem_singleton, Option.some.injEq]
    exact ⟨fun h => by rw [h]; exact ⟨rfl, rfl⟩, fun h => Prod.ext h.1 h.2.symm⟩
def fillQ (i : Nat) (v : Value) (f T : Nat) : List (Nat × Nat) := ownFill i v ++ [(f, T)]
theorem mem_fillQ {i f T : Nat} {v : Value} {p : Nat × Nat} : p ∈ fillQ i v f T ↔ (p.1 = i ∧ v.ownBlock = some p.2) ∨ (p.1 = f ∧ p.2 = T) := by
  unfold fillQ
  rw [List.mem_append, mem_ownFill, List.mem_singleton]
  exact or_congr Iff.rfl ⟨fun h => by rw [h]; exact ⟨rfl, rfl⟩, fun h => Prod.ext h.1 h.2⟩
/-- An append leaves the row where it was, or lays it anew. -/
def FreshOr (B : Nat) (v v' : Value) : Prop := v'.ownBlock = v.ownBlock ∨ ∃ g, v'.ownBlock = some g ∧ B ≤ g

section
variable {P : Program} {lops : List Oper} {an : List (List Nat)} {m1 m2 : List Bool} {st : List St} {w0 : World} {a0 : Act} {af : (Nat → Par) → Act} {shape : Nat → Par → Value} {wr : Nat → Nat → Prop} {R : Nat → (Nat → Par) → (Nat → Prop) → World → Prop} {s : St} {o : Oper}
variable {i f T B k : Nat} {v : Value}

theorem fillQ_lt (h : ∀ g, v.ownBlock = some g → g < B) (hT : T < B) : ∀ p ∈ fillQ i v f T, p.2 < B := fun p hp => by
  rcases mem_fillQ.1 hp with ⟨_, h2⟩ | ⟨_, h2⟩
  · exact h _ h2
  · rw [h2]; exact hT
theorem fillQ_ne (hne : v.ownBlock ≠ some T) : ∀ p ∈ fillQ i v f T, ∀ q ∈ fillQ i v f T, p.1 ≠ q.1 → p.2 ≠ q.2 := fun p hp q hq h e => by
  rcases mem_fillQ.1 hp with ⟨h1, h2⟩ | ⟨h1, h2⟩ <;> rcases mem_fillQ.1 hq with ⟨h3, h4⟩ | ⟨h3, h4⟩
  · exact h (h1.trans h3.symm)
  · exact hne (by rw [h2, e, h4])
  · exact hne (by rw [h4, ← e, h2])
  · exact h (h1.trans h3.symm)
theorem ebQ_row {g : Nat} (hg : v.ownBlock = some g) (hne : v.ownBlock ≠ some T) : Eb an st (wrF (fillQ i v f T)) i g := fun s _ h => by
  rcases mem_fillQ.1 h with ⟨h1, _⟩ | ⟨_, h2⟩
  · exact .inl h1
  · exact absurd (by rw [hg]; exact congrArg some h2) hne
theorem ebQ_set (hne : v.ownBlock ≠ some T) : Eb an st (wrF (fillQ i v f T)) f T := fun s _ h => by
  rcases mem_fillQ.1 h with ⟨_, h2⟩ | ⟨h1, _⟩
  · exact absurd h2 hne
  · exact .inl h1
theorem earlyQ (h : k < B) (hne : v.ownBlock ≠ some k) : k < B ∧ ∀ p ∈ fillQ i v f T, p.2 = k → p.1 ∈ [f] :=
  ⟨h, fun p hp e => by
    rcases mem_fillQ.1 hp with ⟨_, h2⟩ | ⟨h1, _⟩
    · exact absurd (e ▸ h2) hne
    · rw [h1]; simp⟩
theorem freeQ (hne : v.ownBlock ≠ some k) (hT : T ≠ k) : free (fillQ i v f T) k := fun p hp e => by
  rcases mem_fillQ.1 hp with ⟨_, h2⟩ | ⟨_, h2⟩
  · exact hne (e ▸ h2)
  · exact hT (h2 ▸ e)
theorem wrQ_row : ∀ g, v.ownBlock = some g → wrF (fillQ i v f T) i g := fun g hg => by
  unfold wrF
  exact mem_fillQ.2 (.inl ⟨rfl, hg⟩)
theorem wrQ_set : wrF (fillQ i v f T) f T := by
  unfold wrF
  exact mem_fillQ.2 (.inr ⟨rfl, rfl⟩)
theorem kbS {D : World → Prop} {S : Nat → Prop} {w : World} (hD : Good S w D) (h : ∀ k, k < B → S k) (x : Of D) : Below B w x.val := by
  have h' := hD.low _ x.ok
  exact ⟨h'.os, h'.tape, h'.output, h'.size, fun k hk => h'.block k (h k hk)⟩
/-- The row that was there, when its append comes up. -/
theorem row_thenQ {base : Nat} {e : TypeId} {size n : Nat} {xs : List Value} {w : World} (h : w0.ownsRow base e size v n xs) (hne : v.ownBlock ≠ some T) (hk : Kept (fun k => k < w0.heap.size ∧ Eb an st (wrF (fillQ i v f T)) i k) w0 w) : w.ownsRow base e size v n xs := by
  refine ⟨h.1, ?_⟩
  rcases h.2 with h0 | ⟨g, cap, cur, hv, hb, hg, r⟩
  · exact .inl h0
  · refine .inr ⟨g, cap, cur, hv, hb, ?_, r⟩
    have hlt : g < w0.heap.size := (Array.getElem?_eq_some_iff.1 hg).1
    rw [hk.block g ⟨hlt, ebQ_row (by rw [hv]; rfl) hne⟩]; exact hg

/-- An append to a row that was there. -/
theorem obl_pushQ (t : TypeId) (sp pp : Tmp) (ha : isAppend lops[s.i]? t sp pp = true)
    (base : Nat) (e : TypeId) (i0 : TypeInfo) (z : Value) (size bytes : Nat) (ht : P.underlying t = some (.slice e)) (hi : P.info? e = some i0) (hz : i0.zero = some z) (hsize : i0.size = size) (hby : i0.bytes = bytes) (hzs : z.cells.size = size) (hsz : 0 < size)
    (v0 : Value) (n m : Nat) (xs news : List Value) (hl : news.length = m * size) (h1 : ∀ u ∈ news, u.oneCell' = true) (h63 : n + m ≤ maxLen) (hbytes : (n + m) * bytes ≤ 140737488355328) (hbase : base ≤ w0.heap.size)
    (hv : ∀ (x : Nat → Par) (w : World) (F : Nat → Nat → Prop), Kept (fun k => k < w0.heap.size ∧ Eb an st wr s.i k) w0 w → (∀ j ∈ s.need, R j x (F j) w) →
      ∃ ad c, (af x).tmps.getD sp undef = v0 ∧ w.ownsRow base e size v0 n xs ∧ (∀ g, v0.ownBlock = some g → wr s.i g) ∧ (af x).tmps.getD pp undef = .slice (some ad) m c ∧ (∀ j u, news[j]? = some u → w.cell? (ad.add j) = some u))
    (hsh : ∀ y, shape s.i y = .slice (y 0).1 (n + m) (y 0).2)
    (hR : ∀ (x : Nat → Par) (F : Nat → Prop) (w : World) (y : Par), OwnF w F base e size (.slice (y 0).1 (n + m) (y 0).2) (n + m) (xs ++ news) → FreshOr w0.heap.size v0 (.slice (y 0).1 (n + m) (y 0).2) → R s.i (upd x s.i y) F w) : Obl P lops an st wr w0 af shape R s := by
  intro x w F hk hn
  cases ho' : lops[s.i]? with
  | none => rw [ho'] at ha; simp [isAppend] at ha
  | some o =>
    rw [ho'] at ha
    obtain ⟨d, ty, pos, aft, heq⟩ := isAppend_spec ha
    have e1 := Option.some.inj heq
    subst e1
    obtain ⟨ad, c, hs, hown, hgv, hx, hnews⟩ := hv x w F hk fun j hj => (hn j hj).2
    obtain ⟨v', w', hr, hown', hgrow, _, hat⟩ := run_append_own_at (P := P) w base t ty e i0 z size bytes ht hi hz hsize hby hzs hsz v0 n xs hown ad m c news hl hnews h1 h63 hbytes (Nat.le_trans hbase hk.size)
    obtain ⟨A, cc, rfl⟩ := own_shape2 hown'
    refine ⟨_, rfl, by simp [Region.wanted], hrun_value (v := .slice A (n + m) cc) (w' := w') ?_ ⟨fun _ => (A, cc), fun k => (Value.slice A (n + m) cc).ownBlock = some k, (hsh fun _ => (A, cc)).symm, ⟨hgrow.os, hgrow.tape, hgrow.output, hgrow.size, fun k hk => hgrow.block k hk.1 fun e2 => hk.2 ?_⟩, fun k hk => ⟨(hown'.lt k hk).2, ?_⟩, hR x _ _ _ ⟨hown', fun g hg => hg⟩ ?_⟩⟩
    · simp only [execOp, resolve, invoke, builtin, Sem.run_bind, Sem.run_pure, Result.andThen_ok, List.map_toArray, List.map_cons, List.map_nil, Act.eval, hs, hx, hr]
    · exact .inl (hgv k e2.symm)
    · rcases hat with h | h
      · exact .inr (.inl (hgv k (h.symm.trans hk)))
      · left
        rw [h] at hk
        exact Nat.le_of_eq (Option.some.inj hk)
    · rcases hat with h | h
      · exact .inl h
      · exact .inr ⟨_, h, hk.size⟩

/-- One value is stored into a variable that was there. -/
theorem obl_setv (t t' : TypeId) (p q : Tmp) (b off : Nat) (old : Array Value) (val : (Nat → Par) → Value) (new : (Nat → Par) → Array Value) (hs : isStore lops[s.i]? t p q = true) (hp : ∀ (x : Nat → Par), (af x).tmps.getD p undef = .pointer (some ⟨b, off, none⟩)) (hq : ∀ (x : Nat → Par), (af x).tmps.getD q undef = val x)
    (h1 : ∀ x, (val x).oneCell' = true) (hb0 : Blk w0 b t' old) (hE : Eb an st wr s.i b) (hwr : wr s.i b) (hi : (P.info? t).map (·.size) = some 1) (hoff : off < old.size) (hnew : ∀ x, old.setIfInBounds off (val x) = new x) (hsh : ∀ y, shape s.i y = undef)
    (hR : ∀ (x : Nat → Par) (F : Nat → Prop) (w : World) (y : Par), F b → Blk w b t' (new x) → R s.i (upd x s.i y) F w) : Obl P lops an st wr w0 af shape R s := by
  intro x w F hk hn
  cases ho' : lops[s.i]? with
  | none => rw [ho'] at hs; simp [isStore] at hs
  | some o =>
    rw [ho'] at hs
    unfold isStore at hs
    split at hs
    · rename_i t1 p1 x1 ty pos aft heq
      simp only [Bool.and_eq_true, beq_iff_eq] at hs
      obtain ⟨⟨rfl, rfl⟩, rfl⟩ := hs
      have e := Option.some.inj heq
      subst e
      have hb : Blk w b t' old := (hk.block b ⟨hb0.lt, hE⟩).trans hb0
      refine ⟨_, rfl, by simp [Region.wanted], hrun_skip (exec_store_val (P := P) (o := ⟨none, .store t1 (.tmp p1) (.tmp x1), ty, pos, aft, none⟩) rfl (e := (af x).eval) (w := w) (hp x) (hq x) (h1 x) hb hi hoff) ?_⟩
      have g := grown_setCell w b off (val x)
      refine ⟨fun _ => (none, 0), fun k => k = b, (hsh _).symm, ⟨g.os, g.tape, g.output, g.size, fun k hk => g.block k hk.1 fun e => hk.2 (.inl (by have : k = b := Option.some.inj e; rw [this]; exact hwr))⟩, fun k hk => ?_, hR x _ _ _ rfl (by have := hb.set_ off (val x); rw [hnew x] at this; exact this)⟩
      subst hk
      exact ⟨Nat.lt_of_lt_of_le hb.lt g.size, .inr (.inl hwr)⟩
    · cases hs
theorem owe_pushQ (i : Nat) (B base : Nat) (v0 : Value) (e : TypeId) (size n : Nat) (xs : List Value) (hs : s.i = i) (hR : ∀ (x : Nat → Par) (F : Nat → Prop) (w : World), R s.i x F w = (OwnF w F base e size (.slice (x i 0).1 n (x i 0).2) n xs ∧ FreshOr B v0 (.slice (x i 0).1 n (x i 0).2))) : Owes R s :=
  ⟨fun x F w w' h _ hk => by rw [hR] at *; exact ⟨h.1.stab hk, h.2⟩, fun x x' F w hx h => by
    rw [hR] at *
    subst hs
    rw [← hx s.i (.inl rfl)]; exact h⟩
/-- A row that the region leaves alone. -/
theorem own_keptQ {S : Nat → Prop} {w w' : World} {base : Nat} {e : TypeId} {size n : Nat} {v : Value} {xs : List Value} (h : w.ownsRow base e size v n xs) (hk : Kept S w w') (hS : ∀ g, v.ownBlock = some g → S g) : w'.ownsRow base e size v n xs := by
  refine ⟨h.1, ?_⟩
  rcases h.2 with h0 | ⟨g, cap, cur, hv, hb, hg, r⟩
  · exact .inl h0
  · refine .inr ⟨g, cap, cur, hv, hb, ?_, r⟩
    rw [hk.block g (hS g (by rw [hv]; rfl))]; exact hg
theorem own_high_ne {w : World} {base : Nat} {e : TypeId} {size n k : Nat} {v : Value} {xs : List Value} (h : w.ownsRow base e size v n xs) (hk : w.heap.size ≤ k) : v.ownBlock ≠ some k := fun e1 => by
  have := (h.lt k e1).2; omega
theorem new_cellsQ (w : World) (t : TypeId) (l : List Value) (j : Nat) (u : Value) (h : l[j]? = some u) : (w.alloc (.cells ⟨l⟩ t)).cell? ((⟨w.heap.size, 0, none⟩ : Addr).add j) = some u := by
  rw [show (⟨w.heap.size, 0, none⟩ : Addr).add j = ⟨w.heap.size, j, none⟩ by unfold Addr.add; split <;> simp_all]
  rw [(Blk.new w t ⟨l⟩).cell j]; simpa using h
/-- Two rows of the call's own do not share a block. -/
def Apart (u v : Value) : Prop := u.ownBlock = none ∨ u.ownBlock ≠ v.ownBlock
theorem Apart.symm {u v : Value} (h : Apart u v) : Apart v u := by
  unfold Apart at *
  rcases h with h | h
  · rw [h]; cases hv : v.ownBlock <;> simp
  · exact .inr (Ne.symm h)
theorem apart_after {w : World} {u v v' : Value} {base k : Nat} {e : TypeId} {size n : Nat} {xs : List Value} (h : Apart u v) (hu : w.ownsRow base e size u n xs) (hk : w.heap.size ≤ k) (hat : v'.ownBlock = v.ownBlock ∨ v'.ownBlock = some k) : Apart u v' := by
  unfold Apart at *
  rcases hat with e1 | e1
  · rw [e1]; exact h
  · right
    intro e2
    have := (hu.lt k (e2.trans e1)).2
    omega
theorem apart_fresh {w : World} {u v v' : Value} {base B : Nat} {e : TypeId} {size n : Nat} {xs : List Value} (h : Apart u v) (hu : w.ownsRow base e size u n xs) (hk : w.heap.size ≤ B) (hat : FreshOr B v v') : Apart u v' := by
  rcases hat with e1 | ⟨k, e1, hk'⟩
  · exact apart_after h hu (Nat.le_refl _) (.inl e1)
  · exact apart_after h hu (Nat.le_trans hk hk') (.inr e1)
theorem apart_nil (v : Value) : Apart (.slice none 0 0) v := .inl rfl
theorem apart_ne {u v : Value} {g : Nat} (h : Apart u v) (hg : v.ownBlock = some g) : u.ownBlock ≠ some g := fun e => by
  rcases h with h | h
  · rw [h] at e; cases e
  · exact h (e.trans hg.symm)
/-- No memory that was there is turned; what the region has made lies apart. -/
theorem wp_region_LA {id : Nat} {Q : Exit → Act → World → Prop} (an : List (List Nat)) (m1 : List Bool) (st : List St) (shape : Nat → Par → Value) (R : Nat → (Nat → Par) → (Nat → Prop) → World → Prop) (bf : Act → (Nat → Par) → Act)
    (hm : P.follows .mixedOrders = true) (hb : regB .any lops an m1 (List.replicate lops.length false) st = true) (hbf : ∀ x, putH shape x lops st a0 = bf a0 x) (ds : List Tmp) (hds : slotsB m1 (List.replicate lops.length false) lops ds = true)
    (hq : ∀ (x : Nat → Par) (D : World → Prop), Good (fun k => k < w0.heap.size) w0 D → wpQuiet P lops.toArray (fun w' => ∃ y : Of D, w' = y.val) (fun a' => a' = af x) (takeOps m1 lops) (bf a0 x))
    (hcall : ∀ d ∈ ds, ∀ (x x' : Nat → Par), (af x).tmps.getD d undef = (af x').tmps.getD d undef)
    (hob : obls P lops an st (fun _ _ => False) w0 af shape R st) (how : owes R st)
    (hfin : ∀ (x : Nat → Par) (w : World) (F : Nat → Nat → Prop), Later w0 w → lives st R x F w st → Aparts st F → Q .normal (af x) w) : (Code.region id lops.toArray true).wp P Q a0 w0 := by
  refine wp_region_XA (b := af) (af := af) an m1 (List.replicate lops.length false) st shape (fun _ _ => False) R (fun k => k < w0.heap.size) (fun k => k < w0.heap.size) hm hb (fun k hk => ⟨hk, fun i _ s _ h => h.elim⟩) (fun k hk => ⟨hk, fun i _ s _ h => h.elim⟩)
    (fun s _ k h => h.elim) (fun s _ s' _ _ k h => h.elim) (fun x D hD => by rw [hbf]; exact hq x D hD) (fun x D hD => by rw [take_none]; exact wpQuiet_nil rfl) hds hcall hob how fun x w F hk hl ha => hfin x w F ⟨hk.os, hk.tape, hk.output, hk.size, fun k h => hk.block k ⟨h, fun _ _ h => h⟩⟩ hl ha
end
end Go.Proofs.Ytllpffkifleigaa
end
section
namespace Go.Proofs.Ytllpffkifleigaa
open Go.RowKit

theorem within_anyQ (n lo hi : Int) (w : World) :
    Calls Try.prog 80 #[.int .i64 n, .int .i64 lo, .int .i64 hi] w fun e w' => e = .returned (.bool (winBQ n lo hi)) ∧ w = w' := by
  by_cases h1 : lo ≤ n <;> by_cases h2 : n ≤ hi
  all_goals
    go_enter Try.func80, Try.ntmps80
    go_wp2
    go_ret
    exact ⟨by simp [winBQ, *], rfl⟩
theorem In_any (n lo hi : Int) (w : World) :
    Calls Try.prog 60 #[.int .i64 n, .int .i64 lo, .int .i64 hi] w fun e w' => e = .returned (.bool (winBQ n lo hi)) ∧ w = w' := by
  by_cases h1 : lo ≤ n <;> by_cases h2 : n ≤ hi
  all_goals
    go_enter Try.func60, Try.ntmps60
    go_wp2
    go_ret
    exact ⟨by simp [winBQ, *], rfl⟩
def vecV (v : Vec) : Value := .agg #[.int .i64 v.x, .int .i64 v.y, .int .i64 v.l]
def vecE (r : Vec × Int) : Value := .tuple #[.int .i64 r.1.x, .int .i64 r.1.y, .int .i64 r.1.l, .int .i64 r.2]

set_option maxHeartbeats 1000000 in
set_option maxRecDepth 100000 in
theorem direction_any (rose a : Int) (w : World) (h1 : 1 ≤ rose) (h2 : rose ≤ 180) (h3 : 0 ≤ a) (h4 : a ≤ 4 * rose - 1) :
    Calls Try.prog 81 #[.int .i64 rose, .int .i64 a] w fun e w' => e = .returned (vecV (dirV rose a)) ∧ Below w.heap.size w w' := by
  obtain ⟨hq, k1, k2, p1, p2, r1, r2, s1, s2⟩ := dir_bd h1 h2 h3 h4
  have hV : dirV rose a = quarter (a / rose) (2 * rose * (a % rose)) (rose * rose - a % rose * (a % rose)) (rose * rose + a % rose * (a % rose)) := rfl
  generalize dirV rose a = v at *
  rcases hq with hq | hq | hq | hq
  all_goals
    rw [hq] at hV
    have HV := hide hV
    clear hV
    go_enter Try.func81, Try.ntmps81
    go_wp2
    refine bodyPost_ret (v := vecV v) (by rw [HV.out]; simp [quarter, vecV, results, Try.results81, go_sem]) rfl ⟨rfl, ?_⟩
    repeat (first | exact Below.refl _ _ | (refine Below.setCell ?_ (by first | omega | (simp; done) | (simp; omega)) _) | (refine Below.alloc ?_ (by first | omega | (simp; done) | (simp; omega)) _) | (refine below_drewN ?_ _))

set_option maxHeartbeats 1000000 in
set_option maxRecDepth 100000 in
theorem slantOf_any (t : Int) (w : World) (h1 : -8 ≤ t) (h2 : t ≤ 264) :
    Calls Try.prog 93 #[.int .i64 t] w fun e w' => e = .returned (vecV (slantV t)) ∧ Below w.heap.size w w' := by
  obtain ⟨a1, a2⟩ := tilt_bd h1 h2
  go_enter Try.func93, Try.ntmps93
  go_wp2
  refine bodyPost_ret (v := vecV (slantV t)) (by simp [slantV, vecV, results, Try.results93, go_sem]) rfl ⟨rfl, ?_⟩
  repeat (first | exact Below.refl _ _ | (refine Below.setCell ?_ (by first | omega | (simp; done) | (simp; omega)) _) | (refine Below.alloc ?_ (by first | omega | (simp; done) | (simp; omega)) _) | (refine below_drewN ?_ _))

set_option maxHeartbeats 1000000 in
set_option maxRecDepth 100000 in
theorem Direction_any (rose a : Int) (w : World) :
    Calls Try.prog 31 #[.int .i64 rose, .int .i64 a] w fun e w' => e = .returned (vecE (dirR rose a)) ∧ Below w.heap.size w w' := by
  have hR : dirR rose a = if okD rose a = true then (dirV rose a, 0) else (⟨0, 0, 0⟩, 3) := rfl
  have hK : okD rose a = (winBQ rose 1 180 && winBQ a 0 (4 * rose - 1)) := rfl
  generalize dirR rose a = r at *
  by_cases g1 : winBQ rose 1 180 = true
  · obtain ⟨a1, a2⟩ := winB_iff.1 g1
    by_cases g2 : winBQ a 0 (4 * rose - 1) = true
    · obtain ⟨b1, b2⟩ := winB_iff.1 g2
      rw [if_pos (by rw [hK, g1, g2]; rfl)] at hR
      have hd := fun W => direction_any rose a W a1 a2 b1 b2
      generalize dirV rose a = v at *
      obtain ⟨x, y, l⟩ := v
      unfold vecV at hd
      simp only at hd
      have Hd := hide hd
      have HR := hide hR
      clear hR hK hd
      go_enter Try.func31, Try.ntmps31
      have HB := hide (Below.refl w.heap.size w)
      go_wp2_with fail
      refine (within_anyQ _ _ _ _).mono ?_
      rintro e w' ⟨rfl, rfl⟩
      rw [g1]
      go_wp2_with fail
      refine (within_anyQ _ _ _ _).mono ?_
      rintro e w' ⟨rfl, rfl⟩
      rw [g2]
      clear g1 g2
      go_wp2_with fail
      refine (Hd.out _).mono ?_
      rintro e w1 ⟨rfl, hb⟩
      replace HB := hide (onward HB.out hb)
      clear hb
      go_wp2_with fail
      refine code_world fun W hW => ?_
      have bq0 : Blk W w1.heap.size 148 #[.int .i64 x, .int .i64 y, .int .i64 l] := by rw [hW]; exact Blk.new _ _ _
      have LW : Later w1 W := by rw [hW]; exact ((Below.refl _ _).alloc (Nat.le_refl _) _)
      have szW : W.heap.size = w1.heap.size + 1 := by rw [hW]; simp
      clear hW
      replace HB := hide (onward HB.out LW)
      have Hv := hide bq0
      clear bq0 LW szW
      obtain ⟨z0, z1, z2⟩ := Hv.out.c3
      have ltz := Hv.out.lt
      apply wp_region_L (w0 := W) [[], [], [], [], [], [], [], [], [], []] [true, true, true, true, true, true, true, true, true, true] [] (fun ixq y => match ixq with  | _ => undef) (fun ixq x F wq => match ixq with  | _ => True) (fun a x => a) (by kernel_rfl) (by kernel_rfl) (fun _ => rfl) [] (by kernel_rfl)
      · intro x D hD
        have hne := hD.some
        have k0 := liftB hD z0 (by first | assumption | omega)
        have k1 := liftB hD z1 (by first | assumption | omega)
        have k2 := liftB hD z2 (by first | assumption | omega)
        simp only [takeOps, Act.put, List.setIfInBounds_toArray, List.set_cons_succ, List.set_cons_zero]
        repeat (go_big_quiet_step (fail))
        exact wpQuiet_nil rfl
      · exact fun _ h => absurd h (by simp)
      · exact trivial
      · exact trivial
      intro xx w3 F hL hlv1
      clear hlv1
      replace HB := hide (onward HB.out hL)
      replace Hv := hide (blk_later Hv.out hL)
      clear hL z0 z1 z2 ltz
      go_wp2
      refine bodyPost_ret (v := vecE r) (by rw [HR.out]; simp [vecE, results, Try.results31, go_sem]) rfl ⟨rfl, HB.out⟩
    · have g3 : winBQ a 0 (4 * rose - 1) = false := by simpa using g2
      rw [if_neg (by rw [hK, g3]; simp)] at hR
      have HR := hide hR
      clear hR hK g2
      go_enter Try.func31, Try.ntmps31
      go_wp2_with fail
      refine (within_anyQ _ _ _ _).mono ?_
      rintro e w' ⟨rfl, rfl⟩
      rw [g1]
      go_wp2_with fail
      refine (within_anyQ _ _ _ _).mono ?_
      rintro e w' ⟨rfl, rfl⟩
      rw [g3]
      go_wp2
      refine bodyPost_ret (v := vecE r) (by rw [HR.out]; simp [vecE, results, Try.results31, go_sem]) rfl ⟨rfl, Below.refl _ _⟩
  · have g3 : winBQ rose 1 180 = false := by simpa using g1
    rw [if_neg (by rw [hK, g3]; simp)] at hR
    have HR := hide hR
    clear hR hK g1
    go_enter Try.func31, Try.ntmps31
    go_wp2_with fail
    refine (within_anyQ _ _ _ _).mono ?_
    rintro e w' ⟨rfl, rfl⟩
    rw [g3]
    go_wp2
    refine bodyPost_ret (v := vecE r) (by rw [HR.out]; simp [vecE, results, Try.results31, go_sem]) rfl ⟨rfl, Below.refl _ _⟩

set_option maxHeartbeats 2000000 in
set_option maxRecDepth 100000 in
theorem RefDirection_any (rose a : Int) (w : World) :
    Calls Try.prog 88 #[.int .i64 rose, .int .i64 a] w fun e w' => e = .returned (vecE (dirR rose a)) ∧ w = w' := by
  have hR : dirR rose a = if okD rose a = true then (dirV rose a, 0) else (⟨0, 0, 0⟩, 3) := rfl
  have hK : okD rose a = (winBQ rose 1 180 && winBQ a 0 (4 * rose - 1)) := rfl
  generalize dirR rose a = r at *
  by_cases g1 : winBQ rose 1 180 = true
  · obtain ⟨a1, a2⟩ := winB_iff.1 g1
    by_cases g2 : winBQ a 0 (4 * rose - 1) = true
    · obtain ⟨b1, b2⟩ := winB_iff.1 g2
      rw [if_pos (by rw [hK, g1, g2]; rfl)] at hR
      obtain ⟨hq, k1, k2, p1, p2, r1, r2, s1, s2⟩ := dir_bd a1 a2 b1 b2
      have hV : dirV rose a = quarter (a / rose) (2 * rose * (a % rose)) (rose * rose - a % rose * (a % rose)) (rose * rose + a % rose * (a % rose)) := rfl
      rw [hV] at hR
      clear hV
      rcases hq with hq | hq | hq | hq
      all_goals
        rw [hq] at hR
        have HR := hide hR
        clear hR hK
        go_enter Try.func88, Try.ntmps88
        go_wp2_with fail
        refine (In_any _ _ _ _).mono ?_
        rintro e w' ⟨rfl, rfl⟩
        rw [g1]
        go_wp2_with fail
        refine (In_any _ _ _ _).mono ?_
        rintro e w' ⟨rfl, rfl⟩
        rw [g2]
        go_wp2
        refine bodyPost_ret (v := vecE r) (by rw [HR.out]; simp [quarter, vecE, results, Try.results88, go_sem]) rfl ⟨rfl, rfl⟩
    · have g3 : winBQ a 0 (4 * rose - 1) = false := by simpa using g2
      rw [if_neg (by rw [hK, g3]; simp)] at hR
      have HR := hide hR
      clear hR hK g2
      go_enter Try.func88, Try.ntmps88
      go_wp2_with fail
      refine (In_any _ _ _ _).mono ?_
      rintro e w' ⟨rfl, rfl⟩
      rw [g1]
      go_wp2_with fail
      refine (In_any _ _ _ _).mono ?_
      rintro e w' ⟨rfl, rfl⟩
      rw [g3]
      go_wp2
      refine bodyPost_ret (v := vecE r) (by rw [HR.out]; simp [vecE, results, Try.results88, go_sem]) rfl ⟨rfl, rfl⟩
  · have g3 : winBQ rose 1 180 = false := by simpa using g1
    rw [if_neg (by rw [hK, g3]; simp)] at hR
    have HR := hide hR
    clear hR hK g1
    go_enter Try.func88, Try.ntmps88
    go_wp2_with fail
    refine (In_any _ _ _ _).mono ?_
    rintro e w' ⟨rfl, rfl⟩
    rw [g3]
    go_wp2
    refine bodyPost_ret (v := vecE r) (by rw [HR.out]; simp [vecE, results, Try.results88, go_sem]) rfl ⟨rfl, rfl⟩

set_option maxHeartbeats 1000000 in
set_option maxRecDepth 100000 in
theorem Slant_any (t : Int) (w : World) :
    Calls Try.prog 51 #[.int .i64 t] w fun e w' => e = .returned (vecE (slantR t)) ∧ Below w.heap.size w w' := by
  have hR : slantR t = if winBQ t (-8) 264 = true then (slantV t, 0) else (⟨0, 0, 0⟩, 3) := rfl
  generalize slantR t = r at *
  by_cases g1 : winBQ t (-8) 264 = true
  · obtain ⟨a1, a2⟩ := winB_iff.1 g1
    rw [if_pos g1] at hR
    have hd := fun W => slantOf_any t W a1 a2
    generalize slantV t = v at *
    obtain ⟨x, y, l⟩ := v
    unfold vecV at hd
    simp only at hd
    have Hd := hide hd
    have HR := hide hR
    clear hR hd
    go_enter Try.func51, Try.ntmps51
    have HB := hide (Below.refl w.heap.size w)
    go_wp2_with fail
    refine (within_anyQ _ _ _ _).mono ?_
    rintro e w' ⟨rfl, rfl⟩
    rw [g1]
    clear g1
    go_wp2_with fail
    refine (Hd.out _).mono ?_
    rintro e w1 ⟨rfl, hb⟩
    replace HB := hide (onward HB.out hb)
    clear hb
    go_wp2_with fail
    refine code_world fun W hW => ?_
    have bq0 : Blk W w1.heap.size 156 #[.int .i64 x, .int .i64 y, .int .i64 l] := by rw [hW]; exact Blk.new _ _ _
    have LW : Later w1 W := by rw [hW]; exact ((Below.refl _ _).alloc (Nat.le_refl _) _)
    have szW : W.heap.size = w1.heap.size + 1 := by rw [hW]; simp
    clear hW
    replace HB := hide (onward HB.out LW)
    have Hv := hide bq0
    clear bq0 LW szW
    obtain ⟨z0, z1, z2⟩ := Hv.out.c3
    have ltz := Hv.out.lt
    apply wp_region_L (w0 := W) [[], [], [], [], [], [], [], [], [], []] [true, true, true, true, true, true, true, true, true, true] [] (fun ixq y => match ixq with  | _ => undef) (fun ixq x F wq => match ixq with  | _ => True) (fun a x => a) (by kernel_rfl) (by kernel_rfl) (fun _ => rfl) [] (by kernel_rfl)
    · intro x D hD
      have hne := hD.some
      have k0 := liftB hD z0 (by first | assumption | omega)
      have k1 := liftB hD z1 (by first | assumption | omega)
      have k2 := liftB hD z2 (by first | assumption | omega)
      simp only [takeOps, Act.put, List.setIfInBounds_toArray, List.set_cons_succ, List.set_cons_zero]
      repeat (go_big_quiet_step (fail))
      exact wpQuiet_nil rfl
    · exact fun _ h => absurd h (by simp)
    · exact trivial
    · exact trivial
    intro xx w3 F hL hlv2
    clear hlv2
    replace HB := hide (onward HB.out hL)
    replace Hv := hide (blk_later Hv.out hL)
    clear hL z0 z1 z2 ltz
    go_wp2
    refine bodyPost_ret (v := vecE r) (by rw [HR.out]; simp [vecE, results, Try.results51, go_sem]) rfl ⟨rfl, HB.out⟩
  · have g3 : winBQ t (-8) 264 = false := by simpa using g1
    rw [if_neg g1] at hR
    have HR := hide hR
    clear hR g1
    go_enter Try.func51, Try.ntmps51
    go_wp2_with fail
    refine (within_anyQ _ _ _ _).mono ?_
    rintro e w' ⟨rfl, rfl⟩
    rw [g3]
    go_wp2
    refine bodyPost_ret (v := vecE r) (by rw [HR.out]; simp [vecE, results, Try.results51, go_sem]) rfl ⟨rfl, Below.refl _ _⟩
set_option maxRecDepth 100000 in
theorem RefSlant_any (t : Int) (w : World) :
    Calls Try.prog 89 #[.int .i64 t] w fun e w' => e = .returned (vecE (slantR t)) ∧ w = w' := by
  have hR : slantR t = if winBQ t (-8) 264 = true then (slantV t, 0) else (⟨0, 0, 0⟩, 3) := rfl
  generalize slantR t = r at *
  by_cases g1 : winBQ t (-8) 264 = true
  · obtain ⟨a1, a2⟩ := winB_iff.1 g1
    obtain ⟨t1, t2⟩ := tilt_bd a1 a2
    rw [if_pos g1] at hR
    have HR := hide hR
    clear hR
    go_enter Try.func89, Try.ntmps89
    go_wp2_with fail
    refine (In_any _ _ _ _).mono ?_
    rintro e w' ⟨rfl, rfl⟩
    rw [g1]
    go_wp2
    refine bodyPost_ret (v := vecE r) (by rw [HR.out]; simp [slantV, vecE, results, Try.results89, go_sem]) rfl ⟨rfl, rfl⟩
  · have g3 : winBQ t (-8) 264 = false := by simpa using g1
    rw [if_neg g1] at hR
    have HR := hide hR
    clear hR g1
    go_enter Try.func89, Try.ntmps89
    go_wp2_with fail
    refine (In_any _ _ _ _).mono ?_
    rintro e w' ⟨rfl, rfl⟩
    rw [g3]
    go_wp2
    refine bodyPost_ret (v := vecE r) (by rw [HR.out]; simp [vecE, results, Try.results89, go_sem]) rfl ⟨rfl, rfl⟩
end Go.Proofs.Ytllpffkifleigaa
end
section
namespace Go.Proofs.Ytllpffkifleigaa
open Go.RowKit

theorem Blk.site8 {w : World} {g : Nat} {t : TypeId} {a0 a1 a2 a3 a4 a5 a6 a7 : Value} (h : Blk w g t #[a0, a1, a2, a3, a4, a5, a6, a7]) : w.cell? ⟨g, 0, none⟩ = some a0 ∧ w.cell? ⟨g, 1, none⟩ = some a1 ∧ w.cell? ⟨g, 2, none⟩ = some a2 ∧ w.cell? ⟨g, 3, none⟩ = some a3 ∧ w.cell? ⟨g, 4, none⟩ = some a4 ∧ w.cell? ⟨g, 5, none⟩ = some a5 ∧ w.cell? ⟨g, 6, none⟩ = some a6 ∧ w.cell? ⟨g, 7, none⟩ = some a7 :=
  ⟨h.c 0 rfl, h.c 1 rfl, h.c 2 rfl, h.c 3 rfl, h.c 4 rfl, h.c 5 rfl, h.c 6 rfl, h.c 7 rfl⟩
set_option maxHeartbeats 2000000 in
set_option maxRecDepth 100000 in
theorem CheckSite_any (s : ByteArray) (nb : Bool) (x y z r g st wd : Int) (w : World) (hnm : ∀ W, Calls Try.prog 106 #[.string s] W fun e w' => e = .returned (.bool nb) ∧ Below W.heap.size W w') :
    Calls Try.prog 90 #[.agg #[.string s, .int .i64 x, .int .i64 y, .int .i64 z, .int .i64 r, .int .i64 g, .int .i64 st, .int .i64 wd]] w fun e w' => e = .returned (.int .i64 (siteE nb x y z r g st wd)) ∧ Below w.heap.size w w' := by
  have Hnm := hide hnm
  clear hnm
  cases nb with
  | true =>
    go_enter Try.func90, Try.ntmps90
    have HB := hide (Below.refl w.heap.size w)
    go_wp2_with fail
    refine at_world fun W hW => ?_
    have bq0 : Blk W w.heap.size 83 #[.string s, .int .i64 x, .int .i64 y, .int .i64 z, .int .i64 r, .int .i64 g, .int .i64 st, .int .i64 wd] := by rw [hW]; exact Blk.new _ _ _
    have LW : Later w W := by rw [hW]; exact ((Below.refl _ _).alloc (Nat.le_refl _) _)
    have szW : W.heap.size = w.heap.size + 1 := by rw [hW]; simp
    clear hW
    replace HB := hide (onward HB.out LW)
    have Hs := hide bq0
    clear bq0 LW szW
    refine (Hnm.out _).mono ?_
    rintro e w1 ⟨rfl, hb⟩
    replace HB := hide (onward HB.out hb)
    replace Hs := hide (blk_later Hs.out hb)
    clear hb
    obtain ⟨q0, q1, q2, q3, q4, q5, q6, q7⟩ := Hs.out.site8
    have lts := Hs.out.lt
    go_wp2_with (go_at_call 80; refine (within_anyQ _ _ _ _).mono ?_; rintro e w' ⟨rfl, rfl⟩)
    all_goals
      go_ret
      simp only [Bool.not_eq_true', Bool.not_eq_false'] at *
      refine ⟨ret_int ?_, HB.out⟩
      first | (simp [siteE, *]; done) | (exfalso; clear Hnm HB Hs q0 q1 q2 q3 q4 q5 q6 q7; simp_all; done)
  | false =>
    go_enter Try.func90, Try.ntmps90
    have HB := hide (Below.refl w.heap.size w)
    go_wp2_with fail
    refine at_world fun W hW => ?_
    have bq0 : Blk W w.heap.size 83 #[.string s, .int .i64 x, .int .i64 y, .int .i64 z, .int .i64 r, .int .i64 g, .int .i64 st, .int .i64 wd] := by rw [hW]; exact Blk.new _ _ _
    have LW : Later w W := by rw [hW]; exact ((Below.refl _ _).alloc (Nat.le_refl _) _)
    have szW : W.heap.size = w.heap.size + 1 := by rw [hW]; simp
    clear hW
    replace HB := hide (onward HB.out LW)
    have Hs := hide bq0
    clear bq0 LW szW
    refine (Hnm.out _).mono ?_
    rintro e w1 ⟨rfl, hb⟩
    replace HB := hide (onward HB.out hb)
    replace Hs := hide (blk_later Hs.out hb)
    clear hb
    go_wp2
    go_ret
    exact ⟨ret_int (by simp [siteE]), HB.out⟩
end Go.Proofs.Ytllpffkifleigaa
end
section
namespace Go.Proofs.Ytllpffkifleigaa
open Go Go.RowKit

/-- What is appended: nothing, or cells that lie somewhere. -/
def Src (w : World) (A : Option Addr) (m c : Nat) (news : List Value) : Prop := (A = none ∧ m = 0 ∧ c = 0 ∧ news = []) ∨ ∃ ad, A = some ad ∧ ∀ (j : Nat) (u : Value), news[j]? = some u → w.cell? (ad.add j) = some u
section
variable {P : Program} {lops : List Oper} {an : List (List Nat)} {st : List St} {wr : Nat → Nat → Prop} {w0 : World} {af : (Nat → Par) → Act} {shape : Nat → Par → Value} {R : Nat → (Nat → Par) → (Nat → Prop) → World → Prop} {s : St}
theorem obl_appendS (t : TypeId) (sp pp : Tmp) (ha : isAppend lops[s.i]? t sp pp = true)
    (base : Nat) (e : TypeId) (i0 : TypeInfo) (z : Value) (size bytes : Nat) (ht : P.underlying t = some (.slice e)) (hi : P.info? e = some i0) (hz : i0.zero = some z) (hsize : i0.size = size) (hby : i0.bytes = bytes) (hzs : z.cells.size = size) (hsz : 0 < size)
    (n m : Nat) (xs news : List Value) (hl : news.length = m * size) (h1 : ∀ u ∈ news, u.oneCell' = true) (h63 : n + m ≤ maxLen) (hbytes : (n + m) * bytes ≤ 140737488355328) (hbase : base ≤ w0.heap.size)
    (hv : ∀ (x : Nat → Par) (w : World) (F : Nat → Nat → Prop), Kept (fun k => k < w0.heap.size ∧ Eb an st wr s.i k) w0 w → (∀ j ∈ s.need, R j x (F j) w) →
      ∃ v A c, (af x).tmps.getD sp undef = v ∧ w.ownsRow base e size v n xs ∧ (∀ g, v.ownBlock = some g → wr s.i g ∨ tgtF s F g) ∧ (af x).tmps.getD pp undef = .slice A m c ∧ Src w A m c news)
    (hsh : ∀ y, shape s.i y = .slice (y 0).1 (n + m) (y 0).2)
    (hR : ∀ (x : Nat → Par) (F : Nat → Prop) (w : World) (y : Par), OwnF w F base e size (.slice (y 0).1 (n + m) (y 0).2) (n + m) (xs ++ news) → R s.i (upd x s.i y) F w) : Obl P lops an st wr w0 af shape R s := by
  intro x w F hk hn
  cases ho' : lops[s.i]? with
  | none => rw [ho'] at ha; simp [isAppend] at ha
  | some o =>
    rw [ho'] at ha
    obtain ⟨d, ty, pos, aft, heq⟩ := isAppend_spec ha
    have e1 := Option.some.inj heq
    subst e1
    obtain ⟨v, A, c, hs, hown, hgv, hx, hsrc⟩ := hv x w F hk fun j hj => (hn j hj).2
    rcases hsrc with ⟨rfl, rfl, rfl, rfl⟩ | ⟨ad, rfl, hnews⟩
    · have hr := run_append_owned_none (P := P) (w := w) base t ty e i0 size ht hi v n xs hown
      obtain ⟨A, cc, rfl⟩ := own_shape2 hown
      refine ⟨_, rfl, by simp [Region.wanted], hrun_value (v := .slice A (n + 0) cc) (w' := w) ?_ ⟨fun _ => (A, cc), fun k => (Value.slice A (n + 0) cc).ownBlock = some k, (hsh fun _ => (A, cc)).symm, ⟨rfl, rfl, rfl, Nat.le_refl _, fun k hk => rfl⟩, fun k hk => ⟨(hown.lt k hk).2, .inr (hgv k hk)⟩, hR x _ _ _ ⟨by rw [List.append_nil]; exact hown, fun g hg => hg⟩⟩⟩
      simp only [execOp, resolve, invoke, builtin, Sem.run_bind, Sem.run_pure, Result.andThen_ok, List.map_toArray, List.map_cons, List.map_nil, Act.eval, hs, hx, hr, Nat.add_zero]
    · obtain ⟨v', w', hr, hown', hgrow, _, hat⟩ := run_append_own_at (P := P) w base t ty e i0 z size bytes ht hi hz hsize hby hzs hsz v n xs hown ad m c news hl hnews h1 h63 hbytes (Nat.le_trans hbase hk.size)
      obtain ⟨A, cc, rfl⟩ := own_shape2 hown'
      refine ⟨_, rfl, by simp [Region.wanted], hrun_value (v := .slice A (n + m) cc) (w' := w') ?_ ⟨fun _ => (A, cc), fun k => (Value.slice A (n + m) cc).ownBlock = some k, (hsh fun _ => (A, cc)).symm, ⟨hgrow.os, hgrow.tape, hgrow.output, hgrow.size, fun k hk => hgrow.block k hk.1 fun e2 => hk.2 ?_⟩, fun k hk => ⟨(hown'.lt k hk).2, ?_⟩, hR x _ _ _ ⟨hown', fun g hg => hg⟩⟩⟩
      · simp only [execOp, resolve, invoke, builtin, Sem.run_bind, Sem.run_pure, Result.andThen_ok, List.map_toArray, List.map_cons, List.map_nil, Act.eval, hs, hx, hr]
      · exact hgv k e2.symm
      · rcases hat with h | h
        · exact .inr (hgv k (h.symm.trans hk))
        · left
          rw [h] at hk
          exact Nat.le_of_eq (Option.some.inj hk)
end
end Go.Proofs.Ytllpffkifleigaa
end
section
namespace Go.Proofs.Ytllpffkifleigaa
open Go.RowKit

theorem Down_any (a b : Int) (w : World) (ha1 : -4611686018427387903 ≤ a) (hb : 1 ≤ b) (ha2 : a ≤ 4611686018427387903) (_hb2 : b ≤ 4611686018427387903) :
    Calls Try.prog 67 #[.int .i64 a, .int .i64 b] w fun e w' => e = .returned (.int .i64 (a / b)) ∧ w = w' := by
  have hq := tdiv_floor (a := a) (b := b) (by omega)
  by_cases ha : 0 ≤ a
  · have h1 : 0 ≤ a / b := Int.ediv_nonneg ha (by omega)
    have h2 : a / b ≤ a := Int.ediv_le_self b ha
    have h3 : 0 ≤ a % b := Int.emod_nonneg _ (by omega)
    clear hq
    go_enter Try.func67, Try.ntmps67
    go_wp2
    go_ret
    exact ⟨rfl, rfl⟩
  · have h2 : -a / b ≤ -a := Int.ediv_le_self b (by omega)
    have h3 : 0 ≤ -a / b := Int.ediv_nonneg (by omega) (by omega)
    have e1 : a.tdiv b = -(-a / b) := by rw [← Int.neg_neg a, Int.neg_tdiv, Int.neg_neg, Int.tdiv_eq_ediv_of_nonneg (by omega)]
    have h4 : -4611686018427387903 ≤ a.tdiv b := by omega
    have h5 : a.tdiv b ≤ 0 := by omega
    clear e1 h2 h3
    have Hq := hide hq
    clear hq
    go_enter Try.func67, Try.ntmps67
    go_wp2
    all_goals
      go_ret
      exact ⟨ret_int (by rw [Hq.out]; first | rw [if_pos (by assumption)] | rw [if_neg (by omega)]), rfl⟩

theorem Up_any (a b : Int) (w : World) (ha1 : -4611686018427387903 ≤ a) (hb : 1 ≤ b) (ha2 : a ≤ 4611686018427387903) (hb2 : b ≤ 4611686018427387903) :
    Calls Try.prog 68 #[.int .i64 a, .int .i64 b] w fun e w' => e = .returned (.int .i64 (cdiv a b)) ∧ w = w' := by
  have h1 : -4611686018427387903 ≤ -a / b ∧ -a / b ≤ 4611686018427387903 := by
    constructor
    · have := (Int.le_ediv_iff_mul_le (a := -4611686018427387903) (b := -a) (c := b) (by omega)).2 (by omega)
      exact this
    · by_cases h : 0 ≤ -a
      · have := Int.ediv_le_self b h; omega
      · have : -a / b ≤ 0 := by
          have := Int.ediv_lt_of_lt_mul (a := -a) (b := 1) (c := b) (by omega) (by omega)
          omega
        omega
  obtain ⟨h2, h3⟩ := h1
  go_enter Try.func68, Try.ntmps68
  go_wp2_with (go_at_call 67; refine (Down_any _ _ _ (by omega) hb (by omega) hb2).mono ?_; rintro e w' ⟨rfl, rfl⟩)
  go_ret
  exact ⟨rfl, rfl⟩
end Go.Proofs.Ytllpffkifleigaa
end
