/-
  Regions that draw their order: appends. To a row that the region itself has made; to a row that was there.
-/
import Derived.Test.YtiggefmckomilaaRegH
import Derived.Maps.AppendAt
namespace Go.Proofs.Ytiggefmckomilaa
open Go Go.RowKit

section
variable {P : Program} {lops : List Oper} {an : List (List Nat)} {m1 m2 : List Bool} {st : List St} {w0 : World} {a0 : Act} {af : (Nat → Par) → Act} {shape : Nat → Par → Value} {wr : Nat → Nat → Prop} {R : Nat → (Nat → Par) → (Nat → Prop) → World → Prop} {s : St} {o : Oper}

theorem own_shape2 {w : World} {base : Nat} {e : TypeId} {size n : Nat} {v : Value} {xs : List Value} (h : w.ownsRow base e size v n xs) : ∃ A c, v = .slice A n c := by
  rcases h.2 with ⟨hv, h0⟩ | ⟨g, cap, _, hv, _⟩
  · exact ⟨none, 0, by rw [hv, h0]⟩
  · exact ⟨_, _, hv⟩
/-- The slots that the hard operations leave, one by one. -/
theorem putH_step {x : Nat → Par} {s : St} {l : List St} {a b : Act} (d : Option Tmp) (v : Value) (hd : (lops[s.i]?).bind (·.dst) = d) (hv : shape s.i (x s.i) = v) (h : putH shape x lops l (a.put d v) = b) : putH shape x lops (s :: l) a = b := by
  rw [putH, hd, hv]; exact h
theorem putH_end {x : Nat → Par} {a : Act} : putH shape x lops [] a = a := rfl
def tmpAt (x : Option Operand) (p : Tmp) : Bool := match x with | some (.tmp q) => q == p | _ => false
def appendB (c : Callee) : Bool := match c with | .builtin .append => true | _ => false
def isAppend (o : Option Oper) (t : TypeId) (p q : Tmp) : Bool := match o with
  | some ⟨_, .call c, _, _, _, none⟩ => appendB c.callee && (c.args.size == 2 && tmpAt c.args[0]? p && tmpAt c.args[1]? q) && c.argTypes == #[t, t]
  | _ => false
theorem tmpAt_spec {x : Option Operand} {p : Tmp} (h : tmpAt x p = true) : x = some (.tmp p) := by
  unfold tmpAt at h
  split at h
  · rw [beq_iff_eq] at h; rw [h]
  · cases h
theorem isAppend_spec {o : Option Oper} {t : TypeId} {p q : Tmp} (h : isAppend o t p q = true) : ∃ d ty pos aft, o = some ⟨d, .call { callee := .builtin .append, args := #[.tmp p, .tmp q], argTypes := #[t, t] }, ty, pos, aft, none⟩ := by
  unfold isAppend at h
  split at h
  · rename_i d c ty pos aft
    simp only [Bool.and_eq_true, beq_iff_eq] at h
    obtain ⟨⟨h1, ⟨h2, h3⟩, h4⟩, h5⟩ := h
    obtain ⟨ce, av, ts⟩ := c
    simp only at h1 h2 h3 h4 h5
    have e1 : ce = .builtin .append := by
      unfold appendB at h1
      split at h1
      · rfl
      · cases h1
    have e2 : av = #[.tmp p, .tmp q] := by
      have a0 := tmpAt_spec h3
      have a1 := tmpAt_spec h4
      obtain ⟨l⟩ := av
      match l, h2, a0, a1 with
      | [x, y], _, a0, a1 =>
        simp at a0 a1
        rw [a0, a1]
    exact ⟨d, ty, pos, aft, by rw [e1, e2, h5]⟩
  · cases h
/-- An append: the row lies in memory that this operation may turn, the source is read. -/
theorem obl_append (t : TypeId) (sp pp : Tmp) (ha : isAppend lops[s.i]? t sp pp = true)
    (base : Nat) (e : TypeId) (i0 : TypeInfo) (z : Value) (size bytes : Nat) (ht : P.underlying t = some (.slice e)) (hi : P.info? e = some i0) (hz : i0.zero = some z) (hsize : i0.size = size) (hby : i0.bytes = bytes) (hzs : z.cells.size = size) (hsz : 0 < size)
    (n m : Nat) (xs news : List Value) (hl : news.length = m * size) (h1 : ∀ u ∈ news, u.oneCell' = true) (h63 : n + m ≤ maxLen) (hbytes : (n + m) * bytes ≤ 140737488355328) (hbase : base ≤ w0.heap.size)
    (hv : ∀ (x : Nat → Par) (w : World) (F : Nat → Nat → Prop), Kept (fun k => k < w0.heap.size ∧ Eb an st wr s.i k) w0 w → (∀ j ∈ s.need, R j x (F j) w) →
      ∃ v ad c, (af x).tmps.getD sp undef = v ∧ w.ownsRow base e size v n xs ∧ (∀ g, v.ownBlock = some g → wr s.i g ∨ tgtF s F g) ∧ (af x).tmps.getD pp undef = .slice (some ad) m c ∧ (∀ j u, news[j]? = some u → w.cell? (ad.add j) = some u))
    (hsh : ∀ y, shape s.i y = .slice (y 0).1 (n + m) (y 0).2)
    (hR : ∀ (x : Nat → Par) (F : Nat → Prop) (w : World) (y : Par), OwnF w F base e size (.slice (y 0).1 (n + m) (y 0).2) (n + m) (xs ++ news) → R s.i (upd x s.i y) F w) : Obl P lops an st wr w0 af shape R s := by
  intro x w F hk hn
  cases ho' : lops[s.i]? with
  | none => rw [ho'] at ha; simp [isAppend] at ha
  | some o =>
    rw [ho'] at ha
    obtain ⟨d, ty, pos, aft, heq⟩ := isAppend_spec ha
    have e1 := Option.some.inj heq
    subst e1
    obtain ⟨v, ad, c, hs, hown, hgv, hx, hnews⟩ := hv x w F hk fun j hj => (hn j hj).2
    obtain ⟨v', w', hr, hown', hgrow, _, hat⟩ := run_append_own_at (P := P) w base t ty e i0 z size bytes ht hi hz hsize hby hzs hsz v n xs hown ad m c news hl hnews h1 h63 hbytes (Nat.le_trans hbase hk.size)
    obtain ⟨A, cc, rfl⟩ := own_shape2 hown'
    refine ⟨_, rfl, by simp [Region.wanted], hrun_value (v := .slice A (n + m) cc) (w' := w') ?_ ⟨fun _ => (A, cc), fun k => (Value.slice A (n + m) cc).ownBlock = some k, (hsh fun _ => (A, cc)).symm, ⟨hgrow.os, hgrow.tape, hgrow.output, hgrow.size, fun k hk => hgrow.block k hk.1 fun e2 => hk.2 ?_⟩, fun k hk => ⟨(hown'.lt k hk).2, ?_⟩, hR x _ _ _ ⟨hown', fun g hg => hg⟩⟩⟩
    · simp only [execOp, resolve, invoke, builtin, Sem.run_bind, Sem.run_pure, Result.andThen_ok, List.map_toArray, List.map_cons, List.map_nil, Act.eval, hs, hx, hr]
    · exact hgv k e2.symm
    · rcases hat with h | h
      · exact .inr (hgv k (h.symm.trans hk))
      · left
        rw [h] at hk
        exact Nat.le_of_eq (Option.some.inj hk)

theorem own_new {w0 w : World} {elem size n : Nat} {cells : Array Value} (hle : w0.heap.size ≤ w.heap.size) (hsz : cells.size = n * size) (hn : n ≤ maxLen) : OwnF (w.alloc (.cells cells elem)) (fun k => k = w.heap.size) w0.heap.size elem size (.slice (some ⟨w.heap.size, 0, none⟩) n n) n cells.toList :=
  ⟨⟨by simpa using hsz, .inr ⟨w.heap.size, n, cells, rfl, hle, heap_alloc_new w _, Nat.le_refl _, hn, hsz, List.take_of_length_le (by rw [Array.length_toList, hsz]; exact Nat.le_refl _)⟩⟩, fun g hg => (Option.some.inj hg).symm⟩
/-- What is appended was laid into a block of its own. -/
theorem news_own {w : World} {F : Nat → Prop} {base : Nat} {e : TypeId} {size n : Nat} {A : Option Addr} {c : Nat} {xs : List Value} (h : OwnF w F base e size (.slice A n c) n xs) (hA : 0 < n) : ∃ ad, A = some ad ∧ ∀ j u, xs[j]? = some u → w.cell? (ad.add j) = some u := by
  rcases h.1.2 with ⟨hv, _⟩ | ⟨g, cap, cur, hv, _⟩
  · injection hv with h1 h2 h3; omega
  · injection hv with h1 h2 h3
    subst h1
    exact ⟨_, rfl, h.1.cells rfl⟩

/-! ### One row that was there is appended to -/
def wrP (ki : Nat) (v : Value) (i k : Nat) : Prop := i = ki ∧ v.ownBlock = some k
theorem wp_region_P {id : Nat} {Q : Exit → Act → World → Prop} (ki : Nat) (v0 : Value) (an : List (List Nat)) (m1 : List Bool) (st : List St) (shape : Nat → Par → Value) (R : Nat → (Nat → Par) → (Nat → Prop) → World → Prop) (bf : Act → (Nat → Par) → Act)
    (hm : P.follows .mixedOrders = true) (hb : regB .any lops an m1 (List.replicate lops.length false) st = true) (hbf : ∀ x, putH shape x lops st a0 = bf a0 x) (ds : List Tmp) (hds : slotsB m1 (List.replicate lops.length false) lops ds = true) (hlt : ∀ g, v0.ownBlock = some g → g < w0.heap.size)
    (hq : ∀ (x : Nat → Par) (D : World → Prop), Good (fun k => k < w0.heap.size ∧ v0.ownBlock ≠ some k) w0 D → wpQuiet P lops.toArray (fun w' => ∃ y : Of D, w' = y.val) (fun a' => a' = af x) (takeOps m1 lops) (bf a0 x))
    (hcall : ∀ d ∈ ds, ∀ (x x' : Nat → Par), (af x).tmps.getD d undef = (af x').tmps.getD d undef)
    (hob : obls P lops an st (wrP ki v0) w0 af shape R st) (how : owes R st)
    (hfin : ∀ (x : Nat → Par) (w : World) (F : Nat → Nat → Prop), w0.grownBy w v0.ownBlock → lives st R x F w st → Q .normal (af x) w) : (Code.region id lops.toArray true).wp P Q a0 w0 := by
  refine wp_region_X (b := af) (af := af) an m1 (List.replicate lops.length false) st shape (wrP ki v0) R (fun k => k < w0.heap.size ∧ v0.ownBlock ≠ some k) (fun k => k < w0.heap.size ∧ v0.ownBlock ≠ some k) hm hb (fun k hk => ⟨hk.1, fun i _ s _ h => absurd h.2 hk.2⟩) (fun k hk => ⟨hk.1, fun i _ s _ h => absurd h.2 hk.2⟩)
    (fun s _ k h => hlt k h.2) (fun s _ s' _ hne k h h' => hne (h.1.trans h'.1.symm)) (fun x D hD => by rw [hbf]; exact hq x D hD) (fun x D hD => by rw [take_none]; exact wpQuiet_nil rfl) hds hcall hob how fun x w F hk hl => hfin x w F ⟨hk.os, hk.tape, hk.output, hk.size, fun k h hne => hk.block k ⟨h, fun _ _ h => hne h.2.symm⟩⟩ hl
theorem obl_callP {ki : Nat} {v0 : Value} (ho : lops[s.i]? = some o) (hw : ∀ x, Region.wanted o (yielded lops.toArray (af x).tmps) = true) (g : FuncId) (args : (Nat → Par) → Array Value) (hrun : ∀ (x : Nat → Par) (w : World), (execOp (af x).eval o).run P w = .ok (.enter g (args x)) w)
    (hc : ∀ (x : Nat → Par) (w : World) (F : Nat → Nat → Prop), w0.grownBy w v0.ownBlock → (∀ j ∈ s.need, R j x (F j) w) → Calls P g (args x) w fun e w' => ∃ y, e = .returned (shape s.i y) ∧ Below w.heap.size w w' ∧ R s.i (upd x s.i y) (fun k => w.heap.size ≤ k ∧ k < w'.heap.size) w') : Obl P lops an st (wrP ki v0) w0 af shape R s :=
  obl_call ho hw g args hrun fun x w F hk hn => hc x w F ⟨hk.os, hk.tape, hk.output, hk.size, fun k h hne => hk.block k ⟨h, fun _ _ h => absurd h.2.symm hne⟩⟩ hn
/-- The row that was there, when its append comes up. -/
theorem row_then {ki : Nat} {v0 : Value} {base : Nat} {e : TypeId} {size n : Nat} {xs : List Value} {w : World} (h : w0.ownsRow base e size v0 n xs) (hs : s.i = ki) (hk : Kept (fun k => k < w0.heap.size ∧ Eb an st (wrP ki v0) s.i k) w0 w) : w.ownsRow base e size v0 n xs := by
  refine ⟨h.1, ?_⟩
  rcases h.2 with h0 | ⟨g, cap, cur, hv, hb, hg, r⟩
  · exact .inl h0
  · refine .inr ⟨g, cap, cur, hv, hb, ?_, r⟩
    have hlt : g < w0.heap.size := (Array.getElem?_eq_some_iff.1 hg).1
    rw [hk.block g ⟨hlt, fun s' _ h' => .inl (h'.1.trans hs.symm)⟩]; exact hg
theorem own_low_ne {w : World} {base : Nat} {e : TypeId} {size n k : Nat} {v : Value} {xs : List Value} (h : w.ownsRow base e size v n xs) (hk : k < base) : v.ownBlock ≠ some k := fun e1 => by
  have := (h.lt k e1).1; omega
theorem liftP {D : World → Prop} {S : Nat → Prop} {w : World} (hD : Good S w D) {b o : Nat} {v : Value} (h : w.cell? ⟨b, o, none⟩ = some v) (hb : S b) (x : Of D) : x.val.cell? ⟨b, o, none⟩ = some v := lift hD h hb x
theorem owe_own (i : Nat) (base : Nat) (e : TypeId) (size n : Nat) (xs : List Value) (hs : s.i = i) (hR : ∀ (x : Nat → Par) (F : Nat → Prop) (w : World), R s.i x F w = OwnF w F base e size (.slice (x i 0).1 n (x i 0).2) n xs) : Owes R s :=
  ⟨fun x F w w' h _ hk => by rw [hR] at *; exact h.stab hk, fun x x' F w hx h => by
    rw [hR] at *
    subst hs
    rw [← hx s.i (.inl rfl)]; exact h⟩
end
end Go.Proofs.Ytiggefmckomilaa
