/-
  What is left of a region behind its quiet operations: one element is appended to a row of the call's own.
-/
import Derived.Test.YtiggefmckomilaaRegionMem
namespace Go.Proofs.Ytiggefmckomilaa
open Go Go.RowKit

theorem own_later {w w' : World} {base : Nat} {e : TypeId} {size n : Nat} {v : Value} {xs : List Value} (h : w.ownsRow base e size v n xs) (hl : Later w w') : w'.ownsRow base e size v n xs := by
  refine ⟨h.1, ?_⟩
  rcases h.2 with h0 | ⟨g, cap, cur, hv, hb, hg, r⟩
  · exact .inl h0
  · refine .inr ⟨g, cap, cur, hv, hb, ?_, r⟩
    have hlt : g < w.heap.size := (Array.getElem?_eq_some_iff.1 hg).1
    rw [hl.block g hlt]; exact hg

theorem kb {D : World → Prop} {B : Nat} {w : World} (hD : Good (fun k => k < B) w D) (x : Of D) : Below B w x.val := by
  have h := hD.low _ x.ok
  exact ⟨h.os, h.tape, h.output, h.size, h.block⟩
section
variable {P : Program} {md : Region.Mode} {ops : Array Oper} {S : Nat → Prop} {E : Nat → Bool}

theorem opR_of {i : Nat} {o : Oper} (h : ops[i]? = some o) (hg : o.guard = none) {K : Act → World → Prop} {a : Act} {w : World} (hk : uponR P S (E i) o a w K ((execOp a.eval o).run P w)) : opR P ops S E i K a w := by
  unfold opR
  simp only [h, Region.wanted, hg, if_true]
  exact hk

theorem opR_build1 {i : Nat} {oi : Oper} {t e : TypeId} {p x : Tmp} {cells : Array Value} (h : ops[i]? = some oi) (hop : oi.op = .buildSlice t 1 #[(0, .tmp x)]) (hd : oi.dst = some p) (hg : oi.guard = none) {K : Act → World → Prop} {a : Act} {w : World}
    (hrun : (Instr.buildSlice t 1 #[(0, a.tmps.getD x undef)]).run P w = .ok (.slice (some ⟨w.heap.size, 0, none⟩) 1 1) (w.alloc (.cells cells e))) (hS : ∀ k, S k → k < w.heap.size)
    (hK : K (a.put (some p) (.slice (some ⟨w.heap.size, 0, none⟩) 1 1)) (w.alloc (.cells cells e))) : opR P ops S E i K a w := by
  refine opR_of h hg ?_
  have e1 : (execOp a.eval oi).run P w = .ok (.value (.slice (some ⟨w.heap.size, 0, none⟩) 1 1)) (w.alloc (.cells cells e)) := by
    simp only [execOp, hop, List.map_toArray, List.map_cons, List.map_nil, Act.eval, Sem.run_bind, hrun, Result.andThen_ok, Sem.run_pure]
  rw [e1]
  exact ⟨fun _ => kept_alloc _ hS, by rw [hd]; exact hK⟩

theorem opR_append {i : Nat} {oi : Oper} {t : TypeId} {s p q : Tmp} (h : ops[i]? = some oi) (hop : oi.op = .call { callee := .builtin .append, args := #[.tmp s, .tmp p], argTypes := #[t, t] }) (hd : oi.dst = some q) (hg : oi.guard = none) {K : Act → World → Prop} {a : Act} {w : World}
    (base : Nat) (e : TypeId) (i0 : TypeInfo) (z : Value) (size bytes : Nat) (ht : P.underlying t = some (.slice e)) (hi : P.info? e = some i0) (hz : i0.zero = some z)
    (hsize : i0.size = size) (hby : i0.bytes = bytes) (hzs : z.cells.size = size) (hsz : 0 < size)
    (v : Value) (n : Nat) (xs : List Value) (hs : a.tmps.getD s undef = v) (hown : w.ownsRow base e size v n xs)
    (ad : Addr) (m c : Nat) (news : List Value) (hx : a.tmps.getD p undef = .slice (some ad) m c) (hl : news.length = m * size) (hnews : ∀ j u, news[j]? = some u → w.cell? (ad.add j) = some u) (h1 : ∀ u ∈ news, u.oneCell' = true)
    (h63 : n + m ≤ maxLen) (hbytes : (n + m) * bytes ≤ 140737488355328) (hbase : base ≤ w.heap.size) (hE : E i = true → ∀ g, v.ownBlock = some g → ¬ S g) (hS : ∀ k, S k → k < w.heap.size)
    (hK : ∀ v' w', w'.ownsRow base e size v' (n + m) (xs ++ news) → w.grownBy w' v.ownBlock → K (a.put (some q) v') w') : opR P ops S E i K a w := by
  refine opR_of h hg ?_
  obtain ⟨v', w', hrun, h2, h3, _⟩ := run_append_own (P := P) w base t oi.type e i0 z size bytes ht hi hz hsize hby hzs hsz v n xs hown ad m c news hl hnews h1 h63 hbytes hbase
  have e1 : (execOp a.eval oi).run P w = .ok (.value v') w' := by
    simp only [execOp, hop, resolve, invoke, builtin, Sem.run_bind, Sem.run_pure, Result.andThen_ok, List.map_toArray, List.map_cons, List.map_nil, Act.eval, hs, hx, hrun]
  rw [e1]
  exact ⟨fun he => ⟨h3.os, h3.tape, h3.output, h3.size, fun k hk => h3.block k (hS k hk) fun e2 => hE he k e2.symm hk⟩, by rw [hd]; exact hK v' w' h2 h3⟩

theorem opR_assign {i : Nat} {oi : Oper} {q r : Tmp} (h : ops[i]? = some oi) (hop : oi.op = .assign (.tmp q)) (hd : oi.dst = some r) (hg : oi.guard = none) {K : Act → World → Prop} {a : Act} {w : World} (hK : K (a.put (some r) (a.tmps.getD q undef)) w) : opR P ops S E i K a w := by
  refine opR_of h hg ?_
  have e1 : (execOp a.eval oi).run P w = .ok (.value (a.tmps.getD q undef)) w := by
    simp only [execOp, hop, Act.eval, Sem.run_pure]
  rw [e1]
  exact ⟨fun _ => Kept.refl _ _, by rw [hd]; exact hK⟩

def pushB (md : Region.Mode) (ops : Array Oper) (l0 : Array Bool) (i k m : Nat) : Bool :=
  Region.ready md ops l0 == [i] && Region.ready md ops (l0.setIfInBounds i true) == [k] && Region.ready md ops ((l0.setIfInBounds i true).setIfInBounds k true) == [m] &&
  (Region.ready md ops (((l0.setIfInBounds i true).setIfInBounds k true).setIfInBounds m true)).isEmpty

/-- 'out = append(out, x)', x a struct: what is left of it. -/
theorem anyR_push {Q : Act → World → Prop} {f nn : Nat} {l0 : Array Bool} {a : Act} {w : World} (i k m : Nat) (t e : TypeId) (s p q r x : Tmp) (hb : pushB md ops l0 i k m = true) (hps : p ≠ s) {oi ok om : Oper} (hi' : ops[i]? = some oi) (hio : oi.op = .buildSlice t 1 #[(0, .tmp x)]) (hid : oi.dst = some p) (hig : oi.guard = none)
    (hk' : ops[k]? = some ok) (hko : ok.op = .call { callee := .builtin .append, args := #[.tmp s, .tmp p], argTypes := #[t, t] }) (hkd : ok.dst = some q) (hkg : ok.guard = none) (hm' : ops[m]? = some om) (hmo : om.op = .assign (.tmp q)) (hmd : om.dst = some r) (hmg : om.guard = none) (hn : nn = f + 3)
    (base : Nat) (i0 : TypeInfo) (z : Value) (size bytes : Nat) (ht : P.underlying t = some (.slice e)) (hi : P.info? e = some i0) (hz : i0.zero = some z) (hsize : i0.size = size) (hby : i0.bytes = bytes) (hzs : z.cells.size = size) (hsz : 0 < size)
    (cells : Array Value) (hrun : ∀ w, (Instr.buildSlice t 1 #[(0, a.tmps.getD x undef)]).run P w = .ok (.slice (some ⟨w.heap.size, 0, none⟩) 1 1) (w.alloc (.cells cells e))) (hc : cells.size = size) (h1 : cells.all (·.oneCell') = true)
    (v : Value) (n : Nat) (xs : List Value) (hs : a.tmps.getD s undef = v) (hp : p < a.tmps.size) (hq : q < a.tmps.size) (hown : w.ownsRow base e size v n xs) (h63 : n + 1 ≤ maxLen) (hbytes : (n + 1) * bytes ≤ 140737488355328) (hbase : base ≤ w.heap.size)
    (hE : E k = true → ∀ g, v.ownBlock = some g → ¬ S g) (hS : ∀ k, S k → k < w.heap.size)
    (h : ∀ g v' w', w'.ownsRow base e size v' (n + 1) (xs ++ cells.toList) → w.grownBy w' v.ownBlock → Q (((a.put (some p) (.slice (some ⟨g, 0, none⟩) 1 1)).put (some q) v').put (some r) v') w') : anyR P md ops S E Q nn l0 a w := by
  subst hn
  simp only [pushB, Bool.and_eq_true, beq_iff_eq, List.isEmpty_iff] at hb
  obtain ⟨⟨⟨r1, r2⟩, r3⟩, r4⟩ := hb
  have upS : ∀ w' : World, w.heap.size ≤ w'.heap.size → ∀ k, S k → k < w'.heap.size := fun w' hw k hk => Nat.lt_of_lt_of_le (hS k hk) hw
  refine anyR_one i _ r1 (beq_self_eq_true _) fun w1 l1 => opR_build1 hi' hio hid hig (hrun w1) (upS _ l1.size) ?_
  refine anyR_one k _ r2 (beq_self_eq_true _) fun w2 l2 => ?_
  have hsz2 := l2.size
  simp only [World.size_alloc] at hsz2
  have hsz1 := l1.size
  have hbk := blk_later (Blk.new w1 e cells) l2
  have hown2 : w2.ownsRow base e size v n xs := own_later ((own_later hown l1).alloc _) l2
  have grow2 : w.grownBy w2 v.ownBlock := later_grown (grown_later l1 (World.grownBy_alloc w1 _ _)) l2
  refine opR_append hk' hko hkd hkg base e i0 z size bytes ht hi hz hsize hby hzs hsz v n xs (by rw [getD_put_ne hps]; exact hs) hown2 ⟨w1.heap.size, 0, none⟩ 1 1 cells.toList (getD_put hp) (by simp [hc]) (fun j u hu => ?_)
    (fun u hu => (Array.all_eq_true_iff_forall_mem.1 h1) u (by simpa using hu)) h63 hbytes (by omega) hE (upS _ (by omega)) fun v' w' hown' hg' => ?_
  · have := hbk.cell j
    rw [show (⟨w1.heap.size, 0, none⟩ : Addr).add j = ⟨w1.heap.size, j, none⟩ by unfold Addr.add; split <;> simp_all]
    rw [this]; simpa using hu
  · refine anyR_one m _ r3 (beq_self_eq_true _) fun w3 l3 => opR_assign hm' hmo hmd hmg ?_
    refine anyR_done r4 fun w4 l4 => ?_
    rw [getD_put (by rw [size_put']; exact hq)]
    have g' : w.grownBy w' v.ownBlock := ⟨hg'.os.trans grow2.os, hg'.tape.trans grow2.tape, hg'.output.trans grow2.output, Nat.le_trans grow2.size hg'.size, fun i hi hne => (hg'.block i (Nat.lt_of_lt_of_le hi grow2.size) hne).trans (grow2.block i hi hne)⟩
    exact h _ _ _ (own_later hown' (l3.trans l4)) (later_grown g' (l3.trans l4))

/-- A store into some cells of a block that is known whole. -/
theorem exec_store_at {o : Oper} {t t' : TypeId} {p x : Operand} {g off : Nat} {old cells : Array Value} (h : o.op = .store t p x) {e : Operand → Value} {w : World} (hp : e p = .pointer (some ⟨g, off, none⟩)) (hx : e x = .agg cells)
    (hg : Blk w g t' old) (hi : (P.info? t).map (·.size) = some cells.size) (ho : off + cells.size ≤ old.size) (h1 : cells.all (·.oneCell') = true) :
    (execOp e o).run P w = .ok .skip (w.setRow g (old.toList.take off ++ cells.toList ++ old.toList.drop (off + cells.size)).toArray) := by
  have := run_storeCells_at (P := P) g off t' cells.toList 0 old w hg (by simp; omega) (fun v hv => (Array.all_eq_true_iff_forall_mem.1 h1) v (by simpa using hv))
  simp at this
  cases hq : P.info? t with
  | none => simp [hq] at hi
  | some i =>
    have hs : i.size = cells.size := by simpa [hq] using hi
    simp [execOp, h, hp, hx, go_sem, sizeOf, typeInfo, hq, hs, this]
/-- Some cells of a block are filled, behind all else. -/
theorem anyR_fill_at {Q : Act → World → Prop} {f n : Nat} {listed : Array Bool} {a : Act} {w : World} (i : Nat) (t t' : TypeId) (p x : Tmp) (g off : Nat) (old cells new : Array Value) (hb : rem0B md ops listed i t p x = true) (hn : n = f + 1)
    (hp : a.tmps.getD p undef = .pointer (some ⟨g, off, none⟩)) (hx : a.tmps.getD x undef = .agg cells) (hg : Blk w g t' old) (hi : (P.info? t).map (·.size) = some cells.size) (ho : off + cells.size ≤ old.size) (h1 : cells.all (·.oneCell') = true)
    (hnew : (old.toList.take off ++ cells.toList ++ old.toList.drop (off + cells.size)).toArray = new) (hE : E i = true → ¬ S g)
    (h : ∀ w', w.grownBy w' (some g) → Blk w' g t' new → Q a w') : anyR P md ops S E Q n listed a w := by
  subst hn
  subst hnew
  simp only [rem0B, Bool.and_eq_true, beq_iff_eq, List.isEmpty_iff] at hb
  obtain ⟨⟨r1, r2⟩, hs⟩ := hb
  refine anyR_one i _ r1 (beq_self_eq_true _) fun w1 h1' => ?_
  unfold isStore at hs
  split at hs
  · rename_i t1 p1 x1 ty pos aft heq
    simp only [Bool.and_eq_true, beq_iff_eq] at hs
    obtain ⟨⟨rfl, rfl⟩, rfl⟩ := hs
    refine opR_of heq rfl ?_
    rw [exec_store_at (P := P) (o := ⟨none, .store t1 (.tmp p1) (.tmp x1), ty, pos, aft, none⟩) rfl (e := a.eval) (w := w1) hp hx (blk_later hg h1') hi ho h1]
    refine ⟨fun he => kept_setRow (hE he), ?_⟩
    exact anyR_done r2 fun w2 h2 => h w2 (later_grown (grown_later h1' (grown_setRow w1 g _)) h2) (blk_later (blk_setRow (blk_later hg h1')) h2)
  · cases hs
end
theorem own_ne {w : World} {base g : Nat} {e t : TypeId} {size n : Nat} {v : Value} {xs : List Value} {cs : Array Value} (h : w.ownsRow base e size v n xs) (hg : Blk w g t cs) (hne : e ≠ t) : v.ownBlock ≠ some g := by
  rcases h.2 with ⟨rfl, _⟩ | ⟨g', cap, cur, rfl, _, hh, _⟩
  · simp [Value.ownBlock]
  · intro he
    have : g' = g := by simpa [Value.ownBlock] using he
    subst this
    unfold Blk at hg
    rw [hg] at hh
    injection hh with hh
    injection hh with _ ht
    exact hne ht.symm
theorem blk_grown {w w' : World} {g : Nat} {t : TypeId} {cs : Array Value} {row : Option Nat} (h : Blk w g t cs) (hg : w.grownBy w' row) (hne : row ≠ some g) : Blk w' g t cs := (hg.block g h.lt (Ne.symm hne)).trans h
theorem below_grown {B : Nat} {a w w' : World} {row : Option Nat} (h : Below B a w) (hg : w.grownBy w' row) (hB : B ≤ w.heap.size) (hr : ∀ k, row = some k → B ≤ k) : Below B a w' := h.grown hg hB hr
theorem own_grown {w w' : World} {base : Nat} {e : TypeId} {size n : Nat} {v : Value} {xs : List Value} {row : Option Nat} (h : w.ownsRow base e size v n xs) (hg : w.grownBy w' row) (hne : v.ownBlock ≠ row) : w'.ownsRow base e size v n xs := h.kept hg (.inr hne)
end Go.Proofs.Ytiggefmckomilaa
