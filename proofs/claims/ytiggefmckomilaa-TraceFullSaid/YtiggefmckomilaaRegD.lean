/-
  The entries' functions.
  A standard is withdrawn, or reinstated: plain words.
  Regions that draw their order: an entry of a map is deleted.
-/
import Derived.Test.YtiggefmckomilaaTraceDep
import Derived.Test.YtiggefmckomilaaRegI
set_option linter.unusedSimpArgs false
set_option linter.unusedVariables false
namespace Go.Proofs.Ytiggefmckomilaa
open Go Go.RowKit

/-- What a call that makes an entry answers. -/
def entE (l : List Ent) : Ent → Int
  | .radar n d => radarE l n d
  | .define s => defineE l s
  | .test t => testE l t
  | .turn n o => turnE l n o
def sizeOk : Ent → Prop
  | .radar n _ => n.size ≤ maxLen
  | .define s => s.name.size ≤ maxLen ∧ s.par.size ≤ maxLen
  | .test t => t.radar.size ≤ maxLen ∧ t.std.size ≤ maxLen
  | .turn n _ => n.size ≤ maxLen
set_option maxRecDepth 100000 in
theorem radarC_any (l : List Ent) (p : Nat) (L : Lay) (a b : Nat) (n : ByteArray) (d : Int) (w : World) (hb : BookR l p L w) (hn : n.size ≤ maxLen) (h1 : Blk w a 9 #[.string n]) (h2 : Blk w b 3 #[.int .i64 d]) :
    Calls Try.prog 61 #[ptrB p, ptrB a, ptrB b] w fun e w' => (∃ v, e = .returned v) ∧ EntPost l p L w (.radar n d) (radarE l n d) w' := by
  have c1 := Radar_any l p L n d w hb hn
  have a0 := h1.c 0 rfl
  have b0 := h2.c 0 rfl
  have lta := h1.lt
  have ltb := h2.lt
  have Hc := hide c1
  clear c1 hb h1 h2
  unfold ptrB at *
  go_enter Try.func61, Try.ntmps61
  go_wp2_with fail
  refine Hc.out.mono ?_
  rintro e w2 ⟨rfl, hp⟩
  have HP := hide hp
  clear hp
  go_wp2
  refine bodyPost_end (results_none rfl _ _ _) rfl ⟨⟨_, rfl⟩, HP.out⟩
set_option maxRecDepth 100000 in
theorem defineC_any (l : List Ent) (p : Nat) (L : Lay) (a : Nat) (s : Std) (w : World) (hb : BookR l p L w) (hn : s.name.size ≤ maxLen) (hp : s.par.size ≤ maxLen) (h1 : Blk w a 43 (stdC s)) :
    Calls Try.prog 65 #[ptrB p, ptrB a] w fun e w' => (∃ v, e = .returned v) ∧ EntPost l p L w (.define s) (defineE l s) w' := by
  have c1 := Define_any l p L s w hb hn hp
  have Hc := hide c1
  unfold stdC at h1 Hc
  obtain ⟨a0, a1, a2, a3, a4, a5, a6⟩ := h1.c7
  have lta := h1.lt
  clear c1 hb h1
  unfold ptrB at *
  go_enter Try.func65, Try.ntmps65
  go_wp2_with fail
  refine Hc.out.mono ?_
  rintro e w2 ⟨rfl, hp⟩
  have HP := hide hp
  clear hp
  go_wp2
  refine bodyPost_end (results_none rfl _ _ _) rfl ⟨⟨_, rfl⟩, HP.out⟩
set_option maxRecDepth 100000 in
theorem testC_any (l : List Ent) (p : Nat) (L : Lay) (a : Nat) (t : Tst) (w : World) (hb : BookR l p L w) (hn : t.radar.size ≤ maxLen) (hp : t.std.size ≤ maxLen) (h1 : Blk w a 51 (tstC t)) :
    Calls Try.prog 66 #[ptrB p, ptrB a] w fun e w' => (∃ v, e = .returned v) ∧ EntPost l p L w (.test t) (testE l t) w' := by
  obtain ⟨rd, sd, tm, lo, hi⟩ := t
  have c1 := Test_any l p L rd sd tm lo hi w hb hn hp
  generalize hE : testE l (⟨rd, sd, tm, lo, hi⟩ : Tst) = eT at c1 ⊢
  have c2 : Calls Try.prog 23 #[ptrB p, .agg (tstC ⟨rd, sd, tm, lo, hi⟩)] w fun e w' => ∃ z : Int, e = .returned (.tuple #[.int .i64 z, .int .i64 eT]) ∧ EntPost l p L w (.test ⟨rd, sd, tm, lo, hi⟩) eT w' :=
    c1.mono fun e w' h => ⟨_, h.1, h.2⟩
  have Hc := hide c2
  unfold tstC at h1 Hc
  obtain ⟨a0, a1, a2, a3, a4⟩ := h1.c5
  have lta := h1.lt
  clear c1 c2 hb h1 hE
  unfold ptrB at *
  go_enter Try.func66, Try.ntmps66
  go_wp2_with fail
  refine Hc.out.mono ?_
  rintro e w2 ⟨z, rfl, hp⟩
  have HP := hide hp
  clear hp
  go_wp2
  refine bodyPost_end (results_none rfl _ _ _) rfl ⟨⟨_, rfl⟩, HP.out⟩
end Go.Proofs.Ytiggefmckomilaa
namespace Go.Proofs.Ytiggefmckomilaa
open Go Go.RowKit

def updB (g : ByteArray → Bool) (n : ByteArray) (a : Bool) (q : ByteArray) : Bool := if q = n then a else g q
theorem boolF_put (g : ByteArray → Bool) (n s : ByteArray) : putF (boolF g) n (.bool true) s = boolF (updB g n true) s := by
  unfold putF boolF updB
  by_cases h : s = n <;> simp [h]
theorem boolF_del (g : ByteArray → Bool) (n s : ByteArray) : delF (boolF g) n s = boolF (updB g n false) s := by
  unfold delF boolF updB
  by_cases h : s = n <;> simp [h]
theorem updB_updB (g : ByteArray → Bool) (n : ByteArray) (a b : Bool) : updB (updB g n a) n b = updB g n b := by
  funext q
  unfold updB
  by_cases h : q = n <;> simp [h]
theorem updB_same {g : ByteArray → Bool} {n : ByteArray} {a : Bool} : updB g n a n = a := by unfold updB; rw [if_pos rfl]
theorem wd_turn (l : List Ent) (n : ByteArray) (o : Bool) : wdT (.turn n o :: l) = updB (wdT l) n o := by
  funext q
  unfold updB
  rw [wdT]
  by_cases h : n = q
  · rw [if_pos h, if_pos h.symm]
  · rw [if_neg h, if_neg (Ne.symm h)]
/-- What is void, when the first of the standards are done. -/
def vB (l l' : List Ent) (ns : List ByteArray) (q : ByteArray) : Bool := if memB ns q = true then voidT l' q else voidT l q
theorem vB_nil (l l' : List Ent) : vB l l' [] = voidT l := by funext q; rfl
theorem vB_next (l l' : List Ent) (ns : List ByteArray) (n : ByteArray) : updB (vB l l' ns) n (voidT l' n) = vB l l' (ns ++ [n]) := by
  funext q
  unfold updB vB
  by_cases h : q = n
  · subst h
    rw [if_pos rfl, if_pos (memB_iff.2 (by simp))]
  · rw [if_neg h]
    congr 1
    rw [eq_iff_iff, memB_iff, memB_iff]
    simp [h]
theorem chainT_none : ∀ {l : List Ent} {n : ByteArray}, stdT l n = none → chainT l n = []
  | [], n, h => rfl
  | .radar _ _ :: l, n, h => chainT_none (l := l) h
  | .test _ :: l, n, h => chainT_none (l := l) h
  | .turn _ _ :: l, n, h => chainT_none (l := l) h
  | .define s :: l, n, h => by
    rw [stdT] at h
    rw [chainT]
    split at h
    · cases h
    · rename_i hne
      rw [if_neg hne]
      exact chainT_none (l := l) h
theorem std_some_mem : ∀ {l : List Ent} {n : ByteArray} {s : Std}, stdT l n = some s → n ∈ (stdsT l).map Std.name
  | [], n, s, h => by cases h
  | .radar _ _ :: l, n, s, h => std_some_mem (l := l) h
  | .test _ :: l, n, s, h => std_some_mem (l := l) h
  | .turn _ _ :: l, n, s, h => std_some_mem (l := l) h
  | .define x :: l, n, s, h => by
    rw [stdT] at h
    rw [stdsT, List.map_cons]
    split at h
    · rename_i he
      rw [he]
      exact List.mem_cons_self
    · exact List.mem_cons_of_mem _ (std_some_mem (l := l) h)
theorem vB_all (l : List Ent) (n : ByteArray) (o : Bool) : vB l (.turn n o :: l) (ordN l) = voidT (.turn n o :: l) := by
  funext q
  unfold vB
  split
  · rfl
  · rename_i h
    have hq : stdT l q = none := by
      cases hs : stdT l q with
      | none => rfl
      | some s => exact absurd (memB_iff.2 (by unfold ordN; rw [List.map_reverse, List.mem_reverse]; exact std_some_mem hs)) h
    unfold voidT
    rw [show chainT (.turn n o :: l) q = chainT l q from rfl, chainT_none hq]
    rfl
theorem stds_len_le : ∀ {l : List Ent}, (stdsT l).length ≤ l.length
  | [] => Nat.le_refl _
  | .radar _ _ :: l => Nat.le_succ_of_le (stds_len_le (l := l))
  | .test _ :: l => Nat.le_succ_of_le (stds_len_le (l := l))
  | .turn _ _ :: l => Nat.le_succ_of_le (stds_len_le (l := l))
  | .define s :: l => Nat.succ_le_succ (stds_len_le (l := l))
/-- Some name of a chain, told by the names that were met. -/
def anyW (f : ByteArray → Bool) {l : List Ent} {n : ByteArray} (pre : List (InC l n)) : Bool := pre.any fun x => f x.1
theorem anyW_snoc (f : ByteArray → Bool) {l : List Ent} {n : ByteArray} (pre : List (InC l n)) (x : InC l n) : anyW f (pre ++ [x]) = (anyW f pre || f x.1) := by unfold anyW; simp
theorem anyW_all (l : List Ent) (n m : ByteArray) (o : Bool) : anyW (wdT (.turn n o :: l)) (chainT l m).attach = voidT (.turn n o :: l) m := by
  unfold anyW voidT
  rw [show chainT (.turn n o :: l) m = chainT l m from rfl, Bool.eq_iff_iff, List.any_eq_true, List.any_eq_true]
  constructor
  · rintro ⟨x, -, h⟩; exact ⟨x.1, x.2, h⟩
  · rintro ⟨x, hx, h⟩; exact ⟨⟨x, hx⟩, List.mem_attach _ _, h⟩

/-- The book, when both maps are turned. -/
theorem bookQ_turn {l : List Ent} {p : Nat} {L : Lay} {w w5 : World} {n : ByteArray} {o : Bool} (h : BookR l p L w) (hok : okEnt l (.turn n o) = true) {c c' : Nat} (hc : c ≤ l.length + 1) (hc' : c' ≤ l.length * l.length + (stdsT l).length)
    (hm : MapV w5 Try.prog 9 L.bw (boolF (wdT (.turn n o :: l))) c) (hm' : MapV w5 Try.prog 9 L.bv (boolF (voidT (.turn n o :: l))) c')
    (hk : ∀ k, k < w.heap.size → k ≠ L.bw → k ≠ L.bv → w5.heap[k]? = w.heap[k]?) : BookQ (.turn n o) l p L w5 := by
  have hlt := h.lt
  have hnd := h.nodup
  have hk' : ∀ k ∈ L.all p, k ≠ L.bw → k ≠ L.bv → w5.heap[k]? = w.heap[k]? := fun k hm => hk k (hlt k hm)
  unfold Lay.all at hnd
  obtain ⟨n1, hnd⟩ := List.nodup_cons.1 hnd
  obtain ⟨n2, hnd⟩ := List.nodup_cons.1 hnd
  obtain ⟨n3, hnd⟩ := List.nodup_cons.1 hnd
  obtain ⟨n4, hnd⟩ := List.nodup_cons.1 hnd
  obtain ⟨n5, -⟩ := List.nodup_cons.1 hnd
  have hne : ∀ k ∈ optL L.vo ++ (optL L.vt ++ (optL L.ve ++ (L.kb ++ L.cb.flatten))), w5.heap[k]? = w.heap[k]? := fun k hm => hk' k (by unfold Lay.all; simp only [List.mem_cons]; exact .inr (.inr (.inr (.inr (.inr hm))))) (fun e => n4 (by rw [← e]; exact List.mem_cons_of_mem _ hm)) (fun e => n5 (by rw [← e]; exact hm))
  have hp : w5.heap[p]? = w.heap[p]? := hk' p (by simp [Lay.all]) (fun e => n1 (by rw [e]; simp)) (fun e => n1 (by rw [e]; simp))
  have hr : w5.heap[L.br]? = w.heap[L.br]? := hk' _ (by simp [Lay.all]) (fun e => n2 (by rw [e]; simp)) (fun e => n2 (by rw [e]; simp))
  have hs : w5.heap[L.bs]? = w.heap[L.bs]? := hk' _ (by simp [Lay.all]) (fun e => n3 (by rw [e]; simp)) (fun e => n3 (by rw [e]; simp))
  have hs64 := stds_len_le (l := l)
  refine ⟨⟨hok, h.good⟩, h.nodup, hp.trans h.book, h.radars.stab hr, h.stds.stab hs, ⟨c, by simpa using hc, hm⟩, ⟨c', ?_, hm'⟩,
    own_stabT h.order fun g hg => hne g (by simp [optL_mem hg]), own_stabT h.tests fun g hg => hne g (by simp [optL_mem hg]), own_stabT h.entries fun g hg => hne g (by simp [optL_mem hg]), h.knowns.stab fun k h' => hne k (by simp [h']), h.caps.stab fun k h' => hne k ?_⟩
  · rw [List.length_cons, Nat.add_mul, Nat.mul_add]; omega
  · simp only [List.mem_append]
    exact .inr (.inr (.inr (.inr h')))

/-- What the call keeps, and how far it is: base `w`, the three boxes, both maps. -/
structure TurnW (w : World) (L : Lay) (p : Nat) (n : ByteArray) (o : Bool) (f : ByteArray → Bool) (cw B : Nat) (Ds : List Nat) (g : ByteArray → Bool) (m : Nat) (W : World) : Prop where
  kept : Kept (fun k => k < w.heap.size ∧ k ≠ L.bw ∧ k ≠ L.bv) w W
  marks : MarksOK w.heap.size Ds W
  size : B ≤ W.heap.size
  bp : Blk W w.heap.size 37 #[.pointer (some ⟨p, 0, none⟩)]
  bs : Blk W (w.heap.size + 1) 9 #[.string n]
  bo : Blk W (w.heap.size + 1 + 1) 4 #[.bool o]
  wd : MapV W Try.prog 9 L.bw (boolF f) cw
  void : ∃ c, c ≤ m ∧ MapV W Try.prog 9 L.bv (boolF g) c
section
variable {w W W' : World} {L : Lay} {p : Nat} {n : ByteArray} {o : Bool} {f g : ByteArray → Bool} {cw B : Nat} {Ds : List Nat} {m : Nat}
theorem TurnW.grow (h : TurnW w L p n o f cw B Ds g m W) {row : Option Nat} (hg : W.grownBy W' row) (hlw : L.bw < w.heap.size) (hlv : L.bv < w.heap.size) (hr : ∀ k, row = some k → w.heap.size + 3 ≤ k ∧ k ∉ Ds) : TurnW w L p n o f cw B Ds g m W' := by
  have hb : ∀ k, k < w.heap.size + 3 → k < W.heap.size → W'.heap[k]? = W.heap[k]? := fun k hk hl => hg.block k hl fun e => by have := (hr k e.symm).1; omega
  have hsz := h.kept.size
  obtain ⟨c, hc, hv⟩ := h.void
  exact ⟨⟨hg.os.trans h.kept.os, hg.tape.trans h.kept.tape, hg.output.trans h.kept.output, Nat.le_trans hsz hg.size, fun k hk => (hb k (by omega) (by omega)).trans (h.kept.block k hk)⟩,
    h.marks.kept hg fun k e => (hr k e).2, Nat.le_trans h.size hg.size, (hb _ (by omega) h.bp.lt).trans h.bp, (hb _ (by omega) h.bs.lt).trans h.bs, (hb _ (by omega) h.bo.lt).trans h.bo,
    h.wd.stab (hb _ (by omega) h.wd.lt), c, hc, hv.stab (hb _ (by omega) hv.lt)⟩
theorem TurnW.later (h : TurnW w L p n o f cw B Ds g m W) (hb : Below W.heap.size W W') (hlw : L.bw < w.heap.size) (hlv : L.bv < w.heap.size) : TurnW w L p n o f cw B Ds g m W' := h.grow (grown_of_below hb) hlw hlv fun k e => by cases e
theorem TurnW.to (h : TurnW w L p n o f cw B Ds g m W) {B' : Nat} (hB : B' ≤ W.heap.size) : TurnW w L p n o f cw B' Ds g m W := ⟨h.kept, h.marks, hB, h.bp, h.bs, h.bo, h.wd, h.void⟩
theorem TurnW.mark (h : TurnW w L p n o f cw B Ds g m W) {D : Nat} (hn : D ∉ Ds) (hB : w.heap.size ≤ D) (hD : W.heap[D]? = some (.deferred (some []))) : TurnW w L p n o f cw B (D :: Ds) g m W := ⟨h.kept, h.marks.cons hn hB hD, h.size, h.bp, h.bs, h.bo, h.wd, h.void⟩
/-- The map of what is void is turned. -/
theorem TurnW.turned (h : TurnW w L p n o f cw B Ds g m W) (hg : W.grownBy W' (some L.bv)) (hlv : L.bv < w.heap.size) (hne : L.bw ≠ L.bv) {g' : ByteArray → Bool} {m' : Nat} (hv : ∃ c, c ≤ m' ∧ MapV W' Try.prog 9 L.bv (boolF g') c) : TurnW w L p n o f cw B Ds g' m' W' := by
  have hb : ∀ k, k ≠ L.bv → k < W.heap.size → W'.heap[k]? = W.heap[k]? := fun k hk hl => hg.block k hl fun e => hk (Option.some.inj e)
  have hsz := h.kept.size
  exact ⟨⟨hg.os.trans h.kept.os, hg.tape.trans h.kept.tape, hg.output.trans h.kept.output, Nat.le_trans hsz hg.size, fun k hk => (hb k hk.2.2 (by omega)).trans (h.kept.block k hk)⟩,
    h.marks.kept hg fun k e hm => by cases e; have := (h.marks.2 _ hm).1; omega, Nat.le_trans h.size hg.size, (hb _ (by omega) h.bp.lt).trans h.bp, (hb _ (by omega) h.bs.lt).trans h.bs, (hb _ (by omega) h.bo.lt).trans h.bo,
    h.wd.stab (hb _ hne h.wd.lt), hv⟩
theorem TurnW.le (h : TurnW w L p n o f cw B Ds g m W) {m' : Nat} (hm : m ≤ m') : TurnW w L p n o f cw B Ds g m' W := ⟨h.kept, h.marks, h.size, h.bp, h.bs, h.bo, h.wd, by obtain ⟨c, hc, hv⟩ := h.void; exact ⟨c, Nat.le_trans hc hm, hv⟩⟩
theorem TurnW.back (h : TurnW w L p n o f cw B Ds g m W) {B' : Nat} (hB : B' ≤ B) : TurnW w L p n o f cw B' Ds g m W := h.to (Nat.le_trans hB h.size)
theorem TurnW.b0 (h : TurnW w L p n o f cw B Ds g m W) : W.cell? ⟨w.heap.size, 0, none⟩ = some (.pointer (some ⟨p, 0, none⟩)) := h.bp.c 0 rfl
theorem TurnW.n0 (h : TurnW w L p n o f cw B Ds g m W) : W.cell? ⟨w.heap.size + 1, 0, none⟩ = some (.string n) := h.bs.c 0 rfl
theorem TurnW.o0 (h : TurnW w L p n o f cw B Ds g m W) : W.cell? ⟨w.heap.size + 1 + 1, 0, none⟩ = some (.bool o) := h.bo.c 0 rfl
theorem ptr0 {W : World} {g : Nat} {t : TypeId} {a : Option Addr} (h : Blk W g t #[.pointer a]) : W.cell? ⟨g, 0, none⟩ = some (.pointer a) := h.c 0 rfl
/-- The map of what is withdrawn is turned. -/
theorem TurnW.turnedW (h : TurnW w L p n o f cw B Ds g m W) (hg : W.grownBy W' (some L.bw)) (hlw : L.bw < w.heap.size) (hne : L.bw ≠ L.bv) {f' : ByteArray → Bool} {cw' : Nat} (hv : MapV W' Try.prog 9 L.bw (boolF f') cw') : TurnW w L p n o f' cw' B Ds g m W' := by
  have hb : ∀ k, k ≠ L.bw → k < W.heap.size → W'.heap[k]? = W.heap[k]? := fun k hk hl => hg.block k hl fun e => hk (Option.some.inj e)
  have hsz := h.kept.size
  obtain ⟨c, hc, hw⟩ := h.void
  exact ⟨⟨hg.os.trans h.kept.os, hg.tape.trans h.kept.tape, hg.output.trans h.kept.output, Nat.le_trans hsz hg.size, fun k hk => (hb k hk.2.1 (by omega)).trans (h.kept.block k hk)⟩,
    h.marks.kept hg fun k e hm => by cases e; have := (h.marks.2 _ hm).1; omega, Nat.le_trans h.size hg.size, (hb _ (by omega) h.bp.lt).trans h.bp, (hb _ (by omega) h.bs.lt).trans h.bs, (hb _ (by omega) h.bo.lt).trans h.bo,
    hv, c, hc, hw.stab (hb _ (Ne.symm hne) hw.lt)⟩
theorem TurnW.own {β : Type} {g : β → ByteArray → Bool} {m : β → Nat} (hlw : L.bw < w.heap.size) (hlv : L.bv < w.heap.size) (hB : w.heap.size + 3 ≤ B) (hD : ∀ D ∈ Ds, D < B) : OwnFrom B (fun s W => TurnW w L p n o f cw B Ds (g s) (m s) W) :=
  fun s W W' row hs hg hr => hs.grow hg hlw hlv fun k e => ⟨by have := (hr k e).1; omega, fun hm => by have := hD k hm; have := (hr k e).1; omega⟩
/-- The book's own variables, and all else of it but both maps, lie as they lay. -/
theorem TurnW.stab (h : TurnW w L p n o f cw B Ds g m W) {k : Nat} (hk : k < w.heap.size) (h1 : k ≠ L.bw) (h2 : k ≠ L.bv) : W.heap[k]? = w.heap[k]? := h.kept.block k ⟨hk, h1, h2⟩
theorem TurnW.look_wd (h : TurnW w L p n o f cw B Ds g m W) {x : ByteArray} (hn : x.size ≤ maxLen) : (Instr.lookup 95 (.map (some L.bw)) (.string x) false).run Try.prog W = .ok (.bool (f x)) W := by
  have h := h.wd.look (t := 95) (e := 4) Try.underlying9 Try.underlying95 (z := .bool false) (by kernel_rfl) hn
  rw [h]
  unfold boolF
  cases f x <;> rfl
end
/-- The entry is laid: behind a region that draws its order. -/
theorem BookQ.push2 {x : Ent} {l : List Ent} {p : Nat} {L : Lay} {w W : World} (h : BookQ x l p L w) {c : List Nat} (hc : capOk w x c) (hcn : c.Nodup) (hcd : ∀ k ∈ c, k ∉ L.all p) {v : Value}
    (hall : ∀ k, k < w.heap.size → k ≠ p → L.ve.ownBlock ≠ some k → W.heap[k]? = w.heap[k]?) (hbk : Blk W p 98 (bookC { L with ve := v, cb := c :: L.cb }))
    (hown : W.ownsRow 0 106 1 v (l.length + 1) (entRow l L.cb ++ [entF x c])) (hat : v.ownBlock = L.ve.ownBlock ∨ ∃ g, v.ownBlock = some g ∧ w.heap.size ≤ g) :
    BookR (x :: l) p { L with ve := v, cb := c :: L.cb } W := by
  have hlt := h.lt
  have hclt := hc.lt
  have hnd := h.nodup
  rw [(L.perm_rest p).nodup_iff, List.nodup_append] at hnd
  obtain ⟨n1, -, n3⟩ := hnd
  have hrest : ∀ k ∈ L.rest p, k ≠ p → W.heap[k]? = w.heap[k]? := fun k hk hp => hall k (hlt k (mem_all.2 (.inl hk))) hp fun e => n3 k hk k (optL_iff.2 e) rfl
  unfold Lay.rest at n1
  rw [List.nodup_cons] at n1
  have hp : ∀ k ∈ L.br :: L.bs :: L.bw :: L.bv :: (optL L.vo ++ (optL L.vt ++ (L.kb ++ L.cb.flatten))), W.heap[k]? = w.heap[k]? := fun k hk => hrest k (by unfold Lay.rest; exact List.mem_cons_of_mem _ hk) fun e => n1.1 (e ▸ hk)
  obtain ⟨c6, h6a, h6⟩ := h.wd
  obtain ⟨c7, h7a, h7⟩ := h.void
  have hcd' : ∀ k ∈ c, W.heap[k]? = w.heap[k]? := fun k hk => hall k (hclt k hk) (fun e => hcd k hk (mem_all.2 (.inl (by rw [e]; simp [Lay.rest])))) fun e => hcd k hk (mem_all.2 (.inr e))
  refine ⟨h.good, nodup_push h.nodup hlt hcn (fun k hk => ⟨hcd k hk, hclt k hk⟩) hat, hbk, h.radars.stab (hp _ (by simp)), h.stds.stab (hp _ (by simp)), ⟨c6, h6a, h6.stab (hp _ (by simp))⟩, ⟨c7, h7a, h7.stab (hp _ (by simp))⟩,
    own_stabT h.order fun g hg' => hp g (by simp [optL_mem hg']), own_stabT h.tests fun g hg' => hp g (by simp [optL_mem hg']), hown, h.knowns.stab fun k h' => hp k (by simp [h']), ?_⟩
  exact ⟨hc.stab hcd', h.caps.stab fun k h' => hp k (by simp only [List.mem_cons, List.mem_append]; exact .inr (.inr (.inr (.inr (.inr (.inr (.inr h')))))))⟩
end Go.Proofs.Ytiggefmckomilaa
namespace Go.Proofs.Ytiggefmckomilaa
open Go Go.RowKit

def deleteB (c : Callee) : Bool := match c with | .builtin .delete => true | _ => false
def isMapDel (o : Option Oper) (t k : TypeId) (p q : Tmp) : Bool := match o with
  | some ⟨none, .call c, _, _, _, none⟩ => deleteB c.callee && (c.args.size == 2 && tmpAt c.args[0]? p && tmpAt c.args[1]? q) && c.argTypes == #[t, k]
  | _ => false
theorem isMapDel_spec {o : Option Oper} {t k : TypeId} {p q : Tmp} (h : isMapDel o t k p q = true) : ∃ ty pos aft, o = some ⟨none, .call { callee := .builtin .delete, args := #[.tmp p, .tmp q], argTypes := #[t, k] }, ty, pos, aft, none⟩ := by
  unfold isMapDel at h
  split at h
  · rename_i c ty pos aft
    simp only [Bool.and_eq_true, beq_iff_eq] at h
    obtain ⟨⟨h1, ⟨h2, h3⟩, h4⟩, h5⟩ := h
    obtain ⟨ce, av, ts⟩ := c
    simp only at h1 h2 h3 h4 h5
    have e1 : ce = .builtin .delete := by
      unfold deleteB at h1
      split at h1
      · rfl
      · cases h1
    have e2 : av = #[.tmp p, .tmp q] := by
      have a0 := tmpAt_spec h3
      have a1 := tmpAt_spec h4
      obtain ⟨l⟩ := av
      match l, h2, a0, a1 with
      | [x, y], _, a0, a1 =>
        simp at a0 a1
        rw [a0, a1]
    exact ⟨ty, pos, aft, by rw [e1, e2, h5]⟩
  · cases h
def isTrue (o : Operand) : Bool := match o with | .const (.bool b) => b | _ => false
theorem isTrue_spec {o : Operand} (h : isTrue o = true) : o = .const (.bool true) := by
  unfold isTrue at h
  split at h
  · rw [h]
  · cases h
def isMapTrue (o : Option Oper) (t : TypeId) (m x : Tmp) : Bool := match o with
  | some ⟨none, .mapUpdate t' (.tmp m') (.tmp x') v, _, _, _, none⟩ => t' == t && m' == m && x' == x && isTrue v
  | _ => false
theorem isMapTrue_spec {o : Option Oper} {t : TypeId} {m x : Tmp} (h : isMapTrue o t m x = true) : ∃ ty pos aft, o = some ⟨none, .mapUpdate t (.tmp m) (.tmp x) (.const (.bool true)), ty, pos, aft, none⟩ := by
  unfold isMapTrue at h
  split at h
  · simp only [Bool.and_eq_true, beq_iff_eq] at h
    obtain ⟨⟨⟨rfl, rfl⟩, rfl⟩, h4⟩ := h
    rw [isTrue_spec h4]
    exact ⟨_, _, _, rfl⟩
  · cases h
section
variable {P : Program} {lops : List Oper} {an : List (List Nat)} {m1 m2 : List Bool} {st : List St} {w0 : World} {a0 : Act} {af : (Nat → Par) → Act} {shape : Nat → Par → Value} {wr : Nat → Nat → Prop} {R : Nat → (Nat → Par) → (Nat → Prop) → World → Prop} {s : St} {o : Oper}
/-- An entry of a map that was there is deleted. -/
theorem obl_mapDel (t k e : TypeId) (m x : Tmp) (b c : Nat) (f : ByteArray → Option Value) (key : ByteArray) (hs : isMapDel lops[s.i]? t k m x = true)
    (hm : ∀ (y : Nat → Par), (af y).tmps.getD m undef = .map (some b)) (hx : ∀ (y : Nat → Par), (af y).tmps.getD x undef = .string key)
    (hk : P.underlying k = some .string) (ht : P.underlying t = some (.map k e)) (hsz : key.size ≤ maxLen) (hb0 : MapV w0 P k b f c) (hE : Eb an st wr s.i b) (hwr : wr s.i b) (hsh : ∀ y, shape s.i y = .tuple #[])
    (hR : ∀ (x : Nat → Par) (F : Nat → Prop) (w : World) (y : Par), F b → MapV w P k b (delF f key) (if (f key).isSome then c - 1 else c) → R s.i (upd x s.i y) F w) : Obl P lops an st wr w0 af shape R s := by
  intro y w F hkk hn
  cases ho' : lops[s.i]? with
  | none => rw [ho'] at hs; simp [isMapDel] at hs
  | some o =>
    rw [ho'] at hs
    obtain ⟨ty, pos, aft, heq⟩ := isMapDel_spec hs
    have e1 := Option.some.inj heq
    subst e1
    have hb : MapV w P k b f c := hb0.stab (hkk.block b ⟨hb0.lt, hE⟩)
    obtain ⟨w', hrun, hm', htn⟩ := hb.drop hk ht hsz ty
    have g := htn.grown
    refine ⟨_, rfl, by simp [Region.wanted], hrun_value (v := .tuple #[]) (w' := w') ?_ ?_⟩
    · simp only [execOp, resolve, invoke, builtin, Sem.run_bind, Sem.run_pure, Result.andThen_ok, List.map_toArray, List.map_cons, List.map_nil, Act.eval, hm y, hx y, hrun]
    · refine ⟨fun _ => (none, 0), fun k => k = b, (hsh _).symm, ⟨g.os, g.tape, g.output, g.size, fun q hq => g.block q hq.1 fun e => hq.2 (.inl (by have : q = b := Option.some.inj e; rw [this]; exact hwr))⟩, fun q hq => ?_, hR y _ _ _ rfl hm'⟩
      subst hq
      exact ⟨Nat.lt_of_lt_of_le hb.lt g.size, .inr (.inl hwr)⟩
/-- 'true' is stored into a map that was there. -/
theorem obl_mapTrue (t k e : TypeId) (m x : Tmp) (b c : Nat) (f : ByteArray → Option Value) (key : ByteArray) (hs : isMapTrue lops[s.i]? t m x = true)
    (hm : ∀ (y : Nat → Par), (af y).tmps.getD m undef = .map (some b)) (hx : ∀ (y : Nat → Par), (af y).tmps.getD x undef = .string key)
    (hk : P.underlying k = some .string) (ht : P.underlying t = some (.map k e)) (hc : c < maxLen) (hsz : key.size ≤ maxLen) (hb0 : MapV w0 P k b f c) (hE : Eb an st wr s.i b) (hwr : wr s.i b) (hsh : ∀ y, shape s.i y = undef)
    (hR : ∀ (x : Nat → Par) (F : Nat → Prop) (w : World) (y : Par), F b → MapV w P k b (putF f key (.bool true)) (if (f key).isSome then c else c + 1) → R s.i (upd x s.i y) F w) : Obl P lops an st wr w0 af shape R s := by
  intro y w F hkk hn
  cases ho' : lops[s.i]? with
  | none => rw [ho'] at hs; simp [isMapTrue] at hs
  | some o =>
    rw [ho'] at hs
    obtain ⟨ty, pos, aft, heq⟩ := isMapTrue_spec hs
    have e1 := Option.some.inj heq
    subst e1
    have hb : MapV w P k b f c := hb0.stab (hkk.block b ⟨hb0.lt, hE⟩)
    obtain ⟨w', hrun, hm', htn⟩ := hb.store hk ht hc hsz (.bool true)
    have g := htn.grown
    refine ⟨_, rfl, by simp [Region.wanted], hrun_skip (w' := w') (by simp [execOp, Act.eval, hm y, hx y, hrun, Result.andThen]) ?_⟩
    refine ⟨fun _ => (none, 0), fun k => k = b, (hsh _).symm, ⟨g.os, g.tape, g.output, g.size, fun q hq => g.block q hq.1 fun e => hq.2 (.inl (by have : q = b := Option.some.inj e; rw [this]; exact hwr))⟩, fun q hq => ?_, hR y _ _ _ rfl hm'⟩
    subst hq
    exact ⟨Nat.lt_of_lt_of_le hb.lt g.size, .inr (.inl hwr)⟩
end
end Go.Proofs.Ytiggefmckomilaa
