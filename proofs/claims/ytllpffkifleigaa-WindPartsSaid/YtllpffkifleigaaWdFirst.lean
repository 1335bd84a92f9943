/-
  The iterator over the sets of k numbers below n, and its contract.
  The first set that is wanted.
-/
import Derived.Test.YtllpffkifleigaaWdCheck
import Derived.Test.YtllpffkifleigaaWindMath6
import Derived.Test.YtllpffkifleigaaRangeM
import Derived.Deep.LoopGhost
set_option linter.unusedSimpArgs false
set_option linter.unusedVariables false
section
namespace Go.Proofs.Ytllpffkifleigaa
open Go Go.RowKit
attribute [local go_sem] Oper.semAt_some

/-- A row of numbers that a function tells. -/
def cellsN (f : Nat → Int) (n : Nat) : Array Value := (Array.range n).map fun j => .int .i64 (f j)
theorem cellsN_size {f : Nat → Int} {n : Nat} : (cellsN f n).size = n := by simp [cellsN]
theorem cellsN_at {f : Nat → Int} {n j : Nat} (h : j < n) : (cellsN f n)[j]? = some (.int .i64 (f j)) := by simp [cellsN, h]
theorem cellsN_congr {f g : Nat → Int} {n : Nat} (h : ∀ i, i < n → f i = g i) : cellsN f n = cellsN g n := by
  apply Array.ext
  · simp [cellsN]
  · intro i h1 h2
    have h3 : i < n := by simpa [cellsN] using h1
    simp [cellsN, h i h3]
def updN (f : Nat → Int) (j : Nat) (v : Int) : Nat → Int := fun i => if i = j then v else f i
theorem cellsN_set {f : Nat → Int} {n j : Nat} {v : Int} : (cellsN f n).setIfInBounds j (.int .i64 v) = cellsN (updN f j v) n := by
  apply Array.ext
  · simp [cellsN]
  · intro i h1 h2
    have h3 : i < n := by simpa [cellsN] using h1
    rw [Array.getElem_setIfInBounds (by simpa [cellsN] using h3)]
    by_cases hi : j = i
    · subst hi
      simp [cellsN, updN]
    · rw [if_neg hi]
      simp only [cellsN, updN, Array.getElem_map, Array.getElem_range]
      rw [if_neg (by omega)]
theorem cellsN_made {n : Nat} : madeCells #[.int .i64 0] n = cellsN (fun _ => 0) n := by
  apply Array.ext
  · simp [cellsN, madeCells]
  · intro i h1 h2
    simp [madeCells, cellsN, Nat.mod_one]
theorem blk_of_full1 {w : World} {base : Nat} {e : TypeId} {g n : Nat} {cs : Array Value} (h : w.ownsRow base e 1 (.slice (some ⟨g, 0, none⟩) n n) n cs.toList) : Blk w g e cs := by
  obtain ⟨hl, hr | ⟨g', cap, cur, hv, hb, hh, h1, h2, h3, h4⟩⟩ := h
  · cases hr.1
  · injection hv with e1 e2 e3
    injection e1 with e1
    injection e1 with e1 _ _
    subst e1 e3
    rw [List.take_of_length_le (by rw [Array.length_toList, h3]; exact Nat.le_refl _)] at h4
    have : cur = cs := Array.toList_inj.1 h4
    subst this
    exact hh
theorem intInfoN : (Try.prog.info? 3).map (fun i => (i.zero, i.size, i.bytes)) = some (some (.int .i64 0), 1, 8) := by kernel_rfl
theorem wpListIn_make_full {F : Fence} {m : Nat} {P : Program} (w : World) {ops : Array Oper} {rest : List Oper} {o : Oper} {a : Act} {Q : Exit → Act → World → Prop}
    (hg : o.guard = none) (l c : Operand) (t : TypeId) (hop : o.op = Op.makeSlice t l c)
    (base : Nat) (e : TypeId) (i : TypeInfo) (z : Value) (size : Nat) (h1 : P.underlying t = some (.slice e)) (h2 : P.info? e = some i) (h3 : i.zero = some z) (h4 : i.size = size)
    (kl kc : IntKind) (L C : Int) (n : Nat) (hl : a.eval l = .int kl L) (hc : a.eval c = .int kc C) (hL : L = (n : Int)) (hC : C = (n : Int)) (b2 : i.bytes * n ≤ 281474976710656) (b3 : n ≤ maxLen) (b4 : base ≤ w.heap.size)
    (hK : ∀ w', w'.ownsRow base e size (.slice (some ⟨w.heap.size, 0, none⟩) n n) n (madeCells z.cells (n * size)).toList → w.grownBy w' none → wpListIn F m P ops Q rest (a.put o.dst (.slice (some ⟨w.heap.size, 0, none⟩) n n)) w') :
    wpListIn F m P ops Q (o :: rest) a w := by
  refine wpListIn_plain hg fun K hK' => ?_
  obtain ⟨w', hrun, r1, r2⟩ := run_make_full (P := P) w base t e i z size h1 h2 h3 h4 kl kc n b2 b3 b4
  subst hL
  subst hC
  unfold Oper.wpIn
  refine ⟨?_, ?_⟩
  · simp [Oper.about, hop]
  · rw [Oper.semAt_plain F _ _ (by rw [hop]; intro c hc'; cases hc')]
    simp [execOp, hop, hl, hc, hrun, Result.andThen]
    exact hK' _ _ (hK w' r1 r2)

/-! ### Sets as they lie in memory -/

abbrev SetV := List Nat × Option Addr × Nat
def setV (x : SetV) : Value := .slice x.2.1 x.1.length x.2.2
def SetM (W : World) (A : Option Addr) (t : List Nat) : Prop := 0 < t.length → ∃ b cs, A = some ⟨b, 0, none⟩ ∧ Blk W b 3 cs ∧ ∀ i, i < t.length → cs[i]? = some (.int .i64 (t.getD i 0 : Nat))
theorem SetM.later {W W' : World} {A : Option Addr} {t : List Nat} (h : SetM W A t) (hb : Below W.heap.size W W') : SetM W' A t := fun hn => by
  obtain ⟨b, cs, e, hk, hc⟩ := h hn
  exact ⟨b, cs, e, blk_later hk hb, hc⟩
theorem SetM.own {B : Nat} {A : Option Addr} {t : List Nat} : OwnFrom B (fun (_ : Unit) W => SetM W A t) := fun _ W W' row h hg hr hn => by
  obtain ⟨b, cs, e, hk, hc⟩ := h hn
  refine ⟨b, cs, e, blk_grown hk hg fun er => ?_, hc⟩
  obtain ⟨-, o, ho, hoc⟩ := hr b er
  have h4 : W.heap[b]? = some (.cells cs 3 (0, 0)) := hk
  rw [h4] at ho
  cases ho
  cases hoc
theorem SetM.of_row {W : World} {base c n : Nat} {A : Option Addr} {t : List Nat} (hn : t.length = n) (h : W.ownsRow base 3 1 (.slice A n c) n (t.map fun i => Value.int .i64 (i : Nat))) : SetM W A t := fun hl => by
  obtain ⟨b, cur, e, -, hb, -, -, hc⟩ := row_blk h (by omega)
  exact ⟨b, cur, e, hb, fun i hi => hc i _ (by rw [List.getElem?_map, List.getElem?_eq_getElem hi, List.getD_eq_getElem?_getD, List.getElem?_eq_getElem hi]; rfl)⟩
/-- The function of a set. -/
def fnS (t : List Nat) : Nat → Int := fun i => (t.getD i 0 : Nat)
/-- The first k numbers, of which m are laid. -/
def iotaC (m k : Nat) : Array Value := cellsN (fun j => if j < m then (j : Int) else 0) k
theorem iota_zero {k : Nat} : cellsN (fun _ => 0) k = iotaC 0 k := cellsN_congr fun i hi => by simp
theorem iota_set {m k : Nat} : (iotaC m k).setIfInBounds m (.int .i64 (m : Int)) = iotaC (m + 1) k := by
  unfold iotaC
  rw [cellsN_set]
  refine cellsN_congr fun i hi => ?_
  unfold updN
  by_cases e : i = m
  · subst e; simp
  · by_cases e2 : i < m
    · simp only [if_neg e, if_pos e2]; rw [if_pos (by omega)]
    · simp only [if_neg e, if_neg e2]; rw [if_neg (by omega)]
theorem iota_end {k : Nat} : iotaC k k = cellsN (fnS (List.range' 0 k)) k := cellsN_congr fun i hi => by
  unfold fnS
  rw [List.getD_eq_getElem?_getD, List.getElem?_range' (by omega)]
  simp [hi]
/-- How a set is turned to the next one: number p grows, and those up to i behind it follow. -/
def stepN (t : List Nat) (p i : Nat) : Nat → Int := fun j => if j < p then (t.getD j 0 : Nat) else if j ≤ i then (t.getD p 0 : Nat) + 1 + ((j : Int) - p) else (t.getD j 0 : Nat)
theorem step_first {t : List Nat} {p k : Nat} : (cellsN (fnS t) k).setIfInBounds p (.int .i64 (((t.getD p 0 : Nat) : Int) + 1)) = cellsN (stepN t p p) k := by
  rw [cellsN_set]
  refine cellsN_congr fun j hj => ?_
  unfold updN stepN fnS
  by_cases e : j = p
  · subst e; simp
  · by_cases e2 : j < p
    · simp only [if_neg e, if_pos e2]
    · simp only [if_neg e, if_neg e2]; rw [if_neg (by omega)]
theorem step_next {t : List Nat} {p i k : Nat} (h : p ≤ i) : (cellsN (stepN t p i) k).setIfInBounds (i + 1) (.int .i64 (((t.getD p 0 : Nat) : Int) + 1 + ((i : Int) - p) + 1)) = cellsN (stepN t p (i + 1)) k := by
  rw [cellsN_set]
  refine cellsN_congr fun j hj => ?_
  unfold updN stepN
  by_cases e : j = i + 1
  · subst e
    simp only [if_true]
    rw [if_neg (by omega), if_pos (by omega)]
    omega
  · by_cases e2 : j < p
    · simp only [if_neg e, if_pos e2]
    · simp only [if_neg e, if_neg e2]
      by_cases e3 : j ≤ i
      · rw [if_pos e3, if_pos (by omega)]
      · rw [if_neg e3, if_neg (by omega)]
theorem step_at {t : List Nat} {p i : Nat} (h : p ≤ i) : stepN t p i i = ((t.getD p 0 : Nat) : Int) + 1 + ((i : Int) - p) := by
  unfold stepN
  rw [if_neg (by omega), if_pos (by omega)]
theorem step_end {t : List Nat} {p k : Nat} (hk : t.length = k) (hp : p < k) : cellsN (stepN t p (k - 1)) k = cellsN (fnS (t.take p ++ List.range' (t.getD p 0 + 1) (k - p))) k := by
  refine cellsN_congr fun j hj => ?_
  unfold stepN fnS
  by_cases e : j < p
  · rw [if_pos e, List.getD_eq_getElem?_getD, List.getD_eq_getElem?_getD, List.getElem?_append_left (by simp; omega), List.getElem?_take, if_pos e]
  · rw [if_neg e, if_pos (by omega), List.getD_eq_getElem?_getD (l := _ ++ _), List.getElem?_append_right (by simp; omega), List.getElem?_range' (by simp; omega)]
    simp only [List.length_take, Option.getD_some]
    rw [Nat.min_eq_left (by omega)]
    omega
theorem fnS_range' (k : Nat) : cellsN (fnS (List.range' 0 k)) k = cellsN (fun i => (i : Int)) k := cellsN_congr fun i hi => by
  unfold fnS
  rw [List.getD_eq_getElem?_getD, List.getElem?_range' (by omega)]
  simp
theorem fnS_map {t : List Nat} : (((List.range t.length).map (fnS t)).take t.length).map (Value.int .i64) = t.map fun i => Value.int .i64 (i : Nat) := by
  rw [List.take_of_length_le (by simp)]
  apply List.ext_getElem
  · simp
  · intro i h1 h2
    have h3 : i < t.length := by simpa using h2
    simp [fnS, List.getD_eq_getElem?_getD, h3]

theorem clone_any (g k : Nat) (t : List Nat) (w : World) (ht : t.length = k) (hk : k ≤ 400) (hb : Blk w g 3 (cellsN (fnS t) k)) :
    Calls Try.prog 120 #[.slice (some ⟨g, 0, none⟩) k k] w fun e w' => ∃ A c, e = .returned (.slice A k c) ∧ SetM w' A t ∧ Below w.heap.size w w' := by
  by_cases h0 : k = 0
  · subst h0
    refine (Try.slices_Clone_int_zero _ 0 w).mono ?_
    rintro e w' ⟨v', rfl, hown, -, hb⟩
    obtain ⟨A, c, rfl⟩ := own_shape2 hown
    exact ⟨A, c, rfl, fun h => by omega, hb⟩
  · have hz := Try.slices_Clone_int g 0 k k ((List.range k).map (fnS t)) w (by simp) (by omega) (fun j hj => by
      have hj' : j < k := by simpa using hj
      rw [Nat.zero_add, List.getD_eq_getElem?_getD, List.getElem?_map, List.getElem?_range hj']
      exact hb.c j (cellsN_at hj'))
    refine hz.mono ?_
    rintro e w' ⟨v', rfl, hown, -, hb⟩
    obtain ⟨A, c, rfl⟩ := own_shape2 hown
    refine ⟨A, c, rfl, SetM.of_row (base := w.heap.size) (c := c) ht ?_, hb⟩
    have hf := fnS_map (t := t)
    rw [ht] at hf
    rw [hf] at hown
    exact hown
set_option maxHeartbeats 4000000 in
set_option maxRecDepth 100000 in
theorem sets_stops (n k bk bn : Nat) (w : World) (hk0 : k ≤ 400) (hn0 : n ≤ 400) (Bk : Blk w bk 3 #[.int .i64 (k : Nat)]) (Bn : Blk w bn 3 #[.int .i64 (n : Nat)]) :
    SeqM Try.prog 119 #[.pointer (some ⟨bk, 0, none⟩), .pointer (some ⟨bn, 0, none⟩)] setV (fun pre x W => (setsR n k 0)[pre.length]? = some x.1 ∧ SetM W x.2.1 x.1) KeptC
      (fun xs => xs.length = (setsR n k 0).length) (fun _ => True) (setsR n k 0).length w := by
  intro lp J Jx W hW hJ hJx hY h0
  replace Bk := blk_later Bk hW
  replace Bn := blk_later Bn hW
  obtain ⟨i0, hi0, hz0, hz1, hz2⟩ := info_parts intInfoN
  obtain ⟨N, hN⟩ : ∃ N, (setsR n k 0).length = N := ⟨_, rfl⟩
  rw [hN] at hY ⊢
  have hN0 : ¬ k ≤ n → N = 0 := fun h => by rw [← hN, setsR_few (Nat.zero_le _) (by omega)]; rfl
  have hfirst : k ≤ n → (setsR n k 0)[0]? = some (List.range' 0 k) := fun h => by
    rw [← setsR_head (n := n) k 0 (by omega), List.head?_eq_getElem?]
  have hlen : ∀ j t, (setsR n k 0)[j]? = some t → t.length = k ∧ j < N ∧ IsSet n 0 t := fun j t h => ⟨setsR_len (List.mem_of_getElem? h), by rw [← hN]; exact (List.getElem?_eq_some_iff.1 h).1, setsR_set (List.mem_of_getElem? h)⟩
  have hend : ∀ j t, (setsR n k 0)[j]? = some t → nextS n t = none → j + 1 = N := fun j t h he => by
    rw [next_at h, List.getElem?_eq_none_iff] at he
    have := (hlen j t h).2.1
    omega
  have hnext : ∀ j t t', (setsR n k 0)[j]? = some t → nextS n t = some t' → (setsR n k 0)[j + 1]? = some t' := fun j t t' h he => by rw [← next_at h]; exact he
  have D0 := hide Bk
  have D1 := hide Bn
  have hWs : Try.prog.underlying 44 = some (.slice 3) := Try.underlying44
  have HY := hide hY
  have H0 := hide h0
  have HJ := hide hJ
  have HJx := hide hJx
  have C0 := hide Bk
  have C1 := hide Bn
  have HN0 := hide hN0
  have HF := hide hfirst
  have HL := hide hlen
  have HE := hide hend
  have HX := hide hnext
  have Hi := hide hi0
  have Hz0 := hide hz0
  have Hz1 := hide hz1
  have Hz2 := hide hz2
  have HN := hide hN
  clear hY h0 hJ hJx Bk Bn hN0 hfirst hlen hend hnext hi0 hz0 hz1 hz2 hN
  clear hW
  refine callsIn_of_wp Try.func119 rfl trivial ?_
  simp only [Try.ntmps119, List.size_toArray, List.length_cons, List.length_nil, Nat.reduceAdd, Nat.reduceSub, Array.replicate_succ, Array.replicate_zero, List.push_toArray, List.append_toArray, List.nil_append, List.cons_append]
  have x0 := C0.out.c 0 rfl
  have ltx := C0.out.lt
  gi_wp2_with (gi_at_make; refine wpListIn_make_full _ rfl _ _ 44 rfl W.heap.size 3 i0 (.int .i64 0) 1 hWs Hi.out Hz0.out Hz1.out .i64 .i64 _ _ k rfl rfl rfl rfl (by rw [Hz2.out]; omega) (by unfold maxLen; omega) (Nat.le_refl _) ?_)
  intro w1 hown hgr
  clear x0 ltx
  rw [cellsN_made, iota_zero] at hown
  have hb1 := blk_of_full1 hown
  have hs1 := hb1.lt
  have hbw := (Below.refl W.heap.size W).grown hgr (Nat.le_refl _) (fun k e => by cases e)
  replace C0 := hide (blk_later C0.out hbw)
  replace C1 := hide (blk_later C1.out hbw)
  have Hg := hide hb1
  have HB := hide hbw
  clear hb1 hbw
  clear hown hgr
  have hWsz : W.heap.size ≤ w1.heap.size := by have := Hg.out.lt; omega
  gi_wp2_with fail
  gi_loopw [5, 11, 18] (fun _ i _ wr => ∃ m : Nat, m ≤ k ∧ i = .int .i64 m ∧ Below W.heap.size W wr ∧ Blk wr W.heap.size 3 (iotaC m k)) (fun _ i _ _ => k - (intOf i).toNat)
  case atStart => exact ⟨0, Nat.zero_le _, rfl, HB.out, Hg.out⟩
  case round =>
    obtain ⟨m, hm, rfl, hb, hg⟩ := hrel
    by_cases hlt : m < k
    · have hlt2 : (m : Int) < k := by omega
      have gm := hg.c m (cellsN_at hlt)
      have fm := hg.frozen m
      have ltg := hg.lt
      have hbn := hb.setCell (p := ⟨W.heap.size, m, none⟩) (Nat.le_refl _) (.int .i64 (m : Int))
      have hgn := hg.set_ m (.int .i64 (m : Int))
      rw [iota_set] at hgn
      have HBn := hide hbn
      have HGn := hide hgn
      clear hbn hgn
      clear hb hg
      gi_wp2_with fail
      go_roundw
      case rel => exact ⟨m + 1, hlt, by go_num, HBn.out, HGn.out⟩
      case measure => simp [intOf] <;> omega
    · obtain rfl : m = k := by omega
      have hkk : ¬ ((m : Int) < m) := by omega
      rw [iota_end] at hg
      have B0 := blk_belowN D0.out hb D0.out.lt
      have B1 := blk_belowN D1.out hb D1.out.lt
      have hszw := hb.size
      have hj0 := HJ.out _ _ _ H0.out (Nat.le_refl _) hb
      obtain ⟨Rel, hRel⟩ : ∃ Rel : Nat → World → Prop, ∀ r wr, Rel r wr ↔ ∃ (pre : List SetV) (t : List Nat), r = N - pre.length ∧ pre.length ≤ N ∧ J pre wr ∧ t.length = m ∧ (m ≤ n → (setsR n m 0)[pre.length]? = some t) ∧ Blk wr W.heap.size 3 (cellsN (fnS t) m) ∧ Blk wr bk 3 #[.int .i64 (m : Nat)] ∧ Blk wr bn 3 #[.int .i64 (n : Nat)] ∧ W.heap.size ≤ wr.heap.size := ⟨_, fun _ _ => Iff.rfl⟩
      have HRel := hide hRel
      have hr0 : Rel N wr := (hRel _ _).2 ⟨[], List.range' 0 m, by simp, Nat.zero_le _, hj0, by simp, HF.out, hg, B0, B1, hszw⟩
      clear hRel hg hb HB Hg
      gi_wp2_with fail
      gi_loopw [6] (fun _ wr => ∃ r, Rel r wr) (fun _ wr => leastOf (fun r => Rel r wr))
      case atStart => exact ⟨N, hr0⟩
      case round =>
        clear hr0 hj0 B0 B1 hszw
        obtain ⟨r0, hr0⟩ : ∃ r0, leastOf (fun r => Rel r wr) = r0 := ⟨_, rfl⟩
        have hq := (leastOf_spec hrel).1
        rw [hr0] at hq
        obtain ⟨pre, t, hr, hpl, hj, ht, hst, hg, hbk, hbn, hsz⟩ := (HRel.out _ _).1 hq
        have HR0 := hide hr0
        clear hq hrel hr0
        have k0 := hbk.c 0 rfl
        have n0 := hbn.c 0 rfl
        have ltk := hbk.lt
        have ltn := hbn.lt
        by_cases hkn : m ≤ n
        · have hkn2 : (m : Int) ≤ n := by omega
          have hs1 := hst hkn
          obtain ⟨-, hpN, hset⟩ := HL.out _ _ hs1
          have hcl := clone_any W.heap.size m t wr ht hk0 hg
          have Hj := hide hj
          have Hg := hide hg
          have Hbk := hide hbk
          have Hbn := hide hbn
          have Hs1 := hide hs1
          have Hset := hide hset
          have Hcl := hide hcl
          clear hj hg hbk hbn hs1 hset hcl
          clear hst
          gi_wp2_with fail
          refine ⟨trivial, ?_⟩
          refine (callsIn_wide.2 Hcl.out).mono ?_
          rintro e w4 ⟨A, c, rfl, hsm, hb⟩
          have hj4 := HJ.out _ _ _ Hj.out hsz (hb.mono hsz)
          have hk4 := blk_later Hbk.out hb
          have hn4 := blk_later Hbn.out hb
          have hg4 := blk_later Hg.out hb
          have hY4 := HY.out pre (t, A, c) w4 hj4 ⟨Hs1.out, hsm⟩ hpN
          dsimp only [setV] at hY4
          rw [ht] at hY4
          have hz4 : W.heap.size ≤ w4.heap.size := Nat.le_trans hsz hb.size
          obtain ⟨fn, tmps, assign, body, hy, hR⟩ := hY4
          have HR := hide hR
          clear hR hj4 hsm hb k0 n0 ltk ltn
          have HK4 := hide hk4
          have HN4 := hide hn4
          have HG4 := hide hg4
          clear hk4 hn4 hg4
          gi_wp2
          refine HR.out.mono ?_
          rintro e w5 (⟨rfl, hJ5, hk5⟩ | ⟨rfl, hJx5⟩)
          · clear hy HR
            have hbk := hk5.blk HK4.out
            have hbn := hk5.blk HN4.out
            have hg := hk5.blk HG4.out
            have hz5 := Nat.le_trans hz4 hk5.size
            clear hk5 HK4 HN4 HG4 Hbk Hbn Hg hz4 hsz
            have HJ5 := hide hJ5
            clear hJ5 Hj
            have k0 := hbk.c 0 rfl
            have n0 := hbn.c 0 rfl
            have ltk := hbk.lt
            have ltn := hbn.lt
            have gtop := fun i => isSet_top (i := i) Hset.out
            have gnone := nextS_none (n := n) (t := t)
            have gsome := fun i => nextS_some (n := n) (t := t) (i := i)
            rw [ht] at gtop gnone gsome
            have gend := HE.out _ _ Hs1.out
            have gX := fun t' => HX.out pre.length t t' Hs1.out
            have hlp : (pre ++ [(t, A, c)]).length = pre.length + 1 := by simp
            have GT := hide gtop
            have GN := hide gnone
            have GS := hide gsome
            have GE := hide gend
            have GX := hide gX
            clear gtop gnone gsome gend gX
            gi_wp2_with fail
            refine wpIn_wide.2 ?_
            have Hg := hide hg
            have Hbk := hide hbk
            have Hbn := hide hbn
            clear hg hbk hbn
            clear k0 n0 ltk ltn
            go_loopw [6] (fun i wr => ∃ p : Nat, p ≤ m ∧ i = .int .i64 (p - 1 : Int) ∧ Below w5.heap.size w5 wr ∧ ∀ j, p ≤ j → j < m → t.getD j 0 + (m - j) = n) (fun i _ => (intOf i + 1).toNat)
            case atStart => exact ⟨m, Nat.le_refl _, by go_num, Below.refl _ _, fun j h1 h2 => by omega⟩
            case round =>
              obtain ⟨p, hp, rfl, hb5, hall⟩ := hrel
              have HA := hide hall
              have k0 := (blk_later Hbk.out hb5).c 0 rfl
              have n0 := (blk_later Hbn.out hb5).c 0 rfl
              have ltk := (blk_later Hbk.out hb5).lt
              have ltn := (blk_later Hbn.out hb5).lt
              clear hall
              by_cases h0 : p = 0
              · subst h0
                have hneg : ¬ ((0 : Int) ≤ ((0 : Nat) : Int) - 1) := by omega
                have hd : decide ((0 : Int) ≤ ((0 : Nat) : Int) - 1) = false := decide_eq_false hneg
                have hNe := GE.out (GN.out fun i hi => HA.out i (by omega) hi)
                go_wp2_with fail
                go_quiet (fail)
                have hL : Below w5.heap.size w5 (wr.drewN nq) := hb5.trans (below_drewN (Below.refl _ _) _)
                generalize (wr.drewN nq : World) = w6 at hL ⊢
                have HL6 := hide hL
                clear hL hb5 k0 n0 ltk ltn
                go_wp2_with fail
                gi_wp2
                refine bodyPost_ret (results_none rfl _ _ _) rfl ?_
                exact ⟨⟨_, rfl⟩, .inl ⟨_, by rw [hlp]; exact hNe, HJ.out _ _ _ HJ5.out hz5 (HL6.out.mono hz5)⟩⟩
              · obtain ⟨q, rfl⟩ : ∃ q, p = q + 1 := ⟨p - 1, by omega⟩
                have hq0 : ((q + 1 : Nat) : Int) - 1 = (q : Int) := by omega
                rw [hq0]
                have gq := (blk_later Hg.out hb5).c q (cellsN_at (by omega))
                have ltg := (blk_later Hg.out hb5).lt
                have hge : (0 : Int) ≤ (q : Int) := by omega
                have hgd : decide ((0 : Int) ≤ (q : Int)) = true := decide_eq_true hge
                have hql : (q : Int) < m := by omega
                have htq := GT.out q (by omega)
                unfold fnS at gq
                by_cases he : t.getD q 0 + (m - q) = n
                · have hed : decide (((t.getD q 0 : Nat) : Int) = (n : Int) - m + q) = true := decide_eq_true (by omega)
                  have hall2 : ∀ j, q ≤ j → j < m → t.getD j 0 + (m - j) = n := fun j h1 h2 => by
                    by_cases e : j = q
                    · subst e; exact he
                    · exact HA.out j (by omega) h2
                  have HA2 := hide hall2
                  clear hall2
                  generalize t.getD q 0 = tq at *
                  go_wp2_with fail
                  go_quiet (fail)
                  have hL : Below w5.heap.size w5 (wr.drewN nq) := hb5.trans (below_drewN (Below.refl _ _) _)
                  generalize (wr.drewN nq : World) = w6 at hL ⊢
                  have HL6 := hide hL
                  clear hL hb5 k0 n0 ltk ltn
                  clear gq ltg
                  go_wp2_with fail
                  go_roundw
                  case rel => exact ⟨q, by omega, by go_num, HL6.out, HA2.out⟩
                  case measure => simp [intOf] <;> omega
                · have hed : decide (((t.getD q 0 : Nat) : Int) = (n : Int) - m + q) = false := decide_eq_false (by omega)
                  have hns := GS.out q (by omega) (by omega) (fun j h1 h2 => HA.out j (by omega) h2)
                  have hx := GX.out _ hns
                  have Hx := hide hx
                  clear hns hx
                  obtain ⟨tq, htq0⟩ : ∃ a, t.getD q 0 = a := ⟨_, rfl⟩
                  have Htq := hide htq0
                  rw [htq0] at gq htq he hed
                  clear htq0
                  have hed2 : (((tq : Nat) : Int) == (n : Int) - m + q) = false := by rw [beq_eq_false_iff_ne]; omega
                  go_wp2_with fail
                  go_quiet (fail)
                  have hL : Below w5.heap.size w5 (wr.drewN nq) := hb5.trans (below_drewN (Below.refl _ _) _)
                  generalize (wr.drewN nq : World) = w6 at hL ⊢
                  have HL6 := hide hL
                  clear hL hb5 k0 n0 ltk ltn
                  clear gq ltg
                  go_wp2_with fail
                  have hg6 := blk_later Hg.out HL6.out
                  have gq := hg6.c q (cellsN_at (by omega))
                  have fq := hg6.frozen q
                  have ltg := hg6.lt
                  unfold fnS at gq
                  rw [Htq.out] at gq
                  have hgs := hg6.set_ q (.int .i64 ((tq : Int) + 1))
                  have hf := step_first (t := t) (p := q) (k := m)
                  rw [Htq.out] at hf
                  rw [hf] at hgs
                  have hz6 : W.heap.size ≤ w6.heap.size := Nat.le_trans hz5 HL6.out.size
                  have hbs := (HL6.out.mono hz5).setCell (p := ⟨W.heap.size, q, none⟩) (Nat.le_refl _) (.int .i64 ((tq : Int) + 1))
                  have hk6 := (blk_later Hbk.out HL6.out)
                  have hn6 := (blk_later Hbn.out HL6.out)
                  have hne1 : bk ≠ W.heap.size := by have := D0.out.lt; omega
                  have hne2 : bn ≠ W.heap.size := by have := D1.out.lt; omega
                  have hks := hk6.far (p := ⟨W.heap.size, q, none⟩) hne1 (.int .i64 ((tq : Int) + 1))
                  have hns := hn6.far (p := ⟨W.heap.size, q, none⟩) hne2 (.int .i64 ((tq : Int) + 1))
                  have hjs := HJ.out _ _ _ HJ5.out hz5 hbs
                  have hzs : W.heap.size ≤ (w6.setCell ⟨W.heap.size, q, none⟩ (.int .i64 ((tq : Int) + 1))).heap.size := by simpa using hz6
                  have HGS := hide hgs
                  have HKS := hide hks
                  have HNS := hide hns
                  have HJS := hide hjs
                  have HZS := hide hzs
                  clear hgs hks hns hjs hzs
                  clear hg6 hf hk6 hn6 hbs
                  gi_wp2_with fail
                  gi_loopw [6] (fun i wr => ∃ e : Nat, q ≤ e ∧ e < m ∧ i = .int .i64 e ∧ Blk wr W.heap.size 3 (cellsN (stepN t q e) m) ∧ Blk wr bk 3 #[.int .i64 (m : Nat)] ∧ Blk wr bn 3 #[.int .i64 (n : Nat)] ∧ J (pre ++ [(t, A, c)]) wr ∧ W.heap.size ≤ wr.heap.size) (fun i _ => m - (intOf i).toNat)
                  case atStart => exact ⟨q, Nat.le_refl _, by omega, rfl, HGS.out, HKS.out, HNS.out, HJS.out, HZS.out⟩
                  case round =>
                    obtain ⟨e, he1, he2, rfl, hg7, hk7, hn7, hj7, hz7⟩ := hrel
                    clear HGS HKS HNS HJS HZS gq fq ltg
                    have k0 := hk7.c 0 rfl
                    have ltk := hk7.lt
                    by_cases hlt : e + 1 < m
                    · have hlt2 : (e : Int) + 1 < m := by omega
                      have ge := hg7.c e (cellsN_at (by omega))
                      have fe := hg7.frozen (e + 1)
                      have ge1 := hg7.c (e + 1) (cellsN_at hlt)
                      have ltg := hg7.lt
                      rw [step_at he1, Htq.out] at ge
                      have hgs := hg7.set_ (e + 1) (.int .i64 ((tq : Int) + 1 + ((e : Int) - q) + 1))
                      have hf := step_next (t := t) (p := q) (i := e) (k := m) he1
                      rw [Htq.out] at hf
                      rw [hf] at hgs
                      have hks := hk7.far (p := ⟨W.heap.size, e + 1, none⟩) hne1 (.int .i64 ((tq : Int) + 1 + ((e : Int) - q) + 1))
                      have hns := hn7.far (p := ⟨W.heap.size, e + 1, none⟩) hne2 (.int .i64 ((tq : Int) + 1 + ((e : Int) - q) + 1))
                      have hjs := HJ.out _ _ _ hj7 hz7 ((Below.refl W.heap.size wr).setCell (p := ⟨W.heap.size, e + 1, none⟩) (Nat.le_refl _) (.int .i64 ((tq : Int) + 1 + ((e : Int) - q) + 1)))
                      have hzs : W.heap.size ≤ (wr.setCell ⟨W.heap.size, e + 1, none⟩ (.int .i64 ((tq : Int) + 1 + ((e : Int) - q) + 1))).heap.size := by simpa using hz7
                      have HGS := hide hgs
                      have HKS := hide hks
                      have HNS := hide hns
                      have HJS := hide hjs
                      have HZS := hide hzs
                      clear hgs hks hns hjs hzs
                      clear hg7 hk7 hn7 hj7 hf
                      gi_wp2_with fail
                      go_roundw
                      case rel => exact ⟨e + 1, by omega, hlt, by go_num, HGS.out, HKS.out, HNS.out, HJS.out, HZS.out⟩
                      case measure => simp [intOf] <;> omega
                    · obtain rfl : e = m - 1 := by omega
                      have hge2 : ¬ (((m - 1 : Nat) : Int) + 1 < m) := by omega
                      have hgz : cellsN (stepN t q (m - 1)) m = _ := step_end ht (by omega)
                      rw [hgz, Htq.out] at hg7
                      rw [Htq.out] at Hx
                      have hn1 : Rel (N - (pre ++ [(t, A, c)]).length) wr := (HRel.out _ _).2 ⟨_, _, rfl, by omega, hj7, by simp [ht]; omega, fun _ => by rw [hlp]; exact Hx.out, hg7, hk7, hn7, hz7⟩
                      gi_wp2
                      refine ⟨⟨_, hn1⟩, Nat.lt_of_le_of_lt ((leastOf_spec ⟨_, hn1⟩).2 _ hn1) ?_⟩
                      have h9 := HR0.out
                      omega
          · clear hy HR
            have HX5 := hide hJx5
            clear hJx5
            gi_wp2
            refine bodyPost_end (results_none rfl _ _ _) rfl ?_
            exact ⟨⟨_, rfl⟩, .inr ⟨_, trivial, HX5.out⟩⟩
        · have hkn2 : ¬ (m : Int) ≤ n := by omega
          have h0 := HN0.out hkn
          gi_wp2_with fail
          refine ⟨trivial, ?_⟩
          gi_wp2_with fail
          refine ⟨fun f h => (by cases h), ?_⟩
          gi_wp2
          refine bodyPost_end (results_none rfl _ _ _) rfl ?_
          exact ⟨⟨_, rfl⟩, .inl ⟨pre, by omega, hj⟩⟩
end Go.Proofs.Ytllpffkifleigaa
end
section
namespace Go.Proofs.Ytllpffkifleigaa
open Go Go.RowKit
attribute [local go_sem] Oper.semAt_some

theorem sets_any (n k : Int) (w : World) :
    Calls Try.prog 103 #[.int .i64 n, .int .i64 k] w fun e w' =>
      e = .returned (.func (.func 119) #[] #[.pointer (some ⟨w.heap.size + 1, 0, none⟩), .pointer (some ⟨w.heap.size, 0, none⟩)]) ∧
      Below w.heap.size w w' ∧ w'.heap.size = w.heap.size + 2 ∧ Blk w' w.heap.size 3 #[.int .i64 n] ∧ Blk w' (w.heap.size + 1) 3 #[.int .i64 k] := by
  go_enter Try.func103, Try.ntmps103
  go_wp2
  refine bodyPost_ret (by simp [results, Try.results103, go_sem]) rfl ⟨rfl, ?_, by simp, ?_, ?_⟩
  · exact ((Below.refl _ _).alloc (Nat.le_refl _) _).alloc (by simp) _
  · exact (Blk.new _ _ _).alloc _
  · exact blk_new_at (by simp)
theorem BI_low {β : Type} {base B B' : Nat} {w : World} {Ds : List Nat} {f : β → List (Nat × TypeId × Array Value)} (hb : base ≤ B') (hD : ∀ D, D ∈ Ds → D < B') (hf : ∀ s x, x ∈ f s → x.1 < B') (hB : B ≤ B') : LowFrom B' (fun s W => BI base B w Ds (f s) W) :=
  fun s W W' hs hw hbl => ⟨hs.1.trans (hbl.mono hb), ⟨hs.2.1.1, fun D hm => ⟨(hs.2.1.2 D hm).1, (hbl.block D (hD D hm)).trans (hs.2.1.2 D hm).2⟩⟩, Nat.le_trans hB (Nat.le_trans hw hbl.size), fun x hx => blk_belowN (hs.2.2.2 x hx) hbl (hf s x hx)⟩
theorem lowFrom_and {β : Type} {B : Nat} {I I' : β → World → Prop} (h : LowFrom B I) (h' : LowFrom B I') : LowFrom B (fun s W => I s W ∧ I' s W) := fun s W W' hs hw hb => ⟨h s W W' hs.1 hw hb, h' s W W' hs.2 hw hb⟩
theorem lowFrom_pure {β : Type} (B : Nat) (p : β → Prop) : LowFrom B (fun s _ => p s) := fun _ _ _ h _ _ => h
theorem keptc_later {X W W' : World} (h : KeptC X W) (hb : Below W.heap.size W W') : KeptC X W' := h.trans (KeptC.of_below hb)
theorem blk_neT {W : World} {g g' : Nat} {t t' : TypeId} {cs cs' : Array Value} (h : Blk W g t cs) (h' : Blk W g' t' cs') (ht : t ≠ t') : g ≠ g' := fun e => by
  subst e
  have h1 : W.heap[g]? = some (.cells cs t (0, 0)) := h
  have h2 : W.heap[g]? = some (.cells cs' t' (0, 0)) := h'
  rw [h1] at h2
  injection h2 with h2
  injection h2 with _ h2 _
  exact ht h2
/-- What is found. -/
def fstA (P : List Nat → Bool) (n a b : Nat) : List Nat := (firstS P n a b).getD []
def fstB (P : List Nat → Bool) (n a b : Nat) : Bool := (firstS P n a b).isSome
def FirstPost (P : List Nat → Bool) (n a b : Nat) (w : World) (e : Ending) (w' : World) : Prop :=
  ∃ A c, e = .returned (.tuple #[.slice A (fstA P n a b).length c, .bool (fstB P n a b)]) ∧ Below w.heap.size w w' ∧ SetM w' A (fstA P n a b)
set_option maxHeartbeats 4000000 in
set_option maxRecDepth 100000 in
theorem firstBlame_any (P : List Nat → Bool) (n a b bl : Nat) (w : World) (hn : n ≤ 360) (hab : a ≤ b + 1) (hb : b ≤ 3)
    (hP : ∀ W A t c, Below w.heap.size w W → SetM W A t → IsSet n 0 t → t.length ≤ 3 → Calls Try.prog 73 #[.slice A t.length c, .pointer (some ⟨bl, 0, none⟩)] W fun e w' => e = .returned (.bool (P t)) ∧ Below W.heap.size W w') :
    Calls Try.prog 72 #[.int .i64 (n : Nat), .int .i64 (a : Nat), .int .i64 (b : Nat), .func (.func 73) #[] #[.pointer (some ⟨bl, 0, none⟩)]] w (FirstPost P n a b w) := by
  have HP := hide hP
  clear hP
  refine (callsIn_wide (n := 8)).1 (callsIn_of_wp_marks Try.func72 rfl trivial (wpIn_wide.2 ?_))
  simp only [Try.ntmps72, List.size_toArray, List.length_cons, List.length_nil, Nat.reduceAdd, Nat.reduceSub, Array.replicate_succ, Array.replicate_zero, List.push_toArray, List.append_toArray, List.nil_append, List.cons_append]
  have HB := hide (Below.refl w.heap.size w)
  go_wp2_with fail
  refine code_world fun W5 hW => ?_
  have bq0 : Blk W5 w.heap.size 142 #[.func (.func 73) #[] #[.pointer (some ⟨bl, 0, none⟩)]] := by rw [hW]; exact ((Blk.new _ _ _).alloc _).alloc _
  have bq1 : Blk W5 (w.heap.size + 1) 44 #[.slice none 0 0] := by rw [hW]; exact (blk_new_at (by simp)).alloc _
  have bq2 : Blk W5 (w.heap.size + 2) 4 #[.bool false] := by rw [hW]; exact blk_new_at (by simp)
  have LW : Later w W5 := by rw [hW]; exact ((((Below.refl _ _).alloc (Nat.le_refl _) _).alloc (by simp; try omega) _).alloc (by simp; try omega) _)
  have szW : W5.heap.size = w.heap.size + 3 := by rw [hW]; simp
  clear hW
  replace HB := hide (onward HB.out LW)
  have Hw := hide bq0
  have Hs := hide bq1
  have Hi := hide bq2
  clear bq0 bq1 bq2 LW szW
  go_wp2_with fail
  obtain ⟨INV, hINV⟩ : ∃ INV : Act → World → Prop, INV = (fun a' wr => ∃ u4 u5 u6 u11 u12 u13 u14 u15 u16 u17 u18 u19 u20 u21 u22 u23 u24 u25 : Value, ∃ (k : Nat) (Ds : List Nat), a ≤ k ∧ k ≤ b + 1 ∧ (∀ k', a ≤ k' → k' < k → ∀ s ∈ setsR n k' 0, P s = false) ∧ BI w.heap.size w.heap.size w Ds [(w.heap.size, 142, #[.func (.func 73) #[] #[.pointer (some ⟨bl, 0, none⟩)]]), (w.heap.size + 1, 44, #[.slice none 0 0]), (w.heap.size + 2, 4, #[.bool false])] wr ∧ a' = { tmps := #[.int .i64 (n : Nat), .int .i64 (a : Nat), .int .i64 (b : Nat), .func (.func 73) #[] #[.pointer (some ⟨bl, 0, none⟩)], u4, u5, u6, .pointer (some ⟨w.heap.size, 0, none⟩), .pointer (some ⟨w.heap.size + 1, 0, none⟩), .pointer (some ⟨w.heap.size + 1 + 1, 0, none⟩), .int .i64 (k : Nat), u11, u12, u13, u14, u15, u16, u17, u18, u19, u20, u21, u22, u23, u24, u25], defers := Ds.map markD }) := ⟨_, rfl⟩
  have HINV := hide hINV
  clear hINV
  refine wp_loop INV (fun a' _ => b + 1 - (intOf (a'.tmps.getD 10 undef)).toNat) ?_ ?_
  · rw [HINV.out]
    iterate 18 (apply Exists.intro)
    exact ⟨a, [], Nat.le_refl _, hab, fun k' h1 h2 => by omega, ⟨HB.out, marks_nil _ _, HB.out.size, List.forall_mem_cons.2 ⟨Hw.out, List.forall_mem_cons.2 ⟨Hs.out, List.forall_mem_cons.2 ⟨Hi.out, fun _ hx => absurd hx List.not_mem_nil⟩⟩⟩⟩, rfl⟩
  · intro a' wr hinv
    rw [HINV.out] at hinv
    obtain ⟨u4, hinv⟩ := hinv
    obtain ⟨u5, hinv⟩ := hinv
    obtain ⟨u6, hinv⟩ := hinv
    obtain ⟨u11, hinv⟩ := hinv
    obtain ⟨u12, hinv⟩ := hinv
    obtain ⟨u13, hinv⟩ := hinv
    obtain ⟨u14, hinv⟩ := hinv
    obtain ⟨u15, hinv⟩ := hinv
    obtain ⟨u16, hinv⟩ := hinv
    obtain ⟨u17, hinv⟩ := hinv
    obtain ⟨u18, hinv⟩ := hinv
    obtain ⟨u19, hinv⟩ := hinv
    obtain ⟨u20, hinv⟩ := hinv
    obtain ⟨u21, hinv⟩ := hinv
    obtain ⟨u22, hinv⟩ := hinv
    obtain ⟨u23, hinv⟩ := hinv
    obtain ⟨u24, hinv⟩ := hinv
    obtain ⟨u25, hinv⟩ := hinv
    obtain ⟨k, Ds, hk1, hk2, hno, hbi, ha⟩ := hinv
    subst ha
    dsimp only
    obtain ⟨hbw, hmk, hsw, hblk⟩ := hbi
    clear Hw Hs Hi HB
    obtain ⟨hw, hbk0⟩ := List.forall_mem_cons.1 hblk
    obtain ⟨hs, hbk1⟩ := List.forall_mem_cons.1 hbk0
    obtain ⟨hi, hbk2⟩ := List.forall_mem_cons.1 hbk1
    clear hblk hbk0 hbk1 hbk2
    have Hw := hide hw
    have Hs := hide hs
    have Hi := hide hi
    have HB := hide hbw
    have Hmk := hide hmk
    have Hno := hide hno
    clear hw hs hi hbw hmk hno
    by_cases hlk : k ≤ b
    · have hlk2 : (k : Int) ≤ b := by omega
      go_wp2_with fail
      refine (sets_any _ _ _).mono ?_
      rintro e w6 ⟨rfl, hb, hz6, kn, kk⟩
      replace Hmk := hide (MarksOK.later Hmk.out hb)
      replace Hw := hide (blk_later Hw.out hb)
      replace Hs := hide (blk_later Hs.out hb)
      replace Hi := hide (blk_later Hi.out hb)
      replace HB := hide (onward HB.out hb)
      clear hb
      have hw6 := Hw.out.lt
      have hi6 := Hi.out.lt
      have hmlt := Hmk.out.lt
      have hst := sets_stops n k (wr.heap.size + 1) wr.heap.size w6 (by omega) (by omega) kk kn
      have hbs := HB.out.size
      obtain ⟨II, hII⟩ : ∃ II : List SetV → World → Prop, II = (fun pre W => BI w.heap.size w6.heap.size w Ds [(w.heap.size, 142, #[.func (.func 73) #[] #[.pointer (some ⟨bl, 0, none⟩)]]), (w.heap.size + 1, 44, #[.slice none 0 0]), (w.heap.size + 2, 4, #[.bool false])] W ∧ ∀ j t, j < pre.length → (setsR n k 0)[j]? = some t → P t = false) := ⟨_, rfl⟩
      obtain ⟨IX, hIX⟩ : ∃ IX : Code → List SetV → World → Prop, IX = (fun jc pre W => ∃ y : SetV × Nat, BI w.heap.size w6.heap.size w Ds [(w.heap.size + 1, 44, #[.slice y.1.2.1 y.1.1.length y.1.2.2]), (w.heap.size + 2, 4, #[.bool true])] W ∧ SetM W y.1.2.1 y.1.1 ∧ (jc = .ret ∧ (setsR n k 0)[y.2]? = some y.1.1 ∧ P y.1.1 = true ∧ ∀ j t, j < y.2 → (setsR n k 0)[j]? = some t → P t = false)) := ⟨_, rfl⟩
      have HII := hide hII
      have HIX := hide hIX
      clear hII hIX
      go_wp2_with fail
      refine wp_rangeM (α := SetV) (p := 21) (d := 11) rfl (enters_of Try.func119 (by kernel_rfl) rfl) (v0 := setV) hst (fun h k => h.trans k) (fun W l o o' _ h1 h2 => KeptC.putObj W l o o' h1 h2) (Below.refl _ _)
        (fun pre x => OwnFrom.and (ownFrom_pure _ _) SetM.own) II IX
        (by rw [HII.out]; exact lowFrom_and (BI_low hbs hmlt (fun s x hx => by
          simp only [List.mem_cons, List.not_mem_nil, or_false] at hx
          rcases hx with rfl | rfl | rfl <;> simp only <;> omega) (Nat.le_refl _)) (lowFrom_pure _ _))
        (fun c => by rw [HIX.out]; exact ownFrom_ex fun y => OwnFrom.and (BI_own hbs hmlt) (OwnFrom.and (fun s => SetM.own ()) (ownFrom_pure _ _)))
        (by rw [HII.out]; exact ⟨⟨HB.out, Hmk.out, Nat.le_refl _, List.forall_mem_cons.2 ⟨Hw.out, List.forall_mem_cons.2 ⟨Hs.out, List.forall_mem_cons.2 ⟨Hi.out, fun _ hx => absurd hx List.not_mem_nil⟩⟩⟩⟩, fun j t hj => absurd hj (Nat.not_lt_zero _)⟩)
        ?assign ?body ?done ?stop
      case assign =>
        intro lp x W K hK
        gi_wp2
        exact hK
      case body =>
        intro lp pre x W hi hm hlen
        rw [HII.out] at hi
        obtain ⟨⟨hbw, hmk, hsw, hblk⟩, hno⟩ := hi
        clear Hw Hs Hi HB Hmk hst hmlt hbs hz6 hw6 hi6
        obtain ⟨hw, hbk0⟩ := List.forall_mem_cons.1 hblk
        obtain ⟨hs, hbk1⟩ := List.forall_mem_cons.1 hbk0
        obtain ⟨hi2, hbk2⟩ := List.forall_mem_cons.1 hbk1
        clear hblk hbk0 hbk1 hbk2
        obtain ⟨hx, hset⟩ := hm
        obtain ⟨t, A, c⟩ := x
        simp only at hx hset
        have hts := setsR_set (List.mem_of_getElem? hx)
        have htl := setsR_len (List.mem_of_getElem? hx)
        have hc := HP.out W A t c hbw hset hts (by omega)
        obtain ⟨r, hr⟩ : ∃ r, P t = r := ⟨_, rfl⟩
        rw [hr, htl] at hc
        unfold setV
        dsimp only
        rw [htl]
        simp only [List.setIfInBounds_toArray, List.set_cons_succ, List.set_cons_zero]
        have Hw := hide hw
        have Hs := hide hs
        have Hi := hide hi2
        have HB := hide hbw
        have Hmk := hide hmk
        have HZ := hide hsw
        have HS := hide hset
        have Hno2 := hide hno
        have Hx := hide hx
        have Hr := hide hr
        have Hc := hide hc
        clear hw hs hi2 hbw hmk hsw hset hno hx hr hc
        have HKF := hide (KeepsFrom.refl w6.heap.size W)
        have HKC := hide (Below.refl W.heap.size W)
        have f0 := Hw.out.c 0 rfl
        have ltf := Hw.out.lt
        gi_wp2_with fail
        refine ⟨trivial, ?_⟩
        refine (CallsIn.inRound lp (callsIn_wide.2 (Hc.out))).mono ?_
        rintro e V ⟨rfl, hb⟩
        replace Hmk := hide (MarksOK.later Hmk.out hb)
        replace HZ := hide (Nat.le_trans HZ.out (Below.size hb))
        replace HS := hide (HS.out.later hb)
        replace HKF := hide (keepf_later HKF.out hb)
        replace Hw := hide (blk_later Hw.out hb)
        replace Hs := hide (blk_later Hs.out hb)
        replace Hi := hide (blk_later Hi.out hb)
        replace HB := hide (onward HB.out hb)
        replace HKC := hide (onward HKC.out hb)
        clear hb f0 ltf
        cases r with
        | true =>
          have y0 := Hs.out.c 0 rfl
          have lty := Hs.out.lt
          have fy0 := Hs.out.frozen 0
          have z0 := Hi.out.c 0 rfl
          have ltz := Hi.out.lt
          have fz0 := Hi.out.frozen 0
          have hs2 := (Hs.out.set_ 0 (.slice A k c)).far (p := ⟨w.heap.size + 1 + 1, 0, none⟩) (by simp) (.bool true)
          have hi2 := (Hi.out.far (p := ⟨w.heap.size + 1, 0, none⟩) (by simp) (.slice A k c)).set_ 0 (.bool true)
          have hn1 := HS.out
          have hm1 := Hmk.out.setCell Hs.out 0 (.slice A k c)
          have hm2 := hm1.setCell (Hi.out.far (p := ⟨w.heap.size + 1, 0, none⟩) (by simp) (.slice A k c)) 0 (.bool true)
          have hset3 : SetM ((V.setCell ⟨w.heap.size + 1, 0, none⟩ (.slice A k c)).setCell ⟨w.heap.size + 1 + 1, 0, none⟩ (.bool true)) A t := fun hl => by
            obtain ⟨b', cs, e, hk, hcs⟩ := hn1 hl
            have hb8 := And.intro (blk_neT hk Hs.out (by decide)) (blk_neT hk Hi.out (by decide))
            exact ⟨b', cs, e, (hk.far (p := ⟨w.heap.size + 1, 0, none⟩) hb8.1 _).far (p := ⟨w.heap.size + 1 + 1, 0, none⟩) hb8.2 _, hcs⟩
          have HS2 := hide hs2
          have HI2 := hide hi2
          have HM2 := hide hm2
          have HS3 := hide hset3
          clear hs2 hi2 hm2 hset3
          clear hn1 hm1
          gi_wp2
          refine ⟨keepf_set (keepf_set HKF.out _ _) _ _, ?_⟩
          rw [HIX.out]
          refine ⟨((t, A, c), pre.length), ⟨(HB.out.setCell (by simp) _).setCell (by simp; omega) _, HM2.out, by simp; exact HZ.out, List.forall_mem_cons.2 ⟨?_, List.forall_mem_cons.2 ⟨HI2.out, fun x hx => absurd hx List.not_mem_nil⟩⟩⟩, HS3.out, rfl, Hx.out, Hr.out, Hno2.out⟩
          rw [htl]
          exact HS2.out
        | false =>
          gi_wp2
          refine ⟨HKF.out, KeptC.of_below HKC.out, ?_⟩
          rw [HII.out]
          refine ⟨⟨HB.out, Hmk.out, HZ.out, List.forall_mem_cons.2 ⟨Hw.out, List.forall_mem_cons.2 ⟨Hs.out, List.forall_mem_cons.2 ⟨Hi.out, fun x hx => absurd hx List.not_mem_nil⟩⟩⟩⟩, fun j t' hj ht' => ?_⟩
          by_cases e : j < pre.length
          · exact Hno2.out j t' e ht'
          · have e2 : j = pre.length := by simp at hj; omega
            subst e2
            rw [Hx.out] at ht'
            injection ht' with ht'
            rw [← ht']
            exact Hr.out
      case done =>
        intro D xs W hD hxs hi hdd
        rw [HII.out] at hi
        obtain ⟨⟨hbw, hmk, hsw, hblk⟩, hno2⟩ := hi
        clear Hw Hs Hi HB Hmk hst hz6
        obtain ⟨hw, hbk0⟩ := List.forall_mem_cons.1 hblk
        obtain ⟨hs, hbk1⟩ := List.forall_mem_cons.1 hbk0
        obtain ⟨hi2, hbk2⟩ := List.forall_mem_cons.1 hbk1
        clear hblk hbk0 hbk1 hbk2
        replace hmk := hmk.cons (fun hDm => by have := hmlt D hDm; omega) (by omega) hdd
        have hno3 : ∀ k', a ≤ k' → k' < k + 1 → ∀ s ∈ setsR n k' 0, P s = false := fun k' h1 h2 s hs => by
          by_cases e : k' < k
          · exact Hno.out k' h1 e s hs
          · have e2 : k' = k := by omega
            subst e2
            obtain ⟨j, hj, rfl⟩ := List.getElem_of_mem hs
            exact hno2 j _ (by omega) (List.getElem?_eq_getElem hj)
        go_wp2
        refine ⟨?_, ?_⟩
        · rw [HINV.out]
          iterate 18 (apply Exists.intro)
          refine ⟨k + 1, D :: Ds, by omega, by omega, hno3, ⟨hbw, hmk, hbw.size, List.forall_mem_cons.2 ⟨hw, List.forall_mem_cons.2 ⟨hs, List.forall_mem_cons.2 ⟨hi2, fun _ hx => absurd hx List.not_mem_nil⟩⟩⟩⟩, ?_⟩
          rw [show ((k + 1 : Nat) : Int) = (k : Int) + 1 by omega]
          rfl
        · simp [intOf] <;> omega
      case stop =>
        intro D jc pre W hD hpre hix hdd
        rw [HIX.out] at hix
        obtain ⟨⟨⟨t, A, c⟩, j⟩, ⟨hbw, hmk, hsw, hblk⟩, hset, rfl, hj, hpt, hbef⟩ := hix
        simp only at hset hj hpt hbef hblk
        obtain ⟨hs, hbk1⟩ := List.forall_mem_cons.1 hblk
        obtain ⟨hi2, hbk2⟩ := List.forall_mem_cons.1 hbk1
        clear hblk hbk1 hbk2 Hw Hs Hi HB Hmk hst hz6
        replace hmk := hmk.cons (fun hDm => by have := hmlt D hDm; omega) (by omega) hdd
        have hf : firstS P n a b = some t := firstS_some hk1 hlk Hno.out hbef hj hpt
        go_wp2
        refine leaves_marks (D :: Ds) W hmk hbw.size fun w' hbw' hcells => ?_
        have r0 := (hcells _ _ _ hs).c 0 rfl
        have r1 := (hcells _ _ _ hi2).c 0 rfl
        have l0 := (hcells _ _ _ hs).lt
        have l1 := (hcells _ _ _ hi2).lt
        have hA : fstA P n a b = t := by unfold fstA; rw [hf]; rfl
        have hB : fstB P n a b = true := by unfold fstB; rw [hf]; rfl
        refine ⟨.tuple #[.slice A t.length c, .bool true], by simp [results, Try.results72, go_sem, r0, r1, l0, l1], A, c, by rw [hA, hB], hbw.trans hbw', ?_⟩
        rw [hA]
        intro hn
        obtain ⟨b', cs, e, hk, hc⟩ := hset hn
        exact ⟨b', cs, e, hcells _ _ _ hk, hc⟩
    · have hlk2 : ¬ (k : Int) ≤ b := by omega
      have hf : firstS P n a b = none := by
        unfold firstS
        rw [List.find?_eq_none]
        intro s hs
        obtain ⟨k', h1, h2⟩ := List.mem_flatMap.1 hs
        have h3 := List.mem_range'_1.1 h1
        rw [Hno.out k' h3.1 (by omega) s h2]
        decide
      have hA : fstA P n a b = [] := by unfold fstA; rw [hf]; rfl
      have hB : fstB P n a b = false := by unfold fstB; rw [hf]; rfl
      have y0 := Hs.out.c 0 rfl
      have lty := Hs.out.lt
      have fy0 := Hs.out.frozen 0
      have z0 := Hi.out.c 0 rfl
      have ltz := Hi.out.lt
      have fz0 := Hi.out.frozen 0
      have hne : w.heap.size + 1 ≠ w.heap.size + 1 + 1 := by omega
      have hs2 := (Hs.out.set_ 0 (.slice none 0 0)).far (p := ⟨w.heap.size + 1 + 1, 0, none⟩) (by simp) (.bool false)
      have hi2 := (Hi.out.far (p := ⟨w.heap.size + 1, 0, none⟩) (by simp) (.slice none 0 0)).set_ 0 (.bool false)
      have hm1 := Hmk.out.setCell Hs.out 0 (.slice none 0 0)
      have hm2 := hm1.setCell (Hi.out.far (p := ⟨w.heap.size + 1, 0, none⟩) (by simp) (.slice none 0 0)) 0 (.bool false)
      have HS2 := hide hs2
      have HI2 := hide hi2
      have HM2 := hide hm2
      clear hs2 hi2 hm2
      clear hm1
      go_wp2
      have hbz := (HB.out.setCell (p := ⟨w.heap.size + 1, 0, none⟩) (by simp) (.slice none 0 0)).setCell (p := ⟨w.heap.size + 1 + 1, 0, none⟩) (by simp; omega) (.bool false)
      refine leaves_marks Ds _ HM2.out hbz.size fun w' hbw' hcells => ?_
      have r0 := (hcells _ _ _ HS2.out).c 0 rfl
      have r1 := (hcells _ _ _ HI2.out).c 0 rfl
      have l0 := (hcells _ _ _ HS2.out).lt
      have l1 := (hcells _ _ _ HI2.out).lt
      refine ⟨.tuple #[.slice none 0 0, .bool false], by simp [results, Try.results72, go_sem, r0, r1, l0, l1], none, 0, by rw [hA, hB]; rfl, hbz.trans hbw', ?_⟩
      rw [hA]
      intro hn
      simp at hn
set_option maxHeartbeats 4000000 in
set_option maxRecDepth 100000 in
theorem firstWithout_any (P : List Nat → Bool) (n a b bl : Nat) (w : World) (hn : n ≤ 360) (hab : a ≤ b + 1) (hb : b ≤ 3)
    (hP : ∀ W A t c, Below w.heap.size w W → SetM W A t → IsSet n 0 t → t.length ≤ 3 → Calls Try.prog 78 #[.slice A t.length c, .pointer (some ⟨bl, 0, none⟩)] W fun e w' => e = .returned (.bool (P t)) ∧ Below W.heap.size W w') :
    Calls Try.prog 72 #[.int .i64 (n : Nat), .int .i64 (a : Nat), .int .i64 (b : Nat), .func (.func 78) #[] #[.pointer (some ⟨bl, 0, none⟩)]] w (FirstPost P n a b w) := by
  have HP := hide hP
  clear hP
  refine (callsIn_wide (n := 8)).1 (callsIn_of_wp_marks Try.func72 rfl trivial (wpIn_wide.2 ?_))
  simp only [Try.ntmps72, List.size_toArray, List.length_cons, List.length_nil, Nat.reduceAdd, Nat.reduceSub, Array.replicate_succ, Array.replicate_zero, List.push_toArray, List.append_toArray, List.nil_append, List.cons_append]
  have HB := hide (Below.refl w.heap.size w)
  go_wp2_with fail
  refine code_world fun W5 hW => ?_
  have bq0 : Blk W5 w.heap.size 142 #[.func (.func 78) #[] #[.pointer (some ⟨bl, 0, none⟩)]] := by rw [hW]; exact ((Blk.new _ _ _).alloc _).alloc _
  have bq1 : Blk W5 (w.heap.size + 1) 44 #[.slice none 0 0] := by rw [hW]; exact (blk_new_at (by simp)).alloc _
  have bq2 : Blk W5 (w.heap.size + 2) 4 #[.bool false] := by rw [hW]; exact blk_new_at (by simp)
  have LW : Later w W5 := by rw [hW]; exact ((((Below.refl _ _).alloc (Nat.le_refl _) _).alloc (by simp; try omega) _).alloc (by simp; try omega) _)
  have szW : W5.heap.size = w.heap.size + 3 := by rw [hW]; simp
  clear hW
  replace HB := hide (onward HB.out LW)
  have Hw := hide bq0
  have Hs := hide bq1
  have Hi := hide bq2
  clear bq0 bq1 bq2 LW szW
  go_wp2_with fail
  obtain ⟨INV, hINV⟩ : ∃ INV : Act → World → Prop, INV = (fun a' wr => ∃ u4 u5 u6 u11 u12 u13 u14 u15 u16 u17 u18 u19 u20 u21 u22 u23 u24 u25 : Value, ∃ (k : Nat) (Ds : List Nat), a ≤ k ∧ k ≤ b + 1 ∧ (∀ k', a ≤ k' → k' < k → ∀ s ∈ setsR n k' 0, P s = false) ∧ BI w.heap.size w.heap.size w Ds [(w.heap.size, 142, #[.func (.func 78) #[] #[.pointer (some ⟨bl, 0, none⟩)]]), (w.heap.size + 1, 44, #[.slice none 0 0]), (w.heap.size + 2, 4, #[.bool false])] wr ∧ a' = { tmps := #[.int .i64 (n : Nat), .int .i64 (a : Nat), .int .i64 (b : Nat), .func (.func 78) #[] #[.pointer (some ⟨bl, 0, none⟩)], u4, u5, u6, .pointer (some ⟨w.heap.size, 0, none⟩), .pointer (some ⟨w.heap.size + 1, 0, none⟩), .pointer (some ⟨w.heap.size + 1 + 1, 0, none⟩), .int .i64 (k : Nat), u11, u12, u13, u14, u15, u16, u17, u18, u19, u20, u21, u22, u23, u24, u25], defers := Ds.map markD }) := ⟨_, rfl⟩
  have HINV := hide hINV
  clear hINV
  refine wp_loop INV (fun a' _ => b + 1 - (intOf (a'.tmps.getD 10 undef)).toNat) ?_ ?_
  · rw [HINV.out]
    iterate 18 (apply Exists.intro)
    exact ⟨a, [], Nat.le_refl _, hab, fun k' h1 h2 => by omega, ⟨HB.out, marks_nil _ _, HB.out.size, List.forall_mem_cons.2 ⟨Hw.out, List.forall_mem_cons.2 ⟨Hs.out, List.forall_mem_cons.2 ⟨Hi.out, fun _ hx => absurd hx List.not_mem_nil⟩⟩⟩⟩, rfl⟩
  · intro a' wr hinv
    rw [HINV.out] at hinv
    obtain ⟨u4, hinv⟩ := hinv
    obtain ⟨u5, hinv⟩ := hinv
    obtain ⟨u6, hinv⟩ := hinv
    obtain ⟨u11, hinv⟩ := hinv
    obtain ⟨u12, hinv⟩ := hinv
    obtain ⟨u13, hinv⟩ := hinv
    obtain ⟨u14, hinv⟩ := hinv
    obtain ⟨u15, hinv⟩ := hinv
    obtain ⟨u16, hinv⟩ := hinv
    obtain ⟨u17, hinv⟩ := hinv
    obtain ⟨u18, hinv⟩ := hinv
    obtain ⟨u19, hinv⟩ := hinv
    obtain ⟨u20, hinv⟩ := hinv
    obtain ⟨u21, hinv⟩ := hinv
    obtain ⟨u22, hinv⟩ := hinv
    obtain ⟨u23, hinv⟩ := hinv
    obtain ⟨u24, hinv⟩ := hinv
    obtain ⟨u25, hinv⟩ := hinv
    obtain ⟨k, Ds, hk1, hk2, hno, hbi, ha⟩ := hinv
    subst ha
    dsimp only
    obtain ⟨hbw, hmk, hsw, hblk⟩ := hbi
    clear Hw Hs Hi HB
    obtain ⟨hw, hbk0⟩ := List.forall_mem_cons.1 hblk
    obtain ⟨hs, hbk1⟩ := List.forall_mem_cons.1 hbk0
    obtain ⟨hi, hbk2⟩ := List.forall_mem_cons.1 hbk1
    clear hblk hbk0 hbk1 hbk2
    have Hw := hide hw
    have Hs := hide hs
    have Hi := hide hi
    have HB := hide hbw
    have Hmk := hide hmk
    have Hno := hide hno
    clear hw hs hi hbw hmk hno
    by_cases hlk : k ≤ b
    · have hlk2 : (k : Int) ≤ b := by omega
      go_wp2_with fail
      refine (sets_any _ _ _).mono ?_
      rintro e w6 ⟨rfl, hb, hz6, kn, kk⟩
      replace Hmk := hide (MarksOK.later Hmk.out hb)
      replace Hw := hide (blk_later Hw.out hb)
      replace Hs := hide (blk_later Hs.out hb)
      replace Hi := hide (blk_later Hi.out hb)
      replace HB := hide (onward HB.out hb)
      clear hb
      have hw6 := Hw.out.lt
      have hi6 := Hi.out.lt
      have hmlt := Hmk.out.lt
      have hst := sets_stops n k (wr.heap.size + 1) wr.heap.size w6 (by omega) (by omega) kk kn
      have hbs := HB.out.size
      obtain ⟨II, hII⟩ : ∃ II : List SetV → World → Prop, II = (fun pre W => BI w.heap.size w6.heap.size w Ds [(w.heap.size, 142, #[.func (.func 78) #[] #[.pointer (some ⟨bl, 0, none⟩)]]), (w.heap.size + 1, 44, #[.slice none 0 0]), (w.heap.size + 2, 4, #[.bool false])] W ∧ ∀ j t, j < pre.length → (setsR n k 0)[j]? = some t → P t = false) := ⟨_, rfl⟩
      obtain ⟨IX, hIX⟩ : ∃ IX : Code → List SetV → World → Prop, IX = (fun jc pre W => ∃ y : SetV × Nat, BI w.heap.size w6.heap.size w Ds [(w.heap.size + 1, 44, #[.slice y.1.2.1 y.1.1.length y.1.2.2]), (w.heap.size + 2, 4, #[.bool true])] W ∧ SetM W y.1.2.1 y.1.1 ∧ (jc = .ret ∧ (setsR n k 0)[y.2]? = some y.1.1 ∧ P y.1.1 = true ∧ ∀ j t, j < y.2 → (setsR n k 0)[j]? = some t → P t = false)) := ⟨_, rfl⟩
      have HII := hide hII
      have HIX := hide hIX
      clear hII hIX
      go_wp2_with fail
      refine wp_rangeM (α := SetV) (p := 21) (d := 11) rfl (enters_of Try.func119 (by kernel_rfl) rfl) (v0 := setV) hst (fun h k => h.trans k) (fun W l o o' _ h1 h2 => KeptC.putObj W l o o' h1 h2) (Below.refl _ _)
        (fun pre x => OwnFrom.and (ownFrom_pure _ _) SetM.own) II IX
        (by rw [HII.out]; exact lowFrom_and (BI_low hbs hmlt (fun s x hx => by
          simp only [List.mem_cons, List.not_mem_nil, or_false] at hx
          rcases hx with rfl | rfl | rfl <;> simp only <;> omega) (Nat.le_refl _)) (lowFrom_pure _ _))
        (fun c => by rw [HIX.out]; exact ownFrom_ex fun y => OwnFrom.and (BI_own hbs hmlt) (OwnFrom.and (fun s => SetM.own ()) (ownFrom_pure _ _)))
        (by rw [HII.out]; exact ⟨⟨HB.out, Hmk.out, Nat.le_refl _, List.forall_mem_cons.2 ⟨Hw.out, List.forall_mem_cons.2 ⟨Hs.out, List.forall_mem_cons.2 ⟨Hi.out, fun _ hx => absurd hx List.not_mem_nil⟩⟩⟩⟩, fun j t hj => absurd hj (Nat.not_lt_zero _)⟩)
        ?assign ?body ?done ?stop
      case assign =>
        intro lp x W K hK
        gi_wp2
        exact hK
      case body =>
        intro lp pre x W hi hm hlen
        rw [HII.out] at hi
        obtain ⟨⟨hbw, hmk, hsw, hblk⟩, hno⟩ := hi
        clear Hw Hs Hi HB Hmk hst hmlt hbs hz6 hw6 hi6
        obtain ⟨hw, hbk0⟩ := List.forall_mem_cons.1 hblk
        obtain ⟨hs, hbk1⟩ := List.forall_mem_cons.1 hbk0
        obtain ⟨hi2, hbk2⟩ := List.forall_mem_cons.1 hbk1
        clear hblk hbk0 hbk1 hbk2
        obtain ⟨hx, hset⟩ := hm
        obtain ⟨t, A, c⟩ := x
        simp only at hx hset
        have hts := setsR_set (List.mem_of_getElem? hx)
        have htl := setsR_len (List.mem_of_getElem? hx)
        have hc := HP.out W A t c hbw hset hts (by omega)
        obtain ⟨r, hr⟩ : ∃ r, P t = r := ⟨_, rfl⟩
        rw [hr, htl] at hc
        unfold setV
        dsimp only
        rw [htl]
        simp only [List.setIfInBounds_toArray, List.set_cons_succ, List.set_cons_zero]
        have Hw := hide hw
        have Hs := hide hs
        have Hi := hide hi2
        have HB := hide hbw
        have Hmk := hide hmk
        have HZ := hide hsw
        have HS := hide hset
        have Hno2 := hide hno
        have Hx := hide hx
        have Hr := hide hr
        have Hc := hide hc
        clear hw hs hi2 hbw hmk hsw hset hno hx hr hc
        have HKF := hide (KeepsFrom.refl w6.heap.size W)
        have HKC := hide (Below.refl W.heap.size W)
        have f0 := Hw.out.c 0 rfl
        have ltf := Hw.out.lt
        gi_wp2_with fail
        refine ⟨trivial, ?_⟩
        refine (CallsIn.inRound lp (callsIn_wide.2 (Hc.out))).mono ?_
        rintro e V ⟨rfl, hb⟩
        replace Hmk := hide (MarksOK.later Hmk.out hb)
        replace HZ := hide (Nat.le_trans HZ.out (Below.size hb))
        replace HS := hide (HS.out.later hb)
        replace HKF := hide (keepf_later HKF.out hb)
        replace Hw := hide (blk_later Hw.out hb)
        replace Hs := hide (blk_later Hs.out hb)
        replace Hi := hide (blk_later Hi.out hb)
        replace HB := hide (onward HB.out hb)
        replace HKC := hide (onward HKC.out hb)
        clear hb f0 ltf
        cases r with
        | true =>
          have y0 := Hs.out.c 0 rfl
          have lty := Hs.out.lt
          have fy0 := Hs.out.frozen 0
          have z0 := Hi.out.c 0 rfl
          have ltz := Hi.out.lt
          have fz0 := Hi.out.frozen 0
          have hs2 := (Hs.out.set_ 0 (.slice A k c)).far (p := ⟨w.heap.size + 1 + 1, 0, none⟩) (by simp) (.bool true)
          have hi2 := (Hi.out.far (p := ⟨w.heap.size + 1, 0, none⟩) (by simp) (.slice A k c)).set_ 0 (.bool true)
          have hn1 := HS.out
          have hm1 := Hmk.out.setCell Hs.out 0 (.slice A k c)
          have hm2 := hm1.setCell (Hi.out.far (p := ⟨w.heap.size + 1, 0, none⟩) (by simp) (.slice A k c)) 0 (.bool true)
          have hset3 : SetM ((V.setCell ⟨w.heap.size + 1, 0, none⟩ (.slice A k c)).setCell ⟨w.heap.size + 1 + 1, 0, none⟩ (.bool true)) A t := fun hl => by
            obtain ⟨b', cs, e, hk, hcs⟩ := hn1 hl
            have hb8 := And.intro (blk_neT hk Hs.out (by decide)) (blk_neT hk Hi.out (by decide))
            exact ⟨b', cs, e, (hk.far (p := ⟨w.heap.size + 1, 0, none⟩) hb8.1 _).far (p := ⟨w.heap.size + 1 + 1, 0, none⟩) hb8.2 _, hcs⟩
          have HS2 := hide hs2
          have HI2 := hide hi2
          have HM2 := hide hm2
          have HS3 := hide hset3
          clear hs2 hi2 hm2 hset3
          clear hn1 hm1
          gi_wp2
          refine ⟨keepf_set (keepf_set HKF.out _ _) _ _, ?_⟩
          rw [HIX.out]
          refine ⟨((t, A, c), pre.length), ⟨(HB.out.setCell (by simp) _).setCell (by simp; omega) _, HM2.out, by simp; exact HZ.out, List.forall_mem_cons.2 ⟨?_, List.forall_mem_cons.2 ⟨HI2.out, fun x hx => absurd hx List.not_mem_nil⟩⟩⟩, HS3.out, rfl, Hx.out, Hr.out, Hno2.out⟩
          rw [htl]
          exact HS2.out
        | false =>
          gi_wp2
          refine ⟨HKF.out, KeptC.of_below HKC.out, ?_⟩
          rw [HII.out]
          refine ⟨⟨HB.out, Hmk.out, HZ.out, List.forall_mem_cons.2 ⟨Hw.out, List.forall_mem_cons.2 ⟨Hs.out, List.forall_mem_cons.2 ⟨Hi.out, fun x hx => absurd hx List.not_mem_nil⟩⟩⟩⟩, fun j t' hj ht' => ?_⟩
          by_cases e : j < pre.length
          · exact Hno2.out j t' e ht'
          · have e2 : j = pre.length := by simp at hj; omega
            subst e2
            rw [Hx.out] at ht'
            injection ht' with ht'
            rw [← ht']
            exact Hr.out
      case done =>
        intro D xs W hD hxs hi hdd
        rw [HII.out] at hi
        obtain ⟨⟨hbw, hmk, hsw, hblk⟩, hno2⟩ := hi
        clear Hw Hs Hi HB Hmk hst hz6
        obtain ⟨hw, hbk0⟩ := List.forall_mem_cons.1 hblk
        obtain ⟨hs, hbk1⟩ := List.forall_mem_cons.1 hbk0
        obtain ⟨hi2, hbk2⟩ := List.forall_mem_cons.1 hbk1
        clear hblk hbk0 hbk1 hbk2
        replace hmk := hmk.cons (fun hDm => by have := hmlt D hDm; omega) (by omega) hdd
        have hno3 : ∀ k', a ≤ k' → k' < k + 1 → ∀ s ∈ setsR n k' 0, P s = false := fun k' h1 h2 s hs => by
          by_cases e : k' < k
          · exact Hno.out k' h1 e s hs
          · have e2 : k' = k := by omega
            subst e2
            obtain ⟨j, hj, rfl⟩ := List.getElem_of_mem hs
            exact hno2 j _ (by omega) (List.getElem?_eq_getElem hj)
        go_wp2
        refine ⟨?_, ?_⟩
        · rw [HINV.out]
          iterate 18 (apply Exists.intro)
          refine ⟨k + 1, D :: Ds, by omega, by omega, hno3, ⟨hbw, hmk, hbw.size, List.forall_mem_cons.2 ⟨hw, List.forall_mem_cons.2 ⟨hs, List.forall_mem_cons.2 ⟨hi2, fun _ hx => absurd hx List.not_mem_nil⟩⟩⟩⟩, ?_⟩
          rw [show ((k + 1 : Nat) : Int) = (k : Int) + 1 by omega]
          rfl
        · simp [intOf] <;> omega
      case stop =>
        intro D jc pre W hD hpre hix hdd
        rw [HIX.out] at hix
        obtain ⟨⟨⟨t, A, c⟩, j⟩, ⟨hbw, hmk, hsw, hblk⟩, hset, rfl, hj, hpt, hbef⟩ := hix
        simp only at hset hj hpt hbef hblk
        obtain ⟨hs, hbk1⟩ := List.forall_mem_cons.1 hblk
        obtain ⟨hi2, hbk2⟩ := List.forall_mem_cons.1 hbk1
        clear hblk hbk1 hbk2 Hw Hs Hi HB Hmk hst hz6
        replace hmk := hmk.cons (fun hDm => by have := hmlt D hDm; omega) (by omega) hdd
        have hf : firstS P n a b = some t := firstS_some hk1 hlk Hno.out hbef hj hpt
        go_wp2
        refine leaves_marks (D :: Ds) W hmk hbw.size fun w' hbw' hcells => ?_
        have r0 := (hcells _ _ _ hs).c 0 rfl
        have r1 := (hcells _ _ _ hi2).c 0 rfl
        have l0 := (hcells _ _ _ hs).lt
        have l1 := (hcells _ _ _ hi2).lt
        have hA : fstA P n a b = t := by unfold fstA; rw [hf]; rfl
        have hB : fstB P n a b = true := by unfold fstB; rw [hf]; rfl
        refine ⟨.tuple #[.slice A t.length c, .bool true], by simp [results, Try.results72, go_sem, r0, r1, l0, l1], A, c, by rw [hA, hB], hbw.trans hbw', ?_⟩
        rw [hA]
        intro hn
        obtain ⟨b', cs, e, hk, hc⟩ := hset hn
        exact ⟨b', cs, e, hcells _ _ _ hk, hc⟩
    · have hlk2 : ¬ (k : Int) ≤ b := by omega
      have hf : firstS P n a b = none := by
        unfold firstS
        rw [List.find?_eq_none]
        intro s hs
        obtain ⟨k', h1, h2⟩ := List.mem_flatMap.1 hs
        have h3 := List.mem_range'_1.1 h1
        rw [Hno.out k' h3.1 (by omega) s h2]
        decide
      have hA : fstA P n a b = [] := by unfold fstA; rw [hf]; rfl
      have hB : fstB P n a b = false := by unfold fstB; rw [hf]; rfl
      have y0 := Hs.out.c 0 rfl
      have lty := Hs.out.lt
      have fy0 := Hs.out.frozen 0
      have z0 := Hi.out.c 0 rfl
      have ltz := Hi.out.lt
      have fz0 := Hi.out.frozen 0
      have hne : w.heap.size + 1 ≠ w.heap.size + 1 + 1 := by omega
      have hs2 := (Hs.out.set_ 0 (.slice none 0 0)).far (p := ⟨w.heap.size + 1 + 1, 0, none⟩) (by simp) (.bool false)
      have hi2 := (Hi.out.far (p := ⟨w.heap.size + 1, 0, none⟩) (by simp) (.slice none 0 0)).set_ 0 (.bool false)
      have hm1 := Hmk.out.setCell Hs.out 0 (.slice none 0 0)
      have hm2 := hm1.setCell (Hi.out.far (p := ⟨w.heap.size + 1, 0, none⟩) (by simp) (.slice none 0 0)) 0 (.bool false)
      have HS2 := hide hs2
      have HI2 := hide hi2
      have HM2 := hide hm2
      clear hs2 hi2 hm2
      clear hm1
      go_wp2
      have hbz := (HB.out.setCell (p := ⟨w.heap.size + 1, 0, none⟩) (by simp) (.slice none 0 0)).setCell (p := ⟨w.heap.size + 1 + 1, 0, none⟩) (by simp; omega) (.bool false)
      refine leaves_marks Ds _ HM2.out hbz.size fun w' hbw' hcells => ?_
      have r0 := (hcells _ _ _ HS2.out).c 0 rfl
      have r1 := (hcells _ _ _ HI2.out).c 0 rfl
      have l0 := (hcells _ _ _ HS2.out).lt
      have l1 := (hcells _ _ _ HI2.out).lt
      refine ⟨.tuple #[.slice none 0 0, .bool false], by simp [results, Try.results72, go_sem, r0, r1, l0, l1], none, 0, by rw [hA, hB]; rfl, hbz.trans hbw', ?_⟩
      rw [hA]
      intro hn
      simp at hn
end Go.Proofs.Ytllpffkifleigaa
end
