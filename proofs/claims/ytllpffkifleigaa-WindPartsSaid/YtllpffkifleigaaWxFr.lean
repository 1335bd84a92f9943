/-
  WindTruth: the second loop, told ahead.
  The document's sets in memory: a list of lists of numbers, each in a row of its own; an append of a row that may be nil.
  The document's sets: its contract.
  The document's Some.
  The document's Blame.
  The document's Without.
  The law's functions: agrees, inside, wider, mixed, left.
  The law's functions: mixed, left.
  Parts of slices of sights.
  The document's Front.
-/
import Derived.Test.YtllpffkifleigaaWdTruR
import Derived.Test.YtllpffkifleigaaWdFirst
import Derived.Test.YtllpffkifleigaaWbRefDivs
import Derived.Test.YtllpffkifleigaaWxList
import Derived.Test.YtllpffkifleigaaWdWithout
import Derived.Test.YtllpffkifleigaaFewMath
set_option linter.unusedSimpArgs false
set_option linter.unusedVariables false
section
namespace Go.Proofs.Ytllpffkifleigaa
open Go Go.RowKit

theorem Mem.grown_ {w0 W W' : World} {ts : List Th} {base : Nat} {e : TypeId} {size n n' : Nat} {v v' : Value} {xs xs' : List Value} (h : Mem w0 ts W) (i : Nat) (hi : ts[i]? = some (.row base e size v n xs)) (hg : W.grownBy W' v.ownBlock)
    (hown : W'.ownsRow base e size v' n' xs') (hat : v'.ownBlock = v.ownBlock ∨ v'.ownBlock = some W.heap.size) : Mem w0 (ts.set i (.row base e size v' n' xs')) W' := by
  refine h.step i hi (show World.ownsRow _ _ _ _ _ _ _ from hown) ⟨hg.os, hg.tape, hg.output, hg.size, fun k hk => ?_⟩ (fun k hk => ?_)
  · refine hg.block k hk.1 fun e => hk.2 (optL_mem ?_)
    first | exact e | exact e.symm
  · have hk' := optL_iff.1 hk
    rcases hat with h1 | h1
    · exact .inl (optL_iff.2 (by rw [← h1]; exact hk'))
    · rw [h1] at hk'
      have := Option.some.inj hk'
      exact .inr (by omega)
theorem Mem.called {w0 W W' : World} {ts : List Th} {e : TypeId} {size n : Nat} {v : Value} {xs : List Value} (h : Mem w0 ts W) (hb : Below W.heap.size W W') (ho : W'.ownsRow W.heap.size e size v n xs) : Mem w0 (.row W.heap.size e size v n xs :: ts) W' :=
  h.add hb ho fun k hk => (ho.lt k (optL_iff.1 hk)).1
def xK (x y : Int) (k : Nat) : Int := if k = 0 then x else y
def yK (x y : Int) (k : Nat) : Int := if k = 0 then y else -x
def rK (r : Int) (k : Nat) : Int := 1 + (r + 7 * (k : Int)) % 30
def twoQ (x y r t u v wz l m rl rm : Int) : List SeenQ := (List.range 2).map fun k => seenQ (xK x y k) (yK x y k) (rK r k) t u v wz l m rl rm
structure TwoK (k : Nat) (x y r t u v wz l m rl rm : Int) (K : Nat → List Value) (X Y R ray slo shi g : Int) : Prop where
  cx : (#[.int .i64 x, .int .i64 y, .int .i64 y, .int .i64 (-x)] : Array Value)[k * 2]? = some (.int .i64 X)
  cy : (#[.int .i64 x, .int .i64 y, .int .i64 y, .int .i64 (-x)] : Array Value)[k * 2 + 1]? = some (.int .i64 Y)
  r0 : 1 ≤ R
  r1 : R ≤ 30
  rr : 1 + (r + 7 * (k : Int)).tmod 30 = R
  a0 : 0 ≤ ray
  a1 : ray ≤ 4 * R - 1
  lo : spLo R t ray u v wz m = slo
  hi : spHi R t ray u v wz l = shi
  fd : ∀ W, Calls Try.prog 54 #[.agg #[.string ⟨#[115]⟩, .int .i64 X, .int .i64 Y, .int .i64 0, .int .i64 R, .int .i64 200, .int .i64 1000, .int .i64 0], .int .i64 t, .int .i64 1000, .int .i64 2000] W fun e w' => e = .returned (.tuple #[.int .i64 ray, .int .i64 g, .int .i64 0]) ∧ Below W.heap.size W w'
  ks : K (k + 1) = K k ++ [.string ⟨#[115]⟩, .int .i64 X, .int .i64 Y, .int .i64 0, .int .i64 R, .int .i64 200, .int .i64 1000, .int .i64 0, .int .i64 t, .int .i64 slo, .int .i64 shi, .int .i64 (wz - rl), .int .i64 (wz + rm)]
theorem xy_bd {x y : Int} {k : Nat} (x0 : -32768 ≤ x) (x1 : x ≤ 32767) (y0 : -32768 ≤ y) (y1 : y ≤ 32767) : -32768 ≤ xK x y k ∧ xK x y k ≤ 32768 ∧ -32768 ≤ yK x y k ∧ yK x y k ≤ 32768 := by
  unfold xK yK
  split
  · omega
  · omega
theorem rK_bd {r : Int} {k : Nat} (r0 : 1 ≤ r) : 1 ≤ rK r k ∧ rK r k ≤ 30 := by unfold rK; omega
theorem two_here {x y r t u v wz l m rl rm : Int} {k : Nat} (hk : k < 2) (x0 : -32768 ≤ x) (x1 : x ≤ 32767) (y0 : -32768 ≤ y) (y1 : y ≤ 32767) (r0 : 1 ≤ r) (t0 : 0 ≤ t) (t1 : t ≤ 59) :
    ∃ X Y R ray slo shi g, TwoK k x y r t u v wz l m rl rm (fun k => ((twoQ x y r t u v wz l m rl rm).take k).flatMap seenV) X Y R ray slo shi g := by
  obtain ⟨b1, b2, b3, b4⟩ := xy_bd (k := k) x0 x1 y0 y1
  obtain ⟨c1, c2⟩ := rK_bd (k := k) r0
  obtain ⟨a0, a1, g, f⟩ := find_here (r := rK r k) (t := t) (X := xK x y k) (Y := yK x y k) c1 t0 t1 b1 b2 b3 b4
  refine ⟨xK x y k, yK x y k, rK r k, _, _, _, g, ?_, ?_, c1, c2, ?_, a0, a1, rfl, rfl, fun W => ?_, ?_⟩
  · rcases (show k = 0 ∨ k = 1 by omega) with rfl | rfl <;> rfl
  · rcases (show k = 0 ∨ k = 1 by omega) with rfl | rfl <;> rfl
  · unfold rK
    rw [Int.tmod_eq_emod_of_nonneg (by omega)]
  · have h := Find_any nameS (xK x y k) (yK x y k) 0 (rK r k) 200 1000 0 t 1000 2000 W (by show (1 : Nat) ≤ _; omega)
    rw [site_here c1 c2 b1 b2 b3 b4, f] at h
    exact h
  · show ((twoQ x y r t u v wz l m rl rm).take (k + 1)).flatMap seenV = ((twoQ x y r t u v wz l m rl rm).take k).flatMap seenV ++ _
    rw [flat_snoc (d := seen0) (show k < (twoQ x y r t u v wz l m rl rm).length by unfold twoQ; simp; omega)]
    congr 1
    have e : (twoQ x y r t u v wz l m rl rm).getD k seen0 = seenQ (xK x y k) (yK x y k) (rK r k) t u v wz l m rl rm := by
      unfold twoQ
      rw [List.getD_eq_getElem?_getD, List.getElem?_map, List.getElem?_range hk]
      rfl
    rw [e]
    rfl
theorem two_ok {x y r t u v wz l m rl rm : Int} (x0 : -32768 ≤ x) (x1 : x ≤ 32767) (y0 : -32768 ≤ y) (y1 : y ≤ 32767) (r0 : 1 ≤ r) (t0 : 0 ≤ t) (t1 : t ≤ 59) (h : ∀ r', 1 ≤ r' → r' ≤ 30 → ∀ a, 0 ≤ a → a ≤ 4 * r' - 1 → TruA r' t a u v wz l m rl rm) :
    (∀ q ∈ twoQ x y r t u v wz l m rl rm, SeenOk 1000 2000 q) ∧ (∀ s ∈ (twoQ x y r t u v wz l m rl rm).map (placeS 1000 2000), SgtOk s ∧ Agr1 s u v) := by
  have H : ∀ k, _ := fun k => by
    obtain ⟨b1, b2, b3, b4⟩ := xy_bd (k := k) x0 x1 y0 y1
    obtain ⟨c1, c2⟩ := rK_bd (k := k) r0
    exact seen_here c2 t1 b1 b2 b3 b4 (h _ c1 c2) c1 t0
  refine ⟨fun q hq => ?_, fun s hs => ?_⟩
  · unfold twoQ at hq
    obtain ⟨k, -, rfl⟩ := List.mem_map.1 hq
    exact (H k).1
  · obtain ⟨q, hq, rfl⟩ := List.mem_map.1 hs
    unfold twoQ at hq
    obtain ⟨k, -, rfl⟩ := List.mem_map.1 hq
    exact (H k).2
end Go.Proofs.Ytllpffkifleigaa
end
section
namespace Go.Proofs.Ytllpffkifleigaa
open Go Go.RowKit

theorem setsR_count {n : Nat} : ∀ (k d f : Nat), n - f ≤ d → (setsR n k f).length ≤ 2 ^ d
  | 0, d, f, _ => by rw [setsR_z]; exact Nat.one_le_two_pow
  | k + 1, 0, f, h => by rw [setsR_none (n := n) (k := k) (f := f) (by omega)]; simp
  | k + 1, d + 1, f, h => by
    by_cases hf : f < n
    · rw [setsR_up hf, List.length_append, List.length_map]
      have h1 := setsR_count (n := n) k d (f + 1) (by omega)
      have h2 := setsR_count (n := n) (k + 1) d (f + 1) (by omega)
      rw [Nat.pow_succ]
      omega
    · rw [setsR_none hf]
      simp
section
variable {P : Program} {w : World}
theorem src_own {base size n c : Nat} {e : TypeId} {A : Option Addr} {xs : List Value} (h : w.ownsRow base e size (.slice A n c) n xs) : Src w A n c xs := by
  rcases h.2 with ⟨hv, h0⟩ | ⟨g, cap, cur, hv, -, hg, h3, h4, h5, h6⟩
  · injection hv with e1 e2 e3
    subst e1 e3
    have h1 := h.1
    rw [h0, Nat.zero_mul] at h1
    exact .inl ⟨rfl, h0, rfl, List.eq_nil_of_length_eq_zero h1⟩
  · injection hv with e1 e2 e3
    subst e1
    refine .inr ⟨_, rfl, fun j u hu => ?_⟩
    have hb : Blk w g e cur := hg
    rw [show (⟨g, 0, none⟩ : Addr).add j = ⟨g, j, none⟩ by unfold Addr.add; split <;> simp_all]
    rw [← h6, List.getElem?_take] at hu
    split at hu
    · exact hb.c _ (by simpa using hu)
    · cases hu
theorem wpList_append_srcN {ops : Array Oper} {rest : List Oper} {o : Oper} {a : Act} {Q : Exit → Act → World → Prop} (hgd : o.guard = none) (s x : Operand) (t : TypeId)
    (ho : o.op = .call { callee := .builtin .append, args := #[s, x], argTypes := #[t, t] })
    (base : Nat) (e : TypeId) (i : TypeInfo) (z : Value) (size bytes : Nat) (ht : P.underlying t = some (.slice e)) (hi : P.info? e = some i) (hz : i.zero = some z)
    (hsize : i.size = size) (hby : i.bytes = bytes) (hzs : z.cells.size = size) (hsz : 0 < size)
    (v : Value) (n : Nat) (xs : List Value) (hs : a.eval s = v) (hown : w.ownsRow base e size v n xs)
    (A : Option Addr) (m c : Nat) (news : List Value) (hx : a.eval x = .slice A m c) (hsrc : Src w A m c news) (hl : news.length = m * size) (h1 : ∀ u ∈ news, u.oneCell' = true)
    (h63 : n + m ≤ maxLen) (hbytes : (n + m) * bytes ≤ 140737488355328) (hbase : base ≤ w.heap.size)
    (h : ∀ v' w', w'.ownsRow base e size v' (n + m) (xs ++ news) → w.grownBy w' v.ownBlock → (v'.ownBlock = v.ownBlock ∨ v'.ownBlock = some w.heap.size) → wpList P ops Q rest (a.put o.dst v') w') :
    wpList P ops Q (o :: rest) a w := by
  refine wpList_plain hgd fun K hK => ?_
  rcases hsrc with ⟨rfl, rfl, rfl, rfl⟩ | ⟨ad, rfl, hnews⟩
  · have hr := run_append_owned_none (P := P) (w := w) base t o.type e i size ht hi v n xs hown
    unfold Oper.wp execOp
    simp only [ho, resolve, invoke, builtin, Sem.run_bind, Sem.run_pure, Result.andThen_ok, List.map_toArray, List.map_cons, List.map_nil, hs, hx, hr]
    exact hK _ _ (h v w (by simpa using hown) ⟨rfl, rfl, rfl, Nat.le_refl _, fun _ _ _ => rfl⟩ (.inl rfl))
  · obtain ⟨v', w', hr, h2, h3, h4, h5⟩ := run_append_own_at (P := P) w base t o.type e i z size bytes ht hi hz hsize hby hzs hsz v n xs hown ad m c news hl hnews h1 h63 hbytes hbase
    unfold Oper.wp execOp
    simp only [ho, resolve, invoke, builtin, Sem.run_bind, Sem.run_pure, Result.andThen_ok, List.map_toArray, List.map_cons, List.map_nil, hs, hx, hr]
    exact hK _ _ (h v' w' h2 h3 h5)
end
theorem fps_sub {a b : List Th} (h : a.Sublist b) : (fps a).Sublist (fps b) := by
  induction h with
  | slnil => exact List.Sublist.refl _
  | cons x _ ih => rw [fps_cons]; exact ih.trans (List.sublist_append_right _ _)
  | cons_cons x _ ih => rw [fps_cons, fps_cons]; exact (List.Sublist.refl _).append ih
theorem Mem.sub {w0 W : World} {ts ts' : List Th} (h : Mem w0 ts W) (hs : ts'.Sublist ts) : Mem w0 ts' W :=
  ⟨fun t ht => h.all t (hs.subset ht), (fps_sub hs).nodup h.nodup, fun k hk => h.low k ((fps_sub hs).subset hk), h.below⟩
/-- The numbers of a set, as cells. -/
def numsV (t : List Nat) : List Value := t.map fun i => Value.int .i64 (i : Nat)
theorem numsV_len (t : List Nat) : (numsV t).length = t.length := by unfold numsV; rw [List.length_map]
theorem numsV_one (t : List Nat) : ∀ u ∈ numsV t, u.oneCell' = true := fun u hu => by
  obtain ⟨i, -, rfl⟩ := List.mem_map.1 hu
  rfl
/-- A set's row. -/
def thS (g : Nat) (p : Value × List Nat) : Th := .row g 3 1 p.1 p.2.length (numsV p.2)
/-- The row of the sets' values, and the sets' rows; the newest first. -/
def setsT (g : Nat) (v : Value) (E : List (Value × List Nat)) : List Th := .row g 44 1 v E.length (E.reverse.map (·.1)) :: E.map (thS g)
def SetsL (w : World) (A : Option Addr) (L : List (List Nat)) : Prop := 0 < L.length → ∃ b cs, A = some ⟨b, 0, none⟩ ∧ Blk w b 44 cs ∧ ∀ i, i < L.length → ∃ a c, cs[i]? = some (.slice a (L.getD i []).length c) ∧ SetM w a (L.getD i [])
theorem SetsL.later {w w' : World} {A : Option Addr} {L : List (List Nat)} (h : SetsL w A L) (hb : Below w.heap.size w w') : SetsL w' A L := fun hn => by
  obtain ⟨b, cs, e, hb2, hc⟩ := h hn
  refine ⟨b, cs, e, blk_later hb2 hb, fun i hi => ?_⟩
  obtain ⟨a, c, h1, h2⟩ := hc i hi
  exact ⟨a, c, h1, h2.later hb⟩
theorem set_of {W : World} {g c : Nat} {A : Option Addr} {t : List Nat} (h : W.ownsRow g 3 1 (.slice A t.length c) t.length (numsV t)) : SetM W A t := SetM.of_row rfl h
/-- What element of the list lies where. -/
theorem sets_at {w0 W : World} {ts : List Th} {g g' m c : Nat} {A : Option Addr} {E : List (Value × List Nat)} (hr : W.ownsRow g 44 1 (.slice A m c) m (E.reverse.map (·.1))) (hE : E.length = m) (hall : ∀ p ∈ E, thS g' p ∈ ts) (h : Mem w0 ts W) (hm : 0 < m) :
    ∃ b cs, A = some ⟨b, 0, none⟩ ∧ Blk W b 44 cs ∧ ∀ i, i < m → ∃ a c, cs[i]? = some (.slice a ((E.reverse.map (·.2)).getD i []).length c) ∧ W.ownsRow g' 3 1 (.slice a ((E.reverse.map (·.2)).getD i []).length c) ((E.reverse.map (·.2)).getD i []).length (numsV ((E.reverse.map (·.2)).getD i [])) := by
  obtain ⟨b, cur, rfl, -, hb, -, -, hc⟩ := row_blk hr hm
  refine ⟨b, cur, rfl, hb, fun i hi => ?_⟩
  have hlen : i < E.reverse.length := by rw [List.length_reverse, hE]; exact hi
  have hp : E.reverse[i] ∈ E := List.mem_reverse.1 (List.getElem_mem hlen)
  have h1 : (E.reverse.map (·.1))[i]? = some E.reverse[i].1 := by rw [List.getElem?_map, List.getElem?_eq_getElem hlen]; rfl
  have h2 : (E.reverse.map (·.2)).getD i [] = E.reverse[i].2 := by rw [List.getD_eq_getElem?_getD, List.getElem?_map, List.getElem?_eq_getElem hlen]; rfl
  have h3 : W.ownsRow g' 3 1 E.reverse[i].1 E.reverse[i].2.length (numsV E.reverse[i].2) := h.all _ (hall _ hp)
  obtain ⟨a, c', e⟩ := own_shape2 h3
  rw [h2]
  refine ⟨a, c', ?_, ?_⟩
  · rw [← e]
    exact hc i _ h1
  · rw [← e]
    exact h3
theorem sets_l {w0 W : World} {g m c : Nat} {A : Option Addr} {E : List (Value × List Nat)} {L : List (List Nat)} (h : Mem w0 (setsT g (.slice A m c) E) W) (hE : E.length = m) (hL : E.reverse.map (·.2) = L) : SetsL W A L := fun hn => by
  have hm : m = L.length := by rw [← hL, List.length_map, List.length_reverse, hE]
  have hr : W.ownsRow g 44 1 (.slice A m c) m (E.reverse.map (·.1)) := by
    have := h.row_ 0 rfl
    rw [hE] at this
    exact this
  obtain ⟨b, cs, e, hb, hc⟩ := sets_at (g' := g) hr hE (fun p hp => List.mem_cons_of_mem _ (List.mem_map_of_mem hp)) h (by omega)
  refine ⟨b, cs, e, hb, fun i hi => ?_⟩
  obtain ⟨a, c', h1, h2⟩ := hc i (by omega)
  rw [hL] at h1 h2
  exact ⟨a, c', h1, set_of h2⟩
theorem setsInfo : (Try.prog.info? 44).map (fun i => (i.zero, i.size, i.bytes)) = some (some (.slice none 0 0), 1, 24) := by kernel_rfl
end Go.Proofs.Ytllpffkifleigaa
end
section
namespace Go.Proofs.Ytllpffkifleigaa
open Go Go.RowKit

def SetsPost (w : World) (L : List (List Nat)) (e : Ending) (w' : World) : Prop := ∃ A c E, e = .returned (.slice A L.length c) ∧ E.reverse.map (·.2) = L ∧ Mem w (setsT w.heap.size (.slice A L.length c) E) w'
def SetO (w : World) (gs n k f : Nat) (o ii : Value) (wr : World) : Prop := ∃ (i : Nat) (P : List (List Nat)) (A' : Option Addr) (c' : Nat) (E : List (Value × List Nat)), f ≤ i ∧ i ≤ n ∧ ii = .int .i64 i ∧ o = .slice A' P.length c' ∧ P ++ setsR n (k + 1) i = setsR n (k + 1) f ∧ E.reverse.map (·.2) = P ∧ Mem w (setsT gs (.slice A' P.length c') E) wr
def SetN (w : World) (gs g2 : Nat) (A2 : Option Addr) (c2 q i : Nat) (P Q : List (List Nat)) (E2 : List (Value × List Nat)) (o jj : Value) (wr : World) : Prop := ∃ (j : Nat) (A' : Option Addr) (c' : Nat) (E : List (Value × List Nat)), j ≤ q ∧ jj = .int .i64 j ∧ o = .slice A' (P.length + j) c' ∧ E.reverse.map (·.2) = P ++ (Q.take j).map (i :: ·) ∧
  Mem w (.row gs 44 1 (.slice A' (P.length + j) c') (P.length + j) (E.reverse.map (·.1)) :: .row g2 44 1 (.slice A2 q c2) q (E2.reverse.map (·.1)) :: (E.map (thS gs) ++ E2.map (thS g2))) wr
theorem SetN.start {w w3 wr : World} {gs c c2 i : Nat} {A A2 : Option Addr} {P Q : List (List Nat)} {E E2 : List (Value × List Nat)} (hE : E.reverse.map (·.2) = P) (hM : Mem w (setsT gs (.slice A P.length c) E) wr) (hE2 : E2.reverse.map (·.2) = Q) (hM2 : Mem wr (setsT wr.heap.size (.slice A2 Q.length c2) E2) w3) :
    SetN w gs wr.heap.size A2 c2 Q.length i P Q E2 (.slice A P.length c) (.int .i64 0) w3 := by
  have e1 : E.length = P.length := by rw [← hE, List.length_map, List.length_reverse]
  have e2 : E2.length = Q.length := by rw [← hE2, List.length_map, List.length_reverse]
  refine ⟨0, A, c, E, Nat.zero_le _, rfl, rfl, by simpa using hE, ?_⟩
  have h := hM.joinL hM2
  unfold setsT at h
  rw [e1, e2] at h
  refine h.perm ?_
  refine List.perm_middle.trans (List.Perm.cons _ ?_)
  exact List.Perm.cons _ List.perm_append_comm
theorem SetN.next {w wr : World} {gs g2 j c c2 q i : Nat} {A A2 : Option Addr} {P Q : List (List Nat)} {E E2 : List (Value × List Nat)} {v1 : Value} (hq : Q.length = q) (hj : j < q) (hE : E.reverse.map (·.2) = P ++ (Q.take j).map (i :: ·))
    (hM : Mem w (.row gs 3 1 v1 (1 + (Q.getD j []).length) (.int .i64 (i : Nat) :: numsV (Q.getD j [])) :: .row gs 44 1 (.slice A (P.length + j + 1) c) (P.length + j + 1) (E.reverse.map (·.1) ++ [v1]) :: .row g2 44 1 (.slice A2 q c2) q (E2.reverse.map (·.1)) :: (E.map (thS gs) ++ E2.map (thS g2))) wr) :
    SetN w gs g2 A2 c2 q i P Q E2 (.slice A (P.length + j + 1) c) (.int .i64 ((j + 1 : Nat) : Int)) wr := by
  refine ⟨j + 1, A, c, (v1, i :: Q.getD j []) :: E, hj, rfl, rfl, ?_, ?_⟩
  · rw [List.reverse_cons, List.map_append, hE, List.append_assoc, List.take_add_one, List.getElem?_eq_getElem (by omega), List.map_append, List.getD_eq_getElem?_getD, List.getElem?_eq_getElem (by omega)]
    rfl
  · rw [List.reverse_cons, List.map_append]
    have e : thS gs (v1, i :: Q.getD j []) = .row gs 3 1 v1 (1 + (Q.getD j []).length) (.int .i64 (i : Nat) :: numsV (Q.getD j [])) := by
      unfold thS
      rw [Nat.add_comm 1]
      rfl
    rw [← e] at hM
    refine hM.perm ?_
    exact (List.Perm.swap _ _ _).trans (List.Perm.cons _ (List.Perm.swap _ _ _))
theorem SetO.next {w wr : World} {gs g2 n k f i c c2 : Nat} {A A2 : Option Addr} {P : List (List Nat)} {E E2 : List (Value × List Nat)} (hf : f ≤ i) (hi : i < n) (hP : P ++ setsR n (k + 1) i = setsR n (k + 1) f) (hE : E.reverse.map (·.2) = P ++ ((setsR n k (i + 1)).take (setsR n k (i + 1)).length).map (i :: ·))
    (hM : Mem w (.row gs 44 1 (.slice A (P.length + (setsR n k (i + 1)).length) c) (P.length + (setsR n k (i + 1)).length) (E.reverse.map (·.1)) :: .row g2 44 1 (.slice A2 (setsR n k (i + 1)).length c2) (setsR n k (i + 1)).length (E2.reverse.map (·.1)) :: (E.map (thS gs) ++ E2.map (thS g2))) wr) :
    SetO w gs n k f (.slice A (P.length + (setsR n k (i + 1)).length) c) (.int .i64 ((i + 1 : Nat) : Int)) wr := by
  rw [List.take_length] at hE
  have hl : (P ++ (setsR n k (i + 1)).map (i :: ·)).length = P.length + (setsR n k (i + 1)).length := by rw [List.length_append, List.length_map]
  refine ⟨i + 1, P ++ (setsR n k (i + 1)).map (i :: ·), A, c, E, by omega, hi, rfl, by rw [hl], ?_, hE, ?_⟩
  · rw [← hP, setsR_up hi, List.append_assoc]
  · rw [hl]
    have e1 : E.length = P.length + (setsR n k (i + 1)).length := by rw [← hl, ← hE, List.length_map, List.length_reverse]
    unfold setsT
    rw [e1]
    exact hM.sub (List.Sublist.cons_cons _ (List.Sublist.cons _ (List.sublist_append_left _ _)))
set_option maxHeartbeats 2000000 in
set_option maxRecDepth 100000 in
theorem rsets_zero (f n : Nat) (w : World) (hf : f ≤ 100) (hn : n ≤ 100) : Calls Try.prog 76 #[.int .i64 (f : Int), .int .i64 (n : Int), .int .i64 0] w (SetsPost w (setsR n 0 f)) := by
  rw [setsR_z]
  go_enter Try.func76, Try.ntmps76
  have HM := hide (Mem.start w)
  go_wp2
  have h2 := ((HM.out.nilRow w.heap.size 3 1).alloc #[.slice none 0 0] 44).asRow (n := 1) (size := 1) (base := w.heap.size) 0 rfl rfl (by decide) (Nat.le_refl _)
  exact bodyPost_ret (v := .slice (some ⟨w.heap.size, 0, none⟩) 1 1) (by simp [results, Try.results76, go_sem]) rfl ⟨some ⟨w.heap.size, 0, none⟩, 1, [(.slice none 0 0, [])], rfl, rfl, h2⟩
set_option maxHeartbeats 2000000 in
set_option maxRecDepth 100000 in
theorem rsets_up (k f n : Nat) (kI : Int) (w : World) (hkI : kI = (k : Int) + 1) (hf : f ≤ n) (hn : n ≤ 20) (hk : k ≤ 20) (ih : ∀ f' W, f' ≤ n → Calls Try.prog 76 #[.int .i64 (f' : Int), .int .i64 (n : Int), .int .i64 (k : Int)] W (SetsPost W (setsR n k f'))) :
    Calls Try.prog 76 #[.int .i64 (f : Int), .int .i64 (n : Int), .int .i64 kI] w (SetsPost w (setsR n (k + 1) f)) := by
  have hC : ∀ i, i < n → ∀ W, Calls Try.prog 76 #[.int .i64 ((i : Int) + 1), .int .i64 (n : Int), .int .i64 (k : Int)] W (SetsPost W (setsR n k (i + 1))) := fun i hi W => by
    have := ih (i + 1) W hi
    rw [show ((i + 1 : Nat) : Int) = (i : Int) + 1 by omega] at this
    exact this
  have hcnt := setsR_count (n := n) (k + 1) 20 f (by omega)
  have hcnt2 := fun i => setsR_count (n := n) k 20 (i + 1) (by omega)
  have hk0 : ¬ kI = 0 := by omega
  have hk1 : kI - 1 = (k : Int) := by omega
  have hkI2 : kI ≤ 21 := by omega
  have hkI3 : 1 ≤ kI := by omega
  clear hkI
  have hn2 : (n : Int) ≤ 20 := by omega
  have hf2 : (f : Int) ≤ n := by omega
  have hend : setsR n (k + 1) n = [] := setsR_none (by omega)
  have HC := hide hC
  have HCN := hide hcnt
  have HCN2 := hide hcnt2
  have HEND := hide hend
  clear hC hcnt hcnt2 hend
  clear ih
  go_enter Try.func76, Try.ntmps76
  have HM := hide (Mem.start w)
  go_wp2_with fail
  have HM2 := hide (HM.out.nilRow w.heap.size 44 1)
  clear HM
  have HM := HM2
  clear HM2
  generalize hg0 : w.heap.size = gs at HM ⊢
  go_loopw [7, 8] (fun o ii wr => SetO w gs n k f o ii wr) (fun _ ii _ => n - (intOf ii).toNat)
  case atStart => exact ⟨f, [], none, 0, [], Nat.le_refl _, hf, rfl, rfl, rfl, rfl, HM.out⟩
  case round =>
    obtain ⟨i, P, A', c', E, hfi, hi, rfl, rfl, hP, hE, hM⟩ := hrel
    clear HM
    have HM := hide hM
    clear hM
    have HP := hide hP
    have HE := hide hE
    clear hP hE
    by_cases hlt : i < n
    · have hlt2 : (i : Int) < n := by omega
      have c1 := HC.out i hlt
      have hq0 := HCN2.out i
      have hpl : P.length ≤ 2 ^ 20 := by
        have h1 := HCN.out
        rw [← HP.out, List.length_append] at h1
        omega
      have hql : ∀ j, ((setsR n k (i + 1)).getD j []).length ≤ 20 := fun j => by
        rw [List.getD_eq_getElem?_getD]
        by_cases h : j < (setsR n k (i + 1)).length
        · rw [List.getElem?_eq_getElem h]
          have : (setsR n k (i + 1))[j].length = k := setsR_len (List.getElem_mem h)
          simp only [Option.getD_some]
          omega
        · rw [List.getElem?_eq_none (by omega)]
          simp
      have C1 := hide c1
      clear c1
      go_wp2_with fail
      refine (C1.out _).mono ?_
      rintro e w3 ⟨A2, c2, E2, rfl, hE2, hM2⟩
      have HS := hide (SetN.start (i := i) HE.out HM.out hE2 hM2)
      have HE2 := hide hE2
      clear hE2 hM2 HM C1
      generalize hQ : setsR n k (i + 1) = Q at *
      generalize wr.heap.size = g2 at *
      have hq1 : (Q.length : Int) ≤ 1048576 := by omega
      have hp1 : (P.length : Int) ≤ 1048576 := by omega
      go_wp2_with fail
      go_loopw [7, 10] (fun o jj wr => SetN w gs g2 A2 c2 Q.length i P Q E2 o jj wr) (fun _ jj _ => Q.length - (intOf jj).toNat)
      case atStart => exact HS.out
      case round =>
        obtain ⟨j, A3, c3, E3, hj, rfl, rfl, hE3, hM⟩ := hrel
        clear HS
        have HM := hide hM
        clear hM
        have HE3 := hide hE3
        clear hE3
        by_cases hlj : j < Q.length
        · have hlj2 : (j : Int) < Q.length := by omega
          have hl2 : E2.length = Q.length := by rw [← HE2.out, List.length_map, List.length_reverse]
          obtain ⟨b, cs, rfl, hb, hc⟩ := sets_at (g' := g2) (HM.out.row_ 1 rfl) hl2 (fun p hp => List.mem_cons_of_mem _ (List.mem_cons_of_mem _ (List.mem_append_right _ (List.mem_map_of_mem hp)))) HM.out (by omega)
          obtain ⟨a, c5, hcell, hown⟩ := hc j hlj
          rw [HE2.out] at hcell hown
          have htl := hql j
          have q0 := hb.c j hcell
          have ltb := hb.lt
          have HT := hide hown
          clear hc hb hcell hown hl2
          have hnx := fun v1 A9 c9 wz => SetN.next (w := w) (wr := wz) (gs := gs) (g2 := g2) (j := j) (c := c9) (c2 := c2) (q := Q.length) (i := i) (A := A9) (A2 := some ⟨b, 0, none⟩) (P := P) (Q := Q) (E := E3) (E2 := E2) (v1 := v1) rfl hlj HE3.out
          have HNX := hide hnx
          clear hnx
          generalize ht : Q.getD j [] = t at *
          generalize E3.reverse.map (·.1) = xs at *
          generalize E3.map (thS gs) ++ E2.map (thS g2) = S at *
          obtain ⟨tl, htl2⟩ : ∃ m, t.length = m := ⟨_, rfl⟩
          rw [htl2] at q0 htl HT HNX
          have hnl : (numsV t).length = tl * 1 := by rw [numsV_len, htl2, Nat.mul_one]
          obtain ⟨i0, hii, hz0, hz1, hz2⟩ := info_parts setsInfo
          obtain ⟨i1, hjj, hy0, hy1, hy2⟩ := info_parts intInfoN
          have Hi := hide hii
          have Hz0 := hide hz0
          have Hz1 := hide hz1
          have Hz2 := hide hz2
          have Hj := hide hjj
          have Hy0 := hide hy0
          have Hy1 := hide hy1
          have Hy2 := hide hy2
          have HNL := hide hnl
          clear hii hz0 hz1 hz2 hjj hy0 hy1 hy2 hnl
          have HMa := hide ((HM.out.alloc #[.int .i64 (i : Int)] 3).asRow (n := 1) (size := 1) (base := gs) 0 rfl rfl (by decide) (by rw [← hg0]; exact HM.out.size))
          have hsrc := src_own (own_later HT.out ((Below.refl _ _).alloc (Nat.le_refl wr.heap.size) (.cells #[.int .i64 (i : Int)] 3)))
          have hbaseM : gs ≤ (wr.alloc (.cells #[.int .i64 (i : Int)] 3)).heap.size := by
            have := HM.out.size
            simp
            omega
          have HSRC := hide hsrc
          have HBM := hide hbaseM
          clear hsrc hbaseM
          clear ht
          go_upto_region 11 with fail
          go_wp2_with (at_builtin; go_loud (refine wpList_append_srcN rfl (.tmp 34) (.tmp 38) _ rfl gs 3 i1 _ 1 8 Try.underlying44 Hj.out Hy0.out Hy1.out Hy2.out rfl (by decide) _ 1 [.int .i64 (i : Int)] rfl (HMa.out.row_ 0 rfl) a tl c5 (numsV t) rfl HSRC.out HNL.out (numsV_one t) ?s2 ?s3 HBM.out ?_))
          case s2 => unfold maxLen; omega
          case s3 => omega
          intro v1 w5 hown2 hgr2 hat2
          have HM5 := hide (HMa.out.grown_ 0 rfl hgr2 hown2 (by simpa using hat2))
          clear HM HMa hown2 hgr2 hat2 HT HSRC HBM q0 ltb
          have HM := HM5
          clear HM5
          obtain ⟨A5, c6, rfl⟩ := own_shape2 (HM.out.row_ 0 rfl)
          have hbaseM : gs ≤ w5.heap.size := by rw [← hg0]; exact HM.out.size
          have hownM := Mem.row_ HM.out 1 rfl
          
          go_wp2_with (at_builtin; refine wpList_append_own_at _ rfl (.tmp 32) (.tmp 40) _ rfl _ 44 i0 _ 1 24 Try.underlying143 Hi.out Hz0.out Hz1.out Hz2.out rfl (by decide) _ (P.length + j) xs rfl (hownM.alloc _) ⟨w5.heap.size, 0, none⟩ 1 1 [.slice A5 (1 + tl) c6] rfl rfl ?q1c1 (by intro u hu; simp only [List.mem_cons, List.not_mem_nil, or_false] at hu; rcases hu with rfl <;> rfl) ?q1c3 ?q1c4 ?q1c5 ?_)
          try case q1c1 => exact new_cellsQ w5 _ [.slice A5 (1 + tl) c6]
          case q1c3 => unfold maxLen; omega
          case q1c4 => omega
          case q1c5 => first | omega | (simp; omega)
          intro vA w9 hown2 hgr2 _ hat2
          have HMn := HM.out.grow 1 rfl _ hgr2 hown2 hat2
          replace HM := hide HMn
          clear HMn hown2 hgr2 hat2 hownM hbaseM
          obtain ⟨A9, c9, rfl⟩ := own_shape2 (Mem.row_ HM.out 1 rfl)
          have hnn := HNX.out _ A9 c9 w9 HM.out
          have HNN := hide hnn
          clear hnn
          clear HM HNX
          go_wp2_with fail
          go_roundw
          case rel => exact HNN.out
          case measure => simp [intOf] <;> omega
        · obtain rfl : j = Q.length := by omega
          have hkk : ¬ ((Q.length : Int) < Q.length) := by omega
          subst hQ
          have hso := SetO.next hfi hlt HP.out HE3.out HM.out
          have HSO := hide hso
          clear hso
          go_wp2_with fail
          go_roundw
          case rel => exact HSO.out
          case measure => simp [intOf] <;> omega
    · obtain rfl : i = n := by omega
      have hkk : ¬ ((i : Int) < i) := by omega
      have hp := HP.out
      rw [HEND.out, List.append_nil] at hp
      subst hp
      go_wp2
      exact bodyPost_ret (v := .slice A' (setsR i (k + 1) f).length c') (by simp [results, Try.results76, go_sem]) rfl ⟨A', c', E, rfl, HE.out, by rw [hg0]; exact HM.out⟩
theorem rsets_any : ∀ (k f n : Nat) (kI : Int) (w : World), kI = (k : Int) → f ≤ n → n ≤ 20 → k ≤ 20 → Calls Try.prog 76 #[.int .i64 (f : Int), .int .i64 (n : Int), .int .i64 kI] w (SetsPost w (setsR n k f))
  | 0, f, n, kI, w, h, hf, hn, _ => by
    subst h
    exact rsets_zero f n w (by omega) (by omega)
  | k + 1, f, n, kI, w, h, hf, hn, hk => rsets_up k f n kI w (by omega) hf hn (by omega) fun f' W hf' => rsets_any k f' n (k : Int) W rfl hf' hn (by omega)
theorem SetsPost.lists {w w' : World} {L : List (List Nat)} {e : Ending} (h : SetsPost w L e w') : ∃ A c, e = .returned (.slice A L.length c) ∧ Below w.heap.size w w' ∧ SetsL w' A L := by
  obtain ⟨A, c, E, h1, h2, h3⟩ := h
  exact ⟨A, c, h1, h3.below, sets_l h3 (by rw [← h2, List.length_map, List.length_reverse]) h2⟩
end Go.Proofs.Ytllpffkifleigaa
end
section
namespace Go.Proofs.Ytllpffkifleigaa
open Go Go.RowKit

theorem rsightInfoR : (Try.prog.info? 88).map (fun i => (i.zero, i.size, i.bytes)) = some (some (.agg #[.int .i64 0, .int .i64 0, .int .i64 0, .int .i64 0, .int .i64 0]), 5, 40) := by kernel_rfl
theorem rsgts_ownR {w : World} {base c n : Nat} {A : Option Addr} {L : List Sgt} (hn : L.length = n) (h : w.ownsRow base 88 5 (.slice A n c) n (sgsV L)) : SgtsH w A L := fun hl => by
  obtain ⟨b, cur, rfl, -, hb, -, -, hc⟩ := row_blk h (by omega)
  exact sgts_blk hb hc hl
def somP (set : List Nat) (b : Bool) (i : Nat) : Bool := set.contains i == b
theorem som_in (l : List Sgt) (set : List Nat) : selN l (somP set true) l.length = inR l set := by
  unfold inR somP
  congr 1
  funext i
  cases set.contains i <;> rfl
theorem som_out (l : List Sgt) (set : List Nat) : selN l (somP set false) l.length = outR l set := by
  unfold outR somP
  congr 1
  funext i
  cases set.contains i <;> rfl
theorem selN_le (l : List Sgt) (p : Nat → Bool) : ∀ i, (selN l p i).length ≤ i
  | 0 => Nat.le_refl _
  | i + 1 => by
    have := selN_le l p i
    show (selN l p i ++ _).length ≤ _
    rw [List.length_append]
    split <;> simp <;> omega
theorem take_has {set : List Nat} {i j : Nat} (hj : j < set.length) : (set.take (j + 1)).contains i = ((set.take j).contains i || decide (((set.getD j 0 : Nat) : Int) = (i : Int))) := by
  rw [List.take_add_one, List.getElem?_eq_getElem hj, List.getD_eq_getElem?_getD, List.getElem?_eq_getElem hj]
  have e : ∀ (a : List Nat) (x : Nat), (a ++ [x]).contains i = (a.contains i || decide (i = x)) := fun a x => by
    simp [List.contains_append]
  show (set.take j ++ [set[j]]).contains i = _
  rw [e]
  congr 1
  show decide (i = set[j]) = decide ((set[j] : Int) = i)
  by_cases h : i = set[j]
  · rw [decide_eq_true h, decide_eq_true (by omega)]
  · rw [decide_eq_false h, decide_eq_false (by omega)]
set_option maxHeartbeats 2000000 in
set_option maxRecDepth 100000 in
theorem rsome_any (A B : Option Addr) (l : List Sgt) (c cb : Nat) (set : List Nat) (bi : Bool) (w : World) (hmax : l.length ≤ 400) (hms : set.length ≤ 1000) (hA : SgtsH w A l) (hB : SetM w B set) :
    Calls Try.prog 77 #[.slice A l.length c, .slice B set.length cb, .bool bi] w fun e w' => ∃ A' c', e = .returned (.slice A' (selN l (somP set bi) l.length).length c') ∧ Below w.heap.size w w' ∧ SgtsH w' A' (selN l (somP set bi) l.length) := by
  have hsc : SgtsAt w w.heap.size A l := hA
  unfold SgtsAt at hsc
  have hbc := hB
  unfold SetM at hbc
  have hsn : ∀ i, selN l (somP set bi) (i + 1) = selN l (somP set bi) i ++ (if ((set.take set.length).contains i == bi) = true then [l.getD i sg0] else []) := fun i => by rw [List.take_length]; rfl
  have h00 : sgsV (selN l (somP set bi) 0) = [] := rfl
  have hlen := selN_le l (somP set bi)
  obtain ⟨G, hG⟩ : ∃ G : Nat → List Sgt, G = selN l (somP set bi) := ⟨_, rfl⟩
  rw [← hG] at hsn h00 hlen ⊢
  have hT0 : ∀ i, (set.take 0).contains i = false := fun i => rfl
  have hTs : ∀ i j, j < set.length → (set.take (j + 1)).contains i = ((set.take j).contains i || decide (((set.getD j 0 : Nat) : Int) = (i : Int))) := fun i j hj => take_has hj
  obtain ⟨T, hT⟩ : ∃ T : Nat → Nat → Bool, T = fun i j => (set.take j).contains i := ⟨_, rfl⟩
  have hTe : ∀ i j, (set.take j).contains i = T i j := fun i j => by rw [hT]
  simp only [hTe] at hsn hT0 hTs
  obtain ⟨n, hn⟩ : ∃ n, l.length = n := ⟨_, rfl⟩
  obtain ⟨m, hm⟩ : ∃ n, set.length = n := ⟨_, rfl⟩
  rw [hn] at hsc hmax ⊢
  rw [hm] at hbc hms ⊢
  simp only [hm] at hsn hTs
  have hmax2 : (n : Int) ≤ 400 := by omega
  have hms2 : (m : Int) ≤ 1000 := by omega
  have HSC := hide hsc
  have HBC := hide hbc
  have HSN := hide hsn
  have H00 := hide h00
  have HLEN := hide hlen
  have HT0 := hide hT0
  have HTS := hide hTs
  clear hsc hbc hsn h00 hlen hT0 hTs
  clear hA hB hG hT hTe hn hm
  go_enter Try.func77, Try.ntmps77
  have HM := hide (Mem.start w)
  go_wp2_with fail
  have HM2 := hide (HM.out.nilRow w.heap.size 88 5)
  clear HM
  have HM := HM2
  clear HM2
  generalize hg0 : w.heap.size = gs at HM ⊢
  go_loopw [7, 8] (fun o ii wr => ∃ (i : Nat) (A' : Option Addr) (c' : Nat), i ≤ n ∧ ii = .int .i64 i ∧ o = .slice A' (G i).length c' ∧ Mem w [.row gs 88 5 (.slice A' (G i).length c') (G i).length (sgsV (G i))] wr) (fun _ ii _ => n - (intOf ii).toNat)
  case atStart =>
    have h0 : (G 0).length = 0 := by
      have := HLEN.out 0
      omega
    exact ⟨0, none, 0, by omega, rfl, by rw [h0], by rw [H00.out, h0]; exact HM.out⟩
  case round =>
    obtain ⟨i, A', c', hi, rfl, rfl, hM⟩ := hrel
    clear HM
    have HM := hide hM
    clear hM
    by_cases hlt : i < n
    · have hlt2 : (i : Int) < n := by omega
      have g1 := HSN.out i
      have g2 := HLEN.out i
      have t0 := HT0.out i
      have t1 := fun j => HTS.out i j
      obtain ⟨L, hL0⟩ : ∃ L, G i = L := ⟨_, rfl⟩
      rw [hL0] at g1 g2 HM ⊢
      obtain ⟨Ti, hTi⟩ : ∃ f : Nat → Bool, f = T i := ⟨_, rfl⟩
      rw [← hTi] at g1 t0
      simp only [← hTi] at t1
      have g22 : (L.length : Int) ≤ 400 := by omega
      have G1 := hide g1
      have T0 := hide t0
      have T1 := hide t1
      clear g1 t0 t1
      clear hL0 hTi
      go_wp2_with fail
      go_loopw [9, 10] (fun is jj wr => ∃ j : Nat, j ≤ m ∧ jj = .int .i64 j ∧ is = .bool (Ti j) ∧ Mem w [.row gs 88 5 (.slice A' L.length c') L.length (sgsV L)] wr) (fun _ jj _ => m - (intOf jj).toNat)
      case atStart => exact ⟨0, by omega, rfl, by rw [T0.out], HM.out⟩
      case round =>
        obtain ⟨j, hj, rfl, rfl, hM⟩ := hrel
        clear HM
        have HM := hide hM
        clear hM
        by_cases hlj : j < m
        · have hlj2 : (j : Int) < m := by omega
          obtain ⟨b, cs, rfl, hb, hc⟩ := HBC.out (by omega)
          have q0 : wr.cell? ⟨b, j, none⟩ = _ := (HM.out.below.cell hb.lt).trans (hb.c _ (hc j hlj))
          have ltb : b < wr.heap.size := Nat.lt_of_lt_of_le hb.lt HM.out.size
          have t1 := T1.out j hlj
          obtain ⟨z, hz⟩ : ∃ z : Int, ((set.getD j 0 : Nat) : Int) = z := ⟨_, rfl⟩
          rw [hz] at q0 t1
          obtain ⟨tj, htj⟩ : ∃ b, Ti j = b := ⟨_, rfl⟩
          rw [htj] at t1 ⊢
          clear hc hb hz htj
          cases tj with
          | true =>
            rw [Bool.true_or] at t1
            have TT := hide t1
            clear t1
            go_wp2_with fail
            go_roundw
            case rel => exact ⟨j + 1, by omega, by go_num, by rw [TT.out]; try simp [hzi], HM.out⟩
            case measure => simp [intOf] <;> omega
          | false =>
            rw [Bool.false_or] at t1
            by_cases hzi : z = i
            · rw [decide_eq_true hzi] at t1
              have TT := hide t1
              clear t1
              go_wp2_with fail
              go_roundw
              case rel => exact ⟨j + 1, by omega, by go_num, by rw [TT.out]; try simp [hzi], HM.out⟩
              case measure => simp [intOf] <;> omega
            · rw [decide_eq_false hzi] at t1
              have TT := hide t1
              clear t1
              go_wp2_with fail
              go_roundw
              case rel => exact ⟨j + 1, by omega, by go_num, by rw [TT.out]; try simp [hzi], HM.out⟩
              case measure => simp [intOf] <;> omega
        · obtain rfl : j = m := by omega
          have hkk : ¬ ((j : Int) < j) := by omega
          have g1 := G1.out
          obtain ⟨tj, htj⟩ : ∃ b, Ti j = b := ⟨_, rfl⟩
          rw [htj] at g1 ⊢
          by_cases hbb : tj = bi
          · subst hbb
            have g3 : G (i + 1) = L ++ [l.getD i sg0] := by rw [g1, if_pos (by simp)]
            obtain ⟨b, off, rfl, hb0, hc⟩ := HSC.out (by omega)
            have hc1 := hc _ hlt
            obtain ⟨X, hX⟩ : ∃ X, l.getD i sg0 = X := ⟨_, rfl⟩
            rw [hX] at hc1 g3
            rw [← HM.out.below.cell hb0, ← HM.out.below.cell hb0, ← HM.out.below.cell hb0, ← HM.out.below.cell hb0, ← HM.out.below.cell hb0] at hc1
            have ltb : b < wr.heap.size := Nat.lt_of_lt_of_le hb0 HM.out.size
            obtain ⟨q0, q1, q2, q3, q4⟩ := hc1
            obtain ⟨sx, sy, sl, slo, shi⟩ := X
            simp only at q0 q1 q2 q3 q4
            obtain ⟨i0, hii, hz0, hz1, hz2⟩ := info_parts rsightInfoR
            have Hi := hide hii
            have Hz0 := hide hz0
            have Hz1 := hide hz1
            have Hz2 := hide hz2
            have G3 := hide g3
            clear hii hz0 hz1 hz2 g3
            clear hc hX g1 htj
            go_upto_region 11 with fail
            have hbaseM : gs ≤ wr.heap.size := by rw [← hg0]; exact HM.out.size
            generalize hxs : sgsV L = xs at *
            generalize hnl : L.length = nl at *
            have hownM := Mem.row_ HM.out 0 rfl
            
            go_wp2_with (at_builtin; refine wpList_append_own_at _ rfl (.tmp 35) (.tmp 40) _ rfl _ 88 i0 _ 5 40 Try.underlying22 Hi.out Hz0.out Hz1.out Hz2.out rfl (by decide) _ nl xs rfl (hownM.alloc _) ⟨wr.heap.size, 0, none⟩ 1 1 [.int .i64 sx, .int .i64 sy, .int .i64 sl, .int .i64 slo, .int .i64 shi] rfl rfl ?q1c1 (by intro u hu; simp only [List.mem_cons, List.not_mem_nil, or_false] at hu; rcases hu with rfl | rfl | rfl | rfl | rfl <;> rfl) ?q1c3 ?q1c4 ?q1c5 ?_)
            try case q1c1 => exact new_cellsQ wr _ [.int .i64 sx, .int .i64 sy, .int .i64 sl, .int .i64 slo, .int .i64 shi]
            case q1c3 => unfold maxLen; omega
            case q1c4 => omega
            case q1c5 => first | omega | (simp; omega)
            intro vA w9 hown2 hgr2 _ hat2
            have HMn := HM.out.grow 0 rfl _ hgr2 hown2 hat2
            replace HM := hide HMn
            clear HMn hown2 hgr2 hat2 hownM hbaseM
            obtain ⟨A9, c9, rfl⟩ := own_shape2 (Mem.row_ HM.out 0 rfl)
            go_wp2_with fail
            go_roundw
            case rel => exact ⟨i + 1, A9, c9, by omega, by go_num, by rw [G3.out, List.length_append, hnl]; rfl, by rw [G3.out, List.length_append, sgsV_app, hnl, hxs]; exact HM.out⟩
            case measure => simp [intOf] <;> omega
          · have g3 : G (i + 1) = L := by rw [g1, if_neg (by simpa using hbb), List.append_nil]
            have hbb2 : (tj == bi) = false := by simpa using hbb
            clear g1 htj
            go_wp2_with fail
            go_roundw
            case rel => exact ⟨i + 1, A', c', by omega, by go_num, by rw [g3], by rw [g3]; exact HM.out⟩
            case measure => simp [intOf] <;> omega
    · obtain rfl : i = n := by omega
      have hkk : ¬ ((i : Int) < i) := by omega
      have hsg := rsgts_ownR rfl (HM.out.row_ 0 rfl)
      have HSG := hide hsg
      clear hsg
      go_wp2
      exact bodyPost_ret (v := .slice A' (G i).length c') (by simp [results, Try.results77, go_sem]) rfl ⟨A', ⟨c', rfl⟩, by first | exact HM.out.below | (rw [← hg0]; exact HM.out.below), HSG.out⟩
end Go.Proofs.Ytllpffkifleigaa
end
section
namespace Go.Proofs.Ytllpffkifleigaa
open Go Go.RowKit

theorem rsetsL_any (k n : Nat) (w : World) (hn : n ≤ 20) (hk : k ≤ 20) : Calls Try.prog 76 #[.int .i64 0, .int .i64 (n : Int), .int .i64 (k : Int)] w fun e w' => ∃ A c, e = .returned (.slice A (setsR n k 0).length c) ∧ Below w.heap.size w w' ∧ SetsL w' A (setsR n k 0) := by
  have h := rsets_any k 0 n (k : Int) w rfl (by omega) hn hk
  have e0 : ((0 : Nat) : Int) = 0 := rfl
  rw [e0] at h
  exact h.mono fun e w' h => h.lists
/-- An element of a list of sets. -/
theorem SetsL.at_ {w : World} {A : Option Addr} {L : List (List Nat)} {j : Nat} (h : SetsL w A L) (hj : j < L.length) : ∃ b a c, A = some ⟨b, 0, none⟩ ∧ b < w.heap.size ∧ w.cell? ⟨b, j, none⟩ = some (.slice a (L.getD j []).length c) ∧ SetM w a (L.getD j []) := by
  obtain ⟨b, cs, e, hb, hc⟩ := h (by omega)
  obtain ⟨a, c, h1, h2⟩ := hc j hj
  exact ⟨b, a, c, e, hb.lt, hb.c j h1, h2⟩
set_option maxHeartbeats 1000000 in
set_option maxRecDepth 100000 in
theorem rBlame_any (A : Option Addr) (l : List Sgt) (c : Nat) (w : World) (hmax : l.length ≤ maxLen) (hfew : l.length ≤ 6 ∨ 360 < l.length) (hA : SgtsH w A l) (hI : AllI l) :
    Calls Try.prog 22 #[.slice A l.length c] w (SetPost w (blameA l) (blameE l)) := by
  have hL := fun (W : World) (hW : Below w.heap.size w W) => rlist_any A l c W hmax (SgtsAt.below hA hW) hI
  by_cases he : listE l = 0
  · obtain ⟨hl1, hl2⟩ := listE_ok.1 he
    have hl6 : l.length ≤ 6 := by omega
    have hG := fun (W : World) (hW : Below w.heap.size w W) => ragrees_any A l c 0 W (by omega) (SgtsAt.below hA hW) hl2 (by omega) (by omega)
    have hS := fun k (hk : k ≤ l.length) W => rsetsL_any k l.length W (by omega) (by omega)
    have hO := fun (t : List Nat) (B : Option Addr) (cb : Nat) (W : World) (hW : Below w.heap.size w W) (ht : t.length ≤ 1000) (hB : SetM W B t) => rsome_any A B l c cb t true W (by omega) ht (hA.later hW) hB
    have hG2 := fun (t : List Nat) (B : Option Addr) (cb : Nat) (W : World) (hB : SgtsH W B (inR l t)) => ragrees_any B (inR l t) cb 0 W (by unfold inR; have := selN_le l (fun i => t.contains i) l.length; omega) hB (selN_ok hl2 (Nat.le_refl _)) (by omega) (by omega)
    simp only [som_in] at hO
    have hEa : blameE l = if agrB l 0 = true then 4 else 0 := by unfold blameE; rw [if_neg (by rw [he]; simp)]
    simp only [he] at hL
    have hAa : blameA l = if blameE l = 0 then (blameP l).getD [] else [] := rfl
    rw [hAa, hEa]
    have hbn := fun h => blame_none (l := l) h
    have hone := fun k j t h1 h2 h3 h4 h5 h6 => firstS_some (P := fun s => !agrB (inR l s) 0) (n := l.length) (a := 1) (b := l.length) (k := k) (j := j) (t := t) h1 h2 h3 h4 h5 h6
    have hnone := fun h => firstS_none (P := fun s => !agrB (inR l s) 0) (n := l.length) (a := 1) (b := l.length) h
    have hbr : blameR l = firstS (fun s => !agrB (inR l s) 0) l.length 1 l.length := rfl
    rw [← hbr] at hnone
    simp only [← hbr] at hone
    obtain ⟨b, hb⟩ : ∃ b, agrB l 0 = b := ⟨_, rfl⟩
    simp only [hb] at hbn hG ⊢
    obtain ⟨Pq, hPq⟩ : ∃ P : List Nat → Bool, P = fun s => agrB (inR l s) 0 := ⟨_, rfl⟩
    have hPe : ∀ s, agrB (inR l s) 0 = Pq s := fun s => by rw [hPq]
    simp only [hPe] at hone hnone hG2
    have hslen : ∀ k j, j < (setsR l.length k 0).length → ((setsR l.length k 0).getD j []).length = k := fun k j hj => by
      rw [List.getD_eq_getElem?_getD, List.getElem?_eq_getElem hj]
      exact setsR_len (List.getElem_mem hj)
    have hcnt := fun k => setsR_count (n := l.length) k 20 0 (by omega)
    obtain ⟨n, hn⟩ : ∃ n, l.length = n := ⟨_, rfl⟩
    simp only [hn] at hL hG hS hO hone hnone hl6 hl1 hslen hcnt ⊢
    have hln : (n : Int) ≤ 6 := by omega
    generalize blameP l = bp at *
    generalize blameR l = br at *
    clear hA hI hAa hEa hb hl2 he hbr hPq hPe hn hfew hmax
    cases b with
    | true =>
      simp only [if_true]
      have HL := hide hL
      have HG := hide hG
      clear hL hG
      clear hbn hone hnone hS hO hG2 hslen hcnt
      go_enter Try.func22, Try.ntmps22
      have HB := hide (Below.refl w.heap.size w)
      go_wp2_with fail
      refine (HL.out _ HB.out).mono ?_
      rintro e w1 ⟨rfl, hb⟩
      replace HB := hide (onward HB.out hb)
      clear hb
      go_wp2_with fail
      refine (HG.out _ HB.out).mono ?_
      rintro e w2 ⟨rfl, hb⟩
      replace HB := hide (onward HB.out hb)
      clear hb
      go_wp2
      refine bodyPost_ret (v := .tuple #[.slice none 0 0, .int .i64 4]) (by simp [results, Try.results22, go_sem]) rfl ⟨none, 0, rfl, HB.out, fun h => by simp at h⟩
    | false =>
      obtain ⟨t0, rfl, rfl, ht1, ht2, -⟩ := hbn rfl
      clear hbn
      have hgt : (some t0).getD [] = t0 := rfl
      simp only [Bool.false_eq_true, if_false, if_true, hgt]
      clear hgt
      have HL := hide hL
      have HG := hide hG
      have HS := hide hS
      have HO := hide hO
      have HG2 := hide hG2
      have HONE := hide hone
      have HNONE := hide hnone
      have HSL := hide hslen
      have HCN := hide hcnt
      clear hL hG hS hO hG2 hone hnone hslen hcnt
      go_enter Try.func22, Try.ntmps22
      have HB := hide (Below.refl w.heap.size w)
      go_wp2_with fail
      refine (HL.out _ HB.out).mono ?_
      rintro e w1 ⟨rfl, hb⟩
      replace HB := hide (onward HB.out hb)
      clear hb
      go_wp2_with fail
      refine (HG.out _ HB.out).mono ?_
      rintro e w2 ⟨rfl, hb⟩
      replace HB := hide (onward HB.out hb)
      clear hb
      go_wp2_with fail
      go_loopw [5] (fun kk wr => ∃ k : Nat, 1 ≤ k ∧ k ≤ n + 1 ∧ kk = .int .i64 k ∧ (∀ k', 1 ≤ k' → k' < k → ∀ s ∈ setsR n k' 0, (!Pq s) = false) ∧ Below w.heap.size w wr) (fun kk _ => n + 1 - (intOf kk).toNat)
      case atStart => exact ⟨1, by omega, by omega, rfl, fun k' h1 h2 => absurd h1 (by omega), HB.out⟩
      case round =>
        obtain ⟨k, hk1, hk2, rfl, hno, hBl⟩ := hrel
        clear HB
        have HB := hide hBl
        have HNO := hide hno
        clear hBl hno
        by_cases hkn : k ≤ n
        · have hkn2 : (k : Int) ≤ n := by omega
          have s1 := HS.out k hkn
          have sl := HSL.out k
          have cn := HCN.out k
          have hone := HONE.out k
          obtain ⟨L, hL0⟩ : ∃ L, setsR n k 0 = L := ⟨_, rfl⟩
          have HLL := hide hL0
          rw [hL0] at cn sl
          simp only [hL0] at s1 hone
          clear hL0
          have cn2 : (L.length : Int) ≤ 1048576 := by omega
          have S1 := hide s1
          have SL := hide sl
          have ONE := hide hone
          clear s1 sl hone
          go_wp2_with fail
          refine (S1.out _).mono ?_
          rintro e w3 ⟨A2, c2, rfl, hb, hs⟩
          replace HB := hide (onward HB.out hb)
          have HT := hide hs
          clear hb hs
          go_wp2_with fail
          go_loopw [7] (fun jj wr => ∃ j : Nat, j ≤ L.length ∧ jj = .int .i64 j ∧ (∀ j', j' < j → (!Pq (L.getD j' [])) = false) ∧ SetsL wr A2 L ∧ Below w.heap.size w wr) (fun jj _ => L.length - (intOf jj).toNat)
          case atStart => exact ⟨0, by omega, rfl, fun j' h => absurd h (Nat.not_lt_zero _), HT.out, HB.out⟩
          case round =>
            obtain ⟨j, hj, rfl, hno2, hT, hBl⟩ := hrel
            clear HB HT
            have HB := hide hBl
            have HT := hide hT
            have HNO2 := hide hno2
            clear hBl hT hno2
            by_cases hlj : j < L.length
            · have hlj2 : (j : Int) < L.length := by omega
              obtain ⟨b, a, c5, rfl, ltb, q0, hm⟩ := HT.out.at_ hlj
              have htl := SL.out j hlj
              have o1 := HO.out (L.getD j []) a c5 wr HB.out (by omega) hm
              have g2 := HG2.out (L.getD j [])
              have hstep : (!Pq (L.getD j [])) = false → ∀ j', j' < j + 1 → (!Pq (L.getD j' [])) = false := fun h j' hj' => by
                by_cases e : j' = j
                · rw [e]; exact h
                · exact HNO2.out j' (by omega)
              have hwin : (!Pq (L.getD j [])) = true → L.getD j [] = t0 := fun h => by
                have e1 := ONE.out j (L.getD j []) hk1 hkn HNO.out (fun j' s hj' hs => by
                  have e2 : L.getD j' [] = s := by rw [List.getD_eq_getElem?_getD, hs]; rfl
                  have e3 := HNO2.out j' hj'
                  rw [e2] at e3
                  exact e3) (by rw [List.getD_eq_getElem?_getD, List.getElem?_eq_getElem hlj]; rfl) h
                exact (Option.some.inj e1).symm
              generalize L.getD j [] = t at *
              obtain ⟨tl, htl2⟩ : ∃ m, t.length = m := ⟨_, rfl⟩
              rw [htl2] at q0 o1
              generalize inR l t = It at *
              obtain ⟨pt, hpt⟩ : ∃ b, Pq t = b := ⟨_, rfl⟩
              rw [hpt] at hstep hwin
              simp only [hpt] at g2
              have O1 := hide o1
              have G2 := hide g2
              have HMM := hide hm
              have HST := hide hstep
              have HWN := hide hwin
              have HTL := hide htl2
              clear o1 g2 hm hstep hwin htl2
              clear hpt htl
              go_wp2_with fail
              refine O1.out.mono ?_
              rintro e w5 ⟨A5, c6, rfl, hb, hsg⟩
              replace HB := hide (onward HB.out hb)
              replace HT := hide (HT.out.later hb)
              replace HMM := hide (HMM.out.later hb)
              replace q0 := (hb.cell ltb).trans q0
              replace ltb := Nat.lt_of_lt_of_le ltb hb.size
              have HSG := hide hsg
              clear hb hsg
              go_wp2_with fail
              refine (G2.out _ _ _ HSG.out).mono ?_
              rintro e w6 ⟨rfl, hb⟩
              replace HB := hide (onward HB.out hb)
              replace HT := hide (HT.out.later hb)
              replace HMM := hide (HMM.out.later hb)
              replace q0 := (hb.cell ltb).trans q0
              replace ltb := Nat.lt_of_lt_of_le ltb hb.size
              clear hb HSG
              cases pt with
              | true =>
                have hs := HST.out rfl
                have HS1 := hide hs
                clear hs
                clear q0 ltb
                go_wp2_with fail
                go_roundw
                case rel => exact ⟨j + 1, by omega, by go_num, HS1.out, HT.out, HB.out⟩
                case measure => simp [intOf] <;> omega
              | false =>
                obtain rfl := HWN.out rfl
                go_wp2
                refine bodyPost_ret (v := .tuple #[.slice a tl c5, .int .i64 0]) (by simp [results, Try.results22, go_sem]) rfl ⟨a, c5, by rw [HTL.out], HB.out, HMM.out⟩
            · obtain rfl : j = L.length := by omega
              have hkk : ¬ ((L.length : Int) < L.length) := by omega
              have hall : ∀ k', 1 ≤ k' → k' < k + 1 → ∀ s ∈ setsR n k' 0, (!Pq s) = false := fun k' h1 h2 s hs => by
                by_cases e : k' = k
                · subst e
                  rw [HLL.out] at hs
                  obtain ⟨i, hi, rfl⟩ := List.mem_iff_getElem.1 hs
                  have := HNO2.out i hi
                  rw [List.getD_eq_getElem?_getD, List.getElem?_eq_getElem hi] at this
                  exact this
                · exact HNO.out k' h1 (by omega) s hs
              have HALL := hide hall
              clear hall
              go_wp2_with fail
              go_roundw
              case rel => exact ⟨k + 1, by omega, by omega, by go_num, HALL.out, HB.out⟩
              case measure => simp [intOf] <;> omega
        · exfalso
          have := HNONE.out (fun k' h1 h2 => HNO.out k' h1 (by omega))
          cases this
  · have hS : blameE l = listE l := by unfold blameE; rw [if_pos he]
    have hq : blameA l = [] := by unfold blameA; rw [hS, if_neg he]
    rw [hS, hq]
    obtain ⟨e0, hee⟩ : ∃ e, listE l = e := ⟨_, rfl⟩
    have hd : (e0 != 0) = true := by rw [hee] at he; simp [he]
    rw [hee] at he ⊢
    simp only [hee] at hL
    generalize l.length = n at *
    have HL := hide hL
    clear hL
    clear hA hI hee hS hq
    go_enter Try.func22, Try.ntmps22
    have HB := hide (Below.refl w.heap.size w)
    go_wp2_with fail
    refine (HL.out _ HB.out).mono ?_
    rintro e w1 ⟨rfl, hb⟩
    replace HB := hide (onward HB.out hb)
    clear hb
    go_wp2
    refine bodyPost_ret (v := .tuple #[.slice none 0 0, .int .i64 e0]) (by simp [results, Try.results22, go_sem]) rfl ⟨none, 0, rfl, HB.out, fun h => by simp at h⟩
end Go.Proofs.Ytllpffkifleigaa
end
section
namespace Go.Proofs.Ytllpffkifleigaa
open Go Go.RowKit

set_option maxHeartbeats 1000000 in
set_option maxRecDepth 100000 in
theorem rWithout_any (A : Option Addr) (l : List Sgt) (c : Nat) (most : Int) (w : World) (hmax : l.length ≤ maxLen) (hfew : l.length ≤ 6 ∨ 360 < l.length) (hA : SgtsH w A l) (hI : AllI l) :
    Calls Try.prog 27 #[.slice A l.length c, .int .i64 most] w (SetPost w (withoutA l most) (withoutE l most)) := by
  have hL := fun (W : World) (hW : Below w.heap.size w W) => rlist_any A l c W hmax (SgtsAt.below hA hW) hI
  by_cases he : listE l = 0
  · obtain ⟨hl1, hl2⟩ := listE_ok.1 he
    have hl6 : l.length ≤ 6 := by omega
    have hS := fun k (hk : k ≤ 2) W => rsetsL_any k l.length W (by omega) (by omega)
    have hO := fun (t : List Nat) (B : Option Addr) (cb : Nat) (W : World) (hW : Below w.heap.size w W) (ht : t.length ≤ 1000) (hB : SetM W B t) => rsome_any A B l c cb t false W (by omega) ht (hA.later hW) hB
    have hG2 := fun (t : List Nat) (B : Option Addr) (cb : Nat) (W : World) (hB : SgtsH W B (outR l t)) => ragrees_any B (outR l t) cb 0 W (by unfold outR; have := selN_le l (fun i => !t.contains i) l.length; omega) hB (selN_ok hl2 (Nat.le_refl _)) (by omega) (by omega)
    simp only [som_out] at hO
    have hEa : withoutE l most = if 0 ≤ most ∧ most ≤ 2 then (if (withoutP l most.toNat).isSome = true then 0 else 14) else 3 := by unfold withoutE; rw [if_neg (by rw [he]; simp)]
    simp only [he] at hL
    have hAa : withoutA l most = if withoutE l most = 0 then (withoutP l most.toNat).getD [] else [] := rfl
    rw [hAa, hEa, without_same]
    have hIn := fun W => In_any most 0 2 W
    by_cases hmo : 0 ≤ most ∧ most ≤ 2
    · have d1 : winBQ most 0 2 = true := winB_iff.2 hmo
      simp only [d1] at hIn
      rw [if_pos hmo]
      obtain ⟨mo1, mo2⟩ := hmo
      obtain ⟨mN, hmN⟩ : ∃ m, most.toNat = m := ⟨_, rfl⟩
      have hmn2 : most = (mN : Int) := by omega
      subst hmn2
      rw [hmN]
      have hone := fun k j t h2 h3 h4 h5 h6 => firstS_some (P := fun s => agrB (outR l s) 0) (n := l.length) (a := 0) (b := mN) (k := k) (j := j) (t := t) (Nat.zero_le _) h2 h3 h4 h5 h6
      have hnone := fun h => firstS_none (P := fun s => agrB (outR l s) 0) (n := l.length) (a := 0) (b := mN) h
      have hbr : withoutR l mN = firstS (fun s => agrB (outR l s) 0) l.length 0 mN := rfl
      rw [← hbr] at hnone
      simp only [← hbr] at hone
      obtain ⟨Pq, hPq⟩ : ∃ P : List Nat → Bool, P = fun s => agrB (outR l s) 0 := ⟨_, rfl⟩
      have hPe : ∀ s, agrB (outR l s) 0 = Pq s := fun s => by rw [hPq]
      simp only [hPe] at hone hnone hG2
      have hslen : ∀ k j, j < (setsR l.length k 0).length → ((setsR l.length k 0).getD j []).length = k := fun k j hj => by
        rw [List.getD_eq_getElem?_getD, List.getElem?_eq_getElem hj]
        exact setsR_len (List.getElem_mem hj)
      have hcnt := fun k => setsR_count (n := l.length) k 20 0 (by omega)
      obtain ⟨n, hn⟩ : ∃ n, l.length = n := ⟨_, rfl⟩
      simp only [hn] at hL hS hO hone hnone hl6 hl1 hslen hcnt ⊢
      have hln : (n : Int) ≤ 6 := by omega
      generalize withoutR l mN = br at *
      obtain ⟨ev, hev⟩ : ∃ e, (if br.isSome = true then (0 : Int) else 14) = e := ⟨_, rfl⟩
      rw [hev]
      obtain ⟨tv, htv⟩ : ∃ t, (if ev = 0 then br.getD [] else []) = t := ⟨_, rfl⟩
      rw [htv]
      have HEV := hide hev
      have HTV := hide htv
      clear hev htv
      have hmN2 : mN ≤ 2 := by omega
      clear hA hI hAa hEa hl2 he hbr hPq hPe hn hfew hmax d1 hmN
      have HL := hide hL
      have HIN := hide hIn
      have HS := hide hS
      have HO := hide hO
      have HG2 := hide hG2
      have HONE := hide hone
      have HNONE := hide hnone
      have HSL := hide hslen
      have HCN := hide hcnt
      clear hL hIn hS hO hG2 hone hnone hslen hcnt
      go_enter Try.func27, Try.ntmps27
      have HB := hide (Below.refl w.heap.size w)
      go_wp2_with fail
      refine (HL.out _ HB.out).mono ?_
      rintro e w1 ⟨rfl, hb⟩
      replace HB := hide (onward HB.out hb)
      clear hb
      go_wp2_with fail
      refine (HIN.out _).mono ?_
      rintro e w2 ⟨rfl, rfl⟩
      go_wp2_with fail
      go_loopw [7] (fun kk wr => ∃ k : Nat, k ≤ mN + 1 ∧ kk = .int .i64 k ∧ (∀ k', 0 ≤ k' → k' < k → ∀ s ∈ setsR n k' 0, Pq s = false) ∧ Below w.heap.size w wr) (fun kk _ => mN + 1 - (intOf kk).toNat)
      case atStart => exact ⟨0, by omega, rfl, fun k' h1 h2 => absurd h2 (Nat.not_lt_zero _), HB.out⟩
      case round =>
        obtain ⟨k, hk2, rfl, hno, hBl⟩ := hrel
        clear HB
        have HB := hide hBl
        have HNO := hide hno
        clear hBl hno
        by_cases hkn : k ≤ mN
        · have hkn2 : (k : Int) ≤ mN := by omega
          have hk2' : (k : Int) ≤ 2 := by omega
          have s1 := HS.out k (by omega)
          have sl := HSL.out k
          have cn := HCN.out k
          have hone := HONE.out k
          obtain ⟨L, hL0⟩ : ∃ L, setsR n k 0 = L := ⟨_, rfl⟩
          have HLL := hide hL0
          rw [hL0] at cn sl
          simp only [hL0] at s1 hone
          clear hL0
          have cn2 : (L.length : Int) ≤ 1048576 := by omega
          have S1 := hide s1
          have SL := hide sl
          have ONE := hide hone
          clear s1 sl hone
          go_wp2_with fail
          refine (S1.out _).mono ?_
          rintro e w3 ⟨A2, c2, rfl, hb, hs⟩
          replace HB := hide (onward HB.out hb)
          have HT := hide hs
          clear hb hs
          go_wp2_with fail
          go_loopw [9] (fun jj wr => ∃ j : Nat, j ≤ L.length ∧ jj = .int .i64 j ∧ (∀ j', j' < j → Pq (L.getD j' []) = false) ∧ SetsL wr A2 L ∧ Below w.heap.size w wr) (fun jj _ => L.length - (intOf jj).toNat)
          case atStart => exact ⟨0, by omega, rfl, fun j' h => absurd h (Nat.not_lt_zero _), HT.out, HB.out⟩
          case round =>
            obtain ⟨j, hj, rfl, hno2, hT, hBl⟩ := hrel
            clear HB HT
            have HB := hide hBl
            have HT := hide hT
            have HNO2 := hide hno2
            clear hBl hT hno2
            by_cases hlj : j < L.length
            · have hlj2 : (j : Int) < L.length := by omega
              obtain ⟨b, a, c5, rfl, ltb, q0, hm⟩ := HT.out.at_ hlj
              have htl := SL.out j hlj
              have o1 := HO.out (L.getD j []) a c5 wr HB.out (by omega) hm
              have g2 := HG2.out (L.getD j [])
              have hstep : Pq (L.getD j []) = false → ∀ j', j' < j + 1 → Pq (L.getD j' []) = false := fun h j' hj' => by
                by_cases e : j' = j
                · rw [e]; exact h
                · exact HNO2.out j' (by omega)
              have hwin : Pq (L.getD j []) = true → br = some (L.getD j []) := fun h => by
                have e1 := ONE.out j (L.getD j []) hkn HNO.out (fun j' s hj' hs => by
                  have e2 : L.getD j' [] = s := by rw [List.getD_eq_getElem?_getD, hs]; rfl
                  have e3 := HNO2.out j' hj'
                  rw [e2] at e3
                  exact e3) (by rw [List.getD_eq_getElem?_getD, List.getElem?_eq_getElem hlj]; rfl) h
                exact e1
              generalize L.getD j [] = t at *
              obtain ⟨tl, htl2⟩ : ∃ m, t.length = m := ⟨_, rfl⟩
              rw [htl2] at q0 o1
              generalize outR l t = It at *
              obtain ⟨pt, hpt⟩ : ∃ b, Pq t = b := ⟨_, rfl⟩
              rw [hpt] at hstep hwin
              simp only [hpt] at g2
              have O1 := hide o1
              have G2 := hide g2
              have HMM := hide hm
              have HST := hide hstep
              have HWN := hide hwin
              have HTL := hide htl2
              clear o1 g2 hm hstep hwin htl2
              clear hpt htl
              go_wp2_with fail
              refine O1.out.mono ?_
              rintro e w5 ⟨A5, c6, rfl, hb, hsg⟩
              replace HB := hide (onward HB.out hb)
              replace HT := hide (HT.out.later hb)
              replace HMM := hide (HMM.out.later hb)
              replace q0 := (hb.cell ltb).trans q0
              replace ltb := Nat.lt_of_lt_of_le ltb hb.size
              have HSG := hide hsg
              clear hb hsg
              go_wp2_with fail
              refine (G2.out _ _ _ HSG.out).mono ?_
              rintro e w6 ⟨rfl, hb⟩
              replace HB := hide (onward HB.out hb)
              replace HT := hide (HT.out.later hb)
              replace HMM := hide (HMM.out.later hb)
              replace q0 := (hb.cell ltb).trans q0
              replace ltb := Nat.lt_of_lt_of_le ltb hb.size
              clear hb HSG
              cases pt with
              | false =>
                have hs := HST.out rfl
                have HS1 := hide hs
                clear hs
                clear q0 ltb
                go_wp2_with fail
                go_roundw
                case rel => exact ⟨j + 1, by omega, by go_num, HS1.out, HT.out, HB.out⟩
                case measure => simp [intOf] <;> omega
              | true =>
                obtain rfl := HWN.out rfl
                obtain rfl : 0 = ev := HEV.out
                obtain rfl : t = tv := HTV.out
                go_wp2
                refine bodyPost_ret (v := .tuple #[.slice a tl c5, .int .i64 0]) (by simp [results, Try.results27, go_sem]) rfl ⟨a, c5, by rw [HTL.out], HB.out, HMM.out⟩
            · obtain rfl : j = L.length := by omega
              have hkk : ¬ ((L.length : Int) < L.length) := by omega
              have hall : ∀ k', 0 ≤ k' → k' < k + 1 → ∀ s ∈ setsR n k' 0, Pq s = false := fun k' h1 h2 s hs => by
                by_cases e : k' = k
                · subst e
                  rw [HLL.out] at hs
                  obtain ⟨i, hi, rfl⟩ := List.mem_iff_getElem.1 hs
                  have := HNO2.out i hi
                  rw [List.getD_eq_getElem?_getD, List.getElem?_eq_getElem hi] at this
                  exact this
                · exact HNO.out k' h1 (by omega) s hs
              have HALL := hide hall
              clear hall
              go_wp2_with fail
              go_roundw
              case rel => exact ⟨k + 1, by omega, by go_num, HALL.out, HB.out⟩
              case measure => simp [intOf] <;> omega
        · have hkn2 : ¬ (k : Int) ≤ mN := by omega
          obtain rfl := HNONE.out (fun k' h1 h2 => HNO.out k' h1 (by omega))
          obtain rfl : 14 = ev := HEV.out
          obtain rfl : [] = tv := HTV.out
          go_wp2
          refine bodyPost_ret (v := .tuple #[.slice none 0 0, .int .i64 14]) (by simp [results, Try.results27, go_sem]) rfl ⟨none, 0, rfl, HB.out, fun h => by simp at h⟩
    · have d1 : winBQ most 0 2 = false := by
        cases h : winBQ most 0 2 with
        | false => rfl
        | true => exact absurd (winB_iff.1 h) hmo
      simp only [d1] at hIn
      rw [if_neg hmo, if_neg (by omega)]
      generalize l.length = n at *
      have HL := hide hL
      have HIN := hide hIn
      clear hL hIn
      clear hA hI hAa hEa hl2 he hfew hmax d1 hS hO hG2 hmo
      go_enter Try.func27, Try.ntmps27
      have HB := hide (Below.refl w.heap.size w)
      go_wp2_with fail
      refine (HL.out _ HB.out).mono ?_
      rintro e w1 ⟨rfl, hb⟩
      replace HB := hide (onward HB.out hb)
      clear hb
      go_wp2_with fail
      refine (HIN.out _).mono ?_
      rintro e w2 ⟨rfl, rfl⟩
      go_wp2
      refine bodyPost_ret (v := .tuple #[.slice none 0 0, .int .i64 3]) (by simp [results, Try.results27, go_sem]) rfl ⟨none, 0, rfl, HB.out, fun h => by simp at h⟩
  · have hS : withoutE l most = listE l := by unfold withoutE; rw [if_pos he]
    have hq : withoutA l most = [] := by unfold withoutA; rw [hS, if_neg he]
    rw [hS, hq]
    obtain ⟨e0, hee⟩ : ∃ e, listE l = e := ⟨_, rfl⟩
    have hd : (e0 != 0) = true := by rw [hee] at he; simp [he]
    rw [hee] at he ⊢
    simp only [hee] at hL
    generalize l.length = n at *
    have HL := hide hL
    clear hL
    clear hA hI hee hS hq
    go_enter Try.func27, Try.ntmps27
    have HB := hide (Below.refl w.heap.size w)
    go_wp2_with fail
    refine (HL.out _ HB.out).mono ?_
    rintro e w1 ⟨rfl, hb⟩
    replace HB := hide (onward HB.out hb)
    clear hb
    go_wp2
    refine bodyPost_ret (v := .tuple #[.slice none 0 0, .int .i64 e0]) (by simp [results, Try.results27, go_sem]) rfl ⟨none, 0, rfl, HB.out, fun h => by simp at h⟩
end Go.Proofs.Ytllpffkifleigaa
end
section
namespace Go.Proofs.Ytllpffkifleigaa
open Go Go.RowKit

set_option maxHeartbeats 1000000 in
set_option maxRecDepth 100000 in
theorem agrees_any (A : Option Addr) (n c : Nat) (L : List Sgt) (w : World) (hn : L.length = n) (hmax : n ≤ maxLen) (hs : SgtsH w A L) (hI : AllI L) :
    Calls Try.prog 34 #[.slice A n c] w fun e w' => e = .returned (.bool (decide (bndsE L = 0))) ∧ Below w.heap.size w w' := by
  have hB := Bounds_any A L c w (by omega) hs hI
  rw [hn] at hB
  generalize bndB L (loL 1 0 1 240000) = r1 at *
  generalize bndB L (hiL 1 0 1 240000) = r2 at *
  generalize bndB L (loL 0 1 1 240000) = r3 at *
  generalize bndB L (hiL 0 1 1 240000) = r4 at *
  generalize bndsE L = ev at *
  have HB0 := hide hB
  clear hB
  clear hs hI hn
  go_enter Try.func34, Try.ntmps34
  have HM := hide (Mem.start w)
  go_wp2_with fail
  refine (HB0.out).mono ?_
  rintro e w1 ⟨rfl, hb⟩
  replace HM := hide (HM.out.later hb)
  clear hb
  go_upto_region 2 with fail
  refine code_world fun w2 hW => ?_
  have HMn := Mem.to (Mem.allocAt HM.out w1.heap.size rfl #[.int .i64 r1, .int .i64 r2, .int .i64 r3, .int .i64 r4] 34) hW
  have LW : Later w1 w2 := by rw [hW]; exact ((Below.refl _ _).alloc (Nat.le_refl _) _)
  have szW : w2.heap.size = w1.heap.size + 1 := by rw [hW]; simp
  clear hW
  replace HM := hide HMn
  clear HMn LW
  clear szW
  go_wp2
  exact bodyPost_ret (v := .bool (ev == 0)) (by simp [results, Try.results34, go_sem]) rfl ⟨by first | rfl | (congr 2), HM.out.below⟩
set_option maxHeartbeats 1000000 in
set_option maxRecDepth 100000 in
theorem inside_any (a1 a2 b1 b2 : Int) (w : World) (h1 : b1 ≤ a1) (h2 : a2 ≤ b2) (h3 : a1 ≤ a2) :
    Calls Try.prog 37 #[.agg #[.int .i64 a1, .int .i64 a2], .agg #[.int .i64 b1, .int .i64 b2]] w fun e w' => e = .returned (.bool true) ∧ Below w.heap.size w w' := by
  go_enter Try.func37, Try.ntmps37
  have HM := hide (Mem.start w)
  go_upto_region 1 with fail
  refine code_world fun w2 hW => ?_
  have HMn := Mem.to (Mem.allocAt (Mem.allocAt HM.out w.heap.size rfl #[.int .i64 a1, .int .i64 a2] 32) (w.heap.size + 1) (by simp) #[.int .i64 b1, .int .i64 b2] 32) hW
  have LW : Later w w2 := by rw [hW]; exact (((Below.refl _ _).alloc (Nat.le_refl _) _).alloc (by simp; try omega) _)
  have szW : w2.heap.size = w.heap.size + 2 := by rw [hW]; simp
  clear hW
  replace HM := hide HMn
  clear HMn LW
  clear szW
  generalize hg1 : w.heap.size + 1 = gr at HM ⊢
  generalize hg0 : w.heap.size = ge at HM ⊢
  have bc : Blk w2 gr 32 #[.int .i64 b1, .int .i64 b2] := HM.out.get 0 rfl
  have ltc := bc.lt
  have c0 := bc.c 0 rfl
  have c1 := bc.c 1 rfl
  have bd : Blk w2 ge 32 #[.int .i64 a1, .int .i64 a2] := HM.out.get 1 rfl
  have ltd := bd.lt
  have d0 := bd.c 0 rfl
  have d1 := bd.c 1 rfl
  go_wp2
  exact bodyPost_ret (v := .bool true) (by simp [results, Try.results37, go_sem]) rfl ⟨rfl, by first | exact HM.out.below | (rw [← hg0]; exact HM.out.below)⟩
theorem map_snocS {f : Sgt → Sgt} {L : List Sgt} {k : Nat} (h : k < L.length) : (L.take (k + 1)).map f = (L.take k).map f ++ [f (L.getD k sg0)] := map_snoc (d := sg0) h
def RowPost (w : World) (L : List Sgt) (e : Ending) (w' : World) : Prop := ∃ A c, e = .returned (.slice A L.length c) ∧ Below w.heap.size w w' ∧ w'.ownsRow w.heap.size 71 5 (.slice A L.length c) L.length (sgsV L)
set_option maxHeartbeats 1000000 in
set_option maxRecDepth 100000 in
theorem wider_any (A : Option Addr) (n c : Nat) (L : List Sgt) (d : Int) (w : World) (hn : L.length = n) (hmax : n ≤ 300) (hA : SgtsH w A L) (hb : ∀ s ∈ L, -1000000 ≤ s.lo ∧ s.lo ≤ 1000000 ∧ -1000000 ≤ s.hi ∧ s.hi ≤ 1000000) (d1 : -1000000 ≤ d) (d2 : d ≤ 1000000) :
    Calls Try.prog 35 #[.slice A n c, .int .i64 d] w (RowPost w (L.map (wideS d))) := by
  have hs := fun k (hk : k < L.length) => map_snocS (f := wideS d) hk
  have hend : (L.take L.length).map (wideS d) = L.map (wideS d) := by rw [List.take_length]
  have hlen : (L.map (wideS d)).length = n := by rw [List.length_map, hn]
  have hbk := fun k (hk : k < L.length) => hb _ (getD_mem hk)
  unfold RowPost
  rw [hlen, ← hend, hn]
  obtain ⟨K, hK⟩ : ∃ K : Nat → List Sgt, K = fun k => (L.take k).map (wideS d) := ⟨_, rfl⟩
  have hKe : ∀ k, (L.take k).map (wideS d) = K k := fun k => by rw [hK]
  have hK0 : K 0 = [] := by rw [hK]; rfl
  simp only [hKe] at hs ⊢
  have hsc : SgtsAt w w.heap.size A L := hA
  unfold SgtsAt at hsc
  rw [hn] at hs hsc hbk
  have hm2 : (n : Int) ≤ 300 := by omega
  have HS := hide hs
  have HSC := hide hsc
  have HK0 := hide hK0
  have HBK := hide hbk
  clear hs hsc hK0 hbk
  clear hA hb hend hlen hK hKe hn
  go_enter Try.func35, Try.ntmps35
  have HM := hide ((Mem.start w).nilRow w.heap.size 71 5)
  go_wp2_with fail
  go_loopw [5, 10] (fun o i wr => ∃ (k : Nat) (A' : Option Addr) (c' : Nat), k ≤ n ∧ i = .int .i64 k ∧ o = .slice A' k c' ∧ Mem w [.row w.heap.size 71 5 (.slice A' k c') k (sgsV (K k))] wr) (fun _ i _ => n - (intOf i).toNat)
  case atStart => exact ⟨0, none, 0, by omega, rfl, rfl, by rw [HK0.out]; exact HM.out⟩
  case round =>
    obtain ⟨k, A', c', hk, rfl, rfl, hM⟩ := hrel
    clear HM
    have HM := hide hM
    clear hM
    by_cases hlt : k < n
    · have hlt2 : (k : Int) < n := by omega
      obtain ⟨b, off, rfl, hb0, hc⟩ := HSC.out (by omega)
      have hc1 := hc _ hlt
      have hs1 := HS.out k hlt
      have hk1 := HBK.out k hlt
      obtain ⟨X, hX⟩ : ∃ X, L.getD k sg0 = X := ⟨_, rfl⟩
      rw [hX] at hc1 hs1 hk1
      rw [← HM.out.below.cell hb0, ← HM.out.below.cell hb0, ← HM.out.below.cell hb0, ← HM.out.below.cell hb0, ← HM.out.below.cell hb0] at hc1
      have ltb : b < wr.heap.size := Nat.lt_of_lt_of_le hb0 HM.out.size
      obtain ⟨q0, q1, q2, q3, q4⟩ := hc1
      obtain ⟨sx, sy, sl, slo, shi⟩ := X
      simp only at q0 q1 q2 q3 q4 hk1
      obtain ⟨y1, y2, y3, y4⟩ := hk1
      have hs2 : sgsV (K (k + 1)) = sgsV (K k) ++ [.int .i64 sx, .int .i64 sy, .int .i64 sl, .int .i64 (slo - d), .int .i64 (shi + d)] := by rw [hs1, sgsV_app]; rfl
      generalize sgsV (K k) = xs at *
      obtain ⟨i0, hii, hz0, hz1, hz2⟩ := info_parts sightInfo
      have Hi := hide hii
      have Hz0 := hide hz0
      have Hz1 := hide hz1
      have Hz2 := hide hz2
      clear hii hz0 hz1 hz2
      have HS2 := hide hs2
      clear hs2
      clear hc hX hs1
      go_upto_region 5 with fail
      refine code_world fun w1 hW => ?_
      have HMn := Mem.to (Mem.allocAt HM.out wr.heap.size rfl #[.int .i64 sx, .int .i64 sy, .int .i64 sl, .int .i64 slo, .int .i64 shi] 71) hW
      have LW : Later wr w1 := by rw [hW]; exact ((Below.refl _ _).alloc (Nat.le_refl _) _)
      have szW : w1.heap.size = wr.heap.size + 1 := by rw [hW]; simp
      clear hW
      replace HM := hide HMn
      clear HMn LW
      clear szW q0 q1 q2 q3 q4 ltb
      generalize hgx : wr.heap.size = gx at HM ⊢
      have bz : Blk w1 gx 71 #[.int .i64 sx, .int .i64 sy, .int .i64 sl, .int .i64 slo, .int .i64 shi] := HM.out.get 0 rfl
      have ltz := bz.lt
      have z0 := bz.c 0 rfl
      have fz0 := bz.frozen 0
      have z1 := bz.c 1 rfl
      have fz1 := bz.frozen 1
      have z2 := bz.c 2 rfl
      have fz2 := bz.frozen 2
      have z3 := bz.c 3 rfl
      have fz3 := bz.frozen 3
      have z4 := bz.c 4 rfl
      have fz4 := bz.frozen 4
      have HM2 := hide ((HM.out.set_ 0 rfl 3 (.int .i64 (slo - d)) rfl).set_ 0 rfl 4 (.int .i64 (shi + d)) rfl)
      go_upto_region 6 with fail
      refine code_world fun w2 hW => ?_
      rw [← hW] at HM2
      clear hW bz ltz z0 z1 z2 z3 z4 fz0 fz1 fz2 fz3 fz4 HM
      have HM := HM2
      clear HM2
      have bz : Blk w2 gx 71 #[.int .i64 sx, .int .i64 sy, .int .i64 sl, .int .i64 (slo - d), .int .i64 (shi + d)] := HM.out.get 0 rfl
      have ltz := bz.lt
      have z0 := bz.c 0 rfl
      have z1 := bz.c 1 rfl
      have z2 := bz.c 2 rfl
      have z3 := bz.c 3 rfl
      have z4 := bz.c 4 rfl
      have hownM := Mem.row_ HM.out 1 rfl
      have hbaseM : w.heap.size ≤ w2.heap.size := HM.out.size
      go_wp2_with (at_builtin; refine wpList_append_own_at _ rfl (.tmp 28) (.tmp 30) _ rfl w.heap.size 71 i0 _ 5 40 Try.underlying25 Hi.out Hz0.out Hz1.out Hz2.out rfl (by decide) _ k xs rfl (hownM.alloc _) ⟨w2.heap.size, 0, none⟩ 1 1 [.int .i64 sx, .int .i64 sy, .int .i64 sl, .int .i64 (slo - d), .int .i64 (shi + d)] rfl rfl ?q1c1 (by intro u hu; simp only [List.mem_cons, List.not_mem_nil, or_false] at hu; rcases hu with rfl | rfl | rfl | rfl | rfl <;> rfl) ?q1c3 ?q1c4 ?q1c5 ?_)
      try case q1c1 => exact new_cellsQ w2 _ [.int .i64 sx, .int .i64 sy, .int .i64 sl, .int .i64 (slo - d), .int .i64 (shi + d)]
      case q1c3 => unfold maxLen; omega
      case q1c4 => omega
      case q1c5 => first | omega | (simp; omega)
      intro vA w9 hown2 hgr2 _ hat2
      have HMn := HM.out.grow 1 rfl _ hgr2 hown2 hat2
      replace HM := hide HMn
      clear HMn hown2 hgr2 hat2 hownM hbaseM
      clear bz ltz z0 z1 z2 z3 z4
      obtain ⟨A9, c9, rfl⟩ := own_shape2 (Mem.row_ HM.out 1 rfl)
      go_wp2_with fail
      go_roundw
      case rel => exact ⟨k + 1, A9, c9, by omega, by go_num, rfl, by rw [HS2.out]; exact HM.out.tail⟩
      case measure => simp [intOf] <;> omega
    · obtain rfl : k = n := by omega
      have hkk : ¬ ((k : Int) < k) := by omega
      go_wp2
      exact bodyPost_ret (v := .slice A' k c') (by simp [results, Try.results35, go_sem]) rfl ⟨A', c', rfl, HM.out.below, HM.out.row_ 0 rfl⟩
end Go.Proofs.Ytllpffkifleigaa
end
section
namespace Go.Proofs.Ytllpffkifleigaa
open Go Go.RowKit

/-- Sights of two winds. -/
def mixT (E : List EyeN) (u v p q : Int) (B : Nat → Bool) (k : Nat) : List Sgt := (List.range k).map fun i => if B i = true then eyeT p q (E.getD i eye0) else eyeT u v (E.getD i eye0)
theorem mixT_succ {E : List EyeN} {u v p q : Int} {B : Nat → Bool} (k : Nat) : mixT E u v p q B (k + 1) = mixT E u v p q B k ++ [if B k = true then eyeT p q (E.getD k eye0) else eyeT u v (E.getD k eye0)] := by
  unfold mixT
  rw [List.range_succ, List.map_append]
  rfl
theorem mixT_len {E : List EyeN} {u v p q : Int} {B : Nat → Bool} (k : Nat) : (mixT E u v p q B k).length = k := by unfold mixT; rw [List.length_map, List.length_range]
def bitB (sec : Int) (k : Nat) : Bool := bits BinOp.and IntKind.u16 (sec / 2 ^ k) 1 == 1
set_option maxHeartbeats 1000000 in
set_option maxRecDepth 100000 in
theorem mixed_any (A : Option Addr) (n c : Nat) (E : List EyeN) (u v p q sec : Int) (w : World) (hn : E.length = n) (hmax : n ≤ 10) (hA : EyesAt w w.heap.size A E) (he : ∀ e ∈ E, EyeOk e)
    (hu : -32768 ≤ u ∧ u ≤ 32767) (hv : -32768 ≤ v ∧ v ≤ 32767) (hp : -32768 ≤ p ∧ p ≤ 32767) (hq : -32768 ≤ q ∧ q ≤ 32767) (s1 : 0 ≤ sec) (s2 : sec ≤ 65535) :
    Calls Try.prog 33 #[.slice A n c, .int .i16 u, .int .i16 v, .int .i16 p, .int .i16 q, .int .u16 sec] w (RowPost w (mixT E u v p q (bitB sec) n)) := by
  have hlU := fun k (hk : k < E.length) W => eyelook_any (E.getD k eye0) u v W (he _ (getD_memE hk)) hu hv
  have hlP := fun k (hk : k < E.length) W => eyelook_any (E.getD k eye0) p q W (he _ (getD_memE hk)) hp hq
  have hs := fun k => mixT_succ (E := E) (u := u) (v := v) (p := p) (q := q) (B := bitB sec) k
  have hlen := mixT_len (E := E) (u := u) (v := v) (p := p) (q := q) (B := bitB sec) n
  unfold RowPost
  rw [hlen]
  obtain ⟨K, hK⟩ : ∃ K : Nat → List Sgt, K = fun k => mixT E u v p q (bitB sec) k := ⟨_, rfl⟩
  have hKe : ∀ k, mixT E u v p q (bitB sec) k = K k := fun k => by rw [hK]
  have hK0 : K 0 = [] := by rw [hK]; rfl
  simp only [hKe] at hs ⊢
  have hbit : ∀ k, bitB sec k = (bits BinOp.and IntKind.u16 (sec / 2 ^ k) 1 == 1) := fun k => rfl
  obtain ⟨u1, u2⟩ := hu
  obtain ⟨v1, v2⟩ := hv
  obtain ⟨p1, p2⟩ := hp
  obtain ⟨q1, q2⟩ := hq
  have hm2 : (n : Int) ≤ 10 := by omega
  have hsc : EyesAt w w.heap.size A E := hA
  unfold EyesAt at hsc
  unfold eyeC sgC at hlU hlP
  rw [hn] at hsc hlU hlP
  have HSC := hide hsc
  have HLU := hide hlU
  have HLP := hide hlP
  have HS := hide hs
  have HK0 := hide hK0
  have HBIT := hide hbit
  clear hsc hlU hlP hs hK0 hbit
  clear hA he hlen hK hKe hn
  go_enter Try.func33, Try.ntmps33
  have HM := hide ((Mem.start w).nilRow w.heap.size 71 5)
  go_wp2_with fail
  go_loopw [13, 18] (fun o i wr => ∃ (k : Nat) (A' : Option Addr) (c' : Nat), k ≤ n ∧ i = .int .i64 k ∧ o = .slice A' k c' ∧ Mem w [.row w.heap.size 71 5 (.slice A' k c') k (sgsV (K k))] wr) (fun _ i _ => n - (intOf i).toNat)
  case atStart => exact ⟨0, none, 0, by omega, rfl, rfl, by rw [HK0.out]; exact HM.out⟩
  case round =>
    obtain ⟨k, A', c', hk, rfl, rfl, hM⟩ := hrel
    clear HM
    have HM := hide hM
    clear hM
    by_cases hlt : k < n
    · have hlt2 : (k : Int) < n := by omega
      obtain ⟨b, off, rfl, hb0, hc⟩ := HSC.out (by omega)
      have hc1 := hc _ hlt
      have cU := HLU.out k hlt
      have cP := HLP.out k hlt
      have hs1 := HS.out k
      have hbk := HBIT.out k
      obtain ⟨bk, hbk2⟩ : ∃ b, bitB sec k = b := ⟨_, rfl⟩
      rw [hbk2] at hs1 hbk
      have hbk3 := hbk.symm
      obtain ⟨X, hX⟩ : ∃ X, E.getD k eye0 = X := ⟨_, rfl⟩
      rw [hX] at hc1 cU cP hs1
      rw [← HM.out.below.cell hb0, ← HM.out.below.cell hb0, ← HM.out.below.cell hb0, ← HM.out.below.cell hb0] at hc1
      have ltb : b < wr.heap.size := Nat.lt_of_lt_of_le hb0 HM.out.size
      obtain ⟨q0, q1', q2', q3⟩ := hc1
      obtain ⟨i0, hii, hz0, hz1, hz2⟩ := info_parts sightInfo
      have Hi := hide hii
      have Hz0 := hide hz0
      have Hz1 := hide hz1
      have Hz2 := hide hz2
      clear hii hz0 hz1 hz2
      clear hbk hbk2
      cases bk with
      | true =>
        rw [if_pos rfl] at hs1
        obtain ⟨Y, hY⟩ : ∃ Y, eyeT p q X = Y := ⟨_, rfl⟩
        rw [hY] at cP hs1
        obtain ⟨ro, di, le, mo⟩ := X
        obtain ⟨sx, sy, sl, slo, shi⟩ := Y
        simp only at q0 q1' q2' q3 cP
        have hs2 : sgsV (K (k + 1)) = sgsV (K k) ++ [.int .i64 sx, .int .i64 sy, .int .i64 sl, .int .i64 slo, .int .i64 shi] := by rw [hs1, sgsV_app]; rfl
        generalize sgsV (K k) = xs at *
        have C1 := hide cP
        have HS2 := hide hs2
        clear cP hs2
        clear hc hX hY hs1 cU
        go_upto_region 5 with fail
        refine code_world fun w1 hW => ?_
        have HMn := Mem.to (Mem.allocAt HM.out wr.heap.size rfl #[.int .u8 ro, .int .u8 di, .int .u16 le, .int .u16 mo] 77) hW
        have LW : Later wr w1 := by rw [hW]; exact ((Below.refl _ _).alloc (Nat.le_refl _) _)
        have szW : w1.heap.size = wr.heap.size + 1 := by rw [hW]; simp
        clear hW
        replace HM := hide HMn
        clear HMn LW
        clear szW q0 q1' q2' q3 ltb
        generalize hgx : wr.heap.size = gx at HM ⊢
        have bz : Blk w1 gx 77 #[.int .u8 ro, .int .u8 di, .int .u16 le, .int .u16 mo] := HM.out.get 0 rfl
        have ltz := bz.lt
        have z0 := bz.c 0 rfl
        have z1 := bz.c 1 rfl
        have z2 := bz.c 2 rfl
        have z3 := bz.c 3 rfl
        go_wp2_with fail
        refine (C1.out _).mono ?_
        rintro e w6 ⟨rfl, hb⟩
        replace HM := hide (HM.out.later hb)
        clear hb bz ltz z0 z1 z2 z3
        clear hbk3
        have hownM := Mem.row_ HM.out 1 rfl
        have hbaseM : w.heap.size ≤ w6.heap.size := HM.out.size
        go_wp2_with (at_builtin; refine wpList_append_own_at _ rfl (.tmp 28) (.tmp 35) _ rfl w.heap.size 71 i0 _ 5 40 Try.underlying25 Hi.out Hz0.out Hz1.out Hz2.out rfl (by decide) _ k xs rfl (hownM.alloc _) ⟨w6.heap.size, 0, none⟩ 1 1 [.int .i64 sx, .int .i64 sy, .int .i64 sl, .int .i64 slo, .int .i64 shi] rfl rfl ?q1c1 (by intro u hu; simp only [List.mem_cons, List.not_mem_nil, or_false] at hu; rcases hu with rfl | rfl | rfl | rfl | rfl <;> rfl) ?q1c3 ?q1c4 ?q1c5 ?_)
        try case q1c1 => exact new_cellsQ w6 _ [.int .i64 sx, .int .i64 sy, .int .i64 sl, .int .i64 slo, .int .i64 shi]
        case q1c3 => unfold maxLen; omega
        case q1c4 => omega
        case q1c5 => first | omega | (simp; omega)
        intro vA w9 hown2 hgr2 _ hat2
        have HMn := HM.out.grow 1 rfl _ hgr2 hown2 hat2
        replace HM := hide HMn
        clear HMn hown2 hgr2 hat2 hownM hbaseM
        obtain ⟨A9, c9, rfl⟩ := own_shape2 (Mem.row_ HM.out 1 rfl)
        go_wp2_with fail
        go_roundw
        case rel => exact ⟨k + 1, A9, c9, by omega, by go_num, rfl, by rw [HS2.out]; exact HM.out.tail⟩
        case measure => simp [intOf] <;> omega
      | false =>
        rw [if_neg (by simp)] at hs1
        obtain ⟨Y, hY⟩ : ∃ Y, eyeT u v X = Y := ⟨_, rfl⟩
        rw [hY] at cU hs1
        obtain ⟨ro, di, le, mo⟩ := X
        obtain ⟨sx, sy, sl, slo, shi⟩ := Y
        simp only at q0 q1' q2' q3 cU
        have hs2 : sgsV (K (k + 1)) = sgsV (K k) ++ [.int .i64 sx, .int .i64 sy, .int .i64 sl, .int .i64 slo, .int .i64 shi] := by rw [hs1, sgsV_app]; rfl
        generalize sgsV (K k) = xs at *
        have C1 := hide cU
        have HS2 := hide hs2
        clear cU hs2
        clear hc hX hY hs1 cP
        go_upto_region 5 with fail
        refine code_world fun w1 hW => ?_
        have HMn := Mem.to (Mem.allocAt HM.out wr.heap.size rfl #[.int .u8 ro, .int .u8 di, .int .u16 le, .int .u16 mo] 77) hW
        have LW : Later wr w1 := by rw [hW]; exact ((Below.refl _ _).alloc (Nat.le_refl _) _)
        have szW : w1.heap.size = wr.heap.size + 1 := by rw [hW]; simp
        clear hW
        replace HM := hide HMn
        clear HMn LW
        clear szW q0 q1' q2' q3 ltb
        generalize hgx : wr.heap.size = gx at HM ⊢
        have bz : Blk w1 gx 77 #[.int .u8 ro, .int .u8 di, .int .u16 le, .int .u16 mo] := HM.out.get 0 rfl
        have ltz := bz.lt
        have z0 := bz.c 0 rfl
        have z1 := bz.c 1 rfl
        have z2 := bz.c 2 rfl
        have z3 := bz.c 3 rfl
        go_wp2_with fail
        refine (C1.out _).mono ?_
        rintro e w6 ⟨rfl, hb⟩
        replace HM := hide (HM.out.later hb)
        clear hb bz ltz z0 z1 z2 z3
        clear hbk3
        have hownM := Mem.row_ HM.out 1 rfl
        have hbaseM : w.heap.size ≤ w6.heap.size := HM.out.size
        go_wp2_with (at_builtin; refine wpList_append_own_at _ rfl (.tmp 37) (.tmp 44) _ rfl w.heap.size 71 i0 _ 5 40 Try.underlying25 Hi.out Hz0.out Hz1.out Hz2.out rfl (by decide) _ k xs rfl (hownM.alloc _) ⟨w6.heap.size, 0, none⟩ 1 1 [.int .i64 sx, .int .i64 sy, .int .i64 sl, .int .i64 slo, .int .i64 shi] rfl rfl ?q2c1 (by intro u hu; simp only [List.mem_cons, List.not_mem_nil, or_false] at hu; rcases hu with rfl | rfl | rfl | rfl | rfl <;> rfl) ?q2c3 ?q2c4 ?q2c5 ?_)
        try case q2c1 => exact new_cellsQ w6 _ [.int .i64 sx, .int .i64 sy, .int .i64 sl, .int .i64 slo, .int .i64 shi]
        case q2c3 => unfold maxLen; omega
        case q2c4 => omega
        case q2c5 => first | omega | (simp; omega)
        intro vA w9 hown2 hgr2 _ hat2
        have HMn := HM.out.grow 1 rfl _ hgr2 hown2 hat2
        replace HM := hide HMn
        clear HMn hown2 hgr2 hat2 hownM hbaseM
        obtain ⟨A9, c9, rfl⟩ := own_shape2 (Mem.row_ HM.out 1 rfl)
        go_wp2_with fail
        go_roundw
        case rel => exact ⟨k + 1, A9, c9, by omega, by go_num, rfl, by rw [HS2.out]; exact HM.out.tail⟩
        case measure => simp [intOf] <;> omega
    · obtain rfl : k = n := by omega
      have hkk : ¬ ((k : Int) < k) := by omega
      go_wp2
      exact bodyPost_ret (v := .slice A' k c') (by simp [results, Try.results33, go_sem]) rfl ⟨A', c', rfl, HM.out.below, HM.out.row_ 0 rfl⟩
set_option maxHeartbeats 1000000 in
set_option maxRecDepth 100000 in
theorem left_any (A : Option Addr) (n c : Nat) (L : List Sgt) (B : Option Addr) (t : List Nat) (cb : Nat) (w : World) (hn : L.length = n) (hmax : n ≤ 300) (hA : SgtsH w A L) (hB : SetM w B t) (ht : t.length ≤ 300) :
    Calls Try.prog 36 #[.slice A n c, .slice B t.length cb] w fun e w' => ∃ A' c', e = .returned (.slice A' (outR L t).length c') ∧ Below w.heap.size w w' ∧ w'.ownsRow w.heap.size 71 5 (.slice A' (outR L t).length c') (outR L t).length (sgsV (outR L t)) := by
  have hsT := fun k (h : (!t.contains k) = true) => (selN_succ (l := L) (p := fun i => !t.contains i) k).trans (if_pos h)
  have hsF := fun k (h : ¬ (!t.contains k) = true) => (selN_succ (l := L) (p := fun i => !t.contains i) k).trans (if_neg h)
  unfold outR
  rw [hn]
  have hml := fun k => selN_len (l := L) (p := fun i => !t.contains i) k
  obtain ⟨K, hK⟩ : ∃ K : Nat → List Sgt, K = fun k => selN L (fun i => !t.contains i) k := ⟨_, rfl⟩
  have hKe : ∀ k, selN L (fun i => !t.contains i) k = K k := fun k => by rw [hK]
  have hK0 : K 0 = [] := by rw [hK]; rfl
  simp only [hKe] at hsT hsF hml ⊢
  have hct : ∀ i, t.contains i = (t.take t.length).contains i := fun i => by rw [List.take_length]
  have htk : ∀ i j, j < t.length → (t.take (j + 1)).contains i = ((t.take j).contains i || (t.getD j 0 == i)) := fun i j hj => by
    rw [List.take_add_one, List.getElem?_eq_getElem hj, List.getD_eq_getElem?_getD, List.getElem?_eq_getElem hj]
    simp only [Option.toList_some, Option.getD_some, List.contains_append, List.contains_cons, List.contains_nil, Bool.or_false]
    congr 1
    rw [Bool.eq_iff_iff, beq_iff_eq, beq_iff_eq]
    exact eq_comm
  obtain ⟨m, hm⟩ : ∃ m, t.length = m := ⟨_, rfl⟩
  obtain ⟨C, hC⟩ : ∃ C : Nat → Nat → Bool, C = fun j i => (t.take j).contains i := ⟨_, rfl⟩
  have hCe : ∀ j i, (t.take j).contains i = C j i := fun j i => by rw [hC]
  have hC0 : ∀ i, C 0 i = false := fun i => by rw [hC]; rfl
  have hst := hB
  unfold SetM at hst
  have hsc : SgtsAt w w.heap.size A L := hA
  unfold SgtsAt at hsc
  rw [hn] at hsc
  rw [hm] at hst ht htk hct ⊢
  simp only [hCe] at hct htk
  simp only [hct] at hsT hsF
  have hm2 : (n : Int) ≤ 300 := by omega
  have hm3 : (m : Int) ≤ 300 := by omega
  have HST := hide hst
  have HSC := hide hsc
  have HSA := hide hsT
  have HSF := hide hsF
  have HK0 := hide hK0
  have HC0 := hide hC0
  have HTK := hide htk
  have HML := hide hml
  clear hst hsc hsT hsF hK0 hC0 htk hml
  clear hA hB hK hKe hn hm hC hCe hct
  go_enter Try.func36, Try.ntmps36
  have HM := hide ((Mem.start w).nilRow w.heap.size 71 5)
  go_wp2_with fail
  go_loopw [5, 13] (fun o i wr => ∃ (k : Nat) (A' : Option Addr) (c' : Nat), k ≤ n ∧ i = .int .i64 k ∧ o = .slice A' (K k).length c' ∧ Mem w [.row w.heap.size 71 5 (.slice A' (K k).length c') (K k).length (sgsV (K k))] wr) (fun _ i _ => n - (intOf i).toNat)
  case atStart => exact ⟨0, none, 0, by omega, rfl, by rw [HK0.out]; rfl, by rw [HK0.out]; exact HM.out⟩
  case round =>
    obtain ⟨k, A', c', hk, rfl, rfl, hM⟩ := hrel
    clear HM
    have HM := hide hM
    clear hM
    by_cases hlt : k < n
    · have hlt2 : (k : Int) < n := by omega
      obtain ⟨b, off, rfl, hb0, hc⟩ := HSC.out (by omega)
      have hc1 := hc _ hlt
      have hsA := HSA.out k
      have hsF := HSF.out k
      have hml := HML.out k
      have hmk : (((K k).length : Nat) : Int) ≤ 300 := by omega
      obtain ⟨X, hX⟩ : ∃ X, L.getD k sg0 = X := ⟨_, rfl⟩
      rw [hX] at hc1 hsA
      rw [← HM.out.below.cell hb0, ← HM.out.below.cell hb0, ← HM.out.below.cell hb0, ← HM.out.below.cell hb0, ← HM.out.below.cell hb0] at hc1
      have ltb : b < wr.heap.size := Nat.lt_of_lt_of_le hb0 HM.out.size
      obtain ⟨q0, q1, q2, q3, q4⟩ := hc1
      obtain ⟨sx, sy, sl, slo, shi⟩ := X
      simp only at q0 q1 q2 q3 q4
      obtain ⟨nk, hnk⟩ : ∃ m, (K k).length = m := ⟨_, rfl⟩
      obtain ⟨xs, hxs⟩ : ∃ m, sgsV (K k) = m := ⟨_, rfl⟩
      rw [hnk, hxs] at HM
      rw [hnk] at hmk
      rw [hnk]
      have Hnk := hide hnk
      have Hxs := hide hxs
      have HA1 := hide hsA
      have HF1 := hide hsF
      clear hsA hsF
      clear hc hX hml hnk hxs
      go_upto_region 5 with fail
      refine code_world fun w1 hW => ?_
      have HMn := Mem.to (Mem.allocAt HM.out wr.heap.size rfl #[.int .i64 sx, .int .i64 sy, .int .i64 sl, .int .i64 slo, .int .i64 shi] 71) hW
      have LW : Later wr w1 := by rw [hW]; exact ((Below.refl _ _).alloc (Nat.le_refl _) _)
      have szW : w1.heap.size = wr.heap.size + 1 := by rw [hW]; simp
      clear hW
      replace HM := hide HMn
      clear HMn LW
      clear szW q0 q1 q2 q3 q4 ltb
      generalize hgx : wr.heap.size = gx at HM ⊢
      go_wp2_with fail
      go_loopw [8, 20] (fun o i wr => ∃ j : Nat, j ≤ m ∧ i = .int .i64 j ∧ o = .bool (C j k) ∧ wr = w1) (fun _ i _ => m - (intOf i).toNat)
      case atStart => exact ⟨0, Nat.zero_le _, rfl, by rw [HC0.out], rfl⟩
      case round =>
        obtain ⟨j, hj, rfl, rfl, hww⟩ := hrel
        obtain rfl := hww.symm
        by_cases hjl : j < m
        · have hjl2 : (j : Int) < m := by omega
          obtain ⟨bs, cs, rfl, hbs, hcs⟩ := HST.out (by omega)
          have t0 := (blk_belowN hbs HM.out.below hbs.lt).c j (hcs j hjl)
          have ltt := (blk_belowN hbs HM.out.below hbs.lt).lt
          have htj := HTK.out k j hjl
          obtain ⟨tj, htj0⟩ : ∃ x, t.getD j 0 = x := ⟨_, rfl⟩
          rw [htj0] at t0 htj
          obtain ⟨cj, hcj⟩ : ∃ x, C j k = x := ⟨_, rfl⟩
          rw [hcj] at htj ⊢
          have Htj := hide htj
          clear htj htj0 hcj hcs hbs
          cases cj with
          | true =>
            go_wp2_with fail
            go_roundw
            case rel => exact ⟨j + 1, hjl, by go_num, by rw [Htj.out]; rfl, by first | trivial | rfl⟩
            case measure => simp [intOf] <;> omega
          | false =>
            go_wp2_with fail
            go_roundw
            case rel => exact ⟨j + 1, hjl, by go_num, by rw [Htj.out]; simp only [Bool.false_or]; congr 1; rw [Bool.eq_iff_iff, beq_iff_eq, beq_iff_eq]; omega, by first | trivial | rfl⟩
            case measure => simp [intOf] <;> omega
        · obtain rfl : j = m := by omega
          have hjj : ¬ ((j : Int) < j) := by omega
          obtain ⟨cj, hcj⟩ : ∃ x, C j k = x := ⟨_, rfl⟩
          rw [hcj] at HA1 HF1 ⊢
          clear hcj
          cases cj with
          | true =>
            have hkk := HF1.out (by simp)
            go_wp2_with fail
            go_roundw
            case rel => exact ⟨k + 1, A', c', hlt, by go_num, by rw [hkk, Hnk.out], by rw [hkk, Hnk.out, Hxs.out]; exact HM.out.tail⟩
            case measure => simp [intOf] <;> omega
          | false =>
            have hkk := HA1.out (by simp)
            have hln : (K (k + 1)).length = nk + 1 := by rw [hkk, List.length_append, Hnk.out]; rfl
            have hxn : sgsV (K (k + 1)) = xs ++ [.int .i64 sx, .int .i64 sy, .int .i64 sl, .int .i64 slo, .int .i64 shi] := by rw [hkk, sgsV_app, Hxs.out]; rfl
            have HKK := hide hkk
            have HLN := hide hln
            have HXN := hide hxn
            clear hkk hln hxn
            obtain ⟨i0, hii, hz0, hz1, hz2⟩ := info_parts sightInfo
            have Hi := hide hii
            have Hz0 := hide hz0
            have Hz1 := hide hz1
            have Hz2 := hide hz2
            clear hii hz0 hz1 hz2
            go_upto_region 12 with fail
            have bz : Blk w1 gx 71 #[.int .i64 sx, .int .i64 sy, .int .i64 sl, .int .i64 slo, .int .i64 shi] := HM.out.get 0 rfl
            have ltz := bz.lt
            have z0 := bz.c 0 rfl
            have z1 := bz.c 1 rfl
            have z2 := bz.c 2 rfl
            have z3 := bz.c 3 rfl
            have z4 := bz.c 4 rfl
            have hownM := Mem.row_ HM.out 1 rfl
            have hbaseM : w.heap.size ≤ w1.heap.size := HM.out.size
            go_wp2_with (at_builtin; refine wpList_append_own_at _ rfl (.tmp 33) (.tmp 35) _ rfl w.heap.size 71 i0 _ 5 40 Try.underlying25 Hi.out Hz0.out Hz1.out Hz2.out rfl (by decide) _ nk xs rfl (hownM.alloc _) ⟨w1.heap.size, 0, none⟩ 1 1 [.int .i64 sx, .int .i64 sy, .int .i64 sl, .int .i64 slo, .int .i64 shi] rfl rfl ?q3c1 (by intro u hu; simp only [List.mem_cons, List.not_mem_nil, or_false] at hu; rcases hu with rfl | rfl | rfl | rfl | rfl <;> rfl) ?q3c3 ?q3c4 ?q3c5 ?_)
            try case q3c1 => exact new_cellsQ w1 _ [.int .i64 sx, .int .i64 sy, .int .i64 sl, .int .i64 slo, .int .i64 shi]
            case q3c3 => unfold maxLen; omega
            case q3c4 => omega
            case q3c5 => first | omega | (simp; omega)
            intro vA w9 hown2 hgr2 _ hat2
            have HMn := HM.out.grow 1 rfl _ hgr2 hown2 hat2
            replace HM := hide HMn
            clear HMn hown2 hgr2 hat2 hownM hbaseM
            clear bz ltz z0 z1 z2 z3 z4
            obtain ⟨A9, c9, rfl⟩ := own_shape2 (Mem.row_ HM.out 1 rfl)
            go_wp2_with fail
            go_roundw
            case rel => exact ⟨k + 1, A9, c9, hlt, by go_num, by rw [HLN.out], by rw [HLN.out, HXN.out]; exact HM.out.tail⟩
            case measure => simp [intOf] <;> omega
    · obtain rfl : k = n := by omega
      have hkk : ¬ ((k : Int) < k) := by omega
      go_wp2
      exact bodyPost_ret (v := .slice A' (K k).length c') (by simp [results, Try.results36, go_sem]) rfl ⟨A', c', rfl, HM.out.below, HM.out.row_ 0 rfl⟩
end Go.Proofs.Ytllpffkifleigaa
end
section
namespace Go.Proofs.Ytllpffkifleigaa
open Go Go.RowKit

theorem sgsV_take (L : List Sgt) (k j : Nat) (u : Value) (h : (sgsV (L.take k))[j]? = some u) : (sgsV L)[j]? = some u := by
  have e : sgsV L = sgsV (L.take k) ++ sgsV (L.drop k) := by rw [← sgsV_app, List.take_append_drop]
  rw [e, List.getElem?_append_left (List.getElem?_eq_some_iff.1 h).1]
  exact h
theorem sgsV_drop (L : List Sgt) (k j : Nat) (hk : k ≤ L.length) (u : Value) (h : (sgsV (L.drop k))[j]? = some u) : (sgsV L)[k * 5 + j]? = some u := by
  have e : sgsV L = sgsV (L.take k) ++ sgsV (L.drop k) := by rw [← sgsV_app, List.take_append_drop]
  have hl : (sgsV (L.take k)).length = k * 5 := by rw [sgsV_len, List.length_take, Nat.min_eq_left hk]
  rw [e, List.getElem?_append_right (by omega), hl, show k * 5 + j - k * 5 = j by omega]
  exact h
theorem SlS.take {w : World} {A : Option Addr} {c : Nat} {L : List Sgt} (h : SlS w A c L) (k : Nat) : SlS w A c (L.take k) := by
  refine ⟨Nat.le_trans (by rw [List.length_take]; exact Nat.min_le_right _ _) h.1, h.2.1, h.2.2.imp ?_ ?_⟩
  · rintro ⟨e1, e2, e3⟩
    exact ⟨e1, by rw [e2]; simp, e3⟩
  · rintro ⟨b, off, e, hl, hc⟩
    exact ⟨b, off, e, hl, fun j u hu => hc j u (sgsV_take L k j u hu)⟩
theorem SlS.drop {w : World} {b off c : Nat} {L : List Sgt} (h : SlS w (some ⟨b, off, none⟩) c L) (k : Nat) (hk : k ≤ L.length) : SlS w (if c = k then some ⟨b, off, none⟩ else some ⟨b, off + k * 5, none⟩) (c - k) (L.drop k) := by
  obtain ⟨h1, h2, h3⟩ := h
  refine ⟨by rw [List.length_drop]; omega, by omega, .inr ?_⟩
  rcases h3 with ⟨e, -⟩ | ⟨b', off', e, hl, hc⟩
  · cases e
  · injection e with e
    injection e with e1 e2 _
    subst e1 e2
    by_cases hck : c = k
    · rw [if_pos hck]
      refine ⟨b, off, rfl, hl, fun j u hu => ?_⟩
      have : L.drop k = [] := List.drop_eq_nil_of_le (by omega)
      rw [this] at hu
      simp [sgsV] at hu
    · rw [if_neg hck]
      refine ⟨b, off + k * 5, rfl, hl, fun j u hu => ?_⟩
      rw [Nat.add_assoc]
      exact hc _ u (sgsV_drop L k j hk u hu)
/-- A slice that is not empty has an address. -/
theorem SlS.some {w : World} {A : Option Addr} {c : Nat} {L : List Sgt} (h : SlS w A c L) (hn : 0 < L.length) : ∃ b off, A = some ⟨b, off, none⟩ ∧ b < w.heap.size := by
  rcases h.2.2 with ⟨-, e2, -⟩ | ⟨b, off, e, hl, -⟩
  · rw [e2] at hn; simp at hn
  · exact ⟨b, off, e, hl⟩
theorem mix_near {E : List EyeN} {u v p q : Int} {B : Nat → Bool} {n : Nat} (hn : E.length = n) (he : ∀ e ∈ E, EyeOk e) (hu : -32768 ≤ u ∧ u ≤ 32767) (hv : -32768 ≤ v ∧ v ≤ 32767) (hp : -32768 ≤ p ∧ p ≤ 32767) (hq : -32768 ≤ q ∧ q ≤ 32767) : ∀ s ∈ mixT E u v p q B n, Near s := fun s hs => by
  unfold mixT at hs
  obtain ⟨i, hi, rfl⟩ := List.mem_map.1 hs
  have h1 := he _ (getD_memE (d := eye0) (show i < E.length by have := List.mem_range.1 hi; omega))
  split
  · exact eye_ok h1 hp hq
  · exact eye_ok h1 hu hv
theorem near_list {L : List Sgt} (h : ∀ s ∈ L, Near s) (hn : L.length ≤ 360) : listE L = 0 := listE_ok.2 ⟨hn, fun s hs => (h s hs).ok⟩
theorem near_allI {L : List Sgt} (h : ∀ s ∈ L, Near s) : AllI L := allI_of_ok fun s hs => (h s hs).ok
theorem near_b {L : List Sgt} (h : ∀ s ∈ L, Near s) : ∀ s ∈ L, -1000000 ≤ s.lo ∧ s.lo ≤ 1000000 ∧ -1000000 ≤ s.hi ∧ s.hi ≤ 1000000 := fun s hs => by
  have := h s hs
  have := this.a1
  have := (h s hs).a2
  have := (h s hs).a3
  omega
theorem wide_allI {L : List Sgt} {d : Int} (h : ∀ s ∈ L, Near s) : AllI (L.map (wideS d)) := fun s hs => by
  obtain ⟨x, hx, rfl⟩ := List.mem_map.1 hs
  exact near_allI h x hx
theorem wide_bnds {L : List Sgt} {d : Int} (h : ∀ s ∈ L, Near s) (hn : L.length ≤ 360) (h0 : 0 ≤ d) (h1 : d ≤ 200000) : bndsE (L.map (wideS d)) = 0 ↔ Feas (L.map (wideS d)) 0 :=
  ⟨fun h => (bndsE_iff.1 h).2, fun hf => bndsE_iff.2 ⟨⟨by rw [List.length_map]; exact hn, fun s hs => by
    obtain ⟨x, hx, rfl⟩ := List.mem_map.1 hs
    exact near_wide (h x hx) h0 h1⟩, hf⟩⟩
end Go.Proofs.Ytllpffkifleigaa
end
section
namespace Go.Proofs.Ytllpffkifleigaa
open Go Go.RowKit

theorem sgs_cell {w : World} {b off B : Nat} {L : List Sgt} (hc : ∀ i, i < L.length →
    w.cell? ⟨b, off + i * 5, none⟩ = some (.int .i64 (L.getD i sg0).x) ∧ w.cell? ⟨b, off + i * 5 + 1, none⟩ = some (.int .i64 (L.getD i sg0).y) ∧ w.cell? ⟨b, off + i * 5 + 2, none⟩ = some (.int .i64 (L.getD i sg0).l) ∧
    w.cell? ⟨b, off + i * 5 + 3, none⟩ = some (.int .i64 (L.getD i sg0).lo) ∧ w.cell? ⟨b, off + i * 5 + 4, none⟩ = some (.int .i64 (L.getD i sg0).hi)) (j : Nat) (u : Value) (h : (sgsV L)[j]? = some u) : w.cell? ⟨b, off + j, none⟩ = some u := by
  have hj : j < (sgsV L).length := (List.getElem?_eq_some_iff.1 h).1
  rw [sgsV_len] at hj
  have hi : j / 5 < L.length := by omega
  obtain ⟨c0, c1, c2, c3, c4⟩ := hc _ hi
  obtain ⟨d0, d1, d2, d3, d4⟩ := sgsV_get L _ hi
  rcases (by omega : j = j / 5 * 5 ∨ j = j / 5 * 5 + 1 ∨ j = j / 5 * 5 + 2 ∨ j = j / 5 * 5 + 3 ∨ j = j / 5 * 5 + 4) with e | e | e | e | e
  · rw [e] at h ⊢
    rw [d0] at h
    rw [c0, h]
  · rw [e] at h ⊢
    rw [d1] at h
    rw [← Nat.add_assoc, c1, h]
  · rw [e] at h ⊢
    rw [d2] at h
    rw [← Nat.add_assoc, c2, h]
  · rw [e] at h ⊢
    rw [d3] at h
    rw [← Nat.add_assoc, c3, h]
  · rw [e] at h ⊢
    rw [d4] at h
    rw [← Nat.add_assoc, c4, h]
theorem SlS.of_sgts {w : World} {A : Option Addr} {c : Nat} {L : List Sgt} (hn : 0 < L.length) (h1 : L.length ≤ c) (h2 : c ≤ maxLen) (h : SgtsH w A L) : SlS w A c L := by
  obtain ⟨b, off, e, hl, hc⟩ := h hn
  exact ⟨h1, h2, .inr ⟨b, off, e, hl, sgs_cell (B := 0) hc⟩⟩
set_option maxHeartbeats 2000000 in
set_option maxRecDepth 100000 in
theorem rFront_any (A : Option Addr) (l : List Sgt) (c : Nat) (w : World) (hmax : l.length ≤ maxLen) (hcap : l.length ≤ c) (hcm : c ≤ maxLen) (hA : SgtsH w A l) (hI : AllI l) :
    Calls Try.prog 29 #[.slice A l.length c] w fun e w' => e = .returned (.tuple #[.int .i64 ((frontA l).1 : Nat), .int .i64 ((frontA l).2 : Nat), .int .i64 (frontE l)]) ∧ Below w.heap.size w w' := by
  have hL := fun (W : World) (hW : Below w.heap.size w W) => rlist_any A l c W hmax (SgtsAt.below hA hW) hI
  have hm0 : (l.length : Int) ≤ 9223372036854775807 := by unfold maxLen at hmax; omega
  have hc0 : (c : Int) ≤ 9223372036854775807 := by unfold maxLen at hcm; omega
  have hAa : frontA l = if frontE l = 0 then (frontS l).getD (0, 0) else (0, 0) := rfl
  by_cases he : listE l = 0
  · obtain ⟨hl1, hl2⟩ := listE_ok.1 he
    have hEa : frontE l = if 64 < l.length then 9 else if agrB l 0 = true then 4 else if (frontS l).isSome = true then 0 else 14 := by unfold frontE; rw [if_neg (by rw [he]; simp)]
    simp only [he] at hL
    by_cases h64 : 64 < l.length
    · rw [if_pos h64] at hEa
      rw [hAa, hEa, if_neg (by simp)]
      have h64' : (64 : Int) < l.length := by omega
      generalize l.length = n at *
      have HL := hide hL
      clear hL
      clear hA hI hAa hEa hl2 he
      go_enter Try.func29, Try.ntmps29
      have HB := hide (Below.refl w.heap.size w)
      go_wp2_with fail
      refine (HL.out _ HB.out).mono ?_
      rintro e w1 ⟨rfl, hb⟩
      replace HB := hide (onward HB.out hb)
      clear hb
      go_wp2
      exact bodyPost_ret (v := .tuple #[.int .i64 0, .int .i64 0, .int .i64 9]) (by simp [results, Try.results29, go_sem]) rfl ⟨rfl, HB.out⟩
    · rw [if_neg h64] at hEa
      have h64' : ¬ (64 : Int) < l.length := by omega
      have hG := fun (W : World) (hW : Below w.heap.size w W) => ragrees_any A l c 0 W (by omega) (SgtsAt.below hA hW) hl2 (by omega) (by omega)
      obtain ⟨b, hb⟩ : ∃ b, agrB l 0 = b := ⟨_, rfl⟩
      rw [hb] at hEa
      simp only [hb] at hG
      cases b with
      | true =>
        rw [if_pos rfl] at hEa
        rw [hAa, hEa, if_neg (by simp)]
        generalize l.length = n at *
        have HL := hide hL
        have HG := hide hG
        clear hL hG
        clear hA hI hAa hEa hl2 he hb
        go_enter Try.func29, Try.ntmps29
        have HB := hide (Below.refl w.heap.size w)
        go_wp2_with fail
        refine (HL.out _ HB.out).mono ?_
        rintro e w1 ⟨rfl, hb⟩
        replace HB := hide (onward HB.out hb)
        clear hb
        go_wp2_with fail
        refine (HG.out _ HB.out).mono ?_
        rintro e w2 ⟨rfl, hb⟩
        replace HB := hide (onward HB.out hb)
        clear hb
        go_wp2
        exact bodyPost_ret (v := .tuple #[.int .i64 0, .int .i64 0, .int .i64 4]) (by simp [results, Try.results29, go_sem]) rfl ⟨rfl, HB.out⟩
      | false =>
        rw [if_neg (by simp)] at hEa
        have hone := fun i j h1 h2 h3 h4 h5 => front_some (l := l) (i := i) (j := j) h1 h2 h3 h4 h5
        have hnone := fun h => front_none (l := l) h
        have hSub := fun i j (A' : Option Addr) (c' : Nat) (W : World) (h : SgtsH W A' (slc l i j)) => ragrees_any A' (slc l i j) c' 0 W (by have := slc_len l i j; omega) h (slc_ok hl2 i j) (by omega) (by omega)
        have hOth := fun i j (A' : Option Addr) (c' : Nat) (W : World) (h : SgtsH W A' (l.take i ++ l.drop j)) => ragrees_any A' (l.take i ++ l.drop j) c' 0 W (by rw [List.length_append, List.length_take, List.length_drop]; omega) h (fun s hs => hl2 s ((List.mem_append.1 hs).elim (fun h => List.mem_of_mem_take h) (fun h => List.mem_of_mem_drop h))) (by omega) (by omega)
        have hfb : ∀ i j, frontB l i j = (agrB (slc l i j) 0 && agrB (l.take i ++ l.drop j) 0) := fun i j => rfl
        rw [hAa, hEa]
        generalize frontS l = fs at *
        obtain ⟨ev, hev⟩ : ∃ e, (if fs.isSome = true then (0 : Int) else 14) = e := ⟨_, rfl⟩
        rw [hev]
        obtain ⟨pv, hpv⟩ : ∃ e, (if ev = 0 then fs.getD (0, 0) else (0, 0)) = e := ⟨_, rfl⟩
        rw [hpv]
        obtain ⟨n, hn⟩ : ∃ n, l.length = n := ⟨_, rfl⟩
        rw [hn] at h64 h64' hcap hm0 ⊢
        simp only [hn] at hL hG hone hnone
        have hn64 : n ≤ 64 := by omega
        have hn64' : (n : Int) ≤ 64 := by omega
        have HL := hide hL
        have HG := hide hG
        have HONE := hide hone
        have HNONE := hide hnone
        have HSUB := hide hSub
        have HOTH := hide hOth
        have HFB := hide hfb
        have HEV := hide hev
        have HPV := hide hpv
        have HA := hide hA
        have HN := hide hn
        clear hL hG hone hnone hSub hOth hfb hev hpv hA hn
        clear hI hAa hEa hl1 hl2 he hb hmax
        go_enter Try.func29, Try.ntmps29
        have HB := hide (Below.refl w.heap.size w)
        go_wp2_with fail
        refine (HL.out _ HB.out).mono ?_
        rintro e w1 ⟨rfl, hb⟩
        replace HB := hide (onward HB.out hb)
        clear hb
        go_wp2_with fail
        refine (HG.out _ HB.out).mono ?_
        rintro e w2 ⟨rfl, hb⟩
        replace HB := hide (onward HB.out hb)
        clear hb
        go_wp2_with fail
        go_loopw [6] (fun ii wr => ∃ i : Nat, i ≤ n ∧ ii = .int .i64 i ∧ (∀ i' j', i' < j' → j' ≤ n → i' < i → frontB l i' j' = false) ∧ Below w.heap.size w wr) (fun ii _ => n - (intOf ii).toNat)
        case atStart => exact ⟨0, by omega, rfl, fun i' j' h1 h2 h3 => absurd h3 (Nat.not_lt_zero _), HB.out⟩
        case round =>
          obtain ⟨i, hi, rfl, hno, hBl⟩ := hrel
          clear HB
          have HB := hide hBl
          have HNO := hide hno
          clear hBl hno
          by_cases hin : i < n
          · have hin2 : (i : Int) < n := by omega
            have HS0 := hide (SlS.of_sgts (by have := HN.out; omega) (by have := HN.out; omega) hcm HA.out)
            obtain ⟨b, off, rfl, -⟩ := HS0.out.some (by have := HN.out; omega)
            have hci : ¬ c = i := by omega
            have hic : (i : Int) ≤ c := by omega
            have hnc : (n : Int) ≤ c := by omega
            go_wp2_with fail
            go_loopw [7] (fun jj wr => ∃ j : Nat, i + 1 ≤ j ∧ j ≤ n + 1 ∧ jj = .int .i64 j ∧ (∀ j', i < j' → j' < j → frontB l i j' = false) ∧ Below w.heap.size w wr) (fun jj _ => n + 1 - (intOf jj).toNat)
            case atStart => exact ⟨i + 1, by omega, by omega, by go_num, fun j' h1 h2 => absurd h1 (by omega), HB.out⟩
            case round =>
              obtain ⟨j, hj1, hj2, rfl, hno2, hBl⟩ := hrel
              clear HB
              have HB := hide hBl
              have HNO2 := hide hno2
              clear hBl hno2
              by_cases hjn : j ≤ n
              · have hjn2 : (j : Int) ≤ n := by omega
                have hij2 : (i : Int) ≤ j := by omega
                have hjc : (j : Int) ≤ c := by omega
                have HSq := hide (HS0.out.later HB.out)
                obtain ⟨Asl, hAsl⟩ : ∃ x : Option Addr, (if c = j then some (⟨b, off, none⟩ : Addr) else some ⟨b, off + j * 5, none⟩) = x := ⟨_, rfl⟩
                have l1 : (l.take i).length = i := by rw [List.length_take, HN.out]; omega
                have l2 : (l.drop j).length = n - j := by rw [List.length_drop, HN.out]
                have l3 : (slc l i j).length = j - i := by unfold slc; rw [List.length_drop, List.length_take, HN.out]; omega
                have hsr1 := fun (S : Nat → Prop) (W : World) (hk : Kept S wr W) hS => (HSq.out.take i).srcK hk hS
                have hsr2 := fun (S : Nat → Prop) (W : World) (hk : Kept S wr W) hS => (HSq.out.drop j (by rw [HN.out]; omega)).srcK hk hS
                rw [l1] at hsr1
                rw [l2, hAsl] at hsr2
                have hle1 : (sgsV (l.take i)).length = i * 5 := by rw [sgsV_len, l1]
                have hle2 : (sgsV (l.drop j)).length = (n - j) * 5 := by rw [sgsV_len, l2]
                have hon1 := sgsV_oneC (l.take i)
                have hon2 := sgsV_oneC (l.drop j)
                have hvs : (#[] : Array Value).toList ++ sgsV (l.take i) ++ sgsV (l.drop j) = sgsV (l.take i ++ l.drop j) := by rw [sgsV_app]; rfl
                have hll : (l.take i ++ l.drop j).length = 0 + i + (n - j) := by rw [List.length_append, l1, l2]; omega
                have hst := (HSq.out.take j).drop i (by rw [List.length_take, HN.out]; omega)
                rw [if_neg hci] at hst
                have hsg := hst.sgts
                have s1 := HSUB.out i j
                have o1 := HOTH.out i j
                rw [l3] at s1
                simp only [hll, Nat.zero_add] at o1
                have hf := HFB.out i j
                have hwin := fun h => HONE.out i j (by omega) hjn h HNO.out HNO2.out
                have hstep : frontB l i j = false → ∀ j', i < j' → j' < j + 1 → frontB l i j' = false := fun h j' h1 h2 => by
                  by_cases e : j' = j
                  · rw [e]; exact h
                  · exact HNO2.out j' h1 (by omega)
                obtain ⟨bs, hbs⟩ : ∃ b, agrB (slc l i j) 0 = b := ⟨_, rfl⟩
                obtain ⟨bo, hbo⟩ : ∃ b, agrB (l.take i ++ l.drop j) 0 = b := ⟨_, rfl⟩
                rw [hbs, hbo] at hf
                simp only [hbs] at s1
                simp only [hbo] at o1
                rw [hf] at hwin hstep
                obtain ⟨i0, hii, hz0, hz1, hz2⟩ := info_parts rsightInfoR
                have Hi := hide hii
                have Hz0 := hide hz0
                have Hz1 := hide hz1
                have Hz2 := hide hz2
                clear hii hz0 hz1 hz2
                have HSR1 := hide hsr1
                have HSR2 := hide hsr2
                have HLE1 := hide hle1
                have HLE2 := hide hle2
                have HON1 := hide hon1
                have HON2 := hide hon2
                have HVS := hide hvs
                have HLL2 := hide hll
                have HSG := hide hsg
                have S1 := hide s1
                have O1 := hide o1
                have HWN := hide hwin
                have HST := hide hstep
                clear hsr1 hsr2 hle1 hle2 hon1 hon2 hvs hll hsg s1 o1 hwin hstep
                clear l1 l2 l3 hst hf hbs hbo
                have hsub1 : (j : Int) - i ≤ 64 := by omega
                go_wp2_with fail
                apply wp_region_L (w0 := wr) [[], [], [], [], [0], [], [], [], [0, 4], [0, 4, 8]] [false, true, true, true, false, true, true, true, false, true] [⟨0, none, [], []⟩, ⟨4, some 0, [0], []⟩, ⟨8, some 4, [4], []⟩] (fun ixq y => match ixq with | 0 => .slice (y 0).1 0 0 | 4 => .slice (y 0).1 (0 + i) (y 0).2 | 8 => .slice (y 0).1 ((0+i) + (n-j)) (y 0).2 | _ => undef) (fun ixq x F wq => match ixq with | 0 => OwnF wq F wr.heap.size 88 5 (.slice (x 0 0).1 0 0) 0 #[].toList | 4 => OwnF wq F wr.heap.size 88 5 (.slice (x 4 0).1 (0 + i) (x 4 0).2) (0 + i) ((#[] : Array Value).toList ++ sgsV (l.take i)) | 8 => OwnF wq F wr.heap.size 88 5 (.slice (x 8 0).1 ((0+i) + (n-j)) (x 8 0).2) ((0+i) + (n-j)) ((#[] : Array Value).toList ++ sgsV (l.take i) ++ sgsV (l.drop j)) | _ => True) (fun a x => (((a).put (some 33) (.slice ((x 0) 0).1 0 0)).put (some 37) (.slice ((x 4) 0).1 (0 + i) ((x 4) 0).2)).put (some 41) (.slice ((x 8) 0).1 ((0+i) + (n-j)) ((x 8) 0).2)) (by kernel_rfl) (by kernel_rfl) (fun x => putH_step (some 33) (.slice ((x 0) 0).1 0 0) rfl rfl <| putH_step (some 37) (.slice ((x 4) 0).1 (0 + i) ((x 4) 0).2) rfl rfl <| putH_step (some 41) (.slice ((x 8) 0).1 ((0+i) + (n-j)) ((x 8) 0).2) rfl rfl <| putH_end) [] (by kernel_rfl)
                · intro x D hD
                  have hne := hD.some
                  simp only [takeOps, Act.put, List.setIfInBounds_toArray, List.set_cons_succ, List.set_cons_zero]
                  repeat (go_big_quiet_step (fail))
                  exact wpQuiet_nil rfl
                · exact fun _ h => absurd h (by simp)
                · refine ⟨?_, ?_, ?_, trivial⟩
                  · exact obl_new rfl (fun _ => by kernel_rfl) 88 (fun x => #[]) gP (fun x w => by kernel_rfl) (fun x w hle => own_new hle rfl (by unfold maxLen; omega))
                  · refine obl_appendS 22 33 36 (by kernel_rfl) wr.heap.size 88 i0 _ 5 40 Try.underlying22 Hi.out Hz0.out Hz1.out Hz2.out rfl (by decide) 0 i ((#[] : Array Value).toList) (sgsV (l.take i)) (HLE1.out) (HON1.out) (by unfold maxLen; omega) (by omega) (by first | assumption | omega) (fun x w F hk hn => ?_) (fun _ => rfl) (fun _ _ _ _ h => h)
                    have hj := hn 0 (by simp)
                    exact ⟨_, _, _, rfl, hj.1, fun g hg => .inr (hj.2 g hg), rfl, HSR1.out _ w hk (fun k hk => ⟨hk, fun _ _ h => h.elim⟩)⟩
                  · refine obl_appendS 22 37 40 (by kernel_rfl) wr.heap.size 88 i0 _ 5 40 Try.underlying22 Hi.out Hz0.out Hz1.out Hz2.out rfl (by decide) (0+i) (n-j) ((#[] : Array Value).toList ++ sgsV (l.take i)) (sgsV (l.drop j)) (HLE2.out) (HON2.out) (by unfold maxLen; omega) (by omega) (by first | assumption | omega) (fun x w F hk hn => ?_) (fun _ => rfl) (fun _ _ _ _ h => h)
                    have hj := hn 4 (by simp)
                    exact ⟨_, Asl, _, rfl, hj.1, fun g hg => .inr (hj.2 g hg), rfl, HSR2.out _ w hk (fun k hk => ⟨hk, fun _ _ h => h.elim⟩)⟩
                · refine ⟨?_, ?_, ?_, trivial⟩
                  · refine ⟨fun x F wq wq' h hs hk => ?_, fun x x' F wq hx h => ?_⟩
                    · have h2 : OwnF wq F wr.heap.size 88 5 (.slice (x 0 0).1 0 0) 0 #[].toList := h
                      exact h2.stab hk
                    · have h2 : OwnF wq F wr.heap.size 88 5 (.slice (x 0 0).1 0 0) 0 #[].toList := h
                      rw [hx 0 (by simp)] at h2
                      exact h2
                  · exact owe_own 4 wr.heap.size 88 5 (0 + i) ((#[] : Array Value).toList ++ sgsV (l.take i)) rfl (fun _ _ _ => rfl)
                  · exact owe_own 8 wr.heap.size 88 5 ((0+i) + (n-j)) ((#[] : Array Value).toList ++ sgsV (l.take i) ++ sgsV (l.drop j)) rfl (fun _ _ _ => rfl)
                intro xx w3 F hL hlv1
                obtain ⟨-, -, fct8, -⟩ := hlv1
                replace fct8 : OwnF w3 (F 8) wr.heap.size 88 5 (.slice (xx 8 0).1 ((0+i) + (n-j)) (xx 8 0).2) ((0+i) + (n-j)) ((#[] : Array Value).toList ++ sgsV (l.take i) ++ sgsV (l.drop j)) := fct8 rfl
                have HOt := hide (rsgts_ownR HLL2.out (by rw [← HVS.out]; exact fct8.1))
                clear fct8
                generalize (xx 8 0).1 = Ao at *
                generalize (xx 8 0).2 = co at *
                replace HSG := hide (HSG.out.later hL)
                replace HB := hide (onward HB.out hL)
                clear hL
                clear hAsl
                go_wp2_with fail
                refine (S1.out _ _ _ HSG.out).mono ?_
                rintro e w4 ⟨rfl, hb⟩
                replace HSG := hide (HSG.out.later hb)
                replace HOt := hide (HOt.out.later hb)
                replace HB := hide (onward HB.out hb)
                clear hb
                cases bs with
                | false =>
                  have hs := HST.out rfl
                  have HS1 := hide hs
                  clear hs
                  clear HSG HOt
                  go_wp2_with fail
                  go_roundw
                  case rel => exact ⟨j + 1, by omega, by omega, by go_num, HS1.out, HB.out⟩
                  case measure => simp [intOf] <;> omega
                | true =>
                  go_wp2_with fail
                  refine (O1.out _ _ _ HOt.out).mono ?_
                  rintro e w5 ⟨rfl, hb⟩
                  replace HSG := hide (HSG.out.later hb)
                  replace HOt := hide (HOt.out.later hb)
                  replace HB := hide (onward HB.out hb)
                  clear hb
                  cases bo with
                  | false =>
                    have hs := HST.out rfl
                    have HS1 := hide hs
                    clear hs
                    clear HSG HOt
                    go_wp2_with fail
                    go_roundw
                    case rel => exact ⟨j + 1, by omega, by omega, by go_num, HS1.out, HB.out⟩
                    case measure => simp [intOf] <;> omega
                  | true =>
                    obtain rfl := HWN.out rfl
                    obtain rfl : 0 = ev := HEV.out
                    obtain rfl : (i, j) = pv := HPV.out
                    go_wp2
                    exact bodyPost_ret (v := .tuple #[.int .i64 i, .int .i64 j, .int .i64 0]) (by simp [results, Try.results29, go_sem]) rfl ⟨rfl, HB.out⟩
              · have hjn2 : ¬ (j : Int) ≤ n := by omega
                have hall : ∀ i' j', i' < j' → j' ≤ n → i' < i + 1 → frontB l i' j' = false := fun i' j' h1 h2 h3 => by
                  by_cases e : i' = i
                  · subst e
                    exact HNO2.out j' h1 (by omega)
                  · exact HNO.out i' j' h1 h2 (by omega)
                have HALL := hide hall
                clear hall
                go_wp2_with fail
                go_roundw
                case rel => exact ⟨i + 1, by omega, by go_num, HALL.out, HB.out⟩
                case measure => simp [intOf] <;> omega
          · obtain rfl : i = n := by omega
            have hkk : ¬ ((i : Int) < i) := by omega
            obtain rfl := HNONE.out (fun i' j' h1 h2 => HNO.out i' j' h1 h2 (by omega))
            obtain rfl : 14 = ev := HEV.out
            obtain rfl : (0, 0) = pv := HPV.out
            go_wp2
            exact bodyPost_ret (v := .tuple #[.int .i64 0, .int .i64 0, .int .i64 14]) (by simp [results, Try.results29, go_sem]) rfl ⟨rfl, HB.out⟩
  · have hS : frontE l = listE l := by unfold frontE; rw [if_pos he]
    rw [hAa, hS, if_neg he]
    obtain ⟨e0, hee⟩ : ∃ e, listE l = e := ⟨_, rfl⟩
    have hd : (e0 != 0) = true := by rw [hee] at he; simp [he]
    rw [hee] at he ⊢
    simp only [hee] at hL
    generalize l.length = n at *
    have HL := hide hL
    clear hL
    clear hA hI hee hS hAa
    go_enter Try.func29, Try.ntmps29
    have HB := hide (Below.refl w.heap.size w)
    go_wp2_with fail
    refine (HL.out _ HB.out).mono ?_
    rintro e w1 ⟨rfl, hb⟩
    replace HB := hide (onward HB.out hb)
    clear hb
    go_wp2
    exact bodyPost_ret (v := .tuple #[.int .i64 0, .int .i64 0, .int .i64 e0]) (by simp [results, Try.results29, go_sem]) rfl ⟨rfl, HB.out⟩
end Go.Proofs.Ytllpffkifleigaa
end
