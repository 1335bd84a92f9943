/-
  The tracks of a book, in new memory.
  Sets of numbers.
  Whether what is in, in an area, can have come to another one by a move.
  The possible moves from one area to another one.
  The first map is added to a book.
  What the events between the first two maps leave; plain words.
-/
import Derived.Test.YtidbjidcjmbnlaaTmOf
import Derived.Test.YtidbjidcjmbnlaaShelfT
import Derived.Test.YtidbjidcjmbnlaaRegC
import Derived.Test.YtidbjidcjmbnlaaRegK
import Derived.Test.YtidbjidcjmbnlaaTmBegin
import Derived.Test.YtidbjidcjmbnlaaTmCount
set_option linter.unusedSimpArgs false
set_option linter.unusedVariables false
section
namespace Go.Proofs.Ytidbjidcjmbnlaa
open Go Go.RowKit
attribute [local go_sem] Oper.semAt_some

theorem intInfoC : (Try.prog.info? 3).map (fun i => (i.zero, i.size, i.bytes)) = some (some (.int .i64 0), 1, 8) := by kernel_rfl
theorem own_belowT {base size n : Nat} {e : TypeId} {v : Value} {xs : List Value} {w w' : World} (h : w.ownsRow base e size v n xs) (hB : Below w.heap.size w w') : w'.ownsRow base e size v n xs :=
  Th.stab (t := .row base e size v n xs) (W := w) (W' := w') h fun k hk => hB.block k (Th.lt (t := .row base e size v n xs) (W := w) h k hk)
set_option maxRecDepth 100000 in
/-- A row of numbers is cloned. -/
theorem clone_row {base n : Nat} {v : Value} {xs : List Value} {w : World} (h : w.ownsRow base 3 1 v n xs) (hn : n ≤ 1000000) (h1 : ∀ u ∈ xs, u.oneCell' = true) :
    Calls Try.prog 53 #[v] w fun e w' => ∃ v', e = .returned v' ∧ Below w.heap.size w w' ∧ w'.ownsRow w.heap.size 3 1 v' n xs := by
  obtain ⟨A, c, rfl⟩ := own_shape2 h
  have hl := h.1
  rcases h.2 with ⟨hv, h0⟩ | ⟨g, cap, cur, hv, -, hg, h3, h4, h5, h6⟩
  · injection hv with e1 e2 e3
    subst e1 h0 e3
    have hxs : xs = [] := List.eq_nil_of_length_eq_zero (by rw [hl])
    subst hxs
    refine (Try.slices_Clone_nil 0 0 w).mono ?_
    rintro e w' ⟨rfl, rfl⟩
    exact ⟨_, rfl, Below.refl _ _, World.ownsRow_nil _ _ _ _⟩
  · injection hv with e1 e2 e3
    subst e1 e3
    obtain ⟨i0, hi0, hz0, hz1, hz2⟩ := info_parts intInfoC
    have hcur : ∀ j u, xs[j]? = some u → cur[j]? = some u := fun j u hj => by
      have hjl : j < n * 1 := by rw [← hl]; exact (List.getElem?_eq_some_iff.1 hj).1
      rw [← h6, List.getElem?_take_of_lt hjl] at hj
      simpa using hj
    refine (Try.slices_Clone i0 _ 1 8 hi0 hz0 hz1 hz2 rfl (by decide) Try.sizeOf3 g 0 n c xs w hl (by unfold maxLen; omega) (by omega) (fun j u hj => ?_) h1).mono ?_
    · rw [Nat.zero_add]
      exact (show Blk w g 3 cur from hg).c j (hcur j u hj)
    · rintro e w' ⟨v', rfl, hown, -, hb⟩
      exact ⟨v', rfl, hb, hown⟩
theorem nums_one {l : List Nat} : ∀ u ∈ numsV l, u.oneCell' = true := fun u hu => by
  obtain ⟨x, -, rfl⟩ := List.mem_map.1 hu
  rfl
/-- What `cloned` returns, so far as it is needed. -/
def ClnPost (bg fr en : Int) (w : World) (e : Ending) (w' : World) : Prop := ∃ Aa na ca Ap np cp Ac nc cc, e = .returned (.agg #[.int .i64 bg, .int .i64 fr, .slice Aa na ca, .int .i64 en, .slice Ap np cp, .slice Ac nc cc]) ∧ Below w.heap.size w w'
set_option maxHeartbeats 4000000 in
set_option maxRecDepth 100000 in
theorem cloned_any (base na ca np cp nc cc : Nat) (Aa Ap Ac : Option Addr) (bg fr en : Int) (al pl cl : List Nat) (w : World) (ha : w.ownsRow base 3 1 (.slice Aa na ca) na (numsV al)) (hp : w.ownsRow base 3 1 (.slice Ap np cp) np (numsV pl)) (hc : w.ownsRow base 3 1 (.slice Ac nc cc) nc (numsV cl)) (hna : na ≤ 10000) (hnp : np ≤ 10000) (hnc : nc ≤ 10000) :
    Calls Try.prog 36 #[.agg #[.int .i64 bg, .int .i64 fr, .slice Aa na ca, .int .i64 en, .slice Ap np cp, .slice Ac nc cc]] w (ClnPost bg fr en w) := by
  obtain ⟨PP, hPP⟩ : ∃ PP, ClnPost bg fr en w = PP := ⟨_, rfl⟩
  rw [hPP]
  have hla := fun V (hB : Below w.heap.size w V) => clone_row (w := V) (own_belowT ha hB) (by omega) nums_one
  have hlp := fun V (hB : Below w.heap.size w V) => clone_row (w := V) (own_belowT hp hB) (by omega) nums_one
  have hlc := fun V (hB : Below w.heap.size w V) => clone_row (w := V) (own_belowT hc hB) (by omega) nums_one
  have HLA := hide hla
  have HLP := hide hlp
  have HLC := hide hlc
  have HPP := hide hPP
  clear hla hlp hlc hPP
  clear ha hp hc
  go_enter Try.func36, Try.ntmps36
  have HM := hide (Mem.start w)
  go_upto_region 1 with fail
  refine code_world fun W1 hW => ?_
  have HMn := Mem.to (Mem.allocAt (Mem.allocAt HM.out w.heap.size rfl #[.int .i64 bg, .int .i64 fr, .slice Aa na ca, .int .i64 en, .slice Ap np cp, .slice Ac nc cc] 62) (w.heap.size + 1) (by simp) #[.int .i64 0, .int .i64 0, .slice none 0 0, .int .i64 0, .slice none 0 0, .slice none 0 0] 62) hW
  have LW : Later w W1 := by rw [hW]; exact (((Below.refl _ _).alloc (Nat.le_refl _) _).alloc (by simp; try omega) _)
  have szW : W1.heap.size = w.heap.size + 2 := by rw [hW]; simp
  clear hW
  replace HM := hide HMn
  clear HMn LW
  clear szW
  have ba : Blk W1 w.heap.size 62 #[.int .i64 bg, .int .i64 fr, .slice Aa na ca, .int .i64 en, .slice Ap np cp, .slice Ac nc cc] := HM.out.get 1 rfl
  have lta := ba.lt
  have a0 := ba.c 0 rfl
  have fa0 := ba.frozen 0
  have a1 := ba.c 1 rfl
  have fa1 := ba.frozen 1
  have a2 := ba.c 2 rfl
  have fa2 := ba.frozen 2
  have a3 := ba.c 3 rfl
  have fa3 := ba.frozen 3
  have a4 := ba.c 4 rfl
  have fa4 := ba.frozen 4
  have a5 := ba.c 5 rfl
  have fa5 := ba.frozen 5
  go_wp2_with fail
  refine wp_region_cut 10 (by kernel_rfl) (by simp only [List.take_succ_cons, List.take_zero]; exact rfl) (by simp only [List.drop_succ_cons, List.drop_zero]; exact rfl) (by kernel_rfl) ?_
  apply any_region_J (w0 := W1) [[], [], [], [], [], [2], [], [], [2, 5], [2]] [true, true, false, true, true, false, true, true, false, true] [⟨2, none, [], []⟩, ⟨5, none, [], []⟩, ⟨8, none, [], []⟩] (fun ixq y => match ixq with | 2 => .slice (y 0).1 na (y 0).2 | 5 => .slice (y 0).1 np (y 0).2 | 8 => .slice (y 0).1 nc (y 0).2 | _ => undef) (fun ixq x F wq => match ixq with | 2 => True | 5 => True | 8 => True | _ => True) (fun a x => (((a).put (some 5) (.slice ((x 2) 0).1 na ((x 2) 0).2)).put (some 8) (.slice ((x 5) 0).1 np ((x 5) 0).2)).put (some 11) (.slice ((x 8) 0).1 nc ((x 8) 0).2)) (by kernel_rfl) (fun _ => rfl) [] (by kernel_rfl)
  · intro x D hD
    have hne := hD.some
    have k0 := liftB hD a2 (by first | assumption | omega)
    have k1 := liftB hD a4 (by first | assumption | omega)
    have k2 := liftB hD a5 (by first | assumption | omega)
    simp only [takeOps, Act.put, List.setIfInBounds_toArray, List.set_cons_succ, List.set_cons_zero]
    repeat (go_big_quiet_step (fail))
    exact wpQuiet_nil rfl
  · exact fun _ h => absurd h (by simp)
  · refine ⟨?_, ?_, ?_, trivial⟩
    · refine obl_callL rfl (fun _ => by kernel_rfl) 53 (fun x => #[.slice Aa na ca]) (fun x w => by kernel_rfl) ?_
      intro x w F hL hN
      refine (HLA.out w (onward HM.out.below hL)).mono ?_
      rintro e w' ⟨v, rfl, hb, hown⟩
      obtain ⟨A, cq, rfl⟩ := own_shape2 hown
      exact ⟨fun _ => (A, cq), rfl, hb, trivial⟩
    · refine obl_callL rfl (fun _ => by kernel_rfl) 53 (fun x => #[.slice Ap np cp]) (fun x w => by kernel_rfl) ?_
      intro x w F hL hN
      refine (HLP.out w (onward HM.out.below hL)).mono ?_
      rintro e w' ⟨v, rfl, hb, hown⟩
      obtain ⟨A, cq, rfl⟩ := own_shape2 hown
      exact ⟨fun _ => (A, cq), rfl, hb, trivial⟩
    · refine obl_callL rfl (fun _ => by kernel_rfl) 53 (fun x => #[.slice Ac nc cc]) (fun x w => by kernel_rfl) ?_
      intro x w F hL hN
      refine (HLC.out w (onward HM.out.below hL)).mono ?_
      rintro e w' ⟨v, rfl, hb, hown⟩
      obtain ⟨A, cq, rfl⟩ := own_shape2 hown
      exact ⟨fun _ => (A, cq), rfl, hb, trivial⟩
  · refine ⟨?_, ?_, ?_, trivial⟩
    · exact owe_true (fun _ _ _ => trivial)
    · exact owe_true (fun _ _ _ => trivial)
    · exact owe_true (fun _ _ _ => trivial)
  intro xx w2 F hL hlv1 hap1
  clear hap1
  obtain ⟨fct2, fct5, fct8, -⟩ := hlv1
  clear fct2
  clear fct5
  clear fct8
  refine ⟨rfl, ?_⟩
  replace HM := hide (HM.out.later hL)
  clear hL ba lta a0 fa0 a1 fa1 a2 fa2 a3 fa3 a4 fa4 a5 fa5
  generalize (xx 2 0).1 = A2 at *
  generalize (xx 2 0).2 = c2 at *
  generalize (xx 5 0).1 = A5 at *
  generalize (xx 5 0).2 = c5 at *
  generalize (xx 8 0).1 = A8 at *
  generalize (xx 8 0).2 = c8 at *
  have ba : Blk w2 w.heap.size 62 #[.int .i64 bg, .int .i64 fr, .slice Aa na ca, .int .i64 en, .slice Ap np cp, .slice Ac nc cc] := HM.out.get 1 rfl
  have lta := ba.lt
  have a0 := ba.c 0 rfl
  have fa0 := ba.frozen 0
  have a1 := ba.c 1 rfl
  have fa1 := ba.frozen 1
  have a2 := ba.c 2 rfl
  have fa2 := ba.frozen 2
  have a3 := ba.c 3 rfl
  have fa3 := ba.frozen 3
  have a4 := ba.c 4 rfl
  have fa4 := ba.frozen 4
  have a5 := ba.c 5 rfl
  have fa5 := ba.frozen 5
  go_upto_region 2 with fail
  refine code_world fun w7 hw7 => ?_
  have HM7 := hide (Mem.to (((HM.out.set_ 1 rfl 2 (.slice A2 na c2) (cs' := #[.int .i64 bg, .int .i64 fr, .slice A2 na c2, .int .i64 en, .slice Ap np cp, .slice Ac nc cc]) rfl).set_ 1 rfl 4 (.slice A5 np c5) (cs' := #[.int .i64 bg, .int .i64 fr, .slice A2 na c2, .int .i64 en, .slice A5 np c5, .slice Ac nc cc]) rfl).set_ 1 rfl 5 (.slice A8 nc c8) (cs' := #[.int .i64 bg, .int .i64 fr, .slice A2 na c2, .int .i64 en, .slice A5 np c5, .slice A8 nc c8]) rfl) hw7)
  clear HM hw7 a0 a1 a2 a3 a4 a5 fa0 fa1 fa2 fa3 fa4 fa5 lta ba
  have HM := HM7
  clear HM7
  simp only [List.set_cons_zero, List.set_cons_succ] at HM
  have ba : Blk w7 w.heap.size 62 #[.int .i64 bg, .int .i64 fr, .slice A2 na c2, .int .i64 en, .slice A5 np c5, .slice A8 nc c8] := HM.out.get 1 rfl
  have lta := ba.lt
  have a0 := ba.c 0 rfl
  have a1 := ba.c 1 rfl
  have a2 := ba.c 2 rfl
  have a3 := ba.c 3 rfl
  have a4 := ba.c 4 rfl
  have a5 := ba.c 5 rfl
  have bq : Blk w7 (w.heap.size + 1) 62 #[.int .i64 0, .int .i64 0, .slice none 0 0, .int .i64 0, .slice none 0 0, .slice none 0 0] := HM.out.get 0 rfl
  have ltq := bq.lt
  have q0 := bq.c 0 rfl
  have fq0 := bq.frozen 0
  have q1 := bq.c 1 rfl
  have fq1 := bq.frozen 1
  have q2 := bq.c 2 rfl
  have fq2 := bq.frozen 2
  have q3 := bq.c 3 rfl
  have fq3 := bq.frozen 3
  have q4 := bq.c 4 rfl
  have fq4 := bq.frozen 4
  have q5 := bq.c 5 rfl
  have fq5 := bq.frozen 5
  go_wp2_with fail
  refine ret_world fun V hV => ?_
  have hM9 := Mem.to ((((((HM.out.set_ 0 rfl 0 (.int .i64 bg) (cs' := #[.int .i64 bg, .int .i64 0, .slice none 0 0, .int .i64 0, .slice none 0 0, .slice none 0 0]) rfl).set_ 0 rfl 1 (.int .i64 fr) (cs' := #[.int .i64 bg, .int .i64 fr, .slice none 0 0, .int .i64 0, .slice none 0 0, .slice none 0 0]) rfl).set_ 0 rfl 2 (.slice A2 na c2) (cs' := #[.int .i64 bg, .int .i64 fr, .slice A2 na c2, .int .i64 0, .slice none 0 0, .slice none 0 0]) rfl).set_ 0 rfl 3 (.int .i64 en) (cs' := #[.int .i64 bg, .int .i64 fr, .slice A2 na c2, .int .i64 en, .slice none 0 0, .slice none 0 0]) rfl).set_ 0 rfl 4 (.slice A5 np c5) (cs' := #[.int .i64 bg, .int .i64 fr, .slice A2 na c2, .int .i64 en, .slice A5 np c5, .slice none 0 0]) rfl).set_ 0 rfl 5 (.slice A8 nc c8) (cs' := #[.int .i64 bg, .int .i64 fr, .slice A2 na c2, .int .i64 en, .slice A5 np c5, .slice A8 nc c8]) rfl) hV
  have hb9 := hM9.blk_ 0 rfl
  have r0 := hb9.c 0 rfl
  have r1 := hb9.c 1 rfl
  have r2 := hb9.c 2 rfl
  have r3 := hb9.c 3 rfl
  have r4 := hb9.c 4 rfl
  have r5 := hb9.c 5 rfl
  rw [← HPP.out]
  refine bodyPost_ret (v := .agg #[.int .i64 bg, .int .i64 fr, .slice A2 na c2, .int .i64 en, .slice A5 np c5, .slice A8 nc c8]) (by simp [results, Try.results36, go_sem, r0, r1, r2, r3, r4, r5]) rfl ⟨A2, na, c2, A5, np, c5, A8, nc, c8, rfl, hM9.below⟩
theorem new_cellsT (w : World) (t : TypeId) (l : List Value) (j : Nat) (u : Value) (h : l[j]? = some u) : (w.alloc (.cells ⟨l⟩ t)).cell? ((⟨w.heap.size, 0, none⟩ : Addr).add j) = some u := by
  rw [show (⟨w.heap.size, 0, none⟩ : Addr).add j = ⟨w.heap.size, j, none⟩ by unfold Addr.add; split <;> simp_all]
  rw [(Blk.new w t ⟨l⟩).cell j]; simpa using h
def trkFr (T : List Trk) (xs : List Value) (k : Nat) : Prop := xs.length = k * 6 ∧ ∀ i t, i < k → T[i]? = some t → xs[i * 6 + 1]? = some (.int .i64 t.fr)
theorem trkFr.next {T : List Trk} {xs : List Value} {k : Nat} {t : Trk} {a b c d e : Value} (h : trkFr T xs k) (ht : T[k]? = some t) : trkFr T (xs ++ [a, .int .i64 t.fr, b, c, d, e]) (k + 1) := by
  obtain ⟨h1, h2⟩ := h
  refine ⟨by rw [List.length_append, h1]; simp; omega, fun i u hi hu => ?_⟩
  by_cases e : i < k
  · rw [List.getElem?_append_left (by omega)]
    exact h2 i u e hu
  · obtain rfl : i = k := by omega
    rw [List.getElem?_append_right (by omega), show i * 6 + 1 - xs.length = 1 by omega]
    rw [← Option.some.inj (ht.symm.trans hu)]
    rfl
def TrksPost (T : List Trk) (w : World) (e : Ending) (w' : World) : Prop := ∃ v xs, e = .returned v ∧ Below w.heap.size w w' ∧ w'.ownsRow w.heap.size 62 6 v T.length xs ∧ trkFr T xs T.length
set_option maxHeartbeats 4000000 in
set_option maxRecDepth 100000 in
theorem Tracks_ok (B : Bk) (base : Nat) (w0 w : World) (R : List Th) (hM : Mem w0 (B.ts base R) w) (hT : B.T.length ≤ 200) (hl : ∀ (q : Nat) (t : Trk), B.T[q]? = some t → t.al.length ≤ 100 ∧ t.pl.length ≤ 100 ∧ t.cl.length ≤ 6400) :
    Calls Try.prog 15 #[.pointer (some ⟨B.p, 0, none⟩)] w (TrksPost B.T w) := by
  obtain ⟨PP, hPP⟩ : ∃ PP, TrksPost B.T w = PP := ⟨_, rfl⟩
  rw [hPP]
  have hown := fun V (hB : Below w.heap.size w V) (t : Trk) (ht : t ∈ B.T) => show _ ∧ _ ∧ _ from
    ⟨own_belowT (show w.ownsRow base 3 1 t.av t.al.length (numsV t.al) from hM.all (thA base t) (by unfold Bk.ts; simp only [List.mem_cons, List.mem_append, List.mem_map]; exact .inr (.inr (.inr (.inr (.inl ⟨t, ht, rfl⟩)))))) hB,
    own_belowT (show w.ownsRow base 3 1 t.pv t.pl.length (numsV t.pl) from hM.all (thQ base t) (by unfold Bk.ts; simp only [List.mem_cons, List.mem_append, List.mem_map]; exact .inr (.inr (.inr (.inr (.inr (.inl ⟨t, ht, rfl⟩))))))) hB,
    own_belowT (show w.ownsRow base 3 1 t.cv t.cl.length (numsV t.cl) from hM.all (thC base t) (by unfold Bk.ts; simp only [List.mem_cons, List.mem_append, List.mem_map]; exact .inr (.inr (.inr (.inr (.inr (.inr (.inl ⟨t, ht, rfl⟩)))))))) hB⟩
  obtain ⟨gx, gy, gs, W, H, lev, rch, last, p, mb, c, mv, tv, kz, S, T, of⟩ := B
  dsimp only at hT hl hPP hown ⊢
  have hb : Blk w p 100 (bookC gx gy gs W H lev rch last mv tv mb kz) := hM.blk_ 0 rfl
  have hrow : w.ownsRow base 62 6 tv T.length (trkCells T) := hM.row_ 1 rfl
  have hval := fun V (hB : Below w.heap.size w V) => valid_any p mb V ((blk_belowN hb hB hb.lt).c 10 rfl) (blk_belowN hb hB hb.lt).lt
  have hrow2 := fun V (hB : Below w.heap.size w V) => own_belowT hrow hB
  obtain ⟨At, ct, rfl⟩ := own_shape2 hrow
  clear hrow hM
  obtain ⟨n, hn⟩ : ∃ q, T.length = q := ⟨_, rfl⟩
  rw [hn] at hb hT hrow2
  have HV := hide hval
  have HPP := hide hPP
  have HB := hide hb
  have HROW := hide hrow2
  have HN := hide hn
  have HL := hide hl
  have HOWN := hide hown
  clear hval hPP hb hrow2 hn hl hown
  go_enter Try.func15, Try.ntmps15
  have HM := hide (Mem.start w)
  go_wp2_with fail
  refine (HV.out _ HM.out.below).mono ?_
  rintro e w2 ⟨rfl, hb⟩
  replace HM := hide (HM.out.later hb)
  clear hb
  have b9 : w2.cell? ⟨p, 9, none⟩ = some (.slice At n ct) := (blk_belowN HB.out HM.out.below HB.out.lt).c 9 rfl
  have ltb := (blk_belowN HB.out HM.out.below HB.out.lt).lt
  go_wp2_with fail
  clear b9 ltb
  have hM3 := HM.out.nilRow w.heap.size 62 6
  have HM3 := hide hM3
  clear HM hM3
  go_loopw [3, 14] (fun v u wr => ∃ (k : Nat) (xs : List Value), k ≤ n ∧ u = .int .i64 (k : Nat) ∧ Hid (trkFr T xs k) ∧ Hid (Mem w [.row w.heap.size 62 6 v k xs] wr)) (fun _ u _ => n - (intOf u).toNat)
  case atStart => exact ⟨0, [], Nat.zero_le _, rfl, hide ⟨rfl, fun i t h => absurd h (Nat.not_lt_zero _)⟩, HM3⟩
  case round =>
    clear HM3
    obtain ⟨k, xs, hkn, rfl, HFR, HM⟩ := hrel
    by_cases hlt : k < n
    · have hlt2 : (k : Int) < n := by omega
      have hrw := HROW.out wr HM.out.below
      obtain ⟨bt, curt, hAt, -, hbt, -, -, hct⟩ := row_blk hrw (by omega)
      subst hAt
      obtain ⟨t, ht⟩ : ∃ t, T[k]? = some t := ⟨_, List.getElem?_eq_getElem (by rw [HN.out]; exact hlt)⟩
      have hget : ∀ j, j < 6 → (trkCells T)[k * 6 + j]? = t.cells[j]? := fun j hj => trkCells_get ht hj
      have hto := fun V (hB : Below w.heap.size w V) => HOWN.out V hB t (List.mem_of_getElem? ht)
      have hlt' := HL.out k t ht
      obtain ⟨bg, fr, av, en, pv, cv, al, pl, cl⟩ := t
      dsimp only at hto hlt'
      obtain ⟨o1, o2, o3⟩ := hto wr HM.out.below
      obtain ⟨Aa, ca, rfl⟩ := own_shape2 o1
      obtain ⟨Ap, cp, rfl⟩ := own_shape2 o2
      obtain ⟨Ac, cc, rfl⟩ := own_shape2 o3
      have hcln := fun V (hB : Below w.heap.size w V) => cloned_any base al.length ca pl.length cp cl.length cc Aa Ap Ac bg fr en al pl cl V (hto V hB).1 (hto V hB).2.1 (hto V hB).2.2 (by omega) (by omega) (by omega)
      have t0 := hbt.c (k * 6 + 0) (hct _ _ ((hget 0 (by omega)).trans rfl))
      have t1 := hbt.c (k * 6 + 1) (hct _ _ ((hget 1 (by omega)).trans rfl))
      have t2 := hbt.c (k * 6 + 2) (hct _ _ ((hget 2 (by omega)).trans rfl))
      have t3 := hbt.c (k * 6 + 3) (hct _ _ ((hget 3 (by omega)).trans rfl))
      have t4 := hbt.c (k * 6 + 4) (hct _ _ ((hget 4 (by omega)).trans rfl))
      have t5 := hbt.c (k * 6 + 5) (hct _ _ ((hget 5 (by omega)).trans rfl))
      have ltt := hbt.lt
      simp only [Nat.add_zero] at t0
      generalize al.length = na at *
      generalize pl.length = np at *
      generalize cl.length = nc at *
      have hn2 := fun b c d e => HFR.out.next (a := .int .i64 bg) (b := b) (c := c) (d := d) (e := e) ht
      dsimp only at hn2
      have HCLN := hide hcln
      have HTT := hide ht
      have HNX := hide hn2
      clear hcln ht hn2
      clear o1 o2 o3 hto hget hct hbt hrw hlt'
      go_wp2_with fail
      refine at_world fun W4 hW => ?_
      have HMn := Mem.to (Mem.allocAt HM.out wr.heap.size rfl #[.int .i64 bg, .int .i64 fr, .slice Aa na ca, .int .i64 en, .slice Ap np cp, .slice Ac nc cc] 62) hW
      have LW : Later wr W4 := by rw [hW]; exact ((Below.refl _ _).alloc (Nat.le_refl _) _)
      have szW : W4.heap.size = wr.heap.size + 1 := by rw [hW]; simp
      clear hW
      replace HM := hide HMn
      clear HMn LW
      clear szW
      refine (HCLN.out W4 HM.out.below).mono ?_
      rintro e w5 ⟨A2, n2, c2, A5, n5, c5, A8, n8, c8, rfl, hb5⟩
      replace HM := hide (HM.out.later hb5).tail
      clear hb5
      have HNX2 := hide (HNX.out (.slice A2 n2 c2) (.int .i64 en) (.slice A5 n5 c5) (.slice A8 n8 c8))
      clear HNX HFR
      obtain ⟨i0, hi0, hz0, hz1, hz2⟩ := info_parts trackInfo
      have Hi := hide hi0
      have Hz0 := hide hz0
      have Hz1 := hide hz1
      have Hz2 := hide hz2
      clear hi0 hz0 hz1 hz2
      have How := hide (HM.out.row_ 0 rfl)
      go_wp2_with (at_builtin; refine wpList_append_own_at _ rfl (.tmp 18) (.tmp 21) _ rfl w.heap.size 62 i0 _ 6 96 Try.underlying55 Hi.out Hz0.out Hz1.out Hz2.out rfl (by decide) _ _ _ rfl (How.out.alloc _) ⟨w5.heap.size, 0, none⟩ 1 1 [.int .i64 bg, .int .i64 fr, .slice A2 n2 c2, .int .i64 en, .slice A5 n5 c5, .slice A8 n8 c8] rfl rfl ?c1 ?c2 ?c3 ?c4 ?c5 ?_)
      case c1 => exact new_cellsT w5 _ [.int .i64 bg, .int .i64 fr, .slice A2 n2 c2, .int .i64 en, .slice A5 n5 c5, .slice A8 n8 c8]
      case c2 => intro u hu; simp at hu; rcases hu with rfl | rfl | rfl | rfl | rfl | rfl <;> rfl
      case c3 => unfold maxLen; omega
      case c4 => omega
      case c5 => have := HM.out.size; simp; omega
      intro v' w6 hownA hgrA _ hatA
      have HM6 := hide (HM.out.grow 0 rfl _ hgrA hownA hatA)
      clear HM How hownA hgrA hatA
      simp only [List.set_cons_zero] at HM6
      go_wp2_with fail
      go_roundw
      case rel => exact ⟨k + 1, _, hlt, by go_num, HNX2, HM6⟩
      case measure => simp [intOf] <;> omega
    · obtain rfl : k = n := by omega
      have hkk : ¬ ((k : Int) < k) := by omega
      go_wp2
      rw [← HPP.out]
      refine ⟨_, xs, rfl, HM.out.below, ?_, ?_⟩
      · rw [HN.out]; exact HM.out.row_ 0 rfl
      · rw [HN.out]; exact HFR.out
end Go.Proofs.Ytidbjidcjmbnlaa
end
section
namespace Go.Proofs.Ytidbjidcjmbnlaa
open Go Go.RowKit
attribute [local go_sem] Oper.semAt_some

/-- Whole numbers as keys. -/
def izL (z : Int) : Lit := .int .i64 z
def okI (z : Int) : Prop := (Lit.int .i64 z).wf = true
theorem izKey : KeyF Try.prog 3 (Value.int .i64) izL okI where
  law := Maps.int_keyed Try.underlying3
  of s hs := Maps.keyOf_int_mk Try.underlying3 hs
  inj s t _ _ e := (Lit.int.inj e).2
def iz (l : List Nat) : List Int := l.map fun p : Nat => (p : Int)
theorem iz_mem {l : List Nat} {p : Nat} : (p : Int) ∈ iz l ↔ p ∈ l := by
  unfold iz
  rw [List.mem_map]
  exact ⟨fun ⟨q, hq, e⟩ => by rw [← Int.ofNat.inj e]; exact hq, fun h => ⟨p, h, rfl⟩⟩
def setF (l : List Nat) (x : Int) : Option Value := if x ∈ iz l then some (.bool true) else none
theorem setF_put {l : List Nat} {k x : Nat} (h : l[k]? = some x) : putK (setF (l.take k)) (x : Int) (.bool true) = setF (l.take (k + 1)) := by
  funext y
  unfold putK setF iz
  rw [List.take_add_one, h]
  by_cases e : y = x
  · subst e
    simp
  · simp [e]
def SetPost (l : List Nat) (w : World) (e : Ending) (w' : World) : Prop := ∃ g c, e = .returned (.map (some g)) ∧ c ≤ l.length ∧ Mem w [thK Try.prog 3 izL okI g (setF l) c] w'
set_option maxHeartbeats 4000000 in
set_option maxRecDepth 100000 in
theorem set_any (base : Nat) (v : Value) (l : List Nat) (w : World) (h : w.ownsRow base 3 1 v l.length (numsV l)) (hn : l.length ≤ 10000) (hx : ∀ x ∈ l, x ≤ 1000000) :
    Calls Try.prog 51 #[v] w (SetPost l w) := by
  obtain ⟨PP, hPP⟩ : ∃ PP, SetPost l w = PP := ⟨_, rfl⟩
  rw [hPP]
  have hrow := fun V (hB : Below w.heap.size w V) => own_belowT h hB
  obtain ⟨A, ca, rfl⟩ := own_shape2 h
  clear h
  obtain ⟨n, hn2⟩ : ∃ q, l.length = q := ⟨_, rfl⟩
  rw [hn2] at hn hrow ⊢
  have HROW := hide hrow
  have HPP := hide hPP
  have HN := hide hn2
  have HX := hide hx
  clear hrow hPP hn2 hx
  go_enter Try.func51, Try.ntmps51
  have HM := hide (Mem.start w)
  have hmm := @run_makeMap Try.prog
  go_upto_region 2 with fail
  clear hmm
  refine code_world fun w2 hw2 => ?_
  obtain ⟨g, hg⟩ : ∃ q, w.heap.size = q := ⟨_, rfl⟩
  have hM2 := Mem.to (HM.out.newMapK Try.prog 3 izL okI g hg.symm) hw2
  simp only [hg]
  have HG := hide hg
  clear hw2 HM hg
  have HM := hide (show Mem w [thK Try.prog 3 izL okI g (setF (l.take 0)) 0] w2 from by
    have e : setF (l.take 0) = fun _ => none := by funext x; simp [setF, iz]
    rw [e]
    exact hM2)
  clear hM2
  go_wp2_with fail
  go_loopw [9] (fun u wr => ∃ k c : Nat, k ≤ n ∧ c ≤ k ∧ u = .int .i64 (k : Nat) ∧ Hid (Mem w [thK Try.prog 3 izL okI g (setF (l.take k)) c] wr)) (fun u _ => n - (intOf u).toNat)
  case atStart => exact ⟨0, 0, Nat.zero_le _, Nat.le_refl _, rfl, HM⟩
  case round =>
    clear HM
    obtain ⟨k, c, hkn, hck, rfl, HM⟩ := hrel
    by_cases hlt : k < n
    · have hlt2 : (k : Int) < n := by omega
      have hrw := HROW.out wr HM.out.below
      obtain ⟨bt, curt, hAt, -, hbt, -, -, hct⟩ := row_blk hrw (by omega)
      subst hAt
      obtain ⟨x, hxk⟩ : ∃ x, l[k]? = some x := ⟨_, List.getElem?_eq_getElem (by rw [HN.out]; exact hlt)⟩
      have hx6 : okI (x : Int) := wfN (HX.out x (List.mem_of_getElem? hxk))
      have r0 := hbt.c k (hct k (.int .i64 (x : Nat)) (by unfold numsV; rw [List.getElem?_map, hxk]; rfl))
      have ltr := hbt.lt
      have hmk := HM.out.map_ 0 rfl
      have hput := setF_put hxk
      have HXK := hide hxk
      have HX6 := hide hx6
      have HMK := hide hmk
      have HPUT := hide hput
      clear hxk hx6 hmk hput
      clear hrw hbt hct
      go_wp2_with (at_mapUpdate; refine wpList_storeK _ rfl _ _ _ _ rfl 3 4 izKey Try.underlying85 g c (setF (l.take k)) rfl HMK.out (by unfold maxLen; omega) (x : Int) rfl HX6.out (.bool true) rfl ?_; intro w8 hm8 hg8)
      have hM8 := HM.out.mapK 0 rfl hm8 hg8
      rw [HPUT.out] at hM8
      simp only [List.set_cons_zero] at hM8
      have HM8 := hide hM8
      clear hM8 hm8 hg8 HM
      go_roundw
      case rel => exact ⟨k + 1, _, hlt, by split <;> omega, by go_num, HM8⟩
      case measure => simp [intOf] <;> omega
    · obtain rfl : k = n := by omega
      have hkk : ¬ ((k : Int) < k) := by omega
      go_wp2
      rw [← HPP.out]
      have e : l.take k = l := List.take_of_length_le (Nat.le_of_eq HN.out)
      have hM := HM.out
      rw [e] at hM
      exact ⟨g, c, rfl, by rw [HN.out]; exact hck, hM⟩
end Go.Proofs.Ytidbjidcjmbnlaa
end
section
namespace Go.Proofs.Ytidbjidcjmbnlaa
open Go Go.RowKit
attribute [local go_sem] Oper.semAt_some

/-- Areas lie so. -/
def SprAt (V : World) (s : Spr) (base N : Nat) : Prop := ∀ t ∈ s.ts base N, t.ok V
theorem SprAt.of {V : World} {s : Spr} {base N : Nat} (h : SprAt V s base N) : Blk V s.g 3 (cellsF s.f N) := h (.blk s.g 3 (cellsF s.f N)) (by unfold Spr.ts; simp)
theorem SprAt.bo {V : World} {s : Spr} {base N : Nat} (h : SprAt V s base N) : Blk V s.bo 81 (cellsV s.h (s.K * 8)) := h (.blk s.bo 81 (cellsV s.h (s.K * 8))) (by unfold Spr.ts; simp)
theorem SprAt.kv {V : World} {s : Spr} {base N : Nat} (h : SprAt V s base N) {i : Nat} (hi : i < s.K) : V.ownsRow base 33 1 (s.kv i) (s.ki i).length ((s.ki i).map (fun x : Value × List Nat => x.1)) := h (.row base 33 1 (s.kv i) (s.ki i).length ((s.ki i).map (fun x : Value × List Nat => x.1))) (by
  unfold Spr.ts
  exact List.mem_cons_of_mem _ (List.mem_cons_of_mem _ (List.mem_append_left _ (List.mem_of_getElem? (rowsK_get hi)))))
theorem SprAt.pk {V : World} {s : Spr} {base N W H : Nat} {may inn : Nat → Bool} (h : SprAt V s base N) (ho : s.Ok W H may inn) {i : Nat} (hi : i < s.K) {y : Value × List Nat} (hy : y ∈ s.ki i) : V.ownsRow base 3 1 y.1 y.2.length (numsV y.2) := h (thP base y) (by
  unfold Spr.ts
  exact List.mem_cons_of_mem _ (List.mem_cons_of_mem _ (List.mem_append_right _ (List.mem_append_right _ (List.mem_map_of_mem (ho.kerns i hi y hy))))))
theorem SprAt.ps {V : World} {s : Spr} {base N : Nat} (h : SprAt V s base N) {y : Value × List Nat} (hy : y ∈ s.E) : V.ownsRow base 3 1 y.1 y.2.length (numsV y.2) := h (thP base y) (by
  unfold Spr.ts
  exact List.mem_cons_of_mem _ (List.mem_cons_of_mem _ (List.mem_append_right _ (List.mem_append_left _ (List.mem_map_of_mem hy)))))
theorem SprAt.later {V V' : World} {s : Spr} {base N : Nat} (h : SprAt V s base N) (hb : Below V.heap.size V V') : SprAt V' s base N := fun t ht => Th.stab (h t ht) fun k hk => hb.block k (Th.lt (h t ht) k hk)
theorem Spr.Ok.kernD {s : Spr} {i : Nat} (hi : i < s.K) : s.kern.getD i [] = (s.ki i).map (·.2) := by
  unfold Spr.kern
  rw [List.getD_eq_getElem?_getD, List.getElem?_map, List.getElem?_range hi]
  rfl
def pixOk (W H : Nat) (f : Nat → Int) (j : Int) (m : Int × Int) (p : Nat) : Bool := match shiftP W H p m with
  | some q => f q == j
  | none => true
theorem follow_all {W H : Nat} {kern : List (List Nat)} {f : Nat → Int} {j : Int} {m : Int × Int} : followB W H kern f j m = kern.all fun k => k.all (pixOk W H f j m) := rfl
/-- All before are as they should be. -/
def AllTo {α : Type} (l : List α) (P : α → Bool) (k : Nat) : Prop := ∀ c x, c < k → l[c]? = some x → P x = true
theorem AllTo.next {α : Type} {l : List α} {P : α → Bool} {k : Nat} (h : AllTo l P k) {x : α} (hx : l[k]? = some x) (hp : P x = true) : AllTo l P (k + 1) := fun c y hc hy => by
  by_cases e : c < k
  · exact h c y e hy
  · obtain rfl : c = k := by omega
    have := Option.some.inj (hx.symm.trans hy)
    subst this
    exact hp
theorem AllTo.all {α : Type} {l : List α} {P : α → Bool} (h : AllTo l P l.length) : l.all P = true := List.all_eq_true.2 fun x hx => by
  obtain ⟨c, hc⟩ := List.mem_iff_getElem?.1 hx
  exact h c x (List.getElem?_eq_some_iff.1 hc).1 hc
theorem all_not {α : Type} {l : List α} {P : α → Bool} {x : α} (hx : x ∈ l) (h : P x = false) : l.all P = false := by
  cases e : l.all P with
  | false => rfl
  | true => rw [List.all_eq_true.1 e x hx] at h; cases h
set_option maxHeartbeats 4000000 in
set_option maxRecDepth 100000 in
theorem follows_any (gx gy gs : Int) (W H N base i j : Nat) (s0 s1 : Spr) (may inn : Nat → Bool) (mx my : Int) (w : World) (hW : 1 ≤ W) (hH : 1 ≤ H) (hW8 : W ≤ 8) (hH8 : H ≤ 8) (hN : N = W * H) (h0 : SprAt w s0 base N) (ho : s0.Ok W H may inn) (h1 : Blk w s1.g 3 (cellsF s1.f N)) (hi : i < s0.K) (hx : -8 ≤ mx ∧ mx ≤ 8) (hy : -8 ≤ my ∧ my ≤ 8) :
    Calls Try.prog 67 #[.agg (spreadC gx gy gs W H N s0), .int .i64 (i : Nat), .agg (spreadC gx gy gs W H N s1), .int .i64 (j : Nat), .agg #[.int .i64 mx, .int .i64 my]] w fun e w' => e = .returned (.bool (followB W H (s0.kern.getD i []) s1.f j (mx, my))) ∧ Below w.heap.size w w' := by
  have hN1 : 1 ≤ N := by rw [hN]; exact Nat.mul_pos hW hH
  have hN2 : N ≤ 64 := by rw [hN]; exact Nat.mul_le_mul hW8 hH8
  have hK64 : s0.K ≤ 64 := by have := ho.le; rw [← hN] at this; omega
  obtain ⟨r, hr⟩ : ∃ r, followB W H (s0.kern.getD i []) s1.f j (mx, my) = r := ⟨_, rfl⟩
  rw [hr]
  rw [Spr.Ok.kernD hi, follow_all] at hr
  obtain ⟨PP, hPP⟩ : ∃ PP : Ending → World → Prop, (fun e w' => e = .returned (.bool r) ∧ Below w.heap.size w w') = PP := ⟨_, rfl⟩
  rw [hPP]
  unfold spreadC
  have hrow := fun V (hB : Below w.heap.size w V) => (h0.later hB).kv hi
  have hpk := fun V (hB : Below w.heap.size w V) y (hy : y ∈ s0.ki i) => (h0.later hB).pk ho hi hy
  have hbo := fun V (hB : Below w.heap.size w V) => (h0.later hB).bo
  have hof := fun V (hB : Below w.heap.size w V) => blk_belowN h1 hB h1.lt
  have hkc := (ho.cells i hi).2.1
  have hpx : ∀ y ∈ s0.ki i, ∀ p ∈ y.2, p < N := fun y hy p hp => by
    rw [hN]
    have h2 : s0.pix.length = s0.K := by unfold Spr.pix; rw [List.length_map, List.length_reverse]; exact ho.len
    exact (ho.areas.kerns i (by rw [h2]; exact hi) y.2 (by rw [Spr.Ok.kernD hi]; exact List.mem_map_of_mem hy) p hp).1
  obtain ⟨kl, hkl⟩ : ∃ q, s0.ki i = q := ⟨_, rfl⟩
  rw [hkl] at hr hpx
  simp only [hkl] at hrow hpk
  obtain ⟨Ak, ck, hkv⟩ := own_shape2 (hrow w (Below.refl _ _))
  rw [hkv] at hkc
  simp only [hkv] at hrow
  obtain ⟨nk, hnk⟩ : ∃ q, kl.length = q := ⟨_, rfl⟩
  simp only [hnk] at hrow hkc
  generalize s0.K = K0 at *
  generalize s0.bo = bo0 at *
  generalize s0.h = hh at *
  generalize s0.g = g0 at *
  generalize s1.f = f1 at *
  generalize s1.g = g1 at *
  generalize s1.K = K1 at *
  generalize s1.bo = bo1 at *
  have hi2 : (i : Int) < K0 := by omega
  have HROW := hide hrow
  have HPK := hide hpk
  have HBO := hide hbo
  have HOF := hide hof
  have HKC := hide hkc
  have HR := hide hr
  have HPX := hide hpx
  have HNK := hide hnk
  have HPP := hide hPP
  have HN := hide hN
  clear hrow hpk hbo hof hkc hr hpx hnk hPP hN
  clear h0 h1 ho hkl hkv
  go_enter Try.func67, Try.ntmps67
  have HM := hide (Mem.start w)
  go_upto_region 1 with fail
  refine code_world fun W1 hW => ?_
  have HMn := Mem.to (Mem.allocAt (Mem.allocAt (Mem.allocAt HM.out w.heap.size rfl #[.int .i64 gx, .int .i64 gy, .int .i64 gs, .int .i64 (W : Nat), .int .i64 (H : Nat), .slice (some ⟨bo0, 0, none⟩) K0 K0, .slice (some ⟨g0, 0, none⟩) N N] 102) (w.heap.size + 1) (by simp) #[.int .i64 gx, .int .i64 gy, .int .i64 gs, .int .i64 (W : Nat), .int .i64 (H : Nat), .slice (some ⟨bo1, 0, none⟩) K1 K1, .slice (some ⟨g1, 0, none⟩) N N] 102) (w.heap.size + 2) (by simp) #[.int .i64 mx, .int .i64 my] 68) hW
  have LW : Later w W1 := by rw [hW]; exact ((((Below.refl _ _).alloc (Nat.le_refl _) _).alloc (by simp; try omega) _).alloc (by simp; try omega) _)
  have szW : W1.heap.size = w.heap.size + 3 := by rw [hW]; simp
  clear hW
  replace HM := hide HMn
  clear HMn LW
  clear szW
  obtain ⟨pA, hpA⟩ : ∃ q, w.heap.size = q := ⟨_, rfl⟩
  obtain ⟨pB, hpB⟩ : ∃ q, pA + 1 = q := ⟨_, rfl⟩
  obtain ⟨pM, hpM⟩ : ∃ q, pB + 1 = q := ⟨_, rfl⟩
  rw [show w.heap.size + 2 = pM by omega, show w.heap.size + 1 = pB by omega, hpA] at HM
  simp only [hpA, hpB, hpM]
  clear hpA hpB hpM
  have a5 := (HM.out.blk_ 2 rfl).c 5 rfl
  have lta := (HM.out.blk_ 2 rfl).lt
  have kc := (HBO.out W1 HM.out.below).c (i * 8 + 1) (cellsV_at (by omega))
  have ltk := (HBO.out W1 HM.out.below).lt
  rw [HKC.out] at kc
  go_wp2_with fail
  clear a5 lta kc ltk
  go_loopw [24] (fun u wr => ∃ k : Nat, k ≤ nk ∧ u = .int .i64 (k : Nat) ∧ Hid (AllTo kl (fun y => y.2.all (pixOk W H f1 j (mx, my))) k) ∧ Hid (Mem w [.blk pM 68 #[.int .i64 mx, .int .i64 my], .blk pB 102 #[.int .i64 gx, .int .i64 gy, .int .i64 gs, .int .i64 (W : Nat), .int .i64 (H : Nat), .slice (some ⟨bo1, 0, none⟩) K1 K1, .slice (some ⟨g1, 0, none⟩) N N], .blk pA 102 #[.int .i64 gx, .int .i64 gy, .int .i64 gs, .int .i64 (W : Nat), .int .i64 (H : Nat), .slice (some ⟨bo0, 0, none⟩) K0 K0, .slice (some ⟨g0, 0, none⟩) N N]] wr)) (fun u _ => nk - (intOf u).toNat)
  case atStart => exact ⟨0, Nat.zero_le _, rfl, hide (fun c x h => absurd h (Nat.not_lt_zero _)), HM⟩
  case round =>
    obtain ⟨k, hkn, rfl, HA, HM2⟩ := hrel
    clear HM
    have HM := HM2
    clear HM2
    by_cases hlt : k < nk
    · have hlt2 : (k : Int) < nk := by omega
      have hrow2 := HROW.out wr HM.out.below
      have hnk64 : nk ≤ maxLen := by
        rcases hrow2.2 with ⟨-, h0⟩ | ⟨g, cap, cur, hv, -, -, h3, h4, -⟩
        · omega
        · omega
      obtain ⟨bk, cur, rfl, -, hbk, -, -, hck⟩ := row_blk hrow2 (by omega)
      obtain ⟨y, hy⟩ : ∃ y, kl[k]? = some y := ⟨_, List.getElem?_eq_getElem (by rw [HNK.out]; exact hlt)⟩
      have hym := List.mem_of_getElem? hy
      have k0 := hbk.c k (hck k y.1 (by rw [List.getElem?_map, hy]; rfl))
      have ltk := hbk.lt
      have hrp := HPK.out wr HM.out.below y hym
      have hpx := HPX.out y hym
      obtain ⟨y1, ps⟩ := y
      dsimp only at k0 hpx hrp
      obtain ⟨Ap, cp, rfl⟩ := own_shape2 hrp
      obtain ⟨np, hnp⟩ : ∃ q, ps.length = q := ⟨_, rfl⟩
      rw [hnp] at k0 hrp
      have hrpf := fun V (hB : Below w.heap.size w V) => HPK.out V hB _ hym
      dsimp only at hrpf
      simp only [hnp] at hrpf hy
      unfold maxLen at hnk64
      have HY := hide hy
      have HPS := hide hpx
      have HNP := hide hnp
      have HRP := hide hrpf
      clear hy hpx hnp hrpf
      clear hbk hck hrow2 hym hrp
      go_wp2_with fail
      clear k0 ltk
      go_loopw [30] (fun u wr => ∃ c : Nat, c ≤ np ∧ u = .int .i64 (c : Nat) ∧ Hid (AllTo ps (pixOk W H f1 j (mx, my)) c) ∧ Hid (Mem w [.blk pM 68 #[.int .i64 mx, .int .i64 my], .blk pB 102 #[.int .i64 gx, .int .i64 gy, .int .i64 gs, .int .i64 (W : Nat), .int .i64 (H : Nat), .slice (some ⟨bo1, 0, none⟩) K1 K1, .slice (some ⟨g1, 0, none⟩) N N], .blk pA 102 #[.int .i64 gx, .int .i64 gy, .int .i64 gs, .int .i64 (W : Nat), .int .i64 (H : Nat), .slice (some ⟨bo0, 0, none⟩) K0 K0, .slice (some ⟨g0, 0, none⟩) N N]] wr)) (fun u _ => np - (intOf u).toNat)
      case atStart => exact ⟨0, Nat.zero_le _, rfl, hide (fun c x h => absurd h (Nat.not_lt_zero _)), HM⟩
      case round =>
        obtain ⟨c, hcn, rfl, HA2, HM2⟩ := hrel
        clear HM
        have HM := HM2
        clear HM2
        by_cases hlc : c < np
        · have hlc2 : (c : Int) < np := by omega
          have hrp2 := HRP.out wr HM.out.below
          have hnp64 : np ≤ 9223372036854775807 := by
            rcases hrp2.2 with ⟨-, h0⟩ | ⟨g, cap, cur, hv, -, -, h3, h4, -⟩
            · omega
            · unfold maxLen at h4; omega
          obtain ⟨bp, curp, rfl, -, hbp, -, -, hcp⟩ := row_blk hrp2 (by omega)
          obtain ⟨p, hp⟩ : ∃ p, ps[c]? = some p := ⟨_, List.getElem?_eq_getElem (by rw [HNP.out]; exact hlc)⟩
          have hpN := HPS.out p (List.mem_of_getElem? hp)
          have k0 := hbp.c c (hcp c (.int .i64 (p : Nat)) (by unfold numsV; simp [hp]))
          have ltk := hbp.lt
          have a3 := (HM.out.blk_ 2 rfl).c 3 rfl
          have a4 := (HM.out.blk_ 2 rfl).c 4 rfl
          have lta := (HM.out.blk_ 2 rfl).lt
          have m0 := (HM.out.blk_ 0 rfl).c 0 rfl
          have m1 := (HM.out.blk_ 0 rfl).c 1 rfl
          have ltm := (HM.out.blk_ 0 rfl).lt
          have HP := hide hp
          clear hp
          clear hbp hcp hrp2
          go_wp2_with fail
          go_quiet (fail)
          have hL9 : Below wr.heap.size wr (wr.drewN nq) := below_drewN (Below.refl _ _) nq
          replace HM := hide (HM.out.later hL9)
          clear hL9 k0 ltk a3 a4 lta m0 m1 ltm
          have hx0 : (p : Int) % (W : Int) = ((p % W : Nat) : Int) := rfl
          have hy0 : wrap64 ((p : Int) / (W : Int)) = ((p / W : Nat) : Int) := by
            have h1 : (p : Int) / (W : Int) = ((p / W : Nat) : Int) := rfl
            have h2 : p / W ≤ p := Nat.div_le_self _ _
            rw [h1]
            generalize p / W = z at *
            exact IntWalk.wrap64_in _ (by omega)
          simp only [hx0, hy0]
          obtain ⟨x, hx⟩ : ∃ x, p % W = x := ⟨_, rfl⟩
          obtain ⟨y, hy⟩ : ∃ y, p / W = y := ⟨_, rfl⟩
          have hxW : x < W := by rw [← hx]; exact Nat.mod_lt _ (by omega)
          have hyH : y < H := by rw [← hy]; exact Nat.div_lt_of_lt_mul (by rw [← HN.out]; exact hpN)
          rw [hx, hy]
          clear hx0 hy0
          have e1 : wrap64 ((x : Int) + mx) = (x : Int) + mx := IntWalk.wrap64_in _ (by omega)
          have e2 : wrap64 ((y : Int) + my) = (y : Int) + my := IntWalk.wrap64_in _ (by omega)
          simp only [e1, e2]
          clear e1 e2
          have hno : ∀ (hn : ¬ (0 ≤ (x : Int) + mx ∧ (x : Int) + mx < W ∧ 0 ≤ (y : Int) + my ∧ (y : Int) + my < H)), pixOk W H f1 j (mx, my) p = true := fun hn => by
            unfold pixOk shiftP
            rw [hx, hy, if_neg hn]
          have hyes : ∀ (X Y : Nat), (x : Int) + mx = X → (y : Int) + my = Y → X < W → Y < H → pixOk W H f1 j (mx, my) p = (f1 (Y * W + X) == (j : Int)) := fun X Y hX hY h1 h2 => by
            unfold pixOk shiftP
            rw [hx, hy]
            dsimp only
            rw [hX, hY, if_pos (by omega)]
            have e : ((Y : Int) * (W : Int) + (X : Int)).toNat = Y * W + X := by
              have : ((Y : Int) * W + X) = ((Y * W + X : Nat) : Int) := by push_cast; rfl
              rw [this]
              rfl
            rw [e]
          have HNO := hide hno
          have HYES := hide hyes
          clear hno hyes
          clear hx hy
          generalize (wr.drewN nq : World) = wq at *
          obtain ⟨X, hX⟩ : ∃ X, (x : Int) + mx = X := ⟨_, rfl⟩
          obtain ⟨Y, hY⟩ : ∃ X, (y : Int) + my = X := ⟨_, rfl⟩
          have hX2 : -8 ≤ X ∧ X ≤ 16 := by omega
          have hY2 : -8 ≤ Y ∧ Y ≤ 16 := by omega
          rw [hX, hY] at HNO HYES
          simp only [hX, hY]
          have a3 := (HM.out.blk_ 2 rfl).c 3 rfl
          have a4 := (HM.out.blk_ 2 rfl).c 4 rfl
          have lta := (HM.out.blk_ 2 rfl).lt
          clear hX hY
          by_cases c1 : X < 0
          · have HA3 := hide (AllTo.next HA2.out HP.out (HNO.out (by omega)))
            clear HA2
            go_wp2_with fail
            go_roundw
            case rel => exact ⟨c + 1, hlc, by go_num, HA3, HM⟩
            case measure => simp [intOf] <;> omega
          by_cases c2 : (W : Int) ≤ X
          · have HA3 := hide (AllTo.next HA2.out HP.out (HNO.out (by omega)))
            have c2' : ¬ X < (W : Int) := by omega
            clear HA2
            go_wp2_with fail
            go_roundw
            case rel => exact ⟨c + 1, hlc, by go_num, HA3, HM⟩
            case measure => simp [intOf] <;> omega
          have c2' : X < (W : Int) := by omega
          by_cases c3 : Y < 0
          · have HA3 := hide (AllTo.next HA2.out HP.out (HNO.out (by omega)))
            clear HA2
            go_wp2_with fail
            go_roundw
            case rel => exact ⟨c + 1, hlc, by go_num, HA3, HM⟩
            case measure => simp [intOf] <;> omega
          by_cases c4 : (H : Int) ≤ Y
          · have HA3 := hide (AllTo.next HA2.out HP.out (HNO.out (by omega)))
            have c4' : ¬ Y < (H : Int) := by omega
            clear HA2
            go_wp2_with fail
            go_roundw
            case rel => exact ⟨c + 1, hlc, by go_num, HA3, HM⟩
            case measure => simp [intOf] <;> omega
          have c4' : Y < (H : Int) := by omega
          obtain ⟨Xn, rfl⟩ := Int.eq_ofNat_of_zero_le (show 0 ≤ X by omega)
          obtain ⟨Yn, rfl⟩ := Int.eq_ofNat_of_zero_le (show 0 ≤ Y by omega)
          have hXW : Xn < W := by omega
          have hYH : Yn < H := by omega
          have hqN : Yn * W + Xn < N := by rw [HN.out]; exact (pix_make hXW hYH).1
          have hok := HYES.out Xn Yn rfl rfl hXW hYH
          have hof := HOF.out wq HM.out.below
          have q0 := hof.c (Yn * W + Xn) (cellsF_at hqN)
          have ltq := hof.lt
          have b6 := (HM.out.blk_ 1 rfl).c 6 rfl
          have ltb := (HM.out.blk_ 1 rfl).lt
          obtain ⟨v, hv⟩ : ∃ v, Yn * W = v := ⟨_, rfl⟩
          have hvI : (Yn : Int) * (W : Int) = (v : Int) := by rw [← hv]; push_cast; rfl
          rw [hv] at hqN hok q0
          have hq2 : (v : Int) + Xn < N := by omega
          have hqNat : ((v : Int) + (Xn : Int)).toNat = v + Xn := by omega
          have hv0 : (0 : Int) ≤ v := by omega
          have hv6 : (v : Int) ≤ 64 := by omega
          clear hof hv HNO HYES
          by_cases hj : f1 (v + Xn) = j
          · have HA3 := hide (AllTo.next HA2.out HP.out (by rw [hok, hj]; exact beq_self_eq_true _))
            rw [hj] at q0
            clear HA2 hok
            go_wp2_with fail
            go_roundw
            case rel => exact ⟨c + 1, hlc, by go_num, HA3, HM⟩
            case measure => simp [intOf] <;> omega
          · have hfalse : r = false := by
              rw [← HR.out]
              refine all_not (x := ps) (List.mem_map_of_mem (f := fun x : Value × List Nat => x.2) (List.mem_of_getElem? HY.out)) (all_not (x := p) (List.mem_of_getElem? HP.out) ?_)
              rw [hok]
              exact beq_eq_false_iff_ne.2 hj
            subst hfalse
            clear HA2 hok
            go_wp2
            rw [← HPP.out]
            exact ⟨by trivial, HM.out.below⟩
        · have hcc : ¬ ((c : Int) < np) := by omega
          obtain rfl : c = np := by omega
          have hall : ps.all (pixOk W H f1 j (mx, my)) = true := by
            have h := HA2.out
            rw [← HNP.out] at h
            exact AllTo.all h
          have HA3 := hide (AllTo.next HA.out HY.out hall)
          clear HA HA2 hall
          go_wp2_with fail
          go_roundw
          case rel => exact ⟨k + 1, hlt, by go_num, HA3, HM⟩
          case measure => simp [intOf] <;> omega
    · have hkk : ¬ ((k : Int) < nk) := by omega
      obtain rfl : k = nk := by omega
      have hall : r = true := by
        have h := HA.out
        rw [← HNK.out] at h
        rw [← HR.out, List.all_map]
        exact AllTo.all h
      subst hall
      go_wp2
      rw [← HPP.out]
      exact ⟨by trivial, HM.out.below⟩
end Go.Proofs.Ytidbjidcjmbnlaa
end
section
namespace Go.Proofs.Ytidbjidcjmbnlaa
open Go Go.RowKit
attribute [local go_sem] Oper.semAt_some

theorem new_cellsM (w : World) (t : TypeId) (l : List Value) (j : Nat) (u : Value) (h : l[j]? = some u) : (w.alloc (.cells ⟨l⟩ t)).cell? ((⟨w.heap.size, 0, none⟩ : Addr).add j) = some u := by
  rw [show (⟨w.heap.size, 0, none⟩ : Addr).add j = ⟨w.heap.size, j, none⟩ by unfold Addr.add; split <;> simp_all]
  rw [(Blk.new w t ⟨l⟩).cell j]; simpa using h
theorem flatM_snoc : ∀ (l : List (Int × Int)) (a b : Int), (flat2 l).map (Value.int .i64) ++ [Value.int .i64 a, .int .i64 b] = (flat2 (l ++ [(a, b)])).map (Value.int .i64)
  | [], _, _ => rfl
  | x :: l, a, b => by
    have h := flatM_snoc l a b
    show Value.int .i64 x.1 :: Value.int .i64 x.2 :: ((flat2 l).map (Value.int .i64) ++ _) = _
    rw [h]
    rfl
def mvN (n : Nat) : Int × Int := (((n % 5 : Nat) : Int) - 2, ((n / 5 : Nat) : Int) - 2)
def mvL (good : Int × Int → Bool) (k : Nat) : List (Int × Int) := ((List.range k).filter fun n => good (mvN n)).map mvN
theorem mvL_yes {good : Int × Int → Bool} {k : Nat} {X Y : Int} (hm : mvN k = (X, Y)) (h : good (X, Y) = true) : mvL good (k + 1) = mvL good k ++ [(X, Y)] := by
  unfold mvL
  rw [List.range_succ, List.filter_append, List.map_append]
  simp [hm, h]
theorem mvL_no {good : Int × Int → Bool} {k : Nat} {X Y : Int} (hm : mvN k = (X, Y)) (h : good (X, Y) = false) : mvL good (k + 1) = mvL good k := by
  unfold mvL
  rw [List.range_succ, List.filter_append, List.map_append]
  simp [hm, h]
theorem mvL_len {good : Int × Int → Bool} {k : Nat} : (mvL good k).length ≤ k := by
  unfold mvL
  rw [List.length_map]
  have := List.length_filter_le (fun n => good (mvN n)) (List.range k)
  simpa using this
theorem mvL_mem {good : Int × Int → Bool} {m : Int × Int} (h : m ∈ mvL good 25) : -2 ≤ m.1 ∧ m.1 ≤ 2 ∧ -2 ≤ m.2 ∧ m.2 ≤ 2 := by
  unfold mvL at h
  obtain ⟨n, hn, rfl⟩ := List.mem_map.1 h
  have hn2 := List.mem_range.1 (List.mem_filter.1 hn).1
  unfold mvN
  dsimp only
  omega
theorem mvL_of {good : Int × Int → Bool} {m : Int × Int} (hx : -2 ≤ m.1 ∧ m.1 ≤ 2) (hy : -2 ≤ m.2 ∧ m.2 ≤ 2) (h : good m = true) : m ∈ mvL good 25 := by
  obtain ⟨x, y⟩ := m
  dsimp only at hx hy
  have e : mvN ((y + 2).toNat * 5 + (x + 2).toNat) = (x, y) := by
    unfold mvN
    have h1 : ((y + 2).toNat * 5 + (x + 2).toNat) % 5 = (x + 2).toNat := by omega
    have h2 : ((y + 2).toNat * 5 + (x + 2).toNat) / 5 = (y + 2).toNat := by omega
    rw [h1, h2]
    ext <;> dsimp only <;> omega
  exact List.mem_map.2 ⟨_, List.mem_filter.2 ⟨List.mem_range.2 (by omega), by rw [e]; exact h⟩, e⟩
theorem moveInfo : (Try.prog.info? 68).map (fun i => (i.zero, i.size, i.bytes)) = some (some (.agg #[.int .i64 0, .int .i64 0]), 2, 16) := by kernel_rfl
def mvTh (b : Nat) (v : Value) (l : List (Int × Int)) : Th := .row b 68 2 v l.length ((flat2 l).map (Value.int .i64))
def MovesPost (good : Int × Int → Bool) (w : World) (e : Ending) (w' : World) : Prop := ∃ v, e = .returned v ∧ Mem w [mvTh w.heap.size v (mvL good 25)] w'
def MvS (good : Int × Int → Bool) (w : World) (T : List Th) (n : Nat) (v : Value) (wr : World) : Prop := Mem w (mvTh w.heap.size v (mvL good n) :: T) wr
set_option maxHeartbeats 4000000 in
set_option maxRecDepth 100000 in
theorem moves_two (gx gy gs : Int) (W H N base i j : Nat) (s0 s1 : Spr) (may0 in0 may1 in1 : Nat → Bool) (w : World) (hW : 1 ≤ W) (hH : 1 ≤ H) (hW8 : W ≤ 8) (hH8 : H ≤ 8) (hN : N = W * H) (h0 : SprAt w s0 base N) (ho0 : s0.Ok W H may0 in0) (h1 : SprAt w s1 base N) (ho1 : s1.Ok W H may1 in1) (hi : i < s0.K) (hj : j < s1.K) :
    Calls Try.prog 38 #[.agg (spreadC gx gy gs W H N s0), .int .i64 (i : Nat), .agg (spreadC gx gy gs W H N s1), .int .i64 (j : Nat), .int .i64 2] w (MovesPost (fun m => followB W H (s0.kern.getD i []) s1.f j m && followB W H (s1.kern.getD j []) s0.f i (-m.1, -m.2)) w) := by
  have hf0 := fun V (hB : Below w.heap.size w V) (mx my : Int) (hx : -8 ≤ mx ∧ mx ≤ 8) (hy : -8 ≤ my ∧ my ≤ 8) => follows_any gx gy gs W H N base i j s0 s1 may0 in0 mx my V hW hH hW8 hH8 hN (h0.later hB) ho0 (blk_belowN h1.of hB h1.of.lt) hi hx hy
  have hf1 := fun V (hB : Below w.heap.size w V) (mx my : Int) (hx : -8 ≤ mx ∧ mx ≤ 8) (hy : -8 ≤ my ∧ my ≤ 8) => follows_any gx gy gs W H N base j i s1 s0 may1 in1 mx my V hW hH hW8 hH8 hN (h1.later hB) ho1 (blk_belowN h0.of hB h0.of.lt) hj hx hy
  obtain ⟨F0, hF0⟩ : ∃ F : Int × Int → Bool, (fun m => followB W H (s0.kern.getD i []) s1.f j m) = F := ⟨_, rfl⟩
  obtain ⟨F1, hF1⟩ : ∃ F : Int × Int → Bool, (fun m => followB W H (s1.kern.getD j []) s0.f i m) = F := ⟨_, rfl⟩
  have e0 : ∀ m, followB W H (s0.kern.getD i []) s1.f j m = F0 m := fun m => by rw [← hF0]
  have e1 : ∀ m, followB W H (s1.kern.getD j []) s0.f i m = F1 m := fun m => by rw [← hF1]
  simp only [e0] at hf0 ⊢
  simp only [e1] at hf1 ⊢
  clear hF0 hF1 e0 e1
  obtain ⟨good, hgood⟩ : ∃ g : Int × Int → Bool, (fun m : Int × Int => F0 m && F1 (-m.1, -m.2)) = g := ⟨_, rfl⟩
  rw [hgood]
  have hy : ∀ X Y : Int, F0 (X, Y) = true → F1 (-X, -Y) = true → good (X, Y) = true := fun X Y a b => by rw [← hgood]; dsimp only; rw [a, b]; rfl
  have hn0 : ∀ X Y : Int, F0 (X, Y) = false → good (X, Y) = false := fun X Y a => by rw [← hgood]; dsimp only; rw [a]; rfl
  have hn1 : ∀ X Y : Int, F0 (X, Y) = true → F1 (-X, -Y) = false → good (X, Y) = false := fun X Y a b => by rw [← hgood]; dsimp only; rw [a, b]; rfl
  obtain ⟨PP, hPP⟩ : ∃ PP, MovesPost good w = PP := ⟨_, rfl⟩
  rw [hPP]
  unfold spreadC at hf0 hf1 ⊢
  clear h0 ho0 h1 ho1 hi hj hgood hN hW hH hW8 hH8
  generalize s0.K = K0 at *
  generalize s0.bo = bo0 at *
  generalize s0.g = g0 at *
  generalize s1.K = K1 at *
  generalize s1.bo = bo1 at *
  generalize s1.g = g1 at *
  have HF0 := hide hf0
  have HF1 := hide hf1
  have HGY := hide hy
  have HGN := hide hn0
  have HGM := hide hn1
  have HPP := hide hPP
  clear hf0 hf1 hy hn0 hn1 hPP
  go_enter Try.func38, Try.ntmps38
  have HM := hide (Mem.start w)
  go_upto_region 1 with fail
  refine code_world fun W1 hW => ?_
  have HMn := Mem.to (Mem.allocAt (Mem.allocAt HM.out w.heap.size rfl #[.int .i64 gx, .int .i64 gy, .int .i64 gs, .int .i64 (W : Nat), .int .i64 (H : Nat), .slice (some ⟨bo0, 0, none⟩) K0 K0, .slice (some ⟨g0, 0, none⟩) N N] 102) (w.heap.size + 1) (by simp) #[.int .i64 gx, .int .i64 gy, .int .i64 gs, .int .i64 (W : Nat), .int .i64 (H : Nat), .slice (some ⟨bo1, 0, none⟩) K1 K1, .slice (some ⟨g1, 0, none⟩) N N] 102) hW
  have LW : Later w W1 := by rw [hW]; exact (((Below.refl _ _).alloc (Nat.le_refl _) _).alloc (by simp; try omega) _)
  have szW : W1.heap.size = w.heap.size + 2 := by rw [hW]; simp
  clear hW
  replace HM := hide HMn
  clear HMn LW
  clear szW
  obtain ⟨pA, hpA⟩ : ∃ q, w.heap.size = q := ⟨_, rfl⟩
  obtain ⟨pB, hpB⟩ : ∃ q, pA + 1 = q := ⟨_, rfl⟩
  rw [show w.heap.size + 1 = pB by omega, hpA] at HM
  simp only [hpA, hpB]
  clear hpB
  have HPA := hide hpA
  clear hpA
  obtain ⟨T, hT⟩ : ∃ T : List Th, [.blk pB 102 #[.int .i64 gx, .int .i64 gy, .int .i64 gs, .int .i64 (W : Nat), .int .i64 (H : Nat), .slice (some ⟨bo1, 0, none⟩) K1 K1, .slice (some ⟨g1, 0, none⟩) N N], .blk pA 102 #[.int .i64 gx, .int .i64 gy, .int .i64 gs, .int .i64 (W : Nat), .int .i64 (H : Nat), .slice (some ⟨bo0, 0, none⟩) K0 K0, .slice (some ⟨g0, 0, none⟩) N N]] = T := ⟨_, rfl⟩
  have HS := hide (show MvS good w T 0 (.slice none 0 0) W1 from by rw [← hT]; exact HM.out.nilRow w.heap.size 68 2)
  have HT := hide hT
  clear hT HM
  go_wp2_with fail
  go_loopw [11, 21] (fun v u wr => ∃ n : Nat, n ≤ 25 ∧ u = .int .i64 (n : Nat) ∧ Hid (MvS good w T n v wr)) (fun _ u _ => 25 - (intOf u).toNat)
  case atStart => exact ⟨0, Nat.zero_le _, rfl, HS⟩
  case round =>
    obtain ⟨n, hn, rfl, HS2⟩ := hrel
    clear HS
    have HM := hide (show Mem w (mvTh w.heap.size _ (mvL good n) :: _) wr from by have h := HS2.out; unfold MvS at h; rw [← HT.out] at h; exact h)
    clear HS2
    by_cases hlt : n < 25
    · have hlt2 : (n : Int) < 25 := by omega
      go_wp2_with fail
      apply wp_region_L (w0 := wr) [[], [], [], [], [], [], [], [], [], [], [], [], [], [], [], [], [15]] [true, true, true, true, true, true, true, true, true, true, true, true, true, true, true, false, false] [⟨15, none, [], []⟩, ⟨16, some 15, [15], [15]⟩] (fun ixq y => match ixq with | 15 => .pointer (y 0).1 | 16 => undef | _ => undef) (fun ixq x F wq => match ixq with | 15 => PtrF wq F wr.heap.size (x 15 0).1 68 #[.int .i64 0, .int .i64 0] | 16 => PtrF wq F wr.heap.size (x 15 0).1 68 #[.int .i64 ((n : Int) % 5 - 2), .int .i64 ((n : Int) / 5 - 2)] | _ => True) (fun a x => ((a).put (some 13) (.pointer ((x 15) 0).1)).put (none) (undef)) (by kernel_rfl) (by kernel_rfl) (fun _ => rfl) [] (by kernel_rfl)
      · intro x D hD
        have hne := hD.some
        simp only [takeOps, Act.put, List.setIfInBounds_toArray, List.set_cons_succ, List.set_cons_zero]
        repeat (go_big_quiet_step (fail))
        exact wpQuiet_nil rfl
      · exact fun _ h => absurd h (by simp)
      · refine ⟨?_, ?_, trivial⟩
        · exact obl_alloc 68 13 (.agg #[.int .i64 0, .int .i64 0]) (by kernel_rfl) (by kernel_rfl) (fun _ => rfl) (fun _ _ _ h => h)
        · refine obl_store 68 13 38 15 #[.int .i64 0, .int .i64 0] (fun x => #[.int .i64 ((n : Int) % 5 - 2), .int .i64 ((n : Int) / 5 - 2)]) (by kernel_rfl) rfl (by simp) (fun _ _ _ h => h) (fun _ => rfl) (fun _ => rfl) (fun _ => by kernel_rfl) (fun _ => rfl) (fun _ => by simp [Value.oneCell']) (fun _ => rfl) (by decide) (fun _ _ _ _ h => h)
      · refine ⟨?_, ?_, trivial⟩
        · exact owe_ptr 15 _ _ (fun x => #[.int .i64 0, .int .i64 0]) (fun _ _ _ => rfl) (by simp) (fun _ _ _ => rfl)
        · exact owe_ptr 15 _ _ (fun x => #[.int .i64 ((n : Int) % 5 - 2), .int .i64 ((n : Int) / 5 - 2)]) (fun _ _ _ => rfl) (by simp) (fun _ _ _ => rfl)
      intro xx w2 F hL hlv1
      obtain ⟨-, fct16, -⟩ := hlv1
      replace fct16 : PtrF w2 (F 16) wr.heap.size (xx 15 0).1 68 #[.int .i64 ((n : Int) % 5 - 2), .int .i64 ((n : Int) / 5 - 2)] := fct16 rfl
      obtain ⟨gm, hgs, hge, -, hbg⟩ := fct16
      rw [hgs]
      have HM1 := hide (HM.out.add (t := .blk gm 68 _) hL (show Blk _ _ _ _ from hbg) (fun k hk => by rw [List.mem_singleton.1 hk]; exact hge))
      clear HM hL hbg hge hgs
      have HM := HM1
      clear HM1
      obtain ⟨X, hX⟩ : ∃ X, (n : Int) % 5 - 2 = X := ⟨_, rfl⟩
      obtain ⟨Y, hY⟩ : ∃ X, (n : Int) / 5 - 2 = X := ⟨_, rfl⟩
      have hmv : mvN n = (X, Y) := by rw [← hX, ← hY]; rfl
      have hX2 : -2 ≤ X ∧ X ≤ 2 := by omega
      have hY2 : -2 ≤ Y ∧ Y ≤ 2 := by omega
      have e5 : ∀ q : Int, q = (n : Int) % 5 → q - 2 = X := fun q h => by rw [h]; exact hX
      simp only [hX, hY] at HM ⊢
      obtain ⟨rx, hrx⟩ : ∃ q, (n : Int) % 5 = q := ⟨_, rfl⟩
      obtain ⟨ry, hry⟩ : ∃ q, (n : Int) / 5 = q := ⟨_, rfl⟩
      simp only [hrx, hry]
      clear hX hY e5 hrx hry
      have HMV := hide hmv
      clear hmv
      have bm : Blk w2 gm 68 #[.int .i64 X, .int .i64 Y] := HM.out.get 0 rfl
      have ltm := bm.lt
      have m0 := bm.c 0 rfl
      have m1 := bm.c 1 rfl
      have bb : Blk w2 pB 102 #[.int .i64 gx, .int .i64 gy, .int .i64 gs, .int .i64 (W : Nat), .int .i64 (H : Nat), .slice (some ⟨bo1, 0, none⟩) K1 K1, .slice (some ⟨g1, 0, none⟩) N N] := HM.out.get 2 rfl
      have ltb := bb.lt
      have b0 := bb.c 0 rfl
      have b1 := bb.c 1 rfl
      have b2 := bb.c 2 rfl
      have b3 := bb.c 3 rfl
      have b4 := bb.c 4 rfl
      have b5 := bb.c 5 rfl
      have b6 := bb.c 6 rfl
      have ba : Blk w2 pA 102 #[.int .i64 gx, .int .i64 gy, .int .i64 gs, .int .i64 (W : Nat), .int .i64 (H : Nat), .slice (some ⟨bo0, 0, none⟩) K0 K0, .slice (some ⟨g0, 0, none⟩) N N] := HM.out.get 3 rfl
      have lta := ba.lt
      have a0 := ba.c 0 rfl
      have a1 := ba.c 1 rfl
      have a2 := ba.c 2 rfl
      have a3 := ba.c 3 rfl
      have a4 := ba.c 4 rfl
      have a5 := ba.c 5 rfl
      have a6 := ba.c 6 rfl
      cases hF0 : F0 (X, Y) with
      | false =>
        have hgo := hide (mvL_no HMV.out (HGN.out X Y hF0))
        have hf := HF0.out w2 HM.out.below X Y (by omega) (by omega)
        rw [hF0] at hf
        have HF := hide hf
        clear hf
        go_wp2_with fail
        refine (HF.out).mono ?_
        rintro e w3 ⟨rfl, hb⟩
        replace HM := hide (HM.out.later hb)
        clear hb bm ltm m0 m1 bb ltb b0 b1 b2 b3 b4 b5 b6 ba lta a0 a1 a2 a3 a4 a5 a6
        have HS2 := hide (show MvS good w T (n + 1) _ w3 from by unfold MvS; rw [hgo.out, ← HT.out]; exact HM.out.tail)
        clear HM
        go_wp2_with fail
        go_roundw
        case rel => exact ⟨n + 1, hlt, by go_num, HS2⟩
        case measure => simp [intOf] <;> omega
      | true =>
        have hf := HF0.out w2 HM.out.below X Y (by omega) (by omega)
        rw [hF0] at hf
        have HF := hide hf
        clear hf
        go_wp2_with fail
        refine (HF.out).mono ?_
        rintro e w3 ⟨rfl, hb⟩
        replace HM := hide (HM.out.later hb)
        clear hb bm ltm m0 m1 bb ltb b0 b1 b2 b3 b4 b5 b6 ba lta a0 a1 a2 a3 a4 a5 a6
        have bm : Blk w3 gm 68 #[.int .i64 X, .int .i64 Y] := HM.out.get 0 rfl
        have ltm := bm.lt
        have m0 := bm.c 0 rfl
        have m1 := bm.c 1 rfl
        have bb : Blk w3 pB 102 #[.int .i64 gx, .int .i64 gy, .int .i64 gs, .int .i64 (W : Nat), .int .i64 (H : Nat), .slice (some ⟨bo1, 0, none⟩) K1 K1, .slice (some ⟨g1, 0, none⟩) N N] := HM.out.get 2 rfl
        have ltb := bb.lt
        have b0 := bb.c 0 rfl
        have b1 := bb.c 1 rfl
        have b2 := bb.c 2 rfl
        have b3 := bb.c 3 rfl
        have b4 := bb.c 4 rfl
        have b5 := bb.c 5 rfl
        have b6 := bb.c 6 rfl
        have ba : Blk w3 pA 102 #[.int .i64 gx, .int .i64 gy, .int .i64 gs, .int .i64 (W : Nat), .int .i64 (H : Nat), .slice (some ⟨bo0, 0, none⟩) K0 K0, .slice (some ⟨g0, 0, none⟩) N N] := HM.out.get 3 rfl
        have lta := ba.lt
        have a0 := ba.c 0 rfl
        have a1 := ba.c 1 rfl
        have a2 := ba.c 2 rfl
        have a3 := ba.c 3 rfl
        have a4 := ba.c 4 rfl
        have a5 := ba.c 5 rfl
        have a6 := ba.c 6 rfl
        cases hF1 : F1 (-X, -Y) with
        | false =>
          have hgo := hide (mvL_no HMV.out (HGM.out X Y hF0 hF1))
          have hf := HF1.out w3 HM.out.below (-X) (-Y) (by omega) (by omega)
          rw [hF1] at hf
          have HFB := hide hf
          clear hf
          go_wp2_with fail
          refine (HFB.out).mono ?_
          rintro e w4 ⟨rfl, hb⟩
          replace HM := hide (HM.out.later hb)
          clear hb bm ltm m0 m1 bb ltb b0 b1 b2 b3 b4 b5 b6 ba lta a0 a1 a2 a3 a4 a5 a6
          have HS2 := hide (show MvS good w T (n + 1) _ w4 from by unfold MvS; rw [hgo.out, ← HT.out]; exact HM.out.tail)
          clear HM
          go_wp2_with fail
          go_roundw
          case rel => exact ⟨n + 1, hlt, by go_num, HS2⟩
          case measure => simp [intOf] <;> omega
        | true =>
          have hgo := hide (mvL_yes HMV.out (HGY.out X Y hF0 hF1))
          have hf := HF1.out w3 HM.out.below (-X) (-Y) (by omega) (by omega)
          rw [hF1] at hf
          have HFB := hide hf
          clear hf
          go_wp2_with fail
          refine (HFB.out).mono ?_
          rintro e w4 ⟨rfl, hb⟩
          replace HM := hide (HM.out.later hb)
          clear hb bm ltm m0 m1 bb ltb b0 b1 b2 b3 b4 b5 b6 ba lta a0 a1 a2 a3 a4 a5 a6
          have bm : Blk w4 gm 68 #[.int .i64 X, .int .i64 Y] := HM.out.get 0 rfl
          have ltm := bm.lt
          have m0 := bm.c 0 rfl
          have m1 := bm.c 1 rfl
          obtain ⟨i0, hi0, hz0, hz1, hz2⟩ := info_parts moveInfo
          have Hi := hide hi0
          have Hz0 := hide hz0
          have Hz1 := hide hz1
          have Hz2 := hide hz2
          clear hi0 hz0 hz1 hz2
          have How := hide (HM.out.row_ 1 rfl)
          have hlen := mvL_len (good := good) (k := n)
          go_wp2_with (at_builtin; refine wpList_append_own_at _ rfl (.tmp 59) (.tmp 61) _ rfl w.heap.size 68 i0 _ 2 16 Try.underlying66 Hi.out Hz0.out Hz1.out Hz2.out rfl (by decide) _ _ _ rfl (How.out.alloc _) ⟨w4.heap.size, 0, none⟩ 1 1 [.int .i64 X, .int .i64 Y] rfl rfl ?c1 ?c2 ?c3 ?c4 ?c5 ?_)
          case c1 => exact new_cellsM w4 _ [.int .i64 X, .int .i64 Y]
          case c2 => intro u hu; simp at hu; rcases hu with rfl | rfl <;> rfl
          case c3 => unfold maxLen; omega
          case c4 => omega
          case c5 => have := HM.out.size; simp; omega
          intro v' w6 hownA hgrA _ hatA
          have hM6 := (HM.out.grow 1 rfl _ hgrA hownA hatA).tail
          have e1 : (flat2 (mvL good n)).map (Value.int .i64) ++ [.int .i64 X, .int .i64 Y] = (flat2 (mvL good (n + 1))).map (Value.int .i64) := by rw [hgo.out]; exact flatM_snoc _ _ _
          have e2 : (mvL good n).length + 1 = (mvL good (n + 1)).length := by rw [hgo.out, List.length_append]; rfl
          have HS2 := hide (show MvS good w T (n + 1) v' w6 from by
            unfold MvS mvTh
            rw [← e1, ← e2, ← HT.out]
            exact hM6)
          clear HM How hownA hgrA hatA hM6 e1 e2
          go_wp2_with fail
          go_roundw
          case rel => exact ⟨n + 1, hlt, by go_num, HS2⟩
          case measure => simp [intOf] <;> omega
    · obtain rfl : n = 25 := by omega
      go_wp2
      rw [← HPP.out]
      exact ⟨_, rfl, HM.out.sub (List.singleton_sublist.2 List.mem_cons_self)⟩
end Go.Proofs.Ytidbjidcjmbnlaa
end
section
namespace Go.Proofs.Ytidbjidcjmbnlaa
open Go Go.RowKit
attribute [local go_sem] Oper.semAt_some

theorem perm_add5 {α : Type} (fl bk trk mk mp : α) (X : List α) : (fl :: bk :: trk :: mk :: mp :: X).Perm (bk :: mp :: fl :: trk :: mk :: X) :=
  ((List.perm_middle (l₁ := [fl, bk, trk, mk]) (a := mp) (l₂ := X)).trans (.cons mp (List.Perm.swap bk fl _))).trans (List.Perm.swap bk mp _)
theorem sprCells_app (gx gy gs : Int) (W H : Nat) (S : List Spr) (s : Spr) : sprCells gx gy gs W H (S ++ [s]) = sprCells gx gy gs W H S ++ [.int .i64 gx, .int .i64 gy, .int .i64 gs, .int .i64 (W : Nat), .int .i64 (H : Nat), .slice (some ⟨s.bo, 0, none⟩) s.K s.K, .slice (some ⟨s.g, 0, none⟩) (W * H) (W * H)] := by
  unfold sprCells
  rw [List.flatMap_append]
  rfl
/-- What the first map leaves. -/
def Add0Post (B : Bk) (time : Int) (base : Nat) (may inn : Nat → Bool) (w0 : World) (R : List Th) (e : Ending) (w' : World) : Prop :=
  e = .returned (.tuple #[.slice none 0 0, .int .i64 0]) ∧ ∃ mv tv T of c s, s.Ok B.W B.H may inn ∧ FirstT T of s.K ∧ c ≤ s.K ∧ Mem w0 (({ B with last := time, mv := mv, tv := tv, T := T, of := of, c := c, S := [s] } : Bk).ts base (s.ts base (B.W * B.H) ++ R)) w'
set_option maxHeartbeats 4000000 in
set_option maxRecDepth 100000 in
theorem Add_zero (B : Bk) (base nn cc : Nat) (A : Option Addr) (time : Int) (l : List (Int × Int)) (w0 w : World) (R : List Th) (hb0 : base ≤ w0.heap.size) (hS : B.S = []) (hT : B.T = []) (hof : ∀ x, B.of x = none) (hc : B.c = 0)
    (hW : 1 ≤ B.W) (hH : 1 ≤ B.H) (hW8 : B.W ≤ 8) (hH8 : B.H ≤ 8) (hlev : ∀ p, inB l B.lev p = true → mayB l B.lev p = true) (hv : 1 ≤ B.lev ∧ B.lev ≤ 1073741824) (ht : 0 ≤ time ∧ time ≤ 4294967296) (hlast : B.last < time)
    (hn : l.length = nn) (hnN : nn = B.W * B.H) (he : fieldE (gridE B.gx B.gy B.gs B.W B.H) nn B.W B.H l 1073741824 = 0) (hl : .row base 60 2 (.slice A nn cc) nn ((flat2 l).map (Value.int .i64)) ∈ R)
    (hM : Mem w0 (B.ts base R) w) :
    Calls Try.prog 13 #[.pointer (some ⟨B.p, 0, none⟩), .int .i64 time, .agg #[.int .i64 B.gx, .int .i64 B.gy, .int .i64 B.gs, .int .i64 (B.W : Nat), .int .i64 (B.H : Nat), .slice A nn cc]] w (Add0Post B time base (mayB l B.lev) (inB l B.lev) w0 R) := by
  obtain ⟨PP, hPP⟩ : ∃ PP, Add0Post B time base (mayB l B.lev) (inB l B.lev) w0 R = PP := ⟨_, rfl⟩
  rw [hPP]
  obtain ⟨gx, gy, gs, W, H, lev, rch, last, p, mb, c, mv, tv, kz, S, T, of⟩ := B
  dsimp only at hS hT hof hc hW hH hW8 hH8 hlev hv hlast hnN he hPP ⊢
  subst hS
  have hN1 : 1 ≤ nn := by rw [hnN]; exact Nat.mul_pos hW hH
  have hN2 : nn ≤ 64 := by rw [hnN]; exact Nat.mul_le_mul hW8 hH8
  unfold Bk.ts Bk.cells at hM
  dsimp only at hM
  obtain ⟨Am, cm, rfl⟩ := own_shape2 (hM.row_ 3 rfl)
  have hlr := hM.all (.row base 60 2 (.slice A nn cc) nn ((flat2 l).map (Value.int .i64))) (by simp [hl])
  obtain ⟨gl, curl, rfl, -, -, -, -, -⟩ := row_blk (show w.ownsRow base 60 2 (.slice A nn cc) nn ((flat2 l).map (Value.int .i64)) from hlr) (by omega)
  clear hlr
  have hcf := fun V (hi : Ints V V.heap.size .i64 (some ⟨gl, 0, none⟩) (flat2 l)) => CheckField_any gx gy gs W H (some ⟨gl, 0, none⟩) nn cc l V hn (by omega) hi
  have hsp := fun V (hi : Ints V V.heap.size .i64 (some ⟨gl, 0, none⟩) (flat2 l)) => spread_any gx gy gs W H nn cc (some ⟨gl, 0, none⟩) lev l V hW hH hW8 hH8 hlev hn hnN hi
  rw [he] at hcf
  unfold fieldV at hcf
  obtain ⟨t0, t1⟩ := ht
  have t0' : ¬ time < 0 := by omega
  have t1' : ¬ 4294967296 < time := by omega
  have t2' : ¬ time ≤ last := by omega
  simp only [List.length_nil] at hM
  have HM := hide hM
  have HCF := hide hcf
  have HSP := hide hsp
  have HPP := hide hPP
  have HL := hide hl
  have HNN := hide hnN
  have HOF := hide hof
  clear hM hcf hsp hPP hl hnN hof
  clear hn he hlev
  go_enter Try.func13, Try.ntmps13
  go_wp2_with fail
  refine at_world fun W1 hW => ?_
  have HMn := Mem.to (Mem.allocAt HM.out w.heap.size rfl #[.int .i64 gx, .int .i64 gy, .int .i64 gs, .int .i64 (W : Nat), .int .i64 (H : Nat), .slice (some ⟨gl, 0, none⟩) nn cc] 41) hW
  have LW : Later w W1 := by rw [hW]; exact ((Below.refl _ _).alloc (Nat.le_refl _) _)
  have szW : W1.heap.size = w.heap.size + 1 := by rw [hW]; simp
  clear hW
  replace HM := hide HMn
  clear HMn LW
  clear szW
  obtain ⟨fl, hfl⟩ : ∃ q, w.heap.size = q := ⟨_, rfl⟩
  rw [hfl] at HM
  simp only [hfl]
  clear hfl
  refine (valid_any p mb W1 ((HM.out.blk_ 1 rfl).c 10 rfl) (HM.out.blk_ 1 rfl).lt).mono ?_
  rintro e w2 ⟨rfl, hb⟩
  replace HM := hide (HM.out.later hb)
  clear hb
  have bf : Blk w2 fl 41 #[.int .i64 gx, .int .i64 gy, .int .i64 gs, .int .i64 (W : Nat), .int .i64 (H : Nat), .slice (some ⟨gl, 0, none⟩) nn cc] := HM.out.get 0 rfl
  have ltf := bf.lt
  have f0 := bf.c 0 rfl
  have f1 := bf.c 1 rfl
  have f2 := bf.c 2 rfl
  have f3 := bf.c 3 rfl
  have f4 := bf.c 4 rfl
  have f5 := bf.c 5 rfl
  go_wp2_with fail
  have hI2 : Ints w2 w2.heap.size .i64 (some ⟨gl, 0, none⟩) (flat2 l) := Ints.own (show w2.ownsRow base 60 2 (.slice (some ⟨gl, 0, none⟩) nn cc) nn ((flat2 l).map (Value.int .i64)) from HM.out.all (.row base 60 2 (.slice (some ⟨gl, 0, none⟩) nn cc) nn ((flat2 l).map (Value.int .i64))) (by simp [HL.out])) rfl (Nat.le_refl _)
  refine (HCF.out _ hI2).mono ?_
  rintro e w3 ⟨rfl, hb⟩
  replace HM := hide (HM.out.later hb)
  clear hb bf ltf f0 f1 f2 f3 f4 f5
  clear hI2
  unfold bookC at HM
  have bf : Blk w3 fl 41 #[.int .i64 gx, .int .i64 gy, .int .i64 gs, .int .i64 (W : Nat), .int .i64 (H : Nat), .slice (some ⟨gl, 0, none⟩) nn cc] := HM.out.get 0 rfl
  have ltf := bf.lt
  have f0 := bf.c 0 rfl
  have f1 := bf.c 1 rfl
  have f2 := bf.c 2 rfl
  have f3 := bf.c 3 rfl
  have f4 := bf.c 4 rfl
  have f5 := bf.c 5 rfl
  have Hk := hide (HM.out.blk_ 1 rfl)
  have b0 : w3.cell? ⟨p, 0, none⟩ = some (.int .i64 gx) := Hk.out.c 0 rfl
  have b1 : w3.cell? ⟨p, 1, none⟩ = some (.int .i64 gy) := Hk.out.c 1 rfl
  have b2 : w3.cell? ⟨p, 2, none⟩ = some (.int .i64 gs) := Hk.out.c 2 rfl
  have b3 : w3.cell? ⟨p, 3, none⟩ = some (.int .i64 (W : Nat)) := Hk.out.c 3 rfl
  have b4 : w3.cell? ⟨p, 4, none⟩ = some (.int .i64 (H : Nat)) := Hk.out.c 4 rfl
  have b8 : w3.cell? ⟨p, 8, none⟩ = some (.slice Am 0 cm) := Hk.out.c 8 rfl
  have ltp := Hk.out.lt
  go_wp2_with fail
  apply wp_region_L (w0 := w3) [[], [], [], [], [], [], [], []] [true, true, true, true, true, true, true, true] [] (fun ixq y => match ixq with  | _ => undef) (fun ixq x F wq => match ixq with  | _ => True) (fun a x => a) (by kernel_rfl) (by kernel_rfl) (fun _ => rfl) [30] (by kernel_rfl)
  · intro x D hD
    have hne := hD.some
    have k0 := liftB hD f0 (by first | assumption | omega)
    have k1 := liftB hD f1 (by first | assumption | omega)
    have k2 := liftB hD f2 (by first | assumption | omega)
    have k3 := liftB hD f3 (by first | assumption | omega)
    have k4 := liftB hD f4 (by first | assumption | omega)
    have p0 := liftB hD b0 (by first | assumption | omega)
    have p1 := liftB hD b1 (by first | assumption | omega)
    have p2 := liftB hD b2 (by first | assumption | omega)
    have p3 := liftB hD b3 (by first | assumption | omega)
    have p4 := liftB hD b4 (by first | assumption | omega)
    simp only [takeOps, Act.put, List.setIfInBounds_toArray, List.set_cons_succ, List.set_cons_zero]
    repeat (go_big_quiet_step (fail))
    exact wpQuiet_nil rfl
  · intro d hd x x'
    simp only [List.mem_cons, List.not_mem_nil, or_false] at hd
    rcases hd with rfl
    all_goals rfl
  · exact trivial
  · exact trivial
  intro xy w4 F hL hlv1
  clear hlv1
  replace HM := hide (HM.out.later hL)
  clear hL bf ltf f0 f1 f2 f3 f4 f5
  clear b0 b1 b2 b3 b4 b8 ltp Hk
  have bf : Blk w4 fl 41 #[.int .i64 gx, .int .i64 gy, .int .i64 gs, .int .i64 (W : Nat), .int .i64 (H : Nat), .slice (some ⟨gl, 0, none⟩) nn cc] := HM.out.get 0 rfl
  have ltf := bf.lt
  have f0 := bf.c 0 rfl
  have f1 := bf.c 1 rfl
  have f2 := bf.c 2 rfl
  have f3 := bf.c 3 rfl
  have f4 := bf.c 4 rfl
  have f5 := bf.c 5 rfl
  have Hk := hide (HM.out.blk_ 1 rfl)
  have b5 : w4.cell? ⟨p, 5, none⟩ = some (.int .i64 lev) := Hk.out.c 5 rfl
  have b7 : w4.cell? ⟨p, 7, none⟩ = some (.int .i64 last) := Hk.out.c 7 rfl
  have b8 : w4.cell? ⟨p, 8, none⟩ = some (.slice Am 0 cm) := Hk.out.c 8 rfl
  have ltp := Hk.out.lt
  have Htr := hide (HM.out.row_ 4 rfl)
  have hnp : (Value.slice Am 0 cm).ownBlock ≠ some p := fun e => HM.out.apart 1 4 rfl rfl (by decide) p (List.mem_singleton.2 rfl) (optL_iff.2 e)
  have hnf : (Value.slice Am 0 cm).ownBlock ≠ some fl := fun e => HM.out.apart 0 4 rfl rfl (by decide) fl (List.mem_singleton.2 rfl) (optL_iff.2 e)
  have HneT := hide hnp
  have hlr4 : w4.ownsRow base 60 2 (.slice (some ⟨gl, 0, none⟩) nn cc) nn ((flat2 l).map (Value.int .i64)) := HM.out.all (.row base 60 2 (.slice (some ⟨gl, 0, none⟩) nn cc) nn ((flat2 l).map (Value.int .i64))) (by simp [HL.out])
  have hngl : (Value.slice Am 0 cm).ownBlock ≠ some gl := fun e => (HM.out.perm (List.perm_middle (l₁ := [_, _, _, _]))).head_apart (t := .row base 60 2 (.slice (some ⟨gl, 0, none⟩) nn cc) nn ((flat2 l).map (Value.int .i64))) (by simp [HL.out]) gl (optL_iff.2 e) (by show gl ∈ optL _; simp [optL, Value.ownBlock])
  have hpgl : p ≠ gl := fun e => (HM.out.perm (List.perm_middle (l₁ := [_]))).head_apart (t := .row base 60 2 (.slice (some ⟨gl, 0, none⟩) nn cc) nn ((flat2 l).map (Value.int .i64))) (by simp [HL.out]) p (List.mem_singleton.2 rfl) (by show p ∈ optL _; rw [e]; simp [optL, Value.ownBlock])
  have hbw : base ≤ w4.heap.size := Nat.le_trans hb0 HM.out.size
  obtain ⟨i0, hi0, hy0, hy1, hy2⟩ := info_parts spreadInfo
  have Hi := hide hi0
  have Hz0 := hide hy0
  have Hz1 := hide hy1
  have Hz2 := hide hy2
  have HLR := hide hlr4
  clear hi0 hy0 hy1 hy2 hlr4
  go_wp2_with fail
  refine wp_region_cut 18 (by kernel_rfl) (by simp only [List.take_succ_cons, List.take_zero]; exact rfl) (by simp only [List.drop_succ_cons, List.drop_zero]; exact rfl) (by kernel_rfl) ?_
  apply any_region_F (w0 := w4) [[], [], [], [2], [2, 3], [2, 3, 4], [], [], [7], [7, 8], [7, 8, 9], [6, 7, 8, 9, 10], [6, 7, 8, 9, 10, 11], [2, 3, 4, 5, 6, 7, 8, 9, 10, 11, 12], [], [0, 2, 3, 4, 5, 6, 7, 8, 9, 10, 11, 12, 13], [0, 2, 3, 4, 5, 6, 7, 8, 9, 10, 11, 12, 13, 15], [0, 2, 3, 4, 5, 6, 7, 8, 9, 10, 11, 12, 13, 15, 16]] [true, false, true, true, true, true, true, true, true, true, true, false, false, false, false, true, true, false] [false, true, false, false, false, false, false, false, false, false, false, false, false, false, true, false, false, false] [⟨11, none, [], []⟩, ⟨12, none, [], [11]⟩, ⟨13, none, [12], [11]⟩, ⟨17, none, [], [13]⟩] (fillQ 13 (.slice Am 0 cm) 17 p) [17] (fun ixq y => match ixq with | 11 => .agg #[.int .i64 gx, .int .i64 gy, .int .i64 gs, .int .i64 (W : Nat), .int .i64 (H : Nat), .slice (y 0).1 (y 0).2 (y 0).2, .slice (y 1).1 nn nn] | 12 => .slice (y 0).1 1 1 | 13 => .slice (y 0).1 (0 + 1) (y 0).2 | 17 => undef | _ => undef) (fun ixq x F wq => match ixq with | 11 => SprF 11 W H nn w4.heap.size base (mayB l lev) (inB l lev) x F wq | 12 => OwnF wq F w4.heap.size 102 7 (.slice (x 12 0).1 1 1) 1 #[.int .i64 gx, .int .i64 gy, .int .i64 gs, .int .i64 (W : Nat), .int .i64 (H : Nat), .slice (x 11 0).1 (x 11 0).2 (x 11 0).2, .slice (x 11 1).1 nn nn].toList | 13 => OwnF wq F base 102 7 (.slice (x 13 0).1 (0 + 1) (x 13 0).2) (0 + 1) ((sprCells gx gy gs W H []) ++ (#[.int .i64 gx, .int .i64 gy, .int .i64 gs, .int .i64 (W : Nat), .int .i64 (H : Nat), .slice (x 11 0).1 (x 11 0).2 (x 11 0).2, .slice (x 11 1).1 nn nn] : Array Value).toList) ∧ FreshOr w4.heap.size (.slice Am 0 cm) (.slice (x 13 0).1 (0 + 1) (x 13 0).2) | 17 => F p ∧ Blk wq p 100 #[.int .i64 gx, .int .i64 gy, .int .i64 gs, .int .i64 (W : Nat), .int .i64 (H : Nat), .int .i64 lev, .int .i64 rch, .int .i64 last, .slice (x 13 0).1 (0 + 1) (x 13 0).2, tv, .map (some mb), .int .i64 (kz 0), .int .i64 (kz 1), .int .i64 (kz 2), .int .i64 (kz 3), .int .i64 (kz 4), .int .i64 (kz 5), .int .i64 (kz 6), .int .i64 (kz 7)] | _ => True) (fun a x => ((((a).put (some 62) (.agg #[.int .i64 gx, .int .i64 gy, .int .i64 gs, .int .i64 (W : Nat), .int .i64 (H : Nat), .slice ((x 11) 0).1 ((x 11) 0).2 ((x 11) 0).2, .slice ((x 11) 1).1 nn nn])).put (some 63) (.slice ((x 12) 0).1 1 1)).put (some 64) (.slice ((x 13) 0).1 (0 + 1) ((x 13) 0).2)).put (none) (undef)) (by kernel_rfl) (by kernel_rfl) (fun _ => rfl) [54, 59, 66] (by kernel_rfl) (fillQ_lt (fun g hg => (Htr.out.lt g hg).2) (by omega)) (fillQ_ne HneT.out)
  · intro x D hD
    have hne := hD.some
    have k8 := liftS hD b8 (earlyQ (by first | assumption | omega) hnp)
    have k5 := liftS hD b5 (earlyQ (by first | assumption | omega) hnp)
    have a0 := liftS hD f0 (earlyQ (by first | assumption | omega) hnf)
    have a1 := liftS hD f1 (earlyQ (by first | assumption | omega) hnf)
    have a2 := liftS hD f2 (earlyQ (by first | assumption | omega) hnf)
    have a3 := liftS hD f3 (earlyQ (by first | assumption | omega) hnf)
    have a4 := liftS hD f4 (earlyQ (by first | assumption | omega) hnf)
    have a5 := liftS hD f5 (earlyQ (by first | assumption | omega) hnf)
    simp only [takeOps, Act.put, List.setIfInBounds_toArray, List.set_cons_succ, List.set_cons_zero]
    repeat (go_big_quiet_step (fail))
    exact wpQuiet_nil rfl
  · intro x D hD
    have hne := hD.some
    simp only [takeOps, Act.put, List.setIfInBounds_toArray, List.set_cons_succ, List.set_cons_zero]
    repeat (go_big_quiet_step (fail))
    exact wpQuiet_nil rfl
  · intro d hd x x'
    simp only [List.mem_cons, List.not_mem_nil, or_false] at hd
    rcases hd with rfl | rfl | rfl
    all_goals rfl
  · refine ⟨?_, ?_, ?_, ?_, trivial⟩
    · refine obl_callF rfl (fun _ => by kernel_rfl) 30 (fun x => #[.agg #[.int .i64 gx, .int .i64 gy, .int .i64 gs, .int .i64 (W : Nat), .int .i64 (H : Nat), .slice (some ⟨gl, 0, none⟩) nn cc], .int .i64 lev]) (fun x w => by kernel_rfl) ?_
      intro x w F hL hN
      have hown := own_keptQ HLR.out hL (fun g hg => by
        have e : g = gl := by
          have := hg.symm.trans (show (Value.slice (some ⟨gl, 0, none⟩) nn cc).ownBlock = some gl from rfl)
          exact Option.some.inj this
        subst e
        exact ⟨(HLR.out.lt g hg).2, freeQ hngl hpgl⟩)
      refine (HSP.out w (Ints.own hown rfl (Nat.le_refl _))).mono ?_
      rintro e w' ⟨s, rfl, hMs, hok⟩
      have hlow := hMs.lowAll (b := base) (Nat.le_trans hbw hL.size)
      rw [Spr.low] at hlow
      exact ⟨fun k => if k = 0 then (some ⟨s.bo, 0, none⟩, s.K) else (some ⟨s.g, 0, none⟩, 0), rfl, hMs.below, s, rfl, rfl, rfl, hok, fun t ht => hlow.all t ht, hlow.nodup, fun k hk => ⟨Nat.le_trans hL.size (hlow.low k hk), hlow.low k hk, hlow.lt k hk⟩⟩
    · exact obl_new rfl (fun _ => by kernel_rfl) 102 (fun x => #[.int .i64 gx, .int .i64 gy, .int .i64 gs, .int .i64 (W : Nat), .int .i64 (H : Nat), .slice (x 11 0).1 (x 11 0).2 (x 11 0).2, .slice (x 11 1).1 nn nn]) gP (fun x w => by kernel_rfl) (fun x w hle => own_new hle rfl (by unfold maxLen; omega))
    · refine obl_pushX 97 56 63 (by kernel_rfl) base 102 i0 _ 7 88 Try.underlying97 Hi.out Hz0.out Hz1.out Hz2.out rfl (by decide) (.slice Am 0 cm) 0 1 ((sprCells gx gy gs W H [])) (fun x => (#[.int .i64 gx, .int .i64 gy, .int .i64 gs, .int .i64 (W : Nat), .int .i64 (H : Nat), .slice (x 11 0).1 (x 11 0).2 (x 11 0).2, .slice (x 11 1).1 nn nn] : Array Value).toList) (fun x => by first | rfl | (simp; done) | (simp; omega)) (fun x => by simp [Value.oneCell']) (by unfold maxLen; omega) (by omega) (by first | assumption | omega) (fun x w F hk hn => ?_) (fun _ => rfl) (fun _ _ _ _ h1 h2 => ⟨h1, h2⟩)
      have hj : OwnF w (F 12) w4.heap.size 102 7 (.slice (x 12 0).1 1 1) 1 (#[.int .i64 gx, .int .i64 gy, .int .i64 gs, .int .i64 (W : Nat), .int .i64 (H : Nat), .slice (x 11 0).1 (x 11 0).2 (x 11 0).2, .slice (x 11 1).1 nn nn] : Array Value).toList := hn 12 (by simp)
      obtain ⟨ad, hA, hc⟩ := news_own hj (by decide)
      exact ⟨ad, 1, rfl, row_thenQ Htr.out HneT.out hk, wrQ_row, (show Value.slice (x 12 0).1 1 1 = _ by rw [hA]), hc⟩
    · exact obl_setv 97 100 67 64 p 8 _ (fun x => .slice (x 13 0).1 (0 + 1) (x 13 0).2) (fun x => #[.int .i64 gx, .int .i64 gy, .int .i64 gs, .int .i64 (W : Nat), .int .i64 (H : Nat), .int .i64 lev, .int .i64 rch, .int .i64 last, .slice (x 13 0).1 (0 + 1) (x 13 0).2, tv, .map (some mb), .int .i64 (kz 0), .int .i64 (kz 1), .int .i64 (kz 2), .int .i64 (kz 3), .int .i64 (kz 4), .int .i64 (kz 5), .int .i64 (kz 6), .int .i64 (kz 7)]) (by kernel_rfl) (fun _ => rfl) (fun _ => rfl) (fun _ => rfl) Hk.out (ebQ_set HneT.out) wrQ_set (by kernel_rfl) (by first | assumption | (simp; done)) (fun _ => rfl) (fun _ => rfl) (fun _ _ _ _ h1 h2 => ⟨h1, h2⟩)
  · refine ⟨?_, ?_, ?_, ?_, trivial⟩
    · exact ⟨SprF.owe.1, fun x x' F w hx h => SprF.owe.2 x x' F w (hx 11 (by simp)) h⟩
    · refine ⟨fun x F wq wq' h hs hk => ?_, fun x x' F wq hx h => ?_⟩
      · have h2 : OwnF wq F w4.heap.size 102 7 (.slice (x 12 0).1 1 1) 1 #[.int .i64 gx, .int .i64 gy, .int .i64 gs, .int .i64 (W : Nat), .int .i64 (H : Nat), .slice (x 11 0).1 (x 11 0).2 (x 11 0).2, .slice (x 11 1).1 nn nn].toList := h
        exact h2.stab hk
      · have h2 : OwnF wq F w4.heap.size 102 7 (.slice (x 12 0).1 1 1) 1 #[.int .i64 gx, .int .i64 gy, .int .i64 gs, .int .i64 (W : Nat), .int .i64 (H : Nat), .slice (x 11 0).1 (x 11 0).2 (x 11 0).2, .slice (x 11 1).1 nn nn].toList := h
        rw [hx 12 (by simp), hx 11 (by simp)] at h2
        exact h2
    · exact owe_pushX 13 _ base (.slice Am 0 cm) 102 7 (0 + 1) (fun x => ((sprCells gx gy gs W H []) ++ (#[.int .i64 gx, .int .i64 gy, .int .i64 gs, .int .i64 (W : Nat), .int .i64 (H : Nat), .slice (x 11 0).1 (x 11 0).2 (x 11 0).2, .slice (x 11 1).1 nn nn] : Array Value).toList)) rfl (fun _ _ _ => rfl) (fun x x' hx => by simp only [hx 11 (by simp)])
    · exact owe_fill p 100 (fun x => #[.int .i64 gx, .int .i64 gy, .int .i64 gs, .int .i64 (W : Nat), .int .i64 (H : Nat), .int .i64 lev, .int .i64 rch, .int .i64 last, .slice (x 13 0).1 (0 + 1) (x 13 0).2, tv, .map (some mb), .int .i64 (kz 0), .int .i64 (kz 1), .int .i64 (kz 2), .int .i64 (kz 3), .int .i64 (kz 4), .int .i64 (kz 5), .int .i64 (kz 6), .int .i64 (kz 7)]) (fun _ _ _ => rfl) (fun x x' hx => by simp only [hx 13 (by simp)])
  intro xx w5 F hK hlv2 hap2
  have apart11_13 : ∀ k, F 11 k → ¬ F 13 k := hap2 _ (List.mem_iff_getElem?.2 ⟨0, rfl⟩) _ (List.mem_iff_getElem?.2 ⟨2, rfl⟩) (by decide) (by intro t ht; simp only [List.mem_cons, List.not_mem_nil, or_false] at ht; rcases ht with rfl | rfl | rfl | rfl <;> simp) (by intro t ht; simp only [List.mem_cons, List.not_mem_nil, or_false] at ht; rcases ht with rfl | rfl | rfl | rfl <;> simp)
  clear hap2
  obtain ⟨fct11, -, fct13, fct17, -⟩ := hlv2
  replace fct11 : SprF 11 W H nn w4.heap.size base (mayB l lev) (inB l lev) xx (F 11) w5 := fct11 rfl
  replace fct13 : OwnF w5 (F 13) base 102 7 (.slice (xx 13 0).1 (0 + 1) (xx 13 0).2) (0 + 1) ((sprCells gx gy gs W H []) ++ (#[.int .i64 gx, .int .i64 gy, .int .i64 gs, .int .i64 (W : Nat), .int .i64 (H : Nat), .slice (xx 11 0).1 (xx 11 0).2 (xx 11 0).2, .slice (xx 11 1).1 nn nn] : Array Value).toList) ∧ FreshOr w4.heap.size (.slice Am 0 cm) (.slice (xx 13 0).1 (0 + 1) (xx 13 0).2) := fct13 rfl
  replace fct17 : (F 17) p ∧ Blk w5 p 100 #[.int .i64 gx, .int .i64 gy, .int .i64 gs, .int .i64 (W : Nat), .int .i64 (H : Nat), .int .i64 lev, .int .i64 rch, .int .i64 last, .slice (xx 13 0).1 (0 + 1) (xx 13 0).2, tv, .map (some mb), .int .i64 (kz 0), .int .i64 (kz 1), .int .i64 (kz 2), .int .i64 (kz 3), .int .i64 (kz 4), .int .i64 (kz 5), .int .i64 (kz 6), .int .i64 (kz 7)] := fct17 rfl
  refine ⟨rfl, ?_⟩
  obtain ⟨s, e0, e1, e2, hok, hMF⟩ := fct11
  obtain ⟨hot, hfr⟩ := fct13
  have hbk := fct17.2
  rw [e0, e1, e2] at hot
  have hnl : ∀ k ∈ fps (s.ts base nn), w4.heap.size ≤ k ∧ k ∉ optL (.slice (xx 13 0).1 (0 + 1) (xx 13 0).2) := fun k hk => ⟨(hMF.2.2 k hk).1, fun h => apart11_13 k (hMF.2.2 k hk).2 (hot.2 k (optL_iff.1 h))⟩
  have hot1 := hot.1
  simp only [e0, e1, e2]
  generalize (xx 13 0).1 = A7 at *
  generalize (xx 13 0).2 = c7 at *
  have hMp := HM.out.perm (perm_add5 _ _ _ _ _ _)
  have hM5 := Mem.pushed (nw := s.ts base nn) hMp (t0' := .blk p 100 _) rfl rfl hK hot1 hfr hbk hMF.1 hMF.2.1 hnl
  simp only [List.append_eq, List.nil_append, List.cons_append] at hM5
  have hM6 := hM5.perm (perm_add _ _ _ _ _ _ _ _ _ _)
  replace HM := hide hM6
  have HOK := hide hok
  clear hM5 hM6 hMp hK hot hot1 hfr hbk hMF hnl apart11_13 fct17 e0 e1 e2 hok Hk Htr HneT hnp hnf hngl hpgl HLR b5 b7 b8 ltp f0 f1 f2 f3 f4 f5 ltf bf Hi Hz0 Hz1 Hz2
  have b7 : w5.cell? ⟨p, 7, none⟩ = some (.int .i64 last) := (HM.out.blk_ 0 rfl).c 7 rfl
  have fb7 := (HM.out.blk_ 0 rfl).frozen 7
  have ltp := (HM.out.blk_ 0 rfl).lt
  go_upto_region 16 with fail
  refine code_world fun w6 hw6 => ?_
  have hM6 := Mem.to (HM.out.set_ 0 rfl 7 (.int .i64 time) (cs' := bookC gx gy gs W H lev rch time (.slice A7 1 c7) tv mb kz) rfl) hw6
  simp only [List.set_cons_zero] at hM6
  have hsc : sprCells gx gy gs W H [s] = sprCells gx gy gs W H [] ++ [.int .i64 gx, .int .i64 gy, .int .i64 gs, .int .i64 (W : Nat), .int .i64 (H : Nat), .slice (some ⟨s.bo, 0, none⟩) s.K s.K, .slice (some ⟨s.g, 0, none⟩) nn nn] := by rw [← List.nil_append [s], sprCells_app, HNN.out]
  have hM7 : Mem w0 ((⟨gx, gy, gs, W, H, lev, rch, time, p, mb, c, .slice A7 1 c7, tv, kz, [s], T, of⟩ : Bk).ts base (s.ts base nn ++ (.blk fl 41 #[.int .i64 gx, .int .i64 gy, .int .i64 gs, .int .i64 (W : Nat), .int .i64 (H : Nat), .slice (some ⟨gl, 0, none⟩) nn cc] :: R))) w6 := by
    unfold Bk.ts Bk.cells
    dsimp only
    rw [hsc]
    exact hM6
  have hKN : s.K ≤ 64 := by have := HOK.out.le; rw [← HNN.out] at this; omega
  have hbz := fun V (h : Mem w0 ((⟨gx, gy, gs, W, H, lev, rch, time, p, mb, c, .slice A7 1 c7, tv, kz, [s], T, of⟩ : Bk).ts base (s.ts base nn ++ (.blk fl 41 #[.int .i64 gx, .int .i64 gy, .int .i64 gs, .int .i64 (W : Nat), .int .i64 (H : Nat), .slice (some ⟨gl, 0, none⟩) nn cc] :: R))) V) => births_zero ⟨gx, gy, gs, W, H, lev, rch, time, p, mb, c, .slice A7 1 c7, tv, kz, [s], T, of⟩ s base w0 V (s.ts base nn ++ (.blk fl 41 #[.int .i64 gx, .int .i64 gy, .int .i64 gs, .int .i64 (W : Nat), .int .i64 (H : Nat), .slice (some ⟨gl, 0, none⟩) nn cc] :: R)) hb0 rfl hKN hT HOF.out hc h
  dsimp only at hbz
  have HBZ := hide hbz
  have HM7 := hide hM7
  clear hM6 hM7 hw6 hbz HM hsc b7 fb7 ltp
  go_wp2_with fail
  go_loopw [94] (fun u wr => u = .int .i64 0 ∧ Hid (Mem w0 ((⟨gx, gy, gs, W, H, lev, rch, time, p, mb, c, .slice A7 1 c7, tv, kz, [s], T, of⟩ : Bk).ts base (s.ts base nn ++ (.blk fl 41 #[.int .i64 gx, .int .i64 gy, .int .i64 gs, .int .i64 (W : Nat), .int .i64 (H : Nat), .slice (some ⟨gl, 0, none⟩) nn cc] :: R))) wr)) (fun _ _ => 0)
  case atStart => exact ⟨rfl, HM7⟩
  case round =>
    obtain ⟨rfl, HM8⟩ := hrel
    clear HM7
    go_wp2_with fail
    refine (HBZ.out wr HM8.out).mono ?_
    rintro e w9 ⟨rfl, tv', T', of', c', hft, hcc, hM9⟩
    dsimp only at hM9
    have h10 : Mem w0 ((⟨gx, gy, gs, W, H, lev, rch, time, p, mb, c', .slice A7 1 c7, tv', kz, [s], T', of'⟩ : Bk).ts base (s.ts base nn ++ R)) w9 := by
      obtain ⟨Hd, hH⟩ := @Bk.ts_mid ⟨gx, gy, gs, W, H, lev, rch, time, p, mb, c', .slice A7 1 c7, tv', kz, [s], T', of'⟩ base R
      rw [hH] at hM9 ⊢
      exact hM9.sub (List.Sublist.append (List.Sublist.refl _) (List.Sublist.append (List.Sublist.refl _) (List.sublist_cons_self _ _)))
    have H10 := hide h10
    have HFT := hide hft
    have HCC := hide hcc
    clear HM8 hM9 h10 hft hcc
    go_wp2_with fail
    rw [← HPP.out]
    refine ⟨rfl, .slice A7 1 c7, tv', T', of', c', s, HOK.out, HFT.out, HCC.out, ?_⟩
    dsimp only
    rw [← HNN.out]
    exact H10.out
end Go.Proofs.Ytidbjidcjmbnlaa
end
section
namespace Go.Proofs.Ytidbjidcjmbnlaa
open Go Go.RowKit

section
variable {L : Nd → Nd} {K0 K1 : Nat} {E : List Evm}
theorem evm_eq (h : EvI L K0 K1 (E.map Evm.e)) {a b : Nat} {x y : Evm} (hx : E[a]? = some x) (hy : E[b]? = some y) (e : x.e.1 = y.e.1) : a = b := by
  have hn := h.nd
  rw [List.map_map] at hn
  have h1 : (E.map ((fun z : EvT => z.1) ∘ Evm.e))[a]? = some x.e.1 := by rw [List.getElem?_map, hx]; rfl
  have h2 : (E.map ((fun z : EvT => z.1) ∘ Evm.e))[b]? = some x.e.1 := by rw [List.getElem?_map, hy, e]; rfl
  exact (List.getElem?_inj (List.getElem?_eq_some_iff.1 h1).1 hn).1 (h1.trans h2.symm)
theorem evm_fr (h : EvI L K0 K1 (E.map Evm.e)) {x : Evm} (hx : x ∈ E) {q : Nat} (hq : q ∈ x.e.2.1) : q < K0 ∧ L (false, q) = x.e.1 := by
  rw [h.fr x.e (List.mem_map_of_mem hx), List.mem_filter, List.mem_range] at hq
  exact ⟨hq.1, by simpa using hq.2⟩
theorem evm_to (h : EvI L K0 K1 (E.map Evm.e)) {x : Evm} (hx : x ∈ E) {q : Nat} (hq : q ∈ x.e.2.2) : q < K1 ∧ L (true, q) = x.e.1 := by
  rw [h.to x.e (List.mem_map_of_mem hx), List.mem_filter, List.mem_range] at hq
  exact ⟨hq.1, by simpa using hq.2⟩
theorem evm_frU (h : EvI L K0 K1 (E.map Evm.e)) {a b : Nat} {x y : Evm} (hx : E[a]? = some x) (hy : E[b]? = some y) {q : Nat} (h1 : q ∈ x.e.2.1) (h2 : q ∈ y.e.2.1) : a = b :=
  evm_eq h hx hy ((evm_fr h (List.mem_of_getElem? hx) h1).2.symm.trans (evm_fr h (List.mem_of_getElem? hy) h2).2)
theorem evm_toU (h : EvI L K0 K1 (E.map Evm.e)) {a b : Nat} {x y : Evm} (hx : E[a]? = some x) (hy : E[b]? = some y) {q : Nat} (h1 : q ∈ x.e.2.2) (h2 : q ∈ y.e.2.2) : a = b :=
  evm_eq h hx hy ((evm_to h (List.mem_of_getElem? hx) h1).2.symm.trans (evm_to h (List.mem_of_getElem? hy) h2).2)
theorem evm_toE (h : EvI L K0 K1 (E.map Evm.e)) : ∀ x ∈ E, ∀ y ∈ E, ∀ j, j ∈ x.e.2.2 → j ∈ y.e.2.2 → x = y := fun x hx y hy j h1 h2 => by
  obtain ⟨a, ha⟩ := List.mem_iff_getElem?.1 hx
  obtain ⟨b, hb⟩ := List.mem_iff_getElem?.1 hy
  have := evm_toU h ha hb h1 h2
  subst this
  exact Option.some.inj (ha.symm.trans hb)
theorem evm_all (h : EvI L K0 K1 (E.map Evm.e)) {j : Nat} (hj : j < K1) : ∃ x ∈ E, j ∈ x.e.2.2 := by
  obtain ⟨e, he, h1⟩ := h.hasT j hj
  obtain ⟨x, hx, rfl⟩ := List.mem_map.1 he
  refine ⟨x, hx, ?_⟩
  rw [h.to x.e he, List.mem_filter, List.mem_range]
  exact ⟨hj, by simp [h1]⟩
theorem evm_toB (h : EvI L K0 K1 (E.map Evm.e)) : ∀ x ∈ E, x.e.2.2.length ≤ K1 ∧ ∀ j ∈ x.e.2.2, j < K1 := fun x hx => ⟨by
  rw [h.to x.e (List.mem_map_of_mem hx)]
  exact Nat.le_trans (List.length_filter_le _ _) (by simp), fun j hj => (evm_to h hx hj).1⟩
theorem evm_frB (h : EvI L K0 K1 (E.map Evm.e)) : ∀ x ∈ E, x.e.2.1.length ≤ K0 ∧ x.e.2.1.Pairwise (· < ·) ∧ ∀ i ∈ x.e.2.1, i < K0 := fun x hx => ⟨by
  rw [h.fr x.e (List.mem_map_of_mem hx)]
  exact Nat.le_trans (List.length_filter_le _ _) (by simp), by rw [h.fr x.e (List.mem_map_of_mem hx)]; exact List.pairwise_lt_range.filter _, fun i hi => (evm_fr h hx hi).1⟩
/-- So many events are noted. -/
structure ChgI (E : List Evm) (K0 k : Nat) (T : List Trk) (of : Nat × Nat → Option Nat) : Prop where
  len : T.length = K0
  trk : ∀ q, q < K0 → ∃ t, T[q]? = some t ∧ t.fr = 0 ∧ (t.cl = [] ∧ t.pl.length ≤ 100) ∧ (t.al = [q] ∨ ∃ a x j, a < k ∧ E[a]? = some x ∧ x.e.2.1 = [q] ∧ x.e.2.2 = [j] ∧ t.al = [q, j])
  zero : ∀ q, q < K0 → of (0, q) = some q
  one : ∀ a x q j, a < k → E[a]? = some x → x.e.2.1 = [q] → x.e.2.2 = [j] → of (1, j) = some q ∧ ∃ t, T[q]? = some t ∧ t.al = [q, j]
theorem ChgI.start {T : List Trk} {of : Nat × Nat → Option Nat} (h : FirstT T of K0) : ChgI E K0 0 T of :=
  ⟨h.len, fun q hq => by
    obtain ⟨av, ha⟩ := h.trk q hq
    exact ⟨_, ha, rfl, ⟨rfl, Nat.zero_le _⟩, .inl rfl⟩, h.ofs, fun a x q j ha => absurd ha (Nat.not_lt_zero _)⟩
theorem ChgI.kept (hE : EvI L K0 K1 (E.map Evm.e)) {k : Nat} {T : List Trk} {of : Nat × Nat → Option Nat} (h : ChgI E K0 k T of) {x : Evm} (hx : E[k]? = some x) {i j : Nat} (h1 : x.e.2.1 = [i]) (h2 : x.e.2.2 = [j]) {t : Trk} (ht : T[i]? = some t) (v : Value) : ChgI E K0 (k + 1) (T.set i (grownT t v j)) (putO of (1, j) i) := by
  have hxm := List.mem_of_getElem? hx
  have hi : i < K0 := (evm_fr hE hxm (by rw [h1]; simp)).1
  have hiT : i < T.length := by rw [h.len]; exact hi
  obtain ⟨t', ht', f0, c0, hal⟩ := h.trk i hi
  have : t = t' := Option.some.inj (ht.symm.trans ht')
  subst this
  have hal1 : t.al = [i] := by
    rcases hal with hal | ⟨a, y, j', ha, hy, y1, y2, -⟩
    · exact hal
    · have := evm_frU hE hy hx (q := i) (by rw [y1]; simp) (by rw [h1]; simp)
      omega
  have hgr : (grownT t v j).al = [i, j] := by unfold grownT; dsimp only; rw [hal1]; rfl
  refine ⟨by rw [List.length_set]; exact h.len, fun q hq => ?_, fun q hq => ?_, fun a y q j' ha hy y1 y2 => ?_⟩
  · by_cases e : i = q
    · subst e
      rw [List.getElem?_set_self hiT]
      exact ⟨_, rfl, f0, c0, .inr ⟨k, x, j, Nat.lt_succ_self _, hx, h1, h2, hgr⟩⟩
    · obtain ⟨u, hu, u0, u1, u2⟩ := h.trk q hq
      rw [List.getElem?_set_ne e]
      refine ⟨u, hu, u0, u1, ?_⟩
      rcases u2 with u2 | ⟨a, y, j', ha, r⟩
      · exact .inl u2
      · exact .inr ⟨a, y, j', by omega, r⟩
  · unfold putO
    rw [if_neg (fun h2 => by have := congrArg (·.1) h2; simp at this)]
    exact h.zero q hq
  · by_cases e : a = k
    · subst e
      have e2 : x = y := Option.some.inj (hx.symm.trans hy)
      subst e2
      have e3 : q = i := by have := y1.symm.trans h1; simpa using this
      have e4 : j' = j := by have := y2.symm.trans h2; simpa using this
      subst e3 e4
      refine ⟨?_, _, List.getElem?_set_self hiT, hgr⟩
      unfold putO
      rw [if_pos rfl]
    · obtain ⟨o1, u, hu, u1⟩ := h.one a y q j' (by omega) hy y1 y2
      have n1 : j' ≠ j := fun e3 => by
        subst e3
        have := evm_toU hE hy hx (q := j') (by rw [y2]; simp) (by rw [h2]; simp)
        omega
      have n2 : i ≠ q := fun e3 => by
        subst e3
        have := evm_frU hE hy hx (q := i) (by rw [y1]; simp) (by rw [h1]; simp)
        omega
      refine ⟨?_, u, by rw [List.getElem?_set_ne n2]; exact hu, u1⟩
      unfold putO
      rw [if_neg (fun h2 => n1 (congrArg (·.2) h2))]
      exact o1
theorem ChgI.ended {k : Nat} {T T' : List Trk} {of : Nat × Nat → Option Nat} (h : ChgI E K0 k T of) (hs : SameT T T') {x : Evm} (hx : E[k]? = some x) (hno : ∀ q j, x.e.2.1 = [q] → x.e.2.2 = [j] → False) : ChgI E K0 (k + 1) T' of := by
  refine ⟨hs.1.trans h.len, fun q hq => ?_, h.zero, fun a y q j ha hy y1 y2 => ?_⟩
  · obtain ⟨u, hu, u0, u1, u2⟩ := h.trk q hq
    obtain ⟨z, hz⟩ := hs.2 q u hu
    refine ⟨_, hz, u0, u1, ?_⟩
    rcases u2 with u2 | ⟨a, y, j', ha, r⟩
    · exact .inl u2
    · exact .inr ⟨a, y, j', by omega, r⟩
  · by_cases e : a = k
    · subst e
      have e2 : x = y := Option.some.inj (hx.symm.trans hy)
      subst e2
      exact (hno q j y1 y2).elim
    · obtain ⟨o1, u, hu, u1⟩ := h.one a y q j (by omega) hy y1 y2
      obtain ⟨z, hz⟩ := hs.2 q u hu
      exact ⟨o1, _, hz, u1⟩
theorem ChgI.sec {k : Nat} {T : List Trk} {of : Nat × Nat → Option Nat} (h : ChgI E K0 k T of) : SecT T T of of E K0 0 := by
  refine ⟨fun q t _ ht => ⟨t.cv, t.cl, ht⟩, fun q t hq ht => ?_, fun q t ht => ?_, fun q t ht => ?_, by rw [h.len]; exact Nat.le_refl _, by rw [h.len]; exact Nat.le_refl _, h.zero, fun _ _ _ _ _ => rfl, fun q hq => absurd hq (Nat.not_lt_zero _)⟩
  · have := (List.getElem?_eq_some_iff.1 ht).1
    rw [h.len] at this
    omega
  · obtain ⟨u, hu, -, u1, -⟩ := h.trk q (by rw [← h.len]; exact (List.getElem?_eq_some_iff.1 ht).1)
    have := Option.some.inj (ht.symm.trans hu)
    subst this
    rw [u1.1]
    exact Nat.le_refl _
  · obtain ⟨u, hu, -, u1, u2⟩ := h.trk q (by rw [← h.len]; exact (List.getElem?_eq_some_iff.1 ht).1)
    have := Option.some.inj (ht.symm.trans hu)
    subst this
    refine ⟨?_, u1.2⟩
    rcases u2 with u2 | ⟨a, y, j', -, -, -, -, u2⟩
    · rw [u2]; show 1 ≤ 100; omega
    · rw [u2]; show 2 ≤ 100; omega
/-- What is known of an area of the second map. -/
def KnownA (E : List Evm) (T : List Trk) (of : Nat × Nat → Option Nat) (j : Nat) : Prop :=
  ∃ k t, of (1, j) = some k ∧ T[k]? = some t ∧ (t.fr = 1 ∨ (t.fr = 0 ∧ t.al = [k, j] ∧ ∃ x ∈ E, x.e.2.1 = [k] ∧ x.e.2.2 = [j]))
theorem after_two (hE : EvI L K0 K1 (E.map Evm.e)) (hk : ∀ x ∈ E, x.k = kindZ x.e.2.1.length x.e.2.2.length) {T T' : List Trk} {of of' : Nat × Nat → Option Nat} (hc : ChgI E K0 E.length T of) (hs : SecT T T' of of' E K0 K1) {j : Nat} (hj : j < K1) : KnownA E T' of' j := by
  obtain ⟨x, hx, hjx⟩ := evm_all hE hj
  by_cases h4 : x.k = 4
  · rw [hk x hx, kind_kept] at h4
    obtain ⟨i, hi⟩ := List.length_eq_one_iff.1 h4.1
    obtain ⟨j', hj'⟩ := List.length_eq_one_iff.1 h4.2
    rw [hj', List.mem_singleton] at hjx
    subst hjx
    obtain ⟨a, ha⟩ := List.mem_iff_getElem?.1 hx
    obtain ⟨o1, t, ht, t1⟩ := hc.one a x i j (List.getElem?_eq_some_iff.1 ha).1 ha hi hj'
    have hiK : i < K0 := (evm_fr hE hx (by rw [hi]; simp)).1
    obtain ⟨t', ht', f0, -, -⟩ := hc.trk i hiK
    have := Option.some.inj (ht.symm.trans ht')
    subst this
    obtain ⟨cv, cl, h5⟩ := hs.old i t hiK ht
    refine ⟨i, _, ?_, h5, .inr ⟨f0, t1, x, hx, hi, hj'⟩⟩
    rw [hs.kept x hx (by rw [hk x hx, kind_kept]; exact h4) j (by rw [hj']; simp)]
    exact o1
  · obtain ⟨k, h1, h2, h3⟩ := hs.born j hj x hx hjx h4
    obtain ⟨t, ht⟩ : ∃ t, T'[k]? = some t := ⟨_, List.getElem?_eq_getElem h3⟩
    exact ⟨k, t, h1, ht, .inl (hs.new k t h2 ht)⟩
end
end Go.Proofs.Ytidbjidcjmbnlaa
end
