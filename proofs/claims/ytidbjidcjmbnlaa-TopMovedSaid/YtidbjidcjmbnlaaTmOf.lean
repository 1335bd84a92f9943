/-
  An event in front of the second map is noted.
  The tracks of the first map begin.
  The tracks of the second map begin: plain words.
  The tracks of the second map begin.
  Maps are added to a book: plain words, and what a region that draws its order tells of areas.
  The track of an area; a track.
-/
import Derived.Test.YtidbjidcjmbnlaaTmBegin
import Derived.Test.YtidbjidcjmbnlaaTmEvS
import Derived.Test.YtidbjidcjmbnlaaTmEvents
set_option linter.unusedSimpArgs false
set_option linter.unusedVariables false
section
namespace Go.Proofs.Ytidbjidcjmbnlaa
open Go Go.RowKit
attribute [local go_sem] Oper.semAt_some

/-- What stands at a place of a book, in the walk's spelling. -/
theorem look_of {W : World} {mb c num i r : Nat} {f : Nat × Nat → Option Nat} (h : MapK W Try.prog 118 plL okPl mb (ofV f) c) (hn : num ≤ 1000000) (hi : i ≤ 1000000) (hf : f (num, i) = some r) :
    (Instr.lookup 96 (.map (some mb)) (.agg #[.int .i64 (num : Nat), .int .i64 (i : Nat)]) false).run Try.prog W = .ok (.int .i64 (r : Nat)) W := by
  have h1 := h.look plKey Try.underlying96 (z := .int .i64 0) (by kernel_rfl) (s := (num, i)) ⟨hn, hi⟩
  have h2 : ofV f (num, i) = some (nmV r) := by unfold ofV; rw [hf]; rfl
  rw [h2] at h1
  exact h1
def Trk.ends (t : Trk) (z : Int) : Trk := ⟨t.bg, t.fr, t.av, z, t.pv, t.cv, t.al, t.pl, t.cl⟩
/-- What an event leaves: of each track, all but its end. -/
def SameT (T T' : List Trk) : Prop := T'.length = T.length ∧ ∀ (q : Nat) (t : Trk), T[q]? = some t → ∃ z, T'[q]? = some (t.ends z)
theorem SameT.refl (T : List Trk) : SameT T T := ⟨rfl, fun q t h => ⟨t.en, h⟩⟩
theorem SameT.set {T T' : List Trk} {k : Nat} {t : Trk} {z : Int} (h : SameT T T') (hk : T'[k]? = some t) : SameT T (T'.set k (t.ends z)) := by
  refine ⟨by rw [List.length_set]; exact h.1, fun q u hq => ?_⟩
  obtain ⟨z', h'⟩ := h.2 q u hq
  by_cases e : k = q
  · subst e
    rw [List.getElem?_set_self (List.getElem?_eq_some_iff.1 hk).1]
    have := Option.some.inj (hk.symm.trans h')
    subst this
    exact ⟨z, rfl⟩
  · rw [List.getElem?_set_ne e]
    exact ⟨z', h'⟩
/-- While the ends are noted. -/
def ChS (T : List Trk) (n : Nat) (At : Option Addr) (ct p ev : Nat) (BC : Array Value) (base mb : Nat) (of : Nat × Nat → Option Nat) (c W H : Nat) (gx gy gs : Int) (mv : Value) (S : List Spr) (w0 : World) (R : List Th) (_k : Nat) (wr : World) (E : Array Value) : Prop :=
  ∃ T', SameT T T' ∧ Mem w0 (.blk ev 106 E :: .blk p 100 BC :: .row base 62 6 (.slice At n ct) n (trkCells T') :: thK Try.prog 118 plL okPl mb (ofV of) c :: .row base 102 7 mv S.length (sprCells gx gy gs W H S) :: (T.map (thA base) ++ (T.map (thQ base) ++ (T.map (thC base) ++ R)))) wr
theorem SameT.rows {T T' : List Trk} (h : SameT T T') {f : Trk → Th} (hf : ∀ (t : Trk) (z : Int), f (t.ends z) = f t) : T'.map f = T.map f := by
  apply List.ext_getElem?
  intro q
  rw [List.getElem?_map, List.getElem?_map]
  cases hq : T[q]? with
  | none => rw [List.getElem?_eq_none (by rw [h.1]; exact List.getElem?_eq_none_iff.1 hq)]
  | some t =>
    obtain ⟨z, h2⟩ := h.2 q t hq
    rw [h2, Option.map_some, Option.map_some, hf]
set_option maxHeartbeats 4000000 in
set_option maxRecDepth 100000 in
theorem change_end (B : Bk) (base ke nf : Nat) (Af : Option Addr) (cf : Nat) (tv : Value) (fl : List Nat) (w0 w : World) (R : List Th) (hb0 : base ≤ w0.heap.size) (hT : B.T.length ≤ 1000) (hke : ke < 8) (hk4 : ke ≠ 4) (hnf : fl.length = nf) (hnf2 : nf ≤ 1000) (hof : ∀ i ∈ fl, i ≤ 1000 ∧ B.of (0, i) = some i ∧ i < B.T.length)
    (hfl : .row base 3 1 (.slice Af nf cf) nf (numsV fl) ∈ R) (htv : ∃ A n c, tv = .slice A n c) (hM : Mem w0 (B.ts base R) w) :
    Calls Try.prog 32 #[.pointer (some ⟨B.p, 0, none⟩), .int .i64 1, .agg #[.int .i64 (ke : Nat), .slice Af nf cf, tv]] w fun e w' => e = .returned (.tuple #[]) ∧ ∃ kz' T', SameT B.T T' ∧ Mem w0 (({ B with kz := kz', T := T' } : Bk).ts base R) w' := by
  obtain ⟨PP, hPP⟩ : ∃ PP : Ending → World → Prop, (fun e w' => e = .returned (.tuple #[]) ∧ ∃ kz' T', SameT B.T T' ∧ Mem w0 (({ B with kz := kz', T := T' } : Bk).ts base R) w') = PP := ⟨_, rfl⟩
  rw [hPP]
  obtain ⟨A9, n9, c9, rfl⟩ := htv
  obtain ⟨gx, gy, gs, W, H, lev, rch, last, p, mb, c, mv, tv, kz, S, T, of⟩ := B
  unfold Bk.ts Bk.cells at hM hPP
  dsimp only at hM hT hPP hof ⊢
  obtain ⟨At, ct, rfl⟩ := own_shape2 (hM.row_ 1 rfl)
  obtain ⟨n, hn⟩ : ∃ n, T.length = n := ⟨_, rfl⟩
  rw [hn] at hT hM hof hPP
  have hke8 : (ke : Int) < 8 := by omega
  have hke4 : ¬ (ke : Int) = 4 := by omega
  have HM := hide hM
  have HN := hide hn
  have HPP := hide hPP
  have HOF := hide hof
  have HFL := hide hfl
  have HNF := hide hnf
  clear hM hn hPP hof hfl hnf
  go_enter Try.func32, Try.ntmps32
  go_upto_region 1 with fail
  refine code_world fun W1 hW => ?_
  have HMn := Mem.to (Mem.allocAt HM.out w.heap.size rfl #[.int .i64 (ke : Nat), .slice Af nf cf, .slice A9 n9 c9] 106) hW
  have LW : Later w W1 := by rw [hW]; exact ((Below.refl _ _).alloc (Nat.le_refl _) _)
  have szW : W1.heap.size = w.heap.size + 1 := by rw [hW]; simp
  clear hW
  replace HM := hide HMn
  clear HMn LW
  clear szW
  obtain ⟨ev, hev⟩ : ∃ ev, w.heap.size = ev := ⟨_, rfl⟩
  rw [hev] at HM
  simp only [hev]
  clear hev
  have be : Blk W1 ev 106 #[.int .i64 (ke : Nat), .slice Af nf cf, .slice A9 n9 c9] := HM.out.get 0 rfl
  have lte := be.lt
  have e0 := be.c 0 rfl
  have e1 := be.c 1 rfl
  have e2 := be.c 2 rfl
  have bk := (HM.out.blk_ 1 rfl).c (11 + ke) (bookC_at hke)
  have ltp := (HM.out.blk_ 1 rfl).lt
  refine wp_region_cut 11 (by kernel_rfl) (by simp only [List.take_succ_cons, List.take_zero]; exact rfl) (by simp only [List.drop_succ_cons, List.drop_zero]; exact rfl) (by kernel_rfl) ?_
  apply any_region_J (w0 := W1) [[], [], [], [], [], [], [], [], [], [], []] [true, true, true, true, true, true, true, true, true, true, true] [] (fun ixq y => match ixq with  | _ => undef) (fun ixq x F wq => match ixq with  | _ => True) (fun a x => a) (by kernel_rfl) (fun _ => rfl) [12, 17] (by kernel_rfl)
  · intro x D hD
    have hne := hD.some
    have k0 := liftB hD e0 (by first | assumption | omega)
    have k1 := liftB hD bk (by first | assumption | omega)
    simp only [takeOps, Act.put, List.setIfInBounds_toArray, List.set_cons_succ, List.set_cons_zero]
    repeat (go_big_quiet_step (fail))
    exact wpQuiet_nil rfl
  · intro d hd x x'
    simp only [List.mem_cons, List.not_mem_nil, or_false] at hd
    rcases hd with rfl | rfl
    all_goals rfl
  · exact trivial
  · exact trivial
  intro xx w2 F hL hlv1 hap1
  clear hap1
  clear hlv1
  refine ⟨rfl, ?_⟩
  replace HM := hide (HM.out.later hL)
  clear hL be lte e0 e1 e2
  clear bk ltp
  have bk := (HM.out.blk_ 1 rfl).c (11 + ke) (bookC_at hke)
  have fbk := (HM.out.blk_ 1 rfl).frozen (11 + ke)
  have ltp := (HM.out.blk_ 1 rfl).lt
  go_upto_region 2 with fail
  refine code_world fun w3 hw3 => ?_
  have hM3 := Mem.to (HM.out.set_ 1 rfl (11 + ke) _ (bookC_kind hke)) hw3
  simp only [List.set_cons_zero, List.set_cons_succ] at hM3
  obtain ⟨kz2, hkz2⟩ : ∃ q, updZ kz ke (wrap64 (kz ke + 1)) = q := ⟨_, rfl⟩
  rw [hkz2] at hM3
  replace HM := hide hM3
  clear hM3 hw3 hkz2 bk fbk ltp
  obtain ⟨XX, hXX⟩ : ∃ q : List Th, (thK Try.prog 118 plL okPl mb (ofV of) c :: .row base 102 7 mv S.length (sprCells gx gy gs W H S) :: R) = q := ⟨_, rfl⟩
  obtain ⟨BC, hBC⟩ : ∃ q : Array Value, bookC gx gy gs W H lev rch last mv (.slice At n ct) mb kz2 = q := ⟨_, rfl⟩
  have HC0 := hide (show ChS T n At ct p ev BC base mb of c W H gx gy gs mv S w0 R 0 w3 #[.int .i64 (ke : Nat), .slice Af nf cf, .slice A9 n9 c9] from ⟨T, SameT.refl T, by rw [← hBC]; exact HM.out⟩)
  have HBC := hide hBC
  have be : Blk w3 ev 106 #[.int .i64 (ke : Nat), .slice Af nf cf, .slice A9 n9 c9] := HM.out.get 0 rfl
  have lte := be.lt
  have e0 := be.c 0 rfl
  have e1 := be.c 1 rfl
  have e2 := be.c 2 rfl
  clear hXX hBC
  go_wp2_with fail
  clear e0 e1 e2 lte be
  go_loopw [70] (fun u wr => ∃ k : Nat, k ≤ nf ∧ u = .int .i64 (k : Nat) ∧ Hid (ChS T n At ct p ev BC base mb of c W H gx gy gs mv S w0 R k wr #[.int .i64 (ke : Nat), .slice Af nf cf, .slice A9 n9 c9])) (fun u _ => nf - (intOf u).toNat)
  case atStart => exact ⟨0, Nat.zero_le _, rfl, HC0⟩
  case round =>
    obtain ⟨k, hkn, rfl, HC⟩ := hrel
    clear HC0
    obtain ⟨T', hsame, hM⟩ := HC.out
    rw [← HBC.out] at hM
    by_cases hlt : k < nf
    · have hlt2 : (k : Int) < nf := by omega
      have hfr := hM.all (.row base 3 1 (.slice Af nf cf) nf (numsV fl)) (by simp [HFL.out])
      obtain ⟨bf, cur, rfl, -, hbf, -, -, hcf⟩ := row_blk (show wr.ownsRow base 3 1 (.slice Af nf cf) nf (numsV fl) from hfr) (by omega)
      have hkf : k < fl.length := by rw [HNF.out]; exact hlt
      have f0 := hbf.c k (hcf k _ (numsV_get hkf))
      have ltf := hbf.lt
      have hi := HOF.out (fl.getD k 0) (by rw [List.getD_eq_getElem?_getD, List.getElem?_eq_getElem hkf]; exact List.getElem_mem _)
      obtain ⟨i, hie⟩ : ∃ i, fl.getD k 0 = i := ⟨_, rfl⟩
      rw [hie] at f0 hi
      obtain ⟨hi1, hi2, hi3⟩ := hi
      have hiT : i < T'.length := by rw [hsame.1, HN.out]; exact hi3
      obtain ⟨t, ht⟩ : ∃ t, T'[i]? = some t := ⟨_, List.getElem?_eq_getElem hiT⟩
      have hT'n : T'.length = n := hsame.1.trans HN.out
      have hin : (i : Int) < n := by omega
      have HM := hide hM
      have HSM := hide hsame
      have HTE := hide ht
      have HTN := hide hT'n
      clear hM hsame ht hT'n
      clear hbf hcf hfr HC hiT
      have be : Blk wr ev 106 #[.int .i64 (ke : Nat), .slice (some ⟨bf, 0, none⟩) nf cf, .slice A9 n9 c9] := HM.out.get 0 rfl
      have lte := be.lt
      have e0 := be.c 0 rfl
      have e1 := be.c 1 rfl
      have e2 := be.c 2 rfl
      have b9 : wr.cell? ⟨p, 9, none⟩ = some (.slice At n ct) := (HM.out.blk_ 1 rfl).c 9 rfl
      have b10 : wr.cell? ⟨p, 10, none⟩ = some (.map (some mb)) := (HM.out.blk_ 1 rfl).c 10 rfl
      have ltp := (HM.out.blk_ 1 rfl).lt
      obtain ⟨gT, curT, rfl, -, hbT, -, -, hcT⟩ := row_blk (HM.out.row_ 2 rfl) (by omega)
      have t3 := hbT.c (i * 6 + 3) (hcT _ _ ((trkCells_get HTE.out (j := 3) (by omega)).trans rfl))
      have ltT := hbT.lt
      have hmk := HM.out.map_ 3 rfl
      have HMK := hide hmk
      clear hbT hcT hmk
      go_wp2_with fail
      refine wp_region_cut 15 (by kernel_rfl) (by simp only [List.take_succ_cons, List.take_zero]; exact rfl) (by simp only [List.drop_succ_cons, List.drop_zero]; exact rfl) (by kernel_rfl) ?_
      apply any_region_J (w0 := wr) [[], [], [], [], [], [], [], [], [], [], [], [], [], [], []] [true, true, true, true, true, true, true, true, true, true, true, true, true, true, true] [] (fun ixq y => match ixq with  | _ => undef) (fun ixq x F wq => match ixq with  | _ => True) (fun a x => a) (by kernel_rfl) (fun _ => rfl) [75, 79, 86] (by kernel_rfl)
      · intro x D hD
        have hne := hD.some
        have k0 := liftB hD b9 (by first | assumption | omega)
        have k1 := liftB hD b10 (by first | assumption | omega)
        have k2 := liftB hD e0 (by first | assumption | omega)
        have hlk : ∀ y : Of D, (Instr.lookup 96 (.map (some mb)) (.agg #[.int .i64 0, .int .i64 (i : Nat)]) false).run Try.prog y.val = .ok (.int .i64 (i : Nat)) y.val := fun y => look_of (num := 0) (HMK.out.stab ((kb hD y).block mb HMK.out.lt)) (by omega) (by omega) hi2
        simp only [takeOps, Act.put, List.setIfInBounds_toArray, List.set_cons_succ, List.set_cons_zero]
        repeat (go_big_quiet_step (fail))
        exact wpQuiet_nil rfl
      · intro d hd x x'
        simp only [List.mem_cons, List.not_mem_nil, or_false] at hd
        rcases hd with rfl | rfl | rfl
        all_goals rfl
      · exact trivial
      · exact trivial
      intro xy w4 F hL hlv2 hap2
      clear hap2
      clear hlv2
      refine ⟨rfl, ?_⟩
      replace HM := hide (HM.out.later hL)
      clear hL be lte e0 e1 e2
      clear b9 b10 ltp t3 ltT f0 ltf HMK
      obtain ⟨g', curT, e9, -, hbT, -, -, hcT⟩ := row_blk (HM.out.row_ 2 rfl) (by omega)
      have e8 : gT = g' := congrArg (fun o : Option Addr => (o.getD ⟨0, 0, none⟩).block) e9
      subst e8
      have t3 := hbT.c (i * 6 + 3) (hcT _ _ ((trkCells_get HTE.out (j := 3) (by omega)).trans rfl))
      have ft3 := hbT.frozen (i * 6 + 3)
      have ltT := hbT.lt
      clear hbT hcT e9
      go_upto_region 10 with fail
      refine code_world fun w5 hw5 => ?_
      have hM5 := Mem.to (HM.out.setRow 2 rfl (i * 6 + 3) (.int .i64 (ke : Nat))) hw5
      simp only [List.set_cons_zero, List.set_cons_succ] at hM5
      rw [trkCells_set (t' := t.ends (ke : Nat)) HTE.out (by omega) rfl] at hM5
      have HC5 := hide (show ChS T n (some ⟨gT, 0, none⟩) ct p ev BC base mb of c W H gx gy gs mv S w0 R (k + 1) w5 #[.int .i64 (ke : Nat), .slice (some ⟨bf, 0, none⟩) nf cf, .slice A9 n9 c9] from ⟨T'.set i (t.ends (ke : Nat)), HSM.out.set HTE.out, by rw [← HBC.out]; exact hM5⟩)
      clear HM hM5 hw5 t3 ft3 ltT
      go_wp2_with fail
      go_roundw
      case rel => exact ⟨k + 1, hlt, by go_num, HC5⟩
      case measure => simp [intOf] <;> omega
    · have hkk : k = nf := by omega
      have hnlt : ¬ ((k : Int) < nf) := by omega
      have HM := hide hM
      have HSM := hide hsame
      clear hM hsame
      clear HC
      go_wp2_with fail
      refine bodyPost_ret (v := .tuple #[]) (by simp [results, Try.results32, go_sem]) rfl ?_
      rw [← HPP.out]
      refine ⟨rfl, kz2, T', HSM.out, ?_⟩
      have h9 := HM.out.drop 0 rfl
      have eA : T'.map (thA base) = T.map (thA base) := HSM.out.rows fun _ _ => rfl
      have eQ : T'.map (thQ base) = T.map (thQ base) := HSM.out.rows fun _ _ => rfl
      have eC : T'.map (thC base) = T.map (thC base) := HSM.out.rows fun _ _ => rfl
      rw [eA, eQ, eC, HSM.out.1, HN.out]
      exact h9
theorem Mem.head_apart {w0 W : World} {a t : Th} {rest : List Th} (h : Mem w0 (a :: rest) W) (ht : t ∈ rest) : ∀ k ∈ a.fp, k ∉ t.fp := fun k hk hk' => by
  have hn := h.nodup
  rw [fps_cons, List.nodup_append] at hn
  exact hn.2.2 k hk k (List.mem_flatMap.2 ⟨t, ht, hk'⟩) rfl
theorem own_of_blk {w w' : World} {base n c g size o : Nat} {e : TypeId} {xs : List Value} {cur : Array Value} {v : Value} (h : w.ownsRow base e size (.slice (some ⟨g, 0, none⟩) n c) n xs) (hb : Blk w g e cur) (hb' : Blk w' g e (cur.setIfInBounds o v)) : w'.ownsRow base e size (.slice (some ⟨g, 0, none⟩) n c) n (xs.set o v) := by
  obtain ⟨hl, hr | ⟨g', cap, cur', hv, hbb, hh, h1, h2, h3, h4⟩⟩ := h
  · cases hr.1
  · injection hv with e1 e2 e3
    injection e1 with e1
    injection e1 with e1 _ _
    subst e1 e3
    have hk : w.heap[g]? = some (.cells cur e (0, 0)) := hb
    rw [hh] at hk
    have e5 : cur' = cur := by injection hk with hk; injection hk
    subst e5
    refine ⟨by rw [List.length_set]; exact hl, .inr ⟨g, c, _, rfl, hbb, hb', h1, h2, by simpa using h3, ?_⟩⟩
    rw [Array.toList_setIfInBounds, ← h4, List.take_set]
theorem set_erase' {α : Type} {A : List α} {i : Nat} {a : α} : (A.set i a).eraseIdx i = A.eraseIdx i := by
  induction A generalizing i with
  | nil => rfl
  | cons x l ih =>
    cases i with
    | zero => rfl
    | succ i => rw [List.set_cons_succ, List.eraseIdx_cons_succ, List.eraseIdx_cons_succ, ih]
theorem perm_kept {α : Type} (ev bk trk mp sp a : α) {A : List α} (X : List α) {i : Nat} (h : A[i]? = some a) : (ev :: bk :: trk :: mp :: sp :: (A ++ X)).Perm (trk :: a :: ev :: bk :: mp :: sp :: (A.eraseIdx i ++ X)) := by
  have h1 : (A ++ X).Perm (a :: (A.eraseIdx i ++ X)) := (perm_get h).append_right X
  refine ((h1.append_left [ev, bk, trk, mp, sp])).trans ?_
  refine (List.perm_middle (l₁ := [ev, bk, trk, mp, sp]) (a := a)).trans ?_
  exact (((List.perm_middle (l₁ := [ev, bk]) (a := trk) (l₂ := mp :: sp :: (A.eraseIdx i ++ X))).cons a)).trans (List.Perm.swap _ _ _)
theorem perm_kept2 {α : Type} (ev bk trk mp sp a : α) {A : List α} (X : List α) {i : Nat} (h : i < A.length) : (trk :: a :: ev :: bk :: mp :: sp :: (A.eraseIdx i ++ X)).Perm (ev :: bk :: trk :: mp :: sp :: (A.set i a ++ X)) := by
  have e : (A.set i a).eraseIdx i = A.eraseIdx i := by
    have := set_erase' (A := A) (i := i) (a := a)
    exact this
  have := perm_kept ev bk trk mp sp a (A := A.set i a) X (i := i) (List.getElem?_set_self h)
  rw [e] at this
  exact this.symm
theorem MapK_at {W : World} {mb c : Nat} {f : Nat × Nat → Option Nat} (h : MapK W Try.prog 118 plL okPl mb (ofV f) c) : mb < W.heap.size := h.lt
def grownT (t : Trk) (v : Value) (j : Nat) : Trk := ⟨t.bg, t.fr, v, t.en, t.pv, t.cv, t.al ++ [j], t.pl, t.cl⟩
def KeptPost (B : Bk) (i j : Nat) (base : Nat) (w0 : World) (R : List Th) (e : Ending) (w' : World) : Prop :=
  e = .returned (.tuple #[]) ∧ ∃ kz' t v c', B.T[i]? = some t ∧ c' ≤ B.c + 1 ∧ Mem w0 (({ B with kz := kz', c := c', T := B.T.set i (grownT t v j), of := putO B.of (1, j) i } : Bk).ts base R) w'
set_option maxHeartbeats 4000000 in
set_option maxRecDepth 100000 in
theorem change_kept (B : Bk) (base i j : Nat) (Af A9 : Option Addr) (cf c9 : Nat) (w0 w : World) (R : List Th) (hb0 : base ≤ w0.heap.size) (hT : B.T.length ≤ 1000) (hc : B.c ≤ 1000000) (hof : B.of (0, i) = some i) (hiT : i < B.T.length) (hj : j ≤ 1000) (hlen : ∀ t ∈ B.T, t.al.length ≤ 1000)
    (hfl : .row base 3 1 (.slice Af 1 cf) 1 (numsV [i]) ∈ R) (htl : .row base 3 1 (.slice A9 1 c9) 1 (numsV [j]) ∈ R) (hM : Mem w0 (B.ts base R) w) :
    Calls Try.prog 32 #[.pointer (some ⟨B.p, 0, none⟩), .int .i64 1, .agg #[.int .i64 4, .slice Af 1 cf, .slice A9 1 c9]] w (KeptPost B i j base w0 R) := by
  obtain ⟨PP, hPP⟩ : ∃ PP : Ending → World → Prop, KeptPost B i j base w0 R = PP := ⟨_, rfl⟩
  rw [hPP]
  unfold KeptPost at hPP
  obtain ⟨gx, gy, gs, W, H, lev, rch, last, p, mb, c, mv, tv, kz, S, T, of⟩ := B
  unfold Bk.ts Bk.cells at hM hPP
  dsimp only at hM hT hPP hof hc hlen hiT ⊢
  obtain ⟨At, ct, rfl⟩ := own_shape2 (hM.row_ 1 rfl)
  obtain ⟨n, hn⟩ : ∃ n, T.length = n := ⟨_, rfl⟩
  rw [hn] at hT hM hPP hiT
  have HM := hide hM
  have HN := hide hn
  have HPP := hide hPP
  have HOF := hide hof
  have HFL := hide hfl
  have HTL := hide htl
  have HLEN := hide hlen
  clear hM hn hPP hof hfl htl hlen
  go_enter Try.func32, Try.ntmps32
  go_upto_region 1 with fail
  refine code_world fun W1 hW => ?_
  have HMn := Mem.to (Mem.allocAt HM.out w.heap.size rfl #[.int .i64 4, .slice Af 1 cf, .slice A9 1 c9] 106) hW
  have LW : Later w W1 := by rw [hW]; exact ((Below.refl _ _).alloc (Nat.le_refl _) _)
  have szW : W1.heap.size = w.heap.size + 1 := by rw [hW]; simp
  clear hW
  replace HM := hide HMn
  clear HMn LW
  clear szW
  obtain ⟨ev, hev⟩ : ∃ ev, w.heap.size = ev := ⟨_, rfl⟩
  rw [hev] at HM
  simp only [hev]
  clear hev
  have be : Blk W1 ev 106 #[.int .i64 4, .slice Af 1 cf, .slice A9 1 c9] := HM.out.get 0 rfl
  have lte := be.lt
  have e0 := be.c 0 rfl
  have e1 := be.c 1 rfl
  have e2 := be.c 2 rfl
  have bk := (HM.out.blk_ 1 rfl).c 15 (bookC_at (k := 4) (by omega))
  have ltp := (HM.out.blk_ 1 rfl).lt
  refine wp_region_cut 11 (by kernel_rfl) (by simp only [List.take_succ_cons, List.take_zero]; exact rfl) (by simp only [List.drop_succ_cons, List.drop_zero]; exact rfl) (by kernel_rfl) ?_
  apply any_region_J (w0 := W1) [[], [], [], [], [], [], [], [], [], [], []] [true, true, true, true, true, true, true, true, true, true, true] [] (fun ixq y => match ixq with  | _ => undef) (fun ixq x F wq => match ixq with  | _ => True) (fun a x => a) (by kernel_rfl) (fun _ => rfl) [12, 17] (by kernel_rfl)
  · intro x D hD
    have hne := hD.some
    have k0 := liftB hD e0 (by first | assumption | omega)
    have k1 := liftB hD bk (by first | assumption | omega)
    simp only [takeOps, Act.put, List.setIfInBounds_toArray, List.set_cons_succ, List.set_cons_zero]
    repeat (go_big_quiet_step (fail))
    exact wpQuiet_nil rfl
  · intro d hd x x'
    simp only [List.mem_cons, List.not_mem_nil, or_false] at hd
    rcases hd with rfl | rfl
    all_goals rfl
  · exact trivial
  · exact trivial
  intro xx w2 F hL hlv3 hap3
  clear hap3
  clear hlv3
  refine ⟨rfl, ?_⟩
  replace HM := hide (HM.out.later hL)
  clear hL be lte e0 e1 e2
  clear bk ltp
  have bk := (HM.out.blk_ 1 rfl).c 15 (bookC_at (k := 4) (by omega))
  have fbk := (HM.out.blk_ 1 rfl).frozen 15
  have ltp := (HM.out.blk_ 1 rfl).lt
  go_upto_region 2 with fail
  refine code_world fun w3 hw3 => ?_
  have hM3 := Mem.to (HM.out.set_ 1 rfl 15 _ (bookC_kind (k := 4) (by omega))) hw3
  simp only [List.set_cons_zero, List.set_cons_succ] at hM3
  obtain ⟨kz2, hkz2⟩ : ∃ q, updZ kz 4 (wrap64 (kz 4 + 1)) = q := ⟨_, rfl⟩
  rw [hkz2] at hM3
  replace HM := hide hM3
  clear hM3 hw3 hkz2 bk fbk ltp
  obtain ⟨t, ht⟩ : ∃ t, T[i]? = some t := ⟨_, List.getElem?_eq_getElem (by rw [HN.out]; exact hiT)⟩
  have htm := List.mem_of_getElem? ht
  have hal := HLEN.out t htm
  have hin : (i : Int) < n := by omega
  obtain ⟨bf, cur, rfl, -, hbf, -, -, hcf⟩ := row_blk (show w3.ownsRow base 3 1 (.slice Af 1 cf) 1 (numsV [i]) from HM.out.all (.row base 3 1 (.slice Af 1 cf) 1 (numsV [i])) (by simp [HFL.out])) (by omega)
  have f0 := hbf.c 0 (hcf 0 (.int .i64 (i : Nat)) rfl)
  have ltf := hbf.lt
  obtain ⟨bt, cur9, rfl, -, hbt, -, -, hct⟩ := row_blk (show w3.ownsRow base 3 1 (.slice A9 1 c9) 1 (numsV [j]) from HM.out.all (.row base 3 1 (.slice A9 1 c9) 1 (numsV [j])) (by simp [HTL.out])) (by omega)
  have u0 := hbt.c 0 (hct 0 (.int .i64 (j : Nat)) rfl)
  have ltu := hbt.lt
  have Hbt := hide hbt
  have hct0 := hct 0 (.int .i64 (j : Nat)) rfl
  have be : Blk w3 ev 106 #[.int .i64 4, .slice (some ⟨bf, 0, none⟩) 1 cf, .slice (some ⟨bt, 0, none⟩) 1 c9] := HM.out.get 0 rfl
  have lte := be.lt
  have e0 := be.c 0 rfl
  have e1 := be.c 1 rfl
  have e2 := be.c 2 rfl
  have b10 : w3.cell? ⟨p, 10, none⟩ = some (.map (some mb)) := (HM.out.blk_ 1 rfl).c 10 rfl
  have ltp := (HM.out.blk_ 1 rfl).lt
  have hlk3 := look_of (num := 0) (i := i) (HM.out.map_ 3 rfl) (by omega) (by omega) HOF.out
  have HMK := hide (HM.out.map_ 3 rfl)
  go_wp2_with fail
  apply wp_region_L (w0 := w3) [[], [], [], [], [], [], [], [], [], [], [], [], []] [true, true, true, true, true, true, true, true, true, true, true, true, true] [] (fun ixq y => match ixq with  | _ => undef) (fun ixq x F wq => match ixq with  | _ => True) (fun a x => a) (by kernel_rfl) (by kernel_rfl) (fun _ => rfl) [24, 34] (by kernel_rfl)
  · intro x D hD
    have hne := hD.some
    have k0 := liftB hD b10 (by first | assumption | omega)
    have k1 := liftB hD e1 (by first | assumption | omega)
    have k2 := liftB hD f0 (by first | assumption | omega)
    have hlk : ∀ y : Of D, (Instr.lookup 96 (.map (some mb)) (.agg #[.int .i64 0, .int .i64 (i : Nat)]) false).run Try.prog y.val = .ok (.int .i64 (i : Nat)) y.val := fun y => look_of (num := 0) (HMK.out.stab ((kb hD y).block mb HMK.out.lt)) (by omega) (by omega) HOF.out
    simp only [takeOps, Act.put, List.setIfInBounds_toArray, List.set_cons_succ, List.set_cons_zero]
    repeat (go_big_quiet_step (fail))
    exact wpQuiet_nil rfl
  · intro d hd x x'
    simp only [List.mem_cons, List.not_mem_nil, or_false] at hd
    rcases hd with rfl | rfl
    all_goals rfl
  · exact trivial
  · exact trivial
  intro xy w4 F hL hlv4
  clear hlv4
  have hL4 := hL
  replace HM := hide (HM.out.later hL)
  clear hL be lte e0 e1 e2
  clear f0 ltf u0 ltu b10 ltp hlk3 HMK
  replace Hbt := hide (blk_later Hbt.out hL4)
  clear hL4
  obtain ⟨tbg, tfr, tav, ten, tpv, tcv, tal, tpl, tcl⟩ := t
  have hatA : (T.map (thA base))[i]? = some (thA base ⟨tbg, tfr, tav, ten, tpv, tcv, tal, tpl, tcl⟩) := by rw [List.getElem?_map, ht]; rfl
  have hMp := HM.out.perm (perm_kept _ _ _ _ _ _ _ hatA)
  unfold thA at hMp
  dsimp only at hMp hal
  obtain ⟨na, hna⟩ : ∃ q, tal.length = q := ⟨_, rfl⟩
  rw [hna] at hMp hal
  obtain ⟨Aa, ca, rfl⟩ := own_shape2 (hMp.row_ 1 rfl)
  obtain ⟨gT, curT, rfl, -, hbT, hnc, -, hcT⟩ := row_blk (hMp.row_ 0 rfl) (by omega)
  have ht2 := hcT (i * 6 + 2) (.slice Aa na ca) ((trkCells_get ht (j := 2) (by omega)).trans rfl)
  have t2 := hbT.c (i * 6 + 2) ht2
  have hoff : i * 6 + 2 < curT.size := (Array.getElem?_eq_some_iff.1 ht2).1
  have ltT := hbT.lt
  have hnT : (Value.slice Aa na ca).ownBlock ≠ some gT := fun e => hMp.apart 0 1 rfl rfl (by decide) gT (by show gT ∈ optL _; simp [optL, Value.ownBlock]) (optL_iff.2 e)
  have hne_ := hide ((hMp.perm (List.Perm.swap _ _ _)))
  have hnp : (Value.slice Aa na ca).ownBlock ≠ some p := fun e => hMp.apart 3 1 rfl rfl (by decide) p (List.mem_singleton.2 rfl) (optL_iff.2 e)
  have hnev : (Value.slice Aa na ca).ownBlock ≠ some ev := fun e => hMp.apart 2 1 rfl rfl (by decide) ev (List.mem_singleton.2 rfl) (optL_iff.2 e)
  have hnbt : (Value.slice Aa na ca).ownBlock ≠ some bt := fun e => hne_.out.head_apart (t := .row base 3 1 (.slice (some ⟨bt, 0, none⟩) 1 c9) 1 (numsV [j])) (by simp [HTL.out]) bt (optL_iff.2 e) (by show bt ∈ optL _; simp [optL, Value.ownBlock])
  have HkT := hide hbT
  have Htr := hide (hMp.row_ 1 rfl)
  have HneT := hide hnT
  have u0 := Hbt.out.c 0 hct0
  have ltu := Hbt.out.lt
  have b9 : w4.cell? ⟨p, 9, none⟩ = some (.slice (some ⟨gT, 0, none⟩) n ct) := (HM.out.blk_ 1 rfl).c 9 rfl
  have ltp := (HM.out.blk_ 1 rfl).lt
  have be2 : w4.cell? ⟨ev, 2, none⟩ = some (.slice (some ⟨bt, 0, none⟩) 1 c9) := (HM.out.blk_ 0 rfl).c 2 rfl
  have lte := (HM.out.blk_ 0 rfl).lt
  obtain ⟨i0, hi0, hy0, hy1, hy2⟩ := info_parts intInfoT
  have Hi := hide hi0
  have Hz0 := hide hy0
  have Hz1 := hide hy1
  have Hz2 := hide hy2
  have HMP := hide hMp
  have HTE := hide ht
  have HNA := hide hna
  clear hi0 hy0 hy1 hy2 hMp ht hna
  have hbw : base ≤ w4.heap.size := Nat.le_trans hb0 HM.out.size
  clear hbT hnT hne_ ht2 hcT
  go_wp2_with fail
  apply wp_region_F (w0 := w4) [[], [0], [0, 1], [0, 1, 2], [], [], [5], [5, 6], [5, 6, 7], [], [5, 6, 7, 8, 9], [5, 6, 7, 8, 9, 10], [5, 6, 7, 8, 9, 10, 11], [], [13], [13, 14], [13, 14, 15], [13, 14, 15, 16], [5, 6, 7, 8, 9, 10, 11, 12, 13, 14, 15, 16, 17], [0, 1, 2, 3, 4, 5, 6, 7, 8, 9, 10, 11, 12, 13, 14, 15, 16, 17, 18], [0, 1, 2, 3, 4, 5, 6, 7, 8, 9, 10, 11, 12, 13, 14, 15, 16, 17, 18, 19], [0, 1, 2, 3, 4, 5, 6, 7, 8, 9, 10, 11, 12, 13, 14, 15, 16, 17, 18, 19, 20]] [true, true, true, true, true, true, true, true, true, true, true, true, true, true, true, true, true, false, false, true, true, false] [false, false, false, false, false, false, false, false, false, false, false, false, false, false, false, false, false, false, false, false, false, false] [⟨17, none, [], []⟩, ⟨18, none, [17], []⟩, ⟨21, none, [], [18]⟩] (fillQ 18 (.slice Aa na ca) 21 gT) [21] (fun ixq y => match ixq with | 17 => .slice (y 0).1 1 1 | 18 => .slice (y 0).1 (na + 1) (y 0).2 | 21 => undef | _ => undef) (fun ixq x F wq => match ixq with | 17 => OwnF wq F w4.heap.size 3 1 (.slice (x 17 0).1 1 1) 1 #[.int .i64 (j : Nat)].toList | 18 => OwnF wq F base 3 1 (.slice (x 18 0).1 (na + 1) (x 18 0).2) (na + 1) ((numsV tal) ++ (#[.int .i64 (j : Nat)] : Array Value).toList) ∧ FreshOr w4.heap.size (.slice Aa na ca) (.slice (x 18 0).1 (na + 1) (x 18 0).2) | 21 => F gT ∧ Blk wq gT 62 (curT.setIfInBounds (i * 6 + 2) (.slice (x 18 0).1 (na + 1) (x 18 0).2)) | _ => True) (fun a x => (((a).put (some 52) (.slice ((x 17) 0).1 1 1)).put (some 53) (.slice ((x 18) 0).1 (na + 1) ((x 18) 0).2)).put (none) (undef)) (by kernel_rfl) (by kernel_rfl) (by kernel_rfl) (fun _ => rfl) [36, 41] (by kernel_rfl) (fillQ_lt (fun g hg => (Htr.out.lt g hg).2) (by omega)) (fillQ_ne HneT.out)
  · intro x D hD
    have hne := hD.some
    have k9 := liftS hD b9 (earlyQ (by first | assumption | omega) hnp)
    have k2 := liftS hD t2 (earlyQ (by first | assumption | omega) HneT.out)
    have k3 := liftS hD be2 (earlyQ (by first | assumption | omega) hnev)
    have k4 := liftS hD u0 (earlyQ (by first | assumption | omega) hnbt)
    simp only [takeOps, Act.put, List.setIfInBounds_toArray, List.set_cons_succ, List.set_cons_zero]
    repeat (go_big_quiet_step (fail))
    exact wpQuiet_nil rfl
  · exact fun x D hD => wpQuiet_nil rfl
  · intro d hd x x'
    simp only [List.mem_cons, List.not_mem_nil, or_false] at hd
    rcases hd with rfl | rfl
    all_goals rfl
  · refine ⟨?_, ?_, ?_, trivial⟩
    · exact obl_new rfl (fun _ => by kernel_rfl) 3 (fun x => #[.int .i64 (j : Nat)]) gP (fun x w => by kernel_rfl) (fun x w hle => own_new hle rfl (by unfold maxLen; omega))
    · refine obl_pushQ 33 47 52 (by kernel_rfl) base 3 i0 _ 1 8 Try.underlying33 Hi.out Hz0.out Hz1.out Hz2.out rfl (by decide) (.slice Aa na ca) na 1 ((numsV tal)) (#[.int .i64 (j : Nat)] : Array Value).toList (by first | rfl | (simp; done) | (simp; omega)) (by simp [Value.oneCell']) (by unfold maxLen; omega) (by omega) (by first | assumption | omega) (fun x w F hk hn => ?_) (fun _ => rfl) (fun _ _ _ _ h1 h2 => ⟨h1, h2⟩)
      have hj : OwnF w (F 17) w4.heap.size 3 1 (.slice (x 17 0).1 1 1) 1 (#[.int .i64 (j : Nat)] : Array Value).toList := hn 17 (by simp)
      obtain ⟨ad, hA, hc⟩ := news_own hj (by decide)
      exact ⟨ad, 1, rfl, row_thenQ Htr.out HneT.out hk, wrQ_row, (show Value.slice (x 17 0).1 1 1 = _ by rw [hA]), hc⟩
    · exact obl_setv 33 62 55 53 gT (i*6+2) _ (fun x => .slice (x 18 0).1 (na + 1) (x 18 0).2) (fun x => (curT.setIfInBounds (i * 6 + 2) (.slice (x 18 0).1 (na + 1) (x 18 0).2))) (by kernel_rfl) (fun _ => rfl) (fun _ => rfl) (fun _ => rfl) HkT.out (ebQ_set HneT.out) wrQ_set (by kernel_rfl) (by first | assumption | (simp; done)) (fun _ => rfl) (fun _ => rfl) (fun _ _ _ _ h1 h2 => ⟨h1, h2⟩)
  · refine ⟨?_, ?_, ?_, trivial⟩
    · refine ⟨fun x F wq wq' h hs hk => ?_, fun x x' F wq hx h => ?_⟩
      · have h2 : OwnF wq F w4.heap.size 3 1 (.slice (x 17 0).1 1 1) 1 #[.int .i64 (j : Nat)].toList := h
        exact h2.stab hk
      · have h2 : OwnF wq F w4.heap.size 3 1 (.slice (x 17 0).1 1 1) 1 #[.int .i64 (j : Nat)].toList := h
        rw [hx 17 (by simp)] at h2
        exact h2
    · exact owe_pushQ 18 _ base (.slice Aa na ca) 3 1 (na + 1) ((numsV tal) ++ (#[.int .i64 (j : Nat)] : Array Value).toList) rfl (fun _ _ _ => rfl)
    · exact owe_fill gT 62 (fun x => (curT.setIfInBounds (i * 6 + 2) (.slice (x 18 0).1 (na + 1) (x 18 0).2))) (fun _ _ _ => rfl) (fun x x' hx => by simp only [hx 18 (by simp)])
  intro xz w5 F hK hlv5
  obtain ⟨-, fct18, fct21, -⟩ := hlv5
  replace fct18 : OwnF w5 (F 18) base 3 1 (.slice (xz 18 0).1 (na + 1) (xz 18 0).2) (na + 1) ((numsV tal) ++ (#[.int .i64 (j : Nat)] : Array Value).toList) ∧ FreshOr w4.heap.size (.slice Aa na ca) (.slice (xz 18 0).1 (na + 1) (xz 18 0).2) := fct18 rfl
  replace fct21 : (F 21) gT ∧ Blk w5 gT 62 (curT.setIfInBounds (i * 6 + 2) (.slice (xz 18 0).1 (na + 1) (xz 18 0).2)) := fct21 rfl
  obtain ⟨⟨hot, -⟩, hfr⟩ := fct18
  have hbk := fct21.2
  generalize (xz 18 0).1 = A7 at *
  generalize (xz 18 0).2 = c7 at *
  have hown5 := own_of_blk (HMP.out.row_ 0 rfl) HkT.out hbk
  have hM5 := Mem.pushed (nw := []) HMP.out (t0' := .row base 62 6 (.slice (some ⟨gT, 0, none⟩) n ct) n ((trkCells T).set (i * 6 + 2) (.slice A7 (na + 1) c7))) rfl rfl hK hot hfr hown5 (fun t ht => absurd ht List.not_mem_nil) List.nodup_nil (fun k hk => absurd hk List.not_mem_nil)
  simp only [List.nil_append, List.append_eq] at hM5
  have hbt5 : Blk w5 bt 3 cur9 := (hK.block bt ⟨ltu, freeQ hnbt (fun e => by
    have h1 := HMP.out.head_apart (t := .row base 3 1 (.slice (some ⟨bt, 0, none⟩) 1 c9) 1 (numsV [j])) (by simp [HTL.out]) gT (by show gT ∈ optL _; simp [optL, Value.ownBlock])
    exact h1 (by show gT ∈ optL _; rw [e]; simp [optL, Value.ownBlock]))⟩).trans Hbt.out
  have hTset := trkCells_set (t' := grownT ⟨tbg, tfr, .slice Aa na ca, ten, tpv, tcv, tal, tpl, tcl⟩ (.slice A7 (na + 1) c7) j) (v := .slice A7 (na + 1) c7) HTE.out (j := 2) (by omega) rfl
  rw [hTset] at hM5
  have hlA : i < (T.map (thA base)).length := by rw [List.length_map, HN.out]; exact hiT
  have hM6 := hM5.perm (perm_kept2 _ _ _ _ _ _ _ hlA)
  replace HM := hide hM6
  replace Hbt := hide hbt5
  clear hM5 hM6 hK hot hfr hbk fct21 hown5 hbt5 hTset hoff t2 ltT hnp hnev hnbt HkT Htr HneT u0 ltu b9 ltp be2 lte Hi Hz0 Hz1 Hz2 hbw
  have b10 : w5.cell? ⟨p, 10, none⟩ = some (.map (some mb)) := (HM.out.blk_ 1 rfl).c 10 rfl
  have ltp := (HM.out.blk_ 1 rfl).lt
  have be2 : w5.cell? ⟨ev, 2, none⟩ = some (.slice (some ⟨bt, 0, none⟩) 1 c9) := (HM.out.blk_ 0 rfl).c 2 rfl
  have lte := (HM.out.blk_ 0 rfl).lt
  have u0 := Hbt.out.c 0 hct0
  have ltu := Hbt.out.lt
  go_wp2_with fail
  refine wp_region_cut 11 (by kernel_rfl) (by simp only [List.take_succ_cons, List.take_zero]; exact rfl) (by simp only [List.drop_succ_cons, List.drop_zero]; exact rfl) (by kernel_rfl) ?_
  apply any_region_J (w0 := w5) [[], [], [], [], [], [], [], [], [], [], []] [true, true, true, true, true, true, true, true, true, true, true] [] (fun ixq y => match ixq with  | _ => undef) (fun ixq x F wq => match ixq with  | _ => True) (fun a x => a) (by kernel_rfl) (fun _ => rfl) [57] (by kernel_rfl)
  · intro x D hD
    have hne := hD.some
    have k0 := liftB hD b10 (by first | assumption | omega)
    have k1 := liftB hD be2 (by first | assumption | omega)
    have k2 := liftB hD u0 (by first | assumption | omega)
    simp only [takeOps, Act.put, List.setIfInBounds_toArray, List.set_cons_succ, List.set_cons_zero]
    repeat (go_big_quiet_step (fail))
    exact wpQuiet_nil rfl
  · intro d hd x x'
    simp only [List.mem_cons, List.not_mem_nil, or_false] at hd
    rcases hd with rfl
    all_goals rfl
  · exact trivial
  · exact trivial
  intro xq w6 F hL hlv6 hap6
  clear hap6
  clear hlv6
  refine ⟨rfl, ?_⟩
  replace HM := hide (HM.out.later hL)
  clear hL
  clear b10 ltp be2 lte u0 ltu
  have HMK := hide (HM.out.map_ 3 rfl)
  have hokp : okPl (1, j) := ⟨by omega, by omega⟩
  go_wp2_with (at_mapUpdate; refine wpList_storeK _ rfl _ _ _ _ rfl 118 3 plKey Try.underlying96 mb c (ofV of) rfl HMK.out (by unfold maxLen; omega) (1, j) rfl hokp (nmV i) rfl ?_; intro w7 hm7 hg7)
  refine bodyPost_ret (v := .tuple #[]) (by simp [results, Try.results32, go_sem]) rfl ?_
  have hM7 := (HM.out.mapK 3 rfl hm7 hg7).drop 0 rfl
  simp only [List.set_cons_zero, List.set_cons_succ, List.eraseIdx_zero, List.tail_cons] at hM7
  rw [← ofV_put] at hM7
  rw [← HPP.out]
  refine ⟨rfl, kz2, ⟨tbg, tfr, .slice Aa na ca, ten, tpv, tcv, tal, tpl, tcl⟩, .slice A7 (na + 1) c7, (if (ofV of (1, j)).isSome then c else c + 1), HTE.out, by split <;> omega, ?_⟩
  have eQ := mapS_set (f := thQ base) (y := grownT ⟨tbg, tfr, .slice Aa na ca, ten, tpv, tcv, tal, tpl, tcl⟩ (.slice A7 (na + 1) c7) j) HTE.out rfl
  have eC := mapS_set (f := thC base) (y := grownT ⟨tbg, tfr, .slice Aa na ca, ten, tpv, tcv, tal, tpl, tcl⟩ (.slice A7 (na + 1) c7) j) HTE.out rfl
  have eA : thA base (grownT ⟨tbg, tfr, .slice Aa na ca, ten, tpv, tcv, tal, tpl, tcl⟩ (.slice A7 (na + 1) c7) j) = .row base 3 1 (.slice A7 (na + 1) c7) (na + 1) (numsV tal ++ [.int .i64 (j : Nat)]) := by
    unfold thA grownT
    dsimp only
    rw [List.length_append, HNA.out, show numsV (tal ++ [j]) = numsV tal ++ [.int .i64 (j : Nat)] by unfold numsV; rw [List.map_append]; rfl]
    rfl
  rw [eQ, eC, List.map_set, eA, List.length_set, HN.out]
  exact hM7
end Go.Proofs.Ytidbjidcjmbnlaa
end
section
namespace Go.Proofs.Ytidbjidcjmbnlaa
open Go Go.RowKit
attribute [local go_sem] Oper.semAt_some

theorem Mem.newMapK {κ : Type} [DecidableEq κ] {w0 W : World} {ts : List Th} (h : Mem w0 ts W) (P : Program) (k : TypeId) (lit : κ → Lit) (ok : κ → Prop) (g : Nat) (hg : g = W.heap.size) : Mem w0 (thK P k lit ok g (fun _ => none) 0 :: ts) (W.alloc (.map #[] 0)) := by
  subst hg
  exact h.newMap P k lit ok
/-- The first tracks: each with its area. -/
structure FirstT (T : List Trk) (of : Nat × Nat → Option Nat) (j : Nat) : Prop where
  len : T.length = j
  trk : ∀ q, q < j → ∃ av, T[q]? = some (newT 1 0 q av (.slice none 0 0) [])
  ofs : ∀ q, q < j → of (0, q) = some q
  no : ∀ q, of (1, q) = none
def Bth0 (B : Bk) (base : Nat) (w0 : World) (R : List Th) (j : Nat) (wr : World) : Prop :=
  ∃ tv T of c, FirstT T of j ∧ c ≤ j ∧ Mem w0 (({ B with tv := tv, T := T, of := of, c := c } : Bk).ts base R) wr
theorem FirstT.next {T : List Trk} {of : Nat × Nat → Option Nat} {j : Nat} {av : Value} (h : FirstT T of j) : FirstT (T ++ [newT 1 0 j av (.slice none 0 0) []]) (putO of (0, j) j) (j + 1) := by
  refine ⟨by rw [List.length_append, h.len]; rfl, fun q hq => ?_, fun q hq => ?_, fun q => ?_⟩
  · by_cases e : q < j
    · obtain ⟨a, ha⟩ := h.trk q e
      exact ⟨a, by rw [List.getElem?_append_left (by rw [h.len]; exact e)]; exact ha⟩
    · obtain rfl : q = j := by omega
      exact ⟨av, by rw [List.getElem?_append_right (by rw [h.len]; exact Nat.le_refl _), h.len, Nat.sub_self]; rfl⟩
  · unfold putO
    by_cases e : q = j
    · rw [if_pos (by rw [e]), e]
    · rw [if_neg (fun h2 => e (congrArg (·.2) h2))]
      exact h.ofs q (by omega)
  · unfold putO
    rw [if_neg (fun h2 => by have := congrArg (·.1) h2; simp at this)]
    exact h.no q
/-- The book's own things, and the rest, change places. -/
theorem Bk.ts_mid {B : Bk} {base : Nat} {R : List Th} : ∃ H : List Th, ∀ X : List Th, B.ts base X = H ++ X := by
  refine ⟨.blk B.p 100 B.cells :: .row base 62 6 B.tv B.T.length (trkCells B.T) :: thK Try.prog 118 plL okPl B.mb (ofV B.of) B.c :: .row base 102 7 B.mv B.S.length (sprCells B.gx B.gy B.gs B.W B.H B.S) :: (B.T.map (thA base) ++ (B.T.map (thQ base) ++ B.T.map (thC base))), fun X => ?_⟩
  unfold Bk.ts
  simp only [List.cons_append, List.append_assoc]
theorem Bk.front {B : Bk} {base : Nat} {w0 W : World} {t : Th} {R : List Th} (h : Mem w0 (B.ts base (t :: R)) W) : Mem w0 (t :: B.ts base R) W := by
  obtain ⟨H, hH⟩ := @Bk.ts_mid B base R
  rw [hH] at h ⊢
  exact h.perm List.perm_middle
theorem Bk.back {B : Bk} {base : Nat} {w0 W : World} {t : Th} {R : List Th} (h : Mem w0 (t :: B.ts base R) W) : Mem w0 (B.ts base (t :: R)) W := by
  obtain ⟨H, hH⟩ := @Bk.ts_mid B base R
  rw [hH] at h ⊢
  exact h.perm List.perm_middle.symm
set_option maxHeartbeats 4000000 in
set_option maxRecDepth 100000 in
theorem births_zero (B : Bk) (s : Spr) (base : Nat) (w0 w : World) (R : List Th) (hb0 : base ≤ w0.heap.size) (hS : B.S = [s]) (hK : s.K ≤ 64) (hT : B.T = []) (hof : ∀ x, B.of x = none) (hc : B.c = 0) (hM : Mem w0 (B.ts base R) w) :
    Calls Try.prog 33 #[.pointer (some ⟨B.p, 0, none⟩), .int .i64 0, .slice none 0 0] w fun e w' => e = .returned (.tuple #[]) ∧ Bth0 B base w0 R s.K w' := by
  obtain ⟨K, hKe⟩ : ∃ K, s.K = K := ⟨_, rfl⟩
  rw [hKe] at hK ⊢
  obtain ⟨PP, hPP⟩ : ∃ PP : Ending → World → Prop, (fun e w' => e = .returned (.tuple #[]) ∧ Bth0 B base w0 R K w') = PP := ⟨_, rfl⟩
  rw [hPP]
  have hbg := fun (B' : Bk) (hp : B'.p = B.p) (j : Nat) (W : World) (Q : List Th) (h1 : B'.T.length ≤ 1000) (h2 : B'.c ≤ 1000000) (h3 : j ≤ 1000) (h : Mem w0 (B'.ts base (.row base 3 1 (.slice none 0 0) 0 [] :: Q)) W) => begin_any B' 1 0 j base (.slice none 0 0) [] w0 W Q hb0 h1 h2 (by omega) h3 h
  have h0 : FirstT B.T B.of 0 := ⟨by rw [hT]; rfl, fun q h => absurd h (Nat.not_lt_zero _), fun q h => absurd h (Nat.not_lt_zero _), fun q => hof _⟩
  obtain ⟨p, hp⟩ : ∃ p, B.p = p := ⟨_, rfl⟩
  rw [hp] at hbg ⊢
  have hmv : ∃ gm cm, B.mv = .slice (some ⟨gm, 0, none⟩) 1 cm := by
    have h := hM.row_ 3 rfl
    rw [hS] at h
    obtain ⟨A, c, e⟩ := own_shape2 h
    rw [e] at h ⊢
    obtain ⟨b, cur, rfl, -⟩ := row_blk h (by simp)
    exact ⟨b, c, rfl⟩
  obtain ⟨gm, cm, hmv⟩ := hmv
  have hrd : ∀ (B' : Bk) (Q : List Th) (W : World), B'.mv = B.mv → B'.S = B.S → B'.p = B.p → Mem w0 (B'.ts base Q) W → W.cell? ⟨p, 8, none⟩ = some (.slice (some ⟨gm, 0, none⟩) 1 cm) ∧ p < W.heap.size ∧ W.cell? ⟨gm, 5, none⟩ = some (.slice (some ⟨s.bo, 0, none⟩) K K) ∧ gm < W.heap.size := by
    intro B' Q W e1 e2 e3 h
    have hb : Blk W B'.p _ _ := h.blk_ 0 rfl
    have hr := h.row_ 3 rfl
    rw [e1, e2, hS, hmv] at hr
    obtain ⟨b, cur, eb, -, hbb, -, -, hcc⟩ := row_blk hr (by simp)
    have e8 : gm = b := congrArg (fun o : Option Addr => (o.getD ⟨0, 0, none⟩).block) eb
    subst e8
    rw [e3, hp] at hb
    refine ⟨?_, hb.lt, ?_, hbb.lt⟩
    · rw [← hmv, ← e1]
      exact hb.c 8 rfl
    · refine hbb.c 5 (hcc 5 _ ?_)
      unfold sprCells
      rw [← hKe]
      rfl
  obtain ⟨c1, c2, c3, c4⟩ := hrd B R w rfl rfl rfl hM
  have HM := hide hM
  have HBG := hide hbg
  have H0 := hide h0
  have HRD := hide hrd
  have HPP := hide hPP
  clear hM hbg h0 hrd hPP
  clear hT hof hKe hmv
  go_enter Try.func33, Try.ntmps33
  have hmm := @run_makeMap Try.prog
  go_upto_region 10 with fail
  clear hmm
  refine code_world fun w2 hw2 => ?_
  obtain ⟨mY, hmY⟩ : ∃ q, w.heap.size = q := ⟨_, rfl⟩
  simp only [hmY]
  have hM2 := Mem.to (HM.out.newMapK Try.prog 3 nmL okNm mY hmY.symm) hw2
  have hM3 := Bk.back hM2
  replace HM := hide hM3
  clear hM2 hM3 hw2 c1 c2 c3 c4 hmY
  go_loopw [22] (fun u wr => u = .int .i64 0 ∧ Hid (Mem w0 (B.ts base (thK Try.prog 3 nmL okNm mY (fun _ => none) 0 :: R)) wr)) (fun _ _ => 0)
  case atStart => exact ⟨rfl, HM⟩
  case round =>
    obtain ⟨rfl, HM4⟩ := hrel
    clear HM
    have HM := HM4
    clear HM4
    obtain ⟨c1, c2, c3, c4⟩ := HRD.out B _ wr rfl rfl rfl HM.out
    have HB0 := hide (show Bth0 B base w0 (thK Try.prog 3 nmL okNm mY (fun _ => none) 0 :: R) 0 wr from ⟨B.tv, B.T, B.of, B.c, H0.out, by rw [hc]; exact Nat.le_refl _, HM.out⟩)
    go_wp2_with fail
    clear c1 c2 c3 c4 HM
    go_loopw [47] (fun u wr => ∃ j : Nat, j ≤ K ∧ u = .int .i64 (j : Nat) ∧ Hid (Bth0 B base w0 (thK Try.prog 3 nmL okNm mY (fun _ => none) 0 :: R) j wr)) (fun u _ => K - (intOf u).toNat)
    case atStart => exact ⟨0, Nat.zero_le _, rfl, HB0⟩
    case round =>
      obtain ⟨j, hjK, rfl, HB⟩ := hrel
      clear HB0
      by_cases hlt : j < K
      · have hlt2 : (j : Int) < K := by omega
        obtain ⟨tv, T, of, c, hft, hcj, hM⟩ := HB.out
        have hMf := Bk.front hM
        have HMK := hide (hMf.map_ 0 rfl)
        have HM := hide hMf
        have HFT := hide hft
        have HCJ := hide hcj
        clear hft hcj
        clear hM hMf HB
        go_upto_region 14 with (at_lookup; refine wpList_lookK _ rfl _ _ _ rfl 3 106 nmKey Try.underlying147 (.agg #[.int .i64 0, .slice none 0 0, .slice none 0 0]) (by kernel_rfl) mY 0 (fun _ => none) rfl HMK.out j rfl (show j ≤ 1000000 by omega) (.agg #[.int .i64 0, .slice none 0 0, .slice none 0 0]) rfl ?_)
        clear HMK
        refine code_world fun w3 hW => ?_
        have HMn := Mem.to (Mem.allocAt HM.out wr.heap.size rfl #[.int .i64 0, .slice none 0 0, .slice none 0 0] 106) hW
        have LW : Later wr w3 := by rw [hW]; exact ((Below.refl _ _).alloc (Nat.le_refl _) _)
        have szW : w3.heap.size = wr.heap.size + 1 := by rw [hW]; simp
        clear hW
        replace HM := hide HMn
        clear HMn LW
        clear szW
        have hMb := Bk.back ((Bk.back HM.out.tail).nilRow base 3 1)
        replace HM := hide hMb
        clear hMb
        have hT1 : T.length ≤ 1000 := by rw [HFT.out.len]; omega
        have hcc : c ≤ 1000000 := by have := HCJ.out; omega
        have hcall := HBG.out (({ B with tv := tv, T := T, of := of, c := c } : Bk)) hp j w3 (thK Try.prog 3 nmL okNm mY (fun _ => none) 0 :: R) hT1 hcc (by omega) HM.out
        dsimp only at hcall
        rw [hp] at hcall
        have HCL := hide hcall
        clear hcall HM
        go_wp2_with fail
        refine HCL.out.mono ?_
        rintro e w5 ⟨rfl, tv', av, c', hc', hM5⟩
        have HB5 := hide (show Bth0 B base w0 (thK Try.prog 3 nmL okNm mY (fun _ => none) 0 :: R) (j + 1) w5 from ⟨tv', _, _, c', HFT.out.next (av := av), by have := HCJ.out; dsimp only at hc'; omega, by
          have h9 := hM5
          dsimp only at h9
          rw [HFT.out.len, ← hp] at h9
          exact h9⟩)
        clear HCL hM5 hc'
        go_wp2_with fail
        go_roundw
        case rel => exact ⟨j + 1, hlt, by go_num, HB5⟩
        case measure => simp [intOf] <;> omega
      · have hjj : j = K := by omega
        have hnlt : ¬ ((j : Int) < K) := by omega
        have HBZ := HB
        clear HB
        go_wp2_with fail
        refine bodyPost_ret (v := .tuple #[]) (by simp [results, Try.results33, go_sem]) rfl ?_
        rw [← HPP.out]
        refine ⟨rfl, ?_⟩
        obtain ⟨tv, T, of, c, hft, hcj, hM⟩ := HBZ.out
        rw [← hjj]
        exact ⟨tv, T, of, c, hft, hcj, (Bk.front hM).tail⟩
end Go.Proofs.Ytidbjidcjmbnlaa
end
section
namespace Go.Proofs.Ytidbjidcjmbnlaa
open Go Go.RowKit

def evV (x : Evm) : Value := .agg #[.int .i64 x.k, x.fv, x.tv]
/-- Which event has an area of the later map, so far as noted: the first k events, and of the next one the first i areas. -/
structure ByI (E : List Evm) (k i : Nat) (f : Nat → Option Value) : Prop where
  sound : ∀ j v, f j = some v → ∃ x ∈ E, v = evV x ∧ j ∈ x.e.2.2
  done : ∀ q x, q < k → E[q]? = some x → ∀ j ∈ x.e.2.2, (f j).isSome = true
  now : ∀ x, E[k]? = some x → ∀ j ∈ x.e.2.2.take i, (f j).isSome = true
theorem byI_nil (E : List Evm) : ByI E 0 0 (fun _ => none) := ⟨fun j v h => (by cases h), fun q x h => absurd h (Nat.not_lt_zero _), fun x _ j h => by simp at h⟩
theorem putK_some {f : Nat → Option Value} {s j : Nat} {v : Value} (h : (f j).isSome = true) : (putK f s v j).isSome = true := by
  unfold putK
  split
  · rfl
  · exact h
theorem ByI.put {E : List Evm} {k i : Nat} {f : Nat → Option Value} (h : ByI E k i f) {x : Evm} (hx : E[k]? = some x) (hi : i < x.e.2.2.length) : ByI E k (i + 1) (putK f (x.e.2.2.getD i 0) (evV x)) := by
  have hgd : x.e.2.2[i]? = some (x.e.2.2.getD i 0) := by rw [List.getD_eq_getElem?_getD, List.getElem?_eq_getElem hi]; rfl
  refine ⟨fun j v hv => ?_, fun q y hq hy j hj => putK_some (h.done q y hq hy j hj), fun y hy j hj => ?_⟩
  · unfold putK at hv
    split at hv
    · rename_i e
      cases hv
      exact ⟨x, List.mem_of_getElem? hx, rfl, by rw [e]; exact List.mem_of_getElem? hgd⟩
    · exact h.sound j v hv
  · have e : x = y := Option.some.inj (hx.symm.trans hy)
    subst e
    rw [List.take_add_one, hgd] at hj
    rcases List.mem_append.1 hj with hj | hj
    · exact putK_some (h.now x hx j hj)
    · have : j = x.e.2.2.getD i 0 := by simpa using hj
      unfold putK
      rw [if_pos this]
      rfl
theorem ByI.next {E : List Evm} {k i : Nat} {f : Nat → Option Value} (h : ByI E k i f) {x : Evm} (hx : E[k]? = some x) (hi : i = x.e.2.2.length) : ByI E (k + 1) 0 f := by
  refine ⟨h.sound, fun q y hq hy j hj => ?_, fun y _ j hj => by simp at hj⟩
  by_cases e : q < k
  · exact h.done q y e hy j hj
  · obtain rfl : q = k := by omega
    have e2 : x = y := Option.some.inj (hx.symm.trans hy)
    subst e2
    exact h.now x hx j (by rw [hi, List.take_length]; exact hj)
theorem ByI.at {E : List Evm} {i : Nat} {f : Nat → Option Value} (h : ByI E E.length i f) {x : Evm} (hx : x ∈ E) {j : Nat} (hj : j ∈ x.e.2.2) (hU : ∀ x ∈ E, ∀ y ∈ E, ∀ j, j ∈ x.e.2.2 → j ∈ y.e.2.2 → x = y) : f j = some (evV x) := by
  obtain ⟨q, hq⟩ := List.mem_iff_getElem?.1 hx
  have h1 := h.done q x (List.getElem?_eq_some_iff.1 hq).1 hq j hj
  cases hf : f j with
  | none => rw [hf] at h1; cases h1
  | some v =>
    obtain ⟨y, hy, rfl, hyj⟩ := h.sound j v hf
    rw [hU x hx y hy j hj hyj]
def Trk.chl (t : Trk) (cv : Value) (cl : List Nat) : Trk := ⟨t.bg, t.fr, t.av, t.en, t.pv, cv, t.al, t.pl, cl⟩
/-- The tracks while those of the second map begin. -/
structure SecT (T0 T : List Trk) (of0 of : Nat × Nat → Option Nat) (E : List Evm) (K0 j : Nat) : Prop where
  old : ∀ (q : Nat) (t : Trk), q < K0 → T0[q]? = some t → ∃ cv cl, T[q]? = some (t.chl cv cl)
  new : ∀ (q : Nat) (t : Trk), K0 ≤ q → T[q]? = some t → t.fr = 1
  cls : ∀ (q : Nat) (t : Trk), T[q]? = some t → t.cl.length ≤ 100 * j
  lens : ∀ (q : Nat) (t : Trk), T[q]? = some t → t.al.length ≤ 100 ∧ t.pl.length ≤ 100
  len : K0 ≤ T.length
  len2 : T.length ≤ K0 + j
  zero : ∀ q, q < K0 → of (0, q) = some q
  kept : ∀ x ∈ E, x.k = 4 → ∀ q ∈ x.e.2.2, of (1, q) = of0 (1, q)
  born : ∀ q, q < j → ∀ x ∈ E, q ∈ x.e.2.2 → x.k ≠ 4 → ∃ k, of (1, q) = some k ∧ K0 ≤ k ∧ k < T.length
theorem SecT.skip {T0 T : List Trk} {of0 of : Nat × Nat → Option Nat} {E : List Evm} {K0 j : Nat} (h : SecT T0 T of0 of E K0 j) {x : Evm} (hx : x ∈ E) (hj : j ∈ x.e.2.2) (hk : x.k = 4) (hU : ∀ x ∈ E, ∀ y ∈ E, ∀ j, j ∈ x.e.2.2 → j ∈ y.e.2.2 → x = y) : SecT T0 T of0 of E K0 (j + 1) :=
  ⟨h.old, h.new, fun q t ht => by have := h.cls q t ht; omega, h.lens, h.len, by have := h.len2; omega, h.zero, h.kept, fun q hq y hy hqy hyk => by
    by_cases e : q < j
    · exact h.born q e y hy hqy hyk
    · obtain rfl : q = j := by omega
      rw [hU x hx y hy q hj hqy] at hk
      exact absurd hk hyk⟩
/-- Children are noted, so many. -/
structure ChlT (T T' : List Trk) (b i : Nat) : Prop where
  len : T'.length = T.length
  trk : ∀ (q : Nat) (t : Trk), T[q]? = some t → ∃ cv cl, T'[q]? = some (t.chl cv cl)
  cls : ∀ (q : Nat) (t : Trk), T'[q]? = some t → t.cl.length ≤ b + i
theorem ChlT.start {T : List Trk} {b : Nat} (h : ∀ (q : Nat) (t : Trk), T[q]? = some t → t.cl.length ≤ b) : ChlT T T b 0 := ⟨rfl, fun q t ht => ⟨t.cv, t.cl, ht⟩, fun q t ht => h q t ht⟩
theorem ChlT.set {T T' : List Trk} {b i k : Nat} {t : Trk} {cv : Value} {n : Nat} (h : ChlT T T' b i) (hk : T'[k]? = some t) : ChlT T (T'.set k (t.chl cv (t.cl ++ [n]))) b (i + 1) := by
  refine ⟨by rw [List.length_set]; exact h.len, fun q u hq => ?_, fun q u hq => ?_⟩
  · obtain ⟨cv', cl', h'⟩ := h.trk q u hq
    by_cases e : k = q
    · subst e
      rw [List.getElem?_set_self (List.getElem?_eq_some_iff.1 hk).1]
      have := Option.some.inj (hk.symm.trans h')
      subst this
      exact ⟨cv, _, rfl⟩
    · rw [List.getElem?_set_ne e]
      exact ⟨cv', cl', h'⟩
  · by_cases e : k = q
    · subst e
      rw [List.getElem?_set_self (List.getElem?_eq_some_iff.1 hk).1] at hq
      have := Option.some.inj hq
      subst this
      have := h.cls k t hk
      simp only [Trk.chl, List.length_append, List.length_singleton]
      omega
    · rw [List.getElem?_set_ne e] at hq
      have := h.cls q u hq
      omega
theorem SecT.add {T0 T T' : List Trk} {of0 of : Nat × Nat → Option Nat} {E : List Evm} {K0 j nf : Nat} (h : SecT T0 T of0 of E K0 j) {x : Evm} (hx : x ∈ E) (hj : j ∈ x.e.2.2) (hk : x.k ≠ 4) (hU : ∀ x ∈ E, ∀ y ∈ E, ∀ j, j ∈ x.e.2.2 → j ∈ y.e.2.2 → x = y) {av pv : Value} {pl : List Nat} (hT : ChlT (T ++ [newT x.k 1 j av pv pl]) T' (100 * j) nf) (hnf : nf ≤ 100) (hpl : pl.length ≤ 100) : SecT T0 T' of0 (putO of (1, j) T.length) E K0 (j + 1) := by
  have hl : T'.length = T.length + 1 := by rw [hT.len, List.length_append]; rfl
  refine ⟨fun q t hq ht => ?_, fun q t hq ht => ?_, fun q t ht => by have := hT.cls q t ht; omega, fun q t ht => ?_, by have := h.len; omega, by have := h.len2; omega, fun q hq => ?_, fun y hy hyk q hq => ?_, fun q hq y hy hqy hyk => ?_⟩
  · obtain ⟨cv, cl, h1⟩ := h.old q t hq ht
    obtain ⟨cv2, cl2, h2⟩ := hT.trk q (t.chl cv cl) (by rw [List.getElem?_append_left (List.getElem?_eq_some_iff.1 h1).1]; exact h1)
    exact ⟨cv2, cl2, h2⟩
  · have hqT' := (List.getElem?_eq_some_iff.1 ht).1
    by_cases e : q < T.length
    · obtain ⟨u, hu⟩ : ∃ u, T[q]? = some u := ⟨_, List.getElem?_eq_getElem e⟩
      obtain ⟨cv, cl, h2⟩ := hT.trk q u (by rw [List.getElem?_append_left e]; exact hu)
      have := Option.some.inj (ht.symm.trans h2)
      subst this
      exact h.new q u hq hu
    · obtain rfl : q = T.length := by omega
      obtain ⟨cv, cl, h2⟩ := hT.trk T.length (newT x.k 1 j av pv pl) (by rw [List.getElem?_append_right (Nat.le_refl _), Nat.sub_self]; rfl)
      have := Option.some.inj (ht.symm.trans h2)
      subst this
      rfl
  · have hqT' := (List.getElem?_eq_some_iff.1 ht).1
    by_cases e : q < T.length
    · obtain ⟨u, hu⟩ : ∃ u, T[q]? = some u := ⟨_, List.getElem?_eq_getElem e⟩
      obtain ⟨cv, cl, h2⟩ := hT.trk q u (by rw [List.getElem?_append_left e]; exact hu)
      have := Option.some.inj (ht.symm.trans h2)
      subst this
      exact h.lens q u hu
    · obtain rfl : q = T.length := by omega
      obtain ⟨cv, cl, h2⟩ := hT.trk T.length (newT x.k 1 j av pv pl) (by rw [List.getElem?_append_right (Nat.le_refl _), Nat.sub_self]; rfl)
      have := Option.some.inj (ht.symm.trans h2)
      subst this
      exact ⟨by show 1 ≤ 100; omega, hpl⟩
  · unfold putO
    rw [if_neg (fun h2 => by have := congrArg (·.1) h2; simp at this)]
    exact h.zero q hq
  · have e : q ≠ j := fun e => by subst e; rw [hU x hx y hy q hj hq] at hk; exact hk hyk
    unfold putO
    rw [if_neg (fun h2 => e (congrArg (·.2) h2))]
    exact h.kept y hy hyk q hq
  · by_cases e : q = j
    · subst e
      refine ⟨T.length, ?_, h.len, by omega⟩
      unfold putO
      rw [if_pos rfl]
    · obtain ⟨k, h1, h2, h3⟩ := h.born q (by omega) y hy hqy hyk
      refine ⟨k, ?_, h2, by omega⟩
      unfold putO
      rw [if_neg (fun h2 => e (congrArg (·.2) h2))]
      exact h1
theorem sort_id {l : List Nat} (h : l.Pairwise (· < ·)) : ((l.map fun p : Nat => (p : Int)).mergeSort fun x y => decide (x ≤ y)) = l.map fun p : Nat => (p : Int) := by
  refine (List.mergeSort_perm _ _).eq_of_pairwise (le := fun a b => a ≤ b) (fun a b _ _ h1 h2 => Int.le_antisymm h1 h2) ?_ ?_
  · have h := List.pairwise_mergeSort (le := fun x y : Int => decide (x ≤ y)) (fun a b c h1 h2 => by simp at *; omega) (fun a b => by simp; omega) (l.map fun p : Nat => (p : Int))
    exact h.imp fun h => by simpa using h
  · rw [List.pairwise_map]
    exact h.imp fun h => by omega
theorem sort_nil (w : World) : Calls Try.prog 62 #[.slice none 0 0] w fun e w' => e = .returned (.tuple #[]) ∧ w' = w := Go.Proofs.Any.slices_Sort_int_none Try.lays189 none 0 w
theorem perm_chl {α : Type} (bk trk mp sp a : α) (A Q : List α) {C : List α} (X : List α) {i : Nat} (h : C[i]? = some a) : (bk :: trk :: mp :: sp :: (A ++ (Q ++ (C ++ X)))).Perm (trk :: a :: bk :: mp :: sp :: (A ++ (Q ++ (C.eraseIdx i ++ X)))) := by
  have h1 : (C ++ X).Perm (a :: (C.eraseIdx i ++ X)) := (perm_get h).append_right X
  have h2 : (Q ++ (C ++ X)).Perm (a :: (Q ++ (C.eraseIdx i ++ X))) := (h1.append_left Q).trans List.perm_middle
  have h3 : (A ++ (Q ++ (C ++ X))).Perm (a :: (A ++ (Q ++ (C.eraseIdx i ++ X)))) := (h2.append_left A).trans List.perm_middle
  refine ((h3.append_left [bk, trk, mp, sp])).trans ?_
  refine (List.perm_middle (l₁ := [bk, trk, mp, sp]) (a := a)).trans ?_
  exact (((List.perm_middle (l₁ := [bk]) (a := trk) (l₂ := mp :: sp :: (A ++ (Q ++ (C.eraseIdx i ++ X))))).cons a)).trans (List.Perm.swap _ _ _)
theorem perm_chl2 {α : Type} (bk trk mp sp a : α) (A Q : List α) {C : List α} (X : List α) {i : Nat} (h : i < C.length) : (trk :: a :: bk :: mp :: sp :: (A ++ (Q ++ (C.eraseIdx i ++ X)))).Perm (bk :: trk :: mp :: sp :: (A ++ (Q ++ (C.set i a ++ X)))) := by
  have := perm_chl bk trk mp sp a A Q (C := C.set i a) X (i := i) (List.getElem?_set_self h)
  rw [set_erase'] at this
  exact this.symm
theorem Bk.mem {B : Bk} {base : Nat} {R : List Th} {t : Th} (h : t ∈ R) : t ∈ B.ts base R := by
  obtain ⟨Hd, hH⟩ := @Bk.ts_mid B base R
  rw [hH]
  exact List.mem_append_right _ h
theorem Bk.backL {B : Bk} {base : Nat} {w0 W : World} {L R : List Th} (h : Mem w0 (L ++ B.ts base R) W) : Mem w0 (B.ts base (L ++ R)) W := by
  obtain ⟨Hd, hH⟩ := @Bk.ts_mid B base R
  rw [hH] at h ⊢
  refine h.perm ?_
  rw [← List.append_assoc, ← List.append_assoc]
  exact List.perm_append_comm.append_right R
/-- While the children are noted. -/
def ChlS (B : Bk) (base : Nat) (w0 : World) (Q : List Th) (b i : Nat) (wr : World) : Prop := ∃ T', ChlT B.T T' b i ∧ Mem w0 (({ B with T := T' } : Bk).ts base Q) wr
end Go.Proofs.Ytidbjidcjmbnlaa
end
section
namespace Go.Proofs.Ytidbjidcjmbnlaa
open Go Go.RowKit
attribute [local go_sem] Oper.semAt_some

def Bth1 (B : Bk) (base : Nat) (w0 : World) (R : List Th) (E : List Evm) (K0 j : Nat) (wr : World) : Prop :=
  ∃ tv T of c, SecT B.T T B.of of E K0 j ∧ c ≤ B.c + j ∧ Mem w0 (({ B with tv := tv, T := T, of := of, c := c } : Bk).ts base R) wr
/-- The map of events by areas, while it is laid. -/
def ByS (E : List Evm) (mY : Nat) (k i : Nat) (w0 : World) (X : List Th) (wr : World) : Prop := ∃ f c, ByI E k i f ∧ c ≤ 100 * k + i ∧ Mem w0 (thK Try.prog 3 nmL okNm mY f c :: X) wr
set_option maxHeartbeats 4000000 in
set_option maxRecDepth 100000 in
theorem births_one (B : Bk) (s0 s1 : Spr) (base n ce : Nat) (Ae : Option Addr) (E : List Evm) (K0 K1 : Nat) (w0 w : World) (R : List Th) (hb0 : base ≤ w0.heap.size) (hS : B.S = [s0, s1]) (hK1 : s1.K = K1) (hK : K1 ≤ 64) (hKz : K0 ≤ 64) (hn : E.length = n) (hn2 : n ≤ 128) (hc : B.c ≤ 10000)
    (hU : ∀ x ∈ E, ∀ y ∈ E, ∀ j, j ∈ x.e.2.2 → j ∈ y.e.2.2 → x = y) (hall : ∀ j, j < K1 → ∃ x ∈ E, j ∈ x.e.2.2) (hto : ∀ x ∈ E, x.e.2.2.length ≤ K1 ∧ ∀ j ∈ x.e.2.2, j < K1) (hfr : ∀ x ∈ E, x.e.2.1.length ≤ K0 ∧ x.e.2.1.Pairwise (· < ·) ∧ ∀ i ∈ x.e.2.1, i < K0) (hkd : ∀ x ∈ E, 0 ≤ x.k ∧ x.k ≤ 7)
    (hsec : SecT B.T B.T B.of B.of E K0 0)
    (hrow : .row base 106 3 (.slice Ae n ce) n (evCells E) ∈ R) (hrF : ∀ x ∈ E, thF base x ∈ R) (hrT : ∀ x ∈ E, thT base x ∈ R) (hM : Mem w0 (B.ts base R) w) :
    Calls Try.prog 33 #[.pointer (some ⟨B.p, 0, none⟩), .int .i64 1, .slice Ae n ce] w fun e w' => e = .returned (.tuple #[]) ∧ Bth1 B base w0 R E K0 K1 w' := by
  obtain ⟨PP, hPP⟩ : ∃ PP : Ending → World → Prop, (fun e w' => e = .returned (.tuple #[]) ∧ Bth1 B base w0 R E K0 K1 w') = PP := ⟨_, rfl⟩
  rw [hPP]
  obtain ⟨p, hp⟩ : ∃ p, B.p = p := ⟨_, rfl⟩
  rw [hp]
  have hmv : ∃ gm cm, B.mv = .slice (some ⟨gm, 0, none⟩) 2 cm := by
    have h := hM.row_ 3 rfl
    rw [hS] at h
    obtain ⟨A, c, e⟩ := own_shape2 h
    rw [e] at h ⊢
    obtain ⟨b, cur, rfl, -⟩ := row_blk h (by simp)
    exact ⟨b, c, rfl⟩
  obtain ⟨gm, cm, hmv⟩ := hmv
  have hrd : ∀ (B' : Bk) (Q : List Th) (W : World), B'.mv = B.mv → B'.S = B.S → B'.p = B.p → Mem w0 (B'.ts base Q) W → W.cell? ⟨p, 8, none⟩ = some (.slice (some ⟨gm, 0, none⟩) 2 cm) ∧ p < W.heap.size ∧ W.cell? ⟨gm, 12, none⟩ = some (.slice (some ⟨s1.bo, 0, none⟩) K1 K1) ∧ gm < W.heap.size := by
    intro B' Q W e1 e2 e3 h
    have hb : Blk W B'.p _ _ := h.blk_ 0 rfl
    have hr := h.row_ 3 rfl
    rw [e1, e2, hS, hmv] at hr
    obtain ⟨b, cur, eb, -, hbb, -, -, hcc⟩ := row_blk hr (by simp)
    have e8 : gm = b := congrArg (fun o : Option Addr => (o.getD ⟨0, 0, none⟩).block) eb
    subst e8
    rw [e3, hp] at hb
    refine ⟨?_, hb.lt, ?_, hbb.lt⟩
    · rw [← hmv, ← e1]
      exact hb.c 8 rfl
    · refine hbb.c 12 (hcc 12 _ ?_)
      unfold sprCells
      rw [← hK1]
      rfl
  obtain ⟨X, hX⟩ : ∃ X, B.ts base R = X := ⟨_, rfl⟩
  have hXR : ∀ t ∈ R, t ∈ X := fun t ht => by
    obtain ⟨Hd, hH⟩ := @Bk.ts_mid B base R
    rw [← hX, hH]
    exact List.mem_append_right _ ht
  rw [hX] at hM
  have HM := hide hM
  have HRD := hide hrd
  have HPP := hide hPP
  have HU := hide hU
  have HALL := hide hall
  have HTO := hide hto
  have HFR := hide hfr
  have HKD := hide hkd
  have HSEC := hide hsec
  have HROW := hide hrow
  have HRF := hide hrF
  have HRT := hide hrT
  have HN := hide hn
  have HX := hide hX
  have HXR := hide hXR
  clear hM hrd hPP hU hall hto hfr hkd hsec hrow hrF hrT hn hX hXR
  clear hmv hS hK1
  go_enter Try.func33, Try.ntmps33
  have hmm := @run_makeMap Try.prog
  go_upto_region 10 with fail
  clear hmm
  refine code_world fun w2 hw2 => ?_
  obtain ⟨mY, hmY⟩ : ∃ q, w.heap.size = q := ⟨_, rfl⟩
  simp only [hmY]
  have hM2 := Mem.to (HM.out.newMapK Try.prog 3 nmL okNm mY hmY.symm) hw2
  have HB0 := hide (show ByS E mY 0 0 w0 X w2 from ⟨_, 0, byI_nil E, Nat.le_refl _, hM2⟩)
  clear hM2 HM hw2 hmY
  go_loopw [22] (fun u wr => ∃ k : Nat, k ≤ n ∧ u = .int .i64 (k : Nat) ∧ Hid (ByS E mY k 0 w0 X wr)) (fun u _ => n - (intOf u).toNat)
  case atStart => exact ⟨0, Nat.zero_le _, rfl, HB0⟩
  case round =>
    obtain ⟨k, hkn, rfl, HB⟩ := hrel
    clear HB0
    by_cases hlt : k < n
    · have hlt2 : (k : Int) < n := by omega
      obtain ⟨f, c, hby, hcc, hM⟩ := HB.out
      obtain ⟨x, hx⟩ : ∃ x, E[k]? = some x := ⟨_, List.getElem?_eq_getElem (by rw [HN.out]; exact hlt)⟩
      have hxm := List.mem_of_getElem? hx
      have hev := hM.all _ (List.mem_cons_of_mem _ (HXR.out _ HROW.out))
      obtain ⟨ge, cur, rfl, -, hbe, -, -, hce⟩ := row_blk (show wr.ownsRow base 106 3 (.slice Ae n ce) n (evCells E) from hev) (by omega)
      have e0 := hbe.c (k * 3) (hce _ _ (evCells_get hx).1)
      have e1 := hbe.c (k * 3 + 1) (hce _ _ (evCells_get hx).2.1)
      have e2 := hbe.c (k * 3 + 2) (hce _ _ (evCells_get hx).2.2)
      have lte := hbe.lt
      have hrt := hM.all _ (List.mem_cons_of_mem _ (HXR.out _ (HRT.out x hxm)))
      have hrf := hM.all _ (List.mem_cons_of_mem _ (HXR.out _ (HRF.out x hxm)))
      obtain ⟨xk, xf, xt, xe⟩ := x
      obtain ⟨At, ct, rfl⟩ := own_shape2 (show wr.ownsRow base 3 1 xt xe.2.2.length (numsV xe.2.2) from hrt)
      obtain ⟨Af, cf, rfl⟩ := own_shape2 (show wr.ownsRow base 3 1 xf xe.2.1.length (numsV xe.2.1) from hrf)
      have hl1 := (HTO.out _ hxm).1
      have hl2 := (HTO.out _ hxm).2
      dsimp only at e0 e1 e2 hl1 hl2
      obtain ⟨nt, hnt⟩ : ∃ q, xe.2.2.length = q := ⟨_, rfl⟩
      obtain ⟨nf, hnf⟩ : ∃ q, xe.2.1.length = q := ⟨_, rfl⟩
      have hrtT : thT base ⟨xk, .slice Af xe.2.1.length cf, .slice At xe.2.2.length ct, xe⟩ ∈ X := HXR.out _ (HRT.out _ hxm)
      unfold thT at hrtT
      dsimp only at hrtT
      rw [hnt] at e2 hl1 hrtT
      rw [hnf] at e1
      simp only [hnt, hnf] at hx
      have HM := hide hM
      have HXE := hide hx
      have HBY := hide hby
      have HCC := hide hcc
      have HNT := hide hnt
      have HNF := hide hnf
      have HL2 := hide hl2
      have HRTT := hide hrtT
      clear hM hx hby hcc hnt hnf hl2 hrtT
      clear hbe hce hev hrt hrf HB hxm
      go_upto_region 4 with fail
      refine code_world fun w3 hW => ?_
      have HMn := Mem.to (Mem.allocAt HM.out wr.heap.size rfl #[.int .i64 xk, .slice Af nf cf, .slice At nt ct] 106) hW
      have LW : Later wr w3 := by rw [hW]; exact ((Below.refl _ _).alloc (Nat.le_refl _) _)
      have szW : w3.heap.size = wr.heap.size + 1 := by rw [hW]; simp
      clear hW
      replace HM := hide HMn
      clear HMn LW
      clear szW e0 e1 e2 lte
      obtain ⟨ev, hev⟩ : ∃ q, wr.heap.size = q := ⟨_, rfl⟩
      rw [hev] at HM
      simp only [hev]
      clear hev
      have be : Blk w3 ev 106 #[.int .i64 xk, .slice Af nf cf, .slice At nt ct] := HM.out.get 0 rfl
      have lte := be.lt
      have e0 := be.c 0 rfl
      have e1 := be.c 1 rfl
      have e2 := be.c 2 rfl
      have HB1 := hide (show ByS E mY k 0 w0 (.blk ev 106 #[.int .i64 xk, .slice Af nf cf, .slice At nt ct] :: X) w3 from ⟨f, c, HBY.out, HCC.out, HM.out.perm (List.Perm.swap _ _ _)⟩)
      clear HBY HCC HM
      go_wp2_with fail
      clear e0 e1 e2 lte be
      go_loopw [29] (fun u wr => ∃ i : Nat, i ≤ nt ∧ u = .int .i64 (i : Nat) ∧ Hid (ByS E mY k i w0 (.blk ev 106 #[.int .i64 xk, .slice Af nf cf, .slice At nt ct] :: X) wr)) (fun u _ => nt - (intOf u).toNat)
      case atStart => exact ⟨0, Nat.zero_le _, rfl, HB1⟩
      case round =>
        obtain ⟨i, hin, rfl, HB⟩ := hrel
        clear HB1
        obtain ⟨f, c, hby, hcc, hM⟩ := HB.out
        by_cases hli : i < nt
        · have hli2 : (i : Int) < nt := by omega
          have hrt := hM.all _ (List.mem_cons_of_mem _ (List.mem_cons_of_mem _ HRTT.out))
          obtain ⟨bt, cur, rfl, -, hbt, -, -, hct⟩ := row_blk (show wr.ownsRow base 3 1 (.slice At nt ct) nt (numsV xe.2.2) from hrt) (by omega)
          have hil : i < xe.2.2.length := by rw [HNT.out]; exact hli
          have t0 := hbt.c i (hct i _ (numsV_get hil))
          have ltt := hbt.lt
          have hjlt := HL2.out (xe.2.2.getD i 0) (by rw [List.getD_eq_getElem?_getD, List.getElem?_eq_getElem hil]; exact List.getElem_mem _)
          have hput := hby.put HXE.out hil
          dsimp only at hput
          obtain ⟨j, hj⟩ : ∃ j, xe.2.2.getD i 0 = j := ⟨_, rfl⟩
          rw [hj] at t0 hjlt hput
          have HM := hide hM
          have HPT := hide hput
          have HCC := hide hcc
          clear hbt hct hrt hput hcc hby hM HB hj
          have HMK := hide (HM.out.map_ 0 rfl)
          have hc100 := HCC.out
          have be : Blk wr ev 106 #[.int .i64 xk, .slice Af nf cf, .slice (some ⟨bt, 0, none⟩) nt ct] := HM.out.get 1 rfl
          have lte := be.lt
          have e0 := be.c 0 rfl
          have e1 := be.c 1 rfl
          have e2 := be.c 2 rfl
          go_wp2_with (at_mapUpdate; refine wpList_storeK _ rfl _ _ _ _ rfl 3 106 nmKey Try.underlying147 mY c f rfl HMK.out (by unfold maxLen; omega) j rfl (show j ≤ 1000000 by omega) (.agg #[.int .i64 xk, .slice Af nf cf, .slice (some ⟨bt, 0, none⟩) nt ct]) rfl ?_; intro w5 hm5 hg5)
          have hM5 := HM.out.mapK 0 rfl hm5 hg5
          simp only [List.set_cons_zero] at hM5
          have HB5 := hide (show ByS E mY k (i + 1) w0 (.blk ev 106 #[.int .i64 xk, .slice Af nf cf, .slice (some ⟨bt, 0, none⟩) nt ct] :: X) w5 from ⟨_, _, HPT.out, by split <;> omega, hM5⟩)
          clear HM HMK hm5 hg5 hM5 e0 e1 e2 lte be t0 ltt HPT HCC
          go_wp2_with fail
          go_roundw
          case rel => exact ⟨i + 1, hli, by go_num, HB5⟩
          case measure => simp [intOf] <;> omega
        · have hii : i = nt := by omega
          have hnli : ¬ ((i : Int) < nt) := by omega
          have HB5 := hide (show ByS E mY (k + 1) 0 w0 X wr from ⟨f, c, hby.next HXE.out (by dsimp only; rw [HNT.out]; exact hii), by omega, (hM.perm (List.Perm.swap _ _ _)).tail⟩)
          clear HB hby hcc hM
          go_wp2_with fail
          go_roundw
          case rel => exact ⟨k + 1, hlt, by go_num, HB5⟩
          case measure => simp [intOf] <;> omega
    · have hkk : k = n := by omega
      have hnlt : ¬ ((k : Int) < n) := by omega
      obtain ⟨f, c0, hby, -, hM⟩ := HB.out
      rw [hkk, ← HN.out] at hby
      have hat := fun j (hj : j < K1) => (HALL.out j hj).elim fun x hx => (⟨x, hx.1, hx.2, hby.at hx.1 hx.2 HU.out⟩ : ∃ x ∈ E, j ∈ x.e.2.2 ∧ f j = some (evV x))
      rw [← HX.out] at hM
      obtain ⟨c1, c2, c3, c4⟩ := HRD.out B R wr rfl rfl rfl hM.tail
      have HB3 := hide (show Bth1 B base w0 (thK Try.prog 3 nmL okNm mY f c0 :: R) E K0 0 wr from ⟨B.tv, B.T, B.of, B.c, HSEC.out, Nat.le_refl _, Bk.back hM⟩)
      have HAT := hide hat
      clear hby hM hat HB
      go_wp2_with fail
      clear c1 c2 c3 c4
      go_loopw [47] (fun u wr => ∃ j : Nat, j ≤ K1 ∧ u = .int .i64 (j : Nat) ∧ Hid (Bth1 B base w0 (thK Try.prog 3 nmL okNm mY f c0 :: R) E K0 j wr)) (fun u _ => K1 - (intOf u).toNat)
      case atStart => exact ⟨0, Nat.zero_le _, rfl, HB3⟩
      case round =>
        obtain ⟨j, hjK, rfl, HB⟩ := hrel
        clear HB3
        by_cases hlt : j < K1
        · have hlt2 : (j : Int) < K1 := by omega
          obtain ⟨tv, T, of, c, hs, hcj, hM⟩ := HB.out
          obtain ⟨x, hx, hjx, hfj⟩ := HAT.out j hlt
          have hMf := Bk.front hM
          have HMK := hide (hMf.map_ 0 rfl)
          have hrt := hMf.all _ (List.mem_cons_of_mem _ (Bk.mem (HRT.out x hx)))
          have hrf := hMf.all _ (List.mem_cons_of_mem _ (Bk.mem (HRF.out x hx)))
          obtain ⟨xk, xf, xt, xe⟩ := x
          obtain ⟨At, ct, rfl⟩ := own_shape2 (show wr.ownsRow base 3 1 xt xe.2.2.length (numsV xe.2.2) from hrt)
          obtain ⟨Af, cf, rfl⟩ := own_shape2 (show wr.ownsRow base 3 1 xf xe.2.1.length (numsV xe.2.1) from hrf)
          have hkx := HKD.out _ hx
          have hfx := HFR.out _ hx
          dsimp only at hkx hfx hjx
          unfold evV at hfj
          dsimp only at hfj
          have hrfR : thF base ⟨xk, .slice Af xe.2.1.length cf, .slice At xe.2.2.length ct, xe⟩ ∈ R := HRF.out _ hx
          unfold thF at hrfR
          dsimp only at hrfR
          obtain ⟨nt, hnt⟩ : ∃ q, xe.2.2.length = q := ⟨_, rfl⟩
          obtain ⟨nf, hnf⟩ : ∃ q, xe.2.1.length = q := ⟨_, rfl⟩
          rw [hnf] at hfx hrfR
          simp only [hnt, hnf] at hfj hx
          obtain ⟨hf1, hf2, hf3⟩ := hfx
          have HM := hide hMf
          have HS := hide hs
          have HXE := hide hx
          have HJX := hide hjx
          have HNF := hide hnf
          have HCJ := hide hcj
          have HF2 := hide hf2
          have HF3 := hide hf3
          have HRFR := hide hrfR
          clear hs hx hjx hnf hcj hf2 hf3 hrfR
          clear hrt hrf hM hMf HB hnt
          go_upto_region 14 with (at_lookup; refine wpList_lookK _ rfl _ _ _ rfl 3 106 nmKey Try.underlying147 (.agg #[.int .i64 0, .slice none 0 0, .slice none 0 0]) (by kernel_rfl) mY c0 f rfl HMK.out j rfl (show j ≤ 1000000 by omega) (.agg #[.int .i64 xk, .slice Af nf cf, .slice At nt ct]) (by rw [hfj]; rfl) ?_)
          clear HMK hfj
          refine code_world fun w3 hW => ?_
          have HMn := Mem.to (Mem.allocAt HM.out wr.heap.size rfl #[.int .i64 xk, .slice Af nf cf, .slice At nt ct] 106) hW
          have LW : Later wr w3 := by rw [hW]; exact ((Below.refl _ _).alloc (Nat.le_refl _) _)
          have szW : w3.heap.size = wr.heap.size + 1 := by rw [hW]; simp
          clear hW
          replace HM := hide HMn
          clear HMn LW
          clear szW
          obtain ⟨ev, hev⟩ : ∃ q, wr.heap.size = q := ⟨_, rfl⟩
          rw [hev] at HM
          simp only [hev]
          clear hev
          have be : Blk w3 ev 106 #[.int .i64 xk, .slice Af nf cf, .slice At nt ct] := HM.out.get 0 rfl
          have lte := be.lt
          have e0 := be.c 0 rfl
          have e1 := be.c 1 rfl
          have e2 := be.c 2 rfl
          by_cases hk4 : xk = 4
          · have HB5 := hide (show Bth1 B base w0 (thK Try.prog 3 nmL okNm mY f c0 :: R) E K0 (j + 1) w3 from ⟨tv, T, of, c, HS.out.skip HXE.out HJX.out hk4 HU.out, by have := HCJ.out; omega, Bk.back HM.out.tail⟩)
            clear HM
            go_wp2_with fail
            go_roundw
            case rel => exact ⟨j + 1, hlt, by go_num, HB5⟩
            case measure => simp [intOf] <;> omega
          · have hk4b : (xk != 4) = true := by simp [hk4]
            obtain ⟨X2, hX2⟩ : ∃ X2, (.blk ev 106 #[.int .i64 xk, .slice Af nf cf, .slice At nt ct] :: thK Try.prog 3 nmL okNm mY f c0 :: ({ B with tv := tv, T := T, of := of, c := c } : Bk).ts base R) = X2 := ⟨_, rfl⟩
            have HX2 := hide hX2
            have hM3 := HM.out
            rw [hX2] at hM3
            have HL0 := hide (hM3.nilRow base 3 1)
            clear hX2 hM3 HM
            go_wp2_with fail
            clear e0 e1 e2 lte be
            go_loopw [13, 67] (fun v u wr => ∃ (i : Nat) (pv : Value), i ≤ nf ∧ u = .int .i64 (i : Nat) ∧ v = pv ∧ (i = 0 → pv = .slice none 0 0) ∧ Hid (Mem w0 (.row base 3 1 pv i (numsV (xe.2.1.take i)) :: X2) wr)) (fun _ u _ => nf - (intOf u).toNat)
            case atStart => exact ⟨0, .slice none 0 0, Nat.zero_le _, rfl, rfl, fun _ => rfl, HL0⟩
            case round =>
              obtain ⟨i, pv, hin, rfl, hv, hpz, HM⟩ := hrel
              have hv' := hv.symm
              subst hv'
              clear HL0
              by_cases hli : i < nf
              · have hli2 : (i : Int) < nf := by omega
                have hrf := HM.out.all (.row base 3 1 (.slice Af nf cf) nf (numsV xe.2.1)) (List.mem_cons_of_mem _ (by rw [← HX2.out]; exact List.mem_cons_of_mem _ (List.mem_cons_of_mem _ (Bk.mem HRFR.out))))
                obtain ⟨bf, cur, rfl, -, hbf, -, -, hcf⟩ := row_blk (show wr.ownsRow base 3 1 (.slice Af nf cf) nf (numsV xe.2.1) from hrf) (by omega)
                have hil : i < xe.2.1.length := by rw [HNF.out]; exact hli
                have f0 := hbf.c i (hcf i _ (numsV_get hil))
                have ltf := hbf.lt
                have hqK := HF3.out (xe.2.1.getD i 0) (by rw [List.getD_eq_getElem?_getD, List.getElem?_eq_getElem hil]; exact List.getElem_mem _)
                have htk : numsV (xe.2.1.take (i + 1)) = numsV (xe.2.1.take i) ++ [.int .i64 ((xe.2.1.getD i 0 : Nat) : Int)] := by
                  rw [List.take_add_one, List.getElem?_eq_getElem hil]
                  unfold numsV
                  rw [List.map_append, List.getD_eq_getElem?_getD, List.getElem?_eq_getElem hil]
                  rfl
                obtain ⟨q, hq⟩ : ∃ q, xe.2.1.getD i 0 = q := ⟨_, rfl⟩
                rw [hq] at f0 hqK htk
                have hmk : MapK wr Try.prog 118 plL okPl B.mb (ofV of) c := HM.out.all (thK Try.prog 118 plL okPl B.mb (ofV of) c) (List.mem_cons_of_mem _ (by rw [← HX2.out]; unfold Bk.ts; simp))
                have hlk : (Instr.lookup 96 (.map (some B.mb)) (.agg #[.int .i64 0, .int .i64 (q : Nat)]) false).run Try.prog wr = .ok (.int .i64 (q : Nat)) wr := look_of (num := 0) hmk (by omega) (by omega) (HS.out.zero q hqK)
                have hbk : Blk wr B.p 100 (({ B with tv := tv, T := T, of := of, c := c } : Bk).cells) := HM.out.all (.blk B.p 100 (({ B with tv := tv, T := T, of := of, c := c } : Bk).cells)) (List.mem_cons_of_mem _ (by rw [← HX2.out]; unfold Bk.ts; simp))
                rw [hp] at hbk
                have b10 : wr.cell? ⟨p, 10, none⟩ = some (.map (some B.mb)) := hbk.c 10 rfl
                have ltp := hbk.lt
                have HTK := hide htk
                clear hbf hcf hrf hq hmk hbk htk
                obtain ⟨i0, hi0, hy0, hy1, hy2⟩ := info_parts intInfoT
                have Hi := hide hi0
                have Hz0 := hide hy0
                have Hz1 := hide hy1
                have Hz2 := hide hy2
                clear hi0 hy0 hy1 hy2
                have hbaseM : base ≤ wr.heap.size := Nat.le_trans hb0 HM.out.size
                obtain ⟨Ap, cp, rfl⟩ := own_shape2 (HM.out.row_ 0 rfl)
                have hownM := Mem.row_ HM.out 0 rfl
                
                go_wp2_with (at_builtin; refine wpList_append_own_at _ rfl (.tmp 71) (.tmp 81) _ rfl _ 3 i0 _ 1 8 Try.underlying33 Hi.out Hz0.out Hz1.out Hz2.out rfl (by decide) _ i (numsV (xe.2.1.take i)) rfl (hownM.alloc _) ⟨wr.heap.size, 0, none⟩ 1 1 [.int .i64 (q : Nat)] rfl rfl ?q1c1 (by intro u hu; simp only [List.mem_cons, List.not_mem_nil, or_false] at hu; rcases hu with rfl <;> rfl) ?q1c3 ?q1c4 ?q1c5 ?_)
                try case q1c1 => exact new_cellsQ wr _ [.int .i64 (q : Nat)]
                case q1c3 => unfold maxLen; omega
                case q1c4 => omega
                case q1c5 => first | omega | (simp; omega)
                intro vA wA hown2 hgr2 _ hat2
                have HMn := HM.out.grow 0 rfl _ hgr2 hown2 hat2
                replace HM := hide HMn
                clear HMn hown2 hgr2 hat2 hownM hbaseM
                simp only [List.set_cons_zero] at HM
                rw [← HTK.out] at HM
                clear f0 ltf hlk b10 ltp HTK Hi Hz0 Hz1 Hz2
                go_wp2_with fail
                go_roundw
                case rel => exact ⟨i + 1, vA, hli, by go_num, rfl, fun h => absurd h (by omega), HM⟩
                case measure => simp [intOf] <;> omega
              · have hii : i = nf := by omega
                have hnli : ¬ ((i : Int) < nf) := by omega
                subst hii
                have hfull : xe.2.1.take i = xe.2.1 := List.take_of_length_le (by rw [HNF.out]; exact Nat.le_refl _)
                rw [hfull] at HM
                have hsort : Calls Try.prog 62 #[pv] wr fun e w' => e = .returned (.tuple #[]) ∧ Mem w0 (.row base 3 1 pv i (numsV xe.2.1) :: X2) w' := by
                  by_cases h0 : i = 0
                  · rw [hpz h0]
                    refine (sort_nil wr).mono ?_
                    rintro e w' ⟨rfl, rfl⟩
                    have := HM.out
                    rw [hpz h0] at this
                    exact ⟨rfl, this⟩
                  · have hrow := HM.out.row_ 0 rfl
                    rw [← HNF.out] at hrow
                    refine (sort_any hrow (by rw [HNF.out]; omega) (by rw [HNF.out]; omega) (sort_id HF2.out)).mono ?_
                    rintro e w' ⟨rfl, hg, ho⟩
                    refine ⟨rfl, ?_⟩
                    rw [HNF.out] at ho
                    have := HM.out.grown_ 0 rfl hg ho (.inl rfl)
                    simpa only [List.set_cons_zero] using this
                have HSRT := hide hsort
                obtain ⟨Ap, cp, rfl⟩ := own_shape2 (HM.out.row_ 0 rfl)
                clear hsort hfull HM hpz
                go_wp2_with fail
                refine HSRT.out.mono ?_
                rintro e w6 ⟨rfl, hM6⟩
                rw [← HX2.out] at hM6
                have e0 := (hM6.blk_ 1 rfl).c 0 rfl
                have lte := (hM6.blk_ 1 rfl).lt
                have hT1 : T.length ≤ 1000 := by have := HS.out.len2; omega
                have hM6b := Bk.backL (L := [.row base 3 1 (.slice Ap i cp) i (numsV xe.2.1), .blk ev 106 #[.int .i64 xk, .slice Af i cf, .slice At nt ct], thK Try.prog 3 nmL okNm mY f c0]) hM6
                rw [show (Th.row base 3 1 (.slice Ap i cp) i (numsV xe.2.1)) = .row base 3 1 (.slice Ap i cp) xe.2.1.length (numsV xe.2.1) by rw [HNF.out]] at hM6b
                have hbg := begin_any (({ B with tv := tv, T := T, of := of, c := c } : Bk)) xk 1 j base (.slice Ap i cp) xe.2.1 w0 w6 (.blk ev 106 #[.int .i64 xk, .slice Af i cf, .slice At nt ct] :: thK Try.prog 3 nmL okNm mY f c0 :: R) hb0 hT1 (show c ≤ 1000000 by have := HCJ.out; omega) (by omega) (by omega) hM6b
                dsimp only at hbg
                rw [hp] at hbg
                have HBG := hide hbg
                clear HSRT hM6 hM6b hbg
                go_wp2_with fail
                clear e0 lte
                refine HBG.out.mono ?_
                rintro e w7 ⟨rfl, tv2, av, c2, hc2, hM7⟩
                dsimp only at hM7 hc2
                obtain ⟨T2, hT2⟩ : ∃ q, T ++ [newT xk ((1 : Nat) : Int) j av (.slice Ap i cp) xe.2.1] = q := ⟨_, rfl⟩
                have hT2l : T2.length = T.length + 1 := by rw [← hT2, List.length_append]; rfl
                obtain ⟨nT, hnT⟩ : ∃ q, T2.length = q := ⟨_, rfl⟩
                obtain ⟨nO, hnO⟩ : ∃ q, T.length = q := ⟨_, rfl⟩
                rw [hT2] at hM7
                have hr7 := hM7.row_ 1 rfl
                dsimp only at hr7
                obtain ⟨A2, c9, rfl⟩ := own_shape2 hr7
                clear hr7
                rw [hnT] at hM7
                have hcl0 : ∀ (q : Nat) (t : Trk), T2[q]? = some t → t.cl.length ≤ 100 * j := fun q t ht => by
                  rw [← hT2] at ht
                  by_cases e : q < T.length
                  · rw [List.getElem?_append_left e] at ht
                    exact HS.out.cls q t ht
                  · rw [List.getElem?_append_right (by omega)] at ht
                    have h1 : q - T.length = 0 := by
                      have := (List.getElem?_eq_some_iff.1 ht).1
                      simp at this
                      omega
                    rw [h1] at ht
                    have := Option.some.inj ht
                    subst this
                    exact Nat.zero_le _
                obtain ⟨Q5, hQ5⟩ : ∃ q, (.blk ev 106 #[.int .i64 xk, .slice Af i cf, .slice At nt ct] :: thK Try.prog 3 nmL okNm mY f c0 :: R) = q := ⟨_, rfl⟩
                rw [hQ5] at hM7
                have hnT100 : nT ≤ 200 := by have := HS.out.len2; omega
                rw [hnO] at hM7 hT2l
                rw [← hp] at hM7
                have HC0 := hide (show ChlS ({ B with tv := .slice A2 nT c9, T := T2, of := putO of (1, j) nO, c := c2 } : Bk) base w0 Q5 (100 * j) 0 w7 from ⟨T2, ChlT.start hcl0, hM7⟩)
                simp only [hnO]
                have hKO : K0 ≤ nO := by rw [← hnO]; exact HS.out.len
                have hpar : ∀ T', ChlT T2 T' (100 * j) i → True := fun _ _ => trivial
                have HT2 := hide hT2
                have HQ5 := hide hQ5
                have HNT2 := hide hnT
                have HNO := hide hnO
                have HC2 := hide hc2
                have HT2L := hide hT2l
                clear hT2 hQ5 hnT hnO hc2 hT2l
                clear hM7 hcl0 hpar HBG
                go_wp2_with fail
                go_loopw [96] (fun u wr => ∃ k : Nat, k ≤ i ∧ u = .int .i64 (k : Nat) ∧ Hid (ChlS ({ B with tv := .slice A2 nT c9, T := T2, of := putO of (1, j) nO, c := c2 } : Bk) base w0 Q5 (100 * j) k wr)) (fun u _ => i - (intOf u).toNat)
                case atStart => exact ⟨0, Nat.zero_le _, rfl, HC0⟩
                case round =>
                  obtain ⟨k, hki, rfl, HC⟩ := hrel
                  clear HC0
                  by_cases hlk : k < i
                  · have hlk2 : (k : Int) < i := by omega
                    obtain ⟨T', hch, hM⟩ := HC.out
                    dsimp only at hch hM
                    unfold Bk.ts Bk.cells at hM
                    dsimp only at hM
                    rw [hp] at hM
                    have hT'n : T'.length = nT := hch.len.trans HNT2.out
                    rw [hT'n] at hM
                    have hil : k < xe.2.1.length := by rw [HNF.out]; exact hlk
                    obtain ⟨cvp, clp, hparT⟩ := hch.trk nO (newT xk ((1 : Nat) : Int) j av (.slice Ap i cp) xe.2.1) (by rw [← HT2.out, ← HNO.out, List.getElem?_append_right (Nat.le_refl _), Nat.sub_self]; rfl)
                    have hprow : wr.ownsRow base 3 1 (.slice Ap i cp) xe.2.1.length (numsV xe.2.1) := hM.all (thQ base ((newT xk ((1 : Nat) : Int) j av (.slice Ap i cp) xe.2.1).chl cvp clp)) (by
                      have := List.mem_map_of_mem (f := thQ base) (List.mem_of_getElem? hparT)
                      simp only [List.mem_cons, List.mem_append, this, true_or, or_true])
                    rw [HNF.out] at hprow
                    obtain ⟨bp, cur, rfl, -, hbp, -, -, hcp⟩ := row_blk hprow (by omega)
                    have f0 := hbp.c k (hcp k _ (numsV_get hil))
                    have ltf := hbp.lt
                    have hqK := HF3.out (xe.2.1.getD k 0) (by rw [List.getD_eq_getElem?_getD, List.getElem?_eq_getElem hil]; exact List.getElem_mem _)
                    obtain ⟨q, hq⟩ : ∃ q, xe.2.1.getD k 0 = q := ⟨_, rfl⟩
                    rw [hq] at f0 hqK
                    obtain ⟨t, ht⟩ : ∃ t, T'[q]? = some t := ⟨_, List.getElem?_eq_getElem (by have := HT2L.out; have := HNT2.out; omega)⟩
                    have hcl := hch.cls q t ht
                    have hqn : (q : Int) < nT := by have := HT2L.out; have := HNT2.out; omega
                    obtain ⟨tbg, tfr, tav, ten, tpv, tcv, tal, tpl, tcl⟩ := t
                    have hatC : (T'.map (thC base))[q]? = some (thC base ⟨tbg, tfr, tav, ten, tpv, tcv, tal, tpl, tcl⟩) := by rw [List.getElem?_map, ht]; rfl
                    have hMp := hM.perm (perm_chl _ _ _ _ _ _ _ _ hatC)
                    unfold thC at hMp
                    dsimp only at hMp hcl
                    obtain ⟨nc, hnc⟩ : ∃ q, tcl.length = q := ⟨_, rfl⟩
                    rw [hnc] at hMp hcl
                    obtain ⟨Ac, cc, rfl⟩ := own_shape2 (hMp.row_ 1 rfl)
                    obtain ⟨gT, curT, rfl, -, hbT, -, -, hcT⟩ := row_blk (hMp.row_ 0 rfl) (by omega)
                    have ht5 := hcT (q * 6 + 5) (.slice Ac nc cc) ((trkCells_get ht (j := 5) (by omega)).trans rfl)
                    have t5 := hbT.c (q * 6 + 5) ht5
                    have hoff : q * 6 + 5 < curT.size := (Array.getElem?_eq_some_iff.1 ht5).1
                    have ltT := hbT.lt
                    have hnT : (Value.slice Ac nc cc).ownBlock ≠ some gT := fun e => hMp.apart 0 1 rfl rfl (by decide) gT (by show gT ∈ optL _; simp [optL, Value.ownBlock]) (optL_iff.2 e)
                    have hnp : (Value.slice Ac nc cc).ownBlock ≠ some p := fun e => hMp.apart 2 1 rfl rfl (by decide) p (List.mem_singleton.2 rfl) (optL_iff.2 e)
                    have HkT := hide hbT
                    have Htr := hide (hMp.row_ 1 rfl)
                    have HneT := hide hnT
                    have b9 : wr.cell? ⟨p, 9, none⟩ = some (.slice (some ⟨gT, 0, none⟩) nT c9) := (hMp.blk_ 2 rfl).c 9 rfl
                    have ltp := (hMp.blk_ 2 rfl).lt
                    obtain ⟨i0, hi0, hy0, hy1, hy2⟩ := info_parts intInfoT
                    have hbw : base ≤ wr.heap.size := Nat.le_trans hb0 hM.size
                    have Hi := hide hi0
                    have Hz0 := hide hy0
                    have Hz1 := hide hy1
                    have Hz2 := hide hy2
                    have HMP := hide hMp
                    have HTE := hide ht
                    have HNC := hide hnc
                    have HCH := hide hch
                    have HTN := hide hT'n
                    clear hi0 hy0 hy1 hy2 hMp ht hnc hch hT'n
                    clear hbT hnT ht5 hcT hbp hcp hprow hparT hM HC hatC hq
                    go_wp2_with fail
                    apply wp_region_F (w0 := wr) [[], [0], [0, 1], [0, 1, 2], [], [], [5], [5, 6], [5, 6, 7], [], [5, 6, 7, 8, 9], [5, 6, 7, 8, 9, 10], [5, 6, 7, 8, 9, 10, 11], [], [13], [5, 6, 7, 8, 9, 10, 11, 12, 13, 14], [0, 1, 2, 3, 4, 5, 6, 7, 8, 9, 10, 11, 12, 13, 14, 15], [0, 1, 2, 3, 4, 5, 6, 7, 8, 9, 10, 11, 12, 13, 14, 15, 16], [0, 1, 2, 3, 4, 5, 6, 7, 8, 9, 10, 11, 12, 13, 14, 15, 16, 17]] [true, true, true, true, true, true, true, true, true, true, true, true, true, true, false, false, true, true, false] [false, false, false, false, false, false, false, false, false, false, false, false, false, false, false, false, false, false, false] [⟨14, none, [], []⟩, ⟨15, none, [14], []⟩, ⟨18, none, [], [15]⟩] (fillQ 15 (.slice Ac nc cc) 18 gT) [18] (fun ixq y => match ixq with | 14 => .slice (y 0).1 1 1 | 15 => .slice (y 0).1 (nc + 1) (y 0).2 | 18 => undef | _ => undef) (fun ixq x F wq => match ixq with | 14 => OwnF wq F wr.heap.size 3 1 (.slice (x 14 0).1 1 1) 1 #[.int .i64 (nO : Nat)].toList | 15 => OwnF wq F base 3 1 (.slice (x 15 0).1 (nc + 1) (x 15 0).2) (nc + 1) ((numsV tcl) ++ (#[.int .i64 (nO : Nat)] : Array Value).toList) ∧ FreshOr wr.heap.size (.slice Ac nc cc) (.slice (x 15 0).1 (nc + 1) (x 15 0).2) | 18 => F gT ∧ Blk wq gT 62 (curT.setIfInBounds (q * 6 + 5) (.slice (x 15 0).1 (nc + 1) (x 15 0).2)) | _ => True) (fun a x => (((a).put (some 114) (.slice ((x 14) 0).1 1 1)).put (some 115) (.slice ((x 15) 0).1 (nc + 1) ((x 15) 0).2)).put (none) (undef)) (by kernel_rfl) (by kernel_rfl) (by kernel_rfl) (fun _ => rfl) [101, 106] (by kernel_rfl) (fillQ_lt (fun g hg => (Htr.out.lt g hg).2) (by omega)) (fillQ_ne HneT.out)
                    · intro x D hD
                      have hne := hD.some
                      have k9 := liftS hD b9 (earlyQ (by first | assumption | omega) hnp)
                      have k5 := liftS hD t5 (earlyQ (by first | assumption | omega) HneT.out)
                      simp only [takeOps, Act.put, List.setIfInBounds_toArray, List.set_cons_succ, List.set_cons_zero]
                      repeat (go_big_quiet_step (fail))
                      exact wpQuiet_nil rfl
                    · exact fun x D hD => wpQuiet_nil rfl
                    · intro d hd x x'
                      simp only [List.mem_cons, List.not_mem_nil, or_false] at hd
                      rcases hd with rfl | rfl
                      all_goals rfl
                    · refine ⟨?_, ?_, ?_, trivial⟩
                      · exact obl_new rfl (fun _ => by kernel_rfl) 3 (fun x => #[.int .i64 (nO : Nat)]) gP (fun x w => by kernel_rfl) (fun x w hle => own_new hle rfl (by unfold maxLen; omega))
                      · refine obl_pushQ 33 112 114 (by kernel_rfl) base 3 i0 _ 1 8 Try.underlying33 Hi.out Hz0.out Hz1.out Hz2.out rfl (by decide) (.slice Ac nc cc) nc 1 ((numsV tcl)) (#[.int .i64 (nO : Nat)] : Array Value).toList (by first | rfl | (simp; done) | (simp; omega)) (by simp [Value.oneCell']) (by unfold maxLen; omega) (by omega) (by first | assumption | omega) (fun x w F hk hn => ?_) (fun _ => rfl) (fun _ _ _ _ h1 h2 => ⟨h1, h2⟩)
                        have hj : OwnF w (F 14) wr.heap.size 3 1 (.slice (x 14 0).1 1 1) 1 (#[.int .i64 (nO : Nat)] : Array Value).toList := hn 14 (by simp)
                        obtain ⟨ad, hA, hc⟩ := news_own hj (by decide)
                        exact ⟨ad, 1, rfl, row_thenQ Htr.out HneT.out hk, wrQ_row, (show Value.slice (x 14 0).1 1 1 = _ by rw [hA]), hc⟩
                      · exact obl_setv 33 62 117 115 gT (q*6+5) _ (fun x => .slice (x 15 0).1 (nc + 1) (x 15 0).2) (fun x => (curT.setIfInBounds (q * 6 + 5) (.slice (x 15 0).1 (nc + 1) (x 15 0).2))) (by kernel_rfl) (fun _ => rfl) (fun _ => rfl) (fun _ => rfl) HkT.out (ebQ_set HneT.out) wrQ_set (by kernel_rfl) (by first | assumption | (simp; done)) (fun _ => rfl) (fun _ => rfl) (fun _ _ _ _ h1 h2 => ⟨h1, h2⟩)
                    · refine ⟨?_, ?_, ?_, trivial⟩
                      · refine ⟨fun x F wq wq' h hs hk => ?_, fun x x' F wq hx h => ?_⟩
                        · have h2 : OwnF wq F wr.heap.size 3 1 (.slice (x 14 0).1 1 1) 1 #[.int .i64 (nO : Nat)].toList := h
                          exact h2.stab hk
                        · have h2 : OwnF wq F wr.heap.size 3 1 (.slice (x 14 0).1 1 1) 1 #[.int .i64 (nO : Nat)].toList := h
                          rw [hx 14 (by simp)] at h2
                          exact h2
                      · exact owe_pushQ 15 _ base (.slice Ac nc cc) 3 1 (nc + 1) ((numsV tcl) ++ (#[.int .i64 (nO : Nat)] : Array Value).toList) rfl (fun _ _ _ => rfl)
                      · exact owe_fill gT 62 (fun x => (curT.setIfInBounds (q * 6 + 5) (.slice (x 15 0).1 (nc + 1) (x 15 0).2))) (fun _ _ _ => rfl) (fun x x' hx => by simp only [hx 15 (by simp)])
                    intro xz w5 F hK hlv1
                    obtain ⟨-, fct15, fct18, -⟩ := hlv1
                    replace fct15 : OwnF w5 (F 15) base 3 1 (.slice (xz 15 0).1 (nc + 1) (xz 15 0).2) (nc + 1) ((numsV tcl) ++ (#[.int .i64 (nO : Nat)] : Array Value).toList) ∧ FreshOr wr.heap.size (.slice Ac nc cc) (.slice (xz 15 0).1 (nc + 1) (xz 15 0).2) := fct15 rfl
                    replace fct18 : (F 18) gT ∧ Blk w5 gT 62 (curT.setIfInBounds (q * 6 + 5) (.slice (xz 15 0).1 (nc + 1) (xz 15 0).2)) := fct18 rfl
                    obtain ⟨⟨hot, -⟩, hfr⟩ := fct15
                    have hbk := fct18.2
                    generalize (xz 15 0).1 = A7 at *
                    generalize (xz 15 0).2 = c7 at *
                    have hown5 := own_of_blk (HMP.out.row_ 0 rfl) HkT.out hbk
                    have hM5 := Mem.pushed (nw := []) HMP.out (t0' := .row base 62 6 (.slice (some ⟨gT, 0, none⟩) nT c9) nT ((trkCells T').set (q * 6 + 5) (.slice A7 (nc + 1) c7))) rfl rfl hK hot hfr hown5 (fun t ht => absurd ht List.not_mem_nil) List.nodup_nil (fun k hk => absurd hk List.not_mem_nil)
                    simp only [List.nil_append, List.append_eq] at hM5
                    have hTset := trkCells_set (t' := (⟨tbg, tfr, tav, ten, tpv, .slice Ac nc cc, tal, tpl, tcl⟩ : Trk).chl (.slice A7 (nc + 1) c7) (tcl ++ [nO])) (v := .slice A7 (nc + 1) c7) HTE.out (j := 5) (by omega) rfl
                    rw [hTset] at hM5
                    have hlC : q < (T'.map (thC base)).length := by rw [List.length_map, HTN.out]; omega
                    have hM6 := hM5.perm (perm_chl2 _ _ _ _ _ _ _ _ hlC)
                    have eA := mapS_set (f := thA base) (y := (⟨tbg, tfr, tav, ten, tpv, .slice Ac nc cc, tal, tpl, tcl⟩ : Trk).chl (.slice A7 (nc + 1) c7) (tcl ++ [nO])) HTE.out rfl
                    have eQ := mapS_set (f := thQ base) (y := (⟨tbg, tfr, tav, ten, tpv, .slice Ac nc cc, tal, tpl, tcl⟩ : Trk).chl (.slice A7 (nc + 1) c7) (tcl ++ [nO])) HTE.out rfl
                    have eC : thC base ((⟨tbg, tfr, tav, ten, tpv, .slice Ac nc cc, tal, tpl, tcl⟩ : Trk).chl (.slice A7 (nc + 1) c7) (tcl ++ [nO])) = .row base 3 1 (.slice A7 (nc + 1) c7) (nc + 1) (numsV tcl ++ [.int .i64 (nO : Nat)]) := by
                      unfold thC Trk.chl
                      dsimp only
                      rw [List.length_append, HNC.out, show numsV (tcl ++ [nO]) = numsV tcl ++ [.int .i64 (nO : Nat)] by unfold numsV; rw [List.map_append]; rfl]
                      rfl
                    have HC6 := hide (show ChlS ({ B with tv := .slice (some ⟨gT, 0, none⟩) nT c9, T := T2, of := putO of (1, j) nO, c := c2 } : Bk) base w0 Q5 (100 * j) (k + 1) w5 from by
                      refine ⟨T'.set q ((⟨tbg, tfr, tav, ten, tpv, .slice Ac nc cc, tal, tpl, tcl⟩ : Trk).chl (.slice A7 (nc + 1) c7) (tcl ++ [nO])), HCH.out.set HTE.out, ?_⟩
                      unfold Bk.ts Bk.cells
                      dsimp only
                      rw [eA, eQ, List.map_set, eC, List.length_set, HTN.out, hp]
                      exact hM6)
                    clear hM5 hM6 hK hot hfr hbk fct18 hown5 hTset hoff t5 ltT hnp HkT Htr HneT b9 ltp Hi Hz0 Hz1 Hz2 hbw f0 ltf eA eQ eC HMP
                    go_wp2_with fail
                    go_roundw
                    case rel => exact ⟨k + 1, hlk, by go_num, HC6⟩
                    case measure => simp [intOf] <;> omega
                  · have hkk : k = i := by omega
                    have hnlk : ¬ ((k : Int) < i) := by omega
                    subst hkk
                    have HB9 := hide (show Bth1 B base w0 (thK Try.prog 3 nmL okNm mY f c0 :: R) E K0 (j + 1) wr from by
                      obtain ⟨T', hch, hM⟩ := HC.out
                      dsimp only at hch hM
                      rw [← HQ5.out] at hM
                      rw [← HT2.out] at hch
                      rw [← HNO.out] at hM
                      exact ⟨_, T', _, c2, HS.out.add HXE.out HJX.out hk4 HU.out hch (by omega) (Nat.le_trans (HFR.out _ HXE.out).1 (by omega)), by have := HCJ.out; have := HC2.out; omega, (Bk.front hM).tail⟩)
                    clear HC
                    go_wp2_with fail
                    go_roundw
                    case rel => exact ⟨j + 1, hlt, by go_num, HB9⟩
                    case measure => simp [intOf] <;> omega
        · have hjj : j = K1 := by omega
          have hnlt2 : ¬ ((j : Int) < K1) := by omega
          have HBZ := HB
          clear HB
          go_wp2_with fail
          refine bodyPost_ret (v := .tuple #[]) (by simp [results, Try.results33, go_sem]) rfl ?_
          rw [← HPP.out]
          refine ⟨rfl, ?_⟩
          obtain ⟨tv, T, of, c, hft, hcj, hM⟩ := HBZ.out
          rw [← hjj]
          exact ⟨tv, T, of, c, hft, hcj, (Bk.front hM).tail⟩
end Go.Proofs.Ytidbjidcjmbnlaa
end
section
namespace Go.Proofs.Ytidbjidcjmbnlaa
open Go Go.RowKit
attribute [local go_sem] Oper.semAt_some

/-- Things that lie in some memory. -/
def MemF (B : Nat) (ts : List Th) (F : Nat → Prop) (w : World) : Prop := (∀ t ∈ ts, t.ok w) ∧ (fps ts).Nodup ∧ ∀ k ∈ fps ts, B ≤ k ∧ F k
theorem MemF.stab {B : Nat} {ts : List Th} {F : Nat → Prop} {w w' : World} (h : MemF B ts F w) (hk : ∀ k, F k → w'.heap[k]? = w.heap[k]?) : MemF B ts F w' :=
  ⟨fun t ht => Th.stab (h.1 t ht) fun k hm => hk k (h.2.2 k (List.mem_flatMap.2 ⟨t, ht, hm⟩)).2, h.2.1, h.2.2⟩
def SprF (i : Nat) (W H N B base : Nat) (may inn : Nat → Bool) (x : Nat → Par) (F : Nat → Prop) (w : World) : Prop :=
  ∃ s : Spr, (x i 0).1 = some ⟨s.bo, 0, none⟩ ∧ (x i 0).2 = s.K ∧ (x i 1).1 = some ⟨s.g, 0, none⟩ ∧ s.Ok W H may inn ∧ MemF B (s.ts base N) F w
theorem SprF.owe {i W H N B base : Nat} {may inn : Nat → Bool} : (∀ x F w w', SprF i W H N B base may inn x F w → w.heap.size ≤ w'.heap.size → (∀ k, F k → w'.heap[k]? = w.heap[k]?) → SprF i W H N B base may inn x F w') ∧ (∀ (x x' : Nat → Par) F w, (x i = x' i) → SprF i W H N B base may inn x F w → SprF i W H N B base may inn x' F w) :=
  ⟨fun x F w w' h _ hk => by obtain ⟨s, a, b, c, d, e⟩ := h; exact ⟨s, a, b, c, d, e.stab hk⟩, fun x x' F w hx h => by obtain ⟨s, a, b, c, d, e⟩ := h; rw [hx] at a b c; exact ⟨s, a, b, c, d, e⟩⟩
theorem perm_add {α : Type} (bk mp fld trk mk : α) (SS A Q C R : List α) : (bk :: mp :: (SS ++ (fld :: trk :: mk :: (A ++ (Q ++ (C ++ R)))))).Perm (bk :: trk :: mk :: mp :: (A ++ (Q ++ (C ++ (SS ++ (fld :: R)))))) := by
  have h1 : (SS ++ (fld :: trk :: mk :: (A ++ (Q ++ (C ++ R))))).Perm (trk :: mk :: (A ++ (Q ++ (C ++ (SS ++ (fld :: R)))))) := by
    have e1 : SS ++ (fld :: trk :: mk :: (A ++ (Q ++ (C ++ R)))) = ((SS ++ [fld]) ++ (trk :: mk :: (A ++ (Q ++ C)))) ++ R := by simp
    have e2 : trk :: mk :: (A ++ (Q ++ (C ++ (SS ++ (fld :: R))))) = ((trk :: mk :: (A ++ (Q ++ C))) ++ (SS ++ [fld])) ++ R := by simp
    rw [e1, e2]
    exact List.perm_append_comm.append_right R
  exact (h1.cons mp).cons bk |>.trans (.cons _ (List.perm_middle (l₁ := [trk, mk]) (a := mp)).symm)
set_option maxRecDepth 100000 in
theorem valid_any (p mb : Nat) (w : World) (h : w.cell? ⟨p, 10, none⟩ = some (.map (some mb))) (hp : p < w.heap.size) : Calls Try.prog 29 #[.pointer (some ⟨p, 0, none⟩)] w fun e w' => e = .returned (.bool true) ∧ Below w.heap.size w w' := by
  have qM : ∀ (w : World) (r : Option Nat), (binOp .neq 96 (.map r) (.map none)).run Try.prog w = .ok (.bool (!r.isNone)) w := fun w r => run_neq_map_nil w _ _ _ r Try.underlying96
  go_enter Try.func29, Try.ntmps29
  go_wp2
  first
    | exact ⟨rfl, Below.refl _ _⟩
    | (go_ret; exact ⟨rfl, Below.refl _ _⟩)
end Go.Proofs.Ytidbjidcjmbnlaa
end
section
namespace Go.Proofs.Ytidbjidcjmbnlaa
open Go Go.RowKit
attribute [local go_sem] Oper.semAt_some

set_option maxHeartbeats 2000000 in
set_option maxRecDepth 100000 in
theorem Of_ok (B : Bk) (base n j k : Nat) (w0 w : World) (R : List Th) (hM : Mem w0 (B.ts base R) w) (hn : n ≤ 1000000) (hj : j ≤ 1000000) (hk : B.of (n, j) = some k) :
    Calls Try.prog 16 #[.pointer (some ⟨B.p, 0, none⟩), .int .i64 (n : Nat), .int .i64 (j : Nat)] w fun e w' => e = .returned (.tuple #[.int .i64 (k : Nat), .int .i64 0]) ∧ Below w.heap.size w w' := by
  obtain ⟨gx, gy, gs, W, H, lev, rch, last, p, mb, c, mv, tv, kz, S, T, of⟩ := B
  dsimp only at hk ⊢
  have hb : Blk w p 100 (bookC gx gy gs W H lev rch last mv tv mb kz) := hM.blk_ 0 rfl
  have hmk : MapK w Try.prog 118 plL okPl mb (ofV of) c := hM.map_ 2 rfl
  have b10 : w.cell? ⟨p, 10, none⟩ = some (.map (some mb)) := hb.c 10 rfl
  have ltb := hb.lt
  have hval := valid_any p mb w b10 ltb
  clear hM
  have HK := hide hk
  have HMK := hide hmk
  have HV := hide hval
  have HB := hide hb
  clear hk hmk hval hb
  go_enter Try.func16, Try.ntmps16
  have HM := hide (Mem.start w)
  go_wp2_with fail
  refine (HV.out).mono ?_
  rintro e w2 ⟨rfl, hb⟩
  replace HM := hide (HM.out.later hb)
  clear hb
  have b10 : w2.cell? ⟨p, 10, none⟩ = some (.map (some mb)) := (blk_belowN HB.out HM.out.below HB.out.lt).c 10 rfl
  have HMK2 := hide (HMK.out.stab (HM.out.below.block mb HMK.out.lt))
  go_wp2_with (at_lookup; refine wpList_lookK2 _ rfl _ _ _ rfl 118 3 plKey Try.underlying96 (.int .i64 0) (by kernel_rfl) mb c (ofV of) rfl HMK2.out (n, j) rfl ⟨hn, hj⟩ (.int .i64 (k : Nat)) (by unfold ofV; rw [HK.out]; rfl) true (by unfold ofV; rw [HK.out]; rfl) ?_)
  refine bodyPost_ret (v := .tuple #[.int .i64 (k : Nat), .int .i64 0]) (by simp [results, Try.results16, go_sem]) rfl ⟨rfl, HM.out.below⟩
set_option maxHeartbeats 2000000 in
set_option maxRecDepth 100000 in
theorem find_ok (B : Bk) (base k : Nat) (t : Trk) (w0 w : World) (R : List Th) (hM : Mem w0 (B.ts base R) w) (hk : B.T[k]? = some t) :
    Calls Try.prog 37 #[.pointer (some ⟨B.p, 0, none⟩), .int .i64 (k : Nat)] w fun e w' => e = .returned (.tuple #[.agg t.cells.toArray, .int .i64 0]) ∧ Below w.heap.size w w' := by
  obtain ⟨PP, hPP⟩ : ∃ PP : Ending → World → Prop, (fun e w' => e = .returned (.tuple #[.agg t.cells.toArray, .int .i64 0]) ∧ Below w.heap.size w w') = PP := ⟨_, rfl⟩
  rw [hPP]
  obtain ⟨gx, gy, gs, W, H, lev, rch, last, p, mb, c, mv, tv, kz, S, T, of⟩ := B
  dsimp only at hk ⊢
  have hb : Blk w p 100 (bookC gx gy gs W H lev rch last mv tv mb kz) := hM.blk_ 0 rfl
  have hrow : w.ownsRow base 62 6 tv T.length (trkCells T) := hM.row_ 1 rfl
  have hkT : k < T.length := (List.getElem?_eq_some_iff.1 hk).1
  have hT9 : T.length ≤ 9223372036854775807 := by
    rcases hrow.2 with ⟨-, h0⟩ | ⟨g, cap, cur, hv, -, -, h3, h4, -⟩
    · omega
    · unfold maxLen at h4; omega
  obtain ⟨bt, cur, ct, rfl, -, hbt, -, -, hct⟩ : ∃ bt cur ct, tv = .slice (some ⟨bt, 0, none⟩) T.length ct ∧ True ∧ Blk w bt 62 cur ∧ True ∧ True ∧ ∀ q x, (trkCells T)[q]? = some x → cur[q]? = some x := by
    obtain ⟨A, c, rfl⟩ := own_shape2 hrow
    obtain ⟨bt, cur, rfl, -, h1, -, -, h2⟩ := row_blk hrow (by omega)
    exact ⟨bt, cur, c, rfl, trivial, h1, trivial, trivial, h2⟩
  have htm : t ∈ T := List.mem_of_getElem? hk
  have ha := own_shape2 (show w.ownsRow base 3 1 t.av t.al.length (numsV t.al) from hM.all (thA base t) (by unfold Bk.ts; simp only [List.mem_cons, List.mem_append, List.mem_map]; exact .inr (.inr (.inr (.inr (.inl ⟨t, htm, rfl⟩))))))
  have hp := own_shape2 (show w.ownsRow base 3 1 t.pv t.pl.length (numsV t.pl) from hM.all (thQ base t) (by unfold Bk.ts; simp only [List.mem_cons, List.mem_append, List.mem_map]; exact .inr (.inr (.inr (.inr (.inr (.inl ⟨t, htm, rfl⟩)))))))
  have hc := own_shape2 (show w.ownsRow base 3 1 t.cv t.cl.length (numsV t.cl) from hM.all (thC base t) (by unfold Bk.ts; simp only [List.mem_cons, List.mem_append, List.mem_map]; exact .inr (.inr (.inr (.inr (.inr (.inr (.inl ⟨t, htm, rfl⟩))))))))
  have hget : ∀ j, j < 6 → (trkCells T)[k * 6 + j]? = t.cells[j]? := fun j hj => trkCells_get hk hj
  obtain ⟨bg, fr, av, en, pv, cv, al, pl, cl⟩ := t
  dsimp only at ha hp hc
  obtain ⟨Aa, ca, rfl⟩ := ha
  obtain ⟨Ap, cp, rfl⟩ := hp
  obtain ⟨Ac, cc, rfl⟩ := hc
  have hb' := hb
  have hbt' := hbt
  have hval := fun V (hB : Below w.heap.size w V) => valid_any p mb V ((blk_belowN hb hB hb.lt).c 10 rfl) (blk_belowN hb hB hb.lt).lt
  obtain ⟨n, hn⟩ : ∃ n, T.length = n := ⟨_, rfl⟩
  rw [hn] at hkT hT9 hb
  have hk2 : (k : Int) < n := by omega
  have hk3 : ¬ (n : Int) ≤ k := by omega
  clear hM hrow hk hb' hbt' htm
  have HV := hide hval
  have HPP := hide hPP
  have HB := hide hb
  have HBT := hide hbt
  have HCT := hide hct
  have HG := hide hget
  have HN := hide hn
  clear hval hPP hb hbt hct hget hn
  go_enter Try.func37, Try.ntmps37
  have HM := hide (Mem.start w)
  go_wp2_with fail
  refine at_world fun W1 hW => ?_
  have HMn := Mem.to (Mem.allocAt HM.out w.heap.size rfl #[.int .i64 0, .int .i64 0, .slice none 0 0, .int .i64 0, .slice none 0 0, .slice none 0 0] 62) hW
  have LW : Later w W1 := by rw [hW]; exact ((Below.refl _ _).alloc (Nat.le_refl _) _)
  have szW : W1.heap.size = w.heap.size + 1 := by rw [hW]; simp
  clear hW
  replace HM := hide HMn
  clear HMn LW
  clear szW
  refine (HV.out _ HM.out.below).mono ?_
  rintro e w2 ⟨rfl, hb⟩
  replace HM := hide (HM.out.later hb)
  clear hb
  have hb := blk_belowN HB.out HM.out.below HB.out.lt
  have hbt := blk_belowN HBT.out HM.out.below HBT.out.lt
  have b9 : w2.cell? ⟨p, 9, none⟩ = some (.slice (some ⟨bt, 0, none⟩) n ct) := hb.c 9 rfl
  have ltb := hb.lt
  have t0 := hbt.c (k * 6 + 0) (HCT.out _ _ ((HG.out 0 (by omega)).trans rfl))
  have t1 := hbt.c (k * 6 + 1) (HCT.out _ _ ((HG.out 1 (by omega)).trans rfl))
  have t2 := hbt.c (k * 6 + 2) (HCT.out _ _ ((HG.out 2 (by omega)).trans rfl))
  have t3 := hbt.c (k * 6 + 3) (HCT.out _ _ ((HG.out 3 (by omega)).trans rfl))
  have t4 := hbt.c (k * 6 + 4) (HCT.out _ _ ((HG.out 4 (by omega)).trans rfl))
  have t5 := hbt.c (k * 6 + 5) (HCT.out _ _ ((HG.out 5 (by omega)).trans rfl))
  have ltt := hbt.lt
  simp only [Nat.add_zero] at t0
  clear hb hbt
  have bq : Blk w2 w.heap.size 62 #[.int .i64 0, .int .i64 0, .slice none 0 0, .int .i64 0, .slice none 0 0, .slice none 0 0] := HM.out.get 0 rfl
  have ltq := bq.lt
  have q0 := bq.c 0 rfl
  have fq0 := bq.frozen 0
  have q1 := bq.c 1 rfl
  have fq1 := bq.frozen 1
  have q2 := bq.c 2 rfl
  have fq2 := bq.frozen 2
  have q3 := bq.c 3 rfl
  have fq3 := bq.frozen 3
  have q4 := bq.c 4 rfl
  have fq4 := bq.frozen 4
  have q5 := bq.c 5 rfl
  have fq5 := bq.frozen 5
  go_wp2_with fail
  refine ret_world fun V hV => ?_
  have hM9 := Mem.to ((((((HM.out.set_ 0 rfl 0 (.int .i64 bg) (cs' := #[.int .i64 bg, .int .i64 0, .slice none 0 0, .int .i64 0, .slice none 0 0, .slice none 0 0]) rfl).set_ 0 rfl 1 (.int .i64 fr) (cs' := #[.int .i64 bg, .int .i64 fr, .slice none 0 0, .int .i64 0, .slice none 0 0, .slice none 0 0]) rfl).set_ 0 rfl 2 (.slice Aa al.length ca) (cs' := #[.int .i64 bg, .int .i64 fr, .slice Aa al.length ca, .int .i64 0, .slice none 0 0, .slice none 0 0]) rfl).set_ 0 rfl 3 (.int .i64 en) (cs' := #[.int .i64 bg, .int .i64 fr, .slice Aa al.length ca, .int .i64 en, .slice none 0 0, .slice none 0 0]) rfl).set_ 0 rfl 4 (.slice Ap pl.length cp) (cs' := #[.int .i64 bg, .int .i64 fr, .slice Aa al.length ca, .int .i64 en, .slice Ap pl.length cp, .slice none 0 0]) rfl).set_ 0 rfl 5 (.slice Ac cl.length cc) (cs' := #[.int .i64 bg, .int .i64 fr, .slice Aa al.length ca, .int .i64 en, .slice Ap pl.length cp, .slice Ac cl.length cc]) rfl) hV
  have hb9 := hM9.blk_ 0 rfl
  have r0 := hb9.c 0 rfl
  have r1 := hb9.c 1 rfl
  have r2 := hb9.c 2 rfl
  have r3 := hb9.c 3 rfl
  have r4 := hb9.c 4 rfl
  have r5 := hb9.c 5 rfl
  rw [← HPP.out]
  refine bodyPost_ret (v := .tuple #[.agg #[.int .i64 bg, .int .i64 fr, .slice Aa al.length ca, .int .i64 en, .slice Ap pl.length cp, .slice Ac cl.length cc], .int .i64 0]) (by simp [results, Try.results37, go_sem, r0, r1, r2, r3, r4, r5]) rfl ⟨rfl, hM9.below⟩
end Go.Proofs.Ytidbjidcjmbnlaa
end
