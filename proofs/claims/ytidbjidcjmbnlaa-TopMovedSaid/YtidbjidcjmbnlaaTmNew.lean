/-
  The second map is added to a book.
  The possible moves of a track that was kept, from the first map to the second one.
  A new book; the track of an area.
-/
import Derived.Test.YtidbjidcjmbnlaaTmChgM
import Derived.Test.YtidbjidcjmbnlaaTmOf
import Derived.Test.YtidbjidcjmbnlaaRegY
set_option linter.unusedSimpArgs false
set_option linter.unusedVariables false
section
namespace Go.Proofs.Ytidbjidcjmbnlaa
open Go Go.RowKit
attribute [local go_sem] Oper.semAt_some

/-- What the second map leaves. -/
def Add1Post (B : Bk) (s0 : Spr) (r : Nat) (time : Int) (base : Nat) (may inn : Nat → Bool) (w0 : World) (R : List Th) (e : Ending) (w' : World) : Prop :=
  (∃ v, e = .returned (.tuple #[v, .int .i64 0])) ∧ ∃ (mv tv : Value) (kz : Nat → Int) (T : List Trk) (of : Nat × Nat → Option Nat) (c : Nat) (s : Spr) (E : List Evm) (L : Nd → Nd) (R' : List Th), s.Ok B.W B.H may inn ∧ EvI L s0.K s.K (E.map Evm.e) ∧ NearE B.W B.H (r : Nat) s0.f s.f L ∧ (∀ j, j < s.K → KnownA E T of j) ∧ (T.length ≤ 200 ∧ ∀ (q : Nat) (t : Trk), T[q]? = some t → t.al.length ≤ 100 ∧ t.pl.length ≤ 100 ∧ t.cl.length ≤ 6400) ∧ (∀ t ∈ s.ts base (B.W * B.H), t ∈ R') ∧ (∀ t ∈ R, t ∈ R') ∧
    Mem w0 (({ B with last := time, mv := mv, tv := tv, kz := kz, T := T, of := of, c := c, S := [s0, s] } : Bk).ts base R') w'
theorem Spr.Ok.lab {s : Spr} {W H : Nat} {may inn : Nat → Bool} (h : s.Ok W H may inn) : ∀ p, p < W * H → s.f p = -1 ∨ (0 ≤ s.f p ∧ s.f p < s.K) := fun p hp => by
  have h1 := h.areas.part.lab p hp
  have h2 : s.pix.length = s.K := by unfold Spr.pix; rw [List.length_map, List.length_reverse]; exact h.len
  rw [h2] at h1
  rcases h1 with h1 | ⟨h1, h3, -⟩
  · exact .inl h1
  · exact .inr ⟨h1, h3⟩
def ChgS (B : Bk) (base : Nat) (w0 : World) (R : List Th) (E : List Evm) (K0 k : Nat) (wr : World) : Prop :=
  ∃ kz T of c, ChgI E K0 k T of ∧ c ≤ K0 + k ∧ Mem w0 (({ B with kz := kz, T := T, of := of, c := c } : Bk).ts base R) wr
theorem evm_low {b b' : Nat} {v : Value} {n : Nat} {xs : List Value} {E : List Evm} : (Th.row b 106 3 v n xs :: (E.map (thF b) ++ E.map (thT b))).map (Th.loB b') = .row b' 106 3 v n xs :: (E.map (thF b') ++ E.map (thT b')) := by
  simp only [List.map_cons, List.map_append, List.map_map]
  rfl
set_option maxHeartbeats 4000000 in
set_option maxRecDepth 100000 in
theorem Add_one (B : Bk) (s0 : Spr) (f00 : Nat → Bool) (f01 : Nat → Bool) (r base nn cc : Nat) (A : Option Addr) (time : Int) (l : List (Int × Int)) (w0 w : World) (R : List Th) (hb0 : base ≤ w0.heap.size) (hS : B.S = [s0]) (hok0 : s0.Ok B.W B.H f00 f01) (hft0 : FirstT B.T B.of s0.K) (hc : B.c ≤ s0.K) (hr : B.rch = (r : Nat)) (hr8 : r ≤ 8) (hg0 : .blk s0.g 3 (cellsF s0.f nn) ∈ R)
    (hW : 1 ≤ B.W) (hH : 1 ≤ B.H) (hW8 : B.W ≤ 8) (hH8 : B.H ≤ 8) (hlev : ∀ p, inB l B.lev p = true → mayB l B.lev p = true) (hv : 1 ≤ B.lev ∧ B.lev ≤ 1073741824) (ht : 0 ≤ time ∧ time ≤ 4294967296) (hlast : B.last < time)
    (hn : l.length = nn) (hnN : nn = B.W * B.H) (he : fieldE (gridE B.gx B.gy B.gs B.W B.H) nn B.W B.H l 1073741824 = 0) (hl : .row base 60 2 (.slice A nn cc) nn ((flat2 l).map (Value.int .i64)) ∈ R)
    (hM : Mem w0 (B.ts base R) w) :
    Calls Try.prog 13 #[.pointer (some ⟨B.p, 0, none⟩), .int .i64 time, .agg #[.int .i64 B.gx, .int .i64 B.gy, .int .i64 B.gs, .int .i64 (B.W : Nat), .int .i64 (B.H : Nat), .slice A nn cc]] w (Add1Post B s0 r time base (mayB l B.lev) (inB l B.lev) w0 R) := by
  obtain ⟨PP, hPP⟩ : ∃ PP, Add1Post B s0 r time base (mayB l B.lev) (inB l B.lev) w0 R = PP := ⟨_, rfl⟩
  rw [hPP]
  obtain ⟨gx, gy, gs, W, H, lev, rch, last, p, mb, c, mv, tv, kz, S, T, of⟩ := B
  dsimp only at hS hok0 hft0 hc hr hW hH hW8 hH8 hlev hv hlast hnN he hPP ⊢
  subst hS
  subst hr
  have hN1 : 1 ≤ nn := by rw [hnN]; exact Nat.mul_pos hW hH
  have hN2 : nn ≤ 64 := by rw [hnN]; exact Nat.mul_le_mul hW8 hH8
  unfold Bk.ts Bk.cells at hM
  dsimp only at hM
  obtain ⟨Am, cm, rfl⟩ := own_shape2 (hM.row_ 3 rfl)
  have hlr := hM.all (.row base 60 2 (.slice A nn cc) nn ((flat2 l).map (Value.int .i64))) (by simp [hl])
  obtain ⟨gl, curl, rfl, -, -, -, -, -⟩ := row_blk (show w.ownsRow base 60 2 (.slice A nn cc) nn ((flat2 l).map (Value.int .i64)) from hlr) (by omega)
  clear hlr
  have hcf := fun V (hi : Ints V V.heap.size .i64 (some ⟨gl, 0, none⟩) (flat2 l)) => CheckField_any gx gy gs W H (some ⟨gl, 0, none⟩) nn cc l V hn (by omega) hi
  have hsp := fun V (hi : Ints V V.heap.size .i64 (some ⟨gl, 0, none⟩) (flat2 l)) => spread_any gx gy gs W H nn cc (some ⟨gl, 0, none⟩) lev l V hW hH hW8 hH8 hlev hn hnN hi
  rw [he] at hcf
  unfold fieldV at hcf
  obtain ⟨t0, t1⟩ := ht
  have t0' : ¬ time < 0 := by omega
  have t1' : ¬ 4294967296 < time := by omega
  have t2' : ¬ time ≤ last := by omega
  simp only [List.length_singleton] at hM
  have HM := hide hM
  have HCF := hide hcf
  have HSP := hide hsp
  have HPP := hide hPP
  have HL := hide hl
  have HNN := hide hnN
  have HOK0 := hide hok0
  have HFT0 := hide hft0
  have HG0R := hide hg0
  clear hM hcf hsp hPP hl hnN hok0 hft0 hg0
  clear hn he hlev
  go_enter Try.func13, Try.ntmps13
  go_wp2_with fail
  refine at_world fun W1 hW => ?_
  have HMn := Mem.to (Mem.allocAt HM.out w.heap.size rfl #[.int .i64 gx, .int .i64 gy, .int .i64 gs, .int .i64 (W : Nat), .int .i64 (H : Nat), .slice (some ⟨gl, 0, none⟩) nn cc] 41) hW
  have LW : Later w W1 := by rw [hW]; exact ((Below.refl _ _).alloc (Nat.le_refl _) _)
  have szW : W1.heap.size = w.heap.size + 1 := by rw [hW]; simp
  clear hW
  replace HM := hide HMn
  clear HMn LW
  clear szW
  obtain ⟨fl, hfl⟩ : ∃ q, w.heap.size = q := ⟨_, rfl⟩
  rw [hfl] at HM
  simp only [hfl]
  clear hfl
  refine (valid_any p mb W1 ((HM.out.blk_ 1 rfl).c 10 rfl) (HM.out.blk_ 1 rfl).lt).mono ?_
  rintro e w2 ⟨rfl, hb⟩
  replace HM := hide (HM.out.later hb)
  clear hb
  have bf : Blk w2 fl 41 #[.int .i64 gx, .int .i64 gy, .int .i64 gs, .int .i64 (W : Nat), .int .i64 (H : Nat), .slice (some ⟨gl, 0, none⟩) nn cc] := HM.out.get 0 rfl
  have ltf := bf.lt
  have f0 := bf.c 0 rfl
  have f1 := bf.c 1 rfl
  have f2 := bf.c 2 rfl
  have f3 := bf.c 3 rfl
  have f4 := bf.c 4 rfl
  have f5 := bf.c 5 rfl
  go_wp2_with fail
  have hI2 : Ints w2 w2.heap.size .i64 (some ⟨gl, 0, none⟩) (flat2 l) := Ints.own (show w2.ownsRow base 60 2 (.slice (some ⟨gl, 0, none⟩) nn cc) nn ((flat2 l).map (Value.int .i64)) from HM.out.all (.row base 60 2 (.slice (some ⟨gl, 0, none⟩) nn cc) nn ((flat2 l).map (Value.int .i64))) (by simp [HL.out])) rfl (Nat.le_refl _)
  refine (HCF.out _ hI2).mono ?_
  rintro e w3 ⟨rfl, hb⟩
  replace HM := hide (HM.out.later hb)
  clear hb bf ltf f0 f1 f2 f3 f4 f5
  clear hI2
  unfold bookC at HM
  have bf : Blk w3 fl 41 #[.int .i64 gx, .int .i64 gy, .int .i64 gs, .int .i64 (W : Nat), .int .i64 (H : Nat), .slice (some ⟨gl, 0, none⟩) nn cc] := HM.out.get 0 rfl
  have ltf := bf.lt
  have f0 := bf.c 0 rfl
  have f1 := bf.c 1 rfl
  have f2 := bf.c 2 rfl
  have f3 := bf.c 3 rfl
  have f4 := bf.c 4 rfl
  have f5 := bf.c 5 rfl
  have Hk := hide (HM.out.blk_ 1 rfl)
  have b0 : w3.cell? ⟨p, 0, none⟩ = some (.int .i64 gx) := Hk.out.c 0 rfl
  have b1 : w3.cell? ⟨p, 1, none⟩ = some (.int .i64 gy) := Hk.out.c 1 rfl
  have b2 : w3.cell? ⟨p, 2, none⟩ = some (.int .i64 gs) := Hk.out.c 2 rfl
  have b3 : w3.cell? ⟨p, 3, none⟩ = some (.int .i64 (W : Nat)) := Hk.out.c 3 rfl
  have b4 : w3.cell? ⟨p, 4, none⟩ = some (.int .i64 (H : Nat)) := Hk.out.c 4 rfl
  have b8 : w3.cell? ⟨p, 8, none⟩ = some (.slice Am 1 cm) := Hk.out.c 8 rfl
  have ltp := Hk.out.lt
  go_wp2_with fail
  apply wp_region_L (w0 := w3) [[], [], [], [], [], [], [], []] [true, true, true, true, true, true, true, true] [] (fun ixq y => match ixq with  | _ => undef) (fun ixq x F wq => match ixq with  | _ => True) (fun a x => a) (by kernel_rfl) (by kernel_rfl) (fun _ => rfl) [30] (by kernel_rfl)
  · intro x D hD
    have hne := hD.some
    have k0 := liftB hD f0 (by first | assumption | omega)
    have k1 := liftB hD f1 (by first | assumption | omega)
    have k2 := liftB hD f2 (by first | assumption | omega)
    have k3 := liftB hD f3 (by first | assumption | omega)
    have k4 := liftB hD f4 (by first | assumption | omega)
    have p0 := liftB hD b0 (by first | assumption | omega)
    have p1 := liftB hD b1 (by first | assumption | omega)
    have p2 := liftB hD b2 (by first | assumption | omega)
    have p3 := liftB hD b3 (by first | assumption | omega)
    have p4 := liftB hD b4 (by first | assumption | omega)
    simp only [takeOps, Act.put, List.setIfInBounds_toArray, List.set_cons_succ, List.set_cons_zero]
    repeat (go_big_quiet_step (fail))
    exact wpQuiet_nil rfl
  · intro d hd x x'
    simp only [List.mem_cons, List.not_mem_nil, or_false] at hd
    rcases hd with rfl
    all_goals rfl
  · exact trivial
  · exact trivial
  intro xy w4 F hL hlv1
  clear hlv1
  replace HM := hide (HM.out.later hL)
  clear hL bf ltf f0 f1 f2 f3 f4 f5
  clear b0 b1 b2 b3 b4 b8 ltp Hk
  have bf : Blk w4 fl 41 #[.int .i64 gx, .int .i64 gy, .int .i64 gs, .int .i64 (W : Nat), .int .i64 (H : Nat), .slice (some ⟨gl, 0, none⟩) nn cc] := HM.out.get 0 rfl
  have ltf := bf.lt
  have f0 := bf.c 0 rfl
  have f1 := bf.c 1 rfl
  have f2 := bf.c 2 rfl
  have f3 := bf.c 3 rfl
  have f4 := bf.c 4 rfl
  have f5 := bf.c 5 rfl
  have Hk := hide (HM.out.blk_ 1 rfl)
  have b5 : w4.cell? ⟨p, 5, none⟩ = some (.int .i64 lev) := Hk.out.c 5 rfl
  have b7 : w4.cell? ⟨p, 7, none⟩ = some (.int .i64 last) := Hk.out.c 7 rfl
  have b8 : w4.cell? ⟨p, 8, none⟩ = some (.slice Am 1 cm) := Hk.out.c 8 rfl
  have ltp := Hk.out.lt
  have Htr := hide (HM.out.row_ 4 rfl)
  have hnp : (Value.slice Am 1 cm).ownBlock ≠ some p := fun e => HM.out.apart 1 4 rfl rfl (by decide) p (List.mem_singleton.2 rfl) (optL_iff.2 e)
  have hnf : (Value.slice Am 1 cm).ownBlock ≠ some fl := fun e => HM.out.apart 0 4 rfl rfl (by decide) fl (List.mem_singleton.2 rfl) (optL_iff.2 e)
  have HneT := hide hnp
  have hlr4 : w4.ownsRow base 60 2 (.slice (some ⟨gl, 0, none⟩) nn cc) nn ((flat2 l).map (Value.int .i64)) := HM.out.all (.row base 60 2 (.slice (some ⟨gl, 0, none⟩) nn cc) nn ((flat2 l).map (Value.int .i64))) (by simp [HL.out])
  have hngl : (Value.slice Am 1 cm).ownBlock ≠ some gl := fun e => (HM.out.perm (List.perm_middle (l₁ := [_, _, _, _]))).head_apart (t := .row base 60 2 (.slice (some ⟨gl, 0, none⟩) nn cc) nn ((flat2 l).map (Value.int .i64))) (by simp [HL.out]) gl (optL_iff.2 e) (by show gl ∈ optL _; simp [optL, Value.ownBlock])
  have hpgl : p ≠ gl := fun e => (HM.out.perm (List.perm_middle (l₁ := [_]))).head_apart (t := .row base 60 2 (.slice (some ⟨gl, 0, none⟩) nn cc) nn ((flat2 l).map (Value.int .i64))) (by simp [HL.out]) p (List.mem_singleton.2 rfl) (by show p ∈ optL _; rw [e]; simp [optL, Value.ownBlock])
  have hbw : base ≤ w4.heap.size := Nat.le_trans hb0 HM.out.size
  obtain ⟨i0, hi0, hy0, hy1, hy2⟩ := info_parts spreadInfo
  have Hi := hide hi0
  have Hz0 := hide hy0
  have Hz1 := hide hy1
  have Hz2 := hide hy2
  have HLR := hide hlr4
  clear hi0 hy0 hy1 hy2 hlr4
  go_wp2_with fail
  refine wp_region_cut 18 (by kernel_rfl) (by simp only [List.take_succ_cons, List.take_zero]; exact rfl) (by simp only [List.drop_succ_cons, List.drop_zero]; exact rfl) (by kernel_rfl) ?_
  apply any_region_F (w0 := w4) [[], [], [], [2], [2, 3], [2, 3, 4], [], [], [7], [7, 8], [7, 8, 9], [6, 7, 8, 9, 10], [6, 7, 8, 9, 10, 11], [2, 3, 4, 5, 6, 7, 8, 9, 10, 11, 12], [], [0, 2, 3, 4, 5, 6, 7, 8, 9, 10, 11, 12, 13], [0, 2, 3, 4, 5, 6, 7, 8, 9, 10, 11, 12, 13, 15], [0, 2, 3, 4, 5, 6, 7, 8, 9, 10, 11, 12, 13, 15, 16]] [true, false, true, true, true, true, true, true, true, true, true, false, false, false, false, true, true, false] [false, true, false, false, false, false, false, false, false, false, false, false, false, false, true, false, false, false] [⟨11, none, [], []⟩, ⟨12, none, [], [11]⟩, ⟨13, none, [12], [11]⟩, ⟨17, none, [], [13]⟩] (fillQ 13 (.slice Am 1 cm) 17 p) [17] (fun ixq y => match ixq with | 11 => .agg #[.int .i64 gx, .int .i64 gy, .int .i64 gs, .int .i64 (W : Nat), .int .i64 (H : Nat), .slice (y 0).1 (y 0).2 (y 0).2, .slice (y 1).1 nn nn] | 12 => .slice (y 0).1 1 1 | 13 => .slice (y 0).1 (1 + 1) (y 0).2 | 17 => undef | _ => undef) (fun ixq x F wq => match ixq with | 11 => SprF 11 W H nn w4.heap.size base (mayB l lev) (inB l lev) x F wq | 12 => OwnF wq F w4.heap.size 102 7 (.slice (x 12 0).1 1 1) 1 #[.int .i64 gx, .int .i64 gy, .int .i64 gs, .int .i64 (W : Nat), .int .i64 (H : Nat), .slice (x 11 0).1 (x 11 0).2 (x 11 0).2, .slice (x 11 1).1 nn nn].toList | 13 => OwnF wq F base 102 7 (.slice (x 13 0).1 (1 + 1) (x 13 0).2) (1 + 1) ((sprCells gx gy gs W H [s0]) ++ (#[.int .i64 gx, .int .i64 gy, .int .i64 gs, .int .i64 (W : Nat), .int .i64 (H : Nat), .slice (x 11 0).1 (x 11 0).2 (x 11 0).2, .slice (x 11 1).1 nn nn] : Array Value).toList) ∧ FreshOr w4.heap.size (.slice Am 1 cm) (.slice (x 13 0).1 (1 + 1) (x 13 0).2) | 17 => F p ∧ Blk wq p 100 #[.int .i64 gx, .int .i64 gy, .int .i64 gs, .int .i64 (W : Nat), .int .i64 (H : Nat), .int .i64 lev, .int .i64 (r : Nat), .int .i64 last, .slice (x 13 0).1 (1 + 1) (x 13 0).2, tv, .map (some mb), .int .i64 (kz 0), .int .i64 (kz 1), .int .i64 (kz 2), .int .i64 (kz 3), .int .i64 (kz 4), .int .i64 (kz 5), .int .i64 (kz 6), .int .i64 (kz 7)] | _ => True) (fun a x => ((((a).put (some 62) (.agg #[.int .i64 gx, .int .i64 gy, .int .i64 gs, .int .i64 (W : Nat), .int .i64 (H : Nat), .slice ((x 11) 0).1 ((x 11) 0).2 ((x 11) 0).2, .slice ((x 11) 1).1 nn nn])).put (some 63) (.slice ((x 12) 0).1 1 1)).put (some 64) (.slice ((x 13) 0).1 (1 + 1) ((x 13) 0).2)).put (none) (undef)) (by kernel_rfl) (by kernel_rfl) (fun _ => rfl) [54, 59, 66] (by kernel_rfl) (fillQ_lt (fun g hg => (Htr.out.lt g hg).2) (by omega)) (fillQ_ne HneT.out)
  · intro x D hD
    have hne := hD.some
    have k8 := liftS hD b8 (earlyQ (by first | assumption | omega) hnp)
    have k5 := liftS hD b5 (earlyQ (by first | assumption | omega) hnp)
    have a0 := liftS hD f0 (earlyQ (by first | assumption | omega) hnf)
    have a1 := liftS hD f1 (earlyQ (by first | assumption | omega) hnf)
    have a2 := liftS hD f2 (earlyQ (by first | assumption | omega) hnf)
    have a3 := liftS hD f3 (earlyQ (by first | assumption | omega) hnf)
    have a4 := liftS hD f4 (earlyQ (by first | assumption | omega) hnf)
    have a5 := liftS hD f5 (earlyQ (by first | assumption | omega) hnf)
    simp only [takeOps, Act.put, List.setIfInBounds_toArray, List.set_cons_succ, List.set_cons_zero]
    repeat (go_big_quiet_step (fail))
    exact wpQuiet_nil rfl
  · intro x D hD
    have hne := hD.some
    simp only [takeOps, Act.put, List.setIfInBounds_toArray, List.set_cons_succ, List.set_cons_zero]
    repeat (go_big_quiet_step (fail))
    exact wpQuiet_nil rfl
  · intro d hd x x'
    simp only [List.mem_cons, List.not_mem_nil, or_false] at hd
    rcases hd with rfl | rfl | rfl
    all_goals rfl
  · refine ⟨?_, ?_, ?_, ?_, trivial⟩
    · refine obl_callF rfl (fun _ => by kernel_rfl) 30 (fun x => #[.agg #[.int .i64 gx, .int .i64 gy, .int .i64 gs, .int .i64 (W : Nat), .int .i64 (H : Nat), .slice (some ⟨gl, 0, none⟩) nn cc], .int .i64 lev]) (fun x w => by kernel_rfl) ?_
      intro x w F hL hN
      have hown := own_keptQ HLR.out hL (fun g hg => by
        have e : g = gl := by
          have := hg.symm.trans (show (Value.slice (some ⟨gl, 0, none⟩) nn cc).ownBlock = some gl from rfl)
          exact Option.some.inj this
        subst e
        exact ⟨(HLR.out.lt g hg).2, freeQ hngl hpgl⟩)
      refine (HSP.out w (Ints.own hown rfl (Nat.le_refl _))).mono ?_
      rintro e w' ⟨s, rfl, hMs, hok⟩
      have hlow := hMs.lowAll (b := base) (Nat.le_trans hbw hL.size)
      rw [Spr.low] at hlow
      exact ⟨fun k => if k = 0 then (some ⟨s.bo, 0, none⟩, s.K) else (some ⟨s.g, 0, none⟩, 0), rfl, hMs.below, s, rfl, rfl, rfl, hok, fun t ht => hlow.all t ht, hlow.nodup, fun k hk => ⟨Nat.le_trans hL.size (hlow.low k hk), hlow.low k hk, hlow.lt k hk⟩⟩
    · exact obl_new rfl (fun _ => by kernel_rfl) 102 (fun x => #[.int .i64 gx, .int .i64 gy, .int .i64 gs, .int .i64 (W : Nat), .int .i64 (H : Nat), .slice (x 11 0).1 (x 11 0).2 (x 11 0).2, .slice (x 11 1).1 nn nn]) gP (fun x w => by kernel_rfl) (fun x w hle => own_new hle rfl (by unfold maxLen; omega))
    · refine obl_pushX 97 56 63 (by kernel_rfl) base 102 i0 _ 7 88 Try.underlying97 Hi.out Hz0.out Hz1.out Hz2.out rfl (by decide) (.slice Am 1 cm) 1 1 ((sprCells gx gy gs W H [s0])) (fun x => (#[.int .i64 gx, .int .i64 gy, .int .i64 gs, .int .i64 (W : Nat), .int .i64 (H : Nat), .slice (x 11 0).1 (x 11 0).2 (x 11 0).2, .slice (x 11 1).1 nn nn] : Array Value).toList) (fun x => by first | rfl | (simp; done) | (simp; omega)) (fun x => by simp [Value.oneCell']) (by unfold maxLen; omega) (by omega) (by first | assumption | omega) (fun x w F hk hn => ?_) (fun _ => rfl) (fun _ _ _ _ h1 h2 => ⟨h1, h2⟩)
      have hj : OwnF w (F 12) w4.heap.size 102 7 (.slice (x 12 0).1 1 1) 1 (#[.int .i64 gx, .int .i64 gy, .int .i64 gs, .int .i64 (W : Nat), .int .i64 (H : Nat), .slice (x 11 0).1 (x 11 0).2 (x 11 0).2, .slice (x 11 1).1 nn nn] : Array Value).toList := hn 12 (by simp)
      obtain ⟨ad, hA, hc⟩ := news_own hj (by decide)
      exact ⟨ad, 1, rfl, row_thenQ Htr.out HneT.out hk, wrQ_row, (show Value.slice (x 12 0).1 1 1 = _ by rw [hA]), hc⟩
    · exact obl_setv 97 100 67 64 p 8 _ (fun x => .slice (x 13 0).1 (1 + 1) (x 13 0).2) (fun x => #[.int .i64 gx, .int .i64 gy, .int .i64 gs, .int .i64 (W : Nat), .int .i64 (H : Nat), .int .i64 lev, .int .i64 (r : Nat), .int .i64 last, .slice (x 13 0).1 (1 + 1) (x 13 0).2, tv, .map (some mb), .int .i64 (kz 0), .int .i64 (kz 1), .int .i64 (kz 2), .int .i64 (kz 3), .int .i64 (kz 4), .int .i64 (kz 5), .int .i64 (kz 6), .int .i64 (kz 7)]) (by kernel_rfl) (fun _ => rfl) (fun _ => rfl) (fun _ => rfl) Hk.out (ebQ_set HneT.out) wrQ_set (by kernel_rfl) (by first | assumption | (simp; done)) (fun _ => rfl) (fun _ => rfl) (fun _ _ _ _ h1 h2 => ⟨h1, h2⟩)
  · refine ⟨?_, ?_, ?_, ?_, trivial⟩
    · exact ⟨SprF.owe.1, fun x x' F w hx h => SprF.owe.2 x x' F w (hx 11 (by simp)) h⟩
    · refine ⟨fun x F wq wq' h hs hk => ?_, fun x x' F wq hx h => ?_⟩
      · have h2 : OwnF wq F w4.heap.size 102 7 (.slice (x 12 0).1 1 1) 1 #[.int .i64 gx, .int .i64 gy, .int .i64 gs, .int .i64 (W : Nat), .int .i64 (H : Nat), .slice (x 11 0).1 (x 11 0).2 (x 11 0).2, .slice (x 11 1).1 nn nn].toList := h
        exact h2.stab hk
      · have h2 : OwnF wq F w4.heap.size 102 7 (.slice (x 12 0).1 1 1) 1 #[.int .i64 gx, .int .i64 gy, .int .i64 gs, .int .i64 (W : Nat), .int .i64 (H : Nat), .slice (x 11 0).1 (x 11 0).2 (x 11 0).2, .slice (x 11 1).1 nn nn].toList := h
        rw [hx 12 (by simp), hx 11 (by simp)] at h2
        exact h2
    · exact owe_pushX 13 _ base (.slice Am 1 cm) 102 7 (1 + 1) (fun x => ((sprCells gx gy gs W H [s0]) ++ (#[.int .i64 gx, .int .i64 gy, .int .i64 gs, .int .i64 (W : Nat), .int .i64 (H : Nat), .slice (x 11 0).1 (x 11 0).2 (x 11 0).2, .slice (x 11 1).1 nn nn] : Array Value).toList)) rfl (fun _ _ _ => rfl) (fun x x' hx => by simp only [hx 11 (by simp)])
    · exact owe_fill p 100 (fun x => #[.int .i64 gx, .int .i64 gy, .int .i64 gs, .int .i64 (W : Nat), .int .i64 (H : Nat), .int .i64 lev, .int .i64 (r : Nat), .int .i64 last, .slice (x 13 0).1 (1 + 1) (x 13 0).2, tv, .map (some mb), .int .i64 (kz 0), .int .i64 (kz 1), .int .i64 (kz 2), .int .i64 (kz 3), .int .i64 (kz 4), .int .i64 (kz 5), .int .i64 (kz 6), .int .i64 (kz 7)]) (fun _ _ _ => rfl) (fun x x' hx => by simp only [hx 13 (by simp)])
  intro xx w5 F hK hlv2 hap2
  have apart11_13 : ∀ k, F 11 k → ¬ F 13 k := hap2 _ (List.mem_iff_getElem?.2 ⟨0, rfl⟩) _ (List.mem_iff_getElem?.2 ⟨2, rfl⟩) (by decide) (by intro t ht; simp only [List.mem_cons, List.not_mem_nil, or_false] at ht; rcases ht with rfl | rfl | rfl | rfl <;> simp) (by intro t ht; simp only [List.mem_cons, List.not_mem_nil, or_false] at ht; rcases ht with rfl | rfl | rfl | rfl <;> simp)
  clear hap2
  obtain ⟨fct11, -, fct13, fct17, -⟩ := hlv2
  replace fct11 : SprF 11 W H nn w4.heap.size base (mayB l lev) (inB l lev) xx (F 11) w5 := fct11 rfl
  replace fct13 : OwnF w5 (F 13) base 102 7 (.slice (xx 13 0).1 (1 + 1) (xx 13 0).2) (1 + 1) ((sprCells gx gy gs W H [s0]) ++ (#[.int .i64 gx, .int .i64 gy, .int .i64 gs, .int .i64 (W : Nat), .int .i64 (H : Nat), .slice (xx 11 0).1 (xx 11 0).2 (xx 11 0).2, .slice (xx 11 1).1 nn nn] : Array Value).toList) ∧ FreshOr w4.heap.size (.slice Am 1 cm) (.slice (xx 13 0).1 (1 + 1) (xx 13 0).2) := fct13 rfl
  replace fct17 : (F 17) p ∧ Blk w5 p 100 #[.int .i64 gx, .int .i64 gy, .int .i64 gs, .int .i64 (W : Nat), .int .i64 (H : Nat), .int .i64 lev, .int .i64 (r : Nat), .int .i64 last, .slice (xx 13 0).1 (1 + 1) (xx 13 0).2, tv, .map (some mb), .int .i64 (kz 0), .int .i64 (kz 1), .int .i64 (kz 2), .int .i64 (kz 3), .int .i64 (kz 4), .int .i64 (kz 5), .int .i64 (kz 6), .int .i64 (kz 7)] := fct17 rfl
  refine ⟨rfl, ?_⟩
  obtain ⟨s, e0, e1, e2, hok, hMF⟩ := fct11
  obtain ⟨hot, hfr⟩ := fct13
  have hbk := fct17.2
  rw [e0, e1, e2] at hot
  have hnl : ∀ k ∈ fps (s.ts base nn), w4.heap.size ≤ k ∧ k ∉ optL (.slice (xx 13 0).1 (1 + 1) (xx 13 0).2) := fun k hk => ⟨(hMF.2.2 k hk).1, fun h => apart11_13 k (hMF.2.2 k hk).2 (hot.2 k (optL_iff.1 h))⟩
  have hot1 := hot.1
  simp only [e0, e1, e2]
  generalize (xx 13 0).1 = A7 at *
  generalize (xx 13 0).2 = c7 at *
  have hMp := HM.out.perm (perm_add5 _ _ _ _ _ _)
  have hM5 := Mem.pushed (nw := s.ts base nn) hMp (t0' := .blk p 100 _) rfl rfl hK hot1 hfr hbk hMF.1 hMF.2.1 hnl
  simp only [List.append_eq, List.nil_append, List.cons_append] at hM5
  have hM6 := hM5.perm (perm_add _ _ _ _ _ _ _ _ _ _)
  replace HM := hide hM6
  have HOK := hide hok
  clear hM5 hM6 hMp hK hot hot1 hfr hbk hMF hnl apart11_13 fct17 e0 e1 e2 hok Hk Htr HneT hnp hnf hngl hpgl HLR b5 b7 b8 ltp f0 f1 f2 f3 f4 f5 ltf bf Hi Hz0 Hz1 Hz2
  have b7 : w5.cell? ⟨p, 7, none⟩ = some (.int .i64 last) := (HM.out.blk_ 0 rfl).c 7 rfl
  have fb7 := (HM.out.blk_ 0 rfl).frozen 7
  have ltp := (HM.out.blk_ 0 rfl).lt
  go_upto_region 16 with fail
  refine code_world fun w6 hw6 => ?_
  simp only [Nat.reduceAdd]
  have hM6 := Mem.to (HM.out.set_ 0 rfl 7 (.int .i64 time) (cs' := bookC gx gy gs W H lev (r : Nat) time (.slice A7 2 c7) tv mb kz) rfl) hw6
  simp only [List.set_cons_zero] at hM6
  have hsc : sprCells gx gy gs W H [s0, s] = sprCells gx gy gs W H [s0] ++ [.int .i64 gx, .int .i64 gy, .int .i64 gs, .int .i64 (W : Nat), .int .i64 (H : Nat), .slice (some ⟨s.bo, 0, none⟩) s.K s.K, .slice (some ⟨s.g, 0, none⟩) nn nn] := by rw [show [s0, s] = [s0] ++ [s] from rfl, sprCells_app, HNN.out]
  have hM7 : Mem w0 ((⟨gx, gy, gs, W, H, lev, (r : Nat), time, p, mb, c, .slice A7 2 c7, tv, kz, [s0, s], T, of⟩ : Bk).ts base (s.ts base nn ++ (.blk fl 41 #[.int .i64 gx, .int .i64 gy, .int .i64 gs, .int .i64 (W : Nat), .int .i64 (H : Nat), .slice (some ⟨gl, 0, none⟩) nn cc] :: R))) w6 := by
    unfold Bk.ts Bk.cells
    dsimp only
    rw [hsc]
    exact hM6
  have hKN : s.K ≤ 64 := by have := HOK.out.le; rw [← HNN.out] at this; omega
  have hK0N : s0.K ≤ 64 := by have := HOK0.out.le; rw [← HNN.out] at this; omega
  obtain ⟨R1, hR1⟩ : ∃ q, (s.ts base nn ++ (.blk fl 41 #[.int .i64 gx, .int .i64 gy, .int .i64 gs, .int .i64 (W : Nat), .int .i64 (H : Nat), .slice (some ⟨gl, 0, none⟩) nn cc] :: R)) = q := ⟨_, rfl⟩
  rw [hR1] at hM7
  have hRR1 : ∀ t ∈ R, t ∈ R1 := fun t ht => by rw [← hR1]; exact List.mem_append_right _ (List.mem_cons_of_mem _ ht)
  have hSR1 : ∀ t ∈ s.ts base nn, t ∈ R1 := fun t ht => by rw [← hR1]; exact List.mem_append_left _ ht
  have hM8 := hM7
  unfold Bk.ts Bk.cells bookC at hM8
  dsimp only at hM8
  obtain ⟨gm, curM, rfl, -, hbM, -, -, hcM⟩ := row_blk (hM8.row_ 3 rfl) (by simp)
  have b8 : w6.cell? ⟨p, 8, none⟩ = some (.slice (some ⟨gm, 0, none⟩) 2 c7) := (hM8.blk_ 0 rfl).c 8 rfl
  have b6 : w6.cell? ⟨p, 6, none⟩ = some (.int .i64 (r : Nat)) := (hM8.blk_ 0 rfl).c 6 rfl
  have ltp := (hM8.blk_ 0 rfl).lt
  have m0 := hbM.c 0 (hcM 0 (.int .i64 gx) rfl)
  have m1 := hbM.c 1 (hcM 1 (.int .i64 gy) rfl)
  have m2 := hbM.c 2 (hcM 2 (.int .i64 gs) rfl)
  have m3 := hbM.c 3 (hcM 3 (.int .i64 (W : Nat)) rfl)
  have m4 := hbM.c 4 (hcM 4 (.int .i64 (H : Nat)) rfl)
  have m5 := hbM.c 5 (hcM 5 (.slice (some ⟨s0.bo, 0, none⟩) s0.K s0.K) rfl)
  have m6 := hbM.c 6 (hcM 6 (.slice (some ⟨s0.g, 0, none⟩) nn nn) (by rw [hsc, HNN.out]; rfl))
  have m7 := hbM.c 7 (hcM 7 (.int .i64 gx) rfl)
  have m8 := hbM.c 8 (hcM 8 (.int .i64 gy) rfl)
  have m9 := hbM.c 9 (hcM 9 (.int .i64 gs) rfl)
  have m10 := hbM.c 10 (hcM 10 (.int .i64 (W : Nat)) rfl)
  have m11 := hbM.c 11 (hcM 11 (.int .i64 (H : Nat)) rfl)
  have m12 := hbM.c 12 (hcM 12 (.slice (some ⟨s.bo, 0, none⟩) s.K s.K) rfl)
  have m13 := hbM.c 13 (hcM 13 (.slice (some ⟨s.g, 0, none⟩) nn nn) (by rw [hsc]; rfl))
  have ltm := hbM.lt
  replace HM := hide hM7
  have HR1 := hide hRR1
  have HS1 := hide hSR1
  clear hM6 hM7 hM8 hw6 hbM hcM hsc fb7 b7 hRR1 hSR1 hR1
  go_wp2_with fail
  refine wp_region_cut 19 (by kernel_rfl) (by simp only [List.take_succ_cons, List.take_zero]; exact rfl) (by simp only [List.drop_succ_cons, List.drop_zero]; exact rfl) (by kernel_rfl) ?_
  apply any_region_J (w0 := w6) [[], [], [], [], [], [], [], [], [], [], [], [], [], [], [], [], [], [], []] [true, true, true, true, true, true, true, true, true, true, true, true, true, true, true, true, true, true, true] [] (fun ixq y => match ixq with  | _ => undef) (fun ixq x F wq => match ixq with  | _ => True) (fun a x => a) (by kernel_rfl) (fun _ => rfl) [73, 81, 88] (by kernel_rfl)
  · intro x D hD
    have hne := hD.some
    have k8 := liftB hD b8 (by first | assumption | omega)
    have k6 := liftB hD b6 (by first | assumption | omega)
    have n0 := liftB hD m0 (by first | assumption | omega)
    have n1 := liftB hD m1 (by first | assumption | omega)
    have n2 := liftB hD m2 (by first | assumption | omega)
    have n3 := liftB hD m3 (by first | assumption | omega)
    have n4 := liftB hD m4 (by first | assumption | omega)
    have n5 := liftB hD m5 (by first | assumption | omega)
    have n6 := liftB hD m6 (by first | assumption | omega)
    have n7 := liftB hD m7 (by first | assumption | omega)
    have n8 := liftB hD m8 (by first | assumption | omega)
    have n9 := liftB hD m9 (by first | assumption | omega)
    have n10 := liftB hD m10 (by first | assumption | omega)
    have n11 := liftB hD m11 (by first | assumption | omega)
    have n12 := liftB hD m12 (by first | assumption | omega)
    have n13 := liftB hD m13 (by first | assumption | omega)
    simp only [takeOps, Act.put, List.setIfInBounds_toArray, List.set_cons_succ, List.set_cons_zero]
    repeat (go_big_quiet_step (fail))
    exact wpQuiet_nil rfl
  · intro d hd x x'
    simp only [List.mem_cons, List.not_mem_nil, or_false] at hd
    rcases hd with rfl | rfl | rfl
    all_goals rfl
  · exact trivial
  · exact trivial
  intro xq w7 F hL hlv3 hap3
  clear hap3
  clear hlv3
  refine ⟨rfl, ?_⟩
  replace HM := hide (HM.out.later hL)
  clear hL
  clear b8 b6 ltp m0 m1 m2 m3 m4 m5 m6 m7 m8 m9 m10 m11 m12 m13 ltm
  have hb0' : Blk w7 s0.g 3 (cellsF s0.f nn) := HM.out.all (.blk s0.g 3 (cellsF s0.f nn)) (Bk.mem (HR1.out _ HG0R.out))
  have hb1' : Blk w7 s.g 3 (cellsF s.f nn) := HM.out.all (.blk s.g 3 (cellsF s.f nn)) (Bk.mem (HS1.out _ (by unfold Spr.ts; simp)))
  have hev := events_any gx gy gs W H nn r s0.K s.K s0.bo s.bo s0.g s.g s0.f s.f w7 hW hH hW8 hH8 HNN.out hr8 hK0N hKN (by rw [HNN.out]; exact HOK0.out.lab) (by rw [HNN.out]; exact HOK.out.lab) hb0' hb1'
  have HEV := hide hev
  clear hb0' hb1' hev
  go_wp2_with fail
  refine HEV.out.mono ?_
  rintro e w8 ⟨v, E, L, rfl, hMe, hE, hnear, hkd, hlen⟩
  have hjl := hMe.lowAll (b := base) (Nat.le_trans hb0 HM.out.size)
  rw [evm_low] at hjl
  have hM9 := Bk.backL (HM.out.joinL hjl)
  obtain ⟨n, hn⟩ : ∃ n, E.length = n := ⟨_, rfl⟩
  obtain ⟨Ae, ce, rfl⟩ := own_shape2 (hjl.row_ 0 rfl)
  rw [hn] at hM9 hlen
  obtain ⟨R2, hR2⟩ : ∃ q, ((Th.row base 106 3 (.slice Ae n ce) n (evCells E) :: (E.map (thF base) ++ E.map (thT base))) ++ R1) = q := ⟨_, rfl⟩
  rw [hR2] at hM9
  simp only [hn]
  have hrow : .row base 106 3 (.slice Ae n ce) n (evCells E) ∈ R2 := by rw [← hR2]; simp
  have hrF : ∀ x ∈ E, thF base x ∈ R2 := fun x hx => by rw [← hR2]; exact List.mem_append_left _ (List.mem_cons_of_mem _ (List.mem_append_left _ (List.mem_map_of_mem hx)))
  have hrT : ∀ x ∈ E, thT base x ∈ R2 := fun x hx => by rw [← hR2]; exact List.mem_append_left _ (List.mem_cons_of_mem _ (List.mem_append_right _ (List.mem_map_of_mem hx)))
  have hR12 : ∀ t ∈ R1, t ∈ R2 := fun t ht => by rw [← hR2]; exact List.mem_append_right _ ht
  have HC0 := hide (show ChgS ⟨gx, gy, gs, W, H, lev, (r : Nat), time, p, mb, c, .slice (some ⟨gm, 0, none⟩) 2 c7, tv, kz, [s0, s], T, of⟩ base w0 R2 E s0.K 0 w8 from ⟨kz, T, of, c, ChgI.start HFT0.out, by omega, hM9⟩)
  have hn2 : n ≤ 128 := by omega
  have HE := hide hE
  have HNEAR := hide hnear
  have HKD := hide hkd
  have HROW := hide hrow
  have HRF := hide hrF
  have HRT := hide hrT
  have HR12 := hide hR12
  have HN := hide hn
  clear hE hnear hkd hrow hrF hrT hR12 hn
  clear HEV hMe hjl hM9 HM hR2 hlen t0' t1' t2' t0 t1 hlast
  go_wp2_with fail
  go_loopw [94] (fun u wr => ∃ k : Nat, k ≤ n ∧ u = .int .i64 (k : Nat) ∧ Hid (ChgS ⟨gx, gy, gs, W, H, lev, (r : Nat), time, p, mb, c, .slice (some ⟨gm, 0, none⟩) 2 c7, tv, kz, [s0, s], T, of⟩ base w0 R2 E s0.K k wr)) (fun u _ => n - (intOf u).toNat)
  case atStart => exact ⟨0, Nat.zero_le _, rfl, HC0⟩
  case round =>
    obtain ⟨k, hkn, rfl, HC⟩ := hrel
    clear HC0
    by_cases hlt : k < n
    · have hlt2 : (k : Int) < n := by omega
      obtain ⟨kz', T', of', c', hch, hcc, hM⟩ := HC.out
      dsimp only at hM
      obtain ⟨x, hx⟩ : ∃ x, E[k]? = some x := ⟨_, List.getElem?_eq_getElem (by rw [HN.out]; exact hlt)⟩
      have hxm := List.mem_of_getElem? hx
      have hev := hM.all _ (Bk.mem HROW.out)
      obtain ⟨ge, cur, rfl, -, hbe, -, -, hce⟩ := row_blk (show wr.ownsRow base 106 3 (.slice Ae n ce) n (evCells E) from hev) (by omega)
      have e0 := hbe.c (k * 3) (hce _ _ (evCells_get hx).1)
      have e1 := hbe.c (k * 3 + 1) (hce _ _ (evCells_get hx).2.1)
      have e2 := hbe.c (k * 3 + 2) (hce _ _ (evCells_get hx).2.2)
      have lte := hbe.lt
      have hrt := hM.all _ (Bk.mem (HRT.out x hxm))
      have hrf := hM.all _ (Bk.mem (HRF.out x hxm))
      have hrtR := HRT.out x hxm
      have hrfR := HRF.out x hxm
      have hkx := HKD.out x hxm
      have hfB := evm_frB HE.out x hxm
      have htB := evm_toB HE.out x hxm
      obtain ⟨xk, xf, xt, xe⟩ := x
      obtain ⟨At, ct, rfl⟩ := own_shape2 (show wr.ownsRow base 3 1 xt xe.2.2.length (numsV xe.2.2) from hrt)
      obtain ⟨Af, cf, rfl⟩ := own_shape2 (show wr.ownsRow base 3 1 xf xe.2.1.length (numsV xe.2.1) from hrf)
      unfold thT at hrtR
      unfold thF at hrfR
      dsimp only at e0 e1 e2 hkx hfB htB hrtR hrfR
      obtain ⟨nt, hnt⟩ : ∃ q, xe.2.2.length = q := ⟨_, rfl⟩
      obtain ⟨nf, hnf⟩ : ∃ q, xe.2.1.length = q := ⟨_, rfl⟩
      rw [hnt] at e2 hkx hrtR htB
      rw [hnf] at e1 hkx hrfR hfB
      simp only [hnt, hnf] at hx
      have HM := hide hM
      have HXE := hide hx
      have HCH := hide hch
      have HCC := hide hcc
      have HKX := hide hkx
      have HNT := hide hnt
      have HNF := hide hnf
      have HFB := hide hfB
      have HTB := hide htB
      have HRTR := hide hrtR
      have HRFR := hide hrfR
      clear hx hch hcc hkx hnt hnf hfB htB hrtR hrfR
      clear hM hbe hce hev hrt hrf HC hxm
      go_upto_region 22 with fail
      refine code_world fun w3 hW => ?_
      have HMn := Mem.to (Mem.allocAt HM.out wr.heap.size rfl #[.int .i64 xk, .slice Af nf cf, .slice At nt ct] 106) hW
      have LW : Later wr w3 := by rw [hW]; exact ((Below.refl _ _).alloc (Nat.le_refl _) _)
      have szW : w3.heap.size = wr.heap.size + 1 := by rw [hW]; simp
      clear hW
      replace HM := hide HMn
      clear HMn LW
      clear szW e0 e1 e2 lte
      obtain ⟨ev, hev⟩ : ∃ q, wr.heap.size = q := ⟨_, rfl⟩
      rw [hev] at HM
      simp only [hev]
      clear hev
      have be : Blk w3 ev 106 #[.int .i64 xk, .slice Af nf cf, .slice At nt ct] := HM.out.get 0 rfl
      have lte := be.lt
      have e0 := be.c 0 rfl
      have e1 := be.c 1 rfl
      have e2 := be.c 2 rfl
      have hMb := Bk.back HM.out
      have hT'l := HCH.out.len
      have hcl : c' ≤ 1000000 := by have := HCC.out; omega
      by_cases h4 : xk = 4
      · subst h4
        obtain ⟨l1, l2⟩ := kind_kept.1 HKX.out.symm
        subst l1 l2
        obtain ⟨i, hi⟩ := List.length_eq_one_iff.1 HNF.out
        obtain ⟨j, hj⟩ := List.length_eq_one_iff.1 HNT.out
        have h1 := HRFR.out
        have h2 := HRTR.out
        rw [hi] at h1
        rw [hj] at h2
        have hiK : i < s0.K := HFB.out.2.2 i (by rw [hi]; simp)
        have hjK : j < s.K := HTB.out.2 j (by rw [hj]; simp)
        have hcall := change_kept (⟨gx, gy, gs, W, H, lev, (r : Nat), time, p, mb, c', .slice (some ⟨gm, 0, none⟩) 2 c7, tv, kz', [s0, s], T', of'⟩ : Bk) base i j Af At cf ct w0 w3 (.blk ev 106 #[.int .i64 4, .slice Af 1 cf, .slice At 1 ct] :: R2) hb0 (by dsimp only; omega) hcl (HCH.out.zero i hiK) (by dsimp only; omega) (by omega) (fun t ht => by
          obtain ⟨q, hq⟩ := List.mem_iff_getElem?.1 ht
          obtain ⟨u, hu, -, -, u2⟩ := HCH.out.trk q (by rw [← hT'l]; exact (List.getElem?_eq_some_iff.1 hq).1)
          have := Option.some.inj (hq.symm.trans hu)
          subst this
          rcases u2 with u2 | ⟨_, _, _, _, _, _, _, u2⟩
          · rw [u2]; simp
          · rw [u2]; simp) (List.mem_cons_of_mem _ h1) (List.mem_cons_of_mem _ h2) hMb
        dsimp only at hcall
        have HCL := hide hcall
        clear hMb hcall HM
        go_wp2_with fail
        refine HCL.out.mono ?_
        rintro e w5 ⟨rfl, kz2, t, v2, c2, ht, hc2, hM5⟩
        dsimp only at ht hc2 hM5
        have HC5 := hide (show ChgS ⟨gx, gy, gs, W, H, lev, (r : Nat), time, p, mb, c, .slice (some ⟨gm, 0, none⟩) 2 c7, tv, kz, [s0, s], T, of⟩ base w0 R2 E s0.K (k + 1) w5 from ⟨kz2, _, _, c2, HCH.out.kept HE.out HXE.out hi hj ht v2, by have := HCC.out; omega, (Bk.front hM5).tail⟩)
        clear HCL hM5
        go_wp2_with fail
        go_roundw
        case rel => exact ⟨k + 1, hlt, by go_num, HC5⟩
        case measure => simp [intOf] <;> omega
      · have hbd := kind_bd nf nt
        rw [← HKX.out] at hbd
        obtain ⟨ke, rfl⟩ : ∃ ke : Nat, xk = (ke : Nat) := ⟨xk.toNat, by omega⟩
        have hcall := change_end (⟨gx, gy, gs, W, H, lev, (r : Nat), time, p, mb, c', .slice (some ⟨gm, 0, none⟩) 2 c7, tv, kz', [s0, s], T', of'⟩ : Bk) base ke nf Af cf (.slice At nt ct) xe.2.1 w0 w3 (.blk ev 106 #[.int .i64 (ke : Nat), .slice Af nf cf, .slice At nt ct] :: R2) hb0 (by dsimp only; omega) (by omega) (by omega) HNF.out (by have := HFB.out.1; omega) (fun i hi => by
          have hiK := HFB.out.2.2 i hi
          exact ⟨by omega, HCH.out.zero i hiK, by dsimp only; omega⟩) (List.mem_cons_of_mem _ HRFR.out) ⟨_, _, _, rfl⟩ hMb
        dsimp only at hcall
        have HCL := hide hcall
        clear hMb hcall HM
        go_wp2_with fail
        refine HCL.out.mono ?_
        rintro e w5 ⟨rfl, kz2, T2, hsame, hM5⟩
        have HC5 := hide (show ChgS ⟨gx, gy, gs, W, H, lev, (r : Nat), time, p, mb, c, .slice (some ⟨gm, 0, none⟩) 2 c7, tv, kz, [s0, s], T, of⟩ base w0 R2 E s0.K (k + 1) w5 from ⟨kz2, T2, of', c', HCH.out.ended hsame HXE.out (fun q j h1 h2 => h4 (HKX.out.trans (kind_kept.2 ⟨by rw [← HNF.out, h1]; rfl, by rw [← HNT.out, h2]; rfl⟩))), by have := HCC.out; omega, (Bk.front hM5).tail⟩)
        clear HCL hM5
        go_wp2_with fail
        go_roundw
        case rel => exact ⟨k + 1, hlt, by go_num, HC5⟩
        case measure => simp [intOf] <;> omega
    · have hkk : k = n := by omega
      have hnlt : ¬ ((k : Int) < n) := by omega
      obtain ⟨kz', T', of', c', hch, hcc, hM⟩ := HC.out
      dsimp only at hM
      have hbr := births_one (⟨gx, gy, gs, W, H, lev, (r : Nat), time, p, mb, c', .slice (some ⟨gm, 0, none⟩) 2 c7, tv, kz', [s0, s], T', of'⟩ : Bk) s0 s base n ce Ae E s0.K s.K w0 wr R2 hb0 rfl rfl hKN hK0N HN.out hn2 (by dsimp only; omega) (evm_toE HE.out) (fun j hj => evm_all HE.out hj) (evm_toB HE.out) (evm_frB HE.out) (fun x hx => by rw [HKD.out x hx]; exact kind_bd _ _) hch.sec HROW.out HRF.out HRT.out hM
      have hch2 : ChgI E s0.K E.length T' of' := by rw [HN.out, ← hkk]; exact hch
      dsimp only at hbr
      have HBR := hide hbr
      have HCH := hide hch2
      clear hM hbr hch hch2 HC hcc
      go_wp2_with fail
      refine HBR.out.mono ?_
      rintro e w9 ⟨rfl, tv2, T2, of2, c2, hsec, hc2, hM9⟩
      dsimp only at hsec hc2 hM9
      have HM9 := hide hM9
      have HSC := hide hsec
      clear hM9 hsec HBR
      go_wp2_with fail
      rw [← HPP.out]
      refine ⟨⟨.slice Ae n ce, rfl⟩, .slice (some ⟨gm, 0, none⟩) 2 c7, tv2, kz', T2, of2, c2, s, E, L, R2, HOK.out, HE.out, HNEAR.out, fun j hj => after_two HE.out HKD.out HCH.out HSC.out hj, ?_, ?_, ?_, HM9.out⟩
      · have h1 := HSC.out.len2
        refine ⟨by omega, fun q t ht => ⟨(HSC.out.lens q t ht).1, (HSC.out.lens q t ht).2, ?_⟩⟩
        have := HSC.out.cls q t ht
        omega
      · intro t ht
        dsimp only at ht
        rw [← HNN.out] at ht
        exact HR12.out t (HS1.out t ht)
      · exact fun t ht => HR12.out t (HR1.out t ht)
end Go.Proofs.Ytidbjidcjmbnlaa
end
section
namespace Go.Proofs.Ytidbjidcjmbnlaa
open Go Go.RowKit
attribute [local go_sem] Oper.semAt_some

theorem listInfo : (Try.prog.info? 66).map (fun i => (i.zero, i.size, i.bytes)) = some (some (.slice none 0 0), 1, 24) := by kernel_rfl
def goodM (W H : Nat) (s0 s1 : Spr) (a0 a1 : Nat) (m : Int × Int) : Bool := followB W H (s0.kern.getD a0 []) s1.f a1 m && followB W H (s1.kern.getD a1 []) s0.f a0 (-m.1, -m.2)
def StepsPost (l : List (Int × Int)) (w : World) (e : Ending) (w' : World) : Prop := ∃ v v1, e = .returned (.tuple #[v, .int .i64 0]) ∧ Below w.heap.size w w' ∧ w'.ownsRow w.heap.size 66 1 v 1 [v1] ∧ w'.ownsRow w.heap.size 68 2 v1 l.length ((flat2 l).map (Value.int .i64))
def StpI (l : List (Int × Int)) (w : World) (u8 u9 : Value) (wr : World) : Prop := (u8 = .slice none 0 0 ∧ u9 = .int .i64 1) ∨ (u9 = .int .i64 2 ∧ ∃ v1, wr.ownsRow w.heap.size 66 1 u8 1 [v1] ∧ wr.ownsRow w.heap.size 68 2 v1 l.length ((flat2 l).map (Value.int .i64)))
set_option maxHeartbeats 4000000 in
set_option maxRecDepth 100000 in
theorem Steps_one (B : Bk) (s0 s1 : Spr) (may0 in0 may1 in1 : Nat → Bool) (base k a0 a1 : Nat) (t : Trk) (w0 w : World) (R : List Th) (hM : Mem w0 (B.ts base R) w) (hS : B.S = [s0, s1]) (hrch : B.rch = 2) (hk : B.T[k]? = some t) (hf : t.fr = 0) (hal : t.al = [a0, a1])
    (hW : 1 ≤ B.W) (hH : 1 ≤ B.H) (hW8 : B.W ≤ 8) (hH8 : B.H ≤ 8) (ho0 : s0.Ok B.W B.H may0 in0) (ho1 : s1.Ok B.W B.H may1 in1) (h0 : SprAt w s0 base (B.W * B.H)) (h1 : SprAt w s1 base (B.W * B.H)) (ha0 : a0 < s0.K) (ha1 : a1 < s1.K) :
    Calls Try.prog 17 #[.pointer (some ⟨B.p, 0, none⟩), .int .i64 (k : Nat)] w (StepsPost (mvL (goodM B.W B.H s0 s1 a0 a1) 25) w) := by
  have hfind := fun V (hB : Below w.heap.size w V) => find_ok B base k t w0 V R (hM.later hB) hk
  have hmv := fun V (hB : Below w.heap.size w V) => moves_two B.gx B.gy B.gs B.W B.H (B.W * B.H) base a0 a1 s0 s1 may0 in0 may1 in1 V hW hH hW8 hH8 rfl (h0.later hB) ho0 (h1.later hB) ho1 ha0 ha1
  obtain ⟨ml, hml⟩ : ∃ q, mvL (goodM B.W B.H s0 s1 a0 a1) 25 = q := ⟨_, rfl⟩
  have hgd : (fun m => followB B.W B.H (s0.kern.getD a0 []) s1.f a1 m && followB B.W B.H (s1.kern.getD a1 []) s0.f a0 (-m.1, -m.2)) = goodM B.W B.H s0 s1 a0 a1 := rfl
  rw [hgd] at hmv
  unfold MovesPost at hmv
  rw [hml] at hmv ⊢
  obtain ⟨PP, hPP⟩ : ∃ PP, StepsPost ml w = PP := ⟨_, rfl⟩
  rw [hPP]
  have htm : t ∈ B.T := List.mem_of_getElem? hk
  have har : w.ownsRow base 3 1 t.av t.al.length (numsV t.al) := hM.all (thA base t) (by unfold Bk.ts; simp only [List.mem_cons, List.mem_append, List.mem_map]; exact .inr (.inr (.inr (.inr (.inl ⟨t, htm, rfl⟩)))))
  have hpr : w.ownsRow base 3 1 t.pv t.pl.length (numsV t.pl) := hM.all (thQ base t) (by unfold Bk.ts; simp only [List.mem_cons, List.mem_append, List.mem_map]; exact .inr (.inr (.inr (.inr (.inr (.inl ⟨t, htm, rfl⟩))))))
  have hcr : w.ownsRow base 3 1 t.cv t.cl.length (numsV t.cl) := hM.all (thC base t) (by unfold Bk.ts; simp only [List.mem_cons, List.mem_append, List.mem_map]; exact .inr (.inr (.inr (.inr (.inr (.inr (.inl ⟨t, htm, rfl⟩)))))))
  have hpr2 := own_shape2 hpr
  have hcr2 := own_shape2 hcr
  clear hpr hcr
  obtain ⟨gx, gy, gs, W, H, lev, rch, last, p, mb, c, mv, tv, kz, S, T, of⟩ := B
  obtain ⟨bg, fr, av, en, pv, cv, al, pl, cl⟩ := t
  dsimp only at hS hrch hf hal har hfind hmv hpr2 hcr2 ⊢
  obtain ⟨Ap, cp, rfl⟩ := hpr2
  obtain ⟨Ac, cc, rfl⟩ := hcr2
  subst hS hrch hf hal
  have hb : Blk w p 100 (bookC gx gy gs W H lev 2 last mv tv mb kz) := hM.blk_ 0 rfl
  have hmr : w.ownsRow base 102 7 mv 2 (sprCells gx gy gs W H [s0, s1]) := hM.row_ 3 rfl
  obtain ⟨Am, cm, rfl⟩ := own_shape2 hmr
  obtain ⟨bm, curm, rfl, -, hbm, -, -, hcm⟩ := row_blk hmr (by omega)
  obtain ⟨Aa, ca, rfl⟩ := own_shape2 har
  obtain ⟨ba, cura, rfl, -, hba, -, -, hca⟩ := row_blk har (by simp)
  have hspr := h0.bo.lt
  unfold spreadC at hmv
  have hcm2 : ∀ q, q < 14 → curm[q]? = (sprCells gx gy gs W H [s0, s1])[q]? := fun q hq => by
    obtain ⟨x, hx⟩ : ∃ x, (sprCells gx gy gs W H [s0, s1])[q]? = some x := ⟨_, List.getElem?_eq_getElem (by show q < 14; exact hq)⟩
    rw [hx]
    exact hcm q x hx
  have hca2 : ∀ q x, (numsV [a0, a1])[q]? = some x → cura[q]? = some x := hca
  unfold Trk.cells at hfind
  simp only [List.length_cons, List.length_nil, Nat.reduceAdd] at hfind
  generalize pl.length = np at *
  generalize cl.length = nc at *
  unfold sprCells spreadC at hcm2
  simp only [List.flatMap_cons, List.flatMap_nil, List.append_nil, List.cons_append, List.nil_append] at hcm2
  obtain ⟨NN, hNN⟩ : ∃ q, W * H = q := ⟨_, rfl⟩
  simp only [hNN] at hmv hcm2
  generalize s0.K = K0 at *
  generalize s0.bo = bo0 at *
  generalize s0.g = g0 at *
  generalize s1.K = K1 at *
  generalize s1.bo = bo1 at *
  generalize s1.g = g1 at *
  have HFD := hide hfind
  have HMV := hide hmv
  have HPP := hide hPP
  have HB := hide hb
  have HBM := hide hbm
  have HBA := hide hba
  have HCM := hide hcm2
  have HCA := hide hca2
  clear hfind hmv hPP hb hbm hba hcm2 hca2
  clear hM hk hW hH hW8 hH8 ho0 ho1 h0 h1 ha0 ha1 hml hgd htm har hmr hcm hca hspr hNN
  go_enter Try.func17, Try.ntmps17
  have HM := hide (Mem.start w)
  go_wp2_with fail
  refine (HFD.out _ HM.out.below).mono ?_
  rintro e w2 ⟨rfl, hb⟩
  replace HM := hide (HM.out.later hb)
  clear hb
  go_upto_region 2 with fail
  refine code_world fun W3 hW => ?_
  have HMn := Mem.to (Mem.allocAt HM.out w2.heap.size rfl #[.int .i64 bg, .int .i64 0, .slice (some ⟨ba, 0, none⟩) 2 ca, .int .i64 en, .slice Ap np cp, .slice Ac nc cc] 62) hW
  have LW : Later w2 W3 := by rw [hW]; exact ((Below.refl _ _).alloc (Nat.le_refl _) _)
  have szW : W3.heap.size = w2.heap.size + 1 := by rw [hW]; simp
  clear hW
  replace HM := hide HMn
  clear HMn LW
  clear szW
  obtain ⟨pT, hpT⟩ : ∃ q, w2.heap.size = q := ⟨_, rfl⟩
  rw [hpT] at HM
  simp only [hpT]
  clear hpT
  obtain ⟨T0, hT0⟩ : ∃ T0 : List Th, [.blk pT 62 #[.int .i64 bg, .int .i64 0, .slice (some ⟨ba, 0, none⟩) 2 ca, .int .i64 en, .slice Ap np cp, .slice Ac nc cc]] = T0 := ⟨_, rfl⟩
  rw [hT0] at HM
  have HT := hide hT0
  clear hT0
  go_wp2_with fail
  go_loopw [8, 9] (fun u8 u9 wr => Hid (StpI ml w u8 u9 wr) ∧ Hid (Mem w T0 wr)) (fun _ u9 _ => 2 - (intOf u9).toNat)
  case atStart => exact ⟨hide (.inl ⟨rfl, rfl⟩), HM⟩
  case round =>
    clear HM
    obtain ⟨HI, HM⟩ := hrel
    rcases HI.out with ⟨rfl, rfl⟩ | ⟨rfl, v1, hv, hv1⟩
    · clear HI
      rw [← HT.out] at HM
      have b4 : wr.cell? ⟨p, 8, none⟩ = some (.slice (some ⟨bm, 0, none⟩) 2 cm) := (blk_belowN HB.out HM.out.below HB.out.lt).c 8 rfl
      have b2 : wr.cell? ⟨p, 6, none⟩ = some (.int .i64 2) := (blk_belowN HB.out HM.out.below HB.out.lt).c 6 rfl
      have ltp := (blk_belowN HB.out HM.out.below HB.out.lt).lt
      have hbm := blk_belowN HBM.out HM.out.below HBM.out.lt
      have ltm := hbm.lt
      have hba := blk_belowN HBA.out HM.out.below HBA.out.lt
      have q0 := hba.c 0 (HCA.out 0 (.int .i64 (a0 : Nat)) rfl)
      have q1 := hba.c 1 (HCA.out 1 (.int .i64 (a1 : Nat)) rfl)
      have ltq := hba.lt
      have m0 := hbm.c 0 ((HCM.out 0 (by omega)).trans rfl)
      have m1 := hbm.c 1 ((HCM.out 1 (by omega)).trans rfl)
      have m2 := hbm.c 2 ((HCM.out 2 (by omega)).trans rfl)
      have m3 := hbm.c 3 ((HCM.out 3 (by omega)).trans rfl)
      have m4 := hbm.c 4 ((HCM.out 4 (by omega)).trans rfl)
      have m5 := hbm.c 5 ((HCM.out 5 (by omega)).trans rfl)
      have m6 := hbm.c 6 ((HCM.out 6 (by omega)).trans rfl)
      have m7 := hbm.c 7 ((HCM.out 7 (by omega)).trans rfl)
      have m8 := hbm.c 8 ((HCM.out 8 (by omega)).trans rfl)
      have m9 := hbm.c 9 ((HCM.out 9 (by omega)).trans rfl)
      have m10 := hbm.c 10 ((HCM.out 10 (by omega)).trans rfl)
      have m11 := hbm.c 11 ((HCM.out 11 (by omega)).trans rfl)
      have m12 := hbm.c 12 ((HCM.out 12 (by omega)).trans rfl)
      have m13 := hbm.c 13 ((HCM.out 13 (by omega)).trans rfl)
      clear hbm hba
      have bt : Blk wr pT 62 #[.int .i64 bg, .int .i64 0, .slice (some ⟨ba, 0, none⟩) 2 ca, .int .i64 en, .slice Ap np cp, .slice Ac nc cc] := HM.out.get 0 rfl
      have ltt := bt.lt
      have t0 := bt.c 0 rfl
      have t1 := bt.c 1 rfl
      have t2 := bt.c 2 rfl
      have t3 := bt.c 3 rfl
      have t4 := bt.c 4 rfl
      have t5 := bt.c 5 rfl
      have Hown := hide (World.ownsRow_nil wr wr.heap.size 66 1)
      obtain ⟨i0, hi0, hy0, hy1, hy2⟩ := info_parts listInfo
      have Hi := hide hi0
      have Hz0 := hide hy0
      have Hz1 := hide hy1
      have Hz2 := hide hy2
      clear hi0 hy0 hy1 hy2
      obtain ⟨nm, hnm⟩ : ∃ q, ml.length = q := ⟨_, rfl⟩
      obtain ⟨mcs, hmcs⟩ : ∃ q, (flat2 ml).map (Value.int .i64) = q := ⟨_, rfl⟩
      have hmv2 := HMV.out
      unfold mvTh at hmv2
      rw [hnm, hmcs] at hmv2
      have HMV2 := hide hmv2
      have HNM := hide hnm
      have HMCS := hide hmcs
      clear hmv2 hnm hmcs
      go_wp2_with fail
      refine wp_region_cut 40 (by kernel_rfl) (by simp only [List.take_succ_cons, List.take_zero]; exact rfl) (by simp only [List.drop_succ_cons, List.drop_zero]; exact rfl) (by kernel_rfl) ?_
      apply any_region_P (w0 := wr) 39 (.slice none 0 0) [[], [], [], [], [], [], [], [], [], [], [], [], [], [], [], [], [], [], [], [], [], [], [], [], [], [], [], [], [], [], [], [], [], [], [], [], [], [], [37], [37, 38]] [true, true, true, true, true, true, true, true, true, true, true, true, true, true, true, true, true, true, true, true, true, true, true, true, true, true, true, true, true, true, true, true, true, true, true, true, true, false, false, false] [⟨37, none, [], []⟩, ⟨38, none, [], [37]⟩, ⟨39, none, [38], [37]⟩] (fun ixq y => match ixq with | 37 => .slice (y 0).1 nm (y 0).2 | 38 => .slice (y 0).1 1 1 | 39 => .slice (y 0).1 (0 + 1) (y 0).2 | _ => undef) (fun ixq x F wq => match ixq with | 37 => OwnF wq F wr.heap.size 68 2 (.slice (x 37 0).1 nm (x 37 0).2) nm mcs | 38 => OwnF wq F wr.heap.size 66 1 (.slice (x 38 0).1 1 1) 1 #[.slice (x 37 0).1 nm (x 37 0).2].toList | 39 => OwnF wq F wr.heap.size 66 1 (.slice (x 39 0).1 (0 + 1) (x 39 0).2) (0 + 1) ([] ++ (#[.slice (x 37 0).1 nm (x 37 0).2] : Array Value).toList) ∧ FreshOr wr.heap.size (.slice none 0 0) (.slice (x 39 0).1 (0 + 1) (x 39 0).2) | _ => True) (fun a x => (((a).put (some 63) (.slice ((x 37) 0).1 nm ((x 37) 0).2)).put (some 64) (.slice ((x 38) 0).1 1 1)).put (some 65) (.slice ((x 39) 0).1 (0 + 1) ((x 39) 0).2)) (by kernel_rfl) (fun _ => rfl) [28, 45, 60] (by kernel_rfl) (fun g hg => (Hown.out.lt g hg).2)
      · intro x D hD
        have hne := hD.some
        have k0 := liftP hD b4 ⟨by first | assumption | omega, own_low_ne Hown.out (by first | assumption | omega)⟩
        have k1 := liftP hD b2 ⟨by first | assumption | omega, own_low_ne Hown.out (by first | assumption | omega)⟩
        have k2 := liftP hD t1 ⟨by first | assumption | omega, own_low_ne Hown.out (by first | assumption | omega)⟩
        have k3 := liftP hD t2 ⟨by first | assumption | omega, own_low_ne Hown.out (by first | assumption | omega)⟩
        have k4 := liftP hD q0 ⟨by first | assumption | omega, own_low_ne Hown.out (by first | assumption | omega)⟩
        have k5 := liftP hD q1 ⟨by first | assumption | omega, own_low_ne Hown.out (by first | assumption | omega)⟩
        have k6 := liftP hD m0 ⟨by first | assumption | omega, own_low_ne Hown.out (by first | assumption | omega)⟩
        have k7 := liftP hD m1 ⟨by first | assumption | omega, own_low_ne Hown.out (by first | assumption | omega)⟩
        have k8 := liftP hD m2 ⟨by first | assumption | omega, own_low_ne Hown.out (by first | assumption | omega)⟩
        have k9 := liftP hD m3 ⟨by first | assumption | omega, own_low_ne Hown.out (by first | assumption | omega)⟩
        have k10 := liftP hD m4 ⟨by first | assumption | omega, own_low_ne Hown.out (by first | assumption | omega)⟩
        have k11 := liftP hD m5 ⟨by first | assumption | omega, own_low_ne Hown.out (by first | assumption | omega)⟩
        have k12 := liftP hD m6 ⟨by first | assumption | omega, own_low_ne Hown.out (by first | assumption | omega)⟩
        have k13 := liftP hD m7 ⟨by first | assumption | omega, own_low_ne Hown.out (by first | assumption | omega)⟩
        have k14 := liftP hD m8 ⟨by first | assumption | omega, own_low_ne Hown.out (by first | assumption | omega)⟩
        have k15 := liftP hD m9 ⟨by first | assumption | omega, own_low_ne Hown.out (by first | assumption | omega)⟩
        have k16 := liftP hD m10 ⟨by first | assumption | omega, own_low_ne Hown.out (by first | assumption | omega)⟩
        have k17 := liftP hD m11 ⟨by first | assumption | omega, own_low_ne Hown.out (by first | assumption | omega)⟩
        have k18 := liftP hD m12 ⟨by first | assumption | omega, own_low_ne Hown.out (by first | assumption | omega)⟩
        have k19 := liftP hD m13 ⟨by first | assumption | omega, own_low_ne Hown.out (by first | assumption | omega)⟩
        simp only [takeOps, Act.put, List.setIfInBounds_toArray, List.set_cons_succ, List.set_cons_zero]
        repeat (go_big_quiet_step (fail))
        exact wpQuiet_nil rfl
      · intro d hd x x'
        simp only [List.mem_cons, List.not_mem_nil, or_false] at hd
        rcases hd with rfl | rfl | rfl
        all_goals rfl
      · refine ⟨?_, ?_, ?_, trivial⟩
        · refine obl_callP rfl (fun _ => by kernel_rfl) 38 (fun x => #[.agg #[.int .i64 gx, .int .i64 gy, .int .i64 gs, .int .i64 (W : Nat), .int .i64 (H : Nat), .slice (some ⟨bo0, 0, none⟩) K0 K0, .slice (some ⟨g0, 0, none⟩) NN NN], .int .i64 (a0 : Nat), .agg #[.int .i64 gx, .int .i64 gy, .int .i64 gs, .int .i64 (W : Nat), .int .i64 (H : Nat), .slice (some ⟨bo1, 0, none⟩) K1 K1, .slice (some ⟨g1, 0, none⟩) NN NN], .int .i64 (a1 : Nat), .int .i64 2]) (fun x w => by kernel_rfl) ?_
          intro x w F hL hN
          have hB : Below wr.heap.size wr w := ⟨hL.os, hL.tape, hL.output, hL.size, fun k hk => hL.block k hk (by simp [Value.ownBlock])⟩
          refine (HMV2.out w (onward HM.out.below hB)).mono ?_
          rintro e w' ⟨v, rfl, hMs⟩
          have hown : w'.ownsRow w.heap.size 68 2 v nm mcs := hMs.row_ 0 rfl
          obtain ⟨A, cq, rfl⟩ := own_shape2 hown
          exact ⟨fun _ => (A, cq), rfl, hMs.below, own_mono hown hB.size, fun g hg => hown.lt g hg⟩
        · exact obl_new rfl (fun _ => by kernel_rfl) 66 (fun x => #[.slice (x 37 0).1 nm (x 37 0).2]) gP (fun x w => by kernel_rfl) (fun x w hle => own_new hle rfl (by unfold maxLen; omega))
        · refine obl_pushX 63 26 64 (by kernel_rfl) wr.heap.size 66 i0 _ 1 24 Try.underlying63 Hi.out Hz0.out Hz1.out Hz2.out rfl (by decide) (.slice none 0 0) 0 1 ([]) (fun x => (#[.slice (x 37 0).1 nm (x 37 0).2] : Array Value).toList) (fun x => by first | rfl | (simp; done) | (simp; omega)) (fun x => by simp [Value.oneCell']) (by unfold maxLen; omega) (by omega) (by first | assumption | omega) (fun x w F hk hn => ?_) (fun _ => rfl) (fun _ _ _ _ h1 h2 => ⟨h1, h2⟩)
          have hj : OwnF w (F 38) wr.heap.size 66 1 (.slice (x 38 0).1 1 1) 1 (#[.slice (x 37 0).1 nm (x 37 0).2] : Array Value).toList := hn 38 (by simp)
          obtain ⟨ad, hA, hc⟩ := news_own hj (by decide)
          exact ⟨ad, 1, rfl, row_then (s := ⟨39, none, [38], [37]⟩) Hown.out rfl hk, fun g hg => ⟨rfl, hg⟩, (show Value.slice (x 38 0).1 1 1 = _ by rw [hA]), hc⟩
      · refine ⟨?_, ?_, ?_, trivial⟩
        · refine ⟨fun x F wq wq' h hs hk => ?_, fun x x' F wq hx h => ?_⟩
          · have h2 : OwnF wq F wr.heap.size 68 2 (.slice (x 37 0).1 nm (x 37 0).2) nm mcs := h
            exact h2.stab hk
          · have h2 : OwnF wq F wr.heap.size 68 2 (.slice (x 37 0).1 nm (x 37 0).2) nm mcs := h
            rw [hx 37 (by simp)] at h2
            exact h2
        · refine ⟨fun x F wq wq' h hs hk => ?_, fun x x' F wq hx h => ?_⟩
          · have h2 : OwnF wq F wr.heap.size 66 1 (.slice (x 38 0).1 1 1) 1 #[.slice (x 37 0).1 nm (x 37 0).2].toList := h
            exact h2.stab hk
          · have h2 : OwnF wq F wr.heap.size 66 1 (.slice (x 38 0).1 1 1) 1 #[.slice (x 37 0).1 nm (x 37 0).2].toList := h
            rw [hx 38 (by simp), hx 37 (by simp)] at h2
            exact h2
        · exact owe_pushX 39 _ wr.heap.size (.slice none 0 0) 66 1 (0 + 1) (fun x => ([] ++ (#[.slice (x 37 0).1 nm (x 37 0).2] : Array Value).toList)) rfl (fun _ _ _ => rfl) (fun x x' hx => by simp only [hx 37 (by simp)])
      intro xx w5 F hK hlv1 hap1
      clear hap1
      obtain ⟨fct37, -, fct39, -⟩ := hlv1
      replace fct37 : OwnF w5 (F 37) wr.heap.size 68 2 (.slice (xx 37 0).1 nm (xx 37 0).2) nm mcs := fct37 rfl
      replace fct39 : OwnF w5 (F 39) wr.heap.size 66 1 (.slice (xx 39 0).1 (0 + 1) (xx 39 0).2) (0 + 1) ([] ++ (#[.slice (xx 37 0).1 nm (xx 37 0).2] : Array Value).toList) ∧ FreshOr wr.heap.size (.slice none 0 0) (.slice (xx 39 0).1 (0 + 1) (xx 39 0).2) := fct39 rfl
      refine ⟨rfl, ?_⟩
      have hB : Below wr.heap.size wr w5 := ⟨hK.os, hK.tape, hK.output, hK.size, fun k hk => hK.block k hk (by simp [Value.ownBlock])⟩
      have o1 := own_mono fct37.1 HM.out.size
      have o2 := own_mono fct39.1.1 HM.out.size
      clear fct37 fct39
      generalize (xx 37 0).1 = A7 at *
      generalize (xx 37 0).2 = c7 at *
      generalize (xx 39 0).1 = A9 at *
      generalize (xx 39 0).2 = c9 at *
      rw [← HNM.out, ← HMCS.out] at o1
      rw [← HNM.out] at o2
      have HI2 := hide (show StpI ml w (.slice A9 (0 + 1) c9) (.int .i64 2) w5 from .inr ⟨rfl, _, o2, o1⟩)
      have HM2 := hide (HM.out.later hB)
      rw [HT.out] at HM2
      clear HM hK hB o1 o2 HMV2 HMCS b4 b2 ltp ltm q0 q1 ltq m0 m1 m2 m3 m4 m5 m6 m7 m8 m9 m10 m11 m12 m13 t0 t1 t2 t3 t4 t5 ltt bt Hown Hi Hz0 Hz1 Hz2
      simp only [Nat.zero_add] at HI2 ⊢
      go_wp2_with fail
      go_roundw
      case rel => exact ⟨HI2, HM2⟩
      case measure => simp [intOf] <;> omega
    · have HV := hide hv
      have HV1 := hide hv1
      clear hv hv1
      clear HI
      rw [← HT.out] at HM
      have bt : Blk wr pT 62 #[.int .i64 bg, .int .i64 0, .slice (some ⟨ba, 0, none⟩) 2 ca, .int .i64 en, .slice Ap np cp, .slice Ac nc cc] := HM.out.get 0 rfl
      have ltt := bt.lt
      have t0 := bt.c 0 rfl
      have t1 := bt.c 1 rfl
      have t2 := bt.c 2 rfl
      have t3 := bt.c 3 rfl
      have t4 := bt.c 4 rfl
      have t5 := bt.c 5 rfl
      go_wp2
      rw [← HPP.out]
      exact ⟨_, v1, rfl, HM.out.below, HV.out, HV1.out⟩
end Go.Proofs.Ytidbjidcjmbnlaa
end
section
namespace Go.Proofs.Ytidbjidcjmbnlaa
open Go Go.RowKit
attribute [local go_sem] Oper.semAt_some

theorem post_world {PP : Ending → World → Prop} {e : Ending} {W : World} (h : ∀ V, V = W → PP e V) : PP e W := h _ rfl
theorem perm_new {α : Type} {a b c d : α} : [a, b, c, d].Perm [c, a, d, b] := by
  have h1 : [a, b, c, d].Perm [c, a, b, d] := List.perm_middle (l₁ := [a, b]) (a := c) (l₂ := [d])
  exact h1.trans (.cons _ (.cons _ (.swap _ _ _)))
def NewPost (gx gy gs : Int) (W H : Nat) (lev : Int) (r : Nat) (w : World) (e : Ending) (w' : World) : Prop :=
  ∃ p mb, e = .returned (.tuple #[.pointer (some ⟨p, 0, none⟩), .int .i64 0]) ∧ Mem w ((⟨gx, gy, gs, W, H, lev, (r : Nat), -1, p, mb, 0, .slice none 0 0, .slice none 0 0, fun _ => 0, [], [], fun _ => none⟩ : Bk).ts w.heap.size []) w'
set_option maxHeartbeats 2000000 in
set_option maxRecDepth 100000 in
theorem new_ok (gx gy gs : Int) (W H r : Nat) (lev : Int) (w : World) (he : gridE gx gy gs W H = 0) (hv : 1 ≤ lev ∧ lev ≤ 1073741824) (hr : r ≤ 8) :
    Calls Try.prog 12 #[.agg #[.int .i64 gx, .int .i64 gy, .int .i64 gs, .int .i64 (W : Nat), .int .i64 (H : Nat)], .int .i64 lev, .int .i64 (r : Nat)] w (NewPost gx gy gs W H lev r w) := by
  obtain ⟨PP, hPP⟩ : ∃ PP, NewPost gx gy gs W H lev r w = PP := ⟨_, rfl⟩
  rw [hPP]
  have hcg := fun V => CheckGrid_any gx gy gs W H V
  rw [he] at hcg
  obtain ⟨v1, v2⟩ := hv
  have v1' : ¬ lev < 1 := by omega
  have v2' : ¬ 1073741824 < lev := by omega
  have r1' : ¬ (r : Int) < 0 := by omega
  have r2' : ¬ 8 < (r : Int) := by omega
  unfold gridV at hcg
  have HCG := hide hcg
  have HPP := hide hPP
  clear hcg hPP
  clear he
  go_enter Try.func12, Try.ntmps12
  have HM := hide (Mem.start w)
  go_wp2_with fail
  refine at_world fun W1 hW => ?_
  have HMn := Mem.to (Mem.allocAt HM.out w.heap.size rfl #[.int .i64 gx, .int .i64 gy, .int .i64 gs, .int .i64 (W : Nat), .int .i64 (H : Nat)] 28) hW
  have LW : Later w W1 := by rw [hW]; exact ((Below.refl _ _).alloc (Nat.le_refl _) _)
  have szW : W1.heap.size = w.heap.size + 1 := by rw [hW]; simp
  clear hW
  replace HM := hide HMn
  clear HMn LW
  clear szW
  refine (HCG.out _).mono ?_
  rintro e w2 ⟨rfl, hb⟩
  replace HM := hide (HM.out.later hb)
  clear hb
  have bg : Blk w2 w.heap.size 28 #[.int .i64 gx, .int .i64 gy, .int .i64 gs, .int .i64 (W : Nat), .int .i64 (H : Nat)] := HM.out.get 0 rfl
  have ltg := bg.lt
  have g0 := bg.c 0 rfl
  have g1 := bg.c 1 rfl
  have g2 := bg.c 2 rfl
  have g3 := bg.c 3 rfl
  have g4 := bg.c 4 rfl
  have hmm := @run_makeMap Try.prog
  go_wp2_with fail
  rw [← HPP.out]
  refine post_world fun V hV => ?_
  have hM2 := Mem.to ((HM.out.tail.newMapK Try.prog 118 plL okPl w2.heap.size rfl).allocAt (w2.heap.size + 1) (by simp) (bookC gx gy gs W H lev (r : Nat) (-1) (.slice none 0 0) (.slice none 0 0) w2.heap.size fun _ => 0) 100) hV
  exact ⟨w2.heap.size + 1, w2.heap.size, rfl, (((hM2.nilRow w.heap.size 102 7).nilRow w.heap.size 62 6).perm perm_new)⟩
end Go.Proofs.Ytidbjidcjmbnlaa
end
