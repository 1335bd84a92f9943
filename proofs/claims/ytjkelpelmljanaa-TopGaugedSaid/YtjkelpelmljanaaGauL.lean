/-
  The law TopGauged returns true.
-/
import Derived.Test.YtjkelpelmljanaaGauL1
import Derived.Test.YtjkelpelmljanaaGauL2
set_option linter.unusedSimpArgs false
set_option linter.unusedVariables false
namespace Go.Proofs.Ytjkelpelmljanaa
open Go Go.RowKit

/-- What is in truth, of the argument. -/
def gdOf (a : GArg) : Gd := ⟨500 + a.gn % 4500, 10000 + a.vl % 900000, a.ls, a.mo, a.sl, a.dr⟩
theorem gdOf_ok (a : GArg) (h1 : 0 ≤ a.gn ∧ a.gn ≤ 65535) (h2 : 0 ≤ a.vl ∧ a.vl ≤ 4294967295) (h3 : 0 ≤ a.ls ∧ a.ls ≤ 65535) (h4 : 0 ≤ a.mo ∧ a.mo ≤ 65535) (h5 : 0 ≤ a.sl ∧ a.sl ≤ 65535) (h6 : 0 ≤ a.dr ∧ a.dr ≤ 255) : GdOk (gdOf a) := by
  unfold gdOf
  constructor <;> simp only <;> omega
theorem own_capG {w : World} {base : Nat} {e : TypeId} {size n c : Nat} {A : Option Addr} {xs : List Value} (h : w.ownsRow base e size (.slice A n c) n xs) : n ≤ c ∧ c ≤ 9223372036854775807 := by
  rcases h.2 with ⟨hv, _⟩ | ⟨g, cap, cur, hv, _, _, h1, h2, _⟩
  · injection hv with e1 e2 e3; omega
  · injection hv with e1 e2 e3
    unfold maxLen at h2
    omega
set_option maxHeartbeats 8000000 in
set_option maxRecDepth 100000 in
theorem TopGauged_any (a : GArg) (zp : List Int) (l : List (Int × Int)) (zb : List Int) (w : World)
    (hp : Ints w w.heap.size .u32 a.Ap zp) (lp : zp.length = a.np) (mp : a.np ≤ maxLen) (bp : ∀ k, 0 ≤ zp.getD k 0 ∧ zp.getD k 0 ≤ 4294967295)
    (hr : Ints w w.heap.size .i64 a.Ar (flat2 l)) (lr : l.length = a.nr) (mr : a.nr ≤ maxLen)
    (hb : Ints w w.heap.size .u16 a.Ab zb) (lb : zb.length = a.nb) (mb : a.nb ≤ maxLen) (bb : ∀ k, 0 ≤ zb.getD k 0 ∧ zb.getD k 0 ≤ 65535)
    (gn : 0 ≤ a.gn ∧ a.gn ≤ 65535) (vl : 0 ≤ a.vl ∧ a.vl ≤ 4294967295) (ls : 0 ≤ a.ls ∧ a.ls ≤ 65535) (mo : 0 ≤ a.mo ∧ a.mo ≤ 65535) (sl : 0 ≤ a.sl ∧ a.sl ≤ 65535) (dr : 0 ≤ a.dr ∧ a.dr ≤ 255) (pc : 0 ≤ a.pc ∧ a.pc ≤ 65535) (sk : 0 ≤ a.sk ∧ a.sk ≤ 65535) :
    Calls Try.prog 3 #[.agg (gcells a)] w fun e w' => e = .returned (.bool true) ∧ Below w.heap.size w w' := by
  unfold maxLen at mp mr mb
  have hgd := gdOf_ok a gn vl ls mo sl dr
  have hck := fun W (h : Below w.heap.size w W) => CheckTable_any a.Ar a.nr a.cr l 1000000 W lr (by omega) ((hr.below h).more h.size)
  have Hp := hide hp
  have Hr := hide hr
  have Hb := hide hb
  have Bp := hide bp
  have Bb := hide bb
  have Hgd := hide hgd
  have Lp := hide lp
  have Lr := hide lr
  have Lb := hide lb
  have Hck := hide hck
  clear hp hr hb bp bb hgd lp lr lb hck
  unfold gcells
  by_cases h1 : (a.np : Int) < 1
  · go_enter Try.func3, Try.ntmps3
    have HM := hide (Mem.start w)
    go_wp2_with fail
    refine at_world fun W hW => ?_
    have HMn := Mem.to (Mem.allocAt HM.out w.heap.size rfl (gcells a) 28) hW
    have LW : Later w W := by rw [hW]; exact ((Below.refl _ _).alloc (Nat.le_refl _) _)
    have szW : W.heap.size = w.heap.size + 1 := by rw [hW]; simp
    clear hW
    replace HM := hide HMn
    clear HMn LW
    refine (gworks_any _).mono ?_
    rintro e w2 ⟨rfl, hb⟩
    replace HM := hide (HM.out.later hb)
    clear hb
    go_wp2
    go_ret
    exact ⟨rfl, HM.out.below⟩
  by_cases h2 : (6 : Int) < a.np
  · go_enter Try.func3, Try.ntmps3
    have HM := hide (Mem.start w)
    go_wp2_with fail
    refine at_world fun W hW => ?_
    have HMn := Mem.to (Mem.allocAt HM.out w.heap.size rfl (gcells a) 28) hW
    have LW : Later w W := by rw [hW]; exact ((Below.refl _ _).alloc (Nat.le_refl _) _)
    have szW : W.heap.size = w.heap.size + 1 := by rw [hW]; simp
    clear hW
    replace HM := hide HMn
    clear HMn LW
    refine (gworks_any _).mono ?_
    rintro e w2 ⟨rfl, hb⟩
    replace HM := hide (HM.out.later hb)
    clear hb
    go_wp2
    go_ret
    exact ⟨rfl, HM.out.below⟩
  by_cases h3 : (5 : Int) < a.nb
  · go_enter Try.func3, Try.ntmps3
    have HM := hide (Mem.start w)
    go_wp2_with fail
    refine at_world fun W hW => ?_
    have HMn := Mem.to (Mem.allocAt HM.out w.heap.size rfl (gcells a) 28) hW
    have LW : Later w W := by rw [hW]; exact ((Below.refl _ _).alloc (Nat.le_refl _) _)
    have szW : W.heap.size = w.heap.size + 1 := by rw [hW]; simp
    clear hW
    replace HM := hide HMn
    clear HMn LW
    refine (gworks_any _).mono ?_
    rintro e w2 ⟨rfl, hb⟩
    replace HM := hide (HM.out.later hb)
    clear hb
    go_wp2
    go_ret
    exact ⟨rfl, HM.out.below⟩
  by_cases h4 : (40 : Int) < a.nr
  · go_enter Try.func3, Try.ntmps3
    have HM := hide (Mem.start w)
    go_wp2_with fail
    refine at_world fun W hW => ?_
    have HMn := Mem.to (Mem.allocAt HM.out w.heap.size rfl (gcells a) 28) hW
    have LW : Later w W := by rw [hW]; exact ((Below.refl _ _).alloc (Nat.le_refl _) _)
    have szW : W.heap.size = w.heap.size + 1 := by rw [hW]; simp
    clear hW
    replace HM := hide HMn
    clear HMn LW
    refine (gworks_any _).mono ?_
    rintro e w2 ⟨rfl, hb⟩
    replace HM := hide (HM.out.later hb)
    clear hb
    go_wp2
    go_ret
    exact ⟨rfl, HM.out.below⟩
  obtain ⟨e0, he0⟩ : ∃ e0 : Int, chk l 1000000 = e0 := ⟨_, rfl⟩
  have hck2 := Hck.out
  simp only [he0] at hck2
  by_cases hc : e0 = 0
  · subst hc
    have Hck2 := hide hck2
    have Hc := hide he0
    clear hck2 he0
    obtain ⟨gm, hgm⟩ : ∃ gm : Int, a.gn % 4500 = gm := ⟨_, rfl⟩
    have hgt : a.gn.tmod 4500 = gm := (Int.tmod_eq_emod_of_nonneg gn.1).trans hgm
    obtain ⟨vm, hvm⟩ : ∃ vm : Int, a.vl % 900000 = vm := ⟨_, rfl⟩
    have hvt : a.vl.tmod 900000 = vm := (Int.tmod_eq_emod_of_nonneg vl.1).trans hvm
    obtain ⟨pm, hpm⟩ : ∃ pm : Int, a.pc % 600 = pm := ⟨_, rfl⟩
    have hpt : a.pc.tmod 600 = pm := (Int.tmod_eq_emod_of_nonneg pc.1).trans hpm
    obtain ⟨km, hkm⟩ : ∃ km : Int, a.sk % 1001 = km := ⟨_, rfl⟩
    have hkt : a.sk.tmod 1001 = km := (Int.tmod_eq_emod_of_nonneg sk.1).trans hkm
    have hgb : 0 ≤ gm ∧ gm ≤ 4499 := by omega
    have hvb : 0 ≤ vm ∧ vm ≤ 899999 := by omega
    have hpb : 0 ≤ pm ∧ pm ≤ 599 := by omega
    have hkb : 0 ≤ km ∧ km ≤ 1000 := by omega
    obtain ⟨G, hG⟩ : ∃ G : Int, 500 + gm = G := ⟨_, rfl⟩
    obtain ⟨V, hV⟩ : ∃ V : Int, 10000 + vm = V := ⟨_, rfl⟩
    obtain ⟨PC, hPC⟩ : ∃ PC : Int, 1 + pm = PC := ⟨_, rfl⟩
    have hGb : 500 ≤ G ∧ G ≤ 4999 := by omega
    have hVb : 10000 ≤ V ∧ V ≤ 909999 := by omega
    have hPb : 1 ≤ PC ∧ PC ≤ 600 := by omega
    have hx : GdOk ⟨G, V, a.ls, a.mo, a.sl, a.dr⟩ := by
      have := Hgd.out
      unfold gdOf at this
      rw [hgm, hvm, hG, hV] at this
      exact this
    obtain ⟨lo1, hlo1⟩ : ∃ lo1 : Int, max 1 (V - a.ls) = lo1 := ⟨_, rfl⟩
    have hlo2 : (if 1 < V - a.ls then V - a.ls else 1) = lo1 := by rw [← hlo1]; split <;> omega
    obtain ⟨hi1, hhi1⟩ : ∃ hi1 : Int, min 1000000 (V + a.mo) = hi1 := ⟨_, rfl⟩
    have hhi2 : (if V + a.mo < 1000000 then V + a.mo else 1000000) = hi1 := by rw [← hhi1]; split <;> omega
    have hlb : 1 ≤ lo1 ∧ lo1 ≤ V ∧ V ≤ hi1 ∧ hi1 ≤ 1000000 := by omega
    obtain ⟨M, hM⟩ : ∃ M : Int, V * G = M := ⟨_, rfl⟩
    have hMb := gd_prod hx
    simp only [hM] at hMb
    have hMt : M.tdiv 1000 = M / 1000 := tdiv_pos (by omega)
    have hMt2 : (M + 999).tdiv 1000 = (M + 999) / 1000 := tdiv_pos (by omega)
    obtain ⟨Q1, hQ1⟩ : ∃ Q1 : Int, M / 1000 = Q1 := ⟨_, rfl⟩
    obtain ⟨Q2, hQ2⟩ : ∃ Q2 : Int, (M + 999) / 1000 = Q2 := ⟨_, rfl⟩
    have hQb : 5000 ≤ Q1 ∧ Q1 ≤ Q2 ∧ Q2 ≤ 4549087 := by omega
    obtain ⟨tl, htl⟩ : ∃ tl : Int, max 1 (Q1 - a.sl) = tl := ⟨_, rfl⟩
    have htl2 : (if 1 < Q1 - a.sl then Q1 - a.sl else 1) = tl := by rw [← htl]; split <;> omega
    have hst : stdG ⟨G, V, a.ls, a.mo, a.sl, a.dr⟩ = ⟨⟨#[97]⟩, ⟨#[]⟩, lo1, hi1, 0, 10, a.dr⟩ := by
      unfold stdG
      simp only [hlo1, hhi1]
    have hts : tstG ⟨G, V, a.ls, a.mo, a.sl, a.dr⟩ = ⟨⟨#[114]⟩, ⟨#[97]⟩, 0, tl, Q2 + a.sl⟩ := by
      unfold tstG
      simp only [hM, hQ1, hQ2, htl]
    have hE1 := radarG hx
    have hE2 := defineG hx
    have hE3 := testG hx
    rw [hst] at hE2
    rw [hts] at hE3
    rw [hQ1] at hMt
    rw [hQ2] at hMt2
    obtain ⟨x, hxe⟩ : ∃ x : Gd, x = ⟨G, V, a.ls, a.mo, a.sl, a.dr⟩ := ⟨_, rfl⟩
    have Hx := hide hx
    have Hst := hide hst
    have Hts := hide hts
    have HE1 := hide hE1
    have HE2 := hide hE2
    have HE3 := hide hE3
    have HQ1 := hide hQ1
    have HQ2 := hide hQ2
    have Hgm := hide hgm
    have Hvm := hide hvm
    have Hpm := hide hpm
    have Hkm := hide hkm
    have Hxe := hide hxe
    clear hx hst hts hE1 hE2 hE3 hQ1 hQ2 hgm hvm hpm hkm hxe
    go_enter Try.func3, Try.ntmps3
    have HM := hide (Mem.start w)
    go_wp2_with fail
    refine at_world fun W hW => ?_
    have HMn := Mem.to (Mem.allocAt HM.out w.heap.size rfl (gcells a) 28) hW
    have LW : Later w W := by rw [hW]; exact ((Below.refl _ _).alloc (Nat.le_refl _) _)
    have szW : W.heap.size = w.heap.size + 1 := by rw [hW]; simp
    clear hW
    replace HM := hide HMn
    clear HMn LW
    refine (Hck2.out W HM.out.below).mono ?_
    rintro e w2 ⟨rfl, hb⟩
    replace HM := hide (HM.out.later hb)
    clear hb
    go_wp2_with fail
    have bX := Mem.blk_ HM.out 0 rfl
    have ltX := bX.lt
    have x1 : w2.cell? ⟨w.heap.size, 1, none⟩ = some (.int .u16 a.gn) := bX.c 1 rfl
    have x2 : w2.cell? ⟨w.heap.size, 2, none⟩ = some (.int .u32 a.vl) := bX.c 2 rfl
    have x3 : w2.cell? ⟨w.heap.size, 3, none⟩ = some (.int .u16 a.ls) := bX.c 3 rfl
    have x4 : w2.cell? ⟨w.heap.size, 4, none⟩ = some (.int .u16 a.mo) := bX.c 4 rfl
    have x5 : w2.cell? ⟨w.heap.size, 5, none⟩ = some (.int .u16 a.sl) := bX.c 5 rfl
    have x6 : w2.cell? ⟨w.heap.size, 6, none⟩ = some (.int .u8 a.dr) := bX.c 6 rfl
    have x7 : w2.cell? ⟨w.heap.size, 7, none⟩ = some (.int .u16 a.pc) := bX.c 7 rfl
    have x9 : w2.cell? ⟨w.heap.size, 9, none⟩ = some (.int .u16 a.sk) := bX.c 9 rfl
    have x10 : w2.cell? ⟨w.heap.size, 10, none⟩ = some (.slice a.Ab a.nb a.cb) := bX.c 10 rfl
    go_quiet (fail)
    have hL : Below w2.heap.size w2 (w2.drewN nq) := below_drewN (Below.refl _ _) _
    generalize (w2.drewN nq : World) = w3 at hL ⊢
    clear bX ltX x1 x2 x3 x4 x5 x6 x7 x9 x10
    replace HM := hide (HM.out.later hL)
    clear hL
    have bX := Mem.blk_ HM.out 0 rfl
    have ltX := bX.lt
    have x1 : w3.cell? ⟨w.heap.size, 1, none⟩ = some (.int .u16 a.gn) := bX.c 1 rfl
    have x2 : w3.cell? ⟨w.heap.size, 2, none⟩ = some (.int .u32 a.vl) := bX.c 2 rfl
    have x3 : w3.cell? ⟨w.heap.size, 3, none⟩ = some (.int .u16 a.ls) := bX.c 3 rfl
    have x4 : w3.cell? ⟨w.heap.size, 4, none⟩ = some (.int .u16 a.mo) := bX.c 4 rfl
    have x5 : w3.cell? ⟨w.heap.size, 5, none⟩ = some (.int .u16 a.sl) := bX.c 5 rfl
    have x6 : w3.cell? ⟨w.heap.size, 6, none⟩ = some (.int .u8 a.dr) := bX.c 6 rfl
    have x7 : w3.cell? ⟨w.heap.size, 7, none⟩ = some (.int .u16 a.pc) := bX.c 7 rfl
    have x9 : w3.cell? ⟨w.heap.size, 9, none⟩ = some (.int .u16 a.sk) := bX.c 9 rfl
    have x10 : w3.cell? ⟨w.heap.size, 10, none⟩ = some (.slice a.Ab a.nb a.cb) := bX.c 10 rfl
    go_wp2_with fail
    clear bX ltX x1 x2 x3 x4 x5 x6 x7 x9 x10
    refine (New_any _).mono ?_
    rintro e w4 ⟨p, L, rfl, hb, hB, hL⟩
    have HM1 := hide (HM.out.add (t := .book [] p L) hB hb hL)
    clear HM hb hB hL
    have HM := HM1
    clear HM1
    have bX := Mem.blk_ HM.out 1 rfl
    have ltX := bX.lt
    have x1 : w4.cell? ⟨w.heap.size, 1, none⟩ = some (.int .u16 a.gn) := bX.c 1 rfl
    have x2 : w4.cell? ⟨w.heap.size, 2, none⟩ = some (.int .u32 a.vl) := bX.c 2 rfl
    have x3 : w4.cell? ⟨w.heap.size, 3, none⟩ = some (.int .u16 a.ls) := bX.c 3 rfl
    have x4 : w4.cell? ⟨w.heap.size, 4, none⟩ = some (.int .u16 a.mo) := bX.c 4 rfl
    have x5 : w4.cell? ⟨w.heap.size, 5, none⟩ = some (.int .u16 a.sl) := bX.c 5 rfl
    have x6 : w4.cell? ⟨w.heap.size, 6, none⟩ = some (.int .u8 a.dr) := bX.c 6 rfl
    have x7 : w4.cell? ⟨w.heap.size, 7, none⟩ = some (.int .u16 a.pc) := bX.c 7 rfl
    have x9 : w4.cell? ⟨w.heap.size, 9, none⟩ = some (.int .u16 a.sk) := bX.c 9 rfl
    have x10 : w4.cell? ⟨w.heap.size, 10, none⟩ = some (.slice a.Ab a.nb a.cb) := bX.c 10 rfl
    go_wp2_with fail
    clear bX ltX x1 x2 x3 x4 x5 x6 x7 x9 x10
    refine at_world fun w5 hW => ?_
    have HMn := Mem.to (Mem.allocAt HM.out w4.heap.size rfl #[.string ⟨#[97]⟩, .string ⟨#[]⟩, .int .i64 lo1, .int .i64 hi1, .int .i64 0, .int .i64 10, .int .i64 a.dr] 37) hW
    have LW : Later w4 w5 := by rw [hW]; exact ((Below.refl _ _).alloc (Nat.le_refl _) _)
    have szW : w5.heap.size = w4.heap.size + 1 := by rw [hW]; simp
    clear hW
    replace HM := hide HMn
    clear HMn LW
    have c1 := Radar_any [] p L ⟨#[114]⟩ a.dr w5 (Mem.book_ HM.out 1 rfl) (by decide)
    rw [HE1.out] at c1
    refine c1.mono ?_
    clear c1
    rintro e w6 ⟨rfl, hp⟩
    obtain ⟨L2, HMn⟩ := HM.out.enter 1 rfl hp
    replace HM := hide HMn
    clear HMn hp
    rw [if_pos rfl] at HM
    have bs : Blk w6 w4.heap.size 37 #[.string ⟨#[97]⟩, .string ⟨#[]⟩, .int .i64 lo1, .int .i64 hi1, .int .i64 0, .int .i64 10, .int .i64 a.dr] := HM.out.get 0 rfl
    have lts := bs.lt
    have s0 := bs.c 0 rfl
    have s1 := bs.c 1 rfl
    have s2 := bs.c 2 rfl
    have s3 := bs.c 3 rfl
    have s4 := bs.c 4 rfl
    have s5 := bs.c 5 rfl
    have s6 := bs.c 6 rfl
    go_wp2_with fail
    have c2 := Define_any (bkG1 ⟨G, V, a.ls, a.mo, a.sl, a.dr⟩) p L2 ⟨⟨#[97]⟩, ⟨#[]⟩, lo1, hi1, 0, 10, a.dr⟩ w6 (Mem.book_ HM.out 1 rfl) (by show 1 ≤ maxLen; decide) (by show 0 ≤ maxLen; decide)
    rw [HE2.out] at c2
    refine c2.mono ?_
    clear c2
    rintro e w7 ⟨rfl, hp⟩
    obtain ⟨L3, HMn⟩ := HM.out.enter 1 rfl hp
    replace HM := hide HMn
    clear HMn hp
    clear bs lts s0 s1 s2 s3 s4 s5 s6
    rw [if_pos rfl] at HM
    have HMb := hide (show Mem w [.blk w4.heap.size 37 #[.string ⟨#[97]⟩, .string ⟨#[]⟩, .int .i64 lo1, .int .i64 hi1, .int .i64 0, .int .i64 10, .int .i64 a.dr], .book (bkG2 ⟨G, V, a.ls, a.mo, a.sl, a.dr⟩) p L3, .blk w.heap.size 28 (gcells a)] w7 by unfold bkG2; rw [Hst.out]; exact HM.out)
    clear HM
    have HM := HMb
    clear HMb
    have bX := Mem.blk_ HM.out 2 rfl
    have ltX := bX.lt
    have x1 : w7.cell? ⟨w.heap.size, 1, none⟩ = some (.int .u16 a.gn) := bX.c 1 rfl
    have x2 : w7.cell? ⟨w.heap.size, 2, none⟩ = some (.int .u32 a.vl) := bX.c 2 rfl
    have x3 : w7.cell? ⟨w.heap.size, 3, none⟩ = some (.int .u16 a.ls) := bX.c 3 rfl
    have x4 : w7.cell? ⟨w.heap.size, 4, none⟩ = some (.int .u16 a.mo) := bX.c 4 rfl
    have x5 : w7.cell? ⟨w.heap.size, 5, none⟩ = some (.int .u16 a.sl) := bX.c 5 rfl
    have x6 : w7.cell? ⟨w.heap.size, 6, none⟩ = some (.int .u8 a.dr) := bX.c 6 rfl
    have x7 : w7.cell? ⟨w.heap.size, 7, none⟩ = some (.int .u16 a.pc) := bX.c 7 rfl
    have x9 : w7.cell? ⟨w.heap.size, 9, none⟩ = some (.int .u16 a.sk) := bX.c 9 rfl
    have x10 : w7.cell? ⟨w.heap.size, 10, none⟩ = some (.slice a.Ab a.nb a.cb) := bX.c 10 rfl
    go_wp2_with fail
    clear bX ltX x1 x2 x3 x4 x5 x6 x7 x9 x10
    have c3 := Test_any (bkG2 ⟨G, V, a.ls, a.mo, a.sl, a.dr⟩) p L3 ⟨#[114]⟩ ⟨#[97]⟩ 0 tl (Q2 + a.sl) w7 (Mem.book_ HM.out 1 rfl) (by decide) (by decide)
    rw [HE3.out, if_pos rfl] at c3
    refine c3.mono ?_
    clear c3
    rintro e w8 ⟨rfl, hp⟩
    obtain ⟨L4, HMn⟩ := HM.out.enter 1 rfl hp
    replace HM := hide HMn
    clear HMn hp
    rw [if_pos rfl] at HM
    have HMb := hide (show Mem w [.row w.heap.size 52 3 (.slice none 0 0) 0 [], .blk w4.heap.size 37 #[.string ⟨#[97]⟩, .string ⟨#[]⟩, .int .i64 lo1, .int .i64 hi1, .int .i64 0, .int .i64 10, .int .i64 a.dr], .book (bkG ⟨G, V, a.ls, a.mo, a.sl, a.dr⟩) p L4, .blk w.heap.size 28 (gcells a)] w8 by unfold bkG; rw [Hts.out]; exact HM.out.nilRow _ _ _)
    clear HM
    have HM := HMb
    clear HMb
    go_wp2_with fail
    refine gl1 ⟨G, V, a.ls, a.mo, a.sl, a.dr⟩ Hx.out PC hPb.1 hPb.2 zp l Hc.out a w Hp.out Bp.out Lp.out (by omega) Hr.out Lr.out (by omega) p w.heap.size w4.heap.size L4 _ HM.out ?_ (fun ra w9 hr hd hB => bodyPost_ret (R := fun e w' => e = Ending.returned (Value.bool true) ∧ Below w.heap.size w w') hr hd ⟨rfl, hB⟩)
    clear HM
    intro kv2 kv14 kv15 kv16 kv17 kv18 kv19 kv20 kv21 kv22 kv23 kv131 kv132 kv133 kv134 kv135 kv136 kv137 kv138 kv139 kv140 kv141 kv142 kv143 kv144 kv145 kv146 kv147 kv148 kv149 kv150 kv151 kv152 kv153 kv154 kv155 kv156 kv157 kv158 kv159 kv160 kv161 kv162 kv163 kv164 kv165 kv166 kv167 kv168 kv169 kv170 kv171 kv172 kv173 kv174 kv175 kv176 kv177 kv178 kv179 kv180 kv181 kv182 kv183 kv184 kv185 kv186 kv187 kv188 kv189 kv190 kv191 kv192 kv193 kv194 kv195 kv196 kv197 kv198 kv199 kv200 kv201 kv202 kv203 kv204 kv205 kv206 kv207 kv208 kv209 kv210 kv211 kv212 kv213 kv214 kv215 kv216 kv217 kv218 kv219 kv220 kv221 kv222 kv223 kv224 kv225 kv226 kv227 kv228 kv229 kv230 kv231 kv232 kv233 kv234 kv235 kv236 kv237 kv238 kv239 kv240 kv241 kv242 kv243 kv244 kv245 kv246 kv247 kv248 kv249 kv250 kv251 kv252 kv253 kv254 kv255 kv256 kv257 kv258 kv259 kv260 kv261 kv262 kv263 kv264 kv265 kv266 kv267 kv268 kv269 kv270 kv271
    intro rv w9 hM9
    obtain ⟨hrd, hM9⟩ := hM9
    have HM := hide hM9
    clear hM9
    obtain ⟨Av, cv, rfl⟩ := own_shape2 (Mem.row_ HM.out 0 rfl)
    have hcap := own_capG (Mem.row_ HM.out 0 rfl)
    obtain ⟨S, hS, S1, S2, S3, S4⟩ := sum_in (sl := km) hrd (by omega) hkb.1 hkb.2
    obtain ⟨Sa, Sb⟩ := S
    simp only at S1 S2 S3 S4
    have hle := le_bd hrd a.np (Nat.le_refl _)
    obtain ⟨le0, hle0⟩ : ∃ le0 : Int, leG PC (tG zp l) a.np = le0 := ⟨_, rfl⟩
    obtain ⟨mo0, hmo0⟩ : ∃ mo0 : Int, moG PC (tG zp l) a.np = mo0 := ⟨_, rfl⟩
    rw [hle0, hmo0] at hle
    rw [hle0] at S2
    rw [hmo0] at S3
    rw [hle0, hmo0]
    obtain ⟨ED, hED⟩ : ∃ ED : Int, (a.np : Int) * PC = ED := ⟨_, rfl⟩
    have hED0 : 0 ≤ ED := by rw [← hED]; exact Int.mul_nonneg (by omega) (by omega)
    have hED1 : ED ≤ 6 * 600 := by rw [← hED]; exact Int.mul_le_mul (by omega) hPb.2 (by omega) (by omega)
    rw [hED] at hS
    have hd1 : decide (le0 < Sa * 360) = false := decide_eq_false (by omega)
    have hd2 : decide (Sb * 360 < mo0) = false := decide_eq_false (by omega)
    have Hrd := hide hrd
    have HS := hide hS
    have Hle0 := hide hle0
    have Hmo0 := hide hmo0
    clear hrd hS hle0 hmo0
    have bX := Mem.blk_ HM.out 3 rfl
    have ltX := bX.lt
    have x1 : w9.cell? ⟨w.heap.size, 1, none⟩ = some (.int .u16 a.gn) := bX.c 1 rfl
    have x2 : w9.cell? ⟨w.heap.size, 2, none⟩ = some (.int .u32 a.vl) := bX.c 2 rfl
    have x3 : w9.cell? ⟨w.heap.size, 3, none⟩ = some (.int .u16 a.ls) := bX.c 3 rfl
    have x4 : w9.cell? ⟨w.heap.size, 4, none⟩ = some (.int .u16 a.mo) := bX.c 4 rfl
    have x5 : w9.cell? ⟨w.heap.size, 5, none⟩ = some (.int .u16 a.sl) := bX.c 5 rfl
    have x6 : w9.cell? ⟨w.heap.size, 6, none⟩ = some (.int .u8 a.dr) := bX.c 6 rfl
    have x7 : w9.cell? ⟨w.heap.size, 7, none⟩ = some (.int .u16 a.pc) := bX.c 7 rfl
    have x9 : w9.cell? ⟨w.heap.size, 9, none⟩ = some (.int .u16 a.sk) := bX.c 9 rfl
    have x10 : w9.cell? ⟨w.heap.size, 10, none⟩ = some (.slice a.Ab a.nb a.cb) := bX.c 10 rfl
    go_wp2_with fail
    clear bX ltX x1 x2 x3 x4 x5 x6 x7 x9 x10
    have c5 := Sum_any Av a.np cv (rdG PC (fG ⟨G, V, a.ls, a.mo, a.sl, a.dr⟩ PC zp l) a.np) ED km w9 (rdG_len _ _ _) (by omega) hcap.1 hcap.2 (Ints.own (Mem.row_ HM.out 0 rfl) rfl (Nat.le_refl _))
    rw [HS.out] at c5
    unfold spanER at c5
    simp only at c5
    refine (c5).mono ?_
    rintro e w10 ⟨rfl, hb⟩
    replace HM := hide (HM.out.later hb)
    clear hb
    clear c5
    have bX := Mem.blk_ HM.out 3 rfl
    have ltX := bX.lt
    have x1 : w10.cell? ⟨w.heap.size, 1, none⟩ = some (.int .u16 a.gn) := bX.c 1 rfl
    have x2 : w10.cell? ⟨w.heap.size, 2, none⟩ = some (.int .u32 a.vl) := bX.c 2 rfl
    have x3 : w10.cell? ⟨w.heap.size, 3, none⟩ = some (.int .u16 a.ls) := bX.c 3 rfl
    have x4 : w10.cell? ⟨w.heap.size, 4, none⟩ = some (.int .u16 a.mo) := bX.c 4 rfl
    have x5 : w10.cell? ⟨w.heap.size, 5, none⟩ = some (.int .u16 a.sl) := bX.c 5 rfl
    have x6 : w10.cell? ⟨w.heap.size, 6, none⟩ = some (.int .u8 a.dr) := bX.c 6 rfl
    have x7 : w10.cell? ⟨w.heap.size, 7, none⟩ = some (.int .u16 a.pc) := bX.c 7 rfl
    have x9 : w10.cell? ⟨w.heap.size, 9, none⟩ = some (.int .u16 a.sk) := bX.c 9 rfl
    have x10 : w10.cell? ⟨w.heap.size, 10, none⟩ = some (.slice a.Ab a.nb a.cb) := bX.c 10 rfl
    by_cases hnb : a.nb = 0
    · have hz : ((a.nb : Int) == 0) = true := by simp [hnb]
      go_wp2_with fail
      clear bX ltX x1 x2 x3 x4 x5 x6 x7 x9 x10
      refine at_world fun w11 hW => ?_
      have HMn := Mem.to (Mem.allocAt HM.out w10.heap.size rfl #[.int .i64 Sa, .int .i64 Sb] 35) hW
      have LW : Later w10 w11 := by rw [hW]; exact ((Below.refl _ _).alloc (Nat.le_refl _) _)
      have szW : w11.heap.size = w10.heap.size + 1 := by rw [hW]; simp
      clear hW
      replace HM := hide HMn
      clear HMn LW
      refine (gworks_any _).mono ?_
      rintro e w12 ⟨rfl, hb⟩
      replace HM := hide (HM.out.later hb)
      clear hb
      go_wp2
      go_ret
      exact ⟨rfl, HM.out.below⟩
    · have hz : ((a.nb : Int) == 0) = false := beq_eq_false_iff_ne.2 (by omega)
      go_wp2_with fail
      clear bX ltX x1 x2 x3 x4 x5 x6 x7 x9 x10
      refine code_world fun w11 hW => ?_
      have HMn := Mem.to (Mem.allocAt HM.out w10.heap.size rfl #[.int .i64 Sa, .int .i64 Sb] 35) hW
      have LW : Later w10 w11 := by rw [hW]; exact ((Below.refl _ _).alloc (Nat.le_refl _) _)
      have szW : w11.heap.size = w10.heap.size + 1 := by rw [hW]; simp
      clear hW
      replace HM := hide HMn
      clear HMn LW
      refine gl2 Sa Sb le0 (by omega) (by omega) zb Bb.out a w Hb.out Lb.out (by omega) w.heap.size w10.heap.size HM.out.below (Mem.blk_ HM.out 0 rfl) (Mem.blk_ HM.out 4 rfl) ?_
      clear HM
      intro kv27 kv306 kv307 kv308 kv309 kv310 kv311 kv312 kv313 kv314 kv315 kv316 kv317 kv318 kv319 kv320 kv321 kv322 kv323 kv324 kv325 kv326 kv327 kv328 kv329 kv330 kv331
      intro rv w12 hh
      obtain ⟨hown, hbel⟩ := hh
      obtain ⟨Av2, cv2, rfl⟩ := own_shape2 hown
      have hcap2 := own_capG hown
      have c7 := Adjust_any Av2 a.nb cv2 (paG (Sa, Sb) le0 (szG zb) a.nb) w12 (paG_len _ _ _ _) (by omega) hcap2.1 hcap2.2 (Ints.own hown rfl (Nat.le_refl _))
      obtain ⟨r, hr, r1, r2⟩ := adj_in (S := (Sa, Sb)) (le := le0) (sz := szG zb) (n := a.nb) (by omega) (by omega) S1 S2 (by simp only; omega) S4 (fun k => by have := Bb.out k; unfold szG; omega) (by omega) (by omega)
      obtain ⟨ra, rb⟩ := r
      simp only at r1 r2
      have hd3 : decide (ra ≤ 1000) = true := decide_eq_true r1
      have hd4 : decide (1000 ≤ rb) = true := decide_eq_true r2
      rw [hr] at c7
      unfold adjV at c7
      simp only at c7
      clear hr hown
      have HB := hide hbel
      clear hbel
      go_wp2_with fail
      refine (c7).mono ?_
      rintro e w13 ⟨rfl, hb⟩
      replace HB := hide (onward HB.out hb)
      clear hb
      clear c7
      go_wp2_with fail
      refine at_world fun w14 hW => ?_
      have bq0 : Blk w14 w13.heap.size 35 #[.int .i64 ra, .int .i64 rb] := by rw [hW]; exact (Blk.new _ _ _).alloc _
      have bq1 : Blk w14 (w13.heap.size + 1) 45 #[.int .i64 0, .int .i64 0] := by rw [hW]; exact blk_new_at (by simp)
      have LW : Later w13 w14 := by rw [hW]; exact (((Below.refl _ _).alloc (Nat.le_refl _) _).alloc (by simp; try omega) _)
      have szW : w14.heap.size = w13.heap.size + 2 := by rw [hW]; simp
      clear hW
      replace HB := hide (onward HB.out LW)
      have Ho := hide bq0
      have Ha := hide bq1
      clear bq0 bq1 LW szW
      refine (gworks_any _).mono ?_
      rintro e w15 ⟨rfl, hb⟩
      replace HB := hide (onward HB.out hb)
      replace Ho := hide (blk_later Ho.out hb)
      replace Ha := hide (blk_later Ha.out hb)
      clear hb
      go_wp2
      go_ret
      exact ⟨rfl, HB.out⟩
  · have hne : (e0 == 0) = false := beq_eq_false_iff_ne.2 hc
    have Hck2 := hide hck2
    have Hc := hide he0
    clear hck2 he0
    go_enter Try.func3, Try.ntmps3
    have HM := hide (Mem.start w)
    go_wp2_with fail
    refine at_world fun W hW => ?_
    have HMn := Mem.to (Mem.allocAt HM.out w.heap.size rfl (gcells a) 28) hW
    have LW : Later w W := by rw [hW]; exact ((Below.refl _ _).alloc (Nat.le_refl _) _)
    have szW : W.heap.size = w.heap.size + 1 := by rw [hW]; simp
    clear hW
    replace HM := hide HMn
    clear HMn LW
    refine (Hck2.out W HM.out.below).mono ?_
    rintro e w2 ⟨rfl, hb⟩
    replace HM := hide (HM.out.later hb)
    clear hb
    go_wp2_with fail
    refine (gworks_any _).mono ?_
    rintro e w3 ⟨rfl, hb⟩
    replace HM := hide (HM.out.later hb)
    clear hb
    go_wp2
    go_ret
    exact ⟨rfl, HM.out.below⟩
end Go.Proofs.Ytjkelpelmljanaa
