/-
  The ground under a ray: the iterator's contract.
-/
import Derived.Test.YthhhecidogcmjaaPlaces2
import Derived.Test.YthhhecidogcmjaaBlockMath
namespace Go.Proofs.Ythhhecidogcmjaa
open Go Go.RowKit
attribute [local go_sem] Oper.semAt_some

def overZ (l : List (Int × Int)) (gx gy gs wi hi x y : Int) : Int × Int := if pixZ gx gy gs wi hi x y < 0 then (0, 20000) else l.getD (pixZ gx gy gs wi hi x y).toNat (0, 0)
theorem pixZ_lt {gx gy gs wi hi x y : Int} (h1 : 1 ≤ gs) (h2 : ¬ pixZ gx gy gs wi hi x y < 0) (h3 : 1 ≤ wi) (h4 : wi ≤ 64) (h5 : hi ≤ 64) : pixZ gx gy gs wi hi x y < wi * hi ∧ pixZ gx gy gs wi hi x y ≤ 4096 := by
  unfold pixZ at *
  split at h2
  · omega
  · rename_i hc
    rw [if_neg hc]
    obtain ⟨a1, a2⟩ := pix_bd (gx := gx) (gs := gs) (wi := wi) (x := x) h1 (by omega) (by omega)
    obtain ⟨b1, b2⟩ := pix_bd (gx := gy) (gs := gs) (wi := hi) (x := y) h1 (by omega) (by omega)
    have hm := Int.mul_le_mul_of_nonneg_right (show (y - gy) / gs + 1 ≤ hi by omega) (show 0 ≤ wi by omega)
    rw [Int.add_mul, Int.mul_comm hi wi] at hm
    obtain ⟨m1, m2⟩ := mul_bdB (a := wi) (b := hi) (A := 64) (B := 64) (by omega) h4 (by omega) h5
    omega
/-- The ground under gate j of a ray. -/
def groundZ (l : List (Int × Int)) (sx sy ro st t ray gx gy gs wi hi : Int) (j : Nat) : Int × Int := overZ l gx gy gs wi hi (placeZ sx sy ro st t ray j).1 (placeZ sx sy ro st t ray j).2


set_option maxHeartbeats 4000000 in
set_option maxRecDepth 100000 in
theorem under_stops (S : Nat → Prop) (n₀ m : Nat) (s : ByteArray) (sx sy z ro g st wd t ray gx gy gs wi hi : Int) (G : Nat) (A : Option Addr) (n c : Nat) (l : List (Int × Int)) (b0 b1 b2 b3 : Nat) (w : World) (hm : 1 ≤ m)
    (h1 : 0 ≤ t) (h2 : t ≤ 256) (hg : g = G) (hg2 : g ≤ 200) (h5 : 0 ≤ st) (h6 : st ≤ 2000) (r1 : 1 ≤ ro) (r2 : ro ≤ 90) (a1 : 0 ≤ ray) (a2 : ray < 4 * ro)
    (X1 : -1048576 ≤ sx) (X2 : sx ≤ 1048576) (Y1 : -1048576 ≤ sy) (Y2 : sy ≤ 1048576)
    (p1 : -1048576 ≤ gx) (p2 : gx ≤ 1048576) (q1 : -1048576 ≤ gy) (q2 : gy ≤ 1048576) (c1 : 1 ≤ gs) (c2 : gs ≤ 10000) (d1 : 1 ≤ wi) (d2 : wi ≤ 64) (e1 : 1 ≤ hi) (e2 : hi ≤ 64)
    (hn : l.length = n) (hsz : (n : Int) = wi * hi) (hl : Ints w n₀ .i64 A (flat2 l)) (hn0 : n₀ ≤ w.heap.size) (hS : ∀ k, S k → k < w.heap.size) (hSn : ∀ k, k < n₀ → S k)
    (B0 : Blk w b0 33 #[.string s, .int .i64 sx, .int .i64 sy, .int .i64 z, .int .i64 ro, .int .i64 g, .int .i64 st, .int .i64 wd]) (B1 : Blk w b1 3 #[.int .i64 t]) (B2 : Blk w b2 3 #[.int .i64 ray])
    (B3 : Blk w b3 38 #[.int .i64 gx, .int .i64 gy, .int .i64 gs, .int .i64 wi, .int .i64 hi, .slice A n c]) (l0 : S b0) (l1 : S b1) (l2 : S b2) (l3 : S b3) :
    SeqStopsK Fence.wide m Try.prog 89 #[.pointer (some ⟨b0, 0, none⟩), .pointer (some ⟨b1, 0, none⟩), .pointer (some ⟨b2, 0, none⟩), .pointer (some ⟨b3, 0, none⟩)]
      (fun x : Fin G => #[.int .i64 (x.val : Int), .agg #[.int .i64 (groundZ l sx sy ro st t ray gx gy gs wi hi x.val).1, .int .i64 (groundZ l sx sy ro st t ray gx gy gs wi hi x.val).2]])
      (KeptS S) (fun xs => xs = List.finRange G) (fun q => q <+: List.finRange G) G w := by
  intro lp J Jx W hW hJ hJx hY h0
  have hp := fun j (j0 : 0 ≤ j) (j1 : j < g) W => place_any s sx sy z ro g st wd t ray j W h1 h2 j0 (by omega) h5 h6 r1 r2 a1 a2 X1 X2 Y1 Y2
  have hx := fun x y W => pixel_any gx gy gs wi hi x y W p1 p2 q1 q2 c1 c2 d1 d2 e1 e2
  have hpz : ∀ x y, ¬ pixZ gx gy gs wi hi x y < 0 → pixZ gx gy gs wi hi x y < n ∧ pixZ gx gy gs wi hi x y ≤ 4096 := fun x y h => by
    rw [hsz]; exact pixZ_lt c1 h d1 d2 e2
  have ho : ∀ j : Nat, groundZ l sx sy ro st t ray gx gy gs wi hi j = overZ l gx gy gs wi hi (placeZ sx sy ro st t ray j).1 (placeZ sx sy ro st t ray j).2 := fun j => rfl
  have hwn : n₀ ≤ W.heap.size := Nat.le_trans hn0 hW.size
  have hSW : ∀ k, S k → k < W.heap.size := fun k h => Nat.lt_of_lt_of_le (hS k h) hW.size
  unfold siteV gridV at *
  replace B0 := blk_later B0 hW
  replace B1 := blk_later B1 hW
  replace B2 := blk_later B2 hW
  replace B3 := blk_later B3 hW
  replace hl := hl.below (hW.mono hn0)
  subst hg
  have HS := hide hS
  have HSn := hide hSn
  have HSW := hide hSW
  have Hp := hide hp
  have Hx := hide hx
  have Hpz := hide hpz
  have Ho := hide ho
  have Hl := hide hl
  have Hn := hide hn
  have HJ := hide hJ
  have HY := hide hY
  have H0 := hide h0
  have HJx := hide hJx
  have C0 := hide B0
  have C1 := hide B1
  have C2 := hide B2
  have C3 := hide B3
  have Hsz := hide hsz
  clear hS hSn hSW hp hx hpz ho hl hn hJ hY h0 hJx B0 B1 B2 B3 hsz
  clear hW
  refine callsIn_of_wp Try.func89 rfl trivial ?_
  simp only [Try.ntmps89, List.size_toArray, List.length_cons, List.length_nil, Nat.reduceAdd, Nat.reduceSub, Array.replicate_succ, Array.replicate_zero, List.push_toArray, List.append_toArray, List.nil_append, List.cons_append]
  obtain ⟨q0', q1', q2', q3', q4', q5', q6', q7'⟩ := C0.out.site8
  have ltq := C0.out.lt
  gi_wp2_with fail
  clear q0' q1' q2' q3' q4' q5' q6' q7' ltq
  gi_loopw [13] (fun i wr => ∃ k : Nat, k ≤ G ∧ i = .int .i64 k ∧ J ((List.finRange G).take k) wr ∧ KeptS S W wr) (fun i _ => G - (intOf i).toNat)
  case atStart => exact ⟨0, by omega, rfl, by simpa using H0.out, KeptS.refl _ _⟩
  case round =>
    obtain ⟨k, hk, rfl, hj, hbw⟩ := hrel
    have hsw := hbw.size
    have S0 := hide (blk_keptS C0.out hbw l0)
    have S1 := hide (blk_keptS C1.out hbw l1)
    have S2 := hide (blk_keptS C2.out hbw l2)
    have S3 := hide (blk_keptS C3.out hbw l3)
    have I0 := hide ((Hl.out.keep (fun b o hb => cell_of_heap (hbw.block b (HSn.out b hb) (by omega)))).more (Nat.le_trans hwn hsw))
    have HB := hide hbw
    have Hj := hide hj
    clear hbw hj
    have HK := hide (Below.refl wr.heap.size wr)
    by_cases hlt : k < G
    · have hlt2 : (k : Int) < G := by omega
      have hpk := fun W => Hp.out k (by omega) hlt2 W
      have hok := Ho.out k
      have hts := take_fin hlt
      generalize placeZ sx sy ro st t ray k = pl at *
      obtain ⟨px, py⟩ := pl
      have hxk := fun W => Hx.out px py W
      have hpl := Hpz.out px py
      unfold overZ at hok
      simp only at hpk hok
      generalize pixZ gx gy gs wi hi px py = pz at *
      generalize hgv : groundZ l sx sy ro st t ray gx gy gs wi hi k = gv at *
      obtain ⟨gv1, gv2⟩ := gv
      have Hpk := hide hpk
      have Hxk := hide hxk
      have Hok := hide hok
      have Hts := hide hts
      have Hpl := hide hpl
      have Hgv := hide hgv
      clear hpk hxk hok hts hpl hgv
      obtain ⟨q0', q1', q2', q3', q4', q5', q6', q7'⟩ := S0.out.site8
      have ltq := S0.out.lt
      have x0 := S1.out.c 0 rfl
      have ltx := S1.out.lt
      have y0 := S2.out.c 0 rfl
      have lty := S2.out.lt
      gi_wp2_with fail
      refine ⟨trivial, ?_⟩
      refine at_worldIn fun W1 hW => ?_
      have bq0 : Blk W1 wr.heap.size 47 #[.int .i64 0, .int .i64 20000] := by rw [hW]; exact Blk.new _ _ _
      have LW : Later wr W1 := by rw [hW]; exact ((Below.refl _ _).alloc (Nat.le_refl _) _)
      have szW : W1.heap.size = wr.heap.size + 1 := by rw [hW]; simp
      clear hW x0 ltx y0 lty
      replace I0 := hide ((Ints.below I0.out LW).more (Below.size LW))
      replace S0 := hide (blk_later S0.out LW)
      replace S1 := hide (blk_later S1.out LW)
      replace S2 := hide (blk_later S2.out LW)
      replace S3 := hide (blk_later S3.out LW)
      replace HK := hide (onward HK.out LW)
      have Hv := hide bq0
      clear bq0 LW szW
      clear q0' q1' q2' q3' q4' q5' q6' q7' ltq
      refine (callsIn_wide.2 (Hpk.out _)).mono ?_
      rintro e w2 ⟨rfl, hb⟩
      replace I0 := hide ((Ints.below I0.out hb).more (Below.size hb))
      replace S0 := hide (blk_later S0.out hb)
      replace S1 := hide (blk_later S1.out hb)
      replace S2 := hide (blk_later S2.out hb)
      replace S3 := hide (blk_later S3.out hb)
      replace HK := hide (onward HK.out hb)
      replace Hv := hide (blk_later Hv.out hb)
      clear hb
      obtain ⟨f0, f1, f2, f3, f4, f5⟩ := S3.out.c6
      have ltf := S3.out.lt
      gi_wp2_with fail
      clear f0 f1 f2 f3 f4 f5 ltf
      refine ⟨trivial, ?_⟩
      refine (callsIn_wide.2 (Hxk.out _)).mono ?_
      rintro e w3 ⟨rfl, hb⟩
      replace I0 := hide ((Ints.below I0.out hb).more (Below.size hb))
      replace S0 := hide (blk_later S0.out hb)
      replace S1 := hide (blk_later S1.out hb)
      replace S2 := hide (blk_later S2.out hb)
      replace S3 := hide (blk_later S3.out hb)
      replace HK := hide (onward HK.out hb)
      replace Hv := hide (blk_later Hv.out hb)
      clear hb
      by_cases hz : pz < 0
      · have hg' := Hok.out
        rw [if_pos hz] at hg'
        injection hg' with hg1 hg2
        subst hg1 hg2
        obtain ⟨W4, hW4⟩ : ∃ W4, W4 = w3 := ⟨_, rfl⟩
        have hb4 : Below wr.heap.size wr w3 := HK.out
        obtain ⟨v0, v1⟩ := Hv.out.c2
        have ltv := Hv.out.lt
        have hj4 := abides_below HJ.out Hj.out hb4
        have hY4 := HY.out ((List.finRange G).take k) ⟨k, hlt⟩ W4 (by rw [hW4]; exact hj4) (by simp; omega)
        dsimp only at hY4
        rw [Hgv.out, hW4] at hY4
        have H4 := hide hb4
        clear hb4 hj4 hW4
        obtain ⟨fn, tmps, assign, body, hy, hR⟩ := hY4
        dsimp only at hy hR
        have HR := hide hR
        clear hR
        gi_wp2
        refine HR.out.mono ?_
        rintro e W5 (⟨rfl, hJ5, hk5⟩ | ⟨rfl, hJx5⟩)
        · clear hy HR
          have hbn : KeptS S W W5 := (HB.out.trans (KeptS.of_below H4.out (fun k hk => Nat.lt_of_lt_of_le (HSW.out k hk) hsw))).trans hk5
          rw [← Hts.out] at hJ5
          have HJ5 := hide hJ5
          have HBN := hide hbn
          have HK5 := hide hk5
          clear hJ5 hbn hk5
          gi_wp2
          go_roundw
          case rel => exact ⟨k + 1, by omega, by go_num, HJ5.out, HBN.out⟩
          case measure => simp [intOf]; omega
        · clear hy HR
          rw [← Hts.out] at hJx5
          have HX5 := hide hJx5
          clear hJx5
          gi_wp2
          refine bodyPost_ret (results_none rfl _ _ _) rfl ?_
          exact ⟨⟨_, rfl⟩, .inr ⟨_, List.take_prefix _ _, HX5.out⟩⟩
      · have hg' := Hok.out
        rw [if_neg hz] at hg'
        obtain ⟨hp1, hp2⟩ := Hpl.out (by omega)
        obtain ⟨q, rfl⟩ : ∃ q : Nat, pz = q := ⟨pz.toNat, by omega⟩
        rw [Int.toNat_natCast] at hg'
        have hqn : q < n := by omega
        obtain ⟨bl, off, rfl, hbl, hcl⟩ := I0.out.pt (by have := Hn.out; omega)
        obtain ⟨u0, u1⟩ := hcl q (by have := Hn.out; omega)
        rw [← hg'] at u0 u1
        simp only at u0 u1
        clear hcl hg'
        obtain ⟨W4, hW4⟩ : ∃ W4, W4 = (w3.setCell ⟨wr.heap.size, 0, none⟩ (.int .i64 gv1)).setCell ⟨wr.heap.size, 1, none⟩ (.int .i64 gv2) := ⟨_, rfl⟩
        have hb4 : Below wr.heap.size wr ((w3.setCell ⟨wr.heap.size, 0, none⟩ (.int .i64 gv1)).setCell ⟨wr.heap.size, 1, none⟩ (.int .i64 gv2)) := (HK.out.setCell (Nat.le_refl _) _).setCell (Nat.le_refl _) _
        obtain ⟨f0, f1, f2, f3, f4, f5⟩ := S3.out.c6
        have ltf := S3.out.lt
        obtain ⟨v0, v1⟩ := Hv.out.c2
        have ltv := Hv.out.lt
        have fv0 := Hv.out.frozen 0
        have fv1 := Hv.out.frozen 1
        have hj4 := abides_below HJ.out Hj.out hb4
        have hY4 := HY.out ((List.finRange G).take k) ⟨k, hlt⟩ W4 (by rw [hW4]; exact hj4) (by simp; omega)
        dsimp only at hY4
        rw [Hgv.out, hW4] at hY4
        have H4 := hide hb4
        clear hb4 hj4 hW4
        obtain ⟨fn, tmps, assign, body, hy, hR⟩ := hY4
        dsimp only at hy hR
        have HR := hide hR
        clear hR
        gi_wp2
        refine HR.out.mono ?_
        rintro e W5 (⟨rfl, hJ5, hk5⟩ | ⟨rfl, hJx5⟩)
        · clear hy HR
          have hbn : KeptS S W W5 := (HB.out.trans (KeptS.of_below H4.out (fun k hk => Nat.lt_of_lt_of_le (HSW.out k hk) hsw))).trans hk5
          rw [← Hts.out] at hJ5
          have HJ5 := hide hJ5
          have HBN := hide hbn
          have HK5 := hide hk5
          clear hJ5 hbn hk5
          gi_wp2
          go_roundw
          case rel => exact ⟨k + 1, by omega, by go_num, HJ5.out, HBN.out⟩
          case measure => simp [intOf]; omega
        · clear hy HR
          rw [← Hts.out] at hJx5
          have HX5 := hide hJx5
          clear hJx5
          gi_wp2
          refine bodyPost_ret (results_none rfl _ _ _) rfl ?_
          exact ⟨⟨_, rfl⟩, .inr ⟨_, List.take_prefix _ _, HX5.out⟩⟩
    · obtain rfl : k = G := by omega
      gi_wp2
      go_end0
      refine ⟨⟨_, rfl⟩, .inl ⟨_, rfl, ?_⟩⟩
      have := Hj.out
      rw [List.take_of_length_le (by simp)] at this
      exact this

set_option maxHeartbeats 1000000 in
set_option maxRecDepth 100000 in
theorem under_any (s : ByteArray) (sx sy z ro g st wd t ray gx gy gs wi hi : Int) (A : Option Addr) (n c : Nat) (w : World) :
    Calls Try.prog 75 #[siteV s sx sy z ro g st wd, .int .i64 t, .int .i64 ray, fieldV gx gy gs wi hi A n c] w fun e w' =>
      e = .returned (.func (.func 89) #[] #[.pointer (some ⟨w.heap.size, 0, none⟩), .pointer (some ⟨w.heap.size + 1, 0, none⟩), .pointer (some ⟨w.heap.size + 2, 0, none⟩), .pointer (some ⟨w.heap.size + 3, 0, none⟩)]) ∧
      Below w.heap.size w w' ∧ w'.heap.size = w.heap.size + 4 ∧ Blk w' w.heap.size 33 #[.string s, .int .i64 sx, .int .i64 sy, .int .i64 z, .int .i64 ro, .int .i64 g, .int .i64 st, .int .i64 wd] ∧ Blk w' (w.heap.size + 1) 3 #[.int .i64 t] ∧ Blk w' (w.heap.size + 2) 3 #[.int .i64 ray] ∧
      Blk w' (w.heap.size + 3) 38 #[.int .i64 gx, .int .i64 gy, .int .i64 gs, .int .i64 wi, .int .i64 hi, .slice A n c] := by
  unfold siteV fieldV
  go_enter Try.func75, Try.ntmps75
  go_wp2
  refine bodyPost_ret (by simp [results, Try.results75, go_sem]) rfl ⟨rfl, ?_, by simp, ?_, ?_, ?_, ?_⟩
  · exact ((((Below.refl _ _).alloc (Nat.le_refl _) _).alloc (by simp) _).alloc (by simp; omega) _).alloc (by simp; omega) _
  · exact (((Blk.new _ _ _).alloc _).alloc _).alloc _
  · exact ((blk_new_at (by simp)).alloc _).alloc _
  · exact (blk_new_at (by simp)).alloc _
  · exact blk_new_at (by simp)
end Go.Proofs.Ythhhecidogcmjaa
