/-
  What the law hands the reference: the same points in new memory, the same model.
-/
import Derived.Test.YtmglgahagbfbkaaModel
namespace Go.Proofs.Ytmglgahagbfbkaa
open Go.RowKit

theorem pointInfo : (Try.prog.info? 96).map (fun i => (i.zero, i.size, i.bytes)) = some (some (.agg #[.int .i64 0, .int .i64 0]), 2, 16) := by kernel_rfl
theorem new_cells (w : World) (t : TypeId) (l : List Value) (j : Nat) (u : Value) (h : l[j]? = some u) : (w.alloc (.cells ⟨l⟩ t)).cell? ((⟨w.heap.size, 0, none⟩ : Addr).add j) = some u := by
  rw [show (⟨w.heap.size, 0, none⟩ : Addr).add j = ⟨w.heap.size, j, none⟩ by unfold Addr.add; split <;> simp_all]
  rw [(Blk.new w t ⟨l⟩).cell j]; simpa using h
theorem flat_snoc (l : List (Int × Int)) (a b : Int) : (flat2 l).map (Value.int .i64) ++ [Value.int .i64 a, .int .i64 b] = (flat2 (l ++ [(a, b)])).map (Value.int .i64) := by
  simp [flat2_append, flat2]
theorem take_snoc2 (l : List (Int × Int)) (k : Nat) (hk : k < l.length) : l.take (k + 1) = l.take k ++ [l.getD k (0, 0)] := by
  rw [List.take_succ_eq_append_getElem hk]; simp [List.getD, hk]

set_option maxHeartbeats 800000 in
theorem points_any (A : Option Addr) (n c : Nat) (l : List (Int × Int)) (w : World) (hn : l.length = n) (hmax : n ≤ 1000000) (hl : Ints w w.heap.size .i64 A (flat2 l)) :
    Calls Try.prog 15 #[.slice A n c] w fun e w' => ∃ v, e = .returned v ∧ Below w.heap.size w w' ∧ w'.ownsRow w.heap.size 96 2 v n ((flat2 l).map (Value.int .i64)) := by
  obtain ⟨i0, hi, hz0, hz1, hz2⟩ := info_parts pointInfo
  have Hi := hide hi
  have Hz0 := hide hz0
  have Hz1 := hide hz1
  have Hz2 := hide hz2
  have Hl := hide hl
  have Hn := hide hn
  clear hi hz0 hz1 hz2 hl hn
  go_enter Try.func15, Try.ntmps15
  go_wp2_with fail
  go_loopw [3, 4] (fun o i wr => ∃ k : Nat, k ≤ n ∧ i = .int .i64 k ∧ wr.ownsRow w.heap.size 96 2 o k ((flat2 (l.take k)).map (Value.int .i64)) ∧ Below w.heap.size w wr) (fun _ i _ => n - (intOf i).toNat)
  case atStart => exact ⟨0, by omega, rfl, World.ownsRow_nil _ _ _ _, Below.refl _ _⟩
  case round =>
    obtain ⟨k, hk, rfl, hown, hbw⟩ := hrel
    have Hown := hide hown
    have Hbw := hide hbw
    have hsw := hbw.size
    clear hown hbw
    by_cases hlt : k < n
    · obtain ⟨b, off, rfl, hb, hc⟩ := Hl.out.pt (by have := Hn.out; omega)
      obtain ⟨p0, p1⟩ := hc k (by have := Hn.out; omega)
      have hts := take_snoc2 l k (by have := Hn.out; omega)
      rw [← Hbw.out.cell hb] at p0 p1
      have Hts := hide hts
      clear hts hc
      obtain ⟨⟨x0, x1⟩, hx⟩ : ∃ x, l.getD k (0, 0) = x := ⟨_, rfl⟩
      rw [hx] at p0 p1
      have Hx := hide hx
      clear hx
      simp only at p0 p1
      go_wp2_with (at_builtin; refine wpList_append_own _ rfl (.tmp 11) (.tmp 16) _ rfl w.heap.size 96 i0 _ 2 16 Try.underlying31 Hi.out Hz0.out Hz1.out Hz2.out rfl (by decide) _ k _ rfl (Hown.out.alloc _) ⟨wr.heap.size, 0, none⟩ 1 1 [.int .i64 x0, .int .i64 x1] rfl rfl ?c1 ?c2 ?c3 ?c4 ?c5 ?_)
      case c1 => exact new_cells wr _ [.int .i64 x0, .int .i64 x1]
      case c2 => intro u hu; simp at hu; rcases hu with rfl | rfl <;> rfl
      case c3 => unfold maxLen; omega
      case c4 => omega
      case c5 => simp; omega
      intro v' w' hown' hgrow _
      have O2 := hide hown'
      have B2 := hide (below_grown (Hbw.out.alloc hsw (.cells #[.int .i64 x0, .int .i64 x1] 96)) hgrow (by simp; omega) (fun k hk => (Hown.out.lt k hk).1))
      clear hown' hgrow
      go_wp2
      go_roundw
      case rel =>
        refine ⟨k + 1, by omega, by go_num, ?_, B2.out⟩
        have := O2.out
        rw [flat_snoc] at this
        rw [Hts.out, Hx.out]; exact this
      case measure => simp [intOf]; omega
    · obtain rfl : k = n := by omega
      have hown := Hown.out
      rw [List.take_of_length_le (by have := Hn.out; omega)] at hown
      have HO := hide hown
      clear hown
      go_wp2
      go_ret
      exact ⟨_, rfl, Hbw.out, HO.out⟩

/-- What model returns, and that it is new. -/
def ModelOwn (w : World) (n : Nat) (l : List (Int × Int)) (n' : Nat) (m : List (Int × Int)) (melt inn above : Int × Int) (v : Value) (w' : World) : Prop :=
  ∃ A c A' c', v = mdlV A n c A' n' c' melt inn above ∧ w'.ownsRow w.heap.size 96 2 (.slice A n c) n ((flat2 l).map (Value.int .i64)) ∧ w'.ownsRow w.heap.size 96 2 (.slice A' n' c') n' ((flat2 m).map (Value.int .i64))
/-- What model returns. -/
def ModelPost (n : Nat) (l : List (Int × Int)) (n' : Nat) (m : List (Int × Int)) (melt inn above : Int × Int) (v : Value) (w' : World) : Prop :=
  ∃ A c A' c', v = mdlV A n c A' n' c' melt inn above ∧ Ints w' w'.heap.size .i64 A (flat2 l) ∧ Ints w' w'.heap.size .i64 A' (flat2 m)
theorem own_slice {w : World} {base : Nat} {e : TypeId} {size n : Nat} {v : Value} {xs : List Value} (h : w.ownsRow base e size v n xs) : ∃ A c, v = .slice A n c := by
  rcases h.2 with ⟨hv, h0⟩ | ⟨g, cap, _, hv, _⟩
  · exact ⟨none, 0, by rw [hv, h0]⟩
  · exact ⟨_, _, hv⟩

theorem own_low {w : World} {base base' : Nat} {e : TypeId} {size : Nat} {v : Value} {n : Nat} {xs : List Value} (h : w.ownsRow base e size v n xs) (hb : base' ≤ base) : w.ownsRow base' e size v n xs := by
  refine ⟨h.1, ?_⟩
  rcases h.2 with hn | ⟨g, cap, cur, e1, h2, rest⟩
  · exact .inl hn
  · exact .inr ⟨g, cap, cur, e1, Nat.le_trans hb h2, rest⟩
theorem Later.size1 {a b : World} (h : Later a b) : a.heap.size ≤ b.heap.size := h.size
theorem mzero : (Try.prog.info? 36).map (·.size) = some 8 := by kernel_rfl
theorem one8 (A : Option Addr) (n c : Nat) (A' : Option Addr) (n' c' : Nat) (a0 a1 b0 b1 c0 c1 : Int) : (#[.slice A n c, .slice A' n' c', .int .i64 a0, .int .i64 a1, .int .i64 b0, .int .i64 b1, .int .i64 c0, .int .i64 c1] : Array Value).all (·.oneCell') = true := by simp [Value.oneCell']

set_option maxHeartbeats 1000000 in
theorem model_own (A : Option Addr) (n c : Nat) (l : List (Int × Int)) (A' : Option Addr) (n' c' : Nat) (m : List (Int × Int)) (melt inn above : Int × Int) (w : World) (hn : l.length = n) (hmax : n ≤ 1000000) (hn' : m.length = n') (hmax' : n' ≤ 1000000)
    (hl : Ints w w.heap.size .i64 A (flat2 l)) (hm : Ints w w.heap.size .i64 A' (flat2 m)) :
    Calls Try.prog 18 #[mdlV A n c A' n' c' melt inn above] w fun e w' => ∃ v, e = .returned v ∧ Below w.heap.size w w' ∧ ModelOwn w n l n' m melt inn above v w' := by
  obtain ⟨a0, a1⟩ := melt
  obtain ⟨b0, b1⟩ := inn
  obtain ⟨c0, c1⟩ := above
  unfold mdlV
  simp only
  have Hl := hide hl
  have Hm := hide hm
  clear hl hm
  go_enter Try.func18, Try.ntmps18
  go_wp2_with fail
  refine code_world fun W hW => ?_
  have b1' : Blk W w.heap.size 26 #[.slice A n c, .slice A' n' c', .int .i64 a0, .int .i64 a1, .int .i64 b0, .int .i64 b1, .int .i64 c0, .int .i64 c1] := by rw [hW]; exact (Blk.new _ _ _).alloc _
  have r1 : Blk W (w.heap.size + 1) 36 #[.slice none 0 0, .slice none 0 0, .int .i64 0, .int .i64 0, .int .i64 0, .int .i64 0, .int .i64 0, .int .i64 0] := by rw [hW]; exact blk_new_at (by simp)
  have BW : Below w.heap.size w W := by rw [hW]; exact ((Below.refl _ _).alloc (Nat.le_refl _) _).alloc (by simp) _
  have hsz : W.heap.size = w.heap.size + 2 := by rw [hW]; simp
  have HlW := hide ((Hl.out.below BW).more BW.size)
  have HmW := hide ((Hm.out.below BW).more BW.size)
  obtain ⟨x0, x1, x2, x3, x4, x5, x6, x7⟩ := b1'.c8
  have HBW := hide BW
  have HR1 := hide r1
  clear hW b1' r1 BW Hl Hm
  refine wp_region_R (fun k => k < W.heap.size) 13 (by kernel_rfl) ?_
  apply anyR_peel (fuel := 4) 13 [true, true, false, true, true, false, true, true, true, true, true, true, false, false] #[true, true, false, true, true, false, true, true, true, true, true, true, false, false] (by kernel_rfl) rfl (fun j hj => decide_eq_true hj) (fun k hk => by first | exact hk | omega | (simp at hk ⊢; omega))
  · intro D hD
    have hne := hD.some
    have k0 := liftB hD x0 (by omega)
    have k1 := liftB hD x1 (by omega)
    have k2 := liftB hD x2 (by omega)
    have k3 := liftB hD x3 (by omega)
    have k4 := liftB hD x4 (by omega)
    have k5 := liftB hD x5 (by omega)
    have k6 := liftB hD x6 (by omega)
    have k7 := liftB hD x7 (by omega)
    simp only [takeOps]
    repeat (go_big_quiet_step (fail))
    exact wpQuiet_nil rfl
  refine anyR_call (f := 3) 2 #[true, true, true, true, true, false, true, true, true, true, true, true, false, false] (by kernel_rfl) (by kernel_rfl) rfl rfl rfl rfl 15 #[.slice A n c] (fun _ => by kernel_rfl) (fun k hk => hk) (fun v w1 w2 => w2.ownsRow w1.heap.size 96 2 v n ((flat2 l).map (Value.int .i64)))
    (fun w1 l1 => points_any A n c l w1 hn hmax ((HlW.out.below l1).more l1.size)) ?_
  intro v1 w1 w2 l1 l2 o1
  simp only [Act.put, List.setIfInBounds_toArray, List.set_cons_succ, List.set_cons_zero]
  refine anyR_call (f := 2) 5 #[true, true, true, true, true, true, true, true, true, true, true, true, false, false] (by kernel_rfl) (by kernel_rfl) rfl rfl rfl rfl 15 #[.slice A' n' c'] (fun _ => by kernel_rfl) (fun k hk => Nat.lt_of_lt_of_le hk l2.size) (fun v w1 w2 => w2.ownsRow w1.heap.size 96 2 v n' ((flat2 m).map (Value.int .i64)))
    (fun w3 l3 => points_any A' n' c' m w3 hn' hmax' ((HmW.out.below (l2.trans l3)).more (Nat.le_trans l2.size l3.size))) ?_
  intro v2 w3 w4 l3 l4 o2
  simp only [Act.put, List.setIfInBounds_toArray, List.set_cons_succ, List.set_cons_zero]
  have o1' := own_later o1 l4
  obtain ⟨A1, e1, rfl⟩ := own_slice o1
  obtain ⟨A2, e2, rfl⟩ := own_slice o2
  have L4 : Later W w4 := Later.trans l2 l4
  have hs4 := Below.size L4
  have R4 := blk_later HR1.out L4
  have O1 := hide o1'
  have O2 := hide o2
  have HR4 := hide R4
  have HL4 := hide L4
  have HS3 := hide (And.intro (Later.size1 l1) (Nat.le_trans l2.size l3.size))
  clear o1 o2 o1' l1 l2 l3 l4 L4 x0 x1 x2 x3 x4 x5 x6 x7
  refine anyR_sub (S' := fun k => k < W.heap.size) (fun k hk => by first | exact hk | omega | (simp at hk ⊢; omega)) ?_
  apply anyR_peel (fuel := 1) 13 [false, false, false, false, false, false, false, false, false, false, false, false, true, false] #[true, true, true, true, true, true, true, true, true, true, true, true, true, false] (by kernel_rfl) rfl (fun j hj => decide_eq_true hj) (fun k hk => by first | exact hk | omega | (simp at hk ⊢; omega))
  · intro D hD
    have hne := hD.some
    simp only [takeOps]
    repeat (go_big_quiet_step (fail))
    exact wpQuiet_nil rfl
  refine anyR_fill (f := 0) 13 _ 36 2 15 (w.heap.size + 1) _ #[.slice A1 n e1, .slice A2 n' e2, .int .i64 a0, .int .i64 a1, .int .i64 b0, .int .i64 b1, .int .i64 c0, .int .i64 c1] (by kernel_rfl) rfl rfl rfl R4 mzero rfl (one8 _ _ _ _ _ _ _ _ _ _ _ _) (fun h => by simp at h) ?_
  intro w5 hgr hbk
  obtain ⟨y0, y1, y2, y3, y4, y5, y6, y7⟩ := hbk.c8
  have HB5 := hide (below_grown (HBW.out.trans (Below.mono HL4.out HBW.out.size)) hgr (by omega) (fun k hk => by simp at hk; omega))
  have hs5 := hgr.size
  have P5 : ModelOwn w n l n' m (a0, a1) (b0, b1) (c0, c1) (mdlV A1 n e1 A2 n' e2 (a0, a1) (b0, b1) (c0, c1)) w5 := by
    have s1 := HBW.out.size
    have s3 := HS3.out
    exact ⟨A1, e1, A2, e2, rfl, own_low (own_grown O1.out hgr (own_ne O1.out HR4.out (by decide))) (Nat.le_trans s1 s3.1), own_low (own_grown O2.out hgr (own_ne O2.out HR4.out (by decide))) (Nat.le_trans s1 s3.2)⟩
  have HP := hide P5
  clear hgr P5
  go_wp2
  refine bodyPost_ret (v := mdlV A1 n e1 A2 n' e2 (a0, a1) (b0, b1) (c0, c1)) (by simp [mdlV, results, Try.results18, go_sem, y0, y1, y2, y3, y4, y5, y6, y7]) rfl ⟨_, rfl, HB5.out, HP.out⟩

theorem model_any (A : Option Addr) (n c : Nat) (l : List (Int × Int)) (A' : Option Addr) (n' c' : Nat) (m : List (Int × Int)) (melt inn above : Int × Int) (w : World) (hn : l.length = n) (hmax : n ≤ 1000000) (hn' : m.length = n') (hmax' : n' ≤ 1000000)
    (hl : Ints w w.heap.size .i64 A (flat2 l)) (hm : Ints w w.heap.size .i64 A' (flat2 m)) :
    Calls Try.prog 18 #[mdlV A n c A' n' c' melt inn above] w fun e w' => ∃ v, e = .returned v ∧ Below w.heap.size w w' ∧ ModelPost n l n' m melt inn above v w' :=
  (model_own A n c l A' n' c' m melt inn above w hn hmax hn' hmax' hl hm).mono fun _ _ ⟨v, he, hb, A1, e1, A2, e2, hv, h1, h2⟩ => ⟨v, he, hb, A1, e1, A2, e2, hv, Ints.own h1 rfl (Nat.le_refl _), Ints.own h2 rfl (Nat.le_refl _)⟩
end Go.Proofs.Ytmglgahagbfbkaa
