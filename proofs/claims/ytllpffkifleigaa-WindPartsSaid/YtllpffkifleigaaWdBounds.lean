/-
  How fast winds of an area go along a direction.
  How fast winds that agree with sights go along a direction.
  The bounds of winds that agree with sights.
-/
import Derived.Test.YtllpffkifleigaaWdAgree
import Derived.Test.YtllpffkifleigaaRegJ
set_option linter.unusedSimpArgs false
set_option linter.unusedVariables false
section
namespace Go.Proofs.Ytllpffkifleigaa
open Go Go.RowKit

structure LowI (l : List Sgt) (L : List Bd) (x y len : Int) : Prop where
  area : Area (· ∈ hvs l 0) L
  ok : AllOk L
  max : L.length ≤ 1000
  l1 : 1 ≤ len
  l2 : len ≤ 64800
  x1 : -len ≤ x
  x2 : x ≤ len
  y1 : -len ≤ y
  y2 : y ≤ len
/-- What is needed of a corner. -/
structure CornI (x y len : Int) (p : Pt) : Prop where
  ok : PtOk p
  d1 : 0 < p.d
  dl : p.d * len ≤ 9223372036854775807
  dl0 : 0 < p.d * len
  v1 : -170141183460469231731687303715884105728 < val x y p
  v2 : val x y p < 170141183460469231731687303715884105728
  q1 : -240000 ≤ spd x y len p
  q2 : spd x y len p ≤ 240000
theorem LowI.at_ {l : List Sgt} {L : List Bd} {x y len : Int} (h : LowI l L x y len) (i : Nat) : CornI x y len (corn L i) := by
  have hn := h.area.ne
  have ho := cor_ok (h.ok _ (atB_mem hn i)) (h.ok _ (atB_mem hn (i + 1)))
  have hd := h.area.d i
  have hin : Inn (hvs l 0) (corn L i) := ⟨hd, fun s hs => h.area.in_ i hs⟩
  have hv := slow_val hin (by have := h.l1; omega) ⟨h.x1, h.x2⟩ ⟨h.y1, h.y2⟩
  have l1 := h.l1
  have l2 := h.l2
  have e : (corn L i).d * len = len * (corn L i).d := Int.mul_comm _ _
  have hp : 0 < len * (corn L i).d := Int.mul_pos (by omega) hd
  have hb := abs_mul (X := 64800) (Y := 8398080000) (show -64800 ≤ len by omega) l2 (show -8398080000 ≤ (corn L i).d by omega) ho.d1
  refine ⟨ho, hd, by omega, by omega, by omega, by omega, ?_, ?_⟩
  · unfold spd
    rw [e]
    exact (Int.le_ediv_iff_mul_le hp).2 hv.1
  · unfold spd
    rw [e]
    have : val x y (corn L i) / (len * (corn L i).d) < 240001 := (Int.ediv_lt_iff_lt_mul hp).2 (by omega)
    omega
theorem LowI.neg {l : List Sgt} {L : List Bd} {x y len : Int} (h : LowI l L x y len) : LowI l L (-x) (-y) len := ⟨h.area, h.ok, h.max, h.l1, h.l2, by have := h.x2; omega, by have := h.x1; omega, by have := h.y2; omega, by have := h.y1; omega⟩
set_option maxHeartbeats 1000000 in
set_option maxRecDepth 100000 in
theorem reach_any (l : List Sgt) (A : Option Addr) (L : List Bd) (c : Nat) (x y len : Int) (w : World) (hS : LowI l L x y len) (ha : AreaAt w w.heap.size A L) :
    Calls Try.prog 64 #[.agg #[.slice A L.length c], .int .i64 x, .int .i64 y, .int .i64 len] w fun e w' => e = .returned (.agg #[.int .i64 (loL x y len 240000 (corns L)), .int .i64 (hiL x y len 240000 (corns L))]) ∧ Below w.heap.size w w' := by
  have hn0 := hS.area.ne
  have hc := fun k (hk : k ≤ 1000000) W (hW : Below w.heap.size w W) => corner_any A L c k W hn0 (by have := hS.max; omega) hk (ha.below hW) hS.ok
  have hP := fun k => hS.at_ k
  have hP2 := fun k => hS.neg.at_ k
  have hL0 : loL x y len 240000 ((List.range 0).map (corn L)) = 240000 := rfl
  have hH0 : hiL x y len 240000 ((List.range 0).map (corn L)) = -240000 := rfl
  have hL1 := fun k => show loL x y len 240000 ((List.range (k + 1)).map (corn L)) = min (loL x y len 240000 ((List.range k).map (corn L))) (spd x y len (corn L k)) by rw [corns_snoc, loL_snoc]
  have hH1 := fun k => show hiL x y len 240000 ((List.range (k + 1)).map (corn L)) = max (hiL x y len 240000 ((List.range k).map (corn L))) (-spd (-x) (-y) len (corn L k)) by rw [corns_snoc, hiL_snoc]
  unfold corns
  obtain ⟨lf, hlf⟩ : ∃ f : Nat → Int, f = fun k => loL x y len 240000 ((List.range k).map (corn L)) := ⟨_, rfl⟩
  obtain ⟨hf, hhf⟩ : ∃ f : Nat → Int, f = fun k => hiL x y len 240000 ((List.range k).map (corn L)) := ⟨_, rfl⟩
  have e1 : ∀ k, loL x y len 240000 ((List.range k).map (corn L)) = lf k := fun k => by rw [hlf]
  have e2 : ∀ k, hiL x y len 240000 ((List.range k).map (corn L)) = hf k := fun k => by rw [hhf]
  simp only [e1, e2] at hL0 hH0 hL1 hH1 ⊢
  obtain ⟨-, -, hmax, l1, l2, x1, x2, y1, y2⟩ := hS
  obtain ⟨n, hn⟩ : ∃ n, L.length = n := ⟨_, rfl⟩
  rw [hn] at hc hmax ⊢
  have hmax2 : (n : Int) ≤ 1000 := by omega
  unfold ptC at hc
  have HC := hide hc
  have HP := hide hP
  have HP2 := hide hP2
  have HL1 := hide hL1
  have HH1 := hide hH1
  clear hc hP hP2 hL1 hH1
  clear ha hn0 hlf hhf e1 e2 hn
  go_enter Try.func64, Try.ntmps64
  have HM := hide (Mem.start w)
  go_wp2_with fail
  refine code_world fun W hW => ?_
  have HMn := Mem.to (Mem.allocAt (Mem.allocAt HM.out w.heap.size rfl #[.slice A n c] 128) (w.heap.size + 1) (by simp) #[.int .i64 0, .int .i64 0] 32) hW
  have LW : Later w W := by rw [hW]; exact (((Below.refl _ _).alloc (Nat.le_refl _) _).alloc (by simp; try omega) _)
  have szW : W.heap.size = w.heap.size + 2 := by rw [hW]; simp
  clear hW
  replace HM := hide HMn
  clear HMn LW
  clear szW
  generalize hg1 : w.heap.size + 1 = gr at HM ⊢
  generalize hg0 : w.heap.size = ga at HM ⊢
  clear hg1 hg0
  have bz : Blk W ga 128 #[.slice A n c] := HM.out.get 1 rfl
  have ltz := bz.lt
  have z0 := bz.c 0 rfl
  go_wp2_with fail
  go_loopw [9, 10, 16] (fun a b i wr => ∃ k : Nat, k ≤ n ∧ a = .int .i64 (lf k) ∧ b = .int .i64 (hf k) ∧ i = .int .i64 k ∧ Mem w [.blk gr 32 #[.int .i64 0, .int .i64 0], .blk ga 128 #[.slice A n c]] wr) (fun _ _ i _ => n - (intOf i).toNat)
  case atStart => exact ⟨0, Nat.zero_le _, by rw [hL0], by rw [hH0], rfl, HM.out⟩
  case round =>
    obtain ⟨k, hk, rfl, rfl, rfl, hM⟩ := hrel
    clear HM
    have HM := hide hM
    clear hM
    by_cases hlt : k < n
    · have hlt2 : (k : Int) < n := by omega
      have c1 := HC.out k (by omega)
      have p1 := HP.out k
      have p2 := HP2.out k
      have hl := HL1.out k
      have hh := HH1.out k
      obtain ⟨p, hp⟩ : ∃ p, corn L k = p := ⟨_, rfl⟩
      rw [hp] at c1 p1 p2 hl hh
      obtain ⟨pu, pv, pd⟩ := p
      obtain ⟨pok, d1, dl, dl0, v1, v2, q1, q2⟩ := p1
      obtain ⟨-, -, -, -, v1', v2', q1', q2'⟩ := p2
      obtain ⟨u0, u1, w0, w1, e0, e1⟩ := pok
      have ka := fun W => add_any 0 x pu W (by omega) (by omega) (by simp only at u0; omega) (by simp only at u1; omega)
      have kb := fun W => add_any (0 + x * pu) y pv W (by omega) (by omega) (by simp only at w0; omega) (by simp only at w1; omega)
      have kc := fun W => add_any 0 (-x) pu W (by omega) (by omega) (by simp only at u0; omega) (by simp only at u1; omega)
      have kd := fun W => add_any (0 + -x * pu) (-y) pv W (by omega) (by omega) (by simp only at w0; omega) (by simp only at w1; omega)
      have hv : 0 + x * pu + y * pv = val x y ⟨pu, pv, pd⟩ := by unfold val; simp only; omega
      have hv' : 0 + -x * pu + -y * pv = val (-x) (-y) ⟨pu, pv, pd⟩ := by unfold val; simp only; omega
      rw [hv] at kb
      rw [hv'] at kd
      have ke := fun W => over_any (val x y ⟨pu, pv, pd⟩) (pd * len) W v1 v2 dl0 dl (by unfold spd at q1; simp only at q1; omega) (by unfold spd at q2; simp only at q2; omega)
      have kf := fun W => over_any (val (-x) (-y) ⟨pu, pv, pd⟩) (pd * len) W v1' v2' dl0 dl (by unfold spd at q1'; simp only at q1'; omega) (by unfold spd at q2'; simp only at q2'; omega)
      have es : val x y ⟨pu, pv, pd⟩ / (pd * len) = spd x y len ⟨pu, pv, pd⟩ := rfl
      have es' : val (-x) (-y) ⟨pu, pv, pd⟩ / (pd * len) = spd (-x) (-y) len ⟨pu, pv, pd⟩ := rfl
      rw [es] at ke
      rw [es'] at kf
      have z0 : bigC 0 = .agg #[.int .u64 0, .int .u64 0] := rfl
      rw [z0] at ka kc
      simp only at c1 u0 u1 w0 w1 e0 e1 d1 dl dl0
      generalize spd x y len ⟨pu, pv, pd⟩ = sq at *
      generalize spd (-x) (-y) len ⟨pu, pv, pd⟩ = sr at *
      clear es es' hv hv' v1 v2 v1' v2' z0
      generalize val x y ⟨pu, pv, pd⟩ = n2 at *
      generalize val (-x) (-y) ⟨pu, pv, pd⟩ = n4 at *
      generalize 0 + x * pu = n1 at *
      generalize 0 + -x * pu = n3 at *
      unfold bigC at ka kb kc kd ke kf
      generalize hiW n1 = h1 at *
      generalize loW n1 = g1 at *
      generalize hiW n2 = h2 at *
      generalize loW n2 = g2 at *
      generalize hiW n3 = h3 at *
      generalize loW n3 = g3 at *
      generalize hiW n4 = h4 at *
      generalize loW n4 = g4 at *
      obtain ⟨m, hm⟩ : ∃ m, pd * len = m := ⟨_, rfl⟩
      rw [hm] at dl dl0
      simp only [hm] at ke kf
      obtain ⟨a1, ha1⟩ : ∃ a, lf (k + 1) = a := ⟨_, rfl⟩
      obtain ⟨b1, hb1⟩ : ∃ b, hf (k + 1) = b := ⟨_, rfl⟩
      obtain ⟨a0, ha0⟩ : ∃ a, lf k = a := ⟨_, rfl⟩
      obtain ⟨b0, hb0⟩ : ∃ b, hf k = b := ⟨_, rfl⟩
      rw [ha1, ha0] at hl
      rw [hb1, hb0] at hh
      have em1 : min a0 sq = a1 := hl.symm
      have em2 : (if sq < a0 then sq else a0) = a1 := by rw [hl]; split <;> omega
      have ex1 : max b0 (-sr) = b1 := hh.symm
      have ex2 : (if b0 < -sr then -sr else b0) = b1 := by rw [hh]; split <;> omega
      rw [ha0, hb0]
      have C1 := hide c1
      have KA := hide ka
      have KB := hide kb
      have KC := hide kc
      have KD := hide kd
      have KE := hide ke
      have KF := hide kf
      clear c1 ka kb kc kd ke kf
      clear hl hh hp
      have bz : Blk wr ga 128 #[.slice A n c] := HM.out.get 1 rfl
      have ltz := bz.lt
      have z0 := bz.c 0 rfl
      go_wp2_with fail
      refine (C1.out _ HM.out.below).mono ?_
      rintro e w4 ⟨rfl, hb⟩
      replace HM := hide (HM.out.later hb)
      clear hb bz ltz z0
      go_wp2_with fail
      refine code_world fun w5 hW => ?_
      have HMn := Mem.to (Mem.allocAt HM.out w4.heap.size rfl #[.int .i64 pu, .int .i64 pv, .int .i64 pd] 164) hW
      have LW : Later w4 w5 := by rw [hW]; exact ((Below.refl _ _).alloc (Nat.le_refl _) _)
      have szW : w5.heap.size = w4.heap.size + 1 := by rw [hW]; simp
      clear hW
      replace HM := hide HMn
      clear HMn LW
      clear szW
      generalize hgx : w4.heap.size = gx at HM ⊢
      have bt : Blk w5 gx 164 #[.int .i64 pu, .int .i64 pv, .int .i64 pd] := HM.out.get 0 rfl
      have ltt := bt.lt
      have t0 := bt.c 0 rfl
      have t1 := bt.c 1 rfl
      have t2 := bt.c 2 rfl
      refine wp_region_cut 16 (by kernel_rfl) (by simp only [List.take_succ_cons, List.take_zero]; exact rfl) (by simp only [List.drop_succ_cons, List.drop_zero]; exact rfl) (by kernel_rfl) ?_
      apply any_region_J (w0 := w5) [[], [], [], [], [], [], [], [], [], [], [], [], [], [], [], []] [true, true, true, true, true, true, true, true, true, true, true, true, true, true, true, true] [] (fun ixq y => match ixq with  | _ => undef) (fun ixq x F wq => match ixq with  | _ => True) (fun a x => a) (by kernel_rfl) (fun _ => rfl) [27, 31, 36] (by kernel_rfl)
      · intro x D hD
        have hne := hD.some
        have k0 := liftB hD t0 (by first | assumption | omega)
        have k1 := liftB hD t1 (by first | assumption | omega)
        have k2 := liftB hD t2 (by first | assumption | omega)
        simp only [takeOps, Act.put, List.setIfInBounds_toArray, List.set_cons_succ, List.set_cons_zero]
        repeat (go_big_quiet_step ((first | (go_at_call 99; exact calls_later hD _ (KE.out _)) | (go_at_call 98; first | (with_reducible exact calls_later hD _ (KA.out _)) | (with_reducible exact calls_later hD _ (KB.out _))))))
        exact wpQuiet_nil rfl
      · intro d hd x x'
        simp only [List.mem_cons, List.not_mem_nil, or_false] at hd
        rcases hd with rfl | rfl | rfl
        all_goals rfl
      · exact trivial
      · exact trivial
      intro xx w6 F hL hlv1 hap1
      clear hap1
      clear hlv1
      refine ⟨rfl, ?_⟩
      replace HM := hide (HM.out.later hL)
      clear hL bt ltt t0 t1 t2
      have bt : Blk w6 gx 164 #[.int .i64 pu, .int .i64 pv, .int .i64 pd] := HM.out.get 0 rfl
      have ltt := bt.lt
      have t0 := bt.c 0 rfl
      have t1 := bt.c 1 rfl
      have t2 := bt.c 2 rfl
      go_wp2_with fail
      refine wp_region_cut 19 (by kernel_rfl) (by simp only [List.take_succ_cons, List.take_zero]; exact rfl) (by simp only [List.drop_succ_cons, List.drop_zero]; exact rfl) (by kernel_rfl) ?_
      apply any_region_J (w0 := w6) [[], [], [], [], [], [], [], [], [], [], [], [], [], [], [], [], [], [], []] [true, true, true, true, true, true, true, true, true, true, true, true, true, true, true, true, true, true, true] [] (fun ixq y => match ixq with  | _ => undef) (fun ixq x F wq => match ixq with  | _ => True) (fun a x => a) (by kernel_rfl) (fun _ => rfl) [44, 49, 54] (by kernel_rfl)
      · intro x D hD
        have hne := hD.some
        have k0 := liftB hD t0 (by first | assumption | omega)
        have k1 := liftB hD t1 (by first | assumption | omega)
        have k2 := liftB hD t2 (by first | assumption | omega)
        simp only [takeOps, Act.put, List.setIfInBounds_toArray, List.set_cons_succ, List.set_cons_zero]
        repeat (go_big_quiet_step ((first | (go_at_call 99; exact calls_later hD _ (KF.out _)) | (go_at_call 98; first | (with_reducible exact calls_later hD _ (KC.out _)) | (with_reducible exact calls_later hD _ (KD.out _))))))
        exact wpQuiet_nil rfl
      · intro d hd x x'
        simp only [List.mem_cons, List.not_mem_nil, or_false] at hd
        rcases hd with rfl | rfl | rfl
        all_goals rfl
      · exact trivial
      · exact trivial
      intro xx w7 F hL hlv2 hap2
      clear hap2
      clear hlv2
      refine ⟨rfl, ?_⟩
      replace HM := hide (HM.out.later hL)
      clear hL bt ltt t0 t1 t2
      go_wp2_with fail
      go_roundw
      case rel => exact ⟨k + 1, hlt, by rw [ha1], by rw [hb1], by go_num, HM.out.tail⟩
      case measure => simp [intOf] <;> omega
    · obtain rfl : k = n := by omega
      have hkk : ¬ ((k : Int) < k) := by omega
      have br : Blk wr gr 32 #[.int .i64 0, .int .i64 0] := HM.out.get 0 rfl
      have ltr := br.lt
      have r0 := br.c 0 rfl
      have fr0 := br.frozen 0
      have r1 := br.c 1 rfl
      have fr1 := br.frozen 1
      go_wp2
      have HM1 := hide ((HM.out.set_ 0 rfl 0 (.int .i64 (lf k)) rfl).set_ 0 rfl 1 (.int .i64 (hf k)) rfl)
      have s0 := (HM1.out.blk_ 0 rfl).c 0 rfl
      have s1 := (HM1.out.blk_ 0 rfl).c 1 rfl
      have lts := (HM1.out.blk_ 0 rfl).lt
      refine ret_world fun W1 hW1 => ?_
      rw [← hW1] at HM1 s0 s1 lts
      exact bodyPost_ret (v := .agg #[.int .i64 (lf k), .int .i64 (hf k)]) (by simp [results, Try.results64, go_sem, s0, s1, lts]) rfl ⟨rfl, HM1.out.below⟩
end Go.Proofs.Ytllpffkifleigaa
end
section
namespace Go.Proofs.Ytllpffkifleigaa
open Go Go.RowKit

theorem nar_low {l : List Sgt} {x y len : Int} (hl : l.length ≤ 360) (hok : ∀ s ∈ l, SgtOk s) (h : empB l 0 = false) (l1 : 1 ≤ len) (l2 : len ≤ 64800) (x1 : -len ≤ x) (x2 : x ≤ len) (y1 : -len ≤ y) (y2 : y ≤ len) : LowI l (narL skyL l 0) x y len := by
  have hf : Feas l 0 := by
    apply Classical.byContradiction
    intro hn
    rw [empB_iff.2 hn] at h
    cases h
  exact ⟨nar_area hf, nar_allok hok (by omega) (by omega), by have := narL_len (l := l) (w := 0); omega, l1, l2, x1, x2, y1, y2⟩
def alongL (l : List Sgt) (x y len : Int) : Int := if alongE l x y len = 0 then loL x y len 240000 (cs0 l) else 0
def alongH (l : List Sgt) (x y len : Int) : Int := if alongE l x y len = 0 then hiL x y len 240000 (cs0 l) else 0
set_option maxHeartbeats 1000000 in
set_option maxRecDepth 100000 in
theorem Along_any (A : Option Addr) (l : List Sgt) (c : Nat) (x y len : Int) (w : World) (hmax : l.length ≤ maxLen) (hA : SgtsAt w w.heap.size A l) (hI : AllI l) (hx : I64 x) (hy : I64 y) :
    Calls Try.prog 19 #[.slice A l.length c, .int .i64 x, .int .i64 y, .int .i64 len] w fun e w' => e = .returned (.tuple #[.agg #[.int .i64 (alongL l x y len), .int .i64 (alongH l x y len)], .int .i64 (alongE l x y len)]) ∧ Below w.heap.size w w' := by
  have hL := fun (W : World) (hW : Below w.heap.size w W) => listed_any A l c W hmax (hA.below hW) hI
  have hD := fun W => wdir_any x y len W hx.1 hx.2 hy.1 hy.2
  by_cases he : listE l = 0
  · obtain ⟨hl1, hl2⟩ := listE_ok.1 he
    have hN := fun (W : World) (hW : Below w.heap.size w W) (A1 : Option Addr) (c1 : Nat) (ha : AreaAt W W.heap.size A1 skyL) => sights_any A l c 0 W hl1 hl2 (by omega) (by omega) (hA.below hW) A1 c1 ha
    have hE := fun (W : World) (A' : Option Addr) (c' : Nat) => empty_any A' (narL skyL l 0).length c' W
    simp only [empty_emp] at hE
    have hR := fun (h1 : dirB x y len = true) (h2 : empB l 0 = false) (W : World) (A' : Option Addr) (c' : Nat) (ha : AreaAt W W.heap.size A' (narL skyL l 0)) => by
      obtain ⟨d1, d2, d3, d4, d5, d6, -⟩ := dirB_iff.1 h1
      exact reach_any l A' (narL skyL l 0) c' x y len W (nar_low hl1 hl2 h2 d1 d2 d3 d4 d5 d6) ha
    have hEa : alongE l x y len = if dirB x y len = true then (if agrB l 0 = true then 0 else 14) else 3 := by unfold alongE; rw [if_neg (by rw [he]; simp)]
    have hemp := empB_eq l 0
    simp only [he] at hL
    have hLo : alongL l x y len = if alongE l x y len = 0 then loL x y len 240000 (cs0 l) else 0 := rfl
    have hHi : alongH l x y len = if alongE l x y len = 0 then hiL x y len 240000 (cs0 l) else 0 := rfl
    unfold cs0 at hLo hHi
    rw [hLo, hHi, hEa]
    generalize loL x y len 240000 (corns (narL skyL l 0)) = lo at *
    generalize hiL x y len 240000 (corns (narL skyL l 0)) = hi at *
    obtain ⟨d, hd⟩ : ∃ d, dirB x y len = d := ⟨_, rfl⟩
    simp only [hd] at hD hR ⊢
    obtain ⟨b, hb⟩ : ∃ b, empB l 0 = b := ⟨_, rfl⟩
    simp only [hb] at hE hR
    have hag : agrB l 0 = !b := by rw [hb] at hemp; rw [hemp]; simp
    rw [hag]
    generalize l.length = n at *
    have HL := hide hL
    have HN := hide hN
    have HE := hide hE
    have HR := hide hR
    have HD := hide hD
    clear hL hN hE hR hD
    clear hA hI hLo hHi hEa hemp hd hb hag hl1 hl2 he hx hy
    cases d with
    | false =>
      simp only [Bool.false_eq_true, if_false]
      go_enter Try.func19, Try.ntmps19
      have HM := hide (Mem.start w)
      go_wp2_with fail
      refine at_world fun W hW => ?_
      have HMn := Mem.to (Mem.allocAt HM.out w.heap.size rfl #[.int .i64 0, .int .i64 0] 32) hW
      have LW : Later w W := by rw [hW]; exact ((Below.refl _ _).alloc (Nat.le_refl _) _)
      have szW : W.heap.size = w.heap.size + 1 := by rw [hW]; simp
      clear hW
      replace HM := hide HMn
      clear HMn LW
      clear szW
      generalize hg0 : w.heap.size = gr at HM ⊢
      refine (HL.out _ HM.out.below).mono ?_
      rintro e w1 ⟨rfl, hb⟩
      replace HM := hide (HM.out.later hb)
      clear hb
      go_wp2_with fail
      refine (HD.out _).mono ?_
      rintro e w2 ⟨rfl, hb⟩
      replace HM := hide (HM.out.later hb)
      clear hb
      have br : Blk w2 gr 32 #[.int .i64 0, .int .i64 0] := HM.out.get 0 rfl
      have ltr := br.lt
      have r0 := br.c 0 rfl
      have fr0 := br.frozen 0
      have r1 := br.c 1 rfl
      have fr1 := br.frozen 1
      go_wp2
      have HM1 := hide ((HM.out.set_ 0 rfl 0 (.int .i64 0) rfl).set_ 0 rfl 1 (.int .i64 0) rfl)
      have s0 := (HM1.out.blk_ 0 rfl).c 0 rfl
      have s1 := (HM1.out.blk_ 0 rfl).c 1 rfl
      have lts := (HM1.out.blk_ 0 rfl).lt
      refine ret_world fun W1 hW1 => ?_
      rw [← hW1] at HM1 s0 s1 lts
      exact bodyPost_ret (v := .tuple #[.agg #[.int .i64 0, .int .i64 0], .int .i64 3]) (by simp [results, Try.results19, go_sem, s0, s1, lts]) rfl ⟨rfl, by first | exact HM1.out.below | (rw [← hg0]; exact HM1.out.below)⟩
    | true =>
      cases b with
      | true =>
        simp only [Bool.not_true, Bool.false_eq_true, if_false, if_true]
        go_enter Try.func19, Try.ntmps19
        have HM := hide (Mem.start w)
        go_wp2_with fail
        refine at_world fun W hW => ?_
        have HMn := Mem.to (Mem.allocAt HM.out w.heap.size rfl #[.int .i64 0, .int .i64 0] 32) hW
        have LW : Later w W := by rw [hW]; exact ((Below.refl _ _).alloc (Nat.le_refl _) _)
        have szW : W.heap.size = w.heap.size + 1 := by rw [hW]; simp
        clear hW
        replace HM := hide HMn
        clear HMn LW
        clear szW
        generalize hg0 : w.heap.size = gr at HM ⊢
        refine (HL.out _ HM.out.below).mono ?_
        rintro e w1 ⟨rfl, hb⟩
        replace HM := hide (HM.out.later hb)
        clear hb
        go_wp2_with fail
        refine (HD.out _).mono ?_
        rintro e w2 ⟨rfl, hb⟩
        replace HM := hide (HM.out.later hb)
        clear hb
        go_wp2_with fail
        refine (sky_any _).mono ?_
        rintro e w3 ⟨A1, c1, rfl, hA1, hb⟩
        replace HM := hide (HM.out.later hb)
        clear hb
        have HA1 := hide hA1
        clear hA1
        go_wp2_with fail
        refine (HN.out _ HM.out.below A1 c1 HA1.out).mono ?_
        rintro e w4 ⟨A2, c2, rfl, hA2, hb⟩
        replace HM := hide (HM.out.later hb)
        clear hb
        have HA2 := hide (show AreaH _ A2 _ from hA2)
        clear hA2 HA1
        generalize narL skyL l 0 = R at *
        go_wp2_with fail
        refine at_world fun w5 hW => ?_
        have HMn := Mem.to (Mem.allocAt HM.out w4.heap.size rfl #[.slice A2 R.length c2] 128) hW
        have LW : Later w4 w5 := by rw [hW]; exact ((Below.refl _ _).alloc (Nat.le_refl _) _)
        have szW : w5.heap.size = w4.heap.size + 1 := by rw [hW]; simp
        clear hW
        replace HA2 := hide (HA2.out.later LW)
        replace HM := hide HMn
        clear HMn LW
        clear szW
        generalize hgp : w4.heap.size = gp at HM ⊢
        refine (HE.out _ A2 c2).mono ?_
        rintro e w6 ⟨rfl, hb⟩
        replace HM := hide (HM.out.later hb)
        replace HA2 := hide (HA2.out.later hb)
        clear hb
        have br : Blk w6 gr 32 #[.int .i64 0, .int .i64 0] := HM.out.get 1 rfl
        have ltr := br.lt
        have r0 := br.c 0 rfl
        have fr0 := br.frozen 0
        have r1 := br.c 1 rfl
        have fr1 := br.frozen 1
        go_wp2
        have HM1 := hide ((HM.out.set_ 1 rfl 0 (.int .i64 0) rfl).set_ 1 rfl 1 (.int .i64 0) rfl)
        have s0 := (HM1.out.blk_ 1 rfl).c 0 rfl
        have s1 := (HM1.out.blk_ 1 rfl).c 1 rfl
        have lts := (HM1.out.blk_ 1 rfl).lt
        refine ret_world fun W1 hW1 => ?_
        rw [← hW1] at HM1 s0 s1 lts
        exact bodyPost_ret (v := .tuple #[.agg #[.int .i64 0, .int .i64 0], .int .i64 14]) (by simp [results, Try.results19, go_sem, s0, s1, lts]) rfl ⟨rfl, by first | exact HM1.out.below | (rw [← hg0]; exact HM1.out.below)⟩
      | false =>
        simp only [Bool.not_false, if_true]
        go_enter Try.func19, Try.ntmps19
        have HM := hide (Mem.start w)
        go_wp2_with fail
        refine at_world fun W hW => ?_
        have HMn := Mem.to (Mem.allocAt HM.out w.heap.size rfl #[.int .i64 0, .int .i64 0] 32) hW
        have LW : Later w W := by rw [hW]; exact ((Below.refl _ _).alloc (Nat.le_refl _) _)
        have szW : W.heap.size = w.heap.size + 1 := by rw [hW]; simp
        clear hW
        replace HM := hide HMn
        clear HMn LW
        clear szW
        generalize hg0 : w.heap.size = gr at HM ⊢
        refine (HL.out _ HM.out.below).mono ?_
        rintro e w1 ⟨rfl, hb⟩
        replace HM := hide (HM.out.later hb)
        clear hb
        go_wp2_with fail
        refine (HD.out _).mono ?_
        rintro e w2 ⟨rfl, hb⟩
        replace HM := hide (HM.out.later hb)
        clear hb
        go_wp2_with fail
        refine (sky_any _).mono ?_
        rintro e w3 ⟨A1, c1, rfl, hA1, hb⟩
        replace HM := hide (HM.out.later hb)
        clear hb
        have HA1 := hide hA1
        clear hA1
        go_wp2_with fail
        refine (HN.out _ HM.out.below A1 c1 HA1.out).mono ?_
        rintro e w4 ⟨A2, c2, rfl, hA2, hb⟩
        replace HM := hide (HM.out.later hb)
        clear hb
        have HA2 := hide (show AreaH _ A2 _ from hA2)
        clear hA2 HA1
        generalize narL skyL l 0 = R at *
        go_wp2_with fail
        refine at_world fun w5 hW => ?_
        have HMn := Mem.to (Mem.allocAt HM.out w4.heap.size rfl #[.slice A2 R.length c2] 128) hW
        have LW : Later w4 w5 := by rw [hW]; exact ((Below.refl _ _).alloc (Nat.le_refl _) _)
        have szW : w5.heap.size = w4.heap.size + 1 := by rw [hW]; simp
        clear hW
        replace HA2 := hide (HA2.out.later LW)
        replace HM := hide HMn
        clear HMn LW
        clear szW
        generalize hgp : w4.heap.size = gp at HM ⊢
        refine (HE.out _ A2 c2).mono ?_
        rintro e w6 ⟨rfl, hb⟩
        replace HM := hide (HM.out.later hb)
        replace HA2 := hide (HA2.out.later hb)
        clear hb
        have bz : Blk w6 gp 128 #[.slice A2 R.length c2] := HM.out.get 0 rfl
        have ltz := bz.lt
        have z0 := bz.c 0 rfl
        go_wp2_with fail
        refine (HR.out (by first | trivial | rfl) (by first | trivial | rfl) _ A2 c2 HA2.out).mono ?_
        rintro e w7 ⟨rfl, hb⟩
        replace HM := hide (HM.out.later hb)
        replace HA2 := hide (HA2.out.later hb)
        clear hb bz ltz z0
        have br : Blk w7 gr 32 #[.int .i64 0, .int .i64 0] := HM.out.get 1 rfl
        have ltr := br.lt
        have r0 := br.c 0 rfl
        have fr0 := br.frozen 0
        have r1 := br.c 1 rfl
        have fr1 := br.frozen 1
        go_wp2
        have HM1 := hide ((HM.out.set_ 1 rfl 0 (.int .i64 lo) rfl).set_ 1 rfl 1 (.int .i64 hi) rfl)
        have s0 := (HM1.out.blk_ 1 rfl).c 0 rfl
        have s1 := (HM1.out.blk_ 1 rfl).c 1 rfl
        have lts := (HM1.out.blk_ 1 rfl).lt
        refine ret_world fun W1 hW1 => ?_
        rw [← hW1] at HM1 s0 s1 lts
        exact bodyPost_ret (v := .tuple #[.agg #[.int .i64 lo, .int .i64 hi], .int .i64 0]) (by simp [results, Try.results19, go_sem, s0, s1, lts]) rfl ⟨rfl, by first | exact HM1.out.below | (rw [← hg0]; exact HM1.out.below)⟩
  · have hS : alongE l x y len = listE l := by unfold alongE; rw [if_pos he]
    have hS1 : alongL l x y len = 0 := by unfold alongL; rw [hS, if_neg he]
    have hS2 : alongH l x y len = 0 := by unfold alongH; rw [hS, if_neg he]
    rw [hS, hS1, hS2]
    obtain ⟨e0, hee⟩ : ∃ e, listE l = e := ⟨_, rfl⟩
    have hd : (e0 != 0) = true := by rw [hee] at he; simp [he]
    rw [hee] at hL he ⊢
    generalize l.length = n at *
    have HL := hide hL
    clear hL
    clear hA hI hee hS hS1 hS2 hD
    go_enter Try.func19, Try.ntmps19
    have HM := hide (Mem.start w)
    go_wp2_with fail
    refine at_world fun W hW => ?_
    have HMn := Mem.to (Mem.allocAt HM.out w.heap.size rfl #[.int .i64 0, .int .i64 0] 32) hW
    have LW : Later w W := by rw [hW]; exact ((Below.refl _ _).alloc (Nat.le_refl _) _)
    have szW : W.heap.size = w.heap.size + 1 := by rw [hW]; simp
    clear hW
    replace HM := hide HMn
    clear HMn LW
    clear szW
    generalize hg0 : w.heap.size = gr at HM ⊢
    refine (HL.out _ HM.out.below).mono ?_
    rintro e w1 ⟨rfl, hb⟩
    replace HM := hide (HM.out.later hb)
    clear hb
    have br : Blk w1 gr 32 #[.int .i64 0, .int .i64 0] := HM.out.get 0 rfl
    have ltr := br.lt
    have r0 := br.c 0 rfl
    have fr0 := br.frozen 0
    have r1 := br.c 1 rfl
    have fr1 := br.frozen 1
    go_wp2
    have HM1 := hide ((HM.out.set_ 0 rfl 0 (.int .i64 0) rfl).set_ 0 rfl 1 (.int .i64 0) rfl)
    have s0 := (HM1.out.blk_ 0 rfl).c 0 rfl
    have s1 := (HM1.out.blk_ 0 rfl).c 1 rfl
    have lts := (HM1.out.blk_ 0 rfl).lt
    refine ret_world fun W1 hW1 => ?_
    rw [← hW1] at HM1 s0 s1 lts
    exact bodyPost_ret (v := .tuple #[.agg #[.int .i64 0, .int .i64 0], .int .i64 e0]) (by simp [results, Try.results19, go_sem, s0, s1, lts]) rfl ⟨rfl, by first | exact HM1.out.below | (rw [← hg0]; exact HM1.out.below)⟩
end Go.Proofs.Ytllpffkifleigaa
end
section
namespace Go.Proofs.Ytllpffkifleigaa
open Go Go.RowKit

def bndB (l : List Sgt) (f : List Pt → Int) : Int := if bndsE l = 0 then f (cs0 l) else 0
set_option maxHeartbeats 1000000 in
set_option maxRecDepth 100000 in
theorem Bounds_any (A : Option Addr) (l : List Sgt) (c : Nat) (w : World) (hmax : l.length ≤ maxLen) (hA : SgtsAt w w.heap.size A l) (hI : AllI l) :
    Calls Try.prog 17 #[.slice A l.length c] w fun e w' => e = .returned (.tuple #[.agg #[.int .i64 (bndB l (loL 1 0 1 240000)), .int .i64 (bndB l (hiL 1 0 1 240000)), .int .i64 (bndB l (loL 0 1 1 240000)), .int .i64 (bndB l (hiL 0 1 1 240000))], .int .i64 (bndsE l)]) ∧ Below w.heap.size w w' := by
  have hL := fun (W : World) (hW : Below w.heap.size w W) => listed_any A l c W hmax (hA.below hW) hI
  by_cases he : listE l = 0
  · obtain ⟨hl1, hl2⟩ := listE_ok.1 he
    have hN := fun (W : World) (hW : Below w.heap.size w W) (A1 : Option Addr) (c1 : Nat) (ha : AreaAt W W.heap.size A1 skyL) => sights_any A l c 0 W hl1 hl2 (by omega) (by omega) (hA.below hW) A1 c1 ha
    have hE := fun (W : World) (A' : Option Addr) (c' : Nat) => empty_any A' (narL skyL l 0).length c' W
    simp only [empty_emp] at hE
    have hR := fun (h2 : empB l 0 = false) (W : World) (A' : Option Addr) (c' : Nat) (x y : Int) (hxy : -1 ≤ x ∧ x ≤ 1 ∧ -1 ≤ y ∧ y ≤ 1) (ha : AreaAt W W.heap.size A' (narL skyL l 0)) => reach_any l A' (narL skyL l 0) c' x y 1 W (nar_low hl1 hl2 h2 (by omega) (by omega) hxy.1 hxy.2.1 hxy.2.2.1 hxy.2.2.2) ha
    have hEa : bndsE l = if agrB l 0 = true then 0 else 14 := by unfold bndsE; rw [if_neg (by rw [he]; simp)]
    have hemp := empB_eq l 0
    simp only [he] at hL
    have hq : ∀ f, bndB l f = if bndsE l = 0 then f (corns (narL skyL l 0)) else 0 := fun f => rfl
    rw [hq, hq, hq, hq, hEa]
    obtain ⟨LO, hLO⟩ : ∃ f : Int → Int → Int, f = fun x y => loL x y 1 240000 (corns (narL skyL l 0)) := ⟨_, rfl⟩
    obtain ⟨HI, hHI⟩ : ∃ f : Int → Int → Int, f = fun x y => hiL x y 1 240000 (corns (narL skyL l 0)) := ⟨_, rfl⟩
    have eLO : ∀ x y, loL x y 1 240000 (corns (narL skyL l 0)) = LO x y := fun x y => by rw [hLO]
    have eHI : ∀ x y, hiL x y 1 240000 (corns (narL skyL l 0)) = HI x y := fun x y => by rw [hHI]
    simp only [eLO, eHI] at hR ⊢
    obtain ⟨b, hb⟩ : ∃ b, empB l 0 = b := ⟨_, rfl⟩
    simp only [hb] at hE hR
    have hag : agrB l 0 = !b := by rw [hb] at hemp; rw [hemp]; simp
    rw [hag]
    generalize l.length = n at *
    have HL := hide hL
    have HN := hide hN
    have HE := hide hE
    have HR := hide hR
    clear hL hN hE hR
    clear hA hI hq hEa hemp hb hag hl1 hl2 he hLO hHI eLO eHI
    cases b with
    | true =>
      simp only [Bool.not_true, Bool.false_eq_true, if_false, if_true]
      go_enter Try.func17, Try.ntmps17
      have HM := hide (Mem.start w)
      go_wp2_with fail
      refine at_world fun W hW => ?_
      have HMn := Mem.to (Mem.allocAt HM.out w.heap.size rfl #[.int .i64 0, .int .i64 0, .int .i64 0, .int .i64 0] 34) hW
      have LW : Later w W := by rw [hW]; exact ((Below.refl _ _).alloc (Nat.le_refl _) _)
      have szW : W.heap.size = w.heap.size + 1 := by rw [hW]; simp
      clear hW
      replace HM := hide HMn
      clear HMn LW
      clear szW
      generalize hg0 : w.heap.size = gr at HM ⊢
      refine (HL.out _ HM.out.below).mono ?_
      rintro e w1 ⟨rfl, hb⟩
      replace HM := hide (HM.out.later hb)
      clear hb
      go_wp2_with fail
      refine (sky_any _).mono ?_
      rintro e w3 ⟨A1, c1, rfl, hA1, hb⟩
      replace HM := hide (HM.out.later hb)
      clear hb
      have HA1 := hide hA1
      clear hA1
      go_wp2_with fail
      refine (HN.out _ HM.out.below A1 c1 HA1.out).mono ?_
      rintro e w4 ⟨A2, c2, rfl, hA2, hb⟩
      replace HM := hide (HM.out.later hb)
      clear hb
      have HA2 := hide (show AreaH _ A2 _ from hA2)
      clear hA2 HA1
      generalize narL skyL l 0 = R at *
      go_wp2_with fail
      refine at_world fun w5 hW => ?_
      have HMn := Mem.to (Mem.allocAt HM.out w4.heap.size rfl #[.slice A2 R.length c2] 128) hW
      have LW : Later w4 w5 := by rw [hW]; exact ((Below.refl _ _).alloc (Nat.le_refl _) _)
      have szW : w5.heap.size = w4.heap.size + 1 := by rw [hW]; simp
      clear hW
      replace HA2 := hide (HA2.out.later LW)
      replace HM := hide HMn
      clear HMn LW
      clear szW
      generalize hgp : w4.heap.size = gp at HM ⊢
      refine (HE.out _ A2 c2).mono ?_
      rintro e w6 ⟨rfl, hb⟩
      replace HM := hide (HM.out.later hb)
      replace HA2 := hide (HA2.out.later hb)
      clear hb
      have br : Blk w6 gr 34 #[.int .i64 0, .int .i64 0, .int .i64 0, .int .i64 0] := HM.out.get 1 rfl
      have ltr := br.lt
      have r0 := br.c 0 rfl
      have fr0 := br.frozen 0
      have r1 := br.c 1 rfl
      have fr1 := br.frozen 1
      have r2 := br.c 2 rfl
      have fr2 := br.frozen 2
      have r3 := br.c 3 rfl
      have fr3 := br.frozen 3
      go_wp2
      have HM1 := hide ((((HM.out.set_ 1 rfl 0 (.int .i64 0) rfl).set_ 1 rfl 1 (.int .i64 0) rfl).set_ 1 rfl 2 (.int .i64 0) rfl).set_ 1 rfl 3 (.int .i64 0) rfl)
      have s0 := (HM1.out.blk_ 1 rfl).c 0 rfl
      have s1 := (HM1.out.blk_ 1 rfl).c 1 rfl
      have s2 := (HM1.out.blk_ 1 rfl).c 2 rfl
      have s3 := (HM1.out.blk_ 1 rfl).c 3 rfl
      have lts := (HM1.out.blk_ 1 rfl).lt
      refine ret_world fun W1 hW1 => ?_
      rw [← hW1] at HM1 s0 s1 s2 s3 lts
      exact bodyPost_ret (v := .tuple #[.agg #[.int .i64 0, .int .i64 0, .int .i64 0, .int .i64 0], .int .i64 14]) (by simp [results, Try.results17, go_sem, s0, s1, s2, s3, lts]) rfl ⟨rfl, by first | exact HM1.out.below | (rw [← hg0]; exact HM1.out.below)⟩
    | false =>
      simp only [Bool.not_false, if_true]
      go_enter Try.func17, Try.ntmps17
      have HM := hide (Mem.start w)
      go_wp2_with fail
      refine at_world fun W hW => ?_
      have HMn := Mem.to (Mem.allocAt HM.out w.heap.size rfl #[.int .i64 0, .int .i64 0, .int .i64 0, .int .i64 0] 34) hW
      have LW : Later w W := by rw [hW]; exact ((Below.refl _ _).alloc (Nat.le_refl _) _)
      have szW : W.heap.size = w.heap.size + 1 := by rw [hW]; simp
      clear hW
      replace HM := hide HMn
      clear HMn LW
      clear szW
      generalize hg0 : w.heap.size = gr at HM ⊢
      refine (HL.out _ HM.out.below).mono ?_
      rintro e w1 ⟨rfl, hb⟩
      replace HM := hide (HM.out.later hb)
      clear hb
      go_wp2_with fail
      refine (sky_any _).mono ?_
      rintro e w3 ⟨A1, c1, rfl, hA1, hb⟩
      replace HM := hide (HM.out.later hb)
      clear hb
      have HA1 := hide hA1
      clear hA1
      go_wp2_with fail
      refine (HN.out _ HM.out.below A1 c1 HA1.out).mono ?_
      rintro e w4 ⟨A2, c2, rfl, hA2, hb⟩
      replace HM := hide (HM.out.later hb)
      clear hb
      have HA2 := hide (show AreaH _ A2 _ from hA2)
      clear hA2 HA1
      generalize narL skyL l 0 = R at *
      go_wp2_with fail
      refine at_world fun w5 hW => ?_
      have HMn := Mem.to (Mem.allocAt HM.out w4.heap.size rfl #[.slice A2 R.length c2] 128) hW
      have LW : Later w4 w5 := by rw [hW]; exact ((Below.refl _ _).alloc (Nat.le_refl _) _)
      have szW : w5.heap.size = w4.heap.size + 1 := by rw [hW]; simp
      clear hW
      replace HA2 := hide (HA2.out.later LW)
      replace HM := hide HMn
      clear HMn LW
      clear szW
      generalize hgp : w4.heap.size = gp at HM ⊢
      refine (HE.out _ A2 c2).mono ?_
      rintro e w6 ⟨rfl, hb⟩
      replace HM := hide (HM.out.later hb)
      replace HA2 := hide (HA2.out.later hb)
      clear hb
      have q1 := fun W (hW : Below w6.heap.size w6 W) x y h => HR.out (by first | trivial | rfl) W A2 c2 x y h (HA2.out.later hW)
      have Q1 := hide q1
      clear q1
      have bz : Blk w6 gp 128 #[.slice A2 R.length c2] := HM.out.get 0 rfl
      have ltz := bz.lt
      have z0 := bz.c 0 rfl
      go_wp2_with fail
      refine wp_region_cut 5 (by kernel_rfl) (by simp only [List.take_succ_cons, List.take_zero]; exact rfl) (by simp only [List.drop_succ_cons, List.drop_zero]; exact rfl) (by kernel_rfl) ?_
      apply any_region_J (w0 := w6) [[], [], [], [], []] [true, true, true, true, true] [] (fun ixq y => match ixq with  | _ => undef) (fun ixq x F wq => match ixq with  | _ => True) (fun a x => a) (by kernel_rfl) (fun _ => rfl) [19, 21] (by kernel_rfl)
      · intro x D hD
        have hne := hD.some
        have k0 := liftB hD z0 (by first | assumption | omega)
        simp only [takeOps, Act.put, List.setIfInBounds_toArray, List.set_cons_succ, List.set_cons_zero]
        repeat (go_big_quiet_step ((go_at_call 64; exact calls_later hD _ (Q1.out _ (kb hD _) _ _ (by omega)))))
        exact wpQuiet_nil rfl
      · intro d hd x x'
        simp only [List.mem_cons, List.not_mem_nil, or_false] at hd
        rcases hd with rfl | rfl
        all_goals rfl
      · exact trivial
      · exact trivial
      intro xx w7 F hL hlv1 hap1
      clear hap1
      clear hlv1
      refine ⟨rfl, ?_⟩
      clear Q1
      replace HM := hide (HM.out.later hL)
      replace HA2 := hide (HA2.out.later hL)
      clear hL bz ltz z0
      have br : Blk w7 gr 34 #[.int .i64 0, .int .i64 0, .int .i64 0, .int .i64 0] := HM.out.get 1 rfl
      have ltr := br.lt
      have r0 := br.c 0 rfl
      have fr0 := br.frozen 0
      have r1 := br.c 1 rfl
      have fr1 := br.frozen 1
      have r2 := br.c 2 rfl
      have fr2 := br.frozen 2
      have r3 := br.c 3 rfl
      have fr3 := br.frozen 3
      have HM1 := hide ((((HM.out.set_ 1 rfl 0 (.int .i64 (LO 1 0)) rfl).set_ 1 rfl 1 (.int .i64 (HI 1 0)) rfl).set_ 1 rfl 2 (.int .i64 (LO 0 1)) rfl).set_ 1 rfl 3 (.int .i64 (HI 0 1)) rfl)
      have s0 := (HM1.out.blk_ 1 rfl).c 0 rfl
      have s1 := (HM1.out.blk_ 1 rfl).c 1 rfl
      have s2 := (HM1.out.blk_ 1 rfl).c 2 rfl
      have s3 := (HM1.out.blk_ 1 rfl).c 3 rfl
      have lts := (HM1.out.blk_ 1 rfl).lt
      go_wp2
      refine ret_world fun W1 hW1 => ?_
      rw [← hW1] at HM1 s0 s1 s2 s3 lts
      exact bodyPost_ret (v := .tuple #[.agg #[.int .i64 (LO 1 0), .int .i64 (HI 1 0), .int .i64 (LO 0 1), .int .i64 (HI 0 1)], .int .i64 0]) (by simp [results, Try.results17, go_sem, s0, s1, s2, s3, lts]) rfl ⟨rfl, by first | exact HM1.out.below | (rw [← hg0]; exact HM1.out.below)⟩
  · have hS : bndsE l = listE l := by unfold bndsE; rw [if_pos he]
    have hq : ∀ f, bndB l f = 0 := fun f => by unfold bndB; rw [hS, if_neg he]
    rw [hS, hq, hq, hq, hq]
    obtain ⟨e0, hee⟩ : ∃ e, listE l = e := ⟨_, rfl⟩
    have hd : (e0 != 0) = true := by rw [hee] at he; simp [he]
    rw [hee] at he ⊢
    simp only [hee] at hL
    generalize l.length = n at *
    have HL := hide hL
    clear hL
    clear hA hI hee hS hq
    go_enter Try.func17, Try.ntmps17
    have HM := hide (Mem.start w)
    go_wp2_with fail
    refine at_world fun W hW => ?_
    have HMn := Mem.to (Mem.allocAt HM.out w.heap.size rfl #[.int .i64 0, .int .i64 0, .int .i64 0, .int .i64 0] 34) hW
    have LW : Later w W := by rw [hW]; exact ((Below.refl _ _).alloc (Nat.le_refl _) _)
    have szW : W.heap.size = w.heap.size + 1 := by rw [hW]; simp
    clear hW
    replace HM := hide HMn
    clear HMn LW
    clear szW
    generalize hg0 : w.heap.size = gr at HM ⊢
    refine (HL.out _ HM.out.below).mono ?_
    rintro e w1 ⟨rfl, hb⟩
    replace HM := hide (HM.out.later hb)
    clear hb
    have br : Blk w1 gr 34 #[.int .i64 0, .int .i64 0, .int .i64 0, .int .i64 0] := HM.out.get 0 rfl
    have ltr := br.lt
    have r0 := br.c 0 rfl
    have fr0 := br.frozen 0
    have r1 := br.c 1 rfl
    have fr1 := br.frozen 1
    have r2 := br.c 2 rfl
    have fr2 := br.frozen 2
    have r3 := br.c 3 rfl
    have fr3 := br.frozen 3
    go_wp2
    have HM1 := hide ((((HM.out.set_ 0 rfl 0 (.int .i64 0) rfl).set_ 0 rfl 1 (.int .i64 0) rfl).set_ 0 rfl 2 (.int .i64 0) rfl).set_ 0 rfl 3 (.int .i64 0) rfl)
    have s0 := (HM1.out.blk_ 0 rfl).c 0 rfl
    have s1 := (HM1.out.blk_ 0 rfl).c 1 rfl
    have s2 := (HM1.out.blk_ 0 rfl).c 2 rfl
    have s3 := (HM1.out.blk_ 0 rfl).c 3 rfl
    have lts := (HM1.out.blk_ 0 rfl).lt
    refine ret_world fun W1 hW1 => ?_
    rw [← hW1] at HM1 s0 s1 s2 s3 lts
    exact bodyPost_ret (v := .tuple #[.agg #[.int .i64 0, .int .i64 0, .int .i64 0, .int .i64 0], .int .i64 e0]) (by simp [results, Try.results17, go_sem, s0, s1, s2, s3, lts]) rfl ⟨rfl, by first | exact HM1.out.below | (rw [← hg0]; exact HM1.out.below)⟩
end Go.Proofs.Ytllpffkifleigaa
end
