/-
  Ground ranges of gates: the program's contracts; and the law's works().
-/
import Derived.Test.YthhhecidogcmjaaBeam2
import Derived.Test.YthhhecidogcmjaaBeamWorks
namespace Go.Proofs.Ythhhecidogcmjaa
open Go.RowKit

def reachN (st gate t : Int) : Int := (2 * gate + 1) * st * (262144 - t * t)
def reachD (t : Int) : Int := 2 * (262144 + t * t)
theorem reach_bd {st gate t : Int} (h1 : -8 ≤ t) (h2 : t ≤ 264) (h3 : 0 ≤ gate) (h4 : gate ≤ 199) (h5 : 0 ≤ st) (h6 : st ≤ 2000) :
    0 ≤ t * t ∧ t * t ≤ 69696 ∧ 0 ≤ (2 * gate + 1) * st ∧ (2 * gate + 1) * st ≤ 798000 ∧ 0 ≤ (2 * gate + 1) * st * (262144 - t * t) ∧ (2 * gate + 1) * st * (262144 - t * t) ≤ 209190912000 := by
  obtain ⟨a, b⟩ := tilt_bd h1 h2
  obtain ⟨c, d⟩ := mul_bdB (a := 2 * gate + 1) (b := st) (A := 399) (B := 2000) (by omega) (by omega) h5 h6
  obtain ⟨e, f⟩ := mul_bdB (a := (2 * gate + 1) * st) (b := 262144 - t * t) (A := 798000) (B := 262144) c (by omega) (by omega) (by omega)
  exact ⟨a, b, c, by omega, e, by omega⟩
/-- A function that rounds quotients. -/
def RoundF (fid : FuncId) (f : Int → Int → Int) : Prop := ∀ (a b : Int) (W : World), 1 ≤ b → b ≤ 4611686018427387903 → -4611686018427387903 ≤ a → a ≤ 4611686018427387903 → Calls Try.prog fid #[.int .i64 a, .int .i64 b] W fun e w' => e = .returned (.int .i64 (f a b)) ∧ W = w'
theorem round_down : RoundF 66 (· / ·) := fun a b W h1 h2 h3 h4 => downB_any a b W h1 h2 h3 h4
theorem round_up : RoundF 67 cdiv := fun a b W h1 h2 h3 h4 => upB_any a b W h1 h2 h3 h4
def siteV (s : ByteArray) (x y z r g st wd : Int) : Value := .agg #[.string s, .int .i64 x, .int .i64 y, .int .i64 z, .int .i64 r, .int .i64 g, .int .i64 st, .int .i64 wd]

set_option maxHeartbeats 1000000 in
set_option maxRecDepth 100000 in
theorem reachDown_any (s : ByteArray) (x y z r g st wd t gate : Int) (w : World) (h1 : -8 ≤ t) (h2 : t ≤ 264) (h3 : 0 ≤ gate) (h4 : gate ≤ 199) (h5 : 0 ≤ st) (h6 : st ≤ 2000) :
    Calls Try.prog 65 #[siteV s x y z r g st wd, .int .i64 t, .int .i64 gate, .func (.func 66) #[] #[]] w fun e w' => e = .returned (.int .i64 (reachN st gate t / reachD t)) ∧ Below w.heap.size w w' := by
  obtain ⟨a1, a2, a3, a4, a5, a6⟩ := reach_bd h1 h2 h3 h4 h5 h6
  have hs := fun W => slantOf_any t W h1 h2
  have hr := fun W => round_down ((2 * gate + 1) * st * (262144 - t * t)) (2 * (262144 + t * t)) W (by omega) (by omega) (by omega) (by omega)
  unfold vecV slantV at hs
  simp only at hs hr
  unfold siteV reachN reachD
  have Hs := hide hs
  have Hr := hide hr
  clear hs hr
  go_enter Try.func65, Try.ntmps65
  have HB := hide (Below.refl w.heap.size w)
  go_wp2_with fail
  refine at_world fun W hW => ?_
  have bq0 : Blk W w.heap.size 33 #[.string s, .int .i64 x, .int .i64 y, .int .i64 z, .int .i64 r, .int .i64 g, .int .i64 st, .int .i64 wd] := by rw [hW]; exact Blk.new _ _ _
  have LW : Later w W := by rw [hW]; exact ((Below.refl _ _).alloc (Nat.le_refl _) _)
  have szW : W.heap.size = w.heap.size + 1 := by rw [hW]; simp
  clear hW
  replace HB := hide (onward HB.out LW)
  have Hq := hide bq0
  clear bq0 LW szW
  refine (Hs.out _).mono ?_
  rintro e w1 ⟨rfl, hb⟩
  replace HB := hide (onward HB.out hb)
  replace Hq := hide (blk_later Hq.out hb)
  clear hb
  obtain ⟨q0, q1, q2, q3, q4, q5, q6, q7⟩ := Hq.out.site8
  have lts := Hq.out.lt
  go_wp2_with fail
  refine (Hr.out _).mono ?_
  rintro e w' ⟨rfl, rfl⟩
  go_wp2
  go_ret
  refine ⟨rfl, ?_⟩
  repeat (first | exact HB.out | (refine Below.setCell ?_ (by first | omega | (simp; done) | (simp; omega)) _) | (refine Below.alloc ?_ (by first | omega | (simp; done) | (simp; omega)) _) | (refine below_drewN ?_ _))
set_option maxHeartbeats 1000000 in
set_option maxRecDepth 100000 in
theorem reachUp_any (s : ByteArray) (x y z r g st wd t gate : Int) (w : World) (h1 : -8 ≤ t) (h2 : t ≤ 264) (h3 : 0 ≤ gate) (h4 : gate ≤ 199) (h5 : 0 ≤ st) (h6 : st ≤ 2000) :
    Calls Try.prog 65 #[siteV s x y z r g st wd, .int .i64 t, .int .i64 gate, .func (.func 67) #[] #[]] w fun e w' => e = .returned (.int .i64 (cdiv (reachN st gate t) (reachD t))) ∧ Below w.heap.size w w' := by
  obtain ⟨a1, a2, a3, a4, a5, a6⟩ := reach_bd h1 h2 h3 h4 h5 h6
  have hs := fun W => slantOf_any t W h1 h2
  have hr := fun W => round_up ((2 * gate + 1) * st * (262144 - t * t)) (2 * (262144 + t * t)) W (by omega) (by omega) (by omega) (by omega)
  unfold vecV slantV at hs
  simp only at hs hr
  unfold siteV reachN reachD
  have Hs := hide hs
  have Hr := hide hr
  clear hs hr
  go_enter Try.func65, Try.ntmps65
  have HB := hide (Below.refl w.heap.size w)
  go_wp2_with fail
  refine at_world fun W hW => ?_
  have bq0 : Blk W w.heap.size 33 #[.string s, .int .i64 x, .int .i64 y, .int .i64 z, .int .i64 r, .int .i64 g, .int .i64 st, .int .i64 wd] := by rw [hW]; exact Blk.new _ _ _
  have LW : Later w W := by rw [hW]; exact ((Below.refl _ _).alloc (Nat.le_refl _) _)
  have szW : W.heap.size = w.heap.size + 1 := by rw [hW]; simp
  clear hW
  replace HB := hide (onward HB.out LW)
  have Hq := hide bq0
  clear bq0 LW szW
  refine (Hs.out _).mono ?_
  rintro e w1 ⟨rfl, hb⟩
  replace HB := hide (onward HB.out hb)
  replace Hq := hide (blk_later Hq.out hb)
  clear hb
  obtain ⟨q0, q1, q2, q3, q4, q5, q6, q7⟩ := Hq.out.site8
  have lts := Hq.out.lt
  go_wp2_with fail
  refine (Hr.out _).mono ?_
  rintro e w' ⟨rfl, rfl⟩
  go_wp2
  go_ret
  refine ⟨rfl, ?_⟩
  repeat (first | exact HB.out | (refine Below.setCell ?_ (by first | omega | (simp; done) | (simp; omega)) _) | (refine Below.alloc ?_ (by first | omega | (simp; done) | (simp; omega)) _) | (refine below_drewN ?_ _))

/-- What Ground answers. -/
def groundR (e t gate g st : Int) : (Int × Int) × Int :=
  if e ≠ 0 then ((0, 0), e) else if (winB t 0 256 && winB gate 0 (g - 1)) = true then ((reachN st gate t / reachD t, cdiv (reachN st gate t) (reachD t)), 0) else ((0, 0), 3)
def spanV (s : Int × Int) : Value := .agg #[.int .i64 s.1, .int .i64 s.2]
def spanE (s : (Int × Int) × Int) : Value := .tuple #[.agg #[.int .i64 s.1.1, .int .i64 s.1.2], .int .i64 s.2]
theorem siteE_ok {nb : Bool} {x y z r g st wd : Int} (h : siteE nb x y z r g st wd = 0) : nb = true ∧ -1048576 ≤ x ∧ x ≤ 1048576 ∧ -1048576 ≤ y ∧ y ≤ 1048576 ∧ 0 ≤ z ∧ z ≤ 20000 ∧ 1 ≤ r ∧ r ≤ 90 ∧ 1 ≤ g ∧ g ≤ 200 ∧ 50 ≤ st ∧ st ≤ 2000 ∧ 0 ≤ wd ∧ wd ≤ 8 := by
  unfold siteE at h
  split at h
  · omega
  · split at h
    · rename_i h1 h2
      simp only [Bool.and_eq_true, winB_iff] at h2
      cases nb
      · exact absurd rfl h1
      · exact ⟨rfl, by omega⟩
    · omega

set_option maxHeartbeats 2000000 in
set_option maxRecDepth 100000 in
theorem Ground_any (s : ByteArray) (nb : Bool) (x y z r g st wd t gate : Int) (w : World) (hnm : ∀ W, Calls Try.prog 20 #[.string s] W fun e w' => e = .returned (.bool nb) ∧ Below W.heap.size W w') :
    Calls Try.prog 30 #[siteV s x y z r g st wd, .int .i64 t, .int .i64 gate] w fun e w' => e = .returned (spanE (groundR (siteE nb x y z r g st wd) t gate g st)) ∧ Below w.heap.size w w' := by
  have hcs := fun W => CheckSite_any s nb x y z r g st wd W hnm
  have hR : ∀ e, siteE nb x y z r g st wd = e → groundR (siteE nb x y z r g st wd) t gate g st = if e ≠ 0 then ((0, 0), e) else if (winB t 0 256 && winB gate 0 (g - 1)) = true then ((reachN st gate t / reachD t, cdiv (reachN st gate t) (reachD t)), 0) else ((0, 0), 3) := fun e he => by rw [he]; rfl
  obtain ⟨er, her⟩ : ∃ e, siteE nb x y z r g st wd = e := ⟨_, rfl⟩
  replace hR := hR er her
  have hok := fun h : er = 0 => siteE_ok (her.trans h)
  generalize groundR (siteE nb x y z r g st wd) t gate g st = res at *
  rw [her] at hcs
  clear her hnm
  unfold siteV
  have Hcs := hide hcs
  have Hok := hide hok
  clear hcs hok
  by_cases h0 : er = 0
  · subst h0
    obtain ⟨-, s1, s2, s3, s4, s5, s6, s7, s8, s9, s10, s11, s12, s13, s14⟩ := Hok.out rfl
    rw [if_neg (by simp)] at hR
    by_cases g1 : winB t 0 256 = true
    · obtain ⟨t1, t2⟩ := winB_iff.1 g1
      by_cases g2 : winB gate 0 (g - 1) = true
      · obtain ⟨t3, t4⟩ := winB_iff.1 g2
        rw [if_pos (by rw [g1, g2]; rfl)] at hR
        have hd := fun W => reachDown_any s x y z r g st wd t gate W (by omega) (by omega) (by omega) (by omega) (by omega) (by omega)
        have hu := fun W => reachUp_any s x y z r g st wd t gate W (by omega) (by omega) (by omega) (by omega) (by omega) (by omega)
        generalize reachN st gate t / reachD t = a at *
        generalize cdiv (reachN st gate t) (reachD t) = b at *
        unfold siteV at hd hu
        have Hd := hide hd
        have Hu := hide hu
        have HR := hide hR
        clear hd hu hR
        go_enter Try.func30, Try.ntmps30
        have HB := hide (Below.refl w.heap.size w)
        go_wp2_with fail
        refine at_world fun W hW => ?_
        have bq0 : Blk W w.heap.size 33 #[.string s, .int .i64 x, .int .i64 y, .int .i64 z, .int .i64 r, .int .i64 g, .int .i64 st, .int .i64 wd] := by rw [hW]; exact (Blk.new _ _ _).alloc _
        have bq1 : Blk W (w.heap.size + 1) 47 #[.int .i64 0, .int .i64 0] := by rw [hW]; exact blk_new_at (by simp)
        have LW : Later w W := by rw [hW]; exact (((Below.refl _ _).alloc (Nat.le_refl _) _).alloc (by simp; try omega) _)
        have szW : W.heap.size = w.heap.size + 2 := by rw [hW]; simp
        clear hW
        replace HB := hide (onward HB.out LW)
        have Hq := hide bq0
        have Ho := hide bq1
        clear bq0 bq1 LW szW
        refine (Hcs.out _).mono ?_
        rintro e w1 ⟨rfl, hb⟩
        replace HB := hide (onward HB.out hb)
        replace Hq := hide (blk_later Hq.out hb)
        replace Ho := hide (blk_later Ho.out hb)
        clear hb
        obtain ⟨q0, q1, q2, q3, q4, q5, q6, q7⟩ := Hq.out.site8
        have lts := Hq.out.lt
        go_wp2_with fail
        refine (within_any _ _ _ _).mono ?_
        rintro e w' ⟨rfl, rfl⟩
        rw [g1]
        go_wp2_with fail
        refine (within_any _ _ _ _).mono ?_
        rintro e w' ⟨rfl, rfl⟩
        rw [g2]
        clear g1 g2
        go_wp2_with fail
        have lto := Ho.out.lt
        apply wp_region_F (w0 := w1) [[], [], [], [0, 1, 2], [], [], [], [0, 1, 2, 3, 4, 5, 6], [0, 1, 2, 3, 4, 5, 6, 7], [0, 1, 2, 3, 4, 5, 6, 7, 8], [0, 1, 2, 3, 4, 5, 6, 7, 8, 9]] [true, true, true, true, true, true, true, true, true, false, false] [false, false, false, false, false, false, false, false, false, false, true] [⟨9, none, [], []⟩] [(9, (w.heap.size+1))] [9] (fun ixq y => match ixq with | 9 => undef | _ => undef) (fun ixq x F wq => match ixq with | 9 => F (w.heap.size+1) ∧ Blk wq (w.heap.size+1) 47 #[.int .i64 a, .int .i64 b] | _ => True) (fun a x => (a).put (none) (undef)) (by kernel_rfl) (by kernel_rfl) (by kernel_rfl) (fun _ => rfl) [30, 34] (by kernel_rfl) (fills_lt1 (by omega)) fills_ne1
        · intro x D hD
          have hne := hD.some
          have k0 := liftS hD q0 (by exact early_all (by first | assumption | omega) (by rfl))
          have k1 := liftS hD q1 (by exact early_all (by first | assumption | omega) (by rfl))
          have k2 := liftS hD q2 (by exact early_all (by first | assumption | omega) (by rfl))
          have k3 := liftS hD q3 (by exact early_all (by first | assumption | omega) (by rfl))
          have k4 := liftS hD q4 (by exact early_all (by first | assumption | omega) (by rfl))
          have k5 := liftS hD q5 (by exact early_all (by first | assumption | omega) (by rfl))
          have k6 := liftS hD q6 (by exact early_all (by first | assumption | omega) (by rfl))
          have k7 := liftS hD q7 (by exact early_all (by first | assumption | omega) (by rfl))
          simp only [takeOps, Act.put, List.setIfInBounds_toArray, List.set_cons_succ, List.set_cons_zero]
          repeat (go_big_quiet_step ((go_at_call 65; first | (with_reducible exact calls_later hD _ (Hd.out _)) | (with_reducible exact calls_later hD _ (Hu.out _)))))
          exact wpQuiet_nil rfl
        · intro x D hD
          have hne := hD.some
          simp only [takeOps, Act.put, List.setIfInBounds_toArray, List.set_cons_succ, List.set_cons_zero]
          repeat (go_big_quiet_step ((go_at_call 65; first | (with_reducible exact calls_later hD _ (Hd.out _)) | (with_reducible exact calls_later hD _ (Hu.out _)))))
          exact wpQuiet_nil rfl
        · intro d hd x x'
          simp only [List.mem_cons, List.not_mem_nil, or_false] at hd
          rcases hd with rfl | rfl
          all_goals rfl
        · refine ⟨?_, trivial⟩
          · exact obl_fill 47 47 6 35 (w.heap.size+1) _ (fun x => #[.int .i64 a, .int .i64 b]) (by kernel_rfl) (fun _ => rfl) (fun _ => rfl) Ho.out eb_fill1 (by simp [wrF]) (fun _ => by kernel_rfl) (fun _ => rfl) (fun _ => by simp [Value.oneCell']) (fun _ => rfl) (fun _ _ _ _ h1 h2 => ⟨h1, h2⟩)
        · refine ⟨?_, trivial⟩
          · exact owe_fill (w.heap.size+1) 47 (fun x => #[.int .i64 a, .int .i64 b]) (fun _ _ _ => rfl) (fun _ _ _ => rfl)
        intro xx w2 F hK hlv1
        obtain ⟨fct9, -⟩ := hlv1
        replace fct9 : (F 9) (w.heap.size+1) ∧ Blk w2 (w.heap.size+1) 47 #[.int .i64 a, .int .i64 b] := fct9 rfl
        clear q0 q1 q2 q3 q4 q5 q6 q7 lts
        clear Hq
        have hgr := grown_kept hK
        replace HB := hide (below_grown HB.out hgr HB.out.size (fun q hq => by simp at hq; omega))
        replace Ho := hide fct9.2
        clear hgr hK fct9
        obtain ⟨o0, o1⟩ := Ho.out.c2
        have lto := Ho.out.lt
        go_wp2
        refine bodyPost_ret (v := spanE res) (by rw [HR.out]; simp [spanE, results, Try.results30, go_sem, o0, o1]) rfl ⟨rfl, HB.out⟩
      · have g3 : winB gate 0 (g - 1) = false := by simpa using g2
        rw [if_neg (by rw [g3]; simp)] at hR
        have HR := hide hR
        clear hR
        clear g2
        go_enter Try.func30, Try.ntmps30
        have HB := hide (Below.refl w.heap.size w)
        go_wp2_with fail
        refine at_world fun W hW => ?_
        have bq0 : Blk W w.heap.size 33 #[.string s, .int .i64 x, .int .i64 y, .int .i64 z, .int .i64 r, .int .i64 g, .int .i64 st, .int .i64 wd] := by rw [hW]; exact (Blk.new _ _ _).alloc _
        have bq1 : Blk W (w.heap.size + 1) 47 #[.int .i64 0, .int .i64 0] := by rw [hW]; exact blk_new_at (by simp)
        have LW : Later w W := by rw [hW]; exact (((Below.refl _ _).alloc (Nat.le_refl _) _).alloc (by simp; try omega) _)
        have szW : W.heap.size = w.heap.size + 2 := by rw [hW]; simp
        clear hW
        replace HB := hide (onward HB.out LW)
        have Hq := hide bq0
        have Ho := hide bq1
        clear bq0 bq1 LW szW
        refine (Hcs.out _).mono ?_
        rintro e w1 ⟨rfl, hb⟩
        replace HB := hide (onward HB.out hb)
        replace Hq := hide (blk_later Hq.out hb)
        replace Ho := hide (blk_later Ho.out hb)
        clear hb
        obtain ⟨q0, q1, q2, q3, q4, q5, q6, q7⟩ := Hq.out.site8
        have lts := Hq.out.lt
        go_wp2_with fail
        refine (within_any _ _ _ _).mono ?_
        rintro e w' ⟨rfl, rfl⟩
        rw [g1]
        go_wp2_with fail
        refine (within_any _ _ _ _).mono ?_
        rintro e w' ⟨rfl, rfl⟩
        rw [g3]
        obtain ⟨o0, o1⟩ := Ho.out.c2
        have lto := Ho.out.lt
        have fo0 := Ho.out.frozen 0
        have fo1 := Ho.out.frozen 1
        go_wp2
        refine bodyPost_ret (v := spanE res) (by rw [HR.out]; simp [spanE, results, Try.results30, go_sem, o0, o1, fo0, fo1, lto]) rfl ⟨rfl, ?_⟩
        repeat (first | exact HB.out | (refine Below.setCell ?_ (by first | omega | (simp; done) | (simp; omega)) _) | (refine Below.alloc ?_ (by first | omega | (simp; done) | (simp; omega)) _) | (refine below_drewN ?_ _))
    · have g3 : winB t 0 256 = false := by simpa using g1
      rw [if_neg (by rw [g3]; simp)] at hR
      have HR := hide hR
      clear hR
      clear g1
      go_enter Try.func30, Try.ntmps30
      have HB := hide (Below.refl w.heap.size w)
      go_wp2_with fail
      refine at_world fun W hW => ?_
      have bq0 : Blk W w.heap.size 33 #[.string s, .int .i64 x, .int .i64 y, .int .i64 z, .int .i64 r, .int .i64 g, .int .i64 st, .int .i64 wd] := by rw [hW]; exact (Blk.new _ _ _).alloc _
      have bq1 : Blk W (w.heap.size + 1) 47 #[.int .i64 0, .int .i64 0] := by rw [hW]; exact blk_new_at (by simp)
      have LW : Later w W := by rw [hW]; exact (((Below.refl _ _).alloc (Nat.le_refl _) _).alloc (by simp; try omega) _)
      have szW : W.heap.size = w.heap.size + 2 := by rw [hW]; simp
      clear hW
      replace HB := hide (onward HB.out LW)
      have Hq := hide bq0
      have Ho := hide bq1
      clear bq0 bq1 LW szW
      refine (Hcs.out _).mono ?_
      rintro e w1 ⟨rfl, hb⟩
      replace HB := hide (onward HB.out hb)
      replace Hq := hide (blk_later Hq.out hb)
      replace Ho := hide (blk_later Ho.out hb)
      clear hb
      obtain ⟨q0, q1, q2, q3, q4, q5, q6, q7⟩ := Hq.out.site8
      have lts := Hq.out.lt
      go_wp2_with fail
      refine (within_any _ _ _ _).mono ?_
      rintro e w' ⟨rfl, rfl⟩
      rw [g3]
      obtain ⟨o0, o1⟩ := Ho.out.c2
      have lto := Ho.out.lt
      have fo0 := Ho.out.frozen 0
      have fo1 := Ho.out.frozen 1
      go_wp2
      refine bodyPost_ret (v := spanE res) (by rw [HR.out]; simp [spanE, results, Try.results30, go_sem, o0, o1, fo0, fo1, lto]) rfl ⟨rfl, ?_⟩
      repeat (first | exact HB.out | (refine Below.setCell ?_ (by first | omega | (simp; done) | (simp; omega)) _) | (refine Below.alloc ?_ (by first | omega | (simp; done) | (simp; omega)) _) | (refine below_drewN ?_ _))
  · rw [if_pos h0] at hR
    have h00 : (er != 0) = true := by simpa [bne] using h0
    have HR := hide hR
    clear hR
    go_enter Try.func30, Try.ntmps30
    have HB := hide (Below.refl w.heap.size w)
    go_wp2_with fail
    refine at_world fun W hW => ?_
    have bq0 : Blk W w.heap.size 33 #[.string s, .int .i64 x, .int .i64 y, .int .i64 z, .int .i64 r, .int .i64 g, .int .i64 st, .int .i64 wd] := by rw [hW]; exact (Blk.new _ _ _).alloc _
    have bq1 : Blk W (w.heap.size + 1) 47 #[.int .i64 0, .int .i64 0] := by rw [hW]; exact blk_new_at (by simp)
    have LW : Later w W := by rw [hW]; exact (((Below.refl _ _).alloc (Nat.le_refl _) _).alloc (by simp; try omega) _)
    have szW : W.heap.size = w.heap.size + 2 := by rw [hW]; simp
    clear hW
    replace HB := hide (onward HB.out LW)
    have Hq := hide bq0
    have Ho := hide bq1
    clear bq0 bq1 LW szW
    refine (Hcs.out _).mono ?_
    rintro e w1 ⟨rfl, hb⟩
    replace HB := hide (onward HB.out hb)
    replace Hq := hide (blk_later Hq.out hb)
    replace Ho := hide (blk_later Ho.out hb)
    clear hb
    obtain ⟨q0, q1, q2, q3, q4, q5, q6, q7⟩ := Hq.out.site8
    have lts := Hq.out.lt
    obtain ⟨o0, o1⟩ := Ho.out.c2
    have lto := Ho.out.lt
    have fo0 := Ho.out.frozen 0
    have fo1 := Ho.out.frozen 1
    go_wp2
    refine bodyPost_ret (v := spanE res) (by rw [HR.out]; simp [spanE, results, Try.results30, go_sem, o0, o1, fo0, fo1, lto]) rfl ⟨rfl, ?_⟩
    repeat (first | exact HB.out | (refine Below.setCell ?_ (by first | omega | (simp; done) | (simp; omega)) _) | (refine Below.alloc ?_ (by first | omega | (simp; done) | (simp; omega)) _) | (refine below_drewN ?_ _))
end Go.Proofs.Ythhhecidogcmjaa
