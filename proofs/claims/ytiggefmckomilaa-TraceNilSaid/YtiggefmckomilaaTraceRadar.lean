/-
  A radar is entered.
-/
import Derived.Test.YtiggefmckomilaaTracePush
import Derived.Test.YtiggefmckomilaaNames2
namespace Go.Proofs.Ytiggefmckomilaa
open Go Go.RowKit

/-- The book, when the radar's drift is in its map. -/
theorem bookQ_radar {l : List Ent} {p : Nat} {L : Lay} {w w5 : World} {n : ByteArray} {d : Int} (h : BookR l p L w) (hok : okEnt l (.radar n d) = true) (hn : driftT l n = none)
    (hm : MapV w5 Try.prog 9 L.br (putF (fun q => (driftT l q).map (Value.int .i64)) n (.int .i64 d)) (if ((fun q => (driftT l q).map (Value.int .i64)) n).isSome then (radarsT l).length else (radarsT l).length + 1))
    (hk : ∀ k, k < w.heap.size → k ≠ L.br → w5.heap[k]? = w.heap[k]?) : BookQ (.radar n d) l p L w5 := by
  have hlt := h.lt
  have hnd := h.nodup
  have hk' : ∀ k ∈ L.all p, k ≠ L.br → w5.heap[k]? = w.heap[k]? := fun k hm => hk k (hlt k hm)
  have hne : ∀ k ∈ L.bs :: L.bw :: L.bv :: (optL L.vo ++ (optL L.vt ++ (optL L.ve ++ (L.kb ++ L.cb.flatten)))), w5.heap[k]? = w.heap[k]? := fun k hm => by
    unfold Lay.all at hnd
    rw [List.nodup_cons, List.nodup_cons] at hnd
    exact hk' k (by unfold Lay.all; exact List.mem_cons_of_mem _ (List.mem_cons_of_mem _ hm)) fun e => hnd.2.1 (e ▸ hm)
  have hp : w5.heap[p]? = w.heap[p]? := hk' p (by simp [Lay.all]) fun e => by
    unfold Lay.all at hnd
    rw [List.nodup_cons] at hnd
    exact hnd.1 (by rw [e]; simp)
  obtain ⟨c6, h6a, h6⟩ := h.wd
  obtain ⟨c7, h7a, h7⟩ := h.void
  have hm2 : MapV w5 Try.prog 9 L.br (fun m => (driftT (.radar n d :: l) m).map (Value.int .i64)) (radarsT (.radar n d :: l)).length := by
    have e1 : (if ((fun q => (driftT l q).map (Value.int .i64)) n).isSome then (radarsT l).length else (radarsT l).length + 1) = (radarsT (.radar n d :: l)).length := by simp only [hn, Option.map_none]; rfl
    rw [e1] at hm
    refine hm.congr fun m => ?_
    unfold putF
    rw [driftT]
    by_cases e : m = n
    · rw [if_pos e, if_pos e.symm]; rfl
    · rw [if_neg e, if_neg (Ne.symm e)]
  refine ⟨⟨hok, h.good⟩, h.nodup, hp.trans h.book, hm2, h.stds.stab (hne _ (by simp)), ⟨c6, by simp; omega, h6.stab (hne _ (by simp))⟩, ⟨c7, Nat.le_trans h7a (Nat.mul_le_mul (by simp) (by simp)), h7.stab (hne _ (by simp))⟩,
    own_stabT h.order fun g hg => hne g (by simp [optL_mem hg]), own_stabT h.tests fun g hg => hne g (by simp [optL_mem hg]), own_stabT h.entries fun g hg => hne g (by simp [optL_mem hg]), h.knowns.stab fun k h' => hne k (by simp [h']), h.caps.stab fun k h' => hne k ?_⟩
  simp only [List.mem_cons, List.mem_append]
  exact .inr (.inr (.inr (.inr (.inr (.inr (.inr h'))))))

set_option maxHeartbeats 2000000 in
set_option maxRecDepth 100000 in
theorem Radar_any (l : List Ent) (p : Nat) (L : Lay) (n : ByteArray) (d : Int) (w : World) (hb : BookR l p L w) (hn : n.size ≤ maxLen) :
    Calls Try.prog 17 #[ptrB p, .string n, .int .i64 d] w fun e w' => e = .returned (.int .i64 (radarE l n d)) ∧ EntPost l p L w (.radar n d) (radarE l n d) w' := by
  obtain ⟨Ao, co, At, ct, Ae, ce, e1, e2, e3, hk⟩ := hb.cells
  have hE : radarE l n d = if 2000 ≤ l.length then 13 else if nameB n = false then 10 else if (driftT l n).isSome then 5 else if 32 ≤ (radarsT l).length then 9 else if inR d 0 1000000 = false then 3 else 0 := rfl
  have hp := fun (ev : Int) (W : World) (h : Below w.heap.size w W) (he : ev ≠ 0) => EntPost.same (x := .radar n d) (ev := ev) hb h he
  have hl := fun W hw => look_radar (W := W) hb hw hn
  have hlen := fun W (hw : Below w.heap.size w W) ty => (hb.later hw).radars.len (t := 91) (e := 3) Try.underlying91 ty
  have hnm := fun W => Name_any n W (by unfold maxLen at hn; omega)
  have hwi := fun W => within_any d 0 1000000 W
  generalize hr : radarE l n d = r at *
  unfold ptrB
  have hst := fun W (h : Below w.heap.size w W) => state_any p l.length ce _ _ _ _ _ _ Ae W (blk_later hk h)
  have Hk := hide hk
  have Hp := hide hp
  have Hl := hide hl
  have Hlen := hide hlen
  have Hnm := hide hnm
  have Hwi := hide hwi
  have Hst := hide hst
  clear hk hp hl hlen hnm hwi hst
  by_cases c1 : 2000 ≤ l.length
  · rw [if_pos c1] at hE
    have hs13 : stateE l.length = 13 := by unfold stateE; rw [if_pos c1]
    rw [hs13] at Hst
    subst hE
    clear c1 hs13
    go_enter Try.func17, Try.ntmps17
    have HB := hide (Below.refl w.heap.size w)
    go_wp2_with fail
    refine at_world fun W1 hW => ?_
    have bq0 : Blk W1 w.heap.size 9 #[.string n] := by rw [hW]; exact (Blk.new _ _ _).alloc _
    have bq1 : Blk W1 (w.heap.size + 1) 3 #[.int .i64 d] := by rw [hW]; exact blk_new_at (by simp)
    have LW : Later w W1 := by rw [hW]; exact (((Below.refl _ _).alloc (Nat.le_refl _) _).alloc (by simp; try omega) _)
    have szW : W1.heap.size = w.heap.size + 2 := by rw [hW]; simp
    clear hW
    replace HB := hide (onward HB.out LW)
    replace Hk := hide (blk_later Hk.out LW)
    have Hs := hide bq0
    have Hd := hide bq1
    clear bq0 bq1 LW szW
    refine (Hst.out _ HB.out).mono ?_
    rintro e w2 ⟨rfl, hb⟩
    replace HB := hide (onward HB.out hb)
    replace Hk := hide (blk_later Hk.out hb)
    replace Hs := hide (blk_later Hs.out hb)
    replace Hd := hide (blk_later Hd.out hb)
    clear hb
    go_wp2
    go_ret
    exact ⟨rfl, Hp.out 13 _ HB.out (by decide)⟩
  · rw [if_neg c1] at hE
    have hs0 : stateE l.length = 0 := by unfold stateE; rw [if_neg c1]
    rw [hs0] at Hst
    clear hs0
    have hn9 : n.size ≤ maxLen := hn
    go_enter Try.func17, Try.ntmps17
    have HB := hide (Below.refl w.heap.size w)
    go_wp2_with fail
    refine at_world fun W1 hW => ?_
    have bq0 : Blk W1 w.heap.size 9 #[.string n] := by rw [hW]; exact (Blk.new _ _ _).alloc _
    have bq1 : Blk W1 (w.heap.size + 1) 3 #[.int .i64 d] := by rw [hW]; exact blk_new_at (by simp)
    have LW : Later w W1 := by rw [hW]; exact (((Below.refl _ _).alloc (Nat.le_refl _) _).alloc (by simp; try omega) _)
    have szW : W1.heap.size = w.heap.size + 2 := by rw [hW]; simp
    clear hW
    replace HB := hide (onward HB.out LW)
    replace Hk := hide (blk_later Hk.out LW)
    have Hs := hide bq0
    have Hd := hide bq1
    clear bq0 bq1 LW szW
    refine (Hst.out _ HB.out).mono ?_
    rintro e w2 ⟨rfl, hb⟩
    replace HB := hide (onward HB.out hb)
    replace Hk := hide (blk_later Hk.out hb)
    replace Hs := hide (blk_later Hs.out hb)
    replace Hd := hide (blk_later Hd.out hb)
    clear hb
    go_wp2_with fail
    obtain ⟨x0, x1, x2, x3, x4, x5, x6, x7⟩ := Hk.out.c8
    have n0 := Hs.out.c 0 rfl
    have ltk := Hk.out.lt
    have lts := Hs.out.lt
    apply wp_region_L (w0 := w2) [[], [], [], [], [], [], [], [], [], [], []] [true, true, true, true, true, true, true, true, true, true, true] [] (fun ixq y => match ixq with  | _ => undef) (fun ixq x F wq => match ixq with  | _ => True) (fun a x => a) (by kernel_rfl) (by kernel_rfl) (fun _ => rfl) [17, 21] (by kernel_rfl)
    · intro x D hD
      have hne := hD.some
      have k1 := liftB hD x1 (by first | assumption | omega)
      have kn := liftB hD n0 (by first | assumption | omega)
      have hlk := fun (x : Of D) => Hl.out x.val (onward HB.out (kb hD x))
      simp only [takeOps, Act.put, List.setIfInBounds_toArray, List.set_cons_succ, List.set_cons_zero]
      repeat (go_big_quiet_step (fail))
      exact wpQuiet_nil rfl
    · intro d hd x x'
      simp only [List.mem_cons, List.not_mem_nil, or_false] at hd
      rcases hd with rfl | rfl
      all_goals rfl
    · exact trivial
    · exact trivial
    intro xx w3 F hL3 hlv1
    clear hlv1
    clear x0 x1 x2 x3 x4 x5 x6 x7 n0 ltk lts
    replace HB := hide (onward HB.out hL3)
    replace Hk := hide (blk_later Hk.out hL3)
    replace Hs := hide (blk_later Hs.out hL3)
    replace Hd := hide (blk_later Hd.out hL3)
    clear hL3
    have n0 := Hs.out.c 0 rfl
    have lts := Hs.out.lt
    go_wp2_with fail
    clear n0 lts
    refine (Hnm.out _).mono ?_
    rintro e w4 ⟨rfl, hb⟩
    replace HB := hide (onward HB.out hb)
    replace Hk := hide (blk_later Hk.out hb)
    replace Hs := hide (blk_later Hs.out hb)
    replace Hd := hide (blk_later Hd.out hb)
    clear hb
    cases hnb : nameB n with
    | false =>
      rw [if_pos hnb] at hE
      subst hE
      go_wp2
      go_ret
      exact ⟨rfl, Hp.out 10 _ HB.out (by decide)⟩
    | true =>
      rw [if_neg (by rw [hnb]; simp)] at hE
      cases hdr : driftT l n with
      | some d0 =>
        rw [if_pos (by rw [hdr]; rfl)] at hE
        subst hE
        go_wp2
        go_ret
        exact ⟨rfl, Hp.out 5 _ HB.out (by decide)⟩
      | none =>
        rw [if_neg (by rw [hdr]; simp)] at hE
        obtain ⟨x0, x1, x2, x3, x4, x5, x6, x7⟩ := Hk.out.c8
        have ltk := Hk.out.lt
        have hln := Hlen.out w4 HB.out
        by_cases c2 : 32 ≤ (radarsT l).length
        · rw [if_pos c2] at hE
          subst hE
          have c2' : (32 : Int) ≤ (radarsT l).length := by omega
          go_wp2
          go_ret
          exact ⟨rfl, Hp.out 9 _ HB.out (by decide)⟩
        · rw [if_neg c2] at hE
          have c2' : ¬ (32 : Int) ≤ (radarsT l).length := by omega
          have d0 := Hd.out.c 0 rfl
          have ltd := Hd.out.lt
          go_wp2_with fail
          refine (Hwi.out _).mono ?_
          rintro e w' ⟨rfl, rfl⟩
          cases hir : inR d 0 1000000 with
          | false =>
            rw [if_pos hir] at hE
            subst hE
            go_wp2
            go_ret
            exact ⟨rfl, Hp.out 3 _ HB.out (by decide)⟩
          | true =>
            rw [if_neg (by rw [hir]; simp)] at hE
            have Hrm := hide (hb.later HB.out).radars
            have Hen := hide (hb.later HB.out).entries
            have hnd := hb.nodup
            have hbp : p ≠ L.br := fun e => by
              unfold Lay.all at hnd
              rw [List.nodup_cons] at hnd
              exact hnd.1 (by rw [e]; simp)
            have hep : L.ve.ownBlock ≠ some p := fun e => by
              unfold Lay.all at hnd
              rw [List.nodup_cons] at hnd
              exact hnd.1 (by simp [optL_mem e])
            have hok : okEnt l (.radar n d) = true := by show (radarE l n d == 0) = true; rw [hr, hE]; rfl
            have ltb := Hrm.out.lt
            have n0 := Hs.out.c 0 rfl
            have lts := Hs.out.lt
            go_wp2_with fail
            apply wp_region_F (w0 := w4) [[], [0], [0, 1], [0, 1, 2], [], [], [0, 1, 2, 3, 4, 5]] [true, true, true, true, true, true, false] [false, false, false, false, false, false, false] [⟨6, none, [], []⟩] [(6, L.br)] [6] (fun ixq y => match ixq with | 6 => undef | _ => undef) (fun ixq x F wq => match ixq with | 6 => F L.br ∧ MapV wq Try.prog 9 L.br (putF ((fun q => (driftT l q).map (Value.int .i64))) (n) (.int .i64 d)) (if (((fun q => (driftT l q).map (Value.int .i64))) (n)).isSome then (radarsT l).length else (radarsT l).length + 1) | _ => True) (fun a x => (a).put (none) (undef)) (by kernel_rfl) (by kernel_rfl) (by kernel_rfl) (fun _ => rfl) [42] (by kernel_rfl) (fills_lt1 (by omega)) fills_ne1
            · intro x D hD
              have hne := hD.some
              have k1 := liftS hD x1 (by exact early_all (by first | assumption | omega) (by rfl))
              have kn := liftS hD n0 (by exact early_all (by first | assumption | omega) (by rfl))
              have kd := liftS hD d0 (by exact early_all (by first | assumption | omega) (by rfl))
              simp only [takeOps, Act.put, List.setIfInBounds_toArray, List.set_cons_succ, List.set_cons_zero]
              repeat (go_big_quiet_step (fail))
              exact wpQuiet_nil rfl
            · exact fun x D hD => wpQuiet_nil rfl
            · intro d hd x x'
              simp only [List.mem_cons, List.not_mem_nil, or_false] at hd
              rcases hd with rfl
              all_goals rfl
            · refine ⟨?_, trivial⟩
              · exact obl_mapUpd 91 9 3 44 45 46 L.br ((radarsT l).length) ((fun q => (driftT l q).map (Value.int .i64))) (n) (.int .i64 d) (by kernel_rfl) (fun _ => rfl) (fun _ => rfl) (fun _ => rfl) Try.underlying9 Try.underlying91 (by unfold maxLen; omega) hn9 Hrm.out eb_fill1 (by simp [wrF]) (fun _ => rfl) (fun _ _ _ _ h1 h2 => ⟨h1, h2⟩)
            · refine ⟨?_, trivial⟩
              · exact owe_mapV _ _ _ _ _ (fun _ _ _ => rfl)
            intro xx w5 F hK hlv2
            obtain ⟨fct6, -⟩ := hlv2
            replace fct6 : (F 6) L.br ∧ MapV w5 Try.prog 9 L.br (putF ((fun q => (driftT l q).map (Value.int .i64))) (n) (.int .i64 d)) (if (((fun q => (driftT l q).map (Value.int .i64))) (n)).isSome then (radarsT l).length else (radarsT l).length + 1) := fct6 rfl
            have hgr := grown_kept hK
            have hmp := fct6.2
            have hbl5 : ∀ k, k < w4.heap.size → k ≠ L.br → w5.heap[k]? = w4.heap[k]? := fun k h1 h2 => hgr.block k h1 fun e => h2 (Option.some.inj e)
            have Q := bookQ_radar (hb.later HB.out) hok hdr hmp hbl5
            have hk5 := blk_grown Hk.out hgr (fun e => hbp (Option.some.inj e).symm)
            have hen5 := Q.entries
            rw [e3] at hen5 hep
            have hbrl := hb.lt L.br (by simp [Lay.all])
            have hs5 := blk_grown Hs.out hgr (fun e => by have := Option.some.inj e; omega)
            have hd5 := blk_grown Hd.out hgr (fun e => by have := Option.some.inj e; omega)
            have hw5 : w.heap.size ≤ w5.heap.size := Nat.le_trans HB.out.size hK.size
            have HK5 : Hid (Kept (fun k => k < w.heap.size ∧ k ∉ L.all p) w w5) := hide ⟨hgr.os.trans HB.out.os, hgr.tape.trans HB.out.tape, hgr.output.trans HB.out.output, hw5, fun k hk' => (hgr.block k (Nat.lt_of_lt_of_le hk'.1 HB.out.size) (fun e => hk'.2 (by rw [Option.some.inj e]; simp [Lay.all]))).trans (HB.out.block k hk'.1)⟩
            obtain ⟨i0, hii, hz0, hz1, hz2⟩ := info_parts funcInfo
            clear x0 x1 x2 x3 x4 x5 x6 x7 ltk d0 ltd n0 lts hln hmp fct6 hK hbl5 Hk Hs Hd Hrm Hen HB hgr ltb hbp
            have Hi := hide hii
            have Hz0 := hide hz0
            have Hz1 := hide hz1
            have Hz2 := hide hz2
            have Hk := hide hk5
            have Hen := hide hen5
            have Hs := hide hs5
            have Hd := hide hd5
            have HQ := hide Q
            clear hii hz0 hz1 hz2 hk5 hen5 hs5 hd5 Q
            obtain ⟨x0, x1, x2, x3, x4, x5, x6, x7⟩ := Hk.out.c8
            have ltk := Hk.out.lt
            go_wp2_with (at_builtin; refine wpList_append_own_at _ rfl (.tmp 51) (.tmp 53) _ rfl 0 106 i0 _ 1 8 Try.underlying96 Hi.out Hz0.out Hz1.out Hz2.out rfl (by decide) _ l.length _ rfl (Hen.out.alloc _) ⟨w5.heap.size, 0, none⟩ 1 1 [entF (.radar n d) [w.heap.size, w.heap.size + 1]] rfl rfl ?ka1 ?ka2 ?ka3 ?ka4 ?ka5 ?_)
            try case ka1 => exact new_cellsQ w5 _ [entF (.radar n d) [w.heap.size, w.heap.size + 1]]
            case ka2 => intro u hu; simp only [List.mem_singleton] at hu; subst hu; rfl
            case ka3 => unfold maxLen; omega
            case ka4 => omega
            case ka5 => exact Nat.zero_le _
            intro v' w6 hown hgrw _ hat
            obtain ⟨A9, c9, rfl⟩ := own_shape2 hown
            obtain ⟨q1, q2, q3⟩ := HQ.out.push (c := [w.heap.size, w.heap.size + 1]) ⟨_, _, rfl, Hs.out, Hd.out⟩ (by simp) (fun k hk' hm => by
              have := hb.lt k hm
              simp only [List.mem_cons, List.not_mem_nil, or_false] at hk'
              omega) (v := .slice A9 (l.length + 1) c9) (by rw [e3]; exact hgrw) hown (by rw [e3]; rw [World.size_alloc]; exact hat)
            have hk6 := blk_grown (Hk.out.alloc _) hgrw hep
            have hos : w6.os = w5.os ∧ w6.tape = w5.tape ∧ w6.output = w5.output := ⟨hgrw.os, hgrw.tape, hgrw.output⟩
            clear x0 x1 x2 x3 x4 x5 x6 x7 ltk hown hgrw Hk Hen
            have Hk := hide hk6
            have Q1 := hide q1
            have Q2 := hide q2
            have Q3 := hide q3
            have Hat := hide hat
            clear hk6 q1 q2 q3 hat
            have x7 := Hk.out.c 7 rfl
            have ltk := Hk.out.lt
            have fx7 := Hk.out.frozen 7
            go_wp2
            go_ret
            subst hE
            refine ⟨rfl, _, Q1.out, step_push HK5.out (fun k h => .inl h) (fun k hk' => ?_) ?_ Q2.out Q3.out hos⟩
            · simp only [List.mem_cons, List.not_mem_nil, or_false] at hk'; omega
            · rcases Hat.out with h1 | h1
              · exact .inl (by rw [e3]; exact h1)
              · exact .inr ⟨_, h1, by simp⟩
end Go.Proofs.Ytiggefmckomilaa
