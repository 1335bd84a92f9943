/-
  The names of a test's chain.
  Lists of names in memory; whether a name is among them.
  Several things side by side in memory: books, rows of one's own, variables. A step on one of them leaves the others as they are.
  What comes from a standard: plain words; the contract of Depends.
-/
import Derived.Test.YtiggefmckomilaaRegI
import Derived.Test.YtiggefmckomilaaRegT
import Derived.WalkMore
import Derived.Test.YtiggefmckomilaaTraceWorks
set_option linter.unusedSimpArgs false
set_option linter.unusedVariables false
namespace Go.Proofs.Ytiggefmckomilaa
open Go Go.RowKit
attribute [local go_sem] Oper.semAt_some

theorem KnownsT.length {w : World} : ∀ {l : List Ent} {bs : List Nat}, KnownsT w l bs → bs.length = (stdsT l).length
  | [], bs, h => by rw [show bs = [] from h]; rfl
  | .define s :: l, [], h => h.elim
  | .define s :: l, b :: bs, h => by rw [stdsT, List.length_cons, List.length_cons, KnownsT.length (l := l) h.2]
  | .radar _ _ :: l, bs, h => KnownsT.length (l := l) h
  | .test _ :: l, bs, h => KnownsT.length (l := l) h
  | .turn _ _ :: l, bs, h => KnownsT.length (l := l) h
/-- The standard of each test is there, and the test points at it. -/
theorem testAll_ptr : ∀ {l : List Ent} {bs : List Nat}, GoodB l → bs.length = (stdsT l).length → ∀ x ∈ testAll l bs, x.2 = addrO (ptrT (stdsT l) bs x.1.1.std) ∧ ∃ s, stdT l x.1.1.std = some s
  | [], bs, _, _, x, hx => by cases hx
  | .radar _ _ :: l, bs, hg, hl, x, hx => testAll_ptr (l := l) hg.2 hl x hx
  | .turn _ _ :: l, bs, hg, hl, x, hx => testAll_ptr (l := l) hg.2 hl x hx
  | .define s :: l, [], hg, hl, x, hx => by rw [stdsT] at hl; simp at hl
  | .define s :: l, b :: bs, hg, hl, x, hx => by
    rw [stdsT, List.length_cons, List.length_cons] at hl
    obtain ⟨h1, q, h2⟩ := testAll_ptr (l := l) (bs := bs) hg.2 (by omega) x hx
    have hne : s.name ≠ x.1.1.std := fresh_of (e := .define s) hg h2
    exact ⟨by rw [h1, stdsT, ptrT, if_neg hne], q, by rw [stdT_cons (show Fresh (.define s) _ from hne)]; exact h2⟩
  | .test t :: l, bs, hg, hl, x, hx => by
    rw [testAll] at hx
    rcases List.mem_append.1 hx with h | h
    · exact testAll_ptr (l := l) hg.2 hl x h
    · obtain rfl := List.mem_singleton.1 h
      refine ⟨rfl, ?_⟩
      have he : testE l t = 0 := by have := hg.1; unfold okEnt at this; simpa using this
      unfold testE at he
      cases hs : stdT l t.std with
      | some s => exact ⟨s, hs⟩
      | none =>
        rw [hs] at he
        split at he
        · omega
        · cases driftT l t.radar <;> simp at he
theorem strInfo : (Try.prog.info? 9).map (fun i => (i.zero, i.size, i.bytes)) = some (some (.string ⟨#[]⟩), 1, 16) := by kernel_rfl
theorem chain_len : ∀ {l : List Ent} {n : ByteArray}, (chainT l n).length ≤ (stdsT l).length
  | [], n => by simp [chainT, stdsT]
  | .radar _ _ :: l, n => chain_len (l := l)
  | .test _ :: l, n => chain_len (l := l)
  | .turn _ _ :: l, n => chain_len (l := l)
  | .define s :: l, n => by
    rw [chainT, stdsT, List.length_cons]
    have h1 := chain_len (l := l) (n := s.par)
    have h2 := chain_len (l := l) (n := n)
    split
    · rw [List.length_cons]
      split
      · simp
      · omega
    · omega
theorem stds_le : ∀ {l : List Ent}, GoodB l → (stdsT l).length ≤ 64
  | [], _ => by simp [stdsT]
  | .radar _ _ :: l, h => stds_le (l := l) h.2
  | .test _ :: l, h => stds_le (l := l) h.2
  | .turn _ _ :: l, h => stds_le (l := l) h.2
  | .define s :: l, h => by
    have he : defineE l s = 0 := by have := h.1; unfold okEnt at this; simpa using this
    obtain ⟨-, -, -, h4, -⟩ := defineE_zero he
    rw [stdsT, List.length_cons]
    omega
def chainA (l : List Ent) (i : Int) : List ByteArray × Int := match (testInfo l)[i.toNat]? with
  | some x => if 0 ≤ i then (chainT l x.1.std, 0) else ([], 4)
  | none => ([], 4)
def strV (q : List ByteArray) : List Value := q.map .string
def ChainPost (w : World) (r : List ByteArray × Int) (e : Ending) (w' : World) : Prop :=
  ∃ v, e = .returned (.tuple #[v, .int .i64 r.2]) ∧ Below w.heap.size w w' ∧ w'.ownsRow w.heap.size 9 1 v r.1.length (strV r.1)
set_option maxHeartbeats 4000000 in
set_option maxRecDepth 100000 in
theorem Chain_any (l : List Ent) (p : Nat) (L : Lay) (i : Int) (w : World) (hb : BookR l p L w) :
    Calls Try.prog 40 #[ptrB p, .int .i64 i] w (ChainPost w (chainA l i)) := by
  obtain ⟨Ao, co, At, ct, Ae, ce, e1, e2, e3, hk⟩ := hb.cells
  obtain ⟨X, hX⟩ : ∃ X, testAll l L.kb = X := ⟨_, rfl⟩
  have hXI : X.map (·.1) = testInfo l := by rw [← hX]; exact testAll_info l L.kb
  have hXl : X.length = (testsT l).length := by rw [← testInfo_length, ← hXI, List.length_map]
  have htr := hb.tests
  rw [testRows_all, hX, e2] at htr
  have hXp := testAll_ptr hb.good hb.knowns.length
  rw [hX] at hXp
  have hM5 := tests_le hb.good
  obtain ⟨M, hM⟩ : ∃ M, (testsT l).length = M := ⟨_, rfl⟩
  rw [hM] at hk hXl htr hM5
  have hwi := fun W => within_any i 0 ((M : Int) - 1) W
  have hM64 : (M : Int) ≤ 512 := by omega
  obtain ⟨R, hR⟩ : ∃ R, chainA l i = R := ⟨_, rfl⟩
  rw [hR]
  unfold ptrB
  obtain ⟨x0, x1, x2, x3, x4, x5, x6, x7⟩ := hk.c8
  have ltk := hk.lt
  have Hwi := hide hwi
  have HR := hide hR
  have Hk := hide hk
  have Htr := hide htr
  clear hwi hR hk htr
  by_cases hi : inR i 0 ((M : Int) - 1) = true
  · obtain ⟨ilo, ihi⟩ := inR_iff.1 hi
    rw [hi] at Hwi
    have hlt : i.toNat < X.length := by omega
    have hx : X[i.toNat]? = some X[i.toNat] := List.getElem?_eq_getElem hlt
    have hTk : (testInfo l)[i.toNat]? = some X[i.toNat].1 := by rw [← hXI, List.getElem?_map, hx]; rfl
    obtain ⟨p1, sd, p2⟩ := hXp _ (List.getElem_mem hlt)
    obtain ⟨b, rfl, hbl, -, hcl⟩ := rows_pt Htr.out (by omega)
    have c5 := hcl i.toNat _ hx 5 _ (by decide) rfl
    have hRv : R = (chainT l X[i.toNat].1.1.std, 0) := by rw [← HR.out]; unfold chainA; rw [hTk]; simp only; rw [if_pos ilo]
    generalize X[i.toNat] = x at *
    subst hRv
    obtain ⟨bk, hbk, hbm, hbkk⟩ := known_get hb.good hb.knowns p2
    rw [p1, hbk] at c5
    have hlw := hb.lt
    have hkn := hb.knowns
    have hgd := hb.good
    have hM1 : (i : Int) < M := by omega
    have hmi : (i.toNat : Int) = i := by omega
    have Hc5 := hide c5
    have Hmi := hide hmi
    clear c5 hXI hTk hXp hx hX
    refine (callsIn_wide (n := 8)).1 (callsIn_of_wp_marks Try.func40 rfl trivial (wpIn_wide.2 ?_))
    simp only [Try.ntmps40, List.size_toArray, List.length_cons, List.length_nil, Nat.reduceAdd, Nat.reduceSub, Array.replicate_succ, Array.replicate_zero, List.push_toArray, List.append_toArray, List.nil_append, List.cons_append]
    go_wp2_with fail
    have HB := hide (Below.refl w.heap.size w)
    refine (Hwi.out _).mono ?_
    rintro e w' ⟨rfl, rfl⟩
    have c5 := Hc5.out
    rw [addrO, Option.map_some] at c5
    go_wp2_with fail
    refine at_world fun W hW => ?_
    have bq0 : Blk W w.heap.size 36 #[.slice none 0 0] := by rw [hW]; exact Blk.new _ _ _
    have LW : Later w W := by rw [hW]; exact ((Below.refl _ _).alloc (Nat.le_refl _) _)
    have szW : W.heap.size = w.heap.size + 1 := by rw [hW]; simp
    clear hW
    replace HB := hide (onward HB.out LW)
    replace Hk := hide (blk_later Hk.out LW)
    have Hout := hide bq0
    clear bq0 LW szW
    have hWw := Hout.out.lt
    clear c5 x0 x1 x2 x3 x4 x5 x6 x7
    refine (chain_any _ _).mono ?_
    rintro e w2 ⟨rfl, hb2, hsz2, hbk2⟩
    replace HB := hide (onward HB.out hb2)
    replace Hk := hide (blk_later Hk.out hb2)
    replace Hout := hide (blk_later Hout.out hb2)
    clear hb2
    have hsw := HB.out.size
    have hlo := Hout.out.lt
    have hkw := hkn.stab (w' := w2) fun k hm => HB.out.block k (hkn.lt k hm)
    have hst := chain_stops (fun k => k < W.heap.size ∧ k ≠ w.heap.size ∨ k = W.heap.size) l L.kb x.1.1.std sd W.heap.size 7 w2 (by omega) hgd p2 hkw (fun k h => by omega) (fun k hm => .inl (by have := hkn.lt k hm; omega)) (.inr rfl) (by rw [hbk]; exact hbk2)
    obtain ⟨J, hJ⟩ : ∃ J : Value → List (InC l x.1.1.std) → World → Prop, J = (fun v pre V => BI w.heap.size w2.heap.size w [] [(w.heap.size, 36, #[v])] V ∧ V.ownsRow w2.heap.size 9 1 v pre.length (strV (pre.map Subtype.val))) := ⟨_, rfl⟩
    have HJ := hide hJ
    have hmlt : ∀ D : Nat, D ∈ ([] : List Nat) → D < w2.heap.size := fun D h => absurd h List.not_mem_nil
    clear hJ
    obtain ⟨i0, hii, hz0, hz1, hz2⟩ := info_parts strInfo
    have Hi := hide hii
    have Hz0 := hide hz0
    have Hz1 := hide hz1
    have Hz2 := hide hz2
    clear hii hz0 hz1 hz2
    go_wp2_with fail
    refine wp_range1 (α := InC l x.1.1.std) (p := 37) (d := 7) rfl (enters_of Try.func93 (by kernel_rfl) rfl) (v0 := fun x : InC l x.1.1.std => .pointer (addrO (ptrT (stdsT l) L.kb x.1))) hst
      (fun h k => h.trans k) (fun W' lx o' hl => KeptS.putObj (B := w2.heap.size) (fun k hk => by omega) W' lx o' hl) (fun W' => KeptS.refl _ _) (Below.refl _ _)
      (fun pre V => ∃ v, J v pre V) (fun _ _ _ => False)
      (by rw [HJ.out]; exact ownFrom_ex fun v => OwnFrom.and (BI_own hsw hmlt) ownRow_from) (fun c => ownFrom_pure _ _) (fun pre W' h => by rw [HJ.out] at h; obtain ⟨_, h⟩ := h; exact h.1.2.2.1)
      (by rw [HJ.out]; exact ⟨_, ⟨HB.out, marks_nil _ _, Nat.le_refl _, List.forall_mem_cons.2 ⟨Hout.out, fun x hx => absurd hx List.not_mem_nil⟩⟩, World.ownsRow_nil _ _ _ _⟩)
      ?assign ?body ?done ?stop
    case assign =>
      intro lp x V K hK
      gi_wp2
      exact hK
    case body =>
      intro lp pre y V hi hlen
      rw [HJ.out] at hi
      obtain ⟨v, ⟨hbw, hmk, hsw, hblk⟩, hrow⟩ := hi
      obtain ⟨ho, -⟩ := List.forall_mem_cons.1 hblk
      clear hblk Hout HB Hk
      have Hout := hide ho
      have HB := hide hbw
      have Hmk := hide hmk
      have HZ := hide hsw
      have Hrow := hide hrow
      clear ho hbw hmk hsw hrow
      simp only [List.setIfInBounds_toArray, List.set_cons_succ, List.set_cons_zero]
      obtain ⟨sx, hsx⟩ := inC_std hgd p2 y
      obtain ⟨b', hb', hbm', hbk'⟩ := known_get hgd hkn hsx
      have hS := hide (blk_belowN hbk' HB.out hbk'.lt)
      rw [hb']
      simp only [addrO, Option.map_some]
      obtain ⟨Av, cv, rfl⟩ := own_shape2 Hrow.out
      have hlb : b' < w.heap.size := hbk'.lt
      have o0 := Hout.out.c 0 rfl
      have s0 := hS.out.c 0 rfl
      have lts := hS.out.lt
      have lto := Hout.out.lt
      have hno : (Value.slice Av pre.length cv).ownBlock ≠ some w.heap.size := own_low_ne Hrow.out (by omega)
      have Hno := hide hno
      have hnb : (Value.slice Av pre.length cv).ownBlock ≠ some b' := own_low_ne Hrow.out (by omega)
      have hbn : b' ≠ w.heap.size := by omega
      have hpl : pre.length ≤ 1000 := by have := chain_len (l := l) (n := x.1.1.std); have := stds_le hgd; omega
      gi_wp2
      refine wpIn_region_wide (by kernel_rfl) (by kernel_rfl) (by first | exact ownPostG_out | exact block_out ownPostG_out | exact then_out ownPostG_out | exact then_out (block_out ownPostG_out) | exact block_out (then_out ownPostG_out) | exact then_out (then_out ownPostG_out) | exact then_out (then_out (block_out ownPostG_out)) | exact then_out (block_out (then_out ownPostG_out))) ?_
      apply any_region_F (w0 := V) [[], [], [1], [1, 2], [1, 2, 3], [1, 2, 3, 4], [1, 2, 3, 4, 5], [0, 1, 2, 3, 4, 5, 6], [0, 1, 2, 3, 4, 5, 6, 7]] [true, true, true, true, true, true, false, false, false] [false, false, false, false, false, false, false, false, false] [⟨6, none, [], []⟩, ⟨7, none, [6], []⟩, ⟨8, none, [], [7]⟩] (fillQ 7 (.slice Av pre.length cv) 8 w.heap.size) [8] (fun ixq y => match ixq with | 6 => .slice (y 0).1 1 1 | 7 => .slice (y 0).1 (pre.length + 1) (y 0).2 | 8 => undef | _ => undef) (fun ixq x F wq => match ixq with | 6 => OwnF wq F V.heap.size 9 1 (.slice (x 6 0).1 1 1) 1 #[.string sx.name].toList | 7 => OwnF wq F w2.heap.size 9 1 (.slice (x 7 0).1 (pre.length + 1) (x 7 0).2) (pre.length + 1) ((strV (pre.map Subtype.val)) ++ (#[.string sx.name] : Array Value).toList) ∧ FreshOr V.heap.size (.slice Av pre.length cv) (.slice (x 7 0).1 (pre.length + 1) (x 7 0).2) | 8 => F w.heap.size ∧ Blk wq w.heap.size 36 #[.slice (x 7 0).1 (pre.length + 1) (x 7 0).2] | _ => True) (fun a x => (((a).put (some 44) (.slice ((x 6) 0).1 1 1)).put (some 45) (.slice ((x 7) 0).1 (pre.length + 1) ((x 7) 0).2)).put (none) (undef)) (by kernel_rfl) (by kernel_rfl) (fun _ => rfl) [40] (by kernel_rfl) (fillQ_lt (fun g hg => (Hrow.out.lt g hg).2) (by omega)) (fillQ_ne Hno.out)
      · intro x D hD
        have hne := hD.some
        have k0 := liftS hD o0 (earlyQ (by first | assumption | omega) (own_low_ne Hrow.out (by first | assumption | omega)))
        have k1 := liftS hD s0 (earlyQ (by first | assumption | omega) hnb)
        simp only [takeOps, Act.put, List.setIfInBounds_toArray, List.set_cons_succ, List.set_cons_zero]
        repeat (go_big_quiet_step (fail))
        exact wpQuiet_nil rfl
      · exact fun x D hD => wpQuiet_nil rfl
      · intro d hd x x'
        simp only [List.mem_cons, List.not_mem_nil, or_false] at hd
        rcases hd with rfl
        all_goals rfl
      · refine ⟨?_, ?_, ?_, trivial⟩
        · exact obl_new rfl (fun _ => by kernel_rfl) 9 (fun x => #[.string sx.name]) gP (fun x w => by kernel_rfl) (fun x w hle => own_new hle rfl (by unfold maxLen; omega))
        · refine obl_pushQ 36 38 44 (by kernel_rfl) w2.heap.size 9 i0 _ 1 16 Try.underlying36 Hi.out Hz0.out Hz1.out Hz2.out rfl (by decide) (.slice Av pre.length cv) pre.length 1 ((strV (pre.map Subtype.val))) (#[.string sx.name] : Array Value).toList (by first | rfl | (simp; done) | (simp; omega)) (by simp [Value.oneCell']) (by unfold maxLen; omega) (by omega) (by first | assumption | omega) (fun x w F hk hn => ?_) (fun _ => rfl) (fun _ _ _ _ h1 h2 => ⟨h1, h2⟩)
          have hj : OwnF w (F 6) V.heap.size 9 1 (.slice (x 6 0).1 1 1) 1 (#[.string sx.name] : Array Value).toList := hn 6 (by simp)
          obtain ⟨ad, hA, hc⟩ := news_own hj (by decide)
          exact ⟨ad, 1, rfl, row_thenQ Hrow.out Hno.out hk, wrQ_row, (show Value.slice (x 6 0).1 1 1 = _ by rw [hA]), hc⟩
        · exact obl_setv 36 36 6 45 w.heap.size 0 _ (fun x => .slice (x 7 0).1 (pre.length + 1) (x 7 0).2) (fun x => #[.slice (x 7 0).1 (pre.length + 1) (x 7 0).2]) (by kernel_rfl) (fun _ => rfl) (fun _ => rfl) (fun _ => rfl) Hout.out (ebQ_set Hno.out) wrQ_set (by kernel_rfl) (by simp) (fun _ => rfl) (fun _ => rfl) (fun _ _ _ _ h1 h2 => ⟨h1, h2⟩)
      · refine ⟨?_, ?_, ?_, trivial⟩
        · refine ⟨fun x F wq wq' h hs hk => ?_, fun x x' F wq hx h => ?_⟩
          · have h2 : OwnF wq F V.heap.size 9 1 (.slice (x 6 0).1 1 1) 1 #[.string sx.name].toList := h
            exact h2.stab hk
          · have h2 : OwnF wq F V.heap.size 9 1 (.slice (x 6 0).1 1 1) 1 #[.string sx.name].toList := h
            rw [hx 6 (by simp)] at h2
            exact h2
        · exact owe_pushQ 7 _ w2.heap.size (.slice Av pre.length cv) 9 1 (pre.length + 1) ((strV (pre.map Subtype.val)) ++ (#[.string sx.name] : Array Value).toList) rfl (fun _ _ _ => rfl)
        · exact owe_fill w.heap.size 36 (fun x => #[.slice (x 7 0).1 (pre.length + 1) (x 7 0).2]) (fun _ _ _ => rfl) (fun x x' hx => by simp only [hx 7 (by simp)])
      intro xx V2 F hK hlv1 hap1
      clear hap1
      obtain ⟨-, fct7, fct8, -⟩ := hlv1
      replace fct7 : OwnF V2 (F 7) w2.heap.size 9 1 (.slice (xx 7 0).1 (pre.length + 1) (xx 7 0).2) (pre.length + 1) ((strV (pre.map Subtype.val)) ++ (#[.string sx.name] : Array Value).toList) ∧ FreshOr V.heap.size (.slice Av pre.length cv) (.slice (xx 7 0).1 (pre.length + 1) (xx 7 0).2) := fct7 rfl
      replace fct8 : (F 8) w.heap.size ∧ Blk V2 w.heap.size 36 #[.slice (xx 7 0).1 (pre.length + 1) (xx 7 0).2] := fct8 rfl
      obtain ⟨⟨hrow2, -⟩, -⟩ := fct7
      have hout2 := fct8.2
      generalize (xx 7 0).1 = A7 at *
      generalize (xx 7 0).2 = c7 at *
      have hlt7 := Hrow.out.lt
      have hfree : ∀ k, k ≠ w.heap.size → k < w2.heap.size → free (fillQ 7 (.slice Av pre.length cv) 8 w.heap.size) k := fun k h1 h2 => freeQ (own_low_ne Hrow.out h2) (Ne.symm h1)
      have hbel := below_kept HB.out HB.out.size hK (fun q hq => by
        rcases mem_fillQ.1 hq with ⟨_, h2⟩ | ⟨_, h2⟩
        · have := (hlt7 _ h2).1; omega
        · omega)
      have hkf : KeepsFrom w2.heap.size V V2 := ⟨hK.size, fun k o hk ho hc => (hK.block k ⟨(Array.getElem?_eq_some_iff.1 ho).1, freeQ (fun e => by
        rcases Hrow.out.2 with ⟨h0, -⟩ | ⟨g', cap, cur, h1, -, hh, -⟩
        · rw [h0] at e; cases e
        · rw [h1] at e
          have : g' = k := Option.some.inj e
          subst this
          rw [hh] at ho
          cases ho
          cases hc) (by omega)⟩).trans ho⟩
      have hks : KeptS (fun k => k < W.heap.size ∧ k ≠ w.heap.size ∨ k = W.heap.size) V V2 := ⟨hK.size, fun k hk hl => by
        have hk' : k < W.heap.size ∧ k ≠ w.heap.size ∨ k = W.heap.size := hk
        exact hK.block k ⟨hl, hfree k (by omega) (by omega)⟩⟩
      have hsz2' := hK.size
      rw [show strV (pre.map Subtype.val) ++ (#[.string sx.name] : Array Value).toList = strV ((pre ++ [y]).map Subtype.val) by
        rw [List.map_append]
        unfold strV
        rw [List.map_append, (good_std hgd hsx).2.1]
        rfl] at hrow2
      have hZ := HZ.out
      clear fct8 hK hfree hlt7 o0 s0 lts lto
      have Hrow2 := hide hrow2
      have Hout2 := hide hout2
      have HB2 := hide hbel
      have HKF := hide hkf
      have HKS := hide hks
      clear hrow2 hout2 hbel hkf hks
      gi_wp2
      refine ⟨HKF.out, HKS.out, ?_⟩
      rw [HJ.out]
      refine ⟨_, ⟨HB2.out, marks_nil _ _, by omega, List.forall_mem_cons.2 ⟨Hout2.out, fun x hx => absurd hx List.not_mem_nil⟩⟩, ?_⟩
      rw [List.length_append, List.length_singleton]
      exact Hrow2.out
    case done =>
      intro D xs V hD hxs hi hdd
      rw [HJ.out] at hi
      obtain ⟨v, ⟨hbw, hmk, hsw, hblk⟩, hrow⟩ := hi
      obtain ⟨ho, -⟩ := List.forall_mem_cons.1 hblk
      subst hxs
      have o0 := ho.c 0 rfl
      have lto := ho.lt
      clear hblk Hout HB
      go_wp2
      refine leaves_marks [D] _ ((marks_nil w.heap.size V).cons (by simp) (by omega) hdd) (by omega) fun w' hbw' hcells => ?_
      rw [List.length_attach, List.attach_map_subtype_val] at hrow
      have hrw : w'.ownsRow w.heap.size 9 1 v (chainT l x.1.1.std).length (strV (chainT l x.1.1.std)) := by
        refine ⟨hrow.1, ?_⟩
        rcases hrow.2 with h0 | ⟨g, cap, cur, h1, h2, h3, h4⟩
        · exact .inl h0
        · exact .inr ⟨g, cap, cur, h1, by omega, hcells _ _ _ h3, h4⟩
      exact ⟨.tuple #[v, .int .i64 0], by simp [results, Try.results40, go_sem], v, rfl, hbw.trans hbw', hrw⟩
    case stop =>
      intro D jc pre V hD hpre hix hdd
      exact hix.elim
  · have hi' : inR i 0 ((M : Int) - 1) = false := by simpa using hi
    rw [hi'] at Hwi
    have hRv : R = ([], 4) := by
      rw [← HR.out]
      unfold chainA
      cases hT : (testInfo l)[i.toNat]? with
      | none => rfl
      | some x =>
        simp only
        have := (List.getElem?_eq_some_iff.1 hT).1
        rw [testInfo_length, hM] at this
        rw [if_neg (fun h => hi (inR_iff.2 ⟨h, by omega⟩))]
    subst hRv
    refine (callsIn_wide (n := 8)).1 (callsIn_of_wp_marks Try.func40 rfl trivial (wpIn_wide.2 ?_))
    simp only [Try.ntmps40, List.size_toArray, List.length_cons, List.length_nil, Nat.reduceAdd, Nat.reduceSub, Array.replicate_succ, Array.replicate_zero, List.push_toArray, List.append_toArray, List.nil_append, List.cons_append]
    go_wp2_with fail
    refine (Hwi.out _).mono ?_
    rintro e w' ⟨rfl, rfl⟩
    go_wp2
    refine leaves_marks [] w (marks_nil w.heap.size w) (Nat.le_refl _) fun w' hbw' _ => ?_
    exact ⟨.tuple #[.slice none 0 0, .int .i64 4], by simp [results, Try.results40, go_sem], .slice none 0 0, rfl, hbw', World.ownsRow_nil _ _ _ _⟩
end Go.Proofs.Ytiggefmckomilaa
namespace Go.Proofs.Ytiggefmckomilaa
open Go Go.RowKit

/-- The slice value `.slice A n c` reads as the names `q`, all below block `B`. -/
def StrsAt (w : World) (B : Nat) (A : Option Addr) (q : List ByteArray) : Prop := 0 < q.length → ∃ b off, A = some ⟨b, off, none⟩ ∧ b < B ∧ ∀ (i : Nat) (s : ByteArray), q[i]? = some s → w.cell? ⟨b, off + i, none⟩ = some (.string s)
theorem StrsAt.below {w w' : World} {B : Nat} {A : Option Addr} {q : List ByteArray} (h : StrsAt w B A q) (hb : Below B w w') : StrsAt w' B A q := fun hn => by
  obtain ⟨b, off, e, hl, hc⟩ := h hn
  exact ⟨b, off, e, hl, fun i s hs => (hb.cell hl).trans (hc i s hs)⟩
theorem StrsAt.more {w : World} {B B' : Nat} {A : Option Addr} {q : List ByteArray} (h : StrsAt w B A q) (hB : B ≤ B') : StrsAt w B' A q := fun hn => by
  obtain ⟨b, off, e, hl, hc⟩ := h hn
  exact ⟨b, off, e, by omega, hc⟩
theorem StrsAt.own {w : World} {base c : Nat} {A : Option Addr} {q : List ByteArray} (h : w.ownsRow base 9 1 (.slice A q.length c) q.length (strV q)) : StrsAt w w.heap.size A q := fun hn => by
  obtain ⟨b, cur, rfl, -, hb, -, -, hc⟩ := row_blk h hn
  refine ⟨b, 0, rfl, hb.lt, fun i s hs => ?_⟩
  rw [Nat.zero_add]
  exact hb.c i (hc i _ (by unfold strV; rw [List.getElem?_map, hs]; rfl))
theorem toList_bne {a b : ByteArray} (h : a ≠ b) : (a.toList == b.toList) = false := by
  rw [ByteArray.toList_eq, ByteArray.toList_eq]
  exact beq_eq_false_iff_ne.2 fun e => h (WideShapes.bytes_inj e)
def memB (q : List ByteArray) (s : ByteArray) : Bool := q.any fun x => decide (x = s)
theorem memB_iff {q : List ByteArray} {s : ByteArray} : memB q s = true ↔ s ∈ q := by
  unfold memB
  rw [List.any_eq_true]
  exact ⟨fun ⟨x, h1, h2⟩ => (of_decide_eq_true h2) ▸ h1, fun h => ⟨s, h, decide_eq_true rfl⟩⟩
set_option maxHeartbeats 1000000 in
set_option maxRecDepth 100000 in
theorem hasS_any (A : Option Addr) (n c : Nat) (q : List ByteArray) (s : ByteArray) (w : World) (hn : q.length = n) (hmax : n ≤ 1000) (h : StrsAt w w.heap.size A q) :
    Calls Try.prog 92 #[.slice A n c, .string s] w fun e w' => (∃ k : Int, e = .returned (.int .i64 k) ∧ (0 ≤ k ↔ s ∈ q) ∧ -1 ≤ k ∧ k ≤ 1000) ∧ w = w' := by
  have hn64 : (n : Int) ≤ 1000 := by omega
  have H := hide h
  have Hn := hide hn
  clear h hn
  go_enter Try.func92, Try.ntmps92
  go_wp2_with fail
  go_loopw [8] (fun i wr => ∃ k : Nat, k ≤ n ∧ i = .int .i64 k ∧ w = wr ∧ ∀ j, j < k → q[j]? ≠ some s) (fun i _ => n - (intOf i).toNat)
  case atStart => exact ⟨0, by omega, rfl, rfl, fun j hj => absurd hj (by omega)⟩
  case round =>
    obtain ⟨k, hk, rfl, rfl, hno⟩ := hrel
    have Hno := hide hno
    clear hno
    by_cases hlt : k < n
    · obtain ⟨b, off, rfl, hb, hc⟩ := H.out (by have := Hn.out; omega)
      have hlt2 : (k : Int) < n := by omega
      obtain ⟨y, hy⟩ : ∃ y, q[k]? = some y := ⟨_, List.getElem?_eq_getElem (by have := Hn.out; omega)⟩
      have c0 := hc k y hy
      have Hy := hide hy
      clear hc hy
      by_cases hys : s = y
      · subst hys
        have heq : (s.toList == s.toList) = true := beq_self_eq_true _
        go_wp2
        go_ret
        exact ⟨⟨k, rfl, ⟨fun _ => List.mem_of_getElem? Hy.out, fun _ => by omega⟩, by omega, by omega⟩, rfl⟩
      · have heq : (s.toList == y.toList) = false := toList_bne hys
        go_wp2
        go_roundw
        case rel =>
          refine ⟨k + 1, by omega, by go_num, by first | trivial | rfl, fun j hj => ?_⟩
          rcases Nat.lt_or_ge j k with h1 | h1
          · exact Hno.out j h1
          · obtain rfl : j = k := by omega
            rw [Hy.out]
            exact fun e => hys (Option.some.inj e).symm
        case measure => simp [intOf] <;> omega
    · have hkn : k = n := by omega
      subst hkn
      go_wp2
      go_ret
      refine ⟨⟨-1, rfl, ⟨fun h => absurd h (by omega), fun hm => ?_⟩, by omega, by omega⟩, rfl⟩
      obtain ⟨j, hj⟩ := List.mem_iff_getElem?.1 hm
      have h1 := (List.getElem?_eq_some_iff.1 hj).1
      exact absurd hj (Hno.out j (by have := Hn.out; omega))
set_option maxHeartbeats 1000000 in
set_option maxRecDepth 100000 in
theorem contains_any (A : Option Addr) (n c : Nat) (q : List ByteArray) (s : ByteArray) (w : World) (hn : q.length = n) (hmax : n ≤ 1000) (h : StrsAt w w.heap.size A q) :
    Calls Try.prog 78 #[.slice A n c, .string s] w fun e w' => e = .returned (.bool (memB q s)) ∧ w = w' := by
  have hi := fun W (h : StrsAt W W.heap.size A q) => hasS_any A n c q s W hn hmax h
  obtain ⟨r, hr⟩ : ∃ r, memB q s = r := ⟨_, rfl⟩
  rw [hr]
  have H := hide h
  have Hi := hide hi
  have Hr := hide hr
  clear h hi hr
  go_enter Try.func78, Try.ntmps78
  go_wp2_with fail
  refine (Hi.out _ H.out).mono ?_
  rintro e w' ⟨⟨k, rfl, hk, hk1, hk2⟩, rfl⟩
  have hr := Hr.out
  cases r with
  | true =>
    have h0 : decide (0 ≤ k) = true := decide_eq_true (hk.2 (memB_iff.1 hr))
    clear hk hr Hr
    go_wp2
    go_ret
    exact ⟨rfl, rfl⟩
  | false =>
    have h0 : decide (0 ≤ k) = false := decide_eq_false (fun h => by have := memB_iff.2 (hk.1 h); rw [hr] at this; cases this)
    clear hk hr Hr
    go_wp2
    go_ret
    exact ⟨rfl, rfl⟩
end Go.Proofs.Ytiggefmckomilaa
namespace Go.Proofs.Ytiggefmckomilaa
open Go Go.RowKit

inductive Th where
  | book (l : List Ent) (p : Nat) (L : Lay)
  | row (base : Nat) (e : TypeId) (size : Nat) (v : Value) (n : Nat) (xs : List Value)
  | blk (g : Nat) (t : TypeId) (cs : Array Value)
/-- The blocks of a thing, and that it lies so. -/
def Th.fp : Th → List Nat
  | .book _ p L => L.all p
  | .row _ _ _ v _ _ => optL v
  | .blk g _ _ => [g]
def Th.ok (W : World) : Th → Prop
  | .book l p L => BookR l p L W
  | .row base e size v n xs => W.ownsRow base e size v n xs
  | .blk g t cs => Blk W g t cs
def fps (ts : List Th) : List Nat := ts.flatMap Th.fp
theorem fps_cons (x : Th) (a : List Th) : fps (x :: a) = x.fp ++ fps a := rfl
theorem Th.lt {W : World} {t : Th} (h : t.ok W) : ∀ k ∈ t.fp, k < W.heap.size := by
  cases t with
  | book l p L => exact BookR.lt h
  | row base e size v n xs => exact fun k hk => own_ltT h hk
  | blk g t cs => exact fun k hk => by rw [List.mem_singleton.1 hk]; exact Blk.lt h
theorem Th.stab {W W' : World} {t : Th} (h : t.ok W) (hk : ∀ k ∈ t.fp, W'.heap[k]? = W.heap[k]?) : t.ok W' := by
  cases t with
  | book l p L => exact BookR.stab h hk
  | row base e size v n xs => exact own_stabT h fun g hg => hk g (optL_mem hg)
  | blk g t cs => exact (hk g (List.mem_singleton.2 rfl)).trans h
theorem Th.nodup {W : World} {t : Th} (h : t.ok W) : t.fp.Nodup := by
  cases t with
  | book l p L => exact BookR.nodup h
  | row base e size v n xs => exact optL_nodup v
  | blk g t cs => exact List.nodup_cons.2 ⟨List.not_mem_nil, List.nodup_nil⟩
/-- What lies in memory that was made behind `w0`. -/
structure Mem (w0 : World) (ts : List Th) (W : World) : Prop where
  all : ∀ t ∈ ts, t.ok W
  nodup : (fps ts).Nodup
  low : ∀ k ∈ fps ts, w0.heap.size ≤ k
  below : Below w0.heap.size w0 W

section
variable {w0 W W' : World} {ts : List Th} {t t' : Th} {i : Nat}
theorem Mem.start (w : World) : Mem w [] w := ⟨fun _ h => absurd h List.not_mem_nil, List.nodup_nil, fun _ h => absurd h List.not_mem_nil, Below.refl _ _⟩
theorem Mem.lt (h : Mem w0 ts W) : ∀ k ∈ fps ts, k < W.heap.size := fun k hk => by
  obtain ⟨b, hb, hk⟩ := List.mem_flatMap.1 hk
  exact Th.lt (h.all b hb) k hk
theorem Mem.size (h : Mem w0 ts W) : w0.heap.size ≤ W.heap.size := h.below.size
theorem Mem.later (h : Mem w0 ts W) (hb : Below W.heap.size W W') : Mem w0 ts W' :=
  ⟨fun t hm => Th.stab (h.all t hm) fun k hk => hb.block k (Th.lt (h.all t hm) k hk), h.nodup, h.low, h.below.trans (Below.mono hb h.size)⟩
theorem Mem.get (h : Mem w0 ts W) (i : Nat) (hi : ts[i]? = some t) : t.ok W := h.all t (List.mem_of_getElem? hi)
theorem fps_mem {k : Nat} (hi : ts[i]? = some t) : k ∈ fps ts ↔ k ∈ t.fp ∨ k ∈ fps (ts.eraseIdx i) := by
  induction ts generalizing i with
  | nil => simp at hi
  | cons x l ih =>
    cases i with
    | zero => simp at hi; subst hi; rw [fps_cons, List.mem_append, List.eraseIdx_zero]; rfl
    | succ i =>
      rw [List.getElem?_cons_succ] at hi
      rw [fps_cons, List.mem_append, ih hi, List.eraseIdx_cons_succ, fps_cons, List.mem_append]
      constructor
      · rintro (h | h | h)
        · exact .inr (.inl h)
        · exact .inl h
        · exact .inr (.inr h)
      · rintro (h | h | h)
        · exact .inr (.inl h)
        · exact .inl h
        · exact .inr (.inr h)
theorem fps_nodup (hi : ts[i]? = some t) : (fps ts).Nodup ↔ (t.fp ++ fps (ts.eraseIdx i)).Nodup := by
  refine List.Perm.nodup_iff ?_
  induction ts generalizing i with
  | nil => simp at hi
  | cons x l ih =>
    cases i with
    | zero => simp at hi; subst hi; exact List.Perm.refl _
    | succ i =>
      rw [List.getElem?_cons_succ] at hi
      rw [List.eraseIdx_cons_succ, fps_cons, fps_cons]
      refine (List.Perm.append_left _ (ih hi)).trans ?_
      rw [← List.append_assoc, ← List.append_assoc]
      exact List.Perm.append_right _ List.perm_append_comm
theorem set_get (hi : ts[i]? = some t) : (ts.set i t')[i]? = some t' := List.getElem?_set_self (List.getElem?_eq_some_iff.1 hi).1
theorem set_erase : (ts.set i t').eraseIdx i = ts.eraseIdx i := by
  induction ts generalizing i with
  | nil => rfl
  | cons x l ih =>
    cases i with
    | zero => rfl
    | succ i => rw [List.set_cons_succ, List.eraseIdx_cons_succ, List.eraseIdx_cons_succ, ih]
theorem mem_erase {x : Th} {k : Nat} (hx : x ∈ ts.eraseIdx i) (hk : k ∈ x.fp) : k ∈ fps (ts.eraseIdx i) := List.mem_flatMap.2 ⟨x, hx, hk⟩
theorem mem_get (hi : ts[i]? = some t) {x : Th} : x ∈ ts → x = t ∨ x ∈ ts.eraseIdx i := by
  induction ts generalizing i with
  | nil => intro h; cases h
  | cons y l ih =>
    intro h
    cases i with
    | zero =>
      simp at hi; subst hi
      rw [List.eraseIdx_zero]
      exact List.mem_cons.1 h
    | succ i =>
      rw [List.getElem?_cons_succ] at hi
      rw [List.eraseIdx_cons_succ]
      rcases List.mem_cons.1 h with rfl | h
      · exact .inr List.mem_cons_self
      · rcases ih hi h with h | h
        · exact .inl h
        · exact .inr (List.mem_cons_of_mem _ h)
/-- One of the things is turned. -/
theorem Mem.step (h : Mem w0 ts W) (i : Nat) (hi : ts[i]? = some t) (hok : t'.ok W') (hk : Kept (fun k => k < W.heap.size ∧ k ∉ t.fp) W W') (hn : ∀ k ∈ t'.fp, k ∈ t.fp ∨ W.heap.size ≤ k) : Mem w0 (ts.set i t') W' := by
  have hnd := (fps_nodup hi).1 h.nodup
  have hlt := h.lt
  have hsz := h.size
  rw [List.nodup_append] at hnd
  obtain ⟨n1, n2, n3⟩ := hnd
  have hi' := set_get (t' := t') hi
  refine ⟨fun x hx => ?_, ?_, fun k hk' => ?_, ?_⟩
  · rcases mem_get hi' hx with rfl | hx
    · exact hok
    · rw [set_erase] at hx
      have hxt := h.all x (List.mem_of_mem_eraseIdx hx)
      exact Th.stab hxt fun k hk' => hk.block k ⟨Th.lt hxt k hk', fun hm => n3 k hm k (mem_erase hx hk') rfl⟩
  · rw [fps_nodup hi', set_erase, List.nodup_append]
    refine ⟨Th.nodup hok, n2, fun a ha b hb e => ?_⟩
    subst e
    rcases hn a ha with h1 | h1
    · exact n3 a h1 a hb rfl
    · have := hlt a ((fps_mem hi).2 (.inr hb)); omega
  · rcases (fps_mem hi').1 hk' with h1 | h1
    · rcases hn k h1 with h2 | h2
      · exact h.low k ((fps_mem hi).2 (.inl h2))
      · omega
    · rw [set_erase] at h1
      exact h.low k ((fps_mem hi).2 (.inr h1))
  · refine h.below.trans ⟨hk.os, hk.tape, hk.output, hk.size, fun k hk' => hk.block k ⟨by omega, fun hm => ?_⟩⟩
    have := h.low k ((fps_mem hi).2 (.inl hm)); omega
/-- A new thing. -/
theorem Mem.add (h : Mem w0 ts W) (hb : Below W.heap.size W W') (hok : t.ok W') (hn : ∀ k ∈ t.fp, W.heap.size ≤ k) : Mem w0 (t :: ts) W' := by
  have hlt := h.lt
  have hsz := h.size
  have h' := h.later hb
  refine ⟨fun x hx => ?_, ?_, fun k hk => ?_, h'.below⟩
  · rcases List.mem_cons.1 hx with rfl | hx
    · exact hok
    · exact h'.all x hx
  · rw [fps_cons, List.nodup_append]
    exact ⟨Th.nodup hok, h.nodup, fun a ha b hb' e => by subst e; have := hn a ha; have := hlt a hb'; omega⟩
  · rw [fps_cons] at hk
    rcases List.mem_append.1 hk with h1 | h1
    · have := hn k h1; omega
    · exact h.low k h1
theorem Mem.alloc (h : Mem w0 ts W) (cs : Array Value) (e : TypeId) : Mem w0 (.blk W.heap.size e cs :: ts) (W.alloc (.cells cs e)) :=
  h.add ((Below.refl _ _).alloc (Nat.le_refl _) _) (show Blk _ _ _ _ from Blk.new _ _ _) (fun k hk => by rw [List.mem_singleton.1 hk]; exact Nat.le_refl _)
theorem Mem.allocAt (h : Mem w0 ts W) (g : Nat) (hg : g = W.heap.size) (cs : Array Value) (e : TypeId) : Mem w0 (.blk g e cs :: ts) (W.alloc (.cells cs e)) := by subst hg; exact h.alloc cs e
theorem Mem.nilRow (h : Mem w0 ts W) (base : Nat) (e : TypeId) (size : Nat) : Mem w0 (.row base e size (.slice none 0 0) 0 [] :: ts) W :=
  h.add (Below.refl _ _) (show World.ownsRow _ _ _ _ _ _ _ from World.ownsRow_nil _ _ _ _) (fun k hk => by simp [Th.fp, optL, Value.ownBlock] at hk)
theorem Mem.drop (h : Mem w0 ts W) (i : Nat) (hi : ts[i]? = some t) : Mem w0 (ts.eraseIdx i) W :=
  ⟨fun x hx => h.all x (List.mem_of_mem_eraseIdx hx), (List.nodup_append.1 ((fps_nodup hi).1 h.nodup)).2.1, fun k hk => h.low k ((fps_mem hi).2 (.inr hk)), h.below⟩
theorem Mem.tail (h : Mem w0 (t :: ts) W) : Mem w0 ts W := h.drop 0 rfl
/-- A cell of a variable is stored. -/
theorem Mem.set_ {g : Nat} {e : TypeId} {cs : Array Value} (h : Mem w0 ts W) (i : Nat) (hi : ts[i]? = some (.blk g e cs)) (o : Nat) (v : Value) {cs' : Array Value} (hc : cs.setIfInBounds o v = cs') : Mem w0 (ts.set i (.blk g e cs')) (W.setCell ⟨g, o, none⟩ v) := by
  subst hc
  have hb : Blk W g e cs := h.get i hi
  refine h.step i hi (show Blk _ _ _ _ from hb.set_ o v) ⟨rfl, rfl, rfl, by simp, fun k hk => Below.heap_setCell W ⟨g, o, none⟩ v k (fun e => hk.2 (List.mem_singleton.2 e))⟩ (fun k hk => .inl hk)
theorem EntPost.size {l : List Ent} {p : Nat} {L : Lay} {W W' : World} {x : Ent} {ev : Int} (h : EntPost l p L W x ev W') : W.heap.size ≤ W'.heap.size := by
  obtain ⟨_, _, h⟩ := h
  exact h.kept.size
/-- A book gets an entry. -/
theorem Mem.enter {l : List Ent} {p : Nat} {L : Lay} {x : Ent} {ev : Int} (h : Mem w0 ts W) (i : Nat) (hi : ts[i]? = some (.book l p L)) (hp : EntPost l p L W x ev W') : ∃ L', Mem w0 (ts.set i (.book (if ev = 0 then x :: l else l) p L')) W' := by
  obtain ⟨L', hb, hs⟩ := hp
  exact ⟨L', h.step i hi (show BookR _ _ _ _ from hb) hs.kept hs.new⟩
/-- A row grows. -/
theorem Mem.grow {base : Nat} {e : TypeId} {size n n' : Nat} {v v' : Value} {xs xs' : List Value} (h : Mem w0 ts W) (i : Nat) (hi : ts[i]? = some (.row base e size v n xs)) (o : Obj) (hg : (W.alloc o).grownBy W' v.ownBlock)
    (hown : W'.ownsRow base e size v' n' xs') (hat : v'.ownBlock = v.ownBlock ∨ v'.ownBlock = some (W.heap.size + 1)) : Mem w0 (ts.set i (.row base e size v' n' xs')) W' := by
  have hsz : W.heap.size + 1 ≤ W'.heap.size := by have := hg.size; simp at this; omega
  refine h.step i hi (show World.ownsRow _ _ _ _ _ _ _ from hown) ⟨hg.os, hg.tape, hg.output, by omega, fun k hk => ?_⟩ (fun k hk => ?_)
  · refine (hg.block k (by simp; omega) fun e => hk.2 (optL_mem ?_)).trans (Below.heap_alloc W o k hk.1)
    first | exact e | exact e.symm
  · have hk' := optL_iff.1 hk
    rcases hat with h1 | h1
    · exact .inl (optL_iff.2 (by rw [← h1]; exact hk'))
    · rw [h1] at hk'
      have := Option.some.inj hk'
      exact .inr (by omega)
theorem Mem.row_ {base : Nat} {e : TypeId} {size n : Nat} {v : Value} {xs : List Value} (h : Mem w0 ts W) (i : Nat) (hi : ts[i]? = some (.row base e size v n xs)) : W.ownsRow base e size v n xs := h.get i hi
theorem Mem.blk_ {g : Nat} {e : TypeId} {cs : Array Value} (h : Mem w0 ts W) (i : Nat) (hi : ts[i]? = some (.blk g e cs)) : Blk W g e cs := h.get i hi
theorem Mem.book_ {l : List Ent} {p : Nat} {L : Lay} (h : Mem w0 ts W) (i : Nat) (hi : ts[i]? = some (.book l p L)) : BookR l p L W := h.get i hi
theorem Mem.apart (h : Mem w0 ts W) (i j : Nat) (hi : ts[i]? = some t) (hj : ts[j]? = some t') (hij : i ≠ j) : ∀ k ∈ t.fp, k ∉ t'.fp := fun k hk hk' => by
  have hnd := (fps_nodup hi).1 h.nodup
  rw [List.nodup_append] at hnd
  have hm : t' ∈ ts.eraseIdx i := by
    rw [List.mem_eraseIdx_iff_getElem?]
    exact ⟨j, Ne.symm hij, hj⟩
  exact hnd.2.2 k hk k (mem_erase hm hk') rfl
/-- Two variables are not one. -/
theorem Mem.ne {g g' : Nat} {e e' : TypeId} {cs cs' : Array Value} (h : Mem w0 ts W) (i j : Nat) (hi : ts[i]? = some (.blk g e cs)) (hj : ts[j]? = some (.blk g' e' cs')) (hij : i ≠ j) : g ≠ g' := fun e => h.apart i j hi hj hij g (List.mem_singleton.2 rfl) (List.mem_singleton.2 e)
/-- A row that will not grow any more is a block. -/
theorem Mem.swapRow {base : Nat} {e : TypeId} {size n c g o : Nat} {xs : List Value} {cur : Array Value} (h : Mem w0 ts W) (i : Nat) (hi : ts[i]? = some (.row base e size (.slice (some ⟨g, o, none⟩) n c) n xs)) (hb : Blk W g e cur) : Mem w0 (ts.set i (.blk g e cur)) W :=
  h.step i hi (show Blk _ _ _ _ from hb) ⟨rfl, rfl, rfl, Nat.le_refl _, fun _ _ => rfl⟩ (fun k hk => .inl (by rw [List.mem_singleton.1 hk]; simp [Th.fp, optL, Value.ownBlock]))
/-- Behind a region that has filled one variable. -/
theorem Mem.filled {g : Nat} {e : TypeId} {cs cs' : Array Value} {fl : List (Nat × Nat)} (h : Mem w0 ts W) (i : Nat) (hi : ts[i]? = some (.blk g e cs)) (hk : Kept (fun k => k < W.heap.size ∧ free fl k) W W') (hfl : ∀ q ∈ fl, q.2 = g) (hb : Blk W' g e cs') : Mem w0 (ts.set i (.blk g e cs')) W' :=
  h.step i hi (show Blk _ _ _ _ from hb) ⟨hk.os, hk.tape, hk.output, hk.size, fun k hk' => hk.block k ⟨hk'.1, fun q hq e => hk'.2 (List.mem_singleton.2 ((hfl q hq ▸ e : g = k).symm))⟩⟩ (fun k hk' => .inl hk')
theorem Mem.to (h : Mem w0 ts W') (e : W = W') : Mem w0 ts W := e ▸ h
end
end Go.Proofs.Ytiggefmckomilaa
namespace Go.Proofs.Ytiggefmckomilaa
open Go Go.RowKit

/-- The standards' names, the oldest first. -/
def ordN (l : List Ent) : List ByteArray := (stdsT l).reverse.map Std.name
theorem std_at : ∀ {l : List Ent} {bs : List Nat}, GoodB l → bs.length = (stdsT l).length → ∀ (i : Nat) (s : Std) (b : Nat), (stdsT l)[i]? = some s → bs[i]? = some b → stdT l s.name = some s ∧ ptrT (stdsT l) bs s.name = some b
  | [], bs, _, _, i, s, b, h, _ => by simp [stdsT] at h
  | .radar _ _ :: l, bs, hg, hl, i, s, b, h, hb => std_at (l := l) hg.2 hl i s b h hb
  | .test _ :: l, bs, hg, hl, i, s, b, h, hb => std_at (l := l) hg.2 hl i s b h hb
  | .turn _ _ :: l, bs, hg, hl, i, s, b, h, hb => std_at (l := l) hg.2 hl i s b h hb
  | .define x :: l, [], hg, hl, i, s, b, h, hb => by rw [stdsT] at hl; simp at hl
  | .define x :: l, b0 :: bs, hg, hl, 0, s, b, h, hb => by
    rw [stdsT] at h
    simp at h hb
    subst h hb
    exact ⟨by rw [stdT, if_pos rfl], by rw [stdsT, ptrT, if_pos rfl]⟩
  | .define x :: l, b0 :: bs, hg, hl, i + 1, s, b, h, hb => by
    rw [stdsT, List.length_cons, List.length_cons] at hl
    rw [stdsT, List.getElem?_cons_succ] at h
    rw [List.getElem?_cons_succ] at hb
    obtain ⟨h1, h2⟩ := std_at (l := l) hg.2 (by omega) i s b h hb
    have hne : x.name ≠ s.name := fresh_of (e := .define x) hg h1
    exact ⟨by rw [stdT_cons (show Fresh (.define x) _ from hne)]; exact h1, by rw [stdsT, ptrT, if_neg hne]; exact h2⟩
theorem ord_at {l : List Ent} {bs : List Nat} (hg : GoodB l) (hl : bs.length = (stdsT l).length) {i : Nat} (hi : i < bs.length) : ∃ (s : Std) (b : Nat), (ordN l)[i]? = some s.name ∧ bs.reverse[i]? = some b ∧ stdT l s.name = some s ∧ ptrT (stdsT l) bs s.name = some b := by
  have h1 : bs.reverse[i]? = some (bs[bs.length - 1 - i]'(by omega)) := by rw [List.getElem?_reverse (by omega)]; exact List.getElem?_eq_getElem _
  have h2 : (stdsT l).reverse[i]? = some ((stdsT l)[(stdsT l).length - 1 - i]'(by omega)) := by rw [List.getElem?_reverse (by omega)]; exact List.getElem?_eq_getElem _
  obtain ⟨k1, k2⟩ := std_at hg hl (bs.length - 1 - i) ((stdsT l)[(stdsT l).length - 1 - i]'(by omega)) (bs[bs.length - 1 - i]'(by omega)) (by rw [hl]; exact List.getElem?_eq_getElem _) (List.getElem?_eq_getElem _)
  exact ⟨_, _, by unfold ordN; rw [List.getElem?_map, h2]; rfl, h1, k1, k2⟩
theorem ptr_inj : ∀ {ss : List Std} {bs : List Nat} {x y : ByteArray} {b : Nat}, bs.Nodup → ptrT ss bs x = some b → ptrT ss bs y = some b → x = y
  | [], bs, x, y, b, _, h, _ => by simp [ptrT] at h
  | s :: ss, [], x, y, b, _, h, _ => by simp [ptrT] at h
  | s :: ss, b0 :: bs, x, y, b, hn, h1, h2 => by
    have mem : ∀ {ss : List Std} {bs : List Nat} {z : ByteArray} {b : Nat}, ptrT ss bs z = some b → b ∈ bs := fun {ss} => by
      induction ss with
      | nil => intro bs z b h; cases bs <;> simp [ptrT] at h
      | cons s ss ih =>
        intro bs z b h
        cases bs with
        | nil => simp [ptrT] at h
        | cons b0 bs =>
          rw [ptrT] at h
          split at h
          · rw [← Option.some.inj h]; exact List.mem_cons_self
          · exact List.mem_cons_of_mem _ (ih h)
    rw [List.nodup_cons] at hn
    rw [ptrT] at h1 h2
    split at h1 <;> split at h2
    · rename_i e1 e2; exact e1.symm.trans e2
    · rename_i e1 e2
      have := Option.some.inj h1
      subst this
      exact absurd (mem h2) hn.1
    · rename_i e1 e2
      have := Option.some.inj h2
      subst this
      exact absurd (mem h1) hn.1
    · exact ptr_inj hn.2 h1 h2
theorem from_mem {l : List Ent} {bs : List Nat} {n other : ByteArray} {o : Nat} (hn : bs.Nodup) (ho : ptrT (stdsT l) bs other = some o) : fromB l bs n o = memB (chainT l n) other := by
  rw [Bool.eq_iff_iff, memB_iff]
  unfold fromB
  rw [List.any_eq_true]
  constructor
  · rintro ⟨x, hx, h⟩
    rw [beq_iff_eq] at h
    rw [← ptr_inj hn h ho]
    exact hx
  · exact fun h => ⟨other, h, by rw [beq_iff_eq]; exact ho⟩
theorem BookR.kb_nodup {l : List Ent} {p : Nat} {L : Lay} {w : World} (h : BookR l p L w) : L.kb.Nodup := by
  have hn := h.nodup
  unfold Lay.all at hn
  have h1 := (List.nodup_cons.1 hn).2
  have h2 := (List.nodup_cons.1 h1).2
  have h3 := (List.nodup_cons.1 h2).2
  have h4 := (List.nodup_cons.1 h3).2
  have h5 := (List.nodup_cons.1 h4).2
  exact (List.nodup_append.1 (List.nodup_append.1 (List.nodup_append.1 (List.nodup_append.1 h5).2.1).2.1).2.1).1

def depN (l : List Ent) (other : ByteArray) (k : Nat) : List ByteArray := ((ordN l).take k).filter fun n => memB (chainT l n) other
def inT (l : List Ent) (q : List ByteArray) (i : Nat) : Bool := match (testInfo l)[i]? with | some x => memB q x.1.std | none => false
def depT (l : List Ent) (q : List ByteArray) (k : Nat) : List Nat := (List.range k).filter (inT l q)
theorem depN_succ {l : List Ent} {other n : ByteArray} {k : Nat} (h : (ordN l)[k]? = some n) : depN l other (k + 1) = depN l other k ++ if memB (chainT l n) other = true then [n] else [] := by
  unfold depN
  have hk := (List.getElem?_eq_some_iff.1 h).1
  rw [List.take_succ_eq_append_getElem hk, List.filter_append]
  have : (ordN l)[k] = n := Option.some.inj ((List.getElem?_eq_getElem hk).symm.trans h)
  rw [this]
  congr 1
  by_cases hm : memB (chainT l n) other = true <;> simp [hm]
theorem depT_succ {l : List Ent} {q : List ByteArray} {k : Nat} : depT l q (k + 1) = depT l q k ++ if inT l q k = true then [k] else [] := by
  unfold depT
  rw [List.range_succ, List.filter_append]
  congr 1
  by_cases hm : inT l q k = true <;> simp [hm]
theorem depN_len {l : List Ent} {other : ByteArray} {k : Nat} : (depN l other k).length ≤ k := by
  unfold depN
  exact Nat.le_trans (List.length_filter_le _ _) (by rw [List.length_take]; omega)
theorem depT_len {l : List Ent} {q : List ByteArray} {k : Nat} : (depT l q k).length ≤ k := by
  unfold depT
  exact Nat.le_trans (List.length_filter_le _ _) (by simp)
def natV (q : List Nat) : List Value := q.map fun (i : Nat) => .int .i64 (i : Int)
/-- What Depends answers. -/
def dependA (l : List Ent) (name : ByteArray) : List ByteArray × List Nat × Int := match stdT l name with
  | none => ([], [], 4)
  | some _ => (depN l name (stdsT l).length, depT l (depN l name (stdsT l).length) (testsT l).length, 0)
def DepPost (w : World) (r : List ByteArray × List Nat × Int) (e : Ending) (w' : World) : Prop :=
  ∃ v1 v2, e = .returned (.tuple #[v1, v2, .int .i64 r.2.2]) ∧ Mem w [.row w.heap.size 3 1 v2 r.2.1.length (natV r.2.1), .row w.heap.size 9 1 v1 r.1.length (strV r.1)] w'
set_option maxHeartbeats 4000000 in
set_option maxRecDepth 100000 in
theorem Depends_any (l : List Ent) (p : Nat) (L : Lay) (n : ByteArray) (w : World) (hb : BookR l p L w) (hn : n.size ≤ maxLen) :
    Calls Try.prog 39 #[ptrB p, .string n] w (DepPost w (dependA l n)) := by
  obtain ⟨Ao, co, At, ct, Ae, ce, e1, e2, e3, hk⟩ := hb.cells
  have hls := fun W hw => look_std (W := W) hb hw hn
  obtain ⟨R, hR⟩ : ∃ R, dependA l n = R := ⟨_, rfl⟩
  rw [hR]
  unfold ptrB
  obtain ⟨x0, x1, x2, x3, x4, x5, x6, x7⟩ := hk.c8
  have ltk := hk.lt
  have hl1 := hls w (Below.refl _ _)
  have HR := hide hR
  have Hk := hide hk
  clear hR hk
  cases hs : stdT l n with
  | none =>
    have hRv : R = ([], [], 4) := by rw [← HR.out]; unfold dependA; rw [hs]
    subst hRv
    rw [ptr_none hs] at hl1
    unfold addrO at hl1
    simp only [Option.map_none] at hl1
    go_enter Try.func39, Try.ntmps39
    go_wp2
    refine bodyPost_ret (v := .tuple #[.slice none 0 0, .slice none 0 0, .int .i64 4]) (by simp [results, Try.results39, go_sem]) rfl ⟨_, _, rfl, ((Mem.start w).nilRow w.heap.size 9 1).nilRow w.heap.size 3 1⟩
  | some sd =>
    have hRv : R = (depN l n (stdsT l).length, depT l (depN l n (stdsT l).length) (testsT l).length, 0) := by rw [← HR.out]; unfold dependA; rw [hs]
    obtain ⟨o, hpo, hom, hbo⟩ := known_get hb.good hb.knowns hs
    rw [hpo] at hl1
    unfold addrO at hl1
    simp only [Option.map_some] at hl1
    have hgd := hb.good
    have hkl := hb.knowns.length
    have hfm := fun m => from_mem (n := m) hb.kb_nodup hpo
    have hord := hb.order
    rw [e1] at hord
    have hM5 := stds_le hb.good
    obtain ⟨M, hM⟩ : ∃ M, (stdsT l).length = M := ⟨_, rfl⟩
    rw [hM] at hRv hkl hord hM5 Hk x3
    obtain ⟨dn, hdn⟩ : ∃ dn, depN l n = dn := ⟨_, rfl⟩
    rw [hdn] at hRv
    have HRv := hide hRv
    clear hRv
    have Hfm := hide hfm
    have Hord := hide hord
    have Hdn := hide hdn
    clear hfm hord hdn
    go_enter Try.func39, Try.ntmps39
    go_wp2_with fail
    clear hl1 x0 x1 x2 x3 x4 x5 x6 x7 ltk
    go_loopw [4, 34] (fun v1 i wr => ∃ k : Nat, k ≤ M ∧ i = .int .i64 k ∧ Mem w [.row w.heap.size 9 1 v1 (dn k).length (strV (dn k))] wr) (fun _ i _ => M - (intOf i).toNat)
    case atStart =>
      have h0 : dn 0 = [] := by rw [← Hdn.out]; rfl
      exact ⟨0, by omega, rfl, by rw [h0]; exact (Mem.start w).nilRow _ _ _⟩
    case round =>
      obtain ⟨k, hkM, rfl, hM0⟩ := hrel
      have HM := hide hM0
      clear hM0
      by_cases hlt : k < M
      · obtain ⟨s, b, k1, k2, k3, k4⟩ := ord_at (bs := L.kb) hgd (by omega) (i := k) (by omega)
        obtain ⟨bo, cur, rfl, -, hbl, -, -, hcur⟩ := row_blk Hord.out (by omega)
        have c0 := hbl.c k (hcur k _ (by rw [List.getElem?_map, k2]; rfl))
        unfold ptrB at c0
        rw [← HM.out.below.cell hbl.lt] at c0
        have hltb : bo < wr.heap.size := Nat.lt_of_lt_of_le hbl.lt HM.out.size
        have hltM : (k : Int) < M := by omega
        have hkw := hb.knowns.stab (w' := wr) fun q hq => HM.out.below.block q (hb.knowns.lt q hq)
        have hfr := from_any l L.kb s.name s b o wr hgd k3 hkw k4 _ _ (hbo.below HM.out.below hbo.lt)
        rw [Hfm.out] at hfr
        have hds := depN_succ (other := n) k1
        rw [Hdn.out] at hds
        obtain ⟨q, hq⟩ : ∃ q, memB (chainT l s.name) n = q := ⟨_, rfl⟩
        rw [hq] at hfr hds
        unfold ptrB at hfr
        have HDS := hide hds
        clear hds hcur k1 k2
        go_wp2_with fail
        clear c0
        refine (hfr).mono ?_
        rintro e w2 ⟨rfl, hb⟩
        replace HM := hide (HM.out.later hb)
        clear hb
        clear hfr
        have hnm := (good_std hgd k3).2.1
        have hbs := hbo
        obtain ⟨b', hb', -, hbk⟩ := known_get hgd hb.knowns k3
        obtain rfl : b' = b := Option.some.inj (hb'.symm.trans k4)
        have hS := hide (hbk.below HM.out.below hbk.lt)
        clear hbs hnm hb' hkw
        cases q with
        | true =>
          have s0 : w2.cell? ⟨b', 0, none⟩ = some (.string s.name) := hS.out.c 0 rfl
          have lts := hS.out.lt
          have HD2 := hide (show dn (k + 1) = dn k ++ [s.name] by rw [HDS.out]; rfl)
          have hlen : (dn k).length ≤ k := by rw [← Hdn.out]; exact depN_len
          obtain ⟨i0, hii, hz0, hz1, hz2⟩ := info_parts strInfo
          have Hi := hide hii
          have Hz0 := hide hz0
          have Hz1 := hide hz1
          have Hz2 := hide hz2
          clear hii hz0 hz1 hz2
          have hstr : strV (dn (k + 1)) = strV (dn k) ++ [.string s.name] := by rw [HD2.out]; unfold strV; rw [List.map_append]; rfl
          have hl2 : (dn (k + 1)).length = (dn k).length + 1 := by rw [HD2.out, List.length_append]; rfl
          have Hstr := hide hstr
          have Hl2 := hide hl2
          clear hstr hl2 HDS
          have hownM := Mem.row_ HM.out 0 rfl
          have hbaseM : w.heap.size ≤ w2.heap.size := HM.out.size
          go_wp2_with (at_builtin; refine wpList_append_own_at _ rfl (.tmp 41) (.tmp 47) _ rfl w.heap.size 9 i0 _ 1 16 Try.underlying36 Hi.out Hz0.out Hz1.out Hz2.out rfl (by decide) _ (dn k).length (strV (dn k)) rfl (hownM.alloc _) ⟨w2.heap.size, 0, none⟩ 1 1 [.string s.name] rfl rfl ?q1c1 (by intro u hu; simp only [List.mem_cons, List.not_mem_nil, or_false] at hu; rcases hu with rfl <;> rfl) ?q1c3 ?q1c4 ?q1c5 ?_)
          try case q1c1 => exact new_cellsQ w2 _ [.string s.name]
          case q1c3 => unfold maxLen; omega
          case q1c4 => omega
          case q1c5 => simp; omega
          intro v2 w3 hown2 hgr2 _ hat2
          have HMn := HM.out.grow 0 rfl _ hgr2 hown2 hat2
          replace HM := hide HMn
          clear HMn hown2 hgr2 hat2 hownM hbaseM
          go_wp2_with fail
          go_roundw
          case rel => exact ⟨k + 1, by omega, by go_num, by rw [Hl2.out, Hstr.out]; exact HM.out⟩
          case measure => simp [intOf] <;> omega
        | false =>
          have HD2 := hide (show dn (k + 1) = dn k by rw [HDS.out]; simp)
          go_wp2_with fail
          go_roundw
          case rel => exact ⟨k + 1, by omega, by go_num, by rw [HD2.out]; exact HM.out⟩
          case measure => simp [intOf] <;> omega
      · have hkM' : k = M := by omega
        subst hkM'
        have hHK := Hk.out
        obtain ⟨y0, y1, y2, y3, y4, y5, y6, y7⟩ := (blk_later hHK HM.out.below).c8
        have ltk := (blk_later hHK HM.out.below).lt
        go_wp2_with fail
        clear y0 y1 y2 y3 y4 y5 y6 y7 ltk hHK
        obtain ⟨q, hq⟩ : ∃ q, dn k = q := ⟨_, rfl⟩
        have hql : q.length ≤ 64 := by rw [← hq, ← Hdn.out]; exact Nat.le_trans depN_len hM5
        rw [hq] at HM HRv
        obtain ⟨dt, hdt⟩ : ∃ dt, depT l q = dt := ⟨_, rfl⟩
        rw [hdt] at HRv
        obtain ⟨X, hX⟩ : ∃ X, testAll l L.kb = X := ⟨_, rfl⟩
        have hXI : X.map (·.1) = testInfo l := by rw [← hX]; exact testAll_info l L.kb
        have hXl : X.length = (testsT l).length := by rw [← testInfo_length, ← hXI, List.length_map]
        have htr := hb.tests
        rw [testRows_all, hX, e2] at htr
        have hT5 := tests_le hb.good
        obtain ⟨T, hT⟩ : ∃ T, (testsT l).length = T := ⟨_, rfl⟩
        rw [hT] at htr hXl HRv hT5
        simp only [hT]
        obtain ⟨A1, cq, rfl⟩ := own_shape2 (Mem.row_ HM.out 0 rfl)
        have HM1 := hide (HM.out.nilRow w.heap.size 3 1)
        clear HM
        have HM := HM1
        clear HM1
        have Htr := hide htr
        have Hdt := hide hdt
        have HXI := hide hXI
        have Hq := hide hq
        clear htr hdt hXI hq
        go_loopw [5, 55] (fun v2 i wr2 => ∃ j : Nat, j ≤ T ∧ i = .int .i64 j ∧ Mem w [.row w.heap.size 3 1 v2 (dt j).length (natV (dt j)), .row w.heap.size 9 1 (.slice A1 q.length cq) q.length (strV q)] wr2) (fun _ i _ => T - (intOf i).toNat)
        case atStart =>
          have h0 : dt 0 = [] := by rw [← Hdt.out]; rfl
          exact ⟨0, by omega, rfl, by rw [h0]; exact HM.out⟩
        case round =>
          obtain ⟨j, hjT, rfl, hM1⟩ := hrel
          clear HM
          have HM := hide hM1
          clear hM1
          by_cases hjt : j < T
          · obtain ⟨bT, rfl, hbl, -, hcl⟩ := rows_pt Htr.out (by omega)
            obtain ⟨x, hx⟩ : ∃ x, X[j]? = some x := ⟨X[j]'(by omega), List.getElem?_eq_getElem (by omega)⟩
            have hTk : (testInfo l)[j]? = some x.1 := by rw [← HXI.out, List.getElem?_map, hx]; rfl
            have hds := depT_succ (l := l) (q := q) (k := j)
            rw [Hdt.out] at hds
            have hin : inT l q j = memB q x.1.1.std := by unfold inT; rw [hTk]
            have c0 := hcl j x hx 0 _ (by decide) rfl
            have c1 := hcl j x hx 1 _ (by decide) rfl
            have c2 := hcl j x hx 2 _ (by decide) rfl
            have c3 := hcl j x hx 3 _ (by decide) rfl
            have c4 := hcl j x hx 4 _ (by decide) rfl
            have c5 := hcl j x hx 5 _ (by decide) rfl
            have c6 := hcl j x hx 6 _ (by decide) rfl
            have c7 := hcl j x hx 7 _ (by decide) rfl
            rw [← HM.out.below.cell hbl] at c0 c1 c2 c3 c4 c5 c6 c7
            rw [Nat.add_zero] at c0
            have hblw : bT < wr.heap.size := Nat.lt_of_lt_of_le hbl HM.out.size
            obtain ⟨⟨⟨rd, sd', tm, lo, hi⟩, ⟨g1, g2⟩⟩, po⟩ := x
            simp only at c0 c1 c2 c3 c4 c5 c6 c7 hin
            obtain ⟨r, hr⟩ : ∃ r, memB q sd' = r := ⟨_, rfl⟩
            have hct := fun W (h : StrsAt W W.heap.size A1 q) => contains_any A1 q.length cq q sd' W rfl (by omega) h
            rw [hr] at hct hin
            rw [hin] at hds
            have HDS := hide hds
            have Hct := hide hct
            have hjt2 : (j : Int) < T := by omega
            clear hct hds hin hr hcl hx hTk
            go_wp2_with fail
            refine at_world fun W3 hW => ?_
            have HMn := Mem.to (Mem.allocAt HM.out wr.heap.size rfl #[.string rd, .string sd', .int .i64 tm, .int .i64 lo, .int .i64 hi, .pointer po, .int .i64 g1, .int .i64 g2] 113) hW
            have LW : Later wr W3 := by rw [hW]; exact ((Below.refl _ _).alloc (Nat.le_refl _) _)
            have szW : W3.heap.size = wr.heap.size + 1 := by rw [hW]; simp
            clear hW
            replace HM := hide HMn
            clear HMn LW
            clear c0 c1 c2 c3 c4 c5 c6 c7 szW
            refine (Hct.out _ (StrsAt.own (Mem.row_ HM.out 2 rfl))).mono ?_
            rintro e w' ⟨rfl, rfl⟩
            cases r with
            | true =>
              have HD2 := hide (show dt (j + 1) = dt j ++ [j] by rw [HDS.out]; rfl)
              have hlen : (dt j).length ≤ j := by rw [← Hdt.out]; exact depT_len
              obtain ⟨i0, hii, hz0, hz1, hz2⟩ := info_parts intInfo
              have Hi := hide hii
              have Hz0 := hide hz0
              have Hz1 := hide hz1
              have Hz2 := hide hz2
              clear hii hz0 hz1 hz2
              have Hstr := hide (show natV (dt (j + 1)) = natV (dt j) ++ [.int .i64 (j : Int)] by rw [HD2.out]; unfold natV; rw [List.map_append]; rfl)
              have Hl2 := hide (show (dt (j + 1)).length = (dt j).length + 1 by rw [HD2.out, List.length_append]; rfl)
              clear HDS
              have hownM := Mem.row_ HM.out 1 rfl
              have hbaseM : w.heap.size ≤ W3.heap.size := HM.out.size
              go_wp2_with (at_builtin; refine wpList_append_own_at _ rfl (.tmp 65) (.tmp 67) _ rfl w.heap.size 3 i0 _ 1 8 Try.underlying40 Hi.out Hz0.out Hz1.out Hz2.out rfl (by decide) _ (dt j).length (natV (dt j)) rfl (hownM.alloc _) ⟨W3.heap.size, 0, none⟩ 1 1 [.int .i64 (j : Int)] rfl rfl ?q2c1 (by intro u hu; simp only [List.mem_cons, List.not_mem_nil, or_false] at hu; rcases hu with rfl <;> rfl) ?q2c3 ?q2c4 ?q2c5 ?_)
              try case q2c1 => exact new_cellsQ W3 _ [.int .i64 (j : Int)]
              case q2c3 => unfold maxLen; omega
              case q2c4 => omega
              case q2c5 => simp; omega
              intro v3 w4 hown2 hgr2 _ hat2
              have HMn := HM.out.grow 1 rfl _ hgr2 hown2 hat2
              replace HM := hide HMn
              clear HMn hown2 hgr2 hat2 hownM hbaseM
              go_wp2_with fail
              go_roundw
              case rel => exact ⟨j + 1, by omega, by go_num, by rw [Hl2.out, Hstr.out]; exact HM.out.tail⟩
              case measure => simp [intOf] <;> omega
            | false =>
              have HD2 := hide (show dt (j + 1) = dt j by rw [HDS.out]; simp)
              go_wp2_with fail
              go_roundw
              case rel => exact ⟨j + 1, by omega, by go_num, by rw [HD2.out]; exact HM.out.tail⟩
              case measure => simp [intOf] <;> omega
          · have hjT' : j = T := by omega
            subst hjT'
            obtain ⟨A2, c2, rfl⟩ := own_shape2 (Mem.row_ HM.out 0 rfl)
            have hRv := HRv.out
            go_wp2
            subst hRv
            refine bodyPost_ret (v := .tuple #[.slice A1 q.length cq, .slice A2 (dt j).length c2, .int .i64 0]) (by simp [results, Try.results39, go_sem]) rfl ⟨_, _, rfl, HM.out⟩
end Go.Proofs.Ytiggefmckomilaa
