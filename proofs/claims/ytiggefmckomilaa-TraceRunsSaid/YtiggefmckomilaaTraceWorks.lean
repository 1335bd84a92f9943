/-
  The names of a test's chain.
  Lists of names in memory; whether a name is among them.
  Whether two arrays of two integers are equal: the run of the comparison. Over any program.
  A radar is entered.
  The book of the chapter's examples, and its answers.
-/
import Derived.Test.YtiggefmckomilaaRegI
import Derived.Test.YtiggefmckomilaaRegT
import Derived.WalkMore
import Derived.Test.YtiggefmckomilaaWords
import Derived.ChangeKeysEq
import Derived.Test.YtiggefmckomilaaTracePush
import Derived.Test.YtiggefmckomilaaNames2
import Derived.Test.YtiggefmckomilaaTraceGain
import Derived.Test.YtiggefmckomilaaTraceDefine
import Derived.Test.YtiggefmckomilaaTraceTest
set_option linter.unusedSimpArgs false
set_option linter.unusedVariables false
namespace Go.Proofs.Ytiggefmckomilaa
open Go Go.RowKit
attribute [local go_sem] Oper.semAt_some

theorem KnownsT.length {w : World} : ∀ {l : List Ent} {bs : List Nat}, KnownsT w l bs → bs.length = (stdsT l).length
  | [], bs, h => by rw [show bs = [] from h]; rfl
  | .define s :: l, [], h => h.elim
  | .define s :: l, b :: bs, h => by rw [stdsT, List.length_cons, List.length_cons, KnownsT.length (l := l) h.2]
  | .radar _ _ :: l, bs, h => KnownsT.length (l := l) h
  | .test _ :: l, bs, h => KnownsT.length (l := l) h
  | .turn _ _ :: l, bs, h => KnownsT.length (l := l) h
/-- The standard of each test is there, and the test points at it. -/
theorem testAll_ptr : ∀ {l : List Ent} {bs : List Nat}, GoodB l → bs.length = (stdsT l).length → ∀ x ∈ testAll l bs, x.2 = addrO (ptrT (stdsT l) bs x.1.1.std) ∧ ∃ s, stdT l x.1.1.std = some s
  | [], bs, _, _, x, hx => by cases hx
  | .radar _ _ :: l, bs, hg, hl, x, hx => testAll_ptr (l := l) hg.2 hl x hx
  | .turn _ _ :: l, bs, hg, hl, x, hx => testAll_ptr (l := l) hg.2 hl x hx
  | .define s :: l, [], hg, hl, x, hx => by rw [stdsT] at hl; simp at hl
  | .define s :: l, b :: bs, hg, hl, x, hx => by
    rw [stdsT, List.length_cons, List.length_cons] at hl
    obtain ⟨h1, q, h2⟩ := testAll_ptr (l := l) (bs := bs) hg.2 (by omega) x hx
    have hne : s.name ≠ x.1.1.std := fresh_of (e := .define s) hg h2
    exact ⟨by rw [h1, stdsT, ptrT, if_neg hne], q, by rw [stdT_cons (show Fresh (.define s) _ from hne)]; exact h2⟩
  | .test t :: l, bs, hg, hl, x, hx => by
    rw [testAll] at hx
    rcases List.mem_append.1 hx with h | h
    · exact testAll_ptr (l := l) hg.2 hl x h
    · obtain rfl := List.mem_singleton.1 h
      refine ⟨rfl, ?_⟩
      have he : testE l t = 0 := by have := hg.1; unfold okEnt at this; simpa using this
      unfold testE at he
      cases hs : stdT l t.std with
      | some s => exact ⟨s, hs⟩
      | none =>
        rw [hs] at he
        split at he
        · omega
        · cases driftT l t.radar <;> simp at he
theorem strInfo : (Try.prog.info? 9).map (fun i => (i.zero, i.size, i.bytes)) = some (some (.string ⟨#[]⟩), 1, 16) := by kernel_rfl
theorem chain_len : ∀ {l : List Ent} {n : ByteArray}, (chainT l n).length ≤ (stdsT l).length
  | [], n => by simp [chainT, stdsT]
  | .radar _ _ :: l, n => chain_len (l := l)
  | .test _ :: l, n => chain_len (l := l)
  | .turn _ _ :: l, n => chain_len (l := l)
  | .define s :: l, n => by
    rw [chainT, stdsT, List.length_cons]
    have h1 := chain_len (l := l) (n := s.par)
    have h2 := chain_len (l := l) (n := n)
    split
    · rw [List.length_cons]
      split
      · simp
      · omega
    · omega
theorem stds_le : ∀ {l : List Ent}, GoodB l → (stdsT l).length ≤ 64
  | [], _ => by simp [stdsT]
  | .radar _ _ :: l, h => stds_le (l := l) h.2
  | .test _ :: l, h => stds_le (l := l) h.2
  | .turn _ _ :: l, h => stds_le (l := l) h.2
  | .define s :: l, h => by
    have he : defineE l s = 0 := by have := h.1; unfold okEnt at this; simpa using this
    obtain ⟨-, -, -, h4, -⟩ := defineE_zero he
    rw [stdsT, List.length_cons]
    omega
def chainA (l : List Ent) (i : Int) : List ByteArray × Int := match (testInfo l)[i.toNat]? with
  | some x => if 0 ≤ i then (chainT l x.1.std, 0) else ([], 4)
  | none => ([], 4)
def strV (q : List ByteArray) : List Value := q.map .string
def ChainPost (w : World) (r : List ByteArray × Int) (e : Ending) (w' : World) : Prop :=
  ∃ v, e = .returned (.tuple #[v, .int .i64 r.2]) ∧ Below w.heap.size w w' ∧ w'.ownsRow w.heap.size 9 1 v r.1.length (strV r.1)
set_option maxHeartbeats 4000000 in
set_option maxRecDepth 100000 in
theorem Chain_any (l : List Ent) (p : Nat) (L : Lay) (i : Int) (w : World) (hb : BookR l p L w) :
    Calls Try.prog 40 #[ptrB p, .int .i64 i] w (ChainPost w (chainA l i)) := by
  obtain ⟨Ao, co, At, ct, Ae, ce, e1, e2, e3, hk⟩ := hb.cells
  obtain ⟨X, hX⟩ : ∃ X, testAll l L.kb = X := ⟨_, rfl⟩
  have hXI : X.map (·.1) = testInfo l := by rw [← hX]; exact testAll_info l L.kb
  have hXl : X.length = (testsT l).length := by rw [← testInfo_length, ← hXI, List.length_map]
  have htr := hb.tests
  rw [testRows_all, hX, e2] at htr
  have hXp := testAll_ptr hb.good hb.knowns.length
  rw [hX] at hXp
  have hM5 := tests_le hb.good
  obtain ⟨M, hM⟩ : ∃ M, (testsT l).length = M := ⟨_, rfl⟩
  rw [hM] at hk hXl htr hM5
  have hwi := fun W => within_any i 0 ((M : Int) - 1) W
  have hM64 : (M : Int) ≤ 512 := by omega
  obtain ⟨R, hR⟩ : ∃ R, chainA l i = R := ⟨_, rfl⟩
  rw [hR]
  unfold ptrB
  obtain ⟨x0, x1, x2, x3, x4, x5, x6, x7⟩ := hk.c8
  have ltk := hk.lt
  have Hwi := hide hwi
  have HR := hide hR
  have Hk := hide hk
  have Htr := hide htr
  clear hwi hR hk htr
  by_cases hi : inR i 0 ((M : Int) - 1) = true
  · obtain ⟨ilo, ihi⟩ := inR_iff.1 hi
    rw [hi] at Hwi
    have hlt : i.toNat < X.length := by omega
    have hx : X[i.toNat]? = some X[i.toNat] := List.getElem?_eq_getElem hlt
    have hTk : (testInfo l)[i.toNat]? = some X[i.toNat].1 := by rw [← hXI, List.getElem?_map, hx]; rfl
    obtain ⟨p1, sd, p2⟩ := hXp _ (List.getElem_mem hlt)
    obtain ⟨b, rfl, hbl, -, hcl⟩ := rows_pt Htr.out (by omega)
    have c5 := hcl i.toNat _ hx 5 _ (by decide) rfl
    have hRv : R = (chainT l X[i.toNat].1.1.std, 0) := by rw [← HR.out]; unfold chainA; rw [hTk]; simp only; rw [if_pos ilo]
    generalize X[i.toNat] = x at *
    subst hRv
    obtain ⟨bk, hbk, hbm, hbkk⟩ := known_get hb.good hb.knowns p2
    rw [p1, hbk] at c5
    have hlw := hb.lt
    have hkn := hb.knowns
    have hgd := hb.good
    have hM1 : (i : Int) < M := by omega
    have hmi : (i.toNat : Int) = i := by omega
    have Hc5 := hide c5
    have Hmi := hide hmi
    clear c5 hXI hTk hXp hx hX
    refine (callsIn_wide (n := 8)).1 (callsIn_of_wp_marks Try.func40 rfl trivial (wpIn_wide.2 ?_))
    simp only [Try.ntmps40, List.size_toArray, List.length_cons, List.length_nil, Nat.reduceAdd, Nat.reduceSub, Array.replicate_succ, Array.replicate_zero, List.push_toArray, List.append_toArray, List.nil_append, List.cons_append]
    go_wp2_with fail
    have HB := hide (Below.refl w.heap.size w)
    refine (Hwi.out _).mono ?_
    rintro e w' ⟨rfl, rfl⟩
    have c5 := Hc5.out
    rw [addrO, Option.map_some] at c5
    go_wp2_with fail
    refine at_world fun W hW => ?_
    have bq0 : Blk W w.heap.size 36 #[.slice none 0 0] := by rw [hW]; exact Blk.new _ _ _
    have LW : Later w W := by rw [hW]; exact ((Below.refl _ _).alloc (Nat.le_refl _) _)
    have szW : W.heap.size = w.heap.size + 1 := by rw [hW]; simp
    clear hW
    replace HB := hide (onward HB.out LW)
    replace Hk := hide (blk_later Hk.out LW)
    have Hout := hide bq0
    clear bq0 LW szW
    have hWw := Hout.out.lt
    clear c5 x0 x1 x2 x3 x4 x5 x6 x7
    refine (chain_any _ _).mono ?_
    rintro e w2 ⟨rfl, hb2, hsz2, hbk2⟩
    replace HB := hide (onward HB.out hb2)
    replace Hk := hide (blk_later Hk.out hb2)
    replace Hout := hide (blk_later Hout.out hb2)
    clear hb2
    have hsw := HB.out.size
    have hlo := Hout.out.lt
    have hkw := hkn.stab (w' := w2) fun k hm => HB.out.block k (hkn.lt k hm)
    have hst := chain_stops (fun k => k < W.heap.size ∧ k ≠ w.heap.size ∨ k = W.heap.size) l L.kb x.1.1.std sd W.heap.size 7 w2 (by omega) hgd p2 hkw (fun k h => by omega) (fun k hm => .inl (by have := hkn.lt k hm; omega)) (.inr rfl) (by rw [hbk]; exact hbk2)
    obtain ⟨J, hJ⟩ : ∃ J : Value → List (InC l x.1.1.std) → World → Prop, J = (fun v pre V => BI w.heap.size w2.heap.size w [] [(w.heap.size, 36, #[v])] V ∧ V.ownsRow w2.heap.size 9 1 v pre.length (strV (pre.map Subtype.val))) := ⟨_, rfl⟩
    have HJ := hide hJ
    have hmlt : ∀ D : Nat, D ∈ ([] : List Nat) → D < w2.heap.size := fun D h => absurd h List.not_mem_nil
    clear hJ
    obtain ⟨i0, hii, hz0, hz1, hz2⟩ := info_parts strInfo
    have Hi := hide hii
    have Hz0 := hide hz0
    have Hz1 := hide hz1
    have Hz2 := hide hz2
    clear hii hz0 hz1 hz2
    go_wp2_with fail
    refine wp_range1 (α := InC l x.1.1.std) (p := 37) (d := 7) rfl (enters_of Try.func93 (by kernel_rfl) rfl) (v0 := fun x : InC l x.1.1.std => .pointer (addrO (ptrT (stdsT l) L.kb x.1))) hst
      (fun h k => h.trans k) (fun W' lx o' hl => KeptS.putObj (B := w2.heap.size) (fun k hk => by omega) W' lx o' hl) (fun W' => KeptS.refl _ _) (Below.refl _ _)
      (fun pre V => ∃ v, J v pre V) (fun _ _ _ => False)
      (by rw [HJ.out]; exact ownFrom_ex fun v => OwnFrom.and (BI_own hsw hmlt) ownRow_from) (fun c => ownFrom_pure _ _) (fun pre W' h => by rw [HJ.out] at h; obtain ⟨_, h⟩ := h; exact h.1.2.2.1)
      (by rw [HJ.out]; exact ⟨_, ⟨HB.out, marks_nil _ _, Nat.le_refl _, List.forall_mem_cons.2 ⟨Hout.out, fun x hx => absurd hx List.not_mem_nil⟩⟩, World.ownsRow_nil _ _ _ _⟩)
      ?assign ?body ?done ?stop
    case assign =>
      intro lp x V K hK
      gi_wp2
      exact hK
    case body =>
      intro lp pre y V hi hlen
      rw [HJ.out] at hi
      obtain ⟨v, ⟨hbw, hmk, hsw, hblk⟩, hrow⟩ := hi
      obtain ⟨ho, -⟩ := List.forall_mem_cons.1 hblk
      clear hblk Hout HB Hk
      have Hout := hide ho
      have HB := hide hbw
      have Hmk := hide hmk
      have HZ := hide hsw
      have Hrow := hide hrow
      clear ho hbw hmk hsw hrow
      simp only [List.setIfInBounds_toArray, List.set_cons_succ, List.set_cons_zero]
      obtain ⟨sx, hsx⟩ := inC_std hgd p2 y
      obtain ⟨b', hb', hbm', hbk'⟩ := known_get hgd hkn hsx
      have hS := hide (blk_belowN hbk' HB.out hbk'.lt)
      rw [hb']
      simp only [addrO, Option.map_some]
      obtain ⟨Av, cv, rfl⟩ := own_shape2 Hrow.out
      have hlb : b' < w.heap.size := hbk'.lt
      have o0 := Hout.out.c 0 rfl
      have s0 := hS.out.c 0 rfl
      have lts := hS.out.lt
      have lto := Hout.out.lt
      have hno : (Value.slice Av pre.length cv).ownBlock ≠ some w.heap.size := own_low_ne Hrow.out (by omega)
      have Hno := hide hno
      have hnb : (Value.slice Av pre.length cv).ownBlock ≠ some b' := own_low_ne Hrow.out (by omega)
      have hbn : b' ≠ w.heap.size := by omega
      have hpl : pre.length ≤ 1000 := by have := chain_len (l := l) (n := x.1.1.std); have := stds_le hgd; omega
      gi_wp2
      refine wpIn_region_wide (by kernel_rfl) (by kernel_rfl) (by first | exact ownPostG_out | exact block_out ownPostG_out | exact then_out ownPostG_out | exact then_out (block_out ownPostG_out) | exact block_out (then_out ownPostG_out) | exact then_out (then_out ownPostG_out) | exact then_out (then_out (block_out ownPostG_out)) | exact then_out (block_out (then_out ownPostG_out))) ?_
      apply any_region_F (w0 := V) [[], [], [1], [1, 2], [1, 2, 3], [1, 2, 3, 4], [1, 2, 3, 4, 5], [0, 1, 2, 3, 4, 5, 6], [0, 1, 2, 3, 4, 5, 6, 7]] [true, true, true, true, true, true, false, false, false] [false, false, false, false, false, false, false, false, false] [⟨6, none, [], []⟩, ⟨7, none, [6], []⟩, ⟨8, none, [], [7]⟩] (fillQ 7 (.slice Av pre.length cv) 8 w.heap.size) [8] (fun ixq y => match ixq with | 6 => .slice (y 0).1 1 1 | 7 => .slice (y 0).1 (pre.length + 1) (y 0).2 | 8 => undef | _ => undef) (fun ixq x F wq => match ixq with | 6 => OwnF wq F V.heap.size 9 1 (.slice (x 6 0).1 1 1) 1 #[.string sx.name].toList | 7 => OwnF wq F w2.heap.size 9 1 (.slice (x 7 0).1 (pre.length + 1) (x 7 0).2) (pre.length + 1) ((strV (pre.map Subtype.val)) ++ (#[.string sx.name] : Array Value).toList) ∧ FreshOr V.heap.size (.slice Av pre.length cv) (.slice (x 7 0).1 (pre.length + 1) (x 7 0).2) | 8 => F w.heap.size ∧ Blk wq w.heap.size 36 #[.slice (x 7 0).1 (pre.length + 1) (x 7 0).2] | _ => True) (fun a x => (((a).put (some 44) (.slice ((x 6) 0).1 1 1)).put (some 45) (.slice ((x 7) 0).1 (pre.length + 1) ((x 7) 0).2)).put (none) (undef)) (by kernel_rfl) (by kernel_rfl) (fun _ => rfl) [40] (by kernel_rfl) (fillQ_lt (fun g hg => (Hrow.out.lt g hg).2) (by omega)) (fillQ_ne Hno.out)
      · intro x D hD
        have hne := hD.some
        have k0 := liftS hD o0 (earlyQ (by first | assumption | omega) (own_low_ne Hrow.out (by first | assumption | omega)))
        have k1 := liftS hD s0 (earlyQ (by first | assumption | omega) hnb)
        simp only [takeOps, Act.put, List.setIfInBounds_toArray, List.set_cons_succ, List.set_cons_zero]
        repeat (go_big_quiet_step (fail))
        exact wpQuiet_nil rfl
      · exact fun x D hD => wpQuiet_nil rfl
      · intro d hd x x'
        simp only [List.mem_cons, List.not_mem_nil, or_false] at hd
        rcases hd with rfl
        all_goals rfl
      · refine ⟨?_, ?_, ?_, trivial⟩
        · exact obl_new rfl (fun _ => by kernel_rfl) 9 (fun x => #[.string sx.name]) gP (fun x w => by kernel_rfl) (fun x w hle => own_new hle rfl (by unfold maxLen; omega))
        · refine obl_pushQ 36 38 44 (by kernel_rfl) w2.heap.size 9 i0 _ 1 16 Try.underlying36 Hi.out Hz0.out Hz1.out Hz2.out rfl (by decide) (.slice Av pre.length cv) pre.length 1 ((strV (pre.map Subtype.val))) (#[.string sx.name] : Array Value).toList (by first | rfl | (simp; done) | (simp; omega)) (by simp [Value.oneCell']) (by unfold maxLen; omega) (by omega) (by first | assumption | omega) (fun x w F hk hn => ?_) (fun _ => rfl) (fun _ _ _ _ h1 h2 => ⟨h1, h2⟩)
          have hj : OwnF w (F 6) V.heap.size 9 1 (.slice (x 6 0).1 1 1) 1 (#[.string sx.name] : Array Value).toList := hn 6 (by simp)
          obtain ⟨ad, hA, hc⟩ := news_own hj (by decide)
          exact ⟨ad, 1, rfl, row_thenQ Hrow.out Hno.out hk, wrQ_row, (show Value.slice (x 6 0).1 1 1 = _ by rw [hA]), hc⟩
        · exact obl_setv 36 36 6 45 w.heap.size 0 _ (fun x => .slice (x 7 0).1 (pre.length + 1) (x 7 0).2) (fun x => #[.slice (x 7 0).1 (pre.length + 1) (x 7 0).2]) (by kernel_rfl) (fun _ => rfl) (fun _ => rfl) (fun _ => rfl) Hout.out (ebQ_set Hno.out) wrQ_set (by kernel_rfl) (by first | assumption | (simp; done)) (fun _ => rfl) (fun _ => rfl) (fun _ _ _ _ h1 h2 => ⟨h1, h2⟩)
      · refine ⟨?_, ?_, ?_, trivial⟩
        · refine ⟨fun x F wq wq' h hs hk => ?_, fun x x' F wq hx h => ?_⟩
          · have h2 : OwnF wq F V.heap.size 9 1 (.slice (x 6 0).1 1 1) 1 #[.string sx.name].toList := h
            exact h2.stab hk
          · have h2 : OwnF wq F V.heap.size 9 1 (.slice (x 6 0).1 1 1) 1 #[.string sx.name].toList := h
            rw [hx 6 (by simp)] at h2
            exact h2
        · exact owe_pushQ 7 _ w2.heap.size (.slice Av pre.length cv) 9 1 (pre.length + 1) ((strV (pre.map Subtype.val)) ++ (#[.string sx.name] : Array Value).toList) rfl (fun _ _ _ => rfl)
        · exact owe_fill w.heap.size 36 (fun x => #[.slice (x 7 0).1 (pre.length + 1) (x 7 0).2]) (fun _ _ _ => rfl) (fun x x' hx => by simp only [hx 7 (by simp)])
      intro xx V2 F hK hlv1 hap1
      clear hap1
      obtain ⟨-, fct7, fct8, -⟩ := hlv1
      replace fct7 : OwnF V2 (F 7) w2.heap.size 9 1 (.slice (xx 7 0).1 (pre.length + 1) (xx 7 0).2) (pre.length + 1) ((strV (pre.map Subtype.val)) ++ (#[.string sx.name] : Array Value).toList) ∧ FreshOr V.heap.size (.slice Av pre.length cv) (.slice (xx 7 0).1 (pre.length + 1) (xx 7 0).2) := fct7 rfl
      replace fct8 : (F 8) w.heap.size ∧ Blk V2 w.heap.size 36 #[.slice (xx 7 0).1 (pre.length + 1) (xx 7 0).2] := fct8 rfl
      obtain ⟨⟨hrow2, -⟩, -⟩ := fct7
      have hout2 := fct8.2
      generalize (xx 7 0).1 = A7 at *
      generalize (xx 7 0).2 = c7 at *
      have hlt7 := Hrow.out.lt
      have hfree : ∀ k, k ≠ w.heap.size → k < w2.heap.size → free (fillQ 7 (.slice Av pre.length cv) 8 w.heap.size) k := fun k h1 h2 => freeQ (own_low_ne Hrow.out h2) (Ne.symm h1)
      have hbel := below_kept HB.out HB.out.size hK (fun q hq => by
        rcases mem_fillQ.1 hq with ⟨_, h2⟩ | ⟨_, h2⟩
        · have := (hlt7 _ h2).1; omega
        · omega)
      have hkf : KeepsFrom w2.heap.size V V2 := ⟨hK.size, fun k o hk ho hc => (hK.block k ⟨(Array.getElem?_eq_some_iff.1 ho).1, freeQ (fun e => by
        rcases Hrow.out.2 with ⟨h0, -⟩ | ⟨g', cap, cur, h1, -, hh, -⟩
        · rw [h0] at e; cases e
        · rw [h1] at e
          have : g' = k := Option.some.inj e
          subst this
          rw [hh] at ho
          cases ho
          cases hc) (by omega)⟩).trans ho⟩
      have hks : KeptS (fun k => k < W.heap.size ∧ k ≠ w.heap.size ∨ k = W.heap.size) V V2 := ⟨hK.size, fun k hk hl => by
        have hk' : k < W.heap.size ∧ k ≠ w.heap.size ∨ k = W.heap.size := hk
        exact hK.block k ⟨hl, hfree k (by omega) (by omega)⟩⟩
      have hsz2' := hK.size
      rw [show strV (pre.map Subtype.val) ++ (#[.string sx.name] : Array Value).toList = strV ((pre ++ [y]).map Subtype.val) by
        rw [List.map_append]
        unfold strV
        rw [List.map_append, (good_std hgd hsx).2.1]
        rfl] at hrow2
      have hZ := HZ.out
      clear fct8 hK hfree hlt7 o0 s0 lts lto
      have Hrow2 := hide hrow2
      have Hout2 := hide hout2
      have HB2 := hide hbel
      have HKF := hide hkf
      have HKS := hide hks
      clear hrow2 hout2 hbel hkf hks
      gi_wp2
      refine ⟨HKF.out, HKS.out, ?_⟩
      rw [HJ.out]
      refine ⟨_, ⟨HB2.out, marks_nil _ _, by omega, List.forall_mem_cons.2 ⟨Hout2.out, fun x hx => absurd hx List.not_mem_nil⟩⟩, ?_⟩
      rw [List.length_append, List.length_singleton]
      exact Hrow2.out
    case done =>
      intro D xs V hD hxs hi hdd
      rw [HJ.out] at hi
      obtain ⟨v, ⟨hbw, hmk, hsw, hblk⟩, hrow⟩ := hi
      obtain ⟨ho, -⟩ := List.forall_mem_cons.1 hblk
      subst hxs
      have o0 := ho.c 0 rfl
      have lto := ho.lt
      clear hblk Hout HB
      go_wp2
      refine leaves_marks [D] _ ((marks_nil w.heap.size V).cons (by simp) (by omega) hdd) (by omega) fun w' hbw' hcells => ?_
      rw [List.length_attach, List.attach_map_subtype_val] at hrow
      have hrw : w'.ownsRow w.heap.size 9 1 v (chainT l x.1.1.std).length (strV (chainT l x.1.1.std)) := by
        refine ⟨hrow.1, ?_⟩
        rcases hrow.2 with h0 | ⟨g, cap, cur, h1, h2, h3, h4⟩
        · exact .inl h0
        · exact .inr ⟨g, cap, cur, h1, by omega, hcells _ _ _ h3, h4⟩
      exact ⟨.tuple #[v, .int .i64 0], by simp [results, Try.results40, go_sem], v, rfl, hbw.trans hbw', hrw⟩
    case stop =>
      intro D jc pre V hD hpre hix hdd
      exact hix.elim
  · have hi' : inR i 0 ((M : Int) - 1) = false := by simpa using hi
    rw [hi'] at Hwi
    have hRv : R = ([], 4) := by
      rw [← HR.out]
      unfold chainA
      cases hT : (testInfo l)[i.toNat]? with
      | none => rfl
      | some x =>
        simp only
        have := (List.getElem?_eq_some_iff.1 hT).1
        rw [testInfo_length, hM] at this
        rw [if_neg (fun h => hi (inR_iff.2 ⟨h, by omega⟩))]
    subst hRv
    refine (callsIn_wide (n := 8)).1 (callsIn_of_wp_marks Try.func40 rfl trivial (wpIn_wide.2 ?_))
    simp only [Try.ntmps40, List.size_toArray, List.length_cons, List.length_nil, Nat.reduceAdd, Nat.reduceSub, Array.replicate_succ, Array.replicate_zero, List.push_toArray, List.append_toArray, List.nil_append, List.cons_append]
    go_wp2_with fail
    refine (Hwi.out _).mono ?_
    rintro e w' ⟨rfl, rfl⟩
    go_wp2
    refine leaves_marks [] w (marks_nil w.heap.size w) (Nat.le_refl _) fun w' hbw' _ => ?_
    exact ⟨.tuple #[.slice none 0 0, .int .i64 4], by simp [results, Try.results40, go_sem], .slice none 0 0, rfl, hbw', World.ownsRow_nil _ _ _ _⟩
end Go.Proofs.Ytiggefmckomilaa
namespace Go.Proofs.Ytiggefmckomilaa
open Go Go.RowKit

/-- The slice value `.slice A n c` reads as the names `q`, all below block `B`. -/
def StrsAt (w : World) (B : Nat) (A : Option Addr) (q : List ByteArray) : Prop := 0 < q.length → ∃ b off, A = some ⟨b, off, none⟩ ∧ b < B ∧ ∀ (i : Nat) (s : ByteArray), q[i]? = some s → w.cell? ⟨b, off + i, none⟩ = some (.string s)
theorem StrsAt.below {w w' : World} {B : Nat} {A : Option Addr} {q : List ByteArray} (h : StrsAt w B A q) (hb : Below B w w') : StrsAt w' B A q := fun hn => by
  obtain ⟨b, off, e, hl, hc⟩ := h hn
  exact ⟨b, off, e, hl, fun i s hs => (hb.cell hl).trans (hc i s hs)⟩
theorem StrsAt.more {w : World} {B B' : Nat} {A : Option Addr} {q : List ByteArray} (h : StrsAt w B A q) (hB : B ≤ B') : StrsAt w B' A q := fun hn => by
  obtain ⟨b, off, e, hl, hc⟩ := h hn
  exact ⟨b, off, e, by omega, hc⟩
theorem StrsAt.own {w : World} {base c : Nat} {A : Option Addr} {q : List ByteArray} (h : w.ownsRow base 9 1 (.slice A q.length c) q.length (strV q)) : StrsAt w w.heap.size A q := fun hn => by
  obtain ⟨b, cur, rfl, -, hb, -, -, hc⟩ := row_blk h hn
  refine ⟨b, 0, rfl, hb.lt, fun i s hs => ?_⟩
  rw [Nat.zero_add]
  exact hb.c i (hc i _ (by unfold strV; rw [List.getElem?_map, hs]; rfl))
theorem toList_bne {a b : ByteArray} (h : a ≠ b) : (a.toList == b.toList) = false := by
  rw [ByteArray.toList_eq, ByteArray.toList_eq]
  exact beq_eq_false_iff_ne.2 fun e => h (WideShapes.bytes_inj e)
def memB (q : List ByteArray) (s : ByteArray) : Bool := q.any fun x => decide (x = s)
theorem memB_iff {q : List ByteArray} {s : ByteArray} : memB q s = true ↔ s ∈ q := by
  unfold memB
  rw [List.any_eq_true]
  exact ⟨fun ⟨x, h1, h2⟩ => (of_decide_eq_true h2) ▸ h1, fun h => ⟨s, h, decide_eq_true rfl⟩⟩
set_option maxHeartbeats 1000000 in
set_option maxRecDepth 100000 in
theorem hasS_any (A : Option Addr) (n c : Nat) (q : List ByteArray) (s : ByteArray) (w : World) (hn : q.length = n) (hmax : n ≤ 1000) (h : StrsAt w w.heap.size A q) :
    Calls Try.prog 92 #[.slice A n c, .string s] w fun e w' => (∃ k : Int, e = .returned (.int .i64 k) ∧ (0 ≤ k ↔ s ∈ q) ∧ -1 ≤ k ∧ k ≤ 1000) ∧ w = w' := by
  have hn64 : (n : Int) ≤ 1000 := by omega
  have H := hide h
  have Hn := hide hn
  clear h hn
  go_enter Try.func92, Try.ntmps92
  go_wp2_with fail
  go_loopw [8] (fun i wr => ∃ k : Nat, k ≤ n ∧ i = .int .i64 k ∧ w = wr ∧ ∀ j, j < k → q[j]? ≠ some s) (fun i _ => n - (intOf i).toNat)
  case atStart => exact ⟨0, by omega, rfl, rfl, fun j hj => absurd hj (by omega)⟩
  case round =>
    obtain ⟨k, hk, rfl, rfl, hno⟩ := hrel
    have Hno := hide hno
    clear hno
    by_cases hlt : k < n
    · obtain ⟨b, off, rfl, hb, hc⟩ := H.out (by have := Hn.out; omega)
      have hlt2 : (k : Int) < n := by omega
      obtain ⟨y, hy⟩ : ∃ y, q[k]? = some y := ⟨_, List.getElem?_eq_getElem (by have := Hn.out; omega)⟩
      have c0 := hc k y hy
      have Hy := hide hy
      clear hc hy
      by_cases hys : s = y
      · subst hys
        have heq : (s.toList == s.toList) = true := beq_self_eq_true _
        go_wp2
        go_ret
        exact ⟨⟨k, rfl, ⟨fun _ => List.mem_of_getElem? Hy.out, fun _ => by omega⟩, by omega, by omega⟩, rfl⟩
      · have heq : (s.toList == y.toList) = false := toList_bne hys
        go_wp2
        go_roundw
        case rel =>
          refine ⟨k + 1, by omega, by go_num, by first | trivial | rfl, fun j hj => ?_⟩
          rcases Nat.lt_or_ge j k with h1 | h1
          · exact Hno.out j h1
          · obtain rfl : j = k := by omega
            rw [Hy.out]
            exact fun e => hys (Option.some.inj e).symm
        case measure => simp [intOf] <;> omega
    · have hkn : k = n := by omega
      subst hkn
      go_wp2
      go_ret
      refine ⟨⟨-1, rfl, ⟨fun h => absurd h (by omega), fun hm => ?_⟩, by omega, by omega⟩, rfl⟩
      obtain ⟨j, hj⟩ := List.mem_iff_getElem?.1 hm
      have h1 := (List.getElem?_eq_some_iff.1 hj).1
      exact absurd hj (Hno.out j (by have := Hn.out; omega))
set_option maxHeartbeats 1000000 in
set_option maxRecDepth 100000 in
theorem contains_any (A : Option Addr) (n c : Nat) (q : List ByteArray) (s : ByteArray) (w : World) (hn : q.length = n) (hmax : n ≤ 1000) (h : StrsAt w w.heap.size A q) :
    Calls Try.prog 78 #[.slice A n c, .string s] w fun e w' => e = .returned (.bool (memB q s)) ∧ w = w' := by
  have hi := fun W (h : StrsAt W W.heap.size A q) => hasS_any A n c q s W hn hmax h
  obtain ⟨r, hr⟩ : ∃ r, memB q s = r := ⟨_, rfl⟩
  rw [hr]
  have H := hide h
  have Hi := hide hi
  have Hr := hide hr
  clear h hi hr
  go_enter Try.func78, Try.ntmps78
  go_wp2_with fail
  refine (Hi.out _ H.out).mono ?_
  rintro e w' ⟨⟨k, rfl, hk, hk1, hk2⟩, rfl⟩
  have hr := Hr.out
  cases r with
  | true =>
    have h0 : decide (0 ≤ k) = true := decide_eq_true (hk.2 (memB_iff.1 hr))
    clear hk hr Hr
    go_wp2
    go_ret
    exact ⟨rfl, rfl⟩
  | false =>
    have h0 : decide (0 ≤ k) = false := decide_eq_false (fun h => by have := memB_iff.2 (hk.1 h); rw [hr] at this; cases this)
    clear hk hr Hr
    go_wp2
    go_ret
    exact ⟨rfl, rfl⟩
end Go.Proofs.Ytiggefmckomilaa
namespace Go.Proofs.Ytiggefmckomilaa
open Go Go.RowKit

theorem run_equalIn_arr2 {P : Program} {t e : TypeId} {k : IntKind} (ht : P.underlying t = some (.array 2 e)) (he : P.underlying e = some (.int k)) (hs : P.cellsOf e = 1) (n : Nat) (a b a' b' : Int) (w : World) :
    (Op.equalIn (n + 2) t (.agg #[.int k a, .int k b]) (.agg #[.int k a', .int k b'])).run P w = .ok (a == a' && b == b') w := by
  obtain ⟨i, hi⟩ := info_of_underlying he
  rw [run_equalIn_array w (n + 1) _ _ ht hi, hs]
  have hp : P.plainKey e = true := by unfold Program.plainKey; rw [he]
  have h0 : ∀ x y : Int, (part e #[Value.int k x, .int k y] 0).run P w = .ok (.int k x) w := fun x y => run_part_plain w hp rfl
  have h1 : ∀ x y : Int, (part e #[Value.int k x, .int k y] 1).run P w = .ok (.int k y) w := fun x y => run_part_plain w hp rfl
  have hq : ∀ x y : Int, (Op.equalIn (n + 1) e (.int k x) (.int k y)).run P w = .ok (x == y) w := fun x y => run_equalIn_int w n e k k x y he
  show (Op.eqItems (n + 1) e 1 _ _ [0, 1]).run P w = _
  simp only [Op.eqItems, Sem.run_bind, Nat.zero_mul, Nat.one_mul, h0, h1, hq, Result.andThen_ok]
  by_cases c0 : a = a' <;> by_cases c1 : b = b' <;> simp [c0, c1, h0, h1, hq, Sem.run_bind]
end Go.Proofs.Ytiggefmckomilaa
namespace Go.Proofs.Ytiggefmckomilaa
open Go Go.RowKit

/-- The book, when the radar's drift is in its map. -/
theorem bookQ_radar {l : List Ent} {p : Nat} {L : Lay} {w w5 : World} {n : ByteArray} {d : Int} (h : BookR l p L w) (hok : okEnt l (.radar n d) = true) (hn : driftT l n = none)
    (hm : MapV w5 Try.prog 9 L.br (putF (fun q => (driftT l q).map (Value.int .i64)) n (.int .i64 d)) (if ((fun q => (driftT l q).map (Value.int .i64)) n).isSome then (radarsT l).length else (radarsT l).length + 1))
    (hk : ∀ k, k < w.heap.size → k ≠ L.br → w5.heap[k]? = w.heap[k]?) : BookQ (.radar n d) l p L w5 := by
  have hlt := h.lt
  have hnd := h.nodup
  have hk' : ∀ k ∈ L.all p, k ≠ L.br → w5.heap[k]? = w.heap[k]? := fun k hm => hk k (hlt k hm)
  have hne : ∀ k ∈ L.bs :: L.bw :: L.bv :: (optL L.vo ++ (optL L.vt ++ (optL L.ve ++ (L.kb ++ L.cb.flatten)))), w5.heap[k]? = w.heap[k]? := fun k hm => by
    unfold Lay.all at hnd
    rw [List.nodup_cons, List.nodup_cons] at hnd
    exact hk' k (by unfold Lay.all; exact List.mem_cons_of_mem _ (List.mem_cons_of_mem _ hm)) fun e => hnd.2.1 (e ▸ hm)
  have hp : w5.heap[p]? = w.heap[p]? := hk' p (by simp [Lay.all]) fun e => by
    unfold Lay.all at hnd
    rw [List.nodup_cons] at hnd
    exact hnd.1 (by rw [e]; simp)
  obtain ⟨c6, h6a, h6⟩ := h.wd
  obtain ⟨c7, h7a, h7⟩ := h.void
  have hm2 : MapV w5 Try.prog 9 L.br (fun m => (driftT (.radar n d :: l) m).map (Value.int .i64)) (radarsT (.radar n d :: l)).length := by
    have e1 : (if ((fun q => (driftT l q).map (Value.int .i64)) n).isSome then (radarsT l).length else (radarsT l).length + 1) = (radarsT (.radar n d :: l)).length := by simp only [hn, Option.map_none]; rfl
    rw [e1] at hm
    refine hm.congr fun m => ?_
    unfold putF
    rw [driftT]
    by_cases e : m = n
    · rw [if_pos e, if_pos e.symm]; rfl
    · rw [if_neg e, if_neg (Ne.symm e)]
  refine ⟨⟨hok, h.good⟩, h.nodup, hp.trans h.book, hm2, h.stds.stab (hne _ (by simp)), ⟨c6, by simp; omega, h6.stab (hne _ (by simp))⟩, ⟨c7, Nat.le_trans h7a (Nat.mul_le_mul (by simp) (by simp)), h7.stab (hne _ (by simp))⟩,
    own_stabT h.order fun g hg => hne g (by simp [optL_mem hg]), own_stabT h.tests fun g hg => hne g (by simp [optL_mem hg]), own_stabT h.entries fun g hg => hne g (by simp [optL_mem hg]), h.knowns.stab fun k h' => hne k (by simp [h']), h.caps.stab fun k h' => hne k ?_⟩
  simp only [List.mem_cons, List.mem_append]
  exact .inr (.inr (.inr (.inr (.inr (.inr (.inr h'))))))

set_option maxHeartbeats 2000000 in
set_option maxRecDepth 100000 in
theorem Radar_any (l : List Ent) (p : Nat) (L : Lay) (n : ByteArray) (d : Int) (w : World) (hb : BookR l p L w) (hn : n.size ≤ maxLen) :
    Calls Try.prog 17 #[ptrB p, .string n, .int .i64 d] w fun e w' => e = .returned (.int .i64 (radarE l n d)) ∧ EntPost l p L w (.radar n d) (radarE l n d) w' := by
  obtain ⟨Ao, co, At, ct, Ae, ce, e1, e2, e3, hk⟩ := hb.cells
  have hE : radarE l n d = if 2000 ≤ l.length then 13 else if nameB n = false then 10 else if (driftT l n).isSome then 5 else if 32 ≤ (radarsT l).length then 9 else if inR d 0 1000000 = false then 3 else 0 := rfl
  have hp := fun (ev : Int) (W : World) (h : Below w.heap.size w W) (he : ev ≠ 0) => EntPost.same (x := .radar n d) (ev := ev) hb h he
  have hl := fun W hw => look_radar (W := W) hb hw hn
  have hlen := fun W (hw : Below w.heap.size w W) ty => (hb.later hw).radars.len (t := 91) (e := 3) Try.underlying91 ty
  have hnm := fun W => Name_any n W (by unfold maxLen at hn; omega)
  have hwi := fun W => within_any d 0 1000000 W
  generalize hr : radarE l n d = r at *
  unfold ptrB
  have hst := fun W (h : Below w.heap.size w W) => state_any p l.length ce _ _ _ _ _ _ Ae W (blk_later hk h)
  have Hk := hide hk
  have Hp := hide hp
  have Hl := hide hl
  have Hlen := hide hlen
  have Hnm := hide hnm
  have Hwi := hide hwi
  have Hst := hide hst
  clear hk hp hl hlen hnm hwi hst
  by_cases c1 : 2000 ≤ l.length
  · rw [if_pos c1] at hE
    have hs13 : stateE l.length = 13 := by unfold stateE; rw [if_pos c1]
    rw [hs13] at Hst
    subst hE
    clear c1 hs13
    go_enter Try.func17, Try.ntmps17
    have HB := hide (Below.refl w.heap.size w)
    go_wp2_with fail
    refine at_world fun W1 hW => ?_
    have bq0 : Blk W1 w.heap.size 9 #[.string n] := by rw [hW]; exact (Blk.new _ _ _).alloc _
    have bq1 : Blk W1 (w.heap.size + 1) 3 #[.int .i64 d] := by rw [hW]; exact blk_new_at (by simp)
    have LW : Later w W1 := by rw [hW]; exact (((Below.refl _ _).alloc (Nat.le_refl _) _).alloc (by simp; try omega) _)
    have szW : W1.heap.size = w.heap.size + 2 := by rw [hW]; simp
    clear hW
    replace HB := hide (onward HB.out LW)
    replace Hk := hide (blk_later Hk.out LW)
    have Hs := hide bq0
    have Hd := hide bq1
    clear bq0 bq1 LW szW
    refine (Hst.out _ HB.out).mono ?_
    rintro e w2 ⟨rfl, hb⟩
    replace HB := hide (onward HB.out hb)
    replace Hk := hide (blk_later Hk.out hb)
    replace Hs := hide (blk_later Hs.out hb)
    replace Hd := hide (blk_later Hd.out hb)
    clear hb
    go_wp2
    go_ret
    exact ⟨rfl, Hp.out 13 _ HB.out (by decide)⟩
  · rw [if_neg c1] at hE
    have hs0 : stateE l.length = 0 := by unfold stateE; rw [if_neg c1]
    rw [hs0] at Hst
    clear hs0
    have hn9 : n.size ≤ maxLen := hn
    go_enter Try.func17, Try.ntmps17
    have HB := hide (Below.refl w.heap.size w)
    go_wp2_with fail
    refine at_world fun W1 hW => ?_
    have bq0 : Blk W1 w.heap.size 9 #[.string n] := by rw [hW]; exact (Blk.new _ _ _).alloc _
    have bq1 : Blk W1 (w.heap.size + 1) 3 #[.int .i64 d] := by rw [hW]; exact blk_new_at (by simp)
    have LW : Later w W1 := by rw [hW]; exact (((Below.refl _ _).alloc (Nat.le_refl _) _).alloc (by simp; try omega) _)
    have szW : W1.heap.size = w.heap.size + 2 := by rw [hW]; simp
    clear hW
    replace HB := hide (onward HB.out LW)
    replace Hk := hide (blk_later Hk.out LW)
    have Hs := hide bq0
    have Hd := hide bq1
    clear bq0 bq1 LW szW
    refine (Hst.out _ HB.out).mono ?_
    rintro e w2 ⟨rfl, hb⟩
    replace HB := hide (onward HB.out hb)
    replace Hk := hide (blk_later Hk.out hb)
    replace Hs := hide (blk_later Hs.out hb)
    replace Hd := hide (blk_later Hd.out hb)
    clear hb
    go_wp2_with fail
    obtain ⟨x0, x1, x2, x3, x4, x5, x6, x7⟩ := Hk.out.c8
    have n0 := Hs.out.c 0 rfl
    have ltk := Hk.out.lt
    have lts := Hs.out.lt
    apply wp_region_L (w0 := w2) [[], [], [], [], [], [], [], [], [], [], []] [true, true, true, true, true, true, true, true, true, true, true] [] (fun ixq y => match ixq with  | _ => undef) (fun ixq x F wq => match ixq with  | _ => True) (fun a x => a) (by kernel_rfl) (by kernel_rfl) (fun _ => rfl) [17, 21] (by kernel_rfl)
    · intro x D hD
      have hne := hD.some
      have k1 := liftB hD x1 (by first | assumption | omega)
      have kn := liftB hD n0 (by first | assumption | omega)
      have hlk := fun (x : Of D) => Hl.out x.val (onward HB.out (kb hD x))
      simp only [takeOps, Act.put, List.setIfInBounds_toArray, List.set_cons_succ, List.set_cons_zero]
      repeat (go_big_quiet_step (fail))
      exact wpQuiet_nil rfl
    · intro d hd x x'
      simp only [List.mem_cons, List.not_mem_nil, or_false] at hd
      rcases hd with rfl | rfl
      all_goals rfl
    · exact trivial
    · exact trivial
    intro xx w3 F hL3 hlv1
    clear hlv1
    clear x0 x1 x2 x3 x4 x5 x6 x7 n0 ltk lts
    replace HB := hide (onward HB.out hL3)
    replace Hk := hide (blk_later Hk.out hL3)
    replace Hs := hide (blk_later Hs.out hL3)
    replace Hd := hide (blk_later Hd.out hL3)
    clear hL3
    have n0 := Hs.out.c 0 rfl
    have lts := Hs.out.lt
    go_wp2_with fail
    clear n0 lts
    refine (Hnm.out _).mono ?_
    rintro e w4 ⟨rfl, hb⟩
    replace HB := hide (onward HB.out hb)
    replace Hk := hide (blk_later Hk.out hb)
    replace Hs := hide (blk_later Hs.out hb)
    replace Hd := hide (blk_later Hd.out hb)
    clear hb
    cases hnb : nameB n with
    | false =>
      rw [if_pos hnb] at hE
      subst hE
      go_wp2
      go_ret
      exact ⟨rfl, Hp.out 10 _ HB.out (by decide)⟩
    | true =>
      rw [if_neg (by rw [hnb]; simp)] at hE
      cases hdr : driftT l n with
      | some d0 =>
        rw [if_pos (by rw [hdr]; rfl)] at hE
        subst hE
        go_wp2
        go_ret
        exact ⟨rfl, Hp.out 5 _ HB.out (by decide)⟩
      | none =>
        rw [if_neg (by rw [hdr]; simp)] at hE
        obtain ⟨x0, x1, x2, x3, x4, x5, x6, x7⟩ := Hk.out.c8
        have ltk := Hk.out.lt
        have hln := Hlen.out w4 HB.out
        by_cases c2 : 32 ≤ (radarsT l).length
        · rw [if_pos c2] at hE
          subst hE
          have c2' : (32 : Int) ≤ (radarsT l).length := by omega
          go_wp2
          go_ret
          exact ⟨rfl, Hp.out 9 _ HB.out (by decide)⟩
        · rw [if_neg c2] at hE
          have c2' : ¬ (32 : Int) ≤ (radarsT l).length := by omega
          have d0 := Hd.out.c 0 rfl
          have ltd := Hd.out.lt
          go_wp2_with fail
          refine (Hwi.out _).mono ?_
          rintro e w' ⟨rfl, rfl⟩
          cases hir : inR d 0 1000000 with
          | false =>
            rw [if_pos hir] at hE
            subst hE
            go_wp2
            go_ret
            exact ⟨rfl, Hp.out 3 _ HB.out (by decide)⟩
          | true =>
            rw [if_neg (by rw [hir]; simp)] at hE
            have Hrm := hide (hb.later HB.out).radars
            have Hen := hide (hb.later HB.out).entries
            have hnd := hb.nodup
            have hbp : p ≠ L.br := fun e => by
              unfold Lay.all at hnd
              rw [List.nodup_cons] at hnd
              exact hnd.1 (by rw [e]; simp)
            have hep : L.ve.ownBlock ≠ some p := fun e => by
              unfold Lay.all at hnd
              rw [List.nodup_cons] at hnd
              exact hnd.1 (by simp [optL_mem e])
            have hok : okEnt l (.radar n d) = true := by show (radarE l n d == 0) = true; rw [hr, hE]; rfl
            have ltb := Hrm.out.lt
            have n0 := Hs.out.c 0 rfl
            have lts := Hs.out.lt
            go_wp2_with fail
            apply wp_region_F (w0 := w4) [[], [0], [0, 1], [0, 1, 2], [], [], [0, 1, 2, 3, 4, 5]] [true, true, true, true, true, true, false] [false, false, false, false, false, false, false] [⟨6, none, [], []⟩] [(6, L.br)] [6] (fun ixq y => match ixq with | 6 => undef | _ => undef) (fun ixq x F wq => match ixq with | 6 => F L.br ∧ MapV wq Try.prog 9 L.br (putF ((fun q => (driftT l q).map (Value.int .i64))) (n) (.int .i64 d)) (if (((fun q => (driftT l q).map (Value.int .i64))) (n)).isSome then (radarsT l).length else (radarsT l).length + 1) | _ => True) (fun a x => (a).put (none) (undef)) (by kernel_rfl) (by kernel_rfl) (by kernel_rfl) (fun _ => rfl) [42] (by kernel_rfl) (fills_lt1 (by omega)) fills_ne1
            · intro x D hD
              have hne := hD.some
              have k1 := liftS hD x1 (by exact early_all (by first | assumption | omega) (by rfl))
              have kn := liftS hD n0 (by exact early_all (by first | assumption | omega) (by rfl))
              have kd := liftS hD d0 (by exact early_all (by first | assumption | omega) (by rfl))
              simp only [takeOps, Act.put, List.setIfInBounds_toArray, List.set_cons_succ, List.set_cons_zero]
              repeat (go_big_quiet_step (fail))
              exact wpQuiet_nil rfl
            · exact fun x D hD => wpQuiet_nil rfl
            · intro d hd x x'
              simp only [List.mem_cons, List.not_mem_nil, or_false] at hd
              rcases hd with rfl
              all_goals rfl
            · refine ⟨?_, trivial⟩
              · exact obl_mapUpd 91 9 3 44 45 46 L.br ((radarsT l).length) ((fun q => (driftT l q).map (Value.int .i64))) (n) (.int .i64 d) (by kernel_rfl) (fun _ => rfl) (fun _ => rfl) (fun _ => rfl) Try.underlying9 Try.underlying91 (by unfold maxLen; omega) hn9 Hrm.out eb_fill1 (by simp [wrF]) (fun _ => rfl) (fun _ _ _ _ h1 h2 => ⟨h1, h2⟩)
            · refine ⟨?_, trivial⟩
              · exact owe_mapV _ _ _ _ _ (fun _ _ _ => rfl)
            intro xx w5 F hK hlv2
            obtain ⟨fct6, -⟩ := hlv2
            replace fct6 : (F 6) L.br ∧ MapV w5 Try.prog 9 L.br (putF ((fun q => (driftT l q).map (Value.int .i64))) (n) (.int .i64 d)) (if (((fun q => (driftT l q).map (Value.int .i64))) (n)).isSome then (radarsT l).length else (radarsT l).length + 1) := fct6 rfl
            have hgr := grown_kept hK
            have hmp := fct6.2
            have hbl5 : ∀ k, k < w4.heap.size → k ≠ L.br → w5.heap[k]? = w4.heap[k]? := fun k h1 h2 => hgr.block k h1 fun e => h2 (Option.some.inj e)
            have Q := bookQ_radar (hb.later HB.out) hok hdr hmp hbl5
            have hk5 := blk_grown Hk.out hgr (fun e => hbp (Option.some.inj e).symm)
            have hen5 := Q.entries
            rw [e3] at hen5 hep
            have hbrl := hb.lt L.br (by simp [Lay.all])
            have hs5 := blk_grown Hs.out hgr (fun e => by have := Option.some.inj e; omega)
            have hd5 := blk_grown Hd.out hgr (fun e => by have := Option.some.inj e; omega)
            have hw5 : w.heap.size ≤ w5.heap.size := Nat.le_trans HB.out.size hK.size
            have HK5 : Hid (Kept (fun k => k < w.heap.size ∧ k ∉ L.all p) w w5) := hide ⟨hgr.os.trans HB.out.os, hgr.tape.trans HB.out.tape, hgr.output.trans HB.out.output, hw5, fun k hk' => (hgr.block k (Nat.lt_of_lt_of_le hk'.1 HB.out.size) (fun e => hk'.2 (by rw [Option.some.inj e]; simp [Lay.all]))).trans (HB.out.block k hk'.1)⟩
            obtain ⟨i0, hii, hz0, hz1, hz2⟩ := info_parts funcInfo
            clear x0 x1 x2 x3 x4 x5 x6 x7 ltk d0 ltd n0 lts hln hmp fct6 hK hbl5 Hk Hs Hd Hrm Hen HB hgr ltb hbp
            have Hi := hide hii
            have Hz0 := hide hz0
            have Hz1 := hide hz1
            have Hz2 := hide hz2
            have Hk := hide hk5
            have Hen := hide hen5
            have Hs := hide hs5
            have Hd := hide hd5
            have HQ := hide Q
            clear hii hz0 hz1 hz2 hk5 hen5 hs5 hd5 Q
            obtain ⟨x0, x1, x2, x3, x4, x5, x6, x7⟩ := Hk.out.c8
            have ltk := Hk.out.lt
            go_wp2_with (at_builtin; refine wpList_append_own_at _ rfl (.tmp 51) (.tmp 53) _ rfl 0 106 i0 _ 1 8 Try.underlying96 Hi.out Hz0.out Hz1.out Hz2.out rfl (by decide) _ l.length _ rfl (Hen.out.alloc _) ⟨w5.heap.size, 0, none⟩ 1 1 [entF (.radar n d) [w.heap.size, w.heap.size + 1]] rfl rfl ?ka1 ?ka2 ?ka3 ?ka4 ?ka5 ?_)
            try case ka1 => exact new_cellsQ w5 _ [entF (.radar n d) [w.heap.size, w.heap.size + 1]]
            case ka2 => intro u hu; simp only [List.mem_singleton] at hu; subst hu; rfl
            case ka3 => unfold maxLen; omega
            case ka4 => omega
            case ka5 => exact Nat.zero_le _
            intro v' w6 hown hgrw _ hat
            obtain ⟨A9, c9, rfl⟩ := own_shape2 hown
            obtain ⟨q1, q2, q3⟩ := HQ.out.push (c := [w.heap.size, w.heap.size + 1]) ⟨_, _, rfl, Hs.out, Hd.out⟩ (by simp) (fun k hk' hm => by
              have := hb.lt k hm
              simp only [List.mem_cons, List.not_mem_nil, or_false] at hk'
              omega) (v := .slice A9 (l.length + 1) c9) (by rw [e3]; exact hgrw) hown (by rw [e3]; rw [World.size_alloc]; exact hat)
            have hk6 := blk_grown (Hk.out.alloc _) hgrw hep
            have hos : w6.os = w5.os ∧ w6.tape = w5.tape ∧ w6.output = w5.output := ⟨hgrw.os, hgrw.tape, hgrw.output⟩
            clear x0 x1 x2 x3 x4 x5 x6 x7 ltk hown hgrw Hk Hen
            have Hk := hide hk6
            have Q1 := hide q1
            have Q2 := hide q2
            have Q3 := hide q3
            have Hat := hide hat
            clear hk6 q1 q2 q3 hat
            have x7 := Hk.out.c 7 rfl
            have ltk := Hk.out.lt
            have fx7 := Hk.out.frozen 7
            go_wp2
            go_ret
            subst hE
            refine ⟨rfl, _, Q1.out, step_push HK5.out (fun k h => .inl h) (fun k hk' => ?_) ?_ Q2.out Q3.out hos⟩
            · simp only [List.mem_cons, List.not_mem_nil, or_false] at hk'; omega
            · rcases Hat.out with h1 | h1
              · exact .inl (by rw [e3]; exact h1)
              · exact .inr ⟨_, h1, by simp⟩
end Go.Proofs.Ytiggefmckomilaa
namespace Go.Proofs.Ytiggefmckomilaa
open Go Go.RowKit

/-- A book that was made behind a world: no elder memory is its own. -/
def BookN (l : List Ent) (p : Nat) (w0 w : World) : Prop := ∃ L, BookR l p L w ∧ Below w0.heap.size w0 w ∧ ∀ k ∈ L.all p, w0.heap.size ≤ k
theorem BookN.below {l : List Ent} {p : Nat} {w0 w : World} (h : BookN l p w0 w) : Below w0.heap.size w0 w := by
  obtain ⟨_, _, h, _⟩ := h
  exact h
theorem BookN.new {w0 w1 : World} {e : Ending} (h : NewPost w0 e w1) : ∃ p, e = .returned (ptrB p) ∧ BookN [] p w0 w1 := by
  obtain ⟨p, L, he, hb, hB, hL⟩ := h
  exact ⟨p, he, L, hb, hB, hL⟩
theorem BookN.later {l : List Ent} {p : Nat} {w0 w w' : World} (h : BookN l p w0 w) (hl : Below w.heap.size w w') : BookN l p w0 w' := by
  obtain ⟨L, hb, hB, hL⟩ := h
  exact ⟨L, hb.later hl, hB.trans (Below.mono hl hB.size), hL⟩
theorem BookN.step {l : List Ent} {p : Nat} {w0 w w' : World} {L : Lay} {x : Ent} {ev : Int} (hB : Below w0.heap.size w0 w) (hL : ∀ k ∈ L.all p, w0.heap.size ≤ k) (h : EntPost l p L w x ev w') : BookN (if ev = 0 then x :: l else l) p w0 w' := by
  obtain ⟨L', hb', hs⟩ := h
  have hsz := hB.size
  exact ⟨L', hb', hB.trans ⟨hs.kept.os, hs.kept.tape, hs.kept.output, hs.kept.size, fun k hk => hs.kept.block k ⟨by omega, fun hm => by have := hL k hm; omega⟩⟩, fun k hk => by
    rcases hs.new k hk with h | h
    · exact hL k h
    · omega⟩

def exR : Ent := .radar ⟨#[114]⟩ 2
def exA : Ent := .define ⟨⟨#[97]⟩, ⟨#[]⟩, 1000, 1010, 0, 864000, 1⟩
def exB : Ent := .define ⟨⟨#[98]⟩, ⟨#[97]⟩, 500, 500, 86400, 864000, 0⟩
def exT : Ent := .test ⟨⟨#[114]⟩, ⟨#[98]⟩, 172800, 998, 1012⟩
theorem ex1 : radarE [] ⟨#[114]⟩ 2 = 0 := by decide +kernel
theorem ex2 : defineE [exR] ⟨⟨#[97]⟩, ⟨#[]⟩, 1000, 1010, 0, 864000, 1⟩ = 0 := by decide +kernel
theorem ex3 : defineE [exA, exR] ⟨⟨#[98]⟩, ⟨#[97]⟩, 500, 500, 86400, 864000, 0⟩ = 0 := by decide +kernel
theorem ex4 : valueE [exB, exA, exR] ⟨#[98]⟩ 86400 = ((499, 506), 0) := by decide +kernel
theorem ex5 : testE [exB, exA, exR] ⟨⟨#[114]⟩, ⟨#[98]⟩, 172800, 998, 1012⟩ = 0 := by decide +kernel
theorem ex6 : gainE [exT, exB, exA, exR] ⟨#[114]⟩ 259200 = ((1970, 2031), (0, 0), 0) := by decide +kernel
theorem ex7 : (testsT [exB, exA, exR]).length = 0 := rfl

theorem point_any (n : Int) (w : World) : Calls Try.prog 42 #[.int .i64 n] w fun e w' => e = .returned (.agg #[.int .i64 n, .int .i64 n]) ∧ Below w.heap.size w w' := by
  go_enter Try.func42, Try.ntmps42
  go_wp2
  refine bodyPost_ret (v := .agg #[.int .i64 n, .int .i64 n]) (by simp [results, Try.results42, go_sem]) rfl ⟨rfl, ?_⟩
  repeat (first | exact Below.refl _ _ | (refine Below.setCell ?_ (by first | omega | (simp; done) | (simp; omega)) _) | (refine Below.alloc ?_ (by first | omega | (simp; done) | (simp; omega)) _) | (refine below_drewN ?_ _))
set_option maxHeartbeats 1000000 in
set_option maxRecDepth 100000 in
theorem book_any (w : World) : Calls Try.prog 41 #[] w fun e w' => ∃ p, e = .returned (.tuple #[ptrB p, .bool true]) ∧ BookN [exB, exA, exR] p w w' := by
  go_enter Try.func41, Try.ntmps41
  go_wp2_with fail
  refine (New_any _).mono ?_
  intro e w1 hN
  obtain ⟨p, rfl, L, hb, hB, hL⟩ := BookN.new hN
  clear hN
  go_wp2_with fail
  have c1 := Radar_any [] p L ⟨#[114]⟩ 2 w1 hb (by decide)
  rw [ex1] at c1
  refine c1.mono ?_
  clear c1
  rintro e w2 ⟨rfl, hp⟩
  obtain ⟨L2, hb2, hB2, hL2⟩ := BookN.step hB hL hp
  rw [if_pos rfl] at hb2
  clear hp hb hB hL
  go_wp2_with fail
  have c2 := Define_any [exR] p L2 ⟨⟨#[97]⟩, ⟨#[]⟩, 1000, 1010, 0, 864000, 1⟩ w2 hb2 (by decide) (by decide)
  rw [ex2] at c2
  refine c2.mono ?_
  clear c2
  rintro e w3 ⟨rfl, hp⟩
  obtain ⟨L3, hb3, hB3, hL3⟩ := BookN.step hB2 hL2 hp
  rw [if_pos rfl] at hb3
  clear hp hb2 hB2 hL2
  go_wp2_with fail
  refine (point_any _ _).mono ?_
  rintro e w4 ⟨rfl, hl⟩
  obtain ⟨L4, hb4, hB4, hL4⟩ := BookN.later ⟨L3, hb3, hB3, hL3⟩ hl
  clear hl hb3 hB3 hL3
  go_wp2_with fail
  have c3 := Define_any [exA, exR] p L4 ⟨⟨#[98]⟩, ⟨#[97]⟩, 500, 500, 86400, 864000, 0⟩ w4 hb4 (by decide) (by decide)
  rw [ex3] at c3
  refine c3.mono ?_
  clear c3
  rintro e w5 ⟨rfl, hp⟩
  obtain ⟨L5, hb5, hB5, hL5⟩ := BookN.step hB4 hL4 hp
  rw [if_pos rfl] at hb5
  clear hp hb4 hB4 hL4
  go_wp2
  refine bodyPost_ret (v := .tuple #[ptrB p, .bool true]) (by simp [results, Try.results41, go_sem]) rfl ⟨p, rfl, L5, hb5, hB5, hL5⟩
theorem eqAt (a b a' b' : Int) (w : World) : (Op.equalIn 10000 52 (.agg #[.int .i64 a, .int .i64 b]) (.agg #[.int .i64 a', .int .i64 b'])).run Try.prog w = .ok (a == a' && b == b') w :=
  run_equalIn_arr2 Try.underlying52 Try.underlying3 (by kernel_rfl) 9998 a b a' b' w
set_option maxHeartbeats 2000000 in
set_option maxRecDepth 100000 in
theorem works_any (w : World) : Calls Try.prog 15 #[] w fun e w' => e = .returned (.bool true) ∧ Below w.heap.size w w' := by
  go_enter Try.func15, Try.ntmps15
  go_wp2_with fail
  refine (book_any _).mono ?_
  rintro e w1 ⟨p, rfl, L, hb, hB, hL⟩
  have HW := hide (Below.refl w1.heap.size w1)
  go_wp2_with fail
  have c1 := Value_any [exB, exA, exR] p L ⟨#[98]⟩ 86400 w1 hb (by decide)
  rw [ex4] at c1
  refine (c1).mono ?_
  rintro e w2 ⟨rfl, hb⟩
  replace HW := hide (onward HW.out hb)
  clear hb
  clear c1
  have hsz2 := HW.out.size
  unfold spanE
  go_wp2_with fail
  refine at_world fun w3 hW => ?_
  have bq0 : Blk w3 w2.heap.size 23 #[.int .i64 499, .int .i64 506] := by rw [hW]; exact Blk.new _ _ _
  have LW : Later w2 w3 := by rw [hW]; exact ((Below.refl _ _).alloc (Nat.le_refl _) _)
  have szW : w3.heap.size = w2.heap.size + 1 := by rw [hW]; simp
  clear hW
  replace HW := hide (onward HW.out LW)
  have Hv := hide bq0
  clear bq0 LW szW
  have hb3 := hb.later HW.out
  have hB3 := hB.trans (Below.mono HW.out hB.size)
  have c2 := Test_any [exB, exA, exR] p L ⟨#[114]⟩ ⟨#[98]⟩ 172800 998 1012 w3 hb3 (by decide) (by decide)
  rw [ex5, if_pos rfl, show ((testsT [exB, exA, exR]).length : Int) = 0 from rfl] at c2
  refine c2.mono ?_
  clear c2
  rintro e w4 ⟨rfl, L4', hb', hs⟩
  have hsz := HW.out.size
  have hszv := Hv.out.lt
  have hv4 : Blk w4 w2.heap.size 23 #[.int .i64 499, .int .i64 506] := (hs.kept.block _ ⟨Hv.out.lt, fun hm => by have := hb.lt _ hm; omega⟩).trans Hv.out
  obtain ⟨L4, hb4, hB4, hL4⟩ := BookN.step hB3 hL ⟨L4', hb', hs⟩
  rw [if_pos rfl] at hb4
  have hB4' := hB4
  clear hs hb' hb3 hB3 hL hb hB HW Hv hsz hszv
  have HB := hide hB4
  have Hv := hide hv4
  clear hB4 hv4
  go_wp2_with fail
  have c3 := Gain_any [exT, exB, exA, exR] p L4 ⟨#[114]⟩ 259200 w4 hb4 (by decide)
  rw [ex6] at c3
  refine (c3).mono ?_
  rintro e w5 ⟨rfl, hb⟩
  replace HB := hide (onward HB.out hb)
  replace Hv := hide (blk_later Hv.out hb)
  clear hb
  clear c3 hb4 hL4 hB4'
  unfold gainV
  obtain ⟨v0, v1⟩ := Hv.out.c2
  have ltv := Hv.out.lt
  have heq := eqAt 0 0 0 0
  go_wp2
  go_ret
  have hsz := HB.out.size
  refine ⟨rfl, ?_⟩
  repeat (first | exact HB.out | (refine Below.setCell ?_ (by first | omega | (simp; done) | (simp; omega)) _) | (refine Below.alloc ?_ (by first | omega | (simp; done) | (simp; omega)) _) | (refine below_drewN ?_ _))
end Go.Proofs.Ytiggefmckomilaa
