/-
  Blocked threads: Blocked.
-/
import Derived.Test.YtepgpihobmjbdaaRtRrUnder
import Derived.Test.YtepgpihobmjbdaaRtRrBoundsMath
import Derived.Test.YtepgpihobmjbdaaRtRrWorks
set_option linter.unusedSimpArgs false
set_option linter.unusedVariables false
namespace Go.Proofs.Ytepgpihobmjbdaa
open Go Go.RowKit
attribute [local go_sem] Oper.semAt_some
def csB (gr : Nat → Int × Int) (z st elo t0 : Int) (i j : Nat) : Bool := decide (riseU z st j (t0 + i) elo ≤ (gr j).1)
def cmB (gr : Nat → Int × Int) (z st ehi t0 : Int) (i j : Nat) : Bool := decide (riseD z st j (t0 + i) ehi ≤ (gr j).2)
def blockE (se fe t elo ehi ray ro : Int) : Int := if se ≠ 0 then se else if fe ≠ 0 then fe else if (winB t 0 256 && okE elo ehi && winB ray 0 (4 * ro - 1)) = true then 0 else 3
def BlockPost (w : World) (ev : Int) (r : Nat → Int × Int) (G : Nat) (e : Ending) (w' : World) : Prop :=
 ∃ A c, e = .returned (.tuple #[.slice A (if ev = 0 then G else 0) c, .int .i64 ev]) ∧ Below w.heap.size w w' ∧ (ev = 0 → Ints w' w'.heap.size .i64 A (flat2Q (rowL r G)))
def BlockPost2 (w : World) (ev : Int) (r : Nat → Int × Int) (G : Nat) (e : Ending) (w' : World) : Prop :=
 ∃ A c, e = .returned (.tuple #[.slice A (if ev = 0 then G else 0) c, .int .i64 ev]) ∧ Below w.heap.size w w' ∧ (ev = 0 → Ints w' w'.heap.size .i64 A (flat2Q (rowL r G)) ∧ ∃ g, A = some ⟨g, 0, none⟩ ∧ w.heap.size ≤ g)
theorem BlockPost2.old {w w' : World} {ev : Int} {r : Nat → Int × Int} {G : Nat} {e : Ending} (h : BlockPost2 w ev r G e w') : BlockPost w ev r G e w' := by
 obtain ⟨A, c, h1, h2, h3⟩ := h
 exact ⟨A, c, h1, h2, fun hz => (h3 hz).1⟩
theorem groundZ_ok {l : List (Int × Int)} {sx sy ro st t ray gx gy gs wi hi : Int} {n : Nat} {j : Nat} (hn : l.length = n) (hsz : (n : Int) = wi * hi) (c1 : 1 ≤ gs) (d1 : 1 ≤ wi) (d2 : wi ≤ 64) (e2 : hi ≤ 64) (hok : l.all (okS 20000) = true) :
  0 ≤ (groundZ l sx sy ro st t ray gx gy gs wi hi j).1 ∧ (groundZ l sx sy ro st t ray gx gy gs wi hi j).1 ≤ (groundZ l sx sy ro st t ray gx gy gs wi hi j).2 ∧ (groundZ l sx sy ro st t ray gx gy gs wi hi j).2 ≤ 20000 := by
 unfold groundZ overZ
 generalize (placeZ sx sy ro st t ray j).1 = x
 generalize (placeZ sx sy ro st t ray j).2 = y
 split
 · simp
 ·
  rename_i hp
  obtain ⟨h1, -⟩ := pixZ_lt (gx := gx) (gy := gy) (x := x) (y := y) c1 hp d1 d2 e2
  have hlt : (pixZ gx gy gs wi hi x y).toNat < l.length := by omega
  have hm := List.all_eq_true.1 hok _ (List.getElem_mem hlt)
  have hd : l.getD (pixZ gx gy gs wi hi x y).toNat (0, 0) = l[(pixZ gx gy gs wi hi x y).toNat] := by simp [List.getD, hlt]
  rw [hd]
  have := of_decide_eq_true hm
  omega
set_option maxHeartbeats 8000000 in
set_option maxRecDepth 100000 in
theorem Blocked2_any (s : ByteArray) (sx sy z r g st wd t elo ehi gx gy gs wi hi : Int) (A : Option Addr) (n c : Nat) (l : List (Int × Int)) (ray : Int) (w : World) (hs : s.size ≤ 9223372036854775807)
  (hn : l.length = n) (hmax : n ≤ 9223372036854775807) (hl : Ints w w.heap.size .i64 A (flat2Q l)) :
  Calls Try.prog 7 #[siteV s sx sy z r g st wd, .int .i64 t, .agg #[.int .i64 elo, .int .i64 ehi], fieldV gx gy gs wi hi A n c, .int .i64 ray] w fun e w' =>
   BlockPost2 w (blockE (siteE (nameB s) sx sy z r g st wd) (fieldE (gridE gx gy gs wi hi) n wi hi l 20000) t elo ehi ray r)
    (rowsZ (csB (groundZ l sx sy r st t ray gx gy gs wi hi) z st elo (t - wd)) (cmB (groundZ l sx sy r st t ray gx gy gs wi hi) z st ehi (t - wd)) (2 * wd + 1).toNat) g.toNat e w' := by
 have hcs := fun W => CheckSite_any s (nameB s) sx sy z r g st wd W (fun W => Name_any s W hs)
 have hck := fun W (hl : Ints W W.heap.size .i64 A (flat2Q l)) => check_any gx gy gs wi hi A n c l 20000 W hn hmax hl
 have hun := fun W => under_any s sx sy z r g st wd t ray gx gy gs wi hi A n c W
 have hok := fun h : siteE (nameB s) sx sy z r g st wd = 0 => siteE_ok h
 have hfok : fieldE (gridE gx gy gs wi hi) n wi hi l 20000 = 0 → gridE gx gy gs wi hi = 0 ∧ (n : Int) = wi * hi ∧ l.all (okS 20000) = true := fun h => by
  unfold fieldE at h
  split at h
  · rename_i h1; exact absurd h h1
  ·
   rename_i h1
   split at h
   · omega
   ·
    rename_i h2
    split at h
    ·
     rename_i h3
     exact ⟨Classical.not_not.1 h1, Classical.not_not.1 h2, h3⟩
    · omega
 generalize siteE (nameB s) sx sy z r g st wd = se at *
 generalize fieldE (gridE gx gy gs wi hi) n wi hi l 20000 = fe at *
 obtain ⟨i0, hi0, hz0, hz1, hz2⟩ := info_parts spanInfo
 unfold siteV fieldV at *
 have Hcs := hide hcs
 have Hck := hide hck
 have Hok := hide hok
 have Hfok := hide hfok
 have Hun := hide hun
 have Hl := hide hl
 have Hn := hide hn
 clear hcs hck hok hfok hun hl hn
 have Hi := hide hi0
 have Hz0 := hide hz0
 have Hz1 := hide hz1
 have Hz2 := hide hz2
 clear hi0 hz0 hz1 hz2
 by_cases h0 : se = 0
 ·
  subst h0
  obtain ⟨-, s1, s2, s3, s4, s5, s6, s7, s8, s9, s10, s11, s12, s13, s14⟩ := Hok.out rfl
  by_cases h1 : fe = 0
  ·
   subst h1
   obtain ⟨hge, hsz, hall⟩ := Hfok.out rfl
   obtain ⟨a1, a2, b1, b2, c1, c2, d1, d2, f1, f2⟩ := gridE_ok hge
   clear hge
   by_cases g1 : winB t 0 256 = true
   ·
    obtain ⟨t1, t2⟩ := winB_iff.1 g1
    by_cases g2 : okE elo ehi = true
    ·
     by_cases g3 : winB ray 0 (4 * r - 1) = true
     ·
      obtain ⟨t3, t4⟩ := winB_iff.1 g3
      have hE : blockE 0 0 t elo ehi ray r = 0 := by unfold blockE; simp [g1, g2, g3]
      rw [hE]
      clear hE
      obtain ⟨G, hG⟩ : ∃ G : Nat, g = (G : Int) := ⟨g.toNat, by omega⟩
      obtain ⟨K, hK⟩ : ∃ K : Nat, 2 * wd + 1 = (K : Int) := ⟨(2 * wd + 1).toNat, by omega⟩
      rw [show g.toNat = G by omega, show (2 * wd + 1).toNat = K by omega]
      have hG0 : 1 ≤ G := by omega
      have hG1 : G ≤ 200 := by omega
      have hK1 : K ≤ 17 := by omega
      have hgr := fun j => groundZ_ok (l := l) (sx := sx) (sy := sy) (ro := r) (st := st) (t := t) (ray := ray) (gx := gx) (gy := gy) (gs := gs) (wi := wi) (hi := hi) (n := n) (j := j) Hn.out hsz c1 d1 d2 f2 hall
      have hheight := fun t' j (x1 : -8 ≤ t') (x2 : t' ≤ 264) (x3 : 0 ≤ j) (x4 : j ≤ 199) W => height_any s sx sy z r g st wd t' j elo ehi W x1 x2 x3 x4 (by omega) s12 s5 s6 g2
      obtain ⟨e1', e2', e3'⟩ := okE_iff g2
      have hmeet := fun t' j (x1 : -8 ≤ t') (x2 : t' ≤ 264) (x3 : 0 ≤ j) (x4 : j ≤ 199) => rise_meet (z := z) (st := st) (gate := j) (a := t') (b := t') (e := elo) (e' := ehi) x1 (Int.le_refl _) x2 x3 x4 (by omega) s12 e1' e2'
      have hCs : ∀ i j, csB (groundZ l sx sy r st t ray gx gy gs wi hi) z st elo (t - wd) i j = decide (riseU z st j (t - wd + i) elo ≤ (groundZ l sx sy r st t ray gx gy gs wi hi j).1) := fun i j => rfl
      have hCm : ∀ i j, cmB (groundZ l sx sy r st t ray gx gy gs wi hi) z st ehi (t - wd) i j = decide (riseD z st j (t - wd + i) ehi ≤ (groundZ l sx sy r st t ray gx gy gs wi hi j).2) := fun i j => rfl
      generalize csB (groundZ l sx sy r st t ray gx gy gs wi hi) z st elo (t - wd) = cs at *
      generalize cmB (groundZ l sx sy r st t ray gx gy gs wi hi) z st ehi (t - wd) = cm at *
      have hunder := fun (S : Nat → Prop) (k0 k1 k2 k3 : Nat) W => under_stops S w.heap.size 7 s sx sy z r g st wd t ray gx gy gs wi hi G A n c l k0 k1 k2 k3 W (by omega) t1 t2 hG s10 (by omega) s12 s7 s8 t3 (by omega) s1 s2 s3 s4 a1 a2 b1 b2 c1 c2 d1 d2 f1 f2 Hn.out hsz
      unfold siteV at hheight
      have Hl0 := Hl
      have Hgr := hide hgr
      have Hheight := hide hheight
      have Hmeet := hide hmeet
      have HCs := hide hCs
      have HCm := hide hCm
      have HG := hide hG
      have Hunder := hide hunder
      have Hsz := hide hsz
      have Hall := hide hall
      clear hgr hheight hmeet hCs hCm hG hunder hsz hall
      have Hg1 := hide g1
      have Hg2 := hide g2
      have Hg3 := hide g3
      clear g1 g2 g3
      refine (callsIn_wide (n := 8)).1 (callsIn_of_wp_marks Try.func7 rfl trivial (wpIn_wide.2 ?_))
      simp only [Try.ntmps7, List.size_toArray, List.length_cons, List.length_nil, Nat.reduceAdd, Nat.reduceSub, Array.replicate_succ, Array.replicate_zero, List.push_toArray, List.append_toArray, List.nil_append, List.cons_append]
      have HB := hide (Below.refl w.heap.size w)
      go_wp2_with fail
      go_step3
      go_wp2_with fail
      refine at_world fun W hW => ?_
      have bq0 : Blk W w.heap.size 28 #[.string s, .int .i64 sx, .int .i64 sy, .int .i64 z, .int .i64 r, .int .i64 g, .int .i64 st, .int .i64 wd] := by rw [hW]; exact ((Blk.new _ _ _).alloc _).alloc _
      have bq1 : Blk W (w.heap.size + 1) 24 #[.int .i64 elo, .int .i64 ehi] := by rw [hW]; exact (blk_new_at (by simp)).alloc _
      have bq2 : Blk W (w.heap.size + 2) 33 #[.int .i64 gx, .int .i64 gy, .int .i64 gs, .int .i64 wi, .int .i64 hi, .slice A n c] := by rw [hW]; exact blk_new_at (by simp)
      have LW : Later w W := by rw [hW]; exact ((((Below.refl _ _).alloc (Nat.le_refl _) _).alloc (by simp; try omega) _).alloc (by simp; try omega) _)
      have szW : W.heap.size = w.heap.size + 3 := by rw [hW]; simp
      clear hW
      replace Hl := hide ((Ints.below Hl.out LW).more (Below.size LW))
      replace HB := hide (onward HB.out LW)
      have Hq := hide bq0
      have He := hide bq1
      have Hf := hide bq2
      clear bq0 bq1 bq2 LW szW
      refine (Hcs.out _).mono ?_
      rintro e w1 ⟨rfl, hb⟩
      replace Hl := hide ((Ints.below Hl.out hb).more (Below.size hb))
      replace HB := hide (onward HB.out hb)
      replace Hq := hide (blk_later Hq.out hb)
      replace He := hide (blk_later He.out hb)
      replace Hf := hide (blk_later Hf.out hb)
      clear hb
      obtain ⟨e0, e1, e2, e3, e4, e5⟩ := Hf.out.c6
      have ltf := Hf.out.lt
      go_wp2_with fail
      clear e0 e1 e2 e3 e4 e5 ltf
      refine (Hck.out _ Hl.out).mono ?_
      rintro e w2 ⟨rfl, hb⟩
      replace Hl := hide ((Ints.below Hl.out hb).more (Below.size hb))
      replace HB := hide (onward HB.out hb)
      replace Hq := hide (blk_later Hq.out hb)
      replace He := hide (blk_later He.out hb)
      replace Hf := hide (blk_later Hf.out hb)
      clear hb
      obtain ⟨v0, v1⟩ := He.out.c2
      have ltv := He.out.lt
      obtain ⟨q0, q1, q2, q3, q4, q5, q6, q7⟩ := Hq.out.site8
      have ltq := Hq.out.lt
      go_wp2_with fail
      refine (within_anyQ _ _ _ _).mono ?_
      rintro e w' ⟨rfl, rfl⟩
      rw [Hg1.out]
      go_wp2_with fail
      clear q0 q1 q2 q3 q4 q5 q6 q7 ltq
      refine (valid_anyQ _ _ _).mono ?_
      rintro e w3 ⟨rfl, hb⟩
      replace Hl := hide ((Ints.below Hl.out hb).more (Below.size hb))
      replace HB := hide (onward HB.out hb)
      replace Hq := hide (blk_later Hq.out hb)
      replace He := hide (blk_later He.out hb)
      replace Hf := hide (blk_later Hf.out hb)
      clear hb v0 v1 ltv
      rw [Hg2.out]
      obtain ⟨q0, q1, q2, q3, q4, q5, q6, q7⟩ := Hq.out.site8
      have ltq := Hq.out.lt
      go_wp2_with fail
      refine (within_anyQ _ _ _ _).mono ?_
      rintro e w' ⟨rfl, rfl⟩
      rw [Hg3.out]
      have hs3 := Hf.out.lt
      have hs3' : w.heap.size + 3 ≤ w3.heap.size := by omega
      go_wp2_with (at_make; refine wpList_make_full _ rfl _ _ 31 rfl (w.heap.size + 3) 24 i0 (.agg #[.int .i64 0, .int .i64 0]) 2 Try.underlying31 Hi.out Hz0.out Hz1.out .i64 .i64 _ _ G rfl rfl HG.out HG.out (by rw [Hz2.out]; omega) (by unfold maxLen; omega) hs3' ?_)
      intro w4 hown hgr4
      clear q0 q1 q2 q3 q4 q5 q6 q7 ltq
      have hbg : Blk w4 w3.heap.size 24 (cellsR (fun _ => (0, 0)) G) := by
       rw [← cellsR_made]; exact blk_of_full hown
      clear hown
      have hs4 := hgr4.size
      replace HB := hide (below_grown HB.out hgr4 (by omega) (fun k hk => by simp at hk))
      replace Hq := hide (blk_grown Hq.out hgr4 (by simp))
      replace He := hide (blk_grown He.out hgr4 (by simp))
      replace Hf := hide (blk_grown Hf.out hgr4 (by simp))
      clear hgr4
      clear Hl
      have Hg4 := hide hbg
      clear hbg
      generalize w3.heap.size = go at *
      have hgo4 := Hg4.out.lt
      go_wp2_with fail
      go_step3
      obtain ⟨q0, q1, q2, q3, q4, q5, q6, q7⟩ := Hq.out.site8
      have ltq := Hq.out.lt
      go_wp2_with fail
      clear q0 q1 q2 q3 q4 q5 q6 q7 ltq
      refine code_world fun W5 hW => ?_
      have bq0 : Blk W5 w4.heap.size 31 #[.slice (some ⟨go, 0, none⟩) G G] := by rw [hW]; exact (Blk.new _ _ _).alloc _
      have bq1 : Blk W5 (w4.heap.size + 1) 3 #[.int .i64 (t - wd)] := by rw [hW]; exact blk_new_at (by simp)
      have LW : Later w4 W5 := by rw [hW]; exact (((Below.refl _ _).alloc (Nat.le_refl _) _).alloc (by simp; try omega) _)
      have szW : W5.heap.size = w4.heap.size + 2 := by rw [hW]; simp
      clear hW
      replace HB := hide (onward HB.out LW)
      replace Hq := hide (blk_later Hq.out LW)
      replace He := hide (blk_later He.out LW)
      replace Hf := hide (blk_later Hf.out LW)
      replace Hg4 := hide (blk_later Hg4.out LW)
      have Hbo := hide bq0
      have Hbt := hide bq1
      clear bq0 bq1 LW szW
      generalize w4.heap.size = bo at *
      obtain ⟨INV, hINV⟩ : ∃ INV : Act → World → Prop, INV = (fun a' wr => ∃ u0 u2 u3 u6 u9 u10 u11 u12 u13 u16 u17 u18 u19 u20 u21 u22 u23 u24 u25 u26 u27 u28 u29 u30 u31 u32 u33 u34 u35 u36 u37 u38 u39 u40 u41 u42 u43 u44 u45 u46 u47 u48 u49 u50 u51 u52 u53 u54 u55 u56 u57 u58 u59 u60 u61 u62 u63 u64 u65 u66 u67 u68 u69 u70 u71 u72 u73 u74 u75 u76 u77 u78 u79 u80 u81 u82 u83 u84 u85 u86 u87 u88 u89 u90 u91 u92 u93 u94 u95 u96 u97 u98 u99 u100 u101 u102 u103 u104 u105 u106 u107 u108 u109 u110 u111 u112 u113 u114 u115 u116 u117 u118 u119 u120 u121 u122 u123 u124 u125 u126 u127 u128 u129 u130 : Value, ∃ (τ bt : Nat) (Ds : List Nat), τ ≤ K ∧ Ds.length = τ ∧ bo < bt ∧ BI w.heap.size w.heap.size w Ds [(w.heap.size, 28, #[.string s, .int .i64 sx, .int .i64 sy, .int .i64 z, .int .i64 r, .int .i64 g, .int .i64 st, .int .i64 wd]), (w.heap.size + 1, 24, #[.int .i64 elo, .int .i64 ehi]), (w.heap.size + 2, 33, #[.int .i64 gx, .int .i64 gy, .int .i64 gs, .int .i64 wi, .int .i64 hi, .slice A n c]), (go, 24, cellsR (rowsZ cs cm τ) G), (bo, 31, #[.slice (some ⟨go, 0, none⟩) G G]), (bt, 3, #[.int .i64 (t - wd + τ)])] wr ∧ a' = { tmps := #[u0, .int .i64 t, u2, u3, .int .i64 ray, .pointer (some ⟨w.heap.size, 0, none⟩), u6, .pointer (some ⟨w.heap.size + 1, 0, none⟩), .pointer (some ⟨w.heap.size + 1 + 1, 0, none⟩), u9, u10, u11, u12, u13, .pointer (some ⟨bo, 0, none⟩), .pointer (some ⟨bt, 0, none⟩), u16, u17, u18, u19, u20, u21, u22, u23, u24, u25, u26, u27, u28, u29, u30, u31, u32, u33, u34, u35, u36, u37, u38, u39, u40, u41, u42, u43, u44, u45, u46, u47, u48, u49, u50, u51, u52, u53, u54, u55, u56, u57, u58, u59, u60, u61, u62, u63, u64, u65, u66, u67, u68, u69, u70, u71, u72, u73, u74, u75, u76, u77, u78, u79, u80, u81, u82, u83, u84, u85, u86, u87, u88, u89, u90, u91, u92, u93, u94, u95, u96, u97, u98, u99, u100, u101, u102, u103, u104, u105, u106, u107, u108, u109, u110, u111, u112, u113, u114, u115, u116, u117, u118, u119, u120, u121, u122, u123, u124, u125, u126, u127, u128, u129, u130], defers := Ds.map markD }) := ⟨_, rfl⟩
      have HINV := hide hINV
      clear hINV
      refine wp_loop INV (fun a' _ => K + 1 - a'.defers.length) ?_ ?_
      ·
       rw [HINV.out]
       iterate 124 (apply Exists.intro)
       refine ⟨0, bo + 1, [], by omega, rfl, by omega, ⟨HB.out, marks_nil _ _, HB.out.size, ?_⟩, rfl⟩
       have hbt := Hbt.out
       rw [show t - wd = t - wd + ((0 : Nat) : Int) by omega] at hbt
       exact List.forall_mem_cons.2 ⟨Hq.out, List.forall_mem_cons.2 ⟨He.out, List.forall_mem_cons.2 ⟨Hf.out, List.forall_mem_cons.2 ⟨Hg4.out, List.forall_mem_cons.2 ⟨Hbo.out, List.forall_mem_cons.2 ⟨hbt, fun _ hx => absurd hx List.not_mem_nil⟩⟩⟩⟩⟩⟩
      ·
       intro a' wr hinv
       rw [HINV.out] at hinv
       obtain ⟨u0, hinv⟩ := hinv
       obtain ⟨u2, hinv⟩ := hinv
       obtain ⟨u3, hinv⟩ := hinv
       obtain ⟨u6, hinv⟩ := hinv
       obtain ⟨u9, hinv⟩ := hinv
       obtain ⟨u10, hinv⟩ := hinv
       obtain ⟨u11, hinv⟩ := hinv
       obtain ⟨u12, hinv⟩ := hinv
       obtain ⟨u13, hinv⟩ := hinv
       obtain ⟨u16, hinv⟩ := hinv
       obtain ⟨u17, hinv⟩ := hinv
       obtain ⟨u18, hinv⟩ := hinv
       obtain ⟨u19, hinv⟩ := hinv
       obtain ⟨u20, hinv⟩ := hinv
       obtain ⟨u21, hinv⟩ := hinv
       obtain ⟨u22, hinv⟩ := hinv
       obtain ⟨u23, hinv⟩ := hinv
       obtain ⟨u24, hinv⟩ := hinv
       obtain ⟨u25, hinv⟩ := hinv
       obtain ⟨u26, hinv⟩ := hinv
       obtain ⟨u27, hinv⟩ := hinv
       obtain ⟨u28, hinv⟩ := hinv
       obtain ⟨u29, hinv⟩ := hinv
       obtain ⟨u30, hinv⟩ := hinv
       obtain ⟨u31, hinv⟩ := hinv
       obtain ⟨u32, hinv⟩ := hinv
       obtain ⟨u33, hinv⟩ := hinv
       obtain ⟨u34, hinv⟩ := hinv
       obtain ⟨u35, hinv⟩ := hinv
       obtain ⟨u36, hinv⟩ := hinv
       obtain ⟨u37, hinv⟩ := hinv
       obtain ⟨u38, hinv⟩ := hinv
       obtain ⟨u39, hinv⟩ := hinv
       obtain ⟨u40, hinv⟩ := hinv
       obtain ⟨u41, hinv⟩ := hinv
       obtain ⟨u42, hinv⟩ := hinv
       obtain ⟨u43, hinv⟩ := hinv
       obtain ⟨u44, hinv⟩ := hinv
       obtain ⟨u45, hinv⟩ := hinv
       obtain ⟨u46, hinv⟩ := hinv
       obtain ⟨u47, hinv⟩ := hinv
       obtain ⟨u48, hinv⟩ := hinv
       obtain ⟨u49, hinv⟩ := hinv
       obtain ⟨u50, hinv⟩ := hinv
       obtain ⟨u51, hinv⟩ := hinv
       obtain ⟨u52, hinv⟩ := hinv
       obtain ⟨u53, hinv⟩ := hinv
       obtain ⟨u54, hinv⟩ := hinv
       obtain ⟨u55, hinv⟩ := hinv
       obtain ⟨u56, hinv⟩ := hinv
       obtain ⟨u57, hinv⟩ := hinv
       obtain ⟨u58, hinv⟩ := hinv
       obtain ⟨u59, hinv⟩ := hinv
       obtain ⟨u60, hinv⟩ := hinv
       obtain ⟨u61, hinv⟩ := hinv
       obtain ⟨u62, hinv⟩ := hinv
       obtain ⟨u63, hinv⟩ := hinv
       obtain ⟨u64, hinv⟩ := hinv
       obtain ⟨u65, hinv⟩ := hinv
       obtain ⟨u66, hinv⟩ := hinv
       obtain ⟨u67, hinv⟩ := hinv
       obtain ⟨u68, hinv⟩ := hinv
       obtain ⟨u69, hinv⟩ := hinv
       obtain ⟨u70, hinv⟩ := hinv
       obtain ⟨u71, hinv⟩ := hinv
       obtain ⟨u72, hinv⟩ := hinv
       obtain ⟨u73, hinv⟩ := hinv
       obtain ⟨u74, hinv⟩ := hinv
       obtain ⟨u75, hinv⟩ := hinv
       obtain ⟨u76, hinv⟩ := hinv
       obtain ⟨u77, hinv⟩ := hinv
       obtain ⟨u78, hinv⟩ := hinv
       obtain ⟨u79, hinv⟩ := hinv
       obtain ⟨u80, hinv⟩ := hinv
       obtain ⟨u81, hinv⟩ := hinv
       obtain ⟨u82, hinv⟩ := hinv
       obtain ⟨u83, hinv⟩ := hinv
       obtain ⟨u84, hinv⟩ := hinv
       obtain ⟨u85, hinv⟩ := hinv
       obtain ⟨u86, hinv⟩ := hinv
       obtain ⟨u87, hinv⟩ := hinv
       obtain ⟨u88, hinv⟩ := hinv
       obtain ⟨u89, hinv⟩ := hinv
       obtain ⟨u90, hinv⟩ := hinv
       obtain ⟨u91, hinv⟩ := hinv
       obtain ⟨u92, hinv⟩ := hinv
       obtain ⟨u93, hinv⟩ := hinv
       obtain ⟨u94, hinv⟩ := hinv
       obtain ⟨u95, hinv⟩ := hinv
       obtain ⟨u96, hinv⟩ := hinv
       obtain ⟨u97, hinv⟩ := hinv
       obtain ⟨u98, hinv⟩ := hinv
       obtain ⟨u99, hinv⟩ := hinv
       obtain ⟨u100, hinv⟩ := hinv
       obtain ⟨u101, hinv⟩ := hinv
       obtain ⟨u102, hinv⟩ := hinv
       obtain ⟨u103, hinv⟩ := hinv
       obtain ⟨u104, hinv⟩ := hinv
       obtain ⟨u105, hinv⟩ := hinv
       obtain ⟨u106, hinv⟩ := hinv
       obtain ⟨u107, hinv⟩ := hinv
       obtain ⟨u108, hinv⟩ := hinv
       obtain ⟨u109, hinv⟩ := hinv
       obtain ⟨u110, hinv⟩ := hinv
       obtain ⟨u111, hinv⟩ := hinv
       obtain ⟨u112, hinv⟩ := hinv
       obtain ⟨u113, hinv⟩ := hinv
       obtain ⟨u114, hinv⟩ := hinv
       obtain ⟨u115, hinv⟩ := hinv
       obtain ⟨u116, hinv⟩ := hinv
       obtain ⟨u117, hinv⟩ := hinv
       obtain ⟨u118, hinv⟩ := hinv
       obtain ⟨u119, hinv⟩ := hinv
       obtain ⟨u120, hinv⟩ := hinv
       obtain ⟨u121, hinv⟩ := hinv
       obtain ⟨u122, hinv⟩ := hinv
       obtain ⟨u123, hinv⟩ := hinv
       obtain ⟨u124, hinv⟩ := hinv
       obtain ⟨u125, hinv⟩ := hinv
       obtain ⟨u126, hinv⟩ := hinv
       obtain ⟨u127, hinv⟩ := hinv
       obtain ⟨u128, hinv⟩ := hinv
       obtain ⟨u129, hinv⟩ := hinv
       obtain ⟨u130, hinv⟩ := hinv
       obtain ⟨τ, bt, Ds, hτ, hlen, hlt, hbi, ha⟩ := hinv
       subst ha
       dsimp only
       obtain ⟨hbw, hmk, hsw, hblk⟩ := hbi
       clear Hq He Hf Hg4 Hbo Hbt HB
       obtain ⟨hq, hbk0⟩ := List.forall_mem_cons.1 hblk
       obtain ⟨he, hbk1⟩ := List.forall_mem_cons.1 hbk0
       obtain ⟨hf, hbk2⟩ := List.forall_mem_cons.1 hbk1
       obtain ⟨hg4, hbk3⟩ := List.forall_mem_cons.1 hbk2
       obtain ⟨hbo, hbk4⟩ := List.forall_mem_cons.1 hbk3
       obtain ⟨hbt, hbk5⟩ := List.forall_mem_cons.1 hbk4
       clear hblk hbk0 hbk1 hbk2 hbk3 hbk4 hbk5
       have Hq := hide hq
       have He := hide he
       have Hf := hide hf
       have Hg4 := hide hg4
       have Hbo := hide hbo
       have Hbt := hide hbt
       have HB := hide hbw
       have Hmk := hide hmk
       clear hq he hf hg4 hbo hbt hbw hmk
       by_cases hlk : τ < K
       ·
        have hle2 : t - wd + (τ : Int) ≤ t + wd := by omega
        have hrb := rowsZ_bd (cs := cs) (cm := cm) τ
        have hx1 : -8 ≤ t - wd + (τ : Int) := by omega
        have hx2 : t - wd + (τ : Int) ≤ 264 := by omega
        have Hrb := hide hrb
        have Hlen := hide hlen
        clear hrb hlen
        have x0 := Hbt.out.c 0 rfl
        have ltx := Hbt.out.lt
        have fx0 := Hbt.out.frozen 0
        obtain ⟨q0, q1, q2, q3, q4, q5, q6, q7⟩ := Hq.out.site8
        have ltq := Hq.out.lt
        obtain ⟨e0, e1, e2, e3, e4, e5⟩ := Hf.out.c6
        have ltf := Hf.out.lt
        go_wp2_with fail
        clear q0 q1 q2 q3 q4 q5 q6 q7 ltq
        clear e0 e1 e2 e3 e4 e5 ltf
        have hbtw := Hbt.out.lt
        refine at_world fun Wp hW => ?_
        have bq0 : Blk Wp wr.heap.size 4 #[.bool false] := by rw [hW]; exact Blk.new _ _ _
        have LW : Later wr Wp := by rw [hW]; exact ((Below.refl _ _).alloc (Nat.le_refl _) _)
        have szW : Wp.heap.size = wr.heap.size + 1 := by rw [hW]; simp
        clear hW x0 ltx fx0
        replace Hmk := hide (MarksOK.later Hmk.out LW)
        replace Hq := hide (blk_later Hq.out LW)
        replace He := hide (blk_later He.out LW)
        replace Hf := hide (blk_later Hf.out LW)
        replace Hg4 := hide (blk_later Hg4.out LW)
        replace Hbo := hide (blk_later Hbo.out LW)
        replace Hbt := hide (blk_later Hbt.out LW)
        replace HB := hide (onward HB.out LW)
        have Hbp := hide bq0
        clear bq0 LW szW
        have hbpW := Hbp.out.lt
        refine (Hun.out _).mono ?_
        rintro e w6 ⟨rfl, hb, hz6, k0, k1, k2, k3⟩
        replace Hmk := hide (MarksOK.later Hmk.out hb)
        replace Hq := hide (blk_later Hq.out hb)
        replace He := hide (blk_later He.out hb)
        replace Hf := hide (blk_later Hf.out hb)
        replace Hg4 := hide (blk_later Hg4.out hb)
        replace Hbo := hide (blk_later Hbo.out hb)
        replace Hbt := hide (blk_later Hbt.out hb)
        replace HB := hide (onward HB.out hb)
        replace Hbp := hide (blk_later Hbp.out hb)
        clear hb
        have hbp6 := Hbp.out.lt
        have hWp := k0.lt
        have C0 := hide k0
        have C1 := hide k1
        have C2 := hide k2
        have C3 := hide k3
        clear k0 k1 k2 k3
        generalize wr.heap.size = bp at *
        generalize Wp.heap.size = cb at *
        go_wp2_with fail
        have hst := Hunder.out (fun k => k < w.heap.size ∨ (cb ≤ k ∧ k < cb + 4)) cb (cb + 1) (cb + 2) (cb + 3) w6 ((Hl0.out.below HB.out)) (by have := HB.out.size; omega) (fun k hk => by have := HB.out.size; omega) (fun k hk => .inl hk) C0.out C1.out C2.out C3.out (.inr ⟨by omega, by omega⟩) (.inr ⟨by omega, by omega⟩) (.inr ⟨by omega, by omega⟩) (.inr ⟨by omega, by omega⟩)
        have hsc : ∀ j, j < G → cs τ j = true → cm τ j = true := fun j hj h => by
         have h1 := Hmeet.out (t - wd + τ) j hx1 hx2 (by omega) (by omega)
         have h2 := Hgr.out j
         rw [HCs.out] at h
         rw [HCm.out]
         have h3 := of_decide_eq_true h
         exact decide_eq_true (by omega)
        have Hsc := hide hsc
        clear hsc
        have HO := hide (show w.heap.size + 3 ≤ go ∧ go < bo ∧ bo < bt ∧ bt < bp ∧ bp < cb ∧ w6.heap.size = cb + 4 from ⟨by omega, by omega, by omega, by omega, by omega, by omega⟩)
        have HN1 := hide (Hmk.out.cells Hg4.out)
        have HN2 := hide (Hmk.out.cells Hbp.out)
        have HNS := hide (show ∀ k, w.heap.size ≤ k → k < cb → ¬ ((fun k => k < w.heap.size ∨ (cb ≤ k ∧ k < cb + 4)) k) from fun k h1 h2 h3 => by simp only at h3; omega)
        have hmlt := Hmk.out.lt
        have hbs := HB.out.size
        obtain ⟨II, hII⟩ : ∃ II : List (Fin G) → World → Prop, II = (fun pre W => BI w.heap.size w6.heap.size w Ds [(w.heap.size, 28, #[.string s, .int .i64 sx, .int .i64 sy, .int .i64 z, .int .i64 r, .int .i64 g, .int .i64 st, .int .i64 wd]), (w.heap.size + 1, 24, #[.int .i64 elo, .int .i64 ehi]), (w.heap.size + 2, 33, #[.int .i64 gx, .int .i64 gy, .int .i64 gs, .int .i64 wi, .int .i64 hi, .slice A n c]), (go, 24, cellsR ((runS (cm τ) (rowsZ cs cm τ) pre).2) G), (bo, 31, #[.slice (some ⟨go, 0, none⟩) G G]), (bt, 3, #[.int .i64 (t - wd + τ)]), (bp, 4, #[.bool ((runS (cm τ) (rowsZ cs cm τ) pre).1)])] W ∧ ∀ x, x ∈ pre → cs τ x.val = false) := ⟨_, rfl⟩
        obtain ⟨IX, hIX⟩ : ∃ IX : Code → List (Fin G) → World → Prop, IX = (fun jc pre W => ∃ y : List (Fin G) × Fin G, BI w.heap.size w6.heap.size w Ds [(w.heap.size, 28, #[.string s, .int .i64 sx, .int .i64 sy, .int .i64 z, .int .i64 r, .int .i64 g, .int .i64 st, .int .i64 wd]), (w.heap.size + 1, 24, #[.int .i64 elo, .int .i64 ehi]), (w.heap.size + 2, 33, #[.int .i64 gx, .int .i64 gy, .int .i64 gs, .int .i64 wi, .int .i64 hi, .slice A n c]), (go, 24, cellsR (finR (runS (cm τ) (rowsZ cs cm τ) pre).2 y.2.val G) G), (bo, 31, #[.slice (some ⟨go, 0, none⟩) G G]), (bt, 3, #[.int .i64 (t - wd + τ)])] W ∧ (jc = .exit 1 ∧ pre = y.1 ++ [y.2] ∧ cs τ y.2.val = true ∧ ∀ x, x ∈ y.1 → cs τ x.val = false)) := ⟨_, rfl⟩
        have HII := hide hII
        have HIX := hide hIX
        clear hII hIX
        refine wp_range2 (α := Fin G) (p := 68) (q := 69) (d := 17) (e := 18) rfl (enters_of Try.func47 (by kernel_rfl) rfl) (v0 := fun x : Fin G => .int .i64 (x.val : Int))
         (v1 := fun x : Fin G => .agg #[.int .i64 (groundZ l sx sy r st t ray gx gy gs wi hi x.val).1, .int .i64 (groundZ l sx sy r st t ray gx gy gs wi hi x.val).2]) hst
         (fun h k => h.trans k) (fun W l o' hl => KeptS.putObj (B := w6.heap.size) (fun k hk => by omega) W l o' hl) (fun W o _ => kepts_alloc (KeptS.refl _ _) o) (Below.refl _ _)
         II IX
         (by rw [HII.out]; exact OwnFrom.and (BI_own hbs hmlt) (ownFrom_pure _ _)) (fun c => by rw [HIX.out]; exact ownFrom_ex fun y => OwnFrom.and (BI_own hbs hmlt) (ownFrom_pure _ _)) (fun pre W h => by rw [HII.out] at h; exact h.1.2.2.1)
         (by rw [HII.out]; exact ⟨⟨HB.out, Hmk.out, Nat.le_refl _, List.forall_mem_cons.2 ⟨Hq.out, List.forall_mem_cons.2 ⟨He.out, List.forall_mem_cons.2 ⟨Hf.out, List.forall_mem_cons.2 ⟨Hg4.out, List.forall_mem_cons.2 ⟨Hbo.out, List.forall_mem_cons.2 ⟨Hbt.out, List.forall_mem_cons.2 ⟨Hbp.out, fun _ hx => absurd hx List.not_mem_nil⟩⟩⟩⟩⟩⟩⟩⟩, fun x hx => absurd hx List.not_mem_nil⟩)
         24 (fun x : Fin G => #[.int .i64 (groundZ l sx sy r st t ray gx gy gs wi hi x.val).1, .int .i64 (groundZ l sx sy r st t ray gx gy gs wi hi x.val).2]) ?assign ?body ?done ?stop
        case assign =>
         intro lp x W K hK
         gi_wp2
         exact hK
        case body =>
         intro lp pre x bx W hi hbx hBx hlen
         rw [HII.out] at hi
         obtain ⟨⟨hbw, hmk, hsw, hblk⟩, hno⟩ := hi
         obtain ⟨hq, hbk0⟩ := List.forall_mem_cons.1 hblk
         obtain ⟨he, hbk1⟩ := List.forall_mem_cons.1 hbk0
         obtain ⟨hf, hbk2⟩ := List.forall_mem_cons.1 hbk1
         obtain ⟨hg4, hbk3⟩ := List.forall_mem_cons.1 hbk2
         obtain ⟨hbo, hbk4⟩ := List.forall_mem_cons.1 hbk3
         obtain ⟨hbt, hbk5⟩ := List.forall_mem_cons.1 hbk4
         obtain ⟨hbp, hbk6⟩ := List.forall_mem_cons.1 hbk5
         clear hblk hbk0 hbk1 hbk2 hbk3 hbk4 hbk5 hbk6
         obtain ⟨j, hj⟩ := x
         simp only at hBx
         clear Hq He Hf Hg4 Hbo Hbt Hbp HB Hmk C0 C1 C2 C3 hst hmlt hbs hz6
         have Hq := hide hq
         have He := hide he
         have Hf := hide hf
         have Hg4 := hide hg4
         have Hbo := hide hbo
         have Hbt := hide hbt
         have Hbp := hide hbp
         have HB := hide hbw
         have Hmk := hide hmk
         have HZ := hide hsw
         have Hbx := hide hBx
         clear hq he hf hg4 hbo hbt hbp hbw hmk hsw hBx
         have HKF := hide (KeepsFrom.refl w6.heap.size W)
         have HKS := hide (KeptS.refl (fun k => k < w.heap.size ∨ (cb ≤ k ∧ k < cb + 4)) W)
         have hrun := runS_bd (c := cm τ) Hrb.out pre
         have hsn := runS_snoc (c := cm τ) (r := rowsZ cs cm τ) (pre := pre) (x := ⟨j, hj⟩)
         have hcm := HCm.out τ j
         have hcs := HCs.out τ j
         have hsj := Hsc.out j hj
         have hh := fun W => Hheight.out (t - wd + τ) j hx1 hx2 (by omega) (by omega) W
         unfold bumpS at hsn
         simp only at hsn
         generalize runS (cm τ) (rowsZ cs cm τ) pre = sp at *
         obtain ⟨p, ρ⟩ := sp
         simp only at hsn hrun
         simp only at Hg4 Hbp
         generalize riseD z st j (t - wd + τ) ehi = lo at *
         generalize riseU z st j (t - wd + τ) elo = hh' at *
         have hgz : ∃ ga gb, groundZ l sx sy r st t ray gx gy gs wi hi j = (ga, gb) := ⟨_, _, rfl⟩
         obtain ⟨ga, gb, hgz⟩ := hgz
         simp only
         simp only [hgz] at Hbx hcm hcs ⊢
         have hρ := hrun j
         obtain ⟨ra, rb, hrj⟩ : ∃ ra rb, ρ j = (ra, rb) := ⟨_, _, rfl⟩
         rw [hrj] at hρ hsn
         simp only at hρ hsn
         have HO2 := hide (And.intro HO.out (And.intro hbx hj))
         have r0 : (cellsR ρ G)[j * 2]? = some (.int .i64 ra) := by rw [cellsR_get0 hj, hrj]
         have r1 : (cellsR ρ G)[j * 2 + 1]? = some (.int .i64 rb) := by rw [cellsR_get1 hj, hrj]
         simp only [List.setIfInBounds_toArray, List.set_cons_succ, List.set_cons_zero]
         have Hh := hide hh
         have Hsn := hide hsn
         have Hno := hide hno
         have Hgz := hide hgz
         have Hrj := hide hrj
         have Hrun := hide hrun
         have R0 := hide r0
         have R1 := hide r1
         have Hsj := hide hsj
         have Hcm := hide hcm
         have Hcs := hide hcs
         clear hh hsn hno hgz hrj hrun r0 r1 hsj hcm hcs
         have x0 := Hbt.out.c 0 rfl
         have ltx := Hbt.out.lt
         obtain ⟨q0, q1, q2, q3, q4, q5, q6, q7⟩ := Hq.out.site8
         have ltq := Hq.out.lt
         obtain ⟨v0, v1⟩ := He.out.c2
         have ltv := He.out.lt
         gi_wp2_with fail
         clear q0 q1 q2 q3 q4 q5 q6 q7 ltq
         refine ⟨trivial, ?_⟩
         refine (CallsIn.inRound lp (callsIn_wide.2 (Hh.out _))).mono ?_
         rintro e w7 ⟨rfl, hb⟩
         replace Hmk := hide (MarksOK.later Hmk.out hb)
         replace HZ := hide (Nat.le_trans HZ.out (Below.size hb))
         replace HKF := hide (keepf_later HKF.out hb)
         replace HKS := hide (kepts_later HKS.out hb)
         replace Hq := hide (blk_later Hq.out hb)
         replace He := hide (blk_later He.out hb)
         replace Hf := hide (blk_later Hf.out hb)
         replace Hg4 := hide (blk_later Hg4.out hb)
         replace Hbo := hide (blk_later Hbo.out hb)
         replace Hbt := hide (blk_later Hbt.out hb)
         replace Hbp := hide (blk_later Hbp.out hb)
         replace HB := hide (onward HB.out hb)
         replace Hbx := hide (blk_later Hbx.out hb)
         clear hb x0 ltx v0 v1 ltv
         cases p with
         | true =>
          have Hsn2 := hide (show runS (cm τ) (rowsZ cs cm τ) (pre ++ [⟨j, hj⟩]) = (true, updR ρ j (ra, rb + 1)) by rw [Hsn.out]; simp)
          by_cases hs : hh' ≤ ga
          ·
           have Hct := hide (Hcs.out.trans (decide_eq_true hs))
           have Hr2 := hide (show RowBd (updR ρ j (ra, rb + 1)) τ (τ + pre.length + 1) from updR_bd Hrun.out (by omega) (by omega) (by simp only; omega))
           have hr2j : updR ρ j (ra, rb + 1) j = (ra, rb + 1) := by simp [updR]
           have Hr2j := hide hr2j
           clear hr2j
           have y0 := Hbp.out.c 0 rfl
           have lty := Hbp.out.lt
           have fy0 := Hbp.out.frozen 0
           obtain ⟨v0, v1⟩ := Hbx.out.c2
           have ltv := Hbx.out.lt
           have o0 := Hbo.out.c 0 rfl
           have lto := Hbo.out.lt
           obtain ⟨q0, q1, q2, q3, q4, q5, q6, q7⟩ := Hq.out.site8
           have ltq := Hq.out.lt
           have cc0 := Hg4.out.c (j * 2) R0.out
           have cc1 := Hg4.out.c (j * 2 + 1) R1.out
           have fc0 := Hg4.out.frozen (j * 2)
           have fc1 := Hg4.out.frozen (j * 2 + 1)
           have ltg := Hg4.out.lt
           obtain ⟨W8, hW⟩ : ∃ Wnew, Wnew = ((((w7.setCell ⟨bp, 0, none⟩ (.bool true)).setCell ⟨go, (j * 2 + 1), none⟩ (.int .i64 (rb + 1))).setCell ⟨go, (j * 2), none⟩ (.int .i64 (ra + 1))).alloc (.cells #[.int .i64 lo, .int .i64 hh'] 24)) := ⟨_, rfl⟩
           have lq_Hq := Hq.out.lt
           have lq_He := He.out.lt
           have lq_Hf := Hf.out.lt
           have lq_Hg4 := Hg4.out.lt
           have lq_Hbo := Hbo.out.lt
           have lq_Hbt := Hbt.out.lt
           have lq_Hbp := Hbp.out.lt
           have lq_HB := HB.out.size
           have lq_Hbx := Hbx.out.lt
           have ho := HO2.out
           have q_Hq := blkTo hW (Blk.alloc (blkFa (blkFa (blkFa Hq.out _) _) _) _)
           replace Hq := hide q_Hq
           clear q_Hq
           have q_He := blkTo hW (Blk.alloc (blkFa (blkFa (blkFa He.out _) _) _) _)
           replace He := hide q_He
           clear q_He
           have q_Hf := blkTo hW (Blk.alloc (blkFa (blkFa (blkFa Hf.out _) _) _) _)
           replace Hf := hide q_Hf
           clear q_Hf
           have q_Hg4 := blkTo hW (Blk.alloc (Blk.set_ (Blk.set_ (blkFa Hg4.out _) ((j * 2 + 1)) _) ((j * 2)) _) _)
           replace Hg4 := hide (blkOf q_Hg4 (show _ = cellsR (updR ρ j (ra + 1, rb + 1)) G from by first | rfl | exact cellsR_set1 | exact cellsR_set0 | exact cellsR_set01 | exact cellsR_set10 | exact boolsR_set HS1.out | exact boolsR_set HS2.out))
           clear q_Hg4
           have q_Hbo := blkTo hW (Blk.alloc (blkFa (blkFa (blkFa Hbo.out _) _) _) _)
           replace Hbo := hide q_Hbo
           clear q_Hbo
           have q_Hbt := blkTo hW (Blk.alloc (blkFa (blkFa (blkFa Hbt.out _) _) _) _)
           replace Hbt := hide q_Hbt
           clear q_Hbt
           have q_Hbp := blkTo hW (Blk.alloc (blkFa (blkFa (Blk.set_ Hbp.out (0) _) _) _) _)
           replace Hbp := hide (blkOf q_Hbp (show _ = #[.bool true] from by first | rfl | exact cellsR_set1 | exact cellsR_set0 | exact cellsR_set01 | exact cellsR_set10 | exact boolsR_set HS1.out | exact boolsR_set HS2.out))
           clear q_Hbp
           replace HB := hide (below_to hW (belowAl (belowSc (belowSc (belowSc HB.out _) _) _) _))
           replace Hmk := hide (marks_to hW (MarksOK.alloc_ (MarksOK.set_ (MarksOK.set_ (MarksOK.set_ Hmk.out (by first | (with_reducible exact HN1.out) | (with_reducible exact HN2.out) | (with_reducible exact HN3.out)) _ _) (by first | (with_reducible exact HN1.out) | (with_reducible exact HN2.out) | (with_reducible exact HN3.out)) _ _) (by first | (with_reducible exact HN1.out) | (with_reducible exact HN2.out) | (with_reducible exact HN3.out)) _ _) _))
           replace HZ := hide (size_to hW (size_alloc_ (size_set_ (size_set_ (size_set_ HZ.out _ _) _ _) _ _) _))
           have q_Hbx := blkTo hW (Blk.alloc (blkFa (blkFa (blkFa Hbx.out _) _) _) _)
           replace Hbx := hide q_Hbx
           clear q_Hbx
           replace HKF := hide (keepf_to hW (keepf_alloc (keepf_set (keepf_set (keepf_set HKF.out _ _) _ _) _ _) _))
           replace HKS := hide (kepts_to hW (kepts_alloc (kepts_set (kepts_set (kepts_set HKS.out (HNS.out _ (by first | omega | (simp only [World.size_alloc, World.size_setCell]; omega)) (by first | omega | (simp only [World.size_alloc, World.size_setCell]; omega))) _ _) (HNS.out _ (by first | omega | (simp only [World.size_alloc, World.size_setCell]; omega)) (by first | omega | (simp only [World.size_alloc, World.size_setCell]; omega))) _ _) (HNS.out _ (by first | omega | (simp only [World.size_alloc, World.size_setCell]; omega)) (by first | omega | (simp only [World.size_alloc, World.size_setCell]; omega))) _ _) _))
           have Hbh := hide (blkTo hW (blk_new_at (t := 24) (cs := #[.int .i64 lo, .int .i64 hh']) (g := w7.heap.size) (by simp)))
           have HW8 := hide hW
           clear hW lq_Hq lq_He lq_Hf lq_Hg4 lq_Hbo lq_Hbt lq_Hbp lq_HB lq_Hbx ho
           rw [← finR_zero2] at Hg4
           obtain ⟨ρ2, hρ2⟩ : ∃ ρ2, updR ρ j (ra, rb + 1) = ρ2 := ⟨_, rfl⟩
           rw [hρ2] at Hg4 Hsn2 Hr2 Hr2j
           clear hρ2
           gi_wp2_with fail
           refine code_worldIn fun W9 hW9 => ?_
           obtain rfl : W9 = W8 := by rw [hW9]; exact HW8.out.symm
           clear hW9
           gi_loopw [20] (fun i wr => ∃ i' : Nat, j < i' ∧ i' ≤ G ∧ i = .int .i64 i' ∧ (BI w.heap.size w6.heap.size w Ds [(w.heap.size, 28, #[.string s, .int .i64 sx, .int .i64 sy, .int .i64 z, .int .i64 r, .int .i64 g, .int .i64 st, .int .i64 wd]), (w.heap.size + 1, 24, #[.int .i64 elo, .int .i64 ehi]), (w.heap.size + 2, 33, #[.int .i64 gx, .int .i64 gy, .int .i64 gs, .int .i64 wi, .int .i64 hi, .slice A n c]), (go, 24, cellsR (finR ρ2 j i') G), (bo, 31, #[.slice (some ⟨go, 0, none⟩) G G]), (bt, 3, #[.int .i64 (t - wd + τ)])] wr ∧ KeepsFrom w6.heap.size W wr ∧ KeptS (fun k => k < w.heap.size ∨ (cb ≤ k ∧ k < cb + 4)) W wr)) (fun i _ => G - (intOf i).toNat)
           case atStart => exact ⟨j + 1, by omega, by omega, by go_num, ⟨HB.out, Hmk.out, HZ.out, List.forall_mem_cons.2 ⟨Hq.out, List.forall_mem_cons.2 ⟨He.out, List.forall_mem_cons.2 ⟨Hf.out, List.forall_mem_cons.2 ⟨Hg4.out, List.forall_mem_cons.2 ⟨Hbo.out, List.forall_mem_cons.2 ⟨Hbt.out, fun _ hx => absurd hx List.not_mem_nil⟩⟩⟩⟩⟩⟩⟩, HKF.out, HKS.out⟩
           case round =>
            obtain ⟨i', hi1, hi2, rfl, ⟨hbw, hmk, hsw2, hblk⟩, hkf, hks⟩ := hrel
            obtain ⟨hq, hbk0⟩ := List.forall_mem_cons.1 hblk
            obtain ⟨he, hbk1⟩ := List.forall_mem_cons.1 hbk0
            obtain ⟨hf, hbk2⟩ := List.forall_mem_cons.1 hbk1
            obtain ⟨hg4, hbk3⟩ := List.forall_mem_cons.1 hbk2
            obtain ⟨hbo, hbk4⟩ := List.forall_mem_cons.1 hbk3
            obtain ⟨hbt, hbk5⟩ := List.forall_mem_cons.1 hbk4
            clear hblk hbk0 hbk1 hbk2 hbk3 hbk4 hbk5
            clear Hq He Hf Hg4 Hbo Hbt Hbp HB Hmk HZ HKF HKS Hbx Hbh HW8
            have Hq := hide hq
            have He := hide he
            have Hf := hide hf
            have Hg4 := hide hg4
            have Hbo := hide hbo
            have Hbt := hide hbt
            have HB := hide hbw
            have Hmk := hide hmk
            have HZ := hide hsw2
            have HKF := hide hkf
            have HKS := hide hks
            clear hq he hf hg4 hbo hbt hbw hmk hsw2 hkf hks
            by_cases hil : i' < G
            ·
             have hb2 := Hr2.out i'
             obtain ⟨va, vb, hv⟩ : ∃ va vb, ρ2 i' = (va, vb) := ⟨_, _, rfl⟩
             rw [hv] at hb2
             simp only at hb2
             have cc0 := Hg4.out.c (i' * 2) (v := .int .i64 va) (by rw [cellsR_get0 hil, finR_at hi1, hv])
             have cc1 := Hg4.out.c (i' * 2 + 1) (v := .int .i64 vb) (by rw [cellsR_get1 hil, finR_at hi1, hv])
             have fc0 := Hg4.out.frozen (i' * 2)
             have fc1 := Hg4.out.frozen (i' * 2 + 1)
             have ltg := Hg4.out.lt
             have Hfs := hide (finR_succ (r := ρ2) hi1)
             rw [hv] at Hfs
             have hil2 : (i' : Int) < g := by rw [HG.out]; omega
             have Hv := hide hv
             clear hv
             obtain ⟨q0, q1, q2, q3, q4, q5, q6, q7⟩ := Hq.out.site8
             have ltq := Hq.out.lt
             have o0 := Hbo.out.c 0 rfl
             have lto := Hbo.out.lt
             obtain ⟨W10, hW⟩ : ∃ Wnew, Wnew = ((wr.setCell ⟨go, (i' * 2), none⟩ (.int .i64 (va + 1))).setCell ⟨go, (i' * 2 + 1), none⟩ (.int .i64 (vb + 1))) := ⟨_, rfl⟩
             have lq_Hq := Hq.out.lt
             have lq_He := He.out.lt
             have lq_Hf := Hf.out.lt
             have lq_Hg4 := Hg4.out.lt
             have lq_Hbo := Hbo.out.lt
             have lq_Hbt := Hbt.out.lt
             have lq_HB := HB.out.size
             have ho := HO2.out
             have q_Hq := blkTo hW (blkFa (blkFa Hq.out _) _)
             replace Hq := hide q_Hq
             clear q_Hq
             have q_He := blkTo hW (blkFa (blkFa He.out _) _)
             replace He := hide q_He
             clear q_He
             have q_Hf := blkTo hW (blkFa (blkFa Hf.out _) _)
             replace Hf := hide q_Hf
             clear q_Hf
             have q_Hg4 := blkTo hW (Blk.set_ (Blk.set_ Hg4.out ((i' * 2)) _) ((i' * 2 + 1)) _)
             replace Hg4 := hide (blkOf q_Hg4 (show _ = cellsR (updR (finR ρ2 j i') i' (va + 1, vb + 1)) G from by first | rfl | exact cellsR_set1 | exact cellsR_set0 | exact cellsR_set01 | exact cellsR_set10 | exact boolsR_set HS1.out | exact boolsR_set HS2.out))
             clear q_Hg4
             have q_Hbo := blkTo hW (blkFa (blkFa Hbo.out _) _)
             replace Hbo := hide q_Hbo
             clear q_Hbo
             have q_Hbt := blkTo hW (blkFa (blkFa Hbt.out _) _)
             replace Hbt := hide q_Hbt
             clear q_Hbt
             replace HB := hide (below_to hW (belowSc (belowSc HB.out _) _))
             replace Hmk := hide (marks_to hW (MarksOK.set_ (MarksOK.set_ Hmk.out (by first | (with_reducible exact HN1.out) | (with_reducible exact HN2.out) | (with_reducible exact HN3.out)) _ _) (by first | (with_reducible exact HN1.out) | (with_reducible exact HN2.out) | (with_reducible exact HN3.out)) _ _))
             replace HZ := hide (size_to hW (size_set_ (size_set_ HZ.out _ _) _ _))
             replace HKF := hide (keepf_to hW (keepf_set (keepf_set HKF.out _ _) _ _))
             replace HKS := hide (kepts_to hW (kepts_set (kepts_set HKS.out (HNS.out _ (by first | omega | (simp only [World.size_alloc, World.size_setCell]; omega)) (by first | omega | (simp only [World.size_alloc, World.size_setCell]; omega))) _ _) (HNS.out _ (by first | omega | (simp only [World.size_alloc, World.size_setCell]; omega)) (by first | omega | (simp only [World.size_alloc, World.size_setCell]; omega))) _ _))
             have HW10 := hide hW
             clear hW lq_Hq lq_He lq_Hf lq_Hg4 lq_Hbo lq_Hbt lq_HB ho
             rw [Hfs.out] at Hg4
             gi_wp2
             go_roundw
             case rel =>
              rw [← HW10.out]
              exact ⟨i' + 1, by omega, by omega, by go_num, ⟨HB.out, Hmk.out, HZ.out, List.forall_mem_cons.2 ⟨Hq.out, List.forall_mem_cons.2 ⟨He.out, List.forall_mem_cons.2 ⟨Hf.out, List.forall_mem_cons.2 ⟨Hg4.out, List.forall_mem_cons.2 ⟨Hbo.out, List.forall_mem_cons.2 ⟨Hbt.out, fun _ hx => absurd hx List.not_mem_nil⟩⟩⟩⟩⟩⟩⟩, HKF.out, HKS.out⟩
             case measure => simp [intOf]; omega
            ·
             obtain rfl : i' = G := by omega
             have hil2 : ¬ (i' : Int) < g := by rw [HG.out]; omega
             obtain ⟨q0, q1, q2, q3, q4, q5, q6, q7⟩ := Hq.out.site8
             have ltq := Hq.out.lt
             gi_wp2
             refine ⟨HKF.out, ?_⟩
             rw [HIX.out]
             have hg9 := Hg4.out
             rw [show ρ2 = (runS (cm τ) (rowsZ cs cm τ) (pre ++ [⟨j, hj⟩])).2 by rw [Hsn2.out]] at hg9
             exact ⟨(pre, ⟨j, hj⟩), ⟨HB.out, Hmk.out, HZ.out, List.forall_mem_cons.2 ⟨Hq.out, List.forall_mem_cons.2 ⟨He.out, List.forall_mem_cons.2 ⟨Hf.out, List.forall_mem_cons.2 ⟨hg9, List.forall_mem_cons.2 ⟨Hbo.out, List.forall_mem_cons.2 ⟨Hbt.out, fun _ hx => absurd hx List.not_mem_nil⟩⟩⟩⟩⟩⟩⟩, rfl, rfl, Hct.out, Hno.out⟩
          ·
           have Hcf := hide (Hcs.out.trans (decide_eq_false hs))
           have y0 := Hbp.out.c 0 rfl
           have lty := Hbp.out.lt
           have fy0 := Hbp.out.frozen 0
           obtain ⟨v0, v1⟩ := Hbx.out.c2
           have ltv := Hbx.out.lt
           have o0 := Hbo.out.c 0 rfl
           have lto := Hbo.out.lt
           obtain ⟨q0, q1, q2, q3, q4, q5, q6, q7⟩ := Hq.out.site8
           have ltq := Hq.out.lt
           have cc0 := Hg4.out.c (j * 2) R0.out
           have cc1 := Hg4.out.c (j * 2 + 1) R1.out
           have fc0 := Hg4.out.frozen (j * 2)
           have fc1 := Hg4.out.frozen (j * 2 + 1)
           have ltg := Hg4.out.lt
           obtain ⟨W8, hW⟩ : ∃ Wnew, Wnew = (((w7.setCell ⟨bp, 0, none⟩ (.bool true)).setCell ⟨go, (j * 2 + 1), none⟩ (.int .i64 (rb + 1))).alloc (.cells #[.int .i64 lo, .int .i64 hh'] 24)) := ⟨_, rfl⟩
           have lq_Hq := Hq.out.lt
           have lq_He := He.out.lt
           have lq_Hf := Hf.out.lt
           have lq_Hg4 := Hg4.out.lt
           have lq_Hbo := Hbo.out.lt
           have lq_Hbt := Hbt.out.lt
           have lq_Hbp := Hbp.out.lt
           have lq_HB := HB.out.size
           have lq_Hbx := Hbx.out.lt
           have ho := HO2.out
           have q_Hq := blkTo hW (Blk.alloc (blkFa (blkFa Hq.out _) _) _)
           replace Hq := hide q_Hq
           clear q_Hq
           have q_He := blkTo hW (Blk.alloc (blkFa (blkFa He.out _) _) _)
           replace He := hide q_He
           clear q_He
           have q_Hf := blkTo hW (Blk.alloc (blkFa (blkFa Hf.out _) _) _)
           replace Hf := hide q_Hf
           clear q_Hf
           have q_Hg4 := blkTo hW (Blk.alloc (Blk.set_ (blkFa Hg4.out _) ((j * 2 + 1)) _) _)
           replace Hg4 := hide (blkOf q_Hg4 (show _ = cellsR (updR ρ j ((ρ j).1, rb + 1)) G from by first | rfl | exact cellsR_set1 | exact cellsR_set0 | exact cellsR_set01 | exact cellsR_set10 | exact boolsR_set HS1.out | exact boolsR_set HS2.out))
           clear q_Hg4
           have q_Hbo := blkTo hW (Blk.alloc (blkFa (blkFa Hbo.out _) _) _)
           replace Hbo := hide q_Hbo
           clear q_Hbo
           have q_Hbt := blkTo hW (Blk.alloc (blkFa (blkFa Hbt.out _) _) _)
           replace Hbt := hide q_Hbt
           clear q_Hbt
           have q_Hbp := blkTo hW (Blk.alloc (blkFa (Blk.set_ Hbp.out (0) _) _) _)
           replace Hbp := hide (blkOf q_Hbp (show _ = #[.bool true] from by first | rfl | exact cellsR_set1 | exact cellsR_set0 | exact cellsR_set01 | exact cellsR_set10 | exact boolsR_set HS1.out | exact boolsR_set HS2.out))
           clear q_Hbp
           replace HB := hide (below_to hW (belowAl (belowSc (belowSc HB.out _) _) _))
           replace Hmk := hide (marks_to hW (MarksOK.alloc_ (MarksOK.set_ (MarksOK.set_ Hmk.out (by first | (with_reducible exact HN1.out) | (with_reducible exact HN2.out) | (with_reducible exact HN3.out)) _ _) (by first | (with_reducible exact HN1.out) | (with_reducible exact HN2.out) | (with_reducible exact HN3.out)) _ _) _))
           replace HZ := hide (size_to hW (size_alloc_ (size_set_ (size_set_ HZ.out _ _) _ _) _))
           have q_Hbx := blkTo hW (Blk.alloc (blkFa (blkFa Hbx.out _) _) _)
           replace Hbx := hide q_Hbx
           clear q_Hbx
           replace HKF := hide (keepf_to hW (keepf_alloc (keepf_set (keepf_set HKF.out _ _) _ _) _))
           replace HKS := hide (kepts_to hW (kepts_alloc (kepts_set (kepts_set HKS.out (HNS.out _ (by first | omega | (simp only [World.size_alloc, World.size_setCell]; omega)) (by first | omega | (simp only [World.size_alloc, World.size_setCell]; omega))) _ _) (HNS.out _ (by first | omega | (simp only [World.size_alloc, World.size_setCell]; omega)) (by first | omega | (simp only [World.size_alloc, World.size_setCell]; omega))) _ _) _))
           have Hbh := hide (blkTo hW (blk_new_at (t := 24) (cs := #[.int .i64 lo, .int .i64 hh']) (g := w7.heap.size) (by simp)))
           have HW8 := hide hW
           clear hW lq_Hq lq_He lq_Hf lq_Hg4 lq_Hbo lq_Hbt lq_Hbp lq_HB lq_Hbx ho
           rw [Hrj.out] at Hg4
           gi_wp2
           rw [← HW8.out]
           refine ⟨HKF.out, HKS.out, ?_⟩
           rw [HII.out]
           refine ⟨⟨HB.out, Hmk.out, HZ.out, ?_⟩, fun x hx => ?_⟩
           ·
            rw [Hsn2.out]
            exact List.forall_mem_cons.2 ⟨Hq.out, List.forall_mem_cons.2 ⟨He.out, List.forall_mem_cons.2 ⟨Hf.out, List.forall_mem_cons.2 ⟨Hg4.out, List.forall_mem_cons.2 ⟨Hbo.out, List.forall_mem_cons.2 ⟨Hbt.out, List.forall_mem_cons.2 ⟨Hbp.out, fun _ hx => absurd hx List.not_mem_nil⟩⟩⟩⟩⟩⟩⟩
           ·
            rcases List.mem_append.1 hx with hx | hx
            · exact Hno.out x hx
            ·
             rw [List.mem_singleton.1 hx]
             exact Hcf.out
         | false =>
          by_cases hc : lo ≤ gb
          ·
           have Hsn2 := hide (show runS (cm τ) (rowsZ cs cm τ) (pre ++ [⟨j, hj⟩]) = (true, updR ρ j (ra, rb + 1)) by rw [Hsn.out, Hcm.out, decide_eq_true hc]; simp)
           by_cases hs : hh' ≤ ga
           ·
            have Hct := hide (Hcs.out.trans (decide_eq_true hs))
            have Hr2 := hide (show RowBd (updR ρ j (ra, rb + 1)) τ (τ + pre.length + 1) from updR_bd Hrun.out (by omega) (by omega) (by simp only; omega))
            have hr2j : updR ρ j (ra, rb + 1) j = (ra, rb + 1) := by simp [updR]
            have Hr2j := hide hr2j
            clear hr2j
            have y0 := Hbp.out.c 0 rfl
            have lty := Hbp.out.lt
            have fy0 := Hbp.out.frozen 0
            obtain ⟨v0, v1⟩ := Hbx.out.c2
            have ltv := Hbx.out.lt
            have o0 := Hbo.out.c 0 rfl
            have lto := Hbo.out.lt
            obtain ⟨q0, q1, q2, q3, q4, q5, q6, q7⟩ := Hq.out.site8
            have ltq := Hq.out.lt
            have cc0 := Hg4.out.c (j * 2) R0.out
            have cc1 := Hg4.out.c (j * 2 + 1) R1.out
            have fc0 := Hg4.out.frozen (j * 2)
            have fc1 := Hg4.out.frozen (j * 2 + 1)
            have ltg := Hg4.out.lt
            obtain ⟨W8, hW⟩ : ∃ Wnew, Wnew = ((((w7.setCell ⟨bp, 0, none⟩ (.bool true)).setCell ⟨go, (j * 2 + 1), none⟩ (.int .i64 (rb + 1))).setCell ⟨go, (j * 2), none⟩ (.int .i64 (ra + 1))).alloc (.cells #[.int .i64 lo, .int .i64 hh'] 24)) := ⟨_, rfl⟩
            have lq_Hq := Hq.out.lt
            have lq_He := He.out.lt
            have lq_Hf := Hf.out.lt
            have lq_Hg4 := Hg4.out.lt
            have lq_Hbo := Hbo.out.lt
            have lq_Hbt := Hbt.out.lt
            have lq_Hbp := Hbp.out.lt
            have lq_HB := HB.out.size
            have lq_Hbx := Hbx.out.lt
            have ho := HO2.out
            have q_Hq := blkTo hW (Blk.alloc (blkFa (blkFa (blkFa Hq.out _) _) _) _)
            replace Hq := hide q_Hq
            clear q_Hq
            have q_He := blkTo hW (Blk.alloc (blkFa (blkFa (blkFa He.out _) _) _) _)
            replace He := hide q_He
            clear q_He
            have q_Hf := blkTo hW (Blk.alloc (blkFa (blkFa (blkFa Hf.out _) _) _) _)
            replace Hf := hide q_Hf
            clear q_Hf
            have q_Hg4 := blkTo hW (Blk.alloc (Blk.set_ (Blk.set_ (blkFa Hg4.out _) ((j * 2 + 1)) _) ((j * 2)) _) _)
            replace Hg4 := hide (blkOf q_Hg4 (show _ = cellsR (updR ρ j (ra + 1, rb + 1)) G from by first | rfl | exact cellsR_set1 | exact cellsR_set0 | exact cellsR_set01 | exact cellsR_set10 | exact boolsR_set HS1.out | exact boolsR_set HS2.out))
            clear q_Hg4
            have q_Hbo := blkTo hW (Blk.alloc (blkFa (blkFa (blkFa Hbo.out _) _) _) _)
            replace Hbo := hide q_Hbo
            clear q_Hbo
            have q_Hbt := blkTo hW (Blk.alloc (blkFa (blkFa (blkFa Hbt.out _) _) _) _)
            replace Hbt := hide q_Hbt
            clear q_Hbt
            have q_Hbp := blkTo hW (Blk.alloc (blkFa (blkFa (Blk.set_ Hbp.out (0) _) _) _) _)
            replace Hbp := hide (blkOf q_Hbp (show _ = #[.bool true] from by first | rfl | exact cellsR_set1 | exact cellsR_set0 | exact cellsR_set01 | exact cellsR_set10 | exact boolsR_set HS1.out | exact boolsR_set HS2.out))
            clear q_Hbp
            replace HB := hide (below_to hW (belowAl (belowSc (belowSc (belowSc HB.out _) _) _) _))
            replace Hmk := hide (marks_to hW (MarksOK.alloc_ (MarksOK.set_ (MarksOK.set_ (MarksOK.set_ Hmk.out (by first | (with_reducible exact HN1.out) | (with_reducible exact HN2.out) | (with_reducible exact HN3.out)) _ _) (by first | (with_reducible exact HN1.out) | (with_reducible exact HN2.out) | (with_reducible exact HN3.out)) _ _) (by first | (with_reducible exact HN1.out) | (with_reducible exact HN2.out) | (with_reducible exact HN3.out)) _ _) _))
            replace HZ := hide (size_to hW (size_alloc_ (size_set_ (size_set_ (size_set_ HZ.out _ _) _ _) _ _) _))
            have q_Hbx := blkTo hW (Blk.alloc (blkFa (blkFa (blkFa Hbx.out _) _) _) _)
            replace Hbx := hide q_Hbx
            clear q_Hbx
            replace HKF := hide (keepf_to hW (keepf_alloc (keepf_set (keepf_set (keepf_set HKF.out _ _) _ _) _ _) _))
            replace HKS := hide (kepts_to hW (kepts_alloc (kepts_set (kepts_set (kepts_set HKS.out (HNS.out _ (by first | omega | (simp only [World.size_alloc, World.size_setCell]; omega)) (by first | omega | (simp only [World.size_alloc, World.size_setCell]; omega))) _ _) (HNS.out _ (by first | omega | (simp only [World.size_alloc, World.size_setCell]; omega)) (by first | omega | (simp only [World.size_alloc, World.size_setCell]; omega))) _ _) (HNS.out _ (by first | omega | (simp only [World.size_alloc, World.size_setCell]; omega)) (by first | omega | (simp only [World.size_alloc, World.size_setCell]; omega))) _ _) _))
            have Hbh := hide (blkTo hW (blk_new_at (t := 24) (cs := #[.int .i64 lo, .int .i64 hh']) (g := w7.heap.size) (by simp)))
            have HW8 := hide hW
            clear hW lq_Hq lq_He lq_Hf lq_Hg4 lq_Hbo lq_Hbt lq_Hbp lq_HB lq_Hbx ho
            rw [← finR_zero2] at Hg4
            obtain ⟨ρ2, hρ2⟩ : ∃ ρ2, updR ρ j (ra, rb + 1) = ρ2 := ⟨_, rfl⟩
            rw [hρ2] at Hg4 Hsn2 Hr2 Hr2j
            clear hρ2
            gi_wp2_with fail
            refine code_worldIn fun W9 hW9 => ?_
            obtain rfl : W9 = W8 := by rw [hW9]; exact HW8.out.symm
            clear hW9
            gi_loopw [20] (fun i wr => ∃ i' : Nat, j < i' ∧ i' ≤ G ∧ i = .int .i64 i' ∧ (BI w.heap.size w6.heap.size w Ds [(w.heap.size, 28, #[.string s, .int .i64 sx, .int .i64 sy, .int .i64 z, .int .i64 r, .int .i64 g, .int .i64 st, .int .i64 wd]), (w.heap.size + 1, 24, #[.int .i64 elo, .int .i64 ehi]), (w.heap.size + 2, 33, #[.int .i64 gx, .int .i64 gy, .int .i64 gs, .int .i64 wi, .int .i64 hi, .slice A n c]), (go, 24, cellsR (finR ρ2 j i') G), (bo, 31, #[.slice (some ⟨go, 0, none⟩) G G]), (bt, 3, #[.int .i64 (t - wd + τ)])] wr ∧ KeepsFrom w6.heap.size W wr ∧ KeptS (fun k => k < w.heap.size ∨ (cb ≤ k ∧ k < cb + 4)) W wr)) (fun i _ => G - (intOf i).toNat)
            case atStart => exact ⟨j + 1, by omega, by omega, by go_num, ⟨HB.out, Hmk.out, HZ.out, List.forall_mem_cons.2 ⟨Hq.out, List.forall_mem_cons.2 ⟨He.out, List.forall_mem_cons.2 ⟨Hf.out, List.forall_mem_cons.2 ⟨Hg4.out, List.forall_mem_cons.2 ⟨Hbo.out, List.forall_mem_cons.2 ⟨Hbt.out, fun _ hx => absurd hx List.not_mem_nil⟩⟩⟩⟩⟩⟩⟩, HKF.out, HKS.out⟩
            case round =>
             obtain ⟨i', hi1, hi2, rfl, ⟨hbw, hmk, hsw2, hblk⟩, hkf, hks⟩ := hrel
             obtain ⟨hq, hbk0⟩ := List.forall_mem_cons.1 hblk
             obtain ⟨he, hbk1⟩ := List.forall_mem_cons.1 hbk0
             obtain ⟨hf, hbk2⟩ := List.forall_mem_cons.1 hbk1
             obtain ⟨hg4, hbk3⟩ := List.forall_mem_cons.1 hbk2
             obtain ⟨hbo, hbk4⟩ := List.forall_mem_cons.1 hbk3
             obtain ⟨hbt, hbk5⟩ := List.forall_mem_cons.1 hbk4
             clear hblk hbk0 hbk1 hbk2 hbk3 hbk4 hbk5
             clear Hq He Hf Hg4 Hbo Hbt Hbp HB Hmk HZ HKF HKS Hbx Hbh HW8
             have Hq := hide hq
             have He := hide he
             have Hf := hide hf
             have Hg4 := hide hg4
             have Hbo := hide hbo
             have Hbt := hide hbt
             have HB := hide hbw
             have Hmk := hide hmk
             have HZ := hide hsw2
             have HKF := hide hkf
             have HKS := hide hks
             clear hq he hf hg4 hbo hbt hbw hmk hsw2 hkf hks
             by_cases hil : i' < G
             ·
              have hb2 := Hr2.out i'
              obtain ⟨va, vb, hv⟩ : ∃ va vb, ρ2 i' = (va, vb) := ⟨_, _, rfl⟩
              rw [hv] at hb2
              simp only at hb2
              have cc0 := Hg4.out.c (i' * 2) (v := .int .i64 va) (by rw [cellsR_get0 hil, finR_at hi1, hv])
              have cc1 := Hg4.out.c (i' * 2 + 1) (v := .int .i64 vb) (by rw [cellsR_get1 hil, finR_at hi1, hv])
              have fc0 := Hg4.out.frozen (i' * 2)
              have fc1 := Hg4.out.frozen (i' * 2 + 1)
              have ltg := Hg4.out.lt
              have Hfs := hide (finR_succ (r := ρ2) hi1)
              rw [hv] at Hfs
              have hil2 : (i' : Int) < g := by rw [HG.out]; omega
              have Hv := hide hv
              clear hv
              obtain ⟨q0, q1, q2, q3, q4, q5, q6, q7⟩ := Hq.out.site8
              have ltq := Hq.out.lt
              have o0 := Hbo.out.c 0 rfl
              have lto := Hbo.out.lt
              obtain ⟨W10, hW⟩ : ∃ Wnew, Wnew = ((wr.setCell ⟨go, (i' * 2), none⟩ (.int .i64 (va + 1))).setCell ⟨go, (i' * 2 + 1), none⟩ (.int .i64 (vb + 1))) := ⟨_, rfl⟩
              have lq_Hq := Hq.out.lt
              have lq_He := He.out.lt
              have lq_Hf := Hf.out.lt
              have lq_Hg4 := Hg4.out.lt
              have lq_Hbo := Hbo.out.lt
              have lq_Hbt := Hbt.out.lt
              have lq_HB := HB.out.size
              have ho := HO2.out
              have q_Hq := blkTo hW (blkFa (blkFa Hq.out _) _)
              replace Hq := hide q_Hq
              clear q_Hq
              have q_He := blkTo hW (blkFa (blkFa He.out _) _)
              replace He := hide q_He
              clear q_He
              have q_Hf := blkTo hW (blkFa (blkFa Hf.out _) _)
              replace Hf := hide q_Hf
              clear q_Hf
              have q_Hg4 := blkTo hW (Blk.set_ (Blk.set_ Hg4.out ((i' * 2)) _) ((i' * 2 + 1)) _)
              replace Hg4 := hide (blkOf q_Hg4 (show _ = cellsR (updR (finR ρ2 j i') i' (va + 1, vb + 1)) G from by first | rfl | exact cellsR_set1 | exact cellsR_set0 | exact cellsR_set01 | exact cellsR_set10 | exact boolsR_set HS1.out | exact boolsR_set HS2.out))
              clear q_Hg4
              have q_Hbo := blkTo hW (blkFa (blkFa Hbo.out _) _)
              replace Hbo := hide q_Hbo
              clear q_Hbo
              have q_Hbt := blkTo hW (blkFa (blkFa Hbt.out _) _)
              replace Hbt := hide q_Hbt
              clear q_Hbt
              replace HB := hide (below_to hW (belowSc (belowSc HB.out _) _))
              replace Hmk := hide (marks_to hW (MarksOK.set_ (MarksOK.set_ Hmk.out (by first | (with_reducible exact HN1.out) | (with_reducible exact HN2.out) | (with_reducible exact HN3.out)) _ _) (by first | (with_reducible exact HN1.out) | (with_reducible exact HN2.out) | (with_reducible exact HN3.out)) _ _))
              replace HZ := hide (size_to hW (size_set_ (size_set_ HZ.out _ _) _ _))
              replace HKF := hide (keepf_to hW (keepf_set (keepf_set HKF.out _ _) _ _))
              replace HKS := hide (kepts_to hW (kepts_set (kepts_set HKS.out (HNS.out _ (by first | omega | (simp only [World.size_alloc, World.size_setCell]; omega)) (by first | omega | (simp only [World.size_alloc, World.size_setCell]; omega))) _ _) (HNS.out _ (by first | omega | (simp only [World.size_alloc, World.size_setCell]; omega)) (by first | omega | (simp only [World.size_alloc, World.size_setCell]; omega))) _ _))
              have HW10 := hide hW
              clear hW lq_Hq lq_He lq_Hf lq_Hg4 lq_Hbo lq_Hbt lq_HB ho
              rw [Hfs.out] at Hg4
              gi_wp2
              go_roundw
              case rel =>
               rw [← HW10.out]
               exact ⟨i' + 1, by omega, by omega, by go_num, ⟨HB.out, Hmk.out, HZ.out, List.forall_mem_cons.2 ⟨Hq.out, List.forall_mem_cons.2 ⟨He.out, List.forall_mem_cons.2 ⟨Hf.out, List.forall_mem_cons.2 ⟨Hg4.out, List.forall_mem_cons.2 ⟨Hbo.out, List.forall_mem_cons.2 ⟨Hbt.out, fun _ hx => absurd hx List.not_mem_nil⟩⟩⟩⟩⟩⟩⟩, HKF.out, HKS.out⟩
              case measure => simp [intOf]; omega
             ·
              obtain rfl : i' = G := by omega
              have hil2 : ¬ (i' : Int) < g := by rw [HG.out]; omega
              obtain ⟨q0, q1, q2, q3, q4, q5, q6, q7⟩ := Hq.out.site8
              have ltq := Hq.out.lt
              gi_wp2
              refine ⟨HKF.out, ?_⟩
              rw [HIX.out]
              have hg9 := Hg4.out
              rw [show ρ2 = (runS (cm τ) (rowsZ cs cm τ) (pre ++ [⟨j, hj⟩])).2 by rw [Hsn2.out]] at hg9
              exact ⟨(pre, ⟨j, hj⟩), ⟨HB.out, Hmk.out, HZ.out, List.forall_mem_cons.2 ⟨Hq.out, List.forall_mem_cons.2 ⟨He.out, List.forall_mem_cons.2 ⟨Hf.out, List.forall_mem_cons.2 ⟨hg9, List.forall_mem_cons.2 ⟨Hbo.out, List.forall_mem_cons.2 ⟨Hbt.out, fun _ hx => absurd hx List.not_mem_nil⟩⟩⟩⟩⟩⟩⟩, rfl, rfl, Hct.out, Hno.out⟩
           ·
            have Hcf := hide (Hcs.out.trans (decide_eq_false hs))
            have y0 := Hbp.out.c 0 rfl
            have lty := Hbp.out.lt
            have fy0 := Hbp.out.frozen 0
            obtain ⟨v0, v1⟩ := Hbx.out.c2
            have ltv := Hbx.out.lt
            have o0 := Hbo.out.c 0 rfl
            have lto := Hbo.out.lt
            obtain ⟨q0, q1, q2, q3, q4, q5, q6, q7⟩ := Hq.out.site8
            have ltq := Hq.out.lt
            have cc0 := Hg4.out.c (j * 2) R0.out
            have cc1 := Hg4.out.c (j * 2 + 1) R1.out
            have fc0 := Hg4.out.frozen (j * 2)
            have fc1 := Hg4.out.frozen (j * 2 + 1)
            have ltg := Hg4.out.lt
            obtain ⟨W8, hW⟩ : ∃ Wnew, Wnew = (((w7.setCell ⟨bp, 0, none⟩ (.bool true)).setCell ⟨go, (j * 2 + 1), none⟩ (.int .i64 (rb + 1))).alloc (.cells #[.int .i64 lo, .int .i64 hh'] 24)) := ⟨_, rfl⟩
            have lq_Hq := Hq.out.lt
            have lq_He := He.out.lt
            have lq_Hf := Hf.out.lt
            have lq_Hg4 := Hg4.out.lt
            have lq_Hbo := Hbo.out.lt
            have lq_Hbt := Hbt.out.lt
            have lq_Hbp := Hbp.out.lt
            have lq_HB := HB.out.size
            have lq_Hbx := Hbx.out.lt
            have ho := HO2.out
            have q_Hq := blkTo hW (Blk.alloc (blkFa (blkFa Hq.out _) _) _)
            replace Hq := hide q_Hq
            clear q_Hq
            have q_He := blkTo hW (Blk.alloc (blkFa (blkFa He.out _) _) _)
            replace He := hide q_He
            clear q_He
            have q_Hf := blkTo hW (Blk.alloc (blkFa (blkFa Hf.out _) _) _)
            replace Hf := hide q_Hf
            clear q_Hf
            have q_Hg4 := blkTo hW (Blk.alloc (Blk.set_ (blkFa Hg4.out _) ((j * 2 + 1)) _) _)
            replace Hg4 := hide (blkOf q_Hg4 (show _ = cellsR (updR ρ j ((ρ j).1, rb + 1)) G from by first | rfl | exact cellsR_set1 | exact cellsR_set0 | exact cellsR_set01 | exact cellsR_set10 | exact boolsR_set HS1.out | exact boolsR_set HS2.out))
            clear q_Hg4
            have q_Hbo := blkTo hW (Blk.alloc (blkFa (blkFa Hbo.out _) _) _)
            replace Hbo := hide q_Hbo
            clear q_Hbo
            have q_Hbt := blkTo hW (Blk.alloc (blkFa (blkFa Hbt.out _) _) _)
            replace Hbt := hide q_Hbt
            clear q_Hbt
            have q_Hbp := blkTo hW (Blk.alloc (blkFa (Blk.set_ Hbp.out (0) _) _) _)
            replace Hbp := hide (blkOf q_Hbp (show _ = #[.bool true] from by first | rfl | exact cellsR_set1 | exact cellsR_set0 | exact cellsR_set01 | exact cellsR_set10 | exact boolsR_set HS1.out | exact boolsR_set HS2.out))
            clear q_Hbp
            replace HB := hide (below_to hW (belowAl (belowSc (belowSc HB.out _) _) _))
            replace Hmk := hide (marks_to hW (MarksOK.alloc_ (MarksOK.set_ (MarksOK.set_ Hmk.out (by first | (with_reducible exact HN1.out) | (with_reducible exact HN2.out) | (with_reducible exact HN3.out)) _ _) (by first | (with_reducible exact HN1.out) | (with_reducible exact HN2.out) | (with_reducible exact HN3.out)) _ _) _))
            replace HZ := hide (size_to hW (size_alloc_ (size_set_ (size_set_ HZ.out _ _) _ _) _))
            have q_Hbx := blkTo hW (Blk.alloc (blkFa (blkFa Hbx.out _) _) _)
            replace Hbx := hide q_Hbx
            clear q_Hbx
            replace HKF := hide (keepf_to hW (keepf_alloc (keepf_set (keepf_set HKF.out _ _) _ _) _))
            replace HKS := hide (kepts_to hW (kepts_alloc (kepts_set (kepts_set HKS.out (HNS.out _ (by first | omega | (simp only [World.size_alloc, World.size_setCell]; omega)) (by first | omega | (simp only [World.size_alloc, World.size_setCell]; omega))) _ _) (HNS.out _ (by first | omega | (simp only [World.size_alloc, World.size_setCell]; omega)) (by first | omega | (simp only [World.size_alloc, World.size_setCell]; omega))) _ _) _))
            have Hbh := hide (blkTo hW (blk_new_at (t := 24) (cs := #[.int .i64 lo, .int .i64 hh']) (g := w7.heap.size) (by simp)))
            have HW8 := hide hW
            clear hW lq_Hq lq_He lq_Hf lq_Hg4 lq_Hbo lq_Hbt lq_Hbp lq_HB lq_Hbx ho
            rw [Hrj.out] at Hg4
            gi_wp2
            rw [← HW8.out]
            refine ⟨HKF.out, HKS.out, ?_⟩
            rw [HII.out]
            refine ⟨⟨HB.out, Hmk.out, HZ.out, ?_⟩, fun x hx => ?_⟩
            ·
             rw [Hsn2.out]
             exact List.forall_mem_cons.2 ⟨Hq.out, List.forall_mem_cons.2 ⟨He.out, List.forall_mem_cons.2 ⟨Hf.out, List.forall_mem_cons.2 ⟨Hg4.out, List.forall_mem_cons.2 ⟨Hbo.out, List.forall_mem_cons.2 ⟨Hbt.out, List.forall_mem_cons.2 ⟨Hbp.out, fun _ hx => absurd hx List.not_mem_nil⟩⟩⟩⟩⟩⟩⟩
            ·
             rcases List.mem_append.1 hx with hx | hx
             · exact Hno.out x hx
             ·
              rw [List.mem_singleton.1 hx]
              exact Hcf.out
          ·
           have hcf : cs τ j = false := by
            cases hq : cs τ j with
            | false => rfl
            | true =>
             have := Hsj.out hq
             rw [Hcm.out, decide_eq_false hc] at this
             cases this
           have Hcf := hide hcf
           have hs : ¬ hh' ≤ ga := fun h => by
            have := Hcs.out
            rw [hcf, decide_eq_true h] at this
            cases this
           clear hcf
           have Hsn2 := hide (show runS (cm τ) (rowsZ cs cm τ) (pre ++ [⟨j, hj⟩]) = (false, ρ) by rw [Hsn.out, Hcm.out, decide_eq_false hc]; simp)
           have hcd : decide (lo ≤ gb) = false := decide_eq_false hc
           have y0 := Hbp.out.c 0 rfl
           have lty := Hbp.out.lt
           have fy0 := Hbp.out.frozen 0
           obtain ⟨v0, v1⟩ := Hbx.out.c2
           have ltv := Hbx.out.lt
           have o0 := Hbo.out.c 0 rfl
           have lto := Hbo.out.lt
           obtain ⟨q0, q1, q2, q3, q4, q5, q6, q7⟩ := Hq.out.site8
           have ltq := Hq.out.lt
           have cc0 := Hg4.out.c (j * 2) R0.out
           have cc1 := Hg4.out.c (j * 2 + 1) R1.out
           have fc0 := Hg4.out.frozen (j * 2)
           have fc1 := Hg4.out.frozen (j * 2 + 1)
           have ltg := Hg4.out.lt
           obtain ⟨W8, hW⟩ : ∃ Wnew, Wnew = ((w7.setCell ⟨bp, 0, none⟩ (.bool false)).alloc (.cells #[.int .i64 lo, .int .i64 hh'] 24)) := ⟨_, rfl⟩
           have lq_Hq := Hq.out.lt
           have lq_He := He.out.lt
           have lq_Hf := Hf.out.lt
           have lq_Hg4 := Hg4.out.lt
           have lq_Hbo := Hbo.out.lt
           have lq_Hbt := Hbt.out.lt
           have lq_Hbp := Hbp.out.lt
           have lq_HB := HB.out.size
           have lq_Hbx := Hbx.out.lt
           have ho := HO2.out
           have q_Hq := blkTo hW (Blk.alloc (blkFa Hq.out _) _)
           replace Hq := hide q_Hq
           clear q_Hq
           have q_He := blkTo hW (Blk.alloc (blkFa He.out _) _)
           replace He := hide q_He
           clear q_He
           have q_Hf := blkTo hW (Blk.alloc (blkFa Hf.out _) _)
           replace Hf := hide q_Hf
           clear q_Hf
           have q_Hg4 := blkTo hW (Blk.alloc (blkFa Hg4.out _) _)
           replace Hg4 := hide q_Hg4
           clear q_Hg4
           have q_Hbo := blkTo hW (Blk.alloc (blkFa Hbo.out _) _)
           replace Hbo := hide q_Hbo
           clear q_Hbo
           have q_Hbt := blkTo hW (Blk.alloc (blkFa Hbt.out _) _)
           replace Hbt := hide q_Hbt
           clear q_Hbt
           have q_Hbp := blkTo hW (Blk.alloc (Blk.set_ Hbp.out (0) _) _)
           replace Hbp := hide (blkOf q_Hbp (show _ = #[.bool false] from by first | rfl | exact cellsR_set1 | exact cellsR_set0 | exact cellsR_set01 | exact cellsR_set10 | exact boolsR_set HS1.out | exact boolsR_set HS2.out))
           clear q_Hbp
           replace HB := hide (below_to hW (belowAl (belowSc HB.out _) _))
           replace Hmk := hide (marks_to hW (MarksOK.alloc_ (MarksOK.set_ Hmk.out (by first | (with_reducible exact HN1.out) | (with_reducible exact HN2.out) | (with_reducible exact HN3.out)) _ _) _))
           replace HZ := hide (size_to hW (size_alloc_ (size_set_ HZ.out _ _) _))
           have q_Hbx := blkTo hW (Blk.alloc (blkFa Hbx.out _) _)
           replace Hbx := hide q_Hbx
           clear q_Hbx
           replace HKF := hide (keepf_to hW (keepf_alloc (keepf_set HKF.out _ _) _))
           replace HKS := hide (kepts_to hW (kepts_alloc (kepts_set HKS.out (HNS.out _ (by first | omega | (simp only [World.size_alloc, World.size_setCell]; omega)) (by first | omega | (simp only [World.size_alloc, World.size_setCell]; omega))) _ _) _))
           have Hbh := hide (blkTo hW (blk_new_at (t := 24) (cs := #[.int .i64 lo, .int .i64 hh']) (g := w7.heap.size) (by simp)))
           have HW8 := hide hW
           clear hW lq_Hq lq_He lq_Hf lq_Hg4 lq_Hbo lq_Hbt lq_Hbp lq_HB lq_Hbx ho
           gi_wp2
           rw [← HW8.out]
           refine ⟨HKF.out, HKS.out, ?_⟩
           rw [HII.out]
           refine ⟨⟨HB.out, Hmk.out, HZ.out, ?_⟩, fun x hx => ?_⟩
           ·
            rw [Hsn2.out]
            exact List.forall_mem_cons.2 ⟨Hq.out, List.forall_mem_cons.2 ⟨He.out, List.forall_mem_cons.2 ⟨Hf.out, List.forall_mem_cons.2 ⟨Hg4.out, List.forall_mem_cons.2 ⟨Hbo.out, List.forall_mem_cons.2 ⟨Hbt.out, List.forall_mem_cons.2 ⟨Hbp.out, fun _ hx => absurd hx List.not_mem_nil⟩⟩⟩⟩⟩⟩⟩
           ·
            rcases List.mem_append.1 hx with hx | hx
            · exact Hno.out x hx
            ·
             rw [List.mem_singleton.1 hx]
             exact Hcf.out
        case done =>
         intro D xs W hD hxs hi hdd
         subst hxs
         rw [HII.out] at hi
         obtain ⟨⟨hbw, hmk, hsw, hblk⟩, hno⟩ := hi
         obtain ⟨hq, hbk0⟩ := List.forall_mem_cons.1 hblk
         obtain ⟨he, hbk1⟩ := List.forall_mem_cons.1 hbk0
         obtain ⟨hf, hbk2⟩ := List.forall_mem_cons.1 hbk1
         obtain ⟨hg4, hbk3⟩ := List.forall_mem_cons.1 hbk2
         obtain ⟨hbo, hbk4⟩ := List.forall_mem_cons.1 hbk3
         obtain ⟨hbt, hbk5⟩ := List.forall_mem_cons.1 hbk4
         obtain ⟨hbp, hbk6⟩ := List.forall_mem_cons.1 hbk5
         clear hblk hbk0 hbk1 hbk2 hbk3 hbk4 hbk5 hbk6
         replace hg4 := blkOf hg4 (cellsR_congr (r' := rowsZ cs cm (τ + 1)) (thread_all fun i hi => hno ⟨i, hi⟩ (List.mem_finRange _)))
         have hblt := hbt.lt
         clear hbp hno
         replace hmk := hmk.cons (fun hDm => by have := hmlt D hDm; omega) (by omega) hdd
         clear Hq He Hf Hg4 Hbo Hbt Hbp HB Hmk C0 C1 C2 C3 hst hmlt hbs hdd hblt
         have Hq := hide hq
         have He := hide he
         have Hf := hide hf
         have Hg4 := hide hg4
         have Hbo := hide hbo
         have Hbt := hide hbt
         have HB := hide hbw
         have Hmk := hide hmk
         clear hq he hf hg4 hbo hbt hbw hmk
         have HN3 := hide (show W.heap.size ∉ D :: Ds from fun hDm => Nat.lt_irrefl _ (Hmk.out.lt _ hDm))
         have x0 := Hbt.out.c 0 rfl
         have ltx := Hbt.out.lt
         have hbig : -9 ≤ t - wd + (τ : Int) := by omega
         obtain ⟨W7, hW⟩ : ∃ Wnew, Wnew = (W.alloc (.cells #[.int .i64 (t - wd + τ + 1)] 3)) := ⟨_, rfl⟩
         have lq_Hq := Hq.out.lt
         have lq_He := He.out.lt
         have lq_Hf := Hf.out.lt
         have lq_Hg4 := Hg4.out.lt
         have lq_Hbo := Hbo.out.lt
         have lq_Hbt := Hbt.out.lt
         have lq_HB := HB.out.size
         have ho := HO.out
         have q_Hq := blkTo hW (Blk.alloc Hq.out _)
         replace Hq := hide q_Hq
         clear q_Hq
         have q_He := blkTo hW (Blk.alloc He.out _)
         replace He := hide q_He
         clear q_He
         have q_Hf := blkTo hW (Blk.alloc Hf.out _)
         replace Hf := hide q_Hf
         clear q_Hf
         have q_Hg4 := blkTo hW (Blk.alloc Hg4.out _)
         replace Hg4 := hide q_Hg4
         clear q_Hg4
         have q_Hbo := blkTo hW (Blk.alloc Hbo.out _)
         replace Hbo := hide q_Hbo
         clear q_Hbo
         have q_Hbt := blkTo hW (Blk.alloc Hbt.out _)
         replace Hbt := hide q_Hbt
         clear q_Hbt
         replace HB := hide (below_to hW (belowAl HB.out _))
         replace Hmk := hide (marks_to hW (MarksOK.alloc_ Hmk.out _))
         have Hbn := hide (blkTo hW (blk_new_at (t := 3) (cs := #[.int .i64 (t - wd + τ + 1)]) (g := W.heap.size) (by simp)))
         have HW7 := hide hW
         clear hW lq_Hq lq_He lq_Hf lq_Hg4 lq_Hbo lq_Hbt lq_HB ho
         go_wp2
         refine ⟨?_, ?_⟩
         ·
          rw [HINV.out, ← HW7.out]
          iterate 124 (apply Exists.intro)
          refine ⟨τ + 1, W.heap.size, D :: Ds, by omega, by rw [List.length_cons, Hlen.out], by omega, ?_, rfl⟩
          have hbn := Hbn.out
          rw [show t - wd + (τ : Int) + 1 = t - wd + ((τ + 1 : Nat) : Int) by omega] at hbn
          exact ⟨HB.out, Hmk.out, HB.out.size, List.forall_mem_cons.2 ⟨Hq.out, List.forall_mem_cons.2 ⟨He.out, List.forall_mem_cons.2 ⟨Hf.out, List.forall_mem_cons.2 ⟨Hg4.out, List.forall_mem_cons.2 ⟨Hbo.out, List.forall_mem_cons.2 ⟨hbn, fun _ hx => absurd hx List.not_mem_nil⟩⟩⟩⟩⟩⟩⟩
         ·
          have := Hlen.out
          (try simp only [List.length_cons, List.length_map])
          omega
        case stop =>
         intro D jc pre W hD hpre hix hdd
         rw [HIX.out] at hix
         obtain ⟨⟨q, x⟩, ⟨hbw, hmk, hsw, hblk⟩, rfl, rfl, hcx, hqn⟩ := hix
         obtain ⟨hq, hbk0⟩ := List.forall_mem_cons.1 hblk
         obtain ⟨he, hbk1⟩ := List.forall_mem_cons.1 hbk0
         obtain ⟨hf, hbk2⟩ := List.forall_mem_cons.1 hbk1
         obtain ⟨hg4, hbk3⟩ := List.forall_mem_cons.1 hbk2
         obtain ⟨hbo, hbk4⟩ := List.forall_mem_cons.1 hbk3
         obtain ⟨hbt, hbk5⟩ := List.forall_mem_cons.1 hbk4
         clear hblk hbk0 hbk1 hbk2 hbk3 hbk4 hbk5
         obtain ⟨hp1, hp2⟩ := pre_fin hpre
         rw [hp1] at hg4
         replace hg4 := blkOf hg4 (cellsR_congr (r' := rowsZ cs cm (τ + 1)) (thread_stop x.isLt (fun i hi => by obtain ⟨y, hy, rfl⟩ := hp2 i hi; exact hqn y hy) hcx (Hsc.out _ x.isLt hcx)))
         have hblt := hbt.lt
         clear hpre hp1 hp2 hcx hqn
         replace hmk := hmk.cons (fun hDm => by have := hmlt D hDm; omega) (by omega) hdd
         clear Hq He Hf Hg4 Hbo Hbt Hbp HB Hmk C0 C1 C2 C3 hst hmlt hbs hdd hblt
         have Hq := hide hq
         have He := hide he
         have Hf := hide hf
         have Hg4 := hide hg4
         have Hbo := hide hbo
         have Hbt := hide hbt
         have HB := hide hbw
         have Hmk := hide hmk
         clear hq he hf hg4 hbo hbt hbw hmk
         have HN3 := hide (show W.heap.size ∉ D :: Ds from fun hDm => Nat.lt_irrefl _ (Hmk.out.lt _ hDm))
         have x0 := Hbt.out.c 0 rfl
         have ltx := Hbt.out.lt
         have hbig : -9 ≤ t - wd + (τ : Int) := by omega
         obtain ⟨W7, hW⟩ : ∃ Wnew, Wnew = (W.alloc (.cells #[.int .i64 (t - wd + τ + 1)] 3)) := ⟨_, rfl⟩
         have lq_Hq := Hq.out.lt
         have lq_He := He.out.lt
         have lq_Hf := Hf.out.lt
         have lq_Hg4 := Hg4.out.lt
         have lq_Hbo := Hbo.out.lt
         have lq_Hbt := Hbt.out.lt
         have lq_HB := HB.out.size
         have ho := HO.out
         have q_Hq := blkTo hW (Blk.alloc Hq.out _)
         replace Hq := hide q_Hq
         clear q_Hq
         have q_He := blkTo hW (Blk.alloc He.out _)
         replace He := hide q_He
         clear q_He
         have q_Hf := blkTo hW (Blk.alloc Hf.out _)
         replace Hf := hide q_Hf
         clear q_Hf
         have q_Hg4 := blkTo hW (Blk.alloc Hg4.out _)
         replace Hg4 := hide q_Hg4
         clear q_Hg4
         have q_Hbo := blkTo hW (Blk.alloc Hbo.out _)
         replace Hbo := hide q_Hbo
         clear q_Hbo
         have q_Hbt := blkTo hW (Blk.alloc Hbt.out _)
         replace Hbt := hide q_Hbt
         clear q_Hbt
         replace HB := hide (below_to hW (belowAl HB.out _))
         replace Hmk := hide (marks_to hW (MarksOK.alloc_ Hmk.out _))
         have Hbn := hide (blkTo hW (blk_new_at (t := 3) (cs := #[.int .i64 (t - wd + τ + 1)]) (g := W.heap.size) (by simp)))
         have HW7 := hide hW
         clear hW lq_Hq lq_He lq_Hf lq_Hg4 lq_Hbo lq_Hbt lq_HB ho
         go_wp2
         refine ⟨?_, ?_⟩
         ·
          rw [HINV.out, ← HW7.out]
          iterate 124 (apply Exists.intro)
          refine ⟨τ + 1, W.heap.size, D :: Ds, by omega, by rw [List.length_cons, Hlen.out], by omega, ?_, rfl⟩
          have hbn := Hbn.out
          rw [show t - wd + (τ : Int) + 1 = t - wd + ((τ + 1 : Nat) : Int) by omega] at hbn
          exact ⟨HB.out, Hmk.out, HB.out.size, List.forall_mem_cons.2 ⟨Hq.out, List.forall_mem_cons.2 ⟨He.out, List.forall_mem_cons.2 ⟨Hf.out, List.forall_mem_cons.2 ⟨Hg4.out, List.forall_mem_cons.2 ⟨Hbo.out, List.forall_mem_cons.2 ⟨hbn, fun _ hx => absurd hx List.not_mem_nil⟩⟩⟩⟩⟩⟩⟩
         ·
          have := Hlen.out
          (try simp only [List.length_cons, List.length_map])
          omega
       ·
        obtain rfl : τ = K := by omega
        have hle2 : ¬ t - wd + (τ : Int) ≤ t + wd := by omega
        have Hlen := hide hlen
        clear hlen
        have x0 := Hbt.out.c 0 rfl
        have ltx := Hbt.out.lt
        obtain ⟨q0, q1, q2, q3, q4, q5, q6, q7⟩ := Hq.out.site8
        have ltq := Hq.out.lt
        have y0 := Hbo.out.c 0 rfl
        have lty := Hbo.out.lt
        go_wp2
        refine leaves_marks Ds wr Hmk.out HB.out.size fun w' hbw' hcells => ?_
        have hg' := hcells _ _ _ Hg4.out
        refine ⟨.tuple #[.slice (some ⟨go, 0, none⟩) G G, .int .i64 0], by simp [results, Try.results7, go_sem], some ⟨go, 0, none⟩, G, by rw [if_pos rfl], HB.out.trans hbw', fun _ => ?_⟩
        exact ⟨ints_row hg', go, rfl, by omega⟩
     ·
      have g4 : winB ray 0 (4 * r - 1) = false := by simpa using g3
      have hE : blockE 0 0 t elo ehi ray r = 3 := by unfold blockE; simp [g4]
      rw [hE]
      clear hE g3
      have hne : (3 : Int) ≠ 0 := by omega
      have Hsz := hide hsz
      have Hall := hide hall
      clear hsz hall
      have Hg1 := hide g1
      have Hg2 := hide g2
      have Hg3 := hide g4
      clear g1 g2 g4
      go_enter Try.func7, Try.ntmps7
      have HB := hide (Below.refl w.heap.size w)
      go_wp2_with fail
      go_step3
      go_wp2_with fail
      refine at_world fun W hW => ?_
      have bq0 : Blk W w.heap.size 28 #[.string s, .int .i64 sx, .int .i64 sy, .int .i64 z, .int .i64 r, .int .i64 g, .int .i64 st, .int .i64 wd] := by rw [hW]; exact ((Blk.new _ _ _).alloc _).alloc _
      have bq1 : Blk W (w.heap.size + 1) 24 #[.int .i64 elo, .int .i64 ehi] := by rw [hW]; exact (blk_new_at (by simp)).alloc _
      have bq2 : Blk W (w.heap.size + 2) 33 #[.int .i64 gx, .int .i64 gy, .int .i64 gs, .int .i64 wi, .int .i64 hi, .slice A n c] := by rw [hW]; exact blk_new_at (by simp)
      have LW : Later w W := by rw [hW]; exact ((((Below.refl _ _).alloc (Nat.le_refl _) _).alloc (by simp; try omega) _).alloc (by simp; try omega) _)
      have szW : W.heap.size = w.heap.size + 3 := by rw [hW]; simp
      clear hW
      replace Hl := hide ((Ints.below Hl.out LW).more (Below.size LW))
      replace HB := hide (onward HB.out LW)
      have Hq := hide bq0
      have He := hide bq1
      have Hf := hide bq2
      clear bq0 bq1 bq2 LW szW
      refine (Hcs.out _).mono ?_
      rintro e w1 ⟨rfl, hb⟩
      replace Hl := hide ((Ints.below Hl.out hb).more (Below.size hb))
      replace HB := hide (onward HB.out hb)
      replace Hq := hide (blk_later Hq.out hb)
      replace He := hide (blk_later He.out hb)
      replace Hf := hide (blk_later Hf.out hb)
      clear hb
      obtain ⟨e0, e1, e2, e3, e4, e5⟩ := Hf.out.c6
      have ltf := Hf.out.lt
      go_wp2_with fail
      clear e0 e1 e2 e3 e4 e5 ltf
      refine (Hck.out _ Hl.out).mono ?_
      rintro e w2 ⟨rfl, hb⟩
      replace Hl := hide ((Ints.below Hl.out hb).more (Below.size hb))
      replace HB := hide (onward HB.out hb)
      replace Hq := hide (blk_later Hq.out hb)
      replace He := hide (blk_later He.out hb)
      replace Hf := hide (blk_later Hf.out hb)
      clear hb
      obtain ⟨v0, v1⟩ := He.out.c2
      have ltv := He.out.lt
      obtain ⟨q0, q1, q2, q3, q4, q5, q6, q7⟩ := Hq.out.site8
      have ltq := Hq.out.lt
      go_wp2_with fail
      refine (within_anyQ _ _ _ _).mono ?_
      rintro e w' ⟨rfl, rfl⟩
      rw [Hg1.out]
      go_wp2_with fail
      clear q0 q1 q2 q3 q4 q5 q6 q7 ltq
      refine (valid_anyQ _ _ _).mono ?_
      rintro e w3 ⟨rfl, hb⟩
      replace Hl := hide ((Ints.below Hl.out hb).more (Below.size hb))
      replace HB := hide (onward HB.out hb)
      replace Hq := hide (blk_later Hq.out hb)
      replace He := hide (blk_later He.out hb)
      replace Hf := hide (blk_later Hf.out hb)
      clear hb v0 v1 ltv
      rw [Hg2.out]
      obtain ⟨q0, q1, q2, q3, q4, q5, q6, q7⟩ := Hq.out.site8
      have ltq := Hq.out.lt
      go_wp2_with fail
      refine (within_anyQ _ _ _ _).mono ?_
      rintro e w' ⟨rfl, rfl⟩
      rw [Hg3.out]
      go_wp2
      rw [Exit.noGoto_ret]
      refine bodyPost_ret (v := .tuple #[.slice none 0 0, .int .i64 3]) (by simp [results, Try.results7, go_sem]) rfl ⟨none, 0, by rw [if_neg hne], HB.out, fun h => absurd h hne⟩
    ·
     have g4 : okE elo ehi = false := by simpa using g2
     have hE : blockE 0 0 t elo ehi ray r = 3 := by unfold blockE; simp [g4]
     rw [hE]
     clear hE g2
     have hne : (3 : Int) ≠ 0 := by omega
     have Hsz := hide hsz
     have Hall := hide hall
     clear hsz hall
     have Hg1 := hide g1
     have Hg2 := hide g4
     clear g1 g4
     go_enter Try.func7, Try.ntmps7
     have HB := hide (Below.refl w.heap.size w)
     go_wp2_with fail
     go_step3
     go_wp2_with fail
     refine at_world fun W hW => ?_
     have bq0 : Blk W w.heap.size 28 #[.string s, .int .i64 sx, .int .i64 sy, .int .i64 z, .int .i64 r, .int .i64 g, .int .i64 st, .int .i64 wd] := by rw [hW]; exact ((Blk.new _ _ _).alloc _).alloc _
     have bq1 : Blk W (w.heap.size + 1) 24 #[.int .i64 elo, .int .i64 ehi] := by rw [hW]; exact (blk_new_at (by simp)).alloc _
     have bq2 : Blk W (w.heap.size + 2) 33 #[.int .i64 gx, .int .i64 gy, .int .i64 gs, .int .i64 wi, .int .i64 hi, .slice A n c] := by rw [hW]; exact blk_new_at (by simp)
     have LW : Later w W := by rw [hW]; exact ((((Below.refl _ _).alloc (Nat.le_refl _) _).alloc (by simp; try omega) _).alloc (by simp; try omega) _)
     have szW : W.heap.size = w.heap.size + 3 := by rw [hW]; simp
     clear hW
     replace Hl := hide ((Ints.below Hl.out LW).more (Below.size LW))
     replace HB := hide (onward HB.out LW)
     have Hq := hide bq0
     have He := hide bq1
     have Hf := hide bq2
     clear bq0 bq1 bq2 LW szW
     refine (Hcs.out _).mono ?_
     rintro e w1 ⟨rfl, hb⟩
     replace Hl := hide ((Ints.below Hl.out hb).more (Below.size hb))
     replace HB := hide (onward HB.out hb)
     replace Hq := hide (blk_later Hq.out hb)
     replace He := hide (blk_later He.out hb)
     replace Hf := hide (blk_later Hf.out hb)
     clear hb
     obtain ⟨e0, e1, e2, e3, e4, e5⟩ := Hf.out.c6
     have ltf := Hf.out.lt
     go_wp2_with fail
     clear e0 e1 e2 e3 e4 e5 ltf
     refine (Hck.out _ Hl.out).mono ?_
     rintro e w2 ⟨rfl, hb⟩
     replace Hl := hide ((Ints.below Hl.out hb).more (Below.size hb))
     replace HB := hide (onward HB.out hb)
     replace Hq := hide (blk_later Hq.out hb)
     replace He := hide (blk_later He.out hb)
     replace Hf := hide (blk_later Hf.out hb)
     clear hb
     obtain ⟨v0, v1⟩ := He.out.c2
     have ltv := He.out.lt
     obtain ⟨q0, q1, q2, q3, q4, q5, q6, q7⟩ := Hq.out.site8
     have ltq := Hq.out.lt
     go_wp2_with fail
     refine (within_anyQ _ _ _ _).mono ?_
     rintro e w' ⟨rfl, rfl⟩
     rw [Hg1.out]
     go_wp2_with fail
     clear q0 q1 q2 q3 q4 q5 q6 q7 ltq
     refine (valid_anyQ _ _ _).mono ?_
     rintro e w3 ⟨rfl, hb⟩
     replace Hl := hide ((Ints.below Hl.out hb).more (Below.size hb))
     replace HB := hide (onward HB.out hb)
     replace Hq := hide (blk_later Hq.out hb)
     replace He := hide (blk_later He.out hb)
     replace Hf := hide (blk_later Hf.out hb)
     clear hb v0 v1 ltv
     rw [Hg2.out]
     go_wp2
     rw [Exit.noGoto_ret]
     refine bodyPost_ret (v := .tuple #[.slice none 0 0, .int .i64 3]) (by simp [results, Try.results7, go_sem]) rfl ⟨none, 0, by rw [if_neg hne], HB.out, fun h => absurd h hne⟩
   ·
    have g4 : winB t 0 256 = false := by simpa using g1
    have hE : blockE 0 0 t elo ehi ray r = 3 := by unfold blockE; simp [g4]
    rw [hE]
    clear hE g1
    have hne : (3 : Int) ≠ 0 := by omega
    have Hsz := hide hsz
    have Hall := hide hall
    clear hsz hall
    have Hg1 := hide g4
    clear g4
    go_enter Try.func7, Try.ntmps7
    have HB := hide (Below.refl w.heap.size w)
    go_wp2_with fail
    go_step3
    go_wp2_with fail
    refine at_world fun W hW => ?_
    have bq0 : Blk W w.heap.size 28 #[.string s, .int .i64 sx, .int .i64 sy, .int .i64 z, .int .i64 r, .int .i64 g, .int .i64 st, .int .i64 wd] := by rw [hW]; exact ((Blk.new _ _ _).alloc _).alloc _
    have bq1 : Blk W (w.heap.size + 1) 24 #[.int .i64 elo, .int .i64 ehi] := by rw [hW]; exact (blk_new_at (by simp)).alloc _
    have bq2 : Blk W (w.heap.size + 2) 33 #[.int .i64 gx, .int .i64 gy, .int .i64 gs, .int .i64 wi, .int .i64 hi, .slice A n c] := by rw [hW]; exact blk_new_at (by simp)
    have LW : Later w W := by rw [hW]; exact ((((Below.refl _ _).alloc (Nat.le_refl _) _).alloc (by simp; try omega) _).alloc (by simp; try omega) _)
    have szW : W.heap.size = w.heap.size + 3 := by rw [hW]; simp
    clear hW
    replace Hl := hide ((Ints.below Hl.out LW).more (Below.size LW))
    replace HB := hide (onward HB.out LW)
    have Hq := hide bq0
    have He := hide bq1
    have Hf := hide bq2
    clear bq0 bq1 bq2 LW szW
    refine (Hcs.out _).mono ?_
    rintro e w1 ⟨rfl, hb⟩
    replace Hl := hide ((Ints.below Hl.out hb).more (Below.size hb))
    replace HB := hide (onward HB.out hb)
    replace Hq := hide (blk_later Hq.out hb)
    replace He := hide (blk_later He.out hb)
    replace Hf := hide (blk_later Hf.out hb)
    clear hb
    obtain ⟨e0, e1, e2, e3, e4, e5⟩ := Hf.out.c6
    have ltf := Hf.out.lt
    go_wp2_with fail
    clear e0 e1 e2 e3 e4 e5 ltf
    refine (Hck.out _ Hl.out).mono ?_
    rintro e w2 ⟨rfl, hb⟩
    replace Hl := hide ((Ints.below Hl.out hb).more (Below.size hb))
    replace HB := hide (onward HB.out hb)
    replace Hq := hide (blk_later Hq.out hb)
    replace He := hide (blk_later He.out hb)
    replace Hf := hide (blk_later Hf.out hb)
    clear hb
    obtain ⟨v0, v1⟩ := He.out.c2
    have ltv := He.out.lt
    obtain ⟨q0, q1, q2, q3, q4, q5, q6, q7⟩ := Hq.out.site8
    have ltq := Hq.out.lt
    go_wp2_with fail
    refine (within_anyQ _ _ _ _).mono ?_
    rintro e w' ⟨rfl, rfl⟩
    rw [Hg1.out]
    go_wp2
    rw [Exit.noGoto_ret]
    refine bodyPost_ret (v := .tuple #[.slice none 0 0, .int .i64 3]) (by simp [results, Try.results7, go_sem]) rfl ⟨none, 0, by rw [if_neg hne], HB.out, fun h => absurd h hne⟩
  ·
   have h10 : (fe != 0) = true := by simpa [bne] using h1
   have hE : blockE 0 fe t elo ehi ray r = fe := by unfold blockE; rw [if_neg (by simp), if_pos h1]
   rw [hE]
   clear hE
   have hne := h1
   go_enter Try.func7, Try.ntmps7
   have HB := hide (Below.refl w.heap.size w)
   go_wp2_with fail
   go_step3
   go_wp2_with fail
   refine at_world fun W hW => ?_
   have bq0 : Blk W w.heap.size 28 #[.string s, .int .i64 sx, .int .i64 sy, .int .i64 z, .int .i64 r, .int .i64 g, .int .i64 st, .int .i64 wd] := by rw [hW]; exact ((Blk.new _ _ _).alloc _).alloc _
   have bq1 : Blk W (w.heap.size + 1) 24 #[.int .i64 elo, .int .i64 ehi] := by rw [hW]; exact (blk_new_at (by simp)).alloc _
   have bq2 : Blk W (w.heap.size + 2) 33 #[.int .i64 gx, .int .i64 gy, .int .i64 gs, .int .i64 wi, .int .i64 hi, .slice A n c] := by rw [hW]; exact blk_new_at (by simp)
   have LW : Later w W := by rw [hW]; exact ((((Below.refl _ _).alloc (Nat.le_refl _) _).alloc (by simp; try omega) _).alloc (by simp; try omega) _)
   have szW : W.heap.size = w.heap.size + 3 := by rw [hW]; simp
   clear hW
   replace Hl := hide ((Ints.below Hl.out LW).more (Below.size LW))
   replace HB := hide (onward HB.out LW)
   have Hq := hide bq0
   have He := hide bq1
   have Hf := hide bq2
   clear bq0 bq1 bq2 LW szW
   refine (Hcs.out _).mono ?_
   rintro e w1 ⟨rfl, hb⟩
   replace Hl := hide ((Ints.below Hl.out hb).more (Below.size hb))
   replace HB := hide (onward HB.out hb)
   replace Hq := hide (blk_later Hq.out hb)
   replace He := hide (blk_later He.out hb)
   replace Hf := hide (blk_later Hf.out hb)
   clear hb
   obtain ⟨e0, e1, e2, e3, e4, e5⟩ := Hf.out.c6
   have ltf := Hf.out.lt
   go_wp2_with fail
   clear e0 e1 e2 e3 e4 e5 ltf
   refine (Hck.out _ Hl.out).mono ?_
   rintro e w2 ⟨rfl, hb⟩
   replace Hl := hide ((Ints.below Hl.out hb).more (Below.size hb))
   replace HB := hide (onward HB.out hb)
   replace Hq := hide (blk_later Hq.out hb)
   replace He := hide (blk_later He.out hb)
   replace Hf := hide (blk_later Hf.out hb)
   clear hb
   go_wp2
   rw [Exit.noGoto_ret]
   refine bodyPost_ret (v := .tuple #[.slice none 0 0, .int .i64 fe]) (by simp [results, Try.results7, go_sem]) rfl ⟨none, 0, by rw [if_neg hne], HB.out, fun h => absurd h hne⟩
 ·
  have h00 : (se != 0) = true := by simpa [bne] using h0
  have hE : blockE se fe t elo ehi ray r = se := by unfold blockE; rw [if_pos h0]
  rw [hE]
  clear hE
  have hne := h0
  go_enter Try.func7, Try.ntmps7
  have HB := hide (Below.refl w.heap.size w)
  go_wp2_with fail
  go_step3
  go_wp2_with fail
  refine at_world fun W hW => ?_
  have bq0 : Blk W w.heap.size 28 #[.string s, .int .i64 sx, .int .i64 sy, .int .i64 z, .int .i64 r, .int .i64 g, .int .i64 st, .int .i64 wd] := by rw [hW]; exact ((Blk.new _ _ _).alloc _).alloc _
  have bq1 : Blk W (w.heap.size + 1) 24 #[.int .i64 elo, .int .i64 ehi] := by rw [hW]; exact (blk_new_at (by simp)).alloc _
  have bq2 : Blk W (w.heap.size + 2) 33 #[.int .i64 gx, .int .i64 gy, .int .i64 gs, .int .i64 wi, .int .i64 hi, .slice A n c] := by rw [hW]; exact blk_new_at (by simp)
  have LW : Later w W := by rw [hW]; exact ((((Below.refl _ _).alloc (Nat.le_refl _) _).alloc (by simp; try omega) _).alloc (by simp; try omega) _)
  have szW : W.heap.size = w.heap.size + 3 := by rw [hW]; simp
  clear hW
  replace Hl := hide ((Ints.below Hl.out LW).more (Below.size LW))
  replace HB := hide (onward HB.out LW)
  have Hq := hide bq0
  have He := hide bq1
  have Hf := hide bq2
  clear bq0 bq1 bq2 LW szW
  refine (Hcs.out _).mono ?_
  rintro e w1 ⟨rfl, hb⟩
  replace Hl := hide ((Ints.below Hl.out hb).more (Below.size hb))
  replace HB := hide (onward HB.out hb)
  replace Hq := hide (blk_later Hq.out hb)
  replace He := hide (blk_later He.out hb)
  replace Hf := hide (blk_later Hf.out hb)
  clear hb
  go_wp2
  rw [Exit.noGoto_ret]
  refine bodyPost_ret (v := .tuple #[.slice none 0 0, .int .i64 se]) (by simp [results, Try.results7, go_sem]) rfl ⟨none, 0, by rw [if_neg hne], HB.out, fun h => absurd h hne⟩
theorem Blocked_any (s : ByteArray) (sx sy z r g st wd t elo ehi gx gy gs wi hi : Int) (A : Option Addr) (n c : Nat) (l : List (Int × Int)) (ray : Int) (w : World) (hs : s.size ≤ 9223372036854775807)
  (hn : l.length = n) (hmax : n ≤ 9223372036854775807) (hl : Ints w w.heap.size .i64 A (flat2Q l)) :
  Calls Try.prog 7 #[siteV s sx sy z r g st wd, .int .i64 t, .agg #[.int .i64 elo, .int .i64 ehi], fieldV gx gy gs wi hi A n c, .int .i64 ray] w fun e w' =>
   BlockPost w (blockE (siteE (nameB s) sx sy z r g st wd) (fieldE (gridE gx gy gs wi hi) n wi hi l 20000) t elo ehi ray r)
    (rowsZ (csB (groundZ l sx sy r st t ray gx gy gs wi hi) z st elo (t - wd)) (cmB (groundZ l sx sy r st t ray gx gy gs wi hi) z st ehi (t - wd)) (2 * wd + 1).toNat) g.toNat e w' :=
 (Blocked2_any s sx sy z r g st wd t elo ehi gx gy gs wi hi A n c l ray w hs hn hmax hl).mono fun _ _ h => h.old
end Go.Proofs.Ytepgpihobmjbdaa
