/-
  The connected parts of the pixels that are wanted.
  Sheets: which pixels may be in, which are; the hull of a span and a number.
-/
import Derived.Test.YtidbjidcjmbnlaaTbFields
import Derived.Test.YtidbjidcjmbnlaaTmRep
import Derived.Test.YtidbjidcjmbnlaaTmSort
import Derived.Test.YtidbjidcjmbnlaaRegK
import Derived.Test.YtidbjidcjmbnlaaRegC
import Derived.Sort.CutIn
set_option linter.unusedSimpArgs false
set_option linter.unusedVariables false
section
namespace Go.Proofs.Ytidbjidcjmbnlaa
open Go Go.RowKit
attribute [local go_sem] Oper.semAt_some

/-- A part's row. -/
def thP (g : Nat) (x : Value × List Nat) : Th := .row g 3 1 x.1 x.2.length (numsV x.2)
/-- The row of the parts' values, and the parts' rows; the newest first. -/
def rowsT (g : Nat) (v : Value) (E : List (Value × List Nat)) : List Th := .row g 33 1 v E.length (E.reverse.map (·.1)) :: E.map (thP g)
theorem partsInfo : (Try.prog.info? 33).map (fun i => (i.zero, i.size, i.bytes)) = some (some (.slice none 0 0), 1, 24) := by kernel_rfl
def PartsPost (N : Nat) (nb : Nat → List Nat) (wants : Nat → Bool) (w : World) (e : Ending) (w' : World) : Prop :=
  ∃ (v : Value) (g : Nat) (E : List (Value × List Nat)) (f : Nat → Int), e = .returned (.tuple #[v, .slice (some ⟨g, 0, none⟩) N N]) ∧ Mem w (.blk g 3 (cellsF f N) :: rowsT w.heap.size v E) w' ∧
    PartI N nb wants E.length f ∧ (∀ p, p < N → wants p = true → 0 ≤ f p) ∧ E.reverse.map (·.2) = partsL N f E.length ∧ (∀ y ∈ E, y.2 ≠ []) ∧ E.length ≤ N
/-- The variables of parts, beside those of a part that is being searched. -/
def thG (hs oB g N : Nat) (G : Array Value) (fv : Value) (T : List Th) : List Th := .blk oB 33 #[.slice (some ⟨g, 0, none⟩) N N] :: .blk (hs + 1) 152 #[fv] :: .blk hs 28 G :: T
/-- Between two pixels. -/
def PartsO (w : World) (hs oB g N : Nat) (G : Array Value) (fv : Value) (nb : Nat → List Nat) (wants : Nat → Bool) (v : Value) (p : Nat) (f : Nat → Int) (E : List (Value × List Nat)) (Ds : List Nat) (wr : World) : Prop :=
  p ≤ N ∧ E.length ≤ p ∧ (∀ y ∈ E, y.2 ≠ []) ∧ PartI N nb wants E.length f ∧ (∀ q, q < p → wants q = true → 0 ≤ f q) ∧ E.reverse.map (·.2) = partsL N f E.length ∧
  Mem w (.row hs 33 1 v E.length (E.reverse.map (·.1)) :: .blk g 3 (cellsF f N) :: thG hs oB g N G fv (E.map (thP hs) ++ Ds.map thD)) wr
/-- While a part is searched. -/
def PartsN (w : World) (hs oB g N : Nat) (G : Array Value) (fv : Value) (nb : Nat → List Nat) (wants : Nat → Bool) (nB lB p K : Nat) (f0 : Nat → Int) (S : List Th) (vl : Value) (l : List Nat) (f : Nat → Int) (i : Nat) (Ds : List Nat) (wr : World) : Prop :=
  BfsI N nb wants K f l i 0 ∧ i ≤ l.length ∧ Same N K f0 f ∧ 0 ≤ f p ∧
  Mem w (.row hs 3 1 vl l.length (numsV l) :: .blk lB 33 #[vl] :: .blk g 3 (cellsF f N) :: .blk nB 3 #[.int .i64 (K : Nat)] :: thG hs oB g N G fv (S ++ Ds.map thD)) wr
theorem PartsO.skip {w : World} {hs oB g N : Nat} {G : Array Value} {fv : Value} {nb : Nat → List Nat} {wants : Nat → Bool} {v : Value} {p : Nat} {f : Nat → Int} {E : List (Value × List Nat)} {Ds : List Nat} {wr : World}
    (hp : p < N) (hKp : E.length ≤ p) (hne : ∀ y ∈ E, y.2 ≠ []) (hpi : PartI N nb wants E.length f) (hb : ∀ q, q < p → wants q = true → 0 ≤ f q) (hE : E.reverse.map (·.2) = partsL N f E.length)
    (hM : Mem w (.row hs 33 1 v E.length (E.reverse.map (·.1)) :: .blk g 3 (cellsF f N) :: thG hs oB g N G fv (E.map (thP hs) ++ Ds.map thD)) wr) (h : 0 ≤ f p ∨ wants p = false) : PartsO w hs oB g N G fv nb wants v (p + 1) f E Ds wr :=
  ⟨hp, Nat.le_succ_of_le hKp, hne, hpi, fun q hq hw => (by
    by_cases e : q < p
    · exact hb q e hw
    · obtain rfl : q = p := by omega
      rcases h with h | h
      · exact h
      · rw [h] at hw; cases hw), hE, hM⟩
theorem perm_end {α : Type} (r g a b c o : α) (T : List α) : (r :: g :: a :: b :: c :: o :: T).Perm (o :: g :: a :: b :: c :: r :: T) :=
  (List.perm_middle (l₁ := [r, g, a, b, c]) (a := o) (l₂ := T)).trans (.cons _ (List.perm_middle (l₁ := [g, a, b, c]) (a := r) (l₂ := T)).symm)
theorem PartsO.more {w : World} {hs oB g N lB nB K p : Nat} {G : Array Value} {fv : Value} {nb : Nat → List Nat} {wants : Nat → Bool} {vA : Value} {A1 : Option Addr} {c1 : Nat} {f f1 : Nat → Int} {l : List Nat} {E : List (Value × List Nat)} {Ds : List Nat} {wr : World} {vl : Value}
    (hp : p < N) (hKp : K ≤ p) (hne : ∀ y ∈ E, y.2 ≠ []) (hl0 : 0 < l.length) (hK : E.length = K) (hnb : NbOk N nb) (hpi : PartI N nb wants E.length f) (hb : ∀ q, q < p → wants q = true → 0 ≤ f q) (hE : E.reverse.map (·.2) = partsL N f E.length)
    (hB : BfsI N nb wants K f1 l l.length 0) (hS : Same N K f f1) (hfp : 0 ≤ f1 p) (hlp : (partL N f1 K).length = l.length)
    (hM : Mem w (.row hs 3 1 (.slice A1 l.length c1) l.length (numsV (partL N f1 K)) :: .blk lB 33 #[vl] :: .blk g 3 (cellsF f1 N) :: .blk nB 3 #[.int .i64 (K : Nat)] :: thG hs oB g N G fv (.row hs 33 1 vA (K + 1) (E.reverse.map (·.1) ++ [.slice A1 l.length c1]) :: (E.map (thP hs) ++ Ds.map thD))) wr) :
    PartsO w hs oB g N G fv nb wants vA (p + 1) f1 ((.slice A1 l.length c1, partL N f1 K) :: E) Ds wr := by
  have hl : ((Value.slice A1 l.length c1, partL N f1 K) :: E).length = K + 1 := by rw [List.length_cons, hK]
  refine ⟨hp, by rw [hl]; omega, List.forall_mem_cons.2 ⟨fun e => by have e2 : partL N f1 K = [] := e; rw [e2] at hlp; simp at hlp; omega, hne⟩, by rw [hl]; exact bfs_end hnb hB, fun q hq hw => ?_, ?_, ?_⟩
  · by_cases e : q < p
    · exact hS.pos q (by omega) (hb q e hw)
    · obtain rfl : q = p := by omega
      exact hfp
  · rw [hl, List.reverse_cons, List.map_append, hE, hK, partsL_succ, partsL_congr (fun k hk q hq => (hS.lists k hk q hq).symm)]
    rfl
  · rw [hl, List.reverse_cons, List.map_append]
    have e : Th.row hs 3 1 (.slice A1 l.length c1) l.length (numsV (partL N f1 K)) = thP hs (.slice A1 l.length c1, partL N f1 K) := by
      unfold thP
      rw [hlp]
    rw [e] at hM
    exact ((hM.drop 1 rfl).drop 2 rfl).perm (perm_end _ _ _ _ _ _ _)
theorem perm_start {α : Type} (l r n o g a b c : α) (T : List α) : (l :: r :: n :: o :: g :: a :: b :: c :: T).Perm (r :: l :: g :: n :: a :: b :: c :: o :: T) :=
  (List.Perm.swap r l _).trans (.cons _ (.cons _ (((List.Perm.swap g o _).cons n).trans ((List.Perm.swap g n _).trans (.cons _ (.cons _ (List.perm_middle (l₁ := [a, b, c]) (a := o) (l₂ := T)).symm))))))
/-- While the neighbors of a pixel are looked at. -/
def tsR (hs oB g N bg lB nB K x : Nat) (G : Array Value) (fv : Value) (T : List Th) (s : (Nat → Int) × List Nat × Value) : List Th :=
  .blk (bg + 1) 3 #[.int .i64 (x : Nat)] :: .blk bg 28 G :: .row hs 3 1 s.2.2 s.2.1.length (numsV s.2.1) :: .blk lB 33 #[s.2.2] :: .blk g 3 (cellsF s.1 N) :: .blk nB 3 #[.int .i64 (K : Nat)] :: thG hs oB g N G fv T
theorem tsR_calm {hs oB g N bg lB nB K x B : Nat} {G : Array Value} {fv : Value} {T : List Th} {s : (Nat → Int) × List Nat × Value} (hT : ∀ t ∈ T, t.calm B) : ∀ t ∈ tsR hs oB g N bg lB nB K x G fv T s, t.calm B := by
  intro t ht
  unfold tsR thG at ht
  simp only [List.mem_cons] at ht
  rcases ht with rfl | rfl | rfl | rfl | rfl | rfl | rfl | rfl | rfl | h
  iterate 9 trivial
  exact hT t h
def RngP (w : World) (B hs oB g N bg lB nB K x i p : Nat) (G : Array Value) (fv : Value) (T : List Th) (nb : Nat → List Nat) (wants : Nat → Bool) (f : Nat → Int) (s : (Nat → Int) × List Nat × Value) (pre : List Nat) (V : World) : Prop :=
  (Mem w (tsR hs oB g N bg lB nB K x G fv T s) V ∧ B ≤ V.heap.size) ∧ BfsI N nb wants K s.1 s.2.1 i 0 ∧ i < s.2.1.length ∧ s.2.1.getD i 0 = x ∧ Same N K f s.1 ∧ 0 ≤ s.1 p ∧ ∀ q ∈ pre, wants q = true → 0 ≤ s.1 q
set_option maxHeartbeats 4000000 in
set_option maxRecDepth 100000 in
theorem parts_may (gx gy gs : Int) (W H : Nat) (sv : Value) (wants : Nat → Bool) (w : World) (hW : 1 ≤ W) (hH : 1 ≤ H) (hW8 : W ≤ 8) (hH8 : H ≤ 8)
    (hP : ∀ V p, Below w.heap.size w V → p < W * H → Calls Try.prog 64 #[sv, .int .i64 (p : Nat)] V fun e w' => e = .returned (.bool (wants p)) ∧ Below V.heap.size V w') :
    Calls Try.prog 63 #[.agg (gridC gx gy gs W H), .func (.func 64) #[sv] #[]] w (PartsPost (W * H) (nbL W H) wants w) := by
  obtain ⟨N, hN⟩ : ∃ N, W * H = N := ⟨_, rfl⟩
  have hN1 : 1 ≤ N := by rw [← hN]; exact Nat.mul_pos hW hH
  have hN2 : N ≤ 64 := by rw [← hN]; exact Nat.mul_le_mul hW8 hH8
  have hmul : (W : Int) * (H : Int) = (N : Int) := by rw [← hN]; push_cast; rfl
  have hnb := nb_ok W H
  rw [hN] at hP hnb ⊢
  unfold gridC
  have hW2 : (W : Int) ≤ 8 := by omega
  have hH2 : (H : Int) ≤ 8 := by omega
  have hN3 : (N : Int) ≤ 64 := by omega
  have HP := hide hP
  have HNB := hide hnb
  have HN := hide hN
  clear hP hnb hN
  refine (callsIn_wide (n := 8)).1 (callsIn_of_wp_marks Try.func63 rfl trivial (wpIn_wide.2 ?_))
  simp only [Try.ntmps63, List.size_toArray, List.length_cons, List.length_nil, Nat.reduceAdd, Nat.reduceSub, Array.replicate_succ, Array.replicate_zero, List.push_toArray, List.append_toArray, List.nil_append, List.cons_append]
  have HM := hide (Mem.start w)
  go_wp2_with fail
  refine at_world fun W1 hW => ?_
  have HMn := Mem.to (Mem.allocAt (Mem.allocAt (Mem.allocAt HM.out w.heap.size rfl #[.int .i64 gx, .int .i64 gy, .int .i64 gs, .int .i64 W, .int .i64 H] 28) (w.heap.size + 1) (by simp) #[.func (.func 64) #[sv] #[]] 152) (w.heap.size + 2) (by simp) #[.int .i64 (-1)] 3) hW
  have LW : Later w W1 := by rw [hW]; exact ((((Below.refl _ _).alloc (Nat.le_refl _) _).alloc (by simp; try omega) _).alloc (by simp; try omega) _)
  have szW : W1.heap.size = w.heap.size + 3 := by rw [hW]; simp
  clear hW
  replace HM := hide HMn
  clear HMn LW
  refine (repeat_any (-1) N (w.heap.size + 1 + 1) W1 hN1 (by omega) (HM.out.blk_ 0 rfl)).mono ?_
  rintro e w2 ⟨g, rfl, hg, hkg, hb2⟩
  have HM2 := hide ((HM.out.drop 0 rfl).add hb2 (t := .blk g 3 (cellsF (fun _ => -1) N)) hkg (fun k hk => by rw [List.mem_singleton.1 hk]; exact hg))
  clear HM hg hkg hb2 szW
  have HM := HM2
  clear HM2
  obtain ⟨G, hG⟩ : ∃ G : Array Value, G = #[.int .i64 gx, .int .i64 gy, .int .i64 gs, .int .i64 W, .int .i64 H] := ⟨_, rfl⟩
  obtain ⟨fv, hfv⟩ : ∃ fv : Value, fv = .func (.func 64) #[sv] #[] := ⟨_, rfl⟩
  go_wp2_with fail
  refine code_world fun w3 hW => ?_
  have HMn := Mem.to (Mem.allocAt HM.out w2.heap.size rfl #[.slice (some ⟨g, 0, none⟩) N N] 33) hW
  have LW : Later w2 w3 := by rw [hW]; exact ((Below.refl _ _).alloc (Nat.le_refl _) _)
  have szW : w3.heap.size = w2.heap.size + 1 := by rw [hW]; simp
  clear hW
  replace HM := hide HMn
  clear HMn LW
  clear szW
  have HP0 := hide (show PartsO w w.heap.size w2.heap.size g N G fv (nbL W H) wants (.slice none 0 0) 0 (fun _ => -1) [] [] w3 from ⟨Nat.zero_le _, Nat.zero_le _, fun y hy => absurd hy List.not_mem_nil, part_none, fun q h => absurd h (Nat.not_lt_zero _), rfl, by
    have h := (HM.out.nilRow w.heap.size 33 1).perm (List.Perm.cons _ (List.Perm.swap _ _ _))
    unfold thG
    rw [hG, hfv]
    exact h⟩)
  obtain ⟨hs, hhs⟩ : ∃ hs, w.heap.size = hs := ⟨_, rfl⟩
  obtain ⟨oB, hoB⟩ : ∃ oB, w2.heap.size = oB := ⟨_, rfl⟩
  have ltg : oB < w3.heap.size := by rw [← hoB]; exact (HM.out.blk_ 0 rfl).lt
  have o0 := (HM.out.blk_ 0 rfl).c 0 rfl
  rw [hhs, hoB] at HP0
  rw [hoB] at o0
  simp only [hhs, hoB]
  clear HM hoB
  have HG := hide hG
  have HFV := hide hfv
  have HHS := hide hhs
  clear hG hfv hhs
  go_wp2_with fail
  obtain ⟨INV, hINV⟩ : ∃ INV : Act → World → Prop, INV = (fun a' wr => ∃ u0 u1 u4 u5 u8 u9 u10 u11 u12 u13 u14 u15 u16 u17 u18 u19 u20 u23 u24 u25 u26 u27 u28 u29 u30 u31 u32 u33 u34 u35 u36 u37 u38 u39 u40 u41 u42 u43 u44 u45 u46 u47 u48 u49 u50 u51 u52 u53 u54 u55 u56 u57 u58 u59 u60 u61 u62 u63 u64 u65 u66 u67 u68 u69 u70 u71 u72 u73 u74 u75 u76 u77 u78 u79 u80 u81 u82 u83 : Value, ∃ (v : Value) (p : Nat) (f : Nat → Int) (E : List (Value × List Nat)) (Ds : List Nat), (PartsO w hs oB g N G fv (nbL W H) wants v p f E Ds wr) ∧ a' = ⟨#[u0, u1, .pointer (some ⟨hs, 0, none⟩), .pointer (some ⟨hs + 1, 0, none⟩), u4, u5, v, .pointer (some ⟨oB, 0, none⟩), u8, u9, u10, u11, u12, u13, u14, u15, u16, u17, u18, u19, u20, .int .i64 (N : Nat), .int .i64 (p : Nat), u23, u24, u25, u26, u27, u28, u29, u30, u31, u32, u33, u34, u35, u36, u37, u38, u39, u40, u41, u42, u43, u44, u45, u46, u47, u48, u49, u50, u51, u52, u53, u54, u55, u56, u57, u58, u59, u60, u61, u62, u63, u64, u65, u66, u67, u68, u69, u70, u71, u72, u73, u74, u75, u76, u77, u78, u79, u80, u81, u82, u83], Ds.map markD⟩) := ⟨_, rfl⟩
  have HINV := hide hINV
  clear hINV
  refine wp_loop INV (fun a' _ => N - (intOf (a'.tmps.getD 22 undef)).toNat) ?_ ?_
  · rw [HINV.out]
    iterate 78 (apply Exists.intro)
    exact ⟨.slice none 0 0, 0, fun _ => -1, [], [], HP0.out, rfl⟩
  · intro a' wr hinv
    rw [HINV.out] at hinv
    obtain ⟨u0, hinv⟩ := hinv
    obtain ⟨u1, hinv⟩ := hinv
    obtain ⟨u4, hinv⟩ := hinv
    obtain ⟨u5, hinv⟩ := hinv
    obtain ⟨u8, hinv⟩ := hinv
    obtain ⟨u9, hinv⟩ := hinv
    obtain ⟨u10, hinv⟩ := hinv
    obtain ⟨u11, hinv⟩ := hinv
    obtain ⟨u12, hinv⟩ := hinv
    obtain ⟨u13, hinv⟩ := hinv
    obtain ⟨u14, hinv⟩ := hinv
    obtain ⟨u15, hinv⟩ := hinv
    obtain ⟨u16, hinv⟩ := hinv
    obtain ⟨u17, hinv⟩ := hinv
    obtain ⟨u18, hinv⟩ := hinv
    obtain ⟨u19, hinv⟩ := hinv
    obtain ⟨u20, hinv⟩ := hinv
    obtain ⟨u23, hinv⟩ := hinv
    obtain ⟨u24, hinv⟩ := hinv
    obtain ⟨u25, hinv⟩ := hinv
    obtain ⟨u26, hinv⟩ := hinv
    obtain ⟨u27, hinv⟩ := hinv
    obtain ⟨u28, hinv⟩ := hinv
    obtain ⟨u29, hinv⟩ := hinv
    obtain ⟨u30, hinv⟩ := hinv
    obtain ⟨u31, hinv⟩ := hinv
    obtain ⟨u32, hinv⟩ := hinv
    obtain ⟨u33, hinv⟩ := hinv
    obtain ⟨u34, hinv⟩ := hinv
    obtain ⟨u35, hinv⟩ := hinv
    obtain ⟨u36, hinv⟩ := hinv
    obtain ⟨u37, hinv⟩ := hinv
    obtain ⟨u38, hinv⟩ := hinv
    obtain ⟨u39, hinv⟩ := hinv
    obtain ⟨u40, hinv⟩ := hinv
    obtain ⟨u41, hinv⟩ := hinv
    obtain ⟨u42, hinv⟩ := hinv
    obtain ⟨u43, hinv⟩ := hinv
    obtain ⟨u44, hinv⟩ := hinv
    obtain ⟨u45, hinv⟩ := hinv
    obtain ⟨u46, hinv⟩ := hinv
    obtain ⟨u47, hinv⟩ := hinv
    obtain ⟨u48, hinv⟩ := hinv
    obtain ⟨u49, hinv⟩ := hinv
    obtain ⟨u50, hinv⟩ := hinv
    obtain ⟨u51, hinv⟩ := hinv
    obtain ⟨u52, hinv⟩ := hinv
    obtain ⟨u53, hinv⟩ := hinv
    obtain ⟨u54, hinv⟩ := hinv
    obtain ⟨u55, hinv⟩ := hinv
    obtain ⟨u56, hinv⟩ := hinv
    obtain ⟨u57, hinv⟩ := hinv
    obtain ⟨u58, hinv⟩ := hinv
    obtain ⟨u59, hinv⟩ := hinv
    obtain ⟨u60, hinv⟩ := hinv
    obtain ⟨u61, hinv⟩ := hinv
    obtain ⟨u62, hinv⟩ := hinv
    obtain ⟨u63, hinv⟩ := hinv
    obtain ⟨u64, hinv⟩ := hinv
    obtain ⟨u65, hinv⟩ := hinv
    obtain ⟨u66, hinv⟩ := hinv
    obtain ⟨u67, hinv⟩ := hinv
    obtain ⟨u68, hinv⟩ := hinv
    obtain ⟨u69, hinv⟩ := hinv
    obtain ⟨u70, hinv⟩ := hinv
    obtain ⟨u71, hinv⟩ := hinv
    obtain ⟨u72, hinv⟩ := hinv
    obtain ⟨u73, hinv⟩ := hinv
    obtain ⟨u74, hinv⟩ := hinv
    obtain ⟨u75, hinv⟩ := hinv
    obtain ⟨u76, hinv⟩ := hinv
    obtain ⟨u77, hinv⟩ := hinv
    obtain ⟨u78, hinv⟩ := hinv
    obtain ⟨u79, hinv⟩ := hinv
    obtain ⟨u80, hinv⟩ := hinv
    obtain ⟨u81, hinv⟩ := hinv
    obtain ⟨u82, hinv⟩ := hinv
    obtain ⟨u83, hinv⟩ := hinv
    obtain ⟨v, p, f, E, Ds, ho, ha⟩ := hinv
    subst ha
    dsimp only
    obtain ⟨hpN, hKp, hne, hpi, hbef, hE, hM⟩ := ho
    clear HP0 ltg o0
    have HNE := hide hne
    have HPI := hide hpi
    have HBEF := hide hbef
    have HE := hide hE
    have HM := hide hM
    clear hne hpi hbef hE hM
    unfold thG at HM
    have o0 := (HM.out.blk_ 2 rfl).c 0 rfl
    have lto := (HM.out.blk_ 2 rfl).lt
    have f0 := (HM.out.blk_ 3 rfl).c 0 rfl
    have ltf := (HM.out.blk_ 3 rfl).lt
    rw [HFV.out] at f0
    have ltg := (HM.out.blk_ 1 rfl).lt
    by_cases hlt : p < N
    · have hlt2 : (p : Int) < N := by omega
      have gp := (HM.out.blk_ 1 rfl).c p (cellsF_at hlt)
      by_cases hf : 0 ≤ f p
      · go_wp2_with fail
        refine ⟨?_, by simp [intOf] <;> omega⟩
        rw [HINV.out]
        iterate 78 (apply Exists.intro)
        exact ⟨v, p + 1, f, E, Ds, PartsO.skip hlt hKp HNE.out HPI.out HBEF.out HE.out HM.out (.inl hf), by rw [show ((p + 1 : Nat) : Int) = (p : Int) + 1 by omega]⟩
      · have hc := HP.out wr p HM.out.below hlt
        obtain ⟨r, hr⟩ : ∃ r, wants p = r := ⟨_, rfl⟩
        rw [hr] at hc
        have HC := hide hc
        have HR := hide hr
        clear hc hr
        go_wp2_with fail
        refine (HC.out).mono ?_
        rintro e w4 ⟨rfl, hb⟩
        replace HM := hide (HM.out.later hb)
        clear hb
        cases r with
        | false =>
          go_wp2_with fail
          refine ⟨?_, by simp [intOf] <;> omega⟩
          rw [HINV.out]
          iterate 78 (apply Exists.intro)
          exact ⟨v, p + 1, f, E, Ds, PartsO.skip hlt hKp HNE.out HPI.out HBEF.out HE.out HM.out (.inr HR.out), by rw [show ((p + 1 : Nat) : Int) = (p : Int) + 1 by omega]⟩
        | true =>
          obtain ⟨Av, cv, rfl⟩ := own_shape2 (HM.out.row_ 0 rfl)
          obtain ⟨K, hK⟩ : ∃ K, E.length = K := ⟨_, rfl⟩
          rw [hK] at HM hKp
          have hsz4 := HM.out.size
          simp only [hK]
          clear o0 lto f0 ltf ltg gp
          go_upto_region 9 with fail
          refine code_world fun w5 hW => ?_
          have HMn := Mem.to (Mem.allocAt (Mem.allocAt (Mem.allocAt HM.out w4.heap.size rfl #[.int .i64 (K : Nat)] 3) (w4.heap.size + 1) (by simp) #[.int .i64 (p : Nat)] 3) (w4.heap.size + 2) (by simp) #[.slice (some ⟨w4.heap.size + 1, 0, none⟩) 1 1] 33) hW
          have LW : Later w4 w5 := by rw [hW]; exact ((((Below.refl _ _).alloc (Nat.le_refl _) _).alloc (by simp; try omega) _).alloc (by simp; try omega) _)
          have szW : w5.heap.size = w4.heap.size + 3 := by rw [hW]; simp
          clear hW
          replace HM := hide HMn
          clear HMn LW
          have k0 := (HM.out.blk_ 2 rfl).c 0 rfl
          have ltk := (HM.out.blk_ 2 rfl).lt
          have o0 := (HM.out.blk_ 5 rfl).c 0 rfl
          have lto := (HM.out.blk_ 5 rfl).lt
          have gp := (HM.out.blk_ 4 rfl).c p (cellsF_at hlt)
          have ltg := (HM.out.blk_ 4 rfl).lt
          have fgp := (HM.out.blk_ 4 rfl).frozen p
          have hgk := HM.out.ne 4 2 rfl rfl (by decide)
          have hgo := HM.out.ne 4 5 rfl rfl (by decide)
          go_upto_region 10 with fail
          refine code_world fun w6 hw6 => ?_
          have HM6 := hide (Mem.to (HM.out.set_ 4 rfl p (.int .i64 (K : Nat)) cellsF_upd) hw6)
          clear HM
          obtain ⟨nB, hnB⟩ : ∃ b, w4.heap.size = b := ⟨_, rfl⟩
          obtain ⟨lB, hlB⟩ : ∃ b, nB + 2 = b := ⟨_, rfl⟩
          have hlB2 : nB + 1 + 1 = lB := hlB
          have HN0 := hide (show PartsN w hs oB g N G fv (nbL W H) wants nB lB p K f (.row hs 33 1 (.slice Av K cv) K (E.reverse.map (·.1)) :: E.map (thP hs)) (.slice (some ⟨w4.heap.size + 1, 0, none⟩) 1 1) [p] (updF f p K) 0 Ds w6 from by
            rw [← hlB, ← hnB]
            have hps := HPI.out
            rw [hK] at hps
            refine ⟨bfs_start hps hlt (by omega) HR.out, Nat.zero_le _, (Same.refl _ _ _).upd (by omega), by rw [updF_at]; omega, ?_⟩
            have h1 := HM6.out.asRow (n := 1) (size := 1) (base := hs) 1 rfl rfl (by decide) (by rw [← HHS.out]; omega)
            exact h1.perm (perm_start _ _ _ _ _ _ _ _ _))
          simp only [hnB, hlB2]
          clear HM6 k0 ltk o0 lto gp ltg fgp hgk hgo
          obtain ⟨S, hS⟩ : ∃ S, (.row hs 33 1 (.slice Av K cv) K (E.reverse.map (·.1)) :: E.map (thP hs) : List Th) = S := ⟨_, rfl⟩
          rw [hS] at HN0
          have HS := hide hS
          have HNBe := hide hnB
          have HLBe := hide hlB
          clear hS hnB hlB
          go_wp2_with fail
          obtain ⟨INW, hINV⟩ : ∃ INW : Act → World → Prop, INW = (fun a' wr => ∃ u0 u1 u4 u5 u8 u12 u13 u14 u15 u16 u17 u18 u19 u20 u23 u24 u25 u26 u27 u28 u29 u30 u31 u32 u33 u34 u35 u36 u37 u38 u39 u40 u41 u42 u43 u44 u45 u46 u47 u48 u49 u50 u51 u52 u53 u54 u55 u56 u57 u58 u59 u60 u61 u62 u63 u64 u65 u66 u67 u68 u69 u70 u71 u72 u73 u74 u75 u76 u77 u78 u79 u80 u81 u82 u83 : Value, ∃ (vl : Value) (l : List Nat) (f1 : Nat → Int) (i : Nat) (Ds : List Nat), (PartsN w hs oB g N G fv (nbL W H) wants nB lB p K f S vl l f1 i Ds wr) ∧ a' = ⟨#[u0, u1, .pointer (some ⟨hs, 0, none⟩), .pointer (some ⟨hs + 1, 0, none⟩), u4, u5, .slice Av K cv, .pointer (some ⟨oB, 0, none⟩), u8, .pointer (some ⟨nB, 0, none⟩), .pointer (some ⟨lB, 0, none⟩), .int .i64 (i : Nat), u12, u13, u14, u15, u16, u17, u18, u19, u20, .int .i64 (N : Nat), .int .i64 (p : Nat), u23, u24, u25, u26, u27, u28, u29, u30, u31, u32, u33, u34, u35, u36, u37, u38, u39, u40, u41, u42, u43, u44, u45, u46, u47, u48, u49, u50, u51, u52, u53, u54, u55, u56, u57, u58, u59, u60, u61, u62, u63, u64, u65, u66, u67, u68, u69, u70, u71, u72, u73, u74, u75, u76, u77, u78, u79, u80, u81, u82, u83], Ds.map markD⟩) := ⟨_, rfl⟩
          have HINW := hide hINV
          clear hINV
          refine wp_loop INW (fun a' _ => N - (intOf (a'.tmps.getD 11 undef)).toNat) ?_ ?_
          · rw [HINW.out]
            iterate 75 (apply Exists.intro)
            exact ⟨_, [p], updF f p K, 0, Ds, HN0.out, rfl⟩
          · intro a' wr hinv
            rw [HINW.out] at hinv
            obtain ⟨u0, hinv⟩ := hinv
            obtain ⟨u1, hinv⟩ := hinv
            obtain ⟨u4, hinv⟩ := hinv
            obtain ⟨u5, hinv⟩ := hinv
            obtain ⟨u8, hinv⟩ := hinv
            obtain ⟨u12, hinv⟩ := hinv
            obtain ⟨u13, hinv⟩ := hinv
            obtain ⟨u14, hinv⟩ := hinv
            obtain ⟨u15, hinv⟩ := hinv
            obtain ⟨u16, hinv⟩ := hinv
            obtain ⟨u17, hinv⟩ := hinv
            obtain ⟨u18, hinv⟩ := hinv
            obtain ⟨u19, hinv⟩ := hinv
            obtain ⟨u20, hinv⟩ := hinv
            obtain ⟨u23, hinv⟩ := hinv
            obtain ⟨u24, hinv⟩ := hinv
            obtain ⟨u25, hinv⟩ := hinv
            obtain ⟨u26, hinv⟩ := hinv
            obtain ⟨u27, hinv⟩ := hinv
            obtain ⟨u28, hinv⟩ := hinv
            obtain ⟨u29, hinv⟩ := hinv
            obtain ⟨u30, hinv⟩ := hinv
            obtain ⟨u31, hinv⟩ := hinv
            obtain ⟨u32, hinv⟩ := hinv
            obtain ⟨u33, hinv⟩ := hinv
            obtain ⟨u34, hinv⟩ := hinv
            obtain ⟨u35, hinv⟩ := hinv
            obtain ⟨u36, hinv⟩ := hinv
            obtain ⟨u37, hinv⟩ := hinv
            obtain ⟨u38, hinv⟩ := hinv
            obtain ⟨u39, hinv⟩ := hinv
            obtain ⟨u40, hinv⟩ := hinv
            obtain ⟨u41, hinv⟩ := hinv
            obtain ⟨u42, hinv⟩ := hinv
            obtain ⟨u43, hinv⟩ := hinv
            obtain ⟨u44, hinv⟩ := hinv
            obtain ⟨u45, hinv⟩ := hinv
            obtain ⟨u46, hinv⟩ := hinv
            obtain ⟨u47, hinv⟩ := hinv
            obtain ⟨u48, hinv⟩ := hinv
            obtain ⟨u49, hinv⟩ := hinv
            obtain ⟨u50, hinv⟩ := hinv
            obtain ⟨u51, hinv⟩ := hinv
            obtain ⟨u52, hinv⟩ := hinv
            obtain ⟨u53, hinv⟩ := hinv
            obtain ⟨u54, hinv⟩ := hinv
            obtain ⟨u55, hinv⟩ := hinv
            obtain ⟨u56, hinv⟩ := hinv
            obtain ⟨u57, hinv⟩ := hinv
            obtain ⟨u58, hinv⟩ := hinv
            obtain ⟨u59, hinv⟩ := hinv
            obtain ⟨u60, hinv⟩ := hinv
            obtain ⟨u61, hinv⟩ := hinv
            obtain ⟨u62, hinv⟩ := hinv
            obtain ⟨u63, hinv⟩ := hinv
            obtain ⟨u64, hinv⟩ := hinv
            obtain ⟨u65, hinv⟩ := hinv
            obtain ⟨u66, hinv⟩ := hinv
            obtain ⟨u67, hinv⟩ := hinv
            obtain ⟨u68, hinv⟩ := hinv
            obtain ⟨u69, hinv⟩ := hinv
            obtain ⟨u70, hinv⟩ := hinv
            obtain ⟨u71, hinv⟩ := hinv
            obtain ⟨u72, hinv⟩ := hinv
            obtain ⟨u73, hinv⟩ := hinv
            obtain ⟨u74, hinv⟩ := hinv
            obtain ⟨u75, hinv⟩ := hinv
            obtain ⟨u76, hinv⟩ := hinv
            obtain ⟨u77, hinv⟩ := hinv
            obtain ⟨u78, hinv⟩ := hinv
            obtain ⟨u79, hinv⟩ := hinv
            obtain ⟨u80, hinv⟩ := hinv
            obtain ⟨u81, hinv⟩ := hinv
            obtain ⟨u82, hinv⟩ := hinv
            obtain ⟨u83, hinv⟩ := hinv
            obtain ⟨vl, l, f1, i, Ds, hn, ha⟩ := hinv
            subst ha
            dsimp only
            clear HN0
            obtain ⟨hB, hil, hSm, hfp, hM⟩ := hn
            have hlN := bfs_len hB
            have HB := hide hB
            have HSM := hide hSm
            have HFP := hide hfp
            have HM := hide hM
            clear hB hSm hfp hM
            unfold thG at HM
            obtain ⟨A1, c1, rfl⟩ := own_shape2 (HM.out.row_ 0 rfl)
            have l0 := (HM.out.blk_ 1 rfl).c 0 rfl
            have ltl := (HM.out.blk_ 1 rfl).lt
            by_cases hli : i < l.length
            · have hli2 : (i : Int) < l.length := by omega
              obtain ⟨b1, cur, rfl, -, hb1, -, -, hc1⟩ := row_blk (HM.out.row_ 0 rfl) (by omega)
              have lx := hb1.c i (hc1 i _ (numsV_get hli))
              have ltx := hb1.lt
              obtain ⟨x, hx⟩ : ∃ x, l.getD i 0 = x := ⟨_, rfl⟩
              rw [hx] at lx
              have hxl : x ∈ l := by rw [← hx, List.getD_eq_getElem?_getD, List.getElem?_eq_getElem hli]; exact List.getElem_mem _
              have hxN : x < N := ((HB.out.mem x).1 hxl).1
              rw [HG.out] at HM
              have bd : Blk wr hs 28 #[.int .i64 gx, .int .i64 gy, .int .i64 gs, .int .i64 W, .int .i64 H] := HM.out.get 6 rfl
              have ltd := bd.lt
              have d0 := bd.c 0 rfl
              have d1 := bd.c 1 rfl
              have d2 := bd.c 2 rfl
              have d3 := bd.c 3 rfl
              have d4 := bd.c 4 rfl
              clear hb1 hc1
              go_wp2_with fail
              refine wp_region_cut 5 (by kernel_rfl) (by simp only [List.take_succ_cons, List.take_zero]; exact rfl) (by simp only [List.drop_succ_cons, List.drop_zero]; exact rfl) (by kernel_rfl) ?_
              apply any_region_J (w0 := wr) [[], [], [], [], []] [true, true, true, true, true] [] (fun ixq y => match ixq with  | _ => undef) (fun ixq x F wq => match ixq with  | _ => True) (fun a x => a) (by kernel_rfl) (fun _ => rfl) [] (by kernel_rfl)
              · intro x D hD
                have hne := hD.some
                have k0 := liftB hD l0 (by first | assumption | omega)
                have k1 := liftB hD lx (by first | assumption | omega)
                have k2 := liftB hD d0 (by first | assumption | omega)
                have k3 := liftB hD d1 (by first | assumption | omega)
                have k4 := liftB hD d2 (by first | assumption | omega)
                have k5 := liftB hD d3 (by first | assumption | omega)
                have k6 := liftB hD d4 (by first | assumption | omega)
                simp only [takeOps, Act.put, List.setIfInBounds_toArray, List.set_cons_succ, List.set_cons_zero]
                repeat (go_big_quiet_step (fail))
                exact wpQuiet_nil rfl
              · exact fun _ h => absurd h (by simp)
              · exact trivial
              · exact trivial
              intro xx w7 F hL hlv1 hap1
              clear hap1
              clear hlv1
              refine ⟨rfl, ?_⟩
              replace HM := hide (HM.out.later hL)
              clear hL bd ltd d0 d1 d2 d3 d4
              go_wp2_with fail
              refine (around_any gx gy gs W H x w7).mono ?_
              rintro e w8 ⟨rfl, hb8, -, kg, kp⟩
              have HMn := hide (HM.out.called2 hb8 kg kp)
              clear HM kg kp hb8
              have HM := HMn
              clear HMn
              obtain ⟨bg, hbg⟩ : ∃ b, w7.heap.size = b := ⟨_, rfl⟩
              have hst := around_stops (fun k => k = bg ∨ k = bg + 1) gx gy gs W H x bg (bg + 1) 7 w8 (by omega) (by rw [HN.out]; exact hxN) (by omega) (by omega) (.inl rfl) (.inr rfl) (by rw [← hbg]; exact HM.out.blk_ 1 rfl) (by rw [← hbg]; exact HM.out.blk_ 0 rfl)
              have hbl : ∀ k, k = bg ∨ k = bg + 1 → k < w8.heap.size := by
                have h1 := (HM.out.blk_ 0 rfl).lt
                intro k hk
                omega
              simp only [hbg]
              rw [hbg] at HM
              have hRS : RngP w w8.heap.size hs oB g N bg lB nB K x i p G fv (S ++ Ds.map thD) (nbL W H) wants f (f1, l, .slice (some ⟨b1, 0, none⟩) l.length c1) [] w8 := ⟨⟨by unfold tsR thG; rw [HG.out]; exact HM.out, Nat.le_refl _⟩, HB.out, hli, hx, HSM.out, HFP.out, fun q hq => absurd hq List.not_mem_nil⟩
              have hT : ∀ t ∈ S ++ Ds.map thD, t.calm w8.heap.size := fun t ht => Th.calm_ok (HM.out.all t (List.mem_append_right [_, _, _, _, _, _, _, _, _] ht))
              have hwz : w.heap.size ≤ w8.heap.size := HM.out.size
              obtain ⟨II, hII⟩ : ∃ II : List (InN W H x) → World → Prop, II = (fun pre V => ∃ s, RngP w w8.heap.size hs oB g N bg lB nB K x i p G fv (S ++ Ds.map thD) (nbL W H) wants f s (pre.map (·.1)) V) := ⟨_, rfl⟩
              obtain ⟨IX, hIX⟩ : ∃ IX : Code → List (InN W H x) → World → Prop, IX = (fun _ _ _ => False) := ⟨_, rfl⟩
              have HII := hide hII
              have HIX := hide hIX
              have HT := hide hT
              have HRS := hide hRS
              have HST := hide hst
              clear hII hIX hT hRS hst
              clear HM HB HSM HFP lx ltx l0 ltl
              go_wp2_with fail
              refine wp_range1 (α := InN W H x) (p := 56) (d := 12) rfl (enters_of Try.func90 (by kernel_rfl) rfl) (v0 := fun q : InN W H x => .int .i64 (q.1 : Int)) HST.out
                (fun h k => h.trans k) (fun W' lx o' hl => KeptS.putObj (B := w8.heap.size) hbl W' lx o' hl) (fun W' => KeptS.refl _ _) (Below.refl _ _)
                II IX
                (by
                  rw [HII.out]
                  exact ownFrom_ex fun s => OwnFrom.and (OwnFrom.and (Mem.ownFrom hwz fun _ => tsR_calm HT.out) (fun _ _ _ _ h hg _ => Nat.le_trans h hg.size)) (ownFrom_pure _ _))
                (fun c => by rw [HIX.out]; exact ownFrom_pure _ _) (fun pre V h => by rw [HII.out] at h; obtain ⟨s, hs9⟩ := h; exact hs9.1.2)
                (by rw [HII.out]; exact ⟨_, HRS.out⟩)
                ?assign ?body ?done ?stop
              case assign =>
                intro lp y V Kk hKk
                gi_wp2
                exact hKk
              case body =>
                intro lp pre y V hi hlen
                rw [HII.out] at hi
                obtain ⟨⟨f2, l2, v2⟩, ⟨hM2, hz2⟩, hB2, hi2, hx2, hS2, hp2, hq2⟩ := hi
                obtain ⟨q, hqm⟩ := y
                simp only at hM2 hB2 hi2 hx2 hS2 hp2 hq2
                have hqN : q < N := HNB.out.lt x q hxN hqm
                unfold tsR thG at hM2
                dsimp only at hM2
                have HM := hide hM2
                have HB2 := hide hB2
                have HS2 := hide hS2
                have HQ2 := hide hq2
                clear hM2 hB2 hS2 hq2
                clear HRS HST
                obtain ⟨A2, c2, rfl⟩ := own_shape2 (HM.out.row_ 2 rfl)
                have HKF := hide (KeepsFrom.refl w8.heap.size V)
                have HKS := hide (KeptS.refl (fun k => k = bg ∨ k = bg + 1) V)
                simp only [List.setIfInBounds_toArray, List.set_cons_succ, List.set_cons_zero]
                have o0 := (HM.out.blk_ 6 rfl).c 0 rfl
                have lto := (HM.out.blk_ 6 rfl).lt
                have gq := (HM.out.blk_ 4 rfl).c q (cellsF_at hqN)
                have ltg := (HM.out.blk_ 4 rfl).lt
                have f0 := (HM.out.blk_ 7 rfl).c 0 rfl
                have ltf := (HM.out.blk_ 7 rfl).lt
                rw [HFV.out] at f0
                by_cases hf2 : 0 ≤ f2 q
                · have hf3 : ¬ f2 q < 0 := by omega
                  gi_wp2_with (refine wpListIn_skip (by rfl) (by rfl) ?_)
                  refine ⟨HKF.out, HKS.out, ?_⟩
                  rw [HII.out]
                  exact ⟨(f2, l2, .slice A2 l2.length c2), ⟨by unfold tsR thG; exact HM.out, hz2⟩, HB2.out, hi2, hx2, HS2.out, hp2, fun a ha hw => by
                    rw [List.map_append, List.mem_append] at ha
                    rcases ha with ha | ha
                    · exact HQ2.out a ha hw
                    · have : a = q := by simpa using ha
                      subst this
                      exact hf2⟩
                · have hf3 : f2 q < 0 := by omega
                  have hc := HP.out V q HM.out.below hqN
                  obtain ⟨r, hr2⟩ : ∃ r, wants q = r := ⟨_, rfl⟩
                  rw [hr2] at hc
                  have HC := hide hc
                  have HR2 := hide hr2
                  clear hc hr2
                  gi_wp2_with fail
                  refine ⟨trivial, ?_⟩
                  refine (CallsIn.inRound lp (callsIn_wide.2 (HC.out))).mono ?_
                  rintro e V2 ⟨rfl, hb⟩
                  replace HM := hide (HM.out.later hb)
                  replace HKF := hide (keepf_later HKF.out hb)
                  replace HKS := hide (kepts_later HKS.out hb)
                  clear hb
                  have hz3 : w8.heap.size ≤ V2.heap.size := Nat.le_trans hz2 HKF.out.size
                  cases r with
                  | false =>
                    gi_wp2_with fail
                    refine ⟨HKF.out, HKS.out, ?_⟩
                    rw [HII.out]
                    exact ⟨(f2, l2, .slice A2 l2.length c2), ⟨by unfold tsR thG; exact HM.out, hz3⟩, HB2.out, hi2, hx2, HS2.out, hp2, fun a ha hw => by
                      rw [List.map_append, List.mem_append] at ha
                      rcases ha with ha | ha
                      · exact HQ2.out a ha hw
                      · have : a = q := by simpa using ha
                        subst this
                        rw [HR2.out] at hw; cases hw⟩
                  | true =>
                    clear o0 lto gq ltg f0 ltf
                    have o0 := (HM.out.blk_ 6 rfl).c 0 rfl
                    have lto := (HM.out.blk_ 6 rfl).lt
                    have gq := (HM.out.blk_ 4 rfl).c q (cellsF_at hqN)
                    have ltg := (HM.out.blk_ 4 rfl).lt
                    have fgq := (HM.out.blk_ 4 rfl).frozen q
                    have k0 := (HM.out.blk_ 5 rfl).c 0 rfl
                    have ltk := (HM.out.blk_ 5 rfl).lt
                    have hng1 := HM.out.ne 4 1 rfl rfl (by decide)
                    have hng0 := HM.out.ne 4 0 rfl rfl (by decide)
                    gi_upto_region 17 with fail
                    refine code_worldIn fun V3 hV3 => ?_
                    have HM3 := hide (Mem.to (HM.out.set_ 4 rfl q (.int .i64 (K : Nat)) cellsF_upd) hV3)
                    have HKF3 := hide (keepf_to hV3 (keepf_set HKF.out ⟨g, q, none⟩ (.int .i64 (K : Nat))))
                    have HKS3 := hide (kepts_to hV3 (kepts_set HKS.out (g := g) (by omega) q (.int .i64 (K : Nat))))
                    have hz4 : w8.heap.size ≤ V3.heap.size := by rw [hV3]; simpa using hz3
                    clear HM HKF HKS hV3 o0 lto gq ltg fgq k0 ltk
                    simp only [List.set_cons_succ, List.set_cons_zero] at HM3
                    have l0 := (HM3.out.blk_ 3 rfl).c 0 rfl
                    have ltl := (HM3.out.blk_ 3 rfl).lt
                    have hownM := HM3.out.row_ 2 rfl
                    obtain ⟨i0, hi0, hy0, hy1, hy2⟩ := info_parts intInfoT
                    have hlN2 := bfs_len HB2.out
                    have hbaseM : hs ≤ V3.heap.size := by rw [← HHS.out]; omega
                    gi_wp2_with (gi_at_builtin; go_must (refine wpListIn_append_own_at _ rfl (.tmp 71) (.tmp 73) _ rfl hs 3 i0 _ 1 8 Try.underlying33 hi0 hy0 hy1 hy2 rfl (by decide) _ l2.length (numsV l2) rfl (hownM.alloc _) ⟨V3.heap.size, 0, none⟩ 1 1 [.int .i64 (q : Nat)] rfl rfl ?qa1 (by intro u hu; simp only [List.mem_cons, List.not_mem_nil, or_false] at hu; rcases hu with rfl; rfl) ?qa3 ?qa4 ?qa5 ?_))
                    case qa1 => exact new_cellsQ V3 _ [.int .i64 (q : Nat)]
                    case qa3 => unfold maxLen; omega
                    case qa4 => omega
                    case qa5 => simp; omega
                    intro v3 V4 hown2 hgr2 hat2
                    have en : numsV l2 ++ [.int .i64 (q : Nat)] = numsV (l2 ++ [q]) := by unfold numsV; rw [List.map_append]; rfl
                    have el : l2.length + 1 = (l2 ++ [q]).length := by simp
                    rw [en, el] at hown2
                    have HM4 := hide (HM3.out.grow 2 rfl _ hgr2 hown2 hat2)
                    have HKF4 := hide (keepf_grown (keepf_alloc HKF3.out _) (hownM.alloc _) hgr2)
                    have HKS4 := hide (kepts_grown (kepts_alloc HKS3.out _) hgr2 (fun k hk hSk => by
                      have h1 := HM3.out.apart 2 1 rfl rfl (by decide) k (optL_mem hk)
                      have h2 := HM3.out.apart 2 0 rfl rfl (by decide) k (optL_mem hk)
                      rcases hSk with rfl | rfl
                      · exact h1 (List.mem_singleton.2 rfl)
                      · exact h2 (List.mem_singleton.2 rfl)))
                    have hz5 : w8.heap.size ≤ V4.heap.size := by have := hgr2.size; simp at this; omega
                    clear HM3 HKF3 HKS3 hownM hown2 hgr2 hat2 l0 ltl
                    simp only [List.set_cons_succ, List.set_cons_zero] at HM4
                    obtain ⟨A3, c3, rfl⟩ := own_shape2 (HM4.out.row_ 2 rfl)
                    have l0 := (HM4.out.blk_ 3 rfl).c 0 rfl
                    have ltl := (HM4.out.blk_ 3 rfl).lt
                    have fl0 := (HM4.out.blk_ 3 rfl).frozen 0
                    have hnl1 := HM4.out.ne 3 1 rfl rfl (by decide)
                    have hnl0 := HM4.out.ne 3 0 rfl rfl (by decide)
                    have HM5 := hide (HM4.out.set_ 3 rfl 0 (.slice A3 (l2 ++ [q]).length c3) rfl)
                    simp only [List.set_cons_succ, List.set_cons_zero] at HM5
                    obtain ⟨n3, hn3⟩ : ∃ n, (l2 ++ [q]).length = n := ⟨_, rfl⟩
                    have HN3 := hide hn3
                    rw [hn3] at HM5
                    simp only [hn3]
                    clear hn3 el en HM4
                    gi_wp2
                    refine ⟨keepf_set HKF4.out _ _, kepts_set HKS4.out (by omega) _ _, ?_⟩
                    rw [HII.out]
                    have hnq : ∀ a, 0 ≤ f2 a → 0 ≤ updF f2 q K a := fun a h0 => by
                      by_cases e : a = q
                      · subst e; omega
                      · rw [updF_ne e]; exact h0
                    exact ⟨(updF f2 q K, l2 ++ [q], .slice A3 (l2 ++ [q]).length c3), ⟨by unfold tsR thG; dsimp only; rw [HN3.out]; exact HM5.out, by simpa using hz5⟩, bfs_take HNB.out HB2.out hi2 (by rw [hx2]; exact hqm) hf3 HR2.out, by simp; omega, by rw [getD_app hi2]; exact hx2, HS2.out.upd hf3, hnq p hp2, fun a ha hw => by
                      rw [List.map_append, List.mem_append] at ha
                      rcases ha with ha | ha
                      · exact hnq a (HQ2.out a ha hw)
                      · have : a = q := by simpa using ha
                        subst this
                        show 0 ≤ updF f2 a K a
                        rw [updF_at]
                        omega⟩
              case done =>
                intro D xs V hD hxs hi hdd
                rw [HII.out] at hi
                obtain ⟨⟨f2, l2, v2⟩, ⟨hM2, hz2⟩, hB2, hi2, hx2, hS2, hp2, hq2⟩ := hi
                simp only at hM2 hB2 hi2 hx2 hS2 hp2 hq2
                have hall : ∀ a ∈ nbL W H (l2.getD i 0), wants a = true → 0 ≤ f2 a := fun a ha hw => by
                  rw [hx2, ← hxs] at ha
                  exact hq2 a ha hw
                have hMd := (((hM2.ranged (tsR_calm HT.out) hdd hD hwz).drop 1 rfl).drop 1 rfl).perm (List.perm_middle (l₁ := _ :: _ :: _ :: _ :: _ :: _ :: _ :: S) (a := thD D) (l₂ := Ds.map thD)).symm
                have HMD := hide hMd
                clear hM2 HRS HST hMd
                go_wp2
                refine ⟨?_, by simp [intOf] <;> omega⟩
                rw [HINW.out]
                iterate 75 (apply Exists.intro)
                exact ⟨v2, l2, f2, i + 1, D :: Ds, ⟨bfs_on hB2 hall, hi2, hS2, hp2, HMD.out⟩, by rw [show ((i + 1 : Nat) : Int) = (i : Int) + 1 by omega]; rfl⟩
              case stop =>
                intro D jc pre V hD hpre hix hdd
                rw [HIX.out] at hix
                exact hix.elim
            · obtain rfl : i = l.length := by omega
              have hkk : ¬ ((l.length : Int) < l.length) := by omega
              go_wp2_with fail
              refine (sort_any (HM.out.row_ 0 rfl) (List.length_pos_iff.2 HB.out.ne) (by omega) (sort_part HB.out.nd HB.out.mem)).mono ?_
              rintro e w9 ⟨rfl, hgr9, hown9⟩
              have hlp : (partL N f1 K).length = l.length := by
                have := hown9.1
                rw [numsV_len, Nat.mul_one] at this
                exact this
              have HMs := hide (HM.out.grown_ 0 rfl hgr9 hown9 (.inl rfl))
              clear HM hgr9 hown9
              have HM := HMs
              clear HMs
              simp only [List.set_cons_zero] at HM
              rw [← HS.out] at HM
              obtain ⟨xs, hxs⟩ : ∃ xs, E.reverse.map (·.1) = xs := ⟨_, rfl⟩
              rw [hxs] at HM
              have HXS := hide hxs
              clear hxs
              clear l0 ltl
              have l0 := (HM.out.blk_ 1 rfl).c 0 rfl
              have ltl := (HM.out.blk_ 1 rfl).lt
              obtain ⟨i0, hi0, hy0, hy1, hy2⟩ := info_parts partsInfo
              have Hi := hide hi0
              have Hz0 := hide hy0
              have Hz1 := hide hy1
              have Hz2 := hide hy2
              clear hi0 hy0 hy1 hy2
              go_upto_region 19 with fail
              have hbaseM : hs ≤ w9.heap.size := by rw [← HHS.out]; exact HM.out.size
              have hownM := Mem.row_ HM.out 7 rfl
              
              go_wp2_with (at_builtin; refine wpList_append_own_at _ rfl (.tmp 77) (.tmp 79) _ rfl _ 33 i0 _ 1 24 Try.underlying79 Hi.out Hz0.out Hz1.out Hz2.out rfl (by decide) _ K xs rfl (hownM.alloc _) ⟨w9.heap.size, 0, none⟩ 1 1 [.slice A1 l.length c1] rfl rfl ?q1c1 (by intro u hu; simp only [List.mem_cons, List.not_mem_nil, or_false] at hu; rcases hu with rfl <;> rfl) ?q1c3 ?q1c4 ?q1c5 ?_)
              try case q1c1 => exact new_cellsQ w9 _ [.slice A1 l.length c1]
              case q1c3 => unfold maxLen; omega
              case q1c4 => omega
              case q1c5 => first | omega | (simp; omega)
              intro vA wA hown2 hgr2 _ hat2
              have HMn := HM.out.grow 7 rfl _ hgr2 hown2 hat2
              replace HM := hide HMn
              clear HMn hown2 hgr2 hat2 hownM hbaseM
              have hMZ := PartsO.more (hs := hs) hlt hKp HNE.out (List.length_pos_iff.2 HB.out.ne) hK HNB.out HPI.out HBEF.out HE.out HB.out HSM.out HFP.out hlp (vA := vA) (A1 := A1) (c1 := c1) (wr := wA) (w := w) (oB := oB) (g := g) (G := G) (fv := fv) (Ds := Ds) (nB := nB) (lB := lB) (vl := .slice A1 l.length c1) (by rw [HXS.out]; exact HM.out)
              have HMZ := hide hMZ
              clear HM hMZ
              go_wp2_with fail
              refine ⟨?_, by simp [intOf] <;> omega⟩
              rw [HINV.out]
              iterate 78 (apply Exists.intro)
              exact ⟨vA, p + 1, f1, (.slice A1 l.length c1, partL N f1 K) :: E, Ds, HMZ.out, by rw [show ((p + 1 : Nat) : Int) = (p : Int) + 1 by omega]⟩
    · obtain rfl : p = N := by omega
      have hkk : ¬ ((p : Int) < p) := by omega
      have o0 := (HM.out.blk_ 2 rfl).c 0 rfl
      have lto := (HM.out.blk_ 2 rfl).lt
      have hall : ∀ q, q < p → wants q = true → 0 ≤ f q := HBEF.out
      go_wp2_with fail
      go_quiet (fail)
      have HMq := hide (HM.out.later (below_drewN (Below.refl _ _) nq))
      clear HM o0 lto
      generalize (wr.drewN nq : World) = wq at *
      go_wp2_with fail
      refine leaves_marks Ds wq (HMq.out.marks ?_) HMq.out.size fun w' hbw' hcells => ?_
      · exact (List.sublist_append_right _ _).trans (List.sublist_append_right [_, _, _, _, _] _)
      · refine ⟨.tuple #[v, .slice (some ⟨g, 0, none⟩) p p], by simp [results, Try.results63, go_sem], ?_⟩
        refine ⟨v, g, E, f, rfl, ?_, HPI.out, hall, HE.out, HNE.out, hKp⟩
        have h1 := HMq.out.sub (.cons_cons _ (.cons_cons _ (.cons _ (.cons _ (.cons _ (List.sublist_append_left (E.map (thP hs)) (Ds.map thD)))))))
        have h2 := (h1.perm (List.Perm.swap _ _ _)).leave (fun t ht => by
          rcases List.mem_cons.1 ht with rfl | ht
          · trivial
          · rcases List.mem_cons.1 ht with rfl | ht
            · trivial
            · obtain ⟨y, -, rfl⟩ := List.mem_map.1 ht
              trivial) hbw' hcells
        rw [HHS.out]
        exact h2
set_option maxHeartbeats 4000000 in
set_option maxRecDepth 100000 in
theorem parts_in (gx gy gs : Int) (W H : Nat) (sv : Value) (wants : Nat → Bool) (w : World) (hW : 1 ≤ W) (hH : 1 ≤ H) (hW8 : W ≤ 8) (hH8 : H ≤ 8)
    (hP : ∀ V p, Below w.heap.size w V → p < W * H → Calls Try.prog 66 #[sv, .int .i64 (p : Nat)] V fun e w' => e = .returned (.bool (wants p)) ∧ Below V.heap.size V w') :
    Calls Try.prog 63 #[.agg (gridC gx gy gs W H), .func (.func 66) #[sv] #[]] w (PartsPost (W * H) (nbL W H) wants w) := by
  obtain ⟨N, hN⟩ : ∃ N, W * H = N := ⟨_, rfl⟩
  have hN1 : 1 ≤ N := by rw [← hN]; exact Nat.mul_pos hW hH
  have hN2 : N ≤ 64 := by rw [← hN]; exact Nat.mul_le_mul hW8 hH8
  have hmul : (W : Int) * (H : Int) = (N : Int) := by rw [← hN]; push_cast; rfl
  have hnb := nb_ok W H
  rw [hN] at hP hnb ⊢
  unfold gridC
  have hW2 : (W : Int) ≤ 8 := by omega
  have hH2 : (H : Int) ≤ 8 := by omega
  have hN3 : (N : Int) ≤ 64 := by omega
  have HP := hide hP
  have HNB := hide hnb
  have HN := hide hN
  clear hP hnb hN
  refine (callsIn_wide (n := 8)).1 (callsIn_of_wp_marks Try.func63 rfl trivial (wpIn_wide.2 ?_))
  simp only [Try.ntmps63, List.size_toArray, List.length_cons, List.length_nil, Nat.reduceAdd, Nat.reduceSub, Array.replicate_succ, Array.replicate_zero, List.push_toArray, List.append_toArray, List.nil_append, List.cons_append]
  have HM := hide (Mem.start w)
  go_wp2_with fail
  refine at_world fun W1 hW => ?_
  have HMn := Mem.to (Mem.allocAt (Mem.allocAt (Mem.allocAt HM.out w.heap.size rfl #[.int .i64 gx, .int .i64 gy, .int .i64 gs, .int .i64 W, .int .i64 H] 28) (w.heap.size + 1) (by simp) #[.func (.func 66) #[sv] #[]] 152) (w.heap.size + 2) (by simp) #[.int .i64 (-1)] 3) hW
  have LW : Later w W1 := by rw [hW]; exact ((((Below.refl _ _).alloc (Nat.le_refl _) _).alloc (by simp; try omega) _).alloc (by simp; try omega) _)
  have szW : W1.heap.size = w.heap.size + 3 := by rw [hW]; simp
  clear hW
  replace HM := hide HMn
  clear HMn LW
  refine (repeat_any (-1) N (w.heap.size + 1 + 1) W1 hN1 (by omega) (HM.out.blk_ 0 rfl)).mono ?_
  rintro e w2 ⟨g, rfl, hg, hkg, hb2⟩
  have HM2 := hide ((HM.out.drop 0 rfl).add hb2 (t := .blk g 3 (cellsF (fun _ => -1) N)) hkg (fun k hk => by rw [List.mem_singleton.1 hk]; exact hg))
  clear HM hg hkg hb2 szW
  have HM := HM2
  clear HM2
  obtain ⟨G, hG⟩ : ∃ G : Array Value, G = #[.int .i64 gx, .int .i64 gy, .int .i64 gs, .int .i64 W, .int .i64 H] := ⟨_, rfl⟩
  obtain ⟨fv, hfv⟩ : ∃ fv : Value, fv = .func (.func 66) #[sv] #[] := ⟨_, rfl⟩
  go_wp2_with fail
  refine code_world fun w3 hW => ?_
  have HMn := Mem.to (Mem.allocAt HM.out w2.heap.size rfl #[.slice (some ⟨g, 0, none⟩) N N] 33) hW
  have LW : Later w2 w3 := by rw [hW]; exact ((Below.refl _ _).alloc (Nat.le_refl _) _)
  have szW : w3.heap.size = w2.heap.size + 1 := by rw [hW]; simp
  clear hW
  replace HM := hide HMn
  clear HMn LW
  clear szW
  have HP0 := hide (show PartsO w w.heap.size w2.heap.size g N G fv (nbL W H) wants (.slice none 0 0) 0 (fun _ => -1) [] [] w3 from ⟨Nat.zero_le _, Nat.zero_le _, fun y hy => absurd hy List.not_mem_nil, part_none, fun q h => absurd h (Nat.not_lt_zero _), rfl, by
    have h := (HM.out.nilRow w.heap.size 33 1).perm (List.Perm.cons _ (List.Perm.swap _ _ _))
    unfold thG
    rw [hG, hfv]
    exact h⟩)
  obtain ⟨hs, hhs⟩ : ∃ hs, w.heap.size = hs := ⟨_, rfl⟩
  obtain ⟨oB, hoB⟩ : ∃ oB, w2.heap.size = oB := ⟨_, rfl⟩
  have ltg : oB < w3.heap.size := by rw [← hoB]; exact (HM.out.blk_ 0 rfl).lt
  have o0 := (HM.out.blk_ 0 rfl).c 0 rfl
  rw [hhs, hoB] at HP0
  rw [hoB] at o0
  simp only [hhs, hoB]
  clear HM hoB
  have HG := hide hG
  have HFV := hide hfv
  have HHS := hide hhs
  clear hG hfv hhs
  go_wp2_with fail
  obtain ⟨INV, hINV⟩ : ∃ INV : Act → World → Prop, INV = (fun a' wr => ∃ u0 u1 u4 u5 u8 u9 u10 u11 u12 u13 u14 u15 u16 u17 u18 u19 u20 u23 u24 u25 u26 u27 u28 u29 u30 u31 u32 u33 u34 u35 u36 u37 u38 u39 u40 u41 u42 u43 u44 u45 u46 u47 u48 u49 u50 u51 u52 u53 u54 u55 u56 u57 u58 u59 u60 u61 u62 u63 u64 u65 u66 u67 u68 u69 u70 u71 u72 u73 u74 u75 u76 u77 u78 u79 u80 u81 u82 u83 : Value, ∃ (v : Value) (p : Nat) (f : Nat → Int) (E : List (Value × List Nat)) (Ds : List Nat), (PartsO w hs oB g N G fv (nbL W H) wants v p f E Ds wr) ∧ a' = ⟨#[u0, u1, .pointer (some ⟨hs, 0, none⟩), .pointer (some ⟨hs + 1, 0, none⟩), u4, u5, v, .pointer (some ⟨oB, 0, none⟩), u8, u9, u10, u11, u12, u13, u14, u15, u16, u17, u18, u19, u20, .int .i64 (N : Nat), .int .i64 (p : Nat), u23, u24, u25, u26, u27, u28, u29, u30, u31, u32, u33, u34, u35, u36, u37, u38, u39, u40, u41, u42, u43, u44, u45, u46, u47, u48, u49, u50, u51, u52, u53, u54, u55, u56, u57, u58, u59, u60, u61, u62, u63, u64, u65, u66, u67, u68, u69, u70, u71, u72, u73, u74, u75, u76, u77, u78, u79, u80, u81, u82, u83], Ds.map markD⟩) := ⟨_, rfl⟩
  have HINV := hide hINV
  clear hINV
  refine wp_loop INV (fun a' _ => N - (intOf (a'.tmps.getD 22 undef)).toNat) ?_ ?_
  · rw [HINV.out]
    iterate 78 (apply Exists.intro)
    exact ⟨.slice none 0 0, 0, fun _ => -1, [], [], HP0.out, rfl⟩
  · intro a' wr hinv
    rw [HINV.out] at hinv
    obtain ⟨u0, hinv⟩ := hinv
    obtain ⟨u1, hinv⟩ := hinv
    obtain ⟨u4, hinv⟩ := hinv
    obtain ⟨u5, hinv⟩ := hinv
    obtain ⟨u8, hinv⟩ := hinv
    obtain ⟨u9, hinv⟩ := hinv
    obtain ⟨u10, hinv⟩ := hinv
    obtain ⟨u11, hinv⟩ := hinv
    obtain ⟨u12, hinv⟩ := hinv
    obtain ⟨u13, hinv⟩ := hinv
    obtain ⟨u14, hinv⟩ := hinv
    obtain ⟨u15, hinv⟩ := hinv
    obtain ⟨u16, hinv⟩ := hinv
    obtain ⟨u17, hinv⟩ := hinv
    obtain ⟨u18, hinv⟩ := hinv
    obtain ⟨u19, hinv⟩ := hinv
    obtain ⟨u20, hinv⟩ := hinv
    obtain ⟨u23, hinv⟩ := hinv
    obtain ⟨u24, hinv⟩ := hinv
    obtain ⟨u25, hinv⟩ := hinv
    obtain ⟨u26, hinv⟩ := hinv
    obtain ⟨u27, hinv⟩ := hinv
    obtain ⟨u28, hinv⟩ := hinv
    obtain ⟨u29, hinv⟩ := hinv
    obtain ⟨u30, hinv⟩ := hinv
    obtain ⟨u31, hinv⟩ := hinv
    obtain ⟨u32, hinv⟩ := hinv
    obtain ⟨u33, hinv⟩ := hinv
    obtain ⟨u34, hinv⟩ := hinv
    obtain ⟨u35, hinv⟩ := hinv
    obtain ⟨u36, hinv⟩ := hinv
    obtain ⟨u37, hinv⟩ := hinv
    obtain ⟨u38, hinv⟩ := hinv
    obtain ⟨u39, hinv⟩ := hinv
    obtain ⟨u40, hinv⟩ := hinv
    obtain ⟨u41, hinv⟩ := hinv
    obtain ⟨u42, hinv⟩ := hinv
    obtain ⟨u43, hinv⟩ := hinv
    obtain ⟨u44, hinv⟩ := hinv
    obtain ⟨u45, hinv⟩ := hinv
    obtain ⟨u46, hinv⟩ := hinv
    obtain ⟨u47, hinv⟩ := hinv
    obtain ⟨u48, hinv⟩ := hinv
    obtain ⟨u49, hinv⟩ := hinv
    obtain ⟨u50, hinv⟩ := hinv
    obtain ⟨u51, hinv⟩ := hinv
    obtain ⟨u52, hinv⟩ := hinv
    obtain ⟨u53, hinv⟩ := hinv
    obtain ⟨u54, hinv⟩ := hinv
    obtain ⟨u55, hinv⟩ := hinv
    obtain ⟨u56, hinv⟩ := hinv
    obtain ⟨u57, hinv⟩ := hinv
    obtain ⟨u58, hinv⟩ := hinv
    obtain ⟨u59, hinv⟩ := hinv
    obtain ⟨u60, hinv⟩ := hinv
    obtain ⟨u61, hinv⟩ := hinv
    obtain ⟨u62, hinv⟩ := hinv
    obtain ⟨u63, hinv⟩ := hinv
    obtain ⟨u64, hinv⟩ := hinv
    obtain ⟨u65, hinv⟩ := hinv
    obtain ⟨u66, hinv⟩ := hinv
    obtain ⟨u67, hinv⟩ := hinv
    obtain ⟨u68, hinv⟩ := hinv
    obtain ⟨u69, hinv⟩ := hinv
    obtain ⟨u70, hinv⟩ := hinv
    obtain ⟨u71, hinv⟩ := hinv
    obtain ⟨u72, hinv⟩ := hinv
    obtain ⟨u73, hinv⟩ := hinv
    obtain ⟨u74, hinv⟩ := hinv
    obtain ⟨u75, hinv⟩ := hinv
    obtain ⟨u76, hinv⟩ := hinv
    obtain ⟨u77, hinv⟩ := hinv
    obtain ⟨u78, hinv⟩ := hinv
    obtain ⟨u79, hinv⟩ := hinv
    obtain ⟨u80, hinv⟩ := hinv
    obtain ⟨u81, hinv⟩ := hinv
    obtain ⟨u82, hinv⟩ := hinv
    obtain ⟨u83, hinv⟩ := hinv
    obtain ⟨v, p, f, E, Ds, ho, ha⟩ := hinv
    subst ha
    dsimp only
    obtain ⟨hpN, hKp, hne, hpi, hbef, hE, hM⟩ := ho
    clear HP0 ltg o0
    have HNE := hide hne
    have HPI := hide hpi
    have HBEF := hide hbef
    have HE := hide hE
    have HM := hide hM
    clear hne hpi hbef hE hM
    unfold thG at HM
    have o0 := (HM.out.blk_ 2 rfl).c 0 rfl
    have lto := (HM.out.blk_ 2 rfl).lt
    have f0 := (HM.out.blk_ 3 rfl).c 0 rfl
    have ltf := (HM.out.blk_ 3 rfl).lt
    rw [HFV.out] at f0
    have ltg := (HM.out.blk_ 1 rfl).lt
    by_cases hlt : p < N
    · have hlt2 : (p : Int) < N := by omega
      have gp := (HM.out.blk_ 1 rfl).c p (cellsF_at hlt)
      by_cases hf : 0 ≤ f p
      · go_wp2_with fail
        refine ⟨?_, by simp [intOf] <;> omega⟩
        rw [HINV.out]
        iterate 78 (apply Exists.intro)
        exact ⟨v, p + 1, f, E, Ds, PartsO.skip hlt hKp HNE.out HPI.out HBEF.out HE.out HM.out (.inl hf), by rw [show ((p + 1 : Nat) : Int) = (p : Int) + 1 by omega]⟩
      · have hc := HP.out wr p HM.out.below hlt
        obtain ⟨r, hr⟩ : ∃ r, wants p = r := ⟨_, rfl⟩
        rw [hr] at hc
        have HC := hide hc
        have HR := hide hr
        clear hc hr
        go_wp2_with fail
        refine (HC.out).mono ?_
        rintro e w4 ⟨rfl, hb⟩
        replace HM := hide (HM.out.later hb)
        clear hb
        cases r with
        | false =>
          go_wp2_with fail
          refine ⟨?_, by simp [intOf] <;> omega⟩
          rw [HINV.out]
          iterate 78 (apply Exists.intro)
          exact ⟨v, p + 1, f, E, Ds, PartsO.skip hlt hKp HNE.out HPI.out HBEF.out HE.out HM.out (.inr HR.out), by rw [show ((p + 1 : Nat) : Int) = (p : Int) + 1 by omega]⟩
        | true =>
          obtain ⟨Av, cv, rfl⟩ := own_shape2 (HM.out.row_ 0 rfl)
          obtain ⟨K, hK⟩ : ∃ K, E.length = K := ⟨_, rfl⟩
          rw [hK] at HM hKp
          have hsz4 := HM.out.size
          simp only [hK]
          clear o0 lto f0 ltf ltg gp
          go_upto_region 9 with fail
          refine code_world fun w5 hW => ?_
          have HMn := Mem.to (Mem.allocAt (Mem.allocAt (Mem.allocAt HM.out w4.heap.size rfl #[.int .i64 (K : Nat)] 3) (w4.heap.size + 1) (by simp) #[.int .i64 (p : Nat)] 3) (w4.heap.size + 2) (by simp) #[.slice (some ⟨w4.heap.size + 1, 0, none⟩) 1 1] 33) hW
          have LW : Later w4 w5 := by rw [hW]; exact ((((Below.refl _ _).alloc (Nat.le_refl _) _).alloc (by simp; try omega) _).alloc (by simp; try omega) _)
          have szW : w5.heap.size = w4.heap.size + 3 := by rw [hW]; simp
          clear hW
          replace HM := hide HMn
          clear HMn LW
          have k0 := (HM.out.blk_ 2 rfl).c 0 rfl
          have ltk := (HM.out.blk_ 2 rfl).lt
          have o0 := (HM.out.blk_ 5 rfl).c 0 rfl
          have lto := (HM.out.blk_ 5 rfl).lt
          have gp := (HM.out.blk_ 4 rfl).c p (cellsF_at hlt)
          have ltg := (HM.out.blk_ 4 rfl).lt
          have fgp := (HM.out.blk_ 4 rfl).frozen p
          have hgk := HM.out.ne 4 2 rfl rfl (by decide)
          have hgo := HM.out.ne 4 5 rfl rfl (by decide)
          go_upto_region 10 with fail
          refine code_world fun w6 hw6 => ?_
          have HM6 := hide (Mem.to (HM.out.set_ 4 rfl p (.int .i64 (K : Nat)) cellsF_upd) hw6)
          clear HM
          obtain ⟨nB, hnB⟩ : ∃ b, w4.heap.size = b := ⟨_, rfl⟩
          obtain ⟨lB, hlB⟩ : ∃ b, nB + 2 = b := ⟨_, rfl⟩
          have hlB2 : nB + 1 + 1 = lB := hlB
          have HN0 := hide (show PartsN w hs oB g N G fv (nbL W H) wants nB lB p K f (.row hs 33 1 (.slice Av K cv) K (E.reverse.map (·.1)) :: E.map (thP hs)) (.slice (some ⟨w4.heap.size + 1, 0, none⟩) 1 1) [p] (updF f p K) 0 Ds w6 from by
            rw [← hlB, ← hnB]
            have hps := HPI.out
            rw [hK] at hps
            refine ⟨bfs_start hps hlt (by omega) HR.out, Nat.zero_le _, (Same.refl _ _ _).upd (by omega), by rw [updF_at]; omega, ?_⟩
            have h1 := HM6.out.asRow (n := 1) (size := 1) (base := hs) 1 rfl rfl (by decide) (by rw [← HHS.out]; omega)
            exact h1.perm (perm_start _ _ _ _ _ _ _ _ _))
          simp only [hnB, hlB2]
          clear HM6 k0 ltk o0 lto gp ltg fgp hgk hgo
          obtain ⟨S, hS⟩ : ∃ S, (.row hs 33 1 (.slice Av K cv) K (E.reverse.map (·.1)) :: E.map (thP hs) : List Th) = S := ⟨_, rfl⟩
          rw [hS] at HN0
          have HS := hide hS
          have HNBe := hide hnB
          have HLBe := hide hlB
          clear hS hnB hlB
          go_wp2_with fail
          obtain ⟨INW, hINV⟩ : ∃ INW : Act → World → Prop, INW = (fun a' wr => ∃ u0 u1 u4 u5 u8 u12 u13 u14 u15 u16 u17 u18 u19 u20 u23 u24 u25 u26 u27 u28 u29 u30 u31 u32 u33 u34 u35 u36 u37 u38 u39 u40 u41 u42 u43 u44 u45 u46 u47 u48 u49 u50 u51 u52 u53 u54 u55 u56 u57 u58 u59 u60 u61 u62 u63 u64 u65 u66 u67 u68 u69 u70 u71 u72 u73 u74 u75 u76 u77 u78 u79 u80 u81 u82 u83 : Value, ∃ (vl : Value) (l : List Nat) (f1 : Nat → Int) (i : Nat) (Ds : List Nat), (PartsN w hs oB g N G fv (nbL W H) wants nB lB p K f S vl l f1 i Ds wr) ∧ a' = ⟨#[u0, u1, .pointer (some ⟨hs, 0, none⟩), .pointer (some ⟨hs + 1, 0, none⟩), u4, u5, .slice Av K cv, .pointer (some ⟨oB, 0, none⟩), u8, .pointer (some ⟨nB, 0, none⟩), .pointer (some ⟨lB, 0, none⟩), .int .i64 (i : Nat), u12, u13, u14, u15, u16, u17, u18, u19, u20, .int .i64 (N : Nat), .int .i64 (p : Nat), u23, u24, u25, u26, u27, u28, u29, u30, u31, u32, u33, u34, u35, u36, u37, u38, u39, u40, u41, u42, u43, u44, u45, u46, u47, u48, u49, u50, u51, u52, u53, u54, u55, u56, u57, u58, u59, u60, u61, u62, u63, u64, u65, u66, u67, u68, u69, u70, u71, u72, u73, u74, u75, u76, u77, u78, u79, u80, u81, u82, u83], Ds.map markD⟩) := ⟨_, rfl⟩
          have HINW := hide hINV
          clear hINV
          refine wp_loop INW (fun a' _ => N - (intOf (a'.tmps.getD 11 undef)).toNat) ?_ ?_
          · rw [HINW.out]
            iterate 75 (apply Exists.intro)
            exact ⟨_, [p], updF f p K, 0, Ds, HN0.out, rfl⟩
          · intro a' wr hinv
            rw [HINW.out] at hinv
            obtain ⟨u0, hinv⟩ := hinv
            obtain ⟨u1, hinv⟩ := hinv
            obtain ⟨u4, hinv⟩ := hinv
            obtain ⟨u5, hinv⟩ := hinv
            obtain ⟨u8, hinv⟩ := hinv
            obtain ⟨u12, hinv⟩ := hinv
            obtain ⟨u13, hinv⟩ := hinv
            obtain ⟨u14, hinv⟩ := hinv
            obtain ⟨u15, hinv⟩ := hinv
            obtain ⟨u16, hinv⟩ := hinv
            obtain ⟨u17, hinv⟩ := hinv
            obtain ⟨u18, hinv⟩ := hinv
            obtain ⟨u19, hinv⟩ := hinv
            obtain ⟨u20, hinv⟩ := hinv
            obtain ⟨u23, hinv⟩ := hinv
            obtain ⟨u24, hinv⟩ := hinv
            obtain ⟨u25, hinv⟩ := hinv
            obtain ⟨u26, hinv⟩ := hinv
            obtain ⟨u27, hinv⟩ := hinv
            obtain ⟨u28, hinv⟩ := hinv
            obtain ⟨u29, hinv⟩ := hinv
            obtain ⟨u30, hinv⟩ := hinv
            obtain ⟨u31, hinv⟩ := hinv
            obtain ⟨u32, hinv⟩ := hinv
            obtain ⟨u33, hinv⟩ := hinv
            obtain ⟨u34, hinv⟩ := hinv
            obtain ⟨u35, hinv⟩ := hinv
            obtain ⟨u36, hinv⟩ := hinv
            obtain ⟨u37, hinv⟩ := hinv
            obtain ⟨u38, hinv⟩ := hinv
            obtain ⟨u39, hinv⟩ := hinv
            obtain ⟨u40, hinv⟩ := hinv
            obtain ⟨u41, hinv⟩ := hinv
            obtain ⟨u42, hinv⟩ := hinv
            obtain ⟨u43, hinv⟩ := hinv
            obtain ⟨u44, hinv⟩ := hinv
            obtain ⟨u45, hinv⟩ := hinv
            obtain ⟨u46, hinv⟩ := hinv
            obtain ⟨u47, hinv⟩ := hinv
            obtain ⟨u48, hinv⟩ := hinv
            obtain ⟨u49, hinv⟩ := hinv
            obtain ⟨u50, hinv⟩ := hinv
            obtain ⟨u51, hinv⟩ := hinv
            obtain ⟨u52, hinv⟩ := hinv
            obtain ⟨u53, hinv⟩ := hinv
            obtain ⟨u54, hinv⟩ := hinv
            obtain ⟨u55, hinv⟩ := hinv
            obtain ⟨u56, hinv⟩ := hinv
            obtain ⟨u57, hinv⟩ := hinv
            obtain ⟨u58, hinv⟩ := hinv
            obtain ⟨u59, hinv⟩ := hinv
            obtain ⟨u60, hinv⟩ := hinv
            obtain ⟨u61, hinv⟩ := hinv
            obtain ⟨u62, hinv⟩ := hinv
            obtain ⟨u63, hinv⟩ := hinv
            obtain ⟨u64, hinv⟩ := hinv
            obtain ⟨u65, hinv⟩ := hinv
            obtain ⟨u66, hinv⟩ := hinv
            obtain ⟨u67, hinv⟩ := hinv
            obtain ⟨u68, hinv⟩ := hinv
            obtain ⟨u69, hinv⟩ := hinv
            obtain ⟨u70, hinv⟩ := hinv
            obtain ⟨u71, hinv⟩ := hinv
            obtain ⟨u72, hinv⟩ := hinv
            obtain ⟨u73, hinv⟩ := hinv
            obtain ⟨u74, hinv⟩ := hinv
            obtain ⟨u75, hinv⟩ := hinv
            obtain ⟨u76, hinv⟩ := hinv
            obtain ⟨u77, hinv⟩ := hinv
            obtain ⟨u78, hinv⟩ := hinv
            obtain ⟨u79, hinv⟩ := hinv
            obtain ⟨u80, hinv⟩ := hinv
            obtain ⟨u81, hinv⟩ := hinv
            obtain ⟨u82, hinv⟩ := hinv
            obtain ⟨u83, hinv⟩ := hinv
            obtain ⟨vl, l, f1, i, Ds, hn, ha⟩ := hinv
            subst ha
            dsimp only
            clear HN0
            obtain ⟨hB, hil, hSm, hfp, hM⟩ := hn
            have hlN := bfs_len hB
            have HB := hide hB
            have HSM := hide hSm
            have HFP := hide hfp
            have HM := hide hM
            clear hB hSm hfp hM
            unfold thG at HM
            obtain ⟨A1, c1, rfl⟩ := own_shape2 (HM.out.row_ 0 rfl)
            have l0 := (HM.out.blk_ 1 rfl).c 0 rfl
            have ltl := (HM.out.blk_ 1 rfl).lt
            by_cases hli : i < l.length
            · have hli2 : (i : Int) < l.length := by omega
              obtain ⟨b1, cur, rfl, -, hb1, -, -, hc1⟩ := row_blk (HM.out.row_ 0 rfl) (by omega)
              have lx := hb1.c i (hc1 i _ (numsV_get hli))
              have ltx := hb1.lt
              obtain ⟨x, hx⟩ : ∃ x, l.getD i 0 = x := ⟨_, rfl⟩
              rw [hx] at lx
              have hxl : x ∈ l := by rw [← hx, List.getD_eq_getElem?_getD, List.getElem?_eq_getElem hli]; exact List.getElem_mem _
              have hxN : x < N := ((HB.out.mem x).1 hxl).1
              rw [HG.out] at HM
              have bd : Blk wr hs 28 #[.int .i64 gx, .int .i64 gy, .int .i64 gs, .int .i64 W, .int .i64 H] := HM.out.get 6 rfl
              have ltd := bd.lt
              have d0 := bd.c 0 rfl
              have d1 := bd.c 1 rfl
              have d2 := bd.c 2 rfl
              have d3 := bd.c 3 rfl
              have d4 := bd.c 4 rfl
              clear hb1 hc1
              go_wp2_with fail
              refine wp_region_cut 5 (by kernel_rfl) (by simp only [List.take_succ_cons, List.take_zero]; exact rfl) (by simp only [List.drop_succ_cons, List.drop_zero]; exact rfl) (by kernel_rfl) ?_
              apply any_region_J (w0 := wr) [[], [], [], [], []] [true, true, true, true, true] [] (fun ixq y => match ixq with  | _ => undef) (fun ixq x F wq => match ixq with  | _ => True) (fun a x => a) (by kernel_rfl) (fun _ => rfl) [] (by kernel_rfl)
              · intro x D hD
                have hne := hD.some
                have k0 := liftB hD l0 (by first | assumption | omega)
                have k1 := liftB hD lx (by first | assumption | omega)
                have k2 := liftB hD d0 (by first | assumption | omega)
                have k3 := liftB hD d1 (by first | assumption | omega)
                have k4 := liftB hD d2 (by first | assumption | omega)
                have k5 := liftB hD d3 (by first | assumption | omega)
                have k6 := liftB hD d4 (by first | assumption | omega)
                simp only [takeOps, Act.put, List.setIfInBounds_toArray, List.set_cons_succ, List.set_cons_zero]
                repeat (go_big_quiet_step (fail))
                exact wpQuiet_nil rfl
              · exact fun _ h => absurd h (by simp)
              · exact trivial
              · exact trivial
              intro xx w7 F hL hlv2 hap2
              clear hap2
              clear hlv2
              refine ⟨rfl, ?_⟩
              replace HM := hide (HM.out.later hL)
              clear hL bd ltd d0 d1 d2 d3 d4
              go_wp2_with fail
              refine (around_any gx gy gs W H x w7).mono ?_
              rintro e w8 ⟨rfl, hb8, -, kg, kp⟩
              have HMn := hide (HM.out.called2 hb8 kg kp)
              clear HM kg kp hb8
              have HM := HMn
              clear HMn
              obtain ⟨bg, hbg⟩ : ∃ b, w7.heap.size = b := ⟨_, rfl⟩
              have hst := around_stops (fun k => k = bg ∨ k = bg + 1) gx gy gs W H x bg (bg + 1) 7 w8 (by omega) (by rw [HN.out]; exact hxN) (by omega) (by omega) (.inl rfl) (.inr rfl) (by rw [← hbg]; exact HM.out.blk_ 1 rfl) (by rw [← hbg]; exact HM.out.blk_ 0 rfl)
              have hbl : ∀ k, k = bg ∨ k = bg + 1 → k < w8.heap.size := by
                have h1 := (HM.out.blk_ 0 rfl).lt
                intro k hk
                omega
              simp only [hbg]
              rw [hbg] at HM
              have hRS : RngP w w8.heap.size hs oB g N bg lB nB K x i p G fv (S ++ Ds.map thD) (nbL W H) wants f (f1, l, .slice (some ⟨b1, 0, none⟩) l.length c1) [] w8 := ⟨⟨by unfold tsR thG; rw [HG.out]; exact HM.out, Nat.le_refl _⟩, HB.out, hli, hx, HSM.out, HFP.out, fun q hq => absurd hq List.not_mem_nil⟩
              have hT : ∀ t ∈ S ++ Ds.map thD, t.calm w8.heap.size := fun t ht => Th.calm_ok (HM.out.all t (List.mem_append_right [_, _, _, _, _, _, _, _, _] ht))
              have hwz : w.heap.size ≤ w8.heap.size := HM.out.size
              obtain ⟨II, hII⟩ : ∃ II : List (InN W H x) → World → Prop, II = (fun pre V => ∃ s, RngP w w8.heap.size hs oB g N bg lB nB K x i p G fv (S ++ Ds.map thD) (nbL W H) wants f s (pre.map (·.1)) V) := ⟨_, rfl⟩
              obtain ⟨IX, hIX⟩ : ∃ IX : Code → List (InN W H x) → World → Prop, IX = (fun _ _ _ => False) := ⟨_, rfl⟩
              have HII := hide hII
              have HIX := hide hIX
              have HT := hide hT
              have HRS := hide hRS
              have HST := hide hst
              clear hII hIX hT hRS hst
              clear HM HB HSM HFP lx ltx l0 ltl
              go_wp2_with fail
              refine wp_range1 (α := InN W H x) (p := 56) (d := 12) rfl (enters_of Try.func90 (by kernel_rfl) rfl) (v0 := fun q : InN W H x => .int .i64 (q.1 : Int)) HST.out
                (fun h k => h.trans k) (fun W' lx o' hl => KeptS.putObj (B := w8.heap.size) hbl W' lx o' hl) (fun W' => KeptS.refl _ _) (Below.refl _ _)
                II IX
                (by
                  rw [HII.out]
                  exact ownFrom_ex fun s => OwnFrom.and (OwnFrom.and (Mem.ownFrom hwz fun _ => tsR_calm HT.out) (fun _ _ _ _ h hg _ => Nat.le_trans h hg.size)) (ownFrom_pure _ _))
                (fun c => by rw [HIX.out]; exact ownFrom_pure _ _) (fun pre V h => by rw [HII.out] at h; obtain ⟨s, hs9⟩ := h; exact hs9.1.2)
                (by rw [HII.out]; exact ⟨_, HRS.out⟩)
                ?assign ?body ?done ?stop
              case assign =>
                intro lp y V Kk hKk
                gi_wp2
                exact hKk
              case body =>
                intro lp pre y V hi hlen
                rw [HII.out] at hi
                obtain ⟨⟨f2, l2, v2⟩, ⟨hM2, hz2⟩, hB2, hi2, hx2, hS2, hp2, hq2⟩ := hi
                obtain ⟨q, hqm⟩ := y
                simp only at hM2 hB2 hi2 hx2 hS2 hp2 hq2
                have hqN : q < N := HNB.out.lt x q hxN hqm
                unfold tsR thG at hM2
                dsimp only at hM2
                have HM := hide hM2
                have HB2 := hide hB2
                have HS2 := hide hS2
                have HQ2 := hide hq2
                clear hM2 hB2 hS2 hq2
                clear HRS HST
                obtain ⟨A2, c2, rfl⟩ := own_shape2 (HM.out.row_ 2 rfl)
                have HKF := hide (KeepsFrom.refl w8.heap.size V)
                have HKS := hide (KeptS.refl (fun k => k = bg ∨ k = bg + 1) V)
                simp only [List.setIfInBounds_toArray, List.set_cons_succ, List.set_cons_zero]
                have o0 := (HM.out.blk_ 6 rfl).c 0 rfl
                have lto := (HM.out.blk_ 6 rfl).lt
                have gq := (HM.out.blk_ 4 rfl).c q (cellsF_at hqN)
                have ltg := (HM.out.blk_ 4 rfl).lt
                have f0 := (HM.out.blk_ 7 rfl).c 0 rfl
                have ltf := (HM.out.blk_ 7 rfl).lt
                rw [HFV.out] at f0
                by_cases hf2 : 0 ≤ f2 q
                · have hf3 : ¬ f2 q < 0 := by omega
                  gi_wp2_with (refine wpListIn_skip (by rfl) (by rfl) ?_)
                  refine ⟨HKF.out, HKS.out, ?_⟩
                  rw [HII.out]
                  exact ⟨(f2, l2, .slice A2 l2.length c2), ⟨by unfold tsR thG; exact HM.out, hz2⟩, HB2.out, hi2, hx2, HS2.out, hp2, fun a ha hw => by
                    rw [List.map_append, List.mem_append] at ha
                    rcases ha with ha | ha
                    · exact HQ2.out a ha hw
                    · have : a = q := by simpa using ha
                      subst this
                      exact hf2⟩
                · have hf3 : f2 q < 0 := by omega
                  have hc := HP.out V q HM.out.below hqN
                  obtain ⟨r, hr2⟩ : ∃ r, wants q = r := ⟨_, rfl⟩
                  rw [hr2] at hc
                  have HC := hide hc
                  have HR2 := hide hr2
                  clear hc hr2
                  gi_wp2_with fail
                  refine ⟨trivial, ?_⟩
                  refine (CallsIn.inRound lp (callsIn_wide.2 (HC.out))).mono ?_
                  rintro e V2 ⟨rfl, hb⟩
                  replace HM := hide (HM.out.later hb)
                  replace HKF := hide (keepf_later HKF.out hb)
                  replace HKS := hide (kepts_later HKS.out hb)
                  clear hb
                  have hz3 : w8.heap.size ≤ V2.heap.size := Nat.le_trans hz2 HKF.out.size
                  cases r with
                  | false =>
                    gi_wp2_with fail
                    refine ⟨HKF.out, HKS.out, ?_⟩
                    rw [HII.out]
                    exact ⟨(f2, l2, .slice A2 l2.length c2), ⟨by unfold tsR thG; exact HM.out, hz3⟩, HB2.out, hi2, hx2, HS2.out, hp2, fun a ha hw => by
                      rw [List.map_append, List.mem_append] at ha
                      rcases ha with ha | ha
                      · exact HQ2.out a ha hw
                      · have : a = q := by simpa using ha
                        subst this
                        rw [HR2.out] at hw; cases hw⟩
                  | true =>
                    clear o0 lto gq ltg f0 ltf
                    have o0 := (HM.out.blk_ 6 rfl).c 0 rfl
                    have lto := (HM.out.blk_ 6 rfl).lt
                    have gq := (HM.out.blk_ 4 rfl).c q (cellsF_at hqN)
                    have ltg := (HM.out.blk_ 4 rfl).lt
                    have fgq := (HM.out.blk_ 4 rfl).frozen q
                    have k0 := (HM.out.blk_ 5 rfl).c 0 rfl
                    have ltk := (HM.out.blk_ 5 rfl).lt
                    have hng1 := HM.out.ne 4 1 rfl rfl (by decide)
                    have hng0 := HM.out.ne 4 0 rfl rfl (by decide)
                    gi_upto_region 17 with fail
                    refine code_worldIn fun V3 hV3 => ?_
                    have HM3 := hide (Mem.to (HM.out.set_ 4 rfl q (.int .i64 (K : Nat)) cellsF_upd) hV3)
                    have HKF3 := hide (keepf_to hV3 (keepf_set HKF.out ⟨g, q, none⟩ (.int .i64 (K : Nat))))
                    have HKS3 := hide (kepts_to hV3 (kepts_set HKS.out (g := g) (by omega) q (.int .i64 (K : Nat))))
                    have hz4 : w8.heap.size ≤ V3.heap.size := by rw [hV3]; simpa using hz3
                    clear HM HKF HKS hV3 o0 lto gq ltg fgq k0 ltk
                    simp only [List.set_cons_succ, List.set_cons_zero] at HM3
                    have l0 := (HM3.out.blk_ 3 rfl).c 0 rfl
                    have ltl := (HM3.out.blk_ 3 rfl).lt
                    have hownM := HM3.out.row_ 2 rfl
                    obtain ⟨i0, hi0, hy0, hy1, hy2⟩ := info_parts intInfoT
                    have hlN2 := bfs_len HB2.out
                    have hbaseM : hs ≤ V3.heap.size := by rw [← HHS.out]; omega
                    gi_wp2_with (gi_at_builtin; go_must (refine wpListIn_append_own_at _ rfl (.tmp 71) (.tmp 73) _ rfl hs 3 i0 _ 1 8 Try.underlying33 hi0 hy0 hy1 hy2 rfl (by decide) _ l2.length (numsV l2) rfl (hownM.alloc _) ⟨V3.heap.size, 0, none⟩ 1 1 [.int .i64 (q : Nat)] rfl rfl ?qa1 (by intro u hu; simp only [List.mem_cons, List.not_mem_nil, or_false] at hu; rcases hu with rfl; rfl) ?qa3 ?qa4 ?qa5 ?_))
                    case qa1 => exact new_cellsQ V3 _ [.int .i64 (q : Nat)]
                    case qa3 => unfold maxLen; omega
                    case qa4 => omega
                    case qa5 => simp; omega
                    intro v3 V4 hown2 hgr2 hat2
                    have en : numsV l2 ++ [.int .i64 (q : Nat)] = numsV (l2 ++ [q]) := by unfold numsV; rw [List.map_append]; rfl
                    have el : l2.length + 1 = (l2 ++ [q]).length := by simp
                    rw [en, el] at hown2
                    have HM4 := hide (HM3.out.grow 2 rfl _ hgr2 hown2 hat2)
                    have HKF4 := hide (keepf_grown (keepf_alloc HKF3.out _) (hownM.alloc _) hgr2)
                    have HKS4 := hide (kepts_grown (kepts_alloc HKS3.out _) hgr2 (fun k hk hSk => by
                      have h1 := HM3.out.apart 2 1 rfl rfl (by decide) k (optL_mem hk)
                      have h2 := HM3.out.apart 2 0 rfl rfl (by decide) k (optL_mem hk)
                      rcases hSk with rfl | rfl
                      · exact h1 (List.mem_singleton.2 rfl)
                      · exact h2 (List.mem_singleton.2 rfl)))
                    have hz5 : w8.heap.size ≤ V4.heap.size := by have := hgr2.size; simp at this; omega
                    clear HM3 HKF3 HKS3 hownM hown2 hgr2 hat2 l0 ltl
                    simp only [List.set_cons_succ, List.set_cons_zero] at HM4
                    obtain ⟨A3, c3, rfl⟩ := own_shape2 (HM4.out.row_ 2 rfl)
                    have l0 := (HM4.out.blk_ 3 rfl).c 0 rfl
                    have ltl := (HM4.out.blk_ 3 rfl).lt
                    have fl0 := (HM4.out.blk_ 3 rfl).frozen 0
                    have hnl1 := HM4.out.ne 3 1 rfl rfl (by decide)
                    have hnl0 := HM4.out.ne 3 0 rfl rfl (by decide)
                    have HM5 := hide (HM4.out.set_ 3 rfl 0 (.slice A3 (l2 ++ [q]).length c3) rfl)
                    simp only [List.set_cons_succ, List.set_cons_zero] at HM5
                    obtain ⟨n3, hn3⟩ : ∃ n, (l2 ++ [q]).length = n := ⟨_, rfl⟩
                    have HN3 := hide hn3
                    rw [hn3] at HM5
                    simp only [hn3]
                    clear hn3 el en HM4
                    gi_wp2
                    refine ⟨keepf_set HKF4.out _ _, kepts_set HKS4.out (by omega) _ _, ?_⟩
                    rw [HII.out]
                    have hnq : ∀ a, 0 ≤ f2 a → 0 ≤ updF f2 q K a := fun a h0 => by
                      by_cases e : a = q
                      · subst e; omega
                      · rw [updF_ne e]; exact h0
                    exact ⟨(updF f2 q K, l2 ++ [q], .slice A3 (l2 ++ [q]).length c3), ⟨by unfold tsR thG; dsimp only; rw [HN3.out]; exact HM5.out, by simpa using hz5⟩, bfs_take HNB.out HB2.out hi2 (by rw [hx2]; exact hqm) hf3 HR2.out, by simp; omega, by rw [getD_app hi2]; exact hx2, HS2.out.upd hf3, hnq p hp2, fun a ha hw => by
                      rw [List.map_append, List.mem_append] at ha
                      rcases ha with ha | ha
                      · exact hnq a (HQ2.out a ha hw)
                      · have : a = q := by simpa using ha
                        subst this
                        show 0 ≤ updF f2 a K a
                        rw [updF_at]
                        omega⟩
              case done =>
                intro D xs V hD hxs hi hdd
                rw [HII.out] at hi
                obtain ⟨⟨f2, l2, v2⟩, ⟨hM2, hz2⟩, hB2, hi2, hx2, hS2, hp2, hq2⟩ := hi
                simp only at hM2 hB2 hi2 hx2 hS2 hp2 hq2
                have hall : ∀ a ∈ nbL W H (l2.getD i 0), wants a = true → 0 ≤ f2 a := fun a ha hw => by
                  rw [hx2, ← hxs] at ha
                  exact hq2 a ha hw
                have hMd := (((hM2.ranged (tsR_calm HT.out) hdd hD hwz).drop 1 rfl).drop 1 rfl).perm (List.perm_middle (l₁ := _ :: _ :: _ :: _ :: _ :: _ :: _ :: S) (a := thD D) (l₂ := Ds.map thD)).symm
                have HMD := hide hMd
                clear hM2 HRS HST hMd
                go_wp2
                refine ⟨?_, by simp [intOf] <;> omega⟩
                rw [HINW.out]
                iterate 75 (apply Exists.intro)
                exact ⟨v2, l2, f2, i + 1, D :: Ds, ⟨bfs_on hB2 hall, hi2, hS2, hp2, HMD.out⟩, by rw [show ((i + 1 : Nat) : Int) = (i : Int) + 1 by omega]; rfl⟩
              case stop =>
                intro D jc pre V hD hpre hix hdd
                rw [HIX.out] at hix
                exact hix.elim
            · obtain rfl : i = l.length := by omega
              have hkk : ¬ ((l.length : Int) < l.length) := by omega
              go_wp2_with fail
              refine (sort_any (HM.out.row_ 0 rfl) (List.length_pos_iff.2 HB.out.ne) (by omega) (sort_part HB.out.nd HB.out.mem)).mono ?_
              rintro e w9 ⟨rfl, hgr9, hown9⟩
              have hlp : (partL N f1 K).length = l.length := by
                have := hown9.1
                rw [numsV_len, Nat.mul_one] at this
                exact this
              have HMs := hide (HM.out.grown_ 0 rfl hgr9 hown9 (.inl rfl))
              clear HM hgr9 hown9
              have HM := HMs
              clear HMs
              simp only [List.set_cons_zero] at HM
              rw [← HS.out] at HM
              obtain ⟨xs, hxs⟩ : ∃ xs, E.reverse.map (·.1) = xs := ⟨_, rfl⟩
              rw [hxs] at HM
              have HXS := hide hxs
              clear hxs
              clear l0 ltl
              have l0 := (HM.out.blk_ 1 rfl).c 0 rfl
              have ltl := (HM.out.blk_ 1 rfl).lt
              obtain ⟨i0, hi0, hy0, hy1, hy2⟩ := info_parts partsInfo
              have Hi := hide hi0
              have Hz0 := hide hy0
              have Hz1 := hide hy1
              have Hz2 := hide hy2
              clear hi0 hy0 hy1 hy2
              go_upto_region 19 with fail
              have hbaseM : hs ≤ w9.heap.size := by rw [← HHS.out]; exact HM.out.size
              have hownM := Mem.row_ HM.out 7 rfl
              
              go_wp2_with (at_builtin; refine wpList_append_own_at _ rfl (.tmp 77) (.tmp 79) _ rfl _ 33 i0 _ 1 24 Try.underlying79 Hi.out Hz0.out Hz1.out Hz2.out rfl (by decide) _ K xs rfl (hownM.alloc _) ⟨w9.heap.size, 0, none⟩ 1 1 [.slice A1 l.length c1] rfl rfl ?q2c1 (by intro u hu; simp only [List.mem_cons, List.not_mem_nil, or_false] at hu; rcases hu with rfl <;> rfl) ?q2c3 ?q2c4 ?q2c5 ?_)
              try case q2c1 => exact new_cellsQ w9 _ [.slice A1 l.length c1]
              case q2c3 => unfold maxLen; omega
              case q2c4 => omega
              case q2c5 => first | omega | (simp; omega)
              intro vA wA hown2 hgr2 _ hat2
              have HMn := HM.out.grow 7 rfl _ hgr2 hown2 hat2
              replace HM := hide HMn
              clear HMn hown2 hgr2 hat2 hownM hbaseM
              have hMZ := PartsO.more (hs := hs) hlt hKp HNE.out (List.length_pos_iff.2 HB.out.ne) hK HNB.out HPI.out HBEF.out HE.out HB.out HSM.out HFP.out hlp (vA := vA) (A1 := A1) (c1 := c1) (wr := wA) (w := w) (oB := oB) (g := g) (G := G) (fv := fv) (Ds := Ds) (nB := nB) (lB := lB) (vl := .slice A1 l.length c1) (by rw [HXS.out]; exact HM.out)
              have HMZ := hide hMZ
              clear HM hMZ
              go_wp2_with fail
              refine ⟨?_, by simp [intOf] <;> omega⟩
              rw [HINV.out]
              iterate 78 (apply Exists.intro)
              exact ⟨vA, p + 1, f1, (.slice A1 l.length c1, partL N f1 K) :: E, Ds, HMZ.out, by rw [show ((p + 1 : Nat) : Int) = (p : Int) + 1 by omega]⟩
    · obtain rfl : p = N := by omega
      have hkk : ¬ ((p : Int) < p) := by omega
      have o0 := (HM.out.blk_ 2 rfl).c 0 rfl
      have lto := (HM.out.blk_ 2 rfl).lt
      have hall : ∀ q, q < p → wants q = true → 0 ≤ f q := HBEF.out
      go_wp2_with fail
      go_quiet (fail)
      have HMq := hide (HM.out.later (below_drewN (Below.refl _ _) nq))
      clear HM o0 lto
      generalize (wr.drewN nq : World) = wq at *
      go_wp2_with fail
      refine leaves_marks Ds wq (HMq.out.marks ?_) HMq.out.size fun w' hbw' hcells => ?_
      · exact (List.sublist_append_right _ _).trans (List.sublist_append_right [_, _, _, _, _] _)
      · refine ⟨.tuple #[v, .slice (some ⟨g, 0, none⟩) p p], by simp [results, Try.results63, go_sem], ?_⟩
        refine ⟨v, g, E, f, rfl, ?_, HPI.out, hall, HE.out, HNE.out, hKp⟩
        have h1 := HMq.out.sub (.cons_cons _ (.cons_cons _ (.cons _ (.cons _ (.cons _ (List.sublist_append_left (E.map (thP hs)) (Ds.map thD)))))))
        have h2 := (h1.perm (List.Perm.swap _ _ _)).leave (fun t ht => by
          rcases List.mem_cons.1 ht with rfl | ht
          · trivial
          · rcases List.mem_cons.1 ht with rfl | ht
            · trivial
            · obtain ⟨y, -, rfl⟩ := List.mem_map.1 ht
              trivial) hbw' hcells
        rw [HHS.out]
        exact h2
end Go.Proofs.Ytidbjidcjmbnlaa
end
section
namespace Go.Proofs.Ytidbjidcjmbnlaa
open Go Go.RowKit
attribute [local go_sem] Oper.semAt_some

def sheetC (gx gy gs W H : Int) (A : Option Addr) (n c : Nat) (lev : Int) : Array Value := #[.int .i64 gx, .int .i64 gy, .int .i64 gs, .int .i64 W, .int .i64 H, .slice A n c, .int .i64 lev]
/-- The ends of what is known at a pixel. -/
def loV (l : List (Int × Int)) (p : Nat) : Int := (l.getD p (0, 0)).1
def hiV (l : List (Int × Int)) (p : Nat) : Int := (l.getD p (0, 0)).2
def mayB (l : List (Int × Int)) (lev : Int) (p : Nat) : Bool := decide (lev ≤ hiV l p)
def inB (l : List (Int × Int)) (lev : Int) (p : Nat) : Bool := decide (lev ≤ loV l p)
set_option maxHeartbeats 1000000 in
set_option maxRecDepth 100000 in
theorem may_any (gx gy gs W H : Int) (A : Option Addr) (n c : Nat) (lev : Int) (l : List (Int × Int)) (p : Nat) (w : World) (hn : l.length = n) (hp : p < n) (hn2 : n ≤ 1000000) (hl : Ints w w.heap.size .i64 A (flat2 l)) :
    Calls Try.prog 64 #[.agg (sheetC gx gy gs W H A n c lev), .int .i64 (p : Nat)] w fun e w' => e = .returned (.bool (mayB l lev p)) ∧ Below w.heap.size w w' := by
  have hR : mayB l lev p = decide (lev ≤ hiV l p) := rfl
  obtain ⟨b, off, rfl, hb, hc⟩ := hl.pt (by omega)
  have hc2 := fun W' (hB : Below w.heap.size w W') => And.intro ((cell_of_heap (hB.block b hb)).trans (hc p (by omega)).1) ((cell_of_heap (hB.block b hb)).trans (hc p (by omega)).2)
  have hlt : (p : Int) < n := by omega
  have hp1 : ((p : Int)).toNat = p := rfl
  rw [hR]
  unfold hiV sheetC
  generalize l.getD p (0, 0) = m at *
  obtain ⟨m0, m1⟩ := m
  simp only at hc2 ⊢
  have HC := hide hc2
  clear hc2
  clear hR hl hc
  go_enter Try.func64, Try.ntmps64
  have HB := hide (Below.refl w.heap.size w)
  go_wp2_with fail
  refine code_world fun W1 hW => ?_
  have bq0 : Blk W1 w.heap.size 110 #[.int .i64 gx, .int .i64 gy, .int .i64 gs, .int .i64 W, .int .i64 H, .slice (some ⟨b, off, none⟩) n c, .int .i64 lev] := by rw [hW]; exact Blk.new _ _ _
  have LW : Later w W1 := by rw [hW]; exact ((Below.refl _ _).alloc (Nat.le_refl _) _)
  have szW : W1.heap.size = w.heap.size + 1 := by rw [hW]; simp
  clear hW
  replace HB := hide (onward HB.out LW)
  have Hs := hide bq0
  clear bq0 LW szW
  obtain ⟨p0, p1⟩ := HC.out W1 HB.out
  have s5 := Hs.out.c 5 rfl
  have s6 := Hs.out.c 6 rfl
  have lts := Hs.out.lt
  go_wp2_with fail
  go_quiet (fail)
  have HBq := hide (HB.out.trans (below_drewN (Below.refl _ _) nq))
  clear HB HC p0 p1 s5 s6 lts
  generalize (W1.drewN nq : World) = wq at *
  go_wp2
  go_ret
  exact ⟨rfl, HBq.out⟩
set_option maxHeartbeats 1000000 in
set_option maxRecDepth 100000 in
theorem in_any (gx gy gs W H : Int) (A : Option Addr) (n c : Nat) (lev : Int) (l : List (Int × Int)) (p : Nat) (w : World) (hn : l.length = n) (hp : p < n) (hn2 : n ≤ 1000000) (hl : Ints w w.heap.size .i64 A (flat2 l)) :
    Calls Try.prog 66 #[.agg (sheetC gx gy gs W H A n c lev), .int .i64 (p : Nat)] w fun e w' => e = .returned (.bool (inB l lev p)) ∧ Below w.heap.size w w' := by
  have hR : inB l lev p = decide (lev ≤ loV l p) := rfl
  obtain ⟨b, off, rfl, hb, hc⟩ := hl.pt (by omega)
  have hc2 := fun W' (hB : Below w.heap.size w W') => And.intro ((cell_of_heap (hB.block b hb)).trans (hc p (by omega)).1) ((cell_of_heap (hB.block b hb)).trans (hc p (by omega)).2)
  have hlt : (p : Int) < n := by omega
  have hp1 : ((p : Int)).toNat = p := rfl
  rw [hR]
  unfold loV sheetC
  generalize l.getD p (0, 0) = m at *
  obtain ⟨m0, m1⟩ := m
  simp only at hc2 ⊢
  have HC := hide hc2
  clear hc2
  clear hR hl hc
  go_enter Try.func66, Try.ntmps66
  have HB := hide (Below.refl w.heap.size w)
  go_wp2_with fail
  refine code_world fun W1 hW => ?_
  have bq0 : Blk W1 w.heap.size 110 #[.int .i64 gx, .int .i64 gy, .int .i64 gs, .int .i64 W, .int .i64 H, .slice (some ⟨b, off, none⟩) n c, .int .i64 lev] := by rw [hW]; exact Blk.new _ _ _
  have LW : Later w W1 := by rw [hW]; exact ((Below.refl _ _).alloc (Nat.le_refl _) _)
  have szW : W1.heap.size = w.heap.size + 1 := by rw [hW]; simp
  clear hW
  replace HB := hide (onward HB.out LW)
  have Hs := hide bq0
  clear bq0 LW szW
  obtain ⟨p0, p1⟩ := HC.out W1 HB.out
  have s5 := Hs.out.c 5 rfl
  have s6 := Hs.out.c 6 rfl
  have lts := Hs.out.lt
  go_wp2_with fail
  go_quiet (fail)
  have HBq := hide (HB.out.trans (below_drewN (Below.refl _ _) nq))
  clear HB HC p0 p1 s5 s6 lts
  generalize (W1.drewN nq : World) = wq at *
  go_wp2
  go_ret
  exact ⟨rfl, HBq.out⟩
set_option maxRecDepth 100000 in
theorem hull_any (lo hi n : Int) (w : World) : Calls Try.prog 65 #[.agg #[.int .i64 lo, .int .i64 hi], .int .i64 n] w fun e w' => e = .returned (.agg #[.int .i64 (min lo n), .int .i64 (max hi n)]) ∧ Below w.heap.size w w' := by
  go_enter Try.func65, Try.ntmps65
  go_wp2
  refine bodyPost_ret (v := .agg #[.int .i64 (min lo n), .int .i64 (max hi n)]) (by simp [results, Try.results65, go_sem]) rfl ⟨rfl, ?_⟩
  repeat (first | exact Below.refl _ _ | (refine Below.setCell ?_ (by first | omega | (simp; done) | (simp; omega)) _) | (refine Below.alloc ?_ (by first | omega | (simp; done) | (simp; omega)) _) | (refine below_drewN ?_ _))
end Go.Proofs.Ytidbjidcjmbnlaa
end
