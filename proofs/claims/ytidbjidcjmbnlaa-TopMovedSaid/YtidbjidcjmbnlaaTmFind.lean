/-
  The event of an area: found, or laid anew.
-/
import Derived.Test.YtidbjidcjmbnlaaTmJoin
import Derived.OwnWalkIn
set_option linter.unusedSimpArgs false
set_option linter.unusedVariables false
namespace Go.Proofs.Ytidbjidcjmbnlaa
open Go Go.RowKit
attribute [local go_sem] Oper.semAt_some

/-- Where something stands in a list. -/
def atI : List Nd → Nd → Option Nat
  | [], _ => none
  | a :: l, y => if a = y then some 0 else (atI l y).map (· + 1)
theorem atI_some : ∀ {l : List Nd} {y : Nd} {k : Nat}, atI l y = some k → l[k]? = some y
  | [], _, _, h => by simp [atI] at h
  | a :: l, y, k, h => by
    rw [atI] at h
    split at h
    · rename_i e
      subst e
      cases h
      rfl
    · obtain ⟨j, hj, rfl⟩ := Option.map_eq_some_iff.1 h
      rw [List.getElem?_cons_succ]
      exact atI_some hj
theorem atI_none : ∀ {l : List Nd} {y : Nd}, atI l y = none → y ∉ l
  | [], _, _ => List.not_mem_nil
  | a :: l, y, h => by
    rw [atI] at h
    split at h
    · cases h
    · rename_i e
      rw [Option.map_eq_none_iff] at h
      exact fun hm => (List.mem_cons.1 hm).elim (fun e2 => e e2.symm) (atI_none h)
theorem atI_app : ∀ {l : List Nd} {y z : Nd}, y ∉ l → atI (l ++ [y]) z = if z = y then some l.length else atI l z
  | [], y, z, _ => by
    show (if y = z then some 0 else (atI [] z).map (· + 1)) = _
    by_cases e : y = z
    · rw [if_pos e, if_pos e.symm]; rfl
    · rw [if_neg e, if_neg (Ne.symm e)]; rfl
  | a :: l, y, z, h => by
    have hl : y ∉ l := fun hm => h (List.mem_cons_of_mem _ hm)
    show (if a = z then some 0 else (atI (l ++ [y]) z).map (· + 1)) = _
    rw [atI_app hl]
    by_cases e : a = z
    · subst e
      have : ¬ a = y := fun e2 => h (by rw [e2]; exact List.mem_cons_self)
      rw [if_pos rfl, if_neg this, atI, if_pos rfl]
    · rw [if_neg e]
      by_cases e2 : z = y
      · rw [if_pos e2, if_pos e2]; rfl
      · rw [if_neg e2, if_neg e2, atI, if_neg e]
def atV (l : List Nd) (y : Nd) : Option Value := (atI l y).map nmV
theorem atV_app {l : List Nd} {y : Nd} (h : y ∉ l) : atV (l ++ [y]) = putK (atV l) y (nmV l.length) := by
  funext z
  unfold atV putK
  rw [atI_app h]
  by_cases e : z = y
  · rw [if_pos e, if_pos e]; rfl
  · rw [if_neg e, if_neg e]
def zeroEv : List Value := [.int .i64 0, .slice none 0 0, .slice none 0 0]
/-- The variables of the events. -/
def thE (b c p1 p2 b2 c2 p3 base : Nat) (m : Nd → Option Nd) (v : Value) (ky : List Nd) (xs : List Value) (ts : List Th) : List Th :=
  .blk p1 139 #[.map (some b)] :: thK Try.prog 142 ndL okNd b (fV m) c :: .blk p2 143 #[.map (some b2)] :: thK Try.prog 142 ndL okNd b2 (atV ky) c2 :: .blk p3 49 #[v] :: .row base 106 3 v ky.length xs :: ts
theorem eventInfo : (Try.prog.info? 106).map (fun i => (i.zero, i.size, i.bytes)) = some (some (.agg #[.int .i64 0, .slice none 0 0, .slice none 0 0]), 3, 56) := by kernel_rfl
def FindPost (l : Nd) (b c p1 p2 b2 p3 base : Nat) (m : Nd → Option Nd) (ky : List Nd) (xs : List Value) (w0 : World) (ts : List Th) (e : Ending) (w' : World) : Prop :=
  ∃ g k c2' cap ky' xs', e = .returned (.pointer (some ⟨g, k * 3, none⟩)) ∧ k < ky'.length ∧ ((ky' = ky ∧ xs' = xs ∧ ky[k]? = some l) ∨ (ky' = ky ++ [l] ∧ xs' = xs ++ zeroEv ∧ k = ky.length ∧ l ∉ ky)) ∧ c2' ≤ ky'.length ∧
    Mem w0 (thE b c p1 p2 b2 c2' p3 base m (.slice (some ⟨g, 0, none⟩) ky'.length cap) ky' xs' ts) w'
set_option maxHeartbeats 1000000 in
set_option maxRecDepth 100000 in
theorem find_ev (m : Nd → Option Nd) (L : Nd → Nd) (d : Nd → Nat) (b c p1 p2 b2 c2 p3 base : Nat) (v : Value) (ky : List Nd) (xs : List Value) (x : Nd) (w0 w : World) (ts : List Th) (hF : Forest m L d) (hx : okNd x) (hm : OkM m) (hb0 : base ≤ w0.heap.size) (hc2 : c2 ≤ ky.length) (hky : ky.length ≤ 1000)
    (hM : Mem w0 (thE b c p1 p2 b2 c2 p3 base m v ky xs ts) w) :
    Calls Try.prog 58 #[ndV x, .pointer (some ⟨p1, 0, none⟩), .pointer (some ⟨p2, 0, none⟩), .pointer (some ⟨p3, 0, none⟩)] w (FindPost (L x) b c p1 p2 b2 p3 base m ky xs w0 ts) := by
  have hl := fun W (hk : MapK W Try.prog 142 ndL okNd b (fV m) c) => lead_any m L d b c x W hF hx hm hk
  have ox := hF.okL hm (d x) x (Nat.le_refl _) hx
  generalize L x = lx at *
  obtain ⟨x1, x2⟩ := x
  obtain ⟨u1, u2⟩ := lx
  obtain ⟨PP, hPP⟩ : ∃ PP, FindPost (u1, u2) b c p1 p2 b2 p3 base m ky xs w0 ts = PP := ⟨_, rfl⟩
  rw [hPP]
  unfold ndV at hl ⊢
  dsimp only at hl ⊢
  unfold thE at hM
  have HL := hide hl
  have OX := hide ox
  have HMm := hide hm
  have HF := hide hF
  have HPP := hide hPP
  clear hl ox hm hF hPP
  obtain ⟨i0, hi0, hy0, hy1, hy2⟩ := info_parts eventInfo
  obtain ⟨n, hn⟩ : ∃ n, ky.length = n := ⟨_, rfl⟩
  rw [hn] at hM hc2 hky
  have Hi := hide hi0
  have Hz0 := hide hy0
  have Hz1 := hide hy1
  have Hz2 := hide hy2
  have HN := hide hn
  clear hi0 hy0 hy1 hy2 hn
  clear hx
  go_enter Try.func58, Try.ntmps58
  have HM := hide hM
  clear hM
  have bg : Blk w p1 139 #[.map (some b)] := HM.out.get 0 rfl
  have ltg := bg.lt
  have g0 := bg.c 0 rfl
  go_wp2_with fail
  refine at_world fun W1 hW => ?_
  have HMn := Mem.to (Mem.allocAt HM.out w.heap.size rfl #[.bool x1, .int .i64 (x2 : Nat)] 142) hW
  have LW : Later w W1 := by rw [hW]; exact ((Below.refl _ _).alloc (Nat.le_refl _) _)
  have szW : W1.heap.size = w.heap.size + 1 := by rw [hW]; simp
  clear hW bg ltg g0
  replace HM := hide HMn
  clear HMn LW
  clear szW
  refine (HL.out _ (HM.out.map_ 2 rfl)).mono ?_
  rintro e w2 ⟨rfl, hb⟩
  replace HM := hide (HM.out.later hb)
  clear hb
  obtain ⟨r, hr⟩ : ∃ r, atI ky (u1, u2) = r := ⟨_, rfl⟩
  have hfr : atV ky (u1, u2) = r.map nmV := by unfold atV; rw [hr]
  have HR := hide hr
  have HFR := hide hfr
  clear hr hfr
  have hbs : base ≤ w2.heap.size := Nat.le_trans hb0 HM.out.size
  have hk2 := HM.out.map_ 4 rfl
  have HK2 := hide hk2
  clear hk2
  have bq : Blk w2 p2 143 #[.map (some b2)] := HM.out.get 3 rfl
  have ltq := bq.lt
  have q0 := bq.c 0 rfl
  cases r with
  | some k =>
    have hk := atI_some HR.out
    have hkn : k < n := by rw [← HN.out]; exact (List.getElem?_eq_some_iff.1 hk).1
    have HK := hide hk
    clear hk
    obtain ⟨A, cap, rfl⟩ := own_shape2 (HM.out.row_ 6 rfl)
    obtain ⟨g, cur, rfl, -, hgb, -, -, -⟩ := row_blk (HM.out.row_ 6 rfl) (by omega)
    clear hgb
    have bo : Blk w2 p3 49 #[.slice (some ⟨g, 0, none⟩) n cap] := HM.out.get 5 rfl
    have lto := bo.lt
    have o0 := bo.c 0 rfl
    have hkn2 : (k : Int) < n := by omega
    go_upto_region 3 with (at_lookup; refine wpList_lookK2 _ rfl _ _ _ rfl 142 3 ndKey Try.underlying143 (.int .i64 0) (by kernel_rfl) b2 c2 (atV ky) rfl (HK2.out.stab (Below.heap_alloc _ _ _ HK2.out.lt)) (u1, u2) rfl OX.out (.int .i64 (k : Nat)) (by rw [HFR.out]; rfl) true (by rw [HFR.out]; rfl) ?_)
    refine code_world fun w3 hW => ?_
    have HMn := Mem.to (Mem.allocAt HM.out w2.heap.size rfl #[.bool u1, .int .i64 (u2 : Nat)] 142) hW
    have LW : Later w2 w3 := by rw [hW]; exact ((Below.refl _ _).alloc (Nat.le_refl _) _)
    have szW : w3.heap.size = w2.heap.size + 1 := by rw [hW]; simp
    clear hW bq ltq q0 bo lto o0
    replace HM := hide HMn
    clear HMn LW
    clear szW
    have bo : Blk w3 p3 49 #[.slice (some ⟨g, 0, none⟩) n cap] := HM.out.get 6 rfl
    have lto := bo.lt
    have o0 := bo.c 0 rfl
    go_wp2
    rw [← HPP.out]
    exact ⟨g, k, c2, cap, ky, xs, rfl, by rw [HN.out]; exact hkn, .inl ⟨rfl, rfl, HK.out⟩, by rw [HN.out]; exact hc2, by unfold thE; rw [HN.out]; exact (HM.out.drop 0 rfl).drop 0 rfl⟩
  | none =>
    have hno := atI_none HR.out
    have HNO := hide hno
    clear hno
    obtain ⟨A, cap, rfl⟩ := own_shape2 (HM.out.row_ 6 rfl)
    have bo : Blk w2 p3 49 #[.slice A n cap] := HM.out.get 5 rfl
    have lto := bo.lt
    have o0 := bo.c 0 rfl
    go_upto_region 3 with (at_lookup; refine wpList_lookK2 _ rfl _ _ _ rfl 142 3 ndKey Try.underlying143 (.int .i64 0) (by kernel_rfl) b2 c2 (atV ky) rfl (HK2.out.stab (Below.heap_alloc _ _ _ HK2.out.lt)) (u1, u2) rfl OX.out (.int .i64 0) (by rw [HFR.out]; rfl) false (by rw [HFR.out]; rfl) ?_)
    refine code_world fun w3 hW => ?_
    have HMn := Mem.to (Mem.allocAt HM.out w2.heap.size rfl #[.bool u1, .int .i64 (u2 : Nat)] 142) hW
    have LW : Later w2 w3 := by rw [hW]; exact ((Below.refl _ _).alloc (Nat.le_refl _) _)
    have szW : w3.heap.size = w2.heap.size + 1 := by rw [hW]; simp
    clear hW bq ltq q0 bo lto o0
    replace HM := hide HMn
    clear HMn LW
    clear szW HK2
    have hmk := HM.out.map_ 5 rfl
    have HK3 := hide hmk
    clear hmk
    have be : Blk w3 w2.heap.size 142 #[.bool u1, .int .i64 (u2 : Nat)] := HM.out.get 0 rfl
    have lte := be.lt
    have e0 := be.c 0 rfl
    have e1 := be.c 1 rfl
    have bq : Blk w3 p2 143 #[.map (some b2)] := HM.out.get 4 rfl
    have ltq := bq.lt
    have q0 := bq.c 0 rfl
    have bo : Blk w3 p3 49 #[.slice A n cap] := HM.out.get 6 rfl
    have lto := bo.lt
    have o0 := bo.c 0 rfl
    go_upto_region 6 with (at_mapUpdate; refine wpList_storeK _ rfl _ _ _ _ rfl 142 3 ndKey Try.underlying143 b2 c2 (atV ky) rfl HK3.out (by unfold maxLen; omega) (u1, u2) rfl OX.out (nmV n) rfl ?_; intro w4 hm4 hg4)
    have HM4 := hide (HM.out.mapK 5 rfl hm4 hg4)
    clear HM HK3 hm4 hg4 e0 e1 lte be q0 ltq bq o0 lto bo
    have HM := HM4
    clear HM4
    simp only [List.set_cons_zero, List.set_cons_succ] at HM
    rw [← HN.out, ← atV_app HNO.out, HN.out] at HM
    have bo : Blk w4 p3 49 #[.slice A n cap] := HM.out.get 6 rfl
    have lto := bo.lt
    have o0 := bo.c 0 rfl
    have hbaseM : base ≤ w4.heap.size := Nat.le_trans hb0 HM.out.size
    have hownM := Mem.row_ HM.out 7 rfl
    
    go_wp2_with (at_builtin; refine wpList_append_own_at _ rfl (.tmp 25) (.tmp 27) _ rfl _ 106 i0 _ 3 56 Try.underlying49 Hi.out Hz0.out Hz1.out Hz2.out rfl (by decide) _ n xs rfl (hownM.alloc _) ⟨w4.heap.size, 0, none⟩ 1 1 [.int .i64 0, .slice none 0 0, .slice none 0 0] rfl rfl ?q1c1 (by intro u hu; simp only [List.mem_cons, List.not_mem_nil, or_false] at hu; rcases hu with rfl | rfl | rfl <;> rfl) ?q1c3 ?q1c4 ?q1c5 ?_)
    try case q1c1 => exact new_cellsQ w4 _ [.int .i64 0, .slice none 0 0, .slice none 0 0]
    case q1c3 => unfold maxLen; omega
    case q1c4 => omega
    case q1c5 => simp; omega
    intro v5 w5 hown2 hgr2 _ hat2
    have HMn := HM.out.grow 7 rfl _ hgr2 hown2 hat2
    replace HM := hide HMn
    clear HMn hown2 hgr2 hat2 hownM hbaseM
    clear bo lto o0
    obtain ⟨A5, c5, rfl⟩ := own_shape2 (HM.out.row_ 7 rfl)
    obtain ⟨g, cur, rfl, -, hgb, -, -, -⟩ := row_blk (HM.out.row_ 7 rfl) (by omega)
    clear hgb
    have hn1 : (n : Int) < (n + 1 : Nat) := by omega
    have bo : Blk w5 p3 49 #[.slice A n cap] := HM.out.get 6 rfl
    have lto := bo.lt
    have o0 := bo.c 0 rfl
    have fo0 := bo.frozen 0
    have HM6 := hide (HM.out.set_ 6 rfl 0 (.slice (some ⟨g, 0, none⟩) (n + 1) c5) (cs' := #[.slice (some ⟨g, 0, none⟩) (n + 1) c5]) rfl)
    go_wp2
    rw [← HPP.out]
    have hm6 := HM6.out
    simp only [List.set_cons_zero, List.set_cons_succ] at hm6
    have el : (ky ++ [(u1, u2)]).length = n + 1 := by rw [List.length_append, HN.out]; rfl
    refine ⟨g, n, _, c5, ky ++ [(u1, u2)], xs ++ zeroEv, rfl, by rw [el]; omega, .inr ⟨rfl, rfl, HN.out.symm, HNO.out⟩, ?_, by unfold thE; rw [el]; exact (hm6.drop 0 rfl).drop 0 rfl⟩
    rw [el]
    split <;> omega
end Go.Proofs.Ytidbjidcjmbnlaa
