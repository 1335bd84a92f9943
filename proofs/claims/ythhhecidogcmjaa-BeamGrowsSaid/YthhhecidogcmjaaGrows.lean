/-
  Blocked threads: the law BeamGrows' helpers.
-/
import Derived.Test.YthhhecidogcmjaaGrowMath
import Derived.Test.YthhhecidogcmjaaInnerB
namespace Go.Proofs.Ythhhecidogcmjaa
open Go Go.RowKit

def cutV (l : List Int) (i : Nat) : Int := if l.length = 0 then 0 else l.getD (i % l.length) 0
set_option maxHeartbeats 1000000 in
theorem cut_any (A : Option Addr) (n c : Nat) (zs : List Int) (i : Nat) (w : World) (hn : zs.length = n) (hmax : n ≤ 9223372036854775807) (hi : i ≤ 1000000) (hl : Ints w w.heap.size .u32 A zs) :
    Calls Try.prog 45 #[.slice A n c, .int .i64 i] w fun e w' => e = .returned (.int .u32 (cutV zs i)) ∧ Below w.heap.size w w' := by
  by_cases h0 : n = 0
  · have e : cutV zs i = 0 := by unfold cutV; rw [if_pos (by omega)]
    rw [e]
    subst h0
    clear hl e
    go_enter Try.func45, Try.ntmps45
    go_wp2
    go_ret
    exact ⟨rfl, Below.refl _ _⟩
  · obtain ⟨b, off, rfl, hb, hc⟩ := hl (by omega)
    have hlt : i % n < n := Nat.mod_lt _ (by omega)
    have e : cutV zs i = zs.getD (i % n) 0 := by unfold cutV; rw [if_neg (by omega), hn]
    have p := hc (i % n) (by omega)
    have hm : ((i : Int) % (n : Int)) = ((i % n : Nat) : Int) := (Int.natCast_emod i n).symm
    rw [e]
    generalize zs.getD (i % n) 0 = v at *
    generalize i % n = q at *
    have hn0 : (n : Int) ≠ 0 := by omega
    have hn1 : ((n : Int) == 0) = false := by simpa using hn0
    have hn2 : (0 : Int) < n := by omega
    have hq : (q : Int) < n := by omega
    clear hl hc e
    go_enter Try.func45, Try.ntmps45
    go_wp2
    go_ret
    exact ⟨rfl, Below.refl _ _⟩

theorem cutV_bd {l : List Int} (h : ∀ x ∈ l, 0 ≤ x ∧ x ≤ 4294967295) (i : Nat) : 0 ≤ cutV l i ∧ cutV l i ≤ 4294967295 := by
  unfold cutV
  split
  · omega
  · have : i % l.length < l.length := Nat.mod_lt _ (by omega)
    simp only [List.getD, List.getElem?_eq_getElem this]
    exact h _ (List.getElem_mem this)
/-- The ground that is narrowed, the ground that is raised. -/
def tightV (cuts : List Int) (l : List (Int × Int)) (i : Nat) : Int × Int := innV (cutV cuts (2 * i + 2)) (cutV cuts (2 * i + 3)) (l.getD i (0, 0))
def highV (ups : List Int) (l : List (Int × Int)) (i : Nat) : Int × Int := if i < ups.length then (min 20000 ((l.getD i (0, 0)).1 + ups.getD i 0), min 20000 ((l.getD i (0, 0)).2 + ups.getD i 0)) else l.getD i (0, 0)
theorem okS_get {l : List (Int × Int)} {k : Nat} (h : l.all (okS 20000) = true) (hk : k < l.length) : 0 ≤ (l.getD k (0, 0)).1 ∧ (l.getD k (0, 0)).1 ≤ (l.getD k (0, 0)).2 ∧ (l.getD k (0, 0)).2 ≤ 20000 := by
  have hm := List.all_eq_true.1 h _ (List.getElem_mem hk)
  have hd : l.getD k (0, 0) = l[k] := by simp [List.getD, hk]
  rw [hd]
  exact of_decide_eq_true hm
theorem tight_within {cuts : List Int} {l : List (Int × Int)} (h : l.all (okS 20000) = true) (hc : ∀ x ∈ cuts, 0 ≤ x ∧ x ≤ 4294967295) : Within l (rowL (tightV cuts l) l.length) ∧ (rowL (tightV cuts l) l.length).all (okS 20000) = true := by
  have hk : ∀ k, k < l.length → (l.getD k (0, 0)).1 ≤ (tightV cuts l k).1 ∧ (tightV cuts l k).1 ≤ (tightV cuts l k).2 ∧ (tightV cuts l k).2 ≤ (l.getD k (0, 0)).2 := fun k hk =>
    innV_bd (okS_get h hk).2.1 (cutV_bd hc _).1 (cutV_bd hc _).1
  refine ⟨⟨rowL_length, fun k hk' => ?_⟩, all_okS fun k hk' => ?_⟩
  · rw [rowL_get hk']; exact hk k hk'
  · rw [rowL_length] at hk'
    rw [rowL_get hk']
    have a := hk k hk'
    have b := okS_get h hk'
    exact decide_eq_true (by omega)
theorem high_above {ups : List Int} {l : List (Int × Int)} (h : l.all (okS 20000) = true) (hu : ∀ x ∈ ups, 0 ≤ x ∧ x ≤ 255) : Above l (rowL (highV ups l) l.length) ∧ (rowL (highV ups l) l.length).all (okS 20000) = true := by
  have hk : ∀ k, k < l.length → (l.getD k (0, 0)).1 ≤ (highV ups l k).1 ∧ (highV ups l k).1 ≤ (highV ups l k).2 ∧ (l.getD k (0, 0)).2 ≤ (highV ups l k).2 ∧ (highV ups l k).2 ≤ 20000 := fun k hk => by
    have b := okS_get h hk
    unfold highV
    split
    · rename_i hl
      have := hu (ups.getD k 0) (by simp [List.getD, hl])
      simp only
      omega
    · omega
  refine ⟨⟨rowL_length, fun k hk' => ?_⟩, all_okS fun k hk' => ?_⟩
  · rw [rowL_get hk']; exact hk k hk'
  · rw [rowL_length] at hk'
    rw [rowL_get hk']
    have a := hk k hk'
    have b := okS_get h hk'
    exact decide_eq_true (by omega)

/-- The law, in plain words: what the three answers are to each other. -/
theorem grow_rows {l l' : List (Int × Int)} {sx sy ro st t ray gx gy gs wi hi z elo ehi elo' ehi' t0 : Int} {n K : Nat} (hn : l.length = n) (hsz : (n : Int) = wi * hi) (c1 : 1 ≤ gs) (d1 : 1 ≤ wi) (d2 : wi ≤ 64) (e2 : hi ≤ 64) (h : Within l l') (h0 : 1 ≤ elo) (h1 : elo ≤ elo') (h2 : ehi' ≤ ehi) (h3 : elo' ≤ ehi') (j : Nat) :
    (rowsZ (csB (groundZ l sx sy ro st t ray gx gy gs wi hi) z st elo t0) (cmB (groundZ l sx sy ro st t ray gx gy gs wi hi) z st ehi t0) K j).1 ≤ (rowsZ (csB (groundZ l' sx sy ro st t ray gx gy gs wi hi) z st elo' t0) (cmB (groundZ l' sx sy ro st t ray gx gy gs wi hi) z st ehi' t0) K j).1 ∧
    (rowsZ (csB (groundZ l' sx sy ro st t ray gx gy gs wi hi) z st elo' t0) (cmB (groundZ l' sx sy ro st t ray gx gy gs wi hi) z st ehi' t0) K j).2 ≤ (rowsZ (csB (groundZ l sx sy ro st t ray gx gy gs wi hi) z st elo t0) (cmB (groundZ l sx sy ro st t ray gx gy gs wi hi) z st ehi t0) K j).2 := by
  have hg := fun i => groundZ_within (sx := sx) (sy := sy) (ro := ro) (st := st) (t := t) (ray := ray) (gx := gx) (gy := gy) (j := i) hn hsz c1 d1 d2 e2 h
  constructor
  · refine rowsZ_le1 K fun k i _ _ hc => ?_
    unfold csB at *
    have a := of_decide_eq_true hc
    have b := riseU_anti (z := z) (st := st) (gate := i) (t := t0 + k) h0 h1
    have := (hg i).1
    exact decide_eq_true (by omega)
  · refine rowsZ_le2 K fun k i _ _ hc => ?_
    unfold cmB at *
    have a := of_decide_eq_true hc
    have b := riseD_anti (z := z) (st := st) (gate := i) (t := t0 + k) (show 1 ≤ ehi' by omega) h2
    have := (hg i).2
    exact decide_eq_true (by omega)
theorem high_rows {l l' : List (Int × Int)} {sx sy ro st t ray gx gy gs wi hi z elo ehi t0 : Int} {n K : Nat} (hn : l.length = n) (hsz : (n : Int) = wi * hi) (c1 : 1 ≤ gs) (d1 : 1 ≤ wi) (d2 : wi ≤ 64) (e2 : hi ≤ 64) (h : Above l l') (j : Nat) :
    (rowsZ (csB (groundZ l sx sy ro st t ray gx gy gs wi hi) z st elo t0) (cmB (groundZ l sx sy ro st t ray gx gy gs wi hi) z st ehi t0) K j).1 ≤ (rowsZ (csB (groundZ l' sx sy ro st t ray gx gy gs wi hi) z st elo t0) (cmB (groundZ l' sx sy ro st t ray gx gy gs wi hi) z st ehi t0) K j).1 ∧
    (rowsZ (csB (groundZ l sx sy ro st t ray gx gy gs wi hi) z st elo t0) (cmB (groundZ l sx sy ro st t ray gx gy gs wi hi) z st ehi t0) K j).2 ≤ (rowsZ (csB (groundZ l' sx sy ro st t ray gx gy gs wi hi) z st elo t0) (cmB (groundZ l' sx sy ro st t ray gx gy gs wi hi) z st ehi t0) K j).2 := by
  have hg := fun i => groundZ_above (sx := sx) (sy := sy) (ro := ro) (st := st) (t := t) (ray := ray) (gx := gx) (gy := gy) (j := i) hn hsz c1 d1 d2 e2 h
  constructor
  · refine rowsZ_le1 K fun k i _ _ hc => ?_
    unfold csB at *
    have a := of_decide_eq_true hc
    have := (hg i).1
    exact decide_eq_true (by omega)
  · refine rowsZ_le2 K fun k i _ _ hc => ?_
    unfold cmB at *
    have a := of_decide_eq_true hc
    have := (hg i).2
    exact decide_eq_true (by omega)
end Go.Proofs.Ythhhecidogcmjaa
