/-
  Winds: the document's side of a corner, in two parts; folds one step on; plain words.
  Winds: eyes, mixed sights, what the laws say of them; plain words.
  Winds: the answers, with their errors, as the program and the document give them; plain words.
  Winds: the chapter's examples; plain words.
  Eyes: directions of roses have their lengths; sights of eyes; plain words.
  WindFewer: narrower spans, other orders, turned directions; plain words.
-/
import Derived.Test.YtllpffkifleigaaWindMath6
import Derived.Test.YtllpffkifleigaaWbSectorMath2
set_option linter.unusedSimpArgs false
set_option linter.unusedVariables false
section
namespace Go.Proofs.Ytllpffkifleigaa

/-- Beyond a border (1), on it (0), or before it (-1). -/
def sideI (g : Int) : Int := if g < 0 then 1 else if g = 0 then 0 else -1
theorem sideI_le {g : Int} : sideI g ≤ 0 ↔ 0 ≤ g := by unfold sideI; split <;> (try split) <;> omega
theorem sideI_gt {g : Int} : 0 < sideI g ↔ g < 0 := by unfold sideI; split <;> (try split) <;> omega
/-- A sum of products in two parts. -/
theorem side_parts {a b c u v d U V D q : Int} (high low : Int) (hh : high = a * U + b * V - c * D) (hl : low = a * (u - 1048576 * U) + b * (v - 1048576 * V) - c * (d - 1048576 * D)) (hq : q = low / 1048576) :
    sideI (c * d - a * u - b * v) = if 0 < high + q ∨ (high + q = 0 ∧ 0 < low - 1048576 * q) then 1 else if high + q = 0 ∧ low - 1048576 * q = 0 then 0 else -1 := by
  have e : c * d - a * u - b * v = -(1048576 * (high + q) + (low - 1048576 * q)) := by subst hh hl; grind
  have h0 : 0 ≤ low - 1048576 * q ∧ low - 1048576 * q < 1048576 := by omega
  rw [e]
  unfold sideI
  generalize low - 1048576 * q = r at h0 ⊢
  generalize high + q = t at *
  by_cases c1 : 0 < t ∨ (t = 0 ∧ 0 < r)
  · rw [if_pos c1, if_pos (by omega)]
  · rw [if_neg c1]
    by_cases c2 : t = 0 ∧ r = 0
    · rw [if_pos c2, if_neg (by omega), if_pos (by omega)]
    · rw [if_neg c2, if_neg (by omega), if_neg (by omega)]

/-! ### Folds, one step on -/

def hiL (x y len m : Int) (l : List Pt) : Int := -loL (-x) (-y) len m l
theorem loL_snoc (x y len m : Int) (l : List Pt) (p : Pt) : loL x y len m (l ++ [p]) = min (loL x y len m l) (spd x y len p) := by unfold loL; rw [List.foldl_append]; rfl
theorem hiL_snoc (x y len m : Int) (l : List Pt) (p : Pt) : hiL x y len m (l ++ [p]) = max (hiL x y len m l) (-spd (-x) (-y) len p) := by
  unfold hiL
  rw [loL_snoc]
  omega
theorem loL_nil (x y len m : Int) : loL x y len m [] = m := rfl
theorem hiL_nil (x y len m : Int) : hiL x y len m [] = -m := rfl
theorem corns_snoc (L : List Bd) (i : Nat) : (List.range (i + 1)).map (corn L) = (List.range i).map (corn L) ++ [corn L i] := by rw [List.range_succ, List.map_append]; rfl
/-- The speeds of Bounds: along one axis. -/
theorem spd_u (p : Pt) : spd 1 0 1 p = p.u / p.d := by unfold spd val; rw [Int.one_mul, Int.zero_mul, Int.add_zero, Int.mul_one]
theorem spd_v (p : Pt) : spd 0 1 1 p = p.v / p.d := by unfold spd val; rw [Int.one_mul, Int.zero_mul, Int.zero_add, Int.mul_one]
theorem spd_un (p : Pt) : spd (-1) (-0) 1 p = (-p.u) / p.d := by unfold spd val; rw [Int.mul_one]; congr 1; omega
theorem spd_vn (p : Pt) : spd (-0) (-1) 1 p = (-p.v) / p.d := by unfold spd val; rw [Int.mul_one]; congr 1; omega
/-- The half-planes of sights, one sight on. -/
def sky4 : List Bd := [⟨1, 0, 120000⟩, ⟨-1, 0, 120000⟩, ⟨0, 1, 120000⟩, ⟨0, -1, 120000⟩]
theorem hvs_nil (w : Int) : hvs [] w = sky4 := rfl
theorem hvs_snoc (l : List Sgt) (s : Sgt) (w : Int) : hvs (l ++ [s]) w = hvs l w ++ [hiB s w, loB s w] := by unfold hvs; rw [List.flatMap_append, ← List.append_assoc]; rfl
theorem hvs_len (w : Int) : ∀ (l : List Sgt), (hvs l w).length = 4 + 2 * l.length
  | [] => rfl
  | s :: l => by
    have := hvs_len w l
    unfold hvs at *
    simp only [List.flatMap_cons, List.length_append, List.length_cons, List.length_nil] at *
    omega
/-- The corners, one pair on. -/
theorem rcorI_succ (hs : List Bd) (i k : Nat) : rcorI hs i (k + 1) = rcorI hs i k ++ refOne hs (hs.getD i bd0) (hs.getD k bd0) := rfl
theorem rcorN_succ (hs : List Bd) (i : Nat) : rcorN hs (i + 1) = rcorN hs i ++ rcorI hs i i := rfl
theorem refOne_len (hs : List Bd) (p q : Bd) : (refOne hs p q).length ≤ 1 := by
  unfold refOne
  cases pcor p q with
  | none => simp
  | some c => simp only; split <;> simp
theorem rcorI_len (hs : List Bd) (i : Nat) : ∀ k, (rcorI hs i k).length ≤ k
  | 0 => Nat.le_refl _
  | k + 1 => by
    have := rcorI_len hs i k
    have := refOne_len hs (hs.getD i bd0) (hs.getD k bd0)
    rw [rcorI_succ, List.length_append]
    omega
theorem rcorN_len (hs : List Bd) : ∀ i, (rcorN hs i).length ≤ i * i
  | 0 => Nat.le_refl _
  | i + 1 => by
    have := rcorN_len hs i
    have := rcorI_len hs i i
    rw [rcorN_succ, List.length_append]
    have : (i + 1) * (i + 1) = i * i + 2 * i + 1 := by grind
    omega

/-! ### Numbers that fit -/

structure SgtOk (s : Sgt) : Prop where
  l1 : 1 ≤ s.l
  l2 : s.l ≤ 64800
  x1 : -s.l ≤ s.x
  x2 : s.x ≤ s.l
  y1 : -s.l ≤ s.y
  y2 : s.y ≤ s.l
  sq : s.x * s.x + s.y * s.y = s.l * s.l
  a1 : -400000 ≤ s.lo
  a2 : s.lo ≤ s.hi
  a3 : s.hi ≤ 400000
theorem sgt_feas {l : List Sgt} (h : ∀ s ∈ l, SgtOk s) : Feas l 400000 := feas_calm fun s hs => ⟨by have := (h s hs).l1; omega, by have := (h s hs).a3; have := (h s hs).a2; omega, by have := (h s hs).a1; have := (h s hs).a2; omega⟩
theorem sgt_nn {l : List Sgt} (h : ∀ s ∈ l, SgtOk s) : ∀ s ∈ l, 0 ≤ s.l := fun s hs => by have := (h s hs).l1; omega

/-! ### The sight of a gate -/

/-- A wind along a ray, told by what a radar sees: the speed that is seen, in whole numbers, and what the rise adds. -/
theorem look_agr {c n d L num W wz lo hi rlo rhi : Int} (hc : 0 < c) (hd : 0 < d) (hL : 0 < L) (hn : 0 ≤ n)
    (h1 : lo * (L * d) ≤ num * c + wz * n * L) (h2 : num * c + wz * n * L ≤ hi * (L * d)) (r1 : rlo ≤ wz) (r2 : wz ≤ rhi) :
    (lo * d - rhi * n) / c * L ≤ num ∧ num ≤ -((rlo * n - hi * d) / c) * L := by
  have q1 := Int.ediv_mul_le (lo * d - rhi * n) (show c ≠ 0 by omega)
  have q2 := Int.ediv_mul_le (rlo * n - hi * d) (show c ≠ 0 by omega)
  generalize (lo * d - rhi * n) / c = p at *
  generalize (rlo * n - hi * d) / c = q at *
  have n1 : wz * n ≤ rhi * n := Int.mul_le_mul_of_nonneg_right r2 hn
  have n2 : rlo * n ≤ wz * n := Int.mul_le_mul_of_nonneg_right r1 hn
  have m1 : p * c * L ≤ (lo * d - wz * n) * L := Int.mul_le_mul_of_nonneg_right (by omega) (by omega)
  have m2 : q * c * L ≤ (wz * n - hi * d) * L := Int.mul_le_mul_of_nonneg_right (by omega) (by omega)
  constructor
  · have : p * L * c ≤ num * c := by grind
    exact Int.le_of_mul_le_mul_right this hc
  · have : num * c ≤ -q * L * c := by grind
    exact Int.le_of_mul_le_mul_right this hc
end Go.Proofs.Ytllpffkifleigaa
end
section
namespace Go.Proofs.Ytllpffkifleigaa

/-! ### Eyes -/

/-- One sight, and a wind that agrees with it. -/
def Agr1 (s : Sgt) (u v : Int) : Prop := s.lo * s.l ≤ u * s.x + v * s.y ∧ u * s.x + v * s.y ≤ s.hi * s.l
theorem agr_all {l : List Sgt} {u v : Int} : Agr l u v ↔ ∀ s ∈ l, Agr1 s u v := Iff.rfl
/-- The sight of an eye. -/
def eyeS (a b L u v less more : Int) : Sgt := ⟨a, b, L, (u * a + v * b) / L - less, -((-u * a - v * b) / L) + more⟩
theorem eye_bd {a b L u v : Int} (hL : 1 ≤ L) (ha : -L ≤ a ∧ a ≤ L) (hb : -L ≤ b ∧ b ≤ L) (hu : -32768 ≤ u ∧ u ≤ 32768) (hv : -32768 ≤ v ∧ v ≤ 32768) : -65536 ≤ (u * a + v * b) / L ∧ (u * a + v * b) / L ≤ 65536 := by
  have m1 := abs_prod hu.1 hu.2 ha.1 ha.2 (by omega) (by omega)
  have m2 := abs_prod hv.1 hv.2 hb.1 hb.2 (by omega) (by omega)
  constructor
  · exact (Int.le_ediv_iff_mul_le (by omega)).2 (by omega)
  · have : (u * a + v * b) / L < 65537 := (Int.ediv_lt_iff_lt_mul (by omega)).2 (by omega)
    omega
theorem eye_agr {a b L u v less more : Int} (hL : 1 ≤ L) (h1 : 0 ≤ less) (h2 : 0 ≤ more) : Agr1 (eyeS a b L u v less more) u v := by
  unfold Agr1 eyeS
  simp only
  have q1 := Int.ediv_mul_le (u * a + v * b) (show L ≠ 0 by omega)
  have q2 := Int.ediv_mul_le (-u * a - v * b) (show L ≠ 0 by omega)
  have e : -u * a - v * b = -(u * a + v * b) := by grind
  rw [e] at q2 ⊢
  generalize (u * a + v * b) / L = p at *
  generalize -(u * a + v * b) / L = q at *
  have m1 : 0 ≤ less * L := Int.mul_nonneg h1 (by omega)
  have m2 : 0 ≤ more * L := Int.mul_nonneg h2 (by omega)
  have e1 : (p - less) * L = p * L - less * L := by grind
  have e2 : (-q + more) * L = -(q * L) + more * L := by grind
  omega
/-- An eye's sight is a sight; its span is near. -/
structure Near (s : Sgt) : Prop where
  l1 : 1 ≤ s.l
  l2 : s.l ≤ 64800
  x1 : -s.l ≤ s.x
  x2 : s.x ≤ s.l
  y1 : -s.l ≤ s.y
  y2 : s.y ≤ s.l
  sq : s.x * s.x + s.y * s.y = s.l * s.l
  a1 : -70000 ≤ s.lo
  a2 : s.lo ≤ s.hi
  a3 : s.hi ≤ 70000
theorem Near.ok {s : Sgt} (h : Near s) : SgtOk s := ⟨h.l1, h.l2, h.x1, h.x2, h.y1, h.y2, h.sq, by have := h.a1; omega, h.a2, by have := h.a3; omega⟩
theorem eye_near {a b L u v less more : Int} (hL : 1 ≤ L) (hL2 : L ≤ 64800) (ha : -L ≤ a ∧ a ≤ L) (hb : -L ≤ b ∧ b ≤ L) (hq : a * a + b * b = L * L) (hu : -32768 ≤ u ∧ u ≤ 32767) (hv : -32768 ≤ v ∧ v ≤ 32767) (h1 : 0 ≤ less ∧ less ≤ 2999) (h2 : 0 ≤ more ∧ more ≤ 2999) : Near (eyeS a b L u v less more) := by
  have b1 := eye_bd hL ha hb (u := u) (v := v) (by omega) (by omega)
  have b2 := eye_bd hL ha hb (u := -u) (v := -v) (by omega) (by omega)
  rw [show -u * a + -v * b = -u * a - v * b by grind] at b2
  have ag := eye_agr (a := a) (b := b) (u := u) (v := v) hL h1.1 h2.1
  unfold Agr1 at ag
  refine ⟨hL, hL2, ha.1, ha.2, hb.1, hb.2, hq, ?_, ?_, ?_⟩
  · show -70000 ≤ (u * a + v * b) / L - less
    omega
  · exact Int.le_of_mul_le_mul_right (show (eyeS a b L u v less more).lo * L ≤ (eyeS a b L u v less more).hi * L by unfold eyeS at *; simp only at *; omega) (by omega)
  · show -((-u * a - v * b) / L) + more ≤ 70000
    omega
theorem near_wide {s : Sgt} {d : Int} (h : Near s) (h0 : 0 ≤ d) (h1 : d ≤ 200000) : SgtOk (wideS d s) := by
  have := h.a1
  have := h.a2
  have := h.a3
  exact ⟨h.l1, h.l2, h.x1, h.x2, h.y1, h.y2, h.sq, by unfold wideS; simp only; omega, by unfold wideS; simp only; omega, by unfold wideS; simp only; omega⟩
theorem near_strain {l : List Sgt} (h : ∀ s ∈ l, Near s) : strainP l ≤ 70000 := by
  refine strain_le (fun s hs => by have := (h s hs).l1; omega) (sgt_feas fun s hs => (h s hs).ok) (by omega) (feas_calm fun s hs => ?_)
  have n := h s hs
  exact ⟨by have := n.l1; omega, by have := n.a3; have := n.a2; omega, by have := n.a1; have := n.a2; omega⟩
/-- A narrower eye. -/
theorem eye_tight {l l' : List Sgt} {p : Pt} (hl : l'.length = l.length) (h : ∀ i, i < l.length → (l'.getD i sg0).x = (l.getD i sg0).x ∧ (l'.getD i sg0).y = (l.getD i sg0).y ∧ (l'.getD i sg0).l = (l.getD i sg0).l ∧ 0 ≤ (l.getD i sg0).l ∧ (l.getD i sg0).lo ≤ (l'.getD i sg0).lo ∧ (l'.getD i sg0).hi ≤ (l.getD i sg0).hi)
    (hp : Inn (hvs l' 0) p) : Inn (hvs l 0) p := by
  rw [inn_iff] at hp ⊢
  refine ⟨hp.1, fun s hs => ?_⟩
  obtain ⟨i, hi, e⟩ := idx hs
  obtain ⟨h1, h2, h3, h4, h5, h6⟩ := h i hi
  have k := hp.2 (l'.getD i sg0) (getD_mem (by omega))
  rw [h1, h2, h3, e] at k
  rw [e] at h4 h5 h6
  have hd := Int.mul_nonneg h4 (show 0 ≤ p.d by have := hp.1.1; omega)
  have m1 := Int.mul_le_mul_of_nonneg_right (show s.lo - 0 ≤ (l'.getD i sg0).lo - 0 by omega) hd
  have m2 := Int.mul_le_mul_of_nonneg_right (show (l'.getD i sg0).hi + 0 ≤ s.hi + 0 by omega) hd
  omega

/-! ### Strain of near sights -/

theorem strain_facts {l : List Sgt} (h : ∀ s ∈ l, Near s) : 0 ≤ strainP l ∧ strainP l ≤ 70000 ∧ (strainP l = 0 ↔ Feas l 0) ∧ Feas (l.map (wideS (strainP l))) 0 ∧ (0 < strainP l → ¬ Feas (l.map (wideS (strainP l - 1))) 0) := by
  have nn : ∀ s ∈ l, 0 ≤ s.l := fun s hs => by have := (h s hs).l1; omega
  obtain ⟨h1, -, h3, h4⟩ := strain_is nn (sgt_feas fun s hs => (h s hs).ok)
  refine ⟨h1, near_strain h, ⟨fun e => by rw [e] at h3; exact h3, fun hf => ?_⟩, feas_wide.2 h3, fun hp hf => h4 _ (by omega) (by omega) (feas_wide.1 hf)⟩
  have := strain_le nn (sgt_feas fun s hs => (h s hs).ok) (Int.le_refl 0) hf
  omega

/-! ### Blame: without any one of them -/

theorem isSet_erase {n : Nat} : ∀ {t : List Nat} {f : Nat} (i : Nat), IsSet n f t → IsSet n f (t.eraseIdx i)
  | [], _, _, _ => trivial
  | a :: t, f, 0, h => h.2.2.low (by have := h.1; omega)
  | a :: t, f, i + 1, h => ⟨h.1, h.2.1, isSet_erase i h.2.2⟩
theorem pick_erase (l : List Sgt) (t : List Nat) (i : Nat) : (pick l t).eraseIdx i = pick l (t.eraseIdx i) := by
  unfold pick
  induction t generalizing i with
  | nil => rfl
  | cons a t ih =>
    cases i with
    | zero => rfl
    | succ i =>
      simp only [List.map_cons, List.eraseIdx_cons_succ, ih]
theorem blame_one {l : List Sgt} {t : List Nat} {i : Nat} (h : blameP l = some t) (hi : i < t.length) : Feas ((pick l t).eraseIdx i) 0 := by
  rw [pick_erase]
  exact blame_least h (isSet_erase i (firstS_mem h).2.2.1) (by rw [List.length_eraseIdx, if_pos hi]; omega)
theorem isSet_up {n : Nat} : ∀ {t : List Nat} {f i : Nat}, IsSet n f t → i + 1 < t.length → t.getD i 0 < t.getD (i + 1) 0
  | [], _, _, _, h => by simp at h
  | [a], _, i, _, h => by simp at h
  | a :: b :: t, f, 0, h, _ => by
    have := h.2.2.1
    simp
    omega
  | a :: b :: t, f, i + 1, h, hi => by
    have := isSet_up (t := b :: t) (i := i) h.2.2 (by simpa using hi)
    simpa using this

/-! ### What is left out -/

theorem out_agr {l : List Sgt} {set : List Nat} {u v : Int} (h : ∀ i, i < l.length → i ∉ set → Agr1 (l.getD i sg0) u v) : Agr (outR l set) u v := by
  intro s hs
  unfold outR at hs
  obtain ⟨j, h1, h2, rfl⟩ := mem_selN.1 hs
  exact h j h1 (by simpa using h2)
theorem without_two {l : List Sgt} {a b : Nat} {u v : Int} (ha : a < l.length) (hb : b < l.length) (hu : -120000 ≤ u ∧ u ≤ 120000) (hv : -120000 ≤ v ∧ v ≤ 120000) (h : ∀ i, i < l.length → i ≠ a → i ≠ b → Agr1 (l.getD i sg0) u v) :
    ∃ t, withoutP l 2 = some t ∧ t.length ≤ 2 ∧ IsSet l.length 0 t ∧ Feas (outR l t) 0 ∧ ∀ k, k < t.length → withoutP l k = none := by
  obtain ⟨t1, s1, l1, m1⟩ := ins_set (n := l.length) (t := []) (f := 0) a (Nat.zero_le _) ha trivial
  obtain ⟨t2, s2, l2, m2⟩ := ins_set (f := 0) b (Nat.zero_le _) hb s1
  have hf : Feas (outR l t2) 0 := agr_feas (out_agr fun i hi hn => h i hi (fun e => hn ((m2 i).2 (.inr ((m1 i).2 (.inl e))))) (fun e => hn ((m2 i).2 (.inl e)))) hu hv
  have hl : t2.length ≤ 2 := by simp at l1; omega
  cases hw : withoutP l 2 with
  | none =>
    unfold withoutP firstS at hw
    rw [List.find?_eq_none] at hw
    refine absurd ?_ (hw t2 (List.mem_flatMap.2 ⟨t2.length, List.mem_range'_1.2 ⟨by omega, by omega⟩, setsR_has rfl s2⟩))
    cases he : empB (outR l t2) 0 with
    | true => exact absurd hf (empB_iff.1 he)
    | false => rfl
  | some t =>
    obtain ⟨h5, h6, h7, h8⟩ := firstS_mem hw
    refine ⟨t, rfl, h6, h7, ?_, fun k hk => ?_⟩
    · apply Classical.byContradiction
      intro hn
      rw [empB_iff.2 hn] at h8
      cases h8
    · cases hk2 : withoutP l k with
      | none => rfl
      | some s =>
        obtain ⟨g5, g6, g7, g8⟩ := firstS_mem hk2
        have := firstS_least hw (Nat.zero_le _) (by omega) g7 g8
        omega

/-! ### Fronts -/

theorem front_two {l : List Sgt} {i j : Nat} {u v p q : Int} (hij : i < j) (hj : j ≤ l.length) (hu : -120000 ≤ u ∧ u ≤ 120000) (hv : -120000 ≤ v ∧ v ≤ 120000) (hp : -120000 ≤ p ∧ p ≤ 120000) (hq : -120000 ≤ q ∧ q ≤ 120000)
    (h1 : ∀ k, k < l.length → (k < i ∨ j ≤ k) → Agr1 (l.getD k sg0) u v) (h2 : ∀ k, i ≤ k → k < j → Agr1 (l.getD k sg0) p q) : frontB l i j = true := by
  unfold frontB
  rw [agrB_iff.2 (agr_feas (u := p) (v := q) ?_ hp hq), agrB_iff.2 (agr_feas (u := u) (v := v) ?_ hu hv)]
  · rfl
  · intro s hs
    rcases List.mem_append.1 hs with hs | hs
    · obtain ⟨k, hk, e⟩ := List.getElem_of_mem hs
      rw [List.length_take] at hk
      rw [List.getElem_take] at e
      have := h1 k (by omega) (.inl (by omega))
      rw [List.getD_eq_getElem?_getD, List.getElem?_eq_getElem (by omega)] at this
      rw [← e]
      exact this
    · obtain ⟨k, hk, e⟩ := List.getElem_of_mem hs
      rw [List.length_drop] at hk
      rw [List.getElem_drop] at e
      have := h1 (j + k) (by omega) (.inr (by omega))
      rw [List.getD_eq_getElem?_getD, List.getElem?_eq_getElem (by omega)] at this
      rw [← e]
      exact this
  · intro s hs
    unfold slc at hs
    obtain ⟨k, hk, e⟩ := List.getElem_of_mem hs
    rw [List.length_drop, List.length_take] at hk
    rw [List.getElem_drop, List.getElem_take] at e
    have := h2 (i + k) (by omega) (by omega)
    rw [List.getD_eq_getElem?_getD, List.getElem?_eq_getElem (by omega)] at this
    rw [← e]
    exact this
theorem front_has {l : List Sgt} {i j : Nat} (hij : i < j) (hj : j ≤ l.length) (h : frontB l i j = true) : ∃ p, frontS l = some p ∧ p.1 < p.2 ∧ p.2 ≤ l.length ∧ p.1 ≤ i ∧ Feas (slc l p.1 p.2) 0 ∧ Feas (l.take p.1 ++ l.drop p.2) 0 := by
  cases hf : frontS l with
  | none =>
    unfold frontS at hf
    rw [List.find?_eq_none] at hf
    exact absurd h (hf (i, j) (mem_pairs.2 ⟨hij, hj⟩))
  | some p =>
    obtain ⟨h1, h2, h3⟩ := front_mem hf
    unfold frontB at h3
    rw [Bool.and_eq_true] at h3
    exact ⟨p, rfl, h1, h2, front_before hf hij hj h, agrB_iff.1 h3.1, agrB_iff.1 h3.2⟩
/-- No blame, no strain, nothing to leave out where a wind agrees. -/
theorem none_out {l : List Sgt} {most : Nat} (h : Feas l 0) : withoutP l most = some [] := by
  unfold withoutP
  refine firstS_some (k := 0) (j := 0) (Nat.le_refl _) (Nat.zero_le _) (fun k' _ h2 => absurd h2 (Nat.not_lt_zero _)) (fun j' s hj => absurd hj (Nat.not_lt_zero _)) rfl ?_
  have : ∀ s ∈ outR l [], s ∈ l := fun s hs => by
    unfold outR at hs
    obtain ⟨j, h1, -, rfl⟩ := mem_selN.1 hs
    exact getD_mem h1
  cases he : empB (outR l []) 0 with
  | true => exact absurd (h.sub this) (empB_iff.1 he)
  | false => rfl
theorem no_strain {l : List Sgt} (h : ∀ s ∈ l, SgtOk s) (hf : Feas l 0) : strainP l = 0 := by
  have h1 := strain_is (sgt_nn h) (sgt_feas h)
  have h2 := strain_le (sgt_nn h) (sgt_feas h) (Int.le_refl 0) hf
  omega
end Go.Proofs.Ytllpffkifleigaa
end
section
namespace Go.Proofs.Ytllpffkifleigaa

def dirB (x y l : Int) : Bool := decide (1 ≤ l ∧ l ≤ 64800 ∧ -l ≤ x ∧ x ≤ l ∧ -l ≤ y ∧ y ≤ l ∧ x * x + y * y = l * l)
def spnB (a b m : Int) : Bool := decide (-m ≤ a ∧ a ≤ b ∧ b ≤ m)
def sgtB (s : Sgt) : Bool := dirB s.x s.y s.l && spnB s.lo s.hi 400000
theorem sgtB_iff {s : Sgt} : sgtB s = true ↔ SgtOk s := by
  unfold sgtB dirB spnB
  rw [Bool.and_eq_true, decide_eq_true_iff, decide_eq_true_iff]
  constructor
  · rintro ⟨⟨a, b, c, d, e, f, g⟩, h, i, j⟩
    exact ⟨a, b, c, d, e, f, g, h, i, j⟩
  · rintro ⟨a, b, c, d, e, f, g, h, i, j⟩
    exact ⟨⟨a, b, c, d, e, f, g⟩, h, i, j⟩
/-- The error of a sight; of a list of sights. -/
def chkE (s : Sgt) : Int := if sgtB s = true then 0 else 3
def badB (l : List Sgt) : Bool := l.any fun s => !sgtB s
def listE (l : List Sgt) : Int := if 360 < l.length then 9 else if badB l = true then 3 else 0
theorem badB_no {l : List Sgt} : badB l = false ↔ ∀ s ∈ l, SgtOk s := by
  unfold badB
  rw [List.any_eq_false]
  constructor
  · intro h s hs
    have := h s hs
    exact sgtB_iff.1 (by simpa using this)
  · intro h s hs
    rw [sgtB_iff.2 (h s hs)]
    decide
theorem listE_ok {l : List Sgt} : listE l = 0 ↔ l.length ≤ 360 ∧ ∀ s ∈ l, SgtOk s := by
  unfold listE
  rw [← badB_no]
  constructor
  · intro h
    split at h
    · cases h
    · split at h
      · cases h
      · exact ⟨by omega, by simpa using ‹¬ badB l = true›⟩
  · rintro ⟨h1, h2⟩
    rw [if_neg (by omega), if_neg (by rw [h2]; simp)]
theorem listE_cases (l : List Sgt) : listE l = 0 ∨ listE l = 3 ∨ listE l = 9 := by
  unfold listE
  split
  · exact .inr (.inr rfl)
  · split
    · exact .inr (.inl rfl)
    · exact .inl rfl
/-- Whether a wind agrees with a sight; with all of them. -/
def agr1B (s : Sgt) (u v : Int) : Bool := !(decide (u * s.x + v * s.y < s.lo * s.l) || decide (s.hi * s.l < u * s.x + v * s.y))
theorem agr1B_iff {s : Sgt} {u v : Int} : agr1B s u v = true ↔ Agr1 s u v := by
  unfold agr1B Agr1
  simp
def agrAll (l : List Sgt) (u v : Int) : Bool := l.all fun s => agr1B s u v
theorem agrAll_iff {l : List Sgt} {u v : Int} : agrAll l u v = true ↔ Agr l u v := by
  unfold agrAll Agr
  rw [List.all_eq_true]
  exact ⟨fun h s hs => agr1B_iff.1 (h s hs), fun h s hs => agr1B_iff.2 (h s hs)⟩
def winB (u v : Int) : Bool := decide (-120000 ≤ u ∧ u ≤ 120000 ∧ -120000 ≤ v ∧ v ≤ 120000)
/-- Agree. -/
def agreeE (l : List Sgt) (u v : Int) : Int := if listE l ≠ 0 then listE l else if winB u v = true then 0 else 3
def agreeA (l : List Sgt) (u v : Int) : Bool := decide (agreeE l u v = 0) && agrAll l u v
/-- The corners of what is left; Bounds and Along. -/
def cs0 (l : List Sgt) : List Pt := corns (narL skyL l 0)
def rs0 (l : List Sgt) : List Pt := rcor (hvs l 0)
def bndsE (l : List Sgt) : Int := if listE l ≠ 0 then listE l else if agrB l 0 = true then 0 else 14
def alongE (l : List Sgt) (x y len : Int) : Int := if listE l ≠ 0 then listE l else if dirB x y len = true then (if agrB l 0 = true then 0 else 14) else 3
theorem bnds_same {l : List Sgt} (h : agrB l 0 = true) :
    loL 1 0 1 240000 (cs0 l) = loL 1 0 1 120000 (rs0 l) ∧ hiL 1 0 1 240000 (cs0 l) = hiL 1 0 1 120000 (rs0 l) ∧ loL 0 1 1 240000 (cs0 l) = loL 0 1 1 120000 (rs0 l) ∧ hiL 0 1 1 240000 (cs0 l) = hiL 0 1 1 120000 (rs0 l) := by
  have hf := agrB_iff.1 h
  refine ⟨bounds_ref hf 1 0 (.inl ⟨rfl, rfl⟩), ?_, bounds_ref hf 0 1 (.inr (.inl ⟨rfl, rfl⟩)), ?_⟩
  · unfold hiL
    exact congrArg Neg.neg (bounds_ref hf (-1) (-0) (.inr (.inr (.inl ⟨rfl, rfl⟩))))
  · unfold hiL
    exact congrArg Neg.neg (bounds_ref hf (-0) (-1) (.inr (.inr (.inr ⟨rfl, rfl⟩))))
theorem dirB_iff {x y l : Int} : dirB x y l = true ↔ 1 ≤ l ∧ l ≤ 64800 ∧ -l ≤ x ∧ x ≤ l ∧ -l ≤ y ∧ y ≤ l ∧ x * x + y * y = l * l := by unfold dirB; exact decide_eq_true_iff
theorem along_same {l : List Sgt} {x y len : Int} (h : agrB l 0 = true) (hd : dirB x y len = true) :
    loL x y len 240000 (cs0 l) = -upper (rs0 l) (-x) (-y) len ∧ hiL x y len 240000 (cs0 l) = upper (rs0 l) x y len := by
  obtain ⟨h1, h2, h3, h4, h5, h6, h7⟩ := dirB_iff.1 hd
  exact along_ref (agrB_iff.1 h) (by omega) ⟨h3, h4⟩ ⟨h5, h6⟩
theorem along_rch {l : List Sgt} {x y len : Int} (h : agrB l 0 = true) (hl : 0 < len) (hx : -len ≤ x ∧ x ≤ len) (hy : -len ≤ y ∧ y ≤ len) : Rch l x y len (loL x y len 240000 (cs0 l)) (hiL x y len 240000 (cs0 l)) := rch_of (agrB_iff.1 h) hl hx hy
/-- Blame, Strain, Without, Front. -/
def blameE (l : List Sgt) : Int := if listE l ≠ 0 then listE l else if agrB l 0 = true then 4 else 0
def blameA (l : List Sgt) : List Nat := if blameE l = 0 then (blameP l).getD [] else []
theorem blame_none {l : List Sgt} (h : agrB l 0 = false) : ∃ t, blameP l = some t ∧ blameR l = some t ∧ 1 ≤ t.length ∧ t.length ≤ 3 ∧ IsSet l.length 0 t := by
  obtain ⟨t, h1, h2, h3, h4, h5, -⟩ := blame_same (agrB_no.1 h)
  exact ⟨t, h1, h2, h3, h4, h5⟩
def strainA (l : List Sgt) : Int := if listE l ≠ 0 then 0 else strainP l
def withoutE (l : List Sgt) (most : Int) : Int := if listE l ≠ 0 then listE l else if 0 ≤ most ∧ most ≤ 2 then (if (withoutP l most.toNat).isSome = true then 0 else 14) else 3
def withoutA (l : List Sgt) (most : Int) : List Nat := if withoutE l most = 0 then (withoutP l most.toNat).getD [] else []
def frontE (l : List Sgt) : Int := if listE l ≠ 0 then listE l else if 64 < l.length then 9 else if agrB l 0 = true then 4 else if (frontS l).isSome = true then 0 else 14
def frontA (l : List Sgt) : Nat × Nat := if frontE l = 0 then (frontS l).getD (0, 0) else (0, 0)
end Go.Proofs.Ytllpffkifleigaa
end
section
namespace Go.Proofs.Ytllpffkifleigaa

def ex4 : List Sgt := [⟨1, 0, 1, 5000, 6000⟩, ⟨0, 1, 1, -1000, 0⟩, ⟨4, 3, 5, 4000, 4100⟩, ⟨3, 4, 5, 9000, 9000⟩]
def exS : List Sgt := [⟨1, 0, 1, 5000, 6000⟩, ⟨0, 1, 1, -1000, 0⟩, ⟨3, 4, 5, 9000, 9000⟩]
def exF : List Sgt := [⟨1, 0, 1, 5000, 6000⟩, ⟨0, 1, 1, -1000, 0⟩, ⟨1, 0, 1, -6000, -5000⟩, ⟨0, 1, 1, 3000, 4000⟩]
theorem ex_list : listE ex4 = 0 ∧ listE (ex4.take 3) = 0 ∧ listE (ex4.take 2) = 0 ∧ listE exS = 0 ∧ listE exF = 0 := by decide +kernel
theorem ex_emp : empB ex4 0 = true ∧ empB (ex4.take 3) 0 = false ∧ empB (ex4.take 2) 0 = false ∧ empB exF 0 = true := by decide +kernel
theorem ex_bnds : loL 1 0 1 240000 (cs0 (ex4.take 3)) = 5000 ∧ hiL 1 0 1 240000 (cs0 (ex4.take 3)) = 5875 ∧ loL 0 1 1 240000 (cs0 (ex4.take 3)) = -1000 ∧ hiL 0 1 1 240000 (cs0 (ex4.take 3)) = 0 := by decide +kernel
theorem ex_along : loL 3 4 5 240000 (cs0 (ex4.take 2)) = 2200 ∧ hiL 3 4 5 240000 (cs0 (ex4.take 2)) = 3600 := by decide +kernel
theorem ex_blame : blameP ex4 = some [0, 1, 3] := by decide +kernel
theorem ex_without : withoutP ex4 1 = some [3] ∧ withoutP ex4 0 = none := by decide +kernel
theorem ex_front : frontS exF = some (0, 2) := by decide +kernel
theorem ex_str : empB exS 2249 = true ∧ empB exS 2250 = false := by decide +kernel
theorem ex_strain : strainP exS = 2250 := by
  have hok : ∀ s ∈ exS, SgtOk s := (listE_ok.1 ex_list.2.2.2.1).2
  obtain ⟨h1, h2, h3, h4⟩ := strain_is (sgt_nn hok) (sgt_feas hok)
  have a : ¬ Feas exS 2249 := empB_iff.1 ex_str.1
  have b : Feas exS 2250 := by
    apply Classical.byContradiction
    intro hn
    have := ex_str.2
    rw [empB_iff.2 hn] at this
    cases this
  have c := strain_le (sgt_nn hok) (sgt_feas hok) (by decide) b
  apply Classical.byContradiction
  intro hc
  exact a (h3.wide (by omega) (sgt_nn hok))
theorem ex_agr {l : List Sgt} (h : empB l 0 = false) : agrB l 0 = true := by
  rw [empB_eq] at h
  simpa using h
theorem ex_no {l : List Sgt} (h : empB l 0 = true) : agrB l 0 = false := by
  rw [empB_eq] at h
  simpa using h
end Go.Proofs.Ytllpffkifleigaa
end
section
namespace Go.Proofs.Ytllpffkifleigaa

theorem sq_nn (x : Int) : 0 ≤ x * x := by
  rcases Int.le_total 0 x with h | h
  · exact Int.mul_nonneg h h
  · exact Int.mul_nonneg_of_nonpos_of_nonpos h h
structure DirOk (d : Vec) : Prop where
  l1 : 1 ≤ d.l
  l2 : d.l ≤ 64800
  x1 : -d.l ≤ d.x
  x2 : d.x ≤ d.l
  y1 : -d.l ≤ d.y
  y2 : d.y ≤ d.l
  sq : d.x * d.x + d.y * d.y = d.l * d.l
theorem dir_ok {rose a : Int} (h1 : 1 ≤ rose) (h2 : rose ≤ 180) (h3 : 0 ≤ a) (h4 : a ≤ 4 * rose - 1) : DirOk (dirV rose a) := by
  obtain ⟨hq, k1, k2, p1, p2, r1, r2, s1, s2⟩ := dir_bd h1 h2 h3 h4
  have hm : 1 * 1 ≤ rose * rose := Int.mul_le_mul h1 h1 (by omega) (by omega)
  unfold dirV
  generalize a % rose = j at *
  have hjr : j * j ≤ rose * rose := Int.mul_le_mul (by omega) (by omega) k1 (by omega)
  have hd := sq_nn (rose - j)
  have he : (rose - j) * (rose - j) = rose * rose + j * j - 2 * rose * j := by grind
  have e1 : 2 * rose * j * (2 * rose * j) + (rose * rose - j * j) * (rose * rose - j * j) = (rose * rose + j * j) * (rose * rose + j * j) := by grind
  generalize 2 * rose * j = p at *
  generalize hr : rose * rose = rr at *
  generalize hj : j * j = jj at *
  clear hr hj
  unfold quarter
  rcases hq with hq | hq | hq | hq
  · rw [if_pos hq]
    exact ⟨by simp only; omega, by simp only; omega, by simp only; omega, by simp only; omega, by simp only; omega, by simp only; omega, by simp only; grind⟩
  · rw [if_neg (by omega), if_pos hq]
    exact ⟨by simp only; omega, by simp only; omega, by simp only; omega, by simp only; omega, by simp only; omega, by simp only; omega, by simp only; grind⟩
  · rw [if_neg (by omega), if_neg (by omega), if_pos hq]
    exact ⟨by simp only; omega, by simp only; omega, by simp only; omega, by simp only; omega, by simp only; omega, by simp only; omega, by simp only; grind⟩
  · rw [if_neg (by omega), if_neg (by omega), if_neg (by omega)]
    exact ⟨by simp only; omega, by simp only; omega, by simp only; omega, by simp only; omega, by simp only; omega, by simp only; omega, by simp only; grind⟩
/-- An eye. -/
structure EyeN where
  ro : Int
  di : Int
  le : Int
  mo : Int
structure EyeOk (e : EyeN) : Prop where
  r0 : 0 ≤ e.ro
  r1 : e.ro ≤ 255
  d0 : 0 ≤ e.di
  d1 : e.di ≤ 255
  l0 : 0 ≤ e.le
  l1 : e.le ≤ 65535
  m0 : 0 ≤ e.mo
  m1 : e.mo ≤ 65535
def eye0 : EyeN := ⟨0, 0, 0, 0⟩
def roseE (n : Int) : Int := 1 + n % 20
def dirE (ro di : Int) : Vec := dirV (roseE ro) (di % (4 * roseE ro))
def eyeT (u v : Int) (e : EyeN) : Sgt := eyeS (dirE e.ro e.di).x (dirE e.ro e.di).y (dirE e.ro e.di).l u v (e.le % 3000) (e.mo % 3000)
theorem rose_bd {n : Int} (h : 0 ≤ n) : 1 ≤ roseE n ∧ roseE n ≤ 20 := by unfold roseE; omega
theorem rosed_bd {n d : Int} (h : 0 ≤ n) (h2 : 0 ≤ d) : 0 ≤ d % (4 * roseE n) ∧ d % (4 * roseE n) ≤ 4 * roseE n - 1 := by
  have := rose_bd h
  have a := Int.emod_nonneg d (show 4 * roseE n ≠ 0 by omega)
  have b := Int.emod_lt_of_pos d (show 0 < 4 * roseE n by omega)
  omega
theorem dirE_ok {ro di : Int} (h : 0 ≤ ro) (h2 : 0 ≤ di) : DirOk (dirE ro di) := by
  have a := rose_bd h
  have b := rosed_bd h h2
  exact dir_ok a.1 (by omega) b.1 b.2
theorem eye_ok {e : EyeN} {u v : Int} (he : EyeOk e) (hu : -32768 ≤ u ∧ u ≤ 32767) (hv : -32768 ≤ v ∧ v ≤ 32767) : Near (eyeT u v e) := by
  have d := dirE_ok he.r0 he.d0
  have l0 := he.l0
  have m0 := he.m0
  exact eye_near d.l1 d.l2 ⟨d.x1, d.x2⟩ ⟨d.y1, d.y2⟩ d.sq hu hv ⟨by omega, by omega⟩ ⟨by omega, by omega⟩
theorem eye_ag {e : EyeN} {u v : Int} (he : EyeOk e) : Agr1 (eyeT u v e) u v := by
  have d := dirE_ok he.r0 he.d0
  have l0 := he.l0
  have m0 := he.m0
  exact eye_agr d.l1 (by omega) (by omega)
theorem eyes_near {E : List EyeN} {u v : Int} (he : ∀ e ∈ E, EyeOk e) (hu : -32768 ≤ u ∧ u ≤ 32767) (hv : -32768 ≤ v ∧ v ≤ 32767) : ∀ s ∈ E.map (eyeT u v), Near s := fun s hs => by
  obtain ⟨e, h1, rfl⟩ := List.mem_map.1 hs
  exact eye_ok (he e h1) hu hv
theorem eyes_agr {E : List EyeN} {u v : Int} (he : ∀ e ∈ E, EyeOk e) : Agr (E.map (eyeT u v)) u v := fun s hs => by
  obtain ⟨e, h1, rfl⟩ := List.mem_map.1 hs
  exact eye_ag (he e h1)
theorem eyes_feas {E : List EyeN} {u v : Int} (he : ∀ e ∈ E, EyeOk e) (hu : -32768 ≤ u ∧ u ≤ 32767) (hv : -32768 ≤ v ∧ v ≤ 32767) : Feas (E.map (eyeT u v)) 0 := agr_feas (eyes_agr he) (by omega) (by omega)
end Go.Proofs.Ytllpffkifleigaa
end
section
namespace Go.Proofs.Ytllpffkifleigaa

def tightE (less : Int) (e : EyeN) : EyeN := ⟨e.ro, e.di, min (e.le % 3000) (less % 3000), min (e.mo % 3000) (less % 3000)⟩
theorem tight_ok {less : Int} {e : EyeN} (h : EyeOk e) (hl : 0 ≤ less) : EyeOk (tightE less e) := by
  obtain ⟨a, b, c, d, e1, f, g, i⟩ := h
  refine ⟨a, b, c, d, ?_, ?_, ?_, ?_⟩
  all_goals
    unfold tightE
    simp only
    omega
theorem tights_ok {less : Int} {E : List EyeN} (h : ∀ e ∈ E, EyeOk e) (hl : 0 ≤ less) : ∀ e ∈ E.map (tightE less), EyeOk e := fun e he => by
  obtain ⟨x, hx, rfl⟩ := List.mem_map.1 he
  exact tight_ok (h x hx) hl
theorem map_getD {α β : Type} {f : α → β} {l : List α} {i : Nat} {a : α} {b : β} (h : i < l.length) : (l.map f).getD i b = f (l.getD i a) := by
  rw [List.getD_eq_getElem?_getD, List.getElem?_map, List.getElem?_eq_getElem h, List.getD_eq_getElem?_getD, List.getElem?_eq_getElem h]
  rfl
theorem tight_inn {less u v : Int} {E : List EyeN} (h : ∀ e ∈ E, EyeOk e) (hl : 0 ≤ less) {p : Pt} (hp : Inn (hvs ((E.map (tightE less)).map (eyeT u v)) 0) p) : Inn (hvs (E.map (eyeT u v)) 0) p := by
  refine eye_tight (l := E.map (eyeT u v)) (by simp) (fun i hi => ?_) hp
  have hi' : i < E.length := by simpa using hi
  rw [map_getD (a := eye0) (by simpa using hi'), map_getD (a := eye0) hi', map_getD (a := eye0) hi']
  have he := h _ (show E.getD i eye0 ∈ E by rw [List.getD_eq_getElem?_getD, List.getElem?_eq_getElem hi']; exact List.getElem_mem hi')
  generalize E.getD i eye0 = e at he
  have d := dirE_ok he.r0 he.d0
  have l0 := he.l0
  have m0 := he.m0
  refine ⟨rfl, rfl, rfl, ?_, ?_, ?_⟩
  · show 0 ≤ (dirE e.ro e.di).l
    have := d.l1
    omega
  · show _ - e.le % 3000 ≤ _ - (min (e.le % 3000) (less % 3000)) % 3000
    have : (min (e.le % 3000) (less % 3000)) % 3000 ≤ e.le % 3000 := by omega
    unfold tightE
    simp only
    omega
  · show _ + (min (e.mo % 3000) (less % 3000)) % 3000 ≤ _ + e.mo % 3000
    have : (min (e.mo % 3000) (less % 3000)) % 3000 ≤ e.mo % 3000 := by omega
    unfold tightE
    simp only
    omega
def roundN (L : List Sgt) (sh k : Nat) : List Sgt := (List.range k).map fun i => L.getD ((i + sh) % L.length) sg0
theorem roundN_succ (L : List Sgt) (sh k : Nat) : roundN L sh (k + 1) = roundN L sh k ++ [L.getD ((k + sh) % L.length) sg0] := by unfold roundN; rw [List.range_succ, List.map_append]; rfl
theorem round_mem {L : List Sgt} {sh : Nat} {s : Sgt} : s ∈ roundN L sh L.length ↔ s ∈ L := by
  unfold roundN
  rw [List.mem_map]
  constructor
  · rintro ⟨i, hi, rfl⟩
    have := List.mem_range.1 hi
    exact getD_mem (Nat.mod_lt _ (by omega))
  · intro h
    obtain ⟨j, hj, rfl⟩ := idx h
    obtain ⟨n, hn⟩ : ∃ n, L.length = n := ⟨_, rfl⟩
    rw [hn] at hj ⊢
    refine ⟨(j + (n - sh % n)) % n, List.mem_range.2 (Nat.mod_lt _ (by omega)), ?_⟩
    have e : ((j + (n - sh % n)) % n + sh) % n = j := by
      have hs := Nat.mod_lt sh (show 0 < n by omega)
      have h1 := Nat.mod_add_div sh n
      rw [Nat.add_mod, Nat.mod_mod, ← Nat.add_mod, show j + (n - sh % n) + sh = j + n + (sh - sh % n) by omega, show sh - sh % n = n * (sh / n) by omega, Nat.add_mul_mod_self_left, Nat.add_mod_right, Nat.mod_eq_of_lt hj]
    rw [e]
theorem inn_same {l l' : List Sgt} {w : Int} {p : Pt} (h : ∀ s, s ∈ l ↔ s ∈ l') : Inn (hvs l w) p ↔ Inn (hvs l' w) p := ⟨fun hp => inn_sub hp fun s hs => (h s).2 hs, fun hp => inn_sub hp fun s hs => (h s).1 hs⟩
theorem turn_near {s : Sgt} (h : Near s) : Near (turnS s) := by
  refine ⟨h.l1, h.l2, h.y1, h.y2, ?_, ?_, ?_, h.a1, h.a2, h.a3⟩
  · show -s.l ≤ -s.x
    have := h.x2
    omega
  · show -s.x ≤ s.l
    have := h.x1
    omega
  · show s.y * s.y + -s.x * -s.x = s.l * s.l
    have := h.sq
    grind
theorem turns_near {l : List Sgt} (h : ∀ s ∈ l, Near s) : ∀ s ∈ l.map turnS, Near s := fun s hs => by
  obtain ⟨x, hx, rfl⟩ := List.mem_map.1 hs
  exact turn_near (h x hx)
/-- What all of it says of bounds. -/
structure Few (L : List Sgt) (p1 p2 p3 p4 : Int) : Prop where
  u : Rch L 1 0 1 p1 p2
  v : Rch L 0 1 1 p3 p4
theorem few_of {L : List Sgt} (hf : Feas L 0) : Few L (loL 1 0 1 240000 (cs0 L)) (hiL 1 0 1 240000 (cs0 L)) (loL 0 1 1 240000 (cs0 L)) (hiL 0 1 1 240000 (cs0 L)) :=
  ⟨rch_of hf (by omega) (by omega) (by omega), rch_of hf (by omega) (by omega) (by omega)⟩
theorem Few.unique {L : List Sgt} {p1 p2 p3 p4 q1 q2 q3 q4 : Int} (a : Few L p1 p2 p3 p4) (b : Few L q1 q2 q3 q4) : p1 = q1 ∧ p2 = q2 ∧ p3 = q3 ∧ p4 = q4 := by
  obtain ⟨e1, e2⟩ := Rch.unique (by omega) a.u b.u
  obtain ⟨e3, e4⟩ := Rch.unique (by omega) a.v b.v
  exact ⟨e1, e2, e3, e4⟩
/-- Bounds lie within bounds. -/
theorem Few.inside {L L' : List Sgt} {p1 p2 p3 p4 q1 q2 q3 q4 : Int} (a : Few L p1 p2 p3 p4) (b : Few L' q1 q2 q3 q4) (h : ∀ p, Inn (hvs L 0) p → Inn (hvs L' 0) p) : (q1 ≤ p1 ∧ p2 ≤ q2 ∧ p1 ≤ p2) ∧ (q3 ≤ p3 ∧ p4 ≤ q4 ∧ p3 ≤ p4) := by
  have h1 := Rch.mono (by omega) a.u b.u h
  have h2 := Rch.mono (by omega) a.v b.v h
  have h3 := a.u.ge (by omega)
  have h4 := a.v.ge (by omega)
  omega
theorem Few.congr {L L' : List Sgt} {p1 p2 p3 p4 : Int} (a : Few L p1 p2 p3 p4) (h : ∀ p, Inn (hvs L 0) p ↔ Inn (hvs L' 0) p) : Few L' p1 p2 p3 p4 := ⟨a.u.congr h, a.v.congr h⟩
theorem Few.turn {L : List Sgt} {p1 p2 p3 p4 : Int} (a : Few L p1 p2 p3 p4) : Few (L.map turnS) p3 p4 (-p2) (-p1) := ⟨Rch.turn (by simpa using a.v), Rch.turn (by simpa using a.u.neg)⟩
end Go.Proofs.Ytllpffkifleigaa
end
