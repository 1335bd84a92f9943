/-
  More of the record of things: a cell of a row that grows, families of things, maps.
  Groups of areas: their leads.
-/
import Derived.Test.YtidbjidcjmbnlaaMemX
import Derived.Test.YtidbjidcjmbnlaaMapK
import Derived.Test.YtidbjidcjmbnlaaTmKey
import Derived.Deep.Cut
set_option linter.unusedSimpArgs false
set_option linter.unusedVariables false
section
namespace Go.Proofs.Ytidbjidcjmbnlaa
open Go Go.RowKit

theorem own_setRow {w : World} {base n c g size o : Nat} {e : TypeId} {xs : List Value} (h : w.ownsRow base e size (.slice (some ⟨g, 0, none⟩) n c) n xs) (v : Value) : (w.setCell ⟨g, o, none⟩ v).ownsRow base e size (.slice (some ⟨g, 0, none⟩) n c) n (xs.set o v) := by
  obtain ⟨hl, hr | ⟨g', cap, cur, hv, hb, hh, h1, h2, h3, h4⟩⟩ := h
  · cases hr.1
  · injection hv with e1 e2 e3
    injection e1 with e1
    injection e1 with e1 _ _
    subst e1 e3
    have hk : Blk w g e cur := hh
    refine ⟨by rw [List.length_set]; exact hl, .inr ⟨g, c, _, rfl, hb, hk.set_ o v, h1, h2, by simpa using h3, ?_⟩⟩
    rw [Array.toList_setIfInBounds, ← h4, List.take_set]
/-- A cell of a row is stored. -/
theorem Mem.setRow {w0 W : World} {ts : List Th} {base n c g size : Nat} {e : TypeId} {xs : List Value} (h : Mem w0 ts W) (i : Nat) (hi : ts[i]? = some (.row base e size (.slice (some ⟨g, 0, none⟩) n c) n xs)) (o : Nat) (v : Value) :
    Mem w0 (ts.set i (.row base e size (.slice (some ⟨g, 0, none⟩) n c) n (xs.set o v))) (W.setCell ⟨g, o, none⟩ v) :=
  h.step i hi (show World.ownsRow _ _ _ _ _ _ _ from own_setRow (h.row_ i hi) v) ⟨rfl, rfl, rfl, by simp, fun k hk => Below.heap_setCell W ⟨g, o, none⟩ v k (fun e => hk.2 (by have e' : k = g := e; rw [e']; simp [Th.fp, optL, Value.ownBlock]))⟩ (fun k hk => .inl hk)
theorem Mem.recast {w0 W : World} {ts ts' : List Th} (h : Mem w0 ts W) (hf : fps ts' = fps ts) (hok : ∀ t ∈ ts', t.ok W) : Mem w0 ts' W := ⟨hok, by rw [hf]; exact h.nodup, by rw [hf]; exact h.low, h.below⟩
theorem fps_append (a b : List Th) : fps (a ++ b) = fps a ++ fps b := by unfold fps; rw [List.flatMap_append]
def Th.loB (b : Nat) : Th → Th
  | .row _ e s v n xs => .row b e s v n xs
  | t => t
theorem fps_loB (b : Nat) (ts : List Th) : fps (ts.map (Th.loB b)) = fps ts := by
  induction ts with
  | nil => rfl
  | cons x l ih => rw [List.map_cons, fps_cons, fps_cons, ih]; cases x <;> rfl
/-- All rows are told from the record's own beginning on. -/
theorem Mem.lowAll {w0 W : World} {ts : List Th} (h : Mem w0 ts W) {b : Nat} (hb : b ≤ w0.heap.size) : Mem w0 (ts.map (Th.loB b)) W := h.recast (fps_loB b ts) fun t ht => by
  obtain ⟨x, hx, rfl⟩ := List.mem_map.1 ht
  have hk := h.all x hx
  cases x with
  | row base e s v n xs =>
    obtain ⟨hl, hr⟩ := (hk : W.ownsRow base e s v n xs)
    refine (show W.ownsRow b e s v n xs from ⟨hl, ?_⟩)
    rcases hr with h0 | ⟨g, cap, cur, hv, hbb, r⟩
    · exact .inl h0
    · refine .inr ⟨g, cap, cur, hv, ?_, r⟩
      have := h.low g (List.mem_flatMap.2 ⟨_, hx, by show g ∈ optL v; rw [hv]; simp [optL, Value.ownBlock]⟩)
      omega
  | blk g t cs => exact hk
  | raw k o => exact hk
  | one g R a b => exact hk
section
variable {α : Type} {F G : Nat → α} {K i : Nat} {a b x : List α} {t : α}
end
/-- A map among the things. -/
def thK {κ : Type} [DecidableEq κ] (P : Program) (k : TypeId) (lit : κ → Lit) (ok : κ → Prop) (g : Nat) (f : κ → Option Value) (c : Nat) : Th := .one g (fun W => MapK W P k lit ok g f c) (fun _ h => h.lt) (fun _ _ h e => h.stab e)
theorem Mem.mapK {κ : Type} [DecidableEq κ] {w0 W W' : World} {ts : List Th} {P : Program} {k : TypeId} {lit : κ → Lit} {ok : κ → Prop} {g c c' : Nat} {f f' : κ → Option Value} (h : Mem w0 ts W) (i : Nat) (hi : ts[i]? = some (thK P k lit ok g f c)) (hm : MapK W' P k lit ok g f' c') (hg : W.grownBy W' (some g)) : Mem w0 (ts.set i (thK P k lit ok g f' c')) W' :=
  h.step i hi (show MapK _ _ _ _ _ _ _ _ from hm) ⟨hg.os, hg.tape, hg.output, hg.size, fun q hq => hg.block q hq.1 (fun e => hq.2 (List.mem_singleton.2 (by first | exact (Option.some.inj e).symm | exact Option.some.inj e)))⟩ (fun q hq => .inl hq)
theorem Mem.map_ {κ : Type} [DecidableEq κ] {w0 W : World} {ts : List Th} {P : Program} {k : TypeId} {lit : κ → Lit} {ok : κ → Prop} {g c : Nat} {f : κ → Option Value} (h : Mem w0 ts W) (i : Nat) (hi : ts[i]? = some (thK P k lit ok g f c)) : MapK W P k lit ok g f c := h.get i hi
theorem Mem.newMap {κ : Type} [DecidableEq κ] {w0 W : World} {ts : List Th} (h : Mem w0 ts W) (P : Program) (k : TypeId) (lit : κ → Lit) (ok : κ → Prop) : Mem w0 (thK P k lit ok W.heap.size (fun _ => none) 0 :: ts) (W.alloc (.map #[] 0)) :=
  h.add ((Below.refl _ _).alloc (Nat.le_refl _) _) (show MapK _ _ _ _ _ _ _ _ from MapK_made _ _ _) (fun k hk => by rw [List.mem_singleton.1 hk]; exact Nat.le_refl _)
end Go.Proofs.Ytidbjidcjmbnlaa
end
section
namespace Go.Proofs.Ytidbjidcjmbnlaa
open Go Go.RowKit
attribute [local go_sem] Oper.semAt_some

/-- What each area follows, as values. -/
def fV (m : Nd → Option Nd) (x : Nd) : Option Value := (m x).map ndV
/-- All that are followed are meant. -/
def OkM (m : Nd → Option Nd) : Prop := ∀ x y, m x = some y → okNd y
/-- How far the area of a variable is from its lead. -/
def mW (d : Nd → Nat) (g : Nat) (W : World) : Nat := match W.cell? ⟨g, 0, none⟩, W.cell? ⟨g, 1, none⟩ with
  | some (.bool p), some (.int .i64 q) => d (p, q.toNat)
  | _, _ => 0
theorem mW_at {d : Nd → Nat} {g : Nat} {t : TypeId} {W : World} {x : Nd} (h : Blk W g t #[.bool x.1, .int .i64 (x.2 : Nat)]) : mW d g W = d x := by
  unfold mW
  rw [h.c 0 rfl, h.c 1 rfl]
  rfl
set_option maxHeartbeats 1000000 in
set_option maxRecDepth 100000 in
theorem lead_any (m : Nd → Option Nd) (L : Nd → Nd) (d : Nd → Nat) (b c : Nat) (x : Nd) (w : World) (hF : Forest m L d) (hx : okNd x) (hm : OkM m) (hk : MapK w Try.prog 142 ndL okNd b (fV m) c) :
    Calls Try.prog 59 #[.agg #[.map (some b)], ndV x] w fun e w' => e = .returned (ndV (L x)) ∧ Below w.heap.size w w' := by
  have hkk := fun W (hB : Below w.heap.size w W) => hk.stab (hB.block b hk.lt)
  have hlt := hk.lt
  obtain ⟨r, hr⟩ : ∃ r, L x = r := ⟨_, rfl⟩
  rw [hr]
  obtain ⟨b1, n1⟩ := x
  obtain ⟨b2, n2⟩ := r
  have HF := hide hF
  have HMm := hide hm
  have HK := hide hkk
  have HX := hide hx
  have HR := hide hr
  clear hF hm hkk hx hr
  unfold ndV
  clear hk
  go_enter Try.func59, Try.ntmps59
  have HM := hide (Mem.start w)
  go_wp2_with fail
  refine code_world fun W1 hW => ?_
  have HMn := Mem.to (Mem.allocAt (Mem.allocAt (Mem.allocAt HM.out w.heap.size rfl #[.map (some b)] 139) (w.heap.size + 1) (by simp) #[.bool b1, .int .i64 (n1 : Nat)] 142) (w.heap.size + 2) (by simp) #[.bool false, .int .i64 0] 142) hW
  have LW : Later w W1 := by rw [hW]; exact ((((Below.refl _ _).alloc (Nat.le_refl _) _).alloc (by simp; try omega) _).alloc (by simp; try omega) _)
  have szW : W1.heap.size = w.heap.size + 3 := by rw [hW]; simp
  clear hW
  replace HM := hide HMn
  clear HMn LW
  clear szW
  obtain ⟨hs, hhs⟩ : ∃ hs, w.heap.size = hs := ⟨_, rfl⟩
  have hmw := fun (W : World) (x : Nd) (h : Blk W (hs + 1) 142 #[.bool x.1, .int .i64 (x.2 : Nat)]) => mW_at (d := d) h
  rw [hhs] at HM
  simp only [hhs]
  have HHS := hide hhs
  have HMW := hide hmw
  clear hhs hmw
  have HL0 := hide (show ∃ x : Nd, L x = (b2, n2) ∧ okNd x ∧ Mem w (.blk (hs + 2) 142 #[.bool false, .int .i64 0] :: .blk (hs + 1) 142 #[.bool x.1, .int .i64 (x.2 : Nat)] :: .blk hs 139 #[.map (some b)] :: []) W1 from ⟨(b1, n1), HR.out, HX.out, HM.out⟩)
  clear HM
  go_loopw [5] (fun _ wr => Hid (∃ x : Nd, L x = (b2, n2) ∧ okNd x ∧ Mem w (.blk (hs + 2) 142 #[.bool false, .int .i64 0] :: .blk (hs + 1) 142 #[.bool x.1, .int .i64 (x.2 : Nat)] :: .blk hs 139 #[.map (some b)] :: []) wr)) (fun _ wr => mW d (hs + 1) wr)
  case atStart => exact HL0
  case round =>
    obtain ⟨x, hL, hox, hM⟩ := hrel.out
    clear HL0 hrel
    have hmw0 := HMW.out wr x (hM.blk_ 1 rfl)
    have hk0 := HK.out wr hM.below
    obtain ⟨y, hy⟩ : ∃ y, m x = y := ⟨_, rfl⟩
    have hfy : fV m x = y.map ndV := by unfold fV; rw [hy]
    have hkey : (Value.agg #[.bool x.1, .int .i64 (x.2 : Nat)]) = ndV x := rfl
    have HM := hide hM
    have HLx := hide hL
    have HOx := hide hox
    have HK0 := hide hk0
    have HM0 := hide hmw0
    have HY := hide hy
    have HFY := hide hfy
    have HKEY := hide hkey
    clear hM hL hox hk0 hmw0 hy hfy hkey
    have bp : Blk wr (hs + 1) 142 #[.bool x.1, .int .i64 (x.2 : Nat)] := HM.out.get 1 rfl
    have ltp := bp.lt
    have p0 := bp.c 0 rfl
    have p1 := bp.c 1 rfl
    have bg : Blk wr hs 139 #[.map (some b)] := HM.out.get 2 rfl
    have ltg := bg.lt
    have g0 := bg.c 0 rfl
    cases y with
    | none =>
      have hroot := ((HF.out.root x HY.out).1).symm.trans HLx.out
      subst hroot
      dsimp only at p0 p1
      go_upto_region 2 with (at_lookup; refine wpList_lookK2 _ rfl _ _ _ rfl 142 142 ndKey Try.underlying137 (ndV (false, 0)) (by kernel_rfl) b c (fV m) rfl HK0.out (b2, n2) rfl HOx.out (.agg #[.bool false, .int .i64 0]) (by rw [HFY.out]; rfl) false (by rw [HFY.out]; rfl) ?_)
      refine code_world fun W5 hW => ?_
      have HMn := Mem.to (Mem.allocAt HM.out wr.heap.size rfl #[.bool false, .int .i64 0] 142) hW
      have LW : Later wr W5 := by rw [hW]; exact ((Below.refl _ _).alloc (Nat.le_refl _) _)
      have szW : W5.heap.size = wr.heap.size + 1 := by rw [hW]; simp
      clear hW bp ltp p0 p1 bg ltg g0
      replace HM := hide HMn
      clear HMn LW
      clear szW
      have bq : Blk W5 (hs + 1 + 1) 142 #[.bool false, .int .i64 0] := HM.out.get 1 rfl
      have ltq := bq.lt
      have q0 := bq.c 0 rfl
      have fq0 := bq.frozen 0
      have q1 := bq.c 1 rfl
      have fq1 := bq.frozen 1
      have bp : Blk W5 (hs + 1) 142 #[.bool b2, .int .i64 (n2 : Nat)] := HM.out.get 2 rfl
      have ltp := bp.lt
      have p0 := bp.c 0 rfl
      have p1 := bp.c 1 rfl
      go_wp2
      refine ret_world fun W hW => ?_
      have hM9 := Mem.to ((HM.out.set_ 1 rfl 0 (.bool b2) (cs' := #[.bool b2, .int .i64 0]) rfl).set_ 1 rfl 1 (.int .i64 (n2 : Nat)) (cs' := #[.bool b2, .int .i64 (n2 : Nat)]) rfl) hW
      clear hW q0 q1 fq0 fq1 ltq bq p0 p1 ltp bp
      have hb9 := hM9.blk_ 1 rfl
      have r0 := hb9.c 0 rfl
      have r1 := hb9.c 1 rfl
      have hB9 := hM9.below
      refine bodyPost_ret (v := .agg #[.bool b2, .int .i64 (n2 : Nat)]) (by simp [results, Try.results59, go_sem, r0, r1]) rfl ⟨rfl, hB9⟩
    | some y =>
      obtain ⟨y1, y2⟩ := y
      go_upto_region 2 with (at_lookup; refine wpList_lookK2 _ rfl _ _ _ rfl 142 142 ndKey Try.underlying137 (ndV (false, 0)) (by kernel_rfl) b c (fV m) rfl HK0.out x rfl HOx.out (.agg #[.bool y1, .int .i64 (y2 : Nat)]) (by rw [HFY.out]; rfl) true (by rw [HFY.out]; rfl) ?_)
      refine code_world fun W5 hW => ?_
      have HMn := Mem.to (Mem.allocAt HM.out wr.heap.size rfl #[.bool y1, .int .i64 (y2 : Nat)] 142) hW
      have LW : Later wr W5 := by rw [hW]; exact ((Below.refl _ _).alloc (Nat.le_refl _) _)
      have szW : W5.heap.size = wr.heap.size + 1 := by rw [hW]; simp
      clear hW bp ltp p0 p1 bg ltg g0
      replace HM := hide HMn
      clear HMn LW
      clear szW
      have bq : Blk W5 wr.heap.size 142 #[.bool y1, .int .i64 (y2 : Nat)] := HM.out.get 0 rfl
      have ltq := bq.lt
      have q0 := bq.c 0 rfl
      have q1 := bq.c 1 rfl
      have bp : Blk W5 (hs + 1) 142 #[.bool x.1, .int .i64 (x.2 : Nat)] := HM.out.get 2 rfl
      have ltp := bp.lt
      have p0 := bp.c 0 rfl
      have fp0 := bp.frozen 0
      have p1 := bp.c 1 rfl
      have fp1 := bp.frozen 1
      have hM9 := ((HM.out.set_ 2 rfl 0 (.bool y1) (cs' := #[.bool y1, .int .i64 (x.2 : Nat)]) rfl).set_ 2 rfl 1 (.int .i64 (y2 : Nat)) (cs' := #[.bool y1, .int .i64 (y2 : Nat)]) rfl).tail
      have hst := HF.out.step x (y1, y2) HY.out
      have HI9 := hide (show ∃ x : Nd, L x = (b2, n2) ∧ okNd x ∧ Mem w (.blk (hs + 2) 142 #[.bool false, .int .i64 0] :: .blk (hs + 1) 142 #[.bool x.1, .int .i64 (x.2 : Nat)] :: .blk hs 139 #[.map (some b)] :: []) _ from ⟨(y1, y2), hst.1.symm.trans HLx.out, HMm.out _ _ HY.out, hM9⟩)
      have HW9 := hide (HMW.out _ (y1, y2) (hM9.blk_ 1 rfl))
      clear hM9
      go_wp2
      go_roundw
      case rel => exact HI9
      case measure =>
        rw [HW9.out, HM0.out]
        have := hst.2
        omega
end Go.Proofs.Ytidbjidcjmbnlaa
end
