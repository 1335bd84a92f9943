/-
  The value of a standard at a time.
-/
import Derived.Test.YtiggefmckomilaaTraceState
namespace Go.Proofs.Ytiggefmckomilaa
open Go Go.RowKit

def valueE (l : List Ent) (n : ByteArray) (t : Int) : (Int × Int) × Int := match stdT l n with
  | none => ((0, 0), 4)
  | some s => if (voidT l n || !inR t s.time s.stop) = true then ((0, 0), 22) else (valueT l s t, 0)
def spanE (s : (Int × Int) × Int) : Value := .tuple #[.agg #[.int .i64 s.1.1, .int .i64 s.1.2], .int .i64 s.2]

/-- What the book's maps hold, in every later world. -/
theorem look_std {l : List Ent} {p : Nat} {L : Lay} {w W : World} (hb : BookR l p L w) (hw : Below w.heap.size w W) {n : ByteArray} (hn : n.size ≤ maxLen) :
    (Instr.lookup 92 (.map (some L.bs)) (.string n) false).run Try.prog W = .ok (.pointer (addrO (ptrT (stdsT l) L.kb n))) W := by
  have h := (hb.later hw).stds.look (t := 92) (e := 107) Try.underlying9 Try.underlying92 (z := .pointer none) (by kernel_rfl) hn
  rw [h]
  unfold addrO
  cases ptrT (stdsT l) L.kb n <;> rfl
theorem look_void {l : List Ent} {p : Nat} {L : Lay} {w W : World} (hb : BookR l p L w) (hw : Below w.heap.size w W) {n : ByteArray} (hn : n.size ≤ maxLen) :
    (Instr.lookup 95 (.map (some L.bv)) (.string n) false).run Try.prog W = .ok (.bool (voidT l n)) W := by
  obtain ⟨c, -, hc⟩ := (hb.later hw).void
  have h := hc.look (t := 95) (e := 4) Try.underlying9 Try.underlying95 (z := .bool false) (by kernel_rfl) hn
  rw [h]
  unfold boolF
  cases voidT l n <;> rfl
theorem look_wd {l : List Ent} {p : Nat} {L : Lay} {w W : World} (hb : BookR l p L w) (hw : Below w.heap.size w W) {n : ByteArray} (hn : n.size ≤ maxLen) :
    (Instr.lookup 95 (.map (some L.bw)) (.string n) false).run Try.prog W = .ok (.bool (wdT l n)) W := by
  obtain ⟨c, -, hc⟩ := (hb.later hw).wd
  have h := hc.look (t := 95) (e := 4) Try.underlying9 Try.underlying95 (z := .bool false) (by kernel_rfl) hn
  rw [h]
  unfold boolF
  cases wdT l n <;> rfl
theorem look_radar {l : List Ent} {p : Nat} {L : Lay} {w W : World} (hb : BookR l p L w) (hw : Below w.heap.size w W) {n : ByteArray} (hn : n.size ≤ maxLen) :
    (Instr.lookup 91 (.map (some L.br)) (.string n) true).run Try.prog W = .ok (.tuple #[.int .i64 ((driftT l n).getD 0), .bool (driftT l n).isSome]) W := by
  have h := (hb.later hw).radars.look_ok (t := 91) (e := 3) Try.underlying9 Try.underlying91 (z := .int .i64 0) (by kernel_rfl) hn
  rw [h]
  cases driftT l n <;> rfl
/-- The book's own cells. -/
theorem BookR.cells {l : List Ent} {p : Nat} {L : Lay} {w : World} (h : BookR l p L w) : ∃ Ao co At ct Ae ce, L.vo = .slice Ao (stdsT l).length co ∧ L.vt = .slice At (testsT l).length ct ∧ L.ve = .slice Ae l.length ce ∧
    Blk w p 98 #[.bool true, .map (some L.br), .map (some L.bs), .slice Ao (stdsT l).length co, .slice At (testsT l).length ct, .map (some L.bw), .map (some L.bv), .slice Ae l.length ce] := by
  obtain ⟨Ao, co, h1⟩ := own_shape2 h.order
  obtain ⟨At, ct, h2⟩ := own_shape2 h.tests
  obtain ⟨Ae, ce, h3⟩ := own_shape2 h.entries
  refine ⟨Ao, co, At, ct, Ae, ce, h1, h2, h3, ?_⟩
  have hk := h.book
  unfold bookC at hk
  rwa [h1, h2, h3] at hk

set_option maxHeartbeats 1000000 in
set_option maxRecDepth 100000 in
theorem Value_any (l : List Ent) (p : Nat) (L : Lay) (n : ByteArray) (t : Int) (w : World) (hb : BookR l p L w) (hn : n.size ≤ maxLen) :
    Calls Try.prog 22 #[ptrB p, .string n, .int .i64 t] w fun e w' => e = .returned (spanE (valueE l n t)) ∧ Below w.heap.size w w' := by
  obtain ⟨Ao, co, At, ct, Ae, ce, -, -, -, hk⟩ := hb.cells
  obtain ⟨x0, x1, x2, x3, x4, x5, x6, x7⟩ := hk.c8
  have ltx := hk.lt
  have hl := fun W hw => look_std (W := W) hb hw hn
  have hv := fun W hw => look_void (W := W) hb hw hn
  have hr : valueE l n t = match stdT l n with
    | none => ((0, 0), 4)
    | some s => if (voidT l n || !inR t s.time s.stop) = true then ((0, 0), 22) else (valueT l s t, 0) := rfl
  generalize valueE l n t = r at *
  have hw1 := (Below.refl w.heap.size w).alloc (Nat.le_refl _) (.cells #[.int .i64 0, .int .i64 0] 23)
  have hl1 := hl _ hw1
  have hv1 := hv _ hw1
  clear hl hv
  cases hs : stdT l n with
  | none =>
    rw [hs] at hr
    rw [ptr_none hs] at hl1
    unfold addrO at hl1
    simp only [Option.map_none] at hl1
    subst hr
    clear hb hk hv1
    unfold spanE ptrB
    go_enter Try.func22, Try.ntmps22
    go_wp2
    refine bodyPost_ret (v := .tuple #[.agg #[.int .i64 0, .int .i64 0], .int .i64 4]) (by simp [results, Try.results22, go_sem]) rfl ⟨rfl, ?_⟩
    repeat (first | exact Below.refl _ _ | (refine Below.setCell ?_ (by first | omega | (simp; done) | (simp; omega)) _) | (refine Below.alloc ?_ (by first | omega | (simp; done) | (simp; omega)) _) | (refine below_drewN ?_ _))
  | some s =>
    rw [hs] at hr
    simp only at hr
    obtain ⟨hok, hnm, hmd⟩ := good_std hb.good hs
    obtain ⟨b, hpt, -, hbk⟩ := known_get hb.good hb.knowns hs
    rw [hpt] at hl1
    unfold addrO at hl1
    simp only [Option.map_some] at hl1
    have hbk1 := blk_later hbk hw1
    have hh := fun W hk => holds_any s (parO l L.kb s) (madeT l n) b t W hk
    generalize voidT l n = vd at *
    cases vd with
    | true =>
      rw [if_pos (by simp)] at hr
      subst hr
      have Hh := hide hh
      have Hbk := hide hbk
      clear hh hbk
      clear hbk1 hmd hok hb hk
      unfold spanE ptrB
      go_enter Try.func22, Try.ntmps22
      have HB := hide (Below.refl w.heap.size w)
      go_wp2_with fail
      refine bodyPost_ret (v := .tuple #[.agg #[.int .i64 0, .int .i64 0], .int .i64 22]) (by simp [results, Try.results22, go_sem]) rfl ⟨rfl, ?_⟩
      repeat (first | exact Below.refl _ _ | (refine Below.setCell ?_ (by first | omega | (simp; done) | (simp; omega)) _) | (refine Below.alloc ?_ (by first | omega | (simp; done) | (simp; omega)) _) | (refine below_drewN ?_ _))
    | false =>
      have hat := fun W hk h0 h1 => at_any s (parO l L.kb s) (madeT l n) b t W hk hok hmd h0 h1
      have hvt : valueT l s t = widenS (madeT l n) s.drift s.time t := by unfold valueT; rw [hnm]
      rw [hvt] at hr
      by_cases hin : inR t s.time s.stop = true
      · rw [hin] at hh
        rw [if_neg (by rw [hin]; simp)] at hr
        obtain ⟨i1, i2⟩ := inR_iff.1 hin
        have ha := fun W hk => hat W hk (by have := hok.t0; omega) (by have := hok.t2; omega)
        generalize widenS (madeT l n) s.drift s.time t = v at *
        subst hr
        have Ha := hide ha
        clear ha
        clear hat hvt
        have Hh := hide hh
        have Hbk := hide hbk
        clear hh hbk
        clear hbk1 hmd hok hb hk
        unfold spanE ptrB
        go_enter Try.func22, Try.ntmps22
        have HB := hide (Below.refl w.heap.size w)
        go_wp2_with fail
        refine at_world fun W1 hW => ?_
        have bq0 : Blk W1 w.heap.size 23 #[.int .i64 0, .int .i64 0] := by rw [hW]; exact Blk.new _ _ _
        have LW : Later w W1 := by rw [hW]; exact ((Below.refl _ _).alloc (Nat.le_refl _) _)
        have szW : W1.heap.size = w.heap.size + 1 := by rw [hW]; simp
        clear hW
        replace HB := hide (onward HB.out LW)
        replace Hbk := hide (blk_later Hbk.out LW)
        have Ho := hide bq0
        clear bq0 LW szW
        refine (Hh.out _ Hbk.out).mono ?_
        rintro e w2 ⟨rfl, hb⟩
        replace HB := hide (onward HB.out hb)
        replace Hbk := hide (blk_later Hbk.out hb)
        replace Ho := hide (blk_later Ho.out hb)
        clear hb
        go_wp2_with fail
        refine (Ha.out _ Hbk.out).mono ?_
        rintro e w3 ⟨rfl, hb⟩
        replace HB := hide (onward HB.out hb)
        replace Hbk := hide (blk_later Hbk.out hb)
        replace Ho := hide (blk_later Ho.out hb)
        clear hb
        obtain ⟨o0, o1⟩ := Ho.out.c2
        have lto := Ho.out.lt
        have fo0 := Ho.out.frozen 0
        have fo1 := Ho.out.frozen 1
        go_wp2
        refine bodyPost_ret (v := .tuple #[.agg #[.int .i64 v.1, .int .i64 v.2], .int .i64 0]) (by simp [results, Try.results22, go_sem, o0, o1, fo0, fo1, lto]) rfl ⟨rfl, ?_⟩
        have hsz := HB.out.size
        repeat (first | exact HB.out | (refine Below.setCell ?_ (by first | omega | (simp; done) | (simp; omega)) _) | (refine Below.alloc ?_ (by first | omega | (simp; done) | (simp; omega)) _) | (refine below_drewN ?_ _))
      · have hin' : inR t s.time s.stop = false := by simpa using hin
        rw [hin'] at hh
        rw [if_pos (by rw [hin']; rfl)] at hr
        subst hr
        clear hat hvt
        have Hh := hide hh
        have Hbk := hide hbk
        clear hh hbk
        clear hbk1 hmd hok hb hk
        unfold spanE ptrB
        go_enter Try.func22, Try.ntmps22
        have HB := hide (Below.refl w.heap.size w)
        go_wp2_with fail
        refine at_world fun W1 hW => ?_
        have bq0 : Blk W1 w.heap.size 23 #[.int .i64 0, .int .i64 0] := by rw [hW]; exact Blk.new _ _ _
        have LW : Later w W1 := by rw [hW]; exact ((Below.refl _ _).alloc (Nat.le_refl _) _)
        have szW : W1.heap.size = w.heap.size + 1 := by rw [hW]; simp
        clear hW
        replace HB := hide (onward HB.out LW)
        replace Hbk := hide (blk_later Hbk.out LW)
        have Ho := hide bq0
        clear bq0 LW szW
        refine (Hh.out _ Hbk.out).mono ?_
        rintro e w2 ⟨rfl, hb⟩
        replace HB := hide (onward HB.out hb)
        replace Hbk := hide (blk_later Hbk.out hb)
        replace Ho := hide (blk_later Ho.out hb)
        clear hb
        obtain ⟨o0, o1⟩ := Ho.out.c2
        have lto := Ho.out.lt
        have fo0 := Ho.out.frozen 0
        have fo1 := Ho.out.frozen 1
        go_wp2
        refine bodyPost_ret (v := .tuple #[.agg #[.int .i64 0, .int .i64 0], .int .i64 22]) (by simp [results, Try.results22, go_sem, o0, o1, fo0, fo1, lto]) rfl ⟨rfl, ?_⟩
        have hsz := HB.out.size
        repeat (first | exact HB.out | (refine Below.setCell ?_ (by first | omega | (simp; done) | (simp; omega)) _) | (refine Below.alloc ?_ (by first | omega | (simp; done) | (simp; omega)) _) | (refine below_drewN ?_ _))
end Go.Proofs.Ytiggefmckomilaa
