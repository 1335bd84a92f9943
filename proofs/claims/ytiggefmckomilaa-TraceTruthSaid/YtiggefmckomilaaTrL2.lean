/-
  Each test is entered; the gain behind it holds the truth.
  The law TraceTruth: the small functions of a level.
  The law TraceTruth: words and bounds.
  A loop's code, taken out of a function.
  The law TraceTruth: its second loop.
-/
import Derived.Test.YtiggefmckomilaaTruthTests
import Derived.Test.YtiggefmckomilaaTraceWorks
import Derived.Test.YtiggefmckomilaaActF
import Derived.Test.YtiggefmckomilaaWords
import Derived.Test.YtiggefmckomilaaTraceDep
import Derived.Test.YtiggefmckomilaaRegC
set_option linter.unusedSimpArgs false
set_option linter.unusedVariables false
namespace Go.Proofs.Ytiggefmckomilaa

section
variable (lv : Nat → Lv) {g by_ dr : Int} (pb : Nat → Pb)
theorem time_ok (x : Pb) : inR (tstN lv g by_ x).time 0 4294967296 = true ∧ inR (tstN lv g by_ x).time (stdN lv (lvl x)).time (stdN lv (lvl x)).stop = true := by
  obtain ⟨d0, d1⟩ := dayP_bd x
  have hd := day_bd lv (lvl x)
  have hk := lvl_lt x
  exact ⟨inR_iff.2 ⟨by show 0 ≤ (dayN lv (lvl x) + dayP x) * 86400; omega, by show (dayN lv (lvl x) + dayP x) * 86400 ≤ 4294967296; omega⟩, in_time lv hk d0 d1⟩
theorem bookP_test (hlv : ∀ k, LvOk (lv k)) (hg : GainOk g by_ dr) {i : Nat} (hi : i < 30) (x : Pb) (hs : 0 ≤ x.s) (hs2 : x.s ≤ 65535) : testE (bookP lv g by_ dr pb i) (tstN lv g by_ x) = 0 := by
  have hk := lvl_lt x
  obtain ⟨a, b⟩ := time_ok lv (g := g) (by_ := by_) x
  have c := (test_ok lv hlv hg x hs hs2).1
  unfold testE
  rw [if_neg (by rw [bookP_len]; omega), show (tstN lv g by_ x).radar = ⟨#[114]⟩ from rfl, show (tstN lv g by_ x).std = nmN (lvl x) from rfl, bookP_drift, bookP_std, bookL_std lv dr 3 (Nat.le_refl _) _ hk]
  simp only
  rw [if_neg (by rw [bookP_tests]; omega), a, c, if_neg (by simp), bookP_void, b, if_neg (by simp)]
theorem gainT_truth (hlv : ∀ k, LvOk (lv k)) (hg : GainOk g by_ dr) (i : Nat) (x : Pb) (hs : 0 ≤ x.s) (hs2 : x.s ≤ 65535) :
    1 ≤ (gainT (bookP lv g by_ dr pb i) (tstN lv g by_ x)).1 ∧ (gainT (bookP lv g by_ dr pb i) (tstN lv g by_ x)).1 ≤ gainP lv g by_ x ∧ gainP lv g by_ x ≤ (gainT (bookP lv g by_ dr pb i) (tstN lv g by_ x)).2 := by
  have hk := lvl_lt x
  obtain ⟨d0, d1⟩ := dayP_bd x
  have hd := day_bd lv (lvl x)
  obtain ⟨-, l, h, h0⟩ := test_ok lv hlv hg x hs hs2
  obtain ⟨v1, v2, -, v3, v4, -, -⟩ := span_truth lv hlv hk d0 d1
  obtain ⟨c, -⟩ := gain_bd hg (t := dayN lv (lvl x) + dayP x) (by omega) (by omega)
  have hG : 1200 ≤ gainP lv g by_ x := c
  have hv : valueT (bookP lv g by_ dr pb i) (stdN lv (lvl x)) (tstN lv g by_ x).time = spanN lv (lvl x) (dayP x) := valueT_k lv (by rw [bookP_made]; exact bookL_made lv dr 3 (Nat.le_refl _) _ hk) d0
  have e : gainT (bookP lv g by_ dr pb i) (tstN lv g by_ x) = (max 1 (1000 * (tstN lv g by_ x).lo / (spanN lv (lvl x) (dayP x)).2), upD (1000 * (tstN lv g by_ x).hi) (spanN lv (lvl x) (dayP x)).1) := by
    unfold gainT
    rw [show (tstN lv g by_ x).std = nmN (lvl x) from rfl, bookP_std, bookL_std lv dr 3 (Nat.le_refl _) _ hk]
    simp only
    rw [hv]
  obtain ⟨a, b⟩ := gain_truth (den_pos (lvl x)) (show 0 ≤ gainP lv g by_ x by omega) v3 v4 v1 (by omega) h0 l h
  rw [e]
  simp only
  omega
theorem info_mem (i : Nat) : ∀ y ∈ testInfo (bookP lv g by_ dr pb i), ∃ j, j < i ∧ y = (tstN lv g by_ (pb j), gainT (bookP lv g by_ dr pb j) (tstN lv g by_ (pb j))) := by
  induction i with
  | zero => intro y hy; cases hy
  | succ i ih =>
    intro y hy
    rw [bookP, testInfo] at hy
    rcases List.mem_append.1 hy with hy | hy
    · obtain ⟨j, h1, h2⟩ := ih y hy
      exact ⟨j, by omega, h2⟩
    · exact ⟨i, by omega, by simpa using hy⟩
theorem gainE_truth (hlv : ∀ k, LvOk (lv k)) (hg : GainOk g by_ dr) (hpb : ∀ i, 0 ≤ (pb i).s ∧ (pb i).s ≤ 65535) (i : Nat) {now : Int} (h0 : 0 ≤ now) (h1 : now ≤ 149) :
    ∃ s : Int × Int, gainE (bookP lv g by_ dr pb (i + 1)) ⟨#[114]⟩ (now * 86400) = (s, (0, 0), 0) ∧ 1 ≤ s.1 ∧ s.1 ≤ g + by_ * now ∧ g + by_ * now ≤ s.2 := by
  obtain ⟨c, -⟩ := gain_bd hg (t := now) h0 (by omega)
  unfold gainE
  rw [bookP_drift]
  simp only
  rw [if_neg (by rw [inR_iff.2 ⟨by omega, by omega⟩]; simp), bookP_tests]
  refine gainQ_holds ?_ ?_
  · have hx : (testInfo (bookP lv g by_ dr pb (i + 1)))[i]? = some (tstN lv g by_ (pb i), gainT (bookP lv g by_ dr pb i) (tstN lv g by_ (pb i))) := by
      rw [bookP, testInfo, List.getElem?_append_right (by rw [testInfo_length, bookP_tests]; exact Nat.le_refl _), testInfo_length, bookP_tests, Nat.sub_self]
      rfl
    exact selN_some _ _ _ _ _ hx rfl (bookP_void lv g by_ dr pb (i + 1) _)
  · intro y hy
    obtain ⟨x, hx, e⟩ := selN_mem _ _ _ _ _ _ y hy
    obtain ⟨j, -, rfl⟩ := info_mem lv pb (i + 1) x hx
    obtain ⟨a1, a2, a3⟩ := gainT_truth lv pb hlv hg j (pb j) (hpb j).1 (hpb j).2
    have ht : (tstN lv g by_ (pb j)).time = (dayN lv (lvl (pb j)) + dayP (pb j)) * 86400 := rfl
    obtain ⟨b1, b2⟩ := wid_gain (m := gainT (bookP lv g by_ dr pb j) (tstN lv g by_ (pb j))) (g := g) (by_ := by_) (dr := dr) (a := dayN lv (lvl (pb j)) + dayP (pb j)) (b := now) hg.d0 hg.d1 a2 a3 (by omega)
    rw [e]
    simp only
    rw [ht]
    refine ⟨?_, b1, b2⟩
    rw [widen_any_days]
    simp only
    omega
end
end Go.Proofs.Ytiggefmckomilaa
namespace Go.Proofs.Ytiggefmckomilaa
open Go Go.RowKit

theorem Blk.c6 {w : World} {g : Nat} {t : TypeId} {a b c d e f : Value} (h : Blk w g t #[a, b, c, d, e, f]) :
    w.cell? ⟨g, 0, none⟩ = some a ∧ w.cell? ⟨g, 1, none⟩ = some b ∧ w.cell? ⟨g, 2, none⟩ = some c ∧ w.cell? ⟨g, 3, none⟩ = some d ∧ w.cell? ⟨g, 4, none⟩ = some e ∧ w.cell? ⟨g, 5, none⟩ = some f :=
  ⟨h.c 0 rfl, h.c 1 rfl, h.c 2 rfl, h.c 3 rfl, h.c 4 rfl, h.c 5 rfl⟩
def lvC (x : Lv) : Array Value := #[.int .u32 x.v, .int .u16 x.l, .int .u16 x.m, .int .u8 x.t, .int .u8 x.s, .int .u8 x.d]
theorem tmod_pos {a b : Int} (ha : 0 ≤ a) : a.tmod b = a % b := Int.tmod_eq_emod_of_nonneg ha
set_option maxHeartbeats 1000000 in
set_option maxRecDepth 100000 in
theorem lvTurn_any (x : Lv) (hx : LvOk x) (w : World) :
    Calls Try.prog 20 #[.agg (lvC x)] w fun e w' => e = .returned (.int .i64 (trn x)) ∧ Below w.heap.size w w' := by
  obtain ⟨h1, h2, h3, h4, h5, h6, t0, t1, s0, s1, d0, d1⟩ := hx
  have e1 := tmod_pos (b := 11) t0
  have e2 : trn x = x.t % 11 - 5 := rfl
  unfold lvC
  rw [e2]
  go_enter Try.func20, Try.ntmps20
  go_wp2
  go_ret
  refine ⟨rfl, ?_⟩
  repeat (first | exact Below.refl _ _ | (refine Below.setCell ?_ (by first | omega | (simp; done) | (simp; omega)) _) | (refine Below.alloc ?_ (by first | omega | (simp; done) | (simp; omega)) _) | (refine below_drewN ?_ _))
set_option maxHeartbeats 1000000 in
set_option maxRecDepth 100000 in
theorem lvDays_any (x : Lv) (hx : LvOk x) (w : World) :
    Calls Try.prog 19 #[.agg (lvC x)] w fun e w' => e = .returned (.int .i64 (dys x)) ∧ Below w.heap.size w w' := by
  obtain ⟨h1, h2, h3, h4, h5, h6, t0, t1, s0, s1, d0, d1⟩ := hx
  have e1 := tmod_pos (b := 50) d0
  have e2 : dys x = x.d % 50 := rfl
  unfold lvC
  rw [e2]
  go_enter Try.func19, Try.ntmps19
  go_wp2
  go_ret
  refine ⟨rfl, ?_⟩
  repeat (first | exact Below.refl _ _ | (refine Below.setCell ?_ (by first | omega | (simp; done) | (simp; omega)) _) | (refine Below.alloc ?_ (by first | omega | (simp; done) | (simp; omega)) _) | (refine below_drewN ?_ _))
set_option maxHeartbeats 1000000 in
set_option maxRecDepth 100000 in
theorem lvDrift_any (x : Lv) (hx : LvOk x) (w : World) :
    Calls Try.prog 18 #[.agg (lvC x)] w fun e w' => e = .returned (.int .i64 (drf x)) ∧ Below w.heap.size w w' := by
  have ht := fun W => lvTurn_any x hx W
  obtain ⟨h1, h2, h3, h4, h5, h6, t0, t1, s0, s1, d0, d1⟩ := hx
  have hb := trn_bd x
  have e2 : drf x = max (trn x) (-(trn x)) + x.s := rfl
  rw [e2]
  generalize trn x = tn at *
  obtain ⟨m, hm⟩ : ∃ m : Int, max tn (-tn) = m := ⟨_, rfl⟩
  have hmb : m ≤ 5 ∧ 0 ≤ m := by omega
  rw [hm]
  unfold lvC at *
  have Ht := hide ht
  clear ht
  go_enter Try.func18, Try.ntmps18
  have HB := hide (Below.refl w.heap.size w)
  go_wp2_with fail
  refine code_world fun W hW => ?_
  have bq0 : Blk W w.heap.size 32 #[.int .u32 x.v, .int .u16 x.l, .int .u16 x.m, .int .u8 x.t, .int .u8 x.s, .int .u8 x.d] := by rw [hW]; exact Blk.new _ _ _
  have LW : Later w W := by rw [hW]; exact ((Below.refl _ _).alloc (Nat.le_refl _) _)
  have szW : W.heap.size = w.heap.size + 1 := by rw [hW]; simp
  clear hW
  replace HB := hide (onward HB.out LW)
  have Hx := hide bq0
  clear bq0 LW szW
  obtain ⟨x0, x1, x2, x3, x4, x5⟩ := Hx.out.c6
  have ltx := Hx.out.lt
  apply wp_region_L (w0 := W) [[], [], [], [], [], [], [], [], [], [], []] [true, true, true, true, true, true, true, true, true, true, true] [] (fun ixq y => match ixq with  | _ => undef) (fun ixq x F wq => match ixq with  | _ => True) (fun a x => a) (by kernel_rfl) (by kernel_rfl) (fun _ => rfl) [4, 6] (by kernel_rfl)
  · intro x D hD
    have hne := hD.some
    have k0 := liftB hD x0 (by first | assumption | omega)
    have k1 := liftB hD x1 (by first | assumption | omega)
    have k2 := liftB hD x2 (by first | assumption | omega)
    have k3 := liftB hD x3 (by first | assumption | omega)
    have k4 := liftB hD x4 (by first | assumption | omega)
    have k5 := liftB hD x5 (by first | assumption | omega)
    simp only [takeOps, Act.put, List.setIfInBounds_toArray, List.set_cons_succ, List.set_cons_zero]
    repeat (go_big_quiet_step ((go_at_call 20; exact calls_later hD _ (Ht.out _))))
    exact wpQuiet_nil rfl
  · intro d hd x x'
    simp only [List.mem_cons, List.not_mem_nil, or_false] at hd
    rcases hd with rfl | rfl
    all_goals rfl
  · exact trivial
  · exact trivial
  intro xx w2 F hL hlv1
  clear hlv1
  replace HB := hide (onward HB.out hL)
  replace Hx := hide (blk_later Hx.out hL)
  clear hL
  go_wp2
  go_ret
  exact ⟨rfl, HB.out⟩
end Go.Proofs.Ytiggefmckomilaa
namespace Go.Proofs.Ytiggefmckomilaa
open Go Go.RowKit

def lvC3 (lv : Nat → Lv) : Array Value := #[.int .u32 (lv 0).v, .int .u16 (lv 0).l, .int .u16 (lv 0).m, .int .u8 (lv 0).t, .int .u8 (lv 0).s, .int .u8 (lv 0).d, .int .u32 (lv 1).v, .int .u16 (lv 1).l, .int .u16 (lv 1).m, .int .u8 (lv 1).t, .int .u8 (lv 1).s, .int .u8 (lv 1).d, .int .u32 (lv 2).v, .int .u16 (lv 2).l, .int .u16 (lv 2).m, .int .u8 (lv 2).t, .int .u8 (lv 2).s, .int .u8 (lv 2).d]
theorem lvC3_at (lv : Nat → Lv) {k : Nat} (hk : k < 3) : (lvC3 lv)[k * 6]? = some (.int .u32 (lv k).v) ∧ (lvC3 lv)[k * 6 + 1]? = some (.int .u16 (lv k).l) ∧ (lvC3 lv)[k * 6 + 2]? = some (.int .u16 (lv k).m) ∧ (lvC3 lv)[k * 6 + 3]? = some (.int .u8 (lv k).t) ∧ (lvC3 lv)[k * 6 + 4]? = some (.int .u8 (lv k).s) ∧ (lvC3 lv)[k * 6 + 5]? = some (.int .u8 (lv k).d) := by
  have : k = 0 ∨ k = 1 ∨ k = 2 := by omega
  rcases this with rfl | rfl | rfl <;> exact ⟨rfl, rfl, rfl, rfl, rfl, rfl⟩
def nmsC : Array Value := #[.string ⟨#[97]⟩, .string ⟨#[98]⟩, .string ⟨#[99]⟩]
theorem nmsC_at {k : Nat} (hk : k < 3) : nmsC[k]? = some (.string (nmN k)) := by
  have : k = 0 ∨ k = 1 ∨ k = 2 := by omega
  rcases this with rfl | rfl | rfl <;> rfl
def pbL (x : Pb) : List Value := [.int .u8 x.k, .int .u8 x.d, .int .u16 x.s]
structure PbOk (x : Pb) : Prop where
  k0 : 0 ≤ x.k
  k1 : x.k ≤ 255
  d0 : 0 ≤ x.d
  d1 : x.d ≤ 255
  s0 : 0 ≤ x.s
  s1 : x.s ≤ 65535
/-- The rows of the law: days, numerators, denominators. -/
def dayV (lv : Nat → Lv) (k : Nat) : List Value := (List.range k).map fun i => .int .i64 (dayN lv i)
def numVN (lv : Nat → Lv) (k : Nat) : List Value := (List.range k).map fun i => .int .i64 (numN lv i)
def denV (k : Nat) : List Value := (List.range k).map fun i => .int .i64 (denN i)

theorem tmod_bd10 (a : Int) : -9 ≤ a.tmod 10 ∧ a.tmod 10 ≤ 9 := by
  rcases Int.le_total 0 a with h | h
  · rw [tmod_pos h]; omega
  · have e : a.tmod 10 = -((-a).tmod 10) := by rw [Int.neg_tmod]; omega
    rw [e, tmod_pos (by omega)]; omega
def dyP (lv : Nat → Lv) : Nat → Int
  | 0 => 0
  | k + 1 => dayN lv k
theorem den_le {k : Nat} (hk : k < 3) : denN k ≤ 1000000 := by
  have : k = 0 ∨ k = 1 ∨ k = 2 := by omega
  rcases this with rfl | rfl | rfl <;> decide
theorem num_bd (lv : Nat → Lv) (hlv : ∀ k, LvOk (lv k)) {k : Nat} (hk : k < 3) : 0 ≤ numN lv k ∧ numN lv k ≤ 2048417000000 := by
  have h := held_k lv hlv hk
  have h1 := h.low
  have h2 := h.up
  have h3 := den_le hk
  have h4 := den_pos k
  omega
theorem dayV_succ (lv : Nat → Lv) (k : Nat) : dayV lv (k + 1) = dayV lv k ++ [.int .i64 (dayN lv k)] := by unfold dayV; rw [List.range_succ]; simp
theorem numVN_succ (lv : Nat → Lv) (k : Nat) : numVN lv (k + 1) = numVN lv k ++ [.int .i64 (numN lv k)] := by unfold numVN; rw [List.range_succ]; simp
theorem denV_succ (k : Nat) : denV (k + 1) = denV k ++ [.int .i64 (denN k)] := by unfold denV; rw [List.range_succ]; simp
theorem dayV_get (lv : Nat → Lv) {k j : Nat} (h : j < k) : (dayV lv k)[j]? = some (.int .i64 (dayN lv j)) := by simp [dayV, h]
theorem numVN_get (lv : Nat → Lv) {k j : Nat} (h : j < k) : (numVN lv k)[j]? = some (.int .i64 (numN lv j)) := by simp [numVN, h]
theorem denV_get {k j : Nat} (h : j < k) : (denV k)[j]? = some (.int .i64 (denN j)) := by simp [denV, h]
end Go.Proofs.Ytiggefmckomilaa
namespace Go.Proofs.Ytiggefmckomilaa
open Go Go.RowKit

/-- The loops of a code, in order. -/
def loopsOf : Code → List Code
  | .loop c => .loop c :: loopsOf c
  | .seq a b => loopsOf a ++ loopsOf b
  | .block _ c => loopsOf c
  | .scope c => loopsOf c
  | .cond _ a b => loopsOf a ++ loopsOf b
  | _ => []
end Go.Proofs.Ytiggefmckomilaa
namespace Go.Proofs.Ytiggefmckomilaa
open Go Go.RowKit

set_option maxRecDepth 1000000 in
noncomputable def trl2C : Code := ((loopsOf ((Try.f4.body).getD .skip))[1]?).getD .skip
set_option maxHeartbeats 8000000 in
set_option maxRecDepth 1000000 in
theorem trl2 {kc0 kc1 kc2 kc3 kc4 kc6 kc7 kc8 kc9 kc10 kc11 kc12 kc13 ku14 kc17 kc18 kc19 kc20 kc21 kc27 kc28 ku30 ku31 ku32 ku33 kc34 kc35 kc36 kc37 kc38 kc39 kc40 kc41 kc42 kc43 kc44 kc45 kc46 kc47 kc48 kc49 kc50 kc51 kc52 kc53 kc54 kc55 kc56 kc57 kc58 kc59 kc60 kc61 kc62 kc63 kc64 kc65 kc66 kc67 kc68 kc69 kc70 kc71 kc72 kc73 kc74 kc75 kc76 kc77 kc78 kc79 kc80 kc81 kc82 kc83 kc84 kc85 kc86 kc87 kc88 kc89 kc90 kc91 kc92 kc93 kc94 kc95 kc96 kc97 kc98 kc99 kc100 kc101 kc102 kc103 kc104 kc105 kc106 kc107 kc108 kc109 kc110 kc111 kc112 kc113 kc114 kc115 kc116 kc117 kc118 kc119 kc120 kc121 kc122 kc123 kc124 kc125 kc126 kc127 kc128 kc129 kc130 kc131 kc132 kc133 kc134 kc135 kc136 kc137 kc138 kc139 kc140 kc141 kc142 kc143 kc144 kc145 kc146 kc147 kc148 kc149 kc150 kc151 kc152 kc153 kc154 kc155 kc156 kc157 kc158 kc159 kc160 kc161 kc162 kc163 kc164 kc165 kc166 kc167 kc168 kc169 kc170 kc171 kc172 kc173 kc174 kc175 kc176 kc177 kc178 kc179 kc180 kc181 kc182 kc183 kc184 kc185 kc186 ku187 ku188 ku189 ku190 ku191 ku192 ku193 ku194 ku195 ku196 ku197 ku198 ku199 ku200 ku201 ku202 ku203 ku204 ku205 ku206 ku207 ku208 ku209 ku210 ku211 ku212 ku213 ku214 ku215 ku216 ku217 ku218 ku219 ku220 ku221 ku222 ku223 ku224 ku225 ku226 ku227 ku228 ku229 ku230 ku231 ku232 ku233 ku234 ku235 ku236 ku237 ku238 ku239 ku240 kc241 kc242 kc243 kc244 kc245 kc246 kc247 kc248 kc249 kc250 kc251 kc252 kc253 kc254 kc255 kc256 kc257 kc258 kc259 kc260 kc261 kc262 kc263 kc264 kc265 kc266 kc267 kc268 kc269 kc270 kc271 kc272 kc273 kc274 kc275 kc276 kc277 kc278 kc279 kc280 kc281 kc282 kc283 kc284 kc285 kc286 kc287 kc288 kc289 kc290 kc291 kc292 kc293 kc294 kc295 kc296 kc297 kc298 kc299 kc300 kc301 kc302 kc303 kc304 kc305 kc306 kc307 kc308 kc309 kc310 kc311 kc312 kc313 kc314 kc315 kc316 kc317 kc318 kc319 kc320 kc321 kc322 kc323 kc324 kc325 kc326 kc327 kc328 kc329 kc330 kc331 kc332 kc333 kc334 kc335 kc336 kc337 kc338 kc339 kc340 kc341 kc342 kc343 kc344 kc345 kc346 kc347 kc348 kc349 kc350 kc351 kc352 kc353 kc354 kc355 kc356 kc357 kc358 kc359 kc360 kc361 kc362 kc363 kc364 kc365 kc366 kc367 kc368 kc369 kc370 kc371 kc372 kc373 kc374 kc375 kc376 kc377 kc378 kc379 kc380 kc381 kc382 kc383 kc384 kc385 kc386 kc387 kc388 kc389 kc390 kc391 kc392 kc393 kc394 kc395 kc396 kc397 kc398 kc399 kc400 kc401 kc402 kc403 kc404 kc405 kc406 kc407 kc408 kc409 kc410 kc411 kc412 kc413 kc414 kc415 kc416 kc417 kc418 kc419 kc420 kc421 : Value} (lv : Nat → Lv) (hlv : ∀ k, LvOk (lv k)) (mbs : Int) (K : Nat) (hk : K < 3) (kI : Int) (hkI : kI = (K : Int)) (num den D1 tn xv xl xm xt xs xd ak : Int) (hnum : numN lv K = num) (hden : denN K = den) (hday : dayN lv K = D1) (htrn : trn (lv K) = tn) (hx : lv K = ⟨xv, xl, xm, xt, xs, xd⟩) (a0 : 0 ≤ ak) (a1 : ak ≤ 255) (p gx gN : Nat) (L9 : Lay) (w : World) (X0 X2 X3 X4 : Th) (ts : List Th) {Q : Exit → Act → World → Prop} {wr : World} (hM : Mem w (X0 :: .blk gx 32 #[.int .u32 xv, .int .u16 xl, .int .u16 xm, .int .u8 xt, .int .u8 xs, .int .u8 xd] :: X2 :: X3 :: X4 :: .book (bookL lv mbs (K + 1)) p L9 :: .blk gN 9 nmsC :: ts) wr)
    (hexit : ∀ ⦃kv14 kv30 kv31 kv32 kv33 kv187 kv188 kv189 kv190 kv191 kv192 kv193 kv194 kv195 kv196 kv197 kv198 kv199 kv200 kv201 kv202 kv203 kv204 kv205 kv206 kv207 kv208 kv209 kv210 kv211 kv212 kv213 kv214 kv215 kv216 kv217 kv218 kv219 kv220 kv221 kv222 kv223 kv224 kv225 kv226 kv227 kv228 kv229 kv230 kv231 kv232 kv233 kv234 kv235 kv236 kv237 kv238 kv239 kv240 : Value⦄  ⦃w2 : World⦄, Mem w (X0 :: .blk gx 32 #[.int .u32 xv, .int .u16 xl, .int .u16 xm, .int .u8 xt, .int .u8 xs, .int .u8 xd] :: X2 :: X3 :: X4 :: .book (bookL lv mbs (K + 1)) p L9 :: .blk gN 9 nmsC :: ts) w2 → Q (.exit 2) ⟨List.toArray (kc0 :: kc1 :: kc2 :: kc3 :: kc4 :: .int .u8 ak :: kc6 :: kc7 :: kc8 :: kc9 :: kc10 :: kc11 :: kc12 :: kc13 :: kv14 :: .slice (some ⟨gN, 0, none⟩) 3 3 :: .pointer (some ⟨p, 0, none⟩) :: kc17 :: kc18 :: kc19 :: kc20 :: kc21 :: .int .i64 D1 :: .int .i64 kI :: .pointer (some ⟨gx, 0, none⟩) :: .int .i64 num :: .int .i64 den :: kc27 :: kc28 :: .int .i64 3 :: kv30 :: kv31 :: kv32 :: kv33 :: kc34 :: kc35 :: kc36 :: kc37 :: kc38 :: kc39 :: kc40 :: kc41 :: kc42 :: kc43 :: kc44 :: kc45 :: kc46 :: kc47 :: kc48 :: kc49 :: kc50 :: kc51 :: kc52 :: kc53 :: kc54 :: kc55 :: kc56 :: kc57 :: kc58 :: kc59 :: kc60 :: kc61 :: kc62 :: kc63 :: kc64 :: kc65 :: kc66 :: kc67 :: kc68 :: kc69 :: kc70 :: kc71 :: kc72 :: kc73 :: kc74 :: kc75 :: kc76 :: kc77 :: kc78 :: kc79 :: kc80 :: kc81 :: kc82 :: kc83 :: kc84 :: kc85 :: kc86 :: kc87 :: kc88 :: kc89 :: kc90 :: kc91 :: kc92 :: kc93 :: kc94 :: kc95 :: kc96 :: kc97 :: kc98 :: kc99 :: kc100 :: kc101 :: kc102 :: kc103 :: kc104 :: kc105 :: kc106 :: kc107 :: kc108 :: kc109 :: kc110 :: kc111 :: kc112 :: kc113 :: kc114 :: kc115 :: kc116 :: kc117 :: kc118 :: kc119 :: kc120 :: kc121 :: kc122 :: kc123 :: kc124 :: kc125 :: kc126 :: kc127 :: kc128 :: kc129 :: kc130 :: kc131 :: kc132 :: kc133 :: kc134 :: kc135 :: kc136 :: kc137 :: kc138 :: kc139 :: kc140 :: kc141 :: kc142 :: kc143 :: kc144 :: kc145 :: kc146 :: kc147 :: kc148 :: kc149 :: kc150 :: kc151 :: kc152 :: kc153 :: kc154 :: kc155 :: kc156 :: kc157 :: kc158 :: kc159 :: kc160 :: kc161 :: kc162 :: kc163 :: kc164 :: kc165 :: kc166 :: kc167 :: kc168 :: kc169 :: kc170 :: kc171 :: kc172 :: kc173 :: kc174 :: kc175 :: kc176 :: kc177 :: kc178 :: kc179 :: kc180 :: kc181 :: kc182 :: kc183 :: kc184 :: kc185 :: kc186 :: kv187 :: kv188 :: kv189 :: kv190 :: kv191 :: kv192 :: kv193 :: kv194 :: kv195 :: kv196 :: kv197 :: kv198 :: kv199 :: kv200 :: kv201 :: kv202 :: kv203 :: kv204 :: kv205 :: kv206 :: kv207 :: kv208 :: kv209 :: kv210 :: kv211 :: kv212 :: kv213 :: kv214 :: kv215 :: kv216 :: kv217 :: kv218 :: kv219 :: kv220 :: kv221 :: kv222 :: kv223 :: kv224 :: kv225 :: kv226 :: kv227 :: kv228 :: kv229 :: kv230 :: kv231 :: kv232 :: kv233 :: kv234 :: kv235 :: kv236 :: kv237 :: kv238 :: kv239 :: kv240 :: kc241 :: kc242 :: kc243 :: kc244 :: kc245 :: kc246 :: kc247 :: kc248 :: kc249 :: kc250 :: kc251 :: kc252 :: kc253 :: kc254 :: kc255 :: kc256 :: kc257 :: kc258 :: kc259 :: kc260 :: kc261 :: kc262 :: kc263 :: kc264 :: kc265 :: kc266 :: kc267 :: kc268 :: kc269 :: kc270 :: kc271 :: kc272 :: kc273 :: kc274 :: kc275 :: kc276 :: kc277 :: kc278 :: kc279 :: kc280 :: kc281 :: kc282 :: kc283 :: kc284 :: kc285 :: kc286 :: kc287 :: kc288 :: kc289 :: kc290 :: kc291 :: kc292 :: kc293 :: kc294 :: kc295 :: kc296 :: kc297 :: kc298 :: kc299 :: kc300 :: kc301 :: kc302 :: kc303 :: kc304 :: kc305 :: kc306 :: kc307 :: kc308 :: kc309 :: kc310 :: kc311 :: kc312 :: kc313 :: kc314 :: kc315 :: kc316 :: kc317 :: kc318 :: kc319 :: kc320 :: kc321 :: kc322 :: kc323 :: kc324 :: kc325 :: kc326 :: kc327 :: kc328 :: kc329 :: kc330 :: kc331 :: kc332 :: kc333 :: kc334 :: kc335 :: kc336 :: kc337 :: kc338 :: kc339 :: kc340 :: kc341 :: kc342 :: kc343 :: kc344 :: kc345 :: kc346 :: kc347 :: kc348 :: kc349 :: kc350 :: kc351 :: kc352 :: kc353 :: kc354 :: kc355 :: kc356 :: kc357 :: kc358 :: kc359 :: kc360 :: kc361 :: kc362 :: kc363 :: kc364 :: kc365 :: kc366 :: kc367 :: kc368 :: kc369 :: kc370 :: kc371 :: kc372 :: kc373 :: kc374 :: kc375 :: kc376 :: kc377 :: kc378 :: kc379 :: kc380 :: kc381 :: kc382 :: kc383 :: kc384 :: kc385 :: kc386 :: kc387 :: kc388 :: kc389 :: kc390 :: kc391 :: kc392 :: kc393 :: kc394 :: kc395 :: kc396 :: kc397 :: kc398 :: kc399 :: kc400 :: kc401 :: kc402 :: kc403 :: kc404 :: kc405 :: kc406 :: kc407 :: kc408 :: kc409 :: kc410 :: kc411 :: kc412 :: kc413 :: kc414 :: kc415 :: kc416 :: kc417 :: kc418 :: kc419 :: kc420 :: kc421 :: []), []⟩ w2) :
    Code.wp Try.prog trl2C Q ⟨List.toArray (kc0 :: kc1 :: kc2 :: kc3 :: kc4 :: .int .u8 ak :: kc6 :: kc7 :: kc8 :: kc9 :: kc10 :: kc11 :: kc12 :: kc13 :: ku14 :: .slice (some ⟨gN, 0, none⟩) 3 3 :: .pointer (some ⟨p, 0, none⟩) :: kc17 :: kc18 :: kc19 :: kc20 :: kc21 :: .int .i64 D1 :: .int .i64 kI :: .pointer (some ⟨gx, 0, none⟩) :: .int .i64 num :: .int .i64 den :: kc27 :: kc28 :: .int .i64 0 :: ku30 :: ku31 :: ku32 :: ku33 :: kc34 :: kc35 :: kc36 :: kc37 :: kc38 :: kc39 :: kc40 :: kc41 :: kc42 :: kc43 :: kc44 :: kc45 :: kc46 :: kc47 :: kc48 :: kc49 :: kc50 :: kc51 :: kc52 :: kc53 :: kc54 :: kc55 :: kc56 :: kc57 :: kc58 :: kc59 :: kc60 :: kc61 :: kc62 :: kc63 :: kc64 :: kc65 :: kc66 :: kc67 :: kc68 :: kc69 :: kc70 :: kc71 :: kc72 :: kc73 :: kc74 :: kc75 :: kc76 :: kc77 :: kc78 :: kc79 :: kc80 :: kc81 :: kc82 :: kc83 :: kc84 :: kc85 :: kc86 :: kc87 :: kc88 :: kc89 :: kc90 :: kc91 :: kc92 :: kc93 :: kc94 :: kc95 :: kc96 :: kc97 :: kc98 :: kc99 :: kc100 :: kc101 :: kc102 :: kc103 :: kc104 :: kc105 :: kc106 :: kc107 :: kc108 :: kc109 :: kc110 :: kc111 :: kc112 :: kc113 :: kc114 :: kc115 :: kc116 :: kc117 :: kc118 :: kc119 :: kc120 :: kc121 :: kc122 :: kc123 :: kc124 :: kc125 :: kc126 :: kc127 :: kc128 :: kc129 :: kc130 :: kc131 :: kc132 :: kc133 :: kc134 :: kc135 :: kc136 :: kc137 :: kc138 :: kc139 :: kc140 :: kc141 :: kc142 :: kc143 :: kc144 :: kc145 :: kc146 :: kc147 :: kc148 :: kc149 :: kc150 :: kc151 :: kc152 :: kc153 :: kc154 :: kc155 :: kc156 :: kc157 :: kc158 :: kc159 :: kc160 :: kc161 :: kc162 :: kc163 :: kc164 :: kc165 :: kc166 :: kc167 :: kc168 :: kc169 :: kc170 :: kc171 :: kc172 :: kc173 :: kc174 :: kc175 :: kc176 :: kc177 :: kc178 :: kc179 :: kc180 :: kc181 :: kc182 :: kc183 :: kc184 :: kc185 :: kc186 :: ku187 :: ku188 :: ku189 :: ku190 :: ku191 :: ku192 :: ku193 :: ku194 :: ku195 :: ku196 :: ku197 :: ku198 :: ku199 :: ku200 :: ku201 :: ku202 :: ku203 :: ku204 :: ku205 :: ku206 :: ku207 :: ku208 :: ku209 :: ku210 :: ku211 :: ku212 :: ku213 :: ku214 :: ku215 :: ku216 :: ku217 :: ku218 :: ku219 :: ku220 :: ku221 :: ku222 :: ku223 :: ku224 :: ku225 :: ku226 :: ku227 :: ku228 :: ku229 :: ku230 :: ku231 :: ku232 :: ku233 :: ku234 :: ku235 :: ku236 :: ku237 :: ku238 :: ku239 :: ku240 :: kc241 :: kc242 :: kc243 :: kc244 :: kc245 :: kc246 :: kc247 :: kc248 :: kc249 :: kc250 :: kc251 :: kc252 :: kc253 :: kc254 :: kc255 :: kc256 :: kc257 :: kc258 :: kc259 :: kc260 :: kc261 :: kc262 :: kc263 :: kc264 :: kc265 :: kc266 :: kc267 :: kc268 :: kc269 :: kc270 :: kc271 :: kc272 :: kc273 :: kc274 :: kc275 :: kc276 :: kc277 :: kc278 :: kc279 :: kc280 :: kc281 :: kc282 :: kc283 :: kc284 :: kc285 :: kc286 :: kc287 :: kc288 :: kc289 :: kc290 :: kc291 :: kc292 :: kc293 :: kc294 :: kc295 :: kc296 :: kc297 :: kc298 :: kc299 :: kc300 :: kc301 :: kc302 :: kc303 :: kc304 :: kc305 :: kc306 :: kc307 :: kc308 :: kc309 :: kc310 :: kc311 :: kc312 :: kc313 :: kc314 :: kc315 :: kc316 :: kc317 :: kc318 :: kc319 :: kc320 :: kc321 :: kc322 :: kc323 :: kc324 :: kc325 :: kc326 :: kc327 :: kc328 :: kc329 :: kc330 :: kc331 :: kc332 :: kc333 :: kc334 :: kc335 :: kc336 :: kc337 :: kc338 :: kc339 :: kc340 :: kc341 :: kc342 :: kc343 :: kc344 :: kc345 :: kc346 :: kc347 :: kc348 :: kc349 :: kc350 :: kc351 :: kc352 :: kc353 :: kc354 :: kc355 :: kc356 :: kc357 :: kc358 :: kc359 :: kc360 :: kc361 :: kc362 :: kc363 :: kc364 :: kc365 :: kc366 :: kc367 :: kc368 :: kc369 :: kc370 :: kc371 :: kc372 :: kc373 :: kc374 :: kc375 :: kc376 :: kc377 :: kc378 :: kc379 :: kc380 :: kc381 :: kc382 :: kc383 :: kc384 :: kc385 :: kc386 :: kc387 :: kc388 :: kc389 :: kc390 :: kc391 :: kc392 :: kc393 :: kc394 :: kc395 :: kc396 :: kc397 :: kc398 :: kc399 :: kc400 :: kc401 :: kc402 :: kc403 :: kc404 :: kc405 :: kc406 :: kc407 :: kc408 :: kc409 :: kc410 :: kc411 :: kc412 :: kc413 :: kc414 :: kc415 :: kc416 :: kc417 :: kc418 :: kc419 :: kc420 :: kc421 :: []), []⟩ wr := by
  have HX := hide hexit
  clear hexit
  unfold trl2C
  conv => arg 2; whnf
  subst hkI
  have HM := hide hM
  clear hM
  have hok := hlv K
  have htn := fun W => lvTurn_any (lv K) hok W
  have htb := trn_bd (lv K)
  have hnb := num_bd lv hlv hk
  have hde := den_le hk
  have hde0 := den_pos K
  have hDb := day_bd lv K
  unfold lvC at htn
  rw [htrn] at htn htb
  have hst := fun (d : Int) h h2 => span_truth lv hlv (k := K) (d := d) hk h h2
  rw [hnum, hden, htrn] at hst
  rw [hnum] at hnb
  rw [hden] at hde hde0
  rw [hday] at hDb
  rw [hx] at hok htn
  simp only at htn
  have hKb : (K : Int) < 3 := by omega
  obtain ⟨q24, hq24⟩ : ∃ q24 : Int, 1 + ak % 24 = q24 := ⟨_, rfl⟩
  have hq24t : 1 + ak.tmod 24 = q24 := by rw [tmod_pos a0, hq24]
  have hq24b : 1 ≤ q24 ∧ q24 ≤ 24 := by omega
  have hnmb := hnb
  have Hst := hide hst
  have Htn := hide htn
  have Hx := hide hx
  have Hlv := hide hlv
  clear hst htn hx hlv
  go_loopw [29] (fun i wr2 => ∃ jj : Nat, jj ≤ 3 ∧ i = .int .i64 jj ∧ Mem w (X0 :: .blk gx 32 #[.int .u32 xv, .int .u16 xl, .int .u16 xm, .int .u8 xt, .int .u8 xs, .int .u8 xd] :: X2 :: X3 :: X4 :: .book (bookL lv mbs (K + 1)) p L9 :: .blk gN 9 nmsC :: ts) wr2) (fun i _ => 3 - (intOf i).toNat)
  case atStart => exact ⟨0, by omega, rfl, HM.out⟩
  case round =>
    obtain ⟨jj, hj3, rfl, hM⟩ := hrel
    clear HM
    have HM := hide hM
    clear hM
    by_cases hj : jj < 3
    · obtain ⟨dj, hdj⟩ : ∃ dj : Int, (jj : Int) * q24 = dj := ⟨_, rfl⟩
      have hdjb : 0 ≤ dj ∧ dj ≤ 48 := by
        obtain ⟨a, b⟩ := mul_bdT (d := (jj : Int)) (m := q24) (D := 2) (M := 24) (by omega) (by omega) (by omega) (by omega)
        omega
      have hv := bookL_value lv mbs (K := K + 1) (k := K) (d := dj) (by omega) (by omega) hdjb.1 (by omega)
      rw [hday] at hv
      obtain ⟨s1, s2, s3, s4, s5, -, s7⟩ := Hst.out dj hdjb.1 (by omega)
      obtain ⟨sa, sb, hsp⟩ : ∃ sa sb, spanN lv K dj = (sa, sb) := ⟨_, _, rfl⟩
      rw [hsp] at hv s1 s2 s3 s4 s5
      simp only at s1 s2 s3 s4 s5
      obtain ⟨e1', he1⟩ : ∃ e : Int, tn * dj = e := ⟨_, rfl⟩
      obtain ⟨e2', he2⟩ : ∃ e : Int, e1' * den = e := ⟨_, rfl⟩
      rw [he1, he2] at s4 s5 s7
      have he1b : -245 ≤ e1' ∧ e1' ≤ 245 := by
        obtain ⟨a, b⟩ := turn_le (den := 1) htb.1 htb.2 hdjb.1 (by omega)
        rw [Int.mul_one] at a b
        omega
      have he2b : -245000000 ≤ e2' ∧ e2' ≤ 245000000 := by
        have p1 := Int.mul_le_mul_of_nonneg_right he1b.1 (show 0 ≤ den by omega)
        have p2 := Int.mul_le_mul_of_nonneg_right he1b.2 (show 0 ≤ den by omega)
        omega
      obtain ⟨e3, he3⟩ : ∃ e : Int, sa * den = e := ⟨_, rfl⟩
      obtain ⟨e4, he4⟩ : ∃ e : Int, sb * den = e := ⟨_, rfl⟩
      rw [he3] at s4
      rw [he4] at s5
      obtain ⟨m1, m2⟩ := mul_bdT (d := sa) (m := den) (D := 4085119) (M := 1000000) (by omega) (by omega) (by omega) (by omega)
      obtain ⟨m3, m4⟩ := mul_bdT (d := sb) (m := den) (D := 4085119) (M := 1000000) (by omega) (by omega) (by omega) (by omega)
      rw [he3] at m1 m2
      rw [he4] at m3 m4
      have hn3 : decide (num + e2' < e3) = false := decide_eq_false (by omega)
      have hn4 : decide (e4 < num + e2') = false := decide_eq_false (by omega)
      have hn1 : decide (sa < 1) = false := decide_eq_false (by omega)
      have bN := Mem.blk_ HM.out 6 rfl
      have cn := bN.c K (nmsC_at hk)
      have ltn := bN.lt
      have hdjx : q24 * (jj : Int) = dj := by rw [Int.mul_comm]; exact hdj
      go_wp2_with fail
      have c2 := Value_any (bookL lv mbs (K + 1)) p L9 (nmN K) ((D1 + dj) * 86400) wr (Mem.book_ HM.out 5 rfl) (by show 1 ≤ maxLen; decide)
      rw [hv] at c2
      unfold spanE at c2
      simp only at c2
      refine (c2).mono ?_
      rintro e w13 ⟨rfl, hb⟩
      replace HM := hide (HM.out.later hb)
      clear hb
      clear c2 cn ltn bN
      have bz : Blk w13 gx 32 #[.int .u32 xv, .int .u16 xl, .int .u16 xm, .int .u8 xt, .int .u8 xs, .int .u8 xd] := HM.out.get 1 rfl
      have ltz := bz.lt
      have z0 := bz.c 0 rfl
      have z1 := bz.c 1 rfl
      have z2 := bz.c 2 rfl
      have z3 := bz.c 3 rfl
      have z4 := bz.c 4 rfl
      have z5 := bz.c 5 rfl
      go_wp2_with fail
      refine at_world fun w14 hW => ?_
      have HMn := Mem.to (Mem.allocAt HM.out w13.heap.size rfl #[.int .i64 sa, .int .i64 sb] 23) hW
      have LW : Later w13 w14 := by rw [hW]; exact ((Below.refl _ _).alloc (Nat.le_refl _) _)
      have szW : w14.heap.size = w13.heap.size + 1 := by rw [hW]; simp
      clear hW bz ltz z0 z1 z2 z3 z4 z5
      replace HM := hide HMn
      clear HMn LW
      refine (Htn.out _).mono ?_
      rintro e w15 ⟨rfl, hb⟩
      replace HM := hide (HM.out.later hb)
      clear hb
      have bz : Blk w15 w13.heap.size 23 #[.int .i64 sa, .int .i64 sb] := HM.out.get 0 rfl
      have ltz := bz.lt
      have z0 := bz.c 0 rfl
      have z1 := bz.c 1 rfl
      go_wp2_with fail
      go_roundw
      case rel => exact ⟨jj + 1, by omega, by go_num, HM.out.tail⟩
      case measure => simp [intOf] <;> omega
    · have hj3' : jj = 3 := by omega
      subst hj3'
      rw [show ((3 : Nat) : Int) = (3 : Int) from rfl]
      go_wp2_with fail
      exact HX.out HM.out
end Go.Proofs.Ytiggefmckomilaa
