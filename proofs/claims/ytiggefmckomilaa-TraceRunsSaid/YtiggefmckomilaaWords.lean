/-
  Names: which bytes they are made of; runes beyond ASCII; no program in sight.
  A book of standards and tests, in plain words: the list of its entries, the newest first; everything is found in them.
  Books in plain words: bounds.
  Books in plain words: what an entry changes; chains, step by step.
  Regions that draw their order, over any program. An operation that yields one value whatever of the calls that lay new memory has come before it (a load of old memory, arithmetic, a call that returns plain values) is taken first, in the order of the text; what is left (an alloc, a store into new memory, a call that hands back new memory) is stepped by itself, each time in every later world.
  Words for memory that every text of this seat uses: a row of integer cells that a slice value reads as, a block that is known whole, and what is kept below a block number. Plain theorems over any program; nothing of the seat's own program is named.
-/
import Derived.Lib.IndexLaws
import Derived.Lib.TrimU
import Derived.Laws.RangeString
import Derived.Deep.Quiet
import Derived.Deep.QuietTactic
import Derived.BigQuiet
import Derived.Still
import Derived.Below
import Derived.WalkKit
import Derived.WalkSpells
import Derived.WalkLawsBesides
import Derived.Deep.Draws
set_option linter.unusedSimpArgs false
set_option linter.unusedVariables false
namespace Go.Proofs.Ytiggefmckomilaa
open Go

/-- The bytes of names. -/
def isAl (n : Nat) : Bool := (decide (97 ≤ n) && decide (n ≤ 122)) || (decide (48 ≤ n) && decide (n ≤ 57)) || decide (n = 95)
def alphaA : ByteArray := ⟨#[97, 98, 99, 100, 101, 102, 103, 104, 105, 106, 107, 108, 109, 110, 111, 112, 113, 114, 115, 116, 117, 118, 119, 120, 121, 122, 48, 49, 50, 51, 52, 53, 54, 55, 56, 57, 95]⟩
theorem index_al : ∀ c : Fin 128, decide (0 ≤ Lib.indexByte alphaA.data.toList ((c.val : Int).toNat.toUInt8)) = isAl c.val := by decide +kernel
theorem index_al' {c : Nat} (h : c < 128) : decide (0 ≤ Lib.indexByte alphaA.data.toList ((c : Int).toNat.toUInt8)) = isAl c := index_al ⟨c, h⟩
theorem al_ascii : ∀ b ∈ alphaA.data.toList, b.toNat < 128 := by decide +kernel
theorem isAl_lt {n : Nat} (h : isAl n = true) : n < 128 := by
  unfold isAl at h
  simp only [Bool.or_eq_true, Bool.and_eq_true, decide_eq_true_eq] at h
  omega
theorem indexByte_no : ∀ {l : List UInt8} {c : UInt8}, (∀ b ∈ l, b ≠ c) → Lib.indexByte l c = -1
  | [], _, _ => rfl
  | b :: l, c, h => by
    have ih := indexByte_no (l := l) (c := c) (fun x hx => h x (List.mem_cons_of_mem _ hx))
    have hb := h b (List.mem_cons_self ..)
    unfold Lib.indexByte
    rw [if_neg (by simpa using hb), if_pos (by rw [ih]; rfl)]
/-- What a rune beyond ASCII is written as. -/
theorem encode_far {c : Int} (h : 128 ≤ c) : ∃ n : Nat, (Utf8.encode c).size = n + 2 ∧ n ≤ 2 ∧ ∃ u : UInt8, (Utf8.encode c)[n + 1]? = some u ∧ 128 ≤ u.toNat := by
  unfold Utf8.encode
  have hc : 128 ≤ (if Utf8.valid c = true then c.toNat else Utf8.runeError) := by
    split
    · omega
    · decide
  generalize (if Utf8.valid c = true then c.toNat else Utf8.runeError) = d at *
  have hu : 128 ≤ (UInt8.ofNat (0x80 + d % 64)).toNat := by
    rw [UInt8.toNat_ofNat']; omega
  simp only
  rw [if_neg (by omega)]
  split
  · exact ⟨0, rfl, by omega, _, rfl, hu⟩
  · split
    · exact ⟨1, rfl, by omega, _, rfl, hu⟩
    · exact ⟨2, rfl, by omega, _, rfl, hu⟩
/-- A byte beyond ASCII never begins an ASCII rune. -/
theorem decode_far (s : ByteArray) (pos : Nat) (h : pos < s.size) (hb : 128 ≤ (s[pos]'h).toNat) : 128 ≤ (Utf8.decode s pos).1 := by
  have e : s.get! (pos + 0) = s[pos]'h := by
    show s.get! pos = _
    simp [ByteArray.get!, getElem!_pos, h]
    rfl
  unfold Utf8.decode
  simp only [e]
  rw [if_neg (by omega)]
  repeat' split
  all_goals simp_all [Utf8.runeError]
  all_goals omega
/-- Names. -/
def nameB (s : ByteArray) : Bool := decide (s.size ≠ 0) && decide (s.size ≤ 12) && decide (97 ≤ (s.data.toList.getD 0 0).toNat) && decide ((s.data.toList.getD 0 0).toNat ≤ 122) && s.data.toList.all fun b => isAl b.toNat
end Go.Proofs.Ytiggefmckomilaa
namespace Go.Proofs.Ytiggefmckomilaa

structure Std where
  name : ByteArray
  par : ByteArray
  lo : Int
  hi : Int
  time : Int
  stop : Int
  drift : Int
structure Tst where
  radar : ByteArray
  std : ByteArray
  time : Int
  lo : Int
  hi : Int
inductive Ent where
  | radar (name : ByteArray) (drift : Int)
  | define (s : Std)
  | test (t : Tst)
  | turn (name : ByteArray) (out : Bool)

def upD (a b : Int) : Int := (a + b - 1) / b
/-- A span, widened by a drift between two times. -/
def widenS (s : Int × Int) (d f t : Int) : Int × Int := (max 1 (s.1 - upD (d * max (t - f) (f - t)) 86400), s.2 + upD (d * max (t - f) (f - t)) 86400)
/-- A span, times another one in thousandths. -/
def scaledS (s t : Int × Int) : Int × Int := (max 1 (s.1 * t.1 / 1000), upD (s.2 * t.2) 1000)

def radarsT : List Ent → List (ByteArray × Int)
  | [] => []
  | .radar n d :: l => (n, d) :: radarsT l
  | _ :: l => radarsT l
def driftT : List Ent → ByteArray → Option Int
  | [], _ => none
  | .radar m d :: l, n => if m = n then some d else driftT l n
  | _ :: l, n => driftT l n
def stdsT : List Ent → List Std
  | [] => []
  | .define s :: l => s :: stdsT l
  | _ :: l => stdsT l
def stdT : List Ent → ByteArray → Option Std
  | [], _ => none
  | .define s :: l, n => if s.name = n then some s else stdT l n
  | _ :: l, n => stdT l n
def testsT : List Ent → List Tst
  | [] => []
  | .test t :: l => t :: testsT l
  | _ :: l => testsT l
def wdT : List Ent → ByteArray → Bool
  | [], _ => false
  | .turn m o :: l, n => if m = n then o else wdT l n
  | _ :: l, n => wdT l n
/-- The chain of a standard. -/
def chainT : List Ent → ByteArray → List ByteArray
  | [], _ => []
  | .define s :: l, n => if s.name = n then s.name :: (if s.par = ByteArray.empty then [] else chainT l s.par) else chainT l n
  | _ :: l, n => chainT l n
def voidT (l : List Ent) (n : ByteArray) : Bool := (chainT l n).any (wdT l)
/-- The value of a standard when it was made. -/
def madeT : List Ent → ByteArray → Int × Int
  | [], _ => (0, 0)
  | .define s :: l, n =>
    if s.name = n then
      if s.par = ByteArray.empty then (s.lo, s.hi)
      else match stdT l s.par with
        | some p => scaledS (widenS (madeT l s.par) p.drift p.time s.time) (s.lo, s.hi)
        | none => (0, 0)
    else madeT l n
  | _ :: l, n => madeT l n
def valueT (l : List Ent) (s : Std) (time : Int) : Int × Int := widenS (madeT l s.name) s.drift s.time time
/-- The gain by a test at its time. -/
def gainT (l : List Ent) (t : Tst) : Int × Int := match stdT l t.std with
  | some s => (max 1 (1000 * t.lo / (valueT l s t.time).2), upD (1000 * t.hi) (valueT l s t.time).1)
  | none => (0, 0)

/-- What a call answers: 0, or an error. -/
def inR (n lo hi : Int) : Bool := decide (lo ≤ n ∧ n ≤ hi)
def inS (a b lo hi : Int) : Bool := decide (lo ≤ a ∧ a ≤ b ∧ b ≤ hi)
def radarE (l : List Ent) (n : ByteArray) (d : Int) : Int :=
  if 2000 ≤ l.length then 13 else if nameB n = false then 10 else if (driftT l n).isSome then 5 else if 32 ≤ (radarsT l).length then 9 else if inR d 0 1000000 = false then 3 else 0
def defineE (l : List Ent) (s : Std) : Int :=
  if 2000 ≤ l.length then 13 else if nameB s.name = false then 10 else if (stdT l s.name).isSome then 5 else if 64 ≤ (stdsT l).length then 9
  else if (inS s.lo s.hi 1 (if s.par = ByteArray.empty then 1000000 else 100000) && inR s.time 0 s.stop && decide (s.stop ≤ 4294967296) && inR s.drift 0 1000000) = false then 3
  else if s.par = ByteArray.empty then 0
  else match stdT l s.par with
    | none => 4
    | some p => if (voidT l s.par || !inR s.time p.time p.stop) = true then 22 else if 1000000000 < (scaledS (valueT l p s.time) (s.lo, s.hi)).2 then 26 else 0
def testE (l : List Ent) (t : Tst) : Int :=
  if 2000 ≤ l.length then 13
  else match driftT l t.radar, stdT l t.std with
    | some _, some s => if 512 ≤ (testsT l).length then 9 else if (inR t.time 0 4294967296 && inS t.lo t.hi 1 1000000000) = false then 3 else if (voidT l t.std || !inR t.time s.time s.stop) = true then 22 else 0
    | _, _ => 4
def turnE (l : List Ent) (n : ByteArray) (out : Bool) : Int :=
  if 2000 ≤ l.length then 13 else if (stdT l n).isNone then 4 else if wdT l n = out then 6 else 0
/-- Whether an entry is accepted. -/
def okEnt (l : List Ent) : Ent → Bool
  | .radar n d => radarE l n d == 0
  | .define s => defineE l s == 0
  | .test t => testE l t == 0
  | .turn n o => turnE l n o == 0
/-- Every entry was accepted when it came. -/
def GoodB : List Ent → Prop
  | [] => True
  | e :: l => okEnt l e = true ∧ GoodB l
end Go.Proofs.Ytiggefmckomilaa
namespace Go.Proofs.Ytiggefmckomilaa

theorem upD_bd {a b : Int} (ha : 0 ≤ a) (hb : 1 ≤ b) : 0 ≤ upD a b ∧ upD a b ≤ a ∧ a ≤ b * upD a b ∧ b * upD a b ≤ a + b - 1 := by
  unfold upD
  have h1 := Int.mul_ediv_add_emod (a + b - 1) b
  have h2 := Int.emod_nonneg (a + b - 1) (show b ≠ 0 by omega)
  have h3 := Int.emod_lt_of_pos (a + b - 1) (show 0 < b by omega)
  have h4 : 0 ≤ (a + b - 1) / b := Int.ediv_nonneg (by omega) (by omega)
  generalize (a + b - 1) / b = q at *
  refine ⟨h4, ?_, by omega, by omega⟩
  by_cases hq : q = 0
  · omega
  · have h5 : b * q + b * 0 ≤ a + b - 1 := by rw [Int.mul_zero]; omega
    have h6 : q - 1 ≤ b * (q - 1) := by
      have := Int.mul_le_mul_of_nonneg_right hb (show 0 ≤ q - 1 by omega)
      omega
    rw [Int.mul_sub] at h6
    omega
theorem upD_mono {a a' b : Int} (hb : 1 ≤ b) (h : a ≤ a') : upD a b ≤ upD a' b := by
  unfold upD
  exact Int.ediv_le_ediv (by omega) (by omega)
theorem div_bd {a b : Int} (ha : 0 ≤ a) (hb : 1 ≤ b) : 0 ≤ a / b ∧ a / b ≤ a ∧ b * (a / b) ≤ a := by
  have h4 : 0 ≤ a / b := Int.ediv_nonneg ha (by omega)
  refine ⟨h4, ?_, Int.mul_ediv_self_le (by omega)⟩
  exact Int.ediv_le_self _ ha
theorem mul_bdT {d m D M : Int} (h0 : 0 ≤ d) (h1 : d ≤ D) (h2 : 0 ≤ m) (h3 : m ≤ M) : 0 ≤ d * m ∧ d * m ≤ D * M :=
  ⟨Int.mul_nonneg h0 h2, Int.mul_le_mul h1 h3 h2 (by omega)⟩
/-- What a span is widened by. -/
theorem wide_bd {d f t : Int} (h0 : 0 ≤ d) (h1 : d ≤ 1000000) (f0 : 0 ≤ f) (f1 : f ≤ 4294967296) (t0 : 0 ≤ t) (t1 : t ≤ 4294967296) :
    0 ≤ d * max (t - f) (f - t) ∧ d * max (t - f) (f - t) ≤ 4294967296000000 ∧ 0 ≤ upD (d * max (t - f) (f - t)) 86400 ∧ upD (d * max (t - f) (f - t)) 86400 ≤ 49710269631 := by
  obtain ⟨a, b⟩ := mul_bdT (m := max (t - f) (f - t)) (M := 4294967296) h0 h1 (by omega) (by omega)
  obtain ⟨c, -, -, e⟩ := upD_bd (b := 86400) a (by omega)
  generalize d * max (t - f) (f - t) = p at *
  exact ⟨a, by omega, c, by omega⟩
theorem widenS_bd {s : Int × Int} {d f t : Int} (h0 : 0 ≤ d) (h1 : d ≤ 1000000) (f0 : 0 ≤ f) (f1 : f ≤ 4294967296) (t0 : 0 ≤ t) (t1 : t ≤ 4294967296) (s1 : s.1 ≤ s.2) (s2 : 1 ≤ s.2) :
    1 ≤ (widenS s d f t).1 ∧ (widenS s d f t).1 ≤ (widenS s d f t).2 ∧ (widenS s d f t).2 ≤ s.2 + 49710269631 := by
  obtain ⟨-, -, c, e⟩ := wide_bd h0 h1 f0 f1 t0 t1
  unfold widenS
  simp only
  omega
theorem scaledS_bd {s t : Int × Int} (s0 : 1 ≤ s.1) (s1 : s.1 ≤ s.2) (s2 : s.2 ≤ 100000000000) (t0 : 1 ≤ t.1) (t1 : t.1 ≤ t.2) (t2 : t.2 ≤ 1000000) :
    1 ≤ (scaledS s t).1 ∧ (scaledS s t).1 ≤ (scaledS s t).2 ∧ (scaledS s t).2 ≤ 100000000000000000 ∧ 0 ≤ s.1 * t.1 ∧ s.1 * t.1 ≤ s.2 * t.2 ∧ s.2 * t.2 ≤ 100000000000000000 := by
  obtain ⟨a, b⟩ := mul_bdT (d := s.1) (m := t.1) (D := s.2) (M := t.2) (by omega) s1 (by omega) t1
  obtain ⟨c, e⟩ := mul_bdT (d := s.2) (m := t.2) (D := 100000000000) (M := 1000000) (by omega) s2 (by omega) t2
  have one : 1 ≤ s.2 * t.2 := by
    have := Int.mul_le_mul (show (1 : Int) ≤ s.2 by omega) (show (1 : Int) ≤ t.2 by omega) (by omega) (by omega)
    omega
  unfold scaledS
  simp only
  generalize s.1 * t.1 = p at *
  generalize s.2 * t.2 = q at *
  obtain ⟨u1, u2, u3, u4⟩ := upD_bd (a := q) (b := 1000) c (by omega)
  have v1 := Int.ediv_le_ediv (c := 1000) (by omega) b
  have v2 : q / 1000 ≤ upD q 1000 := by unfold upD; exact Int.ediv_le_ediv (by omega) (by omega)
  have v3 : 1 ≤ upD q 1000 := by omega
  refine ⟨by omega, by omega, by omega, a, b, by omega⟩

/-- A standard as it is kept. -/
structure StdOk (s : Std) : Prop where
  name : nameB s.name = true
  lo : 1 ≤ s.lo
  le : s.lo ≤ s.hi
  hi : s.hi ≤ 1000000
  t0 : 0 ≤ s.time
  t1 : s.time ≤ s.stop
  t2 : s.stop ≤ 4294967296
  d0 : 0 ≤ s.drift
  d1 : s.drift ≤ 1000000
def SpanOk (m : Int × Int) : Prop := 1 ≤ m.1 ∧ m.1 ≤ m.2 ∧ m.2 ≤ 1000000000

theorem inS_iff {a b lo hi : Int} : inS a b lo hi = true ↔ lo ≤ a ∧ a ≤ b ∧ b ≤ hi := by simp [inS]
theorem inR_iff {n lo hi : Int} : inR n lo hi = true ↔ lo ≤ n ∧ n ≤ hi := by simp [inR]
/-- What an accepted standard is. -/
theorem defineE_zero {l : List Ent} {s : Std} (h : defineE l s = 0) : l.length < 2000 ∧ StdOk s ∧ stdT l s.name = none ∧ (stdsT l).length < 64 ∧
    (s.par = ByteArray.empty ∨ s.par ≠ ByteArray.empty ∧ s.hi ≤ 100000 ∧ ∃ p, stdT l s.par = some p ∧ voidT l s.par = false ∧ p.time ≤ s.time ∧ s.time ≤ p.stop ∧ (scaledS (valueT l p s.time) (s.lo, s.hi)).2 ≤ 1000000000) := by
  unfold defineE at h
  obtain ⟨M, hM⟩ : ∃ M : Int, (if s.par = ByteArray.empty then 1000000 else 100000) = M := ⟨_, rfl⟩
  rw [hM] at h
  split at h
  · exact absurd h (by omega)
  rename_i h1
  split at h
  · exact absurd h (by omega)
  rename_i h2
  split at h
  · exact absurd h (by omega)
  rename_i h3
  split at h
  · exact absurd h (by omega)
  rename_i h4
  split at h
  · exact absurd h (by omega)
  rename_i h5
  rw [Bool.not_eq_false, Bool.and_eq_true, Bool.and_eq_true, Bool.and_eq_true] at h5
  obtain ⟨⟨⟨k1, k2⟩, k3⟩, k4⟩ := h5
  obtain ⟨a1, a2, a3⟩ := inS_iff.1 k1
  obtain ⟨b1, b2⟩ := inR_iff.1 k2
  have k3' := of_decide_eq_true k3
  obtain ⟨c1, c2⟩ := inR_iff.1 k4
  have hn : stdT l s.name = none := by
    cases hs : stdT l s.name with
    | none => rfl
    | some x => exact absurd (by rw [hs]; rfl) h3
  have hi' : s.hi ≤ 1000000 := by rw [← hM] at a3; split at a3 <;> omega
  refine ⟨by omega, ⟨by simpa using h2, a1, a2, hi', b1, b2, k3', c1, c2⟩, hn, by omega, ?_⟩
  by_cases hp : s.par = ByteArray.empty
  · exact .inl hp
  · rw [if_neg hp] at h hM
    right
    refine ⟨hp, by omega, ?_⟩
    cases hs : stdT l s.par with
    | none => rw [hs] at h; exact absurd h (by simp)
    | some p =>
      rw [hs] at h
      simp only at h
      split at h
      · exact absurd h (by omega)
      rename_i h6
      split at h
      · exact absurd h (by omega)
      rename_i h7
      simp only [Bool.or_eq_true, not_or, Bool.not_eq_true, Bool.not_eq_false'] at h6
      obtain ⟨d1, d2⟩ := inR_iff.1 h6.2
      exact ⟨p, rfl, h6.1, d1, d2, by omega⟩

/-- What is known of each standard of a book. -/
theorem good_std : ∀ {l : List Ent} {n : ByteArray} {s : Std}, GoodB l → stdT l n = some s → StdOk s ∧ s.name = n ∧ SpanOk (madeT l n)
  | [], n, s, _, h => by cases h
  | .radar m d :: l, n, s, hg, h => good_std (l := l) hg.2 h
  | .test t :: l, n, s, hg, h => good_std (l := l) hg.2 h
  | .turn m o :: l, n, s, hg, h => good_std (l := l) hg.2 h
  | .define x :: l, n, s, hg, h => by
    unfold stdT at h
    unfold madeT
    by_cases hx : x.name = n
    · rw [if_pos hx] at h ⊢
      obtain rfl := Option.some.inj h
      have he : defineE l x = 0 := by have := hg.1; unfold okEnt at this; simpa using this
      obtain ⟨h1, h2, h3, h4, h5⟩ := defineE_zero he
      refine ⟨h2, hx, ?_⟩
      rcases h5 with h5 | ⟨h5, h6, p, h7, h8, h9, h10, h11⟩
      · rw [if_pos h5]; exact ⟨h2.lo, h2.le, by have := h2.hi; simp only; omega⟩
      · rw [if_neg h5, h7]
        simp only
        obtain ⟨q1, q2, q3⟩ := good_std (l := l) hg.2 h7
        obtain ⟨m1, m2, m3⟩ := q3
        have hv := widenS_bd (s := madeT l x.par) (d := p.drift) (f := p.time) (t := x.time) q1.d0 q1.d1 q1.t0 (by have := q1.t1; have := q1.t2; omega) h2.t0 (by have := h2.t1; have := h2.t2; omega) m2 (by omega)
        have hs := scaledS_bd (s := widenS (madeT l x.par) p.drift p.time x.time) (t := (x.lo, x.hi)) hv.1 hv.2.1 (by omega) h2.lo h2.le h2.hi
        unfold valueT at h11
        rw [q2] at h11
        exact ⟨hs.1, hs.2.1, h11⟩
    · rw [if_neg hx] at h ⊢
      exact good_std (l := l) hg.2 h
end Go.Proofs.Ytiggefmckomilaa
namespace Go.Proofs.Ytiggefmckomilaa

/-- The entry is a standard of another name, or none. -/
def Fresh (e : Ent) (n : ByteArray) : Prop := match e with
  | .define s => s.name ≠ n
  | _ => True
theorem stdT_cons {e : Ent} {l : List Ent} {n : ByteArray} (h : Fresh e n) : stdT (e :: l) n = stdT l n := by
  cases e <;> first | rfl | (rw [stdT]; rw [if_neg h])
theorem chainT_cons {e : Ent} {l : List Ent} {n : ByteArray} (h : Fresh e n) : chainT (e :: l) n = chainT l n := by
  cases e <;> first | rfl | (rw [chainT]; rw [if_neg h])
theorem madeT_cons {e : Ent} {l : List Ent} {n : ByteArray} (h : Fresh e n) : madeT (e :: l) n = madeT l n := by
  cases e <;> first | rfl | (rw [madeT]; rw [if_neg h])
/-- A name that is there is not that of a new standard. -/
theorem fresh_of {e : Ent} {l : List Ent} {n : ByteArray} {s : Std} (hg : GoodB (e :: l)) (h : stdT l n = some s) : Fresh e n := by
  cases e with
  | define x =>
    have he : defineE l x = 0 := by have := hg.1; unfold okEnt at this; simpa using this
    obtain ⟨-, -, h3, -⟩ := defineE_zero he
    show x.name ≠ n
    intro e
    rw [e, h] at h3
    cases h3
  | _ => trivial
/-- The parent of a standard. -/
theorem par_of : ∀ {l : List Ent} {n : ByteArray} {s : Std}, GoodB l → stdT l n = some s → s.par ≠ ByteArray.empty → ∃ p, stdT l s.par = some p ∧ p.time ≤ s.time ∧ s.time ≤ p.stop
  | [], n, s, _, h, _ => by cases h
  | .radar m d :: l, n, s, hg, h, hp => par_of (l := l) hg.2 h hp
  | .test t :: l, n, s, hg, h, hp => par_of (l := l) hg.2 h hp
  | .turn m o :: l, n, s, hg, h, hp => par_of (l := l) hg.2 h hp
  | .define x :: l, n, s, hg, h, hp => by
    have he : defineE l x = 0 := by have := hg.1; unfold okEnt at this; simpa using this
    obtain ⟨-, -, h3, -, h5⟩ := defineE_zero he
    have key : ∀ p, stdT l s.par = some p → stdT (.define x :: l) s.par = some p := fun p h7 => by rw [stdT_cons (fresh_of hg h7)]; exact h7
    unfold stdT at h
    by_cases hx : x.name = n
    · rw [if_pos hx] at h
      obtain rfl := Option.some.inj h
      rcases h5 with h5 | ⟨-, -, p, h7, -, h9, h10, -⟩
      · exact absurd h5 hp
      · exact ⟨p, key p h7, h9, h10⟩
    · rw [if_neg hx] at h
      obtain ⟨p, h7, h9, h10⟩ := par_of (l := l) hg.2 h hp
      exact ⟨p, key p h7, h9, h10⟩
/-- A chain, step by step. -/
theorem chain_step : ∀ {l : List Ent} {n : ByteArray} {s : Std}, GoodB l → stdT l n = some s → chainT l n = n :: (if s.par = ByteArray.empty then [] else chainT l s.par)
  | [], n, s, _, h => by cases h
  | .radar m d :: l, n, s, hg, h => chain_step (l := l) hg.2 h
  | .test t :: l, n, s, hg, h => chain_step (l := l) hg.2 h
  | .turn m o :: l, n, s, hg, h => chain_step (l := l) hg.2 h
  | .define x :: l, n, s, hg, h => by
    have h0 := h
    unfold stdT at h
    by_cases hx : x.name = n
    · rw [if_pos hx] at h
      obtain rfl := Option.some.inj h
      rw [chainT, if_pos hx, hx]
      by_cases hp : x.par = ByteArray.empty
      · rw [if_pos hp, if_pos hp]
      · rw [if_neg hp, if_neg hp]
        have he : defineE l x = 0 := by have := hg.1; unfold okEnt at this; simpa using this
        obtain ⟨-, -, h3, -, h5⟩ := defineE_zero he
        rcases h5 with h5 | ⟨-, -, p, h7, -⟩
        · exact absurd h5 hp
        · rw [chainT_cons (fresh_of hg h7)]
    · rw [if_neg hx] at h
      rw [chainT_cons (show Fresh (.define x) n from hx), chain_step (l := l) hg.2 h]
      by_cases hp : s.par = ByteArray.empty
      · rw [if_pos hp, if_pos hp]
      · rw [if_neg hp, if_neg hp]
        obtain ⟨p, h7, -⟩ := par_of (l := l) hg.2 h hp
        rw [chainT_cons (fresh_of hg h7)]
/-- What a standard was worth when it was made. -/
theorem made_step : ∀ {l : List Ent} {n : ByteArray} {s : Std}, GoodB l → stdT l n = some s →
    (s.par = ByteArray.empty → madeT l n = (s.lo, s.hi)) ∧ ∀ p, stdT l s.par = some p → s.par ≠ ByteArray.empty → madeT l n = scaledS (valueT l p s.time) (s.lo, s.hi)
  | [], n, s, _, h => by cases h
  | .radar m d :: l, n, s, hg, h => made_step (l := l) hg.2 h
  | .test t :: l, n, s, hg, h => made_step (l := l) hg.2 h
  | .turn m o :: l, n, s, hg, h => made_step (l := l) hg.2 h
  | .define x :: l, n, s, hg, h => by
    unfold stdT at h
    by_cases hx : x.name = n
    · rw [if_pos hx] at h
      obtain rfl := Option.some.inj h
      refine ⟨fun hp => by rw [madeT, if_pos hx, if_pos hp], fun p h7 hp => ?_⟩
      have he : defineE l x = 0 := by have := hg.1; unfold okEnt at this; simpa using this
      obtain ⟨-, -, h3, -, h5⟩ := defineE_zero he
      rcases h5 with h5 | ⟨-, -, q, h8, -⟩
      · exact absurd h5 hp
      · rw [stdT_cons (fresh_of hg h8), h8] at h7
        obtain rfl := Option.some.inj h7
        rw [madeT, if_pos hx, if_neg hp, h8]
        simp only
        obtain ⟨-, hq, -⟩ := good_std hg.2 h8
        unfold valueT
        rw [hq, madeT_cons (fresh_of hg h8)]
    · rw [if_neg hx] at h
      obtain ⟨a, b⟩ := made_step (l := l) hg.2 h
      refine ⟨fun hp => by rw [madeT_cons (show Fresh (.define x) n from hx)]; exact a hp, fun p h7 hp => ?_⟩
      obtain ⟨q, h8, -⟩ := par_of (l := l) hg.2 h hp
      rw [stdT_cons (fresh_of hg h8), h8] at h7
      obtain rfl := Option.some.inj h7
      rw [madeT_cons (show Fresh (.define x) n from hx), b _ h8 hp]
      obtain ⟨-, hq, -⟩ := good_std hg.2 h8
      unfold valueT
      rw [hq, madeT_cons (fresh_of hg h8)]
end Go.Proofs.Ytiggefmckomilaa
namespace Go.Proofs.Ytiggefmckomilaa
open Go Go.RowKit

/-- Nothing that lay in `w` has turned in `w'`. -/
def Later (w w' : World) : Prop := Below w.heap.size w w'
theorem Later.refl (w : World) : Later w w := Below.refl _ _
theorem Later.trans {a b c : World} (h : Later a b) (k : Later b c) : Later a c := Below.trans h (Below.mono k h.size)

/-- The blocks of a set are as they were; no block has gone. -/
structure Kept (S : Nat → Prop) (w w' : World) : Prop where
  os : w'.os = w.os
  tape : w'.tape = w.tape
  output : w'.output = w.output
  size : w.heap.size ≤ w'.heap.size
  block : ∀ k, S k → w'.heap[k]? = w.heap[k]?
theorem Kept.refl (S : Nat → Prop) (w : World) : Kept S w w := ⟨rfl, rfl, rfl, Nat.le_refl _, fun _ _ => rfl⟩
theorem Kept.trans {S : Nat → Prop} {a b c : World} (h : Kept S a b) (k : Kept S b c) : Kept S a c :=
  ⟨k.os.trans h.os, k.tape.trans h.tape, k.output.trans h.output, Nat.le_trans h.size k.size, fun i hi => (k.block i hi).trans (h.block i hi)⟩
theorem Kept.of_later {S : Nat → Prop} {a b : World} (hS : ∀ k, S k → k < a.heap.size) (h : Later a b) : Kept S a b := ⟨h.os, h.tape, h.output, h.size, fun k hk => h.block k (hS k hk)⟩
theorem Kept.of_below {B : Nat} {S : Nat → Prop} {a b : World} (hS : ∀ k, S k → k < B) (h : Below B a b) : Kept S a b := ⟨h.os, h.tape, h.output, h.size, fun k hk => h.block k (hS k hk)⟩
theorem kept_later {S : Nat → Prop} {a b c : World} (hS : ∀ k, S k → k < a.heap.size) (h : Kept S a b) (k : Later b c) : Kept S a c :=
  h.trans (Kept.of_later (fun i hi => Nat.lt_of_lt_of_le (hS i hi) h.size) k)

structure Good (S : Nat → Prop) (w0 : World) (D : World → Prop) : Prop where
  low : ∀ w, D w → Kept S w0 w
  up : ∀ w w', D w → Later w w' → D w'
  ne : ∃ w, D w

/-- A world of the class. -/
structure Of (D : World → Prop) : Type where
  val : World
  ok : D val
theorem Good.some {S : Nat → Prop} {w0 : World} {D : World → Prop} (h : Good S w0 D) : Nonempty (Of D) := let ⟨w, hw⟩ := h.ne; ⟨⟨w, hw⟩⟩
def cls (D : World → Prop) (w' : World) : Prop := ∃ x : Of D, w' = x.val
theorem cls_eq (D : World → Prop) : cls D = D := by
  funext w
  exact propext ⟨fun ⟨x, h⟩ => by rw [h]; exact x.ok, fun h => ⟨⟨w, h⟩, rfl⟩⟩

section
variable {P : Program} {md : Region.Mode} {ops : Array Oper} {S : Nat → Prop} {E : Nat → Bool} {w0 : World}

theorem calls_later {D : World → Prop} {f : FuncId} {args : Array Value} {v : Value} (hD : Good S w0 D) (x : Of D)
    (h : Calls P f args x.val fun e w'' => e = .returned v ∧ Below x.val.heap.size x.val w'') : Calls P f args x.val fun e w'' => e = .returned v ∧ ∃ y : Of D, w'' = y.val :=
  h.mono fun _ w'' ⟨he, hb⟩ => ⟨he, ⟨w'', hD.up _ _ x.ok hb⟩, rfl⟩
theorem calls_same {D : World → Prop} {f : FuncId} {args : Array Value} {v : Value} (x : Of D)
    (h : Calls P f args x.val fun e w'' => e = .returned v ∧ x.val = w'') : Calls P f args x.val fun e w'' => e = .returned v ∧ ∃ y : Of D, w'' = y.val :=
  h.mono fun _ _ ⟨he, hb⟩ => ⟨he, x, hb.symm⟩

def uponR (P : Program) (S : Nat → Prop) (early : Bool) (o : Oper) (a : Act) (w1 : World) (K : Act → World → Prop) : Result Next → Prop
  | .ok (.value v) w' => (early = true → Kept S w1 w') ∧ K (a.put o.dst v) w'
  | .ok .skip w' => (early = true → Kept S w1 w') ∧ K (a.put o.dst undef) w'
  | .ok (.enter f args) w' => Calls P f args w' fun e w'' => ∃ v, e = .returned v ∧ (early = true → Kept S w1 w'') ∧ K (a.put o.dst v) w''
  | _ => False

def opR (P : Program) (ops : Array Oper) (S : Nat → Prop) (E : Nat → Bool) (i : Nat) (K : Act → World → Prop) (a : Act) (w1 : World) : Prop :=
  match ops[i]? with
  | none => K a w1
  | some o => if Region.wanted o (yielded ops a.tmps) then uponR P S (E i) o a w1 K ((execOp a.eval o).run P w1) else K (a.put o.dst undef) w1

def anyR (P : Program) (md : Region.Mode) (ops : Array Oper) (S : Nat → Prop) (E : Nat → Bool) (Q : Act → World → Prop) : Nat → Array Bool → Act → World → Prop
  | 0, listed, a, w => Region.ready md ops listed = [] ∧ ∀ w1, Later w w1 → Q a w1
  | f + 1, listed, a, w => (Region.ready md ops listed = [] → ∀ w1, Later w w1 → Q a w1) ∧
    ∀ i ∈ Region.ready md ops listed, ∀ w1, Later w w1 → opR P ops S E i (anyR P md ops S E Q f (listed.setIfInBounds i true)) a w1

theorem anyR_up {Q : Act → World → Prop} {f : Nat} {listed : Array Bool} {a : Act} {w w' : World} (h : anyR P md ops S E Q f listed a w) (hl : Later w w') : anyR P md ops S E Q f listed a w' := by
  cases f with
  | zero => exact ⟨h.1, fun w1 h1 => h.2 w1 (hl.trans h1)⟩
  | succ f => exact ⟨fun hr w1 h1 => h.1 hr w1 (hl.trans h1), fun i hi w1 h1 => h.2 i hi w1 (hl.trans h1)⟩

theorem opR_mono {i : Nat} {K K' : Act → World → Prop} {a : Act} {w1 : World} (h : ∀ a' w', (E i = true → Kept S w1 w') → K a' w' → K' a' w') (hh : opR P ops S E i K a w1) : opR P ops S E i K' a w1 := by
  unfold opR at *
  split
  · rename_i ho; simp only [ho] at hh; exact h _ _ (fun _ => Kept.refl _ _) hh
  · rename_i o ho
    simp only [ho] at hh
    split
    · rename_i hw
      simp only [hw, if_true] at hh
      generalize (execOp a.eval o).run P w1 = r at *
      cases r with
      | ok n w' =>
        cases n <;> simp only [uponR] at hh ⊢
        case value u => exact ⟨hh.1, h _ _ hh.1 hh.2⟩
        case skip => exact ⟨hh.1, h _ _ hh.1 hh.2⟩
        case enter f args => exact hh.mono fun e w'' ⟨v, he, hb, hk⟩ => ⟨v, he, hb, h _ _ hb hk⟩
      | halt x w' => simp only [uponR] at hh
    · rename_i hw; simp only [hw] at hh; exact h _ _ (fun _ => Kept.refl _ _) hh

theorem wpOp_of_opR {i : Nat} {K K' : Act → World → Prop} {Q' : Exit → Act → World → Prop} {a : Act} {w1 : World} (h : ∀ a' w', K a' w' → K' a' w') (hh : opR P ops S E i K a w1) : wpOp P ops Q' i K' a w1 := by
  unfold opR at hh
  unfold wpOp
  split
  · rename_i ho; simp only [ho] at hh; exact h _ _ hh
  · rename_i o ho
    simp only [ho] at hh
    split
    · rename_i hw
      simp only [hw, if_true] at hh
      left
      unfold Oper.wp
      generalize (execOp a.eval o).run P w1 = r at *
      cases r with
      | ok n w' =>
        cases n <;> simp only [uponR] at hh <;> simp only [Oper.upon]
        case value u => exact h _ _ hh.2
        case skip => exact h _ _ hh.2
        case enter f args => exact hh.mono fun e w'' ⟨v, he, _, hk⟩ => by subst he; exact h _ _ hk
      | halt x w' => simp only [uponR] at hh
    · rename_i hw; simp only [hw] at hh; exact h _ _ hh

theorem wpAny_of_anyR {Q : Exit → Act → World → Prop} : ∀ (f : Nat) (listed : Array Bool) (a : Act) (w : World), anyR P md ops S E (fun a w => Q .normal a w) f listed a w → wpAny P md ops Q f listed a w
  | 0, _, _, w, h => ⟨h.1, h.2 w (Later.refl w)⟩
  | f + 1, _, _, w, h => ⟨fun hr => h.1 hr w (Later.refl w), fun i hi => wpOp_of_opR (fun a' w' hk => wpAny_of_anyR f _ a' w' hk) (h.2 i hi w (Later.refl w))⟩

/-- One value, in every class of worlds that later calls do not leave. -/
def QuietAt (P : Program) (ops : Array Oper) (S : Nat → Prop) (w0 : World) (o : Oper) (v : Value) (a : Act) : Prop :=
  ∀ D, Good S w0 D → ∃ u, YieldsIn P ops D o u a ∧ a.put o.dst u = a.put o.dst v

theorem QuietAt.keep {oi oj : Oper} {v u : Value} {a : Act} (hap : oi.apart ops oj = true) (hsi : ∀ cs b, oi.op ≠ .select cs b) (h : QuietAt P ops S w0 oi v a) : QuietAt P ops S w0 oi v (a.put oj.dst u) := by
  obtain ⟨_, h2, h3⟩ := Oper.apart_spec hap
  intro D hD
  obtain ⟨x, hy, he⟩ := h D hD
  refine ⟨x, hy.of_same (execOp_put oi hsi a oj.dst u h3) (wanted_put oi a oj.dst u h3), ?_⟩
  rw [← Act.put_comm a x u h2, ← Act.put_comm a v u h2, he]

theorem opR_put {j : Nat} {oi oj : Oper} {v : Value} (hj : ops[j]? = some oj) (hap : oi.apart ops oj = true) (hsi : ∀ cs b, oi.op ≠ .select cs b) (hsj : ∀ cs b, oj.op ≠ .select cs b)
    {K : Act → World → Prop} {a : Act} {w1 : World} (hy : QuietAt P ops S w0 oi v a) (h : opR P ops S E j K (a.put oi.dst v) w1) :
    opR P ops S E j (fun a' w' => QuietAt P ops S w0 oi v a' ∧ K (a'.put oi.dst v) w') a w1 := by
  obtain ⟨h1, h2, _⟩ := Oper.apart_spec hap
  unfold opR at *
  simp only [hj] at *
  rw [wanted_put oj a oi.dst v h1, execOp_put oj hsj a oi.dst v h1] at h
  split
  · rename_i hw
    simp only [hw, if_true] at h
    generalize (execOp a.eval oj).run P w1 = r at *
    cases r with
    | ok n w' =>
      cases n <;> simp only [uponR] at h ⊢
      case value u => exact ⟨h.1, hy.keep hap hsi, by rw [← Act.put_comm a v u h2]; exact h.2⟩
      case skip => exact ⟨h.1, hy.keep hap hsi, by rw [← Act.put_comm a v undef h2]; exact h.2⟩
      case enter f args => exact h.mono fun e w'' ⟨u, he, hb, hk⟩ => ⟨u, he, hb, hy.keep hap hsi, by rw [← Act.put_comm a v u h2]; exact hk⟩
    | halt x w' => simp only [uponR] at h
  · rename_i hw
    simp only [hw] at h
    exact ⟨hy.keep hap hsi, by rw [← Act.put_comm a v undef h2]; exact h⟩

theorem opR_quiet {i : Nat} {oi : Oper} {v : Value} (hi : ops[i]? = some oi) (hS : ∀ k, S k → k < w0.heap.size) {K : Act → World → Prop} {a : Act} {w1 : World} (hw1 : Kept S w0 w1) (hy : QuietAt P ops S w0 oi v a)
    (hK : ∀ w2, Later w1 w2 → K (a.put oi.dst v) w2) : opR P ops S E i K a w1 := by
  have hS1 : ∀ k, S k → k < w1.heap.size := fun k hk => Nat.lt_of_lt_of_le (hS k hk) hw1.size
  obtain ⟨u, hyu, he⟩ := hy (Later w1) ⟨fun w h => hw1.trans (Kept.of_later hS1 h), fun _ _ h h' => h.trans h', w1, Later.refl w1⟩
  unfold opR
  simp only [hi]
  rcases hyu with ⟨hw, hq⟩ | ⟨hw, hu⟩
  · simp only [hw, if_true]
    have hq := hq w1 (Later.refl w1)
    unfold Oper.quietAt at hq
    generalize (execOp a.eval oi).run P w1 = r at *
    cases r with
    | ok n w' =>
      cases n <;> simp only [Oper.quietUpon] at hq <;> simp only [uponR]
      case value x => obtain ⟨e1, e2⟩ := hq; subst e1; subst e2; exact ⟨fun _ => Kept.refl _ _, by rw [he]; exact hK _ (Later.refl _)⟩
      case skip => obtain ⟨e1, e2⟩ := hq; subst e1; subst e2; exact ⟨fun _ => Kept.refl _ _, by rw [he]; exact hK _ (Later.refl _)⟩
      case enter f args =>
        obtain ⟨e1, hc⟩ := hq
        subst e1
        exact hc.mono fun e w'' ⟨h1, h2⟩ => ⟨u, h1, fun _ => Kept.of_later hS1 h2, by rw [he]; exact hK _ h2⟩
    | halt x w' => simp only [Oper.quietUpon] at hq
  · simp only [hw]
    subst hu
    rw [he]
    exact hK _ (Later.refl _)

/-! ### Operations that wait for all quiet ones -/

def waitsFor (md : Region.Mode) (ops : Array Oper) (j i : Nat) : Bool :=
  match ops[j]? with
  | some oj => oj.after.any fun e => Region.binds md e && e.on == i
  | none => false
/-- The operations from `n` on come up behind all others: each one before them has a follower up to `n`, and each one behind `n` waits for the one ahead of it. -/
def lateB (md : Region.Mode) (ops : Array Oper) (n : Nat) : Bool :=
  decide (ops.size ≤ n) || ((List.range n).all fun i => (List.range (n + 1)).any fun j => decide (i < j) && waitsFor md ops j i) && ((List.range ops.size).all fun t => decide (t ≤ n) || waitsFor md ops t (t - 1))
def Closed (md : Region.Mode) (ops : Array Oper) (listed : Array Bool) : Prop :=
  listed.size = ops.size ∧ ∀ j oj, ops[j]? = some oj → listed.getD j false = true → ∀ e ∈ oj.after, Region.binds md e = true → listed.getD e.on false = true

theorem getD_ff {listed : Array Bool} {i : Nat} (h : listed.getD i true = false) : listed.getD i false = false := by
  rcases Nat.lt_or_ge i listed.size with h' | h'
  · simp [h'] at h ⊢; exact h
  · simp [Array.getElem?_eq_none h'] at h
theorem Closed.set {i : Nat} {listed : Array Bool} (h : Closed md ops listed) (hi : i ∈ Region.ready md ops listed) : Closed md ops (listed.setIfInBounds i true) := by
  obtain ⟨_, oi, hoi, hall⟩ := mem_ready.1 hi
  refine ⟨by simp [h.1], fun j oj hj hl e he hb => ?_⟩
  by_cases hij : i = j
  · subst hij
    have : oj = oi := Option.some.inj (hj.symm.trans hoi)
    subst this
    exact getD_set_true (hall e he hb)
  · rw [getD_set_ne false hij] at hl
    exact getD_set_true (h.2 j oj hj hl e he hb)
theorem waits_spec {j i : Nat} (h : waitsFor md ops j i = true) : ∃ oj, ops[j]? = some oj ∧ ∃ e ∈ oj.after, Region.binds md e = true ∧ e.on = i := by
  unfold waitsFor at h
  split at h
  · rename_i oj hj
    obtain ⟨e, he, hb⟩ := Array.any_eq_true'.1 h
    simp only [Bool.and_eq_true, beq_iff_eq] at hb
    exact ⟨oj, hj, e, he, hb.1, hb.2⟩
  · cases h
theorem late_head {n : Nat} {listed : Array Bool} (hc : Closed md ops listed) (hs : ((List.range n).all fun i => (List.range (n + 1)).any fun j => decide (i < j) && waitsFor md ops j i) = true) (hn : n < ops.size) :
    ∀ (d i : Nat), n - i = d → i < n → listed.getD i true = false → n ∉ Region.ready md ops listed ∧ listed.getD n false = false := by
  intro d
  induction d using Nat.strongRecOn with
  | _ d ih =>
    intro i hd hi hun
    have h1 := List.all_eq_true.1 hs i (List.mem_range.2 hi)
    obtain ⟨j, hj, hj2⟩ := List.any_eq_true.1 h1
    simp only [Bool.and_eq_true, decide_eq_true_eq] at hj2
    obtain ⟨oj, hoj, e, he, hb, hon⟩ := waits_spec hj2.2
    have hjle : j ≤ n := by have := List.mem_range.1 hj; omega
    have hjun : listed.getD j false = false := by
      cases hl : listed.getD j false with
      | false => rfl
      | true =>
        have := hc.2 j oj hoj hl e he hb
        rw [hon, getD_ff hun] at this
        cases this
    by_cases hjn : j = n
    · subst hjn
      refine ⟨fun hr => ?_, hjun⟩
      obtain ⟨_, o, ho, hall⟩ := mem_ready.1 hr
      have : o = oj := Option.some.inj (ho.symm.trans hoj)
      subst this
      have := hall e he hb
      rw [hon, getD_ff hun] at this
      cases this
    · have hjs : j < listed.size := by rw [hc.1]; omega
      exact ih (n - j) (by omega) j rfl (by omega) (by simp [hjs] at hjun ⊢; exact hjun)
theorem late_spec {n i j : Nat} {listed : Array Bool} (hc : Closed md ops listed) (hl : lateB md ops n = true) (hi : i < n) (hun : listed.getD i true = false) (hj : j ∈ Region.ready md ops listed) : j < n := by
  rcases Nat.lt_or_ge j n with h | h
  · exact h
  · exfalso
    obtain ⟨_, oj, hoj, hall⟩ := mem_ready.1 hj
    have hjs : j < ops.size := (Array.getElem?_eq_some_iff.1 hoj).1
    simp only [lateB, Bool.or_eq_true, decide_eq_true_eq, Bool.and_eq_true] at hl
    rcases hl with hl | ⟨hs, hch⟩
    · omega
    obtain ⟨h1, h2⟩ := late_head hc hs (by omega) _ i rfl hi hun
    by_cases hjn : j = n
    · subst hjn; exact h1 hj
    · -- each one from n on is unlisted
      have up : ∀ m, n + m < ops.size → listed.getD (n + m) false = false := by
        intro m
        induction m with
        | zero => intro _; exact h2
        | succ m ih =>
          intro hm
          have hw := List.all_eq_true.1 hch (n + (m + 1)) (List.mem_range.2 hm)
          simp only [Bool.or_eq_true, decide_eq_true_eq] at hw
          rcases hw with hw | hw
          · omega
          obtain ⟨o, ho, e, he, hb, hon⟩ := waits_spec hw
          cases hq : listed.getD (n + (m + 1)) false with
          | false => rfl
          | true =>
            have := hc.2 _ o ho hq e he hb
            rw [hon, show n + (m + 1) - 1 = n + m by omega, ih (by omega)] at this
            cases this
      have hw := List.all_eq_true.1 hch j (List.mem_range.2 hjs)
      simp only [Bool.or_eq_true, decide_eq_true_eq] at hw
      rcases hw with hw | hw
      · omega
      obtain ⟨o, ho, e, he, hb, hon⟩ := waits_spec hw
      have : o = oj := Option.some.inj (ho.symm.trans hoj)
      subst this
      have h3 := hall e he hb
      have h4 := up (j - 1 - n) (by omega)
      rw [hon] at h3
      rw [show n + (j - 1 - n) = j - 1 by omega, h3] at h4
      cases h4

theorem anyR_first {Q : Act → World → Prop} {n i : Nat} {oi : Oper} {v : Value} (hi : ops[i]? = some oi) (hsel : ∀ (j : Nat) (o : Oper) cs b, ops[j]? = some o → o.op ≠ .select cs b) (hS : ∀ k, S k → k < w0.heap.size)
    (hlate : lateB md ops n = true) (hin : i < n) (hE : ∀ j, j < n → E j = true) :
    ∀ (fuel : Nat) (listed : Array Bool) (a : Act) (w : World), Closed md ops listed →
      (∀ j oj, ops[j]? = some oj → j ≠ i → listed.getD j true = false → (∀ e ∈ oj.after, Region.binds md e = true → e.on ≠ i) → oi.apart ops oj = true) →
      i ∈ Region.ready md ops listed → Kept S w0 w → QuietAt P ops S w0 oi v a →
      anyR P md ops S E Q fuel (listed.setIfInBounds i true) (a.put oi.dst v) w → anyR P md ops S E Q (fuel + 1) listed a w := by
  intro fuel
  induction fuel with
  | zero =>
    intro listed a w _ _ hr hw hy H
    refine ⟨fun h => (by rw [h] at hr; cases hr), fun j hj w1 h1 => ?_⟩
    have hw1 : Kept S w0 w1 := kept_later hS hw h1
    by_cases hji : j = i
    · subst hji; exact opR_quiet hi hS hw1 hy fun w2 h2 => anyR_up H (h1.trans h2)
    · have := ready_mono hj hji
      rw [H.1] at this
      cases this
  | succ fuel ih =>
    intro listed a w hcl hfree hr hw hy H
    refine ⟨fun h => (by rw [h] at hr; cases hr), fun j hj w1 h1 => ?_⟩
    have hw1 : Kept S w0 w1 := kept_later hS hw h1
    by_cases hji : j = i
    · subst hji; exact opR_quiet hi hS hw1 hy fun w2 h2 => anyR_up H (h1.trans h2)
    · have hst := H.2 j (ready_mono hj hji) w1 h1
      have hjn : j < n := late_spec hcl hlate hin (mem_ready.1 hr).1 hj
      obtain ⟨hjun, oj, hoj, hall⟩ := mem_ready.1 hj
      have hnot : ∀ e ∈ oj.after, Region.binds md e = true → e.on ≠ i := fun e he hb heq => by
        have h1 := hall e he hb
        have h0 := (mem_ready.1 hr).1
        rw [heq] at h1
        rcases Nat.lt_or_ge i listed.size with h' | h'
        · simp [h'] at h0 h1; rw [h0] at h1; cases h1
        · simp [Array.getElem?_eq_none h'] at h1
      have h2 := opR_put hoj (hfree j oj hoj hji hjun hnot) (fun cs b => hsel i oi cs b hi) (fun cs b => hsel j oj cs b hoj) hy hst
      have hfree' : ∀ k ok, ops[k]? = some ok → k ≠ i → (listed.setIfInBounds j true).getD k true = false →
          (∀ e ∈ ok.after, Region.binds md e = true → e.on ≠ i) → oi.apart ops ok = true := fun k ok hk hki hun hno => by
        refine hfree k ok hk hki ?_ hno
        by_cases hjk : j = k
        · subst hjk; exact hjun
        · rw [getD_set_ne true hjk] at hun; exact hun
      refine opR_mono (fun a' w' hb h3 => ih (listed.setIfInBounds j true) a' w' (hcl.set hj) hfree' (ready_mono hr (Ne.symm hji)) (hw1.trans (hb (hE j hjn))) h3.1 ?_) h2
      rw [Array.setIfInBounds_comm _ _ hji]
      exact h3.2

/-! ### The walk of the quiet operations, in the order of the text -/

/-- Which of the operations are taken, and how the list of those that have come up stands behind them. -/
def takeOps : List Bool → List Oper → List Oper
  | true :: m, o :: l => o :: takeOps m l
  | false :: m, _ :: l => takeOps m l
  | _, _ => []
def dstB : List Oper → Bool
  | [] => true
  | o :: l => l.all (fun o' => o.dst.isNone || o'.dst != o.dst) && dstB l
def peelB (md : Region.Mode) (ops : Array Oper) (n : Nat) : List Bool → Nat → Array Bool → Array Bool → Bool
  | [], _, listed, after => listed == after
  | true :: m, k, listed, after => decide (k < n) && (Region.ready md ops listed).contains k && Region.free md ops listed k && peelB md ops n m (k + 1) (listed.setIfInBounds k true) after
  | false :: m, k, listed, after => peelB md ops n m (k + 1) listed after

theorem put_slot {a : Act} {d : Tmp} {u v : Value} (h : (a.put (some d) u).tmps[d]? = (a.put (some d) v).tmps[d]?) : a.put (some d) u = a.put (some d) v := by
  unfold Act.put at *
  simp only at *
  rcases Nat.lt_or_ge d a.tmps.size with hd | hd
  · simp [hd] at h
    rw [h]
  · rw [Array.setIfInBounds_eq_of_size_le hd, Array.setIfInBounds_eq_of_size_le hd]

theorem final_slot {C : World → Prop} {af : Act} {d : Tmp} : ∀ (l : List Oper) (a : Act), (∀ o ∈ l, o.dst ≠ some d) → wpQuiet P ops C (fun a' => a' = af) l a → af.tmps[d]? = a.tmps[d]?
  | [], a, _, h => by rw [show a = af from h]
  | o :: l, a, hd, h => by
    have h' : ∃ v, wpQuiet P ops C (fun a' => a' = af) l (a.put o.dst v) := by
      unfold wpQuiet at h
      split at h
      · obtain ⟨v, _, hn⟩ := h; exact ⟨v, hn⟩
      · exact ⟨_, h⟩
    obtain ⟨v, hn⟩ := h'
    rw [final_slot l _ (fun o' ho => hd o' (List.mem_cons_of_mem _ ho)) hn]
    have hne := hd o List.mem_cons_self
    cases ho : o.dst with
    | none => rfl
    | some x =>
      have hx : x ≠ d := fun e => hne (by rw [ho, e])
      simp [Act.put, hx]

theorem anyR_peel_go {Q : Act → World → Prop} {n : Nat} (hs : Region.noSelect ops = true) (hS : ∀ k, S k → k < w0.heap.size) (hlate : lateB md ops n = true) (hE : ∀ j, j < n → E j = true)
    {af : Act} {fuel : Nat} {after : Array Bool} {w : World} (hw : Kept S w0 w) :
    ∀ (m : List Bool) (l : List Oper) (k : Nat) (listed : Array Bool) (a : Act), Closed md ops listed → (∀ j, l[j]? = ops[k + j]?) → peelB md ops n m k listed after = true → dstB (takeOps m l) = true →
      (∀ D, Good S w0 D → wpQuiet P ops (cls D) (fun a' => a' = af) (takeOps m l) a) → anyR P md ops S E Q fuel after af w → anyR P md ops S E Q ((takeOps m l).length + fuel) listed a w
  | [], l, k, listed, a, _, _, hp, _, hq, h => by
    have hl : listed = after := by simpa [peelB] using hp
    have ha : a = af := by
      have := hq (Kept S w0) ⟨fun _ h => h, fun _ _ h h' => kept_later hS h h', w0, Kept.refl _ _⟩
      simpa [takeOps, wpQuiet] using this
    subst hl
    subst ha
    simpa [takeOps] using h
  | false :: m, [], k, listed, a, hcl, hl, hp, hd, hq, h => by
    have e2 : takeOps m [] = [] := by cases m with | nil => rfl | cons b m => cases b <;> rfl
    have r := anyR_peel_go hs hS hlate hE hw m [] (k + 1) listed a hcl (fun j => by have := hl (j + 1); simpa [Nat.add_assoc, Nat.add_comm 1 j] using this) (by simpa [peelB] using hp) (by rw [e2]; rfl) (fun D hD => by rw [e2]; exact hq D hD) h
    rw [e2] at r
    exact r
  | false :: m, o :: l, k, listed, a, hcl, hl, hp, hd, hq, h =>
    anyR_peel_go hs hS hlate hE hw m l (k + 1) listed a hcl (fun j => by have := hl (j + 1); simpa [Nat.add_assoc, Nat.add_comm 1 j] using this) (by simpa [peelB] using hp) hd hq h
  | true :: m, [], k, listed, a, _, hl, hp, _, _, _ => by
    simp only [peelB, Bool.and_eq_true] at hp
    have hr : k ∈ Region.ready md ops listed := by simpa using hp.1.1.2
    obtain ⟨_, o, ho, _⟩ := mem_ready.1 hr
    have := hl 0
    simp [ho] at this
  | true :: m, o :: l, k, listed, a, hcl, hl, hp, hd, hq, h => by
    have h0 : ops[k]? = some o := by simpa using (hl 0).symm
    simp only [peelB, Bool.and_eq_true, decide_eq_true_eq] at hp
    obtain ⟨⟨⟨hkn, hr⟩, hf⟩, hp'⟩ := hp
    have hr' : k ∈ Region.ready md ops listed := by simpa using hr
    simp only [takeOps, dstB, Bool.and_eq_true, List.all_eq_true] at hd
    have step : ∀ D, Good S w0 D → ∃ v, YieldsIn P ops D o v a ∧ wpQuiet P ops (cls D) (fun a' => a' = af) (takeOps m l) (a.put o.dst v) := fun D hD => by
      have := hq D hD
      have hk : qOp P ops (cls D) k (wpQuiet P ops (cls D) (fun a' => a' = af) (takeOps m l)) a := by unfold qOp; simp only [h0]; exact this
      obtain ⟨v, hy, hn⟩ := yieldsIn_of_qOp h0 hk
      rw [cls_eq] at hy
      exact ⟨v, hy, hn⟩
    obtain ⟨v, _, hn0⟩ := step (Kept S w0) ⟨fun _ h => h, fun _ _ h h' => kept_later hS h h', w0, Kept.refl _ _⟩
    have same : ∀ D, Good S w0 D → ∀ u, wpQuiet P ops (cls D) (fun a' => a' = af) (takeOps m l) (a.put o.dst u) → a.put o.dst u = a.put o.dst v := fun D _ u hu => by
      cases ho : o.dst with
      | none => rfl
      | some d =>
        rw [ho] at hu hn0
        have hne : ∀ o' ∈ takeOps m l, o'.dst ≠ some d := fun o' ho' => by
          have := hd.1 o' ho'
          simpa [ho] using this
        exact put_slot ((final_slot _ _ hne hu).symm.trans (final_slot _ _ hne hn0))
    have hqa : QuietAt P ops S w0 o v a := fun D hD => by
      obtain ⟨u, hy, hn⟩ := step D hD
      exact ⟨u, hy, same D hD u hn⟩
    have rest := anyR_peel_go hs hS hlate hE hw m l (k + 1) (listed.setIfInBounds k true) (a.put o.dst v) (hcl.set hr') (fun j => by have := hl (j + 1); simpa [Nat.add_assoc, Nat.add_comm 1 j] using this) hp' hd.2 (fun D hD => by
      obtain ⟨u, _, hn⟩ := step D hD
      rw [← same D hD u hn]; exact hn) h
    have e : (takeOps (true :: m) (o :: l)).length + fuel = (takeOps m l).length + fuel + 1 := by simp [takeOps]; omega
    rw [e]
    exact anyR_first h0 (Region.noSelect_spec hs) hS hlate hkn hE _ listed a w hcl (Region.free_spec h0 hf) hr' hw hqa rest

def closedB (md : Region.Mode) (ops : Array Oper) (listed : Array Bool) : Bool :=
  listed.size == ops.size && (List.range ops.size).all fun j => !listed.getD j false || match ops[j]? with
    | some oj => oj.after.all fun e => !Region.binds md e || listed.getD e.on false
    | none => true
theorem closed_of {listed : Array Bool} (h : closedB md ops listed = true) : Closed md ops listed := by
  simp only [closedB, Bool.and_eq_true, beq_iff_eq, List.all_eq_true, List.mem_range] at h
  refine ⟨h.1, fun j oj hj hl e he hb => ?_⟩
  have := h.2 j (Array.getElem?_eq_some_iff.1 hj).1
  simp only [hl, hj, Bool.not_true, Bool.false_or] at this
  have := (Array.all_eq_true_iff_forall_mem.1 this) e he
  simpa [hb] using this

/-- THE QUIET OPERATIONS FIRST: `m` says which; `after` which have come up behind them; the operations from `n` on wait for all others and may turn anything. -/
theorem anyR_peel {Q : Act → World → Prop} {lops : List Oper} {listed a af w fuel len} (n : Nat) (m : List Bool) (after : Array Bool)
    (hb : (Region.noSelect lops.toArray && lateB md lops.toArray n && closedB md lops.toArray listed && peelB md lops.toArray n m 0 listed after && dstB (takeOps m lops)) = true) (hn : len = (takeOps m lops).length + fuel) (hE : ∀ j, j < n → E j = true)
    (hS : ∀ k, S k → k < w.heap.size)
    (hq : ∀ D, Good S w D → wpQuiet P lops.toArray (fun w' => ∃ x : Of D, w' = x.val) (fun a' => a' = af) (takeOps m lops) a) (h : anyR P md lops.toArray S E Q fuel after af w) : anyR P md lops.toArray S E Q len listed a w := by
  simp only [Bool.and_eq_true] at hb
  obtain ⟨⟨⟨⟨hs, hl⟩, hc⟩, hp⟩, hd⟩ := hb
  rw [hn]
  exact anyR_peel_go hs hS hl hE (Kept.refl _ _) m lops 0 listed a (closed_of hc) (by simp) hp hd hq h

/-- What is known of a cell stays known in every world of a class. -/
theorem lift {D : World → Prop} {w : World} (hD : Good S w D) {p : Addr} {v : Value} (h : w.cell? p = some v) (hp : S p.block) (x : Of D) : x.val.cell? p = some v :=
  (World.cell?_of_block (w := w) ((hD.low _ x.ok).block p.block hp)).trans h

/-- A region that draws its order. -/
theorem wp_region_R {id : Nat} {Q : Exit → Act → World → Prop} {a : Act} {w : World} {lops : List Oper} (S : Nat → Prop) (n : Nat) (hm : P.follows .mixedOrders = true)
    (h : anyR P .any lops.toArray S (fun j => decide (j < n)) (fun a w => Q .normal a w) lops.length (Array.replicate lops.length false) a w) : (Code.region id lops.toArray true).wp P Q a w :=
  wp_region_any hm (wpAny_of_anyR _ _ _ _ (by
    have := anyR_up h (w' := w.drew) ⟨rfl, rfl, rfl, Nat.le_refl _, fun _ _ => rfl⟩
    simpa using this))

/-- Nothing is left. -/
theorem anyR_done {Q : Act → World → Prop} {f : Nat} {listed : Array Bool} {a : Act} {w : World} (hr : Region.ready md ops listed = []) (h : ∀ w1, Later w w1 → Q a w1) : anyR P md ops S E Q f listed a w := by
  cases f with
  | zero => exact ⟨hr, h⟩
  | succ f => exact ⟨fun _ => h, fun i hi => by rw [hr] at hi; cases hi⟩

/-- Just one operation can come up. -/
theorem anyR_one {Q : Act → World → Prop} {f : Nat} {listed : Array Bool} {a : Act} {w : World} (i : Nat) (after : Array Bool) (hr : Region.ready md ops listed = [i]) (he : (listed.setIfInBounds i true == after) = true)
    (h : ∀ w1, Later w w1 → opR P ops S E i (anyR P md ops S E Q f after) a w1) : anyR P md ops S E Q (f + 1) listed a w := by
  have he' : listed.setIfInBounds i true = after := by simpa using he
  subst he'
  refine ⟨fun h0 => ?_, fun j hj => ?_⟩
  · rw [hr] at h0; cases h0
  · rw [hr] at hj
    have hji : j = i := by simpa using hj
    subst hji
    exact h
end
end Go.Proofs.Ytiggefmckomilaa
namespace Go.Proofs.Ytiggefmckomilaa
open Go.RowKit

/-- The slice value `.slice A n c` reads as `m` integer cells `zs`, all below block `B`. -/
def Ints (w : World) (B : Nat) (k : IntKind) (A : Option Addr) (zs : List Int) : Prop :=
  0 < zs.length → ∃ b off, A = some ⟨b, off, none⟩ ∧ b < B ∧ ∀ j, j < zs.length → w.cell? ⟨b, off + j, none⟩ = some (.int k (zs.getD j 0))

section
variable {w w' : World} {B B' : Nat} {k : IntKind} {A : Option Addr} {zs : List Int}
theorem Ints.nil_ (w : World) (B : Nat) (k : IntKind) (A : Option Addr) : Ints w B k A [] := fun h => absurd h (by simp)
theorem Ints.keep (h : Ints w B k A zs) (hk : ∀ b o, b < B → w'.cell? ⟨b, o, none⟩ = w.cell? ⟨b, o, none⟩) : Ints w' B k A zs := fun hn => by
  obtain ⟨b, off, e, hb, hc⟩ := h hn
  exact ⟨b, off, e, hb, fun j hj => (hk _ _ hb).trans (hc j hj)⟩
theorem Ints.more (h : Ints w B k A zs) (hB : B ≤ B') : Ints w B' k A zs := fun hn => by
  obtain ⟨b, off, e, hb, hc⟩ := h hn
  exact ⟨b, off, e, by omega, hc⟩
theorem Ints.below (h : Ints w B k A zs) (hb : Below B w w') : Ints w' B k A zs := h.keep fun _ _ hp => hb.cell hp
theorem Ints.below' {C : Nat} (h : Ints w B k A zs) (hb : Below C w w') (hC : B ≤ C) : Ints w' B k A zs := h.below (hb.mono hC)
theorem Ints.own {base : Nat} {e : TypeId} {size n c : Nat} {xs : List Value} (h : w.ownsRow base e size (.slice A n c) n xs) (hx : xs = zs.map (Value.int k)) (hB : w.heap.size ≤ B) : Ints w B k A zs := fun hn => by
  subst hx
  rcases h.2 with ⟨_, h0⟩ | ⟨g, cap, cur, hv, _, hg, _⟩
  · have := h.1; rw [h0] at this; simp at this; subst this; simp at hn
  have hA : A = some ⟨g, 0, none⟩ := by injection hv
  subst hA
  refine ⟨g, 0, rfl, ?_, fun j hj => ?_⟩
  · rcases Nat.lt_or_ge g w.heap.size with hlt | hge
    · omega
    · rw [Array.getElem?_eq_none hge] at hg; cases hg
  have := h.cells (g := g) rfl j (.int k (zs.getD j 0)) (by simp [List.getD, hj])
  by_cases h0 : j = 0
  · subst h0; simpa [Addr.add] using this
  · simpa [Addr.add, h0] using this
end

/-- What lay below the block `B` reads as it did: two rules that the walk uses by itself. -/
theorem bcell {B : Nat} {W w1 : World} (hb : Below B W w1) : (∀ b o, b < B → w1.cell? ⟨b, o, none⟩ = W.cell? ⟨b, o, none⟩) ∧ (∀ b o, b < B → w1.frozen? ⟨b, o, none⟩ = W.frozen? ⟨b, o, none⟩) :=
  ⟨fun b o h => hb.cell (p := ⟨b, o, none⟩) h, fun b o h => hb.frozen (p := ⟨b, o, none⟩) h⟩

/-- A block that is known whole. -/
def Blk (w : World) (g : Nat) (t : TypeId) (cs : Array Value) : Prop := w.heap[g]? = some (.cells cs t (0, 0))
section
variable {w w' : World} {g : Nat} {t : TypeId} {cs : Array Value}
theorem Blk.lt (h : Blk w g t cs) : g < w.heap.size := by
  rcases Nat.lt_or_ge g w.heap.size with hlt | hge
  · exact hlt
  · unfold Blk at h; rw [Array.getElem?_eq_none hge] at h; cases h
theorem Blk.cell (h : Blk w g t cs) (i : Nat) : w.cell? ⟨g, i, none⟩ = cs[i]? := cell_of_row w g i cs t (0, 0) h
theorem Blk.frozen (h : Blk w g t cs) (i : Nat) : w.frozen? ⟨g, i, none⟩ = false := by
  unfold Blk at h
  simp [World.frozen?, h]
theorem Blk.new (w : World) (t : TypeId) (cs : Array Value) : Blk (w.alloc (.cells cs t)) w.heap.size t cs := heap_alloc_new w _
theorem Blk.alloc (h : Blk w g t cs) (o : Obj) : Blk (w.alloc o) g t cs := (Below.heap_alloc w o g h.lt).trans h
theorem Blk.set_ (h : Blk w g t cs) (i : Nat) (u : Value) : Blk (w.setCell ⟨g, i, none⟩ u) g t (cs.setIfInBounds i u) := by
  unfold Blk at h ⊢
  simp [World.setCell, Array.getElem?_modify, h]
theorem Blk.far (h : Blk w g t cs) {p : Addr} (hp : g ≠ p.block) (u : Value) : Blk (w.setCell p u) g t cs := (Below.heap_setCell w p u g hp).trans h
theorem Blk.below {B : Nat} (h : Blk w g t cs) (hb : Below B w w') (hg : g < B) : Blk w' g t cs := (hb.block g hg).trans h
end

theorem below_drewN {B : Nat} {a w : World} (h : Below B a w) (n : Nat) : Below B a (w.drewN n) := ⟨h.os, h.tape, h.output, h.size, h.block⟩
theorem hide {p : Prop} (h : p) : Hid p := h
theorem unhide {p : Prop} (h : Hid p) : p := h
theorem ret_int {k : IntKind} {a b : Int} (h : a = b) : Ending.returned (.int k a) = .returned (.int k b) := by rw [h]
theorem ret_bool {a b : Bool} (h : a = b) : Ending.returned (.bool a) = .returned (.bool b) := by rw [h]

end Go.Proofs.Ytiggefmckomilaa
