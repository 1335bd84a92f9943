/-
  Names: which bytes they are made of; runes beyond ASCII; no program in sight.
  Words of 64 bits: quotients of two words by one, products; plain words.
  Winds: half-planes, corners, and what is left of an area within one more border; plain words.
  Winds: areas of sights; what is feasible; three sights that are in conflict; plain words.
  Winds: how fast winds of an area go along a direction: the area's corners and the document's say the same; plain words.
  Winds: halving; the document's upper speed; plain words.
  Winds: the sets of k numbers below n, in order; plain words.
  Winds: blame, what is left out, fronts: the program's searches find what the document's find; plain words.
  Winds: the ends of bounds, narrower sights, other orders, turned sights, the strain; plain words.
-/
import Derived.Lib.IndexLaws
import Derived.Lib.TrimU
import Derived.Laws.RangeString
set_option linter.unusedSimpArgs false
set_option linter.unusedVariables false
section
namespace Go.Proofs.Ytllpffkifleigaa
open Go

/-- The bytes of names. -/
def isAl (n : Nat) : Bool := (decide (97 ≤ n) && decide (n ≤ 122)) || (decide (48 ≤ n) && decide (n ≤ 57)) || decide (n = 95)
def alphaA : ByteArray := ⟨#[97, 98, 99, 100, 101, 102, 103, 104, 105, 106, 107, 108, 109, 110, 111, 112, 113, 114, 115, 116, 117, 118, 119, 120, 121, 122, 48, 49, 50, 51, 52, 53, 54, 55, 56, 57, 95]⟩
theorem index_al : ∀ c : Fin 128, decide (0 ≤ Lib.indexByte alphaA.data.toList ((c.val : Int).toNat.toUInt8)) = isAl c.val := by decide +kernel
theorem index_al' {c : Nat} (h : c < 128) : decide (0 ≤ Lib.indexByte alphaA.data.toList ((c : Int).toNat.toUInt8)) = isAl c := index_al ⟨c, h⟩
theorem al_ascii : ∀ b ∈ alphaA.data.toList, b.toNat < 128 := by decide +kernel
theorem isAl_lt {n : Nat} (h : isAl n = true) : n < 128 := by
  unfold isAl at h
  simp only [Bool.or_eq_true, Bool.and_eq_true, decide_eq_true_eq] at h
  omega
theorem indexByte_no : ∀ {l : List UInt8} {c : UInt8}, (∀ b ∈ l, b ≠ c) → Lib.indexByte l c = -1
  | [], _, _ => rfl
  | b :: l, c, h => by
    have ih := indexByte_no (l := l) (c := c) (fun x hx => h x (List.mem_cons_of_mem _ hx))
    have hb := h b (List.mem_cons_self ..)
    unfold Lib.indexByte
    rw [if_neg (by simpa using hb), if_pos (by rw [ih]; rfl)]
/-- What a rune beyond ASCII is written as. -/
theorem encode_far {c : Int} (h : 128 ≤ c) : ∃ n : Nat, (Utf8.encode c).size = n + 2 ∧ n ≤ 2 ∧ ∃ u : UInt8, (Utf8.encode c)[n + 1]? = some u ∧ 128 ≤ u.toNat := by
  unfold Utf8.encode
  have hc : 128 ≤ (if Utf8.valid c = true then c.toNat else Utf8.runeError) := by
    split
    · omega
    · decide
  generalize (if Utf8.valid c = true then c.toNat else Utf8.runeError) = d at *
  have hu : 128 ≤ (UInt8.ofNat (0x80 + d % 64)).toNat := by
    rw [UInt8.toNat_ofNat']; omega
  simp only
  rw [if_neg (by omega)]
  split
  · exact ⟨0, rfl, by omega, _, rfl, hu⟩
  · split
    · exact ⟨1, rfl, by omega, _, rfl, hu⟩
    · exact ⟨2, rfl, by omega, _, rfl, hu⟩
/-- A byte beyond ASCII never begins an ASCII rune. -/
theorem decode_far (s : ByteArray) (pos : Nat) (h : pos < s.size) (hb : 128 ≤ (s[pos]'h).toNat) : 128 ≤ (Utf8.decode s pos).1 := by
  have e : s.get! (pos + 0) = s[pos]'h := by
    show s.get! pos = _
    simp [ByteArray.get!, getElem!_pos, h]
    rfl
  unfold Utf8.decode
  simp only [e]
  rw [if_neg (by omega)]
  repeat' split
  all_goals simp_all [Utf8.runeError]
  all_goals omega
/-- Names. -/
def nameB (s : ByteArray) : Bool := decide (s.size ≠ 0) && decide (s.size ≤ 12) && decide (97 ≤ (s.data.toList.getD 0 0).toNat) && decide ((s.data.toList.getD 0 0).toNat ≤ 122) && s.data.toList.all fun b => isAl b.toNat
end Go.Proofs.Ytllpffkifleigaa
end
section
namespace Go.Proofs.Ytllpffkifleigaa

/-- The school's division: how an estimated digit becomes the true one. -/
structure DivS (yn1 yn0 u un1 q r : Nat) : Prop where
  a1 : 2147483648 ≤ yn1
  a2 : yn1 < 4294967296
  a3 : yn0 < 4294967296
  a4 : un1 < 4294967296
  a5 : u < yn1 * 4294967296 + yn0
  sum : r + q * yn1 = u
  up : (u * 4294967296 + un1) / (yn1 * 4294967296 + yn0) ≤ q
  q1 : q ≤ 4294967297
section
variable {yn1 yn0 u un1 q r : Nat}
theorem div_lt (a5 : u < yn1 * 4294967296 + yn0) (a4 : un1 < 4294967296) : (u * 4294967296 + un1) / (yn1 * 4294967296 + yn0) < 4294967296 := by
  rw [Nat.div_lt_iff_lt_mul (by omega)]
  have : (u + 1) * 4294967296 ≤ (yn1 * 4294967296 + yn0) * 4294967296 := Nat.mul_le_mul_right _ a5
  omega
theorem div_first (a1 : 2147483648 ≤ yn1) (a2 : yn1 < 4294967296) (a3 : yn0 < 4294967296) (a4 : un1 < 4294967296) (a5 : u < yn1 * 4294967296 + yn0) : DivS yn1 yn0 u un1 (u / yn1) (u % yn1) := by
  have hs := Nat.mod_add_div u yn1
  have hm := Nat.mod_lt u (show 0 < yn1 by omega)
  rw [Nat.mul_comm] at hs
  refine ⟨a1, a2, a3, a4, a5, hs, ?_, ?_⟩
  · refine Nat.le_of_lt_succ ((Nat.div_lt_iff_lt_mul (by omega)).2 ?_)
    have e : (u / yn1 + 1) * (yn1 * 4294967296 + yn0) = (u / yn1 * yn1 + yn1) * 4294967296 + (u / yn1 + 1) * yn0 := by grind
    have h1 : (u + 1) * 4294967296 ≤ (u / yn1 * yn1 + yn1) * 4294967296 := Nat.mul_le_mul_right _ (by omega)
    show u * 4294967296 + un1 < (u / yn1 + 1) * (yn1 * 4294967296 + yn0)
    omega
  · refine Nat.le_of_lt_succ ((Nat.div_lt_iff_lt_mul (by omega)).2 ?_)
    omega
theorem DivS.pos (h : DivS yn1 yn0 u un1 q r) : 0 < yn1 * 4294967296 + yn0 := by have := h.a1; omega
theorem DivS.stop1 (h : DivS yn1 yn0 u un1 q r) (h2 : q * yn0 ≤ r * 4294967296 + un1) : q = (u * 4294967296 + un1) / (yn1 * 4294967296 + yn0) := by
  refine Nat.le_antisymm ?_ h.up
  rw [Nat.le_div_iff_mul_le h.pos]
  have e : q * (yn1 * 4294967296 + yn0) = q * yn1 * 4294967296 + q * yn0 := by grind
  have hs := h.sum
  have e2 : u * 4294967296 = r * 4294967296 + q * yn1 * 4294967296 := by rw [← hs]; grind
  omega
theorem DivS.stop2 (h : DivS yn1 yn0 u un1 q r) (h1 : q ≤ 4294967296) (h2 : 4294967296 ≤ r) : q = (u * 4294967296 + un1) / (yn1 * 4294967296 + yn0) := by
  refine h.stop1 ?_
  have m : q * yn0 ≤ 4294967296 * yn0 := Nat.mul_le_mul_right _ h1
  have := h.a3
  omega
theorem lin3 {a b c k n t : Nat} (h1 : a = b + c) (h2 : b + n < k) (e : t = c + k) : a + n < t := by omega
theorem DivS.go (h : DivS yn1 yn0 u un1 q r) (h2 : 4294967296 ≤ q ∨ r * 4294967296 + un1 < q * yn0) : 1 ≤ q ∧ DivS yn1 yn0 u un1 (q - 1) (r + yn1) := by
  have hq : 1 ≤ q := by
    rcases h2 with h2 | h2
    · omega
    · rcases Nat.eq_zero_or_pos q with e | e
      · subst e; omega
      · exact e
  refine ⟨hq, h.a1, h.a2, h.a3, h.a4, h.a5, ?_, ?_, by have := h.q1; omega⟩
  · have hs := h.sum
    obtain ⟨k, rfl⟩ : ∃ k, q = k + 1 := ⟨q - 1, by omega⟩
    have : (k + 1) * yn1 = k * yn1 + yn1 := by grind
    rw [Nat.add_sub_cancel]
    omega
  · rcases h2 with h2 | h2
    · have := div_lt h.a5 h.a4; omega
    · refine Nat.le_sub_one_of_lt ((Nat.div_lt_iff_lt_mul h.pos).2 ?_)
      have e : q * (yn1 * 4294967296 + yn0) = q * yn1 * 4294967296 + q * yn0 := by grind
      have hs := h.sum
      have e2 : u * 4294967296 = r * 4294967296 + q * yn1 * 4294967296 := by rw [← hs]; grind
      exact lin3 e2 h2 e
theorem DivS.bd (h : DivS yn1 yn0 u un1 q r) : q * yn0 < 18446744073709551616 := by
  have m : q * yn0 ≤ 4294967297 * 4294967295 := Nat.mul_le_mul h.q1 (by have := h.a3; omega)
  omega
end
/-- Both digits. -/
theorem div_twoB {y n un32 un1 un0 B : Nat} (hy : 0 < y) (hn : n = un32 * (B * B) + un1 * B + un0) :
    n / y = (un32 * B + un1) / y * B + ((un32 * B + un1) % y * B + un0) / y ∧ n % y = ((un32 * B + un1) % y * B + un0) % y := by
  have h1 := Nat.mod_add_div (un32 * B + un1) y
  generalize (un32 * B + un1) / y = q at *
  generalize (un32 * B + un1) % y = m at *
  have e : n = (m * B + un0) + y * (q * B) := by
    have h2 : (un32 * B + un1) * B = (m + y * q) * B := by rw [h1]
    rw [hn]
    grind
  rw [e]
  constructor
  · rw [Nat.add_mul_div_left _ _ hy, Nat.add_comm]
  · rw [Nat.add_mul_mod_self_left]
theorem div_two {y n un32 un1 un0 : Nat} (hy : 0 < y) (hn : n = un32 * 18446744073709551616 + un1 * 4294967296 + un0) :
    n / y = (un32 * 4294967296 + un1) / y * 4294967296 + ((un32 * 4294967296 + un1) % y * 4294967296 + un0) / y ∧ n % y = ((un32 * 4294967296 + un1) % y * 4294967296 + un0) % y :=
  div_twoB (B := 4294967296) hy hn
theorem div_shift {n y s : Nat} (hs : 0 < s) : n * s / (y * s) = n / y ∧ n * s % (y * s) = n % y * s := ⟨Nat.mul_div_mul_right _ _ hs, Nat.mul_mod_mul_right _ _ _⟩

/-! ### Two words are a number -/
/-- The upper and the lower word of a number, modulo 2^128. -/
def hiW (n : Int) : Int := n % 340282366920938463463374607431768211456 / 18446744073709551616
def loW (n : Int) : Int := n % 18446744073709551616
theorem word_bd (n : Int) : 0 ≤ hiW n ∧ hiW n < 18446744073709551616 ∧ 0 ≤ loW n ∧ loW n < 18446744073709551616 := by unfold hiW loW; omega
theorem word_sum (n : Int) : hiW n * 18446744073709551616 + loW n = n % 340282366920938463463374607431768211456 := by unfold hiW loW; omega
theorem word_of {n h l : Int} (h0 : 0 ≤ h) (h1 : h < 18446744073709551616) (l0 : 0 ≤ l) (l1 : l < 18446744073709551616) (e : (h * 18446744073709551616 + l) % 340282366920938463463374607431768211456 = n % 340282366920938463463374607431768211456) : hiW n = h ∧ loW n = l := by
  have a := word_sum n
  obtain ⟨b1, b2, b3, b4⟩ := word_bd n
  have c : (h * 18446744073709551616 + l) % 340282366920938463463374607431768211456 = h * 18446744073709551616 + l := Int.emod_eq_of_lt (by omega) (by omega)
  rw [c, ← a] at e
  generalize hiW n = p at *
  generalize loW n = q at *
  omega
/-- A product of two signed words out of the product of the unsigned ones. -/
theorem prod_word {x y : Int} {ux uy : Nat} (hx : (ux : Int) = x % 18446744073709551616) (hy : (uy : Int) = y % 18446744073709551616) (x0 : -9223372036854775808 ≤ x) (x1 : x ≤ 9223372036854775807) (y0 : -9223372036854775808 ≤ y) (y1 : y ≤ 9223372036854775807) (h : Int)
    (hh : h = (((ux * uy / 18446744073709551616 : Nat) : Int) - (if x < 0 then (uy : Int) else 0) - (if y < 0 then (ux : Int) else 0)) % 18446744073709551616) :
    h = hiW (x * y) ∧ ((ux * uy % 18446744073709551616 : Nat) : Int) = loW (x * y) := by
  have key : ∃ k : Int, ((ux * uy : Nat) : Int) - 18446744073709551616 * (if x < 0 then (uy : Int) else 0) - 18446744073709551616 * (if y < 0 then (ux : Int) else 0) = x * y + 340282366920938463463374607431768211456 * k := by
    rw [Int.natCast_mul]
    by_cases c1 : x < 0 <;> by_cases c2 : y < 0
    · have e1 : (ux : Int) = x + 18446744073709551616 := by omega
      have e2 : (uy : Int) = y + 18446744073709551616 := by omega
      rw [if_pos c1, if_pos c2, e1, e2]
      exact ⟨-1, by grind⟩
    · have e1 : (ux : Int) = x + 18446744073709551616 := by omega
      have e2 : (uy : Int) = y := by omega
      rw [if_pos c1, if_neg c2, e1, e2]
      exact ⟨0, by grind⟩
    · have e1 : (ux : Int) = x := by omega
      have e2 : (uy : Int) = y + 18446744073709551616 := by omega
      rw [if_neg c1, if_pos c2, e1, e2]
      exact ⟨0, by grind⟩
    · have e1 : (ux : Int) = x := by omega
      have e2 : (uy : Int) = y := by omega
      rw [if_neg c1, if_neg c2, e1, e2]
      exact ⟨0, by grind⟩
  obtain ⟨k, hk⟩ := key
  generalize (if x < 0 then (uy : Int) else 0) = a at *
  generalize (if y < 0 then (ux : Int) else 0) = b at *
  generalize ux * uy = p at *
  generalize x * y = n at *
  unfold hiW loW
  omega
/-- A sum of two such numbers. -/
theorem sum_word {n m : Int} {c : Int} (hc : c = (loW n + loW m) / 18446744073709551616) : hiW (n + m) = (hiW n + hiW m + c) % 18446744073709551616 ∧ loW (n + m) = (loW n + loW m) % 18446744073709551616 := by
  unfold hiW loW at *
  omega
/-- The sign. -/
theorem sign_word {n : Int} (h0 : -170141183460469231731687303715884105728 ≤ n) (h1 : n < 170141183460469231731687303715884105728) : (hiW n / 9223372036854775808 = 1) ↔ n < 0 := by
  unfold hiW
  omega
/-- The opposite. -/
theorem neg_word {n : Int} : loW (-n) = (18446744073709551616 - loW n) % 18446744073709551616 ∧ hiW (-n) = (18446744073709551616 - hiW n - (if 0 < loW n then 1 else 0)) % 18446744073709551616 := by
  unfold hiW loW
  split <;> omega
/-- A number from 0 on, in two words. -/
theorem pos_word {n : Int} (h0 : 0 ≤ n) (h1 : n < 340282366920938463463374607431768211456) : hiW n * 18446744073709551616 + loW n = n := by rw [word_sum]; omega
end Go.Proofs.Ytllpffkifleigaa
end
section
namespace Go.Proofs.Ytllpffkifleigaa

/-- A border: all winds with a u + b v at most c. -/
structure Bd where
  a : Int
  b : Int
  c : Int
deriving DecidableEq
/-- A wind (u / d, v / d). -/
structure Pt where
  u : Int
  v : Int
  d : Int
deriving DecidableEq
def crs (x y : Bd) : Int := x.a * y.b - x.b * y.a
def cor (x y : Bd) : Pt := ⟨x.c * y.b - x.b * y.c, x.a * y.c - x.c * y.a, x.a * y.b - x.b * y.a⟩
def gap (h : Bd) (p : Pt) : Int := h.c * p.d - h.a * p.u - h.b * p.v
def det (x y z : Bd) : Int := gap z (cor x y)
theorem cor_d (x y : Bd) : (cor x y).d = crs x y := rfl
theorem det_rot (x y z : Bd) : det x y z = det y z x := by unfold det gap cor; simp only; grind
theorem det_swap (x y z : Bd) : det x y z = - det y x z := by unfold det gap cor; simp only; grind
theorem det_same (x y : Bd) : det x y y = 0 := by unfold det gap cor; simp only; grind
theorem det_same2 (x y : Bd) : det x y x = 0 := by unfold det gap cor; simp only; grind
theorem crs_swap (x y : Bd) : crs x y = - crs y x := by unfold crs; grind
theorem crs_self (x : Bd) : crs x x = 0 := by unfold crs; grind
/-- Four lines (one may be that at infinity). -/
theorem plk (x p q h s : Bd) : det x q h * det x s p - det x q s * det x h p + det x q p * det x h s = 0 := by unfold det gap cor; simp only; grind
theorem plk_inf (x p q h : Bd) : det x q h * crs x p - det x q p * crs x h + crs x q * det x h p = 0 := by unfold det gap cor crs; simp only; grind
/-- Everything that two consecutive borders and all constraints say of each other. -/
structure Nxt (S : Bd → Prop) (x y : Bd) : Prop where
  pos : 0 < crs x y
  all : ∀ s, S s → 0 ≤ det x y s
theorem pos_r {a b : Int} (ha : 0 < a) (h : 0 < a * b) : 0 < b := by
  rcases Int.lt_or_le 0 b with h1 | h1
  · exact h1
  · have := Int.mul_nonpos_of_nonneg_of_nonpos (a := a) (b := b) (by omega) h1; omega
theorem pos_of_mul_l {a b : Int} (h : 0 < a * b) (ha : 0 ≤ a) : 0 < a ∧ 0 < b := by
  have ha' : 0 < a := by
    rcases Int.lt_or_eq_of_le ha with h1 | h1
    · exact h1
    · rw [← h1, Int.zero_mul] at h; omega
  exact ⟨ha', pos_r ha' h⟩
theorem nonneg_of_mul_l {a b : Int} (h : 0 ≤ a * b) (ha : 0 < a) : 0 ≤ b := by
  rcases Int.lt_or_le b 0 with h1 | h1
  · have := Int.mul_neg_of_pos_of_neg ha h1; omega
  · exact h1
/-- A border leaves: behind x comes the new border h. -/
theorem nxt_out {S : Bd → Prop} {p x q h : Bd} (hp : Nxt S p x) (hq : Nxt S x q) (sp : S p) (h1 : 0 ≤ det p x h) (h2 : det x q h < 0) : Nxt (fun s => S s ∨ s = h) x h := by
  have k1 := plk_inf x p q h
  have c1 := hp.pos
  have c2 := hq.pos
  have e1 : crs x p < 0 := by rw [crs_swap]; omega
  have e2 : det x h p = det p x h := by rw [det_rot, det_rot]
  have e3 : 0 ≤ det x q p := hq.all p sp
  have m1 : 0 < det x q h * crs x p := Int.mul_pos_of_neg_of_neg h2 e1
  have m2 : 0 ≤ crs x q * det x h p := Int.mul_nonneg (by omega) (by omega)
  have m3 : 0 < det x q p * crs x h := by omega
  obtain ⟨d1, d2⟩ := pos_of_mul_l m3 e3
  refine ⟨d2, fun s hs => ?_⟩
  rcases hs with hs | rfl
  · have k2 := plk x p q h s
    have f1 := hq.all s hs
    have f2 : 0 ≤ det x s p := by rw [det_rot, det_rot]; exact hp.all s hs
    have n1 : 0 ≤ det x q s * det x h p := Int.mul_nonneg f1 (by omega)
    have n2 : det x q h * det x s p ≤ 0 := Int.mul_nonpos_of_nonpos_of_nonneg (by omega) f2
    exact nonneg_of_mul_l (a := det x q p) (by omega) d1
  · rw [det_same]; exact Int.le_refl _
/-- A border comes in: behind the new border h comes x. -/
theorem nxt_in {S : Bd → Prop} {p x q h : Bd} (hp : Nxt S p x) (hq : Nxt S x q) (sp : S p) (h1 : det p x h < 0) (h2 : 0 ≤ det x q h) : Nxt (fun s => S s ∨ s = h) h x := by
  have k1 := plk_inf x p q h
  have c1 := hp.pos
  have c2 := hq.pos
  have e1 : crs x p < 0 := by rw [crs_swap]; omega
  have e2 : det x h p = det p x h := by rw [det_rot, det_rot]
  have e3 : 0 ≤ det x q p := hq.all p sp
  have m1 : det x q h * crs x p ≤ 0 := Int.mul_nonpos_of_nonneg_of_nonpos h2 (by omega)
  have m2 : crs x q * det x h p < 0 := Int.mul_neg_of_pos_of_neg (by omega) (by omega)
  have m3 : 0 < det x q p * crs h x := by rw [crs_swap, Int.mul_neg]; omega
  obtain ⟨d1, d2⟩ := pos_of_mul_l m3 e3
  refine ⟨d2, fun s hs => ?_⟩
  rcases hs with hs | rfl
  · have k2 := plk x p q h s
    have f1 := hq.all s hs
    have f2 : 0 ≤ det x s p := by rw [det_rot, det_rot]; exact hp.all s hs
    have n1 : det x q s * det x h p ≤ 0 := Int.mul_nonpos_of_nonneg_of_nonpos f1 (by omega)
    have n2 : 0 ≤ det x q h * det x s p := Int.mul_nonneg h2 f2
    have n3 : 0 ≤ det x q p * det h x s := by rw [det_swap h, Int.mul_neg]; omega
    exact nonneg_of_mul_l n3 d1
  · rw [det_same2]; exact Int.le_refl _
theorem nxt_add {S : Bd → Prop} {x y h : Bd} (hn : Nxt S x y) (h1 : 0 ≤ det x y h) : Nxt (fun s => S s ∨ s = h) x y :=
  ⟨hn.pos, fun s hs => by rcases hs with hs | rfl; exact hn.all s hs; exact h1⟩

/-- The area: borders around, each with the next one; no two of one direction. -/
def bd0 : Bd := ⟨0, 0, 0⟩
def atB (L : List Bd) (i : Nat) : Bd := L.getD (i % L.length) bd0
def corn (L : List Bd) (i : Nat) : Pt := cor (atB L i) (atB L (i + 1))
def dot (x y : Bd) : Int := x.a * y.a + x.b * y.b
def samed (x y : Bd) : Prop := crs x y = 0 ∧ 0 < dot x y
theorem samed_symm {x y : Bd} (h : samed x y) : samed y x := ⟨by rw [crs_swap, h.1]; rfl, by have := h.2; unfold dot at *; rw [Int.mul_comm y.a, Int.mul_comm y.b]; exact this⟩
structure Area (S : Bd → Prop) (L : List Bd) : Prop where
  ne : 0 < L.length
  mem : ∀ x ∈ L, S x
  nxt : ∀ i, Nxt S (atB L i) (atB L (i + 1))
  par : L.Pairwise fun x y => ¬ samed x y
theorem atB_mod (L : List Bd) (i : Nat) : atB L (i + L.length) = atB L i := by unfold atB; rw [Nat.add_mod_right]
theorem atB_lt {L : List Bd} {i : Nat} (h : i < L.length) : atB L i = L[i] := by unfold atB; rw [Nat.mod_eq_of_lt h, List.getD_eq_getElem?_getD, List.getElem?_eq_getElem h]; rfl
theorem atB_mem {L : List Bd} (h : 0 < L.length) (i : Nat) : atB L i ∈ L := by
  unfold atB
  have hl := Nat.mod_lt i h
  rw [List.getD_eq_getElem?_getD, List.getElem?_eq_getElem hl]
  exact List.getElem_mem hl
theorem corn_mod (L : List Bd) (i : Nat) : corn L (i + L.length) = corn L i := by unfold corn; rw [atB_mod, show i + L.length + 1 = i + 1 + L.length by omega, atB_mod]
section
variable {S : Bd → Prop} {L : List Bd} {h : Bd}
theorem Area.at_ (A : Area S L) (i : Nat) : S (atB L i) := A.mem _ (atB_mem A.ne i)
theorem Area.d (A : Area S L) (i : Nat) : 0 < (corn L i).d := (A.nxt i).pos
theorem Area.in_ (A : Area S L) (i : Nat) {s : Bd} (hs : S s) : 0 ≤ gap s (corn L i) := (A.nxt i).all s hs

/-- Whichever direction is asked, a corner lies at its end. -/
theorem turn3 {x y z g : Bd} : crs x z * crs y g = crs x y * crs z g + crs y z * crs x g := by unfold crs; grind
theorem round_pos (A : Area S L) {g : Bd} (sg : Int) (hs : sg = 1 ∨ sg = -1) (hall : ∀ i, 0 < sg * crs (atB L i) g) : False := by
  have key : ∀ k, 0 < crs (atB L 0) (atB L (k + 1)) := by
    intro k
    induction k with
    | zero => exact (A.nxt 0).pos
    | succ k ih =>
      have e := turn3 (x := atB L 0) (y := atB L (k + 1)) (z := atB L (k + 1 + 1)) (g := g)
      have h1 := hall 0
      have h2 := hall (k + 1)
      have h3 := hall (k + 1 + 1)
      have h4 := (A.nxt (k + 1)).pos
      have m1 : 0 < crs (atB L 0) (atB L (k + 1)) * (sg * crs (atB L (k + 1 + 1)) g) := Int.mul_pos ih h3
      have m2 : 0 < crs (atB L (k + 1)) (atB L (k + 1 + 1)) * (sg * crs (atB L 0) g) := Int.mul_pos h4 h1
      have m3 : 0 < (sg * crs (atB L (k + 1)) g) * crs (atB L 0) (atB L (k + 1 + 1)) := by
        have : (sg * crs (atB L (k + 1)) g) * crs (atB L 0) (atB L (k + 1 + 1)) = crs (atB L 0) (atB L (k + 1)) * (sg * crs (atB L (k + 1 + 1)) g) + crs (atB L (k + 1)) (atB L (k + 1 + 1)) * (sg * crs (atB L 0) g) := by
          grind
        omega
      exact pos_r h2 m3
  have hk := key (L.length - 1)
  rw [show L.length - 1 + 1 = 0 + L.length by have := A.ne; omega, atB_mod, crs_self] at hk
  omega
theorem cone (A : Area S L) (g : Bd) : ∃ i, i < L.length ∧ 0 ≤ crs (atB L i) g ∧ 0 ≤ crs g (atB L (i + 1)) := by
  by_cases hx : ∃ i, 0 ≤ crs (atB L i) g ∧ 0 ≤ crs g (atB L (i + 1))
  · obtain ⟨i, h1, h2⟩ := hx
    refine ⟨i % L.length, Nat.mod_lt _ A.ne, ?_, ?_⟩
    · have e : atB L (i % L.length) = atB L i := by unfold atB; rw [Nat.mod_mod]
      rw [e]; exact h1
    · have e : atB L (i % L.length + 1) = atB L (i + 1) := by unfold atB; rw [Nat.mod_add_mod]
      rw [e]; exact h2
  · exfalso
    have hstep : ∀ i, 0 ≤ crs (atB L i) g → 0 < crs (atB L (i + 1)) g := fun i h1 => by
      rcases Int.lt_or_le 0 (crs (atB L (i + 1)) g) with h2 | h2
      · exact h2
      · exact absurd ⟨i, h1, by rw [crs_swap]; omega⟩ hx
    by_cases h0 : ∃ i, 0 ≤ crs (atB L i) g
    · obtain ⟨i, hi⟩ := h0
      have up : ∀ k, 0 < crs (atB L (i + 1 + k)) g := by
        intro k
        induction k with
        | zero => exact hstep i hi
        | succ k ih => exact hstep (i + 1 + k) (by omega)
      refine round_pos (g := g) A 1 (.inl rfl) fun j => ?_
      rw [Int.one_mul]
      have hm := up (j + (i + 1) * L.length - (i + 1))
      have hle : i + 1 ≤ (i + 1) * L.length := Nat.le_mul_of_pos_right _ A.ne
      rw [show i + 1 + (j + (i + 1) * L.length - (i + 1)) = j + (i + 1) * L.length by omega] at hm
      have e : atB L (j + (i + 1) * L.length) = atB L j := by unfold atB; rw [Nat.add_mul_mod_self_right]
      rw [e] at hm
      exact hm
    · refine round_pos (g := g) A (-1) (.inr rfl) fun j => ?_
      rcases Int.lt_or_le (crs (atB L j) g) 0 with h2 | h2
      · omega
      · exact absurd ⟨j, h2⟩ h0
theorem dual {x y g : Bd} {p : Pt} (h1 : 0 ≤ crs x g) (h2 : 0 ≤ crs g y) (gx : 0 ≤ gap x p) (gy : 0 ≤ gap y p) :
    (g.a * p.u + g.b * p.v) * crs x y ≤ (g.a * (cor x y).u + g.b * (cor x y).v) * p.d := by
  have e : (g.a * (cor x y).u + g.b * (cor x y).v) * p.d - (g.a * p.u + g.b * p.v) * crs x y = crs g y * gap x p + crs x g * gap y p := by unfold crs cor gap; simp only; grind
  have m1 : 0 ≤ crs g y * gap x p := Int.mul_nonneg h2 gx
  have m2 : 0 ≤ crs x g * gap y p := Int.mul_nonneg h1 gy
  omega
/-- A corner goes furthest along a direction. -/
theorem best (A : Area S L) (g : Bd) : ∃ i, i < L.length ∧ ∀ p, (∀ s, S s → 0 ≤ gap s p) → (g.a * p.u + g.b * p.v) * (corn L i).d ≤ (g.a * (corn L i).u + g.b * (corn L i).v) * p.d := by
  obtain ⟨i, hi, h1, h2⟩ := cone A g
  exact ⟨i, hi, fun p hp => dual h1 h2 (hp _ (A.at_ i)) (hp _ (A.at_ (i + 1)))⟩
/-- Three borders that have nothing in common. -/
def Inf3 (S : Bd → Prop) : Prop := ∃ x y z, S x ∧ S y ∧ S z ∧ ∀ p : Pt, 0 < p.d → gap x p < 0 ∨ gap y p < 0 ∨ gap z p < 0
def outs (L : List Bd) (h : Bd) (i : Nat) : Bool := decide (gap h (corn L i) < 0)
theorem outs_mod (L : List Bd) (h : Bd) (i : Nat) : outs L h (i + L.length) = outs L h i := by unfold outs; rw [corn_mod]
theorem all_out (A : Area S L) (ho : ∀ i, i < L.length → outs L h i = true) : Inf3 (fun s => S s ∨ s = h) := by
  obtain ⟨i, hi, h1, h2⟩ := cone A ⟨-h.a, -h.b, 0⟩
  refine ⟨atB L i, atB L (i + 1), h, .inl (A.at_ i), .inl (A.at_ (i + 1)), .inr rfl, fun p hp => ?_⟩
  rcases Int.lt_or_le (gap (atB L i) p) 0 with c1 | c1
  · exact .inl c1
  rcases Int.lt_or_le (gap (atB L (i + 1)) p) 0 with c2 | c2
  · exact .inr (.inl c2)
  rcases Int.lt_or_le (gap h p) 0 with c3 | c3
  · exact .inr (.inr c3)
  exfalso
  have k := dual h1 h2 c1 c2
  have o := of_decide_eq_true (ho i hi)
  have hD := A.d i
  unfold corn at o hD
  rw [cor_d] at hD
  generalize hcc : cor (atB L i) (atB L (i + 1)) = cc at *
  have hdd : cc.d = crs (atB L i) (atB L (i + 1)) := by rw [← hcc]; rfl
  rw [← hdd] at k hD
  unfold gap at o c3
  simp only at k
  have m1 : 0 < p.d * (h.a * cc.u + h.b * cc.v - h.c * cc.d) := Int.mul_pos hp (by omega)
  have m2 : 0 ≤ cc.d * (h.c * p.d - h.a * p.u - h.b * p.v) := Int.mul_nonneg (by omega) c3
  grind

/-- What is left of an area within one more border. -/
def stepL (b e : Bool) (x h : Bd) : List Bd := (if b && e then [] else [x]) ++ (if !b && e then [h] else [])
def bgn (L : List Bd) (h : Bd) (i : Nat) : Bool := outs L h (i + (L.length - 1))
def leftN (L : List Bd) (h : Bd) : Nat → List Bd
  | 0 => []
  | i + 1 => leftN L h i ++ stepL (bgn L h i) (outs L h i) (atB L i) h
def cutA (L : List Bd) (h : Bd) : List Bd := if h ∈ L then L else if (List.range L.length).any (outs L h) = true then leftN L h L.length else L
def chn (R : Bd → Bd → Prop) : Bd → List Bd → Prop
  | _, [] => True
  | z, x :: l => R z x ∧ chn R x l
def lst : Bd → List Bd → Bd
  | z, [] => z
  | _, x :: l => lst x l
theorem chn_app {R : Bd → Bd → Prop} : ∀ (z : Bd) (A B : List Bd), chn R z A → chn R (lst z A) B → chn R z (A ++ B)
  | _, [], _, _, hb => hb
  | _, x :: A, B, ha, hb => ⟨ha.1, chn_app x A B ha.2 hb⟩
theorem lst_app : ∀ (z : Bd) (A B : List Bd), lst z (A ++ B) = lst (lst z A) B
  | _, [], _ => rfl
  | _, x :: A, B => lst_app x A B
theorem chn_get {R : Bd → Bd → Prop} : ∀ (z : Bd) (A : List Bd), chn R z A → ∀ i, i + 1 < A.length → R (A.getD i bd0) (A.getD (i + 1) bd0)
  | _, [], _, _, hi => by simp at hi
  | _, [x], _, i, hi => by simp at hi
  | _, x :: y :: A, hc, 0, _ => hc.2.1
  | _, x :: y :: A, hc, i + 1, hi => chn_get x (y :: A) hc.2 i (by simpa using hi)
theorem lst_get : ∀ (z : Bd) (A : List Bd), 0 < A.length → lst z A = A.getD (A.length - 1) bd0
  | _, [x], _ => rfl
  | _, x :: y :: A, _ => lst_get x (y :: A) (by simp)
theorem cyc_of {R : Bd → Bd → Prop} {z : Bd} {A : List Bd} (hc : chn R z A) (hz : lst z A = z) (h0 : 0 < A.length) (i : Nat) : R (atB A i) (atB A (i + 1)) := by
  have hm := Nat.mod_lt i h0
  unfold atB
  by_cases e : i % A.length + 1 < A.length
  · have : (i + 1) % A.length = i % A.length + 1 := by rw [← Nat.mod_add_mod, Nat.mod_eq_of_lt e]
    rw [this]
    exact chn_get z A hc _ e
  · have e2 : i % A.length + 1 = A.length := by omega
    have : (i + 1) % A.length = 0 := by rw [← Nat.mod_add_mod, e2, Nat.mod_self]
    rw [this, show i % A.length = A.length - 1 by omega, ← lst_get z A h0, hz]
    cases A with
    | nil => simp at h0
    | cons x A => exact hc.1
theorem bgn_succ (L : List Bd) (h : Bd) (h0 : 0 < L.length) (i : Nat) : bgn L h (i + 1) = outs L h i := by
  unfold bgn
  rw [show i + 1 + (L.length - 1) = i + L.length by omega, outs_mod]
def prv (L : List Bd) (h : Bd) (i : Nat) : Bd := if bgn L h i = true then h else atB L (i + (L.length - 1))
theorem Area.pre (A : Area S L) (i : Nat) : Nxt S (atB L (i + (L.length - 1))) (atB L i) := by
  have := A.nxt (i + (L.length - 1))
  rw [show i + (L.length - 1) + 1 = i + L.length by have := A.ne; omega, atB_mod] at this
  exact this
theorem bgn_gap (A : Area S L) (i : Nat) : bgn L h i = decide (det (atB L (i + (L.length - 1))) (atB L i) h < 0) := by
  unfold bgn outs corn
  rw [show i + (L.length - 1) + 1 = i + L.length by have := A.ne; omega, atB_mod]
  rfl
theorem left_chn (A : Area S L) : ∀ i, chn (Nxt (fun s => S s ∨ s = h)) (prv L h 0) (leftN L h i) ∧ lst (prv L h 0) (leftN L h i) = prv L h i
  | 0 => ⟨trivial, rfl⟩
  | i + 1 => by
    obtain ⟨c1, c2⟩ := left_chn A i
    have hp := A.pre i
    have hq := A.nxt i
    have sp := A.at_ (i + (L.length - 1))
    have eb := bgn_gap (h := h) A i
    have eo : outs L h i = decide (det (atB L i) (atB L (i + 1)) h < 0) := rfl
    have en := bgn_succ L h A.ne i
    have ex : atB L (i + 1 + (L.length - 1)) = atB L i := by rw [show i + 1 + (L.length - 1) = i + L.length by have := A.ne; omega, atB_mod]
    have hz : prv L h (i + 1) = if outs L h i = true then h else atB L i := by unfold prv; rw [en, ex]
    rw [leftN, lst_app, c2, hz]
    refine (fun (hx : chn (Nxt (fun s => S s ∨ s = h)) (prv L h i) (stepL (bgn L h i) (outs L h i) (atB L i) h) ∧ lst (prv L h i) (stepL (bgn L h i) (outs L h i) (atB L i) h) = _) => ⟨chn_app _ _ _ c1 (by rw [c2]; exact hx.1), hx.2⟩) ?_
    unfold prv
    cases hb : bgn L h i with
    | false =>
      rw [hb] at eb
      have g1 : 0 ≤ det (atB L (i + (L.length - 1))) (atB L i) h := by have := of_decide_eq_false eb.symm; omega
      have n1 := nxt_add hp g1
      cases ho : outs L h i with
      | false => exact ⟨⟨n1, trivial⟩, rfl⟩
      | true =>
        rw [ho] at eo
        exact ⟨⟨n1, nxt_out hp hq sp g1 (of_decide_eq_true eo.symm), trivial⟩, rfl⟩
    | true =>
      rw [hb] at eb
      have g1 := of_decide_eq_true eb.symm
      cases ho : outs L h i with
      | false =>
        rw [ho] at eo
        exact ⟨⟨nxt_in hp hq sp g1 (by have := of_decide_eq_false eo.symm; omega), trivial⟩, rfl⟩
      | true => exact ⟨trivial, rfl⟩
theorem left_mem : ∀ i z, z ∈ leftN L h i → (∃ j, j < i ∧ z = atB L j ∧ (bgn L h j && outs L h j) = false) ∨ (z = h ∧ ∃ j, j < i ∧ bgn L h j = false ∧ outs L h j = true)
  | 0, z, hz => by cases hz
  | i + 1, z, hz => by
    rw [leftN, List.mem_append] at hz
    rcases hz with hz | hz
    · rcases left_mem i z hz with ⟨j, a, b, c⟩ | ⟨a, j, b, c, d⟩
      · exact .inl ⟨j, by omega, b, c⟩
      · exact .inr ⟨a, j, by omega, c, d⟩
    · unfold stepL at hz
      rw [List.mem_append] at hz
      rcases hz with hz | hz
      · split at hz
        · cases hz
        · rename_i hk
          rw [List.mem_singleton] at hz
          exact .inl ⟨i, by omega, hz, by simpa using hk⟩
      · split at hz
        · rename_i hk
          rw [List.mem_singleton] at hz
          simp only [Bool.and_eq_true, Bool.not_eq_true'] at hk
          exact .inr ⟨hz, i, by omega, hk.1, hk.2⟩
        · cases hz
/-- One border leaves at most. -/
theorem out_once (A : Area S L) {i j : Nat} (hi : i < L.length) (hj : j < L.length) (bi : bgn L h i = false) (oi : outs L h i = true) (bj : bgn L h j = false) (oj : outs L h j = true) : i = j := by
  have nx : ∀ k, bgn L h k = false → outs L h k = true → Nxt (fun s => S s ∨ s = h) (atB L k) h := fun k b o =>
    nxt_out (A.pre k) (A.nxt k) (A.at_ _) (by have := bgn_gap (h := h) A k; rw [b] at this; have := of_decide_eq_false this.symm; omega) (of_decide_eq_true o)
  have n1 := nx i bi oi
  have n2 := nx j bj oj
  have q1 := n1.all _ (.inl (A.at_ j))
  have q2 := n2.all _ (.inl (A.at_ i))
  have e : det (atB L j) h (atB L i) = - det (atB L i) h (atB L j) := by have a := det_rot (atB L j) h (atB L i); have b := det_swap h (atB L i) (atB L j); omega
  have z : det (atB L i) h (atB L j) = 0 := by omega
  have half : ∀ k m, 0 < crs (atB L k) h → det (atB L k) h (atB L m) = 0 → outs L h k = true → crs (atB L k) (atB L m) ≤ 0 := fun k m c z o => by
    have k1 := plk_inf (atB L k) (atB L m) (atB L (k + 1)) h
    have o2 : det (atB L k) (atB L (k + 1)) h < 0 := of_decide_eq_true o
    have q := (A.nxt k).all _ (A.at_ m)
    rw [z, Int.mul_zero] at k1
    have m1 : 0 ≤ det (atB L k) (atB L (k + 1)) (atB L m) * crs (atB L k) h := Int.mul_nonneg q (by omega)
    rcases Int.lt_or_le 0 (crs (atB L k) (atB L m)) with h1 | h1
    · have := Int.mul_neg_of_neg_of_pos o2 h1
      omega
    · exact h1
  have r1 := half i j n1.pos z oi
  have r2 := half j i n2.pos (by omega) oj
  have r3 := crs_swap (atB L i) (atB L j)
  have hc : crs (atB L i) (atB L j) = 0 := by omega
  have hd : 0 < dot (atB L i) (atB L j) := by
    have e : dot (atB L i) (atB L j) * crs (atB L i) h = dot (atB L i) (atB L i) * crs (atB L j) h + crs (atB L i) (atB L j) * dot (atB L i) h := by unfold dot crs; grind
    rw [hc, Int.zero_mul, Int.add_zero] at e
    have c1 := n1.pos
    have c2 := n2.pos
    have p1 : 0 < dot (atB L i) (atB L i) := by
      have s1 : 0 ≤ (atB L i).a * (atB L i).a := by rcases Int.le_total 0 (atB L i).a with h | h; exact Int.mul_nonneg h h; exact Int.mul_nonneg_of_nonpos_of_nonpos h h
      have s2 : 0 ≤ (atB L i).b * (atB L i).b := by rcases Int.le_total 0 (atB L i).b with h | h; exact Int.mul_nonneg h h; exact Int.mul_nonneg_of_nonpos_of_nonpos h h
      unfold dot
      rcases Int.lt_or_eq_of_le (Int.add_nonneg s1 s2) with h | h
      · exact h
      · exfalso
        have t1 : (atB L i).a * (atB L i).a = 0 := by omega
        have t2 : (atB L i).b * (atB L i).b = 0 := by omega
        have u1 : (atB L i).a = 0 := by rcases Int.mul_eq_zero.1 t1 with h | h <;> exact h
        have u2 : (atB L i).b = 0 := by rcases Int.mul_eq_zero.1 t2 with h | h <;> exact h
        unfold crs at c1
        rw [u1, u2] at c1
        simp at c1
    have m1 : 0 < dot (atB L i) (atB L i) * crs (atB L j) h := Int.mul_pos p1 c2
    exact pos_r c1 (by rw [Int.mul_comm]; omega)
  rcases Nat.lt_trichotomy i j with h1 | h1 | h1
  · have := List.pairwise_iff_getElem.1 A.par i j hi hj h1
    rw [← atB_lt hi, ← atB_lt hj] at this
    exact absurd ⟨hc, hd⟩ this
  · exact h1
  · have := List.pairwise_iff_getElem.1 A.par j i hj hi h1
    rw [← atB_lt hi, ← atB_lt hj] at this
    exact absurd (samed_symm ⟨hc, hd⟩) this
/-- What stays has not the new border's direction. -/
theorem keep_not (A : Area S L) {i m : Nat} (hk : (bgn L h i && outs L h i) = false) (hm : outs L h m = true) : ¬ samed (atB L i) h := by
  rintro ⟨hc, hd⟩
  obtain ⟨c, cd, cx, ch⟩ : ∃ c : Pt, 0 < c.d ∧ gap (atB L i) c = 0 ∧ 0 ≤ gap h c := by
    rcases Bool.and_eq_false_iff.1 hk with hk | hk
    · have := bgn_gap (h := h) A i
      rw [hk] at this
      have := of_decide_eq_false this.symm
      exact ⟨cor (atB L (i + (L.length - 1))) (atB L i), (A.pre i).pos, det_same _ _, by show 0 ≤ det _ _ h; omega⟩
    · have := of_decide_eq_false hk
      exact ⟨corn L i, A.d i, det_same2 _ _, by omega⟩
  have om := of_decide_eq_true hm
  have xm := A.in_ m (A.at_ i)
  have dm := A.d m
  have key : ∀ p : Pt, dot (atB L i) (atB L i) * gap h p = (dot (atB L i) (atB L i) * h.c - dot (atB L i) h * (atB L i).c) * p.d + dot (atB L i) h * gap (atB L i) p := fun p => by
    have e1 : dot (atB L i) (atB L i) * h.a = dot (atB L i) h * (atB L i).a - crs (atB L i) h * (atB L i).b := by unfold dot crs; grind
    have e2 : dot (atB L i) (atB L i) * h.b = dot (atB L i) h * (atB L i).b + crs (atB L i) h * (atB L i).a := by unfold dot crs; grind
    rw [hc] at e1 e2
    unfold gap
    generalize dot (atB L i) (atB L i) = D at *
    generalize dot (atB L i) h = E at *
    grind
  have p1 : 0 ≤ dot (atB L i) (atB L i) := by
    unfold dot
    have s1 : 0 ≤ (atB L i).a * (atB L i).a := by rcases Int.le_total 0 (atB L i).a with h | h; exact Int.mul_nonneg h h; exact Int.mul_nonneg_of_nonpos_of_nonpos h h
    have s2 : 0 ≤ (atB L i).b * (atB L i).b := by rcases Int.le_total 0 (atB L i).b with h | h; exact Int.mul_nonneg h h; exact Int.mul_nonneg_of_nonpos_of_nonpos h h
    omega
  have k1 := key c
  have k2 := key (corn L m)
  rw [cx, Int.mul_zero, Int.add_zero] at k1
  have m1 : 0 ≤ dot (atB L i) (atB L i) * gap h c := Int.mul_nonneg p1 ch
  have K : 0 ≤ dot (atB L i) (atB L i) * h.c - dot (atB L i) h * (atB L i).c := by
    rcases Int.lt_or_le (dot (atB L i) (atB L i) * h.c - dot (atB L i) h * (atB L i).c) 0 with h1 | h1
    · have := Int.mul_neg_of_neg_of_pos h1 cd; omega
    · exact h1
  have m2 : 0 ≤ (dot (atB L i) (atB L i) * h.c - dot (atB L i) h * (atB L i).c) * (corn L m).d := Int.mul_nonneg K (by omega)
  have m3 : 0 ≤ dot (atB L i) h * gap (atB L i) (corn L m) := Int.mul_nonneg (by omega) xm
  have m4 : 0 < dot (atB L i) (atB L i) := by
    rcases Int.lt_or_eq_of_le p1 with h1 | h1
    · exact h1
    · exfalso
      have s1 : 0 ≤ (atB L i).a * (atB L i).a := by rcases Int.le_total 0 (atB L i).a with h | h; exact Int.mul_nonneg h h; exact Int.mul_nonneg_of_nonpos_of_nonpos h h
      have s2 : 0 ≤ (atB L i).b * (atB L i).b := by rcases Int.le_total 0 (atB L i).b with h | h; exact Int.mul_nonneg h h; exact Int.mul_nonneg_of_nonpos_of_nonpos h h
      unfold dot at h1 hd
      have t1 : (atB L i).a * (atB L i).a = 0 := by omega
      have t2 : (atB L i).b * (atB L i).b = 0 := by omega
      have u1 : (atB L i).a = 0 := by rcases Int.mul_eq_zero.1 t1 with h | h <;> exact h
      have u2 : (atB L i).b = 0 := by rcases Int.mul_eq_zero.1 t2 with h | h <;> exact h
      rw [u1, u2] at hd
      simp at hd
  have := Int.mul_neg_of_pos_of_neg m4 om
  omega
theorem left_par (A : Area S L) {m : Nat} (hm : outs L h m = true) : ∀ i, i ≤ L.length → (leftN L h i).Pairwise fun x y => ¬ samed x y
  | 0, _ => List.Pairwise.nil
  | i + 1, hi => by
    have ih := left_par A hm i (by omega)
    rw [leftN, List.pairwise_append]
    refine ⟨ih, ?_, fun x hx y hy => ?_⟩
    · unfold stepL
      cases hb : bgn L h i <;> cases ho : outs L h i <;> simp
      exact keep_not A (by rw [hb]; rfl) hm
    · have hy2 : (y = atB L i ∧ (bgn L h i && outs L h i) = false) ∨ (y = h ∧ bgn L h i = false ∧ outs L h i = true) := by
        unfold stepL at hy
        revert hy
        cases hb : bgn L h i <;> cases ho : outs L h i <;> simp
      rcases left_mem i x hx with ⟨j, j1, rfl, jk⟩ | ⟨rfl, j, j1, jb, jo⟩
      · rcases hy2 with ⟨rfl, hk⟩ | ⟨rfl, hb, ho⟩
        · have := List.pairwise_iff_getElem.1 A.par j i (by omega) (by omega) j1
          rw [← atB_lt (by omega : j < L.length), ← atB_lt (by omega : i < L.length)] at this
          exact this
        · exact keep_not A jk hm
      · rcases hy2 with ⟨rfl, hk⟩ | ⟨rfl, hb, ho⟩
        · exact fun hs => keep_not A hk hm (samed_symm hs)
        · have := out_once A (by omega : j < L.length) (by omega : i < L.length) jb jo hb ho
          omega
theorem left_len (A : Area S L) (hL : h ∉ L) : ∀ i, i ≤ L.length → (leftN L h i).length ≤ i + 1 ∧ (h ∉ leftN L h i → (leftN L h i).length ≤ i)
  | 0, _ => ⟨by simp [leftN], fun _ => by simp [leftN]⟩
  | i + 1, hi => by
    obtain ⟨a, b⟩ := left_len A hL i (by omega)
    rw [leftN, List.length_append]
    have hst : (stepL (bgn L h i) (outs L h i) (atB L i) h).length = if bgn L h i = false ∧ outs L h i = true then 2 else if (bgn L h i && outs L h i) = true then 0 else 1 := by
      unfold stepL
      cases bgn L h i <;> cases outs L h i <;> simp
    rw [hst]
    by_cases hx : bgn L h i = false ∧ outs L h i = true
    · rw [if_pos hx]
      have hno : h ∉ leftN L h i := fun hm => by
        rcases left_mem i h hm with ⟨j, j1, e, -⟩ | ⟨-, j, j1, jb, jo⟩
        · exact hL (e ▸ atB_mem A.ne j)
        · have := out_once A (by omega : j < L.length) (by omega : i < L.length) jb jo hx.1 hx.2
          omega
      have := b hno
      refine ⟨by omega, fun hn => absurd (List.mem_append_right _ ?_) hn⟩
      unfold stepL
      rw [hx.1, hx.2]
      simp
    · rw [if_neg hx]
      refine ⟨by split <;> omega, fun hn => ?_⟩
      have := b fun hm => hn (List.mem_append_left _ hm)
      split <;> omega
theorem left_nil : ∀ i, leftN L h i = [] → ∀ j, j < i → outs L h j = true
  | 0, _, j, hj => by omega
  | i + 1, hn, j, hj => by
    rw [leftN, List.append_eq_nil_iff] at hn
    by_cases e : j = i
    · subst e
      have := hn.2
      unfold stepL at this
      revert this
      cases bgn L h j <;> cases outs L h j <;> simp
    · exact left_nil i hn.1 j (by omega)
theorem Area.more (A : Area S L) {S' : Bd → Prop} (hs : ∀ s, S' s → S s) (hm : ∀ x ∈ L, S' x) : Area S' L := ⟨A.ne, hm, fun i => ⟨(A.nxt i).pos, fun s h => (A.nxt i).all s (hs s h)⟩, A.par⟩
/-- An area is within one more border, or there is nothing. -/
theorem cut_ok (A : Area S L) (h : Bd) : (cutA L h = [] ∧ Inf3 fun s => S s ∨ s = h) ∨ Area (fun s => S s ∨ s = h) (cutA L h) := by
  unfold cutA
  by_cases hin : h ∈ L
  · rw [if_pos hin]
    exact .inr (A.more (fun s hs => by rcases hs with hs | rfl; exact hs; exact A.mem _ hin) fun x hx => .inl (A.mem x hx))
  · rw [if_neg hin]
    by_cases ha : (List.range L.length).any (outs L h) = true
    · rw [if_pos ha]
      obtain ⟨m, hm, ho⟩ := List.any_eq_true.1 ha
      rw [List.mem_range] at hm
      by_cases h0 : leftN L h L.length = []
      · exact .inl ⟨h0, all_out A (left_nil _ h0)⟩
      · refine .inr ⟨List.length_pos_iff.2 h0, fun x hx => ?_, cyc_of (left_chn A L.length).1 ?_ (List.length_pos_iff.2 h0), left_par A ho _ (Nat.le_refl _)⟩
        · rcases left_mem _ x hx with ⟨j, -, rfl, -⟩ | ⟨rfl, -⟩
          · exact .inl (A.at_ j)
          · exact .inr rfl
        · rw [(left_chn A L.length).2]
          unfold prv bgn
          rw [show L.length + (L.length - 1) = 0 + (L.length - 1) + L.length by omega, outs_mod, atB_mod]
    · rw [if_neg ha]
      refine .inr ⟨A.ne, fun x hx => .inl (A.mem x hx), fun i => nxt_add (A.nxt i) ?_, A.par⟩
      rcases Int.lt_or_le (det (atB L i) (atB L (i + 1)) h) 0 with h1 | h1
      · exfalso
        refine ha (List.any_eq_true.2 ⟨i % L.length, List.mem_range.2 (Nat.mod_lt _ A.ne), ?_⟩)
        unfold outs corn
        have e1 : atB L (i % L.length) = atB L i := by unfold atB; rw [Nat.mod_mod]
        have e2 : atB L (i % L.length + 1) = atB L (i + 1) := by unfold atB; rw [Nat.mod_add_mod]
        rw [e1, e2]
        exact decide_eq_true h1
      · exact h1
theorem cut_len (A : Area S L) (h : Bd) : (cutA L h).length ≤ L.length + 1 := by
  unfold cutA
  by_cases hin : h ∈ L
  · rw [if_pos hin]; omega
  · rw [if_neg hin]
    split
    · exact (left_len A hin _ (Nat.le_refl _)).1
    · omega
theorem cut_nil (h : Bd) : cutA [] h = [] := by unfold cutA; simp
end
end Go.Proofs.Ytllpffkifleigaa
end
section
namespace Go.Proofs.Ytllpffkifleigaa

structure Sgt where
  x : Int
  y : Int
  l : Int
  lo : Int
  hi : Int
deriving DecidableEq
def hiB (s : Sgt) (w : Int) : Bd := ⟨s.x, s.y, (s.hi + w) * s.l⟩
def loB (s : Sgt) (w : Int) : Bd := ⟨-s.x, -s.y, (w - s.lo) * s.l⟩
/-- All winds. -/
def skyL : List Bd := [⟨1, 0, 120000⟩, ⟨0, 1, 120000⟩, ⟨-1, 0, 120000⟩, ⟨0, -1, 120000⟩]
/-- The half-planes of sights, as the document lists them. -/
def hvs (l : List Sgt) (w : Int) : List Bd := [⟨1, 0, 120000⟩, ⟨-1, 0, 120000⟩, ⟨0, 1, 120000⟩, ⟨0, -1, 120000⟩] ++ l.flatMap fun s => [hiB s w, loB s w]
def narA (L : List Bd) (s : Sgt) (w : Int) : List Bd := cutA (cutA L (hiB s w)) (loB s w)
def narL (L : List Bd) (l : List Sgt) (w : Int) : List Bd := l.foldl (fun L s => narA L s w) L
theorem mem_hvs {l : List Sgt} {w : Int} {b : Bd} : b ∈ hvs l w ↔ b ∈ hvs [] w ∨ ∃ s ∈ l, b = hiB s w ∨ b = loB s w := by
  unfold hvs
  simp only [List.mem_append, List.mem_flatMap, List.mem_cons, List.not_mem_nil, or_false, List.flatMap_nil, List.append_nil]
/-- An area, or nothing, of borders. -/
def InvA (S : Bd → Prop) (L : List Bd) : Prop := (L = [] ∧ Inf3 S) ∨ Area S L
theorem Inf3.mono {S S' : Bd → Prop} (h : ∀ s, S s → S' s) (hi : Inf3 S) : Inf3 S' := by
  obtain ⟨x, y, z, a, b, c, d⟩ := hi
  exact ⟨x, y, z, h x a, h y b, h z c, d⟩
theorem InvA.iff {S S' : Bd → Prop} {L : List Bd} (h : ∀ s, S s ↔ S' s) (hi : InvA S L) : InvA S' L := by
  rcases hi with ⟨a, b⟩ | a
  · exact .inl ⟨a, b.mono fun s hs => (h s).1 hs⟩
  · exact .inr (a.more (fun s hs => (h s).2 hs) fun x hx => (h x).1 (a.mem x hx))
theorem InvA.cut {S : Bd → Prop} {L : List Bd} (hi : InvA S L) (h : Bd) : InvA (fun s => S s ∨ s = h) (cutA L h) := by
  rcases hi with ⟨rfl, b⟩ | a
  · exact .inl ⟨cut_nil h, b.mono fun s hs => .inl hs⟩
  · rcases cut_ok a h with h1 | h1
    · exact .inl h1
    · exact .inr h1
theorem InvA.len {S : Bd → Prop} {L : List Bd} (hi : InvA S L) (h : Bd) : (cutA L h).length ≤ L.length + 1 := by
  rcases hi with ⟨rfl, b⟩ | a
  · rw [cut_nil]; simp
  · exact cut_len a h
theorem sky_area (w : Int) : Area (· ∈ hvs [] w) skyL := by
  have hS : ∀ s, s ∈ hvs [] w ↔ s ∈ skyL := fun s => by
    unfold hvs skyL
    simp only [List.flatMap_nil, List.append_nil, List.mem_cons, List.not_mem_nil, or_false]
    constructor
    · rintro (h | h | h | h)
      · exact .inl h
      · exact .inr (.inr (.inl h))
      · exact .inr (.inl h)
      · exact .inr (.inr (.inr h))
    · rintro (h | h | h | h)
      · exact .inl h
      · exact .inr (.inr (.inl h))
      · exact .inr (.inl h)
      · exact .inr (.inr (.inr h))
  have key : ∀ i, i < 4 → 0 < crs (skyL.getD i bd0) (skyL.getD ((i + 1) % 4) bd0) ∧ ∀ s ∈ skyL, 0 ≤ det (skyL.getD i bd0) (skyL.getD ((i + 1) % 4) bd0) s := by decide
  refine ⟨by decide, fun x hx => (hS x).2 hx, fun i => ?_, ?_⟩
  · have hi := Nat.mod_lt i (show 0 < 4 by decide)
    obtain ⟨k1, k2⟩ := key (i % 4) hi
    have e1 : atB skyL i = skyL.getD (i % 4) bd0 := rfl
    have e2 : atB skyL (i + 1) = skyL.getD ((i % 4 + 1) % 4) bd0 := by unfold atB; rw [show skyL.length = 4 from rfl, Nat.mod_add_mod]
    rw [e1, e2]
    exact ⟨k1, fun s hs => k2 s ((hS s).1 hs)⟩
  · unfold skyL samed crs dot
    simp
theorem nar_inv : ∀ (l pre : List Sgt) (L : List Bd) (w : Int), InvA (· ∈ hvs pre w) L → InvA (· ∈ hvs (pre ++ l) w) (narL L l w)
  | [], pre, L, w, h => by rw [List.append_nil]; exact h
  | s :: l, pre, L, w, h => by
    have h1 := (h.cut (hiB s w)).cut (loB s w)
    have h2 : InvA (· ∈ hvs (pre ++ [s]) w) (narA L s w) := h1.iff fun b => by
      rw [mem_hvs (l := pre), mem_hvs (l := pre ++ [s])]
      simp only [List.mem_append, List.mem_singleton]
      constructor
      · intro hh
        rcases hh with ((h | ⟨t, ht, h⟩) | h) | h
        · exact .inl h
        · exact .inr ⟨t, .inl ht, h⟩
        · exact .inr ⟨s, .inr rfl, .inl h⟩
        · exact .inr ⟨s, .inr rfl, .inr h⟩
      · intro hh
        rcases hh with h | ⟨t, ht | rfl, h⟩
        · exact .inl (.inl (.inl h))
        · exact .inl (.inl (.inr ⟨t, ht, h⟩))
        · rcases h with h | h
          · exact .inl (.inr h)
          · exact .inr h
    have h3 := nar_inv l (pre ++ [s]) (narA L s w) w h2
    rw [List.append_assoc] at h3
    exact h3
theorem nar_ok (l : List Sgt) (w : Int) : InvA (· ∈ hvs l w) (narL skyL l w) := nar_inv l [] skyL w (.inr (sky_area w))
theorem nar_len : ∀ (l pre : List Sgt) (L : List Bd) (w : Int), InvA (· ∈ hvs pre w) L → (narL L l w).length ≤ L.length + 2 * l.length
  | [], _, L, _, _ => Nat.le_refl _
  | s :: l, pre, L, w, h => by
    have h1 := h.cut (hiB s w)
    have a := h.len (hiB s w)
    have b := h1.len (loB s w)
    have h2 := nar_inv [s] pre L w h
    have c := nar_len l (pre ++ [s]) (narA L s w) w h2
    show (narL (narA L s w) l w).length ≤ _
    unfold narA at *
    rw [List.length_cons]
    omega
/-- Some wind agrees. -/
def Feas (l : List Sgt) (w : Int) : Prop := ∃ p : Pt, 0 < p.d ∧ ∀ s ∈ hvs l w, 0 ≤ gap s p
theorem inf_not {l : List Sgt} {w : Int} (h : Inf3 (· ∈ hvs l w)) : ¬ Feas l w := by
  rintro ⟨p, hp, ha⟩
  obtain ⟨x, y, z, a, b, c, d⟩ := h
  have h1 := ha x a
  have h2 := ha y b
  have h3 := ha z c
  rcases d p hp with h | h | h <;> omega
theorem area_feas {l : List Sgt} {w : Int} {L : List Bd} (A : Area (· ∈ hvs l w) L) : Feas l w := ⟨corn L 0, A.d 0, fun s hs => A.in_ 0 hs⟩
theorem nar_nil {l : List Sgt} {w : Int} : narL skyL l w = [] ↔ ¬ Feas l w := by
  rcases nar_ok l w with ⟨a, b⟩ | a
  · exact ⟨fun _ => inf_not b, fun _ => a⟩
  · exact ⟨fun h => absurd a.ne (by rw [h]; simp), fun h => absurd (area_feas a) h⟩
theorem nar_area {l : List Sgt} {w : Int} (h : Feas l w) : Area (· ∈ hvs l w) (narL skyL l w) := by
  rcases nar_ok l w with ⟨a, b⟩ | a
  · exact absurd h (inf_not b)
  · exact a
theorem Feas.sub {l l' : List Sgt} {w : Int} (h : Feas l w) (hs : ∀ s ∈ l', s ∈ l) : Feas l' w := by
  obtain ⟨p, hp, ha⟩ := h
  refine ⟨p, hp, fun s hm => ha s ?_⟩
  rw [mem_hvs] at hm ⊢
  rcases hm with h | ⟨t, ht, h⟩
  · exact .inl h
  · exact .inr ⟨t, hs t ht, h⟩
theorem feas_nil (w : Int) : Feas [] w := area_feas (sky_area w)
theorem Feas.wide {l : List Sgt} {w w' : Int} (h : Feas l w) (hw : w ≤ w') (hl : ∀ s ∈ l, 0 ≤ s.l) : Feas l w' := by
  obtain ⟨p, hp, ha⟩ := h
  refine ⟨p, hp, fun s hm => ?_⟩
  rw [mem_hvs] at hm
  rcases hm with h | ⟨t, ht, h | h⟩
  · exact ha s (mem_hvs.2 (.inl h))
  · subst h
    have a := ha _ (mem_hvs.2 (.inr ⟨t, ht, .inl rfl⟩))
    unfold gap hiB at *
    simp only at *
    have m : 0 ≤ (w' - w) * t.l * p.d := Int.mul_nonneg (Int.mul_nonneg (by omega) (hl t ht)) (by omega)
    grind
  · subst h
    have a := ha _ (mem_hvs.2 (.inr ⟨t, ht, .inr rfl⟩))
    unfold gap loB at *
    simp only at *
    have m : 0 ≤ (w' - w) * t.l * p.d := Int.mul_nonneg (Int.mul_nonneg (by omega) (hl t ht)) (by omega)
    grind
/-- Whichever sights are in conflict, three of them are. -/
theorem helly {l : List Sgt} {w : Int} (h : ¬ Feas l w) : ∃ a b c, a ∈ l ∧ b ∈ l ∧ c ∈ l ∧ ¬ Feas [a, b, c] w := by
  rcases nar_ok l w with ⟨-, x, y, z, hx, hy, hz, hn⟩ | a
  · have hne : ∃ s0, s0 ∈ l := by
      cases l with
      | nil => exact absurd (feas_nil w) h
      | cons s l => exact ⟨s, List.mem_cons_self⟩
    obtain ⟨s0, h0⟩ := hne
    have pick : ∀ b, b ∈ hvs l w → ∃ s ∈ l, b ∈ hvs [s] w := fun b hb => by
      rw [mem_hvs] at hb
      rcases hb with hb | ⟨s, hs, hb⟩
      · exact ⟨s0, h0, mem_hvs.2 (.inl hb)⟩
      · exact ⟨s, hs, mem_hvs.2 (.inr ⟨s, List.mem_singleton.2 rfl, hb⟩)⟩
    obtain ⟨a, ha, a2⟩ := pick x hx
    obtain ⟨b, hb, b2⟩ := pick y hy
    obtain ⟨c, hc, c2⟩ := pick z hz
    have up : ∀ {q s : Sgt} {t : Bd}, t ∈ hvs [s] w → s ∈ [a, b, c] → t ∈ hvs [a, b, c] w := fun {q s t} ht hs => by
      rw [mem_hvs] at ht ⊢
      rcases ht with ht | ⟨u, hu, ht⟩
      · exact .inl ht
      · rw [List.mem_singleton] at hu
        subst hu
        exact .inr ⟨u, hs, ht⟩
    refine ⟨a, b, c, ha, hb, hc, ?_⟩
    rintro ⟨p, hp, hall⟩
    have q1 := hall x (up (q := a) a2 (by simp))
    have q2 := hall y (up (q := a) b2 (by simp))
    have q3 := hall z (up (q := a) c2 (by simp))
    rcases hn p hp with h | h | h <;> omega
  · exact absurd (area_feas a) h

/-! ### The document's corners -/
def pcor (p q : Bd) : Option Pt := if crs p q = 0 then none else if crs p q < 0 then some ⟨-(cor p q).u, -(cor p q).v, -(cor p q).d⟩ else some (cor p q)
def refOne (hs : List Bd) (p q : Bd) : List Pt := match pcor p q with
  | some c => if hs.all (fun s => decide (0 ≤ gap s c)) = true then [c] else []
  | none => []
def rcorI (hs : List Bd) (i : Nat) : Nat → List Pt
  | 0 => []
  | k + 1 => rcorI hs i k ++ refOne hs (hs.getD i bd0) (hs.getD k bd0)
def rcorN (hs : List Bd) : Nat → List Pt
  | 0 => []
  | i + 1 => rcorN hs i ++ rcorI hs i i
def rcor (hs : List Bd) : List Pt := rcorN hs hs.length
theorem pcor_swap (p q : Bd) : pcor p q = pcor q p := by
  unfold pcor
  have e := crs_swap p q
  have e1 : (cor q p).u = -(cor p q).u := by unfold cor; simp only; grind
  have e2 : (cor q p).v = -(cor p q).v := by unfold cor; simp only; grind
  have e3 : (cor q p).d = -(cor p q).d := by unfold cor; simp only; grind
  by_cases h0 : crs p q = 0
  · rw [if_pos h0, if_pos (by omega)]
  · rw [if_neg h0, if_neg (by omega : ¬ crs q p = 0)]
    by_cases h1 : crs p q < 0
    · rw [if_pos h1, if_neg (by omega : ¬ crs q p < 0)]
      rw [← e1, ← e2, ← e3]
    · rw [if_neg h1, if_pos (by omega : crs q p < 0)]
      rw [e1, e2, e3, Int.neg_neg, Int.neg_neg, Int.neg_neg]
theorem refOne_in {hs : List Bd} {p q : Bd} {c : Pt} (h : c ∈ refOne hs p q) : 0 < c.d ∧ ∀ s ∈ hs, 0 ≤ gap s c := by
  unfold refOne at h
  split at h
  · rename_i c' hc
    split at h
    · rename_i ha
      rw [List.mem_singleton] at h
      subst h
      refine ⟨?_, fun s hs => of_decide_eq_true (List.all_eq_true.1 ha s hs)⟩
      unfold pcor at hc
      split at hc
      · cases hc
      · split at hc
        · rw [← Option.some.inj hc]
          show 0 < -(cor p q).d
          rw [cor_d]; omega
        · rw [← Option.some.inj hc, cor_d]; omega
    · cases h
  · cases h
theorem rcorI_in {hs : List Bd} {i : Nat} {c : Pt} : ∀ k, c ∈ rcorI hs i k → 0 < c.d ∧ ∀ s ∈ hs, 0 ≤ gap s c
  | 0, h => by cases h
  | k + 1, h => by
    rw [rcorI, List.mem_append] at h
    rcases h with h | h
    · exact rcorI_in k h
    · exact refOne_in h
theorem rcorN_in {hs : List Bd} {c : Pt} : ∀ i, c ∈ rcorN hs i → 0 < c.d ∧ ∀ s ∈ hs, 0 ≤ gap s c
  | 0, h => by cases h
  | i + 1, h => by
    rw [rcorN, List.mem_append] at h
    rcases h with h | h
    · exact rcorN_in i h
    · exact rcorI_in i h
theorem rcorI_has {hs : List Bd} {i k : Nat} {c : Pt} (h : c ∈ refOne hs (hs.getD i bd0) (hs.getD k bd0)) : ∀ m, k < m → c ∈ rcorI hs i m
  | 0, hk => by omega
  | m + 1, hk => by
    rw [rcorI, List.mem_append]
    by_cases e : k = m
    · subst e; exact .inr h
    · exact .inl (rcorI_has h m (by omega))
theorem rcorN_has {hs : List Bd} {i : Nat} {c : Pt} (h : c ∈ rcorI hs i i) : ∀ m, i < m → c ∈ rcorN hs m
  | 0, hk => by omega
  | m + 1, hk => by
    rw [rcorN, List.mem_append]
    by_cases e : i = m
    · subst e; exact .inr h
    · exact .inl (rcorN_has h m (by omega))
theorem rcor_has {hs : List Bd} {x y : Bd} (hx : x ∈ hs) (hy : y ∈ hs) (hc : 0 < crs x y) (ha : ∀ s ∈ hs, 0 ≤ gap s (cor x y)) : cor x y ∈ rcor hs := by
  obtain ⟨i, hi, ei⟩ := List.mem_iff_getElem.1 hx
  obtain ⟨k, hk, ek⟩ := List.mem_iff_getElem.1 hy
  have gi : hs.getD i bd0 = x := by rw [List.getD_eq_getElem?_getD, List.getElem?_eq_getElem hi]; exact ei
  have gk : hs.getD k bd0 = y := by rw [List.getD_eq_getElem?_getD, List.getElem?_eq_getElem hk]; exact ek
  have p1 : pcor x y = some (cor x y) := by unfold pcor; rw [if_neg (by omega), if_neg (by omega)]
  have p2 : cor x y ∈ refOne hs x y := by unfold refOne; rw [p1]; simp only; rw [if_pos (List.all_eq_true.2 fun s hs' => decide_eq_true (ha s hs'))]; exact List.mem_singleton.2 rfl
  have p3 : cor x y ∈ refOne hs y x := by unfold refOne at p2 ⊢; rw [pcor_swap y x]; exact p2
  have hne : i ≠ k := fun e => by subst e; rw [ei] at ek; subst ek; rw [crs_self] at hc; omega
  unfold rcor
  rcases Nat.lt_or_gt_of_ne hne with h | h
  · exact rcorN_has (rcorI_has (by rw [gk, gi]; exact p3) k h) _ hk
  · exact rcorN_has (rcorI_has (by rw [gi, gk]; exact p2) i h) _ hi
theorem rcor_feas {l : List Sgt} {w : Int} : rcor (hvs l w) = [] ↔ ¬ Feas l w := by
  constructor
  · intro h hf
    have A := nar_area hf
    have := rcor_has (A.at_ 0) (A.at_ (0 + 1)) (A.nxt 0).pos fun s hs => A.in_ 0 hs
    rw [h] at this
    cases this
  · intro h
    cases hc : rcor (hvs l w) with
    | nil => rfl
    | cons c t =>
      have := rcorN_in (hs := hvs l w) (c := c) (hvs l w).length (by show c ∈ rcor (hvs l w); rw [hc]; exact List.mem_cons_self)
      exact absurd ⟨c, this⟩ h
end Go.Proofs.Ytllpffkifleigaa
end
section
namespace Go.Proofs.Ytllpffkifleigaa

/-- How far a wind goes along a direction. -/
def val (x y : Int) (p : Pt) : Int := x * p.u + y * p.v
/-- A wind that lies within. -/
def Inn (hs : List Bd) (p : Pt) : Prop := 0 < p.d ∧ ∀ s ∈ hs, 0 ≤ gap s p
/-- `lo` is the least speed along a direction of such a length, rounded down. -/
structure Low (hs : List Bd) (x y len lo : Int) : Prop where
  all : ∀ p, Inn hs p → lo * (len * p.d) ≤ val x y p
  some : ∃ p, Inn hs p ∧ val x y p < (lo + 1) * (len * p.d)
theorem Low.unique {hs : List Bd} {x y len a b : Int} (hl : 0 < len) (ha : Low hs x y len a) (hb : Low hs x y len b) : a = b := by
  obtain ⟨p, hp, h1⟩ := ha.some
  obtain ⟨q, hq, h2⟩ := hb.some
  have h3 := hb.all p hp
  have h4 := ha.all q hq
  have k1 : b * (len * p.d) < (a + 1) * (len * p.d) := by omega
  have k2 : a * (len * q.d) < (b + 1) * (len * q.d) := by omega
  have d1 : 0 < len * p.d := Int.mul_pos hl hp.1
  have d2 : 0 < len * q.d := Int.mul_pos hl hq.1
  have l1 := Int.lt_of_mul_lt_mul_right k1 (by omega)
  have l2 := Int.lt_of_mul_lt_mul_right k2 (by omega)
  omega
theorem Low.congr {hs hs' : List Bd} {x y len lo : Int} (h : Low hs x y len lo) (hh : ∀ p, Inn hs p ↔ Inn hs' p) : Low hs' x y len lo := by
  obtain ⟨p, hp, h1⟩ := h.some
  exact ⟨fun q hq => h.all q ((hh q).2 hq), p, (hh p).1 hp, h1⟩
/-- The speed of a corner, rounded down. -/
def spd (x y len : Int) (p : Pt) : Int := val x y p / (p.d * len)
/-- The least of corners. -/
def loL (x y len : Int) (m : Int) (l : List Pt) : Int := l.foldl (fun m p => min m (spd x y len p)) m
theorem loL_le {x y len : Int} : ∀ (l : List Pt) (m : Int), loL x y len m l ≤ m ∧ ∀ p ∈ l, loL x y len m l ≤ spd x y len p
  | [], m => ⟨Int.le_refl _, fun p hp => by cases hp⟩
  | q :: l, m => by
    obtain ⟨h1, h2⟩ := loL_le (x := x) (y := y) (len := len) l (min m (spd x y len q))
    unfold loL at *
    rw [List.foldl_cons]
    refine ⟨by omega, fun p hp => ?_⟩
    rcases List.mem_cons.1 hp with rfl | hp
    · omega
    · exact h2 p hp
theorem loL_has {x y len : Int} : ∀ (l : List Pt) (m : Int), loL x y len m l = m ∨ ∃ p ∈ l, loL x y len m l = spd x y len p
  | [], m => .inl rfl
  | q :: l, m => by
    rcases loL_has (x := x) (y := y) (len := len) l (min m (spd x y len q)) with h | ⟨p, hp, h⟩
    · unfold loL at *
      rw [List.foldl_cons, h]
      by_cases c : m ≤ spd x y len q
      · exact .inl (by omega)
      · exact .inr ⟨q, List.mem_cons_self, by omega⟩
    · unfold loL at *
      rw [List.foldl_cons]
      exact .inr ⟨p, List.mem_cons_of_mem _ hp, h⟩
theorem spd_le {x y len : Int} {p : Pt} (hl : 0 < len) (hp : 0 < p.d) : spd x y len p * (len * p.d) ≤ val x y p := by
  unfold spd
  have h := Int.ediv_mul_le (val x y p) (show p.d * len ≠ 0 by have := Int.mul_pos hp hl; omega)
  rwa [Int.mul_comm p.d len] at h ⊢
theorem spd_lt {x y len : Int} {p : Pt} (hl : 0 < len) (hp : 0 < p.d) : val x y p < (spd x y len p + 1) * (len * p.d) := by
  unfold spd
  have h := Int.lt_ediv_add_one_mul_self (val x y p) (show 0 < p.d * len from Int.mul_pos hp hl)
  rwa [Int.mul_comm p.d len] at h ⊢
/-- All winds are slow. -/
theorem slow {l : List Sgt} {w : Int} {p : Pt} (h : Inn (hvs l w) p) : -120000 * p.d ≤ p.u ∧ p.u ≤ 120000 * p.d ∧ -120000 * p.d ≤ p.v ∧ p.v ≤ 120000 * p.d := by
  have hm : ∀ b, b ∈ [(⟨1, 0, 120000⟩ : Bd), ⟨-1, 0, 120000⟩, ⟨0, 1, 120000⟩, ⟨0, -1, 120000⟩] → 0 ≤ gap b p := fun b hb => h.2 b (by unfold hvs; exact List.mem_append_left _ hb)
  have h1 := hm ⟨1, 0, 120000⟩ (by simp)
  have h2 := hm ⟨-1, 0, 120000⟩ (by simp)
  have h3 := hm ⟨0, 1, 120000⟩ (by simp)
  have h4 := hm ⟨0, -1, 120000⟩ (by simp)
  unfold gap at h1 h2 h3 h4
  simp only at h1 h2 h3 h4
  omega
theorem abs_prod {x u len m : Int} (h1 : -len ≤ x) (h2 : x ≤ len) (h3 : -m ≤ u) (h4 : u ≤ m) (hl : 0 ≤ len) (hm : 0 ≤ m) : -(len * m) ≤ x * u ∧ x * u ≤ len * m := by
  have a := Int.mul_le_mul_of_nonneg_left (show u ≤ m from h4) hl
  have b := Int.mul_le_mul_of_nonneg_left (show -m ≤ u from h3) hl
  rw [Int.mul_neg] at b
  rcases Int.lt_or_le u 0 with c | c
  · have e1 : len * u ≤ x * u := Int.mul_le_mul_of_nonpos_right h2 (by omega)
    have e2 : x * u ≤ -len * u := Int.mul_le_mul_of_nonpos_right h1 (by omega)
    rw [Int.neg_mul] at e2
    omega
  · have e1 : x * u ≤ len * u := Int.mul_le_mul_of_nonneg_right h2 c
    have e2 : -len * u ≤ x * u := Int.mul_le_mul_of_nonneg_right h1 c
    rw [Int.neg_mul] at e2
    omega
theorem slow_val {l : List Sgt} {w x y len : Int} {p : Pt} (h : Inn (hvs l w) p) (hl : 0 < len) (hx : -len ≤ x ∧ x ≤ len) (hy : -len ≤ y ∧ y ≤ len) : -240000 * (len * p.d) ≤ val x y p ∧ val x y p ≤ 240000 * (len * p.d) := by
  obtain ⟨a, b, c, d⟩ := slow h
  have hd := h.1
  have e1 := abs_prod hx.1 hx.2 (show -(120000 * p.d) ≤ p.u by omega) b (by omega) (by omega)
  have e2 := abs_prod hy.1 hy.2 (show -(120000 * p.d) ≤ p.v by omega) d (by omega) (by omega)
  have e3 : len * (120000 * p.d) = 120000 * (len * p.d) := by rw [← Int.mul_assoc, Int.mul_comm len 120000, Int.mul_assoc]
  rw [e3] at e1 e2
  unfold val
  omega
theorem slow_one {l : List Sgt} {w : Int} {p : Pt} (h : Inn (hvs l w) p) (x y : Int) (hxy : (x = 1 ∧ y = 0) ∨ (x = 0 ∧ y = 1) ∨ (x = -1 ∧ y = 0) ∨ (x = 0 ∧ y = -1)) : -120000 * (1 * p.d) ≤ val x y p ∧ val x y p ≤ 120000 * (1 * p.d) := by
  obtain ⟨a, b, c, d⟩ := slow h
  unfold val
  rcases hxy with ⟨rfl, rfl⟩ | ⟨rfl, rfl⟩ | ⟨rfl, rfl⟩ | ⟨rfl, rfl⟩ <;> omega
/-- Corners that hold one at each end give the least speed. -/
theorem low_of {hs : List Bd} {x y len m : Int} {cs : List Pt} (hl : 0 < len) (hin : ∀ p ∈ cs, Inn hs p) {q : Pt} (hq : q ∈ cs) (hbest : ∀ p, Inn hs p → val x y q * p.d ≤ val x y p * q.d) (hm : val x y q ≤ m * (len * q.d)) : Low hs x y len (loL x y len m cs) := by
  have hqi := hin q hq
  have key : loL x y len m cs = spd x y len q := by
    have h1 := (loL_le (x := x) (y := y) (len := len) cs m).2 q hq
    rcases loL_has (x := x) (y := y) (len := len) cs m with h | ⟨p, hp, h⟩
    · have h2 := spd_le (x := x) (y := y) hl hqi.1
      have h3 : spd x y len q * (len * q.d) ≤ m * (len * q.d) := Int.le_trans h2 hm
      have := Int.le_of_mul_le_mul_right h3 (Int.mul_pos hl hqi.1)
      omega
    · have hpi := hin p hp
      have h2 := hbest p hpi
      have a1 := spd_le (x := x) (y := y) hl hqi.1
      have a2 := spd_lt (x := x) (y := y) hl hpi.1
      have b1 : spd x y len q * (len * q.d) * p.d ≤ val x y q * p.d := Int.mul_le_mul_of_nonneg_right a1 (by have := hpi.1; omega)
      have b2 : val x y p * q.d < (spd x y len p + 1) * (len * p.d) * q.d := Int.mul_lt_mul_of_pos_right a2 hqi.1
      have b3 : spd x y len q * (len * q.d * p.d) < (spd x y len p + 1) * (len * q.d * p.d) := by
        have e1 : spd x y len q * (len * q.d) * p.d = spd x y len q * (len * q.d * p.d) := by rw [Int.mul_assoc]
        have e2 : (spd x y len p + 1) * (len * p.d) * q.d = (spd x y len p + 1) * (len * q.d * p.d) := by rw [Int.mul_assoc, Int.mul_assoc len, Int.mul_comm p.d q.d, Int.mul_assoc len]
        omega
      have := Int.lt_of_mul_lt_mul_right b3 (by have := Int.mul_pos (Int.mul_pos hl hqi.1) hpi.1; omega)
      omega
  rw [key]
  refine ⟨fun p hp => ?_, q, hqi, spd_lt hl hqi.1⟩
  have a1 := spd_le (x := x) (y := y) hl hqi.1
  have h2 := hbest p hp
  have b1 : spd x y len q * (len * q.d) * p.d ≤ val x y q * p.d := Int.mul_le_mul_of_nonneg_right a1 (by have := hp.1; omega)
  have e1 : spd x y len q * (len * q.d) * p.d = spd x y len q * (len * p.d) * q.d := by grind
  have b2 : spd x y len q * (len * p.d) * q.d ≤ val x y p * q.d := by omega
  exact Int.le_of_mul_le_mul_right b2 hqi.1
/-- The corners of an area, in order. -/
def corns (L : List Bd) : List Pt := (List.range L.length).map (corn L)
theorem best_low {l : List Sgt} {w : Int} {L : List Bd} (A : Area (· ∈ hvs l w) L) (x y : Int) : ∃ i, i < L.length ∧ ∀ p, Inn (hvs l w) p → val x y (corn L i) * p.d ≤ val x y p * (corn L i).d := by
  obtain ⟨i, hi, h⟩ := best A ⟨-x, -y, 0⟩
  refine ⟨i, hi, fun p hp => ?_⟩
  have := h p hp.2
  simp only at this
  unfold val
  grind
theorem area_low {l : List Sgt} {w : Int} {L : List Bd} (A : Area (· ∈ hvs l w) L) {x y len : Int} (hl : 0 < len) (hx : -len ≤ x ∧ x ≤ len) (hy : -len ≤ y ∧ y ≤ len) : Low (hvs l w) x y len (loL x y len 240000 (corns L)) := by
  obtain ⟨i, hi, h⟩ := best_low A x y
  have hin : ∀ p ∈ corns L, Inn (hvs l w) p := fun p hp => by
    obtain ⟨j, -, rfl⟩ := List.mem_map.1 hp
    exact ⟨A.d j, fun s hs => A.in_ j hs⟩
  have hq : corn L i ∈ corns L := List.mem_map.2 ⟨i, List.mem_range.2 hi, rfl⟩
  exact low_of hl hin hq h (slow_val (hin _ hq) hl hx hy).2
theorem ref_low {l : List Sgt} {w : Int} (hf : Feas l w) {x y len m : Int} (hl : 0 < len) (hm : ∀ p, Inn (hvs l w) p → val x y p ≤ m * (len * p.d)) : Low (hvs l w) x y len (loL x y len m (rcor (hvs l w))) := by
  have A := nar_area hf
  obtain ⟨i, hi, h⟩ := best_low A x y
  have hin : ∀ p ∈ rcor (hvs l w), Inn (hvs l w) p := fun p hp => rcorN_in _ hp
  have hq : corn (narL skyL l w) i ∈ rcor (hvs l w) := rcor_has (A.at_ i) (A.at_ (i + 1)) (A.nxt i).pos fun s hs => A.in_ i hs
  exact low_of hl hin hq h (hm _ (hin _ hq))
/-- The area and the document agree. -/
theorem reach_ref {l : List Sgt} {w : Int} (hf : Feas l w) {x y len m : Int} (hl : 0 < len) (hx : -len ≤ x ∧ x ≤ len) (hy : -len ≤ y ∧ y ≤ len) (hm : ∀ p, Inn (hvs l w) p → val x y p ≤ m * (len * p.d)) : loL x y len 240000 (corns (narL skyL l w)) = loL x y len m (rcor (hvs l w)) :=
  Low.unique hl (area_low (nar_area hf) hl hx hy) (ref_low hf hl hm)
end Go.Proofs.Ytllpffkifleigaa
end
section
namespace Go.Proofs.Ytllpffkifleigaa

/-- The first number that is not below, by halving. -/
def bis (B : Int → Bool) (lo hi : Int) : Int :=
  if lo < hi then (if B (lo + (hi - lo) / 2) = true then bis B (lo + (hi - lo) / 2 + 1) hi else bis B lo (lo + (hi - lo) / 2)) else lo
termination_by (hi - lo).toNat
decreasing_by
  · have : 0 ≤ (hi - lo) / 2 := Int.ediv_nonneg (by omega) (by omega)
    omega
  · omega
theorem bis_yes {B : Int → Bool} {lo hi : Int} (h : lo < hi) (hb : B (lo + (hi - lo) / 2) = true) : bis B lo hi = bis B (lo + (hi - lo) / 2 + 1) hi := by
  rw [bis, if_pos h, if_pos hb]
theorem bis_no {B : Int → Bool} {lo hi : Int} (h : lo < hi) (hb : B (lo + (hi - lo) / 2) = false) : bis B lo hi = bis B lo (lo + (hi - lo) / 2) := by
  rw [bis, if_pos h, if_neg (by rw [hb]; simp)]
theorem bis_end {B : Int → Bool} {lo hi : Int} (h : ¬ lo < hi) : bis B lo hi = lo := by rw [bis, if_neg h]
theorem bis_spec {B : Int → Bool} (hm : ∀ s t, t ≤ s → B s = true → B t = true) : ∀ (n : Nat) (lo hi : Int), (hi - lo).toNat ≤ n → lo ≤ hi → B hi = false → lo ≤ bis B lo hi ∧ bis B lo hi ≤ hi ∧ B (bis B lo hi) = false ∧ ∀ t, lo ≤ t → t < bis B lo hi → B t = true
  | n, lo, hi, hn, hl, hb => by
    by_cases h : lo < hi
    · have h2 : 0 ≤ (hi - lo) / 2 ∧ (hi - lo) / 2 < hi - lo := ⟨Int.ediv_nonneg (by omega) (by omega), by omega⟩
      cases n with
      | zero => omega
      | succ n =>
        cases hB : B (lo + (hi - lo) / 2) with
        | true =>
          rw [bis_yes h hB]
          obtain ⟨a, b, c, d⟩ := bis_spec hm n (lo + (hi - lo) / 2 + 1) hi (by omega) (by omega) hb
          refine ⟨by omega, b, c, fun t t1 t2 => ?_⟩
          by_cases q : t ≤ lo + (hi - lo) / 2
          · exact hm _ _ q hB
          · exact d t (by omega) t2
        | false =>
          rw [bis_no h hB]
          obtain ⟨a, b, c, d⟩ := bis_spec hm n lo (lo + (hi - lo) / 2) (by omega) (by omega) hB
          exact ⟨a, by omega, c, d⟩
    · rw [bis_end h]
      have : hi = lo := by omega
      subst this
      exact ⟨Int.le_refl _, Int.le_refl _, hb, fun t t1 t2 => by omega⟩
/-- Whether a corner goes further. -/
def beyB (cs : List Pt) (x y len s : Int) : Bool := cs.any fun p => decide (s * (len * p.d) < val x y p)
theorem beyB_iff {cs : List Pt} {x y len s : Int} : beyB cs x y len s = true ↔ ∃ p ∈ cs, s * (len * p.d) < val x y p := by
  unfold beyB
  rw [List.any_eq_true]
  constructor
  · rintro ⟨p, hp, h⟩; exact ⟨p, hp, of_decide_eq_true h⟩
  · rintro ⟨p, hp, h⟩; exact ⟨p, hp, decide_eq_true h⟩
theorem beyB_no {cs : List Pt} {x y len s : Int} (h : beyB cs x y len s = false) : ∀ p ∈ cs, val x y p ≤ s * (len * p.d) := fun p hp => by
  rcases Int.lt_or_le (s * (len * p.d)) (val x y p) with c | c
  · rw [beyB_iff.2 ⟨p, hp, c⟩] at h; cases h
  · exact c
def upper (cs : List Pt) (x y len : Int) : Int := bis (beyB cs x y len) (-240000) 240000
theorem val_neg (x y : Int) (p : Pt) : val (-x) (-y) p = -val x y p := by unfold val; grind
theorem upper_low {l : List Sgt} {w : Int} (hf : Feas l w) {x y len : Int} (hl : 0 < len) (hx : -len ≤ x ∧ x ≤ len) (hy : -len ≤ y ∧ y ≤ len) : Low (hvs l w) (-x) (-y) len (-upper (rcor (hvs l w)) x y len) := by
  have A := nar_area hf
  have hin : ∀ p ∈ rcor (hvs l w), Inn (hvs l w) p := fun p hp => rcorN_in _ hp
  have hpos : ∀ p ∈ rcor (hvs l w), 0 < len * p.d := fun p hp => Int.mul_pos hl (hin p hp).1
  have hmono : ∀ s t, t ≤ s → beyB (rcor (hvs l w)) x y len s = true → beyB (rcor (hvs l w)) x y len t = true := fun s t hst hs => by
    obtain ⟨p, hp, h⟩ := beyB_iff.1 hs
    have := Int.mul_le_mul_of_nonneg_right hst (show 0 ≤ len * p.d by have := hpos p hp; omega)
    exact beyB_iff.2 ⟨p, hp, by omega⟩
  have htop : beyB (rcor (hvs l w)) x y len 240000 = false := by
    cases h : beyB (rcor (hvs l w)) x y len 240000 with
    | false => rfl
    | true =>
      obtain ⟨p, hp, h⟩ := beyB_iff.1 h
      have := (slow_val (hin p hp) hl hx hy).2
      omega
  obtain ⟨b1, b2, b3, b4⟩ := bis_spec hmono 480000 (-240000) 240000 (by omega) (by omega) htop
  change -240000 ≤ upper (rcor (hvs l w)) x y len at b1
  change beyB (rcor (hvs l w)) x y len (upper (rcor (hvs l w)) x y len) = false at b3
  change ∀ t, -240000 ≤ t → t < upper (rcor (hvs l w)) x y len → _ at b4
  generalize upper (rcor (hvs l w)) x y len = r at *
  obtain ⟨i, hi, h⟩ := best_low A (-x) (-y)
  have hq : corn (narL skyL l w) i ∈ rcor (hvs l w) := rcor_has (A.at_ i) (A.at_ (i + 1)) (A.nxt i).pos fun s hs => A.in_ i hs
  have hqi := hin _ hq
  generalize corn (narL skyL l w) i = q at *
  refine ⟨fun p hp => ?_, ?_⟩
  · have h1 := h p hp
    have h2 := beyB_no b3 q hq
    rw [val_neg, val_neg] at h1
    rw [val_neg]
    have e1 : val x y p * q.d ≤ val x y q * p.d := by rw [Int.neg_mul, Int.neg_mul] at h1; omega
    have e2 : val x y q * p.d ≤ r * (len * q.d) * p.d := Int.mul_le_mul_of_nonneg_right h2 (by have := hp.1; omega)
    have e3 : r * (len * q.d) * p.d = r * (len * p.d) * q.d := by grind
    have e4 : val x y p * q.d ≤ r * (len * p.d) * q.d := by omega
    have := Int.le_of_mul_le_mul_right e4 hqi.1
    rw [Int.neg_mul]
    omega
  · by_cases c : r = -240000
    · refine ⟨q, hqi, ?_⟩
      rw [val_neg, c]
      have h2 := (slow_val hqi hl hx hy).1
      have h3 := hpos q hq
      omega
    · obtain ⟨p, hp, h2⟩ := beyB_iff.1 (b4 (r - 1) (by omega) (by omega))
      refine ⟨p, hin p hp, ?_⟩
      rw [val_neg]
      have e : (-r + 1) * (len * p.d) = -((r - 1) * (len * p.d)) := by rw [← Int.neg_mul]; congr 1; omega
      omega
/-- What Along answers, told by the area and by the document's corners. -/
theorem along_ref {l : List Sgt} {w : Int} (hf : Feas l w) {x y len : Int} (hl : 0 < len) (hx : -len ≤ x ∧ x ≤ len) (hy : -len ≤ y ∧ y ≤ len) :
    loL x y len 240000 (corns (narL skyL l w)) = -upper (rcor (hvs l w)) (-x) (-y) len ∧ -loL (-x) (-y) len 240000 (corns (narL skyL l w)) = upper (rcor (hvs l w)) x y len := by
  have h1 := area_low (nar_area hf) hl hx hy
  have h2 := upper_low hf (x := -x) (y := -y) hl ⟨by omega, by omega⟩ ⟨by omega, by omega⟩
  rw [Int.neg_neg, Int.neg_neg] at h2
  have h3 := area_low (nar_area hf) (x := -x) (y := -y) hl ⟨by omega, by omega⟩ ⟨by omega, by omega⟩
  have h4 := upper_low hf hl hx hy
  exact ⟨Low.unique hl h1 h2, by have := Low.unique hl h3 h4; omega⟩
/-- What Bounds answers. -/
theorem bounds_ref {l : List Sgt} {w : Int} (hf : Feas l w) (x y : Int) (hxy : (x = 1 ∧ y = 0) ∨ (x = 0 ∧ y = 1) ∨ (x = -1 ∧ y = 0) ∨ (x = 0 ∧ y = -1)) : loL x y 1 240000 (corns (narL skyL l w)) = loL x y 1 120000 (rcor (hvs l w)) :=
  reach_ref hf (by omega) (by omega) (by omega) fun p hp => (slow_one hp x y hxy).2
/-- The strain: the least number by which spans become wide enough. -/
theorem strain_eq {P Q : Int → Bool} (h : ∀ s, 0 ≤ s → s ≤ 400000 → P s = Q s) : ∀ (n : Nat) (lo hi : Int), (hi - lo).toNat ≤ n → 0 ≤ lo → hi ≤ 400000 → bis P lo hi = bis Q lo hi
  | n, lo, hi, hn, h0, h1 => by
    by_cases c : lo < hi
    · have h2 : 0 ≤ (hi - lo) / 2 ∧ (hi - lo) / 2 < hi - lo := ⟨Int.ediv_nonneg (by omega) (by omega), by omega⟩
      cases n with
      | zero => omega
      | succ n =>
        have e := h (lo + (hi - lo) / 2) (by omega) (by omega)
        cases hB : P (lo + (hi - lo) / 2) with
        | true =>
          rw [bis_yes c hB, bis_yes c (by rw [← e]; exact hB)]
          exact strain_eq h n _ _ (by omega) (by omega) h1
        | false =>
          rw [bis_no c hB, bis_no c (by rw [← e]; exact hB)]
          exact strain_eq h n _ _ (by omega) h0 (by omega)
    · rw [bis_end c, bis_end c]
end Go.Proofs.Ytllpffkifleigaa
end
section
namespace Go.Proofs.Ytllpffkifleigaa

/-- The sets of k numbers from f to n - 1, in order, as the document counts them. -/
def setsR (n : Nat) : Nat → Nat → List (List Nat)
  | 0, _ => [[]]
  | k + 1, f => (List.range' f (n - f)).flatMap fun i => (setsR n k (i + 1)).map (i :: ·)
theorem setsR_z (n f : Nat) : setsR n 0 f = [[]] := rfl
theorem setsR_up {n k f : Nat} (h : f < n) : setsR n (k + 1) f = (setsR n k (f + 1)).map (f :: ·) ++ setsR n (k + 1) (f + 1) := by
  show (List.range' f (n - f)).flatMap _ = _
  rw [show n - f = (n - (f + 1)) + 1 by omega, List.range'_succ, List.flatMap_cons]
  rfl
theorem setsR_none {n k f : Nat} (h : ¬ f < n) : setsR n (k + 1) f = [] := by
  show (List.range' f (n - f)).flatMap _ = _
  rw [show n - f = 0 by omega]
  rfl
/-- What a set is: so many numbers, in order, from f to n - 1. -/
def IsSet (n f : Nat) : List Nat → Prop
  | [] => True
  | a :: t => f ≤ a ∧ a < n ∧ IsSet n (a + 1) t
theorem IsSet.low {n f : Nat} : ∀ {t : List Nat} {g : Nat}, g ≤ f → IsSet n f t → IsSet n g t
  | [], _, _, _ => trivial
  | a :: t, g, hg, h => ⟨by have := h.1; omega, h.2.1, h.2.2⟩
theorem IsSet.mem {n : Nat} : ∀ {t : List Nat} {f x : Nat}, IsSet n f t → x ∈ t → f ≤ x ∧ x < n
  | [], _, _, _, h => by cases h
  | a :: t, f, x, h, hx => by
    rcases List.mem_cons.1 hx with e | e
    · subst e; exact ⟨h.1, h.2.1⟩
    · have := IsSet.mem h.2.2 e
      have := h.1
      omega
theorem mem_setsR {n : Nat} : ∀ {k : Nat} (d f : Nat) {t : List Nat}, n - f ≤ d → (t ∈ setsR n k f ↔ t.length = k ∧ IsSet n f t)
  | 0, d, f, t, hd => by
    rw [setsR_z, List.mem_singleton]
    constructor
    · rintro rfl; exact ⟨rfl, trivial⟩
    · rintro ⟨h, -⟩; exact List.eq_nil_of_length_eq_zero h
  | k + 1, 0, f, t, hd => by
    rw [setsR_none (by omega)]
    constructor
    · intro h; cases h
    · rintro ⟨h1, h2⟩
      cases t with
      | nil => cases h1
      | cons a t => have := h2.1; have := h2.2.1; omega
  | k + 1, d + 1, f, t, hd => by
    by_cases c : f < n
    · rw [setsR_up c, List.mem_append, List.mem_map, mem_setsR d (f + 1) (by omega)]
      constructor
      · rintro (⟨u, hu, rfl⟩ | ⟨h1, h2⟩)
        · rw [mem_setsR d (f + 1) (by omega)] at hu
          exact ⟨by rw [List.length_cons, hu.1], Nat.le_refl _, c, hu.2⟩
        · exact ⟨h1, h2.low (by omega)⟩
      · rintro ⟨h1, h2⟩
        cases t with
        | nil => cases h1
        | cons a t =>
          by_cases e : f = a
          · subst e
            exact .inl ⟨t, (mem_setsR d (f + 1) (by omega)).2 ⟨by simpa using h1, h2.2.2⟩, rfl⟩
          · exact .inr ⟨h1, by have := h2.1; omega, h2.2.1, h2.2.2⟩
    · rw [setsR_none c]
      constructor
      · intro h; cases h
      · rintro ⟨h1, h2⟩
        cases t with
        | nil => cases h1
        | cons a t => have := h2.1; have := h2.2.1; omega
theorem setsR_len {n k f : Nat} {t : List Nat} (h : t ∈ setsR n k f) : t.length = k := ((mem_setsR (n - f) f (Nat.le_refl _)).1 h).1
theorem setsR_set {n k f : Nat} {t : List Nat} (h : t ∈ setsR n k f) : IsSet n f t := ((mem_setsR (n - f) f (Nat.le_refl _)).1 h).2
theorem setsR_has {n k f : Nat} {t : List Nat} (h : t.length = k) (hs : IsSet n f t) : t ∈ setsR n k f := (mem_setsR (n - f) f (Nat.le_refl _)).2 ⟨h, hs⟩
theorem isSet_len {n : Nat} : ∀ {t : List Nat} {f : Nat}, f ≤ n → IsSet n f t → t.length + f ≤ n
  | [], f, h, _ => by rw [List.length_nil]; omega
  | a :: t, f, h, hs => by
    have := isSet_len (t := t) (f := a + 1) (by have := hs.2.1; omega) hs.2.2
    have := hs.1
    rw [List.length_cons]
    omega
theorem setsR_few {n k f : Nat} (h : f ≤ n) (hk : n < k + f) : setsR n k f = [] := by
  cases hc : setsR n k f with
  | nil => rfl
  | cons t r =>
    have hm : t ∈ setsR n k f := by rw [hc]; exact List.mem_cons_self
    have h1 := setsR_len hm
    have h2 := isSet_len h (setsR_set hm)
    omega
/-- The first set. -/
theorem setsR_head {n : Nat} : ∀ (k f : Nat), f + k ≤ n → (setsR n k f).head? = some (List.range' f k)
  | 0, f, _ => rfl
  | k + 1, f, h => by
    rw [setsR_up (by omega), List.head?_append, List.head?_map, setsR_head k (f + 1) (by omega)]
    rfl
/-- The set behind a set. -/
def nextS (n : Nat) : List Nat → Option (List Nat)
  | [] => none
  | a :: t => match nextS n t with
    | some t' => some (a :: t')
    | none => if a + (t.length + 1) < n then some (List.range' (a + 1) (t.length + 1)) else none
/-- Each element of a list leads to the one behind it, and the last one to r. -/
def leads (g : List Nat → Option (List Nat)) (r : Option (List Nat)) : List (List Nat) → Prop
  | [] => True
  | [a] => g a = r
  | a :: b :: t => g a = some b ∧ leads g r (b :: t)
theorem leads_app {g : List Nat → Option (List Nat)} {r : Option (List Nat)} : ∀ {A B : List (List Nat)}, leads g (B.head?.or r) A → leads g r B → leads g r (A ++ B)
  | [], B, _, h => h
  | [a], [], h, _ => h
  | [a], b :: B, h, hb => ⟨h, hb⟩
  | a :: b :: A, B, h, hb => ⟨h.1, leads_app (A := b :: A) h.2 hb⟩
theorem leads_map {n f k : Nat} {r : Option (List Nat)} : ∀ {A : List (List Nat)}, (∀ t ∈ A, t.length = k) → leads (nextS n) none A → (r = if f + (k + 1) < n then some (List.range' (f + 1) (k + 1)) else none) → leads (nextS n) r (A.map (f :: ·))
  | [], _, _, _ => trivial
  | [a], hl, h, hr => by
    show nextS n (f :: a) = r
    rw [nextS, show nextS n a = none from h, hl a List.mem_cons_self, hr]
  | a :: b :: A, hl, h, hr => by
    refine ⟨?_, leads_map (A := b :: A) (fun t ht => hl t (List.mem_cons_of_mem _ ht)) h.2 hr⟩
    rw [nextS, h.1]
theorem setsR_leads {n : Nat} : ∀ (k d f : Nat), n - f ≤ d → leads (nextS n) none (setsR n k f)
  | 0, _, f, _ => rfl
  | k + 1, 0, f, hd => by rw [setsR_none (by omega)]; trivial
  | k + 1, d + 1, f, hd => by
    by_cases c : f < n
    · rw [setsR_up c]
      refine leads_app (leads_map (fun t ht => setsR_len ht) (setsR_leads k (n - (f + 1)) (f + 1) (Nat.le_refl _)) ?_) (setsR_leads (k + 1) d (f + 1) (by omega))
      by_cases e : f + 1 + (k + 1) ≤ n
      · rw [setsR_head (k + 1) (f + 1) e, if_pos (by omega)]
        rfl
      · rw [if_neg (by omega)]
        by_cases e2 : f + 1 ≤ n
        · rw [setsR_few e2 (by omega)]; rfl
        · omega
    · rw [setsR_none c]; trivial
theorem leads_at {g : List Nat → Option (List Nat)} : ∀ {A : List (List Nat)}, leads g none A → ∀ {j : Nat} {t : List Nat}, A[j]? = some t → g t = A[j + 1]?
  | [], _, j, t, h => by simp at h
  | [a], h, 0, t, e => by
    simp at e; subst e
    exact h
  | [a], h, j + 1, t, e => by simp at e
  | a :: b :: A, h, 0, t, e => by
    simp at e; subst e
    exact h.1
  | a :: b :: A, h, j + 1, t, e => leads_at (A := b :: A) h.2 (j := j) e
/-- The set behind the one with number j is that with number j + 1. -/
theorem next_at {n k j : Nat} {t : List Nat} (h : (setsR n k 0)[j]? = some t) : nextS n t = (setsR n k 0)[j + 1]? := leads_at (setsR_leads k n 0 (by omega)) h

/-! ### How the next set is found: the last number that can be greater -/

theorem nextS_none {n : Nat} : ∀ {t : List Nat}, (∀ i, i < t.length → t.getD i 0 + (t.length - i) = n) → nextS n t = none
  | [], _ => rfl
  | a :: t, h => by
    have h0 := h 0 (by simp)
    rw [nextS, nextS_none (t := t) fun i hi => by have := h (i + 1) (by simp; omega); simp at this ⊢; omega, if_neg (by simp at h0; omega)]
theorem nextS_some {n : Nat} : ∀ {t : List Nat} {i : Nat}, i < t.length → t.getD i 0 + (t.length - i) < n → (∀ j, i < j → j < t.length → t.getD j 0 + (t.length - j) = n) → nextS n t = some (t.take i ++ List.range' (t.getD i 0 + 1) (t.length - i))
  | [], _, h, _, _ => by simp at h
  | a :: t, 0, h, h1, h2 => by
    rw [nextS, nextS_none fun i hi => by have := h2 (i + 1) (by omega) (by simp; omega); simp at this ⊢; omega, if_pos (by simp at h1; omega)]
    rfl
  | a :: t, i + 1, h, h1, h2 => by
    rw [nextS, nextS_some (t := t) (i := i) (by simpa using h) (by simpa using h1) fun j hj hl => by have := h2 (j + 1) (by omega) (by simp; omega); simpa using this]
    simp
/-- No number of a set is greater than in the last set. -/
theorem isSet_top {n : Nat} : ∀ {t : List Nat} {f i : Nat}, IsSet n f t → i < t.length → t.getD i 0 + (t.length - i) ≤ n
  | [], _, _, _, h => by simp at h
  | a :: t, f, 0, h, _ => by
    have := isSet_len (t := t) (f := a + 1) (by have := h.2.1; omega) h.2.2
    simp
    omega
  | a :: t, f, i + 1, h, hi => by
    have := isSet_top (t := t) (i := i) h.2.2 (by simpa using hi)
    simpa using this

/-! ### The first set that is wanted -/

/-- The first set of a to b numbers below n that is wanted. -/
def firstS (P : List Nat → Bool) (n a b : Nat) : Option (List Nat) := ((List.range' a (b + 1 - a)).flatMap fun k => setsR n k 0).find? P
theorem firstS_some {P : List Nat → Bool} {n a b k j : Nat} {t : List Nat} (ha : a ≤ k) (hb : k ≤ b) (h1 : ∀ k', a ≤ k' → k' < k → ∀ s ∈ setsR n k' 0, P s = false)
    (h2 : ∀ j' s, j' < j → (setsR n k 0)[j']? = some s → P s = false) (h3 : (setsR n k 0)[j]? = some t) (h4 : P t = true) : firstS P n a b = some t := by
  unfold firstS
  obtain ⟨hj, ht⟩ := List.getElem?_eq_some_iff.1 h3
  rw [show List.range' a (b + 1 - a) = List.range' a (k - a) ++ k :: List.range' (k + 1) (b - k) by
    have := List.range'_append_1 (s := a) (m := k - a) (n := b + 1 - k)
    rw [show k - a + (b + 1 - k) = b + 1 - a by omega, show a + (k - a) = k by omega] at this
    rw [← this, show b + 1 - k = (b - k) + 1 by omega, List.range'_succ]]
  rw [List.flatMap_append, List.flatMap_cons, List.find?_append, List.find?_append]
  rw [List.find?_eq_none.2 (by
    intro s hs
    obtain ⟨k', hk, hs⟩ := List.mem_flatMap.1 hs
    have := List.mem_range'_1.1 hk
    rw [h1 k' this.1 (by omega) s hs]
    decide)]
  have e : (setsR n k 0).find? P = some t := by
    rw [List.find?_eq_some_iff_getElem]
    refine ⟨h4, j, hj, ht, fun j' hj' => ?_⟩
    rw [h2 j' _ hj' (List.getElem?_eq_getElem (by omega))]
    rfl
  rw [e]
  rfl
theorem firstS_none {P : List Nat → Bool} {n a b : Nat} (h : ∀ k, a ≤ k → k ≤ b → ∀ s ∈ setsR n k 0, P s = false) : firstS P n a b = none := by
  unfold firstS
  rw [List.find?_eq_none]
  intro s hs
  obtain ⟨k, hk, hs⟩ := List.mem_flatMap.1 hs
  have := List.mem_range'_1.1 hk
  rw [h k this.1 (by omega) s hs]
  decide
theorem firstS_mem {P : List Nat → Bool} {n a b : Nat} {t : List Nat} (h : firstS P n a b = some t) : a ≤ t.length ∧ t.length ≤ b ∧ IsSet n 0 t ∧ P t = true := by
  unfold firstS at h
  have hp := List.find?_some h
  obtain ⟨k, hk, hs⟩ := List.mem_flatMap.1 (List.mem_of_find?_eq_some h)
  have := List.mem_range'_1.1 hk
  have := setsR_len hs
  exact ⟨by omega, by omega, setsR_set hs, hp⟩
theorem firstS_congr {P Q : List Nat → Bool} {n a b : Nat} (h : ∀ s, a ≤ s.length → s.length ≤ b → IsSet n 0 s → P s = Q s) : firstS P n a b = firstS Q n a b := by
  unfold firstS
  have : ∀ (L : List (List Nat)), (∀ s ∈ L, P s = Q s) → L.find? P = L.find? Q := by
    intro L
    induction L with
    | nil => intro _; rfl
    | cons s L ih =>
      intro hL
      rw [List.find?_cons, List.find?_cons, hL s List.mem_cons_self, ih fun s hs => hL s (List.mem_cons_of_mem _ hs)]
  refine this _ fun s hs => ?_
  obtain ⟨k, hk, hs⟩ := List.mem_flatMap.1 hs
  have := List.mem_range'_1.1 hk
  have := setsR_len hs
  exact h s (by omega) (by omega) (setsR_set hs)
/-- A smaller set that is wanted comes first. -/
theorem firstS_least {P : List Nat → Bool} {n a b : Nat} {t s : List Nat} (h : firstS P n a b = some t) (h1 : a ≤ s.length) (h2 : s.length ≤ b) (hs : IsSet n 0 s) (hp : P s = true) : t.length ≤ s.length := by
  apply Classical.byContradiction
  intro hc
  obtain ⟨h3, h4, h5, h6⟩ := firstS_mem h
  unfold firstS at h
  rw [show List.range' a (b + 1 - a) = List.range' a (s.length + 1 - a) ++ List.range' (s.length + 1) (b - s.length) by
    have := List.range'_append_1 (s := a) (m := s.length + 1 - a) (n := b - s.length)
    rw [show s.length + 1 - a + (b - s.length) = b + 1 - a by omega, show a + (s.length + 1 - a) = s.length + 1 by omega] at this
    exact this.symm, List.flatMap_append, List.find?_append] at h
  cases hf : (List.flatMap (fun k => setsR n k 0) (List.range' a (s.length + 1 - a))).find? P with
  | none =>
    rw [List.find?_eq_none] at hf
    exact absurd hp (hf s (List.mem_flatMap.2 ⟨s.length, List.mem_range'_1.2 ⟨h1, by omega⟩, setsR_has rfl hs⟩))
  | some u =>
    rw [hf] at h
    injection h with h
    subst h
    obtain ⟨k, hk, hs⟩ := List.mem_flatMap.1 (List.mem_of_find?_eq_some hf)
    have := List.mem_range'_1.1 hk
    have := setsR_len hs
    omega
/-- What bounds the sizes from above does not matter if a small set is wanted. -/
theorem firstS_more {P : List Nat → Bool} {n a b b' : Nat} {t : List Nat} (h : firstS P n a b = some t) (hb : t.length ≤ b') : firstS P n a b' = some t := by
  obtain ⟨h3, h4, h5, h6⟩ := firstS_mem h
  cases hf : firstS P n a b' with
  | none =>
    unfold firstS at hf
    rw [List.find?_eq_none] at hf
    exact absurd h6 (hf t (List.mem_flatMap.2 ⟨t.length, List.mem_range'_1.2 ⟨h3, by omega⟩, setsR_has rfl h5⟩))
  | some u =>
    have key : ∀ {b b' : Nat} {t : List Nat}, b ≤ b' → firstS P n a b = some t → firstS P n a b' = some t := by
      intro b b' t hbb h
      unfold firstS at h ⊢
      by_cases c : a ≤ b + 1
      · rw [show List.range' a (b' + 1 - a) = List.range' a (b + 1 - a) ++ List.range' (b + 1) (b' - b) by
          have := List.range'_append_1 (s := a) (m := b + 1 - a) (n := b' - b)
          rw [show b + 1 - a + (b' - b) = b' + 1 - a by omega, show a + (b + 1 - a) = b + 1 by omega] at this
          exact this.symm, List.flatMap_append, List.find?_append, h]
        rfl
      · rw [show b + 1 - a = 0 by omega] at h
        cases h
    by_cases c : b ≤ b'
    · rw [← hf, key c h]
    · have := key (b := b') (b' := b) (by omega) hf
      rw [h] at this
      exact this.symm
end Go.Proofs.Ytllpffkifleigaa
end
section
namespace Go.Proofs.Ytllpffkifleigaa

def sg0 : Sgt := ⟨0, 0, 0, 0, 0⟩
/-- Whether sights agree, by the document's corners; whether they do not, by the area. -/
def agrB (l : List Sgt) (w : Int) : Bool := !(rcor (hvs l w)).isEmpty
def empB (l : List Sgt) (w : Int) : Bool := (narL skyL l w).isEmpty
theorem agrB_iff {l : List Sgt} {w : Int} : agrB l w = true ↔ Feas l w := by
  have h := rcor_feas (l := l) (w := w)
  unfold agrB
  constructor
  · intro hb
    apply Classical.byContradiction
    intro hn
    rw [h.2 hn] at hb
    cases hb
  · intro hf
    cases hc : rcor (hvs l w) with
    | nil => exact absurd hf (h.1 hc)
    | cons a r => rfl
theorem agrB_no {l : List Sgt} {w : Int} : agrB l w = false ↔ ¬ Feas l w := by
  rw [← agrB_iff]; cases agrB l w <;> simp
theorem empB_iff {l : List Sgt} {w : Int} : empB l w = true ↔ ¬ Feas l w := by
  rw [← nar_nil]; unfold empB; exact List.isEmpty_iff
theorem empB_eq (l : List Sgt) (w : Int) : empB l w = !agrB l w := by
  cases h : agrB l w with
  | true => have := agrB_iff.1 h; cases he : empB l w with
    | true => exact absurd this (empB_iff.1 he)
    | false => rfl
  | false => exact empB_iff.2 (agrB_no.1 h)
theorem agrB_same {l l' : List Sgt} {w : Int} (h : ∀ s, s ∈ l ↔ s ∈ l') : agrB l w = agrB l' w := by
  cases h2 : agrB l' w with
  | true => exact agrB_iff.2 ((agrB_iff.1 h2).sub fun s hs => (h s).1 hs)
  | false => exact agrB_no.2 fun hf => agrB_no.1 h2 (hf.sub fun s hs => (h s).2 hs)
theorem narL_app (L : List Bd) (a b : List Sgt) (w : Int) : narL L (a ++ b) w = narL (narL L a w) b w := List.foldl_append
theorem narL_nil (l : List Sgt) (w : Int) : narL [] l w = [] := by
  induction l with
  | nil => rfl
  | cons s l ih =>
    show narL (narA [] s w) l w = []
    unfold narA
    rw [cut_nil, cut_nil]
    exact ih

/-! ### Some sights of a list -/

/-- The sights before number i whose numbers are wanted. -/
def selN (l : List Sgt) (p : Nat → Bool) : Nat → List Sgt
  | 0 => []
  | i + 1 => selN l p i ++ if p i then [l.getD i sg0] else []
theorem mem_selN {l : List Sgt} {p : Nat → Bool} {s : Sgt} : ∀ {i : Nat}, s ∈ selN l p i ↔ ∃ j, j < i ∧ p j = true ∧ s = l.getD j sg0
  | 0 => by
    constructor
    · intro h; cases h
    · rintro ⟨j, h, -⟩; omega
  | i + 1 => by
    rw [selN, List.mem_append, mem_selN]
    constructor
    · rintro (⟨j, h1, h2, h3⟩ | h)
      · exact ⟨j, by omega, h2, h3⟩
      · cases hp : p i with
        | true => rw [hp] at h; exact ⟨i, by omega, hp, by simpa using h⟩
        | false => rw [hp] at h; cases h
    · rintro ⟨j, h1, h2, h3⟩
      by_cases c : j < i
      · exact .inl ⟨j, c, h2, h3⟩
      · have e : j = i := by omega
        subst e
        rw [h2]
        exact .inr (by simp [h3])
/-- The sights with the numbers of a set; all others. -/
def inR (l : List Sgt) (set : List Nat) : List Sgt := selN l (fun i => set.contains i) l.length
def outR (l : List Sgt) (set : List Nat) : List Sgt := selN l (fun i => !set.contains i) l.length
def pick (l : List Sgt) (set : List Nat) : List Sgt := set.map fun i => l.getD i sg0
theorem mem_pick {l : List Sgt} {set : List Nat} {s : Sgt} : s ∈ pick l set ↔ ∃ i, i ∈ set ∧ s = l.getD i sg0 := by
  unfold pick
  rw [List.mem_map]
  exact ⟨fun ⟨i, h, e⟩ => ⟨i, h, e.symm⟩, fun ⟨i, h, e⟩ => ⟨i, h, e.symm⟩⟩
theorem pick_in {l : List Sgt} {set : List Nat} (h : IsSet l.length 0 set) (s : Sgt) : s ∈ pick l set ↔ s ∈ inR l set := by
  unfold inR
  rw [mem_pick, mem_selN]
  constructor
  · rintro ⟨i, hi, e⟩
    exact ⟨i, (h.mem hi).2, by simpa using hi, e⟩
  · rintro ⟨i, -, hi, e⟩
    exact ⟨i, by simpa using hi, e⟩

/-! ### Blame -/

/-- The document's blame: the first set that does not agree. -/
def blameR (l : List Sgt) : Option (List Nat) := firstS (fun s => !agrB (inR l s) 0) l.length 1 l.length
/-- The program's. -/
def blameP (l : List Sgt) : Option (List Nat) := firstS (fun s => empB (pick l s) 0) l.length 1 3
theorem ins_set {n : Nat} : ∀ {t : List Nat} {f : Nat} (a : Nat), f ≤ a → a < n → IsSet n f t → ∃ u, IsSet n f u ∧ u.length ≤ t.length + 1 ∧ ∀ x, x ∈ u ↔ x = a ∨ x ∈ t
  | [], f, a, h1, h2, _ => ⟨[a], ⟨h1, h2, trivial⟩, by simp, by simp⟩
  | b :: t, f, a, h1, h2, h => by
    by_cases c : a < b
    · refine ⟨a :: b :: t, ⟨h1, h2, by omega, h.2.1, h.2.2⟩, by simp, by simp⟩
    · by_cases e : a = b
      · subst e
        exact ⟨a :: t, h, by simp, fun x => by simp⟩
      · obtain ⟨u, h3, h4, h5⟩ := ins_set (t := t) (f := b + 1) a (by omega) h2 h.2.2
        refine ⟨b :: u, ⟨h.1, h.2.1, h3⟩, by simp; omega, fun x => ?_⟩
        rw [List.mem_cons, h5, List.mem_cons]
        constructor
        · rintro (h | h | h)
          · exact .inr (.inl h)
          · exact .inl h
          · exact .inr (.inr h)
        · rintro (h | h | h)
          · exact .inr (.inl h)
          · exact .inl h
          · exact .inr (.inr h)
theorem idx {l : List Sgt} {s : Sgt} (h : s ∈ l) : ∃ i, i < l.length ∧ l.getD i sg0 = s := by
  obtain ⟨i, hi, e⟩ := List.getElem_of_mem h
  exact ⟨i, hi, by rw [List.getD_eq_getElem?_getD, List.getElem?_eq_getElem hi]; exact e⟩
theorem getD_mem {l : List Sgt} {i : Nat} (h : i < l.length) : l.getD i sg0 ∈ l := by
  rw [List.getD_eq_getElem?_getD, List.getElem?_eq_getElem h]
  exact List.getElem_mem h
theorem pick_sub {l : List Sgt} {set : List Nat} (h : IsSet l.length 0 set) {s : Sgt} (hs : s ∈ pick l set) : s ∈ l := by
  obtain ⟨i, hi, e⟩ := mem_pick.1 hs
  rw [e]
  exact getD_mem (h.mem hi).2
/-- Three sights show a conflict. -/
theorem three {l : List Sgt} {w : Int} (h : ¬ Feas l w) : ∃ t, IsSet l.length 0 t ∧ 1 ≤ t.length ∧ t.length ≤ 3 ∧ ¬ Feas (pick l t) w := by
  obtain ⟨a, b, c, ha, hb, hc, hn⟩ := helly h
  obtain ⟨i, hi, ei⟩ := idx ha
  obtain ⟨j, hj, ej⟩ := idx hb
  obtain ⟨k, hk, ek⟩ := idx hc
  obtain ⟨t1, s1, l1, m1⟩ := ins_set (n := l.length) (t := []) (f := 0) i (Nat.zero_le _) hi trivial
  obtain ⟨t2, s2, l2, m2⟩ := ins_set (f := 0) j (Nat.zero_le _) hj s1
  obtain ⟨t3, s3, l3, m3⟩ := ins_set (f := 0) k (Nat.zero_le _) hk s2
  refine ⟨t3, s3, ?_, by simp at l1; omega, fun hf => hn (hf.sub fun s hs => ?_)⟩
  · exact List.length_pos_of_mem ((m3 k).2 (.inl rfl))
  · rw [mem_pick]
    simp only [List.mem_cons, List.not_mem_nil, or_false] at hs
    rcases hs with hs | hs | hs
    · exact ⟨i, (m3 i).2 (.inr ((m2 i).2 (.inr ((m1 i).2 (.inl rfl))))), by rw [hs, ei]⟩
    · exact ⟨j, (m3 j).2 (.inr ((m2 j).2 (.inl rfl))), by rw [hs, ej]⟩
    · exact ⟨k, (m3 k).2 (.inl rfl), by rw [hs, ek]⟩
theorem bl_same {l : List Sgt} {s : List Nat} (h : IsSet l.length 0 s) : (!agrB (inR l s) 0) = empB (pick l s) 0 := by
  rw [empB_eq, agrB_same (pick_in h)]
theorem blame_same {l : List Sgt} (h : ¬ Feas l 0) : ∃ t, blameP l = some t ∧ blameR l = some t ∧ 1 ≤ t.length ∧ t.length ≤ 3 ∧ IsSet l.length 0 t ∧ ¬ Feas (pick l t) 0 := by
  obtain ⟨t, h1, h2, h3, h4⟩ := three h
  cases hp : blameP l with
  | none =>
    unfold blameP firstS at hp
    rw [List.find?_eq_none] at hp
    exact absurd (empB_iff.2 h4) (hp t (List.mem_flatMap.2 ⟨t.length, List.mem_range'_1.2 ⟨h2, by omega⟩, setsR_has rfl h1⟩))
  | some u =>
    obtain ⟨h5, h6, h7, h8⟩ := firstS_mem hp
    have hl := isSet_len (Nat.zero_le _) h7
    refine ⟨u, rfl, ?_, h5, h6, h7, empB_iff.1 h8⟩
    unfold blameR
    rw [firstS_congr fun s _ _ hs => bl_same hs]
    exact firstS_more hp (by omega)
/-- Fewer than are blamed agree. -/
theorem blame_least {l : List Sgt} {t s : List Nat} (h : blameP l = some t) (hs : IsSet l.length 0 s) (hl : s.length < t.length) : Feas (pick l s) 0 := by
  apply Classical.byContradiction
  intro hn
  by_cases c : s.length = 0
  · rw [List.eq_nil_of_length_eq_zero c] at hn
    exact hn (feas_nil 0)
  · have := (firstS_mem h).2.1
    have := firstS_least h (by omega) (by omega) hs (empB_iff.2 hn)
    omega

/-! ### What is left out -/

def withoutR (l : List Sgt) (most : Nat) : Option (List Nat) := firstS (fun s => agrB (outR l s) 0) l.length 0 most
def withoutP (l : List Sgt) (most : Nat) : Option (List Nat) := firstS (fun s => !empB (outR l s) 0) l.length 0 most
theorem without_same (l : List Sgt) (most : Nat) : withoutP l most = withoutR l most := by
  unfold withoutP withoutR
  refine firstS_congr fun s _ _ _ => ?_
  rw [empB_eq, Bool.not_not]

/-! ### Fronts -/

/-- Whether the sights from i to j - 1 agree, and the others do. -/
def slc (l : List Sgt) (i j : Nat) : List Sgt := (l.take j).drop i
def frontB (l : List Sgt) (i j : Nat) : Bool := agrB (slc l i j) 0 && agrB (l.take i ++ l.drop j) 0
/-- The first front. -/
def frontS (l : List Sgt) : Option (Nat × Nat) := ((List.range l.length).flatMap fun i => (List.range' (i + 1) (l.length - i)).map fun j => (i, j)).find? fun p => frontB l p.1 p.2
theorem mem_pairs {n : Nat} {p : Nat × Nat} : (p ∈ (List.range n).flatMap fun i => (List.range' (i + 1) (n - i)).map fun j => (i, j)) ↔ p.1 < p.2 ∧ p.2 ≤ n := by
  rw [List.mem_flatMap]
  constructor
  · rintro ⟨i, h1, h2⟩
    obtain ⟨j, h3, rfl⟩ := List.mem_map.1 h2
    have := List.mem_range.1 h1
    have := List.mem_range'_1.1 h3
    exact ⟨by simp; omega, by simp; omega⟩
  · rintro ⟨h1, h2⟩
    exact ⟨p.1, List.mem_range.2 (by omega), List.mem_map.2 ⟨p.2, List.mem_range'_1.2 ⟨by omega, by omega⟩, rfl⟩⟩
theorem front_none {l : List Sgt} (h : ∀ i j, i < j → j ≤ l.length → frontB l i j = false) : frontS l = none := by
  unfold frontS
  rw [List.find?_eq_none]
  intro p hp
  obtain ⟨h1, h2⟩ := mem_pairs.1 hp
  rw [h _ _ h1 h2]
  decide
theorem front_mem {l : List Sgt} {p : Nat × Nat} (h : frontS l = some p) : p.1 < p.2 ∧ p.2 ≤ l.length ∧ frontB l p.1 p.2 = true := by
  have h1 := mem_pairs.1 (List.mem_of_find?_eq_some h)
  exact ⟨h1.1, h1.2, by simpa using List.find?_some h⟩
theorem front_some {l : List Sgt} {i j : Nat} (h1 : i < j) (h2 : j ≤ l.length) (h3 : frontB l i j = true) (h4 : ∀ i' j', i' < j' → j' ≤ l.length → i' < i → frontB l i' j' = false) (h5 : ∀ j', i < j' → j' < j → frontB l i j' = false) : frontS l = some (i, j) := by
  unfold frontS
  have e : List.range l.length = List.range i ++ i :: List.range' (i + 1) (l.length - i - 1) := by
    have a := List.range'_append_1 (s := 0) (m := i) (n := l.length - i)
    rw [show i + (l.length - i) = l.length by omega, ← List.range_eq_range', ← List.range_eq_range', Nat.zero_add] at a
    rw [← a, show l.length - i = (l.length - i - 1) + 1 by omega, List.range'_succ]
    simp
  rw [e, List.flatMap_append, List.flatMap_cons, List.find?_append, List.find?_append]
  rw [List.find?_eq_none.2 (by
    intro p hp
    obtain ⟨i', hi, hp⟩ := List.mem_flatMap.1 hp
    obtain ⟨j', hj, rfl⟩ := List.mem_map.1 hp
    have := List.mem_range.1 hi
    have := List.mem_range'_1.1 hj
    rw [h4 i' j' (by omega) (by omega) (by omega)]
    decide)]
  have e2 : List.range' (i + 1) (l.length - i) = List.range' (i + 1) (j - i - 1) ++ j :: List.range' (j + 1) (l.length - j) := by
    have a := List.range'_append_1 (s := i + 1) (m := j - i - 1) (n := l.length - j + 1)
    rw [show j - i - 1 + (l.length - j + 1) = l.length - i by omega, show i + 1 + (j - i - 1) = j by omega, List.range'_succ] at a
    exact a.symm
  rw [e2, List.map_append, List.map_cons, List.find?_append]
  rw [List.find?_eq_none.2 (by
    intro p hp
    obtain ⟨j', hj, rfl⟩ := List.mem_map.1 hp
    have := List.mem_range'_1.1 hj
    rw [h5 j' (by omega) (by omega)]
    decide), List.find?_cons]
  simp [h3]
/-- Before a front there is none. -/
theorem front_before {l : List Sgt} {p : Nat × Nat} {i j : Nat} (h : frontS l = some p) (h1 : i < j) (h2 : j ≤ l.length) (h3 : frontB l i j = true) : p.1 ≤ i := by
  apply Classical.byContradiction
  intro hc
  have e : List.range l.length = List.range (i + 1) ++ List.range' (i + 1) (l.length - i - 1) := by
    have a := List.range'_append_1 (s := 0) (m := i + 1) (n := l.length - i - 1)
    rw [show i + 1 + (l.length - i - 1) = l.length by omega, ← List.range_eq_range', ← List.range_eq_range', Nat.zero_add] at a
    exact a.symm
  unfold frontS at h
  rw [e, List.flatMap_append, List.find?_append] at h
  cases hf : (List.flatMap (fun i => List.map (fun j => (i, j)) (List.range' (i + 1) (l.length - i))) (List.range (i + 1))).find? (fun p => frontB l p.1 p.2) with
  | none =>
    rw [List.find?_eq_none] at hf
    exact absurd h3 (hf (i, j) (List.mem_flatMap.2 ⟨i, List.mem_range.2 (by omega), List.mem_map.2 ⟨j, List.mem_range'_1.2 ⟨by omega, by omega⟩, rfl⟩⟩))
  | some q =>
    rw [hf] at h
    injection h with h
    subst h
    obtain ⟨i', hi, hp⟩ := List.mem_flatMap.1 (List.mem_of_find?_eq_some hf)
    obtain ⟨j', hj, e⟩ := List.mem_map.1 hp
    have := List.mem_range.1 hi
    rw [← e] at hc
    simp at hc
    omega
/-- More sights from i on do not agree if fewer do not. -/
theorem slc_more {l : List Sgt} {i j k : Nat} (h : empB (slc l i j) 0 = true) (hk : j ≤ k) : frontB l i k = false := by
  unfold frontB
  have : agrB (slc l i k) 0 = false := agrB_no.2 fun hf => empB_iff.1 h (hf.sub fun s hs => by
    unfold slc at *
    rw [show l.take j = (l.take k).take j by rw [List.take_take, Nat.min_eq_left hk]] at hs
    rw [List.drop_take] at hs
    exact List.mem_of_mem_take hs)
  rw [this]
  rfl
theorem slc_succ {l : List Sgt} {i j : Nat} (h1 : i ≤ j) (h2 : j < l.length) : slc l i (j + 1) = slc l i j ++ [l.getD j sg0] := by
  unfold slc
  rw [List.take_add_one, List.drop_append_of_le_length (by rw [List.length_take]; omega), List.getElem?_eq_getElem h2, List.getD_eq_getElem?_getD, List.getElem?_eq_getElem h2]
  rfl
theorem slc_nil (l : List Sgt) (i : Nat) : slc l i i = [] := by
  unfold slc
  exact List.drop_eq_nil_of_le (by rw [List.length_take]; omega)
/-- What the program looks at: the area before, narrowed by what comes behind. -/
theorem front_prog {l : List Sgt} {i j : Nat} : frontB l i j = (!(narL skyL (slc l i j) 0).isEmpty && !(narL (narL skyL (l.take i) 0) (l.drop j) 0).isEmpty) := by
  rw [← narL_app]
  have h1 := empB_eq (slc l i j) 0
  have h2 := empB_eq (l.take i ++ l.drop j) 0
  unfold empB at h1 h2
  rw [h1, h2, Bool.not_not, Bool.not_not]
  rfl
end Go.Proofs.Ytllpffkifleigaa
end
section
namespace Go.Proofs.Ytllpffkifleigaa

/-- How far winds that agree go along a direction: from lo to hi. -/
structure Rch (l : List Sgt) (x y len lo hi : Int) : Prop where
  low : Low (hvs l 0) x y len lo
  up : Low (hvs l 0) (-x) (-y) len (-hi)
theorem Rch.unique {l : List Sgt} {x y len lo hi lo' hi' : Int} (hl : 0 < len) (a : Rch l x y len lo hi) (b : Rch l x y len lo' hi') : lo = lo' ∧ hi = hi' :=
  ⟨Low.unique hl a.low b.low, by have := Low.unique hl a.up b.up; omega⟩
theorem feas_inn {l : List Sgt} {w : Int} : Feas l w ↔ ∃ p, Inn (hvs l w) p := ⟨fun ⟨p, a, b⟩ => ⟨p, a, b⟩, fun ⟨p, a, b⟩ => ⟨p, a, b⟩⟩
theorem Rch.within {l : List Sgt} {x y len lo hi : Int} (h : Rch l x y len lo hi) {p : Pt} (hp : Inn (hvs l 0) p) : lo * (len * p.d) ≤ val x y p ∧ val x y p ≤ hi * (len * p.d) := by
  have h1 := h.low.all p hp
  have h2 := h.up.all p hp
  rw [val_neg, Int.neg_mul] at h2
  omega
/-- A wind that agrees with sights is within all half-planes, and the other way. -/
theorem inn_iff {l : List Sgt} {w : Int} {p : Pt} : Inn (hvs l w) p ↔ (0 < p.d ∧ -(120000 * p.d) ≤ p.u ∧ p.u ≤ 120000 * p.d ∧ -(120000 * p.d) ≤ p.v ∧ p.v ≤ 120000 * p.d) ∧ ∀ s ∈ l, (s.lo - w) * (s.l * p.d) ≤ val s.x s.y p ∧ val s.x s.y p ≤ (s.hi + w) * (s.l * p.d) := by
  constructor
  · rintro ⟨h0, h⟩
    have g1 := h ⟨1, 0, 120000⟩ (by simp [hvs])
    have g2 := h ⟨-1, 0, 120000⟩ (by simp [hvs])
    have g3 := h ⟨0, 1, 120000⟩ (by simp [hvs])
    have g4 := h ⟨0, -1, 120000⟩ (by simp [hvs])
    unfold gap at g1 g2 g3 g4
    simp only at g1 g2 g3 g4
    refine ⟨⟨h0, by omega, by omega, by omega, by omega⟩, fun s hs => ?_⟩
    have k1 := h (hiB s w) (mem_hvs.2 (.inr ⟨s, hs, .inl rfl⟩))
    have k2 := h (loB s w) (mem_hvs.2 (.inr ⟨s, hs, .inr rfl⟩))
    unfold gap hiB at k1
    unfold gap loB at k2
    simp only at k1 k2
    unfold val
    constructor <;> grind
  · rintro ⟨⟨h0, h1, h2, h3, h4⟩, h⟩
    refine ⟨h0, fun b hb => ?_⟩
    rcases mem_hvs.1 hb with hb | ⟨s, hs, hb | hb⟩
    · simp only [hvs, List.flatMap_nil, List.append_nil, List.mem_cons, List.not_mem_nil, or_false] at hb
      rcases hb with rfl | rfl | rfl | rfl <;> (unfold gap; simp only; omega)
    · obtain ⟨k1, k2⟩ := h s hs
      subst hb
      unfold gap hiB
      unfold val at k2
      simp only
      grind
    · obtain ⟨k1, k2⟩ := h s hs
      subst hb
      unfold gap loB
      unfold val at k1
      simp only
      grind
/-- One more sight. -/
theorem inn_app {l l' : List Sgt} {w : Int} {p : Pt} : Inn (hvs (l ++ l') w) p ↔ Inn (hvs l w) p ∧ Inn (hvs l' w) p := by
  rw [inn_iff, inn_iff, inn_iff]
  constructor
  · rintro ⟨a, b⟩
    exact ⟨⟨a, fun s hs => b s (List.mem_append_left _ hs)⟩, a, fun s hs => b s (List.mem_append_right _ hs)⟩
  · rintro ⟨⟨a, b⟩, -, c⟩
    exact ⟨a, fun s hs => (List.mem_append.1 hs).elim (b s) (c s)⟩
theorem inn_one {l : List Sgt} {s : Sgt} {w : Int} {p : Pt} (h : Inn (hvs l w) p) (h1 : (s.lo - w) * (s.l * p.d) ≤ val s.x s.y p) (h2 : val s.x s.y p ≤ (s.hi + w) * (s.l * p.d)) : Inn (hvs (l ++ [s]) w) p := by
  rw [inn_app]
  refine ⟨h, inn_iff.2 ⟨(inn_iff.1 h).1, fun t ht => ?_⟩⟩
  rw [List.mem_singleton] at ht
  subst ht
  exact ⟨h1, h2⟩

/-! ### Ends -/

theorem Rch.ge {l : List Sgt} {x y len lo hi : Int} (h : Rch l x y len lo hi) (hl : 0 < len) : lo ≤ hi := by
  obtain ⟨p, hp, -⟩ := h.low.some
  have := h.within hp
  exact Int.le_of_mul_le_mul_right (show lo * (len * p.d) ≤ hi * (len * p.d) by omega) (Int.mul_pos hl hp.1)
theorem Rch.bd {l : List Sgt} {x y len lo hi : Int} (h : Rch l x y len lo hi) (hl : 0 < len) (hx : -len ≤ x ∧ x ≤ len) (hy : -len ≤ y ∧ y ≤ len) : -240001 ≤ lo ∧ lo ≤ 240000 ∧ -240000 ≤ hi ∧ hi ≤ 240001 := by
  obtain ⟨p, hp, h1⟩ := h.low.some
  obtain ⟨q, hq, h2⟩ := h.up.some
  have a := slow_val hp hl hx hy
  have b := slow_val hq hl hx hy
  have c := h.within hp
  have d := h.within hq
  rw [val_neg] at h2
  have dp : 0 < len * p.d := Int.mul_pos hl hp.1
  have dq : 0 < len * q.d := Int.mul_pos hl hq.1
  have e1 : -240001 < lo := Int.lt_of_add_lt_add_right (Int.lt_of_mul_lt_mul_right (show (-240001 + 1) * (len * p.d) < (lo + 1) * (len * p.d) by omega) (by omega))
  have e2 : lo ≤ 240000 := Int.le_of_mul_le_mul_right (show lo * (len * p.d) ≤ 240000 * (len * p.d) by omega) dp
  have e3 : -240000 ≤ hi := Int.le_of_mul_le_mul_right (show -240000 * (len * q.d) ≤ hi * (len * q.d) by omega) dq
  have e4 : -240001 < -hi := Int.lt_of_add_lt_add_right (Int.lt_of_mul_lt_mul_right (show (-240001 + 1) * (len * q.d) < (-hi + 1) * (len * q.d) by omega) (by omega))
  omega
theorem Rch.ends {l : List Sgt} {x y len lo hi : Int} (h : Rch l x y len lo hi) (hl : 0 < len) :
    Feas (l ++ [⟨x, y, len, lo, lo + 1⟩]) 0 ∧ Feas (l ++ [⟨x, y, len, hi - 1, hi⟩]) 0 ∧ (∀ t, ¬ Feas (l ++ [⟨x, y, len, hi + 1, t⟩]) 0) ∧ (∀ t, ¬ Feas (l ++ [⟨x, y, len, t, lo - 1⟩]) 0) := by
  refine ⟨?_, ?_, fun t hf => ?_, fun t hf => ?_⟩
  · obtain ⟨p, hp, h1⟩ := h.low.some
    have c := h.within hp
    refine feas_inn.2 ⟨p, inn_one hp ?_ ?_⟩
    · show (lo - 0) * (len * p.d) ≤ val x y p
      rw [Int.sub_zero]; omega
    · show val x y p ≤ (lo + 1 + 0) * (len * p.d)
      rw [Int.add_zero]; omega
  · obtain ⟨p, hp, h1⟩ := h.up.some
    have c := h.within hp
    rw [val_neg] at h1
    have e : (-hi + 1) * (len * p.d) = -((hi - 1) * (len * p.d)) := by grind
    refine feas_inn.2 ⟨p, inn_one hp ?_ ?_⟩
    · show (hi - 1 - 0) * (len * p.d) ≤ val x y p
      rw [Int.sub_zero]; omega
    · show val x y p ≤ (hi + 0) * (len * p.d)
      rw [Int.add_zero]; omega
  · obtain ⟨p, hp⟩ := feas_inn.1 hf
    obtain ⟨h1, h2⟩ := inn_app.1 hp
    have c := h.within h1
    have d := ((inn_iff.1 h2).2 _ List.mem_cons_self).1
    simp only [Int.sub_zero] at d
    have e : (hi + 1) * (len * p.d) = hi * (len * p.d) + len * p.d := by grind
    have := Int.mul_pos hl hp.1
    omega
  · obtain ⟨p, hp⟩ := feas_inn.1 hf
    obtain ⟨h1, h2⟩ := inn_app.1 hp
    have c := h.within h1
    have d := ((inn_iff.1 h2).2 _ List.mem_cons_self).2
    simp only [Int.add_zero] at d
    have e : (lo - 1) * (len * p.d) = lo * (len * p.d) - len * p.d := by grind
    have := Int.mul_pos hl hp.1
    omega

/-! ### Fewer winds, other orders, turned sights -/

theorem Low.mono {hs hs' : List Bd} {x y len lo lo' : Int} (hl : 0 < len) (h : Low hs x y len lo) (h' : Low hs' x y len lo') (hh : ∀ p, Inn hs p → Inn hs' p) : lo' ≤ lo := by
  obtain ⟨p, hp, h1⟩ := h.some
  have h2 := h'.all p (hh p hp)
  have := Int.lt_of_mul_lt_mul_right (show lo' * (len * p.d) < (lo + 1) * (len * p.d) by omega) (by have := Int.mul_pos hl hp.1; omega)
  omega
theorem Rch.mono {l l' : List Sgt} {x y len lo hi lo' hi' : Int} (hl : 0 < len) (h : Rch l x y len lo hi) (h' : Rch l' x y len lo' hi') (hh : ∀ p, Inn (hvs l 0) p → Inn (hvs l' 0) p) : lo' ≤ lo ∧ hi ≤ hi' := by
  have a := Low.mono hl h.low h'.low hh
  have b := Low.mono hl h.up h'.up hh
  omega
theorem Rch.congr {l l' : List Sgt} {x y len lo hi : Int} (h : Rch l x y len lo hi) (hh : ∀ p, Inn (hvs l 0) p ↔ Inn (hvs l' 0) p) : Rch l' x y len lo hi := ⟨h.low.congr hh, h.up.congr hh⟩
theorem inn_sub {l l' : List Sgt} {w : Int} {p : Pt} (h : Inn (hvs l w) p) (hs : ∀ s ∈ l', s ∈ l) : Inn (hvs l' w) p := by
  rw [inn_iff] at h ⊢
  exact ⟨h.1, fun s hm => h.2 s (hs s hm)⟩
/-- Sights that are turned by a quarter. -/
def turnS (s : Sgt) : Sgt := ⟨s.y, -s.x, s.l, s.lo, s.hi⟩
def turnP (p : Pt) : Pt := ⟨p.v, -p.u, p.d⟩
def backP (p : Pt) : Pt := ⟨-p.v, p.u, p.d⟩
theorem back_turn (p : Pt) : backP (turnP p) = p := by
  cases p
  simp [backP, turnP]
theorem turn_back (p : Pt) : turnP (backP p) = p := by
  cases p
  simp [backP, turnP]
theorem val_turn (s : Sgt) (p : Pt) : val (turnS s).x (turnS s).y (turnP p) = val s.x s.y p := by
  unfold val turnS turnP
  simp only
  grind
theorem val_back (x y : Int) (p : Pt) : val x y (turnP p) = val (-y) x p := by
  unfold val turnP
  simp only
  grind
theorem inn_turn {l : List Sgt} {w : Int} {p : Pt} : Inn (hvs (l.map turnS) w) (turnP p) ↔ Inn (hvs l w) p := by
  rw [inn_iff, inn_iff]
  have e : (0 < (turnP p).d ∧ -(120000 * (turnP p).d) ≤ (turnP p).u ∧ (turnP p).u ≤ 120000 * (turnP p).d ∧ -(120000 * (turnP p).d) ≤ (turnP p).v ∧ (turnP p).v ≤ 120000 * (turnP p).d) ↔ (0 < p.d ∧ -(120000 * p.d) ≤ p.u ∧ p.u ≤ 120000 * p.d ∧ -(120000 * p.d) ≤ p.v ∧ p.v ≤ 120000 * p.d) := by
    unfold turnP
    simp only
    omega
  rw [e]
  constructor
  · rintro ⟨a, b⟩
    refine ⟨a, fun s hs => ?_⟩
    have := b (turnS s) (List.mem_map.2 ⟨s, hs, rfl⟩)
    rw [val_turn] at this
    exact this
  · rintro ⟨a, b⟩
    refine ⟨a, fun s hs => ?_⟩
    obtain ⟨t, ht, rfl⟩ := List.mem_map.1 hs
    rw [val_turn]
    exact b t ht
theorem Low.turn {l : List Sgt} {w x y len lo : Int} (h : Low (hvs l w) (-y) x len lo) : Low (hvs (l.map turnS) w) x y len lo := by
  refine ⟨fun q hq => ?_, ?_⟩
  · rw [← turn_back q] at hq ⊢
    rw [val_back]
    exact h.all _ (inn_turn.1 hq)
  · obtain ⟨p, hp, h1⟩ := h.some
    exact ⟨turnP p, inn_turn.2 hp, by rw [val_back]; exact h1⟩
theorem Rch.turn {l : List Sgt} {x y len lo hi : Int} (h : Rch l (-y) x len lo hi) : Rch (l.map turnS) x y len lo hi := by
  refine ⟨h.low.turn, Low.turn ?_⟩
  have := h.up
  exact this
theorem Rch.neg {l : List Sgt} {x y len lo hi : Int} (h : Rch l x y len lo hi) : Rch l (-x) (-y) len (-hi) (-lo) := by
  refine ⟨h.up, ?_⟩
  rw [Int.neg_neg, Int.neg_neg, Int.neg_neg]
  exact h.low
theorem feas_turn {l : List Sgt} {w : Int} (h : Feas l w) : Feas (l.map turnS) w := by
  obtain ⟨p, hp⟩ := feas_inn.1 h
  exact feas_inn.2 ⟨turnP p, inn_turn.2 hp⟩

/-! ### The strain -/

/-- Spans that are wider at both ends. -/
def wideS (d : Int) (s : Sgt) : Sgt := ⟨s.x, s.y, s.l, s.lo - d, s.hi + d⟩
theorem inn_wide {l : List Sgt} {d : Int} {p : Pt} : Inn (hvs (l.map (wideS d)) 0) p ↔ Inn (hvs l d) p := by
  rw [inn_iff, inn_iff]
  constructor
  · rintro ⟨a, b⟩
    refine ⟨a, fun s hs => ?_⟩
    have := b (wideS d s) (List.mem_map.2 ⟨s, hs, rfl⟩)
    unfold wideS at this
    simpa using this
  · rintro ⟨a, b⟩
    refine ⟨a, fun s hs => ?_⟩
    obtain ⟨t, ht, rfl⟩ := List.mem_map.1 hs
    unfold wideS
    simpa using b t ht
theorem feas_wide {l : List Sgt} {d : Int} : Feas (l.map (wideS d)) 0 ↔ Feas l d := by
  rw [feas_inn, feas_inn]
  exact ⟨fun ⟨p, hp⟩ => ⟨p, inn_wide.1 hp⟩, fun ⟨p, hp⟩ => ⟨p, inn_wide.2 hp⟩⟩
/-- The calm agrees as soon as spans are wide enough. -/
theorem feas_calm {l : List Sgt} {w : Int} (h : ∀ s ∈ l, 0 ≤ s.l ∧ s.lo ≤ w ∧ -w ≤ s.hi) : Feas l w := by
  refine feas_inn.2 ⟨⟨0, 0, 1⟩, inn_iff.2 ⟨by simp, fun s hs => ?_⟩⟩
  obtain ⟨h1, h2, h3⟩ := h s hs
  have a := Int.mul_nonneg (show 0 ≤ w - s.lo by omega) h1
  have b := Int.mul_nonneg (show 0 ≤ s.hi + w by omega) h1
  unfold val
  simp only [Int.mul_zero, Int.mul_one, Int.add_zero]
  have e : (w - s.lo) * s.l = -((s.lo - w) * s.l) := by grind
  omega
/-- The strain, by halving. -/
def strainP (l : List Sgt) : Int := bis (fun s => empB l s) 0 400000
def strainR (l : List Sgt) : Int := bis (fun s => !agrB l s) 0 400000
theorem strain_same (l : List Sgt) : strainP l = strainR l := strain_eq (fun s _ _ => empB_eq l s) _ _ _ (Nat.le_refl _) (by omega) (by omega)
theorem strain_is {l : List Sgt} (h : ∀ s ∈ l, 0 ≤ s.l) (ht : Feas l 400000) : 0 ≤ strainP l ∧ strainP l ≤ 400000 ∧ Feas l (strainP l) ∧ ∀ t, 0 ≤ t → t < strainP l → ¬ Feas l t := by
  obtain ⟨h1, h2, h3, h4⟩ := bis_spec (B := fun s => empB l s) (fun s t hts hb => empB_iff.2 fun hf => empB_iff.1 hb (hf.wide hts h)) _ 0 400000 (Nat.le_refl _) (by omega) (by
    cases he : empB l 400000 with
    | true => exact absurd ht (empB_iff.1 he)
    | false => rfl)
  refine ⟨h1, h2, ?_, fun t ht0 htd => empB_iff.1 (h4 t ht0 htd)⟩
  apply Classical.byContradiction
  intro hn
  have : empB l (strainP l) = true := empB_iff.2 hn
  rw [show empB l (strainP l) = false from h3] at this
  cases this
theorem strain_le {l : List Sgt} {w : Int} (h : ∀ s ∈ l, 0 ≤ s.l) (ht : Feas l 400000) (hw : 0 ≤ w) (hf : Feas l w) : strainP l ≤ w := by
  obtain ⟨-, -, -, h4⟩ := strain_is h ht
  apply Classical.byContradiction
  intro hc
  exact h4 w hw (by omega) hf

/-! ### A wind that agrees -/

def Agr (l : List Sgt) (u v : Int) : Prop := ∀ s ∈ l, s.lo * s.l ≤ u * s.x + v * s.y ∧ u * s.x + v * s.y ≤ s.hi * s.l
theorem agr_inn {l : List Sgt} {u v : Int} (h : Agr l u v) (hu : -120000 ≤ u ∧ u ≤ 120000) (hv : -120000 ≤ v ∧ v ≤ 120000) : Inn (hvs l 0) ⟨u, v, 1⟩ := by
  refine inn_iff.2 ⟨⟨by simp, by simp; omega, by simp; omega, by simp; omega, by simp; omega⟩, fun s hs => ?_⟩
  have := h s hs
  unfold val
  simp only [Int.mul_one, Int.sub_zero, Int.add_zero]
  rw [Int.mul_comm s.x u, Int.mul_comm s.y v]
  exact this
theorem agr_feas {l : List Sgt} {u v : Int} (h : Agr l u v) (hu : -120000 ≤ u ∧ u ≤ 120000) (hv : -120000 ≤ v ∧ v ≤ 120000) : Feas l 0 := feas_inn.2 ⟨_, agr_inn h hu hv⟩
/-- The bounds, as the program and the document compute them. -/
theorem rch_of {l : List Sgt} (hf : Feas l 0) {x y len : Int} (hl : 0 < len) (hx : -len ≤ x ∧ x ≤ len) (hy : -len ≤ y ∧ y ≤ len) :
    Rch l x y len (loL x y len 240000 (corns (narL skyL l 0))) (-loL (-x) (-y) len 240000 (corns (narL skyL l 0))) := by
  refine ⟨area_low (nar_area hf) hl hx hy, ?_⟩
  rw [Int.neg_neg]
  exact area_low (nar_area hf) hl ⟨by omega, by omega⟩ ⟨by omega, by omega⟩
end Go.Proofs.Ytllpffkifleigaa
end
