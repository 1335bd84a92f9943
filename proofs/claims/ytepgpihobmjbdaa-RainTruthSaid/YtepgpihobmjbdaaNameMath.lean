/-
  Names: which bytes they are made of; runes beyond ASCII; no program in sight.
-/
import Derived.Lib.IndexLaws
import Derived.Lib.TrimU
import Derived.Laws.RangeString
set_option linter.unusedSimpArgs false
set_option linter.unusedVariables false
namespace Go.Proofs.Ytepgpihobmjbdaa
open Go
def isAl (n : Nat) : Bool := (decide (97 ≤ n) && decide (n ≤ 122)) || (decide (48 ≤ n) && decide (n ≤ 57)) || decide (n = 95)
def alphaA : ByteArray := ⟨#[97, 98, 99, 100, 101, 102, 103, 104, 105, 106, 107, 108, 109, 110, 111, 112, 113, 114, 115, 116, 117, 118, 119, 120, 121, 122, 48, 49, 50, 51, 52, 53, 54, 55, 56, 57, 95]⟩
theorem index_al : ∀ c : Fin 128, decide (0 ≤ Lib.indexByte alphaA.data.toList ((c.val : Int).toNat.toUInt8)) = isAl c.val := by decide +kernel
theorem index_al' {c : Nat} (h : c < 128) : decide (0 ≤ Lib.indexByte alphaA.data.toList ((c : Int).toNat.toUInt8)) = isAl c := index_al ⟨c, h⟩
theorem al_ascii : ∀ b ∈ alphaA.data.toList, b.toNat < 128 := by decide +kernel
theorem isAl_lt {n : Nat} (h : isAl n = true) : n < 128 := by
 unfold isAl at h
 simp only [Bool.or_eq_true, Bool.and_eq_true, decide_eq_true_eq] at h
 omega
theorem indexByte_no : ∀ {l : List UInt8} {c : UInt8}, (∀ b ∈ l, b ≠ c) → Lib.indexByte l c = -1
 | [], _, _ => rfl
 | b :: l, c, h => by
  have ih := indexByte_no (l := l) (c := c) (fun x hx => h x (List.mem_cons_of_mem _ hx))
  have hb := h b (List.mem_cons_self ..)
  unfold Lib.indexByte
  rw [if_neg (by simpa using hb), if_pos (by rw [ih]; rfl)]
theorem encode_far {c : Int} (h : 128 ≤ c) : ∃ n : Nat, (Utf8.encode c).size = n + 2 ∧ n ≤ 2 ∧ ∃ u : UInt8, (Utf8.encode c)[n + 1]? = some u ∧ 128 ≤ u.toNat := by
 unfold Utf8.encode
 have hc : 128 ≤ (if Utf8.valid c = true then c.toNat else Utf8.runeError) := by
  split
  · omega
  · decide
 generalize (if Utf8.valid c = true then c.toNat else Utf8.runeError) = d at *
 have hu : 128 ≤ (UInt8.ofNat (0x80 + d % 64)).toNat := by
  rw [UInt8.toNat_ofNat']; omega
 simp only
 rw [if_neg (by omega)]
 split
 · exact ⟨0, rfl, by omega, _, rfl, hu⟩
 ·
  split
  · exact ⟨1, rfl, by omega, _, rfl, hu⟩
  · exact ⟨2, rfl, by omega, _, rfl, hu⟩
theorem decode_far (s : ByteArray) (pos : Nat) (h : pos < s.size) (hb : 128 ≤ (s[pos]'h).toNat) : 128 ≤ (Utf8.decode s pos).1 := by
 have e : s.get! (pos + 0) = s[pos]'h := by
  show s.get! pos = _
  simp [ByteArray.get!, getElem!_pos, h]
  rfl
 unfold Utf8.decode
 simp only [e]
 rw [if_neg (by omega)]
 repeat' split
 all_goals simp_all [Utf8.runeError]
 all_goals omega
def nameB (s : ByteArray) : Bool := decide (s.size ≠ 0) && decide (s.size ≤ 12) && decide (97 ≤ (s.data.toList.getD 0 0).toNat) && decide ((s.data.toList.getD 0 0).toNat ≤ 122) && s.data.toList.all fun b => isAl b.toNat
end Go.Proofs.Ytepgpihobmjbdaa
