/-
  A book of standards and tests, in plain words: the list of its entries, the newest first; everything is found in them.
-/
import Derived.Test.YtiggefmckomilaaNameMath
namespace Go.Proofs.Ytiggefmckomilaa

structure Std where
  name : ByteArray
  par : ByteArray
  lo : Int
  hi : Int
  time : Int
  stop : Int
  drift : Int
structure Tst where
  radar : ByteArray
  std : ByteArray
  time : Int
  lo : Int
  hi : Int
inductive Ent where
  | radar (name : ByteArray) (drift : Int)
  | define (s : Std)
  | test (t : Tst)
  | turn (name : ByteArray) (out : Bool)

def upD (a b : Int) : Int := (a + b - 1) / b
/-- A span, widened by a drift between two times. -/
def widenS (s : Int × Int) (d f t : Int) : Int × Int := (max 1 (s.1 - upD (d * max (t - f) (f - t)) 86400), s.2 + upD (d * max (t - f) (f - t)) 86400)
/-- A span, times another one in thousandths. -/
def scaledS (s t : Int × Int) : Int × Int := (max 1 (s.1 * t.1 / 1000), upD (s.2 * t.2) 1000)

def radarsT : List Ent → List (ByteArray × Int)
  | [] => []
  | .radar n d :: l => (n, d) :: radarsT l
  | _ :: l => radarsT l
def driftT : List Ent → ByteArray → Option Int
  | [], _ => none
  | .radar m d :: l, n => if m = n then some d else driftT l n
  | _ :: l, n => driftT l n
def stdsT : List Ent → List Std
  | [] => []
  | .define s :: l => s :: stdsT l
  | _ :: l => stdsT l
def stdT : List Ent → ByteArray → Option Std
  | [], _ => none
  | .define s :: l, n => if s.name = n then some s else stdT l n
  | _ :: l, n => stdT l n
def testsT : List Ent → List Tst
  | [] => []
  | .test t :: l => t :: testsT l
  | _ :: l => testsT l
def wdT : List Ent → ByteArray → Bool
  | [], _ => false
  | .turn m o :: l, n => if m = n then o else wdT l n
  | _ :: l, n => wdT l n
/-- The chain of a standard. -/
def chainT : List Ent → ByteArray → List ByteArray
  | [], _ => []
  | .define s :: l, n => if s.name = n then s.name :: (if s.par = ByteArray.empty then [] else chainT l s.par) else chainT l n
  | _ :: l, n => chainT l n
def voidT (l : List Ent) (n : ByteArray) : Bool := (chainT l n).any (wdT l)
/-- The value of a standard when it was made. -/
def madeT : List Ent → ByteArray → Int × Int
  | [], _ => (0, 0)
  | .define s :: l, n =>
    if s.name = n then
      if s.par = ByteArray.empty then (s.lo, s.hi)
      else match stdT l s.par with
        | some p => scaledS (widenS (madeT l s.par) p.drift p.time s.time) (s.lo, s.hi)
        | none => (0, 0)
    else madeT l n
  | _ :: l, n => madeT l n
def valueT (l : List Ent) (s : Std) (time : Int) : Int × Int := widenS (madeT l s.name) s.drift s.time time
/-- The gain by a test at its time. -/
def gainT (l : List Ent) (t : Tst) : Int × Int := match stdT l t.std with
  | some s => (max 1 (1000 * t.lo / (valueT l s t.time).2), upD (1000 * t.hi) (valueT l s t.time).1)
  | none => (0, 0)

/-- What a call answers: 0, or an error. -/
def inR (n lo hi : Int) : Bool := decide (lo ≤ n ∧ n ≤ hi)
def inS (a b lo hi : Int) : Bool := decide (lo ≤ a ∧ a ≤ b ∧ b ≤ hi)
def radarE (l : List Ent) (n : ByteArray) (d : Int) : Int :=
  if 2000 ≤ l.length then 13 else if nameB n = false then 10 else if (driftT l n).isSome then 5 else if 32 ≤ (radarsT l).length then 9 else if inR d 0 1000000 = false then 3 else 0
def defineE (l : List Ent) (s : Std) : Int :=
  if 2000 ≤ l.length then 13 else if nameB s.name = false then 10 else if (stdT l s.name).isSome then 5 else if 64 ≤ (stdsT l).length then 9
  else if (inS s.lo s.hi 1 (if s.par = ByteArray.empty then 1000000 else 100000) && inR s.time 0 s.stop && decide (s.stop ≤ 4294967296) && inR s.drift 0 1000000) = false then 3
  else if s.par = ByteArray.empty then 0
  else match stdT l s.par with
    | none => 4
    | some p => if (voidT l s.par || !inR s.time p.time p.stop) = true then 22 else if 1000000000 < (scaledS (valueT l p s.time) (s.lo, s.hi)).2 then 26 else 0
def testE (l : List Ent) (t : Tst) : Int :=
  if 2000 ≤ l.length then 13
  else match driftT l t.radar, stdT l t.std with
    | some _, some s => if 512 ≤ (testsT l).length then 9 else if (inR t.time 0 4294967296 && inS t.lo t.hi 1 1000000000) = false then 3 else if (voidT l t.std || !inR t.time s.time s.stop) = true then 22 else 0
    | _, _ => 4
def turnE (l : List Ent) (n : ByteArray) (out : Bool) : Int :=
  if 2000 ≤ l.length then 13 else if (stdT l n).isNone then 4 else if wdT l n = out then 6 else 0
/-- Whether an entry is accepted. -/
def okEnt (l : List Ent) : Ent → Bool
  | .radar n d => radarE l n d == 0
  | .define s => defineE l s == 0
  | .test t => testE l t == 0
  | .turn n o => turnE l n o == 0
/-- Every entry was accepted when it came. -/
def GoodB : List Ent → Prop
  | [] => True
  | e :: l => okEnt l e = true ∧ GoodB l
end Go.Proofs.Ytiggefmckomilaa
