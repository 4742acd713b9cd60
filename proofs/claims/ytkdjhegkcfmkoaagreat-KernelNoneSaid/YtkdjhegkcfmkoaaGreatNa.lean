/- The plain functions of the layers 1 (pack), 3 (crc), 4 (dice): what the program's functions of these names come to, on lists of bytes and numbers. -/
import Init
namespace Go.Proofs.YtkdjhegkcfmkoaaGreat.Md

abbrev Str := List UInt8

/-- the errors, but for OK -/
inductive Er where
  | nil | arg | range | big | short | form | time | fault | none | exist | full | pool | down | corrupt | model | pinned | done | line
  deriving DecidableEq

def Er.n : Er → Int
  | .nil => 1 | .arg => 2 | .range => 3 | .big => 4 | .short => 5 | .form => 6 | .time => 7 | .fault => 8 | .none => 9 | .exist => 10 | .full => 11
  | .pool => 12 | .down => 13 | .corrupt => 14 | .model => 15 | .pinned => 16 | .done => 17 | .line => 30

/-- an error, or that there is none, as a number -/
def eno : Option Er → Int
  | Option.none => 0
  | some e => e.n

/-! ### pack -/
/-- the lowest k bytes of a number, the highest first -/
def be : Nat → Nat → Str
  | 0, _ => []
  | k + 1, n => UInt8.ofNat (n >>> (8 * k)) :: be k n
/-- bytes as a number of 64 bits -/
def unbe (s : Str) : Nat := s.foldl (fun n c => (n * 256) % 18446744073709551616 ||| c.toNat) 0
def U (n : Nat) : Str := be 8 n
def I (n : Int) : Str := be 8 ((n + 9223372036854775808) % 18446744073709551616).toNat
def left (s : Str) (at_ n : Int) : Option Er :=
  if at_ < 0 ∨ (s.length : Int) < at_ then some .range else if (s.length : Int) - at_ < n then some .short else Option.none
def readU (s : Str) (at_ : Int) : Except Er (Nat × Int) :=
  match left s at_ 8 with
  | some e => .error e
  | Option.none => .ok (unbe ((s.drop at_.toNat).take 8), at_ + 8)
/-- what was laid as a signed number -/
def toI (n : Nat) : Int := (n : Int) - 9223372036854775808
def readI (s : Str) (at_ : Int) : Except Er (Int × Int) :=
  match left s at_ 8 with
  | some e => .error e
  | Option.none => .ok (toI (unbe ((s.drop at_.toNat).take 8)), at_ + 8)

/-! ### crc -/
def nibT (k : Nat) : Nat :=
  match k with
  | 0 => 0x00000000 | 1 => 0x105ec76f | 2 => 0x20bd8ede | 3 => 0x30e349b1 | 4 => 0x417b1dbc | 5 => 0x5125dad3 | 6 => 0x61c69362 | 7 => 0x7198540d
  | 8 => 0x82f63b78 | 9 => 0x92a8fc17 | 10 => 0xa24bb5a6 | 11 => 0xb21572c9 | 12 => 0xc38d26c4 | 13 => 0xd3d3e1ab | 14 => 0xe330a81a | _ => 0xf36e6f75
def nib (r : Nat) : Nat := (r / 16) ^^^ nibT (r % 16)
def crcTake (r c : Nat) : Nat := nib (nib (r ^^^ c))
def crcMore (sum : Nat) (s : Str) : Nat := 4294967295 ^^^ s.foldl (fun r c => crcTake r c.toNat) (4294967295 ^^^ sum)
def crcSum (s : Str) : Nat := crcMore 0 s
/-- a check's bytes, the lowest first -/
def four (n : Nat) : Str := [UInt8.ofNat n, UInt8.ofNat (n >>> 8), UInt8.ofNat (n >>> 16), UInt8.ofNat (n >>> 24)]
def crcLay (s : Str) : Str := four (crcSum s) ++ s
def crcCut (s : Str) : Except Er Str :=
  if s.length < 4 then .error .short else if four (crcSum (s.drop 4)) = s.take 4 then .ok (s.drop 4) else .error .corrupt

/-! ### dice -/
def m64 : Nat := 18446744073709551616
def stir (z : Nat) : Nat :=
  let a := ((z ^^^ (z >>> 30)) * 0xbf58476d1ce4e5b9) % m64
  let b := ((a ^^^ (a >>> 27)) * 0x94d049bb133111eb) % m64
  b ^^^ (b >>> 31)
/-- an int as 64 bits -/
def u64 (n : Int) : Nat := (n % 18446744073709551616).toNat
def dstep (z : Nat) (n : Int) : Nat := stir ((z + ((u64 n + 1) % m64) * 0x9e3779b97f4a7c15) % m64)
def below (roll : Nat) (n : Int) : Int := if n < 1 then 0 else ((roll % n.toNat : Nat) : Int)

end Go.Proofs.YtkdjhegkcfmkoaaGreat.Md
namespace Go.Proofs.YtkdjhegkcfmkoaaGreat.Md

/-! ### slots -/
/-- two bytes as a number -/
def at2 (b : Str) (i : Nat) : Nat := (b.getD i 0).toNat * 256 + (b.getD (i + 1) 0).toNat
def put2 (b : Str) (i n : Nat) : Str := (b.set i (UInt8.ofNat (n / 256))).set (i + 1) (UInt8.ofNat n)
abbrev Slot := Nat × Nat
def slEmpty : Str := put2 (List.replicate 232 0) 2 232
def slList (b : Str) : List Slot := (List.range (at2 b 0)).map fun i => (at2 b (4 + 4 * i), at2 b (6 + 4 * i))
def slApart (x y : Slot) : Bool := x.2 == 0 || y.2 == 0 || decide (x.1 + x.2 ≤ y.1) || decide (y.1 + y.2 ≤ x.1)
/-- the slots of a list behind those that were seen -/
def slSound (heap : Nat) : List Slot → List Slot → Bool
  | _, [] => true
  | seen, x :: r => decide (heap ≤ x.1) && decide (x.1 + x.2 ≤ 232) && seen.all (slApart x) && slSound heap (seen ++ [x]) r
def slCheck (b : Str) : Option Er :=
  if b.length ≠ 232 then some .form
  else if 232 < at2 b 2 ∨ at2 b 2 < 4 + 4 * at2 b 0 then some .corrupt
  else if slSound (at2 b 2) [] (slList b) then Option.none else some .corrupt
def slRoom (b : Str) : Int :=
  match slCheck b with
  | some _ => 0
  | Option.none => (slList b).foldl (fun n x => n - (4 + (x.2 : Int))) 228
def slRec (b : Str) (x : Slot) : Str := (b.drop x.1).take x.2
def slAll (b : Str) : Except Er (List Str) :=
  match slCheck b with
  | some e => .error e
  | Option.none => .ok ((slList b).map (slRec b))
def slWithFrom (b : Str) (i : Nat) : List Slot → Str
  | [] => b
  | x :: r => slWithFrom (put2 (put2 b (4 + 4 * i) x.1) (6 + 4 * i) x.2) (i + 1) r
def slWith (b : Str) (l : List Slot) (heap : Nat) : Str := slWithFrom (put2 (put2 b 0 l.length) 2 heap) 0 l
def splice (b : Str) (i : Nat) (r : Str) : Str := b.take i ++ r ++ b.drop (i + r.length)
/-- records laid from the end on: the bytes, the slots, where the heap begins -/
def slPack : List Str → Str × List Slot × Nat → Str × List Slot × Nat
  | [], a => a
  | r :: l, (b, to, heap) => slPack l (splice b (heap - r.length) r, to ++ [(heap - r.length, r.length)], heap - r.length)
def slCompact (b : Str) : Except Er Str :=
  match slAll b with
  | .error e => .error e
  | .ok l => let a := slPack l (List.replicate 232 0, [], 232); .ok (slWith a.1 a.2.1 a.2.2)
def slInsert (b : Str) (i : Int) (r : Str) : Except Er Str :=
  match slCheck b with
  | some e => .error e
  | Option.none =>
    if i < 0 ∨ ((slList b).length : Int) < i then .error .range
    else if slRoom b - 4 < (r.length : Int) then .error .full
    else
      let c := if at2 b 2 < 4 + 4 * ((slList b).length + 1) + r.length then (match slCompact b with | .ok x => x | .error _ => []) else b
      let l := slList c
      let heap := at2 c 2 - r.length
      .ok (slWith (splice c heap r) (l.take i.toNat ++ [(heap, r.length)] ++ l.drop i.toNat) heap)
def slOfFrom (b : Str) (i : Nat) : List Str → Except Er Str
  | [] => .ok b
  | r :: l => match slInsert b i r with
    | .error e => .error e
    | .ok c => slOfFrom c (i + 1) l
def slOf (l : List Str) : Except Er Str := slOfFrom slEmpty 0 l

/-! ### node -/
structure Entry where
  key : Str
  value : Str
  far : Int
  deriving DecidableEq
structure Node where
  leaf : Bool
  l : List Entry
  deriving DecidableEq
/-- is a text ahead of another one? -/
def sless : Str → Str → Bool
  | [], [] => false
  | [], _ :: _ => true
  | _ :: _, [] => false
  | a :: r, b :: t => if a.toNat < b.toNat then true else if b.toNat < a.toNat then false else sless r t
def enRight (x : Entry) (leaf : Bool) : Bool :=
  decide (x.key.length ≤ 32) && decide (x.value.length ≤ 40) && decide ((if leaf then -1 else 0) ≤ x.far) && decide (x.far < 512) && (decide (x.far < 0) || x.value.isEmpty)
def noMayFrom (leaf : Bool) : Option Entry → List Entry → Bool
  | _, [] => true
  | p, x :: r => enRight x leaf && (match p with | Option.none => true | some y => sless y.key x.key) && noMayFrom leaf (some x) r
def noMay (n : Node) : Bool := noMayFrom n.leaf Option.none n.l
def enPut (x : Entry) : Str := [UInt8.ofNat x.key.length] ++ x.key ++ [UInt8.ofNat ((x.far + 1).toNat / 256), UInt8.ofNat (x.far + 1).toNat] ++ x.value
def noPut (n : Node) : Except Er Str :=
  if noMay n then slOf ((if n.leaf then [1] else [2]) :: n.l.map enPut) else .error .arg
def enGet (s : Str) : Option Entry :=
  if s.isEmpty ∨ s.length < 3 + (s.getD 0 0).toNat then Option.none
  else let e := 1 + (s.getD 0 0).toNat; some ⟨(s.drop 1).take (e - 1), s.drop (e + 2), (at2 s e : Int) - 1⟩
def enGets : List Str → Option (List Entry)
  | [] => some []
  | s :: r => match enGet s with
    | Option.none => Option.none
    | some x => (enGets r).map (x :: ·)
def noGet (b : Str) : Except Er Node :=
  match slAll b with
  | .error e => .error e
  | .ok [] => .error .corrupt
  | .ok (h :: r) =>
    if h ≠ [1] ∧ h ≠ [2] then .error .corrupt
    else match enGets r with
      | Option.none => .error .corrupt
      | some l => let n : Node := ⟨h == [1], l⟩; if noMay n then .ok n else .error .corrupt
end Go.Proofs.YtkdjhegkcfmkoaaGreat.Md
