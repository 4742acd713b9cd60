/- The abstract machine over this program's code: types, numbers, texts. -/
import Derived.Test.YtkdjhegkcfmkoaaGreatProg
import Derived.Test.YtkdjhegkcfmkoaaGreatMa
namespace Go.Proofs.YtkdjhegkcfmkoaaGreat.AM
open Go.AM
/-- functions that are deferred, and do nothing where nothing goes wrong -/
noncomputable def idleF (f : Nat) : Bool := Bool.or (f.beq 78) (Bool.or (f.beq 301) (f.beq 377))
/-! ### what a type is -/
noncomputable def tSz (t : Nat) : Nat := match Tryz.prog.info? t with | some i => i.size | none => 0
noncomputable def tDesc (t : Nat) : TypeDesc := match Tryz.prog.underlying t with | some d => d | none => .invalid
noncomputable def dAg (d : TypeDesc) : Bool := match d with | .struct _ => true | .array _ _ => true | _ => false
noncomputable def tAg (t : Nat) : Bool := dAg (tDesc t)
noncomputable def isStrT (d : TypeDesc) : Bool := match d with | .string => true | _ => false
noncomputable def isIfcT (d : TypeDesc) : Bool := match d with | .interface _ => true | _ => false
noncomputable def isU8 (d : TypeDesc) : Bool := match d with | .int .u8 => true | _ => false
noncomputable def isIntT (d : TypeDesc) : Bool := match d with | .int _ => true | _ => false
/-- the element of a slice type that has cells -/
noncomputable def slT (t : Nat) : Option Nat := match tDesc t with | .slice e => if tSz e = 0 then none else some e | _ => none
noncomputable def onOpt {α : Type} (x : Option α) (k : α → Bool) : Bool := Option.rec false k x
/-! ### values of the code's own -/
noncomputable def absV (v : Value) : AV := match v with
  | .bool b => .bool b | .int k n => .int k n | .float .f64 b => .at (.flt b) | .string s => .at (.str s.size (s.data.toList.map fun c => c.toNat))
  | .pointer none => .at .nilp | .slice none 0 0 => .at .nils | .nilFunc => .at .nilf | .nilIface => .at .nili | _ => .any
noncomputable def absC (v : Value) : List AV := match v with | .agg cs => cs.toList.map absV | v => [absV v]
noncomputable def zeroC (t : Nat) : List AV := match Tryz.prog.info? t with
  | some i => (match i.zero with | some z => absC z | none => [])
  | none => []
/-- a list is brought to its form -/
noncomputable def forceV (x : AV) (k : K1) : Bool := AV.rec (motive_1 := fun _ => Bool) (motive_2 := fun _ => Bool) (fun a => k (.at a)) (fun g l _ => k (.row g l)) (fun b => k (.bool b)) (fun b o => k (.ptr b o)) (fun a n => k (.int a n)) false (fun _ _ _ _ => false) x
noncomputable def forceL (l : List AV) : KL → Bool := List.rec (motive := fun _ => KL → Bool) (fun k => k []) (fun a _ ih k => forceV a fun a => ih fun t => k (a :: t)) l
noncomputable def forceN (n : Nat) (k : Nat → Bool) : Bool := Nat.rec (k 0) (fun m _ => k m.succ) n
noncomputable def retB (b : Bool) (c : K1) : Bool := Bool.rec (c (.bool false)) (c (.bool true)) b
/-- where an operand of a region stands: among the values of the region's own (the last one first), or in the frame -/
inductive Loc where
  | e (i : Nat)
  | f (p : Pt)
noncomputable def locD (n : Nat) : Loc := if n % 2 = 1 then .e (n / 2) else .f (pathOf (n / 2))
noncomputable def rd (E : List AV) (F : Fr) (x : Operand) (k : K1) : Bool := Operand.rec (fun t => Loc.rec (fun i => lnthK E i k) (fun p => Fr.get F p k) (locD t)) (fun v => k (absV v)) (fun _ => false) (fun f => k (.row (.fn f 0) [])) x
noncomputable def rdL (E : List AV) (F : Fr) (l : List Operand) : KL → Bool := List.rec (motive := fun _ => KL → Bool) (fun k => k []) (fun x _ ih k => rd E F x fun v => ih fun vs => k (v :: vs)) l
/-! ### memory -/
/-- the cell at a place -/
noncomputable def cellK (r : Nat) (t : Rws) (o : Nat) (k : K1) : Bool := Rws.get t (o.div r) fun l => lnthK l (o.mod r) k
/-- so many cells from a place on -/
noncomputable def cellsK (r : Nat) (t : Rws) (s : Nat) : Nat → KL → Bool := Nat.rec (motive := fun _ => Nat → KL → Bool) (fun _ k => k []) (fun _ ih o k => cellK r t o fun v => ih o.succ fun l => k (v :: l)) s
noncomputable def rowAt (r : Nat) (t : Rws) (o s : Nat) (k : KL) : Bool := Bool.rec (cellsK r t s o k) (Rws.get t (o.div r) k) (Bool.rec false ((o.mod r).beq 0) (r.beq s))
noncomputable def loadA (h : H) (b : Nm) (o s : Nat) (k : KL) : Bool := getB h b fun B => onMk B fun n r t => Bool.rec false (rowAt r t o s k) ((o.add s).ble n)
noncomputable def load1 (h : H) (b : Nm) (o : Nat) (k : K1) : Bool := getB h b fun B => onMk B fun n r t => Bool.rec false (cellK r t o k) (Nat.ble o.succ n)
noncomputable def stC (r : Nat) (l : List AV) : Rws → Nat → (Rws → Bool) → Bool :=
  List.rec (motive := fun _ => Rws → Nat → (Rws → Bool) → Bool) (fun t _ k => k t)
    (fun v _ ih t o k => Rws.get t (o.div r) fun row => lputK row (o.mod r) v fun row => Rws.put t (o.div r) row fun t => ih t o.succ k) l
noncomputable def stB (r : Nat) (l : List AV) (t : Rws) (o : Nat) (k : Rws → Bool) : Bool :=
  Bool.rec (stC r l t o k) (Rws.put t (o.div r) l k) (Bool.rec false ((o.mod r).beq 0) (r.beq (llen l)))
noncomputable def storeA (h : H) (b : Nm) (o : Nat) (l : List AV) (k : H → Bool) : Bool := getB h b fun B => onMk B fun n r t => Bool.rec false (stB r l t o fun t => putB h b (.mk n r t) k) ((o.add (llen l)).ble n)
/-! ### whole numbers -/
noncomputable def kmax (k : IntKind) : Nat := match k with | .i8 => 127 | .i16 => 32767 | .i32 => 2147483647 | .i64 => 9223372036854775807 | .u8 => 255 | .u16 => 65535 | .u32 => 4294967295 | .u64 => 18446744073709551615
noncomputable def mkInt (k : IntKind) (n : Int) (c : K1) : Bool := Int.rec (fun m => Nat.rec (c (.int k (Int.ofNat 0))) (fun p _ => c (.int k (Int.ofNat p.succ))) m) (fun m => c (.int k (Int.negSucc m))) n
noncomputable def retN (k : IntKind) (m : Nat) (c : K1) : Bool := Bool.rec (mkInt k (k.wrap (Int.ofNat m)) c) (Nat.rec (c (.int k (Int.ofNat 0))) (fun p _ => c (.int k (Int.ofNat p.succ))) m) (m.ble (kmax k))
noncomputable def retI (k : IntKind) (n : Int) (c : K1) : Bool := Int.rec (fun m => retN k m c) (fun m => mkInt k (k.wrap (Int.negSucc m)) c) n
noncomputable def addI (k : IntKind) (x y : Int) (c : K1) : Bool := Int.rec (fun a => Int.rec (fun b => retN k (a.add b) c) (fun b => retI k (Int.add (Int.ofNat a) (Int.negSucc b)) c) y) (fun a => retI k (Int.add (Int.negSucc a) y) c) x
noncomputable def subI (k : IntKind) (x y : Int) (c : K1) : Bool := Int.rec (fun a => Int.rec (fun b => Bool.rec (retI k (Int.sub (Int.ofNat a) (Int.ofNat b)) c) (retN k (a.sub b) c) (b.ble a)) (fun b => retI k (Int.sub (Int.ofNat a) (Int.negSucc b)) c) y) (fun a => retI k (Int.sub (Int.negSucc a) y) c) x
noncomputable def mulI (k : IntKind) (x y : Int) (c : K1) : Bool := Int.rec (fun a => Int.rec (fun b => retN k (a.mul b) c) (fun b => retI k (Int.mul (Int.ofNat a) (Int.negSucc b)) c) y) (fun a => retI k (Int.mul (Int.negSucc a) y) c) x
noncomputable def eqI (x y : Int) : Bool := Int.rec (fun a => Int.rec (fun b => a.beq b) (fun _ => false) y) (fun a => Int.rec (fun _ => false) (fun b => a.beq b) y) x
noncomputable def leI (x y : Int) : Bool := Int.rec (fun a => Int.rec (fun b => a.ble b) (fun _ => false) y) (fun a => Int.rec (fun _ => true) (fun b => b.ble a) y) x
/-- a number's bits, so many -/
noncomputable def natOf (w : Nat) (x : Int) : Nat := Int.rec (fun a => a.mod (Nat.pow 2 w)) (fun a => (Nat.pow 2 w).sub ((a.mod (Nat.pow 2 w)).succ)) x
noncomputable def shlI (k : IntKind) (x : Int) (n : Nat) (c : K1) : Bool := Int.rec (fun a => retN k (a.mul (Nat.pow 2 n)) c) (fun a => retI k (Int.mul (Int.negSucc a) (Int.ofNat (Nat.pow 2 n))) c) x
noncomputable def shrI (x : Int) (n : Nat) : Int := Int.rec (fun a => Int.ofNat (a.div (Nat.pow 2 n))) (fun a => Int.negSucc (a.div (Nat.pow 2 n))) x
noncomputable def intOp (op : BinOp) (k : IntKind) (x y : Int) (c : K1) : Bool := BinOp.rec
  (addI k x y c) (subI k x y c) (mulI k x y c)
  (Bool.rec (retI k (Int.tdiv x y) c) false (eqI y 0)) (Bool.rec (mkInt k (Int.tmod x y) c) false (eqI y 0))
  (retN k (Nat.land (natOf k.bits x) (natOf k.bits y)) c) (retN k (Nat.lor (natOf k.bits x) (natOf k.bits y)) c) (retN k (Nat.xor (natOf k.bits x) (natOf k.bits y)) c)
  false false
  (retN k (Nat.xor (natOf k.bits x) (Nat.land (natOf k.bits x) (natOf k.bits y))) c)
  (retB (eqI x y) c) (retB (Bool.not (eqI x y)) c) (retB (Bool.not (leI y x)) c) (retB (leI x y) c) (retB (Bool.not (leI x y)) c) (retB (leI y x) c) op
noncomputable def shiftOp (op : BinOp) (k : IntKind) (x y : Int) (c : K1) : Bool := Int.rec
  (fun m => BinOp.rec false false false false false false false false (shlI k x (Nat.min m k.bits) c) (mkInt k (shrI x (Nat.min m k.bits)) c) false false false false false false false op) (fun _ => false) y
/-! ### texts -/
abbrev KS := List Nat → Bool
noncomputable def sapp (l m : List Nat) : KS → Bool := List.rec (motive := fun _ => KS → Bool) (fun k => k m) (fun a _ ih k => ih fun t => k (a :: t)) l
noncomputable def sdrop (l : List Nat) : Nat → KS → Bool := List.rec (motive := fun _ => Nat → KS → Bool) (fun _ k => k []) (fun a t ih n k => Nat.rec (k (a :: t)) (fun m _ => ih m k) n) l
noncomputable def stake (l : List Nat) : Nat → KS → Bool := List.rec (motive := fun _ => Nat → KS → Bool) (fun _ k => k []) (fun a _ ih n k => Nat.rec (k []) (fun m _ => ih m fun t => k (a :: t)) n) l
noncomputable def snth (l : List Nat) : Nat → (Nat → Bool) → Bool := List.rec (motive := fun _ => Nat → (Nat → Bool) → Bool) (fun _ _ => false) (fun a _ ih n k => Nat.rec (k a) (fun m _ => ih m k) n) l
noncomputable def leqL (l : List Nat) : List Nat → Bool := List.rec (motive := fun _ => List Nat → Bool) (fun m => List.rec true (fun _ _ _ => false) m) (fun a _ ih m => List.rec false (fun b t _ => Bool.rec false (ih t) (a.beq b)) m) l
noncomputable def lltL (l : List Nat) : List Nat → Bool := List.rec (motive := fun _ => List Nat → Bool) (fun m => List.rec false (fun _ _ _ => true) m) (fun a _ ih m => List.rec false (fun b t _ => Bool.rec (a.succ.ble b) (ih t) (a.beq b)) m) l
noncomputable def strOp (op : BinOp) (n : Nat) (l : List Nat) (n' : Nat) (l' : List Nat) (c : K1) : Bool := BinOp.rec
  (Bool.rec false (sapp l l' fun l => forceN (n.add n') fun n => c (.at (.str n l))) ((n.add n').ble 1000000)) false false false false false false false false false false
  (retB (leqL l l') c) (retB (Bool.not (leqL l l')) c) (retB (lltL l l') c) (retB (Bool.or (lltL l l') (leqL l l')) c) (retB (Bool.not (Bool.or (lltL l l') (leqL l l'))) c) (retB (Bool.not (lltL l l')) c) op
/-! ### floats, by the model's own -/
noncomputable def fltOp (op : BinOp) (x y : Nat) (c : K1) : Bool := match op with
  | .add => (match FloatKind.f64.format.add x y with | some r => forceN r fun r => c (.at (.flt r)) | none => false)
  | .sub => (match FloatKind.f64.format.sub x y with | some r => forceN r fun r => c (.at (.flt r)) | none => false)
  | .eql => retB (FloatKind.f64.format.order x y == some .eq) c
  | .neq => retB (FloatKind.f64.format.order x y != some .eq) c
  | .lss => retB (FloatKind.f64.format.order x y == some .lt) c
  | .leq => retB (FloatKind.f64.format.order x y == some .lt || FloatKind.f64.format.order x y == some .eq) c
  | .gtr => retB (FloatKind.f64.format.order x y == some .gt) c
  | .geq => retB (FloatKind.f64.format.order x y == some .gt || FloatKind.f64.format.order x y == some .eq) c
  | _ => false
noncomputable def isEq (op : BinOp) (k : Bool → Bool) : Bool := BinOp.rec false false false false false false false false false false false (k true) (k false) false false false false op
noncomputable def isShift (op : BinOp) : Bool := BinOp.rec false false false false false false false false true true false false false false false false false op
noncomputable def isC (x : Operand) : Bool := match x with | .const _ => true | _ => false
noncomputable def beqB (a b : Bool) : Bool := Bool.rec (Bool.not b) b a
/-- what may be held against none, as far as its type tells -/
inductive EK where
  | no | p | s | f | i | b
noncomputable def ekOf (t : Nat) : EK := match tDesc t with | .pointer _ => .p | .slice _ => .s | .func _ _ _ => .f | .interface _ => .i | .bool => .b | _ => .no
noncomputable def nilP (x : AV) (k : Bool → Bool) : Bool := AV.rec (motive_1 := fun _ => Bool) (motive_2 := fun _ => Bool) (fun a => At.rec false (k true) false false false false (fun _ => false) (fun _ _ => false) (fun _ _ _ _ _ => false) a) (fun _ _ _ => false) (fun _ => false) (fun _ _ => k false) (fun _ _ => false) false (fun _ _ _ _ => false) x
noncomputable def nilS (x : AV) (k : Bool → Bool) : Bool := AV.onAt x fun a => At.rec false false (k true) false false false (fun _ => false) (fun _ _ => false) (fun _ _ _ _ _ => k false) a
noncomputable def nilF (x : AV) (k : Bool → Bool) : Bool := AV.rec (motive_1 := fun _ => Bool) (motive_2 := fun _ => Bool) (fun a => At.rec false false false false (k true) false (fun _ => false) (fun _ _ => false) (fun _ _ _ _ _ => false) a) (fun g _ _ => Tg.rec false false (fun _ => false) (fun _ _ => k false) g) (fun _ => false) (fun _ _ => false) (fun _ _ => false) false (fun _ _ _ _ => false) x
noncomputable def nilI (x : AV) (k : Bool → Bool) : Bool := AV.rec (motive_1 := fun _ => Bool) (motive_2 := fun _ => Bool) (fun a => At.rec false false false false false (k true) (fun _ => false) (fun _ _ => false) (fun _ _ _ _ _ => false) a) (fun g _ _ => Tg.rec false false (fun _ => k false) (fun _ _ => false) g) (fun _ => false) (fun _ _ => false) (fun _ _ => false) false (fun _ _ _ _ => false) x
noncomputable def nilT (op : BinOp) (a b : Bool) (c : K1) : Bool := isEq op fun e => Bool.rec false (retB (beqB e (Bool.and a b)) c) (Bool.or a b)
/-- is one of the two none? then whether both are -/
noncomputable def nilEq (op : BinOp) (ek : EK) (xc : Bool) (x y : AV) (c : K1) : Bool := EK.rec false (nilP x fun a => nilP y fun b => nilT op a b c) (nilS x fun a => nilS y fun b => nilT op a b c) (nilF x fun a => nilF y fun b => nilT op a b c)
  (nilI x fun a => nilI y fun b => Bool.rec (nilT op a b c) (Bool.rec false (nilT op a b c) xc) (Bool.and a b)) false ek
noncomputable def boolEq (op : BinOp) (ek : EK) (a b : Bool) (c : K1) : Bool := EK.rec false false false false false (isEq op fun e => retB (beqB e (beqB a b)) c) ek
noncomputable def beqK (a b : IntKind) : Bool := IntKind.rec (IntKind.rec true false false false false false false false b) (IntKind.rec false true false false false false false false b) (IntKind.rec false false true false false false false false b) (IntKind.rec false false false true false false false false b) (IntKind.rec false false false false true false false false b) (IntKind.rec false false false false false true false false b) (IntKind.rec false false false false false false true false b) (IntKind.rec false false false false false false false true b) a
noncomputable def binV (op : BinOp) (ek : EK) (xc : Bool) (x y : AV) (c : K1) : Bool := AV.rec (motive_1 := fun _ => Bool) (motive_2 := fun _ => Bool)
  (fun a => At.rec false (nilEq op ek xc x y c) (nilEq op ek xc x y c) false (nilEq op ek xc x y c) (nilEq op ek xc x y c) (fun a => AV.onFlt y fun b => fltOp op a b c) (fun n l => AV.onStr y fun n' l' => strOp op n l n' l' c) (fun _ _ _ _ _ => nilEq op ek xc x y c) a)
  (fun _ _ _ => nilEq op ek xc x y c) (fun a => AV.onBool y fun b => boolEq op ek a b c) (fun _ _ => nilEq op ek xc x y c)
  (fun k a => AV.onInt y fun k' b => Bool.rec (Bool.rec false (intOp op k a b c) (beqK k k')) (shiftOp op k a b c) (isShift op)) false (fun _ _ _ _ => false) x
end Go.Proofs.YtkdjhegkcfmkoaaGreat.AM
namespace Go.Proofs.YtkdjhegkcfmkoaaGreat.AM
open Go.AM
abbrev Cl := Nat → List AV → H → K2 → Bool
/-! ### what an operation is, as far as its types tell -/
inductive LK where
  | no | one
  | row (n : Nat)
noncomputable def ldK (t : Nat) : LK := match Tryz.prog.underlying t, Tryz.prog.info? t with
  | some d, some i => if dAg d then .row i.size else .one
  | _, _ => .no
noncomputable def mkI (t : Nat) : Bool := match Tryz.prog.underlying t with
  | some d => !isIfcT d
  | none => false
noncomputable def faK (t f : Nat) : Option Nat := match tDesc t with
  | .struct fs => (match fs[f]? with | some x => if tSz x.type = 0 then none else some x.offset | none => none)
  | _ => none
noncomputable def fdK (t f : Nat) : Option (Nat × LK) := match tDesc t with
  | .struct fs => (match fs[f]? with | some x => some (x.offset, ldK x.type) | none => none)
  | _ => none
inductive IK where
  | no
  | arr (n e : Nat)
  | sl (e : Nat)
noncomputable def iaK (t : Nat) : IK := match tDesc t with
  | .array n e => if tSz e = 0 then .no else .arr n (tSz e)
  | .slice e => if tSz e = 0 then .no else .sl (tSz e)
  | _ => .no
inductive XK where
  | no | str
  | arr (n e : Nat) (k : LK)
noncomputable def ixK (t : Nat) : XK := match tDesc t with
  | .array n e => .arr n (tSz e) (ldK e)
  | .string => .str
  | _ => .no
inductive SK where
  | no | str
  | sl (e : Nat)
  | arr (n e : Nat)
noncomputable def scK (t : Nat) : SK := match tDesc t with
  | .string => .str
  | .slice e => if tSz e = 0 then .no else .sl (tSz e)
  | .array n e => if tSz e = 0 then .no else .arr n (tSz e)
  | .pointer a => (match tDesc a with | .array n e => if tSz e = 0 then .no else .arr n (tSz e) | _ => .no)
  | _ => .no
inductive NK where
  | no | str | sl
  | fix (n : Nat)
noncomputable def lnK (t : Nat) : NK := match tDesc t with
  | .string => .str
  | .slice _ => .sl
  | .array n _ => .fix n
  | .pointer a => (match tDesc a with | .array n _ => .fix n | _ => .no)
  | _ => .no
inductive CK where
  | no | same | s2b | b2s
  | int (k : IntKind)
noncomputable def cvK (s d : Nat) : CK := match tDesc d with
  | .int k => (match Tryz.prog.underlying s with | some _ => .int k | none => .no)
  | .string => (match tDesc s with | .string => .same | .slice e => if isU8 (tDesc e) && (tSz e).beq 1 then .b2s else .no | _ => .no)
  | .slice e => (match tDesc s with | .string => if isU8 (tDesc e) && (tSz e).beq 1 then .s2b else .no | _ => .no)
  | _ => .no
/-- what a type's zero value is: none that the machine does not know -/
noncomputable def zvK (t : Nat) : Option LK := match Tryz.prog.info? t with
  | some i => (match i.zero with
    | some (.agg cs) => if cs.all (fun v => v.oneCell') then some (.row cs.size) else none
    | some v => if v.oneCell' then some .one else none
    | none => none)
  | none => none
/-- cells that are zero, or an operand's -/
inductive Seg where
  | z (l : List AV)
  | x (x : Operand) (s : Nat)
noncomputable def segs (place : Nat → Option (Nat × Nat)) : List (Nat × Operand) → Nat → List AV → Option (List Seg)
  | [], _, z => some [.z z]
  | (i, x) :: r, o, z => match place i with
    | some (p, s) => if o ≤ p && (p - o + s ≤ z.length) then (match segs place r (p + s) (z.drop (p - o + s)) with
        | some l => if o = p then some (.x x s :: l) else some (.z (z.take (p - o)) :: .x x s :: l)
        | none => none) else none
    | none => none
noncomputable def elemPlace (s : Nat) (i : Nat) : Option (Nat × Nat) := some (i * s, s)
noncomputable def placesOf (fs : List Field) : Option (List (Nat × Nat)) := fs.mapM fun f => (Tryz.prog.info? f.type).map fun i => (f.offset, i.size)
noncomputable def buK (t : Nat) (ps : List (Nat × Operand)) : Option (List Seg) := if (zvK t).isNone then none else match tDesc t with
  | .struct fs => (match placesOf fs.toList with | some pl => segs (fun i => pl[i]?) ps 0 (zeroC t) | none => none)
  | .array _ e => (match Tryz.prog.info? e with | some i => segs (elemPlace i.size) ps 0 (zeroC t) | none => none)
  | _ => none
noncomputable def zerosL (z : List AV) (n : Nat) : List AV := (List.replicate n z).flatten
noncomputable def bsK (t n : Nat) (ps : List (Nat × Operand)) : Option (Nat × List Seg) := match tDesc t with
  | .slice e => if tSz e = 0 ∨ n * tSz e > 1000 ∨ (zeroC e).length ≠ tSz e ∨ (zvK e).isNone then none else (match segs (elemPlace (tSz e)) ps 0 (zerosL (zeroC e) n) with | some l => some (tSz e, l) | none => none)
  | _ => none
/-- an element's size in bytes is small -/
noncomputable def tBy (t : Nat) : Bool := match Tryz.prog.info? t with | some i => i.bytes.ble 1000000 | none => false
inductive AK where
  | no
  | mk (zs : Bool) (e : Nat) (z : List AV)
noncomputable def okU (d : TypeDesc) : Bool := match d with | .int _ => true | .slice _ => true | .string => true | _ => false
noncomputable def apK (ts : List Nat) : AK := match ts with
  | [t, u] => (match tDesc t with | .slice e => if tSz e = 0 ∨ (zeroC e).length ≠ tSz e ∨ (zvK e).isNone ∨ tBy e = false ∨ okU (tDesc u) = false then .no else .mk (isIntT (tDesc u)) (tSz e) (zeroC e) | _ => .no)
  | [t] => (match tDesc t with | .slice e => if tSz e = 0 ∨ (zeroC e).length ≠ tSz e ∨ (zvK e).isNone ∨ tBy e = false then .no else .mk false (tSz e) (zeroC e) | _ => .no)
  | _ => .no
/-! ### operations -/
abbrev KB := Blk → Bool
/-- a block of a row of cells -/
noncomputable def rowBlk (l : List AV) (k : KB) : Bool := forceN (llen l) fun n => k (.mk n (Nat.max n 1) (.r0 l))
noncomputable def newRowB (l : List AV) (h : H) (c : K2) : Bool := rowBlk l fun B => newB h B fun i h => c (.ptr i 0) h
noncomputable def allocBlk (t : Nat) (k : KB) : Bool := onOpt (zvK t) fun _ => forceL (zeroC t) fun l => rowBlk l k
noncomputable def kindV (k : LK) (l : List AV) (c : K1) : Bool := LK.rec false (lnthK l 0 c) (fun _ => c (.agg l)) k
noncomputable def runSegs (E : List AV) (F : Fr) (l : List Seg) : KL → Bool := List.rec (motive := fun _ => KL → Bool) (fun k => k [])
  (fun s _ ih k => Seg.rec (fun l => forceL l fun l => ih fun r => lappK l r k) (fun x s => rd E F x fun v => AV.cells v fun cs => Bool.rec false (ih fun r => lappK cs r k) ((llen cs).beq s)) s) l
noncomputable def b_move (x : Operand) (_ : Cl) (E : List AV) (F : Fr) (h : H) (c : K2) : Bool := rd E F x fun v => c v h
noncomputable def b_pick (x a b : Operand) (_ : Cl) (E : List AV) (F : Fr) (h : H) (c : K2) : Bool := rd E F x fun v => AV.onBool v fun t => Bool.rec (rd E F b fun v => c v h) (rd E F a fun v => c v h) t
noncomputable def b_alloc (t : Nat) (_ : Cl) (_ : List AV) (_ : Fr) (h : H) (c : K2) : Bool := allocBlk t fun B => newB h B fun i h => c (.ptr i 0) h
noncomputable def b_box (_ : Nat) (x : Operand) (_ : Cl) (E : List AV) (F : Fr) (h : H) (c : K2) : Bool := rd E F x fun v => AV.cells v fun l => newRowB l h c
noncomputable def b_build (t : Nat) (ps : Array (Nat × Operand)) (_ : Cl) (E : List AV) (F : Fr) (h : H) (c : K2) : Bool := onOpt (buK t ps.toList) fun s => runSegs E F s fun l => c (.agg l) h
/-- a block of rows of e cells, laid with cells from its beginning on -/
noncomputable def rowsBlk (m e : Nat) (z l : List AV) (k : KB) : Bool := Rws.new m z fun t => stC e l t 0 fun t => forceN (m.mul e) fun n => k (.mk n e t)
noncomputable def rowsB (m e : Nat) (z l : List AV) (h : H) (k : Nm → H → Bool) : Bool := rowsBlk m e z l fun B => newB h B k
noncomputable def bsBlk (t n : Nat) (ps : List (Nat × Operand)) (E : List AV) (F : Fr) (k : Nat → KB) : Bool := onOpt (bsK t n ps) fun q => Prod.rec (fun e s => runSegs E F s fun l => Bool.rec false (rowsBlk n e [] l (k e)) ((llen l).beq (n.mul e))) q
noncomputable def b_buildSlice (t n : Nat) (ps : Array (Nat × Operand)) (_ : Cl) (E : List AV) (F : Fr) (h : H) (c : K2) : Bool := bsBlk t n ps.toList E F fun e B => newB h B fun i h => c (.at (.sl i 0 n (some n) e)) h
noncomputable def b_load (t : Nat) (a : Operand) (_ : Cl) (E : List AV) (F : Fr) (h : H) (c : K2) : Bool := rd E F a fun v => AV.onPtr v fun b o => LK.rec false (load1 h b o fun v => c v h) (fun n => loadA h b o n fun l => c (.agg l) h) (ldK t)
noncomputable def b_store (t : Nat) (a x : Operand) (_ : Cl) (E : List AV) (F : Fr) (h : H) (c : K2) : Bool := rd E F a fun v => AV.onPtr v fun b o => rd E F x fun v => AV.cells v fun l => Bool.rec false (Bool.rec (storeA h b o l fun h => c .any h) false ((tSz t).beq 0)) ((llen l).beq (tSz t))
noncomputable def b_nilCheck (x : Operand) (_ : Cl) (E : List AV) (F : Fr) (h : H) (c : K2) : Bool := rd E F x fun v => AV.nilOf v fun b => Bool.rec (c v h) false b
noncomputable def b_binOp (op : BinOp) (t : Nat) (x y : Operand) (_ : Nat) (_ : Cl) (E : List AV) (F : Fr) (h : H) (c : K2) : Bool := rd E F x fun a => rd E F y fun b => binV op (ekOf t) (Bool.or (isC x) (isC y)) a b fun v => c v h
noncomputable def b_unOp (op : UnOp) (_ : Nat) (x : Operand) (_ : Cl) (E : List AV) (F : Fr) (h : H) (c : K2) : Bool := rd E F x fun v => UnOp.rec
  (AV.onInt v fun k n => subI k 0 n fun v => c v h) (AV.onInt v fun k n => retN k (Nat.xor ((Nat.pow 2 k.bits).pred) (natOf k.bits n)) fun v => c v h) (AV.onBool v fun b => retB (Bool.not b) fun v => c v h) false op
noncomputable def bytesL (l : List AV) : KS → Bool := List.rec (motive := fun _ => KS → Bool) (fun k => k [])
  (fun v _ ih k => AV.onInt v fun kd n => Int.rec (fun m => Bool.rec false (Bool.rec false (ih fun l => k (m :: l)) (m.ble 255)) (beqK kd .u8)) (fun _ => false) n) l
noncomputable def cellsS (l : List Nat) : KL → Bool := List.rec (motive := fun _ => KL → Bool) (fun k => k []) (fun a _ ih k => ih fun l => k (.int .u8 (Int.ofNat a) :: l)) l
noncomputable def b_convert (src dst : Nat) (x : Operand) (_ : Cl) (E : List AV) (F : Fr) (h : H) (c : K2) : Bool := rd E F x fun v => CK.rec false (AV.onStr v fun _ _ => c v h)
  (AV.onStr v fun n l => cellsS l fun l => rowsB n 1 [] l h fun i h => c (.at (.sl i 0 n none 1)) h)
  (AV.onSl v (fun b o n _ e => Bool.rec false (loadA h b o n fun l => bytesL l fun s => c (.at (.str n s)) h) (e.beq 1)) (c (.at (.str 0 [])) h) (c (.at (.str 0 [])) h))
  (fun k => AV.onInt v fun _ n => retI k n fun v => c v h) (cvK src dst)
noncomputable def b_makeInterface (t : Nat) (x : Operand) (_ : Cl) (E : List AV) (F : Fr) (h : H) (c : K2) : Bool := rd E F x fun v => Bool.rec false (c (.row (.ifc t) [v]) h) (mkI t)
noncomputable def b_makeFunc (f : Fn) (a b : Array Operand) (_ : Cl) (E : List AV) (F : Fr) (h : H) (c : K2) : Bool := Fn.rec (fun f => rdL E F a.toList fun a => rdL E F b.toList fun b => forceN (llen a) fun n => lappK a b fun l => c (.row (.fn f n) l) h) (fun _ => false) (fun _ _ => false) (fun _ _ _ _ => false) (fun _ => false) f
noncomputable def onNat (v : AV) (k : Nat → Bool) : Bool := AV.onInt v fun _ n => Int.rec k (fun _ => false) n
noncomputable def b_makeSlice (t : Nat) (n m : Operand) (_ : Cl) (E : List AV) (F : Fr) (h : H) (c : K2) : Bool := AK.rec false (fun _ e z => rd E F n fun n => rd E F m fun m => onNat n fun n => onNat m fun m => Bool.rec false (Bool.rec false
  (forceL z fun z => Rws.new m z fun t => forceN (m.mul e) fun l => newB h (.mk l e t) fun i h => c (.at (.sl i 0 n (some m) e)) h) (m.ble 4096)) (n.ble m)) (apK [t])
noncomputable def rdO (E : List AV) (F : Fr) (x : Option Operand) (d : Nat) (k : Nat → Bool) : Bool := Option.rec (k d) (fun x => rd E F x fun v => onNat v k) x
noncomputable def rdM (E : List AV) (F : Fr) (hi x : Option Operand) (k : Option Nat → Bool) : Bool := Option.rec (k none) (fun x => Option.rec false (fun _ => rd E F x fun v => onNat v fun m => k (some m)) hi) x
noncomputable def slV (b : Nm) (o n : Nat) (c : Option Nat) (e : Nat) (k : K1) : Bool := forceN o fun o => forceN n fun n => Option.rec (k (.at (.sl b o n none e))) (fun c => forceN c fun c => k (.at (.sl b o n (some c) e))) c
/-- a part of a slice whose room is known: low, high, most -/
noncomputable def cutS (b : Nm) (o n c e l hi : Nat) (mx : Option Nat) (k : K1) : Bool :=
  Bool.rec false (Option.rec
    (Bool.rec false (slV b (Bool.rec (o.add (l.mul e)) o (c.beq l)) (hi.sub l) (some (c.sub l)) e k) (hi.ble c))
    (fun m => Bool.rec false (Bool.rec false (slV b (Bool.rec (o.add (l.mul e)) o (m.beq l)) (hi.sub l) (some (m.sub l)) e k) (m.ble c)) (hi.ble m)) mx) (l.ble hi)
/-- a part of a slice that reaches to the end of its block, of which so many cells are known -/
noncomputable def cutF (b : Nm) (o e l hi bn : Nat) (mx : Option Nat) (k : K1) : Bool :=
  Bool.rec false (Option.rec
    (Bool.rec false (Bool.rec (Bool.rec (k (.at .sz)) (slV b o (hi.sub l) none e k) (l.beq 0)) (slV b (o.add (l.mul e)) (hi.sub l) none e k) (Nat.ble (o.add (l.mul e)).succ bn)) ((o.add (hi.mul e)).ble bn))
    (fun m => Bool.rec false (Bool.rec false (slV b (Bool.rec (o.add (l.mul e)) o (m.beq l)) (hi.sub l) (some (m.sub l)) e k) ((o.add (m.mul e)).ble bn)) (hi.ble m)) mx) (l.ble hi)
noncomputable def b_slice (t : Nat) (x : Operand) (lo hx mx : Option Operand) (_ : Cl) (E : List AV) (F : Fr) (h : H) (c : K2) : Bool := rd E F x fun v => SK.rec false
  (AV.onStr v fun n s => rdO E F lo 0 fun l => rdO E F hx n fun hi => Option.rec (Bool.rec false (Bool.rec false (sdrop s l fun s => stake s (hi.sub l) fun s => forceN (hi.sub l) fun n => c (.at (.str n s)) h) (hi.ble n)) (l.ble hi)) (fun _ => false) mx)
  (fun e => rdO E F lo 0 fun l => AV.onSl v (fun b o n k e' => rdO E F hx n fun hi => rdM E F hx mx fun m => Bool.rec false (Option.rec (getB h b fun B => onMk B fun bn _ _ => cutF b o e l hi bn m fun v => c v h) (fun k => cutS b o n k e l hi m fun v => c v h) k) (e.beq e'))
    (rdO E F hx 0 fun hi => rdM E F hx mx fun m => Bool.rec false (Bool.rec false (Option.rec (c (.at .nils) h) (fun m => Bool.rec false (c (.at .nils) h) (m.beq 0)) m) (hi.beq 0)) (l.beq 0))
    (rdO E F hx 0 fun hi => Option.rec (Bool.rec false (Bool.rec false (c (.at .sz) h) (hi.beq 0)) (l.beq 0)) (fun _ => false) mx))
  (fun n e => AV.onPtr v fun b o => rdO E F lo 0 fun l => rdO E F hx n fun hi => rdM E F hx mx fun m => cutS b o n n e l hi m fun v => c v h) (scK t)
noncomputable def b_fieldAddr (t : Nat) (x : Operand) (f : Nat) (_ : Cl) (E : List AV) (F : Fr) (h : H) (c : K2) : Bool := rd E F x fun v => AV.onPtr v fun b o => onOpt (faK t f) fun p => forceN (o.add p) fun o => c (.ptr b o) h
noncomputable def partK (k : LK) (l : List AV) (o : Nat) (c : K1) : Bool := LK.rec false (lnthK l o c) (fun n => subK l o n fun l => c (.agg l)) k
noncomputable def b_field (t : Nat) (x : Operand) (f : Nat) (_ : Cl) (E : List AV) (F : Fr) (h : H) (c : K2) : Bool := rd E F x fun v => AV.onAgg v fun l => onOpt (fdK t f) fun q => Prod.rec (fun o k => partK k l o fun v => c v h) q
noncomputable def b_indexAddr (t : Nat) (x i : Operand) (_ : Cl) (E : List AV) (F : Fr) (h : H) (c : K2) : Bool := rd E F x fun v => rd E F i fun i => onNat i fun i => IK.rec false
  (fun n e => AV.onPtr v fun b o => Bool.rec false (forceN (o.add (i.mul e)) fun o => c (.ptr b o) h) (Nat.ble i.succ n))
  (fun e => AV.onSl v (fun b o n _ e' => Bool.rec false (Bool.rec false (forceN (o.add (i.mul e)) fun o => c (.ptr b o) h) (Nat.ble i.succ n)) (e.beq e')) false false) (iaK t)
noncomputable def b_index (t : Nat) (x i : Operand) (_ : Cl) (E : List AV) (F : Fr) (h : H) (c : K2) : Bool := rd E F x fun v => rd E F i fun i => onNat i fun i => XK.rec false
  (AV.onStr v fun _ l => snth l i fun a => c (.int .u8 (Int.ofNat a)) h)
  (fun n e k => AV.onAgg v fun l => Bool.rec false (partK k l (i.mul e) fun v => c v h) (Nat.ble i.succ n)) (ixK t)
noncomputable def b_range (t : Nat) (x : Operand) (_ : Cl) (E : List AV) (F : Fr) (h : H) (c : K2) : Bool := rd E F x fun v => AV.onStr v fun _ l => Bool.rec false (newB h (.it l 0) fun i h => c (.ptr i 0) h) (isStrT (tDesc t))
noncomputable def b_next (x : Operand) (s : Bool) (_ : Cl) (E : List AV) (F : Fr) (h : H) (c : K2) : Bool := rd E F x fun v => AV.onPtr v fun b o => getB h b fun B => onIt B fun l p => Bool.rec false (Bool.rec false
  (Bool.rec (c (.tup [.bool false]) h) (snth l p fun a => forceN p.succ fun p1 => Bool.rec false (putB h b (.it l p1) fun h => c (.tup [.bool true, .int .i64 (Int.ofNat p), .int .i32 (Int.ofNat a)]) h) (a.ble 127)) (Nat.ble p.succ l.length)) (o.beq 0)) s
noncomputable def zeroV (t : Nat) (k : K1) : Bool := onOpt (zvK t) fun kd => forceL (zeroC t) fun l => kindV kd l k
noncomputable def taNo (t : Nat) (ok : Bool) (h : H) (c : K2) : Bool := Bool.rec false (zeroV t fun z => c (.tup [z, .bool false]) h) ok
noncomputable def taV (v : AV) (t : Nat) (ok : Bool) (h : H) (c : K2) : Bool := AV.rec (motive_1 := fun _ => Bool) (motive_2 := fun _ => Bool)
  (fun a => At.rec false false false false false (taNo t ok h c) (fun _ => false) (fun _ _ => false) (fun _ _ _ _ _ => false) a)
  (fun g l _ => Tg.rec false false (fun u => lnthK l 0 fun v => Bool.rec (taNo t ok h c) (Bool.rec (c v h) (c (.tup [v, .bool true]) h) ok) (u.beq t)) (fun _ _ => false) g) (fun _ => false) (fun _ _ => false) (fun _ _ => false) false (fun _ _ _ _ => false) v
noncomputable def b_typeAssert (x : Operand) (_ t : Nat) (ok : Bool) (_ : Cl) (E : List AV) (F : Fr) (h : H) (c : K2) : Bool := rd E F x fun v => Bool.rec false (taV v t ok h c) (mkI t)
noncomputable def b_extract (x : Operand) (i : Nat) (_ : Cl) (E : List AV) (F : Fr) (h : H) (c : K2) : Bool := rd E F x fun v => AV.onTup v fun l => lnthK l i fun v => c v h
/-- what is appended or copied: how many elements, their cells -/
noncomputable def srcOf (x : AV) (e : Nat) (h : H) (k : Nat → List AV → Bool) : Bool := AV.onAt x fun a => At.rec false false (k 0 []) (k 0 []) false false (fun _ => false)
  (fun n l => Bool.rec false (cellsS l fun l => k n l) (e.beq 1)) (fun b o n _ e' => Bool.rec false (loadA h b o (n.mul e) fun l => k n l) (e.beq e')) a
noncomputable def lenOf (x : AV) (k : Nat → Bool) : Bool := AV.onAt x fun a => At.rec false false (k 0) (k 0) false false (fun _ => false) (fun n _ => k n) (fun _ _ n _ _ => k n) a
/-- rows of one cell go on as such -/
noncomputable def okRE (r e : Nat) : Bool := Bool.rec true (e.beq 1) (r.beq 1)
/-- a slice of e-cell elements is lengthened: where it stands, if there surely is room; or in a block of its own -/
noncomputable def moreOf (b : Nm) (o n0 e m : Nat) (l : List AV) (h : H) (c : K2) : Bool := getB h b fun B => onMk B fun bn r t => Bool.rec
  (Bool.rec
    (Bool.rec false (loadA h b o (n0.mul e) fun l0 => lappK l0 l fun l => putB h b .no fun h => rowsB m e [] l h fun i h => c (.at (.sl i 0 m none e)) h) (okRE r e))
    (Rws.grow t m [] fun t => stC e l t (n0.mul e) fun t => putB h b .no fun h => forceN (m.mul e) fun bn => newB h (.mk bn e t) fun i h => c (.at (.sl i 0 m none e)) h)
    (Bool.rec false (Bool.rec false (r.beq e) (bn.beq (n0.mul e))) (o.beq 0)))
  (storeA h b (o.add (n0.mul e)) l fun h => c (.at (.sl b o m none e)) h) ((o.add (m.mul e)).ble bn)
noncomputable def appendTo (s : AV) (e n : Nat) (l : List AV) (h : H) (c : K2) : Bool := Bool.rec
  (AV.onSl s
    (fun b o n0 k e' => Bool.rec false (forceN (n0.add n) fun m => Bool.rec false (Option.rec (moreOf b o n0 e m l h c)
      (fun k => Bool.rec (loadA h b o (n0.mul e) fun l0 => lappK l0 l fun l => rowsB m e [] l h fun i h => c (.at (.sl i 0 m none e)) h)
        (storeA h b (o.add (n0.mul e)) l fun h => c (.at (.sl b o m (some k) e)) h) (m.ble k)) k) (m.ble 1000000)) (e.beq e'))
    (Bool.rec false (rowsB n e [] l h fun i h => c (.at (.sl i 0 n none e)) h) (n.ble 1000000)) false)
  (AV.onSl s (fun _ _ _ _ _ => c s h) (c s h) (c s h)) (n.beq 0)
noncomputable def arg2 (l : List AV) (k : AV → AV → Bool) : Bool := List.rec false (fun a m _ => List.rec false (fun b r _ => List.rec (k a b) (fun _ _ _ => false) r) m) l
noncomputable def arg1 (l : List AV) (k : AV → Bool) : Bool := List.rec false (fun a m _ => List.rec (k a) (fun _ _ _ => false) m) l
noncomputable def two (l : List Nat) (b : Bool) : Bool := List.rec false (fun _ r _ => List.rec false (fun _ _ _ => b) r) l
noncomputable def u_append (ts : List Nat) (xs : List AV) (h : H) (c : K2) : Bool := two ts (AK.rec false (fun zs e z => arg2 xs fun s x => Bool.rec (srcOf x e h fun n l => appendTo s e n l h c)
  (onNat x fun n => Bool.rec false (forceL (zerosL z n) fun l => appendTo s e n l h c) (n.ble 100000)) zs) (apK ts))
noncomputable def u_copy (ts : List Nat) (xs : List AV) (h : H) (c : K2) : Bool := two ts (AK.rec false (fun _ e _ => arg2 xs fun d x => lenOf x fun n => AV.onSl d
  (fun b o m _ e' => forceN (Nat.min n m) fun k => Bool.rec (srcOf x e h fun _ l => ltakeK l (k.mul e) fun l => Bool.rec false (storeA h b o l fun h => c (.int .i64 (Int.ofNat k)) h) (e.beq e')) (c (.int .i64 (Int.ofNat 0)) h) (k.beq 0))
  (c (.int .i64 (Int.ofNat 0)) h) (c (.int .i64 (Int.ofNat 0)) h)) (apK ts))
noncomputable def u_clear (ts : List Nat) (xs : List AV) (h : H) (c : K2) : Bool := AK.rec false (fun _ e z => arg1 xs fun d => AV.onSl d
  (fun b o n _ e' => Bool.rec (Bool.rec false (Bool.rec false (forceL (zerosL z n) fun l => storeA h b o l fun h => c (.tup []) h) (e.beq e')) (n.ble 100000)) (c (.tup []) h) (n.beq 0)) (c (.tup []) h) (c (.tup []) h)) (apK ts)
noncomputable def u_len (ts : List Nat) (xs : List AV) (h : H) (c : K2) : Bool := List.rec false (fun t _ _ => arg1 xs fun x => NK.rec false (AV.onStr x fun n _ => c (.int .i64 (Int.ofNat n)) h)
  (AV.onSl x (fun _ _ n _ _ => c (.int .i64 (Int.ofNat n)) h) (c (.int .i64 (Int.ofNat 0)) h) (c (.int .i64 (Int.ofNat 0)) h)) (fun n => c (.int .i64 (Int.ofNat n)) h) (lnK t)) ts
noncomputable def u_max (xs : List AV) (h : H) (c : K2) : Bool := List.rec false (fun x m _ => List.rec false (fun y r _ => List.rec (AV.onInt x fun k a => AV.onInt y fun _ b => Bool.rec (c (.int k a) h) (c (.int k b) h) (leI a b)) (fun _ _ _ => false) r) m) xs
noncomputable def u_min (xs : List AV) (h : H) (c : K2) : Bool := List.rec false (fun x m _ => List.rec false (fun y r _ => List.rec (AV.onInt x fun k a => AV.onInt y fun _ b => Bool.rec (c (.int k b) h) (c (.int k a) h) (leI a b)) (fun _ _ _ => false) r) m) xs
noncomputable def builtinA (b : Builtin) (ts : List Nat) (l : List AV) (h : H) (c : K2) : Bool := match b with
  | .append => u_append ts l h c
  | .copy => u_copy ts l h c
  | .clear => u_clear ts l h c
  | .len => u_len ts l h c
  | .max => u_max l h c
  | .min => u_min l h c
  | _ => false
/-- a call of a function value -/
noncomputable def callV (f : AV) (l : List AV) (cl : Cl) (h : H) (c : K2) : Bool := AV.onFn f fun f nf fl => Nat.rec (lappK l fl fun l => tick cl f l h c) (fun _ _ => ltakeK fl nf fun a => ldropK fl nf fun b => lappK l b fun l => lappK a l fun l => tick cl f l h c) nf
noncomputable def b_call (x : Call) (cl : Cl) (E : List AV) (F : Fr) (h : H) (c : K2) : Bool := Callee.rec (fun f => rd E F f fun f => rdL E F x.args.toList fun l => callV f l cl h c) (fun _ _ => false) (fun b => rdL E F x.args.toList fun l => builtinA b x.argTypes.toList l h c) x.callee
/-- deferred calls that do nothing where nothing goes wrong -/
noncomputable def b_defer (x : Call) (_ : Cl) (E : List AV) (F : Fr) (h : H) (c : K2) : Bool := Callee.rec (fun f => rd E F f fun f => AV.onFn f fun f _ _ => Bool.rec false (c .any h) (idleF f)) (fun _ _ => false) (fun _ => false) x.callee
noncomputable def no0 (_ : Cl) (_ : List AV) (_ : Fr) (_ : H) (_ : K2) : Bool := false
noncomputable def evOp (o : Op) : Cl → List AV → Fr → H → K2 → Bool := Op.rec (motive := fun _ => Cl → List AV → Fr → H → K2 → Bool) b_move b_move b_pick b_alloc b_box b_build b_buildSlice (fun _ _ _ _ => no0) b_load b_store (fun _ => no0) (fun _ => no0) b_nilCheck b_binOp b_unOp b_convert (fun _ _ => no0)
  b_makeInterface b_makeFunc (fun _ _ => no0) (fun _ _ => no0) b_makeSlice b_slice b_fieldAddr b_field b_indexAddr b_index (fun _ _ _ _ => no0) (fun _ _ _ _ => no0) (fun _ _ _ => no0) (fun _ _ _ _ => no0) b_range b_next (fun _ => no0) b_typeAssert b_extract b_call (fun _ => no0) b_defer (fun _ => no0) (fun _ _ => no0) (fun _ _ _ => no0) (fun _ _ => no0) o
end Go.Proofs.YtkdjhegkcfmkoaaGreat.AM
namespace Go.Proofs.YtkdjhegkcfmkoaaGreat.AM
open Go.AM
noncomputable def numD (d : D8) : Nat := D8.rec 0 1 2 3 4 5 6 7 d
noncomputable def andB (a b : Bool) : Bool := Bool.rec false b a
noncomputable def eqNm (x y : Nm) : Bool := Nm.rec (fun a b c d e => Nm.rec (fun a' b' c' d' e' => andB ((numD e).beq (numD e')) (andB ((numD d).beq (numD d')) (andB ((numD c).beq (numD c')) (andB ((numD b).beq (numD b')) ((numD a).beq (numD a')))))) y) x
noncomputable def eqOpt (a b : Option Nat) : Bool := Option.rec (Option.rec true (fun _ => false) b) (fun x => Option.rec false (fun y => x.beq y) b) a
noncomputable def eqAt (a b : At) : Bool := At.rec (At.rec true false false false false false (fun _ => false) (fun _ _ => false) (fun _ _ _ _ _ => false) b) (At.rec false true false false false false (fun _ => false) (fun _ _ => false) (fun _ _ _ _ _ => false) b) (At.rec false false true false false false (fun _ => false) (fun _ _ => false) (fun _ _ _ _ _ => false) b) (At.rec false false false true false false (fun _ => false) (fun _ _ => false) (fun _ _ _ _ _ => false) b) (At.rec false false false false true false (fun _ => false) (fun _ _ => false) (fun _ _ _ _ _ => false) b) (At.rec false false false false false true (fun _ => false) (fun _ _ => false) (fun _ _ _ _ _ => false) b) (fun n => At.rec false false false false false false (fun m => n.beq m) (fun _ _ => false) (fun _ _ _ _ _ => false) b) (fun n l => At.rec false false false false false false (fun _ => false) (fun m k => andB (n.beq m) (leqL l k)) (fun _ _ _ _ _ => false) b) (fun x o n c e => At.rec false false false false false false (fun _ => false) (fun _ _ => false) (fun x' o' n' c' e' => andB (eqNm x x') (andB (o.beq o') (andB (n.beq n') (andB (eqOpt c c') (e.beq e'))))) b) a
noncomputable def eqTg (a b : Tg) : Bool := Tg.rec (Tg.rec true false (fun _ => false) (fun _ _ => false) b) (Tg.rec false true (fun _ => false) (fun _ _ => false) b) (fun t => Tg.rec false false (fun u => t.beq u) (fun _ _ => false) b) (fun f n => Tg.rec false false (fun _ => false) (fun g m => andB (f.beq g) (n.beq m)) b) a
noncomputable def onRow (x : AV) (k : Tg → List AV → Bool) : Bool := AV.rec (motive_1 := fun _ => Bool) (motive_2 := fun _ => Bool) (fun _ => false) (fun g l _ => k g l) (fun _ => false) (fun _ _ => false) (fun _ _ => false) false (fun _ _ _ _ => false) x
noncomputable def eqAV (x : AV) : AV → Bool := AV.rec (motive_1 := fun _ => AV → Bool) (motive_2 := fun _ => List AV → Bool) (fun a y => AV.onAt y fun b => eqAt a b) (fun g _ ih y => onRow y fun g' l' => andB (eqTg g g') (ih l'))
  (fun a y => AV.onBool y fun b => beqB a b) (fun b o y => AV.onPtr y fun b' o' => andB (eqNm b b') (o.beq o')) (fun k n y => AV.onInt y fun k' n' => andB (beqK k k') (eqI n n'))
  (fun m => List.rec true (fun _ _ _ => false) m) (fun _ _ ia il m => List.rec false (fun b t _ => andB (ia b) (il t)) m) x
noncomputable def eqLV (l : List AV) : List AV → Bool := List.rec (motive := fun _ => List AV → Bool) (fun m => List.rec true (fun _ _ _ => false) m) (fun a _ ih m => List.rec false (fun b t _ => andB (eqAV a b) (ih t)) m) l
noncomputable def eqOct (t u : Oct (List AV)) : Bool := Oct.rec (fun c0 c1 c2 c3 c4 c5 c6 c7 => Oct.rec (fun d0 d1 d2 d3 d4 d5 d6 d7 => andB (eqLV c0 d0) (andB (eqLV c1 d1) (andB (eqLV c2 d2) (andB (eqLV c3 d3) (andB (eqLV c4 d4) (andB (eqLV c5 d5) (andB (eqLV c6 d6) (eqLV c7 d7)))))))) u) t
noncomputable def eqRws (t u : Rws) : Bool := Rws.rec (fun a => Rws.rec (fun b => eqLV a b) (fun _ => false) (fun _ => false) (fun _ => false) (fun _ => false) u) (fun a => Rws.rec (fun _ => false) (fun b => eqOct a b) (fun _ => false) (fun _ => false) (fun _ => false) u) (fun _ => false) (fun _ => false) (fun _ => false) t
/-- are two blocks of rows alike (small ones only) -/
noncomputable def eqBl (a b : Blk) : Bool := onMk a fun n r t => onMk b fun n' r' t' => andB (n.beq n') (andB (r.beq r') (eqRws t t'))
end Go.Proofs.YtkdjhegkcfmkoaaGreat.AM
namespace Go.Proofs.YtkdjhegkcfmkoaaGreat.AM
open Go.AM
/-! ### functions whose answers are known -/
abbrev Prim := List AV → H → K2 → Bool
noncomputable def p_bits : Prim := fun l h c => arg1 l fun x => AV.onFlt x fun n => c (.int .u64 (Int.ofNat n)) h
noncomputable def p_ofBits : Prim := fun l h c => arg1 l fun x => AV.onInt x fun kd n => Bool.rec false (Int.rec (fun n => c (.at (.flt n)) h) (fun _ => false) n) (beqK kd .u64)
noncomputable def p_cmp : Prim := fun l h c => arg2 l fun x y => AV.onStr x fun _ a => AV.onStr y fun _ b => Bool.rec (Bool.rec (c (.int .i64 (Int.ofNat 1)) h) (c (.int .i64 (Int.negSucc 0)) h) (lltL a b)) (c (.int .i64 (Int.ofNat 0)) h) (leqL a b)
noncomputable def arg3 (l : List AV) (k : AV → AV → AV → Bool) : Bool := List.rec false (fun a m _ => arg2 m (k a)) l
/-- a block whose rows are of more than one cell -/
noncomputable def wide (h : H) (b : Nm) (k : Bool) : Bool := getB h b fun B => onMk B fun _ r _ => Bool.rec k false (r.beq 1)
noncomputable def onI64 (v : AV) (k : Nat → Bool) : Bool := AV.onInt v fun kd n => Bool.rec false (Int.rec k (fun _ => false) n) (beqK kd .i64)
/-- slices.Insert of elements of so many cells, more than one, from a block of their own -/
noncomputable def p_insert (e : Nat) : Prim := fun l h c => arg3 l fun s i v => onI64 i fun i => AV.onSl v
  (fun vb vo m _ ve => Bool.rec false (Bool.rec (wide h vb (loadA h vb vo (m.mul e) fun vs => AV.onSl s
    (fun b o n k es => Bool.rec false (Option.rec (forceN (n.add m) fun nm => Bool.rec false (Bool.rec false (Bool.rec (wide h b (loadA h b o (n.mul e) fun l0 =>
      ltakeK l0 (i.mul e) fun a => ldropK l0 (i.mul e) fun z => lappK vs z fun l => lappK a l fun l => putB h b .no fun h => rowsB nm e [] l h fun i h => c (.at (.sl i 0 nm none e)) h)) false (eqNm b vb)) (nm.ble 100000)) (i.ble n)) (fun _ => false) k) (e.beq es))
    (Bool.rec false (Bool.rec false (rowsB m e [] vs h fun i h => c (.at (.sl i 0 m none e)) h) (m.ble 100000)) (i.beq 0)) false)) false (m.beq 0)) (e.beq ve)) false false
/-- the table of crc.take, sixteen numbers of 32 bits in one -/
noncomputable def crcTab : Nat := 0xf36e6f75e330a81ad3d3e1abc38d26c4b21572c9a24bb5a692a8fc1782f63b787198540d61c693625125dad3417b1dbc30e349b120bd8ede105ec76f00000000
noncomputable def crcNib (r : Nat) (k : Nat → Bool) : Bool := forceN (Nat.xor (r.div 16) ((Nat.shiftRight crcTab (Nat.mul 32 (r.mod 16))).mod 4294967296)) k
noncomputable def crcK (l : List Nat) : Nat → (Nat → Bool) → Bool := List.rec (motive := fun _ => Nat → (Nat → Bool) → Bool) (fun r k => k r) (fun a _ ih r k => forceN (Nat.xor r a) fun r => crcNib r fun r => crcNib r fun r => tick ih r k) l
/-- crc.More -/
noncomputable def p_more : Prim := fun l h c => arg2 l fun x y => AV.onInt x fun kd r => Bool.rec false (Int.rec (fun r => AV.onStr y fun n s => Bool.rec false (Bool.rec false (forceN (Nat.xor 4294967295 r) fun r => crcK s r fun r => forceN (Nat.xor 4294967295 r) fun r => c (.int .u32 (Int.ofNat r)) h) (n.ble 1000000)) (r.ble 4294967295)) (fun _ => false) r) (beqK kd .u32)
noncomputable def byteK (l : List Nat) (k : Nat → List Nat → Bool) : Bool := List.rec false (fun a r _ => k a r) l
noncomputable def twoK (l : List Nat) (k : Nat → List Nat → Bool) : Bool := byteK l fun a l => byteK l fun b l => forceN ((a.mul 256).add b) fun n => k n l
noncomputable def slotsK (n : Nat) : List Nat → (List (Nat × Nat) → Bool) → Bool := Nat.rec (motive := fun _ => List Nat → (List (Nat × Nat) → Bool) → Bool) (fun _ k => k []) (fun _ ih l k => twoK l fun a l => twoK l fun b l => ih l fun t => k ((a, b) :: t)) n
noncomputable def orB (x y : Bool) : Bool := Bool.rec y true x
noncomputable def apartK (a b c d : Nat) : Bool := orB (b.beq 0) (orB (d.beq 0) (orB ((a.add b).ble c) ((c.add d).ble a)))
noncomputable def apAllK (a b : Nat) (l : List (Nat × Nat)) : Bool := List.rec true (fun p _ ih => Prod.rec (fun c d => Bool.rec false ih (apartK a b c d)) p) l
noncomputable def soundK (heap : Nat) (l : List (Nat × Nat)) : List (Nat × Nat) → Bool := List.rec (motive := fun _ => List (Nat × Nat) → Bool) (fun _ => true) (fun p _ ih seen => Prod.rec (fun a b => Bool.rec false (Bool.rec false (Bool.rec false (ih (p :: seen)) (apAllK a b seen)) ((a.add b).ble 232)) (heap.ble a)) p) l
noncomputable def checkK (n : Nat) (l : List Nat) (k : Nat → Bool) : Bool := Bool.rec (k 6) (twoK l fun num l => twoK l fun heap l => Bool.rec (k 14) (Bool.rec (k 14) (slotsK num l fun t => Bool.rec (k 14) (k 0) (soundK heap t [])) (((num.mul 4).add 4).ble heap)) (heap.ble 232)) (n.beq 232)
/-- slots.Check -/
noncomputable def p_check : Prim := fun l h c => arg1 l fun x => AV.onStr x fun n s => Bool.rec false (checkK n s fun r => forceN r fun r => c (.int .i64 (Int.ofNat r)) h) (n.ble 100000)
noncomputable def primAt (f g : Nat) (p : Prim) (x : Option Prim) : Option Prim := Bool.rec x (some p) (f.beq g)
noncomputable def primF (f : Nat) : Option Prim := primAt f 316 p_more (primAt f 394 p_check (primAt f 115 p_bits (primAt f 270 p_ofBits (primAt f 403 p_cmp (primAt f 257 (p_insert 3) none)))))
/-! ### quick looks at an operation -/
noncomputable def psK (l : List (Nat × Operand)) : List Operand := List.rec [] (fun p _ ih => Prod.rec (fun _ x => x :: ih) p) l
noncomputable def optK (x : Option Operand) (r : List Operand) : List Operand := Option.rec r (fun a => a :: r) x
noncomputable def appK (l m : List Operand) : List Operand := List.rec m (fun a _ ih => a :: ih) l
noncomputable def callK (c : Call) : List Operand := Callee.rec (fun f => f :: c.args.toList) (fun r _ => r :: c.args.toList) (fun _ => c.args.toList) c.callee
/-- an operation's operands -/
noncomputable def opdsK (o : Op) : List Operand := Op.rec (motive := fun _ => List Operand) (fun x => [x]) (fun x => [x]) (fun x a b => [x, a, b]) (fun _ => []) (fun _ x => [x]) (fun _ ps => psK ps.toList) (fun _ _ ps => psK ps.toList) (fun _ m k v => [m, k, v])
  (fun _ x => [x]) (fun _ a x => [a, x]) (fun _ => []) (fun _ => []) (fun x => [x]) (fun _ _ x y _ => [x, y]) (fun _ _ x => [x]) (fun _ _ x => [x]) (fun _ x => [x])
  (fun _ x => [x]) (fun _ a b => appK a.toList b.toList) (fun _ r => optK r []) (fun _ x => [x]) (fun _ a b => [a, b]) (fun _ x l h m => x :: optK l (optK h (optK m []))) (fun _ x _ => [x]) (fun _ x _ => [x]) (fun _ x i => [x, i]) (fun _ x i => [x, i])
  (fun _ x i _ => [x, i]) (fun _ m k v => [m, k, v]) (fun _ m k => [m, k]) (fun _ m k v => [m, k, v]) (fun _ x => [x]) (fun x _ => [x]) (fun x => [x]) (fun x _ _ _ => [x]) (fun x _ => [x]) callK callK callK (fun x => [x]) (fun c x => [c, x]) (fun _ c _ => [c]) (fun cs b => (Op.select cs b).operands.toList) o
/-- the temporaries among operands, as bits -/
noncomputable def maskL (l : List Operand) : Nat := List.rec 0 (fun x _ ih => Operand.rec (fun t => Nat.lor ih (Nat.pow 2 t)) (fun _ => ih) (fun _ => ih) (fun _ => ih) x) l
noncomputable def bitAt (n t : Nat) : Bool := Nat.beq (Nat.land (Nat.shiftRight n t) 1) 1
noncomputable def forceW (n : Nat) (k : Nat → Nat) : Nat := Nat.rec (k 0) (fun m _ => k m.succ) n
/-- does a row of operations that run one behind the other pass? so many stand ahead, which write those temporaries -/
noncomputable def seqK (l : List Oper) : Nat → Nat → Bool := List.rec (motive := fun _ => Nat → Nat → Bool) (fun _ _ => true)
  (fun o _ ih i w => Bool.rec false (Option.rec (ih i.succ w) (fun t => Bool.rec (forceN (Nat.lor w (Nat.pow 2 t)) fun w => ih i.succ w) false (bitAt (Nat.lor (maskL (opdsK o.op)) w) t)) o.dst) (Option.rec true (fun g => Prod.rec (fun j _ => Nat.ble j.succ i) g) o.guard)) l
/-! ### what a region is, as far as its text tells -/
noncomputable def mapCall (f : Operand → Operand) (c : Call) : Call := { c with callee := (match c.callee with | .value x => .value (f x) | .invoke x m => .invoke (f x) m | .builtin b => .builtin b), args := c.args.map f }
/-- an operation on other operands -/
noncomputable def mapO (f : Operand → Operand) (o : Op) : Op := match o with
  | .move x => .move (f x) | .assign x => .assign (f x) | .pick x a b => .pick (f x) (f a) (f b) | .alloc t => .alloc t | .box t x => .box t (f x)
  | .build t ps => .build t (ps.map fun p => (p.1, f p.2)) | .buildSlice t n ps => .buildSlice t n (ps.map fun p => (p.1, f p.2))
  | .load t x => .load t (f x) | .store t a x => .store t (f a) (f x) | .nilCheck x => .nilCheck (f x) | .binOp op t x y u => .binOp op t (f x) (f y) u
  | .unOp op t x => .unOp op t (f x) | .convert s d x => .convert s d (f x) | .makeInterface t x => .makeInterface t (f x) | .makeFunc g a b => .makeFunc g (a.map f) (b.map f)
  | .makeSlice t a b => .makeSlice t (f a) (f b) | .slice t x a b c => .slice t (f x) (a.map f) (b.map f) (c.map f) | .fieldAddr t x i => .fieldAddr t (f x) i | .field t x i => .field t (f x) i
  | .indexAddr t x i => .indexAddr t (f x) (f i) | .index t x i => .index t (f x) (f i) | .range t x => .range t (f x) | .next x s => .next (f x) s
  | .typeAssert x t u k => .typeAssert (f x) t u k | .extract x i => .extract (f x) i | .call c => .call (mapCall f c) | .defer c => .defer (mapCall f c)
  | _ => .ready 0
/-- which operands an operation names, besides: none that is not mapped -/
noncomputable def isBirth (o : Op) : Bool := match o with | .alloc _ | .box .. | .buildSlice .. | .makeSlice .. => true | _ => false
/-- does it change memory, or run code? -/
noncomputable def isLoud (o : Op) : Bool := match o with
  | .call { callee := .builtin b, .. } => (match b with | .len | .max | .min => false | _ => true)
  | .call _ | .store .. | .defer _ | .range .. | .next .. => true
  | .convert _ d _ => (match tDesc d with | .slice _ => true | _ => false)
  | _ => false
noncomputable def isRead (o : Op) : Bool := match o with
  | .load .. | .slice .. => true
  | .convert s _ _ => (match tDesc s with | .slice _ => true | _ => false)
  | _ => false
/-- which operations stand ahead of each, as bits -/
noncomputable def bitsOf (acc : List Nat) (o : Oper) : Nat := o.after.toList.foldl (fun s e => if Region.binds .any e then s ||| (2 ^ e.on) ||| acc.getD e.on 0 else s) 0
noncomputable def beforeL (ops : List Oper) : List Nat := ops.foldl (fun acc o => acc ++ [bitsOf acc o]) []
/-- the bits again, quickly -/
noncomputable def bindK (g : Ground) : Bool := Ground.rec true true true true (fun _ => false) (fun _ => false) g
noncomputable def nthN (l : List Nat) : Nat → Nat := List.rec (motive := fun _ => Nat → Nat) (fun _ => 0) (fun a _ ih i => Nat.rec a (fun j _ => ih j) i) l
noncomputable def bitsK (acc : List Nat) (l : List Edge) : Nat := List.rec 0 (fun e _ ih => Edge.rec (fun n g => Bool.rec ih (Nat.lor (Nat.lor (Nat.pow 2 n) (nthN acc n)) ih) (bindK g)) e) l
noncomputable def snocN (l : List Nat) (x : Nat) : List Nat := List.rec [x] (fun a _ ih => a :: ih) l
noncomputable def forceM (n : Nat) (k : Nat → List Nat) : List Nat := Nat.rec (k 0) (fun m _ => k m.succ) n
noncomputable def bfK (ops : List Oper) : List Nat → List Nat := List.rec (motive := fun _ => List Nat → List Nat) (fun acc => acc) (fun o _ ih acc => forceM (bitsK acc o.after.toList) fun b => ih (snocN acc b)) ops
/-- whether it is there already; whether it may come -/
noncomputable def mayK (done i b : Nat) : Bool := Bool.rec (Nat.beq (Nat.lor b done) done) false (Nat.beq (Nat.land (Nat.shiftRight done i) 1) 1)
/-- the first that may come: of the quiet ones, or of all -/
noncomputable def scanK (q : Bool) (done : Nat) (ops : List Oper) : List Nat → Nat → Option Nat := List.rec (motive := fun _ => List Nat → Nat → Option Nat) (fun _ _ => none)
  (fun o _ ih bf i => List.rec none (fun b bf _ => Bool.rec (ih bf i.succ) (Bool.rec (some i) (Bool.rec (some i) (ih bf i.succ) (isLoud o.op)) q) (mayK done i b)) bf) ops
/-- an order that takes what is quiet first -/
noncomputable def orderOf (ops : List Oper) (bf : List Nat) (n : Nat) : Nat → List Nat := Nat.rec (motive := fun _ => Nat → List Nat) (fun _ => [])
  (fun _ ih done => Option.rec (Option.rec [] (fun i => i :: ih (Nat.lor done (Nat.pow 2 i))) (scanK false done ops bf 0)) (fun i => i :: ih (Nat.lor done (Nat.pow 2 i))) (scanK true done ops bf 0)) n
/-- the place of a temporary among what was done: how many behind the first -/
noncomputable def seenAt (ops : List Oper) (t : Nat) : List Nat → Option Nat
  | [] => none
  | i :: r => if (match ops[i]? with | some o => o.dst == some t | none => false) then some 0 else (seenAt ops t r).map (· + 1)
/-- an operand, by its place: 'past' are the operations done, the last one first; 'sh' are so many that were done since -/
noncomputable def enc (M : Nat) (ops : List Oper) (past : List Nat) (sh : Nat) (x : Operand) : Operand := match x with
  | .tmp t => (match seenAt ops t past with | some q => .tmp (2 * (q + sh) + 1) | none => if M.testBit t then .tmp (2 * t) else .global 0)
  | x => x
/-- an operation (with its guard: an operand, and what it must hold); what must still be so: what an operation yields that reads; a block that was made -/
inductive It where
  | op (o : Op) (g : Option (Operand × Bool))
  | rd (o : Op) (g : Option (Operand × Bool)) (d : Nat)
  | ba (t d : Nat)
  | bs (t n : Nat) (ps : Array (Nat × Operand)) (d : Nat)
  | no
noncomputable def guardOf (M : Nat) (ops : List Oper) (past : List Nat) (sh : Nat) (o : Oper) : Option (Operand × Bool) := match o.guard with
  | none => none
  | some (j, b) => match ops[j]? with | some p => (match p.dst with | some t => some (enc M ops past sh (.tmp t), b) | none => some (.global 0, b)) | none => some (.global 0, b)
/-- what is to be looked at again, of an operation that stands in no order to the loud one j -/
noncomputable def ckI (M : Nat) (ops : List Oper) (r : List Nat) (n : Nat) (o : Oper) : List It :=
  if isRead o.op then [.rd (mapO (enc M ops r (n + 1)) o.op) (guardOf M ops r (n + 1) o) n] else if isBirth o.op then (match o.op with
    | .alloc t => if o.guard.isSome then [.no] else [.ba t n]
    | .buildSlice t k ps => if o.guard.isSome then [.no] else [.bs t k (ps.map fun p => (p.1, enc M ops r (n + 1) p.2)) n]
    | _ => [.no]) else []
noncomputable def ckOf (M : Nat) (ops : List Oper) (bf : List Nat) (j : Nat) : List Nat → Nat → List It
  | [], _ => []
  | i :: r, n => match ops[i]? with
    | some o => if i == j || (bf.getD j 0).testBit i || (bf.getD i 0).testBit j then ckOf M ops bf j r (n + 1) else ckI M ops r n o ++ ckOf M ops bf j r (n + 1)
    | none => [.no]
noncomputable def ckPrev (M : Nat) (ops : List Oper) (bf : List Nat) (prev : Option Nat) (past : List Nat) : List It := match prev with | some j => ckOf M ops bf j past 0 | none => []
noncomputable def itemsOf (M : Nat) (ops : List Oper) (bf : List Nat) : List Nat → List Nat → Option Nat → List It
  | [], past, prev => ckPrev M ops bf prev past
  | i :: r, past, prev => match ops[i]? with
    | some o => if isLoud o.op then ckPrev M ops bf prev past ++ .op (mapO (enc M ops past 0) o.op) (guardOf M ops past 0 o) :: itemsOf M ops bf r (i :: past) (some i)
      else .op (mapO (enc M ops past 0) o.op) (guardOf M ops past 0 o) :: itemsOf M ops bf r (i :: past) prev
    | none => [.no]
/-- what goes into the frame at a region's end -/
noncomputable def outsOf (M : Nat) (ops : List Oper) : List Nat → Nat → List (Pt × Nat)
  | [], _ => []
  | i :: r, n => match ops[i]? with
    | some o => (match o.dst with | some t => if M.testBit t then (pathOf t, n) :: outsOf M ops r (n + 1) else outsOf M ops r (n + 1) | none => outsOf M ops r (n + 1))
    | none => []
/-- the temporaries that an operation looks at -/
noncomputable def looksL (ops : List Oper) (o : Oper) : List Nat := (o.op.operands.toList.filterMap fun | .tmp t => some t | _ => none) ++ (match o.guard with
  | some (g, _) => (match ops[g]? with | some p => p.dst.toList | none => [])
  | none => [])
/-- an operation may come next: what it looks at stands surely ahead of it; who looked at what it writes, too; and so does every loud one -/
noncomputable def okOp (ops : List Oper) (bf : List Nat) (past : List Nat) (done ld i : Nat) (o : Oper) : Bool :=
  !done.testBit i && (bf.getD i 0 ||| done) == done && (ld ||| bf.getD i 0) == bf.getD i 0 &&
  (looksL ops o).all (fun t => match seenAt ops t past with | some q => (match past[q]? with | some j => (bf.getD i 0).testBit j | none => false) | none => true) &&
  (match o.dst with
    | some t => !(looksL ops o).contains t && past.all (fun j => match ops[j]? with | some p => p.dst != some t && (!(looksL ops p).contains t || (bf.getD i 0).testBit j) | none => false)
    | none => true) &&
  (match o.guard with | some (j, _) => (bf.getD i 0).testBit j | none => true)
noncomputable def valid (ops : List Oper) (bf : List Nat) : List Nat → List Nat → Nat → Nat → Bool
  | [], _, done, _ => done == 2 ^ ops.length - 1
  | i :: r, past, done, ld => match ops[i]? with
    | some o => okOp ops bf past done ld i o && valid ops bf r (i :: past) (done ||| 2 ^ i) (if isLoud o.op then ld ||| 2 ^ i else ld)
    | none => false
inductive Plan where
  | no
  | mk (l : List It) (w : List (Pt × Nat))
noncomputable def bfOf (l : List Oper) (draw : Bool) : List Nat := if draw then bfK l [] else (List.range l.length).map fun i => 2 ^ i - 1
noncomputable def odOf (l : List Oper) (draw : Bool) : List Nat := if draw then orderOf l (bfK l []) l.length 0 else List.range l.length
noncomputable def validK (l : List Oper) (d : Bool) : Bool := Bool.rec (seqK l 0 0) (valid l (bfOf l true) (odOf l true) [] 0 0) d
/-! ### the plan of operations that run one behind the other -/
noncomputable def lmapO (f : Operand → Operand) (l : List Operand) : List Operand := List.rec [] (fun a _ ih => f a :: ih) l
noncomputable def psMapK (f : Operand → Operand) (l : List (Nat × Operand)) : List (Nat × Operand) := List.rec [] (fun p _ ih => Prod.rec (fun i x => (i, f x) :: ih) p) l
noncomputable def omapK (f : Operand → Operand) (x : Option Operand) : Option Operand := Option.rec none (fun x => some (f x)) x
noncomputable def mapCallK (f : Operand → Operand) (c : Call) : Call := Call.mk (Callee.rec (fun x => .value (f x)) (fun x m => .invoke (f x) m) (fun b => .builtin b) c.callee) ⟨lmapO f c.args.toList⟩ c.argTypes
noncomputable def mapOK (f : Operand → Operand) (o : Op) : Op := Op.rec (motive := fun _ => Op) (fun x => .move (f x)) (fun x => .assign (f x)) (fun x a b => .pick (f x) (f a) (f b)) (fun t => .alloc t) (fun t x => .box t (f x)) (fun t ps => .build t ⟨psMapK f ps.toList⟩) (fun t n ps => .buildSlice t n ⟨psMapK f ps.toList⟩) (fun _ _ _ _ => .ready 0)
  (fun t x => .load t (f x)) (fun t a x => .store t (f a) (f x)) (fun _ => .ready 0) (fun _ => .ready 0) (fun x => .nilCheck (f x)) (fun op t x y u => .binOp op t (f x) (f y) u) (fun op t x => .unOp op t (f x)) (fun s d x => .convert s d (f x)) (fun _ _ => .ready 0)
  (fun t x => .makeInterface t (f x)) (fun g a b => .makeFunc g ⟨lmapO f a.toList⟩ ⟨lmapO f b.toList⟩) (fun _ _ => .ready 0) (fun _ _ => .ready 0) (fun t a b => .makeSlice t (f a) (f b)) (fun t x a b c => .slice t (f x) (omapK f a) (omapK f b) (omapK f c)) (fun t x i => .fieldAddr t (f x) i) (fun t x i => .field t (f x) i) (fun t x i => .indexAddr t (f x) (f i)) (fun t x i => .index t (f x) (f i))
  (fun _ _ _ _ => .ready 0) (fun _ _ _ _ => .ready 0) (fun _ _ _ => .ready 0) (fun _ _ _ _ => .ready 0) (fun t x => .range t (f x)) (fun x s => .next (f x) s) (fun _ => .ready 0) (fun x t u k => .typeAssert (f x) t u k) (fun x i => .extract (f x) i) (fun c => .call (mapCallK f c)) (fun _ => .ready 0) (fun c => .defer (mapCallK f c)) (fun _ => .ready 0) (fun _ _ => .ready 0) (fun _ _ _ => .ready 0) (fun _ _ => .ready 0) o
/-- the place of a temporary among those that were written, the last one first -/
noncomputable def seenK (l : List (Option Nat)) (t : Nat) : Nat → Option Nat := List.rec (motive := fun _ => Nat → Option Nat) (fun _ => none) (fun d _ ih n => Option.rec (ih n.succ) (fun u => Bool.rec (ih n.succ) (some n) (u.beq t)) d) l
noncomputable def encK (M : Nat) (pd : List (Option Nat)) (x : Operand) : Operand := Operand.rec (fun t => Option.rec (Bool.rec (.global 0) (.tmp (Nat.mul 2 t)) (bitAt M t)) (fun q => .tmp (Nat.succ (Nat.mul 2 q))) (seenK pd t 0)) (fun v => .const v) (fun g => .global g) (fun f => .func f) x
noncomputable def dstOf (o : Oper) : Option Nat := o.dst
noncomputable def nthO (l : List Oper) : Nat → Option Oper := List.rec (motive := fun _ => Nat → Option Oper) (fun _ => none) (fun a _ ih i => Nat.rec (some a) (fun j _ => ih j) i) l
noncomputable def guardK (M : Nat) (ops : List Oper) (pd : List (Option Nat)) (o : Oper) : Option (Operand × Bool) := Option.rec none (fun g => Prod.rec (fun j b => Option.rec (some (.global 0, b)) (fun p => Option.rec (some (.global 0, b)) (fun t => some (encK M pd (.tmp t), b)) (dstOf p)) (nthO ops j)) g) o.guard
noncomputable def itemsS (M : Nat) (ops : List Oper) (r : List Oper) : List (Option Nat) → List It := List.rec (motive := fun _ => List (Option Nat) → List It) (fun _ => []) (fun o _ ih pd => .op (mapOK (encK M pd) o.op) (guardK M ops pd o) :: ih (dstOf o :: pd)) r
noncomputable def dstsR (l : List Oper) : List (Option Nat) → List (Option Nat) := List.rec (motive := fun _ => List (Option Nat) → List (Option Nat)) (fun acc => acc) (fun o _ ih acc => ih (dstOf o :: acc)) l
noncomputable def outsS (M : Nat) (pd : List (Option Nat)) : Nat → List (Pt × Nat) := List.rec (motive := fun _ => Nat → List (Pt × Nat)) (fun _ => []) (fun d _ ih n => Option.rec (ih n.succ) (fun t => Bool.rec (ih n.succ) ((pathOf t, n) :: ih n.succ) (bitAt M t)) d) pd
noncomputable def planB (M : Nat) (l : List Oper) (draw : Bool) : Plan := Bool.rec (.mk (itemsS M l l []) (outsS M (dstsR l []) 0)) (.mk (itemsOf M l (bfOf l true) (odOf l true) [] none) (outsOf M l (odOf l true).reverse 0)) draw
noncomputable def planA (M : Nat) (ops : Array Oper) (draw : Bool) : Plan := Bool.rec .no (planB M ops.toList draw) (validK ops.toList draw)
/-! ### which temporaries a function's frame must keep -/
noncomputable def needOps (l : List Oper) : Nat → Nat := List.rec (motive := fun _ => Nat → Nat) (fun _ => 0)
  (fun o _ ih w => Nat.lor (forceW (maskL (opdsK o.op)) fun x => Nat.xor x (Nat.land x w)) (Option.rec (ih w) (fun t => forceW (Nat.lor w (Nat.pow 2 t)) fun w => ih w) o.dst)) l
noncomputable def needC (c : Code) : Nat := Code.rec (motive := fun _ => Nat) 0 (fun _ ops _ => needOps ops.toList 0) (fun _ _ a b => Nat.lor a b) (fun x _ _ a b => Nat.lor (maskL [x]) (Nat.lor a b)) (fun _ _ a => a) (fun _ a => a) (fun _ _ _ _ _ _ => 0) (fun _ => 0) (fun _ a => a) (fun _ => 0) (fun _ => 0) 0 (fun _ => 0) c
noncomputable def needR (r : ResultVar) : Nat := match r with | .tmp t => 2 ^ t | .cell t _ => 2 ^ t
/-! ### running -/
inductive X where
  | normal | ret
  | exit (id : Nat)
abbrev K3 := X → Fr → H → Bool
abbrev KE := List AV → H → Bool
noncomputable def onGd (v : AV) (k : Bool → Bool) (u : Bool) : Bool := AV.rec (motive_1 := fun _ => Bool) (motive_2 := fun _ => Bool) (fun _ => false) (fun g _ _ => Tg.rec false u (fun _ => false) (fun _ _ => false) g) k (fun _ _ => false) (fun _ _ => false) false (fun _ _ _ _ => false) v
noncomputable def gdA (g : Option (Operand × Bool)) (E : List AV) (F : Fr) (y n : Bool) : Bool := Option.rec y (fun q => Prod.rec (fun x want => rd E F x fun v => onGd v (fun b => Bool.rec n y (beqB want b)) n) q) g
noncomputable def runIt (cl : Cl) (it : It) (E : List AV) (F : Fr) (h : H) (k : KE) : Bool := It.rec
  (fun o g => gdA g E F (evOp o cl E F h fun v h => k (v :: E) h) (k (.tup [] :: E) h))
  (fun o g d => lnthK E d fun u => gdA g E F (evOp o cl E F h fun v h => Bool.rec false (k E h) (eqAV v u)) (k E h))
  (fun t d => lnthK E d fun u => AV.onPtr u fun b p => Bool.rec false (getB h b fun B => allocBlk t fun B' => Bool.rec false (k E h) (eqBl B' B)) (p.beq 0))
  (fun t n ps d => lnthK E d fun u => AV.onSl u (fun b _ _ _ _ => getB h b fun B => bsBlk t n ps.toList E F fun e B' => Bool.rec false (Bool.rec false (k E h) (eqBl B' B)) (eqAV u (.at (.sl b 0 n (some n) e)))) false false) false it
noncomputable def runIts (cl : Cl) (F : Fr) (l : List It) : List AV → H → KE → Bool :=
  List.rec (motive := fun _ => List AV → H → KE → Bool) (fun E h k => k E h) (fun it _ ih E h k => runIt cl it E F h fun E h => tick ih E h k) l
noncomputable def outF (E : List AV) (l : List (Pt × Nat)) : Fr → (Fr → Bool) → Bool := List.rec (motive := fun _ => Fr → (Fr → Bool) → Bool) (fun F k => k F) (fun q _ ih F k => Prod.rec (fun p n => lnthK E n fun v => Fr.put F p v fun F => ih F k) q) l
abbrev Ev := Code → Nat → Fr → H → K3 → Bool
noncomputable def ifNormal (x : X) (a b : Bool) : Bool := X.rec a b (fun _ => b) x
/-- all temporaries that code writes are among so many -/
noncomputable def dstsIn (n : Nat) (c : Code) : Bool := match c with
  | .region _ ops _ => ops.toList.all fun o => match o.dst with | some t => Nat.blt t n | none => true
  | .seq a b => dstsIn n a && dstsIn n b
  | .cond _ a b => dstsIn n a && dstsIn n b
  | .block _ a => dstsIn n a
  | .loop a => dstsIn n a
  | .scope a => dstsIn n a
  | _ => true
noncomputable def maskOf (c : Code) (rs : List ResultVar) : Nat := needC c ||| rs.foldl (fun s r => s ||| needR r) 0
noncomputable def bodyOf (f : Nat) : Option (Nat × List ResultVar × Code) := match Tryz.prog.funcs[f]? with
  | some fn => (match fn.body with
    | some c => if dstsIn fn.ntmps c && Nat.beq (Nat.shiftRight (maskOf c fn.results.toList) 512) 0 && !(fn.name == "runtime.NumGoroutine") then some (maskOf c fn.results.toList, fn.results.toList, c) else none
    | none => none)
  | none => none
noncomputable def frameOf (l : List AV) : Fr → Nat → (Fr → Bool) → Bool :=
  List.rec (motive := fun _ => Fr → Nat → (Fr → Bool) → Bool) (fun F _ k => k F) (fun v _ ih F i k => Fr.put F (pathOf i) v fun F => ih F i.succ k) l
noncomputable def rdF (M : Nat) (F : Fr) (x : Operand) (k : K1) : Bool := Operand.rec (fun t => Bool.rec false (Fr.get F (pathOf t) k) (M.testBit t)) (fun v => k (absV v)) (fun _ => false) (fun _ => false) x
noncomputable def resV (M : Nat) (F : Fr) (h : H) (r : ResultVar) (k : K1) : Bool := ResultVar.rec (fun t => Bool.rec false (Fr.get F (pathOf t) k) (M.testBit t))
  (fun a t => Bool.rec false (Fr.get F (pathOf a) fun v => AV.onPtr v fun b o => LK.rec false (load1 h b o k) (fun n => loadA h b o n fun l => k (.agg l)) (ldK t)) (M.testBit a)) r
noncomputable def resL (M : Nat) (F : Fr) (h : H) (rs : List ResultVar) : KL → Bool := List.rec (motive := fun _ => KL → Bool) (fun k => k []) (fun r _ ih k => resV M F h r fun v => ih fun l => k (v :: l)) rs
noncomputable def resK (M : Nat) (rs : List ResultVar) (F : Fr) (h : H) (c : K2) : Bool := resL M F h rs fun l => List.rec (c (.tup []) h) (fun a r _ => List.rec (c a h) (fun _ _ _ => c (.tup l) h) r) l
abbrev Br := Ev → Cl → Nat → Fr → H → K3 → Bool
noncomputable def e_skip (_ : Ev) (_ : Cl) (_ : Nat) (F : Fr) (h : H) (k : K3) : Bool := k .normal F h
noncomputable def runPlan (cl : Cl) (p : Plan) (F : Fr) (h : H) (k : Fr → H → Bool) : Bool := Plan.rec false (fun l w => runIts cl F l [] h fun E h => outF E w F fun F => k F h) p
noncomputable def e_region (_ : Nat) (ops : Array Oper) (d : Bool) (_ : Ev) (cl : Cl) (M : Nat) (F : Fr) (h : H) (k : K3) : Bool := runPlan cl (planA M ops d) F h fun F h => k .normal F h
noncomputable def e_seq (a b : Code) (_ _ : Br) (ih : Ev) (_ : Cl) (M : Nat) (F : Fr) (h : H) (k : K3) : Bool := tick ih a M F h fun x F h => ifNormal x (tick ih b M F h k) (k x F h)
noncomputable def e_cond (c : Operand) (a b : Code) (_ _ : Br) (ih : Ev) (_ : Cl) (M : Nat) (F : Fr) (h : H) (k : K3) : Bool := rdF M F c fun v => AV.onBool v fun t => Bool.rec (tick ih b M F h k) (tick ih a M F h k) t
noncomputable def e_block (id : Nat) (a : Code) (_ : Br) (ih : Ev) (_ : Cl) (M : Nat) (F : Fr) (h : H) (k : K3) : Bool := tick ih a M F h fun x F h => X.rec (k .normal F h) (k .ret F h) (fun j => Bool.rec (k (.exit j) F h) (k .normal F h) (j.beq id)) x
noncomputable def e_loop (a : Code) (_ : Br) (ih : Ev) (_ : Cl) (M : Nat) (F : Fr) (h : H) (k : K3) : Bool := tick ih a M F h fun x F h => ifNormal x (tick ih (.loop a) M F h k) (k x F h)
noncomputable def e_exit (id : Nat) (_ : Ev) (_ : Cl) (_ : Nat) (F : Fr) (h : H) (k : K3) : Bool := k (.exit id) F h
noncomputable def e_scope (a : Code) (_ : Br) (ih : Ev) (_ : Cl) (M : Nat) (F : Fr) (h : H) (k : K3) : Bool := tick ih a M F h k
noncomputable def e_ret (_ : Ev) (_ : Cl) (_ : Nat) (F : Fr) (h : H) (k : K3) : Bool := k .ret F h
noncomputable def e_no (_ : Ev) (_ : Cl) (_ : Nat) (_ : Fr) (_ : H) (_ : K3) : Bool := false
noncomputable def evC (x : Code) : Br := Code.rec (motive := fun _ => Br) e_skip e_region e_seq e_cond e_block e_loop (fun _ _ _ _ _ _ => e_no) e_exit e_scope (fun _ => e_skip) (fun _ => e_no) e_ret (fun _ => e_no) x
noncomputable def retX (M : Nat) (rs : List ResultVar) (c : K2) (x : X) (F : Fr) (h : H) : Bool := X.rec (resK M rs F h c) (resK M rs F h c) (fun _ => false) x
noncomputable def callB (ih : Ev) (f : Nat) (l : List AV) (h : H) (c : K2) : Bool := Option.rec (onOpt (bodyOf f) fun q => Prod.rec (fun M q => Prod.rec (fun rs b => forceN M fun M => Bool.rec false (frameOf l Fr.none 0 fun F => tick ih b M F h fun x F h => retX M rs c x F h) ((llen l).ble 64)) q) q) (fun p => p l h c) (primF f)
/-- by so many steps at most -/
noncomputable def evF (n : Nat) : Ev := Nat.rec (motive := fun _ => Ev) (fun _ _ _ _ _ => false) (fun _ ih x => evC x ih (callB ih)) n
noncomputable def callF (n : Nat) : Cl := callB (evF n)
end Go.Proofs.YtkdjhegkcfmkoaaGreat.AM
