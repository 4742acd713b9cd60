/- The abstract machine: its data, in forms that the kernel reckons with fast. -/
import Derived.Orders
import Derived.Defers
import Derived.Below
import Derived.Deep.Upon
namespace Go.AM
/-- an answer that is passed on by one step that the kernel unfolds -/
def tick {α : Type} (a : α) : α := a
/-- a digit -/
inductive D8 where
  | d0 | d1 | d2 | d3 | d4 | d5 | d6 | d7
  deriving DecidableEq
/-- eight of a kind -/
inductive Oct (β : Type) where
  | nd (c0 c1 c2 c3 c4 c5 c6 c7 : β)
/-- the name of a block: five digits -/
inductive Nm where
  | mk (a b c d e : D8)
  deriving DecidableEq
/-- values without parts; 'any' is not known, 'sz' is some slice of length 0 -/
inductive At where
  | any | nilp | nils | sz | nilf | nili
  | flt (n : Nat)
  | str (n : Nat) (l : List Nat)
  | sl (b : Nm) (o n : Nat) (c : Option Nat) (e : Nat)
/-- what a row of values is -/
inductive Tg where
  | agg | tup
  | ifc (t : Nat)
  | fn (f nf : Nat)
/-- abstract values -/
inductive AV where
  | at (a : At)
  | row (g : Tg) (l : List AV)
  | bool (b : Bool)
  | ptr (b : Nm) (o : Nat)
  | int (k : IntKind) (n : Int)
abbrev AV.any : AV := .at .any
abbrev AV.agg (l : List AV) : AV := .row .agg l
abbrev AV.tup (l : List AV) : AV := .row .tup l
abbrev K1 := AV → Bool
abbrev KL := List AV → Bool
/-! ### digits, eights -/
noncomputable def dig (n : Nat) : D8 := Nat.rec D8.d0 (fun n _ => Nat.rec D8.d1 (fun n _ => Nat.rec D8.d2 (fun n _ => Nat.rec D8.d3 (fun n _ => Nat.rec D8.d4 (fun n _ => Nat.rec D8.d5 (fun n _ => Nat.rec D8.d6 (fun n _ => D8.d7) n) n) n) n) n) n) n
noncomputable def D8.next (d : D8) (k : D8 → Bool) (z : Bool) : Bool := D8.rec (k .d1) (k .d2) (k .d3) (k .d4) (k .d5) (k .d6) (k .d7) z d
noncomputable def Nm.next (x : Nm) (k : Nm → Bool) : Bool := Nm.rec (fun a b c d e => D8.next e (fun e => k (.mk a b c d e)) (D8.next d (fun d => k (.mk a b c d .d0)) (D8.next c (fun c => k (.mk a b c .d0 .d0)) (D8.next b (fun b => k (.mk a b .d0 .d0 .d0)) (D8.next a (fun a => k (.mk a .d0 .d0 .d0 .d0)) false))))) x
noncomputable def Oct.all {β : Type} (x : β) : Oct β := .nd x x x x x x x x
noncomputable def Oct.sel {β : Type} (o : Oct β) (d : D8) : β := Oct.rec (fun c0 c1 c2 c3 c4 c5 c6 c7 => D8.rec c0 c1 c2 c3 c4 c5 c6 c7 d) o
def Oct.s0 {β : Type} (v c0 c1 c2 c3 c4 c5 c6 c7 : β) (k : Oct β → Bool) : Bool := k (.nd v c1 c2 c3 c4 c5 c6 c7)
def Oct.s1 {β : Type} (v c0 c1 c2 c3 c4 c5 c6 c7 : β) (k : Oct β → Bool) : Bool := k (.nd c0 v c2 c3 c4 c5 c6 c7)
def Oct.s2 {β : Type} (v c0 c1 c2 c3 c4 c5 c6 c7 : β) (k : Oct β → Bool) : Bool := k (.nd c0 c1 v c3 c4 c5 c6 c7)
def Oct.s3 {β : Type} (v c0 c1 c2 c3 c4 c5 c6 c7 : β) (k : Oct β → Bool) : Bool := k (.nd c0 c1 c2 v c4 c5 c6 c7)
def Oct.s4 {β : Type} (v c0 c1 c2 c3 c4 c5 c6 c7 : β) (k : Oct β → Bool) : Bool := k (.nd c0 c1 c2 c3 v c5 c6 c7)
def Oct.s5 {β : Type} (v c0 c1 c2 c3 c4 c5 c6 c7 : β) (k : Oct β → Bool) : Bool := k (.nd c0 c1 c2 c3 c4 v c6 c7)
def Oct.s6 {β : Type} (v c0 c1 c2 c3 c4 c5 c6 c7 : β) (k : Oct β → Bool) : Bool := k (.nd c0 c1 c2 c3 c4 c5 v c7)
def Oct.s7 {β : Type} (v c0 c1 c2 c3 c4 c5 c6 c7 : β) (k : Oct β → Bool) : Bool := k (.nd c0 c1 c2 c3 c4 c5 c6 v)
noncomputable def Oct.setter {β : Type} (d : D8) : β → β → β → β → β → β → β → β → β → (Oct β → Bool) → Bool := D8.rec Oct.s0 Oct.s1 Oct.s2 Oct.s3 Oct.s4 Oct.s5 Oct.s6 Oct.s7 d
noncomputable def Oct.put {β : Type} (o : Oct β) (d : D8) (v : β) (k : Oct β → Bool) : Bool := Oct.rec (fun c0 c1 c2 c3 c4 c5 c6 c7 => Oct.setter d v c0 c1 c2 c3 c4 c5 c6 c7 k) o
/-- what stands at a digit is passed on -/
noncomputable def Oct.get {β : Type} (o : Oct β) (d : D8) (k : β → Bool) : Bool := Oct.rec (fun c0 c1 c2 c3 c4 c5 c6 c7 => D8.rec (k c0) (k c1) (k c2) (k c3) (k c4) (k c5) (k c6) (k c7) d) o
/-- what stands at a digit is changed by f -/
noncomputable def Oct.upd {β : Type} (o : Oct β) (d : D8) (f : β → (β → Bool) → Bool) (k : Oct β → Bool) : Bool := Oct.rec (fun c0 c1 c2 c3 c4 c5 c6 c7 => f (D8.rec c0 c1 c2 c3 c4 c5 c6 c7 d) fun v => Oct.setter d v c0 c1 c2 c3 c4 c5 c6 c7 k) o
/-! ### frames -/
inductive Pt where
  | lo (a b : D8)
  | hi (a b c : D8)
  deriving DecidableEq
inductive Fr where
  | mk (lo : Oct (Oct AV)) (hi : Oct (Oct (Oct AV)))
noncomputable def pathOf (t : Nat) : Pt := Bool.rec (.hi (dig ((t.div 64).mod 8)) (dig ((t.div 8).mod 8)) (dig (t.mod 8))) (.lo (dig (t.div 8)) (dig (t.mod 8))) (t.ble 63)
noncomputable def Fr.none : Fr := .mk (Oct.all (Oct.all .any)) (Oct.all (Oct.all (Oct.all .any)))
noncomputable def Fr.get (F : Fr) (p : Pt) (k : K1) : Bool := Fr.rec (fun lo hi => Pt.rec (fun a b => Oct.get lo a fun x => Oct.get x b k) (fun a b c => Oct.get hi a fun x => Oct.get x b fun x => Oct.get x c k) p) F
noncomputable def Fr.put (F : Fr) (p : Pt) (v : AV) (k : Fr → Bool) : Bool := Fr.rec (fun lo hi => Pt.rec
  (fun a b => Oct.upd lo a (fun x k => Oct.put x b v k) fun lo => k (.mk lo hi))
  (fun a b c => Oct.upd hi a (fun x k => Oct.upd x b (fun x k => Oct.put x c v k) k) fun hi => k (.mk lo hi)) p) F
/-! ### memory -/
/-- rows of cells: one, up to 8, 64, 512, 4096 -/
inductive Rws where
  | r0 (a : List AV)
  | r1 (t : Oct (List AV))
  | r2 (t : Oct (Oct (List AV)))
  | r3 (t : Oct (Oct (Oct (List AV))))
  | r4 (t : Oct (Oct (Oct (Oct (List AV)))))
inductive Blk where
  | no
  | mk (n r : Nat) (t : Rws)
  | it (l : List Nat) (pos : Nat)
abbrev Tr := Oct (Oct (Oct (Oct (Oct Blk))))
inductive H where
  | mk (nx : Nm) (t : Tr)
abbrev K2 := AV → H → Bool
noncomputable def Rws.get (t : Rws) (i : Nat) (k : KL) : Bool := Rws.rec k (fun t => Oct.get t (dig i) k) (fun t => Oct.get t (dig (i.div 8)) fun t => Oct.get t (dig (i.mod 8)) k)
  (fun t => Oct.get t (dig (i.div 64)) fun t => Oct.get t (dig ((i.div 8).mod 8)) fun t => Oct.get t (dig (i.mod 8)) k)
  (fun t => Oct.get t (dig (i.div 512)) fun t => Oct.get t (dig ((i.div 64).mod 8)) fun t => Oct.get t (dig ((i.div 8).mod 8)) fun t => Oct.get t (dig (i.mod 8)) k) t
noncomputable def Rws.put (t : Rws) (i : Nat) (v : List AV) (k : Rws → Bool) : Bool := Rws.rec (fun _ => k (.r0 v)) (fun t => Oct.put t (dig i) v fun t => k (.r1 t))
  (fun t => Oct.upd t (dig (i.div 8)) (fun t k => Oct.put t (dig (i.mod 8)) v k) fun t => k (.r2 t))
  (fun t => Oct.upd t (dig (i.div 64)) (fun t k => Oct.upd t (dig ((i.div 8).mod 8)) (fun t k => Oct.put t (dig (i.mod 8)) v k) k) fun t => k (.r3 t))
  (fun t => Oct.upd t (dig (i.div 512)) (fun t k => Oct.upd t (dig ((i.div 64).mod 8)) (fun t k => Oct.upd t (dig ((i.div 8).mod 8)) (fun t k => Oct.put t (dig (i.mod 8)) v k) k) k) fun t => k (.r4 t)) t
/-- so many rows, all alike -/
noncomputable def Rws.new (m : Nat) (z : List AV) (k : Rws → Bool) : Bool := Bool.rec (Bool.rec (Bool.rec (Bool.rec (Bool.rec false (k (.r4 (Oct.all (Oct.all (Oct.all (Oct.all z)))))) (m.ble 4096)) (k (.r3 (Oct.all (Oct.all (Oct.all z))))) (m.ble 512)) (k (.r2 (Oct.all (Oct.all z)))) (m.ble 64)) (k (.r1 (Oct.all z))) (m.ble 8)) (k (.r0 z)) (m.ble 1)
/-- one more digit -/
noncomputable def Rws.up (t : Rws) (z : List AV) (k : Rws → Bool) : Bool := Rws.rec
  (fun a => k (.r1 (.nd a z z z z z z z))) (fun a => let z := Oct.all z; k (.r2 (.nd a z z z z z z z))) (fun a => let z := Oct.all (Oct.all z); k (.r3 (.nd a z z z z z z z))) (fun a => let z := Oct.all (Oct.all (Oct.all z)); k (.r4 (.nd a z z z z z z z))) (fun _ => false) t
noncomputable def Rws.room (t : Rws) : Nat := Rws.rec (fun _ => 1) (fun _ => 8) (fun _ => 64) (fun _ => 512) (fun _ => 4096) t
/-- room for so many rows -/
noncomputable def Rws.grow (t : Rws) (m : Nat) (z : List AV) (k : Rws → Bool) : Bool := Bool.rec (Rws.up t z fun t => Bool.rec (Rws.up t z fun t => Bool.rec (Rws.up t z fun t => Bool.rec (Rws.up t z fun t => Bool.rec false (k t) (m.ble (Rws.room t))) (k t) (m.ble (Rws.room t))) (k t) (m.ble (Rws.room t))) (k t) (m.ble (Rws.room t))) (k t) (m.ble (Rws.room t))
noncomputable def Tr.get (t : Tr) (b : Nm) (k : Blk → Bool) : Bool := Nm.rec (fun a b c d e => Oct.get t a fun t => Oct.get t b fun t => Oct.get t c fun t => Oct.get t d fun t => Oct.get t e k) b
noncomputable def Tr.put (t : Tr) (b : Nm) (v : Blk) (k : Tr → Bool) : Bool := Nm.rec (fun a b c d e => Oct.upd t a (fun t k => Oct.upd t b (fun t k => Oct.upd t c (fun t k => Oct.upd t d (fun t k => Oct.put t e v k) k) k) k) k) b
noncomputable def H.none : H := .mk (.mk .d0 .d0 .d0 .d0 .d0) (Oct.all (Oct.all (Oct.all (Oct.all (Oct.all .no)))))
noncomputable def newB (h : H) (b : Blk) (k : Nm → H → Bool) : Bool := H.rec (fun nx t => Tr.put t nx b fun t => Nm.next nx fun n => k nx (.mk n t)) h
noncomputable def getB (h : H) (b : Nm) (k : Blk → Bool) : Bool := H.rec (fun _ t => Tr.get t b k) h
noncomputable def putB (h : H) (b : Nm) (x : Blk) (k : H → Bool) : Bool := H.rec (fun nx t => Tr.put t b x fun t => k (.mk nx t)) h
noncomputable def onMk (b : Blk) (k : Nat → Nat → Rws → Bool) : Bool := Blk.rec false k (fun _ _ => false) b
noncomputable def onIt (b : Blk) (k : List Nat → Nat → Bool) : Bool := Blk.rec false (fun _ _ _ => false) k b
/-! ### lists of values -/
noncomputable def lnthK (l : List AV) : Nat → K1 → Bool := List.rec (motive := fun _ => Nat → K1 → Bool) (fun _ _ => false) (fun a _ ih i k => Nat.rec (k a) (fun j _ => ih j k) i) l
/-- a value laid at a place; behind the end it is added -/
noncomputable def lputK (l : List AV) : Nat → AV → KL → Bool := List.rec (motive := fun _ => Nat → AV → KL → Bool) (fun i v k => Nat.rec (k [v]) (fun _ _ => false) i) (fun a t ih i v k => Nat.rec (k (v :: t)) (fun j _ => ih j v fun t => k (a :: t)) i) l
noncomputable def lappK (l m : List AV) : KL → Bool := List.rec (motive := fun _ => KL → Bool) (fun k => k m) (fun a _ ih k => ih fun t => k (a :: t)) l
noncomputable def llen (l : List AV) : Nat := List.rec (motive := fun _ => Nat) 0 (fun _ _ n => n.succ) l
noncomputable def ltakeK (l : List AV) : Nat → KL → Bool := List.rec (motive := fun _ => Nat → KL → Bool) (fun _ k => k []) (fun a _ ih n k => Nat.rec (k []) (fun m _ => ih m fun t => k (a :: t)) n) l
noncomputable def ldropK (l : List AV) : Nat → KL → Bool := List.rec (motive := fun _ => Nat → KL → Bool) (fun _ k => k []) (fun a t ih n k => Nat.rec (k (a :: t)) (fun m _ => ih m k) n) l
noncomputable def subK (l : List AV) (o s : Nat) (k : KL) : Bool := ldropK l o fun l => ltakeK l s k
/-! ### looking at a value -/
noncomputable def AV.onInt (x : AV) (k : IntKind → Int → Bool) : Bool := AV.rec (motive_1 := fun _ => Bool) (motive_2 := fun _ => Bool) (fun _ => false) (fun _ _ _ => false) (fun _ => false) (fun _ _ => false) k false (fun _ _ _ _ => false) x
noncomputable def AV.onPtr (x : AV) (k : Nm → Nat → Bool) : Bool := AV.rec (motive_1 := fun _ => Bool) (motive_2 := fun _ => Bool) (fun _ => false) (fun _ _ _ => false) (fun _ => false) k (fun _ _ => false) false (fun _ _ _ _ => false) x
noncomputable def AV.onBool (x : AV) (k : Bool → Bool) : Bool := AV.rec (motive_1 := fun _ => Bool) (motive_2 := fun _ => Bool) (fun _ => false) (fun _ _ _ => false) k (fun _ _ => false) (fun _ _ => false) false (fun _ _ _ _ => false) x
noncomputable def AV.onStr (x : AV) (k : Nat → List Nat → Bool) : Bool := AV.rec (motive_1 := fun _ => Bool) (motive_2 := fun _ => Bool) (fun a => At.rec false false false false false false (fun _ => false) k (fun _ _ _ _ _ => false) a) (fun _ _ _ => false) (fun _ => false) (fun _ _ => false) (fun _ _ => false) false (fun _ _ _ _ => false) x
noncomputable def AV.onFlt (x : AV) (k : Nat → Bool) : Bool := AV.rec (motive_1 := fun _ => Bool) (motive_2 := fun _ => Bool) (fun a => At.rec false false false false false false k (fun _ _ => false) (fun _ _ _ _ _ => false) a) (fun _ _ _ => false) (fun _ => false) (fun _ _ => false) (fun _ _ => false) false (fun _ _ _ _ => false) x
noncomputable def AV.onAgg (x : AV) (k : KL) : Bool := AV.rec (motive_1 := fun _ => Bool) (motive_2 := fun _ => Bool) (fun _ => false) (fun g l _ => Tg.rec (k l) false (fun _ => false) (fun _ _ => false) g) (fun _ => false) (fun _ _ => false) (fun _ _ => false) false (fun _ _ _ _ => false) x
noncomputable def AV.onTup (x : AV) (k : KL) : Bool := AV.rec (motive_1 := fun _ => Bool) (motive_2 := fun _ => Bool) (fun _ => false) (fun g l _ => Tg.rec false (k l) (fun _ => false) (fun _ _ => false) g) (fun _ => false) (fun _ _ => false) (fun _ _ => false) false (fun _ _ _ _ => false) x
noncomputable def AV.onFn (x : AV) (k : Nat → Nat → List AV → Bool) : Bool := AV.rec (motive_1 := fun _ => Bool) (motive_2 := fun _ => Bool) (fun _ => false) (fun g l _ => Tg.rec false false (fun _ => false) (fun f nf => k f nf l) g) (fun _ => false) (fun _ _ => false) (fun _ _ => false) false (fun _ _ _ _ => false) x
/-- a slice: of a block; none; some one of length 0 -/
noncomputable def AV.onSl (x : AV) (k : Nm → Nat → Nat → Option Nat → Nat → Bool) (z s : Bool) : Bool := AV.rec (motive_1 := fun _ => Bool) (motive_2 := fun _ => Bool) (fun a => At.rec false false z s false false (fun _ => false) (fun _ _ => false) k a) (fun _ _ _ => false) (fun _ => false) (fun _ _ => false) (fun _ _ => false) false (fun _ _ _ _ => false) x
/-- whether a value is none; nothing of what has no such thing -/
noncomputable def AV.nilOf (x : AV) (k : Bool → Bool) : Bool := AV.rec (motive_1 := fun _ => Bool) (motive_2 := fun _ => Bool) (fun a => At.rec false (k true) (k true) false (k true) (k true) (fun _ => false) (fun _ _ => false) (fun _ _ _ _ _ => k false) a) (fun g l _ => Tg.rec false false (fun _ => false) (fun _ _ => k false) g) (fun _ => false) (fun _ _ => k false) (fun _ _ => false) false (fun _ _ _ _ => false) x
/-- the cells of a value -/
noncomputable def AV.cells (x : AV) (k : KL) : Bool := AV.rec (motive_1 := fun _ => Bool) (motive_2 := fun _ => Bool) (fun a => At.rec false (k [.at a]) (k [.at a]) (k [.at a]) (k [.at a]) (k [.at a]) (fun _ => k [.at a]) (fun _ _ => k [.at a]) (fun _ _ _ _ _ => k [.at a]) a) (fun g l _ => Tg.rec (k l) false (fun _ => k [.row g l]) (fun _ _ => k [.row g l]) g) (fun b => k [.bool b]) (fun b o => k [.ptr b o]) (fun a n => k [.int a n]) false (fun _ _ _ _ => false) x
/-- by what kind of value it is: int, bool, ptr; else the atom; a row -/
noncomputable def AV.onAt (x : AV) (k : At → Bool) : Bool := AV.rec (motive_1 := fun _ => Bool) (motive_2 := fun _ => Bool) k (fun _ _ _ => false) (fun _ => false) (fun _ _ => false) (fun _ _ => false) false (fun _ _ _ _ => false) x
end Go.AM
namespace Go.AM
theorem Oct.get_eq {β : Type} (o : Oct β) (d : D8) (k : β → Bool) : o.get d k = k (o.sel d) := by cases o; cases d <;> rfl
def Oct.set {β : Type} (o : Oct β) (d : D8) (v : β) : Oct β := match o, d with
  | .nd _ b c d e f g h, .d0 => .nd v b c d e f g h
  | .nd a _ c d e f g h, .d1 => .nd a v c d e f g h
  | .nd a b _ d e f g h, .d2 => .nd a b v d e f g h
  | .nd a b c _ e f g h, .d3 => .nd a b c v e f g h
  | .nd a b c d _ f g h, .d4 => .nd a b c d v f g h
  | .nd a b c d e _ g h, .d5 => .nd a b c d e v g h
  | .nd a b c d e f _ h, .d6 => .nd a b c d e f v h
  | .nd a b c d e f g _, .d7 => .nd a b c d e f g v
theorem Oct.put_eq {β : Type} (o : Oct β) (d : D8) (v : β) (k : Oct β → Bool) : o.put d v k = k (o.set d v) := by cases o; cases d <;> rfl
theorem Oct.upd_eq {β : Type} (o : Oct β) (d : D8) (f : β → (β → Bool) → Bool) (k : Oct β → Bool) : o.upd d f k = f (o.sel d) (fun v => k (o.set d v)) := by cases o; cases d <;> rfl
theorem Oct.sel_set {β : Type} (o : Oct β) (d e : D8) (v : β) : (o.set d v).sel e = if d = e then v else o.sel e := by cases o; cases d <;> cases e <;> rfl
theorem Oct.sel_all {β : Type} (x : β) (d : D8) : (Oct.all x).sel d = x := by cases d <;> rfl
/-! ### digits -/
def D8.num (d : D8) : Nat := match d with | .d0 => 0 | .d1 => 1 | .d2 => 2 | .d3 => 3 | .d4 => 4 | .d5 => 5 | .d6 => 6 | .d7 => 7
theorem D8.num_lt (d : D8) : d.num < 8 := by cases d <;> decide
theorem D8.num_inj {d e : D8} (h : d.num = e.num) : d = e := by cases d <;> cases e <;> first | rfl | (simp [D8.num] at h)
theorem num_dig (n : Nat) (h : n < 8) : (dig n).num = n := by
  match n, h with
  | 0, _ => rfl
  | 1, _ => rfl
  | 2, _ => rfl
  | 3, _ => rfl
  | 4, _ => rfl
  | 5, _ => rfl
  | 6, _ => rfl
  | 7, _ => rfl
theorem dig_inj {m n : Nat} (hm : m < 8) (hn : n < 8) (h : dig m = dig n) : m = n := by
  have := congrArg D8.num h; rwa [num_dig m hm, num_dig n hn] at this
def Nm.num (x : Nm) : Nat := match x with | .mk a b c d e => (((a.num * 8 + b.num) * 8 + c.num) * 8 + d.num) * 8 + e.num
theorem Nm.num_inj {x y : Nm} (h : x.num = y.num) : x = y := by
  obtain ⟨a, b, c, d, e⟩ := x
  obtain ⟨a', b', c', d', e'⟩ := y
  simp only [Nm.num] at h
  have h1 := a.num_lt; have h2 := b.num_lt; have h3 := c.num_lt; have h4 := d.num_lt; have h5 := e.num_lt
  have h1' := a'.num_lt; have h2' := b'.num_lt; have h3' := c'.num_lt; have h4' := d'.num_lt; have h5' := e'.num_lt
  rw [D8.num_inj (show a.num = a'.num by omega), D8.num_inj (show b.num = b'.num by omega), D8.num_inj (show c.num = c'.num by omega), D8.num_inj (show d.num = d'.num by omega), D8.num_inj (show e.num = e'.num by omega)]
theorem D8.next_spec {d : D8} {k : D8 → Bool} {z : Bool} (h : d.next k z = true) : (∃ e : D8, e.num = d.num + 1 ∧ k e = true) ∨ (d.num = 7 ∧ z = true) := by
  cases d
  case d7 => exact Or.inr ⟨rfl, h⟩
  all_goals exact Or.inl ⟨_, rfl, h⟩
theorem Nm.next_spec {x : Nm} {k : Nm → Bool} (h : x.next k = true) : ∃ y : Nm, y.num = x.num + 1 ∧ k y = true := by
  obtain ⟨a, b, c, d, e⟩ := x
  change D8.next e (fun e => k (.mk a b c d e)) (D8.next d (fun d => k (.mk a b c d .d0)) (D8.next c (fun c => k (.mk a b c .d0 .d0)) (D8.next b (fun b => k (.mk a b .d0 .d0 .d0)) (D8.next a (fun a => k (.mk a .d0 .d0 .d0 .d0)) false)))) = true at h
  rcases D8.next_spec h with ⟨f, hf, hk⟩ | ⟨he, h⟩
  · exact ⟨_, by simp only [Nm.num]; omega, hk⟩
  rcases D8.next_spec h with ⟨f, hf, hk⟩ | ⟨hd, h⟩
  · exact ⟨_, by simp only [Nm.num, D8.num] at *; omega, hk⟩
  rcases D8.next_spec h with ⟨f, hf, hk⟩ | ⟨hc, h⟩
  · exact ⟨_, by simp only [Nm.num, D8.num] at *; omega, hk⟩
  rcases D8.next_spec h with ⟨f, hf, hk⟩ | ⟨hb, h⟩
  · exact ⟨_, by simp only [Nm.num, D8.num] at *; omega, hk⟩
  rcases D8.next_spec h with ⟨f, hf, hk⟩ | ⟨_, h⟩
  · exact ⟨_, by simp only [Nm.num, D8.num] at *; omega, hk⟩
  · cases h
/-! ### frames -/
noncomputable def Fr.at (F : Fr) (p : Pt) : AV := match F, p with | .mk lo _, .lo a b => (lo.sel a).sel b | .mk _ hi, .hi a b c => ((hi.sel a).sel b).sel c
noncomputable def Fr.set (F : Fr) (p : Pt) (v : AV) : Fr := match F, p with
  | .mk lo hi, .lo a b => .mk (lo.set a ((lo.sel a).set b v)) hi
  | .mk lo hi, .hi a b c => .mk lo (hi.set a ((hi.sel a).set b (((hi.sel a).sel b).set c v)))
theorem Fr.get_eq (F : Fr) (p : Pt) (k : K1) : F.get p k = k (F.at p) := by
  obtain ⟨lo, hi⟩ := F
  cases p with
  | lo a b => show Oct.get lo a (fun x => Oct.get x b k) = _; simp only [Oct.get_eq]; rfl
  | hi a b c => show Oct.get hi a (fun x => Oct.get x b fun x => Oct.get x c k) = _; simp only [Oct.get_eq]; rfl
theorem Fr.put_eq (F : Fr) (p : Pt) (v : AV) (k : Fr → Bool) : F.put p v k = k (F.set p v) := by
  obtain ⟨lo, hi⟩ := F
  cases p with
  | lo a b => show Oct.upd lo a (fun x k => Oct.put x b v k) (fun lo => k (.mk lo hi)) = _; simp only [Oct.upd_eq, Oct.put_eq]; rfl
  | hi a b c => show Oct.upd hi a (fun x k => Oct.upd x b (fun x k => Oct.put x c v k) k) (fun hi => k (.mk lo hi)) = _; simp only [Oct.upd_eq, Oct.put_eq]; rfl
theorem Fr.at_set (F : Fr) (p q : Pt) (v : AV) : (F.set p v).at q = if p = q then v else F.at q := by
  cases F; cases p <;> cases q <;> simp only [Fr.at, Fr.set, Oct.sel_set, Pt.lo.injEq, Pt.hi.injEq, reduceCtorEq, if_false]
  · rename_i a b c d; by_cases h : a = c <;> by_cases h' : b = d <;> simp [h, h', Oct.sel_set]
  · rename_i a b c a' b' c'; by_cases h : a = a' <;> by_cases h' : b = b' <;> by_cases h'' : c = c' <;> simp [h, h', h'', Oct.sel_set]
theorem Fr.at_none (p : Pt) : Fr.none.at p = .any := by cases p <;> simp only [Fr.none, Fr.at, Oct.sel_all]
theorem ble_iff (m n : Nat) : Nat.ble m n = true ↔ m ≤ n := by rw [Nat.ble_eq]
theorem ble_f {m n : Nat} (h : ¬ m ≤ n) : Nat.ble m n = false := by
  cases hb : Nat.ble m n
  · rfl
  · exact absurd ((ble_iff m n).1 hb) h
theorem beq_iff (m n : Nat) : Nat.beq m n = true ↔ m = n := by rw [Nat.beq_eq]
theorem pathOf_eq (t : Nat) : pathOf t = if t ≤ 63 then .lo (dig (t / 8)) (dig (t % 8)) else .hi (dig (t / 64 % 8)) (dig (t / 8 % 8)) (dig (t % 8)) := by
  unfold pathOf
  by_cases h : t ≤ 63
  · rw [if_pos h, (ble_iff t 63).2 h]; rfl
  · rw [if_neg h, ble_f h]; rfl
theorem pathOf_inj {s t : Nat} (hs : s < 512) (ht : t < 512) (h : pathOf s = pathOf t) : s = t := by
  rw [pathOf_eq, pathOf_eq] at h
  split at h <;> split at h <;> simp only [Pt.lo.injEq, Pt.hi.injEq, reduceCtorEq] at h
  · have h1 := dig_inj (by omega) (by omega) h.1
    have h2 := dig_inj (by omega) (by omega) h.2
    omega
  · have h1 := dig_inj (by omega) (by omega) h.1
    have h2 := dig_inj (by omega) (by omega) h.2.1
    have h3 := dig_inj (by omega) (by omega) h.2.2
    omega
/-! ### memory -/
noncomputable def Tr.at (t : Tr) (b : Nm) : Blk := match b with | .mk a b c d e => ((((t.sel a).sel b).sel c).sel d).sel e
noncomputable def Tr.set (t : Tr) (b : Nm) (v : Blk) : Tr := match b with | .mk a b c d e => Oct.set t a ((t.sel a).set b (((t.sel a).sel b).set c ((((t.sel a).sel b).sel c).set d (((((t.sel a).sel b).sel c).sel d).set e v))))
theorem Tr.get_eq (t : Tr) (b : Nm) (k : Blk → Bool) : Tr.get t b k = k (Tr.at t b) := by
  obtain ⟨a, b, c, d, e⟩ := b
  show Oct.get t a (fun t => Oct.get t b fun t => Oct.get t c fun t => Oct.get t d fun t => Oct.get t e k) = _
  simp only [Oct.get_eq]; rfl
theorem Tr.put_eq (t : Tr) (b : Nm) (v : Blk) (k : Tr → Bool) : Tr.put t b v k = k (Tr.set t b v) := by
  obtain ⟨a, b, c, d, e⟩ := b
  show Oct.upd t a (fun t k => Oct.upd t b (fun t k => Oct.upd t c (fun t k => Oct.upd t d (fun t k => Oct.put t e v k) k) k) k) k = _
  simp only [Oct.upd_eq, Oct.put_eq]; rfl
theorem Tr.at_set (t : Tr) (b x : Nm) (v : Blk) : Tr.at (Tr.set t b v) x = if b = x then v else Tr.at t x := by
  obtain ⟨a, b, c, d, e⟩ := b
  obtain ⟨a', b', c', d', e'⟩ := x
  simp only [Tr.at, Tr.set, Oct.sel_set, Nm.mk.injEq]
  by_cases h1 : a = a' <;> by_cases h2 : b = b' <;> by_cases h3 : c = c' <;> by_cases h4 : d = d' <;> by_cases h5 : e = e' <;> simp [h1, h2, h3, h4, h5, Oct.sel_set]
def H.nx (h : H) : Nm := match h with | .mk n _ => n
def H.tr (h : H) : Tr := match h with | .mk _ t => t
noncomputable def H.at (h : H) (b : Nm) : Blk := Tr.at h.tr b
noncomputable def H.put (h : H) (b : Nm) (x : Blk) : H := .mk h.nx (Tr.set h.tr b x)
theorem H.at_put (h : H) (b c : Nm) (x : Blk) : (h.put b x).at c = if b = c then x else h.at c := Tr.at_set _ _ _ _
theorem H.nx_put (h : H) (b : Nm) (x : Blk) : (h.put b x).nx = h.nx := rfl
theorem getB_eq (h : H) (b : Nm) (k : Blk → Bool) : getB h b k = k (h.at b) := by cases h; exact Tr.get_eq _ _ _
theorem putB_eq (h : H) (b : Nm) (x : Blk) (k : H → Bool) : putB h b x k = k (h.put b x) := by cases h; exact Tr.put_eq _ _ _ _
theorem newB_spec {h : H} {x : Blk} {k : Nm → H → Bool} (hk : newB h x k = true) : ∃ h' : H, h'.nx.num = h.nx.num + 1 ∧ (∀ c, h'.at c = if h.nx = c then x else h.at c) ∧ k h.nx h' = true := by
  obtain ⟨n, t⟩ := h
  change Tr.put t n x (fun t => Nm.next n fun m => k n (.mk m t)) = true at hk
  rw [Tr.put_eq] at hk
  obtain ⟨m, hm, hk⟩ := Nm.next_spec hk
  exact ⟨.mk m (Tr.set t n x), hm, fun c => Tr.at_set _ _ _ _, hk⟩
theorem onMk_spec {b : Blk} {k : Nat → Nat → Rws → Bool} (h : onMk b k = true) : ∃ n r t, b = .mk n r t ∧ k n r t = true := by
  cases b with
  | mk n r t => exact ⟨n, r, t, rfl, h⟩
  | no => cases h
  | it l p => cases h
theorem onIt_spec {b : Blk} {k : List Nat → Nat → Bool} (h : onIt b k = true) : ∃ l p, b = .it l p ∧ k l p = true := by
  cases b with
  | it l p => exact ⟨l, p, rfl, h⟩
  | no => cases h
  | mk n r t => cases h
/-! ### lists of values -/
theorem lnthK_spec {l : List AV} {i : Nat} {k : K1} (h : lnthK l i k = true) : ∃ v, l[i]? = some v ∧ k v = true := by
  induction l generalizing i with
  | nil => cases h
  | cons a t ih => cases i with
    | zero => exact ⟨a, rfl, h⟩
    | succ j => obtain ⟨v, hv, hk⟩ := ih h; exact ⟨v, by simpa using hv, hk⟩
theorem lputK_spec {l : List AV} {i : Nat} {v : AV} {k : KL} (h : lputK l i v k = true) : ∃ m : List AV, (∀ j : Nat, m[j]? = if j = i then some v else l[j]?) ∧ m.length ≤ max l.length (i + 1) ∧ k m = true := by
  induction l generalizing i k with
  | nil => cases i with
    | zero => exact ⟨[v], fun j => by cases j <;> simp, by simp, h⟩
    | succ j => cases h
  | cons a t ih => cases i with
    | zero => exact ⟨v :: t, fun j => by cases j <;> simp, by simp, h⟩
    | succ i =>
      obtain ⟨m, hm, hl, hk⟩ := ih (k := fun t => k (a :: t)) h
      exact ⟨a :: m, fun j => by cases j <;> simp [hm], by simp; omega, hk⟩
theorem lappK_eq (l m : List AV) (k : KL) : lappK l m k = k (l ++ m) := by
  induction l generalizing k with
  | nil => rfl
  | cons a t ih => exact ih (fun t => k (a :: t))
theorem llen_eq (l : List AV) : llen l = l.length := by
  induction l with
  | nil => rfl
  | cons a t ih => show (llen t).succ = _; rw [ih]; rfl
theorem ltakeK_eq (l : List AV) (n : Nat) (k : KL) : ltakeK l n k = k (l.take n) := by
  induction l generalizing n k with
  | nil => cases n <;> rfl
  | cons a t ih => cases n with
    | zero => rfl
    | succ n => exact ih n (fun t => k (a :: t))
theorem ldropK_eq (l : List AV) (n : Nat) (k : KL) : ldropK l n k = k (l.drop n) := by
  induction l generalizing n with
  | nil => cases n <;> rfl
  | cons a t ih => cases n with
    | zero => rfl
    | succ n => exact ih n
theorem subK_eq (l : List AV) (o s : Nat) (k : KL) : subK l o s k = k ((l.drop o).take s) := by rw [subK, ldropK_eq, ltakeK_eq]
/-! ### looking at a value -/
theorem onInt_spec {x : AV} {k : IntKind → Int → Bool} (h : x.onInt k = true) : ∃ a n, x = .int a n ∧ k a n = true := by
  cases x with
  | int a n => exact ⟨a, n, rfl, h⟩
  | _ => cases h
theorem onPtr_spec {x : AV} {k : Nm → Nat → Bool} (h : x.onPtr k = true) : ∃ b o, x = .ptr b o ∧ k b o = true := by
  cases x with
  | ptr b o => exact ⟨b, o, rfl, h⟩
  | _ => cases h
theorem onBool_spec {x : AV} {k : Bool → Bool} (h : x.onBool k = true) : ∃ b, x = .bool b ∧ k b = true := by
  cases x with
  | bool b => exact ⟨b, rfl, h⟩
  | _ => cases h
theorem onAt_spec {x : AV} {k : At → Bool} (h : x.onAt k = true) : ∃ a, x = .at a ∧ k a = true := by
  cases x with
  | «at» a => exact ⟨a, rfl, h⟩
  | _ => cases h
theorem onStr_spec {x : AV} {k : Nat → List Nat → Bool} (h : x.onStr k = true) : ∃ n l, x = .at (.str n l) ∧ k n l = true := by
  cases x with
  | «at» a => cases a with
    | str n l => exact ⟨n, l, rfl, h⟩
    | _ => cases h
  | _ => cases h
theorem onFlt_spec {x : AV} {k : Nat → Bool} (h : x.onFlt k = true) : ∃ n, x = .at (.flt n) ∧ k n = true := by
  cases x with
  | «at» a => cases a with
    | flt n => exact ⟨n, rfl, h⟩
    | _ => cases h
  | _ => cases h
theorem onAgg_spec {x : AV} {k : KL} (h : x.onAgg k = true) : ∃ l, x = .agg l ∧ k l = true := by
  cases x with
  | row g l => cases g with
    | agg => exact ⟨l, rfl, h⟩
    | _ => cases h
  | _ => cases h
theorem onTup_spec {x : AV} {k : KL} (h : x.onTup k = true) : ∃ l, x = .tup l ∧ k l = true := by
  cases x with
  | row g l => cases g with
    | tup => exact ⟨l, rfl, h⟩
    | _ => cases h
  | _ => cases h
theorem onFn_spec {x : AV} {k : Nat → Nat → List AV → Bool} (h : x.onFn k = true) : ∃ f nf l, x = .row (.fn f nf) l ∧ k f nf l = true := by
  cases x with
  | row g l => cases g with
    | fn f nf => exact ⟨f, nf, l, rfl, h⟩
    | _ => cases h
  | _ => cases h
theorem onSl_spec {x : AV} {k : Nm → Nat → Nat → Option Nat → Nat → Bool} {z s : Bool} (h : x.onSl k z s = true) :
    (∃ b o n c e, x = .at (.sl b o n c e) ∧ k b o n c e = true) ∨ (x = .at .nils ∧ z = true) ∨ (x = .at .sz ∧ s = true) := by
  cases x with
  | «at» a => cases a with
    | sl b o n c e => exact Or.inl ⟨b, o, n, c, e, rfl, h⟩
    | nils => exact Or.inr (Or.inl ⟨rfl, h⟩)
    | sz => exact Or.inr (Or.inr ⟨rfl, h⟩)
    | _ => cases h
  | _ => cases h
end Go.AM
namespace Go.AM
/-- which block a name means: the block, its first cell, how many cells there are from there on -/
abbrev Phi := Nm → Option (Nat × Nat × Nat)
def Phi.le (φ ψ : Phi) : Prop := ∀ b x, φ b = some x → ψ b = some x
theorem Phi.le_refl (φ : Phi) : φ.le φ := fun _ _ h => h
theorem Phi.le_trans {φ ψ χ : Phi} (h : φ.le ψ) (g : ψ.le χ) : φ.le χ := fun b x hx => g b x (h b x hx)
def strL (s : ByteArray) : List Nat := s.data.toList.map fun c => c.toNat
def RA (φ : Phi) (a : At) (v : Value) : Prop := match a with
  | .any => True
  | .nilp => v = .pointer none
  | .nils => v = .slice none 0 0
  | .sz => ∃ a k, v = .slice a 0 k
  | .nilf => v = .nilFunc
  | .nili => v = .nilIface
  | .flt n => v = .float .f64 n
  | .str n l => ∃ s, v = .string s ∧ strL s = l ∧ s.size = n
  | .sl b o n (some k) _ => ∃ c d m, φ b = some (c, d, m) ∧ v = .slice (some ⟨c, d + o, none⟩) n k ∧ n ≤ k
  | .sl b o n none e => ∃ c d m k, φ b = some (c, d, m) ∧ v = .slice (some ⟨c, d + o, none⟩) n k ∧ n ≤ k ∧ o + k * e = m
mutual
def RV (φ : Phi) (x : AV) (v : Value) : Prop := match x with
  | .at a => RA φ a v
  | .bool b => v = .bool b
  | .int k n => v = .int k n
  | .ptr b o => ∃ c d m, φ b = some (c, d, m) ∧ v = .pointer (some ⟨c, d + o, none⟩)
  | .row g l => match g with
    | .agg => ∃ cs : Array Value, v = .agg cs ∧ RL φ l cs.toList ∧ ∀ y ∈ cs.toList, y.oneCell' = true
    | .tup => ∃ cs : Array Value, v = .tuple cs ∧ RL φ l cs.toList
    | .ifc t => ∃ y, v = .iface t y ∧ RL φ l [y]
    | .fn f nf => ∃ a b : Array Value, v = .func (.func f) a b ∧ a.size = nf ∧ RL φ l (a.toList ++ b.toList)
def RL (φ : Phi) (l : List AV) (vs : List Value) : Prop := match l with
  | [] => vs = []
  | x :: l => ∃ v r, vs = v :: r ∧ RV φ x v ∧ RL φ l r
end
theorem RV_at {φ : Phi} {a : At} {v : Value} : RV φ (.at a) v ↔ RA φ a v := by rw [RV]
theorem RV_bool {φ : Phi} {b : Bool} {v : Value} : RV φ (.bool b) v ↔ v = .bool b := by rw [RV]
theorem RV_int {φ : Phi} {k : IntKind} {n : Int} {v : Value} : RV φ (.int k n) v ↔ v = .int k n := by rw [RV]
theorem RV_ptr {φ : Phi} {b : Nm} {o : Nat} {v : Value} : RV φ (.ptr b o) v ↔ ∃ c d m, φ b = some (c, d, m) ∧ v = .pointer (some ⟨c, d + o, none⟩) := by rw [RV]
theorem RV_agg {φ : Phi} {l : List AV} {v : Value} : RV φ (.row .agg l) v ↔ ∃ cs : Array Value, v = .agg cs ∧ RL φ l cs.toList ∧ ∀ y ∈ cs.toList, y.oneCell' = true := by rw [RV]
theorem RV_tup {φ : Phi} {l : List AV} {v : Value} : RV φ (.row .tup l) v ↔ ∃ cs : Array Value, v = .tuple cs ∧ RL φ l cs.toList := by rw [RV]
theorem RV_ifc {φ : Phi} {t : Nat} {l : List AV} {v : Value} : RV φ (.row (.ifc t) l) v ↔ ∃ y, v = .iface t y ∧ RL φ l [y] := by rw [RV]
theorem RV_fn {φ : Phi} {f nf : Nat} {l : List AV} {v : Value} : RV φ (.row (.fn f nf) l) v ↔ ∃ a b : Array Value, v = .func (.func f) a b ∧ a.size = nf ∧ RL φ l (a.toList ++ b.toList) := by rw [RV]
theorem RL_nil {φ : Phi} {vs : List Value} : RL φ [] vs ↔ vs = [] := by rw [RL]
theorem RL_cons {φ : Phi} {x : AV} {l : List AV} {vs : List Value} : RL φ (x :: l) vs ↔ ∃ v r, vs = v :: r ∧ RV φ x v ∧ RL φ l r := by rw [RL]
theorem RL_get {φ : Phi} {l : List AV} {vs : List Value} : RL φ l vs ↔ l.length = vs.length ∧ ∀ (i : Nat) x v, l[i]? = some x → vs[i]? = some v → RV φ x v := by
  induction l generalizing vs with
  | nil => rw [RL_nil]; constructor
           · rintro rfl; exact ⟨rfl, fun i x v h => by simp at h⟩
           · rintro ⟨h, _⟩; exact List.length_eq_zero_iff.1 h.symm
  | cons a l ih =>
    rw [RL_cons]
    constructor
    · rintro ⟨v, r, rfl, h1, h2⟩
      obtain ⟨g1, g2⟩ := ih.1 h2
      refine ⟨by simp [g1], fun i x y hx hy => ?_⟩
      cases i with
      | zero => simp at hx hy; subst hx; subst hy; exact h1
      | succ i => exact g2 i x y (by simpa using hx) (by simpa using hy)
    · rintro ⟨h1, h2⟩
      cases vs with
      | nil => simp at h1
      | cons v r => exact ⟨v, r, rfl, h2 0 a v rfl rfl, ih.2 ⟨by simpa using h1, fun i x y hx hy => h2 (i + 1) x y (by simpa using hx) (by simpa using hy)⟩⟩
theorem RA.mono {φ ψ : Phi} (h : φ.le ψ) {a : At} {v : Value} (hr : RA φ a v) : RA ψ a v := by
  cases a with
  | sl b o n c e => cases c with
    | none => obtain ⟨c, d, m, k, h1, h2⟩ := hr; exact ⟨c, d, m, k, h _ _ h1, h2⟩
    | some k => obtain ⟨c, d, m, h1, h2⟩ := hr; exact ⟨c, d, m, h _ _ h1, h2⟩
  | _ => exact hr
mutual
theorem RV.mono {φ ψ : Phi} (h : φ.le ψ) : ∀ (x : AV) (v : Value), RV φ x v → RV ψ x v
  | .at a, v, hr => by rw [RV] at *; exact RA.mono h hr
  | .bool b, v, hr => by rw [RV] at *; exact hr
  | .int k n, v, hr => by rw [RV] at *; exact hr
  | .ptr b o, v, hr => by rw [RV] at *; obtain ⟨c, d, m, h1, h2⟩ := hr; exact ⟨c, d, m, h _ _ h1, h2⟩
  | .row .agg l, v, hr => by rw [RV] at *; obtain ⟨cs, h1, h2, h3⟩ := hr; exact ⟨cs, h1, RL.mono h l _ h2, h3⟩
  | .row .tup l, v, hr => by rw [RV] at *; obtain ⟨cs, h1, h2⟩ := hr; exact ⟨cs, h1, RL.mono h l _ h2⟩
  | .row (.ifc t) l, v, hr => by rw [RV] at *; obtain ⟨y, h1, h2⟩ := hr; exact ⟨y, h1, RL.mono h l _ h2⟩
  | .row (.fn f nf) l, v, hr => by rw [RV] at *; obtain ⟨a, b, h1, h2, h3⟩ := hr; exact ⟨a, b, h1, h2, RL.mono h l _ h3⟩
theorem RL.mono {φ ψ : Phi} (h : φ.le ψ) : ∀ (l : List AV) (vs : List Value), RL φ l vs → RL ψ l vs
  | [], vs, hr => by rw [RL] at *; exact hr
  | x :: l, vs, hr => by rw [RL] at *; obtain ⟨v, r, h1, h2, h3⟩ := hr; exact ⟨v, r, h1, RV.mono h x v h2, RL.mono h l r h3⟩
end
/-! ### rows of cells -/
noncomputable def Rws.at (t : Rws) (i : Nat) : List AV := match t with
  | .r0 a => a
  | .r1 t => t.sel (dig i)
  | .r2 t => (t.sel (dig (i / 8))).sel (dig (i % 8))
  | .r3 t => ((t.sel (dig (i / 64))).sel (dig (i / 8 % 8))).sel (dig (i % 8))
  | .r4 t => (((t.sel (dig (i / 512))).sel (dig (i / 64 % 8))).sel (dig (i / 8 % 8))).sel (dig (i % 8))
noncomputable def Rws.set (t : Rws) (i : Nat) (v : List AV) : Rws := match t with
  | .r0 _ => .r0 v
  | .r1 t => .r1 (t.set (dig i) v)
  | .r2 t => .r2 (t.set (dig (i / 8)) ((t.sel (dig (i / 8))).set (dig (i % 8)) v))
  | .r3 t => .r3 (t.set (dig (i / 64)) ((t.sel (dig (i / 64))).set (dig (i / 8 % 8)) (((t.sel (dig (i / 64))).sel (dig (i / 8 % 8))).set (dig (i % 8)) v)))
  | .r4 t => .r4 (t.set (dig (i / 512)) ((t.sel (dig (i / 512))).set (dig (i / 64 % 8)) (((t.sel (dig (i / 512))).sel (dig (i / 64 % 8))).set (dig (i / 8 % 8)) ((((t.sel (dig (i / 512))).sel (dig (i / 64 % 8))).sel (dig (i / 8 % 8))).set (dig (i % 8)) v))))
def Rws.cap (t : Rws) : Nat := match t with | .r0 _ => 1 | .r1 _ => 8 | .r2 _ => 64 | .r3 _ => 512 | .r4 _ => 4096
theorem Rws.room_eq (t : Rws) : t.room = t.cap := by cases t <;> rfl
theorem Rws.get_eq (t : Rws) (i : Nat) (k : KL) : t.get i k = k (t.at i) := by
  cases t with
  | r0 a => rfl
  | r1 t => exact Oct.get_eq _ _ _
  | r2 t => show Oct.get t (dig (i / 8)) (fun t => Oct.get t (dig (i % 8)) k) = _; simp only [Oct.get_eq]; rfl
  | r3 t => show Oct.get t (dig (i / 64)) (fun t => Oct.get t (dig (i / 8 % 8)) fun t => Oct.get t (dig (i % 8)) k) = _; simp only [Oct.get_eq]; rfl
  | r4 t => show Oct.get t (dig (i / 512)) (fun t => Oct.get t (dig (i / 64 % 8)) fun t => Oct.get t (dig (i / 8 % 8)) fun t => Oct.get t (dig (i % 8)) k) = _; simp only [Oct.get_eq]; rfl
theorem Rws.put_eq (t : Rws) (i : Nat) (v : List AV) (k : Rws → Bool) : t.put i v k = k (t.set i v) := by
  cases t with
  | r0 a => rfl
  | r1 t => exact Oct.put_eq _ _ _ _
  | r2 t => show Oct.upd t (dig (i / 8)) (fun t k => Oct.put t (dig (i % 8)) v k) (fun t => k (.r2 t)) = _; simp only [Oct.upd_eq, Oct.put_eq]; rfl
  | r3 t => show Oct.upd t (dig (i / 64)) (fun t k => Oct.upd t (dig (i / 8 % 8)) (fun t k => Oct.put t (dig (i % 8)) v k) k) (fun t => k (.r3 t)) = _; simp only [Oct.upd_eq, Oct.put_eq]; rfl
  | r4 t => show Oct.upd t (dig (i / 512)) (fun t k => Oct.upd t (dig (i / 64 % 8)) (fun t k => Oct.upd t (dig (i / 8 % 8)) (fun t k => Oct.put t (dig (i % 8)) v k) k) k) (fun t => k (.r4 t)) = _; simp only [Oct.upd_eq, Oct.put_eq]; rfl
theorem Rws.cap_set (t : Rws) (i : Nat) (v : List AV) : (t.set i v).cap = t.cap := by cases t <;> rfl
theorem dig_eq_iff {m n : Nat} (hm : m < 8) (hn : n < 8) : dig m = dig n ↔ m = n := ⟨dig_inj hm hn, fun h => by rw [h]⟩
theorem Rws.at_set (t : Rws) (i j : Nat) (v : List AV) (hi : i < t.cap) (hj : j < t.cap) : (t.set i v).at j = if i = j then v else t.at j := by
  cases t with
  | r0 a => simp only [Rws.cap] at *; rw [if_pos (by omega)]; rfl
  | r1 t => simp only [Rws.cap] at *; simp only [Rws.set, Rws.at, Oct.sel_set, dig_eq_iff hi hj]
  | r2 t =>
    simp only [Rws.cap] at *
    simp only [Rws.set, Rws.at, Oct.sel_set, dig_eq_iff (show i / 8 < 8 by omega) (show j / 8 < 8 by omega)]
    by_cases h : i / 8 = j / 8
    · simp only [h, if_true, Oct.sel_set, dig_eq_iff (show i % 8 < 8 by omega) (show j % 8 < 8 by omega)]
      by_cases h' : i = j
      · rw [if_pos h', if_pos (by omega)]
      · rw [if_neg h', if_neg (by omega)]
    · rw [if_neg h, if_neg (by intro e; exact h (by rw [e]))]
  | r3 t =>
    simp only [Rws.cap] at *
    simp only [Rws.set, Rws.at, Oct.sel_set, dig_eq_iff (show i / 64 < 8 by omega) (show j / 64 < 8 by omega)]
    by_cases h : i / 64 = j / 64
    · simp only [h, if_true, Oct.sel_set, dig_eq_iff (show i / 8 % 8 < 8 by omega) (show j / 8 % 8 < 8 by omega)]
      by_cases h2 : i / 8 % 8 = j / 8 % 8
      · simp only [h2, if_true, Oct.sel_set, dig_eq_iff (show i % 8 < 8 by omega) (show j % 8 < 8 by omega)]
        by_cases h' : i = j
        · rw [if_pos h', if_pos (by omega)]
        · rw [if_neg h', if_neg (by omega)]
      · rw [if_neg h2, if_neg (by intro e; exact h2 (by rw [e]))]
    · rw [if_neg h, if_neg (by intro e; exact h (by rw [e]))]
  | r4 t =>
    simp only [Rws.cap] at *
    simp only [Rws.set, Rws.at, Oct.sel_set, dig_eq_iff (show i / 512 < 8 by omega) (show j / 512 < 8 by omega)]
    by_cases h : i / 512 = j / 512
    · simp only [h, if_true, Oct.sel_set, dig_eq_iff (show i / 64 % 8 < 8 by omega) (show j / 64 % 8 < 8 by omega)]
      by_cases h1 : i / 64 % 8 = j / 64 % 8
      · simp only [h1, if_true, Oct.sel_set, dig_eq_iff (show i / 8 % 8 < 8 by omega) (show j / 8 % 8 < 8 by omega)]
        by_cases h2 : i / 8 % 8 = j / 8 % 8
        · simp only [h2, if_true, Oct.sel_set, dig_eq_iff (show i % 8 < 8 by omega) (show j % 8 < 8 by omega)]
          by_cases h' : i = j
          · rw [if_pos h', if_pos (by omega)]
          · rw [if_neg h', if_neg (by omega)]
        · rw [if_neg h2, if_neg (by intro e; exact h2 (by rw [e]))]
      · rw [if_neg h1, if_neg (by intro e; exact h1 (by rw [e]))]
    · rw [if_neg h, if_neg (by intro e; exact h (by rw [e]))]
theorem Rws.new_spec {m : Nat} {z : List AV} {k : Rws → Bool} (h : Rws.new m z k = true) : ∃ t : Rws, m ≤ t.cap ∧ (∀ i, t.at i = z) ∧ k t = true := by
  unfold Rws.new at h
  cases h1 : m.ble 1 with
  | true => rw [h1] at h; exact ⟨.r0 z, (ble_iff _ 1).1 h1, fun _ => rfl, h⟩
  | false =>
    rw [h1] at h
    cases h2 : m.ble 8 with
    | true => rw [h2] at h; exact ⟨.r1 (Oct.all z), (ble_iff _ 8).1 h2, fun _ => by simp only [Rws.at, Oct.sel_all], h⟩
    | false =>
      rw [h2] at h
      cases h3 : m.ble 64 with
      | true => rw [h3] at h; exact ⟨.r2 (Oct.all (Oct.all z)), (ble_iff _ 64).1 h3, fun _ => by simp only [Rws.at, Oct.sel_all], h⟩
      | false =>
        rw [h3] at h
        cases h4 : m.ble 512 with
        | true => rw [h4] at h; exact ⟨.r3 (Oct.all (Oct.all (Oct.all z))), (ble_iff _ 512).1 h4, fun _ => by simp only [Rws.at, Oct.sel_all], h⟩
        | false =>
          rw [h4] at h
          cases h5 : m.ble 4096 with
          | true => rw [h5] at h; exact ⟨.r4 (Oct.all (Oct.all (Oct.all (Oct.all z)))), (ble_iff _ 4096).1 h5, fun _ => by simp only [Rws.at, Oct.sel_all], h⟩
          | false => rw [h5] at h; cases h
theorem sel_first {β : Type} (a z : β) : (Oct.nd a z z z z z z z).sel (dig 0) = a := rfl
theorem sel_rest {β : Type} (a z : β) {i : Nat} (h0 : 0 < i) (h8 : i < 8) : (Oct.nd a z z z z z z z).sel (dig i) = z := by
  match i, h0, h8 with
  | 1, _, _ => rfl
  | 2, _, _ => rfl
  | 3, _, _ => rfl
  | 4, _, _ => rfl
  | 5, _, _ => rfl
  | 6, _, _ => rfl
  | 7, _, _ => rfl
theorem Rws.up_spec {t : Rws} {z : List AV} {k : Rws → Bool} (h : t.up z k = true) : ∃ u : Rws, t.cap < u.cap ∧ (∀ i, i < t.cap → u.at i = t.at i) ∧ (∀ i, t.cap ≤ i → i < u.cap → u.at i = z) ∧ k u = true := by
  cases t with
  | r0 a =>
    refine ⟨.r1 (.nd a z z z z z z z), show 1 < 8 by decide, ?_, ?_, h⟩
    · intro i hi
      have hi : i < 1 := hi
      obtain rfl : i = 0 := by omega
      rfl
    · intro i hi hi2
      exact sel_rest a z (show 0 < i from hi) hi2
  | r1 a =>
    refine ⟨.r2 (.nd a (Oct.all z) (Oct.all z) (Oct.all z) (Oct.all z) (Oct.all z) (Oct.all z) (Oct.all z)), show 8 < 64 by decide, fun i hi => by simp only [Rws.cap] at hi; simp only [Rws.at, show i / 8 = 0 by omega, sel_first, show i % 8 = i by omega], fun i h1 h2 => ?_, h⟩
    simp only [Rws.cap] at h1 h2
    simp only [Rws.at]
    rw [sel_rest _ _ (show 0 < i / 8 by omega) (by omega), Oct.sel_all]
  | r2 a =>
    refine ⟨.r3 (.nd a (Oct.all (Oct.all z)) (Oct.all (Oct.all z)) (Oct.all (Oct.all z)) (Oct.all (Oct.all z)) (Oct.all (Oct.all z)) (Oct.all (Oct.all z)) (Oct.all (Oct.all z))), show 64 < 512 by decide, fun i hi => by simp only [Rws.cap] at hi; simp only [Rws.at, show i / 64 = 0 by omega, sel_first, show i / 8 % 8 = i / 8 by omega], fun i h1 h2 => ?_, h⟩
    simp only [Rws.cap] at h1 h2
    simp only [Rws.at]
    rw [sel_rest _ _ (show 0 < i / 64 by omega) (by omega), Oct.sel_all, Oct.sel_all]
  | r3 a =>
    refine ⟨.r4 (.nd a (Oct.all (Oct.all (Oct.all z))) (Oct.all (Oct.all (Oct.all z))) (Oct.all (Oct.all (Oct.all z))) (Oct.all (Oct.all (Oct.all z))) (Oct.all (Oct.all (Oct.all z))) (Oct.all (Oct.all (Oct.all z))) (Oct.all (Oct.all (Oct.all z)))), show 512 < 4096 by decide, fun i hi => by simp only [Rws.cap] at hi; simp only [Rws.at, show i / 512 = 0 by omega, sel_first, show i / 64 % 8 = i / 64 by omega], fun i h1 h2 => ?_, h⟩
    simp only [Rws.cap] at h1 h2
    simp only [Rws.at]
    rw [sel_rest _ _ (show 0 < i / 512 by omega) (by omega), Oct.sel_all, Oct.sel_all, Oct.sel_all]
  | r4 a => cases h
theorem Rws.grow_spec {t : Rws} {m : Nat} {z : List AV} {k : Rws → Bool} (h : t.grow m z k = true) : ∃ u : Rws, m ≤ u.cap ∧ t.cap ≤ u.cap ∧ (∀ i, i < t.cap → u.at i = t.at i) ∧ (∀ i, t.cap ≤ i → i < u.cap → u.at i = z) ∧ k u = true := by
  have one : ∀ (f : Rws → Bool), (∀ u, t.cap ≤ u.cap → (∀ i, i < t.cap → u.at i = t.at i) → (∀ i, t.cap ≤ i → i < u.cap → u.at i = z) → f u = true → ∃ v : Rws, m ≤ v.cap ∧ t.cap ≤ v.cap ∧ (∀ i, i < t.cap → v.at i = t.at i) ∧ (∀ i, t.cap ≤ i → i < v.cap → v.at i = z) ∧ k v = true) →
      ∀ u : Rws, t.cap ≤ u.cap → (∀ i, i < t.cap → u.at i = t.at i) → (∀ i, t.cap ≤ i → i < u.cap → u.at i = z) → (Bool.rec (u.up z f) (k u) (m.ble u.room) : Bool) = true → ∃ v : Rws, m ≤ v.cap ∧ t.cap ≤ v.cap ∧ (∀ i, i < t.cap → v.at i = t.at i) ∧ (∀ i, t.cap ≤ i → i < v.cap → v.at i = z) ∧ k v = true := by
    intro f hf u hc ha hz hb
    cases hm : m.ble u.room with
    | true => rw [hm] at hb; exact ⟨u, by rw [← Rws.room_eq]; exact (ble_iff _ _).1 hm, hc, ha, hz, hb⟩
    | false =>
      rw [hm] at hb
      obtain ⟨v, h1, h2, h3, h4⟩ := Rws.up_spec hb
      exact hf v (by omega) (fun i hi => by rw [h2 i (by omega), ha i hi]) (fun i hi hi2 => by
        by_cases hc2 : i < u.cap
        · rw [h2 i hc2, hz i hi hc2]
        · exact h3 i (by omega) hi2) h4
  refine one _ (fun u hc ha hz hb => one _ (fun u hc ha hz hb => one _ (fun u hc ha hz hb => one _ (fun u hc ha hz hb => ?_) u hc ha hz hb) u hc ha hz hb) u hc ha hz hb) t (Nat.le_refl _) (fun _ _ => rfl) (fun i h1 h2 => by omega) h
  cases hm : m.ble u.room with
  | true => rw [hm] at hb; exact ⟨u, by rw [← Rws.room_eq]; exact (ble_iff _ _).1 hm, hc, ha, hz, hb⟩
  | false => rw [hm] at hb; cases hb
/-! ### memory -/
/-- a block stands so to cells of the model's: from d on, m of them, of block c -/
def BlkR (φ : Phi) (B : Blk) (w : World) (c d m : Nat) : Prop := match B with
  | .no => True
  | .mk n r t => n ≤ m ∧ 1 ≤ r ∧ n ≤ r * t.cap ∧ (∀ i, i < t.cap → (t.at i).length ≤ r) ∧ (∀ o, o < n → ∃ v x, (t.at (o / r))[o % r]? = some v ∧ w.cell? ⟨c, d + o, none⟩ = some x ∧ RV φ v x ∧ x.oneCell' = true) ∧
      (∀ j, j < m → (w.cell? ⟨c, d + j, none⟩).isSome = true ∧ w.frozen? ⟨c, d + j, none⟩ = false) ∧ (r = 1 ∨ ∀ k, w.frozen? ⟨c, k, none⟩ = false)
  | .it l p => d = 0 ∧ ∃ s, w.heap[c]? = some (.stringIter s p) ∧ strL s = l
structure Mem (φ : Phi) (h : H) (w : World) : Prop where
  blk : ∀ b c d m, φ b = some (c, d, m) → BlkR φ (h.at b) w c d m
  inj : ∀ b b' c d m d' m', φ b = some (c, d, m) → φ b' = some (c, d', m') → h.at b ≠ .no → h.at b' ≠ .no → b = b'
  fresh : ∀ b : Nm, h.nx.num ≤ b.num → φ b = none
  low : ∀ b c d m, φ b = some (c, d, m) → c < w.heap.size
  clean : ∀ b : Nm, h.nx.num ≤ b.num → h.at b = .no
/-- what a step leaves: what was not named is as it was -/
structure Kept (φ : Phi) (w : World) (ψ : Phi) (w' : World) : Prop where
  le : φ.le ψ
  size : w.heap.size ≤ w'.heap.size
  old : ∀ c, c < w.heap.size → (∀ b d m, φ b ≠ some (c, d, m)) → w'.heap[c]? = w.heap[c]?
  names : ∀ b c d m, ψ b = some (c, d, m) → c < w.heap.size → ∃ b' d' m', φ b' = some (c, d', m')
  tape : w'.tape = w.tape
  os : w'.os = w.os
  output : w'.output = w.output
theorem Kept.refl (φ : Phi) (w : World) : Kept φ w φ w := ⟨φ.le_refl, Nat.le_refl _, fun _ _ _ => rfl, fun b c d m h _ => ⟨b, d, m, h⟩, rfl, rfl, rfl⟩
theorem Kept.trans {φ ψ χ : Phi} {w v u : World} (h : Kept φ w ψ v) (g : Kept ψ v χ u) : Kept φ w χ u where
  le := Phi.le_trans h.le g.le
  size := Nat.le_trans h.size g.size
  old := fun c hc hn => by
    rw [g.old c (Nat.lt_of_lt_of_le hc h.size) (fun b d m hb => ?_), h.old c hc hn]
    obtain ⟨b', d', m', hb'⟩ := h.names b c d m hb hc
    exact hn _ _ _ hb'
  names := fun b c d m hb hc => by
    obtain ⟨b', d', m', hb'⟩ := g.names b c d m hb (Nat.lt_of_lt_of_le hc h.size)
    exact h.names b' c d' m' hb' hc
  tape := by rw [g.tape, h.tape]
  os := by rw [g.os, h.os]
  output := by rw [g.output, h.output]
theorem Kept.drew (φ : Phi) (w : World) : Kept φ w φ w.drew := ⟨φ.le_refl, Nat.le_refl _, fun _ _ _ => rfl, fun b c d m h _ => ⟨b, d, m, h⟩, rfl, rfl, rfl⟩
theorem BlkR.drew {φ : Phi} {B : Blk} {w : World} {c d m : Nat} (h : BlkR φ B w c d m) : BlkR φ B w.drew c d m := by
  cases B with
  | no => trivial
  | mk n r t => exact h
  | it l p => exact h
theorem Mem.drew {φ : Phi} {h : H} {w : World} (hm : Mem φ h w) : Mem φ h w.drew := ⟨fun b c d m hb => (hm.blk b c d m hb).drew, hm.inj, hm.fresh, hm.low, hm.clean⟩
/-- a block is forgotten -/
theorem Mem.kill {φ : Phi} {h : H} {w : World} (hm : Mem φ h w) (b : Nm) : Mem φ (h.put b .no) w where
  blk := fun b' c d m hb => by
    rw [H.at_put]
    by_cases e : b = b'
    · rw [if_pos e]; trivial
    · rw [if_neg e]; exact hm.blk b' c d m hb
  inj := fun b1 b2 c d m d' m' h1 h2 n1 n2 => by
    rw [H.at_put] at n1 n2
    by_cases e1 : b = b1
    · rw [if_pos e1] at n1; exact absurd rfl n1
    by_cases e2 : b = b2
    · rw [if_pos e2] at n2; exact absurd rfl n2
    rw [if_neg e1] at n1; rw [if_neg e2] at n2
    exact hm.inj b1 b2 c d m d' m' h1 h2 n1 n2
  fresh := fun b' hb => hm.fresh b' hb
  low := hm.low
  clean := fun b' hb => by
    rw [H.at_put]
    by_cases e : b = b'
    · rw [if_pos e]
    · rw [if_neg e]; exact hm.clean b' hb
theorem BlkR.mono {φ ψ : Phi} (hl : φ.le ψ) {B : Blk} {w : World} {c d m : Nat} (h : BlkR φ B w c d m) : BlkR ψ B w c d m := by
  cases B with
  | no => trivial
  | mk n r t =>
    obtain ⟨h1, h2, h3, hrow, h4, h5⟩ := h
    exact ⟨h1, h2, h3, hrow, fun o ho => by obtain ⟨v, x, a, b, c, d⟩ := h4 o ho; exact ⟨v, x, a, b, RV.mono hl v x c, d⟩, h5⟩
  | it l p => exact h
/-- a block's worth hangs on its own cells alone -/
theorem BlkR.same {φ : Phi} {B : Blk} {w w' : World} {c d m : Nat} (h : BlkR φ B w c d m) (he : w'.heap[c]? = w.heap[c]?) : BlkR φ B w' c d m := by
  have hc : ∀ o, w'.cell? ⟨c, o, none⟩ = w.cell? ⟨c, o, none⟩ := fun o => by simp only [World.cell?, he]
  have hf : ∀ o, w'.frozen? ⟨c, o, none⟩ = w.frozen? ⟨c, o, none⟩ := fun o => by simp only [World.frozen?, he]
  cases B with
  | no => trivial
  | mk n r t =>
    obtain ⟨h1, h2, h3, hl, h4, h5⟩ := h
    exact ⟨h1, h2, h3, hl, fun o ho => by obtain ⟨v, x, a, b, e⟩ := h4 o ho; exact ⟨v, x, a, by rw [hc]; exact b, e⟩, fun j hj => by rw [hc, hf]; exact h5.1 j hj, h5.2.imp id (fun h k => by rw [hf]; exact h k)⟩
  | it l p => obtain ⟨h1, s, h2, h3⟩ := h; exact ⟨h1, s, by rw [he]; exact h2, h3⟩
/-! ### what the steps do -/
theorem heap_alloc_lt (w : World) (o : Obj) {c : Nat} (h : c < w.heap.size) : (w.alloc o).heap[c]? = w.heap[c]? := by
  show (w.heap.push o)[c]? = _
  rw [Array.getElem?_push]; rw [if_neg (by omega)]
theorem heap_alloc_new (w : World) (o : Obj) : (w.alloc o).heap[w.heap.size]? = some o := by
  show (w.heap.push o)[w.heap.size]? = _
  rw [Array.getElem?_push]; rw [if_pos rfl]
theorem size_alloc (w : World) (o : Obj) : (w.alloc o).heap.size = w.heap.size + 1 := by show (w.heap.push o).size = _; simp
/-- a name for a new block -/
def Phi.new (φ : Phi) (b : Nm) (x : Nat × Nat × Nat) : Phi := fun a => if a = b then some x else φ a
theorem Phi.new_same (φ : Phi) (b : Nm) (x : Nat × Nat × Nat) : φ.new b x b = some x := if_pos rfl
theorem Phi.new_other (φ : Phi) {a b : Nm} (x : Nat × Nat × Nat) (h : a ≠ b) : φ.new b x a = φ a := if_neg h
theorem Phi.le_new {φ : Phi} {b : Nm} (x : Nat × Nat × Nat) (h : φ b = none) : φ.le (φ.new b x) := fun a y hy => by
  by_cases e : a = b
  · subst e; rw [h] at hy; cases hy
  · rw [Phi.new_other φ x e]; exact hy
theorem Mem.new {φ : Phi} {h h' : H} {w : World} (hm : Mem φ h w) (hn : h'.nx.num = h.nx.num + 1) {B : Blk} (ha : ∀ c, h'.at c = if h.nx = c then B else h.at c) (o : Obj) (m : Nat)
    (hB : BlkR (φ.new h.nx (w.heap.size, 0, m)) B (w.alloc o) w.heap.size 0 m) :
    Mem (φ.new h.nx (w.heap.size, 0, m)) h' (w.alloc o) ∧ Kept φ w (φ.new h.nx (w.heap.size, 0, m)) (w.alloc o) := by
  have hf : φ h.nx = none := hm.fresh _ (Nat.le_refl _)
  have hl := Phi.le_new (w.heap.size, 0, m) hf
  refine ⟨⟨?_, ?_, ?_, ?_, fun b hb => by rw [ha, if_neg (by intro e; subst e; omega)]; exact hm.clean b (by omega)⟩, ⟨hl, by rw [size_alloc]; omega, fun c hc _ => heap_alloc_lt w o hc, ?_, rfl, rfl, rfl⟩⟩
  · intro b c d k hb
    rw [ha]
    by_cases e : h.nx = b
    · subst e
      rw [Phi.new_same] at hb
      injection hb with hb
      injection hb with h1 h2
      injection h2 with h2 h3
      subst h1; subst h2; subst h3
      rw [if_pos rfl]; exact hB
    · rw [Phi.new_other φ _ (Ne.symm e)] at hb
      rw [if_neg e]
      exact ((hm.blk b c d k hb).mono hl).same (heap_alloc_lt w o (hm.low b c d k hb))
  · intro b b' c d k d' k' h1 h2 n1 n2
    rw [ha] at n1 n2
    by_cases e : h.nx = b <;> by_cases e' : h.nx = b'
    · rw [← e, ← e']
    · subst e
      rw [Phi.new_same] at h1
      rw [Phi.new_other φ _ (Ne.symm e')] at h2
      have := hm.low _ _ _ _ h2
      injection h1 with h1
      injection h1 with h1 _
      omega
    · subst e'
      rw [Phi.new_same] at h2
      rw [Phi.new_other φ _ (Ne.symm e)] at h1
      have := hm.low _ _ _ _ h1
      injection h2 with h2
      injection h2 with h2 _
      omega
    · rw [if_neg e] at n1; rw [if_neg e'] at n2
      rw [Phi.new_other φ _ (Ne.symm e)] at h1
      rw [Phi.new_other φ _ (Ne.symm e')] at h2
      exact hm.inj b b' c d k d' k' h1 h2 n1 n2
  · intro b hb
    rw [hn] at hb
    rw [Phi.new_other φ _ (by intro e; subst e; omega)]
    exact hm.fresh b (by omega)
  · intro b c d k hb
    rw [size_alloc]
    by_cases e : b = h.nx
    · subst e
      rw [Phi.new_same] at hb
      injection hb with hb
      injection hb with h1 _
      omega
    · rw [Phi.new_other φ _ e] at hb
      have := hm.low b c d k hb
      omega
  · intro b c d k hb hc
    by_cases e : b = h.nx
    · subst e
      rw [Phi.new_same] at hb
      injection hb with hb
      injection hb with h1 _
      omega
    · rw [Phi.new_other φ _ e] at hb
      exact ⟨b, d, k, hb⟩
noncomputable def cellAt (r : Nat) (t : Rws) (o : Nat) : Option AV := (t.at (o / r))[o % r]?
/-- cells of a block are written -/
theorem Mem.store {φ : Phi} {h : H} {w : World} (hm : Mem φ h w) {b : Nm} {c d m n r : Nat} {t u : Rws} (hb : φ b = some (c, d, m)) (hB : h.at b = .mk n r t) {l : List AV} {vs : List Value} {o : Nat} (hl : RL φ l vs) (h1 : ∀ y ∈ vs, y.oneCell' = true) (ho : o + l.length ≤ n)
    (hu : u.cap = t.cap) (hrow : ∀ i, i < u.cap → (u.at i).length ≤ r) (hc : ∀ i, i < r * t.cap → cellAt r u i = if o ≤ i ∧ i < o + l.length then l[i - o]? else cellAt r t i) :
    Mem φ (h.put b (.mk n r u)) (w.setCells c (d + o) vs) ∧ Kept φ w φ (w.setCells c (d + o) vs) := by
  have hblk := hm.blk b c d m hb
  rw [hB] at hblk
  obtain ⟨e1, e2, e3, _, e4, e5, e7⟩ := hblk
  have hlen := (RL_get.1 hl).1
  have hsome : ∀ j, j < vs.length → (w.cell? ⟨c, d + o + j, none⟩).isSome = true := fun j hj => by
    have := (e5 (o + j) (by omega)).1
    rwa [← Nat.add_assoc] at this
  have hne : h.at b ≠ .no := by rw [hB]; intro e; cases e
  have hother : ∀ c', c' < w.heap.size → c' ≠ c → (w.setCells c (d + o) vs).heap[c']? = w.heap[c']? := fun c' h1 h2 => World.heap_setCells_other w c (d + o) vs h1 h2
  have hsz : (w.setCells c (d + o) vs).heap.size = w.heap.size := by
    have : ∀ (vs : List Value) (o : Nat) (w : World), (w.setCells c o vs).heap.size = w.heap.size := by
      intro vs
      induction vs with
      | nil => intro o w; rfl
      | cons v r ih => intro o w; rw [World.setCells, ih]; simp [World.setCell]
    exact this _ _ _
  have htape : ∀ (vs : List Value) (o : Nat) (w : World), (w.setCells c o vs).tape = w.tape ∧ (w.setCells c o vs).os = w.os ∧ (w.setCells c o vs).output = w.output := by
    intro vs
    induction vs with
    | nil => intro o w; exact ⟨rfl, rfl, rfl⟩
    | cons v r ih => intro o w; rw [World.setCells]; exact ih _ _
  refine ⟨⟨?_, ?_, ?_, ?_, fun b' hb' => by rw [H.at_put, if_neg (by intro e; subst e; rw [hm.fresh b hb'] at hb; cases hb)]; exact hm.clean b' hb'⟩, ⟨φ.le_refl, by rw [hsz]; exact Nat.le_refl _, fun c' h1 h2 => hother c' h1 (fun e => h2 b d m (e ▸ hb)), fun b _ d m hb _ => ⟨b, d, m, hb⟩, (htape _ _ _).1, (htape _ _ _).2.1, (htape _ _ _).2.2⟩⟩
  · intro b' c' d' m' hb'
    rw [H.at_put]
    by_cases e : b = b'
    · subst e
      rw [hb] at hb'
      injection hb' with hb'
      injection hb' with g1 g2
      injection g2 with g2 g3
      subst g1; subst g2; subst g3
      rw [if_pos rfl]
      refine ⟨e1, e2, by rw [hu]; exact e3, hrow, ?_, ?_, e7.imp id (fun h k => by rw [World.frozen?_setCells]; exact h k)⟩
      · intro i hi
        have hci := hc i (by omega)
        by_cases hin : o ≤ i ∧ i < o + l.length
        · rw [if_pos hin] at hci
          have hj : i - o < vs.length := by omega
          have hcell := World.cell?_setCells_in c vs (d + o) w hsome (i - o) hj
          rw [show d + o + (i - o) = d + i by omega] at hcell
          refine ⟨l[i - o]'(by omega), vs[i - o], ?_, hcell, ?_, h1 _ (List.getElem_mem _)⟩
          · show cellAt r u i = _; rw [hci]; exact List.getElem?_eq_getElem _
          · exact (RL_get.1 hl).2 (i - o) _ _ (List.getElem?_eq_getElem _) (List.getElem?_eq_getElem _)
        · rw [if_neg hin] at hci
          obtain ⟨v, x, a1, a2, a3, a4⟩ := e4 i hi
          refine ⟨v, x, by show cellAt r u i = _; rw [hci]; exact a1, ?_, a3, a4⟩
          rw [World.cell?_setCells_out c vs (d + o) w _ (fun _ _ => by show d + i < d + o ∨ d + o + vs.length ≤ d + i; omega)]
          exact a2
      · intro j hj
        rw [World.frozen?_setCells]
        refine ⟨?_, (e5 j hj).2⟩
        by_cases hin : o ≤ j ∧ j < o + vs.length
        · have hcell := World.cell?_setCells_in c vs (d + o) w hsome (j - o) (by omega)
          rw [show d + o + (j - o) = d + j by omega] at hcell
          rw [hcell]; rfl
        · rw [World.cell?_setCells_out c vs (d + o) w _ (fun _ _ => by show d + j < d + o ∨ d + o + vs.length ≤ d + j; omega)]
          exact (e5 j hj).1
    · rw [if_neg e]
      have hB' := hm.blk b' c' d' m' hb'
      by_cases hn : h.at b' = .no
      · rw [hn]; trivial
      · exact hB'.same (hother c' (hm.low _ _ _ _ hb') (fun ec => by subst ec; exact e (hm.inj b b' _ _ _ _ _ hb hb' hne hn)))
  · intro b1 b2 c' d1 m1 d2 m2 g1 g2 n1 n2
    rw [H.at_put] at n1 n2
    refine hm.inj b1 b2 c' d1 m1 d2 m2 g1 g2 ?_ ?_
    · by_cases e : b = b1
      · subst e; exact hne
      · rwa [if_neg e] at n1
    · by_cases e : b = b2
      · subst e; exact hne
      · rwa [if_neg e] at n2
  · exact hm.fresh
  · intro b' c' d' m' hb'; rw [hsz]; exact hm.low b' c' d' m' hb'
/-- a block goes on under another name -/
theorem Mem.over {φ : Phi} {h h' : H} {w w' : World} (hm : Mem φ h w) {b : Nm} {c d m : Nat} (hb : φ b = some (c, d, m)) (hne : h.at b ≠ .no) (hn : h'.nx.num = h.nx.num + 1) {B : Blk}
    (ha : ∀ x, h'.at x = if h.nx = x then B else if b = x then .no else h.at x) (hs : w'.heap.size = w.heap.size) (ho : ∀ x, x < w.heap.size → x ≠ c → w'.heap[x]? = w.heap[x]?)
    (ht : w'.tape = w.tape ∧ w'.os = w.os ∧ w'.output = w.output) (d2 m2 : Nat) (hB : BlkR (φ.new h.nx (c, d2, m2)) B w' c d2 m2) :
    Mem (φ.new h.nx (c, d2, m2)) h' w' ∧ Kept φ w (φ.new h.nx (c, d2, m2)) w' := by
  have hf : φ h.nx = none := hm.fresh _ (Nat.le_refl _)
  have hl := Phi.le_new (c, d2, m2) hf
  have hbn : h.nx ≠ b := by intro e; rw [e, hb] at hf; cases hf
  have hcs := hm.low _ _ _ _ hb
  have ex : ∀ {x c' d' m'}, φ.new h.nx (c, d2, m2) x = some (c', d', m') → (x = h.nx ∧ c' = c ∧ d' = d2 ∧ m' = m2) ∨ (x ≠ h.nx ∧ φ x = some (c', d', m')) := by
    intro x c' d' m' hx
    by_cases e : x = h.nx
    · subst e
      rw [Phi.new_same] at hx
      injection hx with hx
      injection hx with h1 h2
      injection h2 with h2 h3
      exact Or.inl ⟨rfl, h1.symm, h2.symm, h3.symm⟩
    · rw [Phi.new_other φ _ e] at hx; exact Or.inr ⟨e, hx⟩
  refine ⟨⟨?_, ?_, ?_, ?_, ?_⟩, ⟨hl, by rw [hs]; exact Nat.le_refl _, fun c' h1 h2 => ho c' h1 (fun e => h2 b d m (e ▸ hb)), ?_, ht.1, ht.2.1, ht.2.2⟩⟩
  · intro x c' d' m' hx
    rw [ha]
    rcases ex hx with ⟨rfl, rfl, rfl, rfl⟩ | ⟨e, hx2⟩
    · rw [if_pos rfl]; exact hB
    · rw [if_neg (Ne.symm e)]
      by_cases e2 : b = x
      · rw [if_pos e2]; trivial
      · rw [if_neg e2]
        by_cases hno : h.at x = .no
        · rw [hno]; trivial
        · exact ((hm.blk x c' d' m' hx2).mono hl).same (ho c' (hm.low _ _ _ _ hx2) (fun ec => by subst ec; exact e2 (hm.inj b x _ _ _ _ _ hb hx2 hne hno)))
  · intro x y c' d' m' d'' m'' hx hy nx ny
    rw [ha] at nx ny
    rcases ex hx with ⟨rfl, rfl, rfl, rfl⟩ | ⟨e, hx2⟩ <;> rcases ex hy with ⟨rfl, h2, rfl, rfl⟩ | ⟨e', hy2⟩
    · rfl
    · rw [if_neg (Ne.symm e')] at ny
      by_cases e2 : b = y
      · rw [if_pos e2] at ny; exact absurd rfl ny
      · rw [if_neg e2] at ny; exact absurd (hm.inj b y _ _ _ _ _ hb hy2 hne ny) e2
    · subst h2
      rw [if_neg (Ne.symm e)] at nx
      by_cases e2 : b = x
      · rw [if_pos e2] at nx; exact absurd rfl nx
      · rw [if_neg e2] at nx; exact absurd (hm.inj b x _ _ _ _ _ hb hx2 hne nx) e2
    · rw [if_neg (Ne.symm e)] at nx; rw [if_neg (Ne.symm e')] at ny
      by_cases e2 : b = x
      · rw [if_pos e2] at nx; exact absurd rfl nx
      by_cases e3 : b = y
      · rw [if_pos e3] at ny; exact absurd rfl ny
      rw [if_neg e2] at nx; rw [if_neg e3] at ny
      exact hm.inj x y _ _ _ _ _ hx2 hy2 nx ny
  · intro x hx
    rw [hn] at hx
    rw [Phi.new_other φ _ (by intro e; subst e; omega)]
    exact hm.fresh x (by omega)
  · intro x c' d' m' hx
    rw [hs]
    rcases ex hx with ⟨rfl, rfl, rfl, rfl⟩ | ⟨e, hx2⟩
    · exact hcs
    · exact hm.low _ _ _ _ hx2
  · intro x hx
    rw [ha, if_neg (by intro e; subst e; omega)]
    by_cases e : b = x
    · rw [if_pos e]
    · rw [if_neg e]; exact hm.clean x (by omega)
  · intro x c' d' m' hx hc
    rcases ex hx with ⟨rfl, rfl, rfl, rfl⟩ | ⟨e, hx2⟩
    · exact ⟨b, d, m, hb⟩
    · exact ⟨x, d', m', hx2⟩
/-- a heap that lies under another: what it holds, the other holds -/
def H.le (h g : H) : Prop := ∀ b, h.at b ≠ .no → g.at b = h.at b
theorem H.le_refl (h : H) : h.le h := fun _ _ => rfl
theorem H.le_trans {h g k : H} (h1 : h.le g) (h2 : g.le k) : h.le k := fun b hb => by rw [h2 b (by rw [h1 b hb]; exact hb), h1 b hb]
theorem H.le.mk {h g : H} (hl : h.le g) {b : Nm} {n r : Nat} {t : Rws} (hB : h.at b = .mk n r t) : g.at b = .mk n r t := by rw [hl b (by rw [hB]; intro e; cases e), hB]
/-- what had a name, or had none, is as it was -/
def Old (n : Nat) (φ ψ : Phi) : Prop := ∀ b : Nm, b.num < n → ψ b = φ b
theorem Old.refl (n : Nat) (φ : Phi) : Old n φ φ := fun _ _ => rfl
theorem Old.trans {n m : Nat} {φ ψ χ : Phi} (h1 : Old n φ ψ) (h2 : Old m ψ χ) (hm : n ≤ m) : Old n φ χ := fun b hb => by rw [h2 b (by omega), h1 b hb]
theorem Old.new (φ : Phi) (b : Nm) (x : Nat × Nat × Nat) : Old b.num φ (φ.new b x) := fun a ha => Phi.new_other φ x (by intro e; subst e; omega)
/-- blocks that were made, and have no name yet -/
theorem Mem.grow {φ : Phi} {h h' : H} {w : World} (hm : Mem φ h w) (hn : h.nx.num ≤ h'.nx.num) (ha : ∀ b : Nm, b.num < h.nx.num → h'.at b = h.at b) (hc : ∀ b : Nm, h'.nx.num ≤ b.num → h'.at b = .no) : Mem φ h' w where
  blk := fun b c d m hb => by
    have : b.num < h.nx.num := by
      apply Nat.lt_of_not_le
      intro hx; rw [hm.fresh b hx] at hb; cases hb
    rw [ha b this]; exact hm.blk b c d m hb
  inj := fun b b' c d m d' m' h1 h2 n1 n2 => by
    have l1 : b.num < h.nx.num := by
      apply Nat.lt_of_not_le
      intro hx; rw [hm.fresh b hx] at h1; cases h1
    have l2 : b'.num < h.nx.num := by
      apply Nat.lt_of_not_le
      intro hx; rw [hm.fresh b' hx] at h2; cases h2
    rw [ha b l1] at n1; rw [ha b' l2] at n2
    exact hm.inj b b' c d m d' m' h1 h2 n1 n2
  fresh := fun b hb => hm.fresh b (by omega)
  low := hm.low
  clean := hc
/-- a block that stands ready comes to be -/
theorem Mem.born {φ : Phi} {h : H} {w : World} (hm : Mem φ h w) {b : Nm} (hf : φ b = none) (hb : b.num < h.nx.num) (o : Obj) (m : Nat)
    (hB : BlkR (φ.new b (w.heap.size, 0, m)) (h.at b) (w.alloc o) w.heap.size 0 m) :
    Mem (φ.new b (w.heap.size, 0, m)) h (w.alloc o) ∧ Kept φ w (φ.new b (w.heap.size, 0, m)) (w.alloc o) := by
  have hl := Phi.le_new (w.heap.size, 0, m) hf
  have ex : ∀ {x c' d' m'}, φ.new b (w.heap.size, 0, m) x = some (c', d', m') → (x = b ∧ c' = w.heap.size ∧ d' = 0 ∧ m' = m) ∨ (x ≠ b ∧ φ x = some (c', d', m')) := by
    intro x c' d' m' hx
    by_cases e : x = b
    · subst e
      rw [Phi.new_same] at hx
      injection hx with hx
      injection hx with h1 h2
      injection h2 with h2 h3
      exact Or.inl ⟨rfl, h1.symm, h2.symm, h3.symm⟩
    · rw [Phi.new_other φ _ e] at hx; exact Or.inr ⟨e, hx⟩
  refine ⟨⟨?_, ?_, ?_, ?_, hm.clean⟩, ⟨hl, by rw [size_alloc]; omega, fun c hc _ => heap_alloc_lt w o hc, ?_, rfl, rfl, rfl⟩⟩
  · intro x c d k hx
    rcases ex hx with ⟨rfl, rfl, rfl, rfl⟩ | ⟨_, hx2⟩
    · exact hB
    · exact ((hm.blk x c d k hx2).mono hl).same (heap_alloc_lt w o (hm.low x c d k hx2))
  · intro x y c d k d' k' h1 h2 n1 n2
    rcases ex h1 with ⟨rfl, rfl, rfl, rfl⟩ | ⟨_, g1⟩ <;> rcases ex h2 with ⟨rfl, e2, rfl, rfl⟩ | ⟨_, g2⟩
    · rfl
    · have := hm.low _ _ _ _ g2; omega
    · have := hm.low _ _ _ _ g1; omega
    · exact hm.inj x y c d k d' k' g1 g2 n1 n2
  · intro x hx
    rw [Phi.new_other φ _ (by intro e; subst e; omega)]
    exact hm.fresh x hx
  · intro x c d k hx
    rw [size_alloc]
    rcases ex hx with ⟨rfl, rfl, rfl, rfl⟩ | ⟨_, g⟩
    · omega
    · have := hm.low x c d k g; omega
  · intro x c d k hx hc
    rcases ex hx with ⟨rfl, rfl, rfl, rfl⟩ | ⟨_, g⟩
    · omega
    · exact ⟨x, d, k, g⟩
theorem size_setCells' (c : Nat) : ∀ (vs : List Value) (o : Nat) (w : World), (w.setCells c o vs).heap.size = w.heap.size := by
  intro vs
  induction vs with
  | nil => intro o w; rfl
  | cons v r ih => intro o w; rw [World.setCells, ih]; simp [World.setCell]
theorem rest_setCells (c : Nat) : ∀ (vs : List Value) (o : Nat) (w : World), (w.setCells c o vs).tape = w.tape ∧ (w.setCells c o vs).os = w.os ∧ (w.setCells c o vs).output = w.output := by
  intro vs
  induction vs with
  | nil => intro o w; exact ⟨rfl, rfl, rfl⟩
  | cons v r ih => intro o w; rw [World.setCells]; exact ih _ _
end Go.AM
