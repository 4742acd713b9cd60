/- The abstract machine over this program: numbers, texts, operands, and what they come to. -/
import Derived.Test.YtkdjhegkcfmkoaaGreatMb
import Derived.WalkKit
namespace Go.Proofs.YtkdjhegkcfmkoaaGreat.AM
open Go.AM
theorem forceV_eq (x : AV) (k : K1) : forceV x k = k x := by cases x <;> rfl
theorem forceL_eq (l : List AV) (k : KL) : forceL l k = k l := by
  induction l generalizing k with
  | nil => rfl
  | cons a t ih => show forceV a (fun a => forceL t fun t => k (a :: t)) = _; rw [forceV_eq, ih]
theorem forceN_eq (n : Nat) (k : Nat → Bool) : forceN n k = k n := by cases n <;> rfl
theorem retB_eq (b : Bool) (c : K1) : retB b c = c (.bool b) := by cases b <;> rfl
theorem mkInt_eq (k : IntKind) (n : Int) (c : K1) : mkInt k n c = c (.int k n) := by
  cases n with
  | ofNat m => cases m <;> rfl
  | negSucc m => rfl
theorem wrap_small (k : IntKind) (m : Nat) (h : m ≤ kmax k) : k.wrap (Int.ofNat m) = Int.ofNat m := by
  have hm : (Int.ofNat m) = (m : Int) := rfl
  rw [hm]
  cases k <;> simp only [kmax] at h <;> simp only [IntKind.wrap, IntKind.bits, IntKind.signed] <;> simp <;> omega
theorem retN_eq (k : IntKind) (m : Nat) (c : K1) : retN k m c = c (.int k (k.wrap (Int.ofNat m))) := by
  unfold retN
  cases h : m.ble (kmax k) with
  | true => rw [wrap_small k m ((ble_iff _ _).1 h)]; cases m <;> rfl
  | false => exact mkInt_eq _ _ _
theorem retI_eq (k : IntKind) (n : Int) (c : K1) : retI k n c = c (.int k (k.wrap n)) := by
  cases n with
  | ofNat m => exact retN_eq k m c
  | negSucc m => exact mkInt_eq _ _ _
theorem addI_eq (k : IntKind) (x y : Int) (c : K1) : addI k x y c = c (.int k (k.wrap (x + y))) := by
  cases x with
  | ofNat a => cases y with
    | ofNat b => exact retN_eq k (a + b) c
    | negSucc b => exact retI_eq k _ c
  | negSucc a => exact retI_eq k _ c
theorem subI_eq (k : IntKind) (x y : Int) (c : K1) : subI k x y c = c (.int k (k.wrap (x - y))) := by
  cases x with
  | ofNat a => cases y with
    | ofNat b =>
      show (Bool.rec (retI k (Int.sub (Int.ofNat a) (Int.ofNat b)) c) (retN k (a.sub b) c) (b.ble a) : Bool) = _
      cases h : b.ble a with
      | true =>
        show retN k (a - b) c = _
        rw [retN_eq]
        have := (ble_iff _ _).1 h
        rw [show (Int.ofNat (a - b)) = Int.ofNat a - Int.ofNat b by simp only [Int.ofNat_eq_natCast]; omega]
      | false => show retI k (Int.sub (Int.ofNat a) (Int.ofNat b)) c = _; rw [retI_eq]; rfl
    | negSucc b => show retI k (Int.sub (Int.ofNat a) (Int.negSucc b)) c = _; rw [retI_eq]; rfl
  | negSucc a => show retI k (Int.sub (Int.negSucc a) y) c = _; rw [retI_eq]; rfl
theorem mulI_eq (k : IntKind) (x y : Int) (c : K1) : mulI k x y c = c (.int k (k.wrap (x * y))) := by
  cases x with
  | ofNat a => cases y with
    | ofNat b => exact retN_eq k (a * b) c
    | negSucc b => exact retI_eq k _ c
  | negSucc a => exact retI_eq k _ c
theorem eqI_eq (x y : Int) : eqI x y = (x == y) := by
  cases x with
  | ofNat a => cases y with
    | ofNat b => show a.beq b = _; rw [Bool.eq_iff_iff, beq_iff, beq_iff_eq]; simp only [Int.ofNat_eq_natCast]; omega
    | negSucc b => show false = _; symm; rw [beq_eq_false_iff_ne]; simp only [Int.ofNat_eq_natCast]; omega
  | negSucc a => cases y with
    | ofNat b => show false = _; symm; rw [beq_eq_false_iff_ne]; simp only [Int.ofNat_eq_natCast]; omega
    | negSucc b => show a.beq b = _; rw [Bool.eq_iff_iff, beq_iff, beq_iff_eq]; omega
theorem leI_eq (x y : Int) : leI x y = decide (x ≤ y) := by
  cases x with
  | ofNat a => cases y with
    | ofNat b => show a.ble b = _; rw [Bool.eq_iff_iff, ble_iff, decide_eq_true_iff]; simp only [Int.ofNat_eq_natCast]; omega
    | negSucc b => show false = _; symm; rw [decide_eq_false_iff_not]; simp only [Int.ofNat_eq_natCast]; omega
  | negSucc a => cases y with
    | ofNat b => show true = _; symm; rw [decide_eq_true_iff]; simp only [Int.ofNat_eq_natCast]; omega
    | negSucc b => show b.ble a = _; rw [Bool.eq_iff_iff, ble_iff, decide_eq_true_iff]; omega
theorem natOf_eq (w : Nat) (x : Int) : natOf w x = (BitVec.ofInt w x).toNat := by
  rw [BitVec.toNat_ofInt]
  cases x with
  | ofNat a =>
    show a % 2 ^ w = _
    simp only [Int.ofNat_eq_natCast]
    rw [show ((a : Int) % ((2 ^ w : Nat) : Int)) = ((a % 2 ^ w : Nat) : Int) from rfl, Int.toNat_natCast]
  | negSucc a =>
    show 2 ^ w - (a % 2 ^ w + 1) = _
    rw [Int.negSucc_emod _ (by exact_mod_cast Nat.two_pow_pos w)]
    have h := Nat.mod_lt a (Nat.two_pow_pos w)
    omega
theorem shlI_eq (k : IntKind) (x : Int) (n : Nat) (c : K1) : shlI k x n c = c (.int k (k.wrap (x * 2 ^ n))) := by
  cases x with
  | ofNat a =>
    show retN k (a * 2 ^ n) c = _
    rw [retN_eq]
    simp only [Int.ofNat_eq_natCast]
    rw [Int.natCast_mul, Int.natCast_pow]; rfl
  | negSucc a =>
    show retI k (Int.negSucc a * Int.ofNat (2 ^ n)) c = _
    rw [retI_eq]
    simp only [Int.ofNat_eq_natCast]
    rw [Int.natCast_pow]; rfl
theorem shrI_eq (x : Int) (n : Nat) : shrI x n = x.fdiv (2 ^ n) := by
  have hp : (0 : Int) ≤ 2 ^ n := by exact_mod_cast Nat.zero_le (2 ^ n)
  rw [Int.fdiv_eq_ediv_of_nonneg _ hp]
  cases x with
  | ofNat a =>
    show Int.ofNat (a / 2 ^ n) = _
    simp only [Int.ofNat_eq_natCast]
    rw [Int.natCast_ediv, Int.natCast_pow]; rfl
  | negSucc a =>
    show Int.negSucc (a / 2 ^ n) = _
    have h : (0 : Int) < 2 ^ n := by exact_mod_cast Nat.two_pow_pos n
    rw [Int.negSucc_ediv _ h]
    rw [Int.negSucc_eq, Int.natCast_ediv, Int.natCast_pow]; rfl
/-! ### texts -/
theorem sapp_eq (l m : List Nat) (k : KS) : sapp l m k = k (l ++ m) := by
  induction l generalizing k with
  | nil => rfl
  | cons a t ih => exact ih (fun t => k (a :: t))
theorem sdrop_eq (l : List Nat) (n : Nat) (k : KS) : sdrop l n k = k (l.drop n) := by
  induction l generalizing n with
  | nil => cases n <;> rfl
  | cons a t ih => cases n with
    | zero => rfl
    | succ n => exact ih n
theorem stake_eq (l : List Nat) (n : Nat) (k : KS) : stake l n k = k (l.take n) := by
  induction l generalizing n k with
  | nil => cases n <;> rfl
  | cons a t ih => cases n with
    | zero => rfl
    | succ n => exact ih n (fun t => k (a :: t))
theorem snth_spec {l : List Nat} {i : Nat} {k : Nat → Bool} (h : snth l i k = true) : ∃ v, l[i]? = some v ∧ k v = true := by
  induction l generalizing i with
  | nil => cases h
  | cons a t ih => cases i with
    | zero => exact ⟨a, rfl, h⟩
    | succ j => obtain ⟨v, hv, hk⟩ := ih h; exact ⟨v, by simpa using hv, hk⟩
theorem leqL_eq (l m : List Nat) : leqL l m = (l == m) := by
  induction l generalizing m with
  | nil => cases m <;> rfl
  | cons a t ih => cases m with
    | nil => rfl
    | cons b r =>
      show (Bool.rec false (leqL t r) (a.beq b) : Bool) = _
      rw [List.cons_beq_cons, ← ih r]
      cases h : a.beq b with
      | true => rw [show (a == b) = true by rw [beq_iff_eq]; exact (beq_iff _ _).1 h]; rfl
      | false => rw [show (a == b) = false by rw [beq_eq_false_iff_ne]; intro e; rw [(beq_iff _ _).2 e] at h; cases h]; rfl
theorem u8_inj (l m : List UInt8) : ((l.map fun c => c.toNat) == (m.map fun c => c.toNat)) = (l == m) := by
  rw [Bool.eq_iff_iff, beq_iff_eq, beq_iff_eq]
  constructor
  · intro h
    exact (List.map_inj_right (fun a b h => UInt8.toNat_inj.1 h)).1 h
  · rintro rfl; rfl
theorem lltL_eq (l m : List UInt8) : lltL (l.map fun c => c.toNat) (m.map fun c => c.toNat) = Op.bytesLess l m := by
  induction l generalizing m with
  | nil => cases m <;> rfl
  | cons a t ih => cases m with
    | nil => rfl
    | cons b r =>
      show (Bool.rec (a.toNat.succ.ble b.toNat) (lltL (t.map _) (r.map _)) (a.toNat.beq b.toNat) : Bool) = _
      rw [ih r, Op.bytesLess]
      cases h : a.toNat.beq b.toNat with
      | true =>
        have e : a = b := UInt8.toNat_inj.1 ((beq_iff _ _).1 h)
        subst e
        simp
      | false =>
        have e : a ≠ b := by intro e; subst e; rw [(beq_iff _ _).2 rfl] at h; cases h
        have : (a.toNat.succ.ble b.toNat) = decide (a < b) := by rw [Bool.eq_iff_iff, ble_iff, decide_eq_true_iff, UInt8.lt_iff_toNat_lt]; exact Iff.rfl
        simp [this, e]
/-! ### operands -/
noncomputable def rdA (E : List AV) (F : Fr) (x : Operand) : Option AV := match x with
  | .tmp t => (match locD t with | .e i => E[i]? | .f p => some (F.at p))
  | .const v => some (absV v)
  | .global _ => none
  | .func f => some (.row (.fn f 0) [])
theorem rd_spec {E : List AV} {F : Fr} {x : Operand} {k : K1} (h : rd E F x k = true) : ∃ v, rdA E F x = some v ∧ k v = true := by
  cases x with
  | tmp t =>
    change (Loc.rec (fun i => lnthK E i k) (fun p => Fr.get F p k) (locD t) : Bool) = true at h
    show ∃ v, (match locD t with | .e i => E[i]? | .f p => some (F.at p)) = some v ∧ k v = true
    generalize locD t = loc at h
    cases loc with
    | e i => exact lnthK_spec h
    | f p => exact ⟨F.at p, rfl, by rw [← Fr.get_eq F p k]; exact h⟩
  | const v => exact ⟨_, rfl, h⟩
  | global g => cases h
  | func f => exact ⟨_, rfl, h⟩
theorem rdL_spec {E : List AV} {F : Fr} {l : List Operand} {k : KL} (h : rdL E F l k = true) : ∃ vs : List AV, l.map (rdA E F) = vs.map some ∧ k vs = true := by
  induction l generalizing k with
  | nil => exact ⟨[], rfl, h⟩
  | cons x t ih =>
    obtain ⟨v, hv, h⟩ := rd_spec (k := fun v => rdL E F t fun vs => k (v :: vs)) h
    obtain ⟨vs, hvs, h⟩ := ih h
    exact ⟨v :: vs, by simp only [List.map_cons, hv, hvs], h⟩
theorem absV_ok (φ : Phi) (v : Value) : RV φ (absV v) v := by
  unfold absV
  split
  · rw [RV]
  · rw [RV]
  · rw [RV]; rfl
  · rename_i s
    rw [RV]; exact ⟨s, rfl, rfl, rfl⟩
  · rw [RV]; rfl
  · rw [RV]; rfl
  · rw [RV]; rfl
  · rw [RV]; rfl
  · rw [RV]; trivial
end Go.Proofs.YtkdjhegkcfmkoaaGreat.AM
namespace Go.Proofs.YtkdjhegkcfmkoaaGreat.AM
open Go.AM
theorem beqK_eq (a b : IntKind) : beqK a b = true ↔ a = b := by cases a <;> cases b <;> simp [beqK]
theorem beqB_eq (a b : Bool) : beqB a b = (a == b) := by cases a <;> cases b <;> rfl
/-- what a value without parts is -/
def Yields1 (s : Sem Value) (c : K1) : Prop := ∃ r, c r = true ∧ ∀ (φ : Phi) (w : World), ∃ r', s.run Tryz.prog w = .ok r' w ∧ RV φ r r'
theorem y_int {s : Sem Value} {c : K1} {k : IntKind} {n : Int} (h : c (.int k n) = true) (hs : s = pure (.int k n)) : Yields1 s c := ⟨_, h, fun φ w => ⟨.int k n, by rw [hs]; rfl, by rw [RV]⟩⟩
theorem y_bool {s : Sem Value} {c : K1} {b : Bool} (h : c (.bool b) = true) (hs : s = pure (.bool b)) : Yields1 s c := ⟨_, h, fun φ w => ⟨.bool b, by rw [hs]; rfl, by rw [RV]⟩⟩
theorem y_flt {s : Sem Value} {c : K1} {n : Nat} (h : c (.at (.flt n)) = true) (hs : s = pure (.float .f64 n)) : Yields1 s c := ⟨_, h, fun φ w => ⟨.float .f64 n, by rw [hs]; rfl, by rw [RV]; rfl⟩⟩
theorem wrap_toNat (k : IntKind) (x : BitVec k.bits) (n : Nat) (h : x.toNat = n) : k.wrap (x.toNat : Int) = k.wrap (Int.ofNat n) := by rw [h]; rfl
theorem intOp_ok {op : BinOp} {k : IntKind} {a b : Int} {c : K1} {t : TypeId} (h : intOp op k a b c = true) : Yields1 (binOp op t (.int k a) (.int k b)) c := by
  cases op <;> simp only [intOp] at h
  case add => rw [addI_eq] at h; exact y_int h (by simp [binOp, Op.intArith])
  case sub => rw [subI_eq] at h; exact y_int h (by simp [binOp, Op.intArith])
  case mul => rw [mulI_eq] at h; exact y_int h (by simp [binOp, Op.intArith])
  case quo =>
    rw [eqI_eq] at h
    cases hz : (b == 0) with
    | true => rw [hz] at h; cases h
    | false => rw [hz] at h; simp only [retI_eq] at h; exact y_int h (by have hz' : b ≠ 0 := by simpa using hz
                                                                         simp [binOp, Op.intDiv, hz'])
  case rem =>
    rw [eqI_eq] at h
    cases hz : (b == 0) with
    | true => rw [hz] at h; cases h
    | false => rw [hz] at h; simp only [mkInt_eq] at h; exact y_int h (by have hz' : b ≠ 0 := by simpa using hz
                                                                          simp [binOp, Op.intDiv, hz'])
  case and => rw [retN_eq, natOf_eq, natOf_eq] at h; exact y_int h (by simp only [binOp, Op.intBits]; simp only [ne_eq, not_true_eq_false, if_false]; rw [wrap_toNat _ _ _ (BitVec.toNat_and _ _)]; rfl)
  case or => rw [retN_eq, natOf_eq, natOf_eq] at h; exact y_int h (by simp only [binOp, Op.intBits]; simp only [ne_eq, not_true_eq_false, if_false]; rw [wrap_toNat _ _ _ (BitVec.toNat_or _ _)]; rfl)
  case xor => rw [retN_eq, natOf_eq, natOf_eq] at h; exact y_int h (by simp only [binOp, Op.intBits]; simp only [ne_eq, not_true_eq_false, if_false]; rw [wrap_toNat _ _ _ (BitVec.toNat_xor _ _)]; rfl)
  case shl => cases h
  case shr => cases h
  case andNot =>
    rw [retN_eq, natOf_eq, natOf_eq] at h
    refine y_int h ?_
    simp only [binOp, Op.intBits]; simp only [ne_eq, not_true_eq_false, if_false]
    refine congrArg (fun z => (pure (Value.int k z) : Sem Value)) (wrap_toNat k _ _ ?_)
    show (BitVec.ofInt k.bits a &&& ~~~ BitVec.ofInt k.bits b).toNat = (BitVec.ofInt k.bits a).toNat ^^^ ((BitVec.ofInt k.bits a).toNat &&& (BitVec.ofInt k.bits b).toNat)
    rw [← BitVec.toNat_and, ← BitVec.toNat_xor]
    congr 1
    ext i hi
    simp
    cases (BitVec.ofInt k.bits a)[i] <;> cases (BitVec.ofInt k.bits b)[i] <;> rfl
  case eql => rw [retB_eq, eqI_eq] at h; exact y_bool h (by simp [binOp, Op.intCmp])
  case neq => rw [retB_eq, eqI_eq] at h; exact y_bool h (by simp [binOp, Op.intCmp]; rfl)
  case lss => rw [retB_eq, leI_eq] at h; exact y_bool h (by simp only [binOp, Op.intCmp]; rw [if_neg (by simp)]; congr 2; rw [Bool.eq_iff_iff]; simp)
  case leq => rw [retB_eq, leI_eq] at h; exact y_bool h (by simp [binOp, Op.intCmp])
  case gtr => rw [retB_eq, leI_eq] at h; exact y_bool h (by simp only [binOp, Op.intCmp]; rw [if_neg (by simp)]; congr 2; rw [Bool.eq_iff_iff]; simp)
  case geq => rw [retB_eq, leI_eq] at h; exact y_bool h (by simp [binOp, Op.intCmp])
theorem shiftOp_ok {op : BinOp} {k k' : IntKind} {a b : Int} {c : K1} {t : TypeId} (h : shiftOp op k a b c = true) : Yields1 (binOp op t (.int k a) (.int k' b)) c := by
  cases b with
  | negSucc m => cases h
  | ofNat m =>
    cases op <;> simp only [shiftOp] at h
    case shl =>
      rw [shlI_eq] at h
      refine y_int h ?_
      have hm : ¬ (Int.ofNat m < 0) := by simp only [Int.ofNat_eq_natCast]; omega
      simp only [binOp, Op.shift, if_neg hm]; rfl
    case shr =>
      rw [mkInt_eq, shrI_eq] at h
      refine y_int h ?_
      have hm : ¬ (Int.ofNat m < 0) := by simp only [Int.ofNat_eq_natCast]; omega
      simp only [binOp, Op.shift, if_neg hm]; rfl
    all_goals cases h
theorem toL (s : ByteArray) : s.toList = s.data.toList := ByteArray.toList_eq s
theorem strOp_ok {op : BinOp} {n n' : Nat} {l l' : List Nat} {c : K1} {t : TypeId} (h : strOp op n l n' l' c = true) :
    ∃ r, c r = true ∧ ∀ (s u : ByteArray), strL s = l → s.size = n → strL u = l' → u.size = n' → ∀ (φ : Phi) w, ∃ r', (binOp op t (.string s) (.string u)).run Tryz.prog w = .ok r' w ∧ RV φ r r' := by
  have he : ∀ (s u : ByteArray), strL s = l → strL u = l' → leqL l l' = (s.toList == u.toList) := by rintro s u rfl rfl; rw [leqL_eq, toL, toL]; exact u8_inj _ _
  have hl : ∀ (s u : ByteArray), strL s = l → strL u = l' → lltL l l' = Op.bytesLess s.toList u.toList := by rintro s u rfl rfl; rw [toL, toL]; exact lltL_eq _ _
  have fin : ∀ (b : Bool), c (.bool b) = true → (∀ (s u : ByteArray), strL s = l → strL u = l' → binOp op t (.string s) (.string u) = pure (.bool b)) →
      ∃ r, c r = true ∧ ∀ (s u : ByteArray), strL s = l → s.size = n → strL u = l' → u.size = n' → ∀ (φ : Phi) w, ∃ r', (binOp op t (.string s) (.string u)).run Tryz.prog w = .ok r' w ∧ RV φ r r' :=
    fun b hb hs => ⟨_, hb, fun s u h1 _ h2 _ φ w => ⟨.bool b, by rw [hs s u h1 h2]; rfl, by rw [RV]⟩⟩
  cases op <;> simp only [strOp] at h
  case add =>
    cases hb : (n.add n').ble 1000000 with
    | false => rw [hb] at h; cases h
    | true =>
      rw [hb] at h
      have hb : n + n' ≤ 1000000 := (ble_iff _ _).1 hb
      simp only [sapp_eq, forceN_eq] at h
      refine ⟨_, h, fun s u h1 h2 h3 h4 φ w => ⟨.string (s ++ u), ?_, ?_⟩⟩
      · have hn : ¬ (((s.size + u.size : Nat) : Int) > IntKind.i64.max) := by
          rw [show IntKind.i64.max = 9223372036854775807 from rfl]; omega
        simp only [binOp, Op.stringOp, if_neg hn]; rfl
      · rw [RV]; refine ⟨s ++ u, rfl, ?_, ?_⟩
        · rw [← h1, ← h3]; simp [strL, ByteArray.data_append]
        · rw [← h2, ← h4]; exact ByteArray.size_append
  case eql => rw [retB_eq] at h; exact fin _ h (fun s u h1 h2 => by simp only [binOp, Op.stringOp, he s u h1 h2])
  case neq => rw [retB_eq] at h; exact fin _ h (fun s u h1 h2 => by simp only [binOp, Op.stringOp, he s u h1 h2, Bool.not])
  case lss => rw [retB_eq] at h; exact fin _ h (fun s u h1 h2 => by simp only [binOp, Op.stringOp, hl s u h1 h2])
  case leq => rw [retB_eq] at h; exact fin _ h (fun s u h1 h2 => by simp only [binOp, Op.stringOp, he s u h1 h2, hl s u h1 h2, Bool.or])
  case gtr => rw [retB_eq] at h; exact fin _ h (fun s u h1 h2 => by simp only [binOp, Op.stringOp, he s u h1 h2, hl s u h1 h2, Bool.or, Bool.not])
  case geq => rw [retB_eq] at h; exact fin _ h (fun s u h1 h2 => by simp only [binOp, Op.stringOp, hl s u h1 h2, Bool.not])
  all_goals cases h
theorem fltOp_ok {op : BinOp} {x y : Nat} {c : K1} {t : TypeId} (h : fltOp op x y c = true) : Yields1 (binOp op t (.float .f64 x) (.float .f64 y)) c := by
  cases op <;> simp only [fltOp] at h
  case add =>
    cases hr : FloatKind.f64.format.add x y with
    | none => rw [hr] at h; cases h
    | some r => rw [hr] at h; simp only [forceN_eq] at h; exact ⟨_, h, fun φ w => ⟨.float .f64 r, by simp [binOp, Op.floatArith, hr], by rw [RV]; rfl⟩⟩
  case sub =>
    cases hr : FloatKind.f64.format.sub x y with
    | none => rw [hr] at h; cases h
    | some r => rw [hr] at h; simp only [forceN_eq] at h; exact ⟨_, h, fun φ w => ⟨.float .f64 r, by simp [binOp, Op.floatArith, hr], by rw [RV]; rfl⟩⟩
  case eql => rw [retB_eq] at h; exact y_bool h (by simp [binOp, Op.floatCmp])
  case neq => rw [retB_eq] at h; exact y_bool h (by simp [binOp, Op.floatCmp])
  case lss => rw [retB_eq] at h; exact y_bool h (by simp [binOp, Op.floatCmp])
  case leq => rw [retB_eq] at h; exact y_bool h (by simp [binOp, Op.floatCmp])
  case gtr => rw [retB_eq] at h; exact y_bool h (by simp [binOp, Op.floatCmp])
  case geq => rw [retB_eq] at h; exact y_bool h (by simp [binOp, Op.floatCmp])
  all_goals cases h
theorem isEq_spec {op : BinOp} {k : Bool → Bool} (h : isEq op k = true) : (op = .eql ∧ k true = true) ∨ (op = .neq ∧ k false = true) := by
  cases op <;> first | exact Or.inl ⟨rfl, h⟩ | exact Or.inr ⟨rfl, h⟩ | cases h
theorem tDesc_some {t : Nat} {d : TypeDesc} (h : tDesc t = d) (hd : d ≠ .invalid) : Tryz.prog.underlying t = some d := by
  unfold tDesc at h
  cases hu : Tryz.prog.underlying t with
  | none => rw [hu] at h; exact absurd h.symm hd
  | some e => rw [hu] at h; exact congrArg some h
/-- what a comparison comes to -/
theorem eq_yields {op : BinOp} {t : TypeId} {a b : Value} {r e : Bool} (ho : (op = .eql ∧ e = true) ∨ (op = .neq ∧ e = false))
    (h1 : binOp .eql t a b = (do pure (.bool (← Op.equal t a b)))) (h2 : binOp .neq t a b = (do pure (.bool (!(← Op.equal t a b))))) (w : World)
    (hr : (Op.equal t a b).run Tryz.prog w = .ok r w) : (binOp op t a b).run Tryz.prog w = .ok (.bool (beqB e r)) w := by
  rcases ho with ⟨rfl, rfl⟩ | ⟨rfl, rfl⟩
  · rw [h1]; simp [hr, beqB_eq]
  · rw [h2]; simp [hr, beqB_eq]
theorem nilT_spec {op : BinOp} {a b : Bool} {c : K1} (h : nilT op a b c = true) : ∃ e, ((op = .eql ∧ e = true) ∨ (op = .neq ∧ e = false)) ∧ (a || b) = true ∧ c (.bool (beqB e (a && b))) = true := by
  unfold nilT at h
  rcases isEq_spec h with ⟨rfl, h⟩ | ⟨rfl, h⟩
  · cases hab : Bool.or a b with
    | false => rw [hab] at h; cases h
    | true => rw [hab] at h; simp only [retB_eq] at h; exact ⟨true, Or.inl ⟨rfl, rfl⟩, rfl, h⟩
  · cases hab : Bool.or a b with
    | false => rw [hab] at h; cases h
    | true => rw [hab] at h; simp only [retB_eq] at h; exact ⟨false, Or.inr ⟨rfl, rfl⟩, rfl, h⟩
theorem nilP_spec {x : AV} {k : Bool → Bool} (h : nilP x k = true) : ∃ b, k b = true ∧ ∀ φ v, RV φ x v → ∃ p : Option Addr, v = .pointer p ∧ p.isNone = b := by
  cases x with
  | «at» a => cases a with
    | nilp => exact ⟨true, h, fun φ v hv => ⟨none, by rw [RV] at hv; exact hv, rfl⟩⟩
    | _ => cases h
  | ptr b o => exact ⟨false, h, fun φ v hv => by rw [RV] at hv; obtain ⟨c, d, m, _, rfl⟩ := hv; exact ⟨_, rfl, rfl⟩⟩
  | _ => cases h
theorem nilS_spec {x : AV} {k : Bool → Bool} (h : nilS x k = true) : ∃ b, k b = true ∧ ∀ φ v, RV φ x v → ∃ (p : Option Addr) (n c : Nat), v = .slice p n c ∧ p.isNone = b := by
  cases x with
  | «at» a => cases a with
    | nils => exact ⟨true, h, fun φ v hv => ⟨none, 0, 0, by rw [RV] at hv; exact hv, rfl⟩⟩
    | sl b o n c e =>
      refine ⟨false, h, fun φ v hv => ?_⟩
      rw [RV] at hv
      cases c with
      | none => obtain ⟨c, d, m, k, _, rfl, _⟩ := hv; exact ⟨_, _, _, rfl, rfl⟩
      | some k => obtain ⟨c, d, m, _, rfl, _⟩ := hv; exact ⟨_, _, _, rfl, rfl⟩
    | _ => cases h
  | _ => cases h
theorem nilF_spec {x : AV} {k : Bool → Bool} (h : nilF x k = true) : ∃ b, k b = true ∧ ∀ φ v, RV φ x v → (b = true ∧ v = .nilFunc) ∨ (b = false ∧ ∃ f a c, v = .func f a c) := by
  cases x with
  | «at» a => cases a with
    | nilf => exact ⟨true, h, fun φ v hv => Or.inl ⟨rfl, by rw [RV] at hv; exact hv⟩⟩
    | _ => cases h
  | row g l => cases g with
    | fn f nf => exact ⟨false, h, fun φ v hv => Or.inr ⟨rfl, by rw [RV] at hv; obtain ⟨a, b, rfl, _⟩ := hv; exact ⟨_, _, _, rfl⟩⟩⟩
    | _ => cases h
  | _ => cases h
theorem nilI_spec {x : AV} {k : Bool → Bool} (h : nilI x k = true) : ∃ b, k b = true ∧ ∀ φ v, RV φ x v → (b = true ∧ v = .nilIface) ∨ (b = false ∧ ∃ t y, v = .iface t y) := by
  cases x with
  | «at» a => cases a with
    | nili => exact ⟨true, h, fun φ v hv => Or.inl ⟨rfl, by rw [RV] at hv; exact hv⟩⟩
    | _ => cases h
  | row g l => cases g with
    | ifc t => exact ⟨false, h, fun φ v hv => Or.inr ⟨rfl, by rw [RV] at hv; obtain ⟨y, rfl, _⟩ := hv; exact ⟨_, _, rfl⟩⟩⟩
    | _ => cases h
  | _ => cases h
theorem ekOf_p {t : Nat} (h : ekOf t = .p) : ∃ e, Tryz.prog.underlying t = some (.pointer e) := by
  unfold ekOf at h
  cases hd : tDesc t <;> rw [hd] at h <;> simp at h
  exact ⟨_, tDesc_some hd (by intro e; cases e)⟩
theorem ekOf_s {t : Nat} (h : ekOf t = .s) : ∃ e, Tryz.prog.underlying t = some (.slice e) := by
  unfold ekOf at h
  cases hd : tDesc t <;> rw [hd] at h <;> simp at h
  exact ⟨_, tDesc_some hd (by intro e; cases e)⟩
theorem ekOf_f {t : Nat} (h : ekOf t = .f) : ∃ a b c, Tryz.prog.underlying t = some (.func a b c) := by
  unfold ekOf at h
  cases hd : tDesc t <;> rw [hd] at h <;> simp at h
  exact ⟨_, _, _, tDesc_some hd (by intro e; cases e)⟩
theorem ekOf_i {t : Nat} (h : ekOf t = .i) : ∃ m, Tryz.prog.underlying t = some (.interface m) := by
  unfold ekOf at h
  cases hd : tDesc t <;> rw [hd] at h <;> simp at h
  exact ⟨_, tDesc_some hd (by intro e; cases e)⟩
theorem ekOf_b {t : Nat} (h : ekOf t = .b) : Tryz.prog.underlying t = some .bool := by
  unfold ekOf at h
  cases hd : tDesc t <;> rw [hd] at h <;> simp at h
  exact tDesc_some hd (by intro e; cases e)
/-- a binary operation, with what goes ahead of it -/
noncomputable def binS (op : BinOp) (t : TypeId) (X Y : Operand) (a b : Value) : Sem Value := do eqGuard op t X Y a b; binOp op t a b
theorem equal_run (t : TypeId) (a b : Value) (w : World) (r : Bool) (h : (Op.equalIn (9999 + 1) t a b).run Tryz.prog w = .ok r w) : (Op.equal t a b).run Tryz.prog w = .ok r w := h
theorem in_pp (d t e : Nat) (p q : Option Addr) (w : World) (hu : Tryz.prog.underlying t = some (.pointer e)) (h : (p.isNone || q.isNone) = true) : (Op.equalIn (d + 1) t (.pointer p) (.pointer q)).run Tryz.prog w = .ok (p.isNone && q.isNone) w := by
  cases p <;> cases q <;> simp [Op.equalIn, run_underlying hu] at h ⊢
theorem in_ss (d t e : Nat) (p q : Option Addr) (n k n' k' : Nat) (w : World) (hu : Tryz.prog.underlying t = some (.slice e)) (h : (p.isNone || q.isNone) = true) : (Op.equalIn (d + 1) t (.slice p n k) (.slice q n' k')).run Tryz.prog w = .ok (p.isNone && q.isNone) w := by
  cases p <;> cases q <;> simp [Op.equalIn, run_underlying hu] at h ⊢
theorem in_ff (d t : Nat) {e1 e2 e3} (w : World) (hu : Tryz.prog.underlying t = some (.func e1 e2 e3)) : (Op.equalIn (d + 1) t .nilFunc .nilFunc).run Tryz.prog w = .ok true w := by simp [Op.equalIn, run_underlying hu]
theorem in_fn (d t : Nat) {e1 e2 e3} (f : Fn) (x y : Array Value) (w : World) (hu : Tryz.prog.underlying t = some (.func e1 e2 e3)) : (Op.equalIn (d + 1) t .nilFunc (.func f x y)).run Tryz.prog w = .ok false w := by simp [Op.equalIn, run_underlying hu]
theorem in_nf (d t : Nat) {e1 e2 e3} (f : Fn) (x y : Array Value) (w : World) (hu : Tryz.prog.underlying t = some (.func e1 e2 e3)) : (Op.equalIn (d + 1) t (.func f x y) .nilFunc).run Tryz.prog w = .ok false w := by simp [Op.equalIn, run_underlying hu]
theorem in_ii (d t : Nat) {m} (w : World) (hu : Tryz.prog.underlying t = some (.interface m)) : (Op.equalIn (d + 1) t .nilIface .nilIface).run Tryz.prog w = .ok true w := by simp [Op.equalIn, run_underlying hu]
theorem in_in (d t : Nat) {m} (u : TypeId) (y : Value) (w : World) (hu : Tryz.prog.underlying t = some (.interface m)) : (Op.equalIn (d + 1) t .nilIface (.iface u y)).run Tryz.prog w = .ok false w := by simp [Op.equalIn, run_underlying hu]
theorem in_ni (d t : Nat) {m} (u : TypeId) (y : Value) (w : World) (hu : Tryz.prog.underlying t = some (.interface m)) : (Op.equalIn (d + 1) t (.iface u y) .nilIface).run Tryz.prog w = .ok false w := by simp [Op.equalIn, run_underlying hu]
theorem in_bb (d t : Nat) (a b : Bool) (w : World) (hu : Tryz.prog.underlying t = some .bool) : (Op.equalIn (d + 1) t (.bool a) (.bool b)).run Tryz.prog w = .ok (a == b) w := by simp [Op.equalIn, run_underlying hu]
theorem guard_none (op : BinOp) (t : TypeId) (X Y : Operand) (a b : Value) (w : World) (hn : a ≠ .nilIface ∨ b ≠ .nilIface) (ha : ∀ l, a ≠ .agg l) : (eqGuard op t X Y a b).run Tryz.prog w = .ok () w := by
  have key : ∀ (c : Bool) (m : Sem Unit), m.run Tryz.prog w = .ok () w → (if c = true then (pure () : Sem Unit) else m).run Tryz.prog w = .ok () w := by intro c m h; cases c <;> simp [h]
  unfold eqGuard
  refine key _ _ ?_
  split
  · rcases hn with hn | hn <;> exact absurd rfl hn
  · exact absurd rfl (ha _)
  · rfl
theorem binS_run {op : BinOp} {t : TypeId} {X Y : Operand} {a b : Value} {r e : Bool} {w : World} (ho : (op = .eql ∧ e = true) ∨ (op = .neq ∧ e = false)) (hg : (eqGuard op t X Y a b).run Tryz.prog w = .ok () w)
    (h1 : binOp .eql t a b = (do pure (.bool (← Op.equal t a b)))) (h2 : binOp .neq t a b = (do pure (.bool (!(← Op.equal t a b))))) (hr : (Op.equalIn (9999 + 1) t a b).run Tryz.prog w = .ok r w) :
    (binS op t X Y a b).run Tryz.prog w = .ok (.bool (beqB e r)) w := by
  have := eq_yields ho h1 h2 w (equal_run t a b w r hr)
  unfold binS
  rw [Sem.run_bind, hg]
  exact this
theorem nilEq_ok {op : BinOp} {t : Nat} {X Y : Operand} {xc : Bool} {x y : AV} {c : K1} (hxc : xc = true → (∃ v, X = .const v) ∨ ∃ v, Y = .const v) (h : nilEq op (ekOf t) xc x y c = true) :
    ∃ r, c r = true ∧ ∀ φ a b w, RV φ x a → RV φ y b → ∃ r', (binS op t X Y a b).run Tryz.prog w = .ok r' w ∧ RV φ r r' := by
  unfold nilEq at h
  cases hk : ekOf t <;> rw [hk] at h
  case no => cases h
  case b => cases h
  case p =>
    obtain ⟨a, h, ha⟩ := nilP_spec h
    obtain ⟨b, h, hb⟩ := nilP_spec h
    obtain ⟨e, ho, hab, h⟩ := nilT_spec h
    obtain ⟨el, hu⟩ := ekOf_p hk
    refine ⟨_, h, fun φ u v w hu1 hv1 => ⟨.bool (beqB e (a && b)), ?_, by rw [RV]⟩⟩
    obtain ⟨p, rfl, hp⟩ := ha φ u hu1
    obtain ⟨q, rfl, hq⟩ := hb φ v hv1
    subst hp; subst hq
    exact binS_run ho (guard_none _ _ _ _ _ _ _ (Or.inl (by intro e; cases e)) (by intro l e; cases e)) rfl rfl (in_pp 9999 t el p q w hu hab)
  case s =>
    obtain ⟨a, h, ha⟩ := nilS_spec h
    obtain ⟨b, h, hb⟩ := nilS_spec h
    obtain ⟨e, ho, hab, h⟩ := nilT_spec h
    obtain ⟨el, hu⟩ := ekOf_s hk
    refine ⟨_, h, fun φ u v w hu1 hv1 => ⟨.bool (beqB e (a && b)), ?_, by rw [RV]⟩⟩
    obtain ⟨p, n, k, rfl, hp⟩ := ha φ u hu1
    obtain ⟨q, n', k', rfl, hq⟩ := hb φ v hv1
    subst hp; subst hq
    exact binS_run ho (guard_none _ _ _ _ _ _ _ (Or.inl (by intro e; cases e)) (by intro l e; cases e)) rfl rfl (in_ss 9999 t el p q n k n' k' w hu hab)
  case f =>
    obtain ⟨a, h, ha⟩ := nilF_spec h
    obtain ⟨b, h, hb⟩ := nilF_spec h
    obtain ⟨e, ho, hab, h⟩ := nilT_spec h
    obtain ⟨e1, e2, e3, hu⟩ := ekOf_f hk
    refine ⟨_, h, fun φ u v w hu1 hv1 => ⟨.bool (beqB e (a && b)), ?_, by rw [RV]⟩⟩
    rcases ha φ u hu1 with ⟨rfl, rfl⟩ | ⟨rfl, f, x1, x2, rfl⟩ <;> rcases hb φ v hv1 with ⟨rfl, rfl⟩ | ⟨rfl, g, y1, y2, rfl⟩
    · exact binS_run ho (guard_none _ _ _ _ _ _ _ (Or.inl (by intro e; cases e)) (by intro l e; cases e)) rfl rfl (in_ff 9999 t w hu)
    · exact binS_run ho (guard_none _ _ _ _ _ _ _ (Or.inl (by intro e; cases e)) (by intro l e; cases e)) rfl rfl (in_fn 9999 t g y1 y2 w hu)
    · exact binS_run ho (guard_none _ _ _ _ _ _ _ (Or.inl (by intro e; cases e)) (by intro l e; cases e)) rfl rfl (in_nf 9999 t f x1 x2 w hu)
    · cases hab
  case i =>
    obtain ⟨a, h, ha⟩ := nilI_spec h
    obtain ⟨b, h, hb⟩ := nilI_spec h
    obtain ⟨m, hu⟩ := ekOf_i hk
    cases hab2 : Bool.and a b with
    | true =>
      rw [hab2] at h
      cases xc with
      | false => cases h
      | true =>
        obtain ⟨e, ho, hab, h⟩ := nilT_spec h
        refine ⟨_, h, fun φ u v w hu1 hv1 => ⟨.bool (beqB e (a && b)), ?_, by rw [RV]⟩⟩
        rcases ha φ u hu1 with ⟨rfl, rfl⟩ | ⟨rfl, _⟩
        · rcases hb φ v hv1 with ⟨rfl, rfl⟩ | ⟨rfl, _⟩
          · refine binS_run ho ?_ rfl rfl (in_ii 9999 t w hu)
            rcases hxc rfl with ⟨z, rfl⟩ | ⟨z, rfl⟩ <;> rcases ho with ⟨rfl, _⟩ | ⟨rfl, _⟩ <;> simp [eqGuard]
          · cases hab2
        · cases hab2
    | false =>
      rw [hab2] at h
      obtain ⟨e, ho, hab, h⟩ := nilT_spec h
      refine ⟨_, h, fun φ u v w hu1 hv1 => ⟨.bool (beqB e (a && b)), ?_, by rw [RV]⟩⟩
      rcases ha φ u hu1 with ⟨rfl, rfl⟩ | ⟨rfl, x1, x2, rfl⟩ <;> rcases hb φ v hv1 with ⟨rfl, rfl⟩ | ⟨rfl, y1, y2, rfl⟩
      · cases hab2
      · exact binS_run ho (guard_none _ _ _ _ _ _ _ (Or.inr (by intro e; cases e)) (by intro l e; cases e)) rfl rfl (in_in 9999 t y1 y2 w hu)
      · exact binS_run ho (guard_none _ _ _ _ _ _ _ (Or.inl (by intro e; cases e)) (by intro l e; cases e)) rfl rfl (in_ni 9999 t x1 x2 w hu)
      · cases hab
theorem boolEq_ok {op : BinOp} {t : Nat} {X Y : Operand} {a b : Bool} {c : K1} (h : boolEq op (ekOf t) a b c = true) : ∃ r, c r = true ∧ ∀ (φ : Phi) w, ∃ r', (binS op t X Y (.bool a) (.bool b)).run Tryz.prog w = .ok r' w ∧ RV φ r r' := by
  unfold boolEq at h
  cases hk : ekOf t <;> rw [hk] at h
  case b =>
    have hu := ekOf_b hk
    have fin : ∀ e, ((op = .eql ∧ e = true) ∨ (op = .neq ∧ e = false)) → c (.bool (beqB e (beqB a b))) = true → ∃ r, c r = true ∧ ∀ (φ : Phi) w, ∃ r', (binS op t X Y (.bool a) (.bool b)).run Tryz.prog w = .ok r' w ∧ RV φ r r' := fun e ho h =>
      ⟨_, h, fun φ w => ⟨.bool (beqB e (beqB a b)), binS_run ho (guard_none _ _ _ _ _ _ _ (Or.inl (by intro e; cases e)) (by intro l e; cases e)) rfl rfl (by rw [beqB_eq a b]; exact in_bb 9999 t a b w hu), by rw [RV]⟩⟩
    have h : isEq op (fun e => retB (beqB e (beqB a b)) c) = true := h
    rcases isEq_spec h with ⟨rfl, h1⟩ | ⟨rfl, h1⟩
    · rw [retB_eq] at h1; exact fin true (Or.inl ⟨rfl, rfl⟩) h1
    · rw [retB_eq] at h1; exact fin false (Or.inr ⟨rfl, rfl⟩) h1
  all_goals cases h
theorem guard_plain (op : BinOp) (t : TypeId) (X Y : Operand) (a b : Value) (w : World) (hn : a ≠ .nilIface) (ha : ∀ l, a ≠ .agg l) : (eqGuard op t X Y a b).run Tryz.prog w = .ok () w := guard_none _ _ _ _ _ _ _ (Or.inl hn) ha
theorem binS_of {op : BinOp} {t : TypeId} {X Y : Operand} {a b : Value} {c : K1} (hn : a ≠ .nilIface) (ha : ∀ l, a ≠ .agg l) (h : Yields1 (binOp op t a b) c) :
    ∃ r, c r = true ∧ ∀ (φ : Phi) w, ∃ r', (binS op t X Y a b).run Tryz.prog w = .ok r' w ∧ RV φ r r' := by
  obtain ⟨r, h1, h2⟩ := h
  refine ⟨r, h1, fun φ w => ?_⟩
  obtain ⟨r', h3, h4⟩ := h2 φ w
  exact ⟨r', by unfold binS; rw [Sem.run_bind, guard_plain op t X Y a b w hn ha]; exact h3, h4⟩
set_option maxRecDepth 100000 in
theorem binV_ok {op : BinOp} {t : Nat} {X Y : Operand} {xc : Bool} {x y : AV} {c : K1} (hxc : xc = true → (∃ v, X = .const v) ∨ ∃ v, Y = .const v) (h : binV op (ekOf t) xc x y c = true) :
    ∃ r, c r = true ∧ ∀ φ a b w, RV φ x a → RV φ y b → ∃ r', (binS op t X Y a b).run Tryz.prog w = .ok r' w ∧ RV φ r r' := by
  cases x with
  | «at» z => cases z with
    | any => cases h
    | sz => cases h
    | nilp => exact nilEq_ok hxc (show nilEq op (ekOf t) xc (.at .nilp) y c = true from h)
    | nils => exact nilEq_ok hxc (show nilEq op (ekOf t) xc (.at .nils) y c = true from h)
    | nilf => exact nilEq_ok hxc (show nilEq op (ekOf t) xc (.at .nilf) y c = true from h)
    | nili => exact nilEq_ok hxc (show nilEq op (ekOf t) xc (.at .nili) y c = true from h)
    | sl b o n k e => exact nilEq_ok hxc (show nilEq op (ekOf t) xc (.at (.sl b o n k e)) y c = true from h)
    | flt n =>
      obtain ⟨m, rfl, h⟩ := onFlt_spec h
      obtain ⟨r, h1, h2⟩ := binS_of (X := X) (Y := Y) (by intro e; cases e) (by intro l e; cases e) (fltOp_ok (t := t) h)
      exact ⟨r, h1, fun φ a b w ha hb => by rw [RV] at ha hb; obtain rfl := ha; obtain rfl := hb; exact h2 φ w⟩
    | str n l =>
      obtain ⟨m, k, rfl, h⟩ := onStr_spec h
      obtain ⟨r, h1, h2⟩ := strOp_ok (t := t) h
      refine ⟨r, h1, fun φ u v w ha hb => ?_⟩
      rw [RV] at ha hb
      obtain ⟨s, rfl, e1, e2⟩ := ha
      obtain ⟨s', rfl, e3, e4⟩ := hb
      obtain ⟨r', h3, h4⟩ := h2 s s' e1 e2 e3 e4 φ w
      exact ⟨r', by unfold binS; rw [Sem.run_bind, guard_plain op t X Y _ _ w (by intro e; cases e) (by intro l e; cases e)]; exact h3, h4⟩
  | row g l => exact nilEq_ok hxc (show nilEq op (ekOf t) xc (.row g l) y c = true from h)
  | bool a =>
    obtain ⟨b, rfl, h⟩ := onBool_spec h
    obtain ⟨r, h1, h2⟩ := boolEq_ok (X := X) (Y := Y) h
    exact ⟨r, h1, fun φ u v w ha hb => by rw [RV] at ha hb; obtain rfl := ha; obtain rfl := hb; exact h2 φ w⟩
  | ptr b o => exact nilEq_ok hxc (show nilEq op (ekOf t) xc (.ptr b o) y c = true from h)
  | int k a =>
    obtain ⟨k', b, rfl, g⟩ := onInt_spec (show AV.onInt y (fun k' b => Bool.rec (Bool.rec false (intOp op k a b c) (beqK k k')) (shiftOp op k a b c) (isShift op)) = true from h)
    clear h
    have h3 : Yields1 (binOp op t (.int k a) (.int k' b)) c := by
      cases hs : isShift op with
      | true => rw [hs] at g; exact shiftOp_ok g
      | false =>
        rw [hs] at g
        cases hk : beqK k k' with
        | false => rw [hk] at g; cases g
        | true => rw [hk] at g; obtain rfl := (beqK_eq k k').1 hk; exact intOp_ok g
    obtain ⟨r, h1, h2⟩ := binS_of (X := X) (Y := Y) (by intro e; cases e) (by intro l e; cases e) h3
    exact ⟨r, h1, fun φ u v w ha hb => by rw [RV] at ha hb; obtain rfl := ha; obtain rfl := hb; exact h2 φ w⟩
end Go.Proofs.YtkdjhegkcfmkoaaGreat.AM
namespace Go.Proofs.YtkdjhegkcfmkoaaGreat.AM
open Go.AM
/-- an operand reads as it should -/
def Rd (f : Operand → Operand) (E : List AV) (F : Fr) (φ : Phi) (ρ : Operand → Value) (x : Operand) : Prop := ∀ v, rdA E F (f x) = some v → RV φ v (ρ x)
/-- an operation that leaves memory alone: what it yields, whatever the memory -/
def Quiet (f : Operand → Operand) (E : List AV) (F : Fr) (o : Oper) (h : H) (c : K2) : Prop :=
  ∃ r, c r h = true ∧ ∀ φ ρ w, (∀ x ∈ o.op.operands, Rd f E F φ ρ x) → ∃ r', (execOp ρ o).run Tryz.prog w = .ok (.value r') w ∧ RV φ r r'
/-- what it yields, where memory stands so -/
def Reads (f : Operand → Operand) (E : List AV) (F : Fr) (o : Oper) (h : H) (c : K2) : Prop :=
  ∃ r, c r h = true ∧ ∀ hh, h.le hh → ∀ φ ρ w, Mem φ hh w → (∀ x ∈ o.op.operands, Rd f E F φ ρ x) → ∃ r', (execOp ρ o).run Tryz.prog w = .ok (.value r') w ∧ RV φ r r'
theorem Quiet.reads {f : Operand → Operand} {E : List AV} {F : Fr} {o : Oper} {h : H} {c : K2} (q : Quiet f E F o h c) : Reads f E F o h c := by
  obtain ⟨r, h1, h2⟩ := q; exact ⟨r, h1, fun _ _ φ ρ w _ => h2 φ ρ w⟩
variable {f : Operand → Operand} {E : List AV} {F : Fr} {o : Oper} {h : H} {c : K2} {cl : Cl}
theorem run_value (s : Sem Value) (w : World) (r : Value) (hs : s.run Tryz.prog w = .ok r w) : (do pure (Next.value (← s)) : Sem Next).run Tryz.prog w = .ok (.value r) w := by simp [hs]
theorem q_move {x : Operand} (ho : o.op = .move x ∨ o.op = .assign x) (hh : b_move (f x) cl E F h c = true) : Quiet f E F o h c := by
  obtain ⟨v, hv, hc⟩ := rd_spec hh
  refine ⟨v, hc, fun φ ρ w hx => ⟨ρ x, ?_, hx x ?_ v hv⟩⟩
  · rcases ho with ho | ho <;> simp [execOp, ho]
  · rcases ho with ho | ho <;> simp [Op.operands, ho]
theorem q_pick {x a b : Operand} (ho : o.op = .pick x a b) (hh : b_pick (f x) (f a) (f b) cl E F h c = true) : Quiet f E F o h c := by
  obtain ⟨v, hv, hc⟩ := rd_spec hh
  obtain ⟨t, rfl, hc⟩ := onBool_spec hc
  cases t with
  | true =>
    obtain ⟨u, hu, hc⟩ := rd_spec hc
    refine ⟨u, hc, fun φ ρ w hx => ⟨ρ a, ?_, hx a (by simp [Op.operands, ho]) u hu⟩⟩
    have h1 := hx x (by simp [Op.operands, ho]) _ hv
    rw [RV] at h1
    simp [execOp, ho, h1, asBool]
  | false =>
    obtain ⟨u, hu, hc⟩ := rd_spec hc
    refine ⟨u, hc, fun φ ρ w hx => ⟨ρ b, ?_, hx b (by simp [Op.operands, ho]) u hu⟩⟩
    have h1 := hx x (by simp [Op.operands, ho]) _ hv
    rw [RV] at h1
    simp [execOp, ho, h1, asBool]
theorem q_nilCheck {x : Operand} (ho : o.op = .nilCheck x) (hh : b_nilCheck (f x) cl E F h c = true) : Quiet f E F o h c := by
  obtain ⟨v, hv, hc⟩ := rd_spec hh
  have hc : AV.nilOf v (fun b => Bool.rec (c v h) false b) = true := hc
  cases v with
  | «at» a =>
    cases a with
    | sl b o1 n k e =>
      refine ⟨_, hc, fun φ ρ w hx => ⟨ρ x, ?_, hx x (by simp [Op.operands, ho]) _ hv⟩⟩
      have h1 := hx x (by simp [Op.operands, ho]) _ hv
      rw [RV] at h1
      cases k with
      | none => obtain ⟨_, _, _, _, _, h1, _⟩ := h1; simp [execOp, ho, h1]
      | some k => obtain ⟨_, _, _, _, h1, _⟩ := h1; simp [execOp, ho, h1]
    | _ => cases hc
  | ptr b o1 =>
    refine ⟨_, hc, fun φ ρ w hx => ⟨ρ x, ?_, hx x (by simp [Op.operands, ho]) _ hv⟩⟩
    have h1 := hx x (by simp [Op.operands, ho]) _ hv
    rw [RV] at h1
    obtain ⟨_, _, _, _, h1⟩ := h1
    simp [execOp, ho, h1]
  | row g l =>
    cases g with
    | fn f' nf =>
      refine ⟨_, hc, fun φ ρ w hx => ⟨ρ x, ?_, hx x (by simp [Op.operands, ho]) _ hv⟩⟩
      have h1 := hx x (by simp [Op.operands, ho]) _ hv
      rw [RV] at h1
      obtain ⟨_, _, h1, _⟩ := h1
      simp [execOp, ho, h1]
    | _ => cases hc
  | _ => cases hc
theorem isC_spec {x : Operand} (h : isC x = true) : ∃ v, x = .const v := by
  cases x with
  | const v => exact ⟨v, rfl⟩
  | _ => cases h
theorem q_binOp {op : BinOp} {t u : TypeId} {x y : Operand} (hf : ∀ x, isC (f x) = true → ∃ v, x = .const v) (ho : o.op = .binOp op t x y u) (hh : b_binOp op t (f x) (f y) u cl E F h c = true) : Quiet f E F o h c := by
  obtain ⟨a, ha, hc⟩ := rd_spec hh
  obtain ⟨b, hb, hc⟩ := rd_spec hc
  obtain ⟨r, h1, h2⟩ := binV_ok (X := x) (Y := y) (c := fun v => c v h) (by
    intro hx
    cases h1 : isC (f x) with
    | true => exact Or.inl (hf _ h1)
    | false => rw [h1] at hx; exact Or.inr (hf _ hx)) hc
  refine ⟨r, h1, fun φ ρ w hx => ?_⟩
  obtain ⟨r', h3, h4⟩ := h2 φ (ρ x) (ρ y) w (hx x (by simp [Op.operands, ho]) _ ha) (hx y (by simp [Op.operands, ho]) _ hb)
  refine ⟨r', ?_, h4⟩
  simp only [execOp, ho]
  exact run_value _ w _ h3
theorem q_unOp {op : UnOp} {t : TypeId} {x : Operand} (ho : o.op = .unOp op t x) (hh : b_unOp op t (f x) cl E F h c = true) : Quiet f E F o h c := by
  obtain ⟨a, ha, hc⟩ := rd_spec hh
  cases op with
  | neg =>
    obtain ⟨k, n, rfl, g⟩ := onInt_spec hc
    rw [subI_eq] at g
    refine ⟨_, g, fun φ ρ w hx => ⟨.int k (k.wrap (0 - n)), ?_, by rw [RV]⟩⟩
    have h1 := hx x (by simp [Op.operands, ho]) _ ha
    rw [RV] at h1
    simp only [execOp, ho]
    exact run_value _ w _ (by rw [h1]; rfl)
  | xor =>
    obtain ⟨k, n, rfl, g⟩ := onInt_spec hc
    rw [retN_eq, natOf_eq] at g
    refine ⟨_, g, fun φ ρ w hx => ⟨_, ?_, by rw [RV]⟩⟩
    have h1 := hx x (by simp [Op.operands, ho]) _ ha
    rw [RV] at h1
    simp only [execOp, ho]
    refine run_value _ w _ ?_
    rw [h1]
    simp only [Op.unary, Op.intBits]
    refine congrArg (fun z => Result.ok (Value.int k z) w) (wrap_toNat k _ _ ?_)
    rw [BitVec.toNat_xor]
    have : (BitVec.ofInt k.bits (if k.signed then -1 else k.max)).toNat = (Nat.pow 2 k.bits).pred := by cases k <;> rfl
    rw [this]; rfl
  | not =>
    obtain ⟨b, rfl, g⟩ := onBool_spec hc
    rw [retB_eq] at g
    refine ⟨_, g, fun φ ρ w hx => ⟨.bool (!b), ?_, by rw [RV]⟩⟩
    have h1 := hx x (by simp [Op.operands, ho]) _ ha
    rw [RV] at h1
    simp only [execOp, ho]
    exact run_value _ w _ (by rw [h1]; rfl)
  | plus => cases hc
theorem q_makeInterface {t : TypeId} {x : Operand} (ho : o.op = .makeInterface t x) (hh : b_makeInterface t (f x) cl E F h c = true) : Quiet f E F o h c := by
  obtain ⟨a, ha, hc⟩ := rd_spec hh
  cases hi : mkI t with
  | false => rw [hi] at hc; cases hc
  | true =>
    rw [hi] at hc
    refine ⟨_, hc, fun φ ρ w hx => ⟨.iface t (ρ x), ?_, ?_⟩⟩
    · unfold mkI at hi
      cases hd : Tryz.prog.underlying t with
      | none => rw [hd] at hi; cases hi
      | some d =>
        rw [hd] at hi
        simp only [execOp, ho]
        refine run_value _ w _ ?_
        unfold Instr.makeInterface
        rw [Sem.run_bind, run_underlying hd]
        cases d <;> first | rfl | cases hi
    · rw [RV]; exact ⟨_, rfl, by rw [RL_cons]; exact ⟨_, _, rfl, hx x (by simp [Op.operands, ho]) _ ha, by rw [RL_nil]⟩⟩
theorem RL_of_map {φ : Phi} {ρ : Operand → Value} {xs : List Operand} {vs : List AV} (hv : (xs.map f).map (rdA E F) = vs.map some) (hx : ∀ x ∈ xs, Rd f E F φ ρ x) : RL φ vs (xs.map ρ) := by
  induction xs generalizing vs with
  | nil => cases vs with
    | nil => rw [RL_nil]; rfl
    | cons a t => cases hv
  | cons x xs ih => cases vs with
    | nil => cases hv
    | cons v vs =>
      simp only [List.map_cons, List.cons.injEq] at hv
      rw [List.map_cons, RL_cons]
      exact ⟨_, _, rfl, hx x (by simp) v hv.1, ih hv.2 (fun y hy => hx y (by simp [hy]))⟩
theorem RL_append {φ : Phi} {l m : List AV} {vs us : List Value} (h1 : RL φ l vs) (h2 : RL φ m us) : RL φ (l ++ m) (vs ++ us) := by
  induction l generalizing vs with
  | nil => rw [RL_nil] at h1; subst h1; exact h2
  | cons a t ih =>
    rw [RL_cons] at h1
    obtain ⟨v, r, rfl, h3, h4⟩ := h1
    rw [List.cons_append, List.cons_append, RL_cons]
    exact ⟨_, _, rfl, h3, ih h4⟩
theorem q_makeFunc {g : Fn} {a b : Array Operand} (ho : o.op = .makeFunc g a b) (hh : b_makeFunc g (a.map f) (b.map f) cl E F h c = true) : Quiet f E F o h c := by
  cases g with
  | func i =>
    have hh : rdL E F (a.map f).toList (fun a => rdL E F (b.map f).toList fun b => forceN (llen a) fun n => lappK a b fun l => c (.row (.fn i n) l) h) = true := hh
    obtain ⟨vs, h1, hh⟩ := rdL_spec hh
    obtain ⟨us, h2, hh⟩ := rdL_spec hh
    rw [forceN_eq, lappK_eq, llen_eq] at hh
    refine ⟨_, hh, fun φ ρ w hx => ⟨.func (.func i) (a.map ρ) (b.map ρ), by simp [execOp, ho, Instr.makeFunc], ?_⟩⟩
    rw [Array.toList_map] at h1 h2
    have r1 := RL_of_map (ρ := ρ) (φ := φ) h1 (fun x hm => hx x (by simp [Op.operands, ho]; exact Or.inl (by simpa using hm)))
    have r2 := RL_of_map (ρ := ρ) (φ := φ) h2 (fun x hm => hx x (by simp [Op.operands, ho]; exact Or.inr (by simpa using hm)))
    rw [RV]
    refine ⟨_, _, rfl, ?_, ?_⟩
    · have := (RL_get.1 r1).1; simp at this ⊢; exact this.symm
    · rw [Array.toList_map, Array.toList_map]; exact RL_append r1 r2
  | _ => cases hh
end Go.Proofs.YtkdjhegkcfmkoaaGreat.AM
