/- The abstract machine over this program: functions whose answers are numbers, proved by walks of their own. -/
import Derived.Test.YtkdjhegkcfmkoaaGreatMp
import Derived.Test.YtkdjhegkcfmkoaaGreatNf
namespace Go.AM
open Go.RowKit
/-- what a call leaves that changed nothing of what was there -/
theorem Mem.below {φ : Phi} {h : H} {w w' : World} (hm : Mem φ h w) (hb : Below w.heap.size w w') : Mem φ h w' ∧ Kept φ w φ w' :=
  ⟨⟨fun b c d m hx => (hm.blk b c d m hx).same (hb.block c (hm.low b c d m hx)), hm.inj, hm.fresh, fun b c d m hx => Nat.lt_of_lt_of_le (hm.low b c d m hx) hb.size, hm.clean⟩,
    ⟨φ.le_refl, hb.size, fun c hc _ => hb.block c hc, fun b c d m hx _ => ⟨b, d, m, hx⟩, hb.tape, hb.os, hb.output⟩⟩
end Go.AM
namespace Go.Proofs.YtkdjhegkcfmkoaaGreat.AM
open Go.AM Go.RowKit
set_option maxRecDepth 100000
/-- one whose walk says what it answers -/
theorem prim_calls {g : Nat} {p : Prim} (hc : ∀ args w, (callFunc g args).run Tryz.prog w = .ok (.enter g args) w) (hp : ∀ l h (c : K2), p l h c = true → ∃ r, c r h = true ∧ ∀ (φ : Phi) (vs : Array Value) w, RL φ l vs.toList → ∃ r', RV φ r r' ∧ Calls Tryz.prog g vs w fun e w' => e = .returned r' ∧ Below w.heap.size w w') : PrimAt g p := by
  intro l h c hh
  obtain ⟨r, h1, h2⟩ := hp l h c hh
  refine ⟨r, h, h1, Nat.le_refl _, fun φ vs w o a next Q hm hr hn => ?_⟩
  obtain ⟨r', h3, h4⟩ := h2 φ vs w hr
  rw [hc, Oper.upon_enter]
  refine h4.mono ?_
  rintro e w' ⟨rfl, hb⟩
  obtain ⟨m1, m2⟩ := hm.below hb
  exact hn φ w' r' m2 (Old.refl _ _) m1 h3
/-! ### crc -/
theorem tab_ok : ∀ k, k < 16 → Nat.mod (Nat.shiftRight crcTab (Nat.mul 32 k)) 4294967296 = Md.nibT k := by
  intro k hk
  match k, hk with
  | 0, _ => decide +kernel
  | 1, _ => decide +kernel
  | 2, _ => decide +kernel
  | 3, _ => decide +kernel
  | 4, _ => decide +kernel
  | 5, _ => decide +kernel
  | 6, _ => decide +kernel
  | 7, _ => decide +kernel
  | 8, _ => decide +kernel
  | 9, _ => decide +kernel
  | 10, _ => decide +kernel
  | 11, _ => decide +kernel
  | 12, _ => decide +kernel
  | 13, _ => decide +kernel
  | 14, _ => decide +kernel
  | 15, _ => decide +kernel
  | n + 16, h => exact absurd h (by omega)
theorem crcNib_eq (r : Nat) (k : Nat → Bool) : crcNib r k = k (Md.nib r) := by
  unfold crcNib
  rw [forceN_eq]
  have h := tab_ok (r % 16) (by omega)
  show k (Nat.xor (r / 16) (Nat.mod (Nat.shiftRight crcTab (Nat.mul 32 (r % 16))) 4294967296)) = _
  rw [h]
  rfl
theorem crcK_eq (s : List Nat) (r : Nat) (k : Nat → Bool) : crcK s r k = k (s.foldl Md.crcTake r) := by
  induction s generalizing r with
  | nil => rfl
  | cons a t ih =>
    show forceN (Nat.xor r a) (fun r => crcNib r fun r => crcNib r fun r => tick (crcK t) r k) = _
    rw [forceN_eq, crcNib_eq, crcNib_eq]
    exact ih _
theorem str_is {s : ByteArray} {l : List Nat} (h : strL s = l) : ∃ b : List UInt8, Value.string s = S b ∧ l = b.map (fun c => c.toNat) ∧ b.length = s.size := by
  obtain ⟨⟨d⟩⟩ := s
  exact ⟨d, rfl, h.symm, rfl⟩
theorem prim_more : PrimAt 316 p_more := prim_calls (fun args w => Tryz.call316 args w) fun l h c hh => by
  obtain ⟨x, y, rfl, g⟩ := arg2_spec hh
  obtain ⟨kd, n, rfl, g1⟩ := onInt_spec g
  obtain ⟨e1, g2⟩ := boolRec_t g1
  have e1 := beqK_spec e1
  subst e1
  cases n with
  | negSucc n => cases g2
  | ofNat r =>
    obtain ⟨n, s, rfl, g3⟩ := onStr_spec g2
    obtain ⟨e2, g4⟩ := boolRec_t g3
    obtain ⟨e3, g5⟩ := boolRec_t g4
    have e2 : r ≤ 4294967295 := (ble_iff _ 4294967295).1 e2
    have e3 : n ≤ 1000000 := (ble_iff _ 1000000).1 e3
    rw [forceN_eq] at g5
    rw [crcK_eq, forceN_eq] at g5
    refine ⟨_, g5, fun φ vs w hr => ?_⟩
    obtain ⟨u, v, hu, h1, h2⟩ := list2 hr
    have h1 := RV_int.1 h1
    subst h1
    obtain ⟨t, rfl, q1, q2⟩ := RV_at.1 h2
    obtain ⟨b, q3, q4, q5⟩ := str_is q1
    refine ⟨.int .u32 (Md.crcMore r b : Nat), ?_, ?_⟩
    · rw [RV_int]
      subst q4
      rw [List.foldl_map]
      rfl
    · rw [arr2v hu, q3]
      exact crcMore_any r b w (by omega) (by omega)
end Go.Proofs.YtkdjhegkcfmkoaaGreat.AM
namespace Go.Proofs.YtkdjhegkcfmkoaaGreat.AM
open Go.AM Go.RowKit
set_option maxRecDepth 100000
theorem twoK_spec {l : List Nat} {k : Nat → List Nat → Bool} (h : twoK l k = true) : ∃ a b r, l = a :: b :: r ∧ k (a * 256 + b) r = true := by
  match l, h with
  | [], h => cases h
  | [_], h => cases h
  | a :: b :: r, h =>
    have h : forceN ((a.mul 256).add b) (fun n => k n r) = true := h
    rw [forceN_eq] at h
    exact ⟨a, b, r, rfl, h⟩
theorem two_at {b : List UInt8} {o x y : Nat} {r : List Nat} (h : (b.drop o).map (fun c => c.toNat) = x :: y :: r) : Md.at2 b o = x * 256 + y ∧ (b.drop (o + 2)).map (fun c => c.toNat) = r := by
  have h0 := congrArg (fun l => l[0]?) h
  have h1 := congrArg (fun l => l[1]?) h
  have h2 := congrArg (fun l => l.drop 2) h
  simp only [List.getElem?_map, List.getElem?_drop, List.getElem?_cons_zero, List.getElem?_cons_succ] at h0 h1
  obtain ⟨u, hu, rfl⟩ := Option.map_eq_some_iff.1 h0
  obtain ⟨v, hv, rfl⟩ := Option.map_eq_some_iff.1 h1
  rw [Nat.add_zero] at hu
  refine ⟨?_, ?_⟩
  · unfold Md.at2
    rw [List.getD_eq_getElem?_getD, List.getD_eq_getElem?_getD, hu, hv]
    rfl
  · simpa [List.map_drop, List.drop_drop] using h2
theorem slotsK_spec : ∀ (n : Nat) (l : List Nat) (k : List (Nat × Nat) → Bool), slotsK n l k = true → ∃ t, k t = true ∧ ∀ (b : List UInt8) (o : Nat), (b.drop o).map (fun c => c.toNat) = l → t = (List.range n).map fun i => (Md.at2 b (o + 4 * i), Md.at2 b (o + 2 + 4 * i))
  | 0, l, k, h => ⟨[], h, fun _ _ _ => rfl⟩
  | n + 1, l, k, h => by
    obtain ⟨a, b, r, rfl, g⟩ := twoK_spec (show twoK l (fun a l => twoK l fun b l => slotsK n l fun t => k ((a, b) :: t)) = true from h)
    obtain ⟨c, d, r, rfl, g1⟩ := twoK_spec g
    obtain ⟨t, g2, g3⟩ := slotsK_spec n _ _ g1
    refine ⟨_, g2, fun s o ho => ?_⟩
    obtain ⟨e1, e2⟩ := two_at ho
    obtain ⟨e3, e4⟩ := two_at e2
    rw [List.range_succ_eq_map, List.map_cons, List.map_map, g3 s (o + 2 + 2) e4, ← e1, ← e3]
    congr 1
    apply List.map_congr_left
    intro i _
    simp only [Function.comp_apply, Nat.mul_add, Nat.succ_eq_add_one]
    rw [show o + 2 + 2 + 4 * i = o + (4 * i + 4 * 1) by omega, show o + 2 + 2 + 2 + 4 * i = o + 2 + (4 * i + 4 * 1) by omega]
theorem orB_eq (x y : Bool) : orB x y = (x || y) := by cases x <;> rfl
theorem beq0 (n : Nat) : n.beq 0 = (n == 0) := by rw [Bool.eq_iff_iff, beq_iff_eq]; exact beq_iff n 0
theorem ble_dec (m n : Nat) : m.ble n = decide (m ≤ n) := by
  rw [Bool.eq_iff_iff, decide_eq_true_iff]; exact ble_iff m n
theorem apartK_eq (a b c d : Nat) : apartK a b c d = Md.slApart (a, b) (c, d) := by
  unfold apartK Md.slApart
  rw [orB_eq, orB_eq, orB_eq, beq0, beq0, ble_dec, ble_dec, Bool.or_assoc, Bool.or_assoc]
  rfl
theorem recAnd (x y : Bool) : (Bool.rec false y x : Bool) = (x && y) := by cases x <;> rfl
theorem apAllK_eq (a b : Nat) (l : List (Nat × Nat)) : apAllK a b l = l.all (Md.slApart (a, b)) := by
  induction l with
  | nil => rfl
  | cons p t ih =>
    obtain ⟨c, d⟩ := p
    show (Bool.rec false (apAllK a b t) (apartK a b c d) : Bool) = _
    rw [recAnd, ih, apartK_eq, List.all_cons]
theorem soundK_eq (heap : Nat) : ∀ (l seen' seen : List (Nat × Nat)), (∀ p, seen'.all p = seen.all p) → soundK heap l seen' = Md.slSound heap seen l
  | [], _, _, _ => rfl
  | (a, b) :: t, seen', seen, h => by
    show (Bool.rec false (Bool.rec false (Bool.rec false (soundK heap t ((a, b) :: seen')) (apAllK a b seen')) ((a.add b).ble 232)) (heap.ble a) : Bool) = _
    rw [recAnd, recAnd, recAnd, apAllK_eq, soundK_eq heap t ((a, b) :: seen') (seen ++ [(a, b)]) (fun p => by rw [List.all_cons, List.all_append, h, Bool.and_comm]; simp), Md.slSound, h, ble_dec, ble_dec]
    simp only [Bool.and_assoc]
    rfl
theorem checkK_spec {n : Nat} {l : List Nat} {k : Nat → Bool} (hh : checkK n l k = true) : ∃ x, k x = true ∧ ∀ b : List UInt8, l = b.map (fun c => c.toNat) → b.length = n → checkE b = (x : Nat) := by
  unfold checkK at hh
  cases h1 : n.beq 232 with
  | false =>
    rw [h1] at hh
    refine ⟨6, hh, fun b _ hn => ?_⟩
    have hne : b.length ≠ 232 := fun e => by rw [hn] at e; rw [(beq_iff n 232).2 e] at h1; cases h1
    rw [checkE, Md.slCheck, if_pos hne]; rfl
  | true =>
    rw [h1] at hh
    have h1 := (beq_iff n 232).1 h1
    subst h1
    obtain ⟨a, b, r, rfl, g⟩ := twoK_spec (show twoK l _ = true from hh)
    obtain ⟨c, d, r, rfl, g1⟩ := twoK_spec g
    have facts : ∀ s : List UInt8, a :: b :: c :: d :: r = s.map (fun c => c.toNat) → Md.at2 s 0 = a * 256 + b ∧ Md.at2 s 2 = c * 256 + d ∧ (s.drop 4).map (fun c => c.toNat) = r := fun s hs => by
      obtain ⟨e1, e2⟩ := two_at (o := 0) hs.symm
      obtain ⟨e3, e4⟩ := two_at (o := 0 + 2) e2
      exact ⟨e1, e3, e4⟩
    have g1 : (Bool.rec (k 14) (Bool.rec (k 14) (slotsK (a * 256 + b) r fun t => Bool.rec (k 14) (k 0) (soundK (c * 256 + d) t [])) ((((a * 256 + b).mul 4).add 4).ble (c * 256 + d))) ((c * 256 + d).ble 232) : Bool) = true := g1
    cases h2 : (c * 256 + d).ble 232 with
    | false =>
      rw [h2] at g1
      refine ⟨14, g1, fun s hs hn => ?_⟩
      obtain ⟨f1, f2, _⟩ := facts s hs
      have h2 : ¬ c * 256 + d ≤ 232 := fun e => by rw [(ble_iff _ 232).2 e] at h2; cases h2
      rw [checkE, Md.slCheck, if_neg (by omega), if_pos (Or.inl (by omega))]; rfl
    | true =>
      rw [h2] at g1
      have h2 : c * 256 + d ≤ 232 := (ble_iff _ 232).1 h2
      have g1 : (Bool.rec (k 14) (slotsK (a * 256 + b) r fun t => Bool.rec (k 14) (k 0) (soundK (c * 256 + d) t [])) ((((a * 256 + b).mul 4).add 4).ble (c * 256 + d)) : Bool) = true := g1
      cases h3 : (((a * 256 + b).mul 4).add 4).ble (c * 256 + d) with
      | false =>
        rw [h3] at g1
        refine ⟨14, g1, fun s hs hn => ?_⟩
        obtain ⟨f1, f2, _⟩ := facts s hs
        have h3 : ¬ (a * 256 + b) * 4 + 4 ≤ c * 256 + d := fun e => by
          have h5 : (((a * 256 + b).mul 4).add 4).ble (c * 256 + d) = true := (ble_iff _ _).2 e
          rw [h5] at h3; cases h3
        rw [checkE, Md.slCheck, if_neg (by omega), if_pos (Or.inr (by omega))]; rfl
      | true =>
        rw [h3] at g1
        have h3 : (a * 256 + b) * 4 + 4 ≤ c * 256 + d := (ble_iff _ _).1 h3
        obtain ⟨t, g2, g3⟩ := slotsK_spec _ _ _ g1
        cases h4 : soundK (c * 256 + d) t [] with
        | false =>
          rw [h4] at g2
          refine ⟨14, g2, fun s hs hn => ?_⟩
          obtain ⟨f1, f2, f3⟩ := facts s hs
          have f4 : t = Md.slList s := by rw [g3 s 4 f3, Md.slList, f1]
          rw [soundK_eq _ _ _ [] (fun _ => rfl), f4, ← f2] at h4
          rw [checkE, Md.slCheck, if_neg (by omega), if_neg (by omega), h4]; rfl
        | true =>
          rw [h4] at g2
          refine ⟨0, g2, fun s hs hn => ?_⟩
          obtain ⟨f1, f2, f3⟩ := facts s hs
          have f4 : t = Md.slList s := by rw [g3 s 4 f3, Md.slList, f1]
          rw [soundK_eq _ _ _ [] (fun _ => rfl), f4, ← f2] at h4
          rw [checkE, Md.slCheck, if_neg (by omega), if_neg (by omega), h4]; rfl
theorem prim_check : PrimAt 394 p_check := prim_calls (fun args w => Tryz.call394 args w) fun l h c hh => by
  obtain ⟨x, rfl, g⟩ := arg1_spec hh
  obtain ⟨n, s, rfl, g1⟩ := onStr_spec g
  obtain ⟨e1, g2⟩ := boolRec_t g1
  have e1 : n ≤ 100000 := (ble_iff _ 100000).1 e1
  obtain ⟨r, g3, g4⟩ := checkK_spec g2
  rw [forceN_eq] at g3
  refine ⟨_, g3, fun φ vs w hr => ?_⟩
  obtain ⟨u, hu, h1⟩ := list1 hr
  obtain ⟨t, rfl, q1, q2⟩ := RV_at.1 h1
  obtain ⟨b, q3, q4, q5⟩ := str_is q1
  refine ⟨.int .i64 (checkE b), ?_, ?_⟩
  · rw [RV_int, g4 b q4 (by omega)]; rfl
  · rw [arr1v hu, q3]
    exact check_any b w (by omega)
/-! ### all that are taken as known -/
theorem primAt_ok {f g : Nat} {p q : Prim} {x : Option Prim} (h : PrimAt g p) (hx : x = some q → PrimAt f q) : primAt f g p x = some q → PrimAt f q := fun e => by
  unfold primAt at e
  cases hf : f.beq g with
  | false => rw [hf] at e; exact hx e
  | true =>
    rw [hf] at e
    have hf := (beq_iff _ _).1 hf
    subst hf
    injection e with e
    subst e
    exact h
theorem primsOk : PrimsOk := fun _ _ h => primAt_ok prim_more (primAt_ok prim_check (primAt_ok prim_bits (primAt_ok prim_ofBits (primAt_ok prim_cmp (primAt_ok prim_insert (fun e => by cases e)))))) h

end Go.Proofs.YtkdjhegkcfmkoaaGreat.AM
namespace Go.Proofs.YtkdjhegkcfmkoaaGreat.AM
open Go.AM Go.RowKit
set_option maxRecDepth 100000
abbrev phi0 : Phi := fun _ => none
theorem none_at (b : Nm) : H.none.at b = .no := by
  obtain ⟨a, b, c, d, e⟩ := b
  show (((((Oct.all (Oct.all (Oct.all (Oct.all (Oct.all Blk.no))))).sel a).sel b).sel c).sel d).sel e = _
  simp only [Oct.sel_all]
theorem mem_none (w : World) : Mem phi0 H.none w :=
  ⟨fun b c d m h => (by cases h), fun b b' c d m d' m' h => (by cases h), fun b _ => rfl, fun b c d m h => (by cases h), fun b _ => none_at b⟩
/-- what our machine says of a call from no memory holds of the model's in any world: what was there is as it was -/
theorem call_alone {n g : Nat} {l : List AV} {c : K2} (hp : primF g = none) (hh : callF n g l H.none c = true) : ∃ r h', c r h' = true ∧ ∀ (vs : Array Value) w, RL phi0 l vs.toList →
    Calls Tryz.prog g vs w fun e w' => ∃ φ' r', e = .returned r' ∧ RV φ' r r' ∧ Mem φ' h' w' ∧ Below w.heap.size w w' := by
  have hh : callB (evF n) g l H.none c = true := hh
  unfold callB at hh
  rw [hp] at hh
  cases hb : bodyOf g with
  | none => rw [hb] at hh; cases hh
  | some q =>
    obtain ⟨M, rs, b⟩ := q
    rw [hb] at hh
    have hh : forceN M (fun M => Bool.rec false (frameOf l Fr.none 0 fun F => evF n b M F H.none fun x F h => retX M rs c x F h) ((llen l).ble 64)) = true := hh
    rw [forceN_eq] at hh
    obtain ⟨e1, g1⟩ := boolRec_t hh
    have e1 := (ble_iff _ 64).1 e1
    rw [llen_eq] at e1
    obtain ⟨r, h', k1, k2, k3⟩ := body_ok idleOk (evF_ok idleOk primsOk n) hb g1 e1
    refine ⟨r, h', k1, fun vs w hr => ?_⟩
    exact k3 phi0 vs w _ (mem_none w) hr (fun φ' w' r' q1 q2 q3 q4 => ⟨φ', r', rfl, q4, q3, ⟨q1.os, q1.tape, q1.output, q1.size, fun k hk => q1.old k hk (fun b d m h => by cases h)⟩⟩)
/-- .. where the answer is one value -/
theorem call_answers {n g : Nat} {l : List AV} (a : AV) (hp : primF g = none) (hh : callF n g l H.none (fun v _ => eqAV v a) = true) {vs : Array Value} {w : World} (hr : RL phi0 l vs.toList) :
    Calls Tryz.prog g vs w fun e w' => ∃ φ' r', e = .returned r' ∧ RV φ' a r' ∧ Below w.heap.size w w' := by
  obtain ⟨r, h', h1, h2⟩ := call_alone hp hh
  have := eqAV_spec r a h1
  subst this
  exact (h2 vs w hr).mono fun e w' ⟨φ', r', q1, q2, _, q4⟩ => ⟨φ', r', q1, q2, q4⟩
end Go.Proofs.YtkdjhegkcfmkoaaGreat.AM
