/- Small facts on worlds that every text of this seat uses: what a store does to a whole block, and that a call leaves alone whatever lies outside a named set of blocks. -/
import Derived.Test.YtkdjhegkcfmkoaaGreatProg
import Derived.WalkKit
import Derived.WalkSpells
import Derived.WalkLawsBesides
import Derived.Lib.Hide
import Derived.Test.YtkdjhegkcfmkoaaGreatNa
namespace Go.Proofs.YtkdjhegkcfmkoaaGreat
open Go.RowKit

attribute [go_sem] ByteArray.extract_mk ByteArray.mk_append_mk

@[go_sem] theorem take_drop_len {α : Type} (l : List α) (k : Nat) : (l.drop k).take (l.length - k) = l.drop k := List.take_of_length_le (by simp)

/-- Outside S the blocks that were there are as they were. -/
structure Keep (S : Nat → Prop) (w w' : World) : Prop where
  os : w'.os = w.os
  tape : w'.tape = w.tape
  output : w'.output = w.output
  size : w.heap.size ≤ w'.heap.size
  block : ∀ k, k < w.heap.size → ¬ S k → w'.heap[k]? = w.heap[k]?

theorem Keep.refl (S : Nat → Prop) (w : World) : Keep S w w := ⟨rfl, rfl, rfl, Nat.le_refl _, fun _ _ _ => rfl⟩
theorem Keep.trans {S : Nat → Prop} {a b c : World} (h : Keep S a b) (k : Keep S b c) : Keep S a c :=
  ⟨k.os.trans h.os, k.tape.trans h.tape, k.output.trans h.output, Nat.le_trans h.size k.size,
    fun i hi hs => (k.block i (Nat.lt_of_lt_of_le hi h.size) hs).trans (h.block i hi hs)⟩
theorem Keep.mono {S T : Nat → Prop} {w w' : World} (h : Keep S w w') (hs : ∀ k, k < w.heap.size → S k → T k) : Keep T w w' :=
  ⟨h.os, h.tape, h.output, h.size, fun k hk ht => h.block k hk (fun s => ht (hs k hk s))⟩
theorem Keep.drew {S : Nat → Prop} {a w : World} (h : Keep S a w) : Keep S a w.drew := ⟨h.os, h.tape, h.output, h.size, h.block⟩
theorem Keep.drewN {S : Nat → Prop} {a w : World} (h : Keep S a w) (n : Nat) : Keep S a (w.drewN n) := ⟨h.os, h.tape, h.output, h.size, h.block⟩
theorem Keep.alloc {S : Nat → Prop} {a w : World} (h : Keep S a w) (o : Obj) : Keep S a (w.alloc o) :=
  h.trans ⟨rfl, rfl, rfl, by simp, fun k hk _ => Below.heap_alloc _ _ _ hk⟩
theorem Keep.setCell {S : Nat → Prop} {a w : World} (h : Keep S a w) {p : Addr} (hp : a.heap.size ≤ p.block ∨ S p.block) (u : Value) : Keep S a (w.setCell p u) := by
  refine ⟨h.os, h.tape, h.output, by simpa [World.setCell] using h.size, fun k hk hs => ?_⟩
  rw [Below.heap_setCell _ _ _ _ (fun e => by subst e; rcases hp with hp | hp; exact absurd hk (by omega); exact hs hp)]
  exact h.block k hk hs
theorem Keep.grown {S : Nat → Prop} {a w w' : World} {row : Option Nat} (h : Keep S a w) (hg : w.grownBy w' row) (hr : ∀ k, row = some k → a.heap.size ≤ k ∨ S k) : Keep S a w' :=
  ⟨hg.os.trans h.os, hg.tape.trans h.tape, hg.output.trans h.output, Nat.le_trans h.size hg.size,
    fun k hk hs => (hg.block k (Nat.lt_of_lt_of_le hk h.size) (fun e => by rcases hr k e.symm with x | x; exact absurd hk (by omega); exact hs x)).trans (h.block k hk hs)⟩
theorem Keep.below {S : Nat → Prop} {w w' : World} (h : Keep S w w') {B : Nat} (hB : ∀ k, S k → B ≤ k) (hs : B ≤ w.heap.size) : Below B w w' :=
  ⟨h.os, h.tape, h.output, h.size, fun k hk => h.block k (by omega) (fun s => by have := hB k s; omega)⟩
theorem Keep.of_below {S : Nat → Prop} {w w' : World} (h : Below w.heap.size w w') : Keep S w w' :=
  ⟨h.os, h.tape, h.output, h.size, fun k hk _ => h.block k hk⟩
theorem Keep.at {S : Nat → Prop} {w w' : World} (h : Keep S w w') {k : Nat} {o : Obj} (ho : w.heap[k]? = some o) (hs : ¬ S k) : w'.heap[k]? = some o :=
  (h.block k (lt_of_block ho) hs).trans ho

theorem keep_set (a i : Nat) (w : World) (u : Value) : Keep (· = a) w (w.setCell ⟨a, i, none⟩ u) :=
  (Keep.refl (· = a) w).setCell (p := ⟨a, i, none⟩) (Or.inr rfl) u

theorem cell_at {w : World} {b i : Nat} {cs : Array Value} {t : TypeId} {f : Nat × Nat} {v : Value} (h : w.heap[b]? = some (.cells cs t f)) (hv : cs[i]? = some v) : w.cell? ⟨b, i, none⟩ = some v := by
  simp [World.cell?, h, hv]
theorem free_at {w : World} {b : Nat} (i : Nat) {cs : Array Value} {t : TypeId} (h : w.heap[b]? = some (.cells cs t (0, 0))) : w.frozen? ⟨b, i, none⟩ = false := by
  simp [World.frozen?, h]
theorem setCell_block {w : World} {b : Nat} (i : Nat) {cs : Array Value} {t : TypeId} {f : Nat × Nat} (h : w.heap[b]? = some (.cells cs t f)) (u : Value) :
    (w.setCell ⟨b, i, none⟩ u).heap[b]? = some (.cells (cs.setIfInBounds i u) t f) := by
  have hlt := lt_of_block h
  have h' : w.heap[b] = .cells cs t f := by simpa [Array.getElem?_eq_getElem hlt] using h
  show (w.heap.modify b _)[b]? = _
  rw [Array.getElem?_eq_getElem (by simpa using hlt), Array.getElem_modify_self, h']
  rfl
theorem setCell_other {w : World} {b k : Nat} (i : Nat) (h : k ≠ b) (u : Value) : (w.setCell ⟨b, i, none⟩ u).heap[k]? = w.heap[k]? :=
  Below.heap_setCell _ _ _ _ h
theorem heap_alloc_last (w : World) (o : Obj) : (w.alloc o).heap[w.heap.size]? = some o := by
  show (w.heap.push o)[w.heap.size]? = _
  simp
theorem heap_alloc_lt {w : World} {k : Nat} {x : Obj} (h : w.heap[k]? = some x) (o : Obj) : (w.alloc o).heap[k]? = some x := by
  rw [Below.heap_alloc _ _ _ (lt_of_block h)]; exact h

theorem own_form {w : World} {base : Nat} {e : TypeId} {size : Nat} {v : Value} {n : Nat} {xs : List Value} (h : w.ownsRow base e size v n xs) (hn : 0 < n) :
    ∃ g cap, v = .slice (some ⟨g, 0, none⟩) n cap ∧ base ≤ g ∧ g < w.heap.size := by
  rcases h.2 with ⟨_, h0⟩ | ⟨g, cap, cur, hv, hb, hg, _⟩
  · omega
  · exact ⟨g, cap, hv, hb, lt_of_block hg⟩
theorem addr_add (g j : Nat) : (⟨g, 0, none⟩ : Addr).add j = ⟨g, j, none⟩ := by unfold Addr.add; split <;> simp_all
theorem Fm_slice {w : World} {B : Nat} {e : TypeId} {sz : Nat} {u : Value} {n : Nat} {xs : List Value} (h : w.ownsRow B e sz u n xs) : ∃ o c, u = .slice o n c := by
  rcases h.2 with ⟨rfl, rfl⟩ | ⟨g, cap, cur, rfl, _⟩
  · exact ⟨_, _, rfl⟩
  · exact ⟨_, _, rfl⟩
theorem own_le {w : World} {base base' size n : Nat} {e : TypeId} {v : Value} {xs : List Value} (h : w.ownsRow base e size v n xs) (hb : base' ≤ base) : w.ownsRow base' e size v n xs :=
  ⟨h.1, h.2.elim Or.inl (fun ⟨g, cap, cur, hv, hg, r⟩ => Or.inr ⟨g, cap, cur, hv, Nat.le_trans hb hg, r⟩)⟩
theorem own_keep {w w' : World} {B : Nat} {e : TypeId} {sz : Nat} {u : Value} {n : Nat} {xs : List Value} (h : w.ownsRow B e sz u n xs) {Q : Nat → Prop} (k : Keep Q w w') (ha : ∀ g, u.ownBlock = some g → ¬ Q g) : w'.ownsRow B e sz u n xs := by
  refine ⟨h.1, ?_⟩
  rcases h.2 with h2 | ⟨g, cap, cur, hv, hg, hh, r⟩
  · exact Or.inl h2
  · exact Or.inr ⟨g, cap, cur, hv, hg, k.at hh (ha g (by rw [hv]; rfl)), r⟩
theorem own_below {w w' : World} {B : Nat} {e : TypeId} {sz : Nat} {u : Value} {n : Nat} {xs : List Value} (h : w.ownsRow B e sz u n xs) (k : Below w.heap.size w w') : w'.ownsRow B e sz u n xs :=
  own_keep h (Q := fun _ => False) (Keep.of_below k) (fun _ _ e => e)
theorem ret1 {k : IntKind} {a b : Int} (h : a = b) : Ending.returned (.int k b) = .returned (.int k a) := by rw [h]
theorem ret2 {k m : IntKind} {a b c d : Int} (h : a = b) (g : c = d) : Ending.returned (.tuple #[.int k b, .int m d]) = .returned (.tuple #[.int k a, .int m c]) := by rw [h, g]
theorem retb {a b : Bool} (h : a = b) : Ending.returned (.bool b) = .returned (.bool a) := by rw [h]

/-- the cells of a list of ints -/
def ints (l : List Int) : Array Value := (l.map (Value.int .i64)).toArray
theorem ints_get {l : List Int} {i : Nat} (h : i < l.length) : (ints l)[i]? = some (.int .i64 (l.getD i 0)) := by
  simp [ints, List.getD, h]
theorem ints_set (l : List Int) (i : Nat) (n : Int) : (ints l).setIfInBounds i (.int .i64 n) = ints (l.set i n) := by
  apply Array.ext'
  simp [ints, List.map_set]
theorem ints_size (l : List Int) : (ints l).size = l.length := by simp [ints]

end Go.Proofs.YtkdjhegkcfmkoaaGreat
namespace Go.Proofs.YtkdjhegkcfmkoaaGreat
open Go.RowKit
open Md (Str)
theorem Tryz.infoU8 : (Tryz.prog.info? 5).map (fun i => (i.zero, i.size, i.bytes)) = some (some (.int .u8 0), 1, 1) := by kernel_rfl

/-- a text as a value; bytes as cells -/
abbrev S (l : Str) : Value := .string ⟨l.toArray⟩
theorem retS {a b : Str} (h : a = b) : Ending.returned (S b) = .returned (S a) := by rw [h]
def u8s (l : Str) : List Value := l.map (fun c => Value.int .u8 (c.toNat : Int))

theorem be_length (k n : Nat) : (Md.be k n).length = k := by
  induction k with
  | zero => rfl
  | succ k ih => simp [Md.be, ih]
theorem be_take (k n j : Nat) (h : j < k) : (Md.be k n).take (j + 1) = (Md.be k n).take j ++ [UInt8.ofNat (n >>> (8 * (k - 1 - j)))] := by
  induction k generalizing j with
  | zero => omega
  | succ k ih =>
    cases j with
    | zero => simp [Md.be]
    | succ j =>
      rw [Md.be, List.take_succ_cons, List.take_succ_cons, ih j (by omega)]
      rw [show k + 1 - 1 - (j + 1) = k - 1 - j by omega]; rfl

theorem byte_shift (n k : Nat) : ((UInt8.ofNat (n >>> k)).toNat : Int) = (n : Int) / 2 ^ k % 256 := by
  rw [UInt8.toNat_ofNat', Nat.shiftRight_eq_div_pow]
  simp

set_option maxRecDepth 100000 in
set_option maxHeartbeats 400000 in
theorem put_any (n : Nat) (hn : n < 18446744073709551616) (w : World) :
    Calls Tryz.prog 132 #[.slice none 0 0, .int .u64 n, .int .i64 8] w fun e w' =>
      ∃ u, e = .returned u ∧ w'.ownsRow w.heap.size 5 1 u 8 (u8s (Md.be 8 n)) ∧ Below w.heap.size w w' := by
  have HN := Lib.hid hn; clear hn
  obtain ⟨i0, hi, hz0, hz1, hz2⟩ := info_parts Tryz.infoU8
  go_enter Tryz.func132, Tryz.ntmps132
  go_wp2
  go_loopw [0, 7] (fun u i wr => ∃ j : Nat, j ≤ 8 ∧ i = .int .i64 (7 - (j : Int)) ∧ wr.ownsRow w.heap.size 5 1 u j (u8s ((Md.be 8 n).take j)) ∧ Below w.heap.size w wr) (fun _ i _ => (intOf i + 1).toNat)
  case atStart => exact ⟨0, by omega, rfl, World.ownsRow_nil w _ _ _, Below.refl _ _⟩
  case round =>
    obtain ⟨j, hj, rfl, hown, hbel⟩ := hrel
    have hsz := hbel.size
    by_cases hlt : j < 8
    · have HT := Lib.hid (show u8s ((Md.be 8 n).take (j + 1)) = u8s ((Md.be 8 n).take j) ++ [.int .u8 ((n : Int) / 2 ^ (8 * (7 - j)) % 256)] by
        rw [be_take 8 n j hlt, u8s, List.map_append, List.map_cons, byte_shift]; rfl)
      go_wp2_with (at_builtin; refine wpList_append_own _ rfl _ _ 148 rfl w.heap.size 5 i0 (.int .u8 0) 1 1 Tryz.underlying148 hi hz0 hz1 hz2 rfl (by decide) _ _ _ rfl (hown.alloc _) ⟨wr.heap.size, 0, none⟩ 1 1 [.int .u8 ((n : Int) / 2 ^ (8 * (7 - j)) % 256)] rfl rfl ?c1 ?c2 ?c3 ?c4 ?c5 ?_)
      case c1 => intro j u hj; match j, hj with | 0, hj => simp at hj; subst hj; simp [Addr.add]
      case c2 => intro u hu; simp at hu; subst hu; rfl
      case c3 => unfold maxLen; omega
      case c4 => omega
      case c5 => simp; omega
      intro u' w1 hown1 hgrow _
      have hbel1 : Below w.heap.size w w1 := (hbel.alloc hsz _).grown hgrow (by simp; omega) (fun k h => (hown.lt k h).1)
      clear hgrow hown hbel
      go_wp2
      go_roundw
      case rel => exact ⟨j + 1, by omega, by go_num, by rw [HT.out]; exact hown1, hbel1⟩
      case measure => simp [intOf]; omega
    · have hj8 : Hid (j = 8) := by show _ = _; omega
      go_wp2
      go_ret
      exact ⟨_, rfl, by rw [hj8.out, List.take_of_length_le (by rw [be_length]; omega)] at hown; exact hown, hbel⟩

theorem fold_push (l : Str) : ∀ s : ByteArray, (l.map (fun c => (c.toNat : Int))).foldl (fun r n => r.push (UInt8.ofNat n.toNat)) s = s ++ ⟨l.toArray⟩ := by
  induction l with
  | nil => intro s; apply ByteArray.ext; simp
  | cons c l ih =>
    intro s
    rw [List.map_cons, List.foldl_cons, ih]
    apply ByteArray.ext
    simp [ByteArray.push, ByteArray.data_append]

theorem conv_own {w : World} {B : Nat} {u : Value} {l : Str} (h : w.ownsRow B 5 1 u l.length (u8s l)) : (convert 148 9 u).run Tryz.prog w = .ok (S l) w := by
  rcases h.2 with ⟨rfl, h0⟩ | ⟨g, cap, cur, rfl, _, hg, _, _, _, _⟩
  · have : l = [] := List.eq_nil_of_length_eq_zero h0
    subst this
    rw [run_convert_bytes_string w 148 9 5 none 0 0 Tryz.underlying148 Tryz.underlying5 Tryz.underlying9]
    rfl
  · rw [run_convert_bytes_string w 148 9 5 (some ⟨g, 0, none⟩) l.length cap Tryz.underlying148 Tryz.underlying5 Tryz.underlying9]
    have hl := run_loadCells_list (P := Tryz.prog) (w := w) ⟨g, 0, none⟩ (u8s l) (h.cells (g := g) rfl)
    have e : u8s l = (l.map (fun c => (c.toNat : Int))).map (Value.int .u8) := by simp [u8s]
    rw [show (u8s l).length = l.length by simp [u8s]] at hl
    rw [e] at hl
    rw [run_bytesToString w ⟨g, 0, none⟩ l.length cap _ hl, fold_push]
    congr 2

set_option maxHeartbeats 400000 in
theorem U_any (n : Nat) (hn : n < 18446744073709551616) (w : World) :
    Calls Tryz.prog 251 #[.int .u64 n] w fun e w' => e = .returned (S (Md.U n)) ∧ Below w.heap.size w w' := by
  have HN := Lib.hid hn; clear hn
  go_enter Tryz.func251, Tryz.ntmps251
  go_wp2_with fail
  refine (put_any n HN.out _).mono ?_
  rintro e w1 ⟨u, rfl, hown, hbel⟩
  have hcv := conv_own (l := Md.be 8 n) (by rw [be_length]; exact hown)
  go_wp2
  go_ret
  exact ⟨rfl, hbel⟩

theorem I_arg (n : Int) : IntKind.u64.wrap (IntKind.u64.wrap n + 9223372036854775808) = ((((n + 9223372036854775808) % 18446744073709551616).toNat : Nat) : Int) := by
  simp only [IntKind.wrap_u64]
  omega
theorem I_lt (n : Int) : ((n + 9223372036854775808) % 18446744073709551616).toNat < 18446744073709551616 := by omega

set_option maxHeartbeats 400000 in
theorem I_any (n : Int) (w : World) :
    Calls Tryz.prog 65 #[.int .i64 n] w fun e w' => e = .returned (S (Md.I n)) ∧ Below w.heap.size w w' := by
  go_enter Tryz.func65, Tryz.ntmps65
  go_wp2_with fail
  rw [I_arg]
  refine (put_any _ (I_lt n) _).mono ?_
  rintro e w1 ⟨u, rfl, hown, hbel⟩
  have hcv := conv_own (l := Md.I n) (by rw [Md.I, be_length]; exact hown)
  go_wp2
  go_ret
  exact ⟨rfl, hbel⟩

def leftE (s : Str) (a n : Int) : Int := Md.eno (Md.left s a n)
set_option maxHeartbeats 400000 in
theorem left_any (s : Str) (a n : Int) (w : World) (hs : s.length ≤ 140737488351232) (hn : n ≤ 140737488351232) :
    Calls Tryz.prog 312 #[S s, .int .i64 a, .int .i64 n] w fun e w' => e = .returned (.int .i64 (leftE s a n)) ∧ w = w' := by
  by_cases h0 : a < 0
  · have H := Lib.hid (show leftE s a n = 3 by simp [leftE, Md.left, h0, Md.eno, Md.Er.n])
    go_enter Tryz.func312, Tryz.ntmps312
    go_wp2
    go_ret
    exact ⟨ret1 H.out, rfl⟩
  · by_cases h1 : (s.length : Int) < a
    · have H := Lib.hid (show leftE s a n = 3 by simp [leftE, Md.left, h1, Md.eno, Md.Er.n])
      go_enter Tryz.func312, Tryz.ntmps312
      go_wp2
      go_ret
      exact ⟨ret1 H.out, rfl⟩
    · by_cases h2 : (s.length : Int) - a < n
      · have H := Lib.hid (show leftE s a n = 5 by rw [leftE, Md.left, if_neg (by omega), if_pos h2]; rfl)
        go_enter Tryz.func312, Tryz.ntmps312
        go_wp2
        go_ret
        exact ⟨ret1 H.out, rfl⟩
      · have H := Lib.hid (show leftE s a n = 0 by rw [leftE, Md.left, if_neg (by omega), if_neg h2]; rfl)
        go_enter Tryz.func312, Tryz.ntmps312
        go_wp2
        go_ret
        exact ⟨ret1 H.out, rfl⟩

theorem unbe_snoc (s : Str) (c : UInt8) : Md.unbe (s ++ [c]) = (Md.unbe s * 256) % 18446744073709551616 ||| c.toNat := by
  simp [Md.unbe, List.foldl_append]
theorem u8_lt (c : UInt8) : c.toNat < 256 := c.toNat_lt
theorem unbe_step (s : Str) {k : Nat} (h : k < s.length) :
    bits BinOp.or IntKind.u64 (IntKind.u64.wrap (↑(Md.unbe (s.take k)) * 256)) (IntKind.u64.wrap ↑(s[k]).toNat) = ((Md.unbe (s.take (k + 1)) : Nat) : Int) := by
  have hc := u8_lt s[k]
  rw [List.take_succ_eq_append_getElem h, unbe_snoc, IntKind.wrap_u64, IntKind.wrap_u64]
  generalize (s[k]).toNat = c at hc
  generalize Md.unbe (s.take k) = n
  rw [show ((n : Int) * 256 % 18446744073709551616) = (((n * 256) % 18446744073709551616 : Nat) : Int) by omega, show ((c : Int) % 18446744073709551616) = (c : Int) by omega]
  exact bits_or_u64_nat _ _ (by omega) (by omega)
theorem unbe_lt (s : Str) : Md.unbe s < 18446744073709551616 := by
  have key : ∀ (l : Str) (n : Nat), n < 18446744073709551616 → l.foldl (fun n (c : UInt8) => (n * 256) % 18446744073709551616 ||| c.toNat) n < 18446744073709551616 := by
    intro l
    induction l with
    | nil => intro n h; exact h
    | cons c r ih => intro n _; exact ih _ (Nat.or_lt_two_pow (n := 64) (by omega) (by have := u8_lt c; omega))
  exact key s 0 (by omega)

set_option maxRecDepth 100000 in
set_option maxHeartbeats 400000 in
theorem get_any (s : Str) (w : World) (hs : s.length ≤ 140737488351232) :
    Calls Tryz.prog 313 #[S s] w fun e w' => e = .returned (.int .u64 (Md.unbe s)) ∧ w = w' := by
  go_enter Tryz.func313, Tryz.ntmps313
  go_wp2
  go_loop [3, 4, 7] (fun n _ i => ∃ k : Nat, k ≤ s.length ∧ i = .int .i64 k ∧ n = .int .u64 (Md.unbe (s.take k))) (fun _ _ i => s.length - (intOf i).toNat)
  case atStart => exact ⟨0, Nat.zero_le _, rfl, rfl⟩
  case round =>
    obtain ⟨k, hk, rfl, rfl⟩ := hrel
    by_cases hlt : k < s.length
    · have HS := Lib.hid (unbe_step s hlt)
      go_wp2
      go_round
      case rel => exact ⟨k + 1, by omega, by go_num, congrArg (Value.int .u64) HS.out⟩
      case measure => simp [intOf]; omega
    · have HL : Hid (s.take k = s) := by show _ = _; exact List.take_of_length_le (by omega)
      go_wp2
      go_ret
      exact ⟨ret1 (by rw [HL.out]), rfl⟩

/-- a result and an error, as the program hands them back: three values -/
def ret3 {α : Type} (z : Value) (enc : α → Value) : Except Md.Er (α × Int) → Value
  | .ok (a, i) => .tuple #[enc a, .int .i64 i, .int .i64 0]
  | .error e => .tuple #[z, .int .i64 0, .int .i64 e.n]

theorem left_none {s : Str} {a n : Int} (h : Md.left s a n = none) : 0 ≤ a ∧ a ≤ s.length ∧ n ≤ s.length - a := by
  unfold Md.left at h
  split at h
  · cases h
  · split at h
    · cases h
    · omega
theorem leftE_none {s : Str} {a n : Int} (h : Md.left s a n = none) : leftE s a n = 0 := by rw [leftE, h]; rfl
theorem leftE_some {s : Str} {a n : Int} {e : Md.Er} (h : Md.left s a n = some e) : leftE s a n = e.n := by rw [leftE, h]; rfl
@[go_sem, simp] theorem Er_ne (e : Md.Er) : (e.n != 0) = true := by cases e <;> rfl
@[go_sem, simp] theorem Er_eq (e : Md.Er) : (e.n == 0) = false := by cases e <;> rfl

set_option maxRecDepth 100000 in
set_option maxHeartbeats 400000 in
theorem readU_any (s : Str) (a : Int) (w : World) (hs : s.length ≤ 140737488351232) :
    Calls Tryz.prog 241 #[S s, .int .i64 a] w fun e w' => e = .returned (ret3 (.int .u64 0) (fun n => .int .u64 (n : Nat)) (Md.readU s a)) ∧ w = w' := by
  cases h : Md.left s a 8 with
  | some c =>
    have H1 := Lib.hid (leftE_some h)
    have H2 := Lib.hid (show Md.readU s a = .error c by rw [Md.readU, h])
    clear h
    go_enter Tryz.func241, Tryz.ntmps241
    go_wp2_with (go_at_call 312; refine (left_any s a 8 _ hs (by omega)).mono ?_; rintro e w' ⟨rfl, rfl⟩; rw [H1.out])
    go_ret3
    exact ⟨by rw [H2.out]; rfl, rfl⟩
  | none =>
    obtain ⟨h0, h1, h2⟩ := left_none h
    have H1 := Lib.hid (leftE_none h)
    have H2 := Lib.hid (show Md.readU s a = .ok (Md.unbe ((s.drop a.toNat).take 8), a + 8) by rw [Md.readU, h])
    clear h
    obtain ⟨k, rfl⟩ := Int.eq_ofNat_of_zero_le h0
    go_enter Tryz.func241, Tryz.ntmps241
    go_wp2_with (go_at_call 312; refine (left_any s k 8 _ hs (by omega)).mono ?_; rintro e w' ⟨rfl, rfl⟩; rw [H1.out])
    refine (get_any _ _ (by simp; omega)).mono ?_
    rintro e w' ⟨rfl, rfl⟩
    go_wp2
    go_ret3
    exact ⟨by rw [H2.out]; rfl, rfl⟩

theorem ret3_ok {α : Type} {z : Value} {enc : α → Value} {r : Except Md.Er (α × Int)} {a : α} {i : Int} (h : r = .ok (a, i)) : ret3 z enc r = .tuple #[enc a, .int .i64 i, .int .i64 0] := by rw [h]; rfl
theorem ret3_er {α : Type} {z : Value} {enc : α → Value} {r : Except Md.Er (α × Int)} {e : Md.Er} (h : r = .error e) : ret3 z enc r = .tuple #[z, .int .i64 0, .int .i64 e.n] := by rw [h]; rfl
theorem readI_of (s : Str) (a : Int) : Md.readI s a = match Md.readU s a with | .error e => .error e | .ok (n, i) => .ok (Md.toI n, i) := by
  unfold Md.readI Md.readU
  cases Md.left s a 8 <;> rfl
theorem half_arg (n : Nat) (h : n < 18446744073709551616) : wrap64 (IntKind.u64.wrap ((n : Int) + 9223372036854775808)) = Md.toI n := by
  rw [IntKind.wrap_u64, Md.toI]; unfold wrap64; omega

set_option maxRecDepth 100000 in
set_option maxHeartbeats 400000 in
theorem readI_any (s : Str) (a : Int) (w : World) (hs : s.length ≤ 140737488351232) :
    Calls Tryz.prog 138 #[S s, .int .i64 a] w fun e w' => e = .returned (ret3 (.int .i64 0) (fun n => .int .i64 n) (Md.readI s a)) ∧ w = w' := by
  cases h : Md.readU s a with
  | error c =>
    have H1 := Lib.hid (ret3_er (z := .int .u64 0) (enc := fun (n : Nat) => .int .u64 (n : Nat)) h)
    have H2 := Lib.hid (show Md.readI s a = .error c by rw [readI_of, h])
    clear h
    go_enter Tryz.func138, Tryz.ntmps138
    go_wp2_with (go_at_call 241; refine (readU_any s a _ hs).mono ?_; rintro e w' ⟨rfl, rfl⟩; rw [H1.out])
    go_ret3
    exact ⟨by rw [H2.out]; rfl, rfl⟩
  | ok p =>
    obtain ⟨n, i⟩ := p
    have hn : n < 18446744073709551616 := by
      unfold Md.readU at h
      split at h
      · cases h
      · simp only [Except.ok.injEq, Prod.mk.injEq] at h
        rw [← h.1]; exact unbe_lt _
    have H0 := Lib.hid (half_arg n hn)
    have H1 := Lib.hid (ret3_ok (z := .int .u64 0) (enc := fun (n : Nat) => .int .u64 (n : Nat)) h)
    have H2 := Lib.hid (show Md.readI s a = .ok (Md.toI n, i) by rw [readI_of, h])
    clear h hn
    go_enter Tryz.func138, Tryz.ntmps138
    go_wp2_with (go_at_call 241; refine (readU_any s a _ hs).mono ?_; rintro e w' ⟨rfl, rfl⟩; rw [H1.out])
    go_ret3
    rw [H2.out]
    exact ⟨congrArg (fun x => Ending.returned (.tuple #[.int .i64 x, .int .i64 i, .int .i64 0])) H0.out, rfl⟩
end Go.Proofs.YtkdjhegkcfmkoaaGreat
