/- What the program's functions of the layers 3 (crc) and 4 (dice) do. -/
import Derived.Test.YtkdjhegkcfmkoaaGreatNb
import Derived.Laws.CopyOwn
namespace Go.Proofs.YtkdjhegkcfmkoaaGreat
open Go.RowKit
open Md (Str)

/-- the table of crc.take, as it lies in memory -/
def crcTable : Array Value := ((List.range 16).map fun k => Value.int .u32 (Md.nibT k : Int)).toArray

theorem crcTable_get {k : Nat} (h : k < 16) : crcTable[k]? = some (.int .u32 (Md.nibT k : Int)) := by simp [crcTable, h]
theorem nibT_lt (k : Nat) : Md.nibT k < 4294967296 := by unfold Md.nibT; split <;> decide
theorem nib_lt {r : Nat} (h : r < 4294967296) : Md.nib r < 4294967296 := Nat.xor_lt_two_pow (n := 32) (by omega) (nibT_lt _)
theorem crcTake_lt {r c : Nat} (h : r < 4294967296) (hc : c < 256) : Md.crcTake r c < 4294967296 := nib_lt (nib_lt (Nat.xor_lt_two_pow (n := 32) h (by omega)))

/-- so many steps of four bits -/
def nibs : Nat → Nat → Nat
  | 0, x => x
  | k + 1, x => Md.nib (nibs k x)
theorem nibs_lt (k : Nat) {x : Nat} (h : x < 4294967296) : nibs k x < 4294967296 := by
  induction k with
  | zero => exact h
  | succ k ih => exact nib_lt ih
theorem bits_xor_u32 (a b : Nat) (ha : a < 4294967296) (hb : b < 4294967296) : bits .xor .u32 (a : Int) (b : Int) = ((a ^^^ b : Nat) : Int) := by
  have hx : a ^^^ b < 2 ^ 32 := Nat.xor_lt_two_pow (by omega) (by omega)
  have h1 : (BitVec.ofInt 32 (a : Int)).toNat = a := by
    rw [BitVec.ofInt_natCast, BitVec.toNat_ofNat]; exact Nat.mod_eq_of_lt (by omega)
  have h2 : (BitVec.ofInt 32 (b : Int)).toNat = b := by
    rw [BitVec.ofInt_natCast, BitVec.toNat_ofNat]; exact Nat.mod_eq_of_lt (by omega)
  show IntKind.u32.wrap ((BitVec.ofInt 32 (a : Int) ^^^ BitVec.ofInt 32 (b : Int)).toNat : Int) = _
  rw [BitVec.toNat_xor, h1, h2]
  simp [IntKind.wrap, IntKind.bits, IntKind.signed]
  omega
theorem xor_start (r : Nat) (c : UInt8) (h : r < 4294967296) : bits BinOp.xor IntKind.u32 (↑r) (↑c.toNat % 4294967296) = ((r ^^^ c.toNat : Nat) : Int) := by
  have hc := u8_lt c
  rw [show ((c.toNat : Int) % 4294967296) = (c.toNat : Int) by omega]
  exact bits_xor_u32 _ _ h (by omega)
theorem and_15 (x : Nat) (h : x < 4294967296) : bits BinOp.and IntKind.u32 (x : Int) 15 = ((x % 16 : Nat) : Int) := by
  have := bits_mask .u32 32 (by decide) (by intro n h0 h1; simp [IntKind.wrap, IntKind.bits, IntKind.signed]; omega) 4 (by decide) (x : Int) (by omega) (by omega)
  simpa using this
theorem nib_step (x : Nat) (h : x < 4294967296) : bits BinOp.xor IntKind.u32 ((x : Int) / 16) (Md.nibT (x % 16) : Int) = ((Md.nib x : Nat) : Int) := by
  rw [show ((x : Int) / 16) = ((x / 16 : Nat) : Int) by omega]
  exact bits_xor_u32 _ _ (by omega) (nibT_lt _)

set_option maxRecDepth 100000 in
set_option maxHeartbeats 400000 in
theorem crcTake_any (r : Nat) (c : UInt8) (w : World) (hr : r < 4294967296) :
    Calls Tryz.prog 356 #[.int .u32 r, .int .u8 c.toNat] w fun e w' => e = .returned (.int .u32 (Md.crcTake r c.toNat)) ∧ Below w.heap.size w w' := by
  have HR := Lib.hid hr; clear hr
  have ht : ∀ k, k < 16 → (w.alloc (.cells crcTable 490)).cell? ⟨w.heap.size, k, none⟩ = some (.int .u32 (Md.nibT k : Int)) := fun k hk => cell_at (heap_alloc_last w _) (crcTable_get hk)
  have HT := Lib.hid ht
  clear ht
  go_enter Tryz.func356, Tryz.ntmps356
  go_wp2_with fail
  generalize hwt : World.alloc w _ = wt
  have hb : Below w.heap.size w wt := by rw [← hwt]; exact (Below.refl _ _).alloc (Nat.le_refl _) _
  have ht : ∀ k, k < 16 → wt.cell? ⟨w.heap.size, k, none⟩ = some (.int .u32 (Md.nibT k : Int)) := by rw [← hwt]; exact HT.out
  clear hwt HT
  have HT := Lib.hid ht
  clear ht
  go_loop [0, 11] (fun u i => ∃ k : Nat, k ≤ 2 ∧ i = .int .i64 k ∧ u = .int .u32 (nibs k (r ^^^ c.toNat) : Nat)) (fun _ i => 2 - (intOf i).toNat)
  case atStart => exact ⟨0, by omega, rfl, congrArg (Value.int .u32) (xor_start r c HR.out)⟩
  case round =>
    obtain ⟨k, hk, rfl, rfl⟩ := hrel
    by_cases hlt : k < 2
    · have hx : nibs k (r ^^^ c.toNat) < 4294967296 := nibs_lt _ (Nat.xor_lt_two_pow (n := 32) HR.out (by have := u8_lt c; omega))
      have H1 := and_15 _ hx
      have hc := HT.out (nibs k (r ^^^ c.toNat) % 16) (by omega)
      have H2 := Lib.hid (nib_step _ hx)
      have H3 := Lib.hid (show nibs (k + 1) (r ^^^ c.toNat) = Md.nib (nibs k (r ^^^ c.toNat)) from rfl)
      generalize nibs k (r ^^^ c.toNat) = x at hx H1 hc H2 H3
      have HX := Lib.hid hx
      clear hx
      have hlt16 : x % 16 < 16 := by omega
      generalize hm : x % 16 = m at hlt16 H1 hc
      have HM := Lib.hid hm
      clear hm
      go_wp2_with fail
      go_round
      case rel => exact ⟨k + 1, by omega, by go_num, congrArg (Value.int .u32) (by rw [H3.out, ← H2.out, HM.out])⟩
      case measure => simp [intOf]; omega
    · have hk2 : k = 2 := by omega
      subst hk2
      go_wp2_with fail
      go_ret
      exact ⟨rfl, hb⟩
end Go.Proofs.YtkdjhegkcfmkoaaGreat
