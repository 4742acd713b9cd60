/- A block of bytes of the call's own: made, copied into, written, and read as a text. -/
import Derived.Test.YtkdjhegkcfmkoaaGreatNb
import Derived.Lib.BufferWrite
import Derived.Test.YtkdjhegkcfmkoaaGreatNc
import Derived.Deep.QuietTactic
import Derived.BigQuiet
namespace Go.Proofs.YtkdjhegkcfmkoaaGreat
open Go.RowKit
open Md (Str)

def u8a (l : Str) : Array Value := (u8s l).toArray
/-- block g is just these bytes -/
def Buf (w : World) (g : Nat) (l : Str) : Prop := w.heap[g]? = some (.cells (u8a l) 5 (0, 0))
/-- the world in which block g is these bytes -/
def setBuf (w : World) (g : Nat) (l : Str) : World := w.setRow g (u8a l)
def bsplice (l : Str) (i : Nat) (r : Str) : Str := l.take i ++ r ++ l.drop (i + r.length)
theorem bsplice_length {l : Str} {i : Nat} {r : Str} (h : i + r.length ≤ l.length) : (bsplice l i r).length = l.length := by simp [bsplice]; omega
@[go_sem, simp] theorem setBuf_size (w : World) (g : Nat) (l : Str) : (setBuf w g l).heap.size = w.heap.size := by simp [setBuf, World.setRow]
theorem u8a_size (l : Str) : (u8a l).size = l.length := by simp [u8a, u8s]
theorem u8s_length (l : Str) : (u8s l).length = l.length := by simp [u8s]
theorem u8s_get {l : Str} {i : Nat} (h : i < l.length) : (u8s l)[i]? = some (.int .u8 (l[i].toNat : Int)) := by simp [u8s, h]
theorem u8a_set (l : Str) (i : Nat) (c : UInt8) : (u8a l).setIfInBounds i (.int .u8 (c.toNat : Int)) = u8a (l.set i c) := by
  apply Array.ext'; simp [u8a, u8s, List.map_set]
theorem u8s_one (l : Str) : ∀ v ∈ u8s l, v.oneCell' = true := by intro v hv; simp only [u8s, List.mem_map] at hv; obtain ⟨c, _, rfl⟩ := hv; rfl

section
variable {w : World} {g : Nat} {l : Str}
theorem Buf.lt (h : Buf w g l) : g < w.heap.size := lt_of_block h
theorem Buf.cell (h : Buf w g l) {i : Nat} (hi : i < l.length) : w.cell? ⟨g, i, none⟩ = some (.int .u8 (l[i].toNat : Int)) :=
  cell_at h (by rw [u8a, List.getElem?_toArray]; exact u8s_get hi)
theorem Buf.free (h : Buf w g l) (i : Nat) : w.frozen? ⟨g, i, none⟩ = false := free_at i h
theorem Buf.set (h : Buf w g l) (i : Nat) (c : UInt8) : Buf (w.setCell ⟨g, i, none⟩ (.int .u8 (c.toNat : Int))) g (l.set i c) := by
  unfold Buf; rw [setCell_block i h, u8a_set]
theorem Buf.laid (h : Buf w g l) (r : Str) : Buf (setBuf w g r) g r := setRow_heap w g _ _ _ _ h
theorem Buf.keep {w' : World} {Q : Nat → Prop} (h : Buf w g l) (k : Keep Q w w') (hg : ¬ Q g) : Buf w' g l := k.at h hg
theorem Buf.below {w' : World} (h : Buf w g l) (k : Below w.heap.size w w') : Buf w' g l := (k.block g h.lt).trans h
theorem keep_setBuf (w : World) (g : Nat) (r : Str) : Keep (· = g) w (setBuf w g r) :=
  ⟨rfl, rfl, rfl, by simp, fun k _ hk => setRow_other w g k _ hk⟩
theorem below_setBuf {B : Nat} {a w : World} {g : Nat} (h : Below B a w) (hg : B ≤ g) (r : Str) : Below B a (setBuf w g r) :=
  h.trans ⟨rfl, rfl, rfl, by simp, fun k hk => setRow_other w g k _ (by omega)⟩
/-- as a row that the call owns -/
theorem Buf.own (h : Buf w g l) (hl : l.length ≤ maxLen) : w.ownsRow 0 5 1 (.slice (some ⟨g, 0, none⟩) l.length l.length) l.length (u8s l) :=
  ⟨by rw [u8s_length, Nat.mul_one], Or.inr ⟨g, l.length, u8a l, rfl, Nat.zero_le _, h, Nat.le_refl _, hl, by rw [u8a_size, Nat.mul_one], by rw [u8a]; exact List.take_of_length_le (by rw [u8s_length]; omega)⟩⟩

/-- the cells of a block of bytes of whatever type (an array) -/
theorem arr_cells {w : World} {g : Nat} {l : Str} {T : TypeId} {f : Nat × Nat} (h : w.heap[g]? = some (.cells (u8a l) T f)) : ∀ j v, (u8s l)[j]? = some v → w.cell? ((⟨g, 0, none⟩ : Addr).add j) = some v := by
  intro j v hj; rw [addr_add]; exact cell_at h (by rw [u8a, List.getElem?_toArray]; exact hj)
/-- a slice of bytes as a text -/
theorem conv_cells {w : World} {a : Addr} {l : Str} (n c : Nat) (hn : l.length = n) (h : ∀ j v, (u8s l)[j]? = some v → w.cell? (a.add j) = some v) : (convert 148 9 (.slice (some a) n c)).run Tryz.prog w = .ok (S l) w := by
  subst hn
  rw [run_convert_bytes_string w 148 9 5 (some a) l.length c Tryz.underlying148 Tryz.underlying5 Tryz.underlying9]
  have hl := run_loadCells_list (P := Tryz.prog) (w := w) a (u8s l) h
  have e : u8s l = (l.map (fun c => (c.toNat : Int))).map (Value.int .u8) := by simp [u8s]
  rw [u8s_length] at hl
  rw [e] at hl
  rw [run_bytesToString w a l.length c _ hl, fold_push]
  congr 2
theorem made_u8 (m : Nat) : madeCells (Value.cells (.int .u8 0)) m = u8a (List.replicate m 0) := by
  apply Array.ext'
  simp only [u8a, u8s, madeCells, Value.cells]
  apply List.ext_getElem
  · simp
  · intro i h1 h2
    simp [Nat.mod_one]
theorem bsplice_cells (l : Str) (o : Nat) (s : Str) : ((u8a l).toList.take o ++ u8s s ++ (u8a l).toList.drop (o + s.length)).toArray = u8a (bsplice l o s) := by
  simp [u8a, bsplice, u8s, List.map_take, List.map_drop]
theorem make_u8 (w : World) (n : Int) (m : Nat) (h : n = m) (hm : m ≤ 140737488351232) :
    (Instr.makeSlice 148 (.int .i64 n) (.int .i64 n)).run Tryz.prog w = .ok (.slice (some ⟨w.heap.size, 0, none⟩) m m) (w.alloc (.cells (u8a (List.replicate m 0)) 5)) := by
  subst h
  obtain ⟨i0, hi, hz0, hz1, hz2⟩ := info_parts Tryz.infoU8
  have := run_make (P := Tryz.prog) w 148 5 i0 _ Tryz.underlying148 hi hz0 .i64 .i64 m m (by omega) (by omega) (by rw [hz2]; omega) (by omega)
  rw [this, Int.toNat_natCast, hz1, Nat.mul_one, made_u8]

theorem u8_size1 : (Tryz.prog.info? 5).map (·.size) = some 1 := by
  obtain ⟨i0, hi, _, hz1, _⟩ := info_parts Tryz.infoU8
  rw [hi, Option.map_some, hz1]
theorem byteCells_u8s (l : Str) : Lib.byteCells l = u8s l := rfl

theorem copy_str (h : Buf w g l) (ty : TypeId) (o dLen dCap : Nat) (s : Str) (hle : s.length ≤ dLen) (hfit : o + s.length ≤ l.length) :
    (Builtin.copy_ #[148, 9] ty #[.slice (some ⟨g, o, none⟩) dLen dCap, S s]).run Tryz.prog w = .ok (goInt s.length) (setBuf w g (bsplice l o s)) := by
  have := Lib.run_copy_row_string (P := Tryz.prog) w 148 9 ty 5 g o dLen dCap ⟨s.toArray⟩ (u8a l) 5 Tryz.underlying148 u8_size1 h (by simpa [ByteArray.size] using hle) (by rw [u8a_size]; simpa [ByteArray.size] using hfit)
  rw [show (ByteArray.mk s.toArray).size = s.length by simp [ByteArray.size]] at this
  rw [this, setBuf, ← bsplice_cells]; rfl

theorem copy_row (h : Buf w g l) (ty : TypeId) (o dLen dCap : Nat) (a : Addr) (sLen sCap : Nat) (s : Str) (hsl : s.length = sLen) (hc : ∀ j v, (u8s s)[j]? = some v → w.cell? (a.add j) = some v) (hle : s.length ≤ dLen) (hfit : o + s.length ≤ l.length) :
    (Builtin.copy_ #[148, 148] ty #[.slice (some ⟨g, o, none⟩) dLen dCap, .slice (some a) sLen sCap]).run Tryz.prog w = .ok (goInt sLen) (setBuf w g (bsplice l o s)) := by
  subst hsl
  have := run_copy_row (P := Tryz.prog) w 148 148 ty 5 g o dLen dCap a s.length sCap (u8a l) 5 (u8s s) Tryz.underlying148 u8_size1 h (by rw [u8s_length]; exact (Nat.min_eq_left hle).symm) hc (by rw [u8a_size, u8s_length]; exact hfit) (u8s_one s)
  rw [u8s_length] at this
  rw [this, setBuf, ← bsplice_cells]
end
end Go.Proofs.YtkdjhegkcfmkoaaGreat
namespace Go.Proofs.YtkdjhegkcfmkoaaGreat
open Go.RowKit
open Md (Str)

theorem crcFold_lt (s : Str) : ∀ {r : Nat}, r < 4294967296 → s.foldl (fun r c => Md.crcTake r c.toNat) r < 4294967296 := by
  induction s with
  | nil => intro r h; exact h
  | cons c s ih => intro r h; exact ih (crcTake_lt h (u8_lt c))
theorem crcFold_snoc (s : Str) {k : Nat} (h : k < s.length) (r : Nat) :
    (s.take (k + 1)).foldl (fun r (c : UInt8) => Md.crcTake r c.toNat) r = Md.crcTake ((s.take k).foldl (fun r (c : UInt8) => Md.crcTake r c.toNat) r) (s[k]).toNat := by
  rw [List.take_succ_eq_append_getElem h, List.foldl_append]; rfl

theorem Fm_next {a b c : World} {B : Nat} (h : Below B a b) (k : Below b.heap.size b c) (hB : B ≤ b.heap.size) : Below B a c := h.trans (k.mono hB)
theorem below_drewN {a b : World} {B : Nat} (h : Below B a b) (n : Nat) : Below B a (b.drewN n) := ⟨h.os, h.tape, h.output, h.size, h.block⟩
theorem not_u32 (n : Nat) (h : n < 4294967296) : bits BinOp.xor IntKind.u32 IntKind.u32.max (n : Int) = ((4294967295 ^^^ n : Nat) : Int) := by
  rw [show IntKind.u32.max = ((4294967295 : Nat) : Int) from rfl]
  exact bits_xor_u32 _ _ (by omega) h

set_option maxRecDepth 100000 in
set_option maxHeartbeats 400000 in
theorem crcMore_any (sum : Nat) (s : Str) (w : World) (hr : sum < 4294967296) (hs : s.length ≤ 140737488351232) :
    Calls Tryz.prog 316 #[.int .u32 sum, S s] w fun e w' => e = .returned (.int .u32 (Md.crcMore sum s)) ∧ Below w.heap.size w w' := by
  have HR := Lib.hid hr; clear hr
  go_enter Tryz.func316, Tryz.ntmps316
  go_wp2_with fail
  go_loopw [5, 6, 11] (fun u _ i wr => ∃ k : Nat, k ≤ s.length ∧ i = .int .i64 k ∧ u = .int .u32 (((s.take k).foldl (fun r (c : UInt8) => Md.crcTake r c.toNat) (4294967295 ^^^ sum) : Nat)) ∧ Below w.heap.size w wr) (fun _ _ i _ => s.length - (intOf i).toNat)
  case atStart => exact ⟨0, Nat.zero_le _, rfl, congrArg (Value.int .u32) (not_u32 _ HR.out), Below.refl _ _⟩
  case round =>
    obtain ⟨k, hk, rfl, rfl, hbel⟩ := hrel
    have hx := crcFold_lt (s.take k) (r := 4294967295 ^^^ sum) (Nat.xor_lt_two_pow (n := 32) (by omega) HR.out)
    by_cases hlt : k < s.length
    · have HS := Lib.hid (crcFold_snoc s hlt (4294967295 ^^^ sum))
      generalize (s.take k).foldl (fun r (c : UInt8) => Md.crcTake r c.toNat) (4294967295 ^^^ sum) = x at hx HS
      have HX := Lib.hid hx
      clear hx
      go_wp2_with (go_at_call 356; refine (crcTake_any x s[k] _ HX.out).mono ?_; rintro e w1 ⟨rfl, b1⟩)
      go_roundw
      case rel => exact ⟨k + 1, by omega, by go_num, congrArg (Value.int .u32) (by rw [HS.out]), Fm_next hbel b1 hbel.size⟩
      case measure => simp [intOf]; omega
    · have HL : Hid (s.take k = s) := by show _ = _; exact List.take_of_length_le (by omega)
      rw [HL.out] at hx
      have HX := Lib.hid hx
      clear hx
      have H := Lib.hid (not_u32 (s.foldl (fun r (c : UInt8) => Md.crcTake r c.toNat) (4294967295 ^^^ sum)) HX.out)
      rw [HL.out]
      go_wp2_with fail
      go_ret
      exact ⟨(congrArg (fun x => Ending.returned (.int .u32 x)) H.out), hbel⟩

set_option maxRecDepth 100000 in
set_option maxHeartbeats 400000 in
theorem crcSum_any (s : Str) (w : World) (hs : s.length ≤ 140737488351232) :
    Calls Tryz.prog 247 #[S s] w fun e w' => e = .returned (.int .u32 (Md.crcSum s)) ∧ Below w.heap.size w w' := by
  go_enter Tryz.func247, Tryz.ntmps247
  go_wp2_with (go_at_call 316; refine (crcMore_any 0 s _ (by omega) hs).mono ?_; rintro e w1 ⟨rfl, b1⟩)
  go_ret
  exact ⟨rfl, b1⟩

theorem four_cells (n : Nat) : (u8s (Md.four n)).toArray = #[.int .u8 ((n : Int) % 256), .int .u8 ((n : Int) / 256 % 256), .int .u8 ((n : Int) / 65536 % 256), .int .u8 ((n : Int) / 16777216 % 256)] := by
  have h (k : Nat) := byte_shift n k
  simp only [Md.four, u8s, List.map_cons, List.map_nil, h]
  simp

set_option maxRecDepth 100000 in
set_option maxHeartbeats 400000 in
theorem four_any (n : Nat) (w : World) (hn : n < 4294967296) :
    Calls Tryz.prog 246 #[.int .u32 n] w fun e w' => e = .returned (.agg (u8s (Md.four n)).toArray) ∧ Below w.heap.size w w' := by
  have HN := Lib.hid hn; clear hn
  go_enter Tryz.func246, Tryz.ntmps246
  go_wp2_with fail
  refine wp_loop_rounds 5 ?_
  rw [rounds_succ]; go_wp2
  rw [rounds_succ]; go_wp2
  rw [rounds_succ]; go_wp2
  rw [rounds_succ]; go_wp2
  rw [rounds_succ]; go_wp2
  rw [four_cells]
  exact bodyPost_ret (v := .agg #[.int .u8 (n % 256), .int .u8 (n / 256 % 256), .int .u8 (n / 65536 % 256), .int .u8 (n / 16777216 % 256)]) (by simp [results, Tryz.results246, go_sem]) rfl
    ⟨rfl, ((Below.refl _ _).alloc (Nat.le_refl _) _).alloc (by simp) _⟩

theorem crcSum_lt (s : Str) : Md.crcSum s < 4294967296 :=
  Nat.xor_lt_two_pow (n := 32) (by omega) (crcFold_lt s (Nat.xor_lt_two_pow (n := 32) (by omega) (by omega)))
theorem four_length (n : Nat) : (Md.four n).length = 4 := rfl

theorem lay_eq (s : Str) (n : Nat) : bsplice (bsplice (List.replicate (4 + s.length) 0) 0 (Md.four n)) 4 s = Md.four n ++ s := by
  have h4 : (Md.four n).length = 4 := rfl
  have e : bsplice (List.replicate (4 + s.length) (0 : UInt8)) 0 (Md.four n) = Md.four n ++ List.replicate s.length 0 := by
    rw [bsplice, List.take_zero, List.nil_append, Nat.zero_add, h4, List.drop_replicate]; congr 2; omega
  rw [e, bsplice, List.take_left' h4, List.drop_of_length_le (by simp [h4]), List.append_nil]

set_option maxRecDepth 100000 in
set_option maxHeartbeats 400000 in
theorem crcLay_any (s : Str) (w : World) (hs : s.length ≤ 140737488351000) (hpos : 0 < s.length) :
    Calls Tryz.prog 147 #[S s] w fun e w' => e = .returned (S (Md.crcLay s)) ∧ Below w.heap.size w w' := by
  have hs0 : ¬ s = [] := by intro e; subst e; simp at hpos
  go_enter Tryz.func147, Tryz.ntmps147
  go_wp2_with fail
  rw [make_u8 w (4 + (s.length : Int)) (4 + s.length) (by omega) (by omega)]
  have B0 : Buf (w.alloc (.cells (u8a (List.replicate (4 + s.length) 0)) 5)) w.heap.size (List.replicate (4 + s.length) 0) := heap_alloc_last w _
  have b0 : Below w.heap.size w (w.alloc (.cells (u8a (List.replicate (4 + s.length) 0)) 5)) := (Below.refl _ _).alloc (Nat.le_refl _) _
  go_wp2_with (first
    | (go_at_call 247; refine (crcSum_any s _ (by omega)).mono ?_; rintro e w1 ⟨rfl, b1⟩)
    | (go_at_call 246; refine (four_any _ _ (crcSum_lt _)).mono ?_; rintro e w2 ⟨rfl, b2⟩; rw [four_cells]))
  have A3 : (w2.alloc (.cells (u8a (Md.four (Md.crcSum s))) 350)).heap[w2.heap.size]? = some (.cells (u8a (Md.four (Md.crcSum s))) 350 (0, 0)) := heap_alloc_last w2 _
  have b3 := (Fm_next (Fm_next b0 b1 b0.size) b2 (Fm_next b0 b1 b0.size).size).alloc (Fm_next (Fm_next b0 b1 b0.size) b2 (Fm_next b0 b1 b0.size).size).size (.cells (u8a (Md.four (Md.crcSum s))) 350)
  have B3 : Buf (w2.alloc (.cells (u8a (Md.four (Md.crcSum s))) 350)) w.heap.size (List.replicate (4 + s.length) 0) := heap_alloc_lt ((B0.below b1).below b2) _
  rw [u8a, four_cells] at A3 b3 B3
  clear b0 b1 b2 B0
  generalize World.alloc w2 _ = w3 at A3 b3 B3
  rw [copy_row B3 3 0 _ _ _ 4 4 (Md.four (Md.crcSum s)) rfl (arr_cells (by rw [A3, u8a, four_cells])) (by rw [four_length]; omega) (by rw [four_length, List.length_replicate]; omega)]
  have B4 := B3.laid (bsplice (List.replicate (4 + s.length) 0) 0 (Md.four (Md.crcSum s)))
  have b4 := below_setBuf b3 (Nat.le_refl _) (g := w.heap.size) (bsplice (List.replicate (4 + s.length) 0) 0 (Md.four (Md.crcSum s)))
  clear A3 b3 B3
  have hl4 : (bsplice (List.replicate (4 + s.length) (0 : UInt8)) 0 (Md.four (Md.crcSum s))).length = 4 + s.length := by rw [bsplice_length (by rw [four_length, List.length_replicate]; omega), List.length_replicate]
  have HE := Lib.hid (lay_eq s (Md.crcSum s))
  generalize bsplice (List.replicate (4 + s.length) 0) 0 (Md.four (Md.crcSum s)) = l4 at B4 b4 hl4 HE
  have HL := Lib.hid hl4
  clear hl4
  generalize setBuf w3 w.heap.size l4 = w4 at B4 b4
  go_wp2_with fail
  rw [copy_str B4 3 4 _ _ s (by omega) (by rw [HL.out]; omega)]
  have B5 := B4.laid (bsplice l4 4 s)
  have b5 := below_setBuf b4 (Nat.le_refl _) (g := w.heap.size) (bsplice l4 4 s)
  rw [HE.out] at B5 b5 ⊢
  clear B4 b4
  generalize setBuf w4 w.heap.size (Md.four (Md.crcSum s) ++ s) = w5 at B5 b5
  have hcv := conv_cells (a := ⟨w.heap.size, 0, none⟩) (4 + s.length) (4 + s.length) (by rw [List.length_append, four_length]) (arr_cells B5)
  go_wp2_with fail
  go_ret
  exact ⟨rfl, b5⟩

theorem crcCut_of (s : Str) : Md.crcCut s = if s.length < 4 then .error .short else if Md.four (Md.crcSum (s.drop 4)) = s.take 4 then .ok (s.drop 4) else .error .corrupt := rfl
def ret2S {α : Type} (z : Value) (enc : α → Value) : Except Md.Er α → Value
  | .ok a => .tuple #[enc a, .int .i64 0]
  | .error e => .tuple #[z, .int .i64 e.n]
set_option maxRecDepth 100000 in
set_option maxHeartbeats 400000 in
theorem crcCut_any (s : Str) (w : World) (hs : s.length ≤ 140737488351000) :
    Calls Tryz.prog 265 #[S s] w fun e w' => e = .returned (ret2S (S []) S (Md.crcCut s)) ∧ Below w.heap.size w w' := by
  by_cases h4 : s.length < 4
  · have H := Lib.hid (show Md.crcCut s = .error .short by rw [Md.crcCut, if_pos h4])
    go_enter Tryz.func265, Tryz.ntmps265
    go_wp2_with fail
    go_ret2
    exact ⟨by rw [H.out]; rfl, Below.refl _ _⟩
  · go_enter Tryz.func265, Tryz.ntmps265
    go_wp2_with (first | (go_at_call 247; refine (crcSum_any (s.drop 4) _ (by simp; omega)).mono ?_; rintro e w1 ⟨rfl, b1⟩) | (go_at_call 246; refine (four_any _ _ (crcSum_lt _)).mono ?_; rintro e w2 ⟨rfl, b2⟩; rw [four_cells]))
    have A3 : (w2.alloc (.cells (u8a (Md.four (Md.crcSum (s.drop 4)))) 350)).heap[w2.heap.size]? = some (.cells (u8a (Md.four (Md.crcSum (s.drop 4)))) 350 (0, 0)) := heap_alloc_last w2 _
    have b3 := (Fm_next b1 b2 b1.size).alloc (Fm_next b1 b2 b1.size).size (.cells (u8a (Md.four (Md.crcSum (s.drop 4)))) 350)
    rw [u8a, four_cells] at A3 b3
    generalize World.alloc w2 _ = w3 at A3 b3
    have hcv : ∀ n, (convert 148 9 (.slice (some ⟨w2.heap.size, 0, none⟩) 4 4)).run Tryz.prog (w3.drewN n) = .ok (S (Md.four (Md.crcSum (s.drop 4)))) (w3.drewN n) := fun n => conv_cells (w := w3.drewN n) 4 4 rfl (arr_cells (by rw [show (w3.drewN n).heap = w3.heap from rfl, A3, u8a, four_cells]))
    have h4' : 4 ≤ s.length := by omega
    by_cases hq : Md.four (Md.crcSum (s.drop 4)) = s.take 4
    · have H := Lib.hid (show Md.crcCut s = .ok (s.drop 4) by rw [Md.crcCut, if_neg h4, if_pos hq])
      have hb : (Md.four (Md.crcSum (s.drop 4)) == s.take 4) = true := by rw [hq]; simp
      generalize Md.four (Md.crcSum (s.drop 4)) = f at hcv hb
      clear hq
      go_quiet (fail)
      go_wp2
      go_ret2
      exact ⟨by rw [H.out]; rfl, below_drewN b3 nq⟩
    · have H := Lib.hid (show Md.crcCut s = .error .corrupt by rw [Md.crcCut, if_neg h4, if_neg hq])
      have hb : (Md.four (Md.crcSum (s.drop 4)) == s.take 4) = false := by simpa using hq
      generalize Md.four (Md.crcSum (s.drop 4)) = f at hcv hb
      clear hq
      go_quiet (fail)
      go_wp2
      go_ret2
      exact ⟨by rw [H.out]; rfl, below_drewN b3 nq⟩
end Go.Proofs.YtkdjhegkcfmkoaaGreat
