/- What two, put, Empty and list of the program's layer 17 (slots) do. -/
import Derived.Test.YtkdjhegkcfmkoaaGreatNd
import Derived.Test.YtkdjhegkcfmkoaaGreatNa
import Derived.Deep.QuietTactic
import Derived.BigQuiet
namespace Go.Proofs.YtkdjhegkcfmkoaaGreat
open Go.RowKit
open Md (Str)

theorem join_i64 (c d : Nat) (hc : c < 256) (hd : d < 256) : bits BinOp.or IntKind.i64 (wrap64 (wrap64 (c : Int) * 256)) (wrap64 (d : Int)) = ((c * 256 + d : Nat) : Int) := by
  rw [show wrap64 (c : Int) = (c : Int) by unfold wrap64; omega, show wrap64 (d : Int) = (d : Int) by unfold wrap64; omega, show wrap64 ((c : Int) * 256) = (c : Int) * 256 by unfold wrap64; omega]
  have := bits_join .i64 63 (by decide) (by intro n h0 h1; rw [IntKind.wrap_i64]; omega) 8 ((c : Int) * 256) (d : Int) (by omega) (by omega) (by omega) (by omega) (by omega) (by omega)
  rw [this]; omega
theorem getD_at {b : Str} {i : Nat} (h : i < b.length) : b.getD i 0 = b[i] := by simp [List.getD_eq_getElem?_getD, h]
theorem at2_eq {b : Str} {i : Nat} (h : i + 1 < b.length) : Md.at2 b i = (b[i]).toNat * 256 + (b[i + 1]).toNat := by
  rw [Md.at2, getD_at (by omega), getD_at h]
theorem at2_lt (b : Str) (i : Nat) : Md.at2 b i < 65536 := by
  have h1 := u8_lt (b.getD i 0); have h2 := u8_lt (b.getD (i + 1) 0); unfold Md.at2; omega

set_option maxRecDepth 100000 in
set_option maxHeartbeats 400000 in
theorem two_any (b : Str) (i : Nat) (w : World) (hb : b.length ≤ 100000) (hi : i + 1 < b.length) :
    Calls Tryz.prog 397 #[S b, .int .i64 i] w fun e w' => e = .returned (.int .i64 (Md.at2 b i)) ∧ ∃ n, w' = w.drewN n := by
  have HE := Lib.hid (at2_eq hi)
  have hc := u8_lt b[i]
  have hd := u8_lt b[i + 1]
  have HJ := Lib.hid (join_i64 _ _ hc hd)
  have hi1 : (i : Int) < b.length := by omega
  have hi2 : (i : Int) + 1 < b.length := by omega
  have e0 : (0 : Int) ≤ (i : Int) + 1 := by omega
  have e1 : IntKind.i64.wrap ((i : Int) + 1) = (i : Int) + 1 := by rw [IntKind.wrap_i64]; omega
  have e2 : ((i : Int) + 1).toNat = i + 1 := by omega
  go_enter Tryz.func397, Tryz.ntmps397
  go_wp2
  go_quiet (fail)
  go_wp2
  go_ret
  exact ⟨(congrArg (fun x => Ending.returned (.int .i64 x)) HJ.out).trans (by rw [HE.out]), nq, rfl⟩

theorem byte_hi (n : Nat) (h : n < 65536) : ((UInt8.ofNat (n / 256)).toNat : Int) = (n : Int) / 256 := by
  rw [UInt8.toNat_ofNat']; omega
theorem byte_lo (n : Nat) : ((UInt8.ofNat n).toNat : Int) = (n : Int) % 256 := by
  rw [UInt8.toNat_ofNat']; omega

set_option maxRecDepth 100000 in
set_option maxHeartbeats 400000 in
theorem put_two (g : Nat) (l : Str) (i n c : Nat) (w : World) (hl : l.length ≤ 100000) (hn : n < 65536) (hi : i + 1 < l.length) (h : Buf w g l) :
    Calls Tryz.prog 393 #[.slice (some ⟨g, 0, none⟩) l.length c, .int .i64 i, .int .i64 n] w fun e w' => e = .returned (.tuple #[]) ∧ Buf w' g (Md.put2 l i n) ∧ Keep (· = g) w w' := by
  have hi1 : (i : Int) < l.length := by omega
  have hi2 : (i : Int) + 1 < l.length := by omega
  have c1 := h.cell (i := i) (by omega)
  have c2 := h.cell (i := i + 1) (by omega)
  have f1 := h.free i
  have f2 := h.free (i + 1)
  go_enter Tryz.func393, Tryz.ntmps393
  have E1 := Lib.hid (byte_hi n hn)
  have E2 := Lib.hid (byte_lo n)
  go_wp2
  go_end0
  refine ⟨rfl, ?_, (keep_set g i w _).trans (keep_set g (i + 1) _ _)⟩
  rw [← E1.out, ← E2.out]
  exact (h.set i _).set (i + 1) _

set_option maxRecDepth 100000 in
set_option maxHeartbeats 400000 in
theorem slEmpty_any (w : World) :
    Calls Tryz.prog 358 #[] w fun e w' => e = .returned (S Md.slEmpty) ∧ Below w.heap.size w w' := by
  have hmk := make_u8 w 232 232 rfl (by omega)
  have B0 : Buf (w.alloc (.cells (u8a (List.replicate 232 0)) 5)) w.heap.size (List.replicate 232 0) := heap_alloc_last w _
  have b0 : Below w.heap.size w (w.alloc (.cells (u8a (List.replicate 232 0)) 5)) := (Below.refl _ _).alloc (Nat.le_refl _) _
  have hl : (List.replicate 232 (0 : UInt8)).length = 232 := by rw [List.length_replicate]
  have he : Md.slEmpty = Md.put2 (List.replicate 232 0) 2 232 := rfl
  generalize List.replicate 232 (0 : UInt8) = z at hmk B0 b0 hl he
  have HL := Lib.hid hl
  have HE := Lib.hid he
  clear hl he
  go_enter Tryz.func358, Tryz.ntmps358
  go_wp2_with fail
  have := put_two w.heap.size z 2 232 232 _ (by rw [HL.out]; omega) (by omega) (by rw [HL.out]; omega) B0
  rw [HL.out] at this
  refine this.mono ?_
  rintro e w1 ⟨rfl, B1, k1⟩
  have hcv := conv_cells (a := ⟨w.heap.size, 0, none⟩) 232 232 (by simp [Md.put2]; exact HL.out) (arr_cells B1)
  have b1 := b0.trans (k1.below (B := w.heap.size) (by rintro k rfl; omega) b0.size)
  go_wp2_with fail
  go_ret
  exact ⟨retS HE.out, b1⟩

theorem two_int (b : Str) (x : Int) (w : World) (hb : b.length ≤ 100000) (h0 : 0 ≤ x) (hi : x + 1 < b.length) :
    Calls Tryz.prog 397 #[S b, .int .i64 x] w fun e w' => e = .returned (.int .i64 (Md.at2 b x.toNat)) ∧ ∃ n, w' = w.drewN n := by
  obtain ⟨i, rfl⟩ := Int.eq_ofNat_of_zero_le h0
  exact two_any b i w hb (by omega)

theorem Tryz.infoSlot : (Tryz.prog.info? 497).map (fun i => (i.zero, i.size, i.bytes)) = some (some (.agg #[.int .i64 0, .int .i64 0]), 2, 16) := by kernel_rfl
/-- the cells of slots -/
def slotv (l : List Md.Slot) : List Value := l.flatMap fun x => [.int .i64 (x.1 : Int), .int .i64 (x.2 : Int)]
theorem slotv_length (l : List Md.Slot) : (slotv l).length = l.length * 2 := by
  induction l with
  | nil => rfl
  | cons x r ih => rw [slotv, List.flatMap_cons, List.length_append]; rw [slotv] at ih; rw [ih]; simp; omega
theorem slotv_snoc (l : List Md.Slot) (x : Md.Slot) : slotv (l ++ [x]) = slotv l ++ [.int .i64 (x.1 : Int), .int .i64 (x.2 : Int)] := by simp [slotv]
theorem slotv_get (l : List Md.Slot) {i : Nat} (h : i < l.length) : (slotv l)[i * 2]? = some (.int .i64 (l[i].1 : Int)) ∧ (slotv l)[i * 2 + 1]? = some (.int .i64 (l[i].2 : Int)) := by
  induction l generalizing i with
  | nil => simp at h
  | cons x r ih =>
    cases i with
    | zero => simp [slotv]
    | succ i =>
      have := ih (i := i) (by simpa using h)
      simp only [slotv, List.flatMap_cons, List.getElem_cons_succ] at this ⊢
      rw [List.getElem?_append_right (by simp; omega), List.getElem?_append_right (by simp; omega)]
      simp only [List.length_cons, List.length_nil]
      rw [show (i + 1) * 2 - (0 + 1 + 1) = i * 2 by omega, show (i + 1) * 2 + 1 - (0 + 1 + 1) = i * 2 + 1 by omega]
      exact this
def slTo (b : Str) (k : Nat) : List Md.Slot := (List.range k).map fun i => (Md.at2 b (4 + 4 * i), Md.at2 b (6 + 4 * i))
theorem slTo_succ (b : Str) (k : Nat) : slTo b (k + 1) = slTo b k ++ [(Md.at2 b (4 + 4 * k), Md.at2 b (6 + 4 * k))] := by simp [slTo, List.range_succ]
theorem slTo_length (b : Str) (k : Nat) : (slTo b k).length = k := by simp [slTo]

set_option maxRecDepth 100000 in
set_option maxHeartbeats 800000 in
theorem slList_any (b : Str) (w : World) (hb : b.length ≤ 100000) (hn : 4 + 4 * Md.at2 b 0 ≤ b.length) :
    Calls Tryz.prog 395 #[S b] w fun e w' => ∃ u, e = .returned u ∧ w'.ownsRow w.heap.size 497 2 u (Md.at2 b 0) (slotv (Md.slList b)) ∧ Below w.heap.size w w' := by
  obtain ⟨i0, hi, hz0, hz1, hz2⟩ := info_parts Tryz.infoSlot
  go_enter Tryz.func395, Tryz.ntmps395
  go_wp2_with fail
  refine (two_int b 0 _ hb (by omega) (by omega)).mono ?_
  rintro e w1 ⟨rfl, d1, rfl⟩
  have HN : Hid (Md.slList b = slTo b (Md.at2 b 0)) := rfl
  rw [Int.toNat_zero]
  have hN := at2_lt b 0
  generalize hN0 : Md.at2 b 0 = N at hn HN hN
  have HN0 := Lib.hid hN0
  clear hN0
  go_wp2_with fail
  go_loopw [3, 4, 5, 8] (fun u _ _ i wr => ∃ k : Nat, k ≤ N ∧ i = .int .i64 k ∧ wr.ownsRow w.heap.size 497 2 u k (slotv (slTo b k)) ∧ Below w.heap.size w wr) (fun _ _ _ i _ => N - (intOf i).toNat)
  case atStart => exact ⟨0, by omega, rfl, World.ownsRow_nil _ _ _ _, below_drewN (Below.refl _ _) _⟩
  case round =>
    obtain ⟨k, hk, rfl, hown, hbel⟩ := hrel
    by_cases hlt : k < N
    · have hsz := hbel.size
      have HS := Lib.hid (show slotv (slTo b (k + 1)) = slotv (slTo b k) ++ [.int .i64 (Md.at2 b (4 + 4 * k) : Nat), .int .i64 (Md.at2 b (6 + 4 * k) : Nat)] by rw [slTo_succ, slotv_snoc])
      go_wp2_with fail
      refine (two_int b _ _ hb (by omega) (by omega)).mono ?_
      rintro e w2 ⟨rfl, d2, rfl⟩
      rw [show ((4 : Int) + 4 * (k : Int)).toNat = 4 + 4 * k by omega]
      go_wp2_with fail
      refine (two_int b _ _ hb (by omega) (by omega)).mono ?_
      rintro e w2 ⟨rfl, d3, rfl⟩
      rw [show ((4 : Int) + 4 * (k : Int) + 2).toNat = 6 + 4 * k by omega]
      generalize Md.at2 b (4 + 4 * k) = x at HS
      generalize Md.at2 b (6 + 4 * k) = y at HS
      have hown2 : ((wr.drewN d2).drewN d3).ownsRow w.heap.size 497 2 _ k (slotv (slTo b k)) := hown
      have hbel2 := below_drewN (below_drewN hbel d2) d3
      clear hown hbel
      generalize (wr.drewN d2).drewN d3 = wd at hown2 hbel2
      have hsz2 := hbel2.size
      go_wp2_with (at_builtin; refine wpList_append_own _ rfl _ _ 492 rfl w.heap.size 497 i0 (.agg #[.int .i64 0, .int .i64 0]) 2 16 Tryz.underlying492 hi hz0 hz1 hz2 rfl (by decide) _ _ _ rfl (hown2.alloc _) ⟨wd.heap.size, 0, none⟩ 1 1 [.int .i64 x, .int .i64 y] rfl rfl ?c1 ?c2 ?c3 ?c4 ?c5 ?_)
      case c1 => intro j u hj; match j, hj with | 0, hj => simp at hj; subst hj; simp [Addr.add] | 1, hj => simp at hj; subst hj; simp [Addr.add]
      case c2 => intro u hu; simp at hu; rcases hu with rfl | rfl <;> rfl
      case c3 => unfold maxLen; omega
      case c4 => omega
      case c5 => simp; omega
      intro u' w1 hown1 hgrow _
      have hbel1 : Below w.heap.size w w1 := (hbel2.alloc hsz2 _).grown hgrow (by simp; omega) (fun k h => (hown2.lt k h).1)
      clear hgrow hown2 hbel2
      go_wp2
      go_roundw
      case rel => exact ⟨k + 1, by omega, by go_num, by rw [HS.out]; exact hown1, hbel1⟩
      case measure => simp [intOf]; omega
    · have hkl : Hid (k = N) := by show _ = _; omega
      go_wp2
      go_ret
      exact ⟨_, rfl, by rw [HN.out, HN0.out]; rw [hkl.out] at hown; exact hown, hbel⟩
end Go.Proofs.YtkdjhegkcfmkoaaGreat
